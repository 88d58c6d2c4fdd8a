/-
  What arguments are: structs, slices of structs that hold slices, with their sizes. By the session itself.
-/
import Derived.Test.YtindfpaahlijeaaDoorLaw
namespace Go.Vc
set_option linter.unusedSimpArgs false
set_option linter.unusedVariables false
set_option maxRecDepth 100000
open Go.Deep Go.ChangeShapes Go.WideShapes Go.ChangeAt Go.RowKit Go.ChangeMaps
/-- A struct's fields: type and place. -/
def flds : TypeDesc → List (TypeId × Nat)
  | .struct fs => fs.toList.map fun f => (f.type, f.offset)
  | _ => []
section
variable {H : Type} {enc : TypeId × Value → H} {P : Program} {W : World} {base : Nat} {spare : Nat → Bool} {held : Bool}
theorem trod_flds {t : TypeId} {fuel : Nat} {cs : List Value} {x : DataW H × List MemPlace} {l : List (TypeId × Nat)} (hu : (P.underlying t).map flds = some l) (hne : l ≠ []) (h : DataW.trod enc P W base spare held fuel t cs = some x) :
    cs.length = P.cellsOf t ∧ ∃ n, ∀ (i : Nat) (p : TypeId × Nat), l[i]? = some p → ∃ y, DataW.trod enc P W base spare held n p.1 ((cs.drop p.2).take (P.cellsOf p.1)) = some y := by
  cases hp : P.underlying t with
  | none => rw [hp] at hu; cases hu
  | some d =>
    rw [hp] at hu
    simp only [Option.map_some, Option.some.injEq] at hu
    cases d with
    | struct fs =>
      obtain ⟨xs, n, _, _, hl, hlen, hf⟩ := DataW.trod_struct hp h
      refine ⟨hl, n, fun i p hi => ?_⟩
      subst hu
      simp only [flds, List.getElem?_map, Array.getElem?_toList, Option.map_eq_some_iff] at hi
      obtain ⟨f, hfi, rfl⟩ := hi
      have := hf i f hfi
      have hil : i < xs.length := by rw [hlen]; exact (Array.getElem?_eq_some_iff.1 hfi).1
      rw [List.getElem?_eq_getElem hil] at this
      exact ⟨_, this⟩
    | _ => exact absurd hu.symm hne
theorem flat_get {α : Type} {cells : α → List Value} {K : Nat} (hK : 0 < K) : ∀ (l : List α), (∀ a ∈ l, (cells a).length = K) → ∀ (j : Nat) (u : Value), (l.flatMap cells)[j]? = some u → ∃ i, ∃ hi : i < l.length, ∃ r, r < K ∧ j = i * K + r ∧ (cells l[i])[r]? = some u
  | [], _, j, u, h => by simp at h
  | a :: l, hl, j, u, h => by
    have ha := hl a (List.mem_cons_self ..)
    rw [List.flatMap_cons] at h
    by_cases hj : j < K
    · rw [List.getElem?_append_left (by omega)] at h
      exact ⟨0, by simp, j, hj, by omega, h⟩
    · rw [List.getElem?_append_right (by omega), ha] at h
      obtain ⟨i, hi, r, hr, e, hu⟩ := flat_get hK l (fun b hb => hl b (List.mem_cons_of_mem _ hb)) (j - K) u h
      refine ⟨i + 1, by simpa using hi, r, hr, ?_, by simpa using hu⟩
      rw [Nat.add_mul]; omega
theorem trod_structs {α : Type} {t e : TypeId} {fuel K : Nat} {cs : List Value} {x : DataW H × List MemPlace} (cells : α → List Value) (G : α → Prop) (ht : P.underlying t = some (.slice e)) (ct : P.cellsOf e = K) (hK : 0 < K)
    (he : ∀ n cs y, DataW.trod enc P W base spare held n e cs = some y → ∃ a : α, cs = cells a ∧ (cells a).length = K ∧ G a) (h : DataW.trod enc P W base spare held fuel t cs = some x) :
    ∃ (A : Option Addr) (c : Nat) (l : List α), cs = [.slice A l.length c] ∧ Rd W A (l.flatMap cells) ∧ l.length ≤ c ∧ c ≤ maxLen ∧ ∀ a ∈ l, G a := by
  rcases open_slice ht h with ⟨rfl, _⟩ | ⟨a, len, cap, m, n', D, Pl, rfl, _, h1, h2, h3, _, h4⟩
  · exact ⟨none, 0, [], rfl, Rd.nil _ _, Nat.le_refl _, Nat.zero_le _, fun z h => by cases h⟩
  · have hlen : len ≤ m := by rw [h3]; split <;> omega
    have each : ∀ i, i < len → ∃ x : α, ((cells x).length = K ∧ G x) ∧ ∀ j u, (cells x)[j]? = some u → W.cell? ((a.add (i * K)).add j) = some u := fun i hi' => by
      obtain ⟨cs', hc', ht'⟩ := h4 i (by omega)
      obtain ⟨x, rfl, hl, hg⟩ := he _ _ _ ht'
      rw [ct] at hc'
      refine ⟨x, ⟨hl, hg⟩, fun j u hj => ?_⟩
      have hj5 : j < K := by rw [← hl]; exact (List.getElem?_eq_some_iff.1 hj).1
      rw [(World.cells?_some hc').2.2 j hj5, hj]
    by_cases h0 : len = 0
    · subst h0
      exact ⟨some a, cap, [], rfl, Rd.nil _ _, Nat.zero_le _, h2, fun z h => by cases h⟩
    obtain ⟨x0, ⟨hx0l, hx0g⟩, hx0⟩ := each 0 (by omega)
    have hspot : a.spot = none := by
      have h0 := hx0 0 _ (List.getElem?_eq_getElem (by omega))
      obtain ⟨b, o, s⟩ := a
      cases s with
      | none => rfl
      | some s =>
        simp [World.cell?, Addr.add] at h0
        split at h0 <;> cases h0
    let R : Nat → α := fun i => if hi : i < len then (each i hi).choose else x0
    have hR : ∀ i (hi : i < len), R i = (each i hi).choose := fun i hi => dif_pos hi
    obtain ⟨b, o, s⟩ := a
    obtain rfl : s = none := hspot
    have hRl : ∀ y ∈ (List.range len).map R, (cells y).length = K ∧ G y := fun y hy => by
      obtain ⟨i, hi, rfl⟩ := List.mem_map.1 hy
      have hi := List.mem_range.1 hi
      rw [hR i hi]
      exact (each i hi).choose_spec.1
    refine ⟨some ⟨b, o, none⟩, cap, (List.range len).map R, by simp, fun j u hj => ?_, by simpa using h1, h2, fun y hy => (hRl y hy).2⟩
    obtain ⟨i, hi, r, hr, e, hu⟩ := flat_get hK _ (fun y hy => (hRl y hy).1) j u hj
    have hil : i < len := by simpa using hi
    have e1 : ((List.range len).map R)[i] = (each i hil).choose := by
      simp only [List.getElem_map, List.getElem_range]
      exact hR i hil
    rw [e1] at hu
    have := (each i hil).choose_spec.2 r u hu
    rw [Addr.add_lit, Addr.add_lit] at this
    refine ⟨b, o, rfl, ?_⟩
    rw [e, ← Nat.add_assoc]
    exact this
end
end Go.Vc
namespace Go.Vc
set_option linter.unusedSimpArgs false
set_option linter.unusedVariables false
set_option maxRecDepth 100000
open Go.Deep Go.ChangeShapes Go.WideShapes Go.ChangeAt Go.RowKit Go.ChangeMaps
section
variable {H : Type} {enc : TypeId × Value → H} {P : Program} {W : World} {base : Nat} {spare : Nat → Bool} {held : Bool}
theorem trod_flds_z {t : TypeId} {fuel : Nat} {cs : List Value} {x : DataW H × List MemPlace} {l : List (TypeId × Nat)} (hu : (P.underlying t).map flds = some l) (hne : l ≠ []) (hz : Sz P t x.1) (h : DataW.trod enc P W base spare held fuel t cs = some x) :
    cs.length = P.cellsOf t ∧ ∃ n, ∀ (i : Nat) (p : TypeId × Nat), l[i]? = some p → ∃ y, DataW.trod enc P W base spare held n p.1 ((cs.drop p.2).take (P.cellsOf p.1)) = some y ∧ Sz P p.1 y.1 := by
  cases hp : P.underlying t with
  | none => rw [hp] at hu; cases hu
  | some d =>
    rw [hp] at hu
    simp only [Option.map_some, Option.some.injEq] at hu
    cases d with
    | struct fs =>
      obtain ⟨xs, n, _, hx, hl, hlen, hf⟩ := DataW.trod_struct hp h
      refine ⟨hl, n, fun i p hi => ?_⟩
      subst hu
      simp only [flds, List.getElem?_map, Array.getElem?_toList, Option.map_eq_some_iff] at hi
      obtain ⟨f, hfi, rfl⟩ := hi
      have := hf i f hfi
      have hil : i < xs.length := by rw [hlen]; exact (Array.getElem?_eq_some_iff.1 hfi).1
      rw [List.getElem?_eq_getElem hil] at this
      refine ⟨_, this, fun k hk => hz k ?_⟩
      rw [hx, DataW.weights]
      simp only [hp]
      exact DataW.weights_mem_each (j := i) (t := f.type) (d := xs[i].1) (by simp [hfi]) (by simp [hil]) k hk
    | _ => exact absurd hu.symm hne
theorem trod_structs_z {α : Type} {t e : TypeId} {fuel K : Nat} {cs : List Value} {x : DataW H × List MemPlace} (cells : α → List Value) (G : α → Prop) (ht : P.underlying t = some (.slice e)) (ct : P.cellsOf e = K) (hK : 0 < K) (hz : Sz P t x.1)
    (he : ∀ n cs y, Sz P e y.1 → DataW.trod enc P W base spare held n e cs = some y → ∃ a : α, cs = cells a ∧ (cells a).length = K ∧ G a) (h : DataW.trod enc P W base spare held fuel t cs = some x) :
    ∃ (A : Option Addr) (c : Nat) (l : List α), cs = [.slice A l.length c] ∧ Rd W A (l.flatMap cells) ∧ l.length ≤ c ∧ c ≤ maxLen ∧ ∀ a ∈ l, G a := by
  rcases open_slice ht h with ⟨rfl, _⟩ | ⟨a, len, cap, m, n', D, Pl, rfl, _, h1, h2, h3, rfl, h4⟩
  · exact ⟨none, 0, [], rfl, Rd.nil _ _, Nat.le_refl _, Nat.zero_le _, fun z h => by cases h⟩
  · have hlen : len ≤ m := by rw [h3]; split <;> omega
    have each : ∀ i, i < len → ∃ x : α, ((cells x).length = K ∧ G x) ∧ ∀ j u, (cells x)[j]? = some u → W.cell? ((a.add (i * K)).add j) = some u := fun i hi' => by
      obtain ⟨cs', hc', ht'⟩ := h4 i (by omega)
      have hzi := sz_elem hz ht (d := D i) (List.mem_map.2 ⟨i, by simpa using hi', rfl⟩)
      obtain ⟨x, rfl, hl, hg⟩ := he _ _ _ hzi ht'
      rw [ct] at hc'
      refine ⟨x, ⟨hl, hg⟩, fun j u hj => ?_⟩
      have hj5 : j < K := by rw [← hl]; exact (List.getElem?_eq_some_iff.1 hj).1
      rw [(World.cells?_some hc').2.2 j hj5, hj]
    by_cases h0 : len = 0
    · subst h0
      exact ⟨some a, cap, [], rfl, Rd.nil _ _, Nat.zero_le _, h2, fun z h => by cases h⟩
    obtain ⟨x0, ⟨hx0l, hx0g⟩, hx0⟩ := each 0 (by omega)
    have hspot : a.spot = none := by
      have h0 := hx0 0 _ (List.getElem?_eq_getElem (by omega))
      obtain ⟨b, o, s⟩ := a
      cases s with
      | none => rfl
      | some s =>
        simp [World.cell?, Addr.add] at h0
        split at h0 <;> cases h0
    let R : Nat → α := fun i => if hi : i < len then (each i hi).choose else x0
    have hR : ∀ i (hi : i < len), R i = (each i hi).choose := fun i hi => dif_pos hi
    obtain ⟨b, o, s⟩ := a
    obtain rfl : s = none := hspot
    have hRl : ∀ y ∈ (List.range len).map R, (cells y).length = K ∧ G y := fun y hy => by
      obtain ⟨i, hi, rfl⟩ := List.mem_map.1 hy
      have hi := List.mem_range.1 hi
      rw [hR i hi]
      exact (each i hi).choose_spec.1
    refine ⟨some ⟨b, o, none⟩, cap, (List.range len).map R, by simp, fun j u hj => ?_, by simpa using h1, h2, fun y hy => (hRl y hy).2⟩
    obtain ⟨i, hi, r, hr, e, hu⟩ := flat_get hK _ (fun y hy => (hRl y hy).1) j u hj
    have hil : i < len := by simpa using hi
    have e1 : ((List.range len).map R)[i] = (each i hil).choose := by
      simp only [List.getElem_map, List.getElem_range]
      exact hR i hil
    rw [e1] at hu
    have := (each i hil).choose_spec.2 r u hu
    rw [Addr.add_lit, Addr.add_lit] at this
    refine ⟨b, o, rfl, ?_⟩
    rw [e, ← Nat.add_assoc]
    exact this
end
end Go.Vc
