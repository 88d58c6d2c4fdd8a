/-
  What arguments are: structs, slices of structs that hold slices. By the session itself.
-/
import Derived.Test.YtindfpaahlijeaaLaw
import Derived.Test.YtindfpaahlijeaaBxA
namespace Go.Vc
set_option linter.unusedSimpArgs false
set_option linter.unusedVariables false
set_option maxRecDepth 100000
open Go.Deep Go.ChangeShapes Go.WideShapes Go.ChangeAt Go.RowKit Go.ChangeMaps
/-- A struct's fields: type and place. -/
def flds : TypeDesc → List (TypeId × Nat)
  | .struct fs => fs.toList.map fun f => (f.type, f.offset)
  | _ => []
section
variable {H : Type} {enc : TypeId × Value → H} {P : Program} {W : World} {base : Nat} {spare : Nat → Bool} {held : Bool}
theorem trod_flds {t : TypeId} {fuel : Nat} {cs : List Value} {x : DataW H × List MemPlace} {l : List (TypeId × Nat)} (hu : (P.underlying t).map flds = some l) (hne : l ≠ []) (h : DataW.trod enc P W base spare held fuel t cs = some x) :
    cs.length = P.cellsOf t ∧ ∃ n, ∀ (i : Nat) (p : TypeId × Nat), l[i]? = some p → ∃ y, DataW.trod enc P W base spare held n p.1 ((cs.drop p.2).take (P.cellsOf p.1)) = some y := by
  cases hp : P.underlying t with
  | none => rw [hp] at hu; cases hu
  | some d =>
    rw [hp] at hu
    simp only [Option.map_some, Option.some.injEq] at hu
    cases d with
    | struct fs =>
      obtain ⟨xs, n, _, _, hl, hlen, hf⟩ := DataW.trod_struct hp h
      refine ⟨hl, n, fun i p hi => ?_⟩
      subst hu
      simp only [flds, List.getElem?_map, Array.getElem?_toList, Option.map_eq_some_iff] at hi
      obtain ⟨f, hfi, rfl⟩ := hi
      have := hf i f hfi
      have hil : i < xs.length := by rw [hlen]; exact (Array.getElem?_eq_some_iff.1 hfi).1
      rw [List.getElem?_eq_getElem hil] at this
      exact ⟨_, this⟩
    | _ => exact absurd hu.symm hne
theorem flat_get {α : Type} {cells : α → List Value} {K : Nat} (hK : 0 < K) : ∀ (l : List α), (∀ a ∈ l, (cells a).length = K) → ∀ (j : Nat) (u : Value), (l.flatMap cells)[j]? = some u → ∃ i, ∃ hi : i < l.length, ∃ r, r < K ∧ j = i * K + r ∧ (cells l[i])[r]? = some u
  | [], _, j, u, h => by simp at h
  | a :: l, hl, j, u, h => by
    have ha := hl a (List.mem_cons_self ..)
    rw [List.flatMap_cons] at h
    by_cases hj : j < K
    · rw [List.getElem?_append_left (by omega)] at h
      exact ⟨0, by simp, j, hj, by omega, h⟩
    · rw [List.getElem?_append_right (by omega), ha] at h
      obtain ⟨i, hi, r, hr, e, hu⟩ := flat_get hK l (fun b hb => hl b (List.mem_cons_of_mem _ hb)) (j - K) u h
      refine ⟨i + 1, by simpa using hi, r, hr, ?_, by simpa using hu⟩
      rw [Nat.add_mul]; omega
theorem trod_structs {α : Type} {t e : TypeId} {fuel K : Nat} {cs : List Value} {x : DataW H × List MemPlace} (cells : α → List Value) (G : α → Prop) (ht : P.underlying t = some (.slice e)) (ct : P.cellsOf e = K) (hK : 0 < K)
    (he : ∀ n cs y, DataW.trod enc P W base spare held n e cs = some y → ∃ a : α, cs = cells a ∧ (cells a).length = K ∧ G a) (h : DataW.trod enc P W base spare held fuel t cs = some x) :
    ∃ (A : Option Addr) (c : Nat) (l : List α), cs = [.slice A l.length c] ∧ Rd W A (l.flatMap cells) ∧ l.length ≤ c ∧ c ≤ maxLen ∧ ∀ a ∈ l, G a := by
  rcases open_slice ht h with ⟨rfl, _⟩ | ⟨a, len, cap, m, n', D, Pl, rfl, _, h1, h2, h3, _, h4⟩
  · exact ⟨none, 0, [], rfl, Rd.nil _ _, Nat.le_refl _, Nat.zero_le _, fun z h => by cases h⟩
  · have hlen : len ≤ m := by rw [h3]; split <;> omega
    have each : ∀ i, i < len → ∃ x : α, ((cells x).length = K ∧ G x) ∧ ∀ j u, (cells x)[j]? = some u → W.cell? ((a.add (i * K)).add j) = some u := fun i hi' => by
      obtain ⟨cs', hc', ht'⟩ := h4 i (by omega)
      obtain ⟨x, rfl, hl, hg⟩ := he _ _ _ ht'
      rw [ct] at hc'
      refine ⟨x, ⟨hl, hg⟩, fun j u hj => ?_⟩
      have hj5 : j < K := by rw [← hl]; exact (List.getElem?_eq_some_iff.1 hj).1
      rw [(World.cells?_some hc').2.2 j hj5, hj]
    by_cases h0 : len = 0
    · subst h0
      exact ⟨some a, cap, [], rfl, Rd.nil _ _, Nat.zero_le _, h2, fun z h => by cases h⟩
    obtain ⟨x0, ⟨hx0l, hx0g⟩, hx0⟩ := each 0 (by omega)
    have hspot : a.spot = none := by
      have h0 := hx0 0 _ (List.getElem?_eq_getElem (by omega))
      obtain ⟨b, o, s⟩ := a
      cases s with
      | none => rfl
      | some s =>
        simp [World.cell?, Addr.add] at h0
        split at h0 <;> cases h0
    let R : Nat → α := fun i => if hi : i < len then (each i hi).choose else x0
    have hR : ∀ i (hi : i < len), R i = (each i hi).choose := fun i hi => dif_pos hi
    obtain ⟨b, o, s⟩ := a
    obtain rfl : s = none := hspot
    have hRl : ∀ y ∈ (List.range len).map R, (cells y).length = K ∧ G y := fun y hy => by
      obtain ⟨i, hi, rfl⟩ := List.mem_map.1 hy
      have hi := List.mem_range.1 hi
      rw [hR i hi]
      exact (each i hi).choose_spec.1
    refine ⟨some ⟨b, o, none⟩, cap, (List.range len).map R, by simp, fun j u hj => ?_, by simpa using h1, h2, fun y hy => (hRl y hy).2⟩
    obtain ⟨i, hi, r, hr, e, hu⟩ := flat_get hK _ (fun y hy => (hRl y hy).1) j u hj
    have hil : i < len := by simpa using hi
    have e1 : ((List.range len).map R)[i] = (each i hil).choose := by
      simp only [List.getElem_map, List.getElem_range]
      exact hR i hil
    rw [e1] at hu
    have := (each i hil).choose_spec.2 r u hu
    rw [Addr.add_lit, Addr.add_lit] at this
    refine ⟨b, o, rfl, ?_⟩
    rw [e, ← Nat.add_assoc]
    exact this
end
end Go.Vc
namespace Go.Proofs.Ytindfpaahlijeaa
set_option linter.unusedSimpArgs false
set_option linter.unusedVariables false
set_option maxRecDepth 100000
open Go.Vc Go.Deep Go.ChangeShapes Go.WideShapes Go.ChangeAt Go.RowKit Go.ChangeMaps
section
variable {H : Type} {enc : TypeId × Value → H} {P : Program} {W : World} {base : Nat} {spare : Nat → Bool} {held : Bool}
def I64 (n : Int) : Prop := -9223372036854775808 ≤ n ∧ n ≤ 9223372036854775807
/-- A message as an argument has it. -/
def MsgG (W : World) (p : Msg × Value) : Prop := RdB W p.2 p.1.body (fun _ => False) ∧ p.1.body.length ≤ maxLen ∧ I64 p.1.uid ∧ I64 p.1.flags ∧ I64 p.1.date
theorem trod_msg {t ti tb tu : TypeId} {fuel : Nat} {cs : List Value} {x : DataW H × List MemPlace} (hu : (P.underlying t).map flds = some [(ti, 0), (ti, 1), (ti, 2), (tb, 3)]) (hi : P.underlying ti = some (.int .i64)) (hb : P.underlying tb = some (.slice tu)) (hu8 : P.underlying tu = some (.int .u8))
    (ci : P.cellsOf ti = 1) (cb : P.cellsOf tb = 1) (cu : P.cellsOf tu = 1) (ct : P.cellsOf t = 4) (h : DataW.trod enc P W base spare held fuel t cs = some x) : ∃ p : Msg × Value, cs = [i64 p.1.uid, i64 p.1.flags, i64 p.1.date, p.2] ∧ ([i64 p.1.uid, i64 p.1.flags, i64 p.1.date, p.2] : List Value).length = 4 ∧ MsgG W p := by
  obtain ⟨hl, n, hf⟩ := trod_flds hu (by simp) h
  rw [ct] at hl
  match cs, hl with
  | [v0, v1, v2, v3], _ =>
    obtain ⟨y0, h0⟩ := hf 0 _ rfl
    obtain ⟨y1, h1⟩ := hf 1 _ rfl
    obtain ⟨y2, h2⟩ := hf 2 _ rfl
    obtain ⟨y3, h3⟩ := hf 3 _ rfl
    simp only [ci, cb] at h0 h1 h2 h3
    obtain ⟨n0, e0, _, w0⟩ := DataW.trod_int hi h0
    obtain ⟨n1, e1, _, w1⟩ := DataW.trod_int hi h1
    obtain ⟨n2, e2, _, w2⟩ := DataW.trod_int hi h2
    obtain ⟨A, c, xs, e3, hr, hc, hm⟩ := trod_bytes hb hu8 cu h3
    simp at e0 e1 e2 e3
    subst e0; subst e1; subst e2; subst e3
    exact ⟨(⟨n0, n1, n2, xs⟩, .slice A xs.length c), rfl, rfl, ⟨A, c, rfl, hr, fun _ _ _ h => h, hc⟩, Nat.le_trans hc hm, i64_wf w0, i64_wf w1, i64_wf w2⟩
/-- A box as an argument has it. -/
def BoxG (b : Bx) : Prop := b.name.size ≤ maxLen ∧ I64 b.val ∧ I64 b.next ∧ b.L.length ≤ maxLen ∧ ∀ m ∈ b.L, m.body.length ≤ maxLen ∧ I64 m.uid ∧ I64 m.flags ∧ I64 m.date
theorem arg_box {r : Reach} {t ts ti tl tm tb tu : TypeId} {fs : Array Field} {v : Value} {d : DataW H} {ps : List MemPlace} (hs0 : P.underlying t = some (.struct fs)) (hu : (P.underlying t).map flds = some [(ts, 0), (ti, 1), (ti, 2), (tl, 3)]) (ct : P.cellsOf t = 4)
    (hs : P.underlying ts = some .string) (hi : P.underlying ti = some (.int .i64)) (hl : P.underlying tl = some (.slice tm)) (hum : (P.underlying tm).map flds = some [(ti, 0), (ti, 1), (ti, 2), (tb, 3)]) (hb : P.underlying tb = some (.slice tu)) (hu8 : P.underlying tu = some (.int .u8))
    (cs1 : P.cellsOf ts = 1) (ci : P.cellsOf ti = 1) (cl : P.cellsOf tl = 1) (cm : P.cellsOf tm = 4) (cb : P.cellsOf tb = 1) (cu : P.cellsOf tu = 1) (hval : ∃ b0, Value.okWide P W r b0 t v) (h : DataW.Trod enc P W base spare held t v d ps) :
    ∃ b : Bx, RB W v b (fun _ => False) ∧ BoxG b := by
  obtain ⟨_, hval⟩ := hval
  obtain ⟨cs, rfl, hsz⟩ := okWide_struct hs0 hval
  obtain ⟨fuel, hf⟩ := h
  obtain ⟨hlen, n, hfl⟩ := trod_flds hu (by simp) hf
  obtain ⟨cs⟩ := cs
  have hcs : (Value.agg ⟨cs⟩).cells.toList = cs := rfl
  rw [hcs] at hlen hfl
  rw [ct] at hlen
  match cs, hlen with
  | [v0, v1, v2, v3], _ =>
    obtain ⟨y0, h0⟩ := hfl 0 _ rfl
    obtain ⟨y1, h1⟩ := hfl 1 _ rfl
    obtain ⟨y2, h2⟩ := hfl 2 _ rfl
    obtain ⟨y3, h3⟩ := hfl 3 _ rfl
    simp only [ci, cs1, cl] at h0 h1 h2 h3
    obtain ⟨s0, e0, _, ws⟩ := DataW.trod_string hs h0
    obtain ⟨n1, e1, _, w1⟩ := DataW.trod_int hi h1
    obtain ⟨n2, e2, _, w2⟩ := DataW.trod_int hi h2
    obtain ⟨A, c, q, e3, hr, hc, hm, hG⟩ := trod_structs (α := Msg × Value) (fun p => [i64 p.1.uid, i64 p.1.flags, i64 p.1.date, p.2]) (MsgG W) hl cm (by omega) (fun n cs y ht => trod_msg hum hi hb hu8 ci cb cu cm ht) h3
    simp at e0 e1 e2 e3
    subst e0; subst e1; subst e2; subst e3
    refine ⟨⟨s0, n1, n2, q.map Prod.fst⟩, ⟨A, c, q, by simp, rfl, by simpa using hc, hr, fun _ _ _ h => h, fun p hp => (hG p hp).1⟩, ws, i64_wf w1, i64_wf w2, by simpa using Nat.le_trans hc hm, fun m hm' => ?_⟩
    obtain ⟨p, hp, rfl⟩ := List.mem_map.1 hm'
    exact (hG p hp).2
end
end Go.Proofs.Ytindfpaahlijeaa
