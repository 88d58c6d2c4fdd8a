/-
  LockPlays: the row of its statement proved, out of the walk; what a slice of acts reads as. By the session itself.
-/
import Derived.Test.YtfdbnlgokaapnaaRows
import Derived.Test.YtfdbnlgokaapnaaLaw
import Derived.Test.YtfdbnlgokaapnaaLkI
namespace Go.Proofs.Ytfdbnlgokaapnaa
set_option linter.unusedSimpArgs false
set_option linter.unusedVariables false
set_option maxRecDepth 100000
open Go.Deep Go.ChangeShapes Go.WideShapes Go.ChangeAt Go.RowKit Go.Vc
/-- A struct's fields: type and place. -/
def flds : TypeDesc → List (TypeId × Nat)
  | .struct fs => fs.toList.map fun f => (f.type, f.offset)
  | _ => []
section
variable {H : Type} {enc : TypeId × Value → H} {P : Program} {W : World} {base : Nat} {spare : Nat → Bool} {held : Bool}
theorem trod_flds {t : TypeId} {fuel : Nat} {cs : List Value} {x : DataW H × List MemPlace} {l : List (TypeId × Nat)} (hu : (P.underlying t).map flds = some l) (hne : l ≠ []) (h : DataW.trod enc P W base spare held fuel t cs = some x) :
    cs.length = P.cellsOf t ∧ ∃ n, ∀ (i : Nat) (p : TypeId × Nat), l[i]? = some p → ∃ y, DataW.trod enc P W base spare held n p.1 ((cs.drop p.2).take (P.cellsOf p.1)) = some y := by
  cases hp : P.underlying t with
  | none => rw [hp] at hu; cases hu
  | some d =>
    rw [hp] at hu
    simp only [Option.map_some, Option.some.injEq] at hu
    cases d with
    | struct fs =>
      obtain ⟨xs, n, _, _, hl, hlen, hf⟩ := DataW.trod_struct hp h
      refine ⟨hl, n, fun i p hi => ?_⟩
      subst hu
      simp only [flds, List.getElem?_map, Array.getElem?_toList, Option.map_eq_some_iff] at hi
      obtain ⟨f, hfi, rfl⟩ := hi
      have := hf i f hfi
      have hil : i < xs.length := by rw [hlen]; exact (Array.getElem?_eq_some_iff.1 hfi).1
      rw [List.getElem?_eq_getElem hil] at this
      exact ⟨_, this⟩
    | _ => exact absurd hu.symm hne
theorem trod_act {t ti ts : TypeId} {fuel : Nat} {cs : List Value} {x : DataW H × List MemPlace} (hu : (P.underlying t).map flds = some [(ti, 0), (ts, 1), (ti, 2), (ti, 3), (ti, 4)]) (hi : P.underlying ti = some (.int .i64)) (hs : P.underlying ts = some .string)
    (ci : P.cellsOf ti = 1) (cs1 : P.cellsOf ts = 1) (ct : P.cellsOf t = 5) (h : DataW.trod enc P W base spare held fuel t cs = some x) : ∃ a : Act, cs = a.cells := by
  obtain ⟨hl, n, hf⟩ := trod_flds hu (by simp) h
  rw [ct] at hl
  match cs, hl with
  | [v0, v1, v2, v3, v4], _ =>
    obtain ⟨y0, h0⟩ := hf 0 _ rfl
    obtain ⟨y1, h1⟩ := hf 1 _ rfl
    obtain ⟨y2, h2⟩ := hf 2 _ rfl
    obtain ⟨y3, h3⟩ := hf 3 _ rfl
    obtain ⟨y4, h4⟩ := hf 4 _ rfl
    simp only [ci, cs1] at h0 h1 h2 h3 h4
    obtain ⟨n0, e0, _, _⟩ := DataW.trod_int hi h0
    obtain ⟨s1, e1, _, _⟩ := DataW.trod_string hs h1
    obtain ⟨n2, e2, _, _⟩ := DataW.trod_int hi h2
    obtain ⟨n3, e3, _, _⟩ := DataW.trod_int hi h3
    obtain ⟨n4, e4, _, _⟩ := DataW.trod_int hi h4
    simp at e0 e1 e2 e3 e4
    subst e0; subst e1; subst e2; subst e3; subst e4
    exact ⟨⟨n0, s1, n2, n3, n4⟩, rfl⟩
theorem arg_acts {r : Reach} {t e ti ts : TypeId} {v : Value} {d : DataW H} {ps : List MemPlace} (ht : P.underlying t = some (.slice e)) (hu : (P.underlying e).map flds = some [(ti, 0), (ts, 1), (ti, 2), (ti, 3), (ti, 4)]) (hi : P.underlying ti = some (.int .i64)) (hs : P.underlying ts = some .string)
    (ci : P.cellsOf ti = 1) (cs1 : P.cellsOf ts = 1) (ct : P.cellsOf e = 5) (hval : ∃ b0, Value.okWide P W r b0 t v) (h : DataW.Trod enc P W base spare held t v d ps) :
    ∃ (A : Option Addr) (c : Nat) (l : List Act), v = .slice A l.length c ∧ Acts W A l := by
  obtain ⟨_, hval⟩ := hval
  obtain ⟨A, n, c, rfl⟩ := okWide_slice ht hval
  obtain ⟨fuel, hf⟩ := h
  rcases open_slice ht hf with ⟨e, _⟩ | ⟨a, len, cap, m, n', D, Pl, e, _, h1, h2, h3, _, h4⟩
  · simp only [Value.cells, List.cons.injEq, and_true] at e
    exact ⟨none, 0, [], e, fun i h => by cases h⟩
  · simp only [Value.cells, List.cons.injEq, and_true] at e
    have hlen : len ≤ m := by rw [h3]; split <;> omega
    have each : ∀ i, i < len → ∃ x : Act, ∀ j u, x.cells[j]? = some u → W.cell? ((a.add (i * 5)).add j) = some u := fun i hi' => by
      obtain ⟨cs', hc', ht'⟩ := h4 i (by omega)
      obtain ⟨x, rfl⟩ := trod_act hu hi hs ci cs1 ct ht'
      rw [ct] at hc'
      refine ⟨x, fun j u hj => ?_⟩
      have hj5 : j < 5 := (List.getElem?_eq_some_iff.1 hj).1
      rw [(World.cells?_some hc').2.2 j hj5, hj]
    have hspot : 0 < len → a.spot = none := fun hl => by
      obtain ⟨x, hx⟩ := each 0 hl
      have h0 := hx 0 _ rfl
      obtain ⟨b, o, s⟩ := a
      cases s with
      | none => rfl
      | some s =>
        simp [World.cell?, Addr.add] at h0
        split at h0 <;> cases h0
    let R : Nat → Act := fun i => if hi : i < len then (each i hi).choose else ⟨0, ⟨#[]⟩, 0, 0, 0⟩
    refine ⟨some a, cap, (List.range len).map R, by rw [e]; simp, fun i hi' => ?_⟩
    have hil : i < len := by simpa using hi'
    have hs := hspot (by omega)
    obtain ⟨b, o, s⟩ := a
    obtain rfl : s = none := hs
    refine ⟨b, o, rfl, fun j u hj => ?_⟩
    have e1 : ((List.range len).map R)[i] = (each i hil).choose := by
      simp only [List.getElem_map, List.getElem_range]
      exact dif_pos hil
    rw [e1] at hj
    have := (each i hil).choose_spec j u hj
    rw [Addr.add_lit, Addr.add_lit] at this
    exact this
end

set_option maxRecDepth 100000 in
theorem lockPlays_lifted (os : Os) (started : os.Started) (H : Type) (enc : TypeId × Value → H) :
    ReturnsInHanded {} Try.checked os 4 .any (Rows.lockPlaysSpec.pre6 enc Try.prog Try.f4 Rows.lockPlaysRow.domain false) (Rows.lockPlaysSpec.post enc Try.prog Try.f4 false true false false) := by
  refine law_row (C := Try.checked) (t := 4) (by kernel_rfl) started (by kernel_rfl) Try.func4
    (ChangeSpec.witness6 (enc := enc) (C := Try.checked) false ⟨#[], #[.slice none 0 0], []⟩ 8 (by kernel_rfl) (by kernel_rfl) (by kernel_rfl) (by kernel_rfl)) rfl (by kernel_rfl) (by kernel_rfl) (by kernel_rfl) (by kernel_rfl) ?_ ?_
  · intro ds hd
    match ds, hd with
    | [_], _ => rfl
  · intro W args ds ps hA0 hval0
    have hA : DataW.TrodAll enc Try.prog W 0 (fun _ => true) true Try.f4.params.toList args.toList ds ps := hA0
    have hval : ∀ (j : Nat) t v, Try.f4.params[j]? = some t → args[j]? = some v → ∃ base, Value.okWide Try.prog W .any base t v := hval0
    clear hA0 hval0
    rw [Try.params4] at hA hval
    obtain ⟨v0, d0, rfl, rfl, h0⟩ := trodAll_one hA
    obtain ⟨A, c, l, rfl, h⟩ := arg_acts (r := .any) (by kernel_rfl : Try.prog.underlying 30 = some (.slice 38)) (by kernel_rfl : (Try.prog.underlying 38).map flds = some [(3, 0), (9, 1), (3, 2), (3, 3), (3, 4)]) (by kernel_rfl : Try.prog.underlying 3 = some (.int .i64)) (by kernel_rfl) (by kernel_rfl) (by kernel_rfl) (by kernel_rfl) (hval 0 30 v0 rfl rfl) h0; exact plays_law l A c W h
theorem lockPlays_holds : Rows.LockPlaysSaid :=
  OpenClaim.holds_of_wide 4 Try.f4 rfl rfl rfl rfl rfl rfl rfl ⟨rfl, rfl, rfl, rfl, rfl⟩ rfl rfl rfl rfl rfl (by kernel_rfl) Try.func4 (by kernel_rfl)
    (of_decide_eq_true (by kernel_rfl)) (by unfold Func.isWrapper; rw [if_neg (of_decide_eq_false (by kernel_rfl))]; exact ⟨rfl, rfl⟩)
    (fun os started H enc _ => lockPlays_lifted os started H enc)
#print axioms lockPlays_holds
end Go.Proofs.Ytfdbnlgokaapnaa
