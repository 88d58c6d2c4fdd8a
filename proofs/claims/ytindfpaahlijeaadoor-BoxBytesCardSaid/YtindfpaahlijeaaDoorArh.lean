/-
  Boxes handed in: the form of the type read off its fields. By the session itself.
-/
import Derived.Test.YtindfpaahlijeaaDoorArg
namespace Go.Proofs.YtindfpaahlijeaaDoor
open Go.ChangeShapes Go.WideShapes Go.ChangeAt Go.RowKit Go.Vc
section
variable {H : Type} {enc : TypeId × Value → H} {P : Program} {W : World} {base : Nat} {spare : Nat → Bool} {held : Bool}
theorem struct_of {t : TypeId} {l : List (TypeId × Nat)} (hu : (P.underlying t).map flds = some l) (hl : l ≠ []) : ∃ fs, P.underlying t = some (.struct fs) := by
  cases hp : P.underlying t with
  | none => rw [hp] at hu; cases hu
  | some d =>
    rw [hp] at hu
    have hu : flds d = l := by simpa using hu
    cases d with
    | struct fs => exact ⟨fs, rfl⟩
    | _ => exact absurd hu.symm hl
theorem arg_boxz {r : Reach} {t ts ti tl tm tb tu : TypeId} {v : Value} {d : DataW H} {ps : List MemPlace} (hu : (P.underlying t).map flds = some [(ts, 0), (ti, 1), (ti, 2), (tl, 3)]) (ct : P.cellsOf t = 4)
    (hs : P.underlying ts = some .string) (hi : P.underlying ti = some (.int .i64)) (hl : P.underlying tl = some (.slice tm)) (hum : (P.underlying tm).map flds = some [(ti, 0), (ti, 1), (ti, 2), (tb, 3)]) (hb : P.underlying tb = some (.slice tu)) (hu8 : P.underlying tu = some (.int .u8))
    (cs1 : P.cellsOf ts = 1) (ci : P.cellsOf ti = 1) (cl : P.cellsOf tl = 1) (cm : P.cellsOf tm = 4) (cb : P.cellsOf tb = 1) (cu : P.cellsOf tu = 1) (hval : ∃ b0, Value.okWide P W r b0 t v) (h : DataW.Trod enc P W base spare held t v d ps) :
    ∃ b : Bx, RB W v b (fun _ => False) ∧ b.name.size ≤ 9223372036854775807 ∧ b.L.length ≤ 9223372036854775807 ∧ BoxG b := by
  obtain ⟨fs, hs0⟩ := struct_of hu (by simp)
  obtain ⟨b, hr, hg⟩ := arg_box hs0 hu ct hs hi hl hum hb hu8 cs1 ci cl cm cb cu hval h
  refine ⟨b, hr, ?_, ?_, hg⟩
  · have := hg.1; unfold maxLen at this; omega
  · have := hg.2.2.2.1; unfold maxLen at this; omega
end
end Go.Proofs.YtindfpaahlijeaaDoor
