/-
  FrameRows: the row of its statement proved, out of the walk. By the session itself.
-/
import Derived.Test.YtdhgfljpnjneeaaRows
import Derived.Test.YtdhgfljpnjneeaaLaw
import Derived.Test.YtdhgfljpnjneeaaFrmL
namespace Go.Proofs.Ytdhgfljpnjneeaa
set_option linter.unusedSimpArgs false
set_option linter.unusedVariables false
open Go.ChangeShapes Go.WideShapes Go.ChangeAt Go.RowKit Go.Vc
set_option maxRecDepth 100000 in
theorem frameRows_lifted (os : Os) (started : os.Started) (H : Type) (enc : TypeId × Value → H) :
    ReturnsInHanded {} Try.checked os 6 .any (Rows.frameRowsSpec.pre6 enc Try.prog Try.f6 Rows.frameRowsRow.domain false) (Rows.frameRowsSpec.post enc Try.prog Try.f6 false true false false) := by
  refine law_row (C := Try.checked) (t := 4) (by kernel_rfl) started (by kernel_rfl) Try.func6
    (ChangeSpec.witness6 (enc := enc) (C := Try.checked) false ⟨#[], #[.slice none 0 0, .slice none 0 0], []⟩ 8 (by kernel_rfl) (by kernel_rfl) (by kernel_rfl) (by kernel_rfl)) rfl (by kernel_rfl) (by kernel_rfl) (by kernel_rfl) (by kernel_rfl) ?_ ?_
  · intro ds hd
    match ds, hd with
    | [_, _], _ => rfl
  · intro W args ds ps hA0 hval0
    have hA : DataW.TrodAll enc Try.prog W 0 (fun _ => true) true Try.f6.params.toList args.toList ds ps := hA0
    have hval : ∀ (j : Nat) t v, Try.f6.params[j]? = some t → args[j]? = some v → ∃ base, Value.okWide Try.prog W .any base t v := hval0
    clear hA0 hval0
    rw [Try.params6] at hA hval
    obtain ⟨v0, v1, d0, d1, p0, p1, rfl, rfl, rfl, h0, h1⟩ := trodAll_two hA
    obtain ⟨A0, c0, x0, rfl, r0, b0, m0, l0⟩ := arg_rows (r := .any) (by kernel_rfl : Try.prog.underlying 30 = some (.slice 22)) (by kernel_rfl : Try.prog.underlying 22 = some (.slice 5)) (by kernel_rfl : Try.prog.underlying 5 = some (.int .u8)) (by kernel_rfl) (by kernel_rfl) (hval 0 30 v0 rfl rfl) h0
    obtain ⟨A1, c1, x1, rfl, r1, b1, m1⟩ := arg_bytes (r := .any) (by kernel_rfl : Try.prog.underlying 22 = some (.slice 5)) (by kernel_rfl : Try.prog.underlying 5 = some (.int .u8)) (by kernel_rfl) (hval 1 22 v1 rfl rfl) h1
    exact frows_law x0 x1 A0 A1 c0 c1 W r0 b0 r1 b1
theorem frameRows_holds : Rows.FrameRowsSaid :=
  OpenClaim.holds_of_wide 6 Try.f6 rfl rfl rfl rfl rfl rfl rfl ⟨rfl, rfl, rfl, rfl, rfl⟩ rfl rfl rfl rfl rfl (by kernel_rfl) Try.func6 (by kernel_rfl)
    (of_decide_eq_true (by kernel_rfl)) (by unfold Func.isWrapper; rw [if_neg (of_decide_eq_false (by kernel_rfl))]; exact ⟨rfl, rfl⟩)
    (fun os started H enc _ => frameRows_lifted os started H enc)
#print axioms frameRows_holds
end Go.Proofs.Ytdhgfljpnjneeaa
