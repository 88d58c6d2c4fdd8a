/-
  OctetRows: the row of its statement proved, out of the walk. By the session itself.
-/
import Derived.Test.YtigakpfdahjkdaaRows
import Derived.Test.YtigakpfdahjkdaaLaw
import Derived.Test.YtigakpfdahjkdaaOctM
namespace Go.Proofs.Ytigakpfdahjkdaa
set_option linter.unusedSimpArgs false
set_option linter.unusedVariables false
open Go.ChangeShapes Go.WideShapes Go.ChangeAt Go.RowKit Go.Vc

set_option maxRecDepth 100000 in
theorem octetRows_lifted (os : Os) (started : os.Started) (H : Type) (enc : TypeId × Value → H) :
    ReturnsInHanded {} Try.checked os 8 .any (Rows.octetRowsSpec.pre6 enc Try.prog Try.f8 Rows.octetRowsRow.domain false) (Rows.octetRowsSpec.post enc Try.prog Try.f8 false true false false) := by
  refine law_row (C := Try.checked) (t := 4) (by kernel_rfl) started (by kernel_rfl) Try.func8
    (ChangeSpec.witness6 (enc := enc) (C := Try.checked) false ⟨#[], #[.slice none 0 0, .slice none 0 0], []⟩ 8 (by kernel_rfl) (by kernel_rfl) (by kernel_rfl) (by kernel_rfl)) rfl (by kernel_rfl) (by kernel_rfl) (by kernel_rfl) (by kernel_rfl) ?_ ?_
  · intro ds hd
    match ds, hd with
    | [_, _], _ => rfl
  · intro W args ds ps hA0 hval0
    have hA : DataW.TrodAll enc Try.prog W 0 (fun _ => true) true Try.f8.params.toList args.toList ds ps := hA0
    have hval : ∀ (j : Nat) t v, Try.f8.params[j]? = some t → args[j]? = some v → ∃ base, Value.okWide Try.prog W .any base t v := hval0
    clear hA0 hval0
    rw [Try.params8] at hA hval
    obtain ⟨v0, v1, d0, d1, p0, p1, rfl, rfl, rfl, h0, h1⟩ := trodAll_two hA
    obtain ⟨A, c, ps, rfl, hr, hc, _, _⟩ := arg_rows (r := .any) (by kernel_rfl : Try.prog.underlying 49 = some (.slice 34)) (by kernel_rfl : Try.prog.underlying 34 = some (.slice 5)) (by kernel_rfl : Try.prog.underlying 5 = some (.int .u8)) (by kernel_rfl) (by kernel_rfl) (hval 0 49 v0 rfl rfl) h0; obtain ⟨B, d, raw, rfl, hr2, hc2, _⟩ := arg_bytes (r := .any) (by kernel_rfl : Try.prog.underlying 34 = some (.slice 5)) (by kernel_rfl : Try.prog.underlying 5 = some (.int .u8)) (by kernel_rfl) (hval 1 34 v1 rfl rfl) h1; exact rows_law ps raw A B c d W hr hc hr2 hc2
theorem octetRows_holds : Rows.OctetRowsSaid :=
  OpenClaim.holds_of_wide 8 Try.f8 rfl rfl rfl rfl rfl rfl rfl ⟨rfl, rfl, rfl, rfl, rfl⟩ rfl rfl rfl rfl rfl (by kernel_rfl) Try.func8 (by kernel_rfl)
    (of_decide_eq_true (by kernel_rfl)) (by unfold Func.isWrapper; rw [if_neg (of_decide_eq_false (by kernel_rfl))]; exact ⟨rfl, rfl⟩)
    (fun os started H enc _ => octetRows_lifted os started H enc)
#print axioms octetRows_holds
end Go.Proofs.Ytigakpfdahjkdaa
