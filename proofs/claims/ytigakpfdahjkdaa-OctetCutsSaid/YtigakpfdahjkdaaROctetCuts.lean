/-
  OctetCuts: the row of its statement proved, out of the walk. By the session itself.
-/
import Derived.Test.YtigakpfdahjkdaaRows
import Derived.Test.YtigakpfdahjkdaaLaw
import Derived.Test.YtigakpfdahjkdaaOctN
namespace Go.Proofs.Ytigakpfdahjkdaa
set_option linter.unusedSimpArgs false
set_option linter.unusedVariables false
open Go.ChangeShapes Go.WideShapes Go.ChangeAt Go.RowKit Go.Vc

set_option maxRecDepth 100000 in
theorem octetCuts_lifted (os : Os) (started : os.Started) (H : Type) (enc : TypeId × Value → H) :
    ReturnsInHanded {} Try.checked os 9 .any (Rows.octetCutsSpec.pre6 enc Try.prog Try.f9 Rows.octetCutsRow.domain false) (Rows.octetCutsSpec.post enc Try.prog Try.f9 false true false false) := by
  refine law_row (C := Try.checked) (t := 4) (by kernel_rfl) started (by kernel_rfl) Try.func9
    (ChangeSpec.witness6 (enc := enc) (C := Try.checked) false ⟨#[], #[.slice none 0 0, .int .i64 0], []⟩ 8 (by kernel_rfl) (by kernel_rfl) (by kernel_rfl) (by kernel_rfl)) rfl (by kernel_rfl) (by kernel_rfl) (by kernel_rfl) (by kernel_rfl) ?_ ?_
  · intro ds hd
    match ds, hd with
    | [_, _], _ => rfl
  · intro W args ds ps hA0 hval0
    have hA : DataW.TrodAll enc Try.prog W 0 (fun _ => true) true Try.f9.params.toList args.toList ds ps := hA0
    have hval : ∀ (j : Nat) t v, Try.f9.params[j]? = some t → args[j]? = some v → ∃ base, Value.okWide Try.prog W .any base t v := hval0
    clear hA0 hval0
    rw [Try.params9] at hA hval
    obtain ⟨v0, v1, d0, d1, p0, p1, rfl, rfl, rfl, h0, h1⟩ := trodAll_two hA
    obtain ⟨A, c, ps, rfl, hr, hc, _, _⟩ := arg_rows (r := .any) (by kernel_rfl : Try.prog.underlying 49 = some (.slice 34)) (by kernel_rfl : Try.prog.underlying 34 = some (.slice 5)) (by kernel_rfl : Try.prog.underlying 5 = some (.int .u8)) (by kernel_rfl) (by kernel_rfl) (hval 0 49 v0 rfl rfl) h0; obtain ⟨z, rfl, hz⟩ := arg_int (r := .any) (by kernel_rfl : Try.prog.underlying 3 = some (.int .i64)) (hval 1 3 v1 rfl rfl) h1; exact cuts_law ps z A c W hr hc
theorem octetCuts_holds : Rows.OctetCutsSaid :=
  OpenClaim.holds_of_wide 9 Try.f9 rfl rfl rfl rfl rfl rfl rfl ⟨rfl, rfl, rfl, rfl, rfl⟩ rfl rfl rfl rfl rfl (by kernel_rfl) Try.func9 (by kernel_rfl)
    (of_decide_eq_true (by kernel_rfl)) (by unfold Func.isWrapper; rw [if_neg (of_decide_eq_false (by kernel_rfl))]; exact ⟨rfl, rfl⟩)
    (fun os started H enc _ => octetCuts_lifted os started H enc)
#print axioms octetCuts_holds
end Go.Proofs.Ytigakpfdahjkdaa
