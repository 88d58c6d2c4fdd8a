/-
  LedgerApart: the row of its statement proved, out of the walk. By the session itself.
-/
import Derived.Test.YthonmjgagblogaaRows
import Derived.Test.YthonmjgagblogaaLaw
import Derived.Test.YthonmjgagblogaaLgU
namespace Go.Proofs.Ythonmjgagblogaa
set_option linter.unusedSimpArgs false
set_option linter.unusedVariables false
set_option maxRecDepth 100000
open Go.ChangeShapes Go.WideShapes Go.ChangeAt Go.RowKit Go.Vc
set_option maxRecDepth 100000 in
theorem ledgerApart_lifted (os : Os) (started : os.Started) (H : Type) (enc : TypeId × Value → H) :
    ReturnsInHanded {} Try.checked os 5 .any (Rows.ledgerApartSpec.pre6 enc Try.prog Try.f5 Rows.ledgerApartRow.domain false) (Rows.ledgerApartSpec.post enc Try.prog Try.f5 false true false false) := by
  refine law_row (C := Try.checked) (t := 4) (by kernel_rfl) started (by kernel_rfl) Try.func5
    (ChangeSpec.witness6 (enc := enc) (C := Try.checked) false ⟨#[], #[.string ⟨#[]⟩, .string ⟨#[]⟩, .int .i64 0, .int .i64 0], []⟩ 8 (by kernel_rfl) (by kernel_rfl) (by kernel_rfl) (by kernel_rfl)) rfl (by kernel_rfl) (by kernel_rfl) (by kernel_rfl) (by kernel_rfl) ?_ ?_
  · intro ds hd
    match ds, hd with
    | [_, _, _, _], _ => rfl
  · intro W args ds ps hA0 hval0
    have hA : DataW.TrodAll enc Try.prog W 0 (fun _ => true) true Try.f5.params.toList args.toList ds ps := hA0
    have hval : ∀ (j : Nat) t v, Try.f5.params[j]? = some t → args[j]? = some v → ∃ base, Value.okWide Try.prog W .any base t v := hval0
    clear hA0 hval0
    rw [Try.params5] at hA hval
    obtain ⟨v0, v1, v2, v3, d0, d1, d2, d3, p0, p1, p2, p3, rfl, rfl, rfl, h0, h1, h2, h3⟩ := trodAll_four hA
    obtain ⟨x0, rfl, g0⟩ := arg_str (r := .any) (by kernel_rfl : Try.prog.underlying 9 = some .string) (hval 0 9 v0 rfl rfl) h0
    obtain ⟨x1, rfl, g1⟩ := arg_str (r := .any) (by kernel_rfl : Try.prog.underlying 9 = some .string) (hval 1 9 v1 rfl rfl) h1
    obtain ⟨x2, rfl, g2⟩ := arg_int (r := .any) (by kernel_rfl : Try.prog.underlying 3 = some (.int .i64)) (hval 2 3 v2 rfl rfl) h2
    have g2 := i64_wf g2
    obtain ⟨x3, rfl, g3⟩ := arg_int (r := .any) (by kernel_rfl : Try.prog.underlying 3 = some (.int .i64)) (hval 3 3 v3 rfl rfl) h3
    have g3 := i64_wf g3
    exact lapart_row x0 x1 x2 x3 W
theorem ledgerApart_holds : Rows.LedgerApartSaid :=
  OpenClaim.holds_of_wide 5 Try.f5 rfl rfl rfl rfl rfl rfl rfl ⟨rfl, rfl, rfl, rfl, rfl⟩ rfl rfl rfl rfl rfl (by kernel_rfl) Try.func5 (by kernel_rfl)
    (of_decide_eq_true (by kernel_rfl)) (by unfold Func.isWrapper; rw [if_neg (of_decide_eq_false (by kernel_rfl))]; exact ⟨rfl, rfl⟩)
    (fun os started H enc _ => ledgerApart_lifted os started H enc)
#print axioms ledgerApart_holds
end Go.Proofs.Ythonmjgagblogaa
