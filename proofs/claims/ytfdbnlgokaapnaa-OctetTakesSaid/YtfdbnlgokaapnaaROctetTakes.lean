/-
  OctetTakes: the row of its statement proved, out of the walk. By the session itself.
-/
import Derived.Test.YtfdbnlgokaapnaaRows
import Derived.Test.YtfdbnlgokaapnaaLaw
import Derived.Test.YtfdbnlgokaapnaaOctU
namespace Go.Proofs.Ytfdbnlgokaapnaa
set_option linter.unusedSimpArgs false
set_option linter.unusedVariables false
set_option maxRecDepth 100000
open Go.ChangeShapes Go.WideShapes Go.ChangeAt Go.RowKit Go.Vc
set_option maxRecDepth 100000 in
theorem octetTakes_lifted (os : Os) (started : os.Started) (H : Type) (enc : TypeId × Value → H) :
    ReturnsInHanded {} Try.checked os 6 .any (Rows.octetTakesSpec.pre6 enc Try.prog Try.f6 Rows.octetTakesRow.domain false) (Rows.octetTakesSpec.post enc Try.prog Try.f6 false true false false) := by
  refine law_row (C := Try.checked) (t := 4) (by kernel_rfl) started (by kernel_rfl) Try.func6
    (ChangeSpec.witness6 (enc := enc) (C := Try.checked) false ⟨#[], #[.slice none 0 0, .slice none 0 0, .slice none 0 0], []⟩ 8 (by kernel_rfl) (by kernel_rfl) (by kernel_rfl) (by kernel_rfl)) rfl (by kernel_rfl) (by kernel_rfl) (by kernel_rfl) (by kernel_rfl) ?_ ?_
  · intro ds hd
    match ds, hd with
    | [_, _, _], _ => rfl
  · intro W args ds ps hA0 hval0
    have hA : DataW.TrodAll enc Try.prog W 0 (fun _ => true) true Try.f6.params.toList args.toList ds ps := hA0
    have hval : ∀ (j : Nat) t v, Try.f6.params[j]? = some t → args[j]? = some v → ∃ base, Value.okWide Try.prog W .any base t v := hval0
    clear hA0 hval0
    rw [Try.params6] at hA hval
    obtain ⟨v0, v1, v2, d0, d1, d2, p0, p1, p2, rfl, rfl, rfl, h0, h1, h2⟩ := trodAll_three hA
    obtain ⟨A0, c0, x0, rfl, r0, b0, m0⟩ := arg_bytes (r := .any) (by kernel_rfl : Try.prog.underlying 42 = some (.slice 5)) (by kernel_rfl : Try.prog.underlying 5 = some (.int .u8)) (by kernel_rfl) (hval 0 42 v0 rfl rfl) h0
    obtain ⟨A1, c1, x1, rfl, r1, b1, m1, l1⟩ := arg_nums (k := .i64) (r := .any) (by kernel_rfl : Try.prog.underlying 25 = some (.slice 3)) (by kernel_rfl : Try.prog.underlying 3 = some (.int .i64)) (by kernel_rfl) (hval 1 25 v1 rfl rfl) h1
    obtain ⟨A2, c2, x2, rfl, r2, b2, m2, l2⟩ := arg_nums (k := .i64) (r := .any) (by kernel_rfl : Try.prog.underlying 25 = some (.slice 3)) (by kernel_rfl : Try.prog.underlying 3 = some (.int .i64)) (by kernel_rfl) (hval 2 25 v2 rfl rfl) h2
    exact takes_law x0 x1 x2 A0 A1 A2 c0 c1 c2 W r0 b0 r1 r2
theorem octetTakes_holds : Rows.OctetTakesSaid :=
  OpenClaim.holds_of_wide 6 Try.f6 rfl rfl rfl rfl rfl rfl rfl ⟨rfl, rfl, rfl, rfl, rfl⟩ rfl rfl rfl rfl rfl (by kernel_rfl) Try.func6 (by kernel_rfl)
    (of_decide_eq_true (by kernel_rfl)) (by unfold Func.isWrapper; rw [if_neg (of_decide_eq_false (by kernel_rfl))]; exact ⟨rfl, rfl⟩)
    (fun os started H enc _ => octetTakes_lifted os started H enc)
#print axioms octetTakes_holds
end Go.Proofs.Ytfdbnlgokaapnaa
