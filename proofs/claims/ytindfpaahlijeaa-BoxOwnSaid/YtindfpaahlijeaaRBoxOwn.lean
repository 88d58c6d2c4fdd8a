/-
  BoxOwn: the row of its statement proved, out of the walk. By the session itself.
-/
import Derived.Test.YtindfpaahlijeaaRows
import Derived.Test.YtindfpaahlijeaaLaw
import Derived.Test.YtindfpaahlijeaaArh
import Derived.Test.YtindfpaahlijeaaBxR
namespace Go.Proofs.Ytindfpaahlijeaa
set_option linter.unusedSimpArgs false
set_option linter.unusedVariables false
set_option maxRecDepth 100000
open Go.ChangeShapes Go.WideShapes Go.ChangeAt Go.RowKit Go.Vc
set_option maxRecDepth 100000 in
theorem boxOwn_lifted (os : Os) (started : os.Started) (H : Type) (enc : TypeId × Value → H) :
    ReturnsInHanded {} Try.checked os 7 .any (Rows.boxOwnSpec.pre6 enc Try.prog Try.f7 Rows.boxOwnRow.domain false) (Rows.boxOwnSpec.post enc Try.prog Try.f7 false true false false) := by
  refine law_row (C := Try.checked) (t := 4) (by kernel_rfl) started (by kernel_rfl) Try.func7
    (ChangeSpec.witness6 (enc := enc) (C := Try.checked) false ⟨#[], #[.agg #[.string ⟨#[]⟩, .int .i64 0, .int .i64 0, .slice none 0 0], .slice none 0 0, .slice none 0 0], []⟩ 8 (by kernel_rfl) (by kernel_rfl) (by kernel_rfl) (by kernel_rfl)) rfl (by kernel_rfl) (by kernel_rfl) (by kernel_rfl) (by kernel_rfl) ?_ ?_
  · intro ds hd
    match ds, hd with
    | [_, _, _], _ => rfl
  · intro W args ds ps hA0 hval0
    have hA : DataW.TrodAll enc Try.prog W 0 (fun _ => true) true Try.f7.params.toList args.toList ds ps := hA0
    have hval : ∀ (j : Nat) t v, Try.f7.params[j]? = some t → args[j]? = some v → ∃ base, Value.okWide Try.prog W .any base t v := hval0
    clear hA0 hval0
    rw [Try.params7] at hA hval
    obtain ⟨v0, v1, v2, d0, d1, d2, p0, p1, p2, rfl, rfl, rfl, h0, h1, h2⟩ := trodAll_three hA
    obtain ⟨x0, r0, z0, l0, g0⟩ := arg_boxz (r := .any) (ts := 9) (ti := 3) (tl := 24) (tm := 42) (tb := 29) (tu := 5) (by kernel_rfl) (by kernel_rfl) (by kernel_rfl) (by kernel_rfl) (by kernel_rfl) (by kernel_rfl) (by kernel_rfl) (by kernel_rfl) (by kernel_rfl) (by kernel_rfl) (by kernel_rfl) (by kernel_rfl) (by kernel_rfl) (by kernel_rfl) (hval 0 26 v0 rfl rfl) h0
    obtain ⟨A1, c1, x1, rfl, r1, b1, m1, l1⟩ := arg_nums (k := .i64) (r := .any) (by kernel_rfl : Try.prog.underlying 28 = some (.slice 3)) (by kernel_rfl : Try.prog.underlying 3 = some (.int .i64)) (by kernel_rfl) (hval 1 28 v1 rfl rfl) h1
    obtain ⟨A2, c2, x2, rfl, r2, b2, m2⟩ := arg_bytes (r := .any) (by kernel_rfl : Try.prog.underlying 29 = some (.slice 5)) (by kernel_rfl : Try.prog.underlying 5 = some (.int .u8)) (by kernel_rfl) (hval 2 29 v2 rfl rfl) h2
    exact own_law _ x0 x1 A1 c1 x2 A2 c2 W r0 z0 l0 r1 (by unfold maxLen at m1; omega) r2 (by unfold maxLen at m2; omega)
theorem boxOwn_holds : Rows.BoxOwnSaid :=
  OpenClaim.holds_of_wide 7 Try.f7 rfl rfl rfl rfl rfl rfl rfl ⟨rfl, rfl, rfl, rfl, rfl⟩ rfl rfl rfl rfl rfl (by kernel_rfl) Try.func7 (by kernel_rfl)
    (of_decide_eq_true (by kernel_rfl)) (by unfold Func.isWrapper; rw [if_neg (of_decide_eq_false (by kernel_rfl))]; exact ⟨rfl, rfl⟩)
    (fun os started H enc _ => boxOwn_lifted os started H enc)
#print axioms boxOwn_holds
end Go.Proofs.Ytindfpaahlijeaa
