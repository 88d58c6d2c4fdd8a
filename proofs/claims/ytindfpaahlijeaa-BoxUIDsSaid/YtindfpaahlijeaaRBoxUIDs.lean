/-
  BoxUIDs: the row of its statement proved, out of the walk. By the session itself.
-/
import Derived.Test.YtindfpaahlijeaaRows
import Derived.Test.YtindfpaahlijeaaLaw
import Derived.Test.YtindfpaahlijeaaBxO
namespace Go.Proofs.Ytindfpaahlijeaa
set_option linter.unusedSimpArgs false
set_option linter.unusedVariables false
set_option maxRecDepth 100000
open Go.ChangeShapes Go.WideShapes Go.ChangeAt Go.RowKit Go.Vc
set_option maxRecDepth 100000 in
theorem boxUIDs_lifted (os : Os) (started : os.Started) (H : Type) (enc : TypeId × Value → H) :
    ReturnsInHanded {} Try.checked os 3 .any (Rows.boxUIDsSpec.pre6 enc Try.prog Try.f3 Rows.boxUIDsRow.domain false) (Rows.boxUIDsSpec.post enc Try.prog Try.f3 false true false false) := by
  refine law_row_sized (C := Try.checked) (t := 4) (by kernel_rfl) started (by kernel_rfl) Try.func3
    (ChangeSpec.witness6 (enc := enc) (C := Try.checked) false ⟨#[], #[.slice none 0 0], []⟩ 8 (by kernel_rfl) (by kernel_rfl) (by kernel_rfl) (by kernel_rfl)) rfl (by kernel_rfl) (by kernel_rfl) (by kernel_rfl) (by kernel_rfl) ?_ ?_
  · intro ds hd
    match ds, hd with
    | [_], _ => rfl
  · intro W args ds ps hA0 hval0 hz0
    have hA : DataW.TrodAll enc Try.prog W 0 (fun _ => true) true Try.f3.params.toList args.toList ds ps := hA0
    have hval : ∀ (j : Nat) t v, Try.f3.params[j]? = some t → args[j]? = some v → ∃ base, Value.okWide Try.prog W .any base t v := hval0
    have hz : (DataW.weightsEach Try.prog Try.f3.params.toList ds).all (· ≤ reachBytes) = true := hz0
    clear hA0 hval0 hz0
    rw [Try.params3] at hA hval hz
    obtain ⟨v0, d0, rfl, rfl, h0⟩ := trodAll_one hA
    obtain ⟨A0, c0, x0, rfl, r0, b0, m0, g0⟩ := arg_acts (j := 0) (r := .any) hz rfl rfl (e := 31) (ti := 3) (tl := 28) (tb := 29) (tu := 5) (by kernel_rfl) (by kernel_rfl) (by kernel_rfl) (by kernel_rfl) (by kernel_rfl) (by kernel_rfl) (by kernel_rfl) (by kernel_rfl) (by kernel_rfl) (by kernel_rfl) (by kernel_rfl) (by kernel_rfl) (by kernel_rfl) (hval 0 22 v0 rfl rfl) h0
    exact uids_law A0 c0 x0 W r0 g0 (by unfold maxLen at m0; omega)
theorem boxUIDs_holds : Rows.BoxUIDsSaid :=
  OpenClaim.holds_of_wide 3 Try.f3 rfl rfl rfl rfl rfl rfl rfl ⟨rfl, rfl, rfl, rfl, rfl⟩ rfl rfl rfl rfl rfl (by kernel_rfl) Try.func3 (by kernel_rfl)
    (of_decide_eq_true (by kernel_rfl)) (by unfold Func.isWrapper; rw [if_neg (of_decide_eq_false (by kernel_rfl))]; exact ⟨rfl, rfl⟩)
    (fun os started H enc _ => boxUIDs_lifted os started H enc)
#print axioms boxUIDs_holds
end Go.Proofs.Ytindfpaahlijeaa
