/-
  DiskOfNothing: the row of its statement proved, out of the walk. By the session itself.
-/
import Derived.Test.YthdeedimdabjfaaRows
import Derived.Test.YthdeedimdabjfaaLaw
import Derived.Test.YthdeedimdabjfaaDkN
namespace Go.Proofs.Ythdeedimdabjfaa
set_option linter.unusedSimpArgs false
set_option linter.unusedVariables false
set_option maxRecDepth 100000
open Go.ChangeShapes Go.WideShapes Go.ChangeAt Go.RowKit Go.Vc
set_option maxRecDepth 100000 in
theorem diskOfNothing_lifted (os : Os) (started : os.Started) (H : Type) (enc : TypeId × Value → H) :
    ReturnsInHanded {} Try.checked os 10 .any (Rows.diskOfNothingSpec.pre6 enc Try.prog Try.f10 Rows.diskOfNothingRow.domain false) (Rows.diskOfNothingSpec.post enc Try.prog Try.f10 false true false false) := by
  refine law_row_sized (C := Try.checked) (t := 4) (by kernel_rfl) started (by kernel_rfl) Try.func10
    (ChangeSpec.witness6 (enc := enc) (C := Try.checked) false ⟨#[], #[.string ⟨#[]⟩, .slice none 0 0, .int .i64 0], []⟩ 8 (by kernel_rfl) (by kernel_rfl) (by kernel_rfl) (by kernel_rfl)) rfl (by kernel_rfl) (by kernel_rfl) (by kernel_rfl) (by kernel_rfl) ?_ ?_
  · intro ds hd
    match ds, hd with
    | [_, _, _], _ => rfl
  · intro W args ds ps hA0 hval0 hz0
    have hA : DataW.TrodAll enc Try.prog W 0 (fun _ => true) true Try.f10.params.toList args.toList ds ps := hA0
    have hval : ∀ (j : Nat) t v, Try.f10.params[j]? = some t → args[j]? = some v → ∃ base, Value.okWide Try.prog W .any base t v := hval0
    have hz : (DataW.weightsEach Try.prog Try.f10.params.toList ds).all (· ≤ reachBytes) = true := hz0
    clear hA0 hval0 hz0
    rw [Try.params10] at hA hval hz
    obtain ⟨v0, v1, v2, d0, d1, d2, p0, p1, p2, rfl, rfl, rfl, h0, h1, h2⟩ := trodAll_three hA
    obtain ⟨x0, rfl, z0⟩ := arg_str_z (j := 0) (r := .any) hz rfl rfl (by kernel_rfl : Try.prog.underlying 9 = some .string) (hval 0 9 v0 rfl rfl) h0
    unfold reachBytes at z0
    obtain ⟨A1, c1, x1, rfl, r1, b1, m1⟩ := arg_bytes (r := .any) (by kernel_rfl : Try.prog.underlying 23 = some (.slice 5)) (by kernel_rfl : Try.prog.underlying 5 = some (.int .u8)) (by kernel_rfl) (hval 1 23 v1 rfl rfl) h1
    have z1 := sized_len (j := 1) hz (by kernel_rfl : Try.prog.underlying 23 = some (.slice 5)) rfl rfl h1
    rw [(by kernel_rfl : Try.prog.bytesOf 5 = 1)] at z1
    unfold reachBytes at z1
    obtain ⟨x2, rfl, g2⟩ := arg_int (r := .any) (by kernel_rfl : Try.prog.underlying 3 = some (.int .i64)) (hval 2 3 v2 rfl rfl) h2
    have g2 := i64_wf g2
    exact dnothing_law x0 x1 x2 A1 c1 W r1 b1 (by omega) (by omega)
theorem diskOfNothing_holds : Rows.DiskOfNothingSaid :=
  OpenClaim.holds_of_wide 10 Try.f10 rfl rfl rfl rfl rfl rfl rfl ⟨rfl, rfl, rfl, rfl, rfl⟩ rfl rfl rfl rfl rfl (by kernel_rfl) Try.func10 (by kernel_rfl)
    (of_decide_eq_true (by kernel_rfl)) (by unfold Func.isWrapper; rw [if_neg (of_decide_eq_false (by kernel_rfl))]; exact ⟨rfl, rfl⟩)
    (fun os started H enc _ => diskOfNothing_lifted os started H enc)
#print axioms diskOfNothing_holds
end Go.Proofs.Ythdeedimdabjfaa
