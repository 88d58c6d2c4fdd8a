/-
  DiskMany: the row of its statement proved, out of the walk. By the session itself.
-/
import Derived.Test.YthdeedimdabjfaaRows
import Derived.Test.YthdeedimdabjfaaLaw
import Derived.Test.YthdeedimdabjfaaDkO
namespace Go.Proofs.Ythdeedimdabjfaa
set_option linter.unusedSimpArgs false
set_option linter.unusedVariables false
set_option maxRecDepth 100000
open Go.ChangeShapes Go.WideShapes Go.ChangeAt Go.RowKit Go.Vc
set_option maxRecDepth 100000 in
theorem diskMany_lifted (os : Os) (started : os.Started) (H : Type) (enc : TypeId × Value → H) :
    ReturnsInHanded {} Try.checked os 7 .any (Rows.diskManySpec.pre6 enc Try.prog Try.f7 Rows.diskManyRow.domain false) (Rows.diskManySpec.post enc Try.prog Try.f7 false true false false) := by
  refine law_row_sized (C := Try.checked) (t := 4) (by kernel_rfl) started (by kernel_rfl) Try.func7
    (ChangeSpec.witness6 (enc := enc) (C := Try.checked) false ⟨#[], #[.slice none 0 0, .bool false, .int .i64 0], []⟩ 8 (by kernel_rfl) (by kernel_rfl) (by kernel_rfl) (by kernel_rfl)) rfl (by kernel_rfl) (by kernel_rfl) (by kernel_rfl) (by kernel_rfl) ?_ ?_
  · intro ds hd
    match ds, hd with
    | [_, _, _], _ => rfl
  · intro W args ds ps hA0 hval0 hz0
    have hA : DataW.TrodAll enc Try.prog W 0 (fun _ => true) true Try.f7.params.toList args.toList ds ps := hA0
    have hval : ∀ (j : Nat) t v, Try.f7.params[j]? = some t → args[j]? = some v → ∃ base, Value.okWide Try.prog W .any base t v := hval0
    have hz : (DataW.weightsEach Try.prog Try.f7.params.toList ds).all (· ≤ reachBytes) = true := hz0
    clear hA0 hval0 hz0
    rw [Try.params7] at hA hval hz
    obtain ⟨v0, v1, v2, d0, d1, d2, p0, p1, p2, rfl, rfl, rfl, h0, h1, h2⟩ := trodAll_three hA
    obtain ⟨A0, c0, x0, rfl, r0, b0, m0, l0⟩ := arg_rows_z (j := 0) (r := .any) hz rfl rfl (by kernel_rfl : Try.prog.underlying 22 = some (.slice 23)) (by kernel_rfl : Try.prog.underlying 23 = some (.slice 5)) (by kernel_rfl : Try.prog.underlying 5 = some (.int .u8)) (by kernel_rfl) (by kernel_rfl) (by kernel_rfl) (hval 0 22 v0 rfl rfl) h0
    unfold reachBytes at l0
    have z0 := sized_len (j := 0) hz (by kernel_rfl : Try.prog.underlying 22 = some (.slice 23)) rfl rfl h0
    rw [(by kernel_rfl : Try.prog.bytesOf 23 = 24)] at z0
    unfold reachBytes at z0
    obtain ⟨x1, rfl⟩ := arg_bool (r := .any) (by kernel_rfl : Try.prog.underlying 4 = some .bool) (hval 1 4 v1 rfl rfl) h1
    obtain ⟨x2, rfl, g2⟩ := arg_int (r := .any) (by kernel_rfl : Try.prog.underlying 3 = some (.int .i64)) (hval 2 3 v2 rfl rfl) h2
    have g2 := i64_wf g2
    exact dmany_law x0 x1 x2 A0 c0 W r0 b0 (fun p hp => by have := l0 p hp; omega) (by omega)
theorem diskMany_holds : Rows.DiskManySaid :=
  OpenClaim.holds_of_wide 7 Try.f7 rfl rfl rfl rfl rfl rfl rfl ⟨rfl, rfl, rfl, rfl, rfl⟩ rfl rfl rfl rfl rfl (by kernel_rfl) Try.func7 (by kernel_rfl)
    (of_decide_eq_true (by kernel_rfl)) (by unfold Func.isWrapper; rw [if_neg (of_decide_eq_false (by kernel_rfl))]; exact ⟨rfl, rfl⟩)
    (fun os started H enc _ => diskMany_lifted os started H enc)
#print axioms diskMany_holds
end Go.Proofs.Ythdeedimdabjfaa
