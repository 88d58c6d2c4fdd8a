/-
  LedgerTorn: the row of its statement proved, out of the walk. By the session itself.
-/
import Derived.Test.YthonmjgagblogaaRows
import Derived.Test.YthonmjgagblogaaLaw
import Derived.Test.YthonmjgagblogaaLgT
namespace Go.Proofs.Ythonmjgagblogaa
set_option linter.unusedSimpArgs false
set_option linter.unusedVariables false
set_option maxRecDepth 100000
open Go.ChangeShapes Go.WideShapes Go.ChangeAt Go.RowKit Go.Vc
set_option maxRecDepth 100000 in
theorem ledgerTorn_lifted (os : Os) (started : os.Started) (H : Type) (enc : TypeId × Value → H) :
    ReturnsInHanded {} Try.checked os 8 .any (Rows.ledgerTornSpec.pre6 enc Try.prog Try.f8 Rows.ledgerTornRow.domain false) (Rows.ledgerTornSpec.post enc Try.prog Try.f8 false true false false) := by
  refine law_row_sized (C := Try.checked) (t := 4) (by kernel_rfl) started (by kernel_rfl) Try.func8
    (ChangeSpec.witness6 (enc := enc) (C := Try.checked) false ⟨#[], #[.slice none 0 0, .int .i64 0], []⟩ 8 (by kernel_rfl) (by kernel_rfl) (by kernel_rfl) (by kernel_rfl)) rfl (by kernel_rfl) (by kernel_rfl) (by kernel_rfl) (by kernel_rfl) ?_ ?_
  · intro ds hd
    match ds, hd with
    | [_, _], _ => rfl
  · intro W args ds ps hA0 hval0 hz0
    have hA : DataW.TrodAll enc Try.prog W 0 (fun _ => true) true Try.f8.params.toList args.toList ds ps := hA0
    have hval : ∀ (j : Nat) t v, Try.f8.params[j]? = some t → args[j]? = some v → ∃ base, Value.okWide Try.prog W .any base t v := hval0
    have hz : (DataW.weightsEach Try.prog Try.f8.params.toList ds).all (· ≤ reachBytes) = true := hz0
    clear hA0 hval0 hz0
    rw [Try.params8] at hA hval hz
    obtain ⟨v0, v1, d0, d1, p0, p1, rfl, rfl, rfl, h0, h1⟩ := trodAll_two hA
    obtain ⟨A0, c0, x0, rfl, r0, b0, m0, l0⟩ := arg_rows_z (j := 0) (r := .any) hz rfl rfl (by kernel_rfl : Try.prog.underlying 77 = some (.slice 32)) (by kernel_rfl : Try.prog.underlying 32 = some (.slice 5)) (by kernel_rfl : Try.prog.underlying 5 = some (.int .u8)) (by kernel_rfl) (by kernel_rfl) (by kernel_rfl) (hval 0 77 v0 rfl rfl) h0
    unfold reachBytes at l0
    have z0 := sized_len (j := 0) hz (by kernel_rfl : Try.prog.underlying 77 = some (.slice 32)) rfl rfl h0
    rw [(by kernel_rfl : Try.prog.bytesOf 32 = 24)] at z0
    unfold reachBytes at z0
    obtain ⟨x1, rfl, g1⟩ := arg_int (r := .any) (by kernel_rfl : Try.prog.underlying 3 = some (.int .i64)) (hval 1 3 v1 rfl rfl) h1
    have g1 := i64_wf g1
    exact ltorn_law x0 x1 A0 c0 W r0 b0 (fun p hp => by have := l0 p hp; omega)
theorem ledgerTorn_holds : Rows.LedgerTornSaid :=
  OpenClaim.holds_of_wide 8 Try.f8 rfl rfl rfl rfl rfl rfl rfl ⟨rfl, rfl, rfl, rfl, rfl⟩ rfl rfl rfl rfl rfl (by kernel_rfl) Try.func8 (by kernel_rfl)
    (of_decide_eq_true (by kernel_rfl)) (by unfold Func.isWrapper; rw [if_neg (of_decide_eq_false (by kernel_rfl))]; exact ⟨rfl, rfl⟩)
    (fun os started H enc _ => ledgerTorn_lifted os started H enc)
#print axioms ledgerTorn_holds
end Go.Proofs.Ythonmjgagblogaa
