/-
  LedgerKeeps: the row of its statement proved, out of the walk. By the session itself.
-/
import Derived.Test.YthonmjgagblogaaRows
import Derived.Test.YthonmjgagblogaaLaw
import Derived.Test.YthonmjgagblogaaLgY
namespace Go.Proofs.Ythonmjgagblogaa
set_option linter.unusedSimpArgs false
set_option linter.unusedVariables false
set_option maxRecDepth 100000
open Go.ChangeShapes Go.WideShapes Go.ChangeAt Go.RowKit Go.Vc
set_option maxRecDepth 100000 in
theorem ledgerKeeps_lifted (os : Os) (started : os.Started) (H : Type) (enc : TypeId × Value → H) :
    ReturnsInHanded {} Try.checked os 9 .any (Rows.ledgerKeepsSpec.pre6 enc Try.prog Try.f9 Rows.ledgerKeepsRow.domain false) (Rows.ledgerKeepsSpec.post enc Try.prog Try.f9 false true false false) := by
  refine law_row_sized (C := Try.checked) (t := 4) (by kernel_rfl) started (by kernel_rfl) Try.func9
    (ChangeSpec.witness6 (enc := enc) (C := Try.checked) false ⟨#[], #[.slice none 0 0, .int .i64 0, .int .i64 0, .bool false], []⟩ 8 (by kernel_rfl) (by kernel_rfl) (by kernel_rfl) (by kernel_rfl)) rfl (by kernel_rfl) (by kernel_rfl) (by kernel_rfl) (by kernel_rfl) ?_ ?_
  · intro ds hd
    match ds, hd with
    | [_, _, _, _], _ => rfl
  · intro W args ds ps hA0 hval0 hz0
    have hA : DataW.TrodAll enc Try.prog W 0 (fun _ => true) true Try.f9.params.toList args.toList ds ps := hA0
    have hval : ∀ (j : Nat) t v, Try.f9.params[j]? = some t → args[j]? = some v → ∃ base, Value.okWide Try.prog W .any base t v := hval0
    have hz : (DataW.weightsEach Try.prog Try.f9.params.toList ds).all (· ≤ reachBytes) = true := hz0
    clear hA0 hval0 hz0
    rw [Try.params9] at hA hval hz
    obtain ⟨v0, v1, v2, v3, d0, d1, d2, d3, p0, p1, p2, p3, rfl, rfl, rfl, h0, h1, h2, h3⟩ := trodAll_four hA
    obtain ⟨A0, c0, x0, rfl, r0, b0, m0, l0⟩ := arg_rows_z (j := 0) (r := .any) hz rfl rfl (by kernel_rfl : Try.prog.underlying 77 = some (.slice 32)) (by kernel_rfl : Try.prog.underlying 32 = some (.slice 5)) (by kernel_rfl : Try.prog.underlying 5 = some (.int .u8)) (by kernel_rfl) (by kernel_rfl) (by kernel_rfl) (hval 0 77 v0 rfl rfl) h0
    unfold reachBytes at l0
    have z0 := sized_len (j := 0) hz (by kernel_rfl : Try.prog.underlying 77 = some (.slice 32)) rfl rfl h0
    rw [(by kernel_rfl : Try.prog.bytesOf 32 = 24)] at z0
    unfold reachBytes at z0
    obtain ⟨x1, rfl, g1⟩ := arg_int (r := .any) (by kernel_rfl : Try.prog.underlying 3 = some (.int .i64)) (hval 1 3 v1 rfl rfl) h1
    have g1 := i64_wf g1
    obtain ⟨x2, rfl, g2⟩ := arg_int (r := .any) (by kernel_rfl : Try.prog.underlying 3 = some (.int .i64)) (hval 2 3 v2 rfl rfl) h2
    have g2 := i64_wf g2
    obtain ⟨x3, rfl⟩ := arg_bool (r := .any) (by kernel_rfl : Try.prog.underlying 4 = some .bool) (hval 3 4 v3 rfl rfl) h3
    exact lkeeps_law x0 x1 x2 x3 A0 c0 W r0 b0 (fun p hp => by have := l0 p hp; omega)
theorem ledgerKeeps_holds : Rows.LedgerKeepsSaid :=
  OpenClaim.holds_of_wide 9 Try.f9 rfl rfl rfl rfl rfl rfl rfl ⟨rfl, rfl, rfl, rfl, rfl⟩ rfl rfl rfl rfl rfl (by kernel_rfl) Try.func9 (by kernel_rfl)
    (of_decide_eq_true (by kernel_rfl)) (by unfold Func.isWrapper; rw [if_neg (of_decide_eq_false (by kernel_rfl))]; exact ⟨rfl, rfl⟩)
    (fun os started H enc _ => ledgerKeeps_lifted os started H enc)
#print axioms ledgerKeeps_holds
end Go.Proofs.Ythonmjgagblogaa
