/-
  LedgerDisks: the row of its statement proved, out of the walk. By the session itself.
-/
import Derived.Test.YthonmjgagblogaaGreatRows
import Derived.Test.YthonmjgagblogaaGreatLaw
import Derived.Test.YthonmjgagblogaaGreatRlAm
namespace Go.Proofs.YthonmjgagblogaaGreat
set_option linter.unusedSimpArgs false
set_option linter.unusedVariables false
set_option maxRecDepth 100000
open Go.ChangeShapes Go.WideShapes Go.ChangeAt Go.RowKit Go.Vc
set_option maxRecDepth 100000 in
theorem ledgerDisks_lifted (os : Os) (started : os.Started) (H : Type) (enc : TypeId × Value → H) :
    ReturnsInHanded {} Tryz.checked os 3 .any (Rows.ledgerDisksSpec.pre6 enc Tryz.prog Tryz.f3 Rows.ledgerDisksRow.domain false) (Rows.ledgerDisksSpec.post enc Tryz.prog Tryz.f3 false true false false) := by
  refine law_row_sized (C := Tryz.checked) (t := 4) (by kernel_rfl) started (by kernel_rfl) Tryz.func3
    (ChangeSpec.witness6 (enc := enc) (C := Tryz.checked) false ⟨#[], #[.slice none 0 0, .slice none 0 0], []⟩ 8 (by kernel_rfl) (by kernel_rfl) (by kernel_rfl) (by kernel_rfl)) rfl (by kernel_rfl) (by kernel_rfl) (by kernel_rfl) (by kernel_rfl) ?_ ?_
  · intro ds hd
    match ds, hd with
    | [_, _], _ => rfl
  · intro W args ds ps hA0 hval0 hz0
    have hA : DataW.TrodAll enc Tryz.prog W 0 (fun _ => true) true Tryz.f3.params.toList args.toList ds ps := hA0
    have hval : ∀ (j : Nat) t v, Tryz.f3.params[j]? = some t → args[j]? = some v → ∃ base, Value.okWide Tryz.prog W .any base t v := hval0
    have hz : (DataW.weightsEach Tryz.prog Tryz.f3.params.toList ds).all (· ≤ reachBytes) = true := hz0
    clear hA0 hval0 hz0
    rw [Tryz.params3] at hA hval hz
    obtain ⟨v0, v1, d0, d1, p0, p1, rfl, rfl, rfl, h0, h1⟩ := trodAll_two hA
    obtain ⟨A0, c0, x0, rfl, r0, b0, m0⟩ := arg_bytes (r := .any) (by kernel_rfl : Tryz.prog.underlying 22 = some (.slice 5)) (by kernel_rfl : Tryz.prog.underlying 5 = some (.int .u8)) (by kernel_rfl) (hval 0 22 v0 rfl rfl) h0
    have z0 := sized_len (j := 0) hz (by kernel_rfl : Tryz.prog.underlying 22 = some (.slice 5)) rfl rfl h0
    rw [(by kernel_rfl : Tryz.prog.bytesOf 5 = 1)] at z0
    unfold reachBytes at z0
    obtain ⟨A1, c1, x1, rfl, r1, b1, m1⟩ := arg_bytes (r := .any) (by kernel_rfl : Tryz.prog.underlying 22 = some (.slice 5)) (by kernel_rfl : Tryz.prog.underlying 5 = some (.int .u8)) (by kernel_rfl) (hval 1 22 v1 rfl rfl) h1
    have z1 := sized_len (j := 1) hz (by kernel_rfl : Tryz.prog.underlying 22 = some (.slice 5)) rfl rfl h1
    rw [(by kernel_rfl : Tryz.prog.bytesOf 5 = 1)] at z1
    unfold reachBytes at z1
    exact ldisks_law x0 x1 A0 A1 c0 c1 _ r0 b0 r1 b1 (by omega) (by omega)
theorem ledgerDisks_holds : Rows.LedgerDisksSaid :=
  OpenClaim.holds_of_wide 3 Tryz.f3 rfl rfl rfl rfl rfl rfl rfl ⟨rfl, rfl, rfl, rfl, rfl⟩ rfl rfl rfl rfl rfl (by kernel_rfl) Tryz.func3 (by kernel_rfl)
    (of_decide_eq_true (by kernel_rfl)) (by unfold Func.isWrapper; rw [if_neg (of_decide_eq_false (by kernel_rfl))]; exact ⟨rfl, rfl⟩)
    (fun os started H enc _ => ledgerDisks_lifted os started H enc)
#print axioms ledgerDisks_holds
end Go.Proofs.YthonmjgagblogaaGreat
