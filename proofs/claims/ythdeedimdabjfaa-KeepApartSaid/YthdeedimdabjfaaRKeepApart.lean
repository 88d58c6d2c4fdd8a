/-
  KeepApart: the row of its statement proved, out of the walk. By the session itself.
-/
import Derived.Test.YthdeedimdabjfaaRows
import Derived.Test.YthdeedimdabjfaaLaw
import Derived.Test.YthdeedimdabjfaaKpE
namespace Go.Proofs.Ythdeedimdabjfaa
set_option linter.unusedSimpArgs false
set_option linter.unusedVariables false
set_option maxRecDepth 100000
open Go.ChangeShapes Go.WideShapes Go.ChangeAt Go.RowKit Go.Vc
set_option maxRecDepth 100000 in
theorem keepApart_lifted (os : Os) (started : os.Started) (H : Type) (enc : TypeId × Value → H) :
    ReturnsInHanded {} Try.checked os 12 .any (Rows.keepApartSpec.pre6 enc Try.prog Try.f12 Rows.keepApartRow.domain false) (Rows.keepApartSpec.post enc Try.prog Try.f12 false true false false) := by
  refine law_row_sized (C := Try.checked) (t := 4) (by kernel_rfl) started (by kernel_rfl) Try.func12
    (ChangeSpec.witness6 (enc := enc) (C := Try.checked) false ⟨#[], #[.slice none 0 0, .slice none 0 0, .slice none 0 0, .int .i64 0], []⟩ 8 (by kernel_rfl) (by kernel_rfl) (by kernel_rfl) (by kernel_rfl)) rfl (by kernel_rfl) (by kernel_rfl) (by kernel_rfl) (by kernel_rfl) ?_ ?_
  · intro ds hd
    match ds, hd with
    | [_, _, _, _], _ => rfl
  · intro W args ds ps hA0 hval0 hz0
    have hA : DataW.TrodAll enc Try.prog W 0 (fun _ => true) true Try.f12.params.toList args.toList ds ps := hA0
    have hval : ∀ (j : Nat) t v, Try.f12.params[j]? = some t → args[j]? = some v → ∃ base, Value.okWide Try.prog W .any base t v := hval0
    have hz : (DataW.weightsEach Try.prog Try.f12.params.toList ds).all (· ≤ reachBytes) = true := hz0
    clear hA0 hval0 hz0
    rw [Try.params12] at hA hval hz
    obtain ⟨v0, v1, v2, v3, d0, d1, d2, d3, p0, p1, p2, p3, rfl, rfl, rfl, h0, h1, h2, h3⟩ := trodAll_four hA
    obtain ⟨A0, c0, x0, rfl, r0, b0, m0⟩ := arg_bytes (r := .any) (by kernel_rfl : Try.prog.underlying 23 = some (.slice 5)) (by kernel_rfl : Try.prog.underlying 5 = some (.int .u8)) (by kernel_rfl) (hval 0 23 v0 rfl rfl) h0
    have z0 := sized_len (j := 0) hz (by kernel_rfl : Try.prog.underlying 23 = some (.slice 5)) rfl rfl h0
    rw [(by kernel_rfl : Try.prog.bytesOf 5 = 1)] at z0
    unfold reachBytes at z0
    obtain ⟨A1, c1, x1, rfl, r1, b1, m1⟩ := arg_bytes (r := .any) (by kernel_rfl : Try.prog.underlying 23 = some (.slice 5)) (by kernel_rfl : Try.prog.underlying 5 = some (.int .u8)) (by kernel_rfl) (hval 1 23 v1 rfl rfl) h1
    have z1 := sized_len (j := 1) hz (by kernel_rfl : Try.prog.underlying 23 = some (.slice 5)) rfl rfl h1
    rw [(by kernel_rfl : Try.prog.bytesOf 5 = 1)] at z1
    unfold reachBytes at z1
    obtain ⟨A2, c2, x2, rfl, r2, b2, m2⟩ := arg_bytes (r := .any) (by kernel_rfl : Try.prog.underlying 23 = some (.slice 5)) (by kernel_rfl : Try.prog.underlying 5 = some (.int .u8)) (by kernel_rfl) (hval 2 23 v2 rfl rfl) h2
    have z2 := sized_len (j := 2) hz (by kernel_rfl : Try.prog.underlying 23 = some (.slice 5)) rfl rfl h2
    rw [(by kernel_rfl : Try.prog.bytesOf 5 = 1)] at z2
    unfold reachBytes at z2
    obtain ⟨x3, rfl, g3⟩ := arg_int (r := .any) (by kernel_rfl : Try.prog.underlying 3 = some (.int .i64)) (hval 3 3 v3 rfl rfl) h3
    have g3 := i64_wf g3
    exact kapart_law x0 x1 x2 x3 A0 A1 A2 c0 c1 c2 W r0 b0 r1 b1 r2 b2 (by omega) (by omega) (by omega)
theorem keepApart_holds : Rows.KeepApartSaid :=
  OpenClaim.holds_of_wide 12 Try.f12 rfl rfl rfl rfl rfl rfl rfl ⟨rfl, rfl, rfl, rfl, rfl⟩ rfl rfl rfl rfl rfl (by kernel_rfl) Try.func12 (by kernel_rfl)
    (of_decide_eq_true (by kernel_rfl)) (by unfold Func.isWrapper; rw [if_neg (of_decide_eq_false (by kernel_rfl))]; exact ⟨rfl, rfl⟩)
    (fun os started H enc _ => keepApart_lifted os started H enc)
#print axioms keepApart_holds
end Go.Proofs.Ythdeedimdabjfaa
