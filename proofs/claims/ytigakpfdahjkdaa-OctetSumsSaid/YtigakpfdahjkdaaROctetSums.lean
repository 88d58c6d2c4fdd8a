/-
  OctetSums: the row of its statement proved, out of the walk. By the session itself.
-/
import Derived.Test.YtigakpfdahjkdaaRows
import Derived.Test.YtigakpfdahjkdaaLaw
import Derived.Test.YtigakpfdahjkdaaOctJ
namespace Go.Proofs.Ytigakpfdahjkdaa
set_option linter.unusedSimpArgs false
set_option linter.unusedVariables false
open Go.ChangeShapes Go.WideShapes Go.ChangeAt Go.RowKit Go.Vc

set_option maxRecDepth 100000 in
theorem octetSums_lifted (os : Os) (started : os.Started) (H : Type) (enc : TypeId × Value → H) :
    ReturnsInHanded {} Try.checked os 6 .any (Rows.octetSumsSpec.pre6 enc Try.prog Try.f6 Rows.octetSumsRow.domain false) (Rows.octetSumsSpec.post enc Try.prog Try.f6 false true false false) := by
  refine law_row (C := Try.checked) (t := 4) (by kernel_rfl) started (by kernel_rfl) Try.func6
    (ChangeSpec.witness6 (enc := enc) (C := Try.checked) false ⟨#[], #[.slice none 0 0, .int .i64 0, .int .u8 0], []⟩ 8 (by kernel_rfl) (by kernel_rfl) (by kernel_rfl) (by kernel_rfl)) rfl (by kernel_rfl) (by kernel_rfl) (by kernel_rfl) (by kernel_rfl) ?_ ?_
  · intro ds hd
    match ds, hd with
    | [_, _, _], _ => rfl
  · intro W args ds ps hA0 hval0
    have hA : DataW.TrodAll enc Try.prog W 0 (fun _ => true) true Try.f6.params.toList args.toList ds ps := hA0
    have hval : ∀ (j : Nat) t v, Try.f6.params[j]? = some t → args[j]? = some v → ∃ base, Value.okWide Try.prog W .any base t v := hval0
    clear hA0 hval0
    rw [Try.params6] at hA hval
    obtain ⟨v0, v1, v2, d0, d1, d2, p0, p1, p2, rfl, rfl, rfl, h0, h1, h2⟩ := trodAll_three hA
    obtain ⟨A, c, ps, rfl, hr, hc, hm, hz⟩ := arg_rows (r := .any) (by kernel_rfl : Try.prog.underlying 49 = some (.slice 34)) (by kernel_rfl : Try.prog.underlying 34 = some (.slice 5)) (by kernel_rfl : Try.prog.underlying 5 = some (.int .u8)) (by kernel_rfl) (by kernel_rfl) (hval 0 49 v0 rfl rfl) h0; obtain ⟨a, rfl, ha⟩ := arg_int (r := .any) (by kernel_rfl : Try.prog.underlying 3 = some (.int .i64)) (hval 1 3 v1 rfl rfl) h1; obtain ⟨y, rfl, hy⟩ := arg_int (r := .any) (by kernel_rfl : Try.prog.underlying 5 = some (.int .u8)) (hval 2 5 v2 rfl rfl) h2; have hy := u8_wf hy; obtain ⟨n, rfl⟩ : ∃ n : Nat, y = n := ⟨y.toNat, by omega⟩; exact sums_law ps A c a n W hr hc (by omega)
theorem octetSums_holds : Rows.OctetSumsSaid :=
  OpenClaim.holds_of_wide 6 Try.f6 rfl rfl rfl rfl rfl rfl rfl ⟨rfl, rfl, rfl, rfl, rfl⟩ rfl rfl rfl rfl rfl (by kernel_rfl) Try.func6 (by kernel_rfl)
    (of_decide_eq_true (by kernel_rfl)) (by unfold Func.isWrapper; rw [if_neg (of_decide_eq_false (by kernel_rfl))]; exact ⟨rfl, rfl⟩)
    (fun os started H enc _ => octetSums_lifted os started H enc)
#print axioms octetSums_holds
end Go.Proofs.Ytigakpfdahjkdaa
