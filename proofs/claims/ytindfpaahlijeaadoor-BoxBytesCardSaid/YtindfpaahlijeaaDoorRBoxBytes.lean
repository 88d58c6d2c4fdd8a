/-
  BoxBytes: the row of its statement proved, out of the walk. By the session itself.
-/
import Derived.Test.YtindfpaahlijeaaDoorRows
import Derived.Test.YtindfpaahlijeaaDoorLaw
import Derived.Test.YtindfpaahlijeaaDoorArh
import Derived.Test.YtindfpaahlijeaaDoorLawc
import Derived.Test.YtindfpaahlijeaaDoorTie
import Derived.Test.YtindfpaahlijeaaDoorCards
import Derived.MakeChecks
import Derived.Test.YtindfpaahlijeaaDoorBkJ
namespace Go.Proofs.YtindfpaahlijeaaDoor
set_option linter.unusedSimpArgs false
set_option linter.unusedVariables false
set_option maxRecDepth 100000
open Go.ChangeShapes Go.WideShapes Go.ChangeAt Go.RowKit Go.Vc
set_option maxRecDepth 100000 in
theorem boxBytes_lifted (os : Os) (started : os.Started) (H : Type) (enc : TypeId × Value → H) :
    ReturnsInHanded {} Tryd.checked os 4 .any (fun w args => (Rows.boxBytesSpec.pre enc Tryd.prog Tryd.f4 Rows.boxBytesRow.domain false w args ∧ laidMetH Tryd.prog Rows.boxBytesRow.laid w) ∧ sizedMet enc Tryd.prog Tryd.f4 (OpenSpec.ofChange Rows.boxBytesSpec) false w args) (Rows.boxBytesSpec.post enc Tryd.prog Tryd.f4 false true false false) := by
  refine law_row_laid (fun w => laidMetH Tryd.prog Rows.boxBytesRow.laid w) (fun _ _ hh h => h.of_heap hh) (C := Tryd.checked) (t := 4) (by kernel_rfl) started (by kernel_rfl) Tryd.func4
    (ChangeSpec.witness_shaped (enc := enc) (C := Tryd.checked) (os := os) (X := fun w _ => laidMetH Tryd.prog Rows.boxBytesRow.laid w) false (World.laidAll Tryd.prog os Rows.boxBytesRow.laid) #[.agg #[.string ⟨#[]⟩, .int .i64 0, .int .i64 0, .slice none 0 0], .agg #[.string ⟨#[]⟩, .int .i64 0, .int .i64 0, .slice none 0 0], .slice none 0 0, .string ⟨#[]⟩] 8 (World.laidAll_os _ _ _)
      (World.shaped_of_ZipB (by kernel_rfl) (by kernel_rfl)) (by kernel_rfl) (by kernel_rfl) (by kernel_rfl)
      (by rw [MakeChecks.laidMetH_plain _ _ _ (by kernel_rfl)]; exact laidMet_laidAll _ (by kernel_rfl) (by kernel_rfl))) rfl (by kernel_rfl) (by kernel_rfl) (by kernel_rfl) (by kernel_rfl) ?_ ?_
  · intro ds hd
    match ds, hd with
    | [_, _, _, _], _ => rfl
  · intro W args ds ps hA0 hval0 hz0
    have hA : DataW.TrodAll enc Tryd.prog W 0 (fun _ => true) true Tryd.f4.params.toList args.toList ds ps := hA0
    have hval : ∀ (j : Nat) t v, Tryd.f4.params[j]? = some t → args[j]? = some v → ∃ base, Value.okWide Tryd.prog W .any base t v := hval0
    have hz : (DataW.weightsEach Tryd.prog Tryd.f4.params.toList ds).all (· ≤ reachBytes) = true := hz0
    clear hA0 hval0 hz0
    rw [Tryd.params4] at hA hval hz
    obtain ⟨v0, v1, v2, v3, d0, d1, d2, d3, p0, p1, p2, p3, rfl, rfl, rfl, h0, h1, h2, h3⟩ := trodAll_four hA
    obtain ⟨x0, r0, z0, l0, g0⟩ := arg_boxz (r := .any) (ts := 9) (ti := 3) (tl := 22) (tm := 41) (tb := 26) (tu := 5) (by kernel_rfl) (by kernel_rfl) (by kernel_rfl) (by kernel_rfl) (by kernel_rfl) (by kernel_rfl) (by kernel_rfl) (by kernel_rfl) (by kernel_rfl) (by kernel_rfl) (by kernel_rfl) (by kernel_rfl) (by kernel_rfl) (by kernel_rfl) (hval 0 24 v0 rfl rfl) h0
    obtain ⟨x1, r1, z1, l1, g1⟩ := arg_boxz (r := .any) (ts := 9) (ti := 3) (tl := 22) (tm := 41) (tb := 26) (tu := 5) (by kernel_rfl) (by kernel_rfl) (by kernel_rfl) (by kernel_rfl) (by kernel_rfl) (by kernel_rfl) (by kernel_rfl) (by kernel_rfl) (by kernel_rfl) (by kernel_rfl) (by kernel_rfl) (by kernel_rfl) (by kernel_rfl) (by kernel_rfl) (hval 1 24 v1 rfl rfl) h1
    obtain ⟨A2, c2, x2, rfl, r2, b2, m2⟩ := arg_bytes (r := .any) (by kernel_rfl : Tryd.prog.underlying 26 = some (.slice 5)) (by kernel_rfl : Tryd.prog.underlying 5 = some (.int .u8)) (by kernel_rfl) (hval 2 26 v2 rfl rfl) h2
    have z2 := sized_len (j := 2) hz (by kernel_rfl : Tryd.prog.underlying 26 = some (.slice 5)) rfl rfl h2
    rw [(by kernel_rfl : Tryd.prog.bytesOf 5 = 1)] at z2
    unfold reachBytes at z2
    obtain ⟨x3, rfl, z3⟩ := arg_str_z (j := 3) (r := .any) hz rfl rfl (by kernel_rfl : Tryd.prog.underlying 9 = some .string) (hval 3 9 v3 rfl rfl) h3
    unfold reachBytes at z3
    exact bytes_law _ _ x0 x1 x2 A2 c2 x3 W r0 r1 z0 l0 l1 r2 b2 (by omega)
theorem boxBytes_holds : Rows.BoxBytesSaid :=
  OpenClaim.holds_of_wide 4 Tryd.f4 rfl rfl rfl rfl rfl rfl rfl ⟨rfl, rfl, rfl, rfl, rfl⟩ rfl rfl rfl rfl rfl (by kernel_rfl) Tryd.func4 (by kernel_rfl)
    (of_decide_eq_true (by kernel_rfl)) (by unfold Func.isWrapper; rw [if_neg (of_decide_eq_false (by kernel_rfl))]; exact ⟨rfl, rfl⟩)
    (fun os started H enc _ => boxBytes_lifted os started H enc)
theorem boxBytes_card : Rows.BoxBytesCardSaid :=
  Claim7.holds_tied_plain_at .later [] [.data, .pinned] true Rows.boxBytesCard.stood.harness false boxBytes_holds (fun _ h => by cases h) (by kernel_rfl) (fun _ h => by cases h) boxBytes_row_tie rfl ⟨rfl, rfl⟩ (by kernel_rfl) rfl
    (fun f fn hf hfn => by
      obtain rfl : f = 4 := Option.some.inj ((show Tryd.prog.funcNamed "letterbox/letterboxlaw13.BoxBytes" = some 4 by kernel_rfl).symm.trans hf) |>.symm
      obtain rfl : fn = Tryd.f4 := (Option.some.inj (Tryd.func4.symm.trans hfn)).symm
      exact ⟨by kernel_rfl, fun j t ht => by
        rw [Tryd.params4] at ht
        have hm : t ∈ [24, 24, 26, 9] := by simpa using Array.mem_of_getElem? ht
        have hall : ([24, 24, 26, 9].all fun u => !Tryd.prog.wantsStandIn u) = true := by kernel_rfl
        exact (show Tryd.prog.wantsStandIn t = false by simpa using List.all_eq_true.1 hall t hm)⟩)
    (by kernel_rfl)
#print axioms boxBytes_card
end Go.Proofs.YtindfpaahlijeaaDoor
