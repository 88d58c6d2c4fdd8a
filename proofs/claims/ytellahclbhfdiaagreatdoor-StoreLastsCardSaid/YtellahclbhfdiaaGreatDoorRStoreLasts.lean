/-
  StoreLasts: the row of its statement proved, out of the walk. By the session itself.
-/
import Derived.Test.YtellahclbhfdiaaGreatDoorRows
import Derived.Test.YtellahclbhfdiaaGreatDoorZ03
import Derived.Test.YtellahclbhfdiaaGreatDoorTie
import Derived.Test.YtellahclbhfdiaaGreatDoorCards
import Derived.MakeChecks
import Derived.Test.YtellahclbhfdiaaGreatDoorZ46
namespace Go.Proofs.YtellahclbhfdiaaGreatDoor
set_option linter.unusedSimpArgs false
set_option linter.unusedVariables false
set_option maxRecDepth 100000
open Go.ChangeShapes Go.WideShapes Go.ChangeAt Go.RowKit Go.Vc
set_option maxRecDepth 100000 in
theorem storeLasts_lifted (os : Os) (started : os.Started) (H : Type) (enc : TypeId × Value → H) :
    ReturnsInHanded {} Tryz.checked os 7 .any (fun w args => (Rows.storeLastsSpec.pre enc Tryz.prog Tryz.f7 Rows.storeLastsRow.domain false w args ∧ laidMetH Tryz.prog Rows.storeLastsRow.laid w) ∧ sizedMet enc Tryz.prog Tryz.f7 (OpenSpec.ofChange Rows.storeLastsSpec) false w args) (Rows.storeLastsSpec.post enc Tryz.prog Tryz.f7 false true false false) := by
  refine law_row_laid (fun w => laidMetH Tryz.prog Rows.storeLastsRow.laid w) (fun _ _ hh h => h.of_heap hh) (C := Tryz.checked) (t := 4) (by kernel_rfl) started (by kernel_rfl) Tryz.func7
    (ChangeSpec.witness_shaped (enc := enc) (C := Tryz.checked) (os := os) (X := fun w _ => laidMetH Tryz.prog Rows.storeLastsRow.laid w) false (World.laidAll Tryz.prog os Rows.storeLastsRow.laid) #[.slice none 0 0, .int .i64 0, .int .i64 0] 8 (World.laidAll_os _ _ _)
      (World.shaped_of_ZipB (by kernel_rfl) (by kernel_rfl)) (by kernel_rfl) (by kernel_rfl) (by kernel_rfl)
      (by rw [MakeChecks.laidMetH_plain _ _ _ (by kernel_rfl)]; exact laidMet_laidAll _ (by kernel_rfl) (by kernel_rfl))) rfl (by kernel_rfl) (by kernel_rfl) (by kernel_rfl) (by kernel_rfl) ?_ ?_
  · intro ds hd
    match ds, hd with
    | [_, _, _], _ => rfl
  · intro W args ds ps hA0 hval0 hz0
    have hA : DataW.TrodAll enc Tryz.prog W 0 (fun _ => true) true Tryz.f7.params.toList args.toList ds ps := hA0
    have hval : ∀ (j : Nat) t v, Tryz.f7.params[j]? = some t → args[j]? = some v → ∃ base, Value.okWide Tryz.prog W .any base t v := hval0
    have hz : (DataW.weightsEach Tryz.prog Tryz.f7.params.toList ds).all (· ≤ reachBytes) = true := hz0
    clear hA0 hval0 hz0
    rw [Tryz.params7] at hA hval hz
    obtain ⟨v0, v1, v2, d0, d1, d2, p0, p1, p2, rfl, rfl, rfl, h0, h1, h2⟩ := trodAll_three hA
    obtain ⟨A0, c0, x0, rfl, r0, b0, m0, g0⟩ := arg_chgs (j := 0) (r := .any) hz rfl rfl (e := 25) (ti := 3) (ts := 9) (tl := 22) (tb := 23) (tu := 5) (by kernel_rfl) (by kernel_rfl) (by kernel_rfl) (by kernel_rfl) (by kernel_rfl) (by kernel_rfl) (by kernel_rfl) (by kernel_rfl) (by kernel_rfl) (by kernel_rfl) (by kernel_rfl) (by kernel_rfl) (by kernel_rfl) (by kernel_rfl) (by kernel_rfl) (hval 0 40 v0 rfl rfl) h0
    have z0 := sized_len (j := 0) hz (by kernel_rfl : Tryz.prog.underlying 40 = some (.slice 25)) rfl rfl h0
    rw [(by kernel_rfl : Tryz.prog.bytesOf 25 = 144)] at z0
    unfold reachBytes at z0
    obtain ⟨x1, rfl, g1⟩ := arg_int (r := .any) (by kernel_rfl : Tryz.prog.underlying 3 = some (.int .i64)) (hval 1 3 v1 rfl rfl) h1
    have g1 := i64_wf g1
    obtain ⟨x2, rfl, g2⟩ := arg_int (r := .any) (by kernel_rfl : Tryz.prog.underlying 3 = some (.int .i64)) (hval 2 3 v2 rfl rfl) h2
    have g2 := i64_wf g2
    exact lasts_law x0 x1 x2 A0 c0 W r0 b0 g0 (by omega) g1
theorem storeLasts_f1 : (Rows.storeLastsRow.inPlace == Tryz.pinned.checked.prog.inPlace 7) = true := by kernel_rfl
theorem storeLasts_f2 : (Rows.storeLastsRow.unfollowed == Tryz.pinned.checked.prog.unfollowed 7) = true := by kernel_rfl
theorem storeLasts_f3 : (Rows.storeLastsRow.recurses == Tryz.pinned.checked.prog.recurses 7) = true := by kernel_rfl
theorem storeLasts_f4 : (Rows.storeLastsRow.named == Tryz.pinned.checked.prog.varsNamed 7) = true := by kernel_rfl
theorem storeLasts_closed : joinedFacts Tryz.pinned.checked.prog 7 Tryz.f7 Rows.storeLastsSpec Rows.storeLastsRow = true := by
  unfold joinedFacts
  rw [storeLasts_f1, storeLasts_f2, storeLasts_f3, storeLasts_f4]
  kernel_rfl
theorem storeLasts_c1 : Tryz.pinned.checked.prog.mainIs = some (Rows.storeLastsCard.stood.harness.1, Rows.storeLastsCard.stood.harness.2.toList) := by kernel_rfl
theorem storeLasts_c2 : false = Tryz.pinned.checked.prog.looks [] := by kernel_rfl
theorem storeLasts_c3 : false = Rows.storeLastsRow.goesBy Tryz.pinned.checked.prog := by kernel_rfl
theorem storeLasts_c4 : Rows.storeLastsRow.wfByText (OpenSpec.ofChange Rows.storeLastsSpec) = true := by kernel_rfl
theorem storeLasts_holds : Rows.StoreLastsSaid :=
  OpenClaim.holds_of_wide 7 Tryz.f7 rfl rfl rfl rfl rfl rfl rfl ⟨rfl, rfl, rfl, rfl, rfl⟩ rfl rfl rfl rfl rfl (by kernel_rfl) Tryz.func7 storeLasts_closed
    (of_decide_eq_true (by kernel_rfl)) (by unfold Func.isWrapper; rw [if_neg (of_decide_eq_false (by kernel_rfl))]; exact ⟨rfl, rfl⟩)
    (fun os started H enc _ => storeLasts_lifted os started H enc)
theorem storeLasts_card : Rows.StoreLastsCardSaid :=
  Claim7.holds_tied_plain_at .later [] [.data, .pinned] true Rows.storeLastsCard.stood.harness false storeLasts_holds (fun _ h => by cases h) (by kernel_rfl) (fun _ h => by cases h) storeLasts_row_tie rfl ⟨rfl, rfl⟩ (by kernel_rfl) rfl
    (fun f fn hf hfn => by
      obtain rfl : f = 7 := Option.some.inj ((show Tryz.prog.funcNamed "letterbox/letterboxlaw14.StoreLasts" = some 7 by kernel_rfl).symm.trans hf) |>.symm
      obtain rfl : fn = Tryz.f7 := (Option.some.inj (Tryz.func7.symm.trans hfn)).symm
      exact ⟨storeLasts_c2, fun j t ht => by
        rw [Tryz.params7] at ht
        have hm : t ∈ [40, 3, 3] := by simpa using Array.mem_of_getElem? ht
        have hall : ([40, 3, 3].all fun u => !Tryz.prog.wantsStandIn u) = true := by kernel_rfl
        exact (show Tryz.prog.wantsStandIn t = false by simpa using List.all_eq_true.1 hall t hm)⟩)
    storeLasts_c3
#print axioms storeLasts_card
end Go.Proofs.YtellahclbhfdiaaGreatDoor
