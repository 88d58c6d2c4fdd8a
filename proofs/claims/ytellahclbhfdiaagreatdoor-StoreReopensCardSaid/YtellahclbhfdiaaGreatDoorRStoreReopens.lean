/-
  StoreReopens: the row of its statement proved, out of the walk. By the session itself.
-/
import Derived.Test.YtellahclbhfdiaaGreatDoorRows
import Derived.Test.YtellahclbhfdiaaGreatDoorZ03
import Derived.Test.YtellahclbhfdiaaGreatDoorTie
import Derived.Test.YtellahclbhfdiaaGreatDoorCards
import Derived.MakeChecks
import Derived.Test.YtellahclbhfdiaaGreatDoorZ45
namespace Go.Proofs.YtellahclbhfdiaaGreatDoor
set_option linter.unusedSimpArgs false
set_option linter.unusedVariables false
set_option maxRecDepth 100000
open Go.ChangeShapes Go.WideShapes Go.ChangeAt Go.RowKit Go.Vc
set_option maxRecDepth 100000 in
theorem storeReopens_lifted (os : Os) (started : os.Started) (H : Type) (enc : TypeId × Value → H) :
    ReturnsInHanded {} Tryz.checked os 5 .any (fun w args => (Rows.storeReopensSpec.pre enc Tryz.prog Tryz.f5 Rows.storeReopensRow.domain false w args ∧ laidMetH Tryz.prog Rows.storeReopensRow.laid w) ∧ sizedMet enc Tryz.prog Tryz.f5 (OpenSpec.ofChange Rows.storeReopensSpec) false w args) (Rows.storeReopensSpec.post enc Tryz.prog Tryz.f5 false true false false) := by
  refine law_row_laid (fun w => laidMetH Tryz.prog Rows.storeReopensRow.laid w) (fun _ _ hh h => h.of_heap hh) (C := Tryz.checked) (t := 4) (by kernel_rfl) started (by kernel_rfl) Tryz.func5
    (ChangeSpec.witness_shaped (enc := enc) (C := Tryz.checked) (os := os) (X := fun w _ => laidMetH Tryz.prog Rows.storeReopensRow.laid w) false (World.laidAll Tryz.prog os Rows.storeReopensRow.laid) #[.slice none 0 0] 8 (World.laidAll_os _ _ _)
      (World.shaped_of_ZipB (by kernel_rfl) (by kernel_rfl)) (by kernel_rfl) (by kernel_rfl) (by kernel_rfl)
      (by rw [MakeChecks.laidMetH_plain _ _ _ (by kernel_rfl)]; exact laidMet_laidAll _ (by kernel_rfl) (by kernel_rfl))) rfl (by kernel_rfl) (by kernel_rfl) (by kernel_rfl) (by kernel_rfl) ?_ ?_
  · intro ds hd
    match ds, hd with
    | [_], _ => rfl
  · intro W args ds ps hA0 hval0 hz0
    have hA : DataW.TrodAll enc Tryz.prog W 0 (fun _ => true) true Tryz.f5.params.toList args.toList ds ps := hA0
    have hval : ∀ (j : Nat) t v, Tryz.f5.params[j]? = some t → args[j]? = some v → ∃ base, Value.okWide Tryz.prog W .any base t v := hval0
    have hz : (DataW.weightsEach Tryz.prog Tryz.f5.params.toList ds).all (· ≤ reachBytes) = true := hz0
    clear hA0 hval0 hz0
    rw [Tryz.params5] at hA hval hz
    obtain ⟨v0, d0, rfl, rfl, h0⟩ := trodAll_one hA
    obtain ⟨A0, c0, x0, rfl, r0, b0, m0, g0⟩ := arg_chgs (j := 0) (r := .any) hz rfl rfl (e := 25) (ti := 3) (ts := 9) (tl := 22) (tb := 23) (tu := 5) (by kernel_rfl) (by kernel_rfl) (by kernel_rfl) (by kernel_rfl) (by kernel_rfl) (by kernel_rfl) (by kernel_rfl) (by kernel_rfl) (by kernel_rfl) (by kernel_rfl) (by kernel_rfl) (by kernel_rfl) (by kernel_rfl) (by kernel_rfl) (by kernel_rfl) (hval 0 40 v0 rfl rfl) h0
    have z0 := sized_len (j := 0) hz (by kernel_rfl : Tryz.prog.underlying 40 = some (.slice 25)) rfl rfl h0
    rw [(by kernel_rfl : Tryz.prog.bytesOf 25 = 144)] at z0
    unfold reachBytes at z0
    exact reopens_law x0 A0 c0 W r0 b0 g0 (by omega)
theorem storeReopens_f1 : (Rows.storeReopensRow.inPlace == Tryz.pinned.checked.prog.inPlace 5) = true := by kernel_rfl
theorem storeReopens_f2 : (Rows.storeReopensRow.unfollowed == Tryz.pinned.checked.prog.unfollowed 5) = true := by kernel_rfl
theorem storeReopens_f3 : (Rows.storeReopensRow.recurses == Tryz.pinned.checked.prog.recurses 5) = true := by kernel_rfl
theorem storeReopens_f4 : (Rows.storeReopensRow.named == Tryz.pinned.checked.prog.varsNamed 5) = true := by kernel_rfl
theorem storeReopens_closed : joinedFacts Tryz.pinned.checked.prog 5 Tryz.f5 Rows.storeReopensSpec Rows.storeReopensRow = true := by
  unfold joinedFacts
  rw [storeReopens_f1, storeReopens_f2, storeReopens_f3, storeReopens_f4]
  kernel_rfl
theorem storeReopens_c1 : Tryz.pinned.checked.prog.mainIs = some (Rows.storeReopensCard.stood.harness.1, Rows.storeReopensCard.stood.harness.2.toList) := by kernel_rfl
theorem storeReopens_c2 : false = Tryz.pinned.checked.prog.looks [] := by kernel_rfl
theorem storeReopens_c3 : false = Rows.storeReopensRow.goesBy Tryz.pinned.checked.prog := by kernel_rfl
theorem storeReopens_c4 : Rows.storeReopensRow.wfByText (OpenSpec.ofChange Rows.storeReopensSpec) = true := by kernel_rfl
theorem storeReopens_holds : Rows.StoreReopensSaid :=
  OpenClaim.holds_of_wide 5 Tryz.f5 rfl rfl rfl rfl rfl rfl rfl ⟨rfl, rfl, rfl, rfl, rfl⟩ rfl rfl rfl rfl rfl (by kernel_rfl) Tryz.func5 storeReopens_closed
    (of_decide_eq_true (by kernel_rfl)) (by unfold Func.isWrapper; rw [if_neg (of_decide_eq_false (by kernel_rfl))]; exact ⟨rfl, rfl⟩)
    (fun os started H enc _ => storeReopens_lifted os started H enc)
theorem storeReopens_card : Rows.StoreReopensCardSaid :=
  Claim7.holds_tied_plain_at .later [] [.data, .pinned] true Rows.storeReopensCard.stood.harness false storeReopens_holds (fun _ h => by cases h) (by kernel_rfl) (fun _ h => by cases h) storeReopens_row_tie rfl ⟨rfl, rfl⟩ (by kernel_rfl) rfl
    (fun f fn hf hfn => by
      obtain rfl : f = 5 := Option.some.inj ((show Tryz.prog.funcNamed "letterbox/letterboxlaw14.StoreReopens" = some 5 by kernel_rfl).symm.trans hf) |>.symm
      obtain rfl : fn = Tryz.f5 := (Option.some.inj (Tryz.func5.symm.trans hfn)).symm
      exact ⟨storeReopens_c2, fun j t ht => by
        rw [Tryz.params5] at ht
        have hm : t ∈ [40] := by simpa using Array.mem_of_getElem? ht
        have hall : ([40].all fun u => !Tryz.prog.wantsStandIn u) = true := by kernel_rfl
        exact (show Tryz.prog.wantsStandIn t = false by simpa using List.all_eq_true.1 hall t hm)⟩)
    storeReopens_c3
#print axioms storeReopens_card
end Go.Proofs.YtellahclbhfdiaaGreatDoor
