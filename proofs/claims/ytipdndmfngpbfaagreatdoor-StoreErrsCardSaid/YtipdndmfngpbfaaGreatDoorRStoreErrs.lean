/-
  StoreErrs: the row of its statement proved, out of the walk. By the session itself.
-/
import Derived.Test.YtipdndmfngpbfaaGreatDoorRows
import Derived.Test.YtipdndmfngpbfaaGreatDoorQ03
import Derived.Test.YtipdndmfngpbfaaGreatDoorTie
import Derived.Test.YtipdndmfngpbfaaGreatDoorCards
import Derived.MakeChecks
import Derived.Test.YtipdndmfngpbfaaGreatDoorQ36
namespace Go.Proofs.YtipdndmfngpbfaaGreatDoor
set_option linter.unusedSimpArgs false
set_option linter.unusedVariables false
set_option maxRecDepth 100000
open Go.ChangeShapes Go.WideShapes Go.ChangeAt Go.RowKit Go.Vc
set_option maxRecDepth 100000 in
theorem storeErrs_lifted (os : Os) (started : os.Started) (H : Type) (enc : TypeId × Value → H) :
    ReturnsInHanded {} Tryz.checked os 8 .any (fun w args => (Rows.storeErrsSpec.pre enc Tryz.prog Tryz.f8 Rows.storeErrsRow.domain false w args ∧ laidMetH Tryz.prog Rows.storeErrsRow.laid w) ∧ sizedMet enc Tryz.prog Tryz.f8 (OpenSpec.ofChange Rows.storeErrsSpec) false w args) (Rows.storeErrsSpec.post enc Tryz.prog Tryz.f8 false true false false) := by
  refine law_row_laid (fun w => laidMetH Tryz.prog Rows.storeErrsRow.laid w) (fun _ _ hh h => h.of_heap hh) (C := Tryz.checked) (t := 4) (by kernel_rfl) started (by kernel_rfl) Tryz.func8
    (ChangeSpec.witness_shaped (enc := enc) (C := Tryz.checked) (os := os) (X := fun w _ => laidMetH Tryz.prog Rows.storeErrsRow.laid w) false (World.laidAll Tryz.prog os Rows.storeErrsRow.laid) #[.slice none 0 0] 8 (World.laidAll_os _ _ _)
      (World.shaped_of_ZipB (by kernel_rfl) (by kernel_rfl)) (by kernel_rfl) (by kernel_rfl) (by kernel_rfl)
      (by rw [MakeChecks.laidMetH_plain _ _ _ (by kernel_rfl)]; exact laidMet_laidAll _ (by kernel_rfl) (by kernel_rfl))) rfl (by kernel_rfl) (by kernel_rfl) (by kernel_rfl) (by kernel_rfl) ?_ ?_
  · intro ds hd
    match ds, hd with
    | [_], _ => rfl
  · intro W args ds ps hA0 hval0 hz0
    have hA : DataW.TrodAll enc Tryz.prog W 0 (fun _ => true) true Tryz.f8.params.toList args.toList ds ps := hA0
    have hval : ∀ (j : Nat) t v, Tryz.f8.params[j]? = some t → args[j]? = some v → ∃ base, Value.okWide Tryz.prog W .any base t v := hval0
    have hz : (DataW.weightsEach Tryz.prog Tryz.f8.params.toList ds).all (· ≤ reachBytes) = true := hz0
    clear hA0 hval0 hz0
    rw [Tryz.params8] at hA hval hz
    obtain ⟨v0, d0, rfl, rfl, h0⟩ := trodAll_one hA
    obtain ⟨A0, c0, x0, rfl, r0, b0, m0, g0⟩ := arg_chgs (j := 0) (r := .any) hz rfl rfl (e := 25) (ti := 3) (ts := 9) (tl := 22) (tb := 23) (tu := 5) (by kernel_rfl) (by kernel_rfl) (by kernel_rfl) (by kernel_rfl) (by kernel_rfl) (by kernel_rfl) (by kernel_rfl) (by kernel_rfl) (by kernel_rfl) (by kernel_rfl) (by kernel_rfl) (by kernel_rfl) (by kernel_rfl) (by kernel_rfl) (by kernel_rfl) (hval 0 65 v0 rfl rfl) h0
    have z0 := sized_len (j := 0) hz (by kernel_rfl : Tryz.prog.underlying 65 = some (.slice 25)) rfl rfl h0
    rw [(by kernel_rfl : Tryz.prog.bytesOf 25 = 144)] at z0
    unfold reachBytes at z0
    exact errs_law x0 A0 c0 W r0 b0 g0 (by omega)
theorem storeErrs_f1 : (Rows.storeErrsRow.inPlace == Tryz.pinned.checked.prog.inPlace 8) = true := by kernel_rfl
theorem storeErrs_f2 : (Rows.storeErrsRow.unfollowed == Tryz.pinned.checked.prog.unfollowed 8) = true := by kernel_rfl
theorem storeErrs_f3 : (Rows.storeErrsRow.recurses == Tryz.pinned.checked.prog.recurses 8) = true := by kernel_rfl
theorem storeErrs_f4 : (Rows.storeErrsRow.named == Tryz.pinned.checked.prog.varsNamed 8) = true := by kernel_rfl
theorem storeErrs_closed : joinedFacts Tryz.pinned.checked.prog 8 Tryz.f8 Rows.storeErrsSpec Rows.storeErrsRow = true := by
  unfold joinedFacts
  rw [storeErrs_f1, storeErrs_f2, storeErrs_f3, storeErrs_f4]
  kernel_rfl
theorem storeErrs_c1 : Tryz.pinned.checked.prog.mainIs = some (Rows.storeErrsCard.stood.harness.1, Rows.storeErrsCard.stood.harness.2.toList) := by kernel_rfl
theorem storeErrs_c2 : false = Tryz.pinned.checked.prog.looks [] := by kernel_rfl
theorem storeErrs_c3 : false = Rows.storeErrsRow.goesBy Tryz.pinned.checked.prog := by kernel_rfl
theorem storeErrs_c4 : Rows.storeErrsRow.wfByText (OpenSpec.ofChange Rows.storeErrsSpec) = true := by kernel_rfl
theorem storeErrs_holds : Rows.StoreErrsSaid :=
  OpenClaim.holds_of_wide 8 Tryz.f8 rfl rfl rfl rfl rfl rfl rfl ⟨rfl, rfl, rfl, rfl, rfl⟩ rfl rfl rfl rfl rfl (by kernel_rfl) Tryz.func8 storeErrs_closed
    (of_decide_eq_true (by kernel_rfl)) (by unfold Func.isWrapper; rw [if_neg (of_decide_eq_false (by kernel_rfl))]; exact ⟨rfl, rfl⟩)
    (fun os started H enc _ => storeErrs_lifted os started H enc)
theorem storeErrs_card : Rows.StoreErrsCardSaid :=
  Claim7.holds_tied_plain_at .later [] [.data, .pinned] true Rows.storeErrsCard.stood.harness false storeErrs_holds (fun _ h => by cases h) (by kernel_rfl) (fun _ h => by cases h) storeErrs_row_tie rfl ⟨rfl, rfl⟩ (by kernel_rfl) rfl
    (fun f fn hf hfn => by
      obtain rfl : f = 8 := Option.some.inj ((show Tryz.prog.funcNamed "letterbox/letterboxlaw14.StoreErrs" = some 8 by kernel_rfl).symm.trans hf) |>.symm
      obtain rfl : fn = Tryz.f8 := (Option.some.inj (Tryz.func8.symm.trans hfn)).symm
      exact ⟨storeErrs_c2, fun j t ht => by
        rw [Tryz.params8] at ht
        have hm : t ∈ [65] := by simpa using Array.mem_of_getElem? ht
        have hall : ([65].all fun u => !Tryz.prog.wantsStandIn u) = true := by kernel_rfl
        exact (show Tryz.prog.wantsStandIn t = false by simpa using List.all_eq_true.1 hall t hm)⟩)
    storeErrs_c3
#print axioms storeErrs_card
end Go.Proofs.YtipdndmfngpbfaaGreatDoor
