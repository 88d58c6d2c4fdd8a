/-
  StoreOfNothing: the row of its statement proved, out of the walk. By the session itself.
-/
import Derived.Test.YtipdndmfngpbfaaGreatDoorRows
import Derived.Test.YtipdndmfngpbfaaGreatDoorQ03
import Derived.Test.YtipdndmfngpbfaaGreatDoorTie
import Derived.Test.YtipdndmfngpbfaaGreatDoorCards
import Derived.MakeChecks
import Derived.Test.YtipdndmfngpbfaaGreatDoorQ35
namespace Go.Proofs.YtipdndmfngpbfaaGreatDoor
set_option linter.unusedSimpArgs false
set_option linter.unusedVariables false
set_option maxRecDepth 100000
open Go.ChangeShapes Go.WideShapes Go.ChangeAt Go.RowKit Go.Vc
set_option maxRecDepth 100000 in
theorem storeOfNothing_lifted (os : Os) (started : os.Started) (H : Type) (enc : TypeId × Value → H) :
    ReturnsInHanded {} Tryz.checked os 10 .any (fun w args => (Rows.storeOfNothingSpec.pre enc Tryz.prog Tryz.f10 Rows.storeOfNothingRow.domain false w args ∧ laidMetH Tryz.prog Rows.storeOfNothingRow.laid w) ∧ sizedMet enc Tryz.prog Tryz.f10 (OpenSpec.ofChange Rows.storeOfNothingSpec) false w args) (Rows.storeOfNothingSpec.post enc Tryz.prog Tryz.f10 false true false false) := by
  refine law_row_laid (fun w => laidMetH Tryz.prog Rows.storeOfNothingRow.laid w) (fun _ _ hh h => h.of_heap hh) (C := Tryz.checked) (t := 4) (by kernel_rfl) started (by kernel_rfl) Tryz.func10
    (ChangeSpec.witness_shaped (enc := enc) (C := Tryz.checked) (os := os) (X := fun w _ => laidMetH Tryz.prog Rows.storeOfNothingRow.laid w) false (World.laidAll Tryz.prog os Rows.storeOfNothingRow.laid) #[.agg #[.int .i64 0, .string ⟨#[]⟩, .string ⟨#[]⟩, .string ⟨#[]⟩, .string ⟨#[]⟩, .slice none 0 0, .int .i64 0, .int .i64 0, .int .i64 0, .slice none 0 0]] 8 (World.laidAll_os _ _ _)
      (World.shaped_of_ZipB (by kernel_rfl) (by kernel_rfl)) (by kernel_rfl) (by kernel_rfl) (by kernel_rfl)
      (by rw [MakeChecks.laidMetH_plain _ _ _ (by kernel_rfl)]; exact laidMet_laidAll _ (by kernel_rfl) (by kernel_rfl))) rfl (by kernel_rfl) (by kernel_rfl) (by kernel_rfl) (by kernel_rfl) ?_ ?_
  · intro ds hd
    match ds, hd with
    | [_], _ => rfl
  · intro W args ds ps hA0 hval0 hz0
    have hA : DataW.TrodAll enc Tryz.prog W 0 (fun _ => true) true Tryz.f10.params.toList args.toList ds ps := hA0
    have hval : ∀ (j : Nat) t v, Tryz.f10.params[j]? = some t → args[j]? = some v → ∃ base, Value.okWide Tryz.prog W .any base t v := hval0
    have hz : (DataW.weightsEach Tryz.prog Tryz.f10.params.toList ds).all (· ≤ reachBytes) = true := hz0
    clear hA0 hval0 hz0
    rw [Tryz.params10] at hA hval hz
    obtain ⟨v0, d0, rfl, rfl, h0⟩ := trodAll_one hA
    obtain ⟨x0, rfl, g0⟩ := arg_chg (j := 0) (r := .any) hz rfl rfl (ti := 3) (ts := 9) (tl := 22) (tb := 23) (tu := 5) (by kernel_rfl) (by kernel_rfl) (by kernel_rfl) (by kernel_rfl) (by kernel_rfl) (by kernel_rfl) (by kernel_rfl) (by kernel_rfl) (by kernel_rfl) (by kernel_rfl) (by kernel_rfl) (by kernel_rfl) (by kernel_rfl) (by kernel_rfl) (hval 0 25 v0 rfl rfl) h0
    exact stnothing_row x0 g0
theorem storeOfNothing_f1 : (Rows.storeOfNothingRow.inPlace == Tryz.pinned.checked.prog.inPlace 10) = true := by kernel_rfl
theorem storeOfNothing_f2 : (Rows.storeOfNothingRow.unfollowed == Tryz.pinned.checked.prog.unfollowed 10) = true := by kernel_rfl
theorem storeOfNothing_f3 : (Rows.storeOfNothingRow.recurses == Tryz.pinned.checked.prog.recurses 10) = true := by kernel_rfl
theorem storeOfNothing_f4 : (Rows.storeOfNothingRow.named == Tryz.pinned.checked.prog.varsNamed 10) = true := by kernel_rfl
theorem storeOfNothing_closed : joinedFacts Tryz.pinned.checked.prog 10 Tryz.f10 Rows.storeOfNothingSpec Rows.storeOfNothingRow = true := by
  unfold joinedFacts
  rw [storeOfNothing_f1, storeOfNothing_f2, storeOfNothing_f3, storeOfNothing_f4]
  kernel_rfl
theorem storeOfNothing_c1 : Tryz.pinned.checked.prog.mainIs = some (Rows.storeOfNothingCard.stood.harness.1, Rows.storeOfNothingCard.stood.harness.2.toList) := by kernel_rfl
theorem storeOfNothing_c2 : false = Tryz.pinned.checked.prog.looks [] := by kernel_rfl
theorem storeOfNothing_c3 : false = Rows.storeOfNothingRow.goesBy Tryz.pinned.checked.prog := by kernel_rfl
theorem storeOfNothing_c4 : Rows.storeOfNothingRow.wfByText (OpenSpec.ofChange Rows.storeOfNothingSpec) = true := by kernel_rfl
theorem storeOfNothing_holds : Rows.StoreOfNothingSaid :=
  OpenClaim.holds_of_wide 10 Tryz.f10 rfl rfl rfl rfl rfl rfl rfl ⟨rfl, rfl, rfl, rfl, rfl⟩ rfl rfl rfl rfl rfl (by kernel_rfl) Tryz.func10 storeOfNothing_closed
    (of_decide_eq_true (by kernel_rfl)) (by unfold Func.isWrapper; rw [if_neg (of_decide_eq_false (by kernel_rfl))]; exact ⟨rfl, rfl⟩)
    (fun os started H enc _ => storeOfNothing_lifted os started H enc)
theorem storeOfNothing_card : Rows.StoreOfNothingCardSaid :=
  Claim7.holds_tied_plain_at .later [] [.data, .pinned] true Rows.storeOfNothingCard.stood.harness false storeOfNothing_holds (fun _ h => by cases h) (by kernel_rfl) (fun _ h => by cases h) storeOfNothing_row_tie rfl ⟨rfl, rfl⟩ (by kernel_rfl) rfl
    (fun f fn hf hfn => by
      obtain rfl : f = 10 := Option.some.inj ((show Tryz.prog.funcNamed "letterbox/letterboxlaw14.StoreOfNothing" = some 10 by kernel_rfl).symm.trans hf) |>.symm
      obtain rfl : fn = Tryz.f10 := (Option.some.inj (Tryz.func10.symm.trans hfn)).symm
      exact ⟨storeOfNothing_c2, fun j t ht => by
        rw [Tryz.params10] at ht
        have hm : t ∈ [25] := by simpa using Array.mem_of_getElem? ht
        have hall : ([25].all fun u => !Tryz.prog.wantsStandIn u) = true := by kernel_rfl
        exact (show Tryz.prog.wantsStandIn t = false by simpa using List.all_eq_true.1 hall t hm)⟩)
    storeOfNothing_c3
#print axioms storeOfNothing_card
end Go.Proofs.YtipdndmfngpbfaaGreatDoor
