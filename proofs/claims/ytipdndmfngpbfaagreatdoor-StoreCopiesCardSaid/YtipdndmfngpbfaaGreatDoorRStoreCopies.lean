/-
  StoreCopies: the row of its statement proved, out of the walk. By the session itself.
-/
import Derived.Test.YtipdndmfngpbfaaGreatDoorRows
import Derived.Test.YtipdndmfngpbfaaGreatDoorQ03
import Derived.Test.YtipdndmfngpbfaaGreatDoorTie
import Derived.Test.YtipdndmfngpbfaaGreatDoorCards
import Derived.MakeChecks
import Derived.Test.YtipdndmfngpbfaaGreatDoorQ38
namespace Go.Proofs.YtipdndmfngpbfaaGreatDoor
set_option linter.unusedSimpArgs false
set_option linter.unusedVariables false
set_option maxRecDepth 100000
open Go.ChangeShapes Go.WideShapes Go.ChangeAt Go.RowKit Go.Vc
set_option maxRecDepth 100000 in
theorem storeCopies_lifted (os : Os) (started : os.Started) (H : Type) (enc : TypeId × Value → H) :
    ReturnsInHanded {} Tryz.checked os 6 .any (fun w args => (Rows.storeCopiesSpec.pre enc Tryz.prog Tryz.f6 Rows.storeCopiesRow.domain false w args ∧ laidMetH Tryz.prog Rows.storeCopiesRow.laid w) ∧ sizedMet enc Tryz.prog Tryz.f6 (OpenSpec.ofChange Rows.storeCopiesSpec) false w args) (Rows.storeCopiesSpec.post enc Tryz.prog Tryz.f6 false true false false) := by
  refine law_row_laid (fun w => laidMetH Tryz.prog Rows.storeCopiesRow.laid w) (fun _ _ hh h => h.of_heap hh) (C := Tryz.checked) (t := 4) (by kernel_rfl) started (by kernel_rfl) Tryz.func6
    (ChangeSpec.witness_shaped (enc := enc) (C := Tryz.checked) (os := os) (X := fun w _ => laidMetH Tryz.prog Rows.storeCopiesRow.laid w) false (World.laidAll Tryz.prog os Rows.storeCopiesRow.laid) #[.int .i64 0, .int .i64 0, .int .i64 0] 8 (World.laidAll_os _ _ _)
      (World.shaped_of_ZipB (by kernel_rfl) (by kernel_rfl)) (by kernel_rfl) (by kernel_rfl) (by kernel_rfl)
      (by rw [MakeChecks.laidMetH_plain _ _ _ (by kernel_rfl)]; exact laidMet_laidAll _ (by kernel_rfl) (by kernel_rfl))) rfl (by kernel_rfl) (by kernel_rfl) (by kernel_rfl) (by kernel_rfl) ?_ ?_
  · intro ds hd
    match ds, hd with
    | [_, _, _], _ => rfl
  · intro W args ds ps hA0 hval0 hz0
    have hA : DataW.TrodAll enc Tryz.prog W 0 (fun _ => true) true Tryz.f6.params.toList args.toList ds ps := hA0
    have hval : ∀ (j : Nat) t v, Tryz.f6.params[j]? = some t → args[j]? = some v → ∃ base, Value.okWide Tryz.prog W .any base t v := hval0
    have hz : (DataW.weightsEach Tryz.prog Tryz.f6.params.toList ds).all (· ≤ reachBytes) = true := hz0
    clear hA0 hval0 hz0
    rw [Tryz.params6] at hA hval hz
    obtain ⟨v0, v1, v2, d0, d1, d2, p0, p1, p2, rfl, rfl, rfl, h0, h1, h2⟩ := trodAll_three hA
    obtain ⟨x0, rfl, g0⟩ := arg_int (r := .any) (by kernel_rfl : Tryz.prog.underlying 3 = some (.int .i64)) (hval 0 3 v0 rfl rfl) h0
    have g0 := i64_wf g0
    obtain ⟨x1, rfl, g1⟩ := arg_int (r := .any) (by kernel_rfl : Tryz.prog.underlying 3 = some (.int .i64)) (hval 1 3 v1 rfl rfl) h1
    have g1 := i64_wf g1
    obtain ⟨x2, rfl, g2⟩ := arg_int (r := .any) (by kernel_rfl : Tryz.prog.underlying 3 = some (.int .i64)) (hval 2 3 v2 rfl rfl) h2
    have g2 := i64_wf g2
    exact copies_law x0 x1 x2 W
theorem storeCopies_f1 : (Rows.storeCopiesRow.inPlace == Tryz.pinned.checked.prog.inPlace 6) = true := by kernel_rfl
theorem storeCopies_f2 : (Rows.storeCopiesRow.unfollowed == Tryz.pinned.checked.prog.unfollowed 6) = true := by kernel_rfl
theorem storeCopies_f3 : (Rows.storeCopiesRow.recurses == Tryz.pinned.checked.prog.recurses 6) = true := by kernel_rfl
theorem storeCopies_f4 : (Rows.storeCopiesRow.named == Tryz.pinned.checked.prog.varsNamed 6) = true := by kernel_rfl
theorem storeCopies_closed : joinedFacts Tryz.pinned.checked.prog 6 Tryz.f6 Rows.storeCopiesSpec Rows.storeCopiesRow = true := by
  unfold joinedFacts
  rw [storeCopies_f1, storeCopies_f2, storeCopies_f3, storeCopies_f4]
  kernel_rfl
theorem storeCopies_c1 : Tryz.pinned.checked.prog.mainIs = some (Rows.storeCopiesCard.stood.harness.1, Rows.storeCopiesCard.stood.harness.2.toList) := by kernel_rfl
theorem storeCopies_c2 : false = Tryz.pinned.checked.prog.looks [] := by kernel_rfl
theorem storeCopies_c3 : false = Rows.storeCopiesRow.goesBy Tryz.pinned.checked.prog := by kernel_rfl
theorem storeCopies_c4 : Rows.storeCopiesRow.wfByText (OpenSpec.ofChange Rows.storeCopiesSpec) = true := by kernel_rfl
theorem storeCopies_holds : Rows.StoreCopiesSaid :=
  OpenClaim.holds_of_wide 6 Tryz.f6 rfl rfl rfl rfl rfl rfl rfl ⟨rfl, rfl, rfl, rfl, rfl⟩ rfl rfl rfl rfl rfl (by kernel_rfl) Tryz.func6 storeCopies_closed
    (of_decide_eq_true (by kernel_rfl)) (by unfold Func.isWrapper; rw [if_neg (of_decide_eq_false (by kernel_rfl))]; exact ⟨rfl, rfl⟩)
    (fun os started H enc _ => storeCopies_lifted os started H enc)
theorem storeCopies_card : Rows.StoreCopiesCardSaid :=
  Claim7.holds_tied_plain_at .later [] [.data, .pinned] true Rows.storeCopiesCard.stood.harness false storeCopies_holds (fun _ h => by cases h) (by kernel_rfl) (fun _ h => by cases h) storeCopies_row_tie rfl ⟨rfl, rfl⟩ (by kernel_rfl) rfl
    (fun f fn hf hfn => by
      obtain rfl : f = 6 := Option.some.inj ((show Tryz.prog.funcNamed "letterbox/letterboxlaw14.StoreCopies" = some 6 by kernel_rfl).symm.trans hf) |>.symm
      obtain rfl : fn = Tryz.f6 := (Option.some.inj (Tryz.func6.symm.trans hfn)).symm
      exact ⟨storeCopies_c2, fun j t ht => by
        rw [Tryz.params6] at ht
        have hm : t ∈ [3, 3, 3] := by simpa using Array.mem_of_getElem? ht
        have hall : ([3, 3, 3].all fun u => !Tryz.prog.wantsStandIn u) = true := by kernel_rfl
        exact (show Tryz.prog.wantsStandIn t = false by simpa using List.all_eq_true.1 hall t hm)⟩)
    storeCopies_c3
#print axioms storeCopies_card
end Go.Proofs.YtipdndmfngpbfaaGreatDoor
