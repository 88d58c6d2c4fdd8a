/-
  StoreMoves: the row of its statement proved, out of the walk. By the session itself.
-/
import Derived.Test.YtipdndmfngpbfaaGreatDoorRows
import Derived.Test.YtipdndmfngpbfaaGreatDoorQ03
import Derived.Test.YtipdndmfngpbfaaGreatDoorTie
import Derived.Test.YtipdndmfngpbfaaGreatDoorCards
import Derived.MakeChecks
import Derived.Test.YtipdndmfngpbfaaGreatDoorQ37
namespace Go.Proofs.YtipdndmfngpbfaaGreatDoor
set_option linter.unusedSimpArgs false
set_option linter.unusedVariables false
set_option maxRecDepth 100000
open Go.ChangeShapes Go.WideShapes Go.ChangeAt Go.RowKit Go.Vc
set_option maxRecDepth 100000 in
theorem storeMoves_lifted (os : Os) (started : os.Started) (H : Type) (enc : TypeId × Value → H) :
    ReturnsInHanded {} Tryz.checked os 5 .any (fun w args => (Rows.storeMovesSpec.pre enc Tryz.prog Tryz.f5 Rows.storeMovesRow.domain false w args ∧ laidMetH Tryz.prog Rows.storeMovesRow.laid w) ∧ sizedMet enc Tryz.prog Tryz.f5 (OpenSpec.ofChange Rows.storeMovesSpec) false w args) (Rows.storeMovesSpec.post enc Tryz.prog Tryz.f5 false true false false) := by
  refine law_row_laid (fun w => laidMetH Tryz.prog Rows.storeMovesRow.laid w) (fun _ _ hh h => h.of_heap hh) (C := Tryz.checked) (t := 4) (by kernel_rfl) started (by kernel_rfl) Tryz.func5
    (ChangeSpec.witness_shaped (enc := enc) (C := Tryz.checked) (os := os) (X := fun w _ => laidMetH Tryz.prog Rows.storeMovesRow.laid w) false (World.laidAll Tryz.prog os Rows.storeMovesRow.laid) #[.slice none 0 0, .int .i64 0] 8 (World.laidAll_os _ _ _)
      (World.shaped_of_ZipB (by kernel_rfl) (by kernel_rfl)) (by kernel_rfl) (by kernel_rfl) (by kernel_rfl)
      (by rw [MakeChecks.laidMetH_plain _ _ _ (by kernel_rfl)]; exact laidMet_laidAll _ (by kernel_rfl) (by kernel_rfl))) rfl (by kernel_rfl) (by kernel_rfl) (by kernel_rfl) (by kernel_rfl) ?_ ?_
  · intro ds hd
    match ds, hd with
    | [_, _], _ => rfl
  · intro W args ds ps hA0 hval0 hz0
    have hA : DataW.TrodAll enc Tryz.prog W 0 (fun _ => true) true Tryz.f5.params.toList args.toList ds ps := hA0
    have hval : ∀ (j : Nat) t v, Tryz.f5.params[j]? = some t → args[j]? = some v → ∃ base, Value.okWide Tryz.prog W .any base t v := hval0
    have hz : (DataW.weightsEach Tryz.prog Tryz.f5.params.toList ds).all (· ≤ reachBytes) = true := hz0
    clear hA0 hval0 hz0
    rw [Tryz.params5] at hA hval hz
    obtain ⟨v0, v1, d0, d1, p0, p1, rfl, rfl, rfl, h0, h1⟩ := trodAll_two hA
    obtain ⟨A0, c0, x0, rfl, r0, b0, m0⟩ := arg_bytes (r := .any) (by kernel_rfl : Tryz.prog.underlying 23 = some (.slice 5)) (by kernel_rfl : Tryz.prog.underlying 5 = some (.int .u8)) (by kernel_rfl) (hval 0 23 v0 rfl rfl) h0
    have z0 := sized_len (j := 0) hz (by kernel_rfl : Tryz.prog.underlying 23 = some (.slice 5)) rfl rfl h0
    rw [(by kernel_rfl : Tryz.prog.bytesOf 5 = 1)] at z0
    unfold reachBytes at z0
    obtain ⟨x1, rfl, g1⟩ := arg_int (r := .any) (by kernel_rfl : Tryz.prog.underlying 3 = some (.int .i64)) (hval 1 3 v1 rfl rfl) h1
    have g1 := i64_wf g1
    exact moves_law x0 A0 c0 x1 W r0 b0 (by omega)
theorem storeMoves_f1 : (Rows.storeMovesRow.inPlace == Tryz.pinned.checked.prog.inPlace 5) = true := by kernel_rfl
theorem storeMoves_f2 : (Rows.storeMovesRow.unfollowed == Tryz.pinned.checked.prog.unfollowed 5) = true := by kernel_rfl
theorem storeMoves_f3 : (Rows.storeMovesRow.recurses == Tryz.pinned.checked.prog.recurses 5) = true := by kernel_rfl
theorem storeMoves_f4 : (Rows.storeMovesRow.named == Tryz.pinned.checked.prog.varsNamed 5) = true := by kernel_rfl
theorem storeMoves_closed : joinedFacts Tryz.pinned.checked.prog 5 Tryz.f5 Rows.storeMovesSpec Rows.storeMovesRow = true := by
  unfold joinedFacts
  rw [storeMoves_f1, storeMoves_f2, storeMoves_f3, storeMoves_f4]
  kernel_rfl
theorem storeMoves_c1 : Tryz.pinned.checked.prog.mainIs = some (Rows.storeMovesCard.stood.harness.1, Rows.storeMovesCard.stood.harness.2.toList) := by kernel_rfl
theorem storeMoves_c2 : false = Tryz.pinned.checked.prog.looks [] := by kernel_rfl
theorem storeMoves_c3 : false = Rows.storeMovesRow.goesBy Tryz.pinned.checked.prog := by kernel_rfl
theorem storeMoves_c4 : Rows.storeMovesRow.wfByText (OpenSpec.ofChange Rows.storeMovesSpec) = true := by kernel_rfl
theorem storeMoves_holds : Rows.StoreMovesSaid :=
  OpenClaim.holds_of_wide 5 Tryz.f5 rfl rfl rfl rfl rfl rfl rfl ⟨rfl, rfl, rfl, rfl, rfl⟩ rfl rfl rfl rfl rfl (by kernel_rfl) Tryz.func5 storeMoves_closed
    (of_decide_eq_true (by kernel_rfl)) (by unfold Func.isWrapper; rw [if_neg (of_decide_eq_false (by kernel_rfl))]; exact ⟨rfl, rfl⟩)
    (fun os started H enc _ => storeMoves_lifted os started H enc)
theorem storeMoves_card : Rows.StoreMovesCardSaid :=
  Claim7.holds_tied_plain_at .later [] [.data, .pinned] true Rows.storeMovesCard.stood.harness false storeMoves_holds (fun _ h => by cases h) (by kernel_rfl) (fun _ h => by cases h) storeMoves_row_tie rfl ⟨rfl, rfl⟩ (by kernel_rfl) rfl
    (fun f fn hf hfn => by
      obtain rfl : f = 5 := Option.some.inj ((show Tryz.prog.funcNamed "letterbox/letterboxlaw14.StoreMoves" = some 5 by kernel_rfl).symm.trans hf) |>.symm
      obtain rfl : fn = Tryz.f5 := (Option.some.inj (Tryz.func5.symm.trans hfn)).symm
      exact ⟨storeMoves_c2, fun j t ht => by
        rw [Tryz.params5] at ht
        have hm : t ∈ [23, 3] := by simpa using Array.mem_of_getElem? ht
        have hall : ([23, 3].all fun u => !Tryz.prog.wantsStandIn u) = true := by kernel_rfl
        exact (show Tryz.prog.wantsStandIn t = false by simpa using List.all_eq_true.1 hall t hm)⟩)
    storeMoves_c3
#print axioms storeMoves_card
end Go.Proofs.YtipdndmfngpbfaaGreatDoor
