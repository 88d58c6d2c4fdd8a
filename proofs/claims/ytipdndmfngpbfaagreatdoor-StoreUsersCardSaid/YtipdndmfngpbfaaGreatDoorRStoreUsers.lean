/-
  StoreUsers: the row of its statement proved, out of the walk. By the session itself.
-/
import Derived.Test.YtipdndmfngpbfaaGreatDoorRows
import Derived.Test.YtipdndmfngpbfaaGreatDoorQ03
import Derived.Test.YtipdndmfngpbfaaGreatDoorTie
import Derived.Test.YtipdndmfngpbfaaGreatDoorCards
import Derived.MakeChecks
import Derived.Test.YtipdndmfngpbfaaGreatDoorQ36
namespace Go.Proofs.YtipdndmfngpbfaaGreatDoor
set_option linter.unusedSimpArgs false
set_option linter.unusedVariables false
set_option maxRecDepth 100000
open Go.ChangeShapes Go.WideShapes Go.ChangeAt Go.RowKit Go.Vc
set_option maxRecDepth 100000 in
theorem storeUsers_lifted (os : Os) (started : os.Started) (H : Type) (enc : TypeId × Value → H) :
    ReturnsInHanded {} Tryz.checked os 7 .any (fun w args => (Rows.storeUsersSpec.pre enc Tryz.prog Tryz.f7 Rows.storeUsersRow.domain false w args ∧ laidMetH Tryz.prog Rows.storeUsersRow.laid w) ∧ sizedMet enc Tryz.prog Tryz.f7 (OpenSpec.ofChange Rows.storeUsersSpec) false w args) (Rows.storeUsersSpec.post enc Tryz.prog Tryz.f7 false true false false) := by
  refine law_row_laid (fun w => laidMetH Tryz.prog Rows.storeUsersRow.laid w) (fun _ _ hh h => h.of_heap hh) (C := Tryz.checked) (t := 4) (by kernel_rfl) started (by kernel_rfl) Tryz.func7
    (ChangeSpec.witness_shaped (enc := enc) (C := Tryz.checked) (os := os) (X := fun w _ => laidMetH Tryz.prog Rows.storeUsersRow.laid w) false (World.laidAll Tryz.prog os Rows.storeUsersRow.laid) #[.slice none 0 0] 8 (World.laidAll_os _ _ _)
      (World.shaped_of_ZipB (by kernel_rfl) (by kernel_rfl)) (by kernel_rfl) (by kernel_rfl) (by kernel_rfl)
      (by rw [MakeChecks.laidMetH_plain _ _ _ (by kernel_rfl)]; exact laidMet_laidAll _ (by kernel_rfl) (by kernel_rfl))) rfl (by kernel_rfl) (by kernel_rfl) (by kernel_rfl) (by kernel_rfl) ?_ ?_
  · intro ds hd
    match ds, hd with
    | [_], _ => rfl
  · intro W args ds ps hA0 hval0 hz0
    have hA : DataW.TrodAll enc Tryz.prog W 0 (fun _ => true) true Tryz.f7.params.toList args.toList ds ps := hA0
    have hval : ∀ (j : Nat) t v, Tryz.f7.params[j]? = some t → args[j]? = some v → ∃ base, Value.okWide Tryz.prog W .any base t v := hval0
    have hz : (DataW.weightsEach Tryz.prog Tryz.f7.params.toList ds).all (· ≤ reachBytes) = true := hz0
    clear hA0 hval0 hz0
    rw [Tryz.params7] at hA hval hz
    obtain ⟨v0, d0, rfl, rfl, h0⟩ := trodAll_one hA
    obtain ⟨A0, c0, x0, rfl, r0, b0, m0, l0⟩ := arg_strs (j := 0) (r := .any) hz rfl rfl (by kernel_rfl : Tryz.prog.underlying 60 = some (.slice 9)) (by kernel_rfl : Tryz.prog.underlying 9 = some .string) (by kernel_rfl) (hval 0 60 v0 rfl rfl) h0
    have z0 := sized_len (j := 0) hz (by kernel_rfl : Tryz.prog.underlying 60 = some (.slice 9)) rfl rfl h0
    rw [(by kernel_rfl : Tryz.prog.bytesOf 9 = 16)] at z0
    unfold reachBytes at z0
    exact users_law x0 A0 c0 W r0 b0 l0 (by omega)
theorem storeUsers_f1 : (Rows.storeUsersRow.inPlace == Tryz.pinned.checked.prog.inPlace 7) = true := by kernel_rfl
theorem storeUsers_f2 : (Rows.storeUsersRow.unfollowed == Tryz.pinned.checked.prog.unfollowed 7) = true := by kernel_rfl
theorem storeUsers_f3 : (Rows.storeUsersRow.recurses == Tryz.pinned.checked.prog.recurses 7) = true := by kernel_rfl
theorem storeUsers_f4 : (Rows.storeUsersRow.named == Tryz.pinned.checked.prog.varsNamed 7) = true := by kernel_rfl
theorem storeUsers_closed : joinedFacts Tryz.pinned.checked.prog 7 Tryz.f7 Rows.storeUsersSpec Rows.storeUsersRow = true := by
  unfold joinedFacts
  rw [storeUsers_f1, storeUsers_f2, storeUsers_f3, storeUsers_f4]
  kernel_rfl
theorem storeUsers_c1 : Tryz.pinned.checked.prog.mainIs = some (Rows.storeUsersCard.stood.harness.1, Rows.storeUsersCard.stood.harness.2.toList) := by kernel_rfl
theorem storeUsers_c2 : false = Tryz.pinned.checked.prog.looks [] := by kernel_rfl
theorem storeUsers_c3 : false = Rows.storeUsersRow.goesBy Tryz.pinned.checked.prog := by kernel_rfl
theorem storeUsers_c4 : Rows.storeUsersRow.wfByText (OpenSpec.ofChange Rows.storeUsersSpec) = true := by kernel_rfl
theorem storeUsers_holds : Rows.StoreUsersSaid :=
  OpenClaim.holds_of_wide 7 Tryz.f7 rfl rfl rfl rfl rfl rfl rfl ⟨rfl, rfl, rfl, rfl, rfl⟩ rfl rfl rfl rfl rfl (by kernel_rfl) Tryz.func7 storeUsers_closed
    (of_decide_eq_true (by kernel_rfl)) (by unfold Func.isWrapper; rw [if_neg (of_decide_eq_false (by kernel_rfl))]; exact ⟨rfl, rfl⟩)
    (fun os started H enc _ => storeUsers_lifted os started H enc)
theorem storeUsers_card : Rows.StoreUsersCardSaid :=
  Claim7.holds_tied_plain_at .later [] [.data, .pinned] true Rows.storeUsersCard.stood.harness false storeUsers_holds (fun _ h => by cases h) (by kernel_rfl) (fun _ h => by cases h) storeUsers_row_tie rfl ⟨rfl, rfl⟩ (by kernel_rfl) rfl
    (fun f fn hf hfn => by
      obtain rfl : f = 7 := Option.some.inj ((show Tryz.prog.funcNamed "letterbox/letterboxlaw14.StoreUsers" = some 7 by kernel_rfl).symm.trans hf) |>.symm
      obtain rfl : fn = Tryz.f7 := (Option.some.inj (Tryz.func7.symm.trans hfn)).symm
      exact ⟨storeUsers_c2, fun j t ht => by
        rw [Tryz.params7] at ht
        have hm : t ∈ [60] := by simpa using Array.mem_of_getElem? ht
        have hall : ([60].all fun u => !Tryz.prog.wantsStandIn u) = true := by kernel_rfl
        exact (show Tryz.prog.wantsStandIn t = false by simpa using List.all_eq_true.1 hall t hm)⟩)
    storeUsers_c3
#print axioms storeUsers_card
end Go.Proofs.YtipdndmfngpbfaaGreatDoor
