/-
  StoreBack: the row of its statement proved, out of the walk. By the session itself.
-/
import Derived.Test.YtellahclbhfdiaaGreatDoorRows
import Derived.Test.YtellahclbhfdiaaGreatDoorQ03
import Derived.Test.YtellahclbhfdiaaGreatDoorTie
import Derived.Test.YtellahclbhfdiaaGreatDoorCards
import Derived.MakeChecks
import Derived.Test.YtellahclbhfdiaaGreatDoorQ40
namespace Go.Proofs.YtellahclbhfdiaaGreatDoor
set_option linter.unusedSimpArgs false
set_option linter.unusedVariables false
set_option maxRecDepth 100000
open Go.ChangeShapes Go.WideShapes Go.ChangeAt Go.RowKit Go.Vc
set_option maxRecDepth 100000 in
theorem storeBack_lifted (os : Os) (started : os.Started) (H : Type) (enc : TypeId × Value → H) :
    ReturnsInHanded {} Tryz.checked os 4 .any (fun w args => (Rows.storeBackSpec.pre enc Tryz.prog Tryz.f4 Rows.storeBackRow.domain false w args ∧ laidMetH Tryz.prog Rows.storeBackRow.laid w) ∧ sizedMet enc Tryz.prog Tryz.f4 (OpenSpec.ofChange Rows.storeBackSpec) false w args) (Rows.storeBackSpec.post enc Tryz.prog Tryz.f4 false true false false) := by
  refine law_row_laid (fun w => laidMetH Tryz.prog Rows.storeBackRow.laid w) (fun _ _ hh h => h.of_heap hh) (C := Tryz.checked) (t := 4) (by kernel_rfl) started (by kernel_rfl) Tryz.func4
    (ChangeSpec.witness_shaped (enc := enc) (C := Tryz.checked) (os := os) (X := fun w _ => laidMetH Tryz.prog Rows.storeBackRow.laid w) false (World.laidAll Tryz.prog os Rows.storeBackRow.laid) #[.agg #[.int .i64 0, .string ⟨#[]⟩, .string ⟨#[]⟩, .string ⟨#[]⟩, .string ⟨#[]⟩, .slice none 0 0, .int .i64 0, .int .i64 0, .int .i64 0, .slice none 0 0], .int .i64 0, .slice none 0 0] 8 (World.laidAll_os _ _ _)
      (World.shaped_of_ZipB (by kernel_rfl) (by kernel_rfl)) (by kernel_rfl) (by kernel_rfl) (by kernel_rfl)
      (by rw [MakeChecks.laidMetH_plain _ _ _ (by kernel_rfl)]; exact laidMet_laidAll _ (by kernel_rfl) (by kernel_rfl))) rfl (by kernel_rfl) (by kernel_rfl) (by kernel_rfl) (by kernel_rfl) ?_ ?_
  · intro ds hd
    match ds, hd with
    | [_, _, _], _ => rfl
  · intro W args ds ps hA0 hval0 hz0
    have hA : DataW.TrodAll enc Tryz.prog W 0 (fun _ => true) true Tryz.f4.params.toList args.toList ds ps := hA0
    have hval : ∀ (j : Nat) t v, Tryz.f4.params[j]? = some t → args[j]? = some v → ∃ base, Value.okWide Tryz.prog W .any base t v := hval0
    have hz : (DataW.weightsEach Tryz.prog Tryz.f4.params.toList ds).all (· ≤ reachBytes) = true := hz0
    clear hA0 hval0 hz0
    rw [Tryz.params4] at hA hval hz
    obtain ⟨v0, v1, v2, d0, d1, d2, p0, p1, p2, rfl, rfl, rfl, h0, h1, h2⟩ := trodAll_three hA
    obtain ⟨x0, rfl, g0⟩ := arg_chg (j := 0) (r := .any) hz rfl rfl (ti := 3) (ts := 9) (tl := 22) (tb := 23) (tu := 5) (by kernel_rfl) (by kernel_rfl) (by kernel_rfl) (by kernel_rfl) (by kernel_rfl) (by kernel_rfl) (by kernel_rfl) (by kernel_rfl) (by kernel_rfl) (by kernel_rfl) (by kernel_rfl) (by kernel_rfl) (by kernel_rfl) (by kernel_rfl) (hval 0 25 v0 rfl rfl) h0
    obtain ⟨x1, rfl, g1⟩ := arg_int (r := .any) (by kernel_rfl : Tryz.prog.underlying 3 = some (.int .i64)) (hval 1 3 v1 rfl rfl) h1
    have g1 := i64_wf g1
    obtain ⟨A2, c2, x2, rfl, r2, b2, m2⟩ := arg_bytes (r := .any) (by kernel_rfl : Tryz.prog.underlying 23 = some (.slice 5)) (by kernel_rfl : Tryz.prog.underlying 5 = some (.int .u8)) (by kernel_rfl) (hval 2 23 v2 rfl rfl) h2
    have z2 := sized_len (j := 2) hz (by kernel_rfl : Tryz.prog.underlying 23 = some (.slice 5)) rfl rfl h2
    rw [(by kernel_rfl : Tryz.prog.bytesOf 5 = 1)] at z2
    unfold reachBytes at z2
    exact stback_law x0 x1 x2 A2 c2 _ g0 g1 r2
theorem storeBack_f1 : (Rows.storeBackRow.inPlace == Tryz.pinned.checked.prog.inPlace 4) = true := by kernel_rfl
theorem storeBack_f2 : (Rows.storeBackRow.unfollowed == Tryz.pinned.checked.prog.unfollowed 4) = true := by kernel_rfl
theorem storeBack_f3 : (Rows.storeBackRow.recurses == Tryz.pinned.checked.prog.recurses 4) = true := by kernel_rfl
theorem storeBack_f4 : (Rows.storeBackRow.named == Tryz.pinned.checked.prog.varsNamed 4) = true := by kernel_rfl
theorem storeBack_closed : joinedFacts Tryz.pinned.checked.prog 4 Tryz.f4 Rows.storeBackSpec Rows.storeBackRow = true := by
  unfold joinedFacts
  rw [storeBack_f1, storeBack_f2, storeBack_f3, storeBack_f4]
  kernel_rfl
theorem storeBack_c1 : Tryz.pinned.checked.prog.mainIs = some (Rows.storeBackCard.stood.harness.1, Rows.storeBackCard.stood.harness.2.toList) := by kernel_rfl
theorem storeBack_c2 : false = Tryz.pinned.checked.prog.looks [] := by kernel_rfl
theorem storeBack_c3 : false = Rows.storeBackRow.goesBy Tryz.pinned.checked.prog := by kernel_rfl
theorem storeBack_c4 : Rows.storeBackRow.wfByText (OpenSpec.ofChange Rows.storeBackSpec) = true := by kernel_rfl
theorem storeBack_holds : Rows.StoreBackSaid :=
  OpenClaim.holds_of_wide 4 Tryz.f4 rfl rfl rfl rfl rfl rfl rfl ⟨rfl, rfl, rfl, rfl, rfl⟩ rfl rfl rfl rfl rfl (by kernel_rfl) Tryz.func4 storeBack_closed
    (of_decide_eq_true (by kernel_rfl)) (by unfold Func.isWrapper; rw [if_neg (of_decide_eq_false (by kernel_rfl))]; exact ⟨rfl, rfl⟩)
    (fun os started H enc _ => storeBack_lifted os started H enc)
theorem storeBack_card : Rows.StoreBackCardSaid :=
  Claim7.holds_tied_plain_at .later [] [.data, .pinned] true Rows.storeBackCard.stood.harness false storeBack_holds (fun _ h => by cases h) (by kernel_rfl) (fun _ h => by cases h) storeBack_row_tie rfl ⟨rfl, rfl⟩ (by kernel_rfl) rfl
    (fun f fn hf hfn => by
      obtain rfl : f = 4 := Option.some.inj ((show Tryz.prog.funcNamed "letterbox/letterboxlaw14.StoreBack" = some 4 by kernel_rfl).symm.trans hf) |>.symm
      obtain rfl : fn = Tryz.f4 := (Option.some.inj (Tryz.func4.symm.trans hfn)).symm
      exact ⟨storeBack_c2, fun j t ht => by
        rw [Tryz.params4] at ht
        have hm : t ∈ [25, 3, 23] := by simpa using Array.mem_of_getElem? ht
        have hall : ([25, 3, 23].all fun u => !Tryz.prog.wantsStandIn u) = true := by kernel_rfl
        exact (show Tryz.prog.wantsStandIn t = false by simpa using List.all_eq_true.1 hall t hm)⟩)
    storeBack_c3
#print axioms storeBack_card
end Go.Proofs.YtellahclbhfdiaaGreatDoor
