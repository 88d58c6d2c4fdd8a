/-
  StoreBytes: the row of its statement proved, out of the walk. By the session itself.
-/
import Derived.Test.YtellahclbhfdiaaGreatDoorRows
import Derived.Test.YtellahclbhfdiaaGreatDoorQ03
import Derived.Test.YtellahclbhfdiaaGreatDoorTie
import Derived.Test.YtellahclbhfdiaaGreatDoorCards
import Derived.MakeChecks
import Derived.Test.YtellahclbhfdiaaGreatDoorQ40
namespace Go.Proofs.YtellahclbhfdiaaGreatDoor
set_option linter.unusedSimpArgs false
set_option linter.unusedVariables false
set_option maxRecDepth 100000
open Go.ChangeShapes Go.WideShapes Go.ChangeAt Go.RowKit Go.Vc
set_option maxRecDepth 100000 in
theorem storeBytes_lifted (os : Os) (started : os.Started) (H : Type) (enc : TypeId × Value → H) :
    ReturnsInHanded {} Tryz.checked os 3 .any (fun w args => (Rows.storeBytesSpec.pre enc Tryz.prog Tryz.f3 Rows.storeBytesRow.domain false w args ∧ laidMetH Tryz.prog Rows.storeBytesRow.laid w) ∧ sizedMet enc Tryz.prog Tryz.f3 (OpenSpec.ofChange Rows.storeBytesSpec) false w args) (Rows.storeBytesSpec.post enc Tryz.prog Tryz.f3 false true false false) := by
  refine law_row_laid (fun w => laidMetH Tryz.prog Rows.storeBytesRow.laid w) (fun _ _ hh h => h.of_heap hh) (C := Tryz.checked) (t := 4) (by kernel_rfl) started (by kernel_rfl) Tryz.func3
    (ChangeSpec.witness_shaped (enc := enc) (C := Tryz.checked) (os := os) (X := fun w _ => laidMetH Tryz.prog Rows.storeBytesRow.laid w) false (World.laidAll Tryz.prog os Rows.storeBytesRow.laid) #[.agg #[.int .i64 0, .string ⟨#[]⟩, .string ⟨#[]⟩, .string ⟨#[]⟩, .string ⟨#[]⟩, .slice none 0 0, .int .i64 0, .int .i64 0, .int .i64 0, .slice none 0 0], .slice none 0 0] 8 (World.laidAll_os _ _ _)
      (World.shaped_of_ZipB (by kernel_rfl) (by kernel_rfl)) (by kernel_rfl) (by kernel_rfl) (by kernel_rfl)
      (by rw [MakeChecks.laidMetH_plain _ _ _ (by kernel_rfl)]; exact laidMet_laidAll _ (by kernel_rfl) (by kernel_rfl))) rfl (by kernel_rfl) (by kernel_rfl) (by kernel_rfl) (by kernel_rfl) ?_ ?_
  · intro ds hd
    match ds, hd with
    | [_, _], _ => rfl
  · intro W args ds ps hA0 hval0 hz0
    have hA : DataW.TrodAll enc Tryz.prog W 0 (fun _ => true) true Tryz.f3.params.toList args.toList ds ps := hA0
    have hval : ∀ (j : Nat) t v, Tryz.f3.params[j]? = some t → args[j]? = some v → ∃ base, Value.okWide Tryz.prog W .any base t v := hval0
    have hz : (DataW.weightsEach Tryz.prog Tryz.f3.params.toList ds).all (· ≤ reachBytes) = true := hz0
    clear hA0 hval0 hz0
    rw [Tryz.params3] at hA hval hz
    obtain ⟨v0, v1, d0, d1, p0, p1, rfl, rfl, rfl, h0, h1⟩ := trodAll_two hA
    obtain ⟨x0, rfl, g0⟩ := arg_chg (j := 0) (r := .any) hz rfl rfl (ti := 3) (ts := 9) (tl := 22) (tb := 23) (tu := 5) (by kernel_rfl) (by kernel_rfl) (by kernel_rfl) (by kernel_rfl) (by kernel_rfl) (by kernel_rfl) (by kernel_rfl) (by kernel_rfl) (by kernel_rfl) (by kernel_rfl) (by kernel_rfl) (by kernel_rfl) (by kernel_rfl) (by kernel_rfl) (hval 0 25 v0 rfl rfl) h0
    obtain ⟨A1, c1, x1, rfl, r1, b1, m1⟩ := arg_bytes (r := .any) (by kernel_rfl : Tryz.prog.underlying 23 = some (.slice 5)) (by kernel_rfl : Tryz.prog.underlying 5 = some (.int .u8)) (by kernel_rfl) (hval 1 23 v1 rfl rfl) h1
    have z1 := sized_len (j := 1) hz (by kernel_rfl : Tryz.prog.underlying 23 = some (.slice 5)) rfl rfl h1
    rw [(by kernel_rfl : Tryz.prog.bytesOf 5 = 1)] at z1
    unfold reachBytes at z1
    exact stbytes_law x0 x1 A1 c1 _ g0 r1 b1
theorem storeBytes_f1 : (Rows.storeBytesRow.inPlace == Tryz.pinned.checked.prog.inPlace 3) = true := by kernel_rfl
theorem storeBytes_f2 : (Rows.storeBytesRow.unfollowed == Tryz.pinned.checked.prog.unfollowed 3) = true := by kernel_rfl
theorem storeBytes_f3 : (Rows.storeBytesRow.recurses == Tryz.pinned.checked.prog.recurses 3) = true := by kernel_rfl
theorem storeBytes_f4 : (Rows.storeBytesRow.named == Tryz.pinned.checked.prog.varsNamed 3) = true := by kernel_rfl
theorem storeBytes_closed : joinedFacts Tryz.pinned.checked.prog 3 Tryz.f3 Rows.storeBytesSpec Rows.storeBytesRow = true := by
  unfold joinedFacts
  rw [storeBytes_f1, storeBytes_f2, storeBytes_f3, storeBytes_f4]
  kernel_rfl
theorem storeBytes_c1 : Tryz.pinned.checked.prog.mainIs = some (Rows.storeBytesCard.stood.harness.1, Rows.storeBytesCard.stood.harness.2.toList) := by kernel_rfl
theorem storeBytes_c2 : false = Tryz.pinned.checked.prog.looks [] := by kernel_rfl
theorem storeBytes_c3 : false = Rows.storeBytesRow.goesBy Tryz.pinned.checked.prog := by kernel_rfl
theorem storeBytes_c4 : Rows.storeBytesRow.wfByText (OpenSpec.ofChange Rows.storeBytesSpec) = true := by kernel_rfl
theorem storeBytes_holds : Rows.StoreBytesSaid :=
  OpenClaim.holds_of_wide 3 Tryz.f3 rfl rfl rfl rfl rfl rfl rfl ⟨rfl, rfl, rfl, rfl, rfl⟩ rfl rfl rfl rfl rfl (by kernel_rfl) Tryz.func3 storeBytes_closed
    (of_decide_eq_true (by kernel_rfl)) (by unfold Func.isWrapper; rw [if_neg (of_decide_eq_false (by kernel_rfl))]; exact ⟨rfl, rfl⟩)
    (fun os started H enc _ => storeBytes_lifted os started H enc)
theorem storeBytes_card : Rows.StoreBytesCardSaid :=
  Claim7.holds_tied_plain_at .later [] [.data, .pinned] true Rows.storeBytesCard.stood.harness false storeBytes_holds (fun _ h => by cases h) (by kernel_rfl) (fun _ h => by cases h) storeBytes_row_tie rfl ⟨rfl, rfl⟩ (by kernel_rfl) rfl
    (fun f fn hf hfn => by
      obtain rfl : f = 3 := Option.some.inj ((show Tryz.prog.funcNamed "letterbox/letterboxlaw14.StoreBytes" = some 3 by kernel_rfl).symm.trans hf) |>.symm
      obtain rfl : fn = Tryz.f3 := (Option.some.inj (Tryz.func3.symm.trans hfn)).symm
      exact ⟨storeBytes_c2, fun j t ht => by
        rw [Tryz.params3] at ht
        have hm : t ∈ [25, 23] := by simpa using Array.mem_of_getElem? ht
        have hall : ([25, 23].all fun u => !Tryz.prog.wantsStandIn u) = true := by kernel_rfl
        exact (show Tryz.prog.wantsStandIn t = false by simpa using List.all_eq_true.1 hall t hm)⟩)
    storeBytes_c3
#print axioms storeBytes_card
end Go.Proofs.YtellahclbhfdiaaGreatDoor
