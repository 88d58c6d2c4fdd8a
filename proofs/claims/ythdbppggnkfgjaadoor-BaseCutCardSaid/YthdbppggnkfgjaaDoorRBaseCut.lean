/-
  BaseCut: the row of its statement proved, out of the walk. By the session itself.
-/
import Derived.Test.YthdbppggnkfgjaaDoorRows
import Derived.Test.YthdbppggnkfgjaaDoorLaw
import Derived.Test.YthdbppggnkfgjaaDoorLawc
import Derived.Test.YthdbppggnkfgjaaDoorTie
import Derived.Test.YthdbppggnkfgjaaDoorCards
import Derived.MakeChecks
import Derived.Test.YthdbppggnkfgjaaDoorBaI
namespace Go.Proofs.YthdbppggnkfgjaaDoor
set_option linter.unusedSimpArgs false
set_option linter.unusedVariables false
set_option maxRecDepth 100000
open Go.ChangeShapes Go.WideShapes Go.ChangeAt Go.RowKit Go.Vc
set_option maxRecDepth 100000 in
theorem baseCut_lifted (os : Os) (started : os.Started) (H : Type) (enc : TypeId × Value → H) :
    ReturnsInHanded {} Tryd.checked os 6 .any (fun w args => (Rows.baseCutSpec.pre enc Tryd.prog Tryd.f6 Rows.baseCutRow.domain false w args ∧ laidMetH Tryd.prog Rows.baseCutRow.laid w) ∧ sizedMet enc Tryd.prog Tryd.f6 (OpenSpec.ofChange Rows.baseCutSpec) false w args) (Rows.baseCutSpec.post enc Tryd.prog Tryd.f6 false true false false) := by
  refine law_row_laid (fun w => laidMetH Tryd.prog Rows.baseCutRow.laid w) (fun _ _ hh h => h.of_heap hh) (C := Tryd.checked) (t := 4) (by kernel_rfl) started (by kernel_rfl) Tryd.func6
    (ChangeSpec.witness_shaped (enc := enc) (C := Tryd.checked) (os := os) (X := fun w _ => laidMetH Tryd.prog Rows.baseCutRow.laid w) false (World.laidAll Tryd.prog os Rows.baseCutRow.laid) #[.slice none 0 0, .int .i64 0] 8 (World.laidAll_os _ _ _)
      (World.shaped_of_ZipB (by kernel_rfl) (by kernel_rfl)) (by kernel_rfl) (by kernel_rfl) (by kernel_rfl)
      (by rw [MakeChecks.laidMetH_plain _ _ _ (by kernel_rfl)]; exact laidMet_laidAll _ (by kernel_rfl) (by kernel_rfl))) rfl (by kernel_rfl) (by kernel_rfl) (by kernel_rfl) (by kernel_rfl) ?_ ?_
  · intro ds hd
    match ds, hd with
    | [_, _], _ => rfl
  · intro W args ds ps hA0 hval0 hz0
    have hA : DataW.TrodAll enc Tryd.prog W 0 (fun _ => true) true Tryd.f6.params.toList args.toList ds ps := hA0
    have hval : ∀ (j : Nat) t v, Tryd.f6.params[j]? = some t → args[j]? = some v → ∃ base, Value.okWide Tryd.prog W .any base t v := hval0
    have hz : (DataW.weightsEach Tryd.prog Tryd.f6.params.toList ds).all (· ≤ reachBytes) = true := hz0
    clear hA0 hval0 hz0
    rw [Tryd.params6] at hA hval hz
    obtain ⟨v0, v1, d0, d1, p0, p1, rfl, rfl, rfl, h0, h1⟩ := trodAll_two hA
    obtain ⟨A0, c0, x0, rfl, r0, b0, m0⟩ := arg_bytes (r := .any) (by kernel_rfl : Tryd.prog.underlying 22 = some (.slice 5)) (by kernel_rfl : Tryd.prog.underlying 5 = some (.int .u8)) (by kernel_rfl) (hval 0 22 v0 rfl rfl) h0
    have z0 := sized_len (j := 0) hz (by kernel_rfl : Tryd.prog.underlying 22 = some (.slice 5)) rfl rfl h0
    rw [(by kernel_rfl : Tryd.prog.bytesOf 5 = 1)] at z0
    unfold reachBytes at z0
    obtain ⟨x1, rfl, g1⟩ := arg_int (r := .any) (by kernel_rfl : Tryd.prog.underlying 3 = some (.int .i64)) (hval 1 3 v1 rfl rfl) h1
    have g1 := i64_wf g1
    exact cut_law x0 x1 A0 c0 W r0 b0
theorem baseCut_holds : Rows.BaseCutSaid :=
  OpenClaim.holds_of_wide 6 Tryd.f6 rfl rfl rfl rfl rfl rfl rfl ⟨rfl, rfl, rfl, rfl, rfl⟩ rfl rfl rfl rfl rfl (by kernel_rfl) Tryd.func6 (by kernel_rfl)
    (of_decide_eq_true (by kernel_rfl)) (by unfold Func.isWrapper; rw [if_neg (of_decide_eq_false (by kernel_rfl))]; exact ⟨rfl, rfl⟩)
    (fun os started H enc _ => baseCut_lifted os started H enc)
theorem baseCut_card : Rows.BaseCutCardSaid :=
  Claim7.holds_tied_plain_at .later [] [.data, .pinned] true Rows.baseCutCard.stood.harness false baseCut_holds (fun _ h => by cases h) (by kernel_rfl) (fun _ h => by cases h) baseCut_row_tie rfl ⟨rfl, rfl⟩ (by kernel_rfl) rfl
    (fun f fn hf hfn => by
      obtain rfl : f = 6 := Option.some.inj ((show Tryd.prog.funcNamed "letterbox/letterboxlaw7.BaseCut" = some 6 by kernel_rfl).symm.trans hf) |>.symm
      obtain rfl : fn = Tryd.f6 := (Option.some.inj (Tryd.func6.symm.trans hfn)).symm
      exact ⟨by kernel_rfl, fun j t ht => by
        rw [Tryd.params6] at ht
        have hm : t ∈ [22, 3] := by simpa using Array.mem_of_getElem? ht
        have hall : ([22, 3].all fun u => !Tryd.prog.wantsStandIn u) = true := by kernel_rfl
        exact (show Tryd.prog.wantsStandIn t = false by simpa using List.all_eq_true.1 hall t hm)⟩)
    (by kernel_rfl)
#print axioms baseCut_card
end Go.Proofs.YthdbppggnkfgjaaDoor
