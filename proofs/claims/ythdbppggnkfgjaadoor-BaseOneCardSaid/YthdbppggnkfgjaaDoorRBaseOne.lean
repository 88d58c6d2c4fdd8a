/-
  BaseOne: the row of its statement proved, out of the walk. By the session itself.
-/
import Derived.Test.YthdbppggnkfgjaaDoorRows
import Derived.Test.YthdbppggnkfgjaaDoorLaw
import Derived.Test.YthdbppggnkfgjaaDoorLawc
import Derived.Test.YthdbppggnkfgjaaDoorTie
import Derived.Test.YthdbppggnkfgjaaDoorCards
import Derived.MakeChecks
import Derived.Test.YthdbppggnkfgjaaDoorBaI
namespace Go.Proofs.YthdbppggnkfgjaaDoor
set_option linter.unusedSimpArgs false
set_option linter.unusedVariables false
set_option maxRecDepth 100000
open Go.ChangeShapes Go.WideShapes Go.ChangeAt Go.RowKit Go.Vc
set_option maxRecDepth 100000 in
theorem baseOne_lifted (os : Os) (started : os.Started) (H : Type) (enc : TypeId × Value → H) :
    ReturnsInHanded {} Tryd.checked os 5 .any (fun w args => (Rows.baseOneSpec.pre enc Tryd.prog Tryd.f5 Rows.baseOneRow.domain false w args ∧ laidMetH Tryd.prog Rows.baseOneRow.laid w) ∧ sizedMet enc Tryd.prog Tryd.f5 (OpenSpec.ofChange Rows.baseOneSpec) false w args) (Rows.baseOneSpec.post enc Tryd.prog Tryd.f5 false true false false) := by
  refine law_row_laid (fun w => laidMetH Tryd.prog Rows.baseOneRow.laid w) (fun _ _ hh h => h.of_heap hh) (C := Tryd.checked) (t := 4) (by kernel_rfl) started (by kernel_rfl) Tryd.func5
    (ChangeSpec.witness_shaped (enc := enc) (C := Tryd.checked) (os := os) (X := fun w _ => laidMetH Tryd.prog Rows.baseOneRow.laid w) false (World.laidAll Tryd.prog os Rows.baseOneRow.laid) #[.string ⟨#[]⟩] 8 (World.laidAll_os _ _ _)
      (World.shaped_of_ZipB (by kernel_rfl) (by kernel_rfl)) (by kernel_rfl) (by kernel_rfl) (by kernel_rfl)
      (by rw [MakeChecks.laidMetH_plain _ _ _ (by kernel_rfl)]; exact laidMet_laidAll _ (by kernel_rfl) (by kernel_rfl))) rfl (by kernel_rfl) (by kernel_rfl) (by kernel_rfl) (by kernel_rfl) ?_ ?_
  · intro ds hd
    match ds, hd with
    | [_], _ => rfl
  · intro W args ds ps hA0 hval0 hz0
    have hA : DataW.TrodAll enc Tryd.prog W 0 (fun _ => true) true Tryd.f5.params.toList args.toList ds ps := hA0
    have hval : ∀ (j : Nat) t v, Tryd.f5.params[j]? = some t → args[j]? = some v → ∃ base, Value.okWide Tryd.prog W .any base t v := hval0
    have hz : (DataW.weightsEach Tryd.prog Tryd.f5.params.toList ds).all (· ≤ reachBytes) = true := hz0
    clear hA0 hval0 hz0
    rw [Tryd.params5] at hA hval hz
    obtain ⟨v0, d0, rfl, rfl, h0⟩ := trodAll_one hA
    obtain ⟨x0, rfl, z0⟩ := arg_str_z (j := 0) (r := .any) hz rfl rfl (by kernel_rfl : Tryd.prog.underlying 9 = some .string) (hval 0 9 v0 rfl rfl) h0
    unfold reachBytes at z0
    exact one_law x0.data.toList W
theorem baseOne_holds : Rows.BaseOneSaid :=
  OpenClaim.holds_of_wide 5 Tryd.f5 rfl rfl rfl rfl rfl rfl rfl ⟨rfl, rfl, rfl, rfl, rfl⟩ rfl rfl rfl rfl rfl (by kernel_rfl) Tryd.func5 (by kernel_rfl)
    (of_decide_eq_true (by kernel_rfl)) (by unfold Func.isWrapper; rw [if_neg (of_decide_eq_false (by kernel_rfl))]; exact ⟨rfl, rfl⟩)
    (fun os started H enc _ => baseOne_lifted os started H enc)
theorem baseOne_card : Rows.BaseOneCardSaid :=
  Claim7.holds_tied_plain_at .later [] [.data, .pinned] true Rows.baseOneCard.stood.harness false baseOne_holds (fun _ h => by cases h) (by kernel_rfl) (fun _ h => by cases h) baseOne_row_tie rfl ⟨rfl, rfl⟩ (by kernel_rfl) rfl
    (fun f fn hf hfn => by
      obtain rfl : f = 5 := Option.some.inj ((show Tryd.prog.funcNamed "letterbox/letterboxlaw7.BaseOne" = some 5 by kernel_rfl).symm.trans hf) |>.symm
      obtain rfl : fn = Tryd.f5 := (Option.some.inj (Tryd.func5.symm.trans hfn)).symm
      exact ⟨by kernel_rfl, fun j t ht => by
        rw [Tryd.params5] at ht
        have hm : t ∈ [9] := by simpa using Array.mem_of_getElem? ht
        have hall : ([9].all fun u => !Tryd.prog.wantsStandIn u) = true := by kernel_rfl
        exact (show Tryd.prog.wantsStandIn t = false by simpa using List.all_eq_true.1 hall t hm)⟩)
    (by kernel_rfl)
#print axioms baseOne_card
end Go.Proofs.YthdbppggnkfgjaaDoor
