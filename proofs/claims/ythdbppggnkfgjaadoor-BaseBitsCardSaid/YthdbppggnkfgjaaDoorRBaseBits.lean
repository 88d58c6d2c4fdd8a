/-
  BaseBits: the row of its statement proved, out of the walk. By the session itself.
-/
import Derived.Test.YthdbppggnkfgjaaDoorRows
import Derived.Test.YthdbppggnkfgjaaDoorLaw
import Derived.Test.YthdbppggnkfgjaaDoorLawc
import Derived.Test.YthdbppggnkfgjaaDoorTie
import Derived.Test.YthdbppggnkfgjaaDoorCards
import Derived.MakeChecks
import Derived.Test.YthdbppggnkfgjaaDoorBaI
namespace Go.Proofs.YthdbppggnkfgjaaDoor
set_option linter.unusedSimpArgs false
set_option linter.unusedVariables false
set_option maxRecDepth 100000
open Go.ChangeShapes Go.WideShapes Go.ChangeAt Go.RowKit Go.Vc
set_option maxRecDepth 100000 in
theorem baseBits_lifted (os : Os) (started : os.Started) (H : Type) (enc : TypeId × Value → H) :
    ReturnsInHanded {} Tryd.checked os 7 .any (fun w args => (Rows.baseBitsSpec.pre enc Tryd.prog Tryd.f7 Rows.baseBitsRow.domain false w args ∧ laidMetH Tryd.prog Rows.baseBitsRow.laid w) ∧ sizedMet enc Tryd.prog Tryd.f7 (OpenSpec.ofChange Rows.baseBitsSpec) false w args) (Rows.baseBitsSpec.post enc Tryd.prog Tryd.f7 false true false false) := by
  refine law_row_laid (fun w => laidMetH Tryd.prog Rows.baseBitsRow.laid w) (fun _ _ hh h => h.of_heap hh) (C := Tryd.checked) (t := 4) (by kernel_rfl) started (by kernel_rfl) Tryd.func7
    (ChangeSpec.witness_shaped (enc := enc) (C := Tryd.checked) (os := os) (X := fun w _ => laidMetH Tryd.prog Rows.baseBitsRow.laid w) false (World.laidAll Tryd.prog os Rows.baseBitsRow.laid) #[.int .u8 0, .int .i64 0] 8 (World.laidAll_os _ _ _)
      (World.shaped_of_ZipB (by kernel_rfl) (by kernel_rfl)) (by kernel_rfl) (by kernel_rfl) (by kernel_rfl)
      (by rw [MakeChecks.laidMetH_plain _ _ _ (by kernel_rfl)]; exact laidMet_laidAll _ (by kernel_rfl) (by kernel_rfl))) rfl (by kernel_rfl) (by kernel_rfl) (by kernel_rfl) (by kernel_rfl) ?_ ?_
  · intro ds hd
    match ds, hd with
    | [_, _], _ => rfl
  · intro W args ds ps hA0 hval0 hz0
    have hA : DataW.TrodAll enc Tryd.prog W 0 (fun _ => true) true Tryd.f7.params.toList args.toList ds ps := hA0
    have hval : ∀ (j : Nat) t v, Tryd.f7.params[j]? = some t → args[j]? = some v → ∃ base, Value.okWide Tryd.prog W .any base t v := hval0
    have hz : (DataW.weightsEach Tryd.prog Tryd.f7.params.toList ds).all (· ≤ reachBytes) = true := hz0
    clear hA0 hval0 hz0
    rw [Tryd.params7] at hA hval hz
    obtain ⟨v0, v1, d0, d1, p0, p1, rfl, rfl, rfl, h0, h1⟩ := trodAll_two hA
    obtain ⟨y0, rfl, g0⟩ := arg_int (r := .any) (by kernel_rfl : Tryd.prog.underlying 5 = some (.int .u8)) (hval 0 5 v0 rfl rfl) h0
    have g0 := u8_wf g0
    obtain ⟨x0, rfl⟩ : ∃ n : Nat, y0 = n := ⟨y0.toNat, by omega⟩
    obtain ⟨x1, rfl, g1⟩ := arg_int (r := .any) (by kernel_rfl : Tryd.prog.underlying 3 = some (.int .i64)) (hval 1 3 v1 rfl rfl) h1
    have g1 := i64_wf g1
    exact bits_law x0 x1 (by omega) W
theorem baseBits_holds : Rows.BaseBitsSaid :=
  OpenClaim.holds_of_wide 7 Tryd.f7 rfl rfl rfl rfl rfl rfl rfl ⟨rfl, rfl, rfl, rfl, rfl⟩ rfl rfl rfl rfl rfl (by kernel_rfl) Tryd.func7 (by kernel_rfl)
    (of_decide_eq_true (by kernel_rfl)) (by unfold Func.isWrapper; rw [if_neg (of_decide_eq_false (by kernel_rfl))]; exact ⟨rfl, rfl⟩)
    (fun os started H enc _ => baseBits_lifted os started H enc)
theorem baseBits_card : Rows.BaseBitsCardSaid :=
  Claim7.holds_tied_plain_at .later [] [.data, .pinned] true Rows.baseBitsCard.stood.harness false baseBits_holds (fun _ h => by cases h) (by kernel_rfl) (fun _ h => by cases h) baseBits_row_tie rfl ⟨rfl, rfl⟩ (by kernel_rfl) rfl
    (fun f fn hf hfn => by
      obtain rfl : f = 7 := Option.some.inj ((show Tryd.prog.funcNamed "letterbox/letterboxlaw7.BaseBits" = some 7 by kernel_rfl).symm.trans hf) |>.symm
      obtain rfl : fn = Tryd.f7 := (Option.some.inj (Tryd.func7.symm.trans hfn)).symm
      exact ⟨by kernel_rfl, fun j t ht => by
        rw [Tryd.params7] at ht
        have hm : t ∈ [5, 3] := by simpa using Array.mem_of_getElem? ht
        have hall : ([5, 3].all fun u => !Tryd.prog.wantsStandIn u) = true := by kernel_rfl
        exact (show Tryd.prog.wantsStandIn t = false by simpa using List.all_eq_true.1 hall t hm)⟩)
    (by kernel_rfl)
#print axioms baseBits_card
end Go.Proofs.YthdbppggnkfgjaaDoor
