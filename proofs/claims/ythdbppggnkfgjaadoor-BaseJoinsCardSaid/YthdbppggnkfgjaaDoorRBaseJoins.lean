/-
  BaseJoins: the row of its statement proved, out of the walk. By the session itself.
-/
import Derived.Test.YthdbppggnkfgjaaDoorRows
import Derived.Test.YthdbppggnkfgjaaDoorLaw
import Derived.Test.YthdbppggnkfgjaaDoorLawc
import Derived.Test.YthdbppggnkfgjaaDoorTie
import Derived.Test.YthdbppggnkfgjaaDoorCards
import Derived.MakeChecks
import Derived.Test.YthdbppggnkfgjaaDoorBaI
namespace Go.Proofs.YthdbppggnkfgjaaDoor
set_option linter.unusedSimpArgs false
set_option linter.unusedVariables false
set_option maxRecDepth 100000
open Go.ChangeShapes Go.WideShapes Go.ChangeAt Go.RowKit Go.Vc
set_option maxRecDepth 100000 in
theorem baseJoins_lifted (os : Os) (started : os.Started) (H : Type) (enc : TypeId × Value → H) :
    ReturnsInHanded {} Tryd.checked os 8 .any (fun w args => (Rows.baseJoinsSpec.pre enc Tryd.prog Tryd.f8 Rows.baseJoinsRow.domain false w args ∧ laidMetH Tryd.prog Rows.baseJoinsRow.laid w) ∧ sizedMet enc Tryd.prog Tryd.f8 (OpenSpec.ofChange Rows.baseJoinsSpec) false w args) (Rows.baseJoinsSpec.post enc Tryd.prog Tryd.f8 false true false false) := by
  refine law_row_laid (fun w => laidMetH Tryd.prog Rows.baseJoinsRow.laid w) (fun _ _ hh h => h.of_heap hh) (C := Tryd.checked) (t := 4) (by kernel_rfl) started (by kernel_rfl) Tryd.func8
    (ChangeSpec.witness_shaped (enc := enc) (C := Tryd.checked) (os := os) (X := fun w _ => laidMetH Tryd.prog Rows.baseJoinsRow.laid w) false (World.laidAll Tryd.prog os Rows.baseJoinsRow.laid) #[.slice none 0 0, .slice none 0 0] 8 (World.laidAll_os _ _ _)
      (World.shaped_of_ZipB (by kernel_rfl) (by kernel_rfl)) (by kernel_rfl) (by kernel_rfl) (by kernel_rfl)
      (by rw [MakeChecks.laidMetH_plain _ _ _ (by kernel_rfl)]; exact laidMet_laidAll _ (by kernel_rfl) (by kernel_rfl))) rfl (by kernel_rfl) (by kernel_rfl) (by kernel_rfl) (by kernel_rfl) ?_ ?_
  · intro ds hd
    match ds, hd with
    | [_, _], _ => rfl
  · intro W args ds ps hA0 hval0 hz0
    have hA : DataW.TrodAll enc Tryd.prog W 0 (fun _ => true) true Tryd.f8.params.toList args.toList ds ps := hA0
    have hval : ∀ (j : Nat) t v, Tryd.f8.params[j]? = some t → args[j]? = some v → ∃ base, Value.okWide Tryd.prog W .any base t v := hval0
    have hz : (DataW.weightsEach Tryd.prog Tryd.f8.params.toList ds).all (· ≤ reachBytes) = true := hz0
    clear hA0 hval0 hz0
    rw [Tryd.params8] at hA hval hz
    obtain ⟨v0, v1, d0, d1, p0, p1, rfl, rfl, rfl, h0, h1⟩ := trodAll_two hA
    obtain ⟨A0, c0, x0, rfl, r0, b0, m0⟩ := arg_bytes (r := .any) (by kernel_rfl : Tryd.prog.underlying 22 = some (.slice 5)) (by kernel_rfl : Tryd.prog.underlying 5 = some (.int .u8)) (by kernel_rfl) (hval 0 22 v0 rfl rfl) h0
    have z0 := sized_len (j := 0) hz (by kernel_rfl : Tryd.prog.underlying 22 = some (.slice 5)) rfl rfl h0
    rw [(by kernel_rfl : Tryd.prog.bytesOf 5 = 1)] at z0
    unfold reachBytes at z0
    obtain ⟨A1, c1, x1, rfl, r1, b1, m1⟩ := arg_bytes (r := .any) (by kernel_rfl : Tryd.prog.underlying 22 = some (.slice 5)) (by kernel_rfl : Tryd.prog.underlying 5 = some (.int .u8)) (by kernel_rfl) (hval 1 22 v1 rfl rfl) h1
    have z1 := sized_len (j := 1) hz (by kernel_rfl : Tryd.prog.underlying 22 = some (.slice 5)) rfl rfl h1
    rw [(by kernel_rfl : Tryd.prog.bytesOf 5 = 1)] at z1
    unfold reachBytes at z1
    exact joins_law x0 x1 A0 A1 c0 c1 W r0 b0 r1 (by omega) (by omega)
theorem baseJoins_holds : Rows.BaseJoinsSaid :=
  OpenClaim.holds_of_wide 8 Tryd.f8 rfl rfl rfl rfl rfl rfl rfl ⟨rfl, rfl, rfl, rfl, rfl⟩ rfl rfl rfl rfl rfl (by kernel_rfl) Tryd.func8 (by kernel_rfl)
    (of_decide_eq_true (by kernel_rfl)) (by unfold Func.isWrapper; rw [if_neg (of_decide_eq_false (by kernel_rfl))]; exact ⟨rfl, rfl⟩)
    (fun os started H enc _ => baseJoins_lifted os started H enc)
theorem baseJoins_card : Rows.BaseJoinsCardSaid :=
  Claim7.holds_tied_plain_at .later [] [.data, .pinned] true Rows.baseJoinsCard.stood.harness false baseJoins_holds (fun _ h => by cases h) (by kernel_rfl) (fun _ h => by cases h) baseJoins_row_tie rfl ⟨rfl, rfl⟩ (by kernel_rfl) rfl
    (fun f fn hf hfn => by
      obtain rfl : f = 8 := Option.some.inj ((show Tryd.prog.funcNamed "letterbox/letterboxlaw7.BaseJoins" = some 8 by kernel_rfl).symm.trans hf) |>.symm
      obtain rfl : fn = Tryd.f8 := (Option.some.inj (Tryd.func8.symm.trans hfn)).symm
      exact ⟨by kernel_rfl, fun j t ht => by
        rw [Tryd.params8] at ht
        have hm : t ∈ [22, 22] := by simpa using Array.mem_of_getElem? ht
        have hall : ([22, 22].all fun u => !Tryd.prog.wantsStandIn u) = true := by kernel_rfl
        exact (show Tryd.prog.wantsStandIn t = false by simpa using List.all_eq_true.1 hall t hm)⟩)
    (by kernel_rfl)
#print axioms baseJoins_card
end Go.Proofs.YthdbppggnkfgjaaDoor
