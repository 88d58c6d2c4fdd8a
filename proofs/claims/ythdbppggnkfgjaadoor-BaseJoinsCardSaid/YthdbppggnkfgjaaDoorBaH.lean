/-
  base's laws: known; BaseTells, BaseBack, BaseOne walked. By the session itself.
-/
import Derived.Test.YthdbppggnkfgjaaDoorBaG
namespace Go.Proofs.YthdbppggnkfgjaaDoor
set_option linter.unusedSimpArgs false
set_option linter.unusedVariables false
set_option maxRecDepth 100000
set_option maxHeartbeats 2000000
open Go.Vc Go.RowKit

theorem bknown_spec (w : World) : Cal Tryd.prog 13 #[] w fun v w' => v = .bool true ∧ Nw w w' := by
  refine enter Tryd.mixed Tryd.func13 rfl (by kernel_rfl) ?_
  simp -dsimp [go_sem]
  have hd : decB [89, 81, 61, 61] = some [97] := decB_some.2 (by decide)
  refine call (decode_spec [89, 81, 61, 61] w (by decide)) ?_
  rintro v w1 ⟨⟨va, rfl, hB⟩, hk⟩
  rw [hd] at hB
  obtain ⟨A, c, rfl, ho, hA⟩ := hB
  simp -dsimp [go_sem, hd]
  refine conv_const rfl rfl (Blk.new w1 _ _) ?_
  intro w2 hk2 hh2
  have k12 : Nw w1 w2 := Nw.at_ ((Kp.refl _ _).alloc _) hk2 (Nf.at_ (Nat.le_refl _))
  have hr2 : Rd w2 (some ⟨w1.heap.size, 0, none⟩) (([97] : List UInt8).map u8) := Rd.of_heap hh2
  simp -dsimp [go_sem]
  refine call (encode_spec [97] _ 1 _ hr2 (by decide)) ?_
  rintro v w3 ⟨rfl, hk3⟩
  have k13 := k12.nw hk3
  have n3 : Nw w w3 := hk.nw k13
  have he : encB [97] = [89, 81, 61, 61] := by decide
  have hcv : convR Tryd.prog 22 9 (.slice A 1 c) w3 = .ok (.string ⟨#[97]⟩) w3 := conv_str (e := 5) (l := [97]) (by kernel_rfl) (by kernel_rfl) (by kernel_rfl) (ho.rd.nw k13)
  simp -dsimp [go_sem, he, hd, hcv]
  exact n3
theorem tells_law (b s : List UInt8) (A : Option Addr) (c : Nat) (w : World) (hr : Rd w A (b.map u8)) :
    Cal Tryd.prog 3 #[.slice A b.length c, stL s] w fun v w' => v = .bool true ∧ Nw w w' := by
  refine enter Tryd.mixed Tryd.func3 rfl (by kernel_rfl) ?_
  by_cases h1 : (2000 : Int) < (b.length : Int)
  · simp -dsimp [go_sem, h1]
    exact Kp.refl _ _
  · by_cases h2 : (2000 : Int) < (s.length : Int)
    · simp -dsimp [go_sem, h1, h2]
      exact Kp.refl _ _
    · simp -dsimp [go_sem, h1, h2]
      refine call (decode_spec s w (by omega)) ?_
      rintro v w1 ⟨⟨va, rfl, hB⟩, hk⟩
      simp -dsimp [go_sem]
      refine call (rDecode_spec s w1 (by omega)) ?_
      rintro v w2 ⟨⟨vb, rfl, hB2⟩, hk2⟩
      have n2 := hk.nw hk2
      simp -dsimp [go_sem]
      refine call (encode_spec b A c w2 (hr.nw n2) (by omega)) ?_
      rintro v w3 ⟨rfl, hk3⟩
      have n3 := n2.nw hk3
      simp -dsimp [go_sem]
      refine call (rEncode_spec b A c w3 (hr.nw n3) (by omega)) ?_
      rintro v w4 ⟨rfl, hk4⟩
      have n4 := n3.nw hk4
      obtain ⟨A1, c1, rfl, ho1, hA1⟩ := hB
      obtain ⟨A2, c2, rfl, ho2, hA2⟩ := hB2
      generalize (decB s).getD [] = l at *
      have hcv1 : convR Tryd.prog 22 9 (.slice A1 l.length c1) w4 = .ok (.string ⟨l.toArray⟩) w4 := conv_str (e := 5) (by kernel_rfl) (by kernel_rfl) (by kernel_rfl) (ho1.rd.nw ((hk2.nw hk3).nw hk4))
      have hcv2 : convR Tryd.prog 22 9 (.slice A2 l.length c2) w4 = .ok (.string ⟨l.toArray⟩) w4 := conv_str (e := 5) (by kernel_rfl) (by kernel_rfl) (by kernel_rfl) (ho2.rd.nw (hk3.nw hk4))
      simp -dsimp [go_sem, hcv1, hcv2]
      refine call (bknown_spec w4) ?_
      rintro v w5 ⟨rfl, hk5⟩
      simp -dsimp [go_sem]
      exact n4.nw hk5
theorem back_law (b : List UInt8) (A : Option Addr) (c : Nat) (w : World) (hr : Rd w A (b.map u8)) :
    Cal Tryd.prog 4 #[.slice A b.length c] w fun v w' => v = .bool true ∧ Nw w w' := by
  refine enter Tryd.mixed Tryd.func4 rfl (by kernel_rfl) ?_
  by_cases h1 : (2000 : Int) < (b.length : Int)
  · simp -dsimp [go_sem, h1]
    exact Kp.refl _ _
  · have hcv0 : convR Tryd.prog 22 9 (.slice A b.length c) w = .ok (.string ⟨b.toArray⟩) w := conv_str (e := 5) (by kernel_rfl) (by kernel_rfl) (by kernel_rfl) hr
    simp -dsimp [go_sem, h1, hcv0]
    refine call (encode_spec b A c w hr (by omega)) ?_
    rintro v w1 ⟨rfl, hk⟩
    simp -dsimp [go_sem]
    have hlen := encB_len b
    have hd := decB_enc b
    refine call (decode_spec (encB b) w1 (by omega)) ?_
    rintro v w2 ⟨⟨va, rfl, hB⟩, hk2⟩
    rw [hd] at hB
    have n2 := hk.nw hk2
    obtain ⟨A1, c1, rfl, ho1, hA1⟩ := hB
    have hcv1 : convR Tryd.prog 22 9 (.slice A1 b.length c1) w2 = .ok (.string ⟨b.toArray⟩) w2 := conv_str (e := 5) (by kernel_rfl) (by kernel_rfl) (by kernel_rfl) ho1.rd
    have hcv2 : convR Tryd.prog 22 9 (.slice A b.length c) w2 = .ok (.string ⟨b.toArray⟩) w2 := conv_str (e := 5) (by kernel_rfl) (by kernel_rfl) (by kernel_rfl) (hr.nw n2)
    have e1 : IntKind.i64.wrap ((b.length : Int) + 2) = ((b.length + 2 : Nat) : Int) := by rw [w64 (by omega) (by omega)]; omega
    obtain ⟨n, hn⟩ : ∃ n, n = b.length + 2 := ⟨_, rfl⟩
    rw [← hn] at e1 hlen
    have e2 : IntKind.i64.wrap ((n : Int) / 3) = ((n / 3 : Nat) : Int) := by rw [w64 (by omega) (by omega)]; omega
    obtain ⟨q, hq⟩ : ∃ q, q = n / 3 := ⟨_, rfl⟩
    rw [← hq] at e2 hlen
    have e3 : IntKind.i64.wrap ((q : Int) * 4) = ((encB b).length : Int) := by rw [w64 (by omega) (by omega)]; omega
    simp -dsimp [go_sem, hd, hcv1, hcv2, e1, e2, e3]
    refine call (bknown_spec w2) ?_
    rintro v w3 ⟨rfl, hk3⟩
    simp -dsimp [go_sem]
    exact n2.nw hk3
theorem one_law (s : List UInt8) (w : World) :
    Cal Tryd.prog 5 #[stL s] w fun v w' => v = .bool true ∧ Nw w w' := by
  refine enter Tryd.mixed Tryd.func5 rfl (by kernel_rfl) ?_
  by_cases h1 : (2000 : Int) < (s.length : Int)
  · simp -dsimp [go_sem, h1]
    exact Kp.refl _ _
  · simp -dsimp [go_sem, h1]
    refine call (decode_spec s w (by omega)) ?_
    rintro v w1 ⟨⟨va, rfl, hB⟩, hk⟩
    cases hd : decB s with
    | none =>
      rw [hd] at hB
      obtain ⟨A1, c1, rfl, ho1, hA1⟩ := hB
      simp -dsimp [go_sem, hd]
      refine call (rDecode_spec s w1 (by omega)) ?_
      rintro v w2 ⟨⟨vb, rfl, hB2⟩, hk2⟩
      simp -dsimp [go_sem, hd]
      refine call (bknown_spec w2) ?_
      rintro v w3 ⟨rfl, hk3⟩
      simp -dsimp [go_sem]
      exact (hk.nw hk2).nw hk3
    | some b =>
      rw [hd] at hB
      have he := decB_some.1 hd
      have hlen := encB_len b
      rw [he] at hlen
      obtain ⟨A1, c1, rfl, ho1, hA1⟩ := hB
      simp -dsimp [go_sem, hd]
      refine call (encode_spec b A1 c1 w1 ho1.rd (by omega)) ?_
      rintro v w2 ⟨rfl, hk2⟩
      simp -dsimp [go_sem, he]
      refine call (bknown_spec w2) ?_
      rintro v w3 ⟨rfl, hk3⟩
      simp -dsimp [go_sem]
      exact (hk.nw hk2).nw hk3
end Go.Proofs.YthdbppggnkfgjaaDoor
