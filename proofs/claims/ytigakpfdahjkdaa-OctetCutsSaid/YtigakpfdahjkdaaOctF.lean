/-
  What the statements' own small functions come to: same, known. By the session itself.
-/
import Derived.Test.YtigakpfdahjkdaaOctE
namespace Go.Proofs.Ytigakpfdahjkdaa
set_option linter.unusedSimpArgs false
set_option linter.unusedVariables false
open Go.Vc Go.RowKit

theorem same_spec (A B : Option Addr) (c d : Nat) (xs ys : List UInt8) (w : World) (hx : Rd w A (xs.map u8)) (hy : Rd w B (ys.map u8)) (hl : xs.length ≤ 140737488355328) :
    Cal Try.prog 21 #[.slice A xs.length c, .slice B ys.length d] w fun v w' => v = .bool (decide (xs = ys)) ∧ Nw w w' := by
  refine enter Try.mixed Try.func21 rfl (by kernel_rfl) ?_
  simp -dsimp [go_sem]
  refine cond_n (fun h => ?_) (fun h => ?_)
  · simp -dsimp [go_sem]
    refine ⟨?_, Kp.refl _ _⟩
    rintro rfl; exact h rfl
  · have hlen : xs.length = ys.length := by omega
    simp -dsimp [go_sem]
    refine loop [4, 5, 11, 12, 13, 14, 15, 16, 17, 18, 19, 20, 21, 22, 23, 24, 25] (by kernel_rfl) (fun f w' => Box1 (fun a w' => ∃ k : Nat, k ≤ xs.length ∧ a = i64 k ∧ xs.take k = ys.take k ∧ w'.heap = w.heap ∧ Nw w w') (f 5) w')
      (fun f _ => xs.length - (intOf (f 5)).toNat) ⟨0, Nat.zero_le _, rfl, by simp, rfl, Kp.refl _ _⟩ ?_
    rintro f w' ⟨k, hk, f5, ht, hh, hK⟩
    simp -dsimp [go_sem, f5]
    refine cond_d (fun hlt => ?_) (fun hlt => ?_)
    · have hlt : k < xs.length := by omega
      obtain ⟨b, o, rfl, hc⟩ := hx k (u8 xs[k]) (by simp [hlt])
      have hlt' : k < ys.length := by omega
      obtain ⟨b', o', rfl, hc'⟩ := hy k (u8 ys[k]) (by simp [hlt'])
      simp -dsimp [go_sem]
      refine draw (.take 0 (.take 1 (.take 2 (.take 3 (.take 4 (.take 5 (.take 6 (.take 7 (.take 8 .done))))))))) (by kernel_rfl) (fun w1 => w1.heap = w.heap) hh ?_
      have hcell : ∀ w1 : World, w1.heap = w.heap → ∀ a, w1.cell? a = w.cell? a := fun w1 h a => by simp [World.cell?, h]
      simp -dsimp [go_sem, f5, hlt, hlt', hcell w' hh, hc, hc']
      refine ⟨fun w1 h1 => by simp [hcell w1 h1, hc], fun w1 h1 => by simp [hcell w1 h1, hc'], ?_⟩
      refine cond_n (fun hne => ?_) (fun he => ?_)
      · simp -dsimp [go_sem]
        exact ⟨fun e => hne (by simp [e]), hK.drew⟩
      · have hk1 : IntKind.i64.wrap ((k : Int) + 1) = ((k + 1 : Nat) : Int) := w64 (by omega) (by omega)
        obtain ⟨k1, hk1'⟩ : ∃ k1, k1 = k + 1 := ⟨_, rfl⟩
        rw [← hk1'] at hk1
        simp -dsimp [go_sem, f5, hk1]
        refine ⟨⟨k1, by omega, rfl, ?_, hh, hK.drew⟩, by simp [intOf]; omega⟩
        rw [hk1', List.take_succ_eq_append_getElem hlt, List.take_succ_eq_append_getElem hlt', ht]
        have : xs[k] = ys[k] := UInt8.toNat_inj.1 (by omega)
        rw [this]
    · obtain rfl : k = xs.length := by omega
      simp -dsimp [go_sem]
      refine ⟨?_, hK⟩
      rw [List.take_length, List.take_of_length_le (by omega)] at ht
      exact ht

theorem Wr.new (w : World) : Wr (w.alloc (.cells #[.slice none 0 0] 36)) w.heap.size [] (At w.heap.size) :=
  ⟨none, 0, Blk.new w _ _, Ow.nil _ _ _, fun _ h => (by cases h), fun k h => by
    rcases h with h | h
    · exact h
    · exact h.elim, fun k (h : k = _) => by simp [h]⟩
theorem known_spec (w : World) : Cal Try.prog 18 #[] w fun v w' => v = .bool true ∧ Nw w w' := by
  refine enter Try.mixed Try.func18 rfl (by kernel_rfl) ?_
  simp -dsimp [go_sem]
  have k0 : Nw w (w.alloc (.cells #[.slice none 0 0] 36)) := (Kp.refl _ _).alloc _
  refine call (wNums_spec w.heap.size [] [1, 300] (At w.heap.size) _ 2 _ (Wr.kp_ (Wr.new w) ((Kp.refl (fun _ => False) _).alloc _) fun _ _ h => h) (Rd.fresh (by simp) rfl) (fun a ha _ e => by cases ha; simp at e) (by simp)) ?_
  rintro v w1 ⟨rfl, F1, hW1, hG1, hK1⟩
  have k1 : Nw w w1 := Nw.at_ (k0.alloc _) hK1 (Nf.at_ (Nat.le_refl _))
  have n1 : Nf w F1 := (Nf.at_ (Nat.le_refl _)).gr hG1 (k0.alloc _).size
  simp -dsimp [go_sem]
  refine conv_const rfl rfl (Blk.new w1 _ _) ?_
  intro w2 hk2 hh2
  simp -dsimp [go_sem]
  have k12 : Nw w1 w2 := Nw.at_ ((Kp.refl _ _).alloc _) hk2 (Nf.at_ (Nat.le_refl _))
  have hr2 := Rd.of_heap hh2
  have hs2 := lt_of_heap hh2
  refine call (wBytes_spec w.heap.size _ [[97]] F1 _ 1 _ ((Wr.kp_ hW1 k12 fun _ _ h => h).kp_ ((Kp.refl (fun _ => False) _).alloc _) fun _ _ h => h)
    (Brs.one (p := [97]) (d := 1) (Blk.new w2 _ _) (fun h => ?_) (hr2.nw ((Kp.refl _ _).alloc _)) ?_ (Nat.le_refl _)) (by decide +kernel)) ?_
  · have := Wr.lt_ hW1 _ h
    have := k12.size
    omega
  · intro a ha h
    cases ha
    exact Nat.lt_irrefl _ (Wr.lt_ hW1 _ h)
  rintro v w3 ⟨rfl, F3, hW3, hG3, hK3⟩
  have k3 : Nw w w3 := ((k1.nw k12).alloc _).trans hK3 fun i hi h => Nat.lt_irrefl _ (Nat.lt_of_lt_of_le hi (n1 i h))
  have hl : [] ++ numsB [1, 300] ++ rowsB [[97]] = [1, 172, 2, 1, 97] := by decide +kernel
  rw [hl] at hW3
  simp -dsimp [go_sem]
  refine call (wOut_spec w.heap.size _ F3 w3 hW3 (by simp)) ?_
  rintro v w4 ⟨⟨A, c, rfl, ho4, hA4⟩, hk4⟩
  simp -dsimp [go_sem]
  refine call (same_spec A (some ⟨w4.heap.size, 0, none⟩) c 5 [1, 172, 2, 1, 97] [1, 172, 2, 1, 97] _ (ho4.rd.nw ((Kp.refl _ _).alloc _)) (Rd.fresh rfl rfl) (by simp)) ?_
  rintro v w5 ⟨rfl, hk5⟩
  simp -dsimp [go_sem]
  have k5 : Nw w w5 := ((k3.nw hk4).alloc _).nw hk5
  refine conv_const rfl rfl (Blk.new w5 _ _) ?_
  intro w6 hk6 hh6
  simp -dsimp [go_sem]
  refine conv_const rfl rfl (Blk.new w6 _ _) ?_
  intro w7 hk7 hh7
  simp -dsimp [go_sem]
  have k56 : Nw w5 w6 := Nw.at_ ((Kp.refl _ _).alloc _) hk6 (Nf.at_ (Nat.le_refl _))
  have k67 : Nw w6 w7 := Nw.at_ ((Kp.refl _ _).alloc _) hk7 (Nf.at_ (Nat.le_refl _))
  have no : ∀ A, Off A fun _ => False := fun _ _ _ h => h
  refine call (sum_spec [[49, 50, 51, 52], [53, 54, 55, 56, 57]] _ 2 _ (fun _ => False) (Brs.two (p := [49, 50, 51, 52]) (q := [53, 54, 55, 56, 57]) (c := 4) (d := 5) (Blk.new w7 _ _) (fun h => h) (((Rd.of_heap hh6).nw k67).nw ((Kp.refl _ _).alloc _)) (no _) (Nat.le_refl _) ((Rd.of_heap hh7).nw ((Kp.refl _ _).alloc _)) (no _) (Nat.le_refl _)) (by simp) (by simp)) ?_
  rintro v w8 ⟨rfl, hk8⟩
  have hsum : sumL ([[49, 50, 51, 52], [53, 54, 55, 56, 57]] : List (List UInt8)).flatten = 3421780262 := by decide +kernel
  rw [hsum]
  simp -dsimp [go_sem]
  exact hk8 ▸ ((k5.nw k56).nw k67).alloc _

def numX (x : Nat) : Nat := if x = 0 then 0 else (numB x).length
theorem numX_step {x : Nat} (h : 0 < x) : numX x = 1 + numX (x / 128) := by
  unfold numX
  by_cases hs : x < 128
  · rw [if_neg (by omega), if_pos (by omega), numB_small hs]; rfl
  · rw [if_neg (by omega), if_neg (by omega), numB_big hs, List.length_cons]; omega
theorem numB_len_step (n : Nat) : (numB n).length = 1 + numX (n / 128) := by
  by_cases h : n = 0
  · subst h; decide +kernel
  · rw [← numX_step (by omega)]; unfold numX; rw [if_neg h]
theorem numB_head (n : Nat) : ∃ (x : Nat) (l : List UInt8), numB n = UInt8.ofNat x :: l ∧ x < 256 ∧ (x < 128 ↔ n < 128) := by
  by_cases h : n < 128
  · exact ⟨n, [], numB_small h, by omega, by simp⟩
  · exact ⟨_, _, numB_big h, by omega, by omega⟩
theorem numB_last : ∀ (n : Nat), 0 < n → ∃ (x : Nat), (numB n)[(numB n).length - 1]? = some (UInt8.ofNat x) ∧ x < 256 ∧ x ≠ 0
  | n, hn => by
    by_cases h : n < 128
    · exact ⟨n, by rw [numB_small h]; rfl, by omega, by omega⟩
    · obtain ⟨x, h1, h2, h3⟩ := numB_last (n / 128) (by omega)
      refine ⟨x, ?_, h2, h3⟩
      rw [numB_big h, List.length_cons]
      have := numB_pos (n / 128)
      obtain ⟨m, hm⟩ : ∃ m, (numB (n / 128)).length = m + 1 := ⟨_, (Nat.sub_add_cancel this).symm⟩
      rw [hm] at h1 ⊢
      simpa using h1

theorem small_spec (v : Int) (w : World) (h1 : -9223372036854775808 ≤ v) (h2 : v ≤ 9223372036854775807) : Cal Try.prog 4 #[i64 v] w fun u w' => u = .bool true ∧ Nw w w' := by
  refine enter Try.mixed Try.func4 rfl (by kernel_rfl) ?_
  by_cases hv : 0 ≤ v ∧ v ≤ 4611686018427387904
  · obtain ⟨n, rfl⟩ : ∃ n : Nat, v = n := ⟨v.toNat, by omega⟩
    have ha : ((n : Int) < 0) = False := by simp
    have hb : (4611686018427387904 < (n : Int)) = False := by simp; omega
    simp -dsimp [go_sem, ha, hb]
    have k0 : Nw w (w.alloc (.cells #[.slice none 0 0] 36)) := (Kp.refl _ _).alloc _
    refine call (wNums_spec w.heap.size [] [(n : Int)] (At w.heap.size) _ 1 _ (Wr.kp_ (Wr.new w) ((Kp.refl (fun _ => False) _).alloc _) fun _ _ h => h) (Rd.fresh (by simp) rfl) (fun a ha _ e => by cases ha; simp at e) (by simp)) ?_
    rintro v w1 ⟨rfl, F1, hW1, hG1, hK1⟩
    have k1 : Nw w w1 := Nw.at_ (k0.alloc _) hK1 (Nf.at_ (Nat.le_refl _))
    have hn9 : [] ++ numsB [(n : Int)] = numB n := by
      have : clampN (n : Int) = n := by unfold clampN; omega
      simp [numsB, this]
    rw [hn9] at hW1
    have hl9 := numB_len9 (n := n) (by omega)
    have hl1 := numB_pos n
    simp -dsimp [go_sem]
    refine call (wOut_spec w.heap.size _ F1 w1 hW1 (by omega)) ?_
    rintro v w2 ⟨⟨A, c, rfl, ho, hA⟩, hk2⟩
    have k2 := k1.nw hk2
    have hsh : (n : Int) / 128 = ((n / 128 : Nat) : Int) := by omega
    have hls := numB_len_step n
    obtain ⟨L, hL⟩ : ∃ L, L = (numB n).length := ⟨_, rfl⟩
    obtain ⟨y, hy⟩ : ∃ y, y = n / 128 := ⟨_, rfl⟩
    rw [← hy] at hsh hls
    rw [← hL] at hls hl9 hl1
    simp -dsimp [go_sem, hsh]
    refine loop [5, 6, 20, 21, 22, 23, 24, 25] (by kernel_rfl) (fun f w' => Box (∃ i x : Nat, f 5 = i64 i ∧ f 6 = i64 x ∧ L = i + numX x ∧ i ≤ 9 ∧ w' = w2)) (fun f _ => (intOf (f 6)).toNat) ⟨1, y, rfl, rfl, hls, by omega, rfl⟩ ?_
    rintro f w' ⟨i, x, f5, f6, hx, hi9, rfl⟩
    simp -dsimp [go_sem, f5, f6]
    refine cond_d (fun hlt => ?_) (fun hlt => ?_)
    · have hlt : 0 < x := by omega
      have hst := numX_step hlt
      have hi : i + 1 ≤ 9 := by omega
      have hk1 : IntKind.i64.wrap ((i : Int) + 1) = ((i + 1 : Nat) : Int) := w64 (by omega) (by omega)
      have hsh2 : (x : Int) / 128 = ((x / 128 : Nat) : Int) := by omega
      obtain ⟨z, hz⟩ : ∃ z, z = x / 128 := ⟨_, rfl⟩
      obtain ⟨j, hj⟩ : ∃ j, j = i + 1 := ⟨_, rfl⟩
      rw [← hj] at hk1
      rw [← hz] at hsh2 hst
      simp -dsimp [go_sem, f5, f6, hk1, hsh2]
      exact ⟨⟨j, z, rfl, rfl, by omega, by omega, rfl⟩, by simp [intOf]; omega⟩
    · obtain rfl : x = 0 := by omega
      have hiL : i = L := by simp [numX] at hx; omega
      subst hiL
      obtain ⟨x0, l0, hx0, hx1, hx2⟩ := numB_head n
      obtain ⟨b, o, rfl, hc0⟩ := ho.rd 0 (u8 (UInt8.ofNat x0)) (by simp [hx0])
      rw [byteOf x0 hx1] at hc0
      have hi0 : 0 < i := hl1
      rw [Nat.add_zero] at hc0
      by_cases hn : n < 128
      · have hi1 : i = 1 := by rw [hL, numB_small hn]; rfl
        subst hi1
        have hx3 : x0 < 128 := hx2.2 hn
        have hn' : (n : Int) < 128 := by omega
        have hx3' : (x0 : Int) < 128 := by omega
        simp -dsimp [go_sem, f5, hc0, ← hL, hx3, hn, hn', hx3']
        refine call (known_spec _) ?_
        rintro v w1 ⟨rfl, hk⟩
        simp -dsimp [go_sem]
        exact k2.nw hk
      · obtain ⟨x1, hx1', hx4, hx5⟩ := numB_last n (by omega)
        have hi2 : 2 ≤ i := by
          have := numB_len_step n
          have h3 := numX_step (x := n / 128) (by omega)
          omega
        rw [← hL] at hx1'
        obtain ⟨b', o', e, hc1⟩ := ho.rd (i - 1) (u8 (UInt8.ofNat x1)) (by rw [List.getElem?_map, hx1']; rfl)
        cases e
        rw [byteOf x1 hx4] at hc1
        have hx3 : ¬ x0 < 128 := fun h => hn (hx2.1 h)
        have hn' : ¬ (n : Int) < 128 := by omega
        have hx3' : ¬ (x0 : Int) < 128 := by omega
        have hi3 : ((i : Int) == 1) = false := by simp; omega
        have hx6 : ((x1 : Int) != 0) = true := by simp; omega
        have hs1 : IntKind.i64.wrap ((i : Int) - 1) = ((i - 1 : Nat) : Int) := by rw [w64 (by omega) (by omega)]; omega
        have hs2 : i - 1 < i := by omega
        obtain ⟨m, hm⟩ : ∃ m, m = i - 1 := ⟨_, rfl⟩
        rw [← hm] at hs1 hs2 hc1
        simp -dsimp [go_sem, f5, hc0, ← hL, hx3, hn, hn', hx3', hi0, hi3, hx6, hs1, hs2, hc1]
        refine call (known_spec _) ?_
        rintro v w1 ⟨rfl, hk⟩
        simp -dsimp [go_sem]
        exact k2.nw hk
  · by_cases h0 : v < 0
    · simp -dsimp [go_sem, h0]
      refine call (known_spec w) ?_
      rintro v w1 ⟨rfl, hk⟩
      simp -dsimp [go_sem]
      exact hk
    · have hb : 4611686018427387904 < v := by omega
      simp -dsimp [go_sem, h0, hb]
      refine call (known_spec w) ?_
      rintro v w1 ⟨rfl, hk⟩
      simp -dsimp [go_sem]
      exact hk
end Go.Proofs.Ytigakpfdahjkdaa
