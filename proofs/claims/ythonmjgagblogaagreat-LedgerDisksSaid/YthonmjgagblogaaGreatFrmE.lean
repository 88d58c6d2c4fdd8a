/-
  The reference's records walked: Encode, Decode, One, Scan. By the session itself.
-/
import Derived.Test.YthonmjgagblogaaGreatFrmP
namespace Go.Proofs.YthonmjgagblogaaGreat
set_option linter.unusedSimpArgs false
set_option linter.unusedVariables false
set_option maxRecDepth 100000
open Go.Vc Go.RowKit

theorem refDecode_spec (b : List UInt8) (A : Option Addr) (c : Nat) (w : World) (hr : Rd w A (b.map u8)) (hc : b.length ≤ c) (hl : b.length ≤ 140737488355328) :
    Cal Tryz.prog 91 #[.slice A b.length c] w fun v w' => Nw w w' ∧ ∃ u, v = .tuple #[u, i64 (decL b).2.1, i64 (decL b).2.2] ∧ Bs w' u (decL b).1 w.heap.size := by
  refine enter Tryz.mixed Tryz.func91 rfl (by kernel_rfl) ?_
  obtain ⟨L, hL⟩ : ∃ L, L = b.length := ⟨_, rfl⟩
  rw [← hL] at hc hl ⊢
  simp -dsimp [go_sem]
  refine cond_d (fun h8 => ?_) (fun h8 => ?_)
  · have e : decL b = ([], 0, 2) := by unfold decL; rw [if_pos (by omega)]
    simp -dsimp [go_sem]
    rw [e]
    exact ⟨Kp.refl _ _, _, ⟨rfl, rfl, rfl⟩, Bs.nil _ _⟩
  · have u8' : ¬ b.length < 8 := by omega
    have hnl := fromL_lt b
    obtain ⟨n, hn⟩ : ∃ n, n = fromL b := ⟨_, rfl⟩
    have h4c : 4 ≤ c := by omega
    have h4c' : (4 : Int) ≤ (c : Int) := by omega
    have h4L : 4 ≤ L := by omega
    have h4L' : (4 : Int) ≤ (L : Int) := by omega
    simp -dsimp [go_sem]
    refine draw (.take 0 (.take 1 (.take 3 (.take 4 (.alt 2 (.alt 5 (.take 6 .done) .stop) .stop))))) (by kernel_rfl) (fun _ => True) trivial ?_
    simp -dsimp [go_sem, h4c, h4c', h4L, h4L']
    have hd4 : (b.drop 4).length = L - 4 := by rw [List.length_drop, hL]
    have hf2 := refFrom_spec (b.drop 4) (by omega) (cutA A c 4) (c - 4) w.drew (by rw [List.map_drop]; exact (hr.nw ((Kp.refl _ _).drew)).cut (by simp; omega) 4)
    rw [hd4] at hf2
    refine call hf2 ?_
    rintro v w1 ⟨rfl, hk1⟩
    have k1 : Nw w w1 := ((Kp.refl _ w).drew).nw hk1
    have ht4 : (b.take 4).length = 4 := by rw [List.length_take]; omega
    have hs := refSum_spec (b.take 4) A c w1 (by rw [List.map_take]; exact (hr.nw k1).take 4) (by omega)
    rw [ht4] at hs
    simp -dsimp [go_sem]
    refine call hs ?_
    rintro v w2 ⟨rfl, rfl⟩
    have hiff := head_iff b (by omega)
    obtain ⟨y, hy⟩ : ∃ y, y = fromL (b.drop 4) := ⟨_, rfl⟩
    obtain ⟨z, hz⟩ : ∃ z, z = sumL (b.take 4) := ⟨_, rfl⟩
    rw [← hy, ← hz] at hiff
    rw [← hy, ← hz]
    simp -dsimp [go_sem]
    refine cond_n (fun hne => ?_) (fun he => ?_)
    · have e : decL b = ([], 0, 4) := by unfold decL; rw [if_neg u8', if_pos (fun h => by have := hiff.1 h; omega)]
      simp -dsimp [go_sem]
      rw [e]
      exact ⟨k1, _, ⟨rfl, rfl, rfl⟩, Bs.nil _ _⟩
    · have hh' : ¬ b.take 8 ≠ headL (fromL b) := fun h => h (hiff.2 (by omega))
      have hff := refFrom_spec b (by omega) A c w2 (hr.nw k1)
      rw [← hL, ← hn] at hff
      simp -dsimp [go_sem]
      refine call hff ?_
      rintro v w3 ⟨rfl, hk3⟩
      have k3 := k1.nw hk3
      have w3' : IntKind.i64.wrap (n : Int) = n := w64 (by omega) (by omega)
      simp -dsimp [go_sem, w3']
      refine cond_d (fun hbig => ?_) (fun hbig => ?_)
      · have e : decL b = ([], 0, 5) := by unfold decL; rw [if_neg u8', if_neg hh', if_pos (by omega)]
        simp -dsimp [go_sem]
        rw [e]
        exact ⟨k3, _, ⟨rfl, rfl, rfl⟩, Bs.nil _ _⟩
      · have hbig' : ¬ 1048576 < fromL b := by omega
        have w12 : IntKind.i64.wrap (12 + (n : Int)) = ((12 + n : Nat) : Int) := w64 (by omega) (by omega)
        obtain ⟨t, ht⟩ : ∃ t, t = 12 + n := ⟨_, rfl⟩
        rw [← ht] at w12
        simp -dsimp [go_sem, w12]
        refine cond_d (fun hs => ?_) (fun hs => ?_)
        · have e : decL b = ([], 0, 2) := by unfold decL; rw [if_neg u8', if_neg hh', if_neg hbig', if_pos (by omega)]
          simp -dsimp [go_sem]
          rw [e]
          exact ⟨k3, _, ⟨rfl, rfl, rfl⟩, Bs.nil _ _⟩
        · have hs' : ¬ b.length < 12 + fromL b := by omega
          have w4' : IntKind.i64.wrap (8 + (n : Int)) = ((8 + n : Nat) : Int) := w64 (by omega) (by omega)
          obtain ⟨m, hm⟩ : ∃ m, m = 8 + n := ⟨_, rfl⟩
          rw [← hm] at w4'
          have hmc : m ≤ c := by omega
          have hmL : m ≤ L := by omega
          have hmL' : (m : Int) ≤ (L : Int) := by omega
          have hm8 : 8 ≤ m := by omega
          have hm8' : (8 : Int) ≤ (m : Int) := by omega
          simp -dsimp [go_sem]
          refine draw (.take 0 (.take 1 (.take 2 (.take 3 (.take 5 (.take 6 (.take 7 (.take 8 (.alt 4 (.alt 9 (.take 10 .done) .stop) .stop))))))))) (by kernel_rfl) (fun _ => True) trivial ?_
          simp -dsimp [go_sem, w4', hmc, hmL, hmL']
          have hdl : (b.drop m).length = L - m := by rw [List.length_drop, hL]
          have hf3 := refFrom_spec (b.drop m) (by omega) (cutA A c m) (c - m) w3.drew (by rw [List.map_drop]; exact ((hr.nw k3).nw ((Kp.refl _ _).drew)).cut (by simp; omega) m)
          rw [hdl] at hf3
          refine call hf3 ?_
          rintro v w4 ⟨rfl, hk4⟩
          have k4 : Nw w w4 := (k3.drew).nw hk4
          have htl : (b.take m).length = m := by rw [List.length_take]; omega
          have hs2 := refSum_spec (b.take m) A c w4 (by rw [List.map_take]; exact (hr.nw k4).take m) (by omega)
          rw [htl] at hs2
          simp -dsimp [go_sem]
          refine call hs2 ?_
          rintro v w5 ⟨rfl, rfl⟩
          obtain ⟨y2, hy2⟩ : ∃ y, y = fromL (b.drop m) := ⟨_, rfl⟩
          obtain ⟨z2, hz2⟩ : ∃ z, z = sumL (b.take m) := ⟨_, rfl⟩
          rw [← hy2, ← hz2]
          simp -dsimp [go_sem]
          refine cond_n (fun hne => ?_) (fun he2 => ?_)
          · have e : decL b = ([], 0, 4) := by
              unfold decL
              rw [if_neg u8', if_neg hh', if_neg hbig', if_neg hs', if_pos (by rw [← hn, ← hm, ← hy2, ← hz2]; omega)]
            simp -dsimp [go_sem]
            rw [e]
            exact ⟨k4, _, ⟨rfl, rfl, rfl⟩, Bs.nil _ _⟩
          · have e : decL b = ((b.take m).drop 8, 12 + n, 0) := by
              unfold decL
              rw [if_neg u8', if_neg hh', if_neg hbig', if_neg hs', if_neg (by rw [← hn, ← hm, ← hy2, ← hz2]; omega), ← hn, ← hm]
            simp -dsimp [go_sem, w4', hmc, hm8, hm8', w12]
            have hcl : ((b.take m).drop 8).length = m - 8 := by rw [List.length_drop, htl]
            have hrx : Rd w5 (cutA A c 8) (((b.take m).drop 8).map u8) := by
              rw [List.map_drop]
              refine Rd.cut ?_ (by simp; omega) 8
              rw [List.map_take]
              exact (hr.nw k4).take m
            have ka : Nw w5 (w5.alloc (.cells #[] 5)) := (Kp.refl _ _).alloc _
            rw [← hcl]
            refine bs_app (m := (b.take m).drop 8) (l := []) (B := w.heap.size) (Gs.made w5 5 1 0 #[] rfl rfl rfl (by simp [maxLen]) k4.size) (hrx.nw ka) (by simp; omega) (Nw.kp (k4.nw ka) (fun _ => False)).size ?_
            intro v6 w6 hB6 hk6
            rw [List.nil_append] at hB6
            simp -dsimp [go_sem, w12]
            rw [e]
            exact ⟨Nw.fr (k4.nw ka) hk6 (Nat.le_refl _), _, ⟨rfl, by rw [ht], rfl⟩, hB6⟩
theorem refOne_spec (b : List UInt8) (A : Option Addr) (c : Nat) (w : World) (hr : Rd w A (b.map u8)) (hc : b.length ≤ c) (hl : b.length ≤ 140737488355328) :
    Cal Tryz.prog 88 #[.slice A b.length c] w fun v w' => Nw w w' ∧ ∃ u, v = .tuple #[u, i64 (oneL b).2] ∧ Bs w' u (oneL b).1 w.heap.size := by
  refine enter Tryz.mixed Tryz.func88 rfl (by kernel_rfl) ?_
  simp -dsimp [go_sem]
  refine call (refDecode_spec b A c w hr hc hl) ?_
  rintro v w1 ⟨hk, u, rfl, hB⟩
  have her := dec_err b
  obtain ⟨n, hn⟩ : ∃ n, n = (decL b).2.1 := ⟨_, rfl⟩
  obtain ⟨e, he⟩ : ∃ e, e = (decL b).2.2 := ⟨_, rfl⟩
  rw [← hn, ← he]
  rw [← he] at her
  obtain ⟨L, hL⟩ : ∃ L, L = b.length := ⟨_, rfl⟩
  rw [← hL]
  by_cases h0 : e = 0
  · subst h0
    by_cases h1 : n = L
    · have e1 : oneL b = ((decL b).1, (decL b).2.2) := by
        unfold oneL
        rw [if_neg (by rw [← hn, ← he, ← hL]; omega)]
      have h1' : ((n : Int) != (L : Int)) = false := by simp; omega
      simp -dsimp [go_sem, h1']
      rw [e1]
      exact ⟨hk, u, ⟨rfl, by rw [← he]; rfl⟩, hB⟩
    · have e1 : oneL b = ([], 3) := by
        unfold oneL
        rw [if_pos (by rw [← hn, ← he, ← hL]; exact ⟨rfl, h1⟩)]
      have h1' : ((n : Int) != (L : Int)) = true := by simp; omega
      simp -dsimp [go_sem, h1']
      rw [e1]
      exact ⟨hk, _, ⟨rfl, rfl⟩, Bs.nil _ _⟩
  · have e1 : oneL b = ([], e) := by
      unfold oneL
      rw [if_neg (by rw [← he]; exact fun h => h0 h.1), (her h0).1, ← he]
    have h0' : ((e : Int) == 0) = false := by simp; omega
    have h0'' : ((e : Int) != 0) = true := by simp; omega
    simp -dsimp [go_sem, h0', h0'']
    rw [e1]
    exact ⟨hk, _, ⟨rfl, rfl⟩, Bs.nil _ _⟩

end Go.Proofs.YthonmjgagblogaaGreat
