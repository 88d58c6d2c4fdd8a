/-
  The reference's One; FrameDecodes walked: any bytes begin with a record, or are refused; all records from the beginning on. By the session itself.
-/
import Derived.Test.YtdhgfljpnjneeaaFrmG
namespace Go.Proofs.Ytdhgfljpnjneeaa
set_option linter.unusedSimpArgs false
set_option linter.unusedVariables false
open Go.Vc Go.RowKit

theorem refOne_spec (b : List UInt8) (A : Option Addr) (c : Nat) (w : World) (hr : Rd w A (b.map u8)) (hc : b.length ≤ c) (hl : b.length ≤ 140737488355328) :
    Cal Try.prog 18 #[.slice A b.length c] w fun v w' => Nw w w' ∧ ∃ u, v = .tuple #[u, i64 (oneL b).2] ∧ Bs w' u (oneL b).1 w.heap.size := by
  refine enter Try.mixed Try.func18 rfl (by kernel_rfl) ?_
  simp -dsimp [go_sem]
  refine call (refDecode_spec b A c w hr hc hl) ?_
  rintro v w1 ⟨hk, u, rfl, hB⟩
  have her := dec_err b
  obtain ⟨n, hn⟩ : ∃ n, n = (decL b).2.1 := ⟨_, rfl⟩
  obtain ⟨e, he⟩ : ∃ e, e = (decL b).2.2 := ⟨_, rfl⟩
  rw [← hn, ← he]
  rw [← he] at her
  obtain ⟨L, hL⟩ : ∃ L, L = b.length := ⟨_, rfl⟩
  rw [← hL]
  by_cases h0 : e = 0
  · subst h0
    by_cases h1 : n = L
    · have e1 : oneL b = ((decL b).1, (decL b).2.2) := by
        unfold oneL
        rw [if_neg (by rw [← hn, ← he, ← hL]; omega)]
      have h1' : ((n : Int) != (L : Int)) = false := by simp; omega
      simp -dsimp [go_sem, h1']
      rw [e1]
      exact ⟨hk, u, ⟨rfl, by rw [← he]; rfl⟩, hB⟩
    · have e1 : oneL b = ([], 3) := by
        unfold oneL
        rw [if_pos (by rw [← hn, ← he, ← hL]; exact ⟨rfl, h1⟩)]
      have h1' : ((n : Int) != (L : Int)) = true := by simp; omega
      simp -dsimp [go_sem, h1']
      rw [e1]
      exact ⟨hk, _, ⟨rfl, rfl⟩, Bs.nil _ _⟩
  · have e1 : oneL b = ([], e) := by
      unfold oneL
      rw [if_neg (by rw [← he]; exact fun h => h0 h.1), (her h0).1, ← he]
    have h0' : ((e : Int) == 0) = false := by simp; omega
    have h0'' : ((e : Int) != 0) = true := by simp; omega
    simp -dsimp [go_sem, h0', h0'']
    rw [e1]
    exact ⟨hk, _, ⟨rfl, rfl⟩, Bs.nil _ _⟩

theorem decL_len (b : List UInt8) : (decL b).1.length ≤ b.length := by
  unfold decL
  split
  · simp
  · split
    · simp
    · split
      · simp
      · split
        · simp
        · split
          · simp
          · simp; omega
theorem oneL_len (b : List UInt8) : (oneL b).1.length ≤ b.length := by
  unfold oneL
  split
  · simp
  · exact decL_len b
theorem scanL_len : ∀ (k : Nat) (b : List UInt8), (scanL k b).1.length ≤ b.length ∧ ∀ p ∈ (scanL k b).1, p.length ≤ b.length
  | 0, b => by simp [scanL]
  | k + 1, b => by
    simp only [scanL]
    split
    · simp
    · split
      · rename_i h0 h1
        have h2 := decL_le b
        have h3 := h2.2 h1
        obtain ⟨h4, h5⟩ := scanL_len k (b.drop (decL b).2.1)
        rw [List.length_drop] at h4 h5
        refine ⟨by simp; omega, fun p hp => ?_⟩
        rcases List.mem_cons.1 hp with rfl | hp
        · exact decL_len b
        · have := h5 p hp; omega
      · simp
theorem Rs.brs {w : World} {v : Value} {ps : List (List UInt8)} {B : Nat} (h : Rs w v ps B) : ∃ A c, v = .slice A ps.length c ∧ Brs w A ps (fun _ => False) ∧ ps.length ≤ c := by
  obtain ⟨vs, F, ⟨A, c, rfl, ho, h1, h2⟩, hV, h3⟩ := h
  exact ⟨A, c, rfl, (hV.ofl (S' := fun _ => False) (fun _ h => h.elim)).brs ho.rd (no_ofl _ _), ho.2.1⟩

theorem decodes_law (b : List UInt8) (A : Option Addr) (c : Nat) (w : World) (hr : Rd w A (b.map u8)) (hc : b.length ≤ c) :
    Cal Try.prog 7 #[.slice A b.length c] w fun v w' => v = .bool true ∧ Nw w w' := by
  refine enter Try.mixed Try.func7 rfl (by kernel_rfl) ?_
  simp -dsimp [go_sem]
  refine cond_d (fun h4 => ?_) (fun h4 => ?_)
  · simp -dsimp [go_sem]
    exact Kp.refl _ _
  · simp -dsimp [go_sem]
    refine call (roomy_spec b w A c hr (by omega)) ?_
    rintro v w1 ⟨⟨A1, c1, rfl, ho1, hA1⟩, hk1⟩
    have hl1 : (b ++ [171]).length = b.length + 1 := by simp
    have hr1 : Rd w1 A1 (b.map u8) := by
      have := ho1.rd.take b.length
      rwa [← List.map_take, List.take_left] at this
    have hc1 := ho1.2.1
    rw [hl1] at hc1 ⊢
    have hcc : b.length ≤ c1 := by omega
    obtain ⟨n1, hn1⟩ : ∃ n1, n1 = b.length + 1 := ⟨_, rfl⟩
    rw [← hn1]
    have hL : b.length ≤ 4000 := by omega
    simp -dsimp [go_sem, hcc]
    refine call (decode_spec b A1 c1 w1 hr1 hcc (by omega)) ?_
    rintro v w2 ⟨hk2, u2, rfl, hB2⟩
    simp -dsimp [go_sem]
    have k2 := hk1.nw hk2
    refine call (refDecode_spec b A c w2 (hr.nw k2) hc (by omega)) ?_
    rintro v w3 ⟨hk3, u3, rfl, hB3⟩
    have k3 := k2.nw hk3
    simp -dsimp [go_sem, hcc]
    refine call (one_spec b A1 c1 w3 ((hr1.nw hk2).nw hk3) hcc (by omega)) ?_
    rintro v w4 ⟨hk4, u4, rfl, hB4⟩
    have k4 := k3.nw hk4
    simp -dsimp [go_sem]
    refine call (refOne_spec b A c w4 (hr.nw k4) hc (by omega)) ?_
    rintro v w5 ⟨hk5, u5, rfl, hB5⟩
    have k5 := k4.nw hk5
    simp -dsimp [go_sem, hcc]
    refine call (scan_spec b A1 c1 w5 ((((hr1.nw hk2).nw hk3).nw hk4).nw hk5) hcc (by omega)) ?_
    rintro v w6 ⟨hk6, u6, rfl, hB6⟩
    have k6 := k5.nw hk6
    simp -dsimp [go_sem]
    refine call (refScan_spec b A c w6 (hr.nw k6) hc (by omega)) ?_
    rintro v w7 ⟨hk7, u7, rfl, hB7⟩
    have k7 := k6.nw hk7
    have k37 := (((hk4.nw hk5).nw hk6).nw hk7)
    obtain ⟨A2, c2, rfl, ho2, hA2⟩ := (hB2.nw (hk3.nw k37))
    obtain ⟨A3, c3, rfl, ho3, hA3⟩ := hB3.nw k37
    obtain ⟨A6, c6, rfl, hb6, hc6⟩ := hB6.brs
    obtain ⟨A7, c7, rfl, hb7, hc7⟩ := hB7.brs
    have hs := scanL_len (b.length + 1) b
    obtain ⟨sc, hsc⟩ : ∃ sc, sc = scanL (b.length + 1) b := ⟨_, rfl⟩
    rw [← hsc] at hs hb6 hb7 hc6 hc7 ⊢
    have hdl := decL_len b
    have hol := oneL_len b
    obtain ⟨D, hD⟩ : ∃ D, D = decL b := ⟨_, rfl⟩
    rw [← hD] at hdl ho2 ho3 ⊢
    obtain ⟨p, n, e⟩ := D
    obtain ⟨ps, m⟩ := sc
    obtain ⟨O, hO⟩ : ∃ O, O = oneL b := ⟨_, rfl⟩
    rw [← hO] at hB4 hB5 hol ⊢
    obtain ⟨q, eo⟩ := O
    simp only at hs hb6 hb7 hc6 hc7 ho2 ho3 hB4 hB5 hdl hol ⊢
    obtain ⟨A4, c4, rfl, ho4, hA4⟩ := (((hB4.nw hk5).nw hk6).nw hk7)
    obtain ⟨A5, c5, rfl, ho5, hA5⟩ := ((hB5.nw hk6).nw hk7)
    simp -dsimp [go_sem]
    refine call (same_spec A2 A3 c2 c3 p p w7 ho2.rd ho3.rd (by omega)) ?_
    rintro v w8 ⟨rfl, hk8⟩
    simp -dsimp [go_sem]
    refine call (rows_spec ps A6 A7 c6 c7 w8 _ _ ((hb6.nw hk7).nw hk8) (hb7.nw hk8) (by omega) (fun p hp => Nat.le_trans (hs.2 p hp) (by omega))) ?_
    rintro v w9 ⟨rfl, hk9⟩
    simp -dsimp [go_sem]
    refine call (same_spec A4 A5 c4 c5 q q w9 ((ho4.nw hk8).nw hk9).rd ((ho5.nw hk8).nw hk9).rd (by omega)) ?_
    rintro v w10 ⟨rfl, hk10⟩
    have k10 := ((k7.nw hk8).nw hk9).nw hk10
    have h2o := (((ho2.nw hk8).nw hk9).nw hk10)
    simp -dsimp [go_sem]
    refine call (spoil_spec p w10 A2 c2 h2o (by omega)) ?_
    rintro v w11 ⟨rfl, hk11⟩
    have hoff : ∀ i, blk A2 i → w1.heap.size ≤ i := fun i hi => by
      obtain ⟨a, rfl, rfl⟩ := blk_of hi
      exact hA2 a rfl
    have k11 : Nw w w11 := k10.trans hk11 fun i hi h => by
      have h1 := hoff i h
      have h2 := hk1.size
      omega
    have kk : Nw w1 w10 := (((hk2.nw hk3).nw k37).nw ((hk8.nw hk9).nw hk10))
    have k1' : Nw w1 w11 := kk.trans hk11 fun i hi h => by
      have h1 := hoff i h
      omega
    simp -dsimp [go_sem]
    rw [hn1]
    refine call (stands_spec b w11 A1 A c1 c (ho1.rd.nw k1') hc1 (hr.nw k11) (by omega)) ?_
    rintro v w12 ⟨rfl, hk12⟩
    simp -dsimp [go_sem]
    refine call (fknown_spec w12) ?_
    rintro v w13 ⟨rfl, hk13⟩
    simp -dsimp [go_sem]
    exact (k11.nw hk12).nw hk13
end Go.Proofs.Ytdhgfljpnjneeaa
