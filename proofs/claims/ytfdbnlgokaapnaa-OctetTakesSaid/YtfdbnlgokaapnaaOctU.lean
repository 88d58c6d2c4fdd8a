/-
  OctetTakes walked. By the session itself.
-/
import Derived.Test.YtfdbnlgokaapnaaOctT
namespace Go.Proofs.Ytfdbnlgokaapnaa
set_option linter.unusedSimpArgs false
set_option linter.unusedVariables false
set_option maxRecDepth 100000
set_option maxHeartbeats 1000000
open Go.Vc Go.RowKit

def num2 (l : List UInt8) (bad : Bool) : Nat × List UInt8 × Bool := numL (numL l bad).2.1 (numL l bad).2.2
def num3 (l : List UInt8) (bad : Bool) : Nat × List UInt8 × Bool := numL (num2 l bad).2.1 (num2 l bad).2.2
theorem num2_len (l : List UInt8) (bad : Bool) : (num2 l bad).2.1.length ≤ l.length := Nat.le_trans (numL_len _ _) (numL_len _ _)
theorem num3_len (l : List UInt8) (bad : Bool) : (num3 l bad).2.1.length ≤ l.length := Nat.le_trans (numL_len _ _) (num2_len _ _)
/-- Nums into a, nowhere, and c. -/
theorem nums3_spec (g a c s : Nat) (t t2 : TypeId) (l : List UInt8) (bad : Bool) (F : Nat → Prop) (w : World) (h : Rdr w g l bad F) (hl : l.length ≤ 140737488355328)
    (hs : Blk w s t #[.pointer (some ⟨a, 0, none⟩), .pointer none, .pointer (some ⟨c, 0, none⟩)]) (ha : Blk w a t2 #[i64 7]) (hc : Blk w c t2 #[i64 7]) (hac : a ≠ c) (hsa : s ≠ a) (hsc : s ≠ c) (hFa : ¬ F a) (hFc : ¬ F c) (hFs : ¬ F s) :
    Cal Try.prog 34 #[.pointer (some ⟨g, 0, none⟩), .slice (some ⟨s, 0, none⟩) 3 3] w fun v w' => v = .tuple #[] ∧ Blk w' a t2 #[i64 (numL l bad).1] ∧ Blk w' c t2 #[i64 (num3 l bad).1] ∧ Rdr w' g (num3 l bad).2.1 (num3 l bad).2.2 F ∧ Kp (fun k => F k ∨ k = a ∨ k = c) w w' := by
  have hga : g ≠ a := fun e => hFa (e ▸ h.in_)
  have hgc : g ≠ c := fun e => hFc (e ▸ h.in_)
  have hgs : g ≠ s := fun e => hFs (e ▸ h.in_)
  have l1 := numL_len l bad
  have l2 := num2_len l bad
  refine enter Try.mixed Try.func34 rfl (by kernel_rfl) ?_
  simp -dsimp [go_sem]
  refine loop [5, 6, 9, 10, 11, 12, 13, 14, 15, 16, 17, 18, 19, 20] (by kernel_rfl)
    (fun f w' => Box1 (fun x w' => ∃ i : Nat, i ≤ 3 ∧ x = i64 i ∧ Kp (fun k => F k ∨ k = a ∨ k = c) w w' ∧
      (i = 0 → Rdr w' g l bad F ∧ Blk w' a t2 #[i64 7] ∧ Blk w' c t2 #[i64 7]) ∧
      (i = 1 → Rdr w' g (numL l bad).2.1 (numL l bad).2.2 F ∧ Blk w' a t2 #[i64 (numL l bad).1] ∧ Blk w' c t2 #[i64 7]) ∧
      (i = 2 → Rdr w' g (num2 l bad).2.1 (num2 l bad).2.2 F ∧ Blk w' a t2 #[i64 (numL l bad).1] ∧ Blk w' c t2 #[i64 7]) ∧
      (i = 3 → Rdr w' g (num3 l bad).2.1 (num3 l bad).2.2 F ∧ Blk w' a t2 #[i64 (numL l bad).1] ∧ Blk w' c t2 #[i64 (num3 l bad).1])) (f 9) w')
    (fun f _ => 3 - (intOf (f 9)).toNat) ⟨0, by omega, rfl, Kp.refl _ _, fun _ => ⟨h, ha, hc⟩, fun h => by omega, fun h => by omega, fun h => by omega⟩ ?_
  rintro f w' ⟨i, hi, f9, hK, i0, i1, i2, i3⟩
  have hs' : Blk w' s t #[.pointer (some ⟨a, 0, none⟩), .pointer none, .pointer (some ⟨c, 0, none⟩)] := hs.kp hK fun e => by
    rcases e with e | e | e
    · exact hFs e
    · exact hsa e
    · exact hsc e
  have s0 := hs'.cell 0
  have s1 := hs'.cell 1
  have s2 := hs'.cell 2
  have hi4 : i = 0 ∨ i = 1 ∨ i = 2 ∨ i = 3 := by omega
  rcases hi4 with rfl | rfl | rfl | rfl
  · obtain ⟨hR, hA, hC⟩ := i0 rfl
    simp -dsimp [go_sem, f9, s0]
    refine call (num_spec g l bad F w' hR hl) ?_
    rintro v w2 ⟨rfl, hR2, hk2⟩
    have hA2 := hA.kp hk2 (fun e => hga e.symm)
    have hC2 := hC.kp hk2 (fun e => hgc e.symm)
    have a0 := hA2.cell 0
    have fa := hA2.frozen 0
    simp -dsimp [go_sem, f9, a0, fa]
    have hset : Kp (At a) w2 (w2.setCell ⟨a, 0, none⟩ (i64 (numL l bad).1)) := (Kp.refl _ _).setCell_at _ _
    exact ⟨⟨1, by omega, rfl, (hK.trans hk2 (fun _ _ e => .inl (by rw [show _ = g from e]; exact h.in_))).trans hset (fun _ _ e => .inr (.inl e)), fun e => by omega, fun _ => ⟨hR2.kp_ hset (fun i hF e => hFa (by rw [← show i = a from e]; exact hF)), by simpa using hA2.set 0 _, hC2.kp hset (fun e => hac (show c = a from e).symm)⟩, fun e => by omega, fun e => by omega⟩, by simp [intOf]; decide +kernel⟩
  · obtain ⟨hR, hA, hC⟩ := i1 rfl
    simp -dsimp [go_sem, f9, s1]
    refine call (num_spec g _ _ F w' hR (by omega)) ?_
    rintro v w2 ⟨rfl, hR2, hk2⟩
    have hA2 := hA.kp hk2 (fun e => hga e.symm)
    have hC2 := hC.kp hk2 (fun e => hgc e.symm)
    simp -dsimp [go_sem, f9]
    exact ⟨⟨2, by omega, rfl, hK.trans hk2 (fun _ _ e => .inl (by rw [show _ = g from e]; exact h.in_)), fun e => by omega, fun e => by omega, fun _ => ⟨hR2, hA2, hC2⟩, fun e => by omega⟩, by simp [intOf]; decide +kernel⟩
  · obtain ⟨hR, hA, hC⟩ := i2 rfl
    simp -dsimp [go_sem, f9, s2]
    refine call (num_spec g _ _ F w' hR (by omega)) ?_
    rintro v w2 ⟨rfl, hR2, hk2⟩
    have hA2 := hA.kp hk2 (fun e => hga e.symm)
    have hC2 := hC.kp hk2 (fun e => hgc e.symm)
    have c0 := hC2.cell 0
    have fc := hC2.frozen 0
    have e3 : numL (num2 l bad).2.1 (num2 l bad).2.2 = num3 l bad := rfl
    rw [e3] at hR2 ⊢
    simp -dsimp [go_sem, f9, c0, fc]
    have hset : Kp (At c) w2 (w2.setCell ⟨c, 0, none⟩ (i64 (num3 l bad).1)) := (Kp.refl _ _).setCell_at _ _
    exact ⟨⟨3, by omega, rfl, (hK.trans hk2 (fun _ _ e => .inl (by rw [show _ = g from e]; exact h.in_))).trans hset (fun _ _ e => .inr (.inr e)), fun e => by omega, fun e => by omega, fun e => by omega, fun _ => ⟨hR2.kp_ hset (fun i hF e => hFc (by rw [← show i = c from e]; exact hF)), hA2.kp hset (fun e => hac e), by simpa using hC2.set 0 _⟩⟩, by simp [intOf]; decide +kernel⟩
  · obtain ⟨hR, hA, hC⟩ := i3 rfl
    simp -dsimp [go_sem, f9]
    exact ⟨hA, hC, hR, hK⟩

theorem rawL_len (l : List UInt8) (bad : Bool) (n : Int) : (rawL l bad n).1.length ≤ l.length ∧ (rawL l bad n).2.1.length ≤ l.length := by
  unfold rawL
  split <;> simp <;> omega
theorem bytL_len (l : List UInt8) (bad : Bool) : (bytL l bad).1.length ≤ l.length ∧ (bytL l bad).2.1.length ≤ l.length := by
  have h1 := rawL_len (numL l bad).2.1 (numL l bad).2.2 (numL l bad).1
  have h2 := numL_len l bad
  unfold bytL
  omega
theorem Rdr.lt_ {w : World} {g : Nat} {l : List UInt8} {bad : Bool} {F : Nat → Prop} (h : Rdr w g l bad F) : ∀ k, F k → k < w.heap.size := by
  obtain ⟨A, c, hb, h1, h2, hr, hg, h3, hF, hFl⟩ := h
  exact hFl

theorem not_beq (b : Bool) : ((!b) == b) = false := by cases b <;> rfl
theorem takes_law (b : List UInt8) (ks ns : List Int) (A K N : Option Addr) (c kc nc : Nat) (w : World) (hrA : Rd w A (b.map u8)) (hc : b.length ≤ c) (hrK : Rd w K (ks.map i64)) (hrN : Rd w N (ns.map i64)) :
    Cal Try.prog 6 #[.slice A b.length c, .slice K ks.length kc, .slice N ns.length nc] w fun v w' => v = .bool true ∧ Nw w w' := by
  refine enter Try.mixed Try.func6 rfl (by kernel_rfl) ?_
  by_cases c1 : (4000 : Int) < (b.length : Int)
  · simp -dsimp [go_sem, c1]
    exact Kp.refl _ _
  by_cases c2 : (200 : Int) < (ks.length : Int)
  · simp -dsimp [go_sem, c1, c2]
    exact Kp.refl _ _
  by_cases c3 : ns.length < ks.length
  · have c3' : (ns.length : Int) < (ks.length : Int) := by omega
    simp -dsimp [go_sem, c1, c2, c3, c3']
    exact Kp.refl _ _
  have c3' : ¬ (ns.length : Int) < (ks.length : Int) := by omega
  simp -dsimp [go_sem, c1, c2, c3, c3']
  refine call (roomy_spec b w A c hrA (by omega)) ?_
  rintro v w1 ⟨hX, hk1⟩
  obtain ⟨A1, cx, rfl, ho1, hA1⟩ := hX
  have hl1 : (b ++ [171]).length = b.length + 1 := by simp
  rw [hl1] at ho1 ⊢
  have hcx : b.length ≤ cx := by have := ho1.2.1; omega
  simp -dsimp [go_sem, hcx]
  have hr1 : Rd w1 A1 (b.map u8) := by
    have := ho1.rd.take b.length
    simpa using this
  refine call (newReader_spec A1 cx b w1 hr1 (by omega)) ?_
  rintro v w2 ⟨g, rfl, hg, ⟨F, hR2, hF2⟩, hk2⟩
  have nF : Nf w1 F := fun k h => (hF2 k h).1
  simp -dsimp [go_sem]
  refine bs_fresh (m := b) rfl rfl (hrA.nw (hk1.nw hk2)) (by omega) ?_
  intro v3 w3 hB3 hk3
  obtain ⟨A3, c3x, rfl, ho3, hA3⟩ := hB3
  simp -dsimp [go_sem]
  simp [go_sem]
  obtain ⟨h, hh⟩ : ∃ h, h = w3.heap.size := ⟨_, rfl⟩
  rw [← hh]
  have ka : Nw w3 (w3.alloc (.cells #[.slice A3 b.length c3x, .bool false] 48)) := (Kp.refl _ _).alloc _
  have hoff : ∀ k, blk A3 k → w2.heap.size ≤ k ∧ k < w3.heap.size := fun k hk => by
    obtain ⟨a, rfl, rfl⟩ := blk_of hk
    exact ⟨hA3 a rfl, ho3.lt a rfl⟩
  have hW0 : RefR (w3.alloc (.cells #[.slice A3 b.length c3x, .bool false] 48)) h b false (fun k => k = h ∨ blk A3 k) :=
    ⟨A3, c3x, Blk.fresh hh, ho3.2.1, ho3.2.2.1, ho3.rd.nw ka, fun a ha e => by
      have h1 := (hoff a.block (by rw [ha]; rfl)).2
      have e : a.block = h := e
      omega, by simp, fun k h => h, fun k hk => by
      have := ka.size
      rcases hk with rfl | hk
      · simp [hh]
      · have := (hoff k hk).2
        simp; omega⟩
  have dFG : ∀ k, F k → ¬ (k = h ∨ blk A3 k) := fun k hf hk => by
    have h1 := (hF2 k hf).2
    have h2 := hk3.size
    rcases hk with e | hk
    · omega
    · have := (hoff k hk).1
      omega
  have nG : Nf w1 (fun k => k = h ∨ blk A3 k) := fun k hk => by
    have h1 := hk2.size
    have h2 := hk3.size
    rcases hk with e | hk
    · omega
    · have := (hoff k hk).1
      omega
  obtain ⟨G, hGd⟩ : ∃ G, G = fun k => k = h ∨ blk A3 k := ⟨_, rfl⟩
  rw [← hGd] at hW0 nG
  have dFG : ∀ k, F k → ¬ G k := fun k hf hg => dFG k hf (by rw [hGd] at hg; exact hg)
  refine loop [6, 10, 11, 12, 13, 14, 15, 45, 46, 47, 48, 49, 50, 51, 52, 53, 54, 55, 56, 57, 58, 59, 60, 61, 62, 63, 64, 65, 66, 67, 68, 69, 70, 71, 72, 73, 74, 75, 76, 77, 78, 79, 80, 81, 82, 83, 84, 85, 86, 87, 88, 89, 90, 91, 92, 93, 94, 95, 96, 97, 98, 99, 100, 101, 102, 103, 104, 105, 106, 107, 108, 109, 110, 111, 112, 113, 114, 115, 116, 117, 118, 119, 120, 121, 122, 123, 124, 125, 126, 127, 128, 129, 130, 131, 132, 133, 134, 135, 136] (by kernel_rfl)
    (fun f w' => Box1 (fun x w' => ∃ (i : Nat) (l : List UInt8) (bad : Bool), i ≤ ks.length ∧ x = i64 i ∧ l.length ≤ b.length ∧ Rdr w' g l bad F ∧ RefR w' h l bad G ∧ Nw w1 w') (f 10) w')
    (fun f _ => ks.length - (intOf (f 10)).toNat) ⟨0, b, false, Nat.zero_le _, rfl, Nat.le_refl _, (hR2.nw hk3).nw ka, hW0, (hk2.nw hk3).nw ka⟩ ?_
  rintro f w' ⟨i, l, bad, hi, f10, hll, hR, hW, hK⟩
  have hgG : ∀ k, G k → ¬ At g k := fun k hk e => dFG g hR.in_ (by rw [← show k = g from e]; exact hk)
  have hhF : ∀ k, F k → ¬ At h k := fun k hk e => dFG k hk (by rw [show k = h from e]; exact hW.in_)
  by_cases hlt : i < ks.length
  · obtain ⟨bK, oK, rfl, hcK0⟩ := hrK i (i64 ks[i]) (by simp [hlt])
    have hcK := (hk1.nw hK).cell_some hcK0 fun h => h
    have hltN : i < ns.length := by omega
    obtain ⟨bN, oN, rfl, hcN0⟩ := hrN i (i64 ns[i]) (by simp [hltN])
    have hcN1 := hk1.cell_some hcN0 fun h => h
    have hcN := hK.cell_some hcN1 fun h => h
    have hbN := World.block_lt_of_cell? _ _ hcN1
    generalize ks[i] = kd at *
    generalize ns[i] = nd at *
    have hki : IntKind.i64.wrap ((i : Int) + 1) = ((i + 1 : Nat) : Int) := w64 (by omega) (by omega)
    obtain ⟨i1, hi1⟩ : ∃ i1, i1 = i + 1 := ⟨_, rfl⟩
    rw [← hi1] at hki
    have d0 : (kd == 1) = decide (kd = 1) := rfl
    by_cases kd1 : kd = 1
    · subst kd1
      simp -dsimp [go_sem, f10, hlt, hcK]
      refine call (num_spec g l bad F w' hR (by omega)) ?_
      rintro v w4 ⟨rfl, hR4, hk4⟩
      have hW4 := hW.kp_ hk4 hgG
      simp -dsimp [go_sem]
      refine call (refNumT_spec h l bad G w4 hW4 (by omega)) ?_
      rintro v w5 ⟨rfl, hW5, hk5⟩
      have hR5 := hR4.kp_ hk5 hhF
      have k5 : Nw w1 w5 := (hK.at_ hk4 fun k e => by rw [show k = g from e]; exact nF _ hR.in_).at_ hk5 fun k e => by rw [show k = h from e]; exact nG _ hW.in_
      have hl5 := numL_len l bad
      generalize numL l bad = P at *
      obtain ⟨n5, l5, b5⟩ := P
      simp only at hR5 hW5 hl5 ⊢
      simp -dsimp [go_sem]
      have hRl := hR5
      have hWl := hW5
      have hKl := k5
      have hLl := hl5
      obtain ⟨A9, c9, hb9, _⟩ := id hWl
      have q0 := hb9.cell 0
      have q1 := hb9.cell 1
      refine draw (.take 0 (.take 1 (.take 2 (.take 3 (.take 5 (.take 6 (.take 7 (.take 8 (.take 9 (.alt 4 (.take 10 (.take 11 (.take 12 (.take 13 (.take 15 (.take 16 (.take 17 (.take 18 (.alt 14 (.take 19 (.take 20 (.take 21 (.take 22 (.take 24 (.alt 23 (.alt 25 (.take 26 (.take 27 .done)) .stop) .stop)))))) .stop))))))))) .stop)))))))))) (by kernel_rfl) (fun w1 => w1.heap = (w5).heap) rfl ?_
      have hcell : ∀ w1 : World, w1.heap = (w5).heap → ∀ a, w1.cell? a = (w5).cell? a := fun w1 h a => by simp [World.cell?, h]
      have kd : Nw w5 (w5).drew := (Kp.refl _ _).drew
      simp -dsimp [go_sem, hcell (w5).drew rfl, q0]
      refine ⟨fun w1 h1 => by simp [hcell w1 h1, q0], ?_⟩
      refine call (left_spec _ _ _ _ _ (hRl.nw kd)) ?_
      rintro v w21 ⟨rfl, rfl⟩
      refine ⟨rfl, ?_⟩
      simp -dsimp [go_sem, hcell (w5).drew rfl, q1]
      refine ⟨fun w1 h1 => by simp [hcell w1 h1, q1], ?_⟩
      refine call (good_spec _ _ _ _ _ (hRl.nw kd)) ?_
      rintro v w22 ⟨rfl, rfl⟩
      refine ⟨rfl, ?_⟩
      simp -dsimp [go_sem, not_beq]
      refine call (whole_spec _ _ _ _ _ (hRl.nw kd)) ?_
      rintro v w23 ⟨rfl, rfl⟩
      refine ⟨rfl, ?_⟩
      simp -dsimp [go_sem]
      refine call (refWhole_spec _ _ _ _ _ (hWl.nw kd)) ?_
      rintro v w24 ⟨rfl, rfl⟩
      refine ⟨rfl, ?_⟩
      simp -dsimp [go_sem, f10, hki]
      exact ⟨⟨i1, _, _, by omega, rfl, Nat.le_trans hLl hll, hRl.nw kd, hWl.nw kd, hKl.nw kd⟩, by simp [intOf]; omega⟩
    · have n1 : (kd == 1) = false := by simpa using kd1
      by_cases kd2 : kd = 2
      · subst kd2
        have hl4 := bytL_len l bad
        have hw4 := rBytes_spec g l bad F w' hR (by omega)
        have hw5 := fun w4 hW4 => refBytesT_spec h l bad G w4 hW4 (by omega)
        obtain ⟨P, hP⟩ : ∃ P, P = bytL l bad := ⟨_, rfl⟩
        rw [← hP] at hl4 hw4 hw5
        obtain ⟨p, l5, b5⟩ := P
        simp only at hl4 hw4 hw5
        simp -dsimp [go_sem, f10, hlt, hcK]
        refine call hw4 ?_
        rintro v w4 ⟨hB4, hR4, hk4⟩
        have hW4 := hW.kp_ hk4 hgG
        obtain ⟨A4, c4, rfl, ho4, hA4⟩ := hB4
        simp -dsimp [go_sem]
        refine call (hw5 w4 hW4) ?_
        rintro v w5 ⟨hB5, hW5, hk5⟩
        have hR5 := hR4.kp_ hk5 hhF
        obtain ⟨A5, c5, rfl, ho5, hA5⟩ := hB5
        have ho45 := ho4.kp hk5 fun a ha e => by
          have h1 := hA4 a ha
          have h2 := hW.lt_ h hW.in_
          have e : a.block = h := e
          omega
        have k5 : Nw w1 w5 := (hK.at_ hk4 fun k e => by rw [show k = g from e]; exact nF _ hR.in_).at_ hk5 fun k e => by rw [show k = h from e]; exact nG _ hW.in_
        simp -dsimp [go_sem]
        refine call (same_spec A4 A5 c4 c5 p p w5 ho45.rd ho5.rd (by omega)) ?_
        rintro v w6 ⟨rfl, hk6⟩
        simp -dsimp [go_sem]
        refine call (spoil_spec p w6 A4 c4 (ho45.nw hk6) (by omega)) ?_
        rintro v w7 ⟨rfl, hk7⟩
        have hbF : ∀ k, F k → ¬ blk A4 k := fun k hk e => by
          obtain ⟨a, ha, rfl⟩ := blk_of e
          have h1 := hA4 a ha
          have h2 := hR.lt_ _ hk
          omega
        have hbG : ∀ k, G k → ¬ blk A4 k := fun k hk e => by
          obtain ⟨a, ha, rfl⟩ := blk_of e
          have h1 := hA4 a ha
          have h2 := hW.lt_ _ hk
          omega
        have hR7 := (hR5.nw hk6).kp_ hk7 hbF
        have hW7 := (hW5.nw hk6).kp_ hk7 hbG
        have k7 : Nw w1 w7 := (k5.nw hk6).at_ hk7 fun k e => by
          obtain ⟨a, ha, rfl⟩ := blk_of e
          have h1 := hA4 a ha
          have := hK.size
          omega
        simp -dsimp [go_sem]
        have hRl := hR7
        have hWl := hW7
        have hKl := k7
        have hLl := hl4.2
        obtain ⟨A9, c9, hb9, _⟩ := id hWl
        have q0 := hb9.cell 0
        have q1 := hb9.cell 1
        refine draw (.take 0 (.take 1 (.take 2 (.take 3 (.take 5 (.take 6 (.take 7 (.take 8 (.take 9 (.alt 4 (.take 10 (.take 11 (.take 12 (.take 13 (.take 15 (.take 16 (.take 17 (.take 18 (.alt 14 (.take 19 (.take 20 (.take 21 (.take 22 (.take 24 (.alt 23 (.alt 25 (.take 26 (.take 27 .done)) .stop) .stop)))))) .stop))))))))) .stop)))))))))) (by kernel_rfl) (fun w1 => w1.heap = (w7).heap) rfl ?_
        have hcell : ∀ w1 : World, w1.heap = (w7).heap → ∀ a, w1.cell? a = (w7).cell? a := fun w1 h a => by simp [World.cell?, h]
        have kd : Nw w7 (w7).drew := (Kp.refl _ _).drew
        simp -dsimp [go_sem, hcell (w7).drew rfl, q0]
        refine ⟨fun w1 h1 => by simp [hcell w1 h1, q0], ?_⟩
        refine call (left_spec _ _ _ _ _ (hRl.nw kd)) ?_
        rintro v w21 ⟨rfl, rfl⟩
        refine ⟨rfl, ?_⟩
        simp -dsimp [go_sem, hcell (w7).drew rfl, q1]
        refine ⟨fun w1 h1 => by simp [hcell w1 h1, q1], ?_⟩
        refine call (good_spec _ _ _ _ _ (hRl.nw kd)) ?_
        rintro v w22 ⟨rfl, rfl⟩
        refine ⟨rfl, ?_⟩
        simp -dsimp [go_sem, not_beq]
        refine call (whole_spec _ _ _ _ _ (hRl.nw kd)) ?_
        rintro v w23 ⟨rfl, rfl⟩
        refine ⟨rfl, ?_⟩
        simp -dsimp [go_sem]
        refine call (refWhole_spec _ _ _ _ _ (hWl.nw kd)) ?_
        rintro v w24 ⟨rfl, rfl⟩
        refine ⟨rfl, ?_⟩
        simp -dsimp [go_sem, f10, hki]
        exact ⟨⟨i1, _, _, by omega, rfl, Nat.le_trans hLl hll, hRl.nw kd, hWl.nw kd, hKl.nw kd⟩, by simp [intOf]; omega⟩
      · have n2 : (kd == 2) = false := by simpa using kd2
        by_cases kd3 : kd = 3
        · subst kd3
          have hl4 := rawL_len l bad nd
          have hw4 := fun w4 hR4 => raw_spec g l bad F nd w4 hR4 (by omega)
          have hw5 := fun w4 hW4 => refRaw_spec h l bad G nd w4 hW4 (by omega)
          obtain ⟨P, hP⟩ : ∃ P, P = rawL l bad nd := ⟨_, rfl⟩
          rw [← hP] at hl4 hw4 hw5
          obtain ⟨p, l5, b5⟩ := P
          simp only at hl4 hw4 hw5
          have hFN : ¬ (F bN ∨ G bN) := fun e => by
            rcases e with e | e
            · have := nF _ e
              have hbN : bN < w1.heap.size := hbN
              omega
            · have := nG _ e
              have hbN : bN < w1.heap.size := hbN
              omega
          simp -dsimp [go_sem, f10, hlt, hcK]
          refine draw (.take 0 (.take 1 (.take 2 (.take 3 (.take 4 (.take 6 (.take 7 (.take 8 (.take 9 (.take 10 (.alt 5 (.alt 11 (.alt 12 (.take 13 .done) .stop) .stop) .stop))))))))))) (by kernel_rfl) (fun wz => Kp (fun k => F k ∨ G k) w' wz) ((Kp.refl _ _).drew) ?_
          have kd0 : Nw w' w'.drew := (Kp.refl _ _).drew
          have hcNd := kd0.cell_some hcN fun h => h
          simp -dsimp [go_sem, f10, hltN, hcNd]
          refine ⟨fun wz hz => by simp [hz.cell_some hcN hFN], ?_⟩
          refine call (hw4 w'.drew (hR.nw kd0)) ?_
          rintro v w4 ⟨hB4, hR4, hk4⟩
          have hz4 : Kp (fun k => F k ∨ G k) w' w4 := (kd0.kp _).trans hk4 fun k _ e => .inl (by rw [show k = g from e]; exact hR.in_)
          refine ⟨hz4, ?_⟩
          have hW4 := (hW.nw kd0).kp_ hk4 hgG
          obtain ⟨A4, c4, rfl, ho4, hA4⟩ := hB4
          simp -dsimp [go_sem]
          refine call (hw5 w4 hW4) ?_
          rintro v w5 ⟨hB5, hW5, hk5⟩
          have hR5 := hR4.kp_ hk5 hhF
          obtain ⟨A5, c5, rfl, ho5, hA5⟩ := hB5
          have ho45 := ho4.kp hk5 fun a ha e => by
            have h1 := hA4 a ha
            have h2 := hW.lt_ h hW.in_
            have h3 := kd0.size
            have e : a.block = h := e
            omega
          have hz5 : Kp (fun k => F k ∨ G k) w' w5 := hz4.trans hk5 fun k _ e => .inr (by rw [show k = h from e]; exact hW.in_)
          refine ⟨hz5, ?_⟩
          simp -dsimp [go_sem]
          refine call (same_spec A4 A5 c4 c5 p p w5 ho45.rd ho5.rd (by omega)) ?_
          rintro v w6 ⟨rfl, hk6⟩
          refine ⟨hz5.nw hk6, ?_⟩
          have k6 : Nw w1 w6 := (hK.trans hz5 fun k hk e => by
            rcases e with e | e
            · have := nF _ e; omega
            · have := nG _ e; omega).nw hk6
          simp -dsimp [go_sem]
          have hRl := (hR5.nw hk6)
          have hWl := (hW5.nw hk6)
          have hKl := k6
          have hLl := hl4.2
          obtain ⟨A9, c9, hb9, _⟩ := id hWl
          have q0 := hb9.cell 0
          have q1 := hb9.cell 1
          refine draw (.take 0 (.take 1 (.take 2 (.take 3 (.take 5 (.take 6 (.take 7 (.take 8 (.take 9 (.alt 4 (.take 10 (.take 11 (.take 12 (.take 13 (.take 15 (.take 16 (.take 17 (.take 18 (.alt 14 (.take 19 (.take 20 (.take 21 (.take 22 (.take 24 (.alt 23 (.alt 25 (.take 26 (.take 27 .done)) .stop) .stop)))))) .stop))))))))) .stop)))))))))) (by kernel_rfl) (fun w1 => w1.heap = (w6).heap) rfl ?_
          have hcell : ∀ w1 : World, w1.heap = (w6).heap → ∀ a, w1.cell? a = (w6).cell? a := fun w1 h a => by simp [World.cell?, h]
          have kd : Nw w6 (w6).drew := (Kp.refl _ _).drew
          simp -dsimp [go_sem, hcell (w6).drew rfl, q0]
          refine ⟨fun w1 h1 => by simp [hcell w1 h1, q0], ?_⟩
          refine call (left_spec _ _ _ _ _ (hRl.nw kd)) ?_
          rintro v w21 ⟨rfl, rfl⟩
          refine ⟨rfl, ?_⟩
          simp -dsimp [go_sem, hcell (w6).drew rfl, q1]
          refine ⟨fun w1 h1 => by simp [hcell w1 h1, q1], ?_⟩
          refine call (good_spec _ _ _ _ _ (hRl.nw kd)) ?_
          rintro v w22 ⟨rfl, rfl⟩
          refine ⟨rfl, ?_⟩
          simp -dsimp [go_sem, not_beq]
          refine call (whole_spec _ _ _ _ _ (hRl.nw kd)) ?_
          rintro v w23 ⟨rfl, rfl⟩
          refine ⟨rfl, ?_⟩
          simp -dsimp [go_sem]
          refine call (refWhole_spec _ _ _ _ _ (hWl.nw kd)) ?_
          rintro v w24 ⟨rfl, rfl⟩
          refine ⟨rfl, ?_⟩
          simp -dsimp [go_sem, f10, hki]
          exact ⟨⟨i1, _, _, by omega, rfl, Nat.le_trans hLl hll, hRl.nw kd, hWl.nw kd, hKl.nw kd⟩, by simp [intOf]; omega⟩
        · have n3 : (kd == 3) = false := by simpa using kd3
          by_cases kd4 : kd = 4
          · subst kd4
            simp -dsimp [go_sem, f10, hlt, hcK]
            refine call (bad_spec g l bad F w' hR) ?_
            rintro v w4 ⟨rfl, hR4, hk4⟩
            have hW4 := hW.kp_ hk4 hgG
            simp -dsimp [go_sem]
            refine call (refBad_spec h l bad G w4 hW4) ?_
            rintro v w5 ⟨rfl, hW5, hk5⟩
            have hR5 := hR4.kp_ hk5 hhF
            have k5 : Nw w1 w5 := (hK.at_ hk4 fun k e => by rw [show k = g from e]; exact nF _ hR.in_).at_ hk5 fun k e => by rw [show k = h from e]; exact nG _ hW.in_
            have hl0 : ([] : List UInt8).length ≤ l.length := by simp
            obtain ⟨l5, hl5⟩ : ∃ l5 : List UInt8, l5 = [] := ⟨_, rfl⟩
            obtain ⟨b5, hb5⟩ : ∃ b5 : Bool, b5 = true := ⟨_, rfl⟩
            rw [← hl5, ← hb5] at hR5 hW5
            rw [← hl5] at hl0
            simp -dsimp [go_sem]
            have hRl := hR5
            have hWl := hW5
            have hKl := k5
            have hLl := hl0
            obtain ⟨A9, c9, hb9, _⟩ := id hWl
            have q0 := hb9.cell 0
            have q1 := hb9.cell 1
            refine draw (.take 0 (.take 1 (.take 2 (.take 3 (.take 5 (.take 6 (.take 7 (.take 8 (.take 9 (.alt 4 (.take 10 (.take 11 (.take 12 (.take 13 (.take 15 (.take 16 (.take 17 (.take 18 (.alt 14 (.take 19 (.take 20 (.take 21 (.take 22 (.take 24 (.alt 23 (.alt 25 (.take 26 (.take 27 .done)) .stop) .stop)))))) .stop))))))))) .stop)))))))))) (by kernel_rfl) (fun w1 => w1.heap = (w5).heap) rfl ?_
            have hcell : ∀ w1 : World, w1.heap = (w5).heap → ∀ a, w1.cell? a = (w5).cell? a := fun w1 h a => by simp [World.cell?, h]
            have kd : Nw w5 (w5).drew := (Kp.refl _ _).drew
            simp -dsimp [go_sem, hcell (w5).drew rfl, q0]
            refine ⟨fun w1 h1 => by simp [hcell w1 h1, q0], ?_⟩
            refine call (left_spec _ _ _ _ _ (hRl.nw kd)) ?_
            rintro v w21 ⟨rfl, rfl⟩
            refine ⟨rfl, ?_⟩
            simp -dsimp [go_sem, hcell (w5).drew rfl, q1]
            refine ⟨fun w1 h1 => by simp [hcell w1 h1, q1], ?_⟩
            refine call (good_spec _ _ _ _ _ (hRl.nw kd)) ?_
            rintro v w22 ⟨rfl, rfl⟩
            refine ⟨rfl, ?_⟩
            simp -dsimp [go_sem, not_beq]
            refine call (whole_spec _ _ _ _ _ (hRl.nw kd)) ?_
            rintro v w23 ⟨rfl, rfl⟩
            refine ⟨rfl, ?_⟩
            simp -dsimp [go_sem]
            refine call (refWhole_spec _ _ _ _ _ (hWl.nw kd)) ?_
            rintro v w24 ⟨rfl, rfl⟩
            refine ⟨rfl, ?_⟩
            simp -dsimp [go_sem, f10, hki]
            exact ⟨⟨i1, _, _, by omega, rfl, Nat.le_trans hLl hll, hRl.nw kd, hWl.nw kd, hKl.nw kd⟩, by simp [intOf]; omega⟩
          · have n4 : (kd == 4) = false := by simpa using kd4
            simp -dsimp [go_sem, f10, hlt, hcK, n1, n2, n3, n4]
            have ka1 : Nw w' (w'.alloc (.cells #[i64 7] 3)) := (Kp.refl _ _).alloc _
            have ka2 := ka1.alloc (.cells #[i64 7] 3)
            have ka3 := ka2.alloc (.cells #[.pointer (some ⟨w'.heap.size, 0, none⟩), .pointer none, .pointer (some ⟨w'.heap.size + 1, 0, none⟩)] 55)
            have hA0 : Blk (((w'.alloc (.cells #[i64 7] 3)).alloc (.cells #[i64 7] 3)).alloc (.cells #[.pointer (some ⟨w'.heap.size, 0, none⟩), .pointer none, .pointer (some ⟨w'.heap.size + 1, 0, none⟩)] 55)) w'.heap.size 3 #[i64 7] :=
              ((Blk.fresh (w := w') rfl).kp ((Kp.refl (fun _ => False) _).alloc (.cells #[i64 7] 3)) fun h => h).kp ((Kp.refl (fun _ => False) _).alloc _) fun h => h
            have hC0 : Blk (((w'.alloc (.cells #[i64 7] 3)).alloc (.cells #[i64 7] 3)).alloc (.cells #[.pointer (some ⟨w'.heap.size, 0, none⟩), .pointer none, .pointer (some ⟨w'.heap.size + 1, 0, none⟩)] 55)) (w'.heap.size + 1) 3 #[i64 7] :=
              (Blk.fresh (w := w'.alloc (.cells #[i64 7] 3)) (by simp)).kp ((Kp.refl (fun _ => False) _).alloc _) fun h => h
            have hS0 : Blk (((w'.alloc (.cells #[i64 7] 3)).alloc (.cells #[i64 7] 3)).alloc (.cells #[.pointer (some ⟨w'.heap.size, 0, none⟩), .pointer none, .pointer (some ⟨w'.heap.size + 1, 0, none⟩)] 55)) (w'.heap.size + 1 + 1) 55 #[.pointer (some ⟨w'.heap.size, 0, none⟩), .pointer none, .pointer (some ⟨w'.heap.size + 1, 0, none⟩)] :=
              Blk.fresh (by simp)
            generalize ((w'.alloc (.cells #[i64 7] 3)).alloc (.cells #[i64 7] 3)).alloc (.cells #[.pointer (some ⟨w'.heap.size, 0, none⟩), .pointer none, .pointer (some ⟨w'.heap.size + 1, 0, none⟩)] 55) = wa at *
            have hFl := hR.lt_
            have hGl := hW.lt_
            have hhl := hGl h hW.in_
            obtain ⟨sz, hsz⟩ : ∃ sz, sz = w'.heap.size := ⟨_, rfl⟩
            rw [← hsz] at hA0 hC0 hS0 hFl hGl hhl ⊢
            have hn4 := nums3_spec g sz (sz + 1) (sz + 1 + 1) _ _ l bad F wa (hR.nw ka3) (by omega) hS0 hA0 hC0 (by omega) (by omega) (by omega) (fun e => by have := hFl _ e; omega) (fun e => by have := hFl _ e; omega) (fun e => by have := hFl _ e; omega)
            have l1 := numL_len l bad
            have l2 := num2_len l bad
            have l3 := num3_len l bad
            have hn1 : ∀ w4, RefR w4 h l bad G → Cal Try.prog 25 #[.pointer (some ⟨h, 0, none⟩)] w4 fun v w' => v = i64 (numL l bad).1 ∧ RefR w' h (numL l bad).2.1 (numL l bad).2.2 G ∧ Kp (At h) w4 w' := fun w4 hW4 => refNumT_spec h l bad G w4 hW4 (by omega)
            have hn2 : ∀ w4, RefR w4 h (numL l bad).2.1 (numL l bad).2.2 G → Cal Try.prog 25 #[.pointer (some ⟨h, 0, none⟩)] w4 fun v w' => v = i64 (num2 l bad).1 ∧ RefR w' h (num2 l bad).2.1 (num2 l bad).2.2 G ∧ Kp (At h) w4 w' := fun w4 hW4 => refNumT_spec h _ _ G w4 hW4 (by omega)
            have hn3 : ∀ w4, RefR w4 h (num2 l bad).2.1 (num2 l bad).2.2 G → Cal Try.prog 25 #[.pointer (some ⟨h, 0, none⟩)] w4 fun v w' => v = i64 (num3 l bad).1 ∧ RefR w' h (num3 l bad).2.1 (num3 l bad).2.2 G ∧ Kp (At h) w4 w' := fun w4 hW4 => refNumT_spec h _ _ G w4 hW4 (by omega)
            obtain ⟨P1, hP1⟩ : ∃ P, P = numL l bad := ⟨_, rfl⟩
            obtain ⟨P2, hP2⟩ : ∃ P, P = num2 l bad := ⟨_, rfl⟩
            obtain ⟨P3, hP3⟩ : ∃ P, P = num3 l bad := ⟨_, rfl⟩
            rw [← hP1] at hn1 hn2 hn4 l1
            rw [← hP2] at hn2 hn3 l2
            rw [← hP3] at hn3 hn4 l3
            obtain ⟨p1, l4, b4⟩ := P1
            obtain ⟨p2, l6, b6⟩ := P2
            obtain ⟨p3, l5, b5⟩ := P3
            simp only at hn1 hn2 hn3 hn4 l1 l2 l3
            refine call hn4 ?_
            rintro v w4 ⟨rfl, hA4, hC4, hR4, hk4⟩
            have hW4 := (hW.nw ka3).kp_ hk4 fun k hg e => by
              have := hGl k hg
              rcases e with e | e | e
              · exact dFG k e hg
              · omega
              · omega
            simp -dsimp [go_sem]
            refine call (hn1 w4 hW4) ?_
            rintro v w5 ⟨rfl, hW5, hk5⟩
            simp -dsimp [go_sem]
            refine call (hn2 w5 hW5) ?_
            rintro v w6 ⟨rfl, hW6, hk6⟩
            have hR6 := (hR4.kp_ hk5 hhF).kp_ hk6 hhF
            have hA6 := (hA4.kp hk5 (fun (e : sz = h) => by omega)).kp hk6 (fun (e : sz = h) => by omega)
            have hC6 := (hC4.kp hk5 (fun (e : sz + 1 = h) => by omega)).kp hk6 (fun (e : sz + 1 = h) => by omega)
            have gA := hA6.cell 0
            have gC := hC6.cell 0
            have hsz1 : w1.heap.size ≤ sz := by rw [hsz]; exact hK.size
            have k4 : Nw w1 w4 := (hK.nw ka3).at_ hk4 fun k e => by
              rcases e with e | e | e
              · exact nF k e
              · omega
              · omega
            have nh : Nf w1 (At h) := fun k e => by rw [show k = h from e]; exact nG _ hW.in_
            have k6 : Nw w1 w6 := (k4.at_ hk5 nh).at_ hk6 nh
            simp -dsimp [go_sem]
            refine draw (.take 0 (.take 1 (.take 2 (.take 3 (.take 4 (.take 5 (.alt 6 (.take 7 (.take 8 (.take 9 .done))) .stop))))))) (by kernel_rfl) (fun wz => Kp (At h) w6 wz) ((Kp.refl _ _).drew) ?_
            have kd0 : Nw w6 w6.drew := (Kp.refl _ _).drew
            have gAd := (hA6.kp kd0 fun h => h).cell 0
            have gCd := (hC6.kp kd0 fun h => h).cell 0
            simp -dsimp [go_sem, gAd, gCd]
            have gA' : w6.cell? ⟨sz, 0, none⟩ = some (i64 p1) := gA
            have gC' : w6.cell? ⟨sz + 1, 0, none⟩ = some (i64 p3) := gC
            refine ⟨fun wz hz => by simp [hz.cell_some gA' (fun (e : sz = h) => by omega)], fun wz hz => by simp [hz.cell_some gC' (fun (e : sz + 1 = h) => by omega)], ?_⟩
            refine call (hn3 w6.drew (hW6.nw kd0)) ?_
            rintro v w7 ⟨rfl, hW7, hk7⟩
            have hz7 : Kp (At h) w6 w7 := (kd0.kp _).trans hk7 fun _ _ e => e
            refine ⟨hz7, ?_⟩
            have hR7 := hR6.kp_ hz7 hhF
            have k7 : Nw w1 w7 := k6.at_ hz7 nh
            simp -dsimp [go_sem]
            have hRl := hR7
            have hWl := hW7
            have hKl := k7
            have hLl := l3
            obtain ⟨A9, c9, hb9, _⟩ := id hWl
            have q0 := hb9.cell 0
            have q1 := hb9.cell 1
            refine draw (.take 0 (.take 1 (.take 2 (.take 3 (.take 5 (.take 6 (.take 7 (.take 8 (.take 9 (.alt 4 (.take 10 (.take 11 (.take 12 (.take 13 (.take 15 (.take 16 (.take 17 (.take 18 (.alt 14 (.take 19 (.take 20 (.take 21 (.take 22 (.take 24 (.alt 23 (.alt 25 (.take 26 (.take 27 .done)) .stop) .stop)))))) .stop))))))))) .stop)))))))))) (by kernel_rfl) (fun w1 => w1.heap = (w7).heap) rfl ?_
            have hcell : ∀ w1 : World, w1.heap = (w7).heap → ∀ a, w1.cell? a = (w7).cell? a := fun w1 h a => by simp [World.cell?, h]
            have kd : Nw w7 (w7).drew := (Kp.refl _ _).drew
            simp -dsimp [go_sem, hcell (w7).drew rfl, q0]
            refine ⟨fun w1 h1 => by simp [hcell w1 h1, q0], ?_⟩
            refine call (left_spec _ _ _ _ _ (hRl.nw kd)) ?_
            rintro v w21 ⟨rfl, rfl⟩
            refine ⟨rfl, ?_⟩
            simp -dsimp [go_sem, hcell (w7).drew rfl, q1]
            refine ⟨fun w1 h1 => by simp [hcell w1 h1, q1], ?_⟩
            refine call (good_spec _ _ _ _ _ (hRl.nw kd)) ?_
            rintro v w22 ⟨rfl, rfl⟩
            refine ⟨rfl, ?_⟩
            simp -dsimp [go_sem, not_beq]
            refine call (whole_spec _ _ _ _ _ (hRl.nw kd)) ?_
            rintro v w23 ⟨rfl, rfl⟩
            refine ⟨rfl, ?_⟩
            simp -dsimp [go_sem]
            refine call (refWhole_spec _ _ _ _ _ (hWl.nw kd)) ?_
            rintro v w24 ⟨rfl, rfl⟩
            refine ⟨rfl, ?_⟩
            simp -dsimp [go_sem, f10, hki]
            exact ⟨⟨i1, _, _, by omega, rfl, Nat.le_trans hLl hll, hRl.nw kd, hWl.nw kd, hKl.nw kd⟩, by simp [intOf]; omega⟩
  · obtain rfl : i = ks.length := by omega
    simp -dsimp [go_sem, f10]
    refine call (stands_spec b w' A1 A cx c (by simpa using (ho1.nw hK).rd) (by have := ho1.2.1; omega) (hrA.nw (hk1.nw hK)) (by omega)) ?_
    rintro v w4 ⟨rfl, hk4⟩
    simp -dsimp [go_sem]
    refine call (whole_spec _ _ _ _ _ (hR.nw hk4)) ?_
    rintro v w5 ⟨rfl, rfl⟩
    simp -dsimp [go_sem]
    refine call (refWhole_spec _ _ _ _ _ (hW.nw hk4)) ?_
    rintro v w6 ⟨rfl, rfl⟩
    simp -dsimp [go_sem]
    refine call (known_spec w4) ?_
    rintro v w7 ⟨rfl, hk7⟩
    simp -dsimp [go_sem]
    exact ((hk1.nw hK).nw hk4).nw hk7
end Go.Proofs.Ytfdbnlgokaapnaa
