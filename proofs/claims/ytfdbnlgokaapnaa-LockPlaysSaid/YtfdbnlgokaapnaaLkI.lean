/-
  LockPlays walked. By the session itself.
-/
import Derived.Test.YtfdbnlgokaapnaaLkH
namespace Go.Proofs.Ytfdbnlgokaapnaa
set_option linter.unusedSimpArgs false
set_option linter.unusedVariables false
set_option maxRecDepth 100000
set_option maxHeartbeats 1000000
open Go.Vc Go.RowKit

/-- Both, alike, behind i acts. -/
def Both (w w' : World) (g y : Nat) (F : Nat → Prop) (i : Nat) : Prop := ∃ (hl : List (ByteArray × Int)) (dl : List (Int × Int)) (G : Nat → Prop), hl.length ≤ i ∧ dl.length ≤ i ∧ (hl.map (·.1)).Nodup ∧ (dl.Pairwise fun p q => p.1 < q.1) ∧ Lk w' g (gLook hl) (gLook dl) F ∧ RefL w' y hl dl G ∧ (∀ k, F k → ¬ G k) ∧ Nf w G ∧ Nw w w'
theorem Lk.lt_ {w : World} {g : Nat} {f : ByteArray → Option Int} {d : Int → Option Int} {F : Nat → Prop} (h : Lk w g f d F) : ∀ k, F k → k < w.heap.size := by
  obtain ⟨_, _, _, _, _, _, _, h⟩ := h
  exact h
theorem plays_law (l : List Act) (A : Option Addr) (c : Nat) (w : World) (h : Acts w A l) :
    Cal Try.prog 4 #[.slice A l.length c] w fun v w' => v = .bool true ∧ Nw w w' := by
  refine enter Try.mixed Try.func4 rfl (by kernel_rfl) ?_
  simp -dsimp [go_sem]
  refine call (long_spec l A c w h) ?_
  rintro v w0 ⟨⟨b, rfl⟩, rfl⟩
  simp -dsimp [go_sem]
  refine cond_b (fun hb => ?_) (fun hb => ?_)
  · simp -dsimp [go_sem]
    exact Kp.refl _ _
  simp -dsimp [go_sem]
  refine call (new_spec w0) ?_
  rintro v w1 ⟨g, F, rfl, hL, nF, hk⟩
  simp -dsimp [go_sem]
  obtain ⟨y, hy⟩ : ∃ y, y = w1.heap.size := ⟨_, rfl⟩
  have ka : Nw w1 (w1.alloc (.cells #[.slice none 0 0, .slice none 0 0] 36)) := (Kp.refl _ _).alloc _
  have hR0 : RefL (w1.alloc (.cells #[.slice none 0 0, .slice none 0 0] 36)) y [] [] (At y) :=
    ⟨none, 0, none, 0, Blk.fresh hy, Ow.nil _ _ _, Rd.nil _ _, Nat.le_refl _, fun k hk => by
      rcases hk with e | e | e
      · exact e
      · exact e.elim
      · exact e.elim, (fun a ha => by cases ha), (fun a ha => by cases ha), (fun k hk => hk.elim), fun k (e : k = y) => by simp [e, hy]⟩
  rw [← hy]
  have hL0 := hL.kp ka fun _ _ h => h
  have hF1 := hL.lt_
  have nw0 := hk.nw ka
  have hyw : w0.heap.size ≤ y := by rw [hy]; exact hk.size
  generalize w1.alloc (.cells #[.slice none 0 0, .slice none 0 0] 36) = wB at *
  refine loop [2, 5, 6, 7, 8, 9, 10, 11, 12, 13, 21, 22, 23, 24, 25, 26, 27, 28, 29, 30, 31, 32, 33, 34, 35, 36, 37, 38, 39, 40, 41, 42, 43, 44, 45, 46, 47, 48, 49, 50, 51, 52, 53, 54, 55, 56, 57, 58, 59, 60, 61, 62, 63, 64, 65, 66, 67, 68, 69, 70, 71, 72, 73, 74, 75, 76, 77, 78, 79, 80, 81, 82, 83, 84, 85, 86, 87, 88, 89, 90, 91, 92, 93, 94, 95, 96, 97, 98, 99, 100, 101, 102, 103, 104, 105, 106, 107, 108, 109, 110, 111, 112, 113, 114, 115, 116, 117, 118, 119, 120, 121, 122, 123, 124, 125, 126, 127, 128, 129, 130, 131, 132, 133, 134, 135, 136, 137, 138, 139, 140, 141] (by kernel_rfl)
    (fun s w' => Box1 (fun x w' => ∃ i : Nat, x = i64 i ∧ i ≤ 100 ∧ Both w0 w' g y F i) (s 5) w') (fun s _ => 100 - (intOf (s 5)).toNat)
    ⟨0, rfl, by omega, [], [], At y, Nat.le_refl _, Nat.le_refl _, by simp, by simp, hL0, hR0, fun k hk (e : k = y) => by have := hF1 k hk; omega, Nf.at_ hyw, nw0⟩ ?_
  rintro s w' ⟨i, s5, hi, hl, dl, G, hll, hdl, nd, srt, hL, hR, dFG, nG, hK⟩
  by_cases hlt : i < l.length
  · by_cases h100 : i < 100
    · have h100' : (i : Int) < 100 := by omega
      obtain ⟨b, o, rfl, hc⟩ := (h.nw hK) i hlt
      have c0 := hc 0 _ rfl
      have c1 := hc 1 _ rfl
      have c2 := hc 2 _ rfl
      have c3 := hc 3 _ rfl
      have c4 := hc 4 _ rfl
      rw [Nat.add_zero] at c0
      generalize l[i].kind = kd at *
      generalize l[i].user = un at *
      generalize l[i].conn = cn at *
      generalize l[i].now = nw at *
      generalize l[i].limit = lm at *
      clear hc
      have ka : Nw w' (w'.alloc (.cells #[i64 kd, .string un, i64 cn, i64 nw, i64 lm] 38)) := (Kp.refl _ _).alloc _
      have hq : Blk (w'.alloc (.cells #[i64 kd, .string un, i64 cn, i64 nw, i64 lm] 38)) w'.heap.size 38 #[i64 kd, .string un, i64 cn, i64 nw, i64 lm] := Blk.new _ _ _
      have hFl := hL.lt_
      have hGl := hR.lt_
      have hLa := hL.kp ka fun _ _ h => h
      have hRa := hR.kp_ ka fun _ _ h => h
      have ka0 := Kp.nw hK ka
      have hki : IntKind.i64.wrap ((i : Int) + 1) = ((i + 1 : Nat) : Int) := w64 (by omega) (by omega)
      obtain ⟨i1, hi1⟩ : ∃ i1, i1 = i + 1 := ⟨_, rfl⟩
      rw [← hi1] at hki
      obtain ⟨qb, hqb⟩ : ∃ qb, qb = w'.heap.size := ⟨_, rfl⟩
      have hqF : ¬ F qb := fun e => by have := hFl _ e; omega
      have hqG : ¬ G qb := fun e => by have := hGl _ e; omega
      by_cases k1 : kd = 1
      · subst k1
        simp -dsimp [go_sem, s5, hlt, h100', c0, c1, c2, c3, c4]
        rw [← hqb] at hq ⊢
        generalize w'.alloc (.cells #[i64 1, .string un, i64 cn, i64 nw, i64 lm] 38) = wa at *
        have q1 : wa.cell? ⟨qb, 1, none⟩ = some (.string un) := hq.cell 1
        have q2 : wa.cell? ⟨qb, 2, none⟩ = some (i64 cn) := hq.cell 2
        have q3 : wa.cell? ⟨qb, 3, none⟩ = some (i64 nw) := hq.cell 3
        have q4 : wa.cell? ⟨qb, 4, none⟩ = some (i64 lm) := hq.cell 4
        have hqS : ¬ (F qb ∨ G qb) := fun e => e.elim hqF hqG
        have kd0 : Nw wa wa.drew := (Kp.refl _ _).drew
        have q1d := kd0.cell_some q1 fun h => h
        have q2d := kd0.cell_some q2 fun h => h
        refine draw (.take 0 (.take 1 (.take 2 (.take 3 (.take 4 (.take 6 (.take 7 (.take 8 (.take 9 (.take 10 (.alt 5 (.alt 11 (.take 12 .done) .stop) .stop))))))))))) (by kernel_rfl) (fun wz => Kp (fun k => F k ∨ G k) wa wz) ((Kp.refl _ _).drew) ?_
        simp -dsimp [go_sem, q1d, q2d]
        iterate 4 (first | refine ⟨fun wz hz => by simp [hz.cell_some q1 hqS, hz.cell_some q2 hqS], ?_⟩ | skip)
        refine call (take_spec g _ _ F un cn wa.drew (hLa.kp kd0 fun _ _ h => h)) ?_
        rintro v w3 ⟨rfl, hL3, hk3⟩
        have hz3 : Kp F wa w3 := (kd0.kp _).trans hk3 fun _ _ e => e
        refine ⟨hz3.mono fun k _ e => .inl e, ?_⟩
        have hR3 := hRa.kp_ hz3 fun k hg hf => dFG k hf hg
        have nw3 := ka0.at_ hz3 nF
        have r1 := (hz3).cell_some q1 hqF
        have r2 := (hz3).cell_some q2 hqF
        have r3 := (hz3).cell_some q3 hqF
        have r4 := (hz3).cell_some q4 hqF
        simp -dsimp [go_sem, r1, r2, r3, r4]
        refine call (rTake_spec y hl dl G un cn w3 hR3 (by omega)) ?_
        rintro v w4 ⟨rfl, G4, hR4, hG4, hK4⟩
        refine ⟨(hz3.mono fun k _ e => .inl e).trans hK4 fun k _ e => .inr e, ?_⟩
        have hL4 := hL3.kp hK4 fun k hf hg => dFG k hf hg
        have dFG4 : ∀ k, F k → ¬ G4 k := fun k hf hg => Gr.dj hG4 (fun k hg hf => dFG k hf hg) hL3.lt_ k hg hf
        have nG4 := nG.gr hG4 nw3.size
        have nw4 : Nw w0 _ := nw3.at_ hK4 nG
        rw [takeF_look] at hL4
        simp -dsimp [go_sem, s5, hki]
        exact ⟨⟨i1, rfl, by omega, (takeL hl un cn), dl, G4, (Nat.le_trans (takeL_len hl un cn) (by omega)), (by omega), (takeL_nd nd un cn), srt, hL4, hR4, dFG4, nG4, nw4⟩, by simp [intOf]; omega⟩
      · have k1' : (kd == 1) = false := by simpa using k1
        by_cases k2 : kd = 2
        · subst k2
          simp -dsimp [go_sem, s5, hlt, h100', c0, c1, c2, c3, c4]
          rw [← hqb] at hq ⊢
          generalize w'.alloc (.cells #[i64 2, .string un, i64 cn, i64 nw, i64 lm] 38) = wa at *
          have q1 : wa.cell? ⟨qb, 1, none⟩ = some (.string un) := hq.cell 1
          have q2 : wa.cell? ⟨qb, 2, none⟩ = some (i64 cn) := hq.cell 2
          have q3 : wa.cell? ⟨qb, 3, none⟩ = some (i64 nw) := hq.cell 3
          have q4 : wa.cell? ⟨qb, 4, none⟩ = some (i64 lm) := hq.cell 4
          refine call (free_spec g _ _ F cn wa hLa) ?_
          rintro v w3 ⟨rfl, hL3, hk3⟩
          have hR3 := hRa.kp_ hk3 fun k hg hf => dFG k hf hg
          have nw3 := ka0.at_ hk3 nF
          have r1 := (hk3).cell_some q1 hqF
          have r2 := (hk3).cell_some q2 hqF
          have r3 := (hk3).cell_some q3 hqF
          have r4 := (hk3).cell_some q4 hqF
          simp -dsimp [go_sem, r1, r2, r3, r4]
          refine call (rFree_spec y hl dl G cn w3 hR3 (by omega)) ?_
          rintro v w4 ⟨rfl, G4, hR4, hG4, hK4⟩
          have hL4 := hL3.kp hK4 fun k hf hg => dFG k hf hg
          have dFG4 : ∀ k, F k → ¬ G4 k := fun k hf hg => Gr.dj hG4 (fun k hg hf => dFG k hf hg) hL3.lt_ k hg hf
          have nG4 := nG.gr hG4 nw3.size
          have nw4 : Nw w0 _ := nw3.at_ hK4 nG
          rw [freeF_look nd] at hL4
          simp -dsimp [go_sem, s5, hki]
          exact ⟨⟨i1, rfl, by omega, (hl.filter fun p => p.2 != cn), dl, G4, (Nat.le_trans (List.length_filter_le _ _) (by omega)), (by omega), (filter_nd nd _), srt, hL4, hR4, dFG4, nG4, nw4⟩, by simp [intOf]; omega⟩
        · have k2' : (kd == 2) = false := by simpa using k2
          by_cases k3 : kd = 3
          · subst k3
            simp -dsimp [go_sem, s5, hlt, h100', c0, c1, c2, c3, c4]
            rw [← hqb] at hq ⊢
            generalize w'.alloc (.cells #[i64 3, .string un, i64 cn, i64 nw, i64 lm] 38) = wa at *
            have q1 : wa.cell? ⟨qb, 1, none⟩ = some (.string un) := hq.cell 1
            have q2 : wa.cell? ⟨qb, 2, none⟩ = some (i64 cn) := hq.cell 2
            have q3 : wa.cell? ⟨qb, 3, none⟩ = some (i64 nw) := hq.cell 3
            have q4 : wa.cell? ⟨qb, 4, none⟩ = some (i64 lm) := hq.cell 4
            refine call (touch_spec g _ _ F cn nw lm wa hLa) ?_
            rintro v w3 ⟨rfl, hL3, hk3⟩
            have hR3 := hRa.kp_ hk3 fun k hg hf => dFG k hf hg
            have nw3 := ka0.at_ hk3 nF
            have r1 := (hk3).cell_some q1 hqF
            have r2 := (hk3).cell_some q2 hqF
            have r3 := (hk3).cell_some q3 hqF
            have r4 := (hk3).cell_some q4 hqF
            simp -dsimp [go_sem, r1, r2, r3, r4]
            refine call (rTouch_spec y hl dl G cn nw lm w3 hR3 (by omega)) ?_
            rintro v w4 ⟨rfl, G4, hR4, hG4, hK4⟩
            have hL4 := hL3.kp hK4 fun k hf hg => dFG k hf hg
            have dFG4 : ∀ k, F k → ¬ G4 k := fun k hf hg => Gr.dj hG4 (fun k hg hf => dFG k hf hg) hL3.lt_ k hg hf
            have nG4 := nG.gr hG4 nw3.size
            have nw4 : Nw w0 _ := nw3.at_ hK4 nG
            rw [touchD_look srt] at hL4
            simp -dsimp [go_sem, s5, hki]
            exact ⟨⟨i1, rfl, by omega, hl, (touchL dl cn (IntKind.i64.wrap (nw + lm))), G4, (by omega), (Nat.le_trans (touchL_len _ _ _) (by omega)), nd, (touchL_srt srt _ _), hL4, hR4, dFG4, nG4, nw4⟩, by simp [intOf]; omega⟩
          · have k3' : (kd == 3) = false := by simpa using k3
            by_cases k4 : kd = 4
            · subst k4
              simp -dsimp [go_sem, s5, hlt, h100', c0, c1, c2, c3, c4]
              rw [← hqb] at hq ⊢
              generalize w'.alloc (.cells #[i64 4, .string un, i64 cn, i64 nw, i64 lm] 38) = wa at *
              have q1 : wa.cell? ⟨qb, 1, none⟩ = some (.string un) := hq.cell 1
              have q2 : wa.cell? ⟨qb, 2, none⟩ = some (i64 cn) := hq.cell 2
              have q3 : wa.cell? ⟨qb, 3, none⟩ = some (i64 nw) := hq.cell 3
              have q4 : wa.cell? ⟨qb, 4, none⟩ = some (i64 lm) := hq.cell 4
              refine call (forget_spec g _ _ F cn wa hLa) ?_
              rintro v w3 ⟨rfl, hL3, hk3⟩
              have hR3 := hRa.kp_ hk3 fun k hg hf => dFG k hf hg
              have nw3 := ka0.at_ hk3 nF
              have r1 := (hk3).cell_some q1 hqF
              have r2 := (hk3).cell_some q2 hqF
              have r3 := (hk3).cell_some q3 hqF
              have r4 := (hk3).cell_some q4 hqF
              simp -dsimp [go_sem, r1, r2, r3, r4]
              refine call (rForget_spec y hl dl G cn w3 hR3 (by omega)) ?_
              rintro v w4 ⟨rfl, G4, hR4, hG4, hK4⟩
              have hL4 := hL3.kp hK4 fun k hf hg => dFG k hf hg
              have dFG4 : ∀ k, F k → ¬ G4 k := fun k hf hg => Gr.dj hG4 (fun k hg hf => dFG k hf hg) hL3.lt_ k hg hf
              have nG4 := nG.gr hG4 nw3.size
              have nw4 : Nw w0 _ := nw3.at_ hK4 nG
              rw [forgetD_look srt] at hL4
              simp -dsimp [go_sem, s5, hki]
              exact ⟨⟨i1, rfl, by omega, hl, (dl.filter fun p => p.1 != cn), G4, (by omega), (Nat.le_trans (List.length_filter_le _ _) (by omega)), nd, (srt.filter _), hL4, hR4, dFG4, nG4, nw4⟩, by simp [intOf]; omega⟩
            · have k4' : (kd == 4) = false := by simpa using k4
              by_cases k5 : kd = 5
              · subst k5
                simp -dsimp [go_sem, s5, hlt, h100', c0, c1, c2, c3, c4]
                rw [← hqb] at hq ⊢
                generalize w'.alloc (.cells #[i64 5, .string un, i64 cn, i64 nw, i64 lm] 38) = wa at *
                have q1 : wa.cell? ⟨qb, 1, none⟩ = some (.string un) := hq.cell 1
                have q2 : wa.cell? ⟨qb, 2, none⟩ = some (i64 cn) := hq.cell 2
                have q3 : wa.cell? ⟨qb, 3, none⟩ = some (i64 nw) := hq.cell 3
                have q4 : wa.cell? ⟨qb, 4, none⟩ = some (i64 lm) := hq.cell 4
                have hqS : ¬ (F qb ∨ G qb) := fun e => e.elim hqF hqG
                have kd0 : Nw wa wa.drew := (Kp.refl _ _).drew
                have q3d := kd0.cell_some q3 fun h => h
                refine draw (.take 0 (.take 1 (.take 2 (.take 4 (.take 5 (.take 6 (.alt 3 (.alt 7 (.take 8 (.take 9 .done)) .stop) .stop))))))) (by kernel_rfl) (fun wz => Nw wa wz) ((Kp.refl _ _).drew) ?_
                simp -dsimp [go_sem, q3d]
                iterate 2 (first | refine ⟨fun wz hz => by simp [hz.cell_some q3 fun h => h], ?_⟩ | skip)
                refine call (due_spec g _ _ F nw wa.drew (hLa.kp kd0 fun _ _ h => h) fun ks hnd h => fin_look hnd h (by omega)) ?_
                rintro v w3 ⟨hk3, ks, A3, d3, hnd, hks, rfl, hr3, _⟩
                have hz3 : Nw wa w3 := kd0.nw hk3
                refine ⟨hz3, ?_⟩
                have hL3 := hLa.kp hz3 fun _ _ h => h
                have hR3 := hRa.kp_ hz3 fun _ _ h => h
                have nw3 := ka0.nw hz3
                simp -dsimp [go_sem]
                refine call (rDue_spec y hl dl G nw w3 hR3 (by omega)) ?_
                rintro v w4 ⟨⟨A4, d4, rfl, hr4⟩, hk4⟩
                have hsame := due_same srt hnd hks
                have hklen : ks.length = (dueL dl nw).length := by rw [← hsame]; simp [srtI]
                rw [hsame] at hr3
                rw [hklen]
                refine ⟨hz3.nw hk4, ?_⟩
                have hL4 := hL3.kp hk4 fun _ _ h => h
                have hR4 := hR3.kp_ hk4 fun _ _ h => h
                have nw4 := nw3.nw hk4
                have hr3' := hr3.nw hk4
                have hdl2 : (dueL dl nw).length ≤ 1000 := by
                  have := List.length_filter_le (fun p : Int × Int => decide (p.2 ≤ nw)) dl
                  simp only [dueL, List.length_map]
                  omega
                generalize dueL dl nw = ms at *
                simp -dsimp [go_sem]
                refine loop [2, 9, 127, 128, 129, 130, 131, 132, 133, 134, 135, 136, 137, 138, 139, 140, 141] (by kernel_rfl) (fun f w5 => Box1 (fun x w5 => ∃ k : Nat, k ≤ ms.length ∧ x = i64 k ∧ Nw w4 w5) (f 9) w5) (fun f _ => ms.length - (intOf (f 9)).toNat) ⟨0, Nat.zero_le _, rfl, Kp.refl _ _⟩ ?_
                rintro f2 w5 ⟨k, hkm, f9, hK5⟩
                by_cases hlt3 : k < ms.length
                · obtain ⟨bA, oA, rfl, hcA0⟩ := hr3' k (i64 ms[k]) (by simp [hlt3])
                  obtain ⟨bB, oB, rfl, hcB0⟩ := hr4 k (i64 ms[k]) (by simp [hlt3])
                  have hcA := hK5.cell_some hcA0 fun h => h
                  have hcB := hK5.cell_some hcB0 fun h => h
                  have hkk : IntKind.i64.wrap ((k : Int) + 1) = ((k + 1 : Nat) : Int) := w64 (by omega) (by omega)
                  obtain ⟨kk, hkk'⟩ : ∃ kk, kk = k + 1 := ⟨_, rfl⟩
                  rw [← hkk'] at hkk
                  generalize ms[k] = mk at *
                  simp -dsimp [go_sem, f9, hlt3]
                  refine draw (.take 0 (.take 1 (.take 2 (.take 3 (.take 4 (.take 5 (.take 6 (.take 7 (.take 8 .done))))))))) (by kernel_rfl) (fun w1 => Nw w5 w1) ((Kp.refl _ _).drew) ?_
                  have kd1 : Nw w5 w5.drew := (Kp.refl _ _).drew
                  have hcAd := kd1.cell_some hcA fun h => h
                  have hcBd := kd1.cell_some hcB fun h => h
                  simp -dsimp [go_sem, f9, hlt3, hcAd, hcBd]
                  refine ⟨fun wz hz => by simp [hz.cell_some hcA fun h => h], fun wz hz => by simp [hz.cell_some hcB fun h => h], ?_⟩
                  simp -dsimp [go_sem, f9, hkk]
                  exact ⟨⟨kk, by omega, rfl, hK5.drew⟩, by simp [intOf]; omega⟩
                · obtain rfl : k = ms.length := by omega
                  simp -dsimp [go_sem, f9]
                  have hL5 := hL4.kp hK5 fun _ _ h => h
                  have hR5 := hR4.kp_ hK5 fun _ _ h => h
                  have nw5 := nw4.nw hK5
                  simp -dsimp [go_sem, s5, hki]
                  exact ⟨⟨i1, rfl, by omega, hl, dl, G, (by omega), (by omega), nd, srt, hL5, hR5, dFG, nG, nw5⟩, by simp [intOf]; omega⟩
              · have k5' : (kd == 5) = false := by simpa using k5
                simp -dsimp [go_sem, s5, hlt, h100', c0, c1, c2, c3, c4, k1', k2', k3', k4', k5']
                rw [← hqb] at hq ⊢
                generalize w'.alloc (.cells #[i64 kd, .string un, i64 cn, i64 nw, i64 lm] 38) = wa at *
                have q1 : wa.cell? ⟨qb, 1, none⟩ = some (.string un) := hq.cell 1
                refine call (holder_spec g _ _ F un wa hLa) ?_
                rintro v w3 ⟨rfl, rfl⟩
                simp -dsimp [go_sem, q1]
                refine call (rHolder_spec y hl dl G un w3 hRa (by omega)) ?_
                rintro v w4 ⟨rfl, rfl⟩
                simp -dsimp [go_sem, s5, hki]
                exact ⟨⟨i1, rfl, by omega, hl, dl, G, (by omega), (by omega), nd, srt, hLa, hRa, dFG, nG, ka0⟩, by simp [intOf]; omega⟩
    · have h100' : ¬ (i : Int) < 100 := by omega
      simp -dsimp [go_sem, s5, hlt, h100']
      refine call (lknown_spec w') ?_
      rintro v w3 ⟨rfl, hk3⟩
      simp -dsimp [go_sem]
      exact hK.nw hk3
  · simp -dsimp [go_sem, s5, hlt]
    refine call (lknown_spec w') ?_
    rintro v w3 ⟨rfl, hk3⟩
    simp -dsimp [go_sem]
    exact hK.nw hk3
end Go.Proofs.Ytfdbnlgokaapnaa
