/-
  LedgerJumps walked. By the session itself.
-/
import Derived.Test.YthonmjgagblogaaLgV
namespace Go.Proofs.Ythonmjgagblogaa
set_option linter.unusedSimpArgs false
set_option linter.unusedVariables false
set_option maxRecDepth 100000
set_option maxHeartbeats 2000000
open Go.Vc Go.RowKit

theorem Lw.disk {w0 w : World} {l g : Nat} {p : Nm} {D D' : Dsk} {L : Led} {k : FuncId} {args : Array Value} {u : Value} (T : Lw w0 w l g p D L)
    (h : ∀ F, Dk w g D F → Cal Try.prog k args w fun v w' => v = u ∧ ∃ F', Dk w' g D' F' ∧ Gr F F' w w' ∧ Kp F w w') : Cal Try.prog k args w fun v w' => v = u ∧ Lw w0 w' l g p D' L :=
  (T.lx.disk (e := 0) (Ow.nil _ _ _) h).mono fun v w' ⟨e, h, _⟩ => ⟨e, h.lw⟩
theorem Lw.fuse {w0 w : World} {l g : Nat} {p : Nm} {D : Dsk} {L : Led} (T : Lw w0 w l g p D L) (n : Int) (hn : n ≤ 9223372036854775807) : Cal Try.prog 30 #[.pointer (some ⟨g, 0, none⟩), i64 n] w fun v w' => v = .tuple #[] ∧ Lw w0 w' l g p (dFuse D n) L :=
  T.disk fun F h => (dfuse_spec n hn g D F w h).mono fun v w' ⟨e, h', k⟩ => ⟨e, F, h', fun i hi => .inl hi, k.mono fun i _ (e : i = g) => by
    obtain ⟨_, _, _, _, _, hM⟩ := h
    exact e ▸ hM.fg⟩
theorem rep_mem {c : UInt8} {n : Nat} : ∀ b ∈ rep c n, b.length ≤ 65536 := fun b hb => by
  unfold rep at hb
  rw [List.eq_of_mem_replicate hb]
  simp
theorem rep_len (c : UInt8) (n : Nat) : (rep c n).length = n := by simp [rep]
theorem ljumps_law (few far fuse draw : Int) (w : World) :
    Cal Try.prog 6 #[i64 few, i64 far, i64 fuse, i64 draw] w fun v w' => v = .bool true ∧ Nw w w' := by
  refine enter Try.mixed Try.func6 rfl (by kernel_rfl) ?_
  by_cases g1 : few < 0
  · simp -dsimp [go_sem, g1]
    refine call (lgknown_spec w) ?_
    rintro v w1 ⟨rfl, hk1⟩
    simp -dsimp [go_sem]
    exact hk1
  by_cases g2 : 20 < few
  · simp -dsimp [go_sem, g1, g2]
    refine call (lgknown_spec w) ?_
    rintro v w1 ⟨rfl, hk1⟩
    simp -dsimp [go_sem]
    exact hk1
  by_cases g3 : far < 0
  · simp -dsimp [go_sem, g1, g2, g3]
    refine call (lgknown_spec w) ?_
    rintro v w1 ⟨rfl, hk1⟩
    simp -dsimp [go_sem]
    exact hk1
  by_cases g4 : 1000 < far
  · simp -dsimp [go_sem, g1, g2, g3, g4]
    refine call (lgknown_spec w) ?_
    rintro v w1 ⟨rfl, hk1⟩
    simp -dsimp [go_sem]
    exact hk1
  by_cases g5 : fuse < 0
  · simp -dsimp [go_sem, g1, g2, g3, g4, g5]
    refine call (lgknown_spec w) ?_
    rintro v w1 ⟨rfl, hk1⟩
    simp -dsimp [go_sem]
    exact hk1
  by_cases g6 : 20 < fuse
  · simp -dsimp [go_sem, g1, g2, g3, g4, g5, g6]
    refine call (lgknown_spec w) ?_
    rintro v w1 ⟨rfl, hk1⟩
    simp -dsimp [go_sem]
    exact hk1
  simp -dsimp [go_sem, g1, g2, g3, g4, g5, g6]
  refine call (new_spec 65536 w) ?_
  rintro v w1 (⟨h, _⟩ | ⟨_, _, g, F, rfl, hD, nF, hk1⟩)
  · omega
  obtain ⟨D0, hD0⟩ : ∃ D0, D0 = (⟨Int.toNat 65536, [], none⟩ : Dsk) := ⟨_, rfl⟩
  rw [← hD0] at hD
  have eo : opn D0 [97] = (D0, 0, Led.zero) := opn_none (by rw [hD0]; rfl) (by rw [hD0]; rfl) (by rw [hD0]; rfl)
  simp -dsimp [go_sem]
  refine call (open_spec g [97] D0 F w1 hD (by simp) (by simp)) ?_
  rw [eo]
  rintro v w2 hO
  obtain ⟨l, rfl, T2⟩ := Lw.of_open hO rfl (fun k hk => nF k hk) hk1
  simp only at T2
  have z0 : Sta D0 0 [] [] 0 0 := ⟨⟨T2.ok, by rw [hD0], by rw [hD0]; simp [Dsk.used, sumv], by rw [hD0]; simp⟩, by rw [hD0]; rfl, by rw [hD0]; rfl, .inl ⟨rfl, rfl, by rw [hD0]; rfl⟩, .inl ⟨rfl, by rw [hD0]; rfl⟩⟩
  have y0 : Sy D0 := fun t x hx => by rw [hD0] at hx; cases hx
  clear hO
  obtain ⟨N, rfl⟩ : ∃ N : Nat, few = N := ⟨few.toNat, by omega⟩
  obtain ⟨M, rfl⟩ : ∃ M : Nat, far = M := ⟨far.toNat, by omega⟩
  simp -dsimp [go_sem]
  refine loop [13, 57, 58, 59, 60, 61, 62, 63, 64, 65] (by kernel_rfl)
    (fun f w' => Box1 (fun x w' => ∃ (i : Nat) (D : Dsk), i ≤ N ∧ x = i64 i ∧ Lw w w' l g [97] D ⟨0, [], rep 120 i, false⟩ ∧ Sta D 0 [] (rep 120 i) (31 * i) i ∧ Sy D) (f 13) w') (fun f _ => N - (intOf (f 13)).toNat)
    ⟨0, D0, Nat.zero_le _, rfl, T2, z0, y0⟩ ?_
  rintro f w3 ⟨i, D, hi, f13, T3, z3, y3⟩
  by_cases hlt : i < N
  · have hlt' : (i : Int) < (N : Int) := by omega
    have hki : IntKind.i64.wrap ((i : Int) + 1) = ((i + 1 : Nat) : Int) := w64 (by omega) (by omega)
    obtain ⟨i1, hi1⟩ : ∃ i1, i1 = i + 1 := ⟨_, rfl⟩
    obtain ⟨D4, e4, z4, y4⟩ := z3.pushed y3 [120] (by simp) (by simp; omega) (by omega) (by rw [rep_len]; omega)
    rw [rep_succ] at e4 z4
    rw [← hi1] at hki e4 z4
    simp -dsimp [go_sem, f13, hlt, hlt']
    refine conv_const rfl rfl (Blk.new w3 _ _) ?_
    intro wc hkc hhc
    have kc : Nw w3 wc := Nw.at_ ((Kp.refl _ _).alloc _) hkc (Nf.at_ (Nat.le_refl _))
    simp -dsimp [go_sem]
    have hap := T3.append (by simp) kc [120] _ 1 (Rd.of_heap hhc) (.inr own_off) (by simp) (by simp)
    rw [e4] at hap
    simp only at hap
    refine call hap ?_
    rintro v w4 ⟨rfl, T4⟩
    simp -dsimp [go_sem, f13, hki]
    exact ⟨⟨i1, D4, by omega, rfl, T4, z4.mono (by simp; omega) (by omega), y4⟩, by simp [intOf]; omega⟩
  obtain rfl : i = N := by omega
  obtain ⟨D3, L3, e, e3, he, hbk⟩ := write_burnt (n := i + M) (b := [121]) (U := fuse) z3 y3 (by omega) (by rw [rep_len]; omega) (by omega) (by simp) rep_mem (by simp; omega) (by omega)
  have hnn : IntKind.i64.wrap ((i : Int) + (M : Int)) = ((i + M : Nat) : Int) := w64 (by omega) (by omega)
  obtain ⟨nn, hnn'⟩ : ∃ nn, nn = i + M := ⟨_, rfl⟩
  rw [← hnn'] at hnn e3 hbk
  simp -dsimp [go_sem, f13]
  refine call (T3.fuse fuse (by omega)) ?_
  rintro v w4 ⟨rfl, T4⟩
  simp -dsimp [go_sem, hnn]
  refine conv_const rfl rfl (Blk.new w4 _ _) ?_
  intro wc hkc hhc
  have kc : Nw w4 wc := Nw.at_ ((Kp.refl _ _).alloc _) hkc (Nf.at_ (Nat.le_refl _))
  simp -dsimp [go_sem]
  have hwr := T4.write (by simp) kc (nn : Int) [121] _ 1 (Rd.of_heap hhc) (.inr own_off) (by simp) (by simp)
  rw [e3] at hwr
  simp only at hwr
  refine call hwr ?_
  rintro v w5 ⟨rfl, T5⟩
  simp -dsimp [go_sem]
  refine call (T5.dw.crash draw) ?_
  rintro v w6 ⟨rfl, T6⟩
  obtain ⟨D4, base, data, qs, e4, s4, hcase⟩ := hbk draw T6.ok
  obtain ⟨F6, hD6, hF6, n6⟩ := T6
  simp -dsimp [go_sem]
  refine call (open_spec g [97] (dCrash D3 draw) F6 w6 hD6 (by simp) (by simp)) ?_
  rw [e4]
  rintro v w7 hO7
  obtain ⟨l7, rfl, T7⟩ := Lw.of_open hO7 rfl hF6 n6
  simp only at T7
  have hq : base ≤ 2000 ∧ data.length ≤ 1 ∧ qs.length ≤ 20 ∧ (∀ b ∈ qs, b.length ≤ 65536) ∧ (base + qs.length = nn ∨ e = 9 ∧ base + qs.length = i) := by
    rcases hcase with ⟨rfl, rfl, rfl⟩ | ⟨h9, rfl, rfl, rfl⟩
    · exact ⟨by omega, by simp, by simp, by simp, .inl (by simp)⟩
    · exact ⟨by omega, by simp, by rw [rep_len]; omega, rep_mem, .inr ⟨h9, by rw [rep_len]; omega⟩⟩
  obtain ⟨q1, q2, q3, q4, q5⟩ := hq
  obtain ⟨K, hK⟩ : ∃ K, K = base + qs.length := ⟨_, rfl⟩
  have hlast : (⟨base, data, qs, false⟩ : Led).last = K := hK.symm
  obtain ⟨D5, e5, s5, x5⟩ := s4.push [122] (by simp) (by simp; omega) (by omega) (by omega)
  have hK1w : IntKind.i64.wrap ((K : Int) + 1) = ((K + 1 : Nat) : Int) := w64 (by omega) (by omega)
  obtain ⟨K1, hK1⟩ : ∃ K1, K1 = K + 1 := ⟨_, rfl⟩
  rw [← hK1] at hK1w
  rw [show base + qs.length + 1 = K1 by omega] at e5
  have hlast6 : (⟨base, data, qs ++ [[122]], false⟩ : Led).last = K1 := by simp [Led.last]; omega
  have hq3 : base ≤ 10000 := by omega
  have hq4 : data.length ≤ 524288 := by omega
  have hq5 : (qs ++ [[122]]).length ≤ 10000 := by simp; omega
  have hq6 : ∀ b ∈ qs ++ [[122]], b.length ≤ 65536 := fun b hb => by
    rcases List.mem_append.1 hb with hb | hb
    · exact q4 b hb
    · rw [List.mem_singleton.1 hb]; simp
  rw [← hK] at q5
  clear hcase hbk e3 e4
  rcases he with rfl | rfl
  · have hKn : K = nn := by rcases q5 with h | ⟨h, _⟩; exact h; exact absurd h (by decide)
    have c1 : ((K : Int) != (nn : Int)) = false := by simp [hKn]
    simp -dsimp [go_sem]
    refine call (Lw.last T7) ?_
    rw [hlast]
    rintro v w8 ⟨rfl, hk8⟩
    have T8 := T7.nw hk8
    simp -dsimp [go_sem, hnn, c1]
    refine call (Lw.last T8) ?_
    rw [hlast]
    rintro v w9 ⟨rfl, hk9⟩
    have T9 := T8.nw hk9
    by_cases hKi : K = i
    · have c2 : ((K : Int) != (i : Int)) = false := by simp [hKi]
      simp -dsimp [go_sem, c2]
      refine call (Lw.last T9) ?_
      rw [hlast]
      rintro v wY ⟨rfl, hkY⟩
      have TY := Lw.nw T9 hkY
      simp -dsimp [go_sem]
      refine conv_const rfl rfl (Blk.new wY _ _) ?_
      intro wc hkc hhc
      have kc : Nw wY wc := Nw.at_ ((Kp.refl _ _).alloc _) hkc (Nf.at_ (Nat.le_refl _))
      simp -dsimp [go_sem]
      have hap := TY.append (by simp) kc [122] _ 1 (Rd.of_heap hhc) (.inr own_off) (by simp) (by simp)
      rw [e5] at hap
      simp only at hap
      refine call hap ?_
      rintro v wZ ⟨rfl, TZ⟩
      simp -dsimp [go_sem]
      refine call (TZ.dw.crash 0) ?_
      rintro v wT ⟨rfl, TT⟩
      obtain ⟨D6, e6⟩ := s5.back TT.ok x5 hq3 hq4 hq5 hq6
      obtain ⟨FT, hDT, hFT, nT⟩ := TT
      simp -dsimp [go_sem]
      refine call (open_spec g [97] (dCrash D5 0) FT wT hDT (by simp) (by simp)) ?_
      rw [e6]
      rintro v wS hOS
      obtain ⟨l6, rfl, T6⟩ := Lw.of_open hOS rfl hFT nT
      simp only at T6
      simp -dsimp [go_sem, hK1w]
      refine call T6.last ?_
      rw [hlast6]
      rintro v wR ⟨rfl, hkR⟩
      simp -dsimp [go_sem]
      refine call (lgknown_spec wR) ?_
      rintro v wQ ⟨rfl, hkQ⟩
      simp -dsimp [go_sem]
      exact (T6.on.nw hkR).nw hkQ
    · have c2 : ((K : Int) != (i : Int)) = true := by simp; omega
      simp -dsimp [go_sem, c2]
      refine call (Lw.last T9) ?_
      rw [hlast]
      rintro v w10 ⟨rfl, hk10⟩
      have T10 := T9.nw hk10
      simp -dsimp [go_sem, hnn, c1]
      refine call (Lw.last T10) ?_
      rw [hlast]
      rintro v wY ⟨rfl, hkY⟩
      have TY := Lw.nw T10 hkY
      simp -dsimp [go_sem]
      refine conv_const rfl rfl (Blk.new wY _ _) ?_
      intro wc hkc hhc
      have kc : Nw wY wc := Nw.at_ ((Kp.refl _ _).alloc _) hkc (Nf.at_ (Nat.le_refl _))
      simp -dsimp [go_sem]
      have hap := TY.append (by simp) kc [122] _ 1 (Rd.of_heap hhc) (.inr own_off) (by simp) (by simp)
      rw [e5] at hap
      simp only at hap
      refine call hap ?_
      rintro v wZ ⟨rfl, TZ⟩
      simp -dsimp [go_sem]
      refine call (TZ.dw.crash 0) ?_
      rintro v wT ⟨rfl, TT⟩
      obtain ⟨D6, e6⟩ := s5.back TT.ok x5 hq3 hq4 hq5 hq6
      obtain ⟨FT, hDT, hFT, nT⟩ := TT
      simp -dsimp [go_sem]
      refine call (open_spec g [97] (dCrash D5 0) FT wT hDT (by simp) (by simp)) ?_
      rw [e6]
      rintro v wS hOS
      obtain ⟨l6, rfl, T6⟩ := Lw.of_open hOS rfl hFT nT
      simp only at T6
      simp -dsimp [go_sem, hK1w]
      refine call T6.last ?_
      rw [hlast6]
      rintro v wR ⟨rfl, hkR⟩
      simp -dsimp [go_sem]
      refine call (lgknown_spec wR) ?_
      rintro v wQ ⟨rfl, hkQ⟩
      simp -dsimp [go_sem]
      exact (T6.on.nw hkR).nw hkQ
  · simp -dsimp [go_sem]
    refine call (Lw.last T7) ?_
    rw [hlast]
    rintro v w9 ⟨rfl, hk9⟩
    have T9 := T7.nw hk9
    by_cases hKi : K = i
    · have c2 : ((K : Int) != (i : Int)) = false := by simp [hKi]
      simp -dsimp [go_sem, c2]
      refine call (Lw.last T9) ?_
      rw [hlast]
      rintro v wY ⟨rfl, hkY⟩
      have TY := Lw.nw T9 hkY
      simp -dsimp [go_sem]
      refine conv_const rfl rfl (Blk.new wY _ _) ?_
      intro wc hkc hhc
      have kc : Nw wY wc := Nw.at_ ((Kp.refl _ _).alloc _) hkc (Nf.at_ (Nat.le_refl _))
      simp -dsimp [go_sem]
      have hap := TY.append (by simp) kc [122] _ 1 (Rd.of_heap hhc) (.inr own_off) (by simp) (by simp)
      rw [e5] at hap
      simp only at hap
      refine call hap ?_
      rintro v wZ ⟨rfl, TZ⟩
      simp -dsimp [go_sem]
      refine call (TZ.dw.crash 0) ?_
      rintro v wT ⟨rfl, TT⟩
      obtain ⟨D6, e6⟩ := s5.back TT.ok x5 hq3 hq4 hq5 hq6
      obtain ⟨FT, hDT, hFT, nT⟩ := TT
      simp -dsimp [go_sem]
      refine call (open_spec g [97] (dCrash D5 0) FT wT hDT (by simp) (by simp)) ?_
      rw [e6]
      rintro v wS hOS
      obtain ⟨l6, rfl, T6⟩ := Lw.of_open hOS rfl hFT nT
      simp only at T6
      simp -dsimp [go_sem, hK1w]
      refine call T6.last ?_
      rw [hlast6]
      rintro v wR ⟨rfl, hkR⟩
      simp -dsimp [go_sem]
      refine call (lgknown_spec wR) ?_
      rintro v wQ ⟨rfl, hkQ⟩
      simp -dsimp [go_sem]
      exact (T6.on.nw hkR).nw hkQ
    · have c2 : ((K : Int) != (i : Int)) = true := by simp; omega
      have hKn : K = nn := by rcases q5 with h | ⟨_, h⟩; exact h; exact absurd h hKi
      have c1 : ((K : Int) != (nn : Int)) = false := by simp [hKn]
      simp -dsimp [go_sem, c2]
      refine call (Lw.last T9) ?_
      rw [hlast]
      rintro v w10 ⟨rfl, hk10⟩
      have T10 := T9.nw hk10
      simp -dsimp [go_sem, hnn, c1]
      refine call (Lw.last T10) ?_
      rw [hlast]
      rintro v wY ⟨rfl, hkY⟩
      have TY := Lw.nw T10 hkY
      simp -dsimp [go_sem]
      refine conv_const rfl rfl (Blk.new wY _ _) ?_
      intro wc hkc hhc
      have kc : Nw wY wc := Nw.at_ ((Kp.refl _ _).alloc _) hkc (Nf.at_ (Nat.le_refl _))
      simp -dsimp [go_sem]
      have hap := TY.append (by simp) kc [122] _ 1 (Rd.of_heap hhc) (.inr own_off) (by simp) (by simp)
      rw [e5] at hap
      simp only at hap
      refine call hap ?_
      rintro v wZ ⟨rfl, TZ⟩
      simp -dsimp [go_sem]
      refine call (TZ.dw.crash 0) ?_
      rintro v wT ⟨rfl, TT⟩
      obtain ⟨D6, e6⟩ := s5.back TT.ok x5 hq3 hq4 hq5 hq6
      obtain ⟨FT, hDT, hFT, nT⟩ := TT
      simp -dsimp [go_sem]
      refine call (open_spec g [97] (dCrash D5 0) FT wT hDT (by simp) (by simp)) ?_
      rw [e6]
      rintro v wS hOS
      obtain ⟨l6, rfl, T6⟩ := Lw.of_open hOS rfl hFT nT
      simp only at T6
      simp -dsimp [go_sem, hK1w]
      refine call T6.last ?_
      rw [hlast6]
      rintro v wR ⟨rfl, hkR⟩
      simp -dsimp [go_sem]
      refine call (lgknown_spec wR) ?_
      rintro v wQ ⟨rfl, hkQ⟩
      simp -dsimp [go_sem]
      exact (T6.on.nw hkR).nw hkQ
end Go.Proofs.Ythonmjgagblogaa
