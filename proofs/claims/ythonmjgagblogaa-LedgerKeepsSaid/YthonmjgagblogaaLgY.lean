/-
  LedgerKeeps walked. By the session itself.
-/
import Derived.Test.YthonmjgagblogaaLgX
namespace Go.Proofs.Ythonmjgagblogaa
set_option linter.unusedSimpArgs false
set_option linter.unusedVariables false
set_option maxRecDepth 100000
set_option maxHeartbeats 2000000
open Go.Vc Go.RowKit

/-- What may stand behind the crash. -/
def Kq (ps : List (List UInt8)) (i : Nat) (im wr : Bool) (base : Nat) (data : List UInt8) (qs : List (List UInt8)) : Prop :=
  (base = 0 ∧ data = [] ∧ wr = false ∧ (qs = ps.take i ∨ (i < ps.length ∧ qs = ps.take (i + 1)))) ∨ (base = i ∧ data = [105, 109, 97, 103, 101] ∧ qs = [] ∧ im = true)
theorem Kq.facts {ps : List (List UInt8)} {i : Nat} {im wr : Bool} {base : Nat} {data : List UInt8} {qs : List (List UInt8)} (h : Kq ps i im wr base data qs) (hi : i ≤ ps.length) :
    i ≤ base + qs.length ∧ base + qs.length ≤ i + 1 ∧ (base = 0 ∧ (wr = false ∨ i = 0) ∨ 0 < base ∧ base = i ∧ data = [105, 109, 97, 103, 101] ∧ im = true) ∧ ∀ j (hj : j < qs.length), base = 0 ∧ ∃ hp : j < ps.length, qs[j] = ps[j] := by
  rcases h with ⟨rfl, rfl, rfl, h⟩ | ⟨rfl, rfl, rfl, rfl⟩
  · rcases h with rfl | ⟨h, rfl⟩
    · exact ⟨by rw [List.length_take]; omega, by rw [List.length_take]; omega, .inl ⟨rfl, .inl rfl⟩, fun j hj => ⟨rfl, by rw [List.length_take] at hj; omega, by rw [List.getElem_take]⟩⟩
    · exact ⟨by rw [List.length_take]; omega, by rw [List.length_take]; omega, .inl ⟨rfl, .inl rfl⟩, fun j hj => ⟨rfl, by rw [List.length_take] at hj; omega, by rw [List.getElem_take]⟩⟩
  · refine ⟨by simp, by simp, ?_, fun j hj => by simp at hj⟩
    by_cases h0 : base = 0
    · exact .inl ⟨h0, .inr h0⟩
    · exact .inr ⟨by omega, rfl, rfl, rfl⟩
theorem lkeeps_law (ps : List (List UInt8)) (fuse dr : Int) (im : Bool) (A : Option Addr) (c : Nat) (w : World) (hr : Brs w A ps fun _ => False) (hc : ps.length ≤ c) (hm : ∀ p ∈ ps, p.length ≤ 140737488355328) :
    Cal Try.prog 9 #[.slice A ps.length c, i64 fuse, i64 dr, .bool im] w fun v w' => v = .bool true ∧ Nw w w' := by
  refine enter Try.mixed Try.func9 rfl (by kernel_rfl) ?_
  by_cases h20 : 30 < ps.length
  · have h20' : (30 : Int) < (ps.length : Int) := by omega
    simp -dsimp [go_sem, h20, h20']
    exact Kp.refl _ _
  have h20' : ¬ (30 : Int) < (ps.length : Int) := by omega
  by_cases g2 : fuse < 0
  · simp -dsimp [go_sem, h20, h20', g2]
    exact Kp.refl _ _
  by_cases g3 : 100 < fuse
  · simp -dsimp [go_sem, h20, h20', g2, g3]
    exact Kp.refl _ _
  simp -dsimp [go_sem, h20, h20', g2, g3]
  refine loop [8, 9, 10, 37, 38, 39, 40, 41, 42, 43, 44, 45, 46, 47, 48, 49, 50, 51, 52, 53, 54, 55] (by kernel_rfl)
    (fun f w' => Box2 (fun a b w' => ∃ (i n : Nat), i ≤ ps.length ∧ b = i64 i ∧ a = i64 n ∧ n = (ps.take i).flatten.length ∧ n ≤ 2000 * i ∧ w' = w) (f 9) (f 10) w') (fun f _ => ps.length - (intOf (f 10)).toNat) ⟨0, 0, Nat.zero_le _, rfl, rfl, rfl, by simp, rfl⟩ ?_
  rintro f w' ⟨i, n, hi, f10, f9, hn, hn2, rfl⟩
  by_cases hlt : i < ps.length
  · obtain ⟨vs, hvl, hrd, hoA, hi'⟩ := id hr
    obtain ⟨X, x, hv, hrX, hoX, hx⟩ := hi' i hlt
    obtain ⟨bb, oo, rfl, hcell0⟩ := hrd i _ hv
    have hat := congrArg List.length (flat_at ps i hlt)
    rw [List.length_append] at hat
    obtain ⟨pl, hpl'⟩ : ∃ pl, pl = ps[i].length := ⟨_, rfl⟩
    rw [← hpl'] at hcell0 hat
    have hk1 : IntKind.i64.wrap ((i : Int) + 1) = ((i + 1 : Nat) : Int) := w64 (by omega) (by omega)
    obtain ⟨k1, hk1'⟩ : ∃ k1, k1 = i + 1 := ⟨_, rfl⟩
    rw [← hk1'] at hk1 hat
    by_cases hbig : 2000 < pl
    · have hbig' : (2000 : Int) < (pl : Int) := by omega
      simp -dsimp [go_sem, f9, f10, hlt, hcell0, hbig, hbig']
      exact Kp.refl _ _
    · have hbig' : ¬ (2000 : Int) < (pl : Int) := by omega
      have h2 : IntKind.i64.wrap ((n : Int) + (pl : Int)) = ((n + pl : Nat) : Int) := w64 (by omega) (by omega)
      obtain ⟨n2, hn2'⟩ : ∃ n2, n2 = n + pl := ⟨_, rfl⟩
      rw [← hn2'] at h2
      simp -dsimp [go_sem, f9, f10, hlt, hcell0, hbig, hbig', h2, hk1]
      exact ⟨⟨k1, n2, by omega, rfl, rfl, by omega, by omega, rfl⟩, by simp [intOf]; omega⟩
  obtain rfl : i = ps.length := by omega
  rw [List.take_length] at hn
  by_cases hbig : 2000 < n
  · have hbig' : (2000 : Int) < (n : Int) := by omega
    simp -dsimp [go_sem, f9, f10, hbig, hbig']
    exact Kp.refl _ _
  have hbig' : ¬ (2000 : Int) < (n : Int) := by omega
  have hbl : ∀ b ∈ ps, b.length ≤ 65536 := fun b hb => by
    have h1 := mem_flat hb
    omega
  have hfl : ps.flatten.length ≤ 2000 := by omega
  simp -dsimp [go_sem, f9, f10, hbig, hbig']
  refine call (new_spec 65536 w') ?_
  rintro v w1 (⟨h, _⟩ | ⟨_, _, g, F, rfl, hD, nF, hk1⟩)
  · omega
  obtain ⟨D0, hD0⟩ : ∃ D0, D0 = (⟨Int.toNat 65536, [], none⟩ : Dsk) := ⟨_, rfl⟩
  rw [← hD0] at hD
  have eo : opn D0 [97] = (D0, 0, Led.zero) := opn_none (by rw [hD0]; rfl) (by rw [hD0]; rfl) (by rw [hD0]; rfl)
  simp -dsimp [go_sem]
  refine call (open_spec g [97] D0 F w1 hD (by simp) (by simp)) ?_
  rw [eo]
  rintro v w2 hO
  obtain ⟨l, rfl, T2⟩ := Lw.of_open hO rfl (fun k hk => nF k hk) hk1
  simp only at T2
  have z0 : Sta D0 0 [] [] 0 0 := ⟨⟨T2.ok, by rw [hD0], by rw [hD0]; simp [Dsk.used, sumv], by rw [hD0]; simp⟩, by rw [hD0]; rfl, by rw [hD0]; rfl, .inl ⟨rfl, rfl, by rw [hD0]; rfl⟩, .inl ⟨rfl, by rw [hD0]; rfl⟩⟩
  have l0 : Li D0 [] 0 0 := ⟨z0, fun t x hx => by (rw [hD0] at hx; cases hx), fun t _ => by rw [hD0]; rfl⟩
  clear hO
  have ef : dFuse D0 fuse = { D0 with left := some fuse.toNat } := by unfold dFuse; rw [if_neg (by omega)]
  simp -dsimp [go_sem]
  refine call (T2.fuse fuse (by omega)) ?_
  rw [ef]
  rintro v w3 ⟨rfl, T3⟩
  simp -dsimp [go_sem]
  refine loopx 2 [15, 16, 17, 18, 76, 77, 78, 79, 80, 81, 82, 83, 84, 85, 86, 87, 88, 89, 90, 91, 92, 93] (by kernel_rfl)
    (fun f w4 => Box2 (fun a b w4 => ∃ (i : Nat) (D : Dsk) (lf : Option Nat), i ≤ ps.length ∧ a = i64 i ∧ b = i64 i ∧ Lw w' w4 l g [97] { D with left := lf } ⟨0, [], ps.take i, false⟩ ∧ Li D (ps.take i) ((ps.take i).flatten.length + 30 * i) i ∧ Fz lf) (f 15) (f 16) w4) (fun f _ => ps.length - (intOf (f 16)).toNat)
    (fun f w4 => Box1 (fun a w4 => ∃ i : Nat, i ≤ ps.length ∧ a = i64 i ∧ ((i = ps.length ∧ ∃ (D : Dsk) (lf : Option Nat), Lw w' w4 l g [97] { D with left := lf } ⟨0, [], ps, false⟩ ∧ Li D ps 3000 30 ∧ Fz lf) ∨
      (i < ps.length ∧ ∃ E, Lw w' w4 l g [97] E ⟨0, [], ps.take i, true⟩ ∧ ∀ d, (dCrash E d).Ok → ∃ D4 qs, opn (dCrash E d) [97] = (D4, 0, ⟨0, [], qs, false⟩) ∧ (qs = ps.take i ∨ qs = ps.take (i + 1))))) (f 15) w4)
    ⟨0, D0, some fuse.toNat, Nat.zero_le _, rfl, rfl, T3, l0, fun k hk => by cases hk; omega⟩ ?_ ?_
  · rintro f w4 ⟨i, D, lf, hi, f15, f16, T4, l4, hf4⟩
    by_cases hlt : i < ps.length
    · obtain ⟨vs, hvl, hrd, hoA, hi'⟩ := id hr
      obtain ⟨X, x, hv, hrX, hoX, hx⟩ := hi' i hlt
      obtain ⟨bb, oo, rfl, hcell0⟩ := hrd i _ hv
      have hfa := congrArg List.length (flat_at ps i hlt)
      rw [List.length_append] at hfa
      have hft := flat_take ps (i + 1)
      have hcell := T4.on.cell_some hcell0 fun h => h
      have hpu := l4.push hf4 (hbl _ (List.getElem_mem hlt)) (by omega) (by omega) (by rw [List.length_take]; omega) (fun b hb => hbl b (List.mem_of_mem_take hb))
      rw [← List.take_succ_eq_append_getElem hlt, List.length_take, Nat.min_eq_left hi] at hpu
      have hap := fun k1 => T4.append (w1 := w4) (by simp) k1 ps[i] X x (hrX.nw T4.on) (.inl hrX) hx (hm _ (List.getElem_mem hlt))
      have hap := hap (Kp.refl _ _)
      have hu4 : (ps.take i).flatten.length + 30 * i + ps[i].length + 30 = (ps.take (i + 1)).flatten.length + 30 * (i + 1) := by omega
      rw [hu4] at hpu
      obtain ⟨pi, hpi⟩ : ∃ pi, pi = ps[i] := ⟨_, rfl⟩
      rw [← hpi] at hap hpu hcell
      obtain ⟨pl, hpl'⟩ : ∃ pl, pl = pi.length := ⟨_, rfl⟩
      rw [← hpl'] at hcell hap
      have hk1 : IntKind.i64.wrap ((i : Int) + 1) = ((i + 1 : Nat) : Int) := w64 (by omega) (by omega)
      obtain ⟨k1, hk1'⟩ : ∃ k1, k1 = i + 1 := ⟨_, rfl⟩
      rw [← hk1'] at hk1 hpu
      rcases hpu with ⟨D5, lf5, e5, l5, hf5⟩ | ⟨E5, e5, hb5⟩
      · rw [e5] at hap
        simp only at hap
        simp -dsimp [go_sem, f16, hlt, hcell]
        refine call hap ?_
        rintro v w5 ⟨rfl, T5⟩
        simp -dsimp [go_sem, f16, hk1]
        exact ⟨⟨k1, D5, lf5, by omega, rfl, rfl, T5, by rw [hk1'] at l5 ⊢; exact l5, hf5⟩, by simp [intOf]; omega⟩
      · rw [e5] at hap
        simp only at hap
        simp -dsimp [go_sem, f16, hlt, hcell]
        refine call hap ?_
        rintro v w5 ⟨rfl, T5⟩
        simp -dsimp [go_sem, f16, f15]
        exact ⟨i, hi, rfl, .inr ⟨hlt, E5, T5, by rw [hk1'] at hb5; exact hb5⟩⟩
    · obtain rfl : i = ps.length := by omega
      rw [List.take_length] at T4 l4
      simp -dsimp [go_sem, f16, f15]
      exact ⟨ps.length, hi, rfl, .inl ⟨rfl, D, lf, T4, ⟨l4.sta.mono (by omega) (by omega), l4.sy, l4.on⟩, hf4⟩⟩
  · rintro f w4 ⟨i, hi, f15, hst⟩
    rcases hst with ⟨hiN, D, lf, T4, l4, hf4⟩ | ⟨hiN, E, T4, hbk0⟩
    · cases im with
      | false =>
        have hbk : ∀ d, (dCrash { D with left := lf } d).Ok → ∃ D4 base data qs, opn (dCrash { D with left := lf } d) [97] = (D4, 0, ⟨base, data, qs, false⟩) ∧ Kq ps i false false base data qs := fun d ok => by
          obtain ⟨D4, e4⟩ := l4.crash (by omega) hbl d ok
          exact ⟨D4, 0, [], ps, e4, .inl ⟨rfl, rfl, rfl, .inl (by rw [hiN, List.take_length])⟩⟩
        simp -dsimp [go_sem, f15]
        refine call (Dw.crash T4.dw dr) ?_
        rintro v w6 ⟨rfl, T6⟩
        obtain ⟨D4, base, data, qs, e4, hcase⟩ := hbk dr T6.ok
        obtain ⟨q1, q2, q3, q4⟩ := hcase.facts hi
        obtain ⟨F6, hD6, hF6, n6⟩ := T6
        simp -dsimp [go_sem]
        refine call (open_spec g [97] (dCrash { D with left := lf } dr) F6 w6 hD6 (by simp) (by simp)) ?_
        rw [e4]
        rintro v w7 hO7
        obtain ⟨l7, rfl, T7⟩ := Lw.of_open hO7 rfl hF6 n6
        simp only at T7
        obtain ⟨K, hK⟩ : ∃ K, K = base + qs.length := ⟨_, rfl⟩
        have hlast : (⟨base, data, qs, false⟩ : Led).last = K := hK.symm
        simp -dsimp [go_sem]
        refine call T7.last ?_
        rw [hlast]
        rintro v wA ⟨rfl, hkA⟩
        have TA := T7.nw hkA
        have t1 : ¬ (K : Int) < (i : Int) := by omega
        have t1' : ¬ K < i := by omega
        simp -dsimp [go_sem, f15, t1, t1']
        refine call TA.last ?_
        rw [hlast]
        rintro v wB ⟨rfl, hkB⟩
        have TB := TA.nw hkB
        have hi1 : IntKind.i64.wrap ((i : Int) + 1) = ((i + 1 : Nat) : Int) := w64 (by omega) (by omega)
        obtain ⟨i1, hi1'⟩ : ∃ i1, i1 = i + 1 := ⟨_, rfl⟩
        rw [← hi1'] at hi1
        have t2 : ¬ (i1 : Int) < (K : Int) := by omega
        have t2' : ¬ i1 < K := by omega
        simp -dsimp [go_sem, f15, hi1, t2, t2']
        refine call TB.base_ ?_
        rintro v wE ⟨hkE, u, rfl, hBE⟩
        have TE := TB.nw hkE
        have hb1 : IntKind.i64.wrap ((base : Int) + 1) = ((base + 1 : Nat) : Int) := w64 (by omega) (by omega)
        obtain ⟨AE, cE, rfl, hoE, hAE⟩ := id hBE
        simp only at hoE ⊢
        rcases q3 with ⟨b0, hwi⟩ | ⟨bp, bi, hdd, him⟩
        · have b0' : ¬ (0 : Int) < (base : Int) := by omega
          have b0n : ¬ 0 < base := by omega
          have b0e : ((base : Int) == 0) = true := by simp [b0]
          simp -dsimp [go_sem, f15, b0', b0n, b0e, hb1]
          refine loop [8, 23, 24, 25, 165, 166, 167, 168, 169, 170, 171, 172, 173, 174, 175, 176, 177, 178, 179, 180, 181, 182, 183, 184, 185, 186, 187, 188, 189] (by kernel_rfl)
            (fun f w' => Box1 (fun x w' => ∃ j : Nat, j ≤ qs.length ∧ x = i64 (base + j + 1 : Nat) ∧ Nw wE w') (f 23) w') (fun f _ => base + qs.length + 1 - (intOf (f 23)).toNat) ⟨0, Nat.zero_le _, rfl, Kp.refl _ _⟩ ?_
          rintro f w7 ⟨j, hj, f23, hk7⟩
          have T7 := TE.nw hk7
          obtain ⟨j1, hj1⟩ : ∃ j1, j1 = base + j + 1 := ⟨_, rfl⟩
          rw [← hj1] at f23
          simp -dsimp [go_sem, f23]
          refine call T7.last ?_
          rw [hlast]
          rintro v w7b ⟨rfl, hk7b⟩
          have T7b := T7.nw hk7b
          by_cases hjm : j < qs.length
          · have hjm' : (j1 : Int) ≤ (K : Int) := by omega
            have hjm2 : j1 ≤ K := by omega
            obtain ⟨hb0, hjp, hqj⟩ := q4 j hjm
            obtain ⟨vs, hvl, hrd, hoA, hi'⟩ := id hr
            obtain ⟨X, x, hv, hrX, hoX, hx⟩ := hi' j hjp
            obtain ⟨bb, oo, rfl, hcell0⟩ := hrd j _ hv
            have hla : lAt ⟨base, data, qs, false⟩ (j1 : Int) = (ps[j], 0) := by
              unfold lAt
              rw [hlast, if_neg (by simp only; omega)]
              have e1 : ((j1 : Int) - ((base : Nat) : Int) - 1).toNat = j := by omega
              simp only [e1]
              simp [List.getD, hjm, hqj]
            simp -dsimp [go_sem, f23, hjm', hjm2]
            refine call (T7b.at_ (j1 : Int) (by omega)) ?_
            rw [hla]
            rintro v w8 ⟨hk8, u, rfl, hB8⟩
            obtain ⟨A8, c8, rfl, ho8, hA8⟩ := id hB8
            have T8 := T7b.nw hk8
            have n8 := T8.on
            simp only at ho8 ⊢
            have hcell := n8.cell_some hcell0 fun h => h
            generalize ps[j] = pj at *
            obtain ⟨pl, hpl⟩ : ∃ pl, pl = pj.length := ⟨_, rfl⟩
            rw [← hpl] at ho8 hcell ⊢
            have hrX8 := hrX.nw n8
            have kd : Nw w8 w8.drew := (Kp.refl _ _).drew
            have hcm : ∀ W, Nw w8 W → (convert 32 9 (.slice A8 pl c8)).run Try.prog W = .ok (.string ⟨pj.toArray⟩) W := fun W hW => by rw [hpl]; exact conv_str (e := 5) (by kernel_rfl) (by kernel_rfl) (by kernel_rfl) (ho8.nw hW).rd
            have hck : ∀ W, Nw w8 W → (convert 32 9 (.slice X pl x)).run Try.prog W = .ok (.string ⟨pj.toArray⟩) W := fun W hW => by rw [hpl]; exact conv_str (e := 5) (by kernel_rfl) (by kernel_rfl) (by kernel_rfl) (hrX8.nw hW)
            have hcmd := hcm _ kd
            have hckd := hck _ kd
            have hcelld := kd.cell_some hcell fun h => h
            have hw : IntKind.i64.wrap ((j1 : Int) - 1) = (j : Int) := by rw [w64 (by omega) (by omega)]; omega
            simp -dsimp [go_sem]
            refine draw (.take 0 (.take 1 (.take 2 (.take 3 (.take 4 (.take 5 (.take 6 (.take 7 (.take 8 (.take 9 (.take 10 (.take 11 (.take 12 .done))))))))))))) (by kernel_rfl) (fun wz => Nw w8 wz) kd ?_
            simp -dsimp [go_sem, f23, hjp, hw, hcelld, hcmd, hckd]
            repeat refine ⟨fun wz hz => by first | exact hcm wz hz | exact hck wz hz | simp [hz.cell_some hcell fun h => h], ?_⟩
            have hk1 : IntKind.i64.wrap ((j1 : Int) + 1) = ((j1 + 1 : Nat) : Int) := w64 (by omega) (by omega)
            obtain ⟨k1, hk1'⟩ : ∃ k1, k1 = j1 + 1 := ⟨_, rfl⟩
            rw [← hk1'] at hk1
            simp -dsimp [go_sem, f23, hk1]
            exact ⟨⟨j + 1, by omega, by rw [hk1', hj1, Nat.add_assoc base j 1], hk7.nw (hk7b.nw (hk8.nw kd))⟩, by simp [intOf]; omega⟩
          have hjm' : ¬ (j1 : Int) ≤ (K : Int) := by omega
          have hjm2 : ¬ j1 ≤ K := by omega
          simp -dsimp [go_sem, f23, hjm', hjm2]
          refine call (lgknown_spec w7b) ?_
          rintro v wL ⟨rfl, hkL⟩
          simp -dsimp [go_sem]
          exact T7b.on.nw hkL
        · exact absurd him (by decide)
      | true =>
        have hll : (⟨0, [], ps, false⟩ : Led).last = i := by simp [Led.last, hiN]
        simp -dsimp [go_sem, f15]
        refine call T4.last ?_
        rw [hll]
        rintro v w5 ⟨rfl, hk5⟩
        have T5 := T4.nw hk5
        obtain ⟨D3, L3, e, e3, he, hbw⟩ := write_lit (n := i) (b := [105, 109, 97, 103, 101]) l4.sta l4.sy hf4 (by omega) (by omega) (by simp) hbl (by simp) (by omega)
        obtain ⟨wr, hwr⟩ : ∃ wr : Bool, ((e : Int) == 0) = wr := ⟨_, rfl⟩
        have hbk : ∀ d, (dCrash D3 d).Ok → ∃ D4 base data qs, opn (dCrash D3 d) [97] = (D4, 0, ⟨base, data, qs, false⟩) ∧ Kq ps i true wr base data qs := fun d ok => by
          obtain ⟨D4, base, data, qs, e4, _, hcs⟩ := hbw d ok
          refine ⟨D4, base, data, qs, e4, ?_⟩
          rcases hcs with ⟨a1, a2, a3⟩ | ⟨h9, a1, a2, a3⟩
          · exact .inr ⟨a1, a2, a3, rfl⟩
          · exact .inl ⟨a1, a2, by rw [← hwr, h9]; rfl, .inl (by rw [a3, hiN, List.take_length])⟩
        simp -dsimp [go_sem, f15]
        refine conv_const rfl rfl (Blk.new w5 _ _) ?_
        intro wc hkc hhc
        have kc : Nw w5 wc := Nw.at_ ((Kp.refl _ _).alloc _) hkc (Nf.at_ (Nat.le_refl _))
        simp -dsimp [go_sem]
        have hwrt := T5.write (by simp) kc (i : Int) [105, 109, 97, 103, 101] _ 5 (Rd.of_heap hhc) (.inr own_off) (by simp) (by simp)
        rw [e3] at hwrt
        simp only at hwrt
        refine call hwrt ?_
        rintro v w6 ⟨rfl, T6⟩
        have TX := T6.dw
        simp -dsimp [go_sem, hwr]
        clear e3 hbw T6 T5 T4
        refine call (Dw.crash TX dr) ?_
        rintro v w6 ⟨rfl, T6⟩
        obtain ⟨D4, base, data, qs, e4, hcase⟩ := hbk dr T6.ok
        obtain ⟨q1, q2, q3, q4⟩ := hcase.facts hi
        obtain ⟨F6, hD6, hF6, n6⟩ := T6
        simp -dsimp [go_sem]
        refine call (open_spec g [97] (dCrash D3 dr) F6 w6 hD6 (by simp) (by simp)) ?_
        rw [e4]
        rintro v w7 hO7
        obtain ⟨l7, rfl, T7⟩ := Lw.of_open hO7 rfl hF6 n6
        simp only at T7
        obtain ⟨K, hK⟩ : ∃ K, K = base + qs.length := ⟨_, rfl⟩
        have hlast : (⟨base, data, qs, false⟩ : Led).last = K := hK.symm
        simp -dsimp [go_sem]
        refine call T7.last ?_
        rw [hlast]
        rintro v wA ⟨rfl, hkA⟩
        have TA := T7.nw hkA
        have t1 : ¬ (K : Int) < (i : Int) := by omega
        have t1' : ¬ K < i := by omega
        simp -dsimp [go_sem, f15, t1, t1']
        refine call TA.last ?_
        rw [hlast]
        rintro v wB ⟨rfl, hkB⟩
        have TB := TA.nw hkB
        have hi1 : IntKind.i64.wrap ((i : Int) + 1) = ((i + 1 : Nat) : Int) := w64 (by omega) (by omega)
        obtain ⟨i1, hi1'⟩ : ∃ i1, i1 = i + 1 := ⟨_, rfl⟩
        rw [← hi1'] at hi1
        have t2 : ¬ (i1 : Int) < (K : Int) := by omega
        have t2' : ¬ i1 < K := by omega
        simp -dsimp [go_sem, f15, hi1, t2, t2']
        refine call TB.base_ ?_
        rintro v wE ⟨hkE, u, rfl, hBE⟩
        have TE := TB.nw hkE
        have hb1 : IntKind.i64.wrap ((base : Int) + 1) = ((base + 1 : Nat) : Int) := w64 (by omega) (by omega)
        obtain ⟨AE, cE, rfl, hoE, hAE⟩ := id hBE
        simp only at hoE ⊢
        rcases q3 with ⟨b0, hwi⟩ | ⟨bp, bi, hdd, him⟩
        · have b0' : ¬ (0 : Int) < (base : Int) := by omega
          have b0n : ¬ 0 < base := by omega
          have b0e : ((base : Int) == 0) = true := by simp [b0]
          rcases hwi with rfl | i0
          · simp -dsimp [go_sem, f15, b0', b0n, b0e, hb1]
            refine loop [8, 23, 24, 25, 165, 166, 167, 168, 169, 170, 171, 172, 173, 174, 175, 176, 177, 178, 179, 180, 181, 182, 183, 184, 185, 186, 187, 188, 189] (by kernel_rfl)
              (fun f w' => Box1 (fun x w' => ∃ j : Nat, j ≤ qs.length ∧ x = i64 (base + j + 1 : Nat) ∧ Nw wE w') (f 23) w') (fun f _ => base + qs.length + 1 - (intOf (f 23)).toNat) ⟨0, Nat.zero_le _, rfl, Kp.refl _ _⟩ ?_
            rintro f w7 ⟨j, hj, f23, hk7⟩
            have T7 := TE.nw hk7
            obtain ⟨j1, hj1⟩ : ∃ j1, j1 = base + j + 1 := ⟨_, rfl⟩
            rw [← hj1] at f23
            simp -dsimp [go_sem, f23]
            refine call T7.last ?_
            rw [hlast]
            rintro v w7b ⟨rfl, hk7b⟩
            have T7b := T7.nw hk7b
            by_cases hjm : j < qs.length
            · have hjm' : (j1 : Int) ≤ (K : Int) := by omega
              have hjm2 : j1 ≤ K := by omega
              obtain ⟨hb0, hjp, hqj⟩ := q4 j hjm
              obtain ⟨vs, hvl, hrd, hoA, hi'⟩ := id hr
              obtain ⟨X, x, hv, hrX, hoX, hx⟩ := hi' j hjp
              obtain ⟨bb, oo, rfl, hcell0⟩ := hrd j _ hv
              have hla : lAt ⟨base, data, qs, false⟩ (j1 : Int) = (ps[j], 0) := by
                unfold lAt
                rw [hlast, if_neg (by simp only; omega)]
                have e1 : ((j1 : Int) - ((base : Nat) : Int) - 1).toNat = j := by omega
                simp only [e1]
                simp [List.getD, hjm, hqj]
              simp -dsimp [go_sem, f23, hjm', hjm2]
              refine call (T7b.at_ (j1 : Int) (by omega)) ?_
              rw [hla]
              rintro v w8 ⟨hk8, u, rfl, hB8⟩
              obtain ⟨A8, c8, rfl, ho8, hA8⟩ := id hB8
              have T8 := T7b.nw hk8
              have n8 := T8.on
              simp only at ho8 ⊢
              have hcell := n8.cell_some hcell0 fun h => h
              generalize ps[j] = pj at *
              obtain ⟨pl, hpl⟩ : ∃ pl, pl = pj.length := ⟨_, rfl⟩
              rw [← hpl] at ho8 hcell ⊢
              have hrX8 := hrX.nw n8
              have kd : Nw w8 w8.drew := (Kp.refl _ _).drew
              have hcm : ∀ W, Nw w8 W → (convert 32 9 (.slice A8 pl c8)).run Try.prog W = .ok (.string ⟨pj.toArray⟩) W := fun W hW => by rw [hpl]; exact conv_str (e := 5) (by kernel_rfl) (by kernel_rfl) (by kernel_rfl) (ho8.nw hW).rd
              have hck : ∀ W, Nw w8 W → (convert 32 9 (.slice X pl x)).run Try.prog W = .ok (.string ⟨pj.toArray⟩) W := fun W hW => by rw [hpl]; exact conv_str (e := 5) (by kernel_rfl) (by kernel_rfl) (by kernel_rfl) (hrX8.nw hW)
              have hcmd := hcm _ kd
              have hckd := hck _ kd
              have hcelld := kd.cell_some hcell fun h => h
              have hw : IntKind.i64.wrap ((j1 : Int) - 1) = (j : Int) := by rw [w64 (by omega) (by omega)]; omega
              simp -dsimp [go_sem]
              refine draw (.take 0 (.take 1 (.take 2 (.take 3 (.take 4 (.take 5 (.take 6 (.take 7 (.take 8 (.take 9 (.take 10 (.take 11 (.take 12 .done))))))))))))) (by kernel_rfl) (fun wz => Nw w8 wz) kd ?_
              simp -dsimp [go_sem, f23, hjp, hw, hcelld, hcmd, hckd]
              repeat refine ⟨fun wz hz => by first | exact hcm wz hz | exact hck wz hz | simp [hz.cell_some hcell fun h => h], ?_⟩
              have hk1 : IntKind.i64.wrap ((j1 : Int) + 1) = ((j1 + 1 : Nat) : Int) := w64 (by omega) (by omega)
              obtain ⟨k1, hk1'⟩ : ∃ k1, k1 = j1 + 1 := ⟨_, rfl⟩
              rw [← hk1'] at hk1
              simp -dsimp [go_sem, f23, hk1]
              exact ⟨⟨j + 1, by omega, by rw [hk1', hj1, Nat.add_assoc base j 1], hk7.nw (hk7b.nw (hk8.nw kd))⟩, by simp [intOf]; omega⟩
            have hjm' : ¬ (j1 : Int) ≤ (K : Int) := by omega
            have hjm2 : ¬ j1 ≤ K := by omega
            simp -dsimp [go_sem, f23, hjm', hjm2]
            refine call (lgknown_spec w7b) ?_
            rintro v wL ⟨rfl, hkL⟩
            simp -dsimp [go_sem]
            exact T7b.on.nw hkL
          · have i0' : ¬ (0 : Int) < (i : Int) := by omega
            have i0n : ¬ 0 < i := by omega
            cases wr
            · simp -dsimp [go_sem, f15, b0', b0n, b0e, hb1]
              refine loop [8, 23, 24, 25, 165, 166, 167, 168, 169, 170, 171, 172, 173, 174, 175, 176, 177, 178, 179, 180, 181, 182, 183, 184, 185, 186, 187, 188, 189] (by kernel_rfl)
                (fun f w' => Box1 (fun x w' => ∃ j : Nat, j ≤ qs.length ∧ x = i64 (base + j + 1 : Nat) ∧ Nw wE w') (f 23) w') (fun f _ => base + qs.length + 1 - (intOf (f 23)).toNat) ⟨0, Nat.zero_le _, rfl, Kp.refl _ _⟩ ?_
              rintro f w7 ⟨j, hj, f23, hk7⟩
              have T7 := TE.nw hk7
              obtain ⟨j1, hj1⟩ : ∃ j1, j1 = base + j + 1 := ⟨_, rfl⟩
              rw [← hj1] at f23
              simp -dsimp [go_sem, f23]
              refine call T7.last ?_
              rw [hlast]
              rintro v w7b ⟨rfl, hk7b⟩
              have T7b := T7.nw hk7b
              by_cases hjm : j < qs.length
              · have hjm' : (j1 : Int) ≤ (K : Int) := by omega
                have hjm2 : j1 ≤ K := by omega
                obtain ⟨hb0, hjp, hqj⟩ := q4 j hjm
                obtain ⟨vs, hvl, hrd, hoA, hi'⟩ := id hr
                obtain ⟨X, x, hv, hrX, hoX, hx⟩ := hi' j hjp
                obtain ⟨bb, oo, rfl, hcell0⟩ := hrd j _ hv
                have hla : lAt ⟨base, data, qs, false⟩ (j1 : Int) = (ps[j], 0) := by
                  unfold lAt
                  rw [hlast, if_neg (by simp only; omega)]
                  have e1 : ((j1 : Int) - ((base : Nat) : Int) - 1).toNat = j := by omega
                  simp only [e1]
                  simp [List.getD, hjm, hqj]
                simp -dsimp [go_sem, f23, hjm', hjm2]
                refine call (T7b.at_ (j1 : Int) (by omega)) ?_
                rw [hla]
                rintro v w8 ⟨hk8, u, rfl, hB8⟩
                obtain ⟨A8, c8, rfl, ho8, hA8⟩ := id hB8
                have T8 := T7b.nw hk8
                have n8 := T8.on
                simp only at ho8 ⊢
                have hcell := n8.cell_some hcell0 fun h => h
                generalize ps[j] = pj at *
                obtain ⟨pl, hpl⟩ : ∃ pl, pl = pj.length := ⟨_, rfl⟩
                rw [← hpl] at ho8 hcell ⊢
                have hrX8 := hrX.nw n8
                have kd : Nw w8 w8.drew := (Kp.refl _ _).drew
                have hcm : ∀ W, Nw w8 W → (convert 32 9 (.slice A8 pl c8)).run Try.prog W = .ok (.string ⟨pj.toArray⟩) W := fun W hW => by rw [hpl]; exact conv_str (e := 5) (by kernel_rfl) (by kernel_rfl) (by kernel_rfl) (ho8.nw hW).rd
                have hck : ∀ W, Nw w8 W → (convert 32 9 (.slice X pl x)).run Try.prog W = .ok (.string ⟨pj.toArray⟩) W := fun W hW => by rw [hpl]; exact conv_str (e := 5) (by kernel_rfl) (by kernel_rfl) (by kernel_rfl) (hrX8.nw hW)
                have hcmd := hcm _ kd
                have hckd := hck _ kd
                have hcelld := kd.cell_some hcell fun h => h
                have hw : IntKind.i64.wrap ((j1 : Int) - 1) = (j : Int) := by rw [w64 (by omega) (by omega)]; omega
                simp -dsimp [go_sem]
                refine draw (.take 0 (.take 1 (.take 2 (.take 3 (.take 4 (.take 5 (.take 6 (.take 7 (.take 8 (.take 9 (.take 10 (.take 11 (.take 12 .done))))))))))))) (by kernel_rfl) (fun wz => Nw w8 wz) kd ?_
                simp -dsimp [go_sem, f23, hjp, hw, hcelld, hcmd, hckd]
                repeat refine ⟨fun wz hz => by first | exact hcm wz hz | exact hck wz hz | simp [hz.cell_some hcell fun h => h], ?_⟩
                have hk1 : IntKind.i64.wrap ((j1 : Int) + 1) = ((j1 + 1 : Nat) : Int) := w64 (by omega) (by omega)
                obtain ⟨k1, hk1'⟩ : ∃ k1, k1 = j1 + 1 := ⟨_, rfl⟩
                rw [← hk1'] at hk1
                simp -dsimp [go_sem, f23, hk1]
                exact ⟨⟨j + 1, by omega, by rw [hk1', hj1, Nat.add_assoc base j 1], hk7.nw (hk7b.nw (hk8.nw kd))⟩, by simp [intOf]; omega⟩
              have hjm' : ¬ (j1 : Int) ≤ (K : Int) := by omega
              have hjm2 : ¬ j1 ≤ K := by omega
              simp -dsimp [go_sem, f23, hjm', hjm2]
              refine call (lgknown_spec w7b) ?_
              rintro v wL ⟨rfl, hkL⟩
              simp -dsimp [go_sem]
              exact T7b.on.nw hkL
            · simp -dsimp [go_sem, f15, b0', b0n, b0e, i0', i0n, hb1]
              refine loop [8, 23, 24, 25, 165, 166, 167, 168, 169, 170, 171, 172, 173, 174, 175, 176, 177, 178, 179, 180, 181, 182, 183, 184, 185, 186, 187, 188, 189] (by kernel_rfl)
                (fun f w' => Box1 (fun x w' => ∃ j : Nat, j ≤ qs.length ∧ x = i64 (base + j + 1 : Nat) ∧ Nw wE w') (f 23) w') (fun f _ => base + qs.length + 1 - (intOf (f 23)).toNat) ⟨0, Nat.zero_le _, rfl, Kp.refl _ _⟩ ?_
              rintro f w7 ⟨j, hj, f23, hk7⟩
              have T7 := TE.nw hk7
              obtain ⟨j1, hj1⟩ : ∃ j1, j1 = base + j + 1 := ⟨_, rfl⟩
              rw [← hj1] at f23
              simp -dsimp [go_sem, f23]
              refine call T7.last ?_
              rw [hlast]
              rintro v w7b ⟨rfl, hk7b⟩
              have T7b := T7.nw hk7b
              by_cases hjm : j < qs.length
              · have hjm' : (j1 : Int) ≤ (K : Int) := by omega
                have hjm2 : j1 ≤ K := by omega
                obtain ⟨hb0, hjp, hqj⟩ := q4 j hjm
                obtain ⟨vs, hvl, hrd, hoA, hi'⟩ := id hr
                obtain ⟨X, x, hv, hrX, hoX, hx⟩ := hi' j hjp
                obtain ⟨bb, oo, rfl, hcell0⟩ := hrd j _ hv
                have hla : lAt ⟨base, data, qs, false⟩ (j1 : Int) = (ps[j], 0) := by
                  unfold lAt
                  rw [hlast, if_neg (by simp only; omega)]
                  have e1 : ((j1 : Int) - ((base : Nat) : Int) - 1).toNat = j := by omega
                  simp only [e1]
                  simp [List.getD, hjm, hqj]
                simp -dsimp [go_sem, f23, hjm', hjm2]
                refine call (T7b.at_ (j1 : Int) (by omega)) ?_
                rw [hla]
                rintro v w8 ⟨hk8, u, rfl, hB8⟩
                obtain ⟨A8, c8, rfl, ho8, hA8⟩ := id hB8
                have T8 := T7b.nw hk8
                have n8 := T8.on
                simp only at ho8 ⊢
                have hcell := n8.cell_some hcell0 fun h => h
                generalize ps[j] = pj at *
                obtain ⟨pl, hpl⟩ : ∃ pl, pl = pj.length := ⟨_, rfl⟩
                rw [← hpl] at ho8 hcell ⊢
                have hrX8 := hrX.nw n8
                have kd : Nw w8 w8.drew := (Kp.refl _ _).drew
                have hcm : ∀ W, Nw w8 W → (convert 32 9 (.slice A8 pl c8)).run Try.prog W = .ok (.string ⟨pj.toArray⟩) W := fun W hW => by rw [hpl]; exact conv_str (e := 5) (by kernel_rfl) (by kernel_rfl) (by kernel_rfl) (ho8.nw hW).rd
                have hck : ∀ W, Nw w8 W → (convert 32 9 (.slice X pl x)).run Try.prog W = .ok (.string ⟨pj.toArray⟩) W := fun W hW => by rw [hpl]; exact conv_str (e := 5) (by kernel_rfl) (by kernel_rfl) (by kernel_rfl) (hrX8.nw hW)
                have hcmd := hcm _ kd
                have hckd := hck _ kd
                have hcelld := kd.cell_some hcell fun h => h
                have hw : IntKind.i64.wrap ((j1 : Int) - 1) = (j : Int) := by rw [w64 (by omega) (by omega)]; omega
                simp -dsimp [go_sem]
                refine draw (.take 0 (.take 1 (.take 2 (.take 3 (.take 4 (.take 5 (.take 6 (.take 7 (.take 8 (.take 9 (.take 10 (.take 11 (.take 12 .done))))))))))))) (by kernel_rfl) (fun wz => Nw w8 wz) kd ?_
                simp -dsimp [go_sem, f23, hjp, hw, hcelld, hcmd, hckd]
                repeat refine ⟨fun wz hz => by first | exact hcm wz hz | exact hck wz hz | simp [hz.cell_some hcell fun h => h], ?_⟩
                have hk1 : IntKind.i64.wrap ((j1 : Int) + 1) = ((j1 + 1 : Nat) : Int) := w64 (by omega) (by omega)
                obtain ⟨k1, hk1'⟩ : ∃ k1, k1 = j1 + 1 := ⟨_, rfl⟩
                rw [← hk1'] at hk1
                simp -dsimp [go_sem, f23, hk1]
                exact ⟨⟨j + 1, by omega, by rw [hk1', hj1, Nat.add_assoc base j 1], hk7.nw (hk7b.nw (hk8.nw kd))⟩, by simp [intOf]; omega⟩
              have hjm' : ¬ (j1 : Int) ≤ (K : Int) := by omega
              have hjm2 : ¬ j1 ≤ K := by omega
              simp -dsimp [go_sem, f23, hjm', hjm2]
              refine call (lgknown_spec w7b) ?_
              rintro v wL ⟨rfl, hkL⟩
              simp -dsimp [go_sem]
              exact T7b.on.nw hkL
        · have b0' : (0 : Int) < (base : Int) := by omega
          have b0n : 0 < base := by omega
          have b0e : ((base : Int) == 0) = false := by simp; omega
          have bl : ¬ (base : Int) < (i : Int) := by omega
          have bl' : ¬ base < i := by omega
          have hcv := conv_str (P := Try.prog) (t := 32) (s := 9) (e := 5) (w := wE) (c := cE) (by kernel_rfl) (by kernel_rfl) (by kernel_rfl) hoE.rd
          have hcv' : convR Try.prog 32 9 (.slice AE data.length cE) wE = .ok (.string ⟨#[105, 109, 97, 103, 101]⟩) wE := by rw [hcv, hdd]
          cases wr
          · simp -dsimp [go_sem, f15, b0', b0n, b0e, bl, bl', hcv', hb1]
            refine loop [8, 23, 24, 25, 165, 166, 167, 168, 169, 170, 171, 172, 173, 174, 175, 176, 177, 178, 179, 180, 181, 182, 183, 184, 185, 186, 187, 188, 189] (by kernel_rfl)
              (fun f w' => Box1 (fun x w' => ∃ j : Nat, j ≤ qs.length ∧ x = i64 (base + j + 1 : Nat) ∧ Nw wE w') (f 23) w') (fun f _ => base + qs.length + 1 - (intOf (f 23)).toNat) ⟨0, Nat.zero_le _, rfl, Kp.refl _ _⟩ ?_
            rintro f w7 ⟨j, hj, f23, hk7⟩
            have T7 := TE.nw hk7
            obtain ⟨j1, hj1⟩ : ∃ j1, j1 = base + j + 1 := ⟨_, rfl⟩
            rw [← hj1] at f23
            simp -dsimp [go_sem, f23]
            refine call T7.last ?_
            rw [hlast]
            rintro v w7b ⟨rfl, hk7b⟩
            have T7b := T7.nw hk7b
            by_cases hjm : j < qs.length
            · have hjm' : (j1 : Int) ≤ (K : Int) := by omega
              have hjm2 : j1 ≤ K := by omega
              obtain ⟨hb0, hjp, hqj⟩ := q4 j hjm
              obtain ⟨vs, hvl, hrd, hoA, hi'⟩ := id hr
              obtain ⟨X, x, hv, hrX, hoX, hx⟩ := hi' j hjp
              obtain ⟨bb, oo, rfl, hcell0⟩ := hrd j _ hv
              have hla : lAt ⟨base, data, qs, false⟩ (j1 : Int) = (ps[j], 0) := by
                unfold lAt
                rw [hlast, if_neg (by simp only; omega)]
                have e1 : ((j1 : Int) - ((base : Nat) : Int) - 1).toNat = j := by omega
                simp only [e1]
                simp [List.getD, hjm, hqj]
              simp -dsimp [go_sem, f23, hjm', hjm2]
              refine call (T7b.at_ (j1 : Int) (by omega)) ?_
              rw [hla]
              rintro v w8 ⟨hk8, u, rfl, hB8⟩
              obtain ⟨A8, c8, rfl, ho8, hA8⟩ := id hB8
              have T8 := T7b.nw hk8
              have n8 := T8.on
              simp only at ho8 ⊢
              have hcell := n8.cell_some hcell0 fun h => h
              generalize ps[j] = pj at *
              obtain ⟨pl, hpl⟩ : ∃ pl, pl = pj.length := ⟨_, rfl⟩
              rw [← hpl] at ho8 hcell ⊢
              have hrX8 := hrX.nw n8
              have kd : Nw w8 w8.drew := (Kp.refl _ _).drew
              have hcm : ∀ W, Nw w8 W → (convert 32 9 (.slice A8 pl c8)).run Try.prog W = .ok (.string ⟨pj.toArray⟩) W := fun W hW => by rw [hpl]; exact conv_str (e := 5) (by kernel_rfl) (by kernel_rfl) (by kernel_rfl) (ho8.nw hW).rd
              have hck : ∀ W, Nw w8 W → (convert 32 9 (.slice X pl x)).run Try.prog W = .ok (.string ⟨pj.toArray⟩) W := fun W hW => by rw [hpl]; exact conv_str (e := 5) (by kernel_rfl) (by kernel_rfl) (by kernel_rfl) (hrX8.nw hW)
              have hcmd := hcm _ kd
              have hckd := hck _ kd
              have hcelld := kd.cell_some hcell fun h => h
              have hw : IntKind.i64.wrap ((j1 : Int) - 1) = (j : Int) := by rw [w64 (by omega) (by omega)]; omega
              simp -dsimp [go_sem]
              refine draw (.take 0 (.take 1 (.take 2 (.take 3 (.take 4 (.take 5 (.take 6 (.take 7 (.take 8 (.take 9 (.take 10 (.take 11 (.take 12 .done))))))))))))) (by kernel_rfl) (fun wz => Nw w8 wz) kd ?_
              simp -dsimp [go_sem, f23, hjp, hw, hcelld, hcmd, hckd]
              repeat refine ⟨fun wz hz => by first | exact hcm wz hz | exact hck wz hz | simp [hz.cell_some hcell fun h => h], ?_⟩
              have hk1 : IntKind.i64.wrap ((j1 : Int) + 1) = ((j1 + 1 : Nat) : Int) := w64 (by omega) (by omega)
              obtain ⟨k1, hk1'⟩ : ∃ k1, k1 = j1 + 1 := ⟨_, rfl⟩
              rw [← hk1'] at hk1
              simp -dsimp [go_sem, f23, hk1]
              exact ⟨⟨j + 1, by omega, by rw [hk1', hj1, Nat.add_assoc base j 1], hk7.nw (hk7b.nw (hk8.nw kd))⟩, by simp [intOf]; omega⟩
            have hjm' : ¬ (j1 : Int) ≤ (K : Int) := by omega
            have hjm2 : ¬ j1 ≤ K := by omega
            simp -dsimp [go_sem, f23, hjm', hjm2]
            refine call (lgknown_spec w7b) ?_
            rintro v wL ⟨rfl, hkL⟩
            simp -dsimp [go_sem]
            exact T7b.on.nw hkL
          · simp -dsimp [go_sem, f15, b0', b0n, b0e, bl, bl', hcv', hb1]
            refine loop [8, 23, 24, 25, 165, 166, 167, 168, 169, 170, 171, 172, 173, 174, 175, 176, 177, 178, 179, 180, 181, 182, 183, 184, 185, 186, 187, 188, 189] (by kernel_rfl)
              (fun f w' => Box1 (fun x w' => ∃ j : Nat, j ≤ qs.length ∧ x = i64 (base + j + 1 : Nat) ∧ Nw wE w') (f 23) w') (fun f _ => base + qs.length + 1 - (intOf (f 23)).toNat) ⟨0, Nat.zero_le _, rfl, Kp.refl _ _⟩ ?_
            rintro f w7 ⟨j, hj, f23, hk7⟩
            have T7 := TE.nw hk7
            obtain ⟨j1, hj1⟩ : ∃ j1, j1 = base + j + 1 := ⟨_, rfl⟩
            rw [← hj1] at f23
            simp -dsimp [go_sem, f23]
            refine call T7.last ?_
            rw [hlast]
            rintro v w7b ⟨rfl, hk7b⟩
            have T7b := T7.nw hk7b
            by_cases hjm : j < qs.length
            · have hjm' : (j1 : Int) ≤ (K : Int) := by omega
              have hjm2 : j1 ≤ K := by omega
              obtain ⟨hb0, hjp, hqj⟩ := q4 j hjm
              obtain ⟨vs, hvl, hrd, hoA, hi'⟩ := id hr
              obtain ⟨X, x, hv, hrX, hoX, hx⟩ := hi' j hjp
              obtain ⟨bb, oo, rfl, hcell0⟩ := hrd j _ hv
              have hla : lAt ⟨base, data, qs, false⟩ (j1 : Int) = (ps[j], 0) := by
                unfold lAt
                rw [hlast, if_neg (by simp only; omega)]
                have e1 : ((j1 : Int) - ((base : Nat) : Int) - 1).toNat = j := by omega
                simp only [e1]
                simp [List.getD, hjm, hqj]
              simp -dsimp [go_sem, f23, hjm', hjm2]
              refine call (T7b.at_ (j1 : Int) (by omega)) ?_
              rw [hla]
              rintro v w8 ⟨hk8, u, rfl, hB8⟩
              obtain ⟨A8, c8, rfl, ho8, hA8⟩ := id hB8
              have T8 := T7b.nw hk8
              have n8 := T8.on
              simp only at ho8 ⊢
              have hcell := n8.cell_some hcell0 fun h => h
              generalize ps[j] = pj at *
              obtain ⟨pl, hpl⟩ : ∃ pl, pl = pj.length := ⟨_, rfl⟩
              rw [← hpl] at ho8 hcell ⊢
              have hrX8 := hrX.nw n8
              have kd : Nw w8 w8.drew := (Kp.refl _ _).drew
              have hcm : ∀ W, Nw w8 W → (convert 32 9 (.slice A8 pl c8)).run Try.prog W = .ok (.string ⟨pj.toArray⟩) W := fun W hW => by rw [hpl]; exact conv_str (e := 5) (by kernel_rfl) (by kernel_rfl) (by kernel_rfl) (ho8.nw hW).rd
              have hck : ∀ W, Nw w8 W → (convert 32 9 (.slice X pl x)).run Try.prog W = .ok (.string ⟨pj.toArray⟩) W := fun W hW => by rw [hpl]; exact conv_str (e := 5) (by kernel_rfl) (by kernel_rfl) (by kernel_rfl) (hrX8.nw hW)
              have hcmd := hcm _ kd
              have hckd := hck _ kd
              have hcelld := kd.cell_some hcell fun h => h
              have hw : IntKind.i64.wrap ((j1 : Int) - 1) = (j : Int) := by rw [w64 (by omega) (by omega)]; omega
              simp -dsimp [go_sem]
              refine draw (.take 0 (.take 1 (.take 2 (.take 3 (.take 4 (.take 5 (.take 6 (.take 7 (.take 8 (.take 9 (.take 10 (.take 11 (.take 12 .done))))))))))))) (by kernel_rfl) (fun wz => Nw w8 wz) kd ?_
              simp -dsimp [go_sem, f23, hjp, hw, hcelld, hcmd, hckd]
              repeat refine ⟨fun wz hz => by first | exact hcm wz hz | exact hck wz hz | simp [hz.cell_some hcell fun h => h], ?_⟩
              have hk1 : IntKind.i64.wrap ((j1 : Int) + 1) = ((j1 + 1 : Nat) : Int) := w64 (by omega) (by omega)
              obtain ⟨k1, hk1'⟩ : ∃ k1, k1 = j1 + 1 := ⟨_, rfl⟩
              rw [← hk1'] at hk1
              simp -dsimp [go_sem, f23, hk1]
              exact ⟨⟨j + 1, by omega, by rw [hk1', hj1, Nat.add_assoc base j 1], hk7.nw (hk7b.nw (hk8.nw kd))⟩, by simp [intOf]; omega⟩
            have hjm' : ¬ (j1 : Int) ≤ (K : Int) := by omega
            have hjm2 : ¬ j1 ≤ K := by omega
            simp -dsimp [go_sem, f23, hjm', hjm2]
            refine call (lgknown_spec w7b) ?_
            rintro v wL ⟨rfl, hkL⟩
            simp -dsimp [go_sem]
            exact T7b.on.nw hkL
    · have hbk : ∀ d, (dCrash E d).Ok → ∃ D4 base data qs, opn (dCrash E d) [97] = (D4, 0, ⟨base, data, qs, false⟩) ∧ Kq ps i false false base data qs := fun d ok => by
        obtain ⟨D4, qs, e4, hcs⟩ := hbk0 d ok
        exact ⟨D4, 0, [], qs, e4, .inl ⟨rfl, rfl, rfl, hcs.imp id fun h => ⟨hiN, h⟩⟩⟩
      cases im with
      | false =>
        simp -dsimp [go_sem, f15]
        refine call (Dw.crash T4.dw dr) ?_
        rintro v w6 ⟨rfl, T6⟩
        obtain ⟨D4, base, data, qs, e4, hcase⟩ := hbk dr T6.ok
        obtain ⟨q1, q2, q3, q4⟩ := hcase.facts hi
        obtain ⟨F6, hD6, hF6, n6⟩ := T6
        simp -dsimp [go_sem]
        refine call (open_spec g [97] (dCrash E dr) F6 w6 hD6 (by simp) (by simp)) ?_
        rw [e4]
        rintro v w7 hO7
        obtain ⟨l7, rfl, T7⟩ := Lw.of_open hO7 rfl hF6 n6
        simp only at T7
        obtain ⟨K, hK⟩ : ∃ K, K = base + qs.length := ⟨_, rfl⟩
        have hlast : (⟨base, data, qs, false⟩ : Led).last = K := hK.symm
        simp -dsimp [go_sem]
        refine call T7.last ?_
        rw [hlast]
        rintro v wA ⟨rfl, hkA⟩
        have TA := T7.nw hkA
        have t1 : ¬ (K : Int) < (i : Int) := by omega
        have t1' : ¬ K < i := by omega
        simp -dsimp [go_sem, f15, t1, t1']
        refine call TA.last ?_
        rw [hlast]
        rintro v wB ⟨rfl, hkB⟩
        have TB := TA.nw hkB
        have hi1 : IntKind.i64.wrap ((i : Int) + 1) = ((i + 1 : Nat) : Int) := w64 (by omega) (by omega)
        obtain ⟨i1, hi1'⟩ : ∃ i1, i1 = i + 1 := ⟨_, rfl⟩
        rw [← hi1'] at hi1
        have t2 : ¬ (i1 : Int) < (K : Int) := by omega
        have t2' : ¬ i1 < K := by omega
        simp -dsimp [go_sem, f15, hi1, t2, t2']
        refine call TB.base_ ?_
        rintro v wE ⟨hkE, u, rfl, hBE⟩
        have TE := TB.nw hkE
        have hb1 : IntKind.i64.wrap ((base : Int) + 1) = ((base + 1 : Nat) : Int) := w64 (by omega) (by omega)
        obtain ⟨AE, cE, rfl, hoE, hAE⟩ := id hBE
        simp only at hoE ⊢
        rcases q3 with ⟨b0, hwi⟩ | ⟨bp, bi, hdd, him⟩
        · have b0' : ¬ (0 : Int) < (base : Int) := by omega
          have b0n : ¬ 0 < base := by omega
          have b0e : ((base : Int) == 0) = true := by simp [b0]
          simp -dsimp [go_sem, f15, b0', b0n, b0e, hb1]
          refine loop [8, 23, 24, 25, 165, 166, 167, 168, 169, 170, 171, 172, 173, 174, 175, 176, 177, 178, 179, 180, 181, 182, 183, 184, 185, 186, 187, 188, 189] (by kernel_rfl)
            (fun f w' => Box1 (fun x w' => ∃ j : Nat, j ≤ qs.length ∧ x = i64 (base + j + 1 : Nat) ∧ Nw wE w') (f 23) w') (fun f _ => base + qs.length + 1 - (intOf (f 23)).toNat) ⟨0, Nat.zero_le _, rfl, Kp.refl _ _⟩ ?_
          rintro f w7 ⟨j, hj, f23, hk7⟩
          have T7 := TE.nw hk7
          obtain ⟨j1, hj1⟩ : ∃ j1, j1 = base + j + 1 := ⟨_, rfl⟩
          rw [← hj1] at f23
          simp -dsimp [go_sem, f23]
          refine call T7.last ?_
          rw [hlast]
          rintro v w7b ⟨rfl, hk7b⟩
          have T7b := T7.nw hk7b
          by_cases hjm : j < qs.length
          · have hjm' : (j1 : Int) ≤ (K : Int) := by omega
            have hjm2 : j1 ≤ K := by omega
            obtain ⟨hb0, hjp, hqj⟩ := q4 j hjm
            obtain ⟨vs, hvl, hrd, hoA, hi'⟩ := id hr
            obtain ⟨X, x, hv, hrX, hoX, hx⟩ := hi' j hjp
            obtain ⟨bb, oo, rfl, hcell0⟩ := hrd j _ hv
            have hla : lAt ⟨base, data, qs, false⟩ (j1 : Int) = (ps[j], 0) := by
              unfold lAt
              rw [hlast, if_neg (by simp only; omega)]
              have e1 : ((j1 : Int) - ((base : Nat) : Int) - 1).toNat = j := by omega
              simp only [e1]
              simp [List.getD, hjm, hqj]
            simp -dsimp [go_sem, f23, hjm', hjm2]
            refine call (T7b.at_ (j1 : Int) (by omega)) ?_
            rw [hla]
            rintro v w8 ⟨hk8, u, rfl, hB8⟩
            obtain ⟨A8, c8, rfl, ho8, hA8⟩ := id hB8
            have T8 := T7b.nw hk8
            have n8 := T8.on
            simp only at ho8 ⊢
            have hcell := n8.cell_some hcell0 fun h => h
            generalize ps[j] = pj at *
            obtain ⟨pl, hpl⟩ : ∃ pl, pl = pj.length := ⟨_, rfl⟩
            rw [← hpl] at ho8 hcell ⊢
            have hrX8 := hrX.nw n8
            have kd : Nw w8 w8.drew := (Kp.refl _ _).drew
            have hcm : ∀ W, Nw w8 W → (convert 32 9 (.slice A8 pl c8)).run Try.prog W = .ok (.string ⟨pj.toArray⟩) W := fun W hW => by rw [hpl]; exact conv_str (e := 5) (by kernel_rfl) (by kernel_rfl) (by kernel_rfl) (ho8.nw hW).rd
            have hck : ∀ W, Nw w8 W → (convert 32 9 (.slice X pl x)).run Try.prog W = .ok (.string ⟨pj.toArray⟩) W := fun W hW => by rw [hpl]; exact conv_str (e := 5) (by kernel_rfl) (by kernel_rfl) (by kernel_rfl) (hrX8.nw hW)
            have hcmd := hcm _ kd
            have hckd := hck _ kd
            have hcelld := kd.cell_some hcell fun h => h
            have hw : IntKind.i64.wrap ((j1 : Int) - 1) = (j : Int) := by rw [w64 (by omega) (by omega)]; omega
            simp -dsimp [go_sem]
            refine draw (.take 0 (.take 1 (.take 2 (.take 3 (.take 4 (.take 5 (.take 6 (.take 7 (.take 8 (.take 9 (.take 10 (.take 11 (.take 12 .done))))))))))))) (by kernel_rfl) (fun wz => Nw w8 wz) kd ?_
            simp -dsimp [go_sem, f23, hjp, hw, hcelld, hcmd, hckd]
            repeat refine ⟨fun wz hz => by first | exact hcm wz hz | exact hck wz hz | simp [hz.cell_some hcell fun h => h], ?_⟩
            have hk1 : IntKind.i64.wrap ((j1 : Int) + 1) = ((j1 + 1 : Nat) : Int) := w64 (by omega) (by omega)
            obtain ⟨k1, hk1'⟩ : ∃ k1, k1 = j1 + 1 := ⟨_, rfl⟩
            rw [← hk1'] at hk1
            simp -dsimp [go_sem, f23, hk1]
            exact ⟨⟨j + 1, by omega, by rw [hk1', hj1, Nat.add_assoc base j 1], hk7.nw (hk7b.nw (hk8.nw kd))⟩, by simp [intOf]; omega⟩
          have hjm' : ¬ (j1 : Int) ≤ (K : Int) := by omega
          have hjm2 : ¬ j1 ≤ K := by omega
          simp -dsimp [go_sem, f23, hjm', hjm2]
          refine call (lgknown_spec w7b) ?_
          rintro v wL ⟨rfl, hkL⟩
          simp -dsimp [go_sem]
          exact T7b.on.nw hkL
        · exact absurd him (by decide)
      | true =>
        have hll : (⟨0, [], ps.take i, true⟩ : Led).last = i := by simp [Led.last]; omega
        simp -dsimp [go_sem, f15]
        refine call T4.last ?_
        rw [hll]
        rintro v w5 ⟨rfl, hk5⟩
        have T5 := T4.nw hk5
        have e3 : lWrite E [97] ⟨0, [], ps.take i, true⟩ (i : Int) [105, 109, 97, 103, 101] = (E, ⟨0, [], ps.take i, true⟩, 9) := by unfold lWrite; rw [if_pos rfl]
        simp -dsimp [go_sem, f15]
        refine conv_const rfl rfl (Blk.new w5 _ _) ?_
        intro wc hkc hhc
        have kc : Nw w5 wc := Nw.at_ ((Kp.refl _ _).alloc _) hkc (Nf.at_ (Nat.le_refl _))
        simp -dsimp [go_sem]
        have hwrt := T5.write (by simp) kc (i : Int) [105, 109, 97, 103, 101] _ 5 (Rd.of_heap hhc) (.inr own_off) (by simp) (by simp)
        rw [e3] at hwrt
        simp only at hwrt
        refine call hwrt ?_
        rintro v w6 ⟨rfl, T6⟩
        have TX := T6.dw
        simp -dsimp [go_sem]
        refine call (Dw.crash TX dr) ?_
        rintro v w6 ⟨rfl, T6⟩
        obtain ⟨D4, base, data, qs, e4, hcase⟩ := hbk dr T6.ok
        obtain ⟨q1, q2, q3, q4⟩ := hcase.facts hi
        obtain ⟨F6, hD6, hF6, n6⟩ := T6
        simp -dsimp [go_sem]
        refine call (open_spec g [97] (dCrash E dr) F6 w6 hD6 (by simp) (by simp)) ?_
        rw [e4]
        rintro v w7 hO7
        obtain ⟨l7, rfl, T7⟩ := Lw.of_open hO7 rfl hF6 n6
        simp only at T7
        obtain ⟨K, hK⟩ : ∃ K, K = base + qs.length := ⟨_, rfl⟩
        have hlast : (⟨base, data, qs, false⟩ : Led).last = K := hK.symm
        simp -dsimp [go_sem]
        refine call T7.last ?_
        rw [hlast]
        rintro v wA ⟨rfl, hkA⟩
        have TA := T7.nw hkA
        have t1 : ¬ (K : Int) < (i : Int) := by omega
        have t1' : ¬ K < i := by omega
        simp -dsimp [go_sem, f15, t1, t1']
        refine call TA.last ?_
        rw [hlast]
        rintro v wB ⟨rfl, hkB⟩
        have TB := TA.nw hkB
        have hi1 : IntKind.i64.wrap ((i : Int) + 1) = ((i + 1 : Nat) : Int) := w64 (by omega) (by omega)
        obtain ⟨i1, hi1'⟩ : ∃ i1, i1 = i + 1 := ⟨_, rfl⟩
        rw [← hi1'] at hi1
        have t2 : ¬ (i1 : Int) < (K : Int) := by omega
        have t2' : ¬ i1 < K := by omega
        simp -dsimp [go_sem, f15, hi1, t2, t2']
        refine call TB.base_ ?_
        rintro v wE ⟨hkE, u, rfl, hBE⟩
        have TE := TB.nw hkE
        have hb1 : IntKind.i64.wrap ((base : Int) + 1) = ((base + 1 : Nat) : Int) := w64 (by omega) (by omega)
        obtain ⟨AE, cE, rfl, hoE, hAE⟩ := id hBE
        simp only at hoE ⊢
        rcases q3 with ⟨b0, hwi⟩ | ⟨bp, bi, hdd, him⟩
        · have b0' : ¬ (0 : Int) < (base : Int) := by omega
          have b0n : ¬ 0 < base := by omega
          have b0e : ((base : Int) == 0) = true := by simp [b0]
          simp -dsimp [go_sem, f15, b0', b0n, b0e, hb1]
          refine loop [8, 23, 24, 25, 165, 166, 167, 168, 169, 170, 171, 172, 173, 174, 175, 176, 177, 178, 179, 180, 181, 182, 183, 184, 185, 186, 187, 188, 189] (by kernel_rfl)
            (fun f w' => Box1 (fun x w' => ∃ j : Nat, j ≤ qs.length ∧ x = i64 (base + j + 1 : Nat) ∧ Nw wE w') (f 23) w') (fun f _ => base + qs.length + 1 - (intOf (f 23)).toNat) ⟨0, Nat.zero_le _, rfl, Kp.refl _ _⟩ ?_
          rintro f w7 ⟨j, hj, f23, hk7⟩
          have T7 := TE.nw hk7
          obtain ⟨j1, hj1⟩ : ∃ j1, j1 = base + j + 1 := ⟨_, rfl⟩
          rw [← hj1] at f23
          simp -dsimp [go_sem, f23]
          refine call T7.last ?_
          rw [hlast]
          rintro v w7b ⟨rfl, hk7b⟩
          have T7b := T7.nw hk7b
          by_cases hjm : j < qs.length
          · have hjm' : (j1 : Int) ≤ (K : Int) := by omega
            have hjm2 : j1 ≤ K := by omega
            obtain ⟨hb0, hjp, hqj⟩ := q4 j hjm
            obtain ⟨vs, hvl, hrd, hoA, hi'⟩ := id hr
            obtain ⟨X, x, hv, hrX, hoX, hx⟩ := hi' j hjp
            obtain ⟨bb, oo, rfl, hcell0⟩ := hrd j _ hv
            have hla : lAt ⟨base, data, qs, false⟩ (j1 : Int) = (ps[j], 0) := by
              unfold lAt
              rw [hlast, if_neg (by simp only; omega)]
              have e1 : ((j1 : Int) - ((base : Nat) : Int) - 1).toNat = j := by omega
              simp only [e1]
              simp [List.getD, hjm, hqj]
            simp -dsimp [go_sem, f23, hjm', hjm2]
            refine call (T7b.at_ (j1 : Int) (by omega)) ?_
            rw [hla]
            rintro v w8 ⟨hk8, u, rfl, hB8⟩
            obtain ⟨A8, c8, rfl, ho8, hA8⟩ := id hB8
            have T8 := T7b.nw hk8
            have n8 := T8.on
            simp only at ho8 ⊢
            have hcell := n8.cell_some hcell0 fun h => h
            generalize ps[j] = pj at *
            obtain ⟨pl, hpl⟩ : ∃ pl, pl = pj.length := ⟨_, rfl⟩
            rw [← hpl] at ho8 hcell ⊢
            have hrX8 := hrX.nw n8
            have kd : Nw w8 w8.drew := (Kp.refl _ _).drew
            have hcm : ∀ W, Nw w8 W → (convert 32 9 (.slice A8 pl c8)).run Try.prog W = .ok (.string ⟨pj.toArray⟩) W := fun W hW => by rw [hpl]; exact conv_str (e := 5) (by kernel_rfl) (by kernel_rfl) (by kernel_rfl) (ho8.nw hW).rd
            have hck : ∀ W, Nw w8 W → (convert 32 9 (.slice X pl x)).run Try.prog W = .ok (.string ⟨pj.toArray⟩) W := fun W hW => by rw [hpl]; exact conv_str (e := 5) (by kernel_rfl) (by kernel_rfl) (by kernel_rfl) (hrX8.nw hW)
            have hcmd := hcm _ kd
            have hckd := hck _ kd
            have hcelld := kd.cell_some hcell fun h => h
            have hw : IntKind.i64.wrap ((j1 : Int) - 1) = (j : Int) := by rw [w64 (by omega) (by omega)]; omega
            simp -dsimp [go_sem]
            refine draw (.take 0 (.take 1 (.take 2 (.take 3 (.take 4 (.take 5 (.take 6 (.take 7 (.take 8 (.take 9 (.take 10 (.take 11 (.take 12 .done))))))))))))) (by kernel_rfl) (fun wz => Nw w8 wz) kd ?_
            simp -dsimp [go_sem, f23, hjp, hw, hcelld, hcmd, hckd]
            repeat refine ⟨fun wz hz => by first | exact hcm wz hz | exact hck wz hz | simp [hz.cell_some hcell fun h => h], ?_⟩
            have hk1 : IntKind.i64.wrap ((j1 : Int) + 1) = ((j1 + 1 : Nat) : Int) := w64 (by omega) (by omega)
            obtain ⟨k1, hk1'⟩ : ∃ k1, k1 = j1 + 1 := ⟨_, rfl⟩
            rw [← hk1'] at hk1
            simp -dsimp [go_sem, f23, hk1]
            exact ⟨⟨j + 1, by omega, by rw [hk1', hj1, Nat.add_assoc base j 1], hk7.nw (hk7b.nw (hk8.nw kd))⟩, by simp [intOf]; omega⟩
          have hjm' : ¬ (j1 : Int) ≤ (K : Int) := by omega
          have hjm2 : ¬ j1 ≤ K := by omega
          simp -dsimp [go_sem, f23, hjm', hjm2]
          refine call (lgknown_spec w7b) ?_
          rintro v wL ⟨rfl, hkL⟩
          simp -dsimp [go_sem]
          exact T7b.on.nw hkL
        · exact absurd him (by decide)
end Go.Proofs.Ythonmjgagblogaa
