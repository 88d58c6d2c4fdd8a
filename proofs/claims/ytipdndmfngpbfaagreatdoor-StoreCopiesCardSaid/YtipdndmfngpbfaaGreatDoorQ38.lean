/-
  StoreCopies walked. By the session itself.
-/
import Derived.Test.YtipdndmfngpbfaaGreatDoorQ37
namespace Go.Proofs.YtipdndmfngpbfaaGreatDoor
set_option linter.unusedSimpArgs false
set_option linter.unusedVariables false
set_option maxRecDepth 100000
set_option maxHeartbeats 2000000
open Go.Vc Go.RowKit

theorem copies_law (n h fl : Int) (w : World) :
    Cal Tryz.prog 6 #[i64 n, i64 h, i64 fl] w fun v w' => v = .bool true ∧ Nw w w' := by
  refine enter Tryz.mixed Tryz.func6 rfl (by kernel_rfl) ?_
  by_cases c1 : n < 1
  · simp -dsimp [go_sem, c1]
    exact Kp.refl _ _
  by_cases c2 : 24 < n
  · simp -dsimp [go_sem, c1, c2]
    exact Kp.refl _ _
  by_cases c3 : h < 0
  · simp -dsimp [go_sem, c1, c2, c3]
    exact Kp.refl _ _
  by_cases c4 : 24 < h
  · simp -dsimp [go_sem, c1, c2, c3, c4]
    exact Kp.refl _ _
  by_cases c5 : fl < 0
  · simp -dsimp [go_sem, c1, c2, c3, c4, c5]
    exact Kp.refl _ _
  by_cases c6 : 31 < fl
  · simp -dsimp [go_sem, c1, c2, c3, c4, c5, c6]
    exact Kp.refl _ _
  obtain ⟨N, rfl⟩ : ∃ N : Nat, n = N := ⟨n.toNat, by omega⟩
  obtain ⟨M, rfl⟩ : ∃ M : Nat, h = M := ⟨h.toNat, by omega⟩
  have hf : 0 ≤ fl ∧ fl ≤ 31 := by omega
  have hN : 1 ≤ N ∧ N ≤ 24 := by omega
  have hM : M ≤ 24 := by omega
  simp -dsimp [go_sem, c1, c2, c3, c4, c5, c6]
  clear c1 c2 c3 c4 c5 c6
  refine call (begin_spec w) ?_
  rintro v w1 ⟨p, g, x, s, t, l, qq, l2, F2, G2, V2, rfl, hp, hS, _⟩
  have n1 := hS.on
  have hS := hS.more (U' := fun _ => False) (E' := fun k => k = p) (Kp.refl _ _) (fun i hi => hi.elim) (fun i hi => .inl hi) (fun i hi => hi.elim)
  obtain ⟨E, hE⟩ : ∃ E, E = fun k => k = p := ⟨_, rfl⟩
  have hEp : E p := by rw [hE]
  rw [← hE] at hS
  clear hE
  have p2 := hp.cell 2
  simp -dsimp [go_sem, p2]
  simp [go_sem]
  refine call (hS.goS Sf.fresh (rc_plain w1 1 [97] [112] [] [] 0 0 0) (by decide +kernel) (by omega) (by omega) (by omega) pl_user) ?_
  rintro v w2 ⟨rfl, S1, t1, f1, hS, k2⟩
  have hp := hp.kp k2 fun e => e.2.2 hEp
  have p2 := hp.cell 2
  simp -dsimp [go_sem, p2]
  simp [go_sem]
  refine call (hS.goS f1 (rc_plain w2 2 [97] [] [120] [] 0 0 0) (by decide +kernel) (by omega) (by omega) (by omega) (by rw [t1]; exact pl_x)) ?_
  rintro v w3 ⟨rfl, S2, t2, f2, hS, k3⟩
  have hp := hp.kp k3 fun e => e.2.2 hEp
  simp -dsimp [go_sem]
  refine loop [8, 9, 54, 55, 56, 57, 58, 59, 60, 61, 62, 63, 64, 65, 66, 67, 68, 69, 70, 71, 72, 73] (by kernel_rfl)
    (fun f w' => Box2 (fun a v w' => ∃ (j : Nat) (S : Sto) (U : Nat → Prop), a = i64 ((j + 1 : Nat) : Int) ∧ j ≤ N ∧ Sf S (600000 * j + 1200000) (2 * j + 4) (j + 2) ∧ S.T = stA 3 [(inboxN, bI fl j), ([120], newB [120] 2)] ∧ Blk w' p 48 #[.pointer (some ⟨g, 0, none⟩), .pointer (some ⟨x, 0, none⟩), .pointer (some ⟨s, 0, none⟩), .pointer (some ⟨qq, 0, none⟩)] ∧ Gf w' 3 1 v j ((usI j).map fun n => i64 n) U ∧ Sm w w' s g l t S U E) (f 9) (f 8) w') (fun f _ => N + 1 - (intOf (f 9)).toNat)
    ⟨0, S2, fun _ => False, rfl, Nat.zero_le _, f2, t2, hp, Gf.nil _ _ _, hS⟩ ?_
  clear hS hp f2 t2 f1 t1 p2 k3 k2
  rintro f wa ⟨j, S, U, f9, hj, hSf, hT, hp, hG, hS⟩
  have p2 := hp.cell 2
  by_cases hlt : j < N
  · obtain ⟨j1, hj1'⟩ : ∃ j1, j1 = j + 1 := ⟨_, rfl⟩
    rw [← hj1'] at f9
    have hle : (j1 : Int) ≤ (N : Int) := by omega
    have hj2 : IntKind.i64.wrap ((j1 : Int) + 1) = ((j1 + 1 : Nat) : Int) := by rw [w64 (by omega) (by omega)]; omega
    have hwr : IntKind.u8.wrap (j1 : Int) = ((UInt8.ofNat j1).toNat : Int) := by
      rw [IntKind.wrap_u8', UInt8.toNat_ofNat']
      omega
    have kb : Nw wa (wa.alloc (.cells #[u8 (UInt8.ofNat j1)] 5)) := (Kp.refl _ _).alloc _
    have hrb : Rd (wa.alloc (.cells #[u8 (UInt8.ofNat j1)] 5)) (some ⟨wa.heap.size, 0, none⟩) ([UInt8.ofNat j1].map u8) := Rd.fresh rfl rfl
    have hcall := (hS.nw kb).goS hSf (rc_body (ca := 1) hrb (Nat.le_refl _) 5 [97] [] inboxN [] 0 fl (j1 : Int)) (by rw [hj1']; exact kI_ok hf (by omega)) (by omega) (by omega) (by omega) (n := ((j + 1 : Nat) : Int)) (T' := stA 3 [(inboxN, bI fl (j + 1)), ([120], newB [120] 2)]) (by rw [hT, hj1']; exact pl_in hf (by omega))
    simp -dsimp [go_sem, f9, hle, p2, hwr]
    simp [go_sem]
    refine call hcall ?_
    rintro v w2 ⟨rfl, S1, t1, f1, hS, k2⟩
    have hp := (hp.nw kb).kp k2 fun e => e.2.2 hEp
    have hG := (hG.nw kb).kp k2 fun i hi e => e.2.1 hi
    have kc : ∀ cs ty, Nw w2 (w2.alloc (.cells cs ty)) := fun cs ty => (Kp.refl _ _).alloc _
    simp -dsimp [go_sem, f9]
    refine gf_app Tryz.Sint (hG.nw (kc _ _)) (Rd.fresh (xs := [i64 j1]) rfl rfl) (m := 1) (by simp) (by simp [Value.oneCell']) (by omega) (by omega) ?_
    rintro v' w4 F' hG' gr kF
    have hpF : ¬ U p := hS.apart hEp
    have hS := (hS.nw (kc _ _)).turn kF gr
    have hp := (hp.nw (kc _ _)).kp kF hpF
    simp -dsimp [go_sem, f9, hj2]
    rw [← hj1'] at t1
    refine ⟨⟨j1, S1, F', rfl, by omega, f1.mono (by omega) (by omega) (by omega), t1, hp, ?_, hS⟩, by simp [intOf]; omega⟩
    have e : (usI j1).map (fun n => i64 n) = (usI j).map (fun n => i64 n) ++ [i64 (j1 : Int)] := by
      rw [hj1']; simp [usI, List.range'_1_concat, Nat.add_comm 1 j]
    rw [← hj1'] at hG'
    rw [e]
    exact hG'
  · obtain rfl : j = N := by omega
    have hlt' : ¬ (j : Int) + 1 ≤ (j : Int) := by omega
    obtain ⟨A, ca, f8, hO, hb1, hb2⟩ := hG
    have hG : Gf wa 3 1 (.slice A j ca) j ((usI j).map fun n => i64 n) U := ⟨A, ca, rfl, hO, hb1, hb2⟩
    simp -dsimp [go_sem, f9, hlt']
    refine loop [10, 74, 75, 76, 77, 78, 79, 80, 81, 82, 83, 84] (by kernel_rfl)
      (fun f w' => Box1 (fun a w' => ∃ (k : Nat) (S : Sto), a = i64 k ∧ k ≤ M ∧ Sf S (600000 * (j + k) + 1200000) (2 * (j + k) + 4) (j + k + 2) ∧ S.T = stA 3 [(inboxN, bI fl j), ([120], bM [] k)] ∧ Blk w' p 48 #[.pointer (some ⟨g, 0, none⟩), .pointer (some ⟨x, 0, none⟩), .pointer (some ⟨s, 0, none⟩), .pointer (some ⟨qq, 0, none⟩)] ∧ Gf w' 3 1 (.slice A j ca) j ((usI j).map fun n => i64 n) U ∧ Sm w w' s g l t S U E) (f 10) w') (fun f _ => M - (intOf (f 10)).toNat)
      ⟨0, S, rfl, Nat.zero_le _, hSf, hT, hp, hG, hS⟩ ?_
    clear hS hp hT hSf p2 hG hO hb1 hb2
    rintro f' wb ⟨k, S, f10, hk, hSf, hT, hp, hG, hS⟩
    have p2 := hp.cell 2
    by_cases hlk : k < M
    · have hlk' : (k : Int) < (M : Int) := by omega
      have hk1 : IntKind.i64.wrap ((k : Int) + 1) = ((k + 1 : Nat) : Int) := by rw [w64 (by omega) (by omega)]; omega
      obtain ⟨k1, hk1'⟩ : ∃ k1, k1 = k + 1 := ⟨_, rfl⟩
      rw [← hk1'] at hk1
      simp -dsimp [go_sem, f10, hlk', p2]
      simp [go_sem]
      refine call (hS.goS hSf (rc_plain wb 5 [97] [] [120] [] 0 0 0) (kA_ok (by simp)) (by omega) (by omega) (by omega) (by rw [hT]; exact pl_ap _ (by omega))) ?_
      rintro v w2 ⟨rfl, S1, t1, f1, hS, k2⟩
      have hp := hp.kp k2 fun e => e.2.2 hEp
      have hG := hG.kp k2 fun i hi e => e.2.1 hi
      simp -dsimp [go_sem, f10, hk1]
      rw [← hk1'] at t1
      exact ⟨⟨k1, S1, rfl, by omega, f1.mono (by omega) (by omega) (by omega), t1, hp, hG, hS⟩, by simp [intOf]; omega⟩
    · obtain rfl : k = M := by omega
      have hlk' : ¬ (k : Int) < (k : Int) := by omega
      obtain ⟨A', ca', e8, hO, _, _⟩ := hG
      cases e8
      have hul := usI_len j
      have hrc : RC wb (.agg #[i64 8, str [97], str [], str inboxN, str [120], .slice A j ca, i64 0, i64 0, i64 0, .slice none 0 0]) (kC j) (fun _ => False) := by
        have := rc_uids (us := usI j) (ca := ca) hO.rd (by rw [hul]; exact hO.2.1) 8 [97] [] inboxN [120] 0 0 0
        rw [hul] at this
        exact this
      have hpc := pl_copy hf (n := j) (h := k) (by omega) hM
      simp -dsimp [go_sem, f10, hlk', p2, f8]
      simp [go_sem]
      by_cases hbig : 24 < k + j
      · refine call (hS.noS hSf hrc (kC_ok (by omega)) (by omega) (by omega) (by omega) (e := 6) (by omega) (by rw [hT]; exact hpc.2 hbig)) ?_
        rintro v w2 ⟨rfl, hS, k2⟩
        have hp := hp.kp k2 fun e => e.2.2 hEp
        have p2 := hp.cell 2
        have hS := hS.more (U' := fun _ => False) (E' := E) (Kp.refl _ _) (fun i hi => hi.elim) (fun i hi => .inl hi) (fun i hi => hi.elim)
        simp -dsimp [go_sem, p2, f9]
        refine call (hS.getE hSf.tok [97] [120] (by rw [hT]; exact getX _ _)) ?_
        rintro v w3 ⟨A3, c3, E3, rfl, hE3, hS, hB, q3, k3⟩
        obtain ⟨X, m, d, hm, hZ, hR, _⟩ := hB
        obtain rfl : m = k := hm.trans (bM_len [] k)
        have z3 := hZ.cell 3
        have hsum : IntKind.i64.wrap ((j : Int) + (m : Int)) = (j : Int) + (m : Int) := by rw [w64 (by omega) (by omega)]
        have hgt : (24 : Int) < (j : Int) + (m : Int) := by omega
        simp -dsimp [go_sem]
        generalize w3.heap.size = z at *
        generalize w3.alloc _ = wc at *
        simp -dsimp [go_sem, hsum, hgt, z3]
        refine call (stknown_spec wc) ?_
        rintro v w4 ⟨rfl, k4⟩
        simp -dsimp [go_sem]
        exact hS.on.nw k4
      · refine call (hS.goS hSf hrc (kC_ok (by omega)) (by omega) (by omega) (by omega) (by rw [hT]; exact hpc.1 (by omega))) ?_
        rintro v w2 ⟨rfl, S1, t1, f1, hS, k2⟩
        have hp := hp.kp k2 fun e => e.2.2 hEp
        have p2 := hp.cell 2
        have hS := hS.more (U' := fun _ => False) (E' := E) (Kp.refl _ _) (fun i hi => hi.elim) (fun i hi => .inl hi) (fun i hi => hi.elim)
        simp -dsimp [go_sem, p2]
        refine call (hS.getE f1.tok [97] [120] (by rw [t1]; exact getX _ _)) ?_
        rintro v w3 ⟨A3, c3, E3, rfl, hE3, hS, hB, q3, k3⟩
        obtain ⟨X, m, d, hm, hZ, hR, _⟩ := hB
        obtain ⟨A5, c5, q, e5, hq, hc5, hrq, hof, hbd⟩ := hR
        cases e5
        have hsum : IntKind.i64.wrap ((j : Int) + (k : Int)) = (j : Int) + (k : Int) := by rw [w64 (by omega) (by omega)]
        have hsum2 : IntKind.i64.wrap ((k : Int) + (j : Int)) = (k : Int) + (j : Int) := by rw [w64 (by omega) (by omega)]
        have hgt : ¬ (24 : Int) < (j : Int) + (k : Int) := by omega
        simp -dsimp [go_sem]
        generalize w3.heap.size = z at *
        generalize w3.alloc _ = wc at *
        rw [bC_len] at hZ
        have z3 := hZ.cell 3
        simp -dsimp [go_sem, hsum, hsum2, hgt, z3]
        refine loop [6, 15, 16, 139, 140, 141, 142, 143, 144, 145, 146, 147, 148, 149, 150, 151, 152, 153, 154, 155, 156, 157, 158, 159, 160, 161, 162, 163, 164, 165, 166, 167, 168, 169, 170, 171, 172, 173, 174, 175, 176, 177, 178, 179, 180, 181] (by kernel_rfl)
          (fun f w' => Box1 (fun a w' => ∃ i : Nat, a = i64 i ∧ i ≤ j ∧ Nw wc w') (f 15) w') (fun f _ => j - (intOf (f 15)).toNat) ⟨0, rfl, Nat.zero_le _, Kp.refl _ _⟩ ?_
        rintro f3 wd ⟨i, f15, hi, hK⟩
        have z3 := (hZ.nw hK).cell 3
        have hql : q.length = k + j := by rw [← bC_len k fl j, ← hq, List.length_map]
        by_cases hli : i < j
        · have hli' : (i : Int) < (j : Int) := by omega
          have hltq : k + i < q.length := by omega
          obtain ⟨g5, o5, rfl, m0, m1, m2, m3⟩ := msg_at (hrq.nw hK) hltq
          obtain ⟨b, hb⟩ : ∃ b, b = UInt8.ofNat (i + 1) := ⟨_, rfl⟩
          have hqi : q[k + i].1 = ⟨(k : Int) + ((i : Int) + 1), fl, (i : Int) + 1, [b]⟩ := by
            have e : q[k + i].1 = (bC k fl j).L[k + i]'(by rw [bC_len]; omega) := by simp only [← hq, List.getElem_map]
            rw [e, hb]
            simp [bC, bM, cM, List.getElem_append_right, Nat.add_comm 1 i]
          have hbq := hbd _ (List.getElem_mem hltq)
          rw [hqi] at m0 m1 m2 hbq
          generalize q[k + i].2 = mv at *
          obtain ⟨Bm, dm, rfl, hrm, hom, hdm⟩ := hbq
          have hix : IntKind.i64.wrap ((k : Int) + (i : Int)) = ((k + i : Nat) : Int) := by rw [w64 (by omega) (by omega)]; omega
          have hwr : IntKind.u8.wrap ((i : Int) + 1) = (b.toNat : Int) := by
            rw [IntKind.wrap_u8', hb, UInt8.toNat_ofNat']
            omega
          have hi1 : IntKind.i64.wrap ((i : Int) + 1) = (i : Int) + 1 := by rw [w64 (by omega) (by omega)]
          have hik0 : (0 : Int) ≤ (k : Int) + (i : Int) := by omega
          have hikT : ((k : Int) + (i : Int)).toNat = k + i := by omega
          have hk1 : IntKind.i64.wrap ((k : Int) + (i : Int) + 1) = (k : Int) + ((i : Int) + 1) := by rw [w64 (by omega) (by omega)]; omega
          have kb := Blk.new wd 58 #[i64 ((k : Int) + ((i : Int) + 1)), i64 fl, i64 ((i : Int) + 1), .slice Bm 1 dm]
          have y0 := kb.cell 0
          have y1 := kb.cell 1
          have y2 := kb.cell 2
          have y3 := kb.cell 3
          obtain ⟨wx, hwx⟩ : ∃ wx, wx = wd.alloc (.cells #[i64 ((k : Int) + ((i : Int) + 1)), i64 fl, i64 ((i : Int) + 1), .slice Bm 1 dm] 58) := ⟨_, rfl⟩
          have kx : Nw wd wx := by rw [hwx]; exact (Kp.refl _ _).alloc _
          have hcv : convR Tryz.prog 23 9 (.slice Bm 1 dm) wx = .ok (str [b]) wx := nm_conv (l := [b]) ((hrm.nw hK).nw kx)
          have ky : Nw wx (wx.alloc (.cells #[u8 (b)] 5)) := (Kp.refl _ _).alloc _
          have hcw : convR Tryz.prog 23 9 (.slice (some ⟨wx.heap.size, 0, none⟩) 1 1) (wx.alloc (.cells #[u8 (b)] 5)) = .ok (str [b]) (wx.alloc (.cells #[u8 (b)] 5)) := nm_conv (l := [b]) (Rd.fresh rfl rfl)
          have hxs : wx.heap.size = wd.heap.size + 1 := by rw [hwx]; simp
          rw [hxs] at hcw
          rw [hwx] at hcv hcw kx ky
          simp -dsimp [go_sem, f15, hli', z3, hix, hi1, hik0, hikT, hk1, hwr, hcv, hcw, m0, m1, m2, m3, y0, y1, y2, y3]
          exact ⟨⟨i + 1, by simp, by omega, (hK.nw kx).nw ky⟩, by simp [intOf]; omega⟩
        · obtain rfl : i = j := by omega
          have hli' : ¬ (i : Int) < (i : Int) := by omega
          simp -dsimp [go_sem, f15, hli']
          refine call (stknown_spec wd) ?_
          rintro v w4 ⟨rfl, k4⟩
          simp -dsimp [go_sem]
          exact (hS.on.nw hK).nw k4
end Go.Proofs.YtipdndmfngpbfaaGreatDoor

