/-
  BoxBytes walked. By the session itself.
-/
import Derived.Test.YtindfpaahlijeaaDoorBkI
import Derived.Test.YtindfpaahlijeaaDoorBkG
namespace Go.Proofs.YtindfpaahlijeaaDoor
set_option linter.unusedSimpArgs false
set_option linter.unusedVariables false
set_option maxRecDepth 100000
set_option maxHeartbeats 4000000
open Go.Vc Go.RowKit

def encE (b : Bx) : List UInt8 × Nat := if isB b = true then (encX b, 0) else ([], 1)
theorem EncR.all {v : Value} {w : World} {b : Bx} {B : Nat} (h : EncR v w b B) : ∃ u, v = .tuple #[u, i64 (encE b).2] ∧ Bs w u (encE b).1 B := by
  rcases h with ⟨hi, u, rfl, hB⟩ | ⟨hi, rfl⟩
  · exact ⟨u, by simp [encE, hi], by simpa [encE, hi] using hB⟩
  · exact ⟨.slice none 0 0, by simp [encE, hi], by simpa [encE, hi] using Bs.nil w B⟩
def decE (p : List UInt8) : Bx × Nat := if bxOk p = true then ((bxRead p).1, 0) else (⟨⟨#[]⟩, 0, 0, []⟩, 3)
theorem DecR.all {v : Value} {w : World} {p : List UInt8} {B : Nat} (h : DecR v w p B) : ∃ u, v = .tuple #[u, i64 (decE p).2] ∧ OB w u (decE p).1 B := by
  rcases h with ⟨hi, u, rfl, hB⟩ | ⟨hi, rfl⟩
  · exact ⟨u, by simp [decE, hi], by simpa [decE, hi] using hB⟩
  · refine ⟨.agg #[.string ⟨#[]⟩, i64 0, i64 0, .slice none 0 0], by simp [decE, hi], ?_⟩
    rw [show (decE p).1 = ⟨⟨#[]⟩, 0, 0, []⟩ by simp [decE, hi]]
    exact ⟨_, rfl, OL.nil _ _⟩
theorem decE_len (p : List UInt8) : (decE p).1.L.length ≤ 24 := by
  unfold decE
  split
  · rename_i h
    exact (IsB.of (read_inv h).2.2.1).len
  · simp
theorem bytes_law (v1 v2 : Value) (a b : Bx) (p : List UInt8) (A : Option Addr) (c : Nat) (s : ByteArray) (w : World) (h1 : RB w v1 a (fun _ => False)) (h2 : RB w v2 b (fun _ => False)) (hn1 : a.name.size ≤ 9223372036854775807) (hl1 : a.L.length ≤ 9223372036854775807) (hl2 : b.L.length ≤ 9223372036854775807) (hr : Rd w A (p.map u8)) (hc : p.length ≤ c) (hs : s.size ≤ 9223372036854775807) :
    Cal Tryd.prog 4 #[v1, v2, .slice A p.length c, .string s] w fun v' w' => v' = .bool true ∧ Nw w w' := by
  have hR1 := h1
  have hR2 := h2
  obtain ⟨A1, c1, q1, rfl, hq1, hc1, hr1, ho1, hb1⟩ := h1
  obtain ⟨A2, c2, q2, rfl, hq2, hc2, hr2, ho2, hb2⟩ := h2
  refine enter Tryd.mixed Tryd.func4 rfl (by kernel_rfl) ?_
  simp -dsimp [go_sem]
  obtain ⟨x, hx', hb0, hz0, hsz, n0⟩ := two_new w 24 24 #[.string a.name, i64 a.val, i64 a.next, .slice A1 a.L.length c1] #[.string b.name, i64 b.val, i64 b.next, .slice A2 b.L.length c2]
  rw [← hx']
  generalize (w.alloc (.cells #[.string a.name, i64 a.val, i64 a.next, .slice A1 a.L.length c1] 24)).alloc (.cells #[.string b.name, i64 b.val, i64 b.next, .slice A2 b.L.length c2] 24) = wa at *
  obtain ⟨x2, hx2⟩ : ∃ x2, x2 = x + 1 := ⟨_, rfl⟩
  rw [← hx2] at hz0 ⊢
  have bc := fun (j : Nat) (W : World) (k : Nw wa W) => (hb0.nw k).cell j
  have zc := fun (j : Nat) (W : World) (k : Nw wa W) => (hz0.nw k).cell j
  refine call (large_spec _ a (fun _ => False) wa (hR1.nw n0) (by omega)) ?_
  rintro v w1 ⟨⟨r, rfl⟩, hk1⟩
  cases r with
  | true =>
    simp -dsimp [go_sem]
    exact n0.nw hk1
  | false =>
    have z0 := zc 0 w1 hk1
    have z1 := zc 1 w1 hk1
    have z2 := zc 2 w1 hk1
    have z3 := zc 3 w1 hk1
    simp -dsimp [go_sem, z0, z1, z2, z3]
    refine call (large_spec _ b (fun _ => False) w1 ((hR2.nw n0).nw hk1) (by omega)) ?_
    rintro v w2 ⟨⟨r, rfl⟩, hk2⟩
    have k2 := hk1.nw hk2
    have n2 := n0.nw k2
    cases r with
    | true =>
      simp -dsimp [go_sem]
      exact n2
    | false =>
      by_cases hp5 : 5000 < p.length
      · have hp5' : (5000 : Int) < (p.length : Int) := by omega
        simp -dsimp [go_sem, hp5, hp5']
        exact n2
      have hp5' : ¬ (5000 : Int) < (p.length : Int) := by omega
      by_cases hs6 : 60 < s.size
      · have hs6' : (60 : Int) < (s.size : Int) := by omega
        simp -dsimp [go_sem, hp5, hp5', hs6, hs6']
        exact n2
      have hs6' : ¬ (60 : Int) < (s.size : Int) := by omega
      have b0 := bc 0 w2 k2
      have b1 := bc 1 w2 k2
      have b2 := bc 2 w2 k2
      have b3 := bc 3 w2 k2
      simp -dsimp [go_sem, hp5, hp5', hs6, hs6', b0, b1, b2, b3]
      refine call (bencode_spec _ a w2 (hR1.nw n2) hn1 (by omega)) ?_
      rintro v w3 ⟨hE3, hk3⟩
      obtain ⟨u3, rfl, hB3⟩ := hE3.all
      obtain ⟨X3, d3, rfl, ho3, _⟩ := id hB3
      have k3 := k2.nw hk3
      have b0 := bc 0 w3 k3
      have b1 := bc 1 w3 k3
      have b2 := bc 2 w3 k3
      have b3 := bc 3 w3 k3
      simp -dsimp [go_sem, b0, b1, b2, b3]
      refine call (rencode_spec _ a w3 (hR1.nw (n0.nw k3)) hn1 (by omega)) ?_
      rintro v w4 ⟨hE4, hk4⟩
      obtain ⟨u4, rfl, hB4⟩ := hE4.all
      obtain ⟨X4, d4, rfl, ho4, _⟩ := id hB4
      have k4 := k3.nw hk4
      simp -dsimp [go_sem]
      refine bs_fresh (m := p) rfl rfl (hr.nw (n0.nw k4)) (by omega) ?_
      intro v5 w5 hB5 hk5
      obtain ⟨X5, d5, rfl, ho5, _⟩ := id hB5
      have k5 := k4.nw hk5
      simp -dsimp [go_sem]
      refine call (bdecode_spec p X5 d5 w5 ho5.rd (by omega)) ?_
      rintro v w6 ⟨hD6, hk6⟩
      obtain ⟨u6, rfl, hO6⟩ := hD6.all
      have hDl := decE_len p
      have k6 := k5.nw hk6
      obtain ⟨vL6, rfl, hOL6⟩ := id hO6
      obtain ⟨qq6, AA6, dd6, rfl, _⟩ := id hOL6
      have ka6 : Nw w6 (w6.alloc (.cells #[.string (decE p).1.name, i64 (decE p).1.val, i64 (decE p).1.next, .slice AA6 (decE p).1.L.length dd6] 24)) := (Kp.refl _ _).alloc _
      have hy0 := Blk.new w6 24 #[.string (decE p).1.name, i64 (decE p).1.val, i64 (decE p).1.next, .slice AA6 (decE p).1.L.length dd6]
      obtain ⟨y, hy⟩ : ∃ y, y = w6.heap.size := ⟨_, rfl⟩
      obtain ⟨D, hD⟩ : ∃ D, D = decE p := ⟨_, rfl⟩
      rw [← hD] at hO6 hy0 hDl ka6 ⊢
      have hO6a := hO6.nw ka6
      have k6a := k6.nw ka6
      simp -dsimp [go_sem]
      rw [← hy] at hy0 ⊢
      generalize w6.alloc (.cells #[.string D.1.name, i64 D.1.val, i64 D.1.next, .slice AA6 D.1.L.length dd6] 24) = w7 at *
      refine call (rdecode_spec p A c w7 (hr.nw (n0.nw k6a)) hc (by omega)) ?_
      rintro v w8 ⟨hD8, hk8⟩
      obtain ⟨u8', rfl, hO8⟩ := hD8.all
      rw [← hD] at hO8 ⊢
      obtain ⟨vL8, rfl, hOL8⟩ := id hO8
      obtain ⟨qq8, AA8, dd8, rfl, _⟩ := id hOL8
      have ka8 : Nw w8 (w8.alloc (.cells #[.string D.1.name, i64 D.1.val, i64 D.1.next, .slice AA8 D.1.L.length dd8] 24)) := (Kp.refl _ _).alloc _
      have ht0 := Blk.new w8 24 #[.string D.1.name, i64 D.1.val, i64 D.1.next, .slice AA8 D.1.L.length dd8]
      obtain ⟨t, ht⟩ : ∃ t, t = w8.heap.size := ⟨_, rfl⟩
      have hO8a := hO8.nw ka8
      have k78 := hk8.nw ka8
      have k9 := k6a.nw k78
      have hO6b := hO6a.nw k78
      simp -dsimp [go_sem]
      rw [← ht] at ht0 ⊢
      generalize w8.alloc (.cells #[.string D.1.name, i64 D.1.val, i64 D.1.next, .slice AA8 D.1.L.length dd8] 24) = w9 at *
      have hy9 := hy0.nw k78
      have kd : Nw w9 w9.drew := (Kp.refl _ _).drew
      have yc := fun (j : Nat) (W : World) (k : Nw w9 W) => (hy9.nw k).cell j
      have tc := fun (j : Nat) (W : World) (k : Nw w9 W) => (ht0.nw k).cell j
      have hb9 := hb0.nw k9
      have hz9 := hz0.nw k9
      have ac := fun (j : Nat) (W : World) (k : Nw w9 W) => (hb9.nw k).cell j
      have cc := fun (j : Nat) (W : World) (k : Nw w9 W) => (hz9.nw k).cell j
      have k49 : Nw w4 w9 := ((hk5.nw hk6).nw ka6).nw k78
      have hcm : ∀ W, Nw w9 W → (convert 26 9 (.slice X3 (encE a).1.length d3)).run Tryd.prog W = .ok (.string ⟨(encE a).1.toArray⟩) W := fun W hW => conv_str (e := 5) (by kernel_rfl) (by kernel_rfl) (by kernel_rfl) (((ho3.rd.nw hk4).nw k49).nw hW)
      have hck : ∀ W, Nw w9 W → (convert 26 9 (.slice X4 (encE a).1.length d4)).run Tryd.prog W = .ok (.string ⟨(encE a).1.toArray⟩) W := fun W hW => conv_str (e := 5) (by kernel_rfl) (by kernel_rfl) (by kernel_rfl) ((ho4.rd.nw k49).nw hW)
      have hcmd := hcm _ kd
      have hckd := hck _ kd
      have hee : (((encE a).2 : Int) == ((encE a).2 : Int)) = true := by simp
      have hdd : ((D.2 : Int) == (D.2 : Int)) = true := by simp
      have y0 := yc 0 _ kd
      have y1 := yc 1 _ kd
      have y2 := yc 2 _ kd
      have y3 := yc 3 _ kd
      have t0 := tc 0 _ kd
      have t1 := tc 1 _ kd
      have t2 := tc 2 _ kd
      have t3 := tc 3 _ kd
      have n9 := n0.nw k9
      clear hE3 hE4 hD6 hD8
      generalize (encE a).1 = E at *
      refine draw (.take 0 (.take 1 (.take 2 (.take 3 (.take 4 (.take 5 (.take 6 (.take 7 (.take 8 (.take 9 (.take 10 (.take 11 (.take 12 (.alt 13 (.take 14 (.take 15 (.take 16 (.take 17 (.take 18 (.take 19 (.take 20 (.take 21 (.take 23 (.alt 22 (.alt 24 (.take 25 (.take 26 (.take 27 (.take 28 (.take 29 (.take 31 (.take 32 (.alt 30 (.alt 33 (.take 34 (.take 35 (.take 36 (.take 37 (.take 38 (.alt 39 (.take 40 (.take 41 (.take 42 (.take 44 (.alt 43 (.alt 45 (.take 46 (.take 47 (.take 48 (.alt 49 (.take 50 (.take 51 .done)) .stop)))) .stop) .stop))))) .stop)))))) .stop) .stop)))))))) .stop) .stop)))))))))) .stop)))))))))))))) (by kernel_rfl) (fun wz => Nw w9 wz) kd ?_
      simp -dsimp [go_sem, hcmd, hckd, hee, y0, y1, y2, y3, t0, t1, t2, t3]
      repeat refine ⟨fun wz hz => by first | exact hcm wz hz | exact hck wz hz | simp [yc 0 wz hz, yc 1 wz hz, yc 2 wz hz, yc 3 wz hz, tc 0 wz hz, tc 1 wz hz, tc 2 wz hz, tc 3 wz hz], ?_⟩
      refine call (rsame_spec _ _ D.1 D.1 _ _ _ ((hO6b.nw kd).rb) ((hO8a.nw kd).rb) (by omega) (by omega)) ?_
      rintro v e1 ⟨rfl, l1⟩
      rw [sameB_self]
      have m1 := kd.nw l1
      refine ⟨m1, ?_⟩
      have a0 := ac 0 _ m1
      have a1 := ac 1 _ m1
      have a2 := ac 2 _ m1
      have a3 := ac 3 _ m1
      simp -dsimp [go_sem, hdd, a0, a1, a2, a3]
      repeat refine ⟨fun wz hz => by simp [ac 0 wz hz, ac 1 wz hz, ac 2 wz hz, ac 3 wz hz, cc 0 wz hz, cc 1 wz hz, cc 2 wz hz, cc 3 wz hz], ?_⟩
      refine call (bis_spec _ a (fun _ => False) e1 (hR1.nw (n9.nw m1)) hn1 (by omega)) ?_
      rintro v e2 ⟨rfl, l2⟩
      have m2 := m1.nw l2
      refine ⟨m2, ?_⟩
      simp -dsimp [go_sem]
      refine call (ris_spec _ a (fun _ => False) e2 (hR1.nw (n9.nw m2)) hn1 (by omega)) ?_
      rintro v e3 ⟨rfl, l3⟩
      have m3 := m2.nw l3
      refine ⟨m3, ?_⟩
      have a0 := ac 0 _ m3
      have a1 := ac 1 _ m3
      have a2 := ac 2 _ m3
      have a3 := ac 3 _ m3
      have q0 := cc 0 _ m3
      have q1 := cc 1 _ m3
      have q2 := cc 2 _ m3
      have q3 := cc 3 _ m3
      have hib : (isB a == isB a) = true := by simp
      simp -dsimp [go_sem, hib, a0, a1, a2, a3, q0, q1, q2, q3]
      repeat refine ⟨fun wz hz => by simp [ac 0 wz hz, ac 1 wz hz, ac 2 wz hz, ac 3 wz hz, cc 0 wz hz, cc 1 wz hz, cc 2 wz hz, cc 3 wz hz], ?_⟩
      refine call (bsame_spec _ _ a b (fun _ => False) (fun _ => False) e3 (hR1.nw (n9.nw m3)) (hR2.nw (n9.nw m3)) hl1) ?_
      rintro v e4 ⟨rfl, l4⟩
      have m4 := m3.nw l4
      refine ⟨m4, ?_⟩
      simp -dsimp [go_sem]
      refine call (rsame_spec _ _ a b (fun _ => False) (fun _ => False) e4 (hR1.nw (n9.nw m4)) (hR2.nw (n9.nw m4)) hl1 hl2) ?_
      rintro v e5 ⟨rfl, l5⟩
      have m5 := m4.nw l5
      refine ⟨m5, ?_⟩
      have a0 := ac 0 _ m5
      have a1 := ac 1 _ m5
      have a2 := ac 2 _ m5
      have a3 := ac 3 _ m5
      have hsb : (sameB a b == sameB a b) = true := by simp
      simp -dsimp [go_sem, hsb, a0, a1, a2, a3]
      repeat refine ⟨fun wz hz => by simp [ac 0 wz hz, ac 1 wz hz, ac 2 wz hz, ac 3 wz hz, cc 0 wz hz, cc 1 wz hz, cc 2 wz hz, cc 3 wz hz], ?_⟩
      refine call (bsame_spec _ _ a a (fun _ => False) (fun _ => False) e5 (hR1.nw (n9.nw m5)) (hR1.nw (n9.nw m5)) hl1) ?_
      rintro v e6 ⟨rfl, l6⟩
      rw [sameB_self]
      have m6 := m5.nw l6
      refine ⟨m6, ?_⟩
      simp -dsimp [go_sem]
      refine call (bname_spec s e6 hs) ?_
      rintro v e7 ⟨rfl, l7⟩
      have m7 := m6.nw l7
      refine ⟨m7, ?_⟩
      simp -dsimp [go_sem]
      refine call (rname_spec s e7 hs) ?_
      rintro v e8 ⟨rfl, rfl⟩
      refine ⟨m7, ?_⟩
      have hnn : (nameOk s == nameOk s) = true := by simp
      simp -dsimp [go_sem, hnn]
      refine call (bxknown_spec _) ?_
      rintro v e9 ⟨rfl, l9⟩
      have m9 := m7.nw l9
      refine ⟨m9, ?_⟩
      simp -dsimp [go_sem]
      exact n9.nw m9
end Go.Proofs.YtindfpaahlijeaaDoor
