/-
  FrameTears, FrameRows walked: records one behind the other, cut anywhere, and with anything behind. By the session itself.
-/
import Derived.Test.YtdhgfljpnjneeaaFrmK
namespace Go.Proofs.Ytdhgfljpnjneeaa
set_option linter.unusedSimpArgs false
set_option linter.unusedVariables false
open Go.Vc Go.RowKit

/-- Where each record ends. -/
def endsR (ps : List (List UInt8)) (i : Nat) : List Value := (List.range i).map fun j => i64 (recsB (ps.take (j + 1))).length
theorem endsR_succ (ps : List (List UInt8)) (i : Nat) : endsR ps (i + 1) = endsR ps i ++ [i64 (recsB (ps.take (i + 1))).length] := by
  unfold endsR
  rw [List.range_succ, List.map_append]
  rfl
theorem endsR_at (ps : List (List UInt8)) (i j : Nat) (h : j < i) : (endsR ps i)[j]? = some (i64 (recsB (ps.take (j + 1))).length) := by
  simp [endsR, h]
theorem recsB_mono (ps : List (List UInt8)) (i : Nat) : (recsB (ps.take i)).length ≤ (recsB ps).length := by
  have := congrArg List.length (recsB_split ps i)
  rw [List.length_append] at this
  omega
theorem Gf.at_ {w : World} {e : TypeId} {sz n j : Nat} {v u : Value} {xs : List Value} {F : Nat → Prop} (h : Gf w e sz v n xs F) (hj : xs[j]? = some u) : ∃ g c, v = .slice (some ⟨g, 0, none⟩) n c ∧ w.cell? ⟨g, j, none⟩ = some u := by
  obtain ⟨A, c, rfl, ho, _⟩ := h
  obtain ⟨b, o, rfl, hc⟩ := ho.rd j u hj
  rcases ho.2.2.2 with ⟨e, _⟩ | ⟨g, cur, e, _⟩
  · cases e
  · cases e
    exact ⟨_, c, rfl, by rwa [Nat.zero_add] at hc⟩

theorem tears_law (ps : List (List UInt8)) (a : Int) (A : Option Addr) (c : Nat) (w : World) (hr : Brs w A ps fun _ => False) (hc : ps.length ≤ c) :
    Cal Try.prog 5 #[.slice A ps.length c, i64 a] w fun v w' => v = .bool true ∧ Nw w w' := by
  refine enter Try.mixed Try.func5 rfl (by kernel_rfl) ?_
  simp -dsimp [go_sem]
  refine loop [4, 5, 6, 7, 8, 9, 15, 16, 17, 18, 19, 20, 21, 22, 23, 24, 25, 26, 27, 28, 29, 30, 31, 32, 33, 34, 35, 36, 37, 38, 39, 40, 41, 42, 43, 44, 45, 46, 47, 48] (by kernel_rfl)
    (fun f w' => Box3 (fun x y z w' => ∃ (i : Nat) (F G : Nat → Prop), i ≤ ps.length ∧ z = i64 i ∧ (recsB (ps.take i)).length ≤ 4000 ∧ (∀ p ∈ ps.take i, p.length ≤ 4000) ∧ Bf w' x (recsB (ps.take i)) F ∧ Gf w' 3 1 y i (endsR ps i) G ∧ (∀ j, F j → ¬ G j) ∧ Nf w F ∧ Nf w G ∧ Nw w w') (f 5) (f 6) (f 7) w')
    (fun f _ => ps.length - (intOf (f 7)).toNat) ⟨0, fun _ => False, fun _ => False, Nat.zero_le _, rfl, by simp [recsB], by simp, Bf.nil _, Gf.nil _ _ _, fun _ h => h.elim, fun _ h => h.elim, fun _ h => h.elim, Kp.refl _ _⟩ ?_
  rintro f w1 ⟨i, F, G, hi, f7, h4, hm4, hB, hE, dFG, nF, nG, hK⟩
  have hrl := recsB_len (ps.take i)
  rw [List.length_take, Nat.min_eq_left hi] at hrl
  simp -dsimp [go_sem, f7]
  refine cond_d (fun hlt => ?_) (fun hlt => ?_)
  · have hlt : i < ps.length := by omega
    obtain ⟨vs, hvl, hrd, hoA, hi'⟩ := hr.nw hK
    obtain ⟨X, x, hv, hrX, hoX, hx⟩ := hi' i hlt
    obtain ⟨b, o, rfl, hcell⟩ := hrd i _ hv
    have htk := recsB_take hlt
    have hen := endsR_succ ps i
    have hmt : ps.take (i + 1) = ps.take i ++ [ps[i]] := by rw [List.take_succ_eq_append_getElem hlt]
    have hpl := recL_len ps[i]
    simp -dsimp [go_sem, f7, hlt, hcell]
    refine cond_d (fun h1 => ?_) (fun h1 => ?_)
    · simp -dsimp [go_sem]
      exact hK
    · have h1 : ps[i].length ≤ 4000 := by omega
      have hm4' : ∀ p ∈ ps.take (i + 1), p.length ≤ 4000 := by
        intro p hp
        rw [hmt] at hp
        rcases List.mem_append.1 hp with hp | hp
        · exact hm4 p hp
        · obtain rfl : p = ps[i] := by simpa using hp
          exact h1
      clear hmt
      obtain ⟨p, hp⟩ : ∃ p, p = ps[i] := ⟨_, rfl⟩
      rw [← hp] at hcell hrX hx htk hpl h1 ⊢
      simp -dsimp [go_sem, f7, hlt, hcell]
      have ka : Nw w1 (w1.alloc (.cells #[.slice X p.length x] 22)) := (Kp.refl _ _).alloc _
      have hfl : ([p] : List (List UInt8)).flatten = p := by simp
      refine call (encode_spec [p] _ 1 _ (fun _ => False) (Brs.one (p := p) (d := x) (Blk.fresh rfl) (fun h => h) (hrX.nw ka) (fun _ _ h => h) hx) (by simp) (by simp) (by simp; omega)) ?_
      rw [hfl]
      rintro v w2 ⟨hk2, h | ⟨_, u, rfl, hB2⟩⟩
      · omega
      · obtain ⟨R, hR⟩ : ∃ R, R = recL p := ⟨_, rfl⟩
        rw [← hR] at hB2 htk hpl
        obtain ⟨A2, c2, rfl, ho2, hA2⟩ := hB2
        have k12 := ka.nw hk2
        simp -dsimp [go_sem]
        refine bf_app (hB.nw k12) ho2.rd (by omega) ?_
        intro v3 w3 F3 hB3 hG3 hK3
        rw [← htk] at hB3
        have k3 : Nw w w3 := (hK.nw k12).at_ hK3 nF
        have nF3 := nF.gr hG3 (hK.nw k12).size
        have hE3 := (hE.nw k12).kp hK3 fun j hg hf => dFG j hf hg
        have dF3 : ∀ j, F3 j → ¬ G j := hG3.dj dFG (hE.nw k12).lt
        obtain ⟨A3, c3, rfl, ho3, h31, h32⟩ := id hB3
        have hxl := congrArg List.length htk
        rw [List.length_append] at hxl
        obtain ⟨n, hn⟩ : ∃ n, n = (recsB (ps.take (i + 1))).length := ⟨_, rfl⟩
        rw [← hn] at hen hB3 hxl ⊢
        simp -dsimp [go_sem]
        refine cond_d (fun h5 => ?_) (fun h5 => ?_)
        · simp -dsimp [go_sem]
          exact k3
        · simp -dsimp [go_sem]
          have kb : Nw w3 (w3.alloc (.cells #[i64 n] 3)) := (Kp.refl _ _).alloc _
          refine gf_app Try.Sint (hE3.nw kb) (Rd.fresh (xs := [i64 n]) rfl rfl) (m := 1) (by simp) (by simp [Value.oneCell']) (by omega) (by omega) ?_
          intro v4 w4 G4 hE4 hG4 hK4
          have hB4 := (hB3.nw kb).kp hK4 dF3
          rw [← hen] at hE4
          have hk1 : IntKind.i64.wrap ((i : Int) + 1) = ((i + 1 : Nat) : Int) := w64 (by omega) (by omega)
          obtain ⟨k1, hk1'⟩ : ∃ k1, k1 = i + 1 := ⟨_, rfl⟩
          rw [← hk1'] at hk1 hE4 hB4 hn hm4'
          simp -dsimp [go_sem, f7, hk1]
          exact ⟨⟨k1, F3, G4, by omega, rfl, by omega, hm4', hB4, hE4, fun j hf hg => hG4.dj (fun j hg hf => dF3 j hf hg) (hB3.nw kb).lt j hg hf, nF3, nG.gr hG4 (k3.alloc (.cells #[i64 n] 3)).size, (k3.alloc (.cells #[i64 n] 3)).at_ hK4 nG⟩, by simp [intOf]; omega⟩
  · obtain rfl : i = ps.length := by omega
    rw [List.take_length] at hB h4 hm4
    obtain ⟨A5, c5, f5, ho5, h51, h52⟩ := id hB
    have hand := i64_and30 a
    obtain ⟨L, hL⟩ : ∃ L, L = (recsB ps).length := ⟨_, rfl⟩
    have hL1 : IntKind.i64.wrap ((L : Int) + 1) = ((L + 1 : Nat) : Int) := w64 (by omega) (by omega)
    have hrem : (a % 1073741824).tmod ((L + 1 : Nat) : Int) = (((a % 1073741824).toNat % (L + 1) : Nat) : Int) := by
      have e : a % 1073741824 = ((a % 1073741824).toNat : Int) := by omega
      rw [Int.tmod_eq_emod_of_nonneg (by omega)]
      generalize (a % 1073741824).toNat = n at e ⊢
      rw [e]
      rfl
    have hkl : (a % 1073741824).toNat % (L + 1) < L + 1 := Nat.mod_lt _ (by omega)
    obtain ⟨k, hk⟩ : ∃ k, k = (a % 1073741824).toNat % (L + 1) := ⟨_, rfl⟩
    rw [← hk] at hrem hkl
    obtain ⟨L1, hL1'⟩ : ∃ L1, L1 = L + 1 := ⟨_, rfl⟩
    rw [← hL1'] at hL1 hrem
    have hL1n : ¬ L1 = 0 := by omega
    rw [← hL] at f5
    simp -dsimp [go_sem, f5, hand, hL1, hrem, hL1n]
    refine loop [11, 55, 56, 57, 58, 59, 60, 61, 62, 63, 64, 65, 66, 67, 68] (by kernel_rfl)
      (fun s w' => Box1 (fun x w' => ∃ n : Nat, n ≤ ps.length ∧ x = i64 n ∧ (recsB (ps.take n)).length ≤ k ∧ w' = w1) (s 11) w') (fun s _ => ps.length - (intOf (s 11)).toNat) ⟨0, Nat.zero_le _, rfl, by simp [recsB], rfl⟩ ?_
    rintro s w2 ⟨n, hn, s11, hnk, rfl⟩
    have hE' := hE
    obtain ⟨A6, c6, f6, ho6, h61, h62⟩ := hE
    have hpsl := recsB_len ps
    have hkc : k ≤ c5 := by have := ho5.2.1; omega
    by_cases h1 : n < ps.length
    · have hat := endsR_at ps ps.length n h1
      obtain ⟨g, c6', e6, hc6⟩ := Gf.at_ hE' hat
      rw [f6] at e6
      cases e6
      obtain ⟨m, hm⟩ : ∃ m, m = (recsB (ps.take (n + 1))).length := ⟨_, rfl⟩
      rw [← hm] at hc6
      by_cases h2 : m ≤ k
      · have h2' : (m : Int) ≤ (k : Int) := by omega
        have hk1 : IntKind.i64.wrap ((n : Int) + 1) = ((n + 1 : Nat) : Int) := w64 (by omega) (by omega)
        obtain ⟨k1, hk1'⟩ : ∃ k1, k1 = n + 1 := ⟨_, rfl⟩
        rw [← hk1'] at hk1 hm
        simp -dsimp [go_sem, s11, f6, h1, hc6, h2, h2', hk1]
        exact ⟨⟨k1, by omega, rfl, by omega, rfl⟩, by simp [intOf]; omega⟩
      · have h2' : ¬ (m : Int) ≤ (k : Int) := by omega
        have hor : n = ps.length ∨ k < (recsB (ps.take (n + 1))).length := .inr (by omega)
        simp -dsimp [go_sem, s11, f5, f6, h1, hc6, h2, h2', hkc]
        have htl : ((recsB ps).take k).length = k := by rw [List.length_take]; omega
        have hsc := scan_spec ((recsB ps).take k) A5 c5 w2 (by rw [List.map_take]; exact ho5.rd.take k) (by omega) (by omega)
        have hcut := scan_cut ps (fun p hp => Nat.le_trans (hm4 p hp) (by omega)) n k (k + 1) hn hnk hor (by omega) (by omega)
        rw [htl, hcut] at hsc
        have htn : (ps.take n).length = n := by rw [List.length_take]; omega
        have hbr := Brs.take (hr.nw hK) n
        obtain ⟨qs, hqs⟩ : ∃ qs, qs = ps.take n := ⟨_, rfl⟩
        obtain ⟨m, hm⟩ : ∃ m, m = (recsB (ps.take n)).length := ⟨_, rfl⟩
        rw [← hqs] at hsc hbr htn
        have hm' : (recsB qs).length = m := by rw [hqs, ← hm]
        rw [hm'] at hsc
        have hql : ∀ p ∈ qs, p.length ≤ 140737488355328 := fun p hp => by
          have := hm4 p (List.mem_of_mem_take (by rw [← hqs]; exact hp))
          omega
        refine call hsc ?_
        rintro v w3 ⟨hk3, u, rfl, hRs⟩
        obtain ⟨A7, c7, rfl, hb7, hc7⟩ := hRs.brs
        rw [htn] at hc7 ⊢
        by_cases h0 : 0 < n
        · have h0' : (0 : Int) < (n : Int) := by omega
          obtain ⟨n1, hn1⟩ : ∃ n1, n = n1 + 1 := ⟨n - 1, by omega⟩
          have hsub : IntKind.i64.wrap ((n : Int) - 1) = (n1 : Int) := by rw [w64 (by omega) (by omega)]; omega
          have hat := endsR_at ps ps.length n1 (by omega)
          rw [← hn1, ← hm] at hat
          obtain ⟨g, c6', e6, hc6⟩ := Gf.at_ hE' hat
          rw [f6] at e6
          cases e6
          have hc6 := hk3.cell_some hc6 fun h => h
          have hnl : n1 < ps.length := by omega
          have hnc : n ≤ c := by omega
          simp -dsimp [go_sem, s11, f5, f6, h0, h0', hsub, hnl, hc6, hnc]
          have hrw := rows_spec qs A7 A c7 c w3 _ _ hb7 (hbr.nw hk3) (by omega) hql
          rw [htn] at hrw
          refine call hrw ?_
          rintro v w4 ⟨rfl, hk4⟩
          simp -dsimp [go_sem]
          refine call (fknown_spec w4) ?_
          rintro v w5 ⟨rfl, hk5⟩
          simp -dsimp [go_sem]
          exact ((hK.nw hk3).nw hk4).nw hk5
        · obtain rfl : n = 0 := by omega
          have hm0 : m = 0 := by rw [hm]; simp [recsB]
          have hrw := rows_spec qs A7 A c7 c w3 _ _ hb7 (hbr.nw hk3) (by omega) hql
          rw [htn] at hrw
          simp -dsimp [go_sem, s11, f5, f6, hm0]
          refine call hrw ?_
          rintro v w4 ⟨rfl, hk4⟩
          simp -dsimp [go_sem]
          refine call (fknown_spec w4) ?_
          rintro v w5 ⟨rfl, hk5⟩
          simp -dsimp [go_sem]
          exact ((hK.nw hk3).nw hk4).nw hk5
    · obtain rfl : n = ps.length := by omega
      obtain ⟨n, hn'⟩ : ∃ n, n = ps.length := ⟨_, rfl⟩
      have hn : n ≤ ps.length := by omega
      have hor : n = ps.length ∨ k < (recsB (ps.take (n + 1))).length := .inl hn'
      rw [← hn'] at hnk s11
      rw [← hn'] at f6 hE'
      simp -dsimp [go_sem, s11, f5, f6, hkc]
      rw [hn'] at f6 hE'
      have htl : ((recsB ps).take k).length = k := by rw [List.length_take]; omega
      have hsc := scan_spec ((recsB ps).take k) A5 c5 w2 (by rw [List.map_take]; exact ho5.rd.take k) (by omega) (by omega)
      have hcut := scan_cut ps (fun p hp => Nat.le_trans (hm4 p hp) (by omega)) n k (k + 1) hn hnk hor (by omega) (by omega)
      rw [htl, hcut] at hsc
      have htn : (ps.take n).length = n := by rw [List.length_take]; omega
      have hbr := Brs.take (hr.nw hK) n
      obtain ⟨qs, hqs⟩ : ∃ qs, qs = ps.take n := ⟨_, rfl⟩
      obtain ⟨m, hm⟩ : ∃ m, m = (recsB (ps.take n)).length := ⟨_, rfl⟩
      rw [← hqs] at hsc hbr htn
      have hm' : (recsB qs).length = m := by rw [hqs, ← hm]
      rw [hm'] at hsc
      have hql : ∀ p ∈ qs, p.length ≤ 140737488355328 := fun p hp => by
        have := hm4 p (List.mem_of_mem_take (by rw [← hqs]; exact hp))
        omega
      refine call hsc ?_
      rintro v w3 ⟨hk3, u, rfl, hRs⟩
      obtain ⟨A7, c7, rfl, hb7, hc7⟩ := hRs.brs
      rw [htn] at hc7 ⊢
      by_cases h0 : 0 < n
      · have h0' : (0 : Int) < (n : Int) := by omega
        obtain ⟨n1, hn1⟩ : ∃ n1, n = n1 + 1 := ⟨n - 1, by omega⟩
        have hsub : IntKind.i64.wrap ((n : Int) - 1) = (n1 : Int) := by rw [w64 (by omega) (by omega)]; omega
        have hat := endsR_at ps ps.length n1 (by omega)
        rw [← hn1, ← hm] at hat
        obtain ⟨g, c6', e6, hc6⟩ := Gf.at_ hE' hat
        rw [f6] at e6
        cases e6
        have hc6 := hk3.cell_some hc6 fun h => h
        have hnl : n1 < ps.length := by omega
        have hnc : n ≤ c := by omega
        simp -dsimp [go_sem, s11, f5, f6, h0, h0', hsub, hnl, hc6, hnc]
        have hrw := rows_spec qs A7 A c7 c w3 _ _ hb7 (hbr.nw hk3) (by omega) hql
        rw [htn] at hrw
        refine call hrw ?_
        rintro v w4 ⟨rfl, hk4⟩
        simp -dsimp [go_sem]
        refine call (fknown_spec w4) ?_
        rintro v w5 ⟨rfl, hk5⟩
        simp -dsimp [go_sem]
        exact ((hK.nw hk3).nw hk4).nw hk5
      · obtain rfl : n = 0 := by omega
        have hm0 : m = 0 := by rw [hm]; simp [recsB]
        have hrw := rows_spec qs A7 A c7 c w3 _ _ hb7 (hbr.nw hk3) (by omega) hql
        rw [htn] at hrw
        simp -dsimp [go_sem, s11, f5, f6, hm0]
        refine call hrw ?_
        rintro v w4 ⟨rfl, hk4⟩
        simp -dsimp [go_sem]
        refine call (fknown_spec w4) ?_
        rintro v w5 ⟨rfl, hk5⟩
        simp -dsimp [go_sem]
        exact ((hK.nw hk3).nw hk4).nw hk5

theorem frows_law (ps : List (List UInt8)) (junk : List UInt8) (A B : Option Addr) (c d : Nat) (w : World) (hr : Brs w A ps fun _ => False) (hc : ps.length ≤ c) (hj : Rd w B (junk.map u8)) (hd : junk.length ≤ d) :
    Cal Try.prog 6 #[.slice A ps.length c, .slice B junk.length d] w fun v w' => v = .bool true ∧ Nw w w' := by
  refine enter Try.mixed Try.func6 rfl (by kernel_rfl) ?_
  simp -dsimp [go_sem]
  refine loop [4, 5, 6, 7, 8, 13, 14, 15, 16, 17, 18, 19, 20, 21, 22, 23, 24, 25, 26, 27, 28, 29, 30, 31, 32, 33, 34, 35, 36, 37, 38, 39, 40, 41] (by kernel_rfl)
    (fun f w' => Box2 (fun x z w' => ∃ (i : Nat), i ≤ ps.length ∧ z = i64 i ∧ (recsB (ps.take i)).length ≤ 4000 ∧ (∀ p ∈ ps.take i, p.length ≤ 4000) ∧ Bs w' x (recsB (ps.take i)) w.heap.size ∧ Nw w w') (f 5) (f 6) w')
    (fun f _ => ps.length - (intOf (f 6)).toNat) ⟨0, Nat.zero_le _, rfl, by simp [recsB], by simp, Bs.nil _ _, Kp.refl _ _⟩ ?_
  rintro f w1 ⟨i, hi, f6, h4, hm4, hB, hK⟩
  have hrl := recsB_len (ps.take i)
  rw [List.length_take, Nat.min_eq_left hi] at hrl
  simp -dsimp [go_sem, f6]
  refine cond_d (fun hlt => ?_) (fun hlt => ?_)
  · have hlt : i < ps.length := by omega
    obtain ⟨vs, hvl, hrd, hoA, hi'⟩ := hr.nw hK
    obtain ⟨X, x, hv, hrX, hoX, hx⟩ := hi' i hlt
    obtain ⟨b, o, rfl, hcell⟩ := hrd i _ hv
    have htk := recsB_take hlt
    have hmt : ps.take (i + 1) = ps.take i ++ [ps[i]] := by rw [List.take_succ_eq_append_getElem hlt]
    have hpl := recL_len ps[i]
    simp -dsimp [go_sem, f6, hlt, hcell]
    refine cond_d (fun h1 => ?_) (fun h1 => ?_)
    · simp -dsimp [go_sem]
      exact hK
    · have h1 : ps[i].length ≤ 4000 := by omega
      have hm4' : ∀ p ∈ ps.take (i + 1), p.length ≤ 4000 := by
        intro p hp
        rw [hmt] at hp
        rcases List.mem_append.1 hp with hp | hp
        · exact hm4 p hp
        · obtain rfl : p = ps[i] := by simpa using hp
          exact h1
      clear hmt
      obtain ⟨p, hp⟩ : ∃ p, p = ps[i] := ⟨_, rfl⟩
      rw [← hp] at hcell hrX hx htk hpl h1 ⊢
      simp -dsimp [go_sem, f6, hlt, hcell]
      have ka : Nw w1 (w1.alloc (.cells #[.slice X p.length x] 22)) := (Kp.refl _ _).alloc _
      have hfl : ([p] : List (List UInt8)).flatten = p := by simp
      refine call (encode_spec [p] _ 1 _ (fun _ => False) (Brs.one (p := p) (d := x) (Blk.fresh rfl) (fun h => h) (hrX.nw ka) (fun _ _ h => h) hx) (by simp) (by simp) (by simp; omega)) ?_
      rw [hfl]
      rintro v w2 ⟨hk2, h | ⟨_, u, rfl, hB2⟩⟩
      · omega
      · obtain ⟨R, hR⟩ : ∃ R, R = recL p := ⟨_, rfl⟩
        rw [← hR] at hB2 htk hpl
        obtain ⟨A2, c2, rfl, ho2, hA2⟩ := hB2
        have k12 := ka.nw hk2
        have k2 := hK.nw k12
        simp -dsimp [go_sem]
        refine bs_app (hB.nw k12) ho2.rd (by omega) k2.size ?_
        intro v3 w3 hB3 hk3
        rw [← htk] at hB3
        have k3 : Nw w w3 := Nw.fr k2 hk3 (Nat.le_refl _)
        obtain ⟨A3, c3, rfl, ho3, h31⟩ := id hB3
        obtain ⟨n, hn⟩ : ∃ n, n = (recsB (ps.take (i + 1))).length := ⟨_, rfl⟩
        rw [← hn] at hB3 ⊢
        simp -dsimp [go_sem]
        refine cond_d (fun h5 => ?_) (fun h5 => ?_)
        · simp -dsimp [go_sem]
          exact k3
        · have hk1 : IntKind.i64.wrap ((i : Int) + 1) = ((i + 1 : Nat) : Int) := w64 (by omega) (by omega)
          obtain ⟨k1, hk1'⟩ : ∃ k1, k1 = i + 1 := ⟨_, rfl⟩
          rw [← hk1'] at hk1 hB3 hn hm4'
          simp -dsimp [go_sem, f6, hk1]
          exact ⟨⟨k1, by omega, rfl, by omega, hm4', hB3, k3⟩, by simp [intOf]; omega⟩
  · obtain rfl : i = ps.length := by omega
    rw [List.take_length] at hB h4 hm4 hrl
    obtain ⟨A5, c5, f5, ho5, h51⟩ := id hB
    have hml : ∀ p ∈ ps, p.length ≤ 1048576 := fun p hp => by have := hm4 p hp; omega
    have hml2 : ∀ p ∈ ps, p.length ≤ 140737488355328 := fun p hp => by have := hm4 p hp; omega
    have hs1 : scanL ((recsB ps).length + 1) (recsB ps) = (ps, (recsB ps).length) := by
      have h := scan_recs ((recsB ps).length + 1 - ps.length) [] ps hml
      rw [List.append_nil, scan_none (.inl rfl), show (recsB ps).length + 1 - ps.length + ps.length = (recsB ps).length + 1 by omega] at h
      simpa using h
    have hs2 := scan_recs ((recsB ps ++ junk).length + 1 - ps.length) junk ps hml
    rw [show (recsB ps ++ junk).length + 1 - ps.length + ps.length = (recsB ps ++ junk).length + 1 by rw [List.length_append]; omega] at hs2
    have hsl := scanL_len ((recsB ps ++ junk).length + 1) (recsB ps ++ junk)
    obtain ⟨Z, hZ⟩ : ∃ Z, Z = scanL ((recsB ps ++ junk).length + 1 - ps.length) junk := ⟨_, rfl⟩
    rw [← hZ] at hs2
    rw [hs2] at hsl
    obtain ⟨R, hR⟩ : ∃ R, R = recsB ps := ⟨_, rfl⟩
    rw [← hR] at f5 ho5 hs1 hs2 h4 hrl hB hsl
    simp -dsimp [go_sem, f5]
    refine cond_d (fun h5 => ?_) (fun h5 => ?_)
    · simp -dsimp [go_sem]
      exact hK
    · have h5 : junk.length ≤ 4000 := by omega
      simp -dsimp [go_sem, f5]
      have hsp := scan_spec R A5 c5 w1 ho5.rd ho5.2.1 (by omega)
      rw [hs1] at hsp
      refine call hsp ?_
      rintro v w2 ⟨hk2, u, rfl, hRs⟩
      obtain ⟨A7, c7, rfl, hb7, hc7⟩ := hRs.brs
      have k2 := hK.nw hk2
      simp -dsimp [go_sem, f5]
      refine call (rows_spec ps A7 A c7 c w2 _ _ hb7 (hr.nw k2) (by omega) hml2) ?_
      rintro v w3 ⟨rfl, hk3⟩
      have k3 := k2.nw hk3
      simp -dsimp [go_sem, f5]
      have ka : Nw w3 (w3.alloc (.cells #[] 5)) := (Kp.refl _ _).alloc _
      refine bs_app (m := R) (l := []) (B := w3.heap.size) (Gs.made w3 5 1 0 #[] rfl rfl rfl (by simp [maxLen]) (Nat.le_refl _)) ((((ho5.nw hk2).nw hk3).rd).nw ka) (by simp; omega) ka.size ?_
      intro v4 w4 hB4 hk4
      rw [List.nil_append] at hB4
      have k4 := Nw.fr ka hk4 (Nat.le_refl _)
      simp -dsimp [go_sem]
      refine bs_app (m := junk) (l := R) (B := w3.heap.size) hB4 (hj.nw (k3.nw k4)) (by omega) k4.size ?_
      intro v5 w5 hB5 hk5
      have k5 := k3.nw (Nw.fr k4 hk5 (Nat.le_refl _))
      have hbl : (R ++ junk).length ≤ 1000000000000 := by rw [List.length_append]; omega
      obtain ⟨b, hb⟩ : ∃ b, b = R ++ junk := ⟨_, rfl⟩
      rw [← hb] at hB5 hs2 hbl hsl
      obtain ⟨A8, c8, rfl, ho8, hA8⟩ := hB5
      simp -dsimp [go_sem]
      have hsp2 := scan_spec b A8 c8 w5 ho8.rd ho8.2.1 hbl
      rw [hs2] at hsp2
      refine call hsp2 ?_
      rintro v w6 ⟨hk6, u6, rfl, hRs6⟩
      obtain ⟨A9, c9, rfl, hb9, hc9⟩ := hRs6.brs
      have k6 := k5.nw hk6
      have hb9' := Brs.take hb9 ps.length
      rw [List.take_left] at hb9'
      simp only [List.length_append] at hc9
      simp only at hsl
      rw [List.length_append] at hsl
      obtain ⟨q, hq⟩ : ∃ q, q = ps.length + Z.1.length := ⟨_, rfl⟩
      obtain ⟨r, hr'⟩ : ∃ r, r = R.length + Z.2 := ⟨_, rfl⟩
      rw [show (ps ++ Z.1).length = q by rw [List.length_append, hq]]
      rw [show ((R.length + Z.2 : Nat) : Int) = (r : Int) by rw [hr']]
      have q1 : ps.length ≤ q := by omega
      have q1' : (ps.length : Int) ≤ (q : Int) := by omega
      have r1 : (R.length : Int) ≤ (r : Int) := by omega
      have r1' : R.length ≤ r := by omega
      have q2 : ps.length ≤ c9 := by omega
      simp -dsimp [go_sem, r1, r1', q1, q1', q2]
      refine call (rows_spec ps A9 A c9 c w6 _ _ hb9' (hr.nw k6) (by omega) hml2) ?_
      rintro v w7 ⟨rfl, hk7⟩
      simp -dsimp [go_sem]
      refine call (fknown_spec w7) ?_
      rintro v w8 ⟨rfl, hk8⟩
      simp -dsimp [go_sem]
      exact (k6.nw hk7).nw hk8
end Go.Proofs.Ytdhgfljpnjneeaa
