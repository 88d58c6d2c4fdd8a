/-
  The reference's Scan walked. By the session itself.
-/
import Derived.Test.YthonmjgagblogaaGreatFrmE
namespace Go.Proofs.YthonmjgagblogaaGreat
set_option linter.unusedSimpArgs false
set_option linter.unusedVariables false
set_option maxRecDepth 100000
open Go.Vc Go.RowKit

theorem refScan_spec (b : List UInt8) (A : Option Addr) (c : Nat) (w : World) (hr : Rd w A (b.map u8)) (hc : b.length ≤ c) (hl : b.length ≤ 1000000000000) :
    Cal Tryz.prog 70 #[.slice A b.length c] w fun v w' => Nw w w' ∧ ∃ u, v = .tuple #[u, i64 (scanL (b.length + 1) b).2] ∧ Rs w' u (scanL (b.length + 1) b).1 w.heap.size := by
  refine enter Tryz.mixed Tryz.func70 rfl (by kernel_rfl) ?_
  simp -dsimp [go_sem]
  obtain ⟨L, hL⟩ : ∃ L, L = b.length := ⟨_, rfl⟩
  rw [← hL] at hc hl ⊢
  refine loop [4, 5, 6, 7, 8, 9, 10, 11, 12, 13, 14, 15, 16, 17, 18, 19, 20, 21, 22, 23, 24, 25, 26, 27, 28, 29] (by kernel_rfl)
    (fun f w' => Box2 (fun x y w' => ∃ (m k : Nat) (ps : List (List UInt8)) (vs : List Value) (F : Nat → Prop), y = i64 m ∧ m ≤ L ∧ L - m < k ∧ 12 * ps.length ≤ m ∧ (scanL (L + 1) b).1 = ps ++ (scanL k (b.drop m)).1 ∧ (scanL (L + 1) b).2 = m + (scanL k (b.drop m)).2 ∧ Gf w' 22 1 x ps.length vs F ∧ RV w' vs ps (fun k => F k ∨ k < w.heap.size) ∧ Nf w F ∧ Nw w w') (f 4) (f 5) w')
    (fun f _ => L - (intOf (f 5)).toNat) ⟨0, L + 1, [], [], fun _ => False, rfl, Nat.zero_le _, by omega, by simp, by simp, by simp, Gf.nil _ _ _, RV.nil _ _, fun _ h => h.elim, Kp.refl _ _⟩ ?_
  rintro f w' ⟨m, k, ps, vs, F, f5, hm, hk, hps, hs1, hs2, hG, hV, nF, hK⟩
  have hdl : (b.drop m).length = L - m := by rw [List.length_drop, hL]
  obtain ⟨k, rfl⟩ : ∃ k', k = k' + 1 := ⟨k - 1, by omega⟩
  simp -dsimp [go_sem, f5]
  refine cond_d (fun hlt => ?_) (fun hlt => ?_)
  · have hlt : m < L := by omega
    have hmc : m ≤ c := by omega
    have hmL : m ≤ L := by omega
    have hmL' : (m : Int) ≤ (L : Int) := by omega
    have hne : ¬ (b.drop m).length = 0 := by omega
    have hd := refDecode_spec (b.drop m) (cutA A c m) (c - m) w' (by rw [List.map_drop]; exact (hr.nw hK).cut (by simp; omega) m) (by omega) (by omega)
    rw [hdl] at hd
    simp -dsimp [go_sem, f5, hmc, hmL, hmL']
    refine call hd ?_
    rintro v w1 ⟨hk1, u, rfl, hB⟩
    have hle := decL_le (b.drop m)
    obtain ⟨p, hp⟩ : ∃ p, p = (decL (b.drop m)).1 := ⟨_, rfl⟩
    obtain ⟨n, hn⟩ : ∃ n, n = (decL (b.drop m)).2.1 := ⟨_, rfl⟩
    obtain ⟨e, he⟩ : ∃ e, e = (decL (b.drop m)).2.2 := ⟨_, rfl⟩
    rw [← hp] at hB
    rw [← hn, ← he] at hle ⊢
    rw [hdl] at hle
    have es : scanL (k + 1) (b.drop m) = if e = 0 then (p :: (scanL k ((b.drop m).drop n)).1, n + (scanL k ((b.drop m).drop n)).2) else ([], 0) := by
      simp only [scanL]
      rw [if_neg hne, ← hp, ← hn, ← he]
    have k1 : Nw w w1 := hK.nw hk1
    by_cases h0 : e = 0
    · subst h0
      have hle2 := hle.2 rfl
      have hnd := List.drop_drop (i := n) (j := m) (l := b)
      rw [if_pos rfl, hnd] at es
      rw [es] at hs1 hs2
      obtain ⟨A1, c1, rfl, ho1, hA1⟩ := hB
      simp -dsimp [go_sem]
      have hG1 := hG.nw hk1
      have hV1 := hV.nw hk1
      have ka : Nw w1 (w1.alloc (.cells #[.slice A1 p.length c1] 22)) := (Kp.refl _ _).alloc _
      refine gf_app Tryz.Srows (hG1.nw ka) (Rd.fresh (xs := [.slice A1 p.length c1]) rfl rfl) (m := 1) (by simp) (by simp [Value.oneCell']) (by omega) (by omega) ?_
      intro v2 w2 F2 hG2 hGr hK2
      have hoff : Off A1 (fun k => F k ∨ k < w.heap.size) := fun a ha hf => by
        have := hA1 a ha
        have := hK.size
        rcases hf with hf | hf
        · have := hG.lt _ hf
          omega
        · omega
      have hV2 : RV w2 (vs ++ [.slice A1 p.length c1]) (ps ++ [p]) (fun k => F2 k ∨ k < w.heap.size) := ((hV1.nw ka).append (RV.one (ho1.rd.nw ka) (hoff.l _) ho1.2.1)).gr (hK2.mono fun _ _ h => .inl h) fun i hi => hi.elim (fun e => (hGr i e).imp .inl id) fun e => .inl (.inr e)
      have w3' : IntKind.i64.wrap ((m : Int) + (n : Int)) = ((m + n : Nat) : Int) := w64 (by omega) (by omega)
      obtain ⟨m2, hm2⟩ : ∃ m2, m2 = m + n := ⟨_, rfl⟩
      rw [← hm2] at w3' hs1 hs2
      simp -dsimp [go_sem, f5, w3']
      refine ⟨⟨m2, k, ps ++ [p], _, F2, rfl, by omega, by omega, by simp; omega, ?_, by omega, by simpa using hG2, hV2, nF.gr hGr (k1.alloc (.cells #[.slice A1 p.length c1] 22)).size, (k1.alloc _).at_ hK2 nF⟩, by simp [intOf]; omega⟩
      rw [hs1]
      simp
    · have h0' : ((e : Int) != 0) = true := by simp; omega
      rw [if_neg h0] at es
      rw [es] at hs1 hs2
      simp -dsimp [go_sem, h0']
      rw [hs1, hs2]
      exact ⟨k1, f 4, ⟨rfl, f5⟩, vs, F, by simpa using hG.nw hk1, by simpa using hV.nw hk1, nF⟩
  · obtain rfl : m = L := by omega
    have e0 : (scanL (k + 1) (b.drop m)) = ([], 0) := by
      simp only [scanL]
      rw [if_pos (by omega)]
    rw [e0] at hs1 hs2
    simp -dsimp [go_sem]
    rw [hs1, hs2]
    exact ⟨hK, f 4, ⟨rfl, f5⟩, vs, F, by simpa using hG, by simpa using hV, nF⟩
end Go.Proofs.YthonmjgagblogaaGreat
