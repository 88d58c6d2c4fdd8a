/-
  Bytes read as a box, by ours and by the reference: the same. By the session itself.
-/
import Derived.Test.YtindfpaahlijeaaDoorBkF
namespace Go.Proofs.YtindfpaahlijeaaDoor
set_option linter.unusedSimpArgs false
set_option linter.unusedVariables false
set_option maxRecDepth 100000
set_option maxHeartbeats 1000000
open Go.Vc Go.RowKit

theorem takeN_inv : ∀ (l : List UInt8) (i u n : Nat) (r : List UInt8), takeN i u l = some (n, r) → ∃ m, n = u + m * 2 ^ (7 * i) ∧ l = numB m ++ r ∧ (0 < i → 0 < m)
  | [], _, _, _, _, h => by simp [takeN] at h
  | c :: l, i, u, n, r, h => by
    simp only [takeN] at h
    have hc := UInt8.toNat_lt c
    split at h
    · cases h
    · rename_i h1
      split at h
      · rename_i h2
        split at h
        · cases h
        · injection h with h
          injection h with h3 h4
          subst h4
          refine ⟨c.toNat, ?_, ?_, fun hi => ?_⟩
          · rw [← h3, Nat.mod_eq_of_lt h2]
          · rw [numB_small h2]; simp
          · by_cases e : c.toNat = 0
            · exact absurd (.inr ⟨hi, e⟩) h1
            · omega
      · rename_i h2
        obtain ⟨m, hm, hl, hp⟩ := takeN_inv l _ _ _ _ h
        have hp := hp (by omega)
        refine ⟨c.toNat % 128 + 128 * m, ?_, ?_, fun _ => by omega⟩
        · rw [hm, show 7 * (i + 1) = 7 * i + 7 by omega, Nat.pow_add, show (2 : Nat) ^ 7 = 128 from rfl, Nat.add_mul, Nat.mul_comm 128 m, Nat.mul_assoc m 128, Nat.mul_comm 128 (2 ^ (7 * i)), Nat.add_assoc]
        · rw [numB_big (by omega), show (c.toNat % 128 + 128 * m) / 128 = m by omega, show (c.toNat % 128 + 128 * m) % 128 + 128 = c.toNat by omega, hl]
          simp
theorem numL_inv {l : List UInt8} (h : (numL l false).2.2 = false) : l = numB (numL l false).1 ++ (numL l false).2.1 ∧ (numL l false).1 ≤ 4611686018427387904 := by
  unfold numL at h ⊢
  cases hx : takeN 0 0 l with
  | none => rw [hx] at h; cases h
  | some q =>
    obtain ⟨u, r⟩ := q
    obtain ⟨m, hm, hl, _⟩ := takeN_inv _ _ _ _ _ hx
    have : u = m := by simpa using hm
    subst this
    exact ⟨hl, (takeN_len _ _ _ _ _ hx).2⟩
theorem bytL_inv {l : List UInt8} (h : (bytL l false).2.2 = false) : l = rowB (bytL l false).1 ++ (bytL l false).2.1 := by
  have hu := (bytL_used h).2
  unfold bytL rawL at h ⊢
  split at h
  · rename_i hc
    have hn := numL_inv h
    rw [if_pos hc]
    simp only
    have hlen : ((numL l false).2.1.take ((numL l false).1 : Int).toNat).length = (numL l false).1 := by
      rw [List.length_take]; omega
    unfold rowB
    rw [hlen, List.append_assoc, List.take_append_drop]
    exact hn.1
  · cases h
theorem clamp_nat {n : Nat} (h : n ≤ 4611686018427387904) : clampN (n : Int) = n := by unfold clampN; omega
theorem msgL_inv {l : List UInt8} (h : (msgL l false).2.2 = false) : l = encM (msgL l false).1 ++ (msgL l false).2.1 := by
  have h0 := (bytL_used h).2
  have h1 := (numL_used h0).2
  have h2 := (numL_used h1).2
  have e1 := numL_inv h2
  have e2 : (numL l false).2.1 = numB (nm2 l false).1 ++ (nm2 l false).2.1 ∧ (nm2 l false).1 ≤ 4611686018427387904 := by
    have h1' : (numL (numL l false).2.1 (numL l false).2.2).2.2 = false := h1
    rw [h2] at h1'
    have := numL_inv h1'
    unfold nm2
    rwa [h2]
  have e3 : (nm2 l false).2.1 = numB (nm3 l false).1 ++ (nm3 l false).2.1 ∧ (nm3 l false).1 ≤ 4611686018427387904 := by
    have h0' : (numL (nm2 l false).2.1 (nm2 l false).2.2).2.2 = false := h0
    rw [show (nm2 l false).2.2 = false from h1] at h0'
    have := numL_inv h0'
    unfold nm3
    rwa [show (nm2 l false).2.2 = false from h1]
  have e4 : (nm3 l false).2.1 = rowB (bytL (nm3 l false).2.1 false).1 ++ (bytL (nm3 l false).2.1 false).2.1 := by
    have h' : (bytL (nm3 l false).2.1 (nm3 l false).2.2).2.2 = false := h
    rw [show (nm3 l false).2.2 = false from h0] at h'
    exact bytL_inv h'
  have hb : (nm3 l false).2.2 = false := h0
  unfold msgL encM numsB
  rw [hb]
  simp only [List.flatMap_cons, List.flatMap_nil, List.append_nil, clamp_nat e1.2, clamp_nat e2.2, clamp_nat e3.2, List.append_assoc]
  rw [← e4, ← e3.1, ← e2.1, ← e1.1]
theorem bxL_bad : ∀ (n : Nat) (l : List UInt8) (acc : List Msg), bxL n l true acc = (acc, l, true)
  | 0, l, acc => rfl
  | n + 1, l, acc => by simp [bxL]
theorem bxL_inv : ∀ (n : Nat) (l : List UInt8) (acc L : List Msg) (r : List UInt8), bxL n l false acc = (L, r, false) → ∃ L', L = acc ++ L' ∧ L'.length = n ∧ l = L'.flatMap encM ++ r
  | 0, l, acc, L, r, h => by
    simp only [bxL, Prod.mk.injEq] at h
    exact ⟨[], by simp [h.1], rfl, by simp [h.2.1]⟩
  | n + 1, l, acc, L, r, h => by
    have hm := @msgL_inv l
    simp only [bxL] at h
    rw [if_neg (by decide)] at h
    obtain ⟨M, hM⟩ : ∃ M, M = msgL l false := ⟨_, rfl⟩
    rw [← hM] at h hm
    obtain ⟨m, l1, b1⟩ := M
    simp only at h hm
    cases b1 with
    | true => rw [bxL_bad] at h; simp at h
    | false =>
      obtain ⟨L', h1, h2, h3⟩ := bxL_inv n l1 _ _ _ h
      refine ⟨m :: L', by rw [h1]; simp, by simp [h2], ?_⟩
      rw [hm rfl, h3, List.flatMap_cons, List.append_assoc]
/-- Bytes that are read as a box are that box as bytes. -/
theorem read_inv {p : List UInt8} (h : bxOk p = true) : p = encX (bxRead p).1 ∧ (nm3 (bytL p false).2.1 (bytL p false).2.2).1 = (bxRead p).1.L.length ∧ isB (bxRead p).1 = true ∧ bxRead p = ((bxRead p).1, [], false) := by
  unfold bxOk at h
  simp only [Bool.and_eq_true, Bool.not_eq_true', List.isEmpty_iff] at h
  obtain ⟨⟨hb, hl⟩, hi⟩ := h
  refine ⟨?_, ?_, hi, by rw [← hb, ← hl]⟩
  all_goals
    have hB := hb
    unfold bxRead at hb hl ⊢
    simp only at hb hl ⊢
    have b3 : (nm3 (bytL p false).2.1 (bytL p false).2.2).2.2 = false := by
      cases e : (nm3 (bytL p false).2.1 (bytL p false).2.2).2.2 with
      | false => rfl
      | true => rw [e, bxL_bad] at hb; cases hb
    have b2 := (numL_used b3).2
    have b1 := (numL_used b2).2
    have b0 := (numL_used b1).2
    rw [b3] at hb hl ⊢
    have e0 := bytL_inv b0
    rw [b0] at b1 b2 b3 hb hl ⊢
    have e1 := numL_inv b1
    have e2 : (numL (bytL p false).2.1 false).2.1 = numB (nm2 (bytL p false).2.1 false).1 ++ (nm2 (bytL p false).2.1 false).2.1 ∧ (nm2 (bytL p false).2.1 false).1 ≤ 4611686018427387904 := by
      have : (numL (numL (bytL p false).2.1 false).2.1 false).2.2 = false := by
        have b2' : (numL (numL (bytL p false).2.1 false).2.1 (numL (bytL p false).2.1 false).2.2).2.2 = false := b2
        rwa [b1] at b2'
      have := numL_inv this
      unfold nm2
      rwa [b1]
    have e3 : (nm2 (bytL p false).2.1 false).2.1 = numB (nm3 (bytL p false).2.1 false).1 ++ (nm3 (bytL p false).2.1 false).2.1 ∧ (nm3 (bytL p false).2.1 false).1 ≤ 4611686018427387904 := by
      have b2' : (nm2 (bytL p false).2.1 false).2.2 = false := b2
      have : (numL (nm2 (bytL p false).2.1 false).2.1 false).2.2 = false := by
        have b3' : (numL (nm2 (bytL p false).2.1 false).2.1 (nm2 (bytL p false).2.1 false).2.2).2.2 = false := b3
        rwa [b2'] at b3'
      have := numL_inv this
      unfold nm3
      rwa [b2']
    obtain ⟨R, hR⟩ : ∃ R, R = bxL (nm3 (bytL p false).2.1 false).1 (nm3 (bytL p false).2.1 false).2.1 false [] := ⟨_, rfl⟩
    rw [← hR] at hb hl ⊢
    obtain ⟨L, r, bd⟩ := R
    simp only at hb hl ⊢
    subst hb; subst hl
    obtain ⟨L', h1, h2, h3⟩ := bxL_inv _ _ _ _ _ hR.symm
    rw [List.nil_append] at h1
    subst h1
    rw [List.append_nil] at h3
    first
      | exact h2.symm
      | (unfold encX numsB
         simp only [List.flatMap_cons, List.flatMap_nil, List.append_nil, List.append_assoc, clamp_nat e1.2, clamp_nat e2.2, h2, clamp_nat e3.2]
         rw [← h3, ← e3.1, ← e2.1, ← e1.1]
         exact e0)
/-- What the reference reads: no more than 25 messages. -/
def rxRead (p : List UInt8) : Bx × List UInt8 × Bool :=
  (⟨⟨(bytL p false).1.toArray⟩, (numL (bytL p false).2.1 (bytL p false).2.2).1, (nm2 (bytL p false).2.1 (bytL p false).2.2).1, (bxL (min (nm3 (bytL p false).2.1 (bytL p false).2.2).1 25) (nm3 (bytL p false).2.1 (bytL p false).2.2).2.1 (nm3 (bytL p false).2.1 (bytL p false).2.2).2.2 []).1⟩,
    (bxL (min (nm3 (bytL p false).2.1 (bytL p false).2.2).1 25) (nm3 (bytL p false).2.1 (bytL p false).2.2).2.1 (nm3 (bytL p false).2.1 (bytL p false).2.2).2.2 []).2.1, (bxL (min (nm3 (bytL p false).2.1 (bytL p false).2.2).1 25) (nm3 (bytL p false).2.1 (bytL p false).2.2).2.1 (nm3 (bytL p false).2.1 (bytL p false).2.2).2.2 []).2.2)
def rxOk (p : List UInt8) : Bool := (!(rxRead p).2.2 && (rxRead p).2.1.isEmpty) && isB (rxRead p).1 && decide (encX (rxRead p).1 = p)
theorem rx_read {p : List UInt8} (h : bxOk p = true) : rxRead p = bxRead p := by
  obtain ⟨h1, h2, h3, h4⟩ := read_inv h
  have h5 := (IsB.of h3).len
  have : min (nm3 (bytL p false).2.1 (bytL p false).2.2).1 25 = (nm3 (bytL p false).2.1 (bytL p false).2.2).1 := by omega
  unfold rxRead bxRead
  rw [this]
theorem rx_ok (p : List UInt8) : rxOk p = bxOk p := by
  cases h : bxOk p with
  | true =>
    obtain ⟨h1, h2, h3, h4⟩ := read_inv h
    unfold rxOk
    rw [rx_read h]
    have h5 : (bxRead p).2.2 = false := by rw [h4]
    have h6 : (bxRead p).2.1 = [] := by rw [h4]
    rw [h5, h6, h3, decide_eq_true h1.symm]
    rfl
  | false =>
    cases hr : rxOk p with
    | false => rfl
    | true =>
      unfold rxOk at hr
      simp only [Bool.and_eq_true, decide_eq_true_eq] at hr
      have := ok_enc hr.1.2
      rw [hr.2, h] at this
      cases this
theorem rx_dec {v : Value} {w : World} {p : List UInt8} {B : Nat} (h : (rxOk p = true ∧ ∃ u, v = .tuple #[u, i64 0] ∧ OB w u (rxRead p).1 B) ∨ (rxOk p = false ∧ v = .tuple #[.agg #[.string ⟨#[]⟩, i64 0, i64 0, .slice none 0 0], i64 3])) : DecR v w p B := by
  rw [rx_ok] at h
  rcases h with ⟨h1, h2⟩ | h
  · rw [rx_read h1] at h2
    exact .inl ⟨h1, h2⟩
  · exact .inr h
end Go.Proofs.YtindfpaahlijeaaDoor
