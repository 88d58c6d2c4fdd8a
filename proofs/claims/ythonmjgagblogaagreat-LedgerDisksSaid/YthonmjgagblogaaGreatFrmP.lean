/-
  Records: plain laws. By the session itself.
-/
import Derived.Test.YthonmjgagblogaaGreatFrmD
namespace Go.Proofs.YthonmjgagblogaaGreat
set_option linter.unusedSimpArgs false
set_option linter.unusedVariables false
set_option maxRecDepth 100000
open Go.Vc Go.RowKit

theorem four_from (l : List UInt8) (h : 4 ≤ l.length) : fourL (fromL l) = l.take 4 := by
  match l, h with
  | a :: b :: c :: d :: r, _ =>
    have ha := UInt8.toNat_lt a
    have hb := UInt8.toNat_lt b
    have hc := UInt8.toNat_lt c
    have hd := UInt8.toNat_lt d
    have e0 : (a.toNat + b.toNat * 256 + c.toNat * 65536 + d.toNat * 16777216) % 256 = a.toNat := by omega
    have e1 : (a.toNat + b.toNat * 256 + c.toNat * 65536 + d.toNat * 16777216) / 256 % 256 = b.toNat := by omega
    have e2 : (a.toNat + b.toNat * 256 + c.toNat * 65536 + d.toNat * 16777216) / 65536 % 256 = c.toNat := by omega
    have e3 : (a.toNat + b.toNat * 256 + c.toNat * 65536 + d.toNat * 16777216) / 16777216 % 256 = d.toNat := by omega
    simp only [fromL, fourL, e0, e1, e2, e3]
    simp
theorem from_four (n : Nat) (h : n < 4294967296) (r : List UInt8) : fromL (fourL n ++ r) = n := by
  simp only [fourL, List.cons_append, List.nil_append, fromL, UInt8.toNat_ofNat']
  omega
theorem fourL_inj {m n : Nat} (hm : m < 4294967296) (hn : n < 4294967296) (h : fourL m = fourL n) : m = n := by
  have h1 := from_four m hm []
  have h2 := from_four n hn []
  rw [List.append_nil] at h1 h2
  rw [← h1, h, h2]
theorem head_iff (b : List UInt8) (h : 8 ≤ b.length) : b.take 8 = headL (fromL b) ↔ fromL (b.drop 4) = sumL (b.take 4) := by
  have h4 := four_from b (by omega)
  have h5 := four_from (b.drop 4) (by rw [List.length_drop]; omega)
  have e : b.take 8 = b.take 4 ++ (b.drop 4).take 4 := by rw [← List.take_add]
  unfold headL
  rw [e, h4, ← h5]
  constructor
  · intro h
    exact fourL_inj (fromL_lt _) (sumL_lt _) (List.append_cancel_left h)
  · intro h
    rw [h]

/-- A record is read as it was, whatever stands behind. -/
theorem dec_rec (p more : List UInt8) (hp : p.length ≤ 1048576) : decL (recL p ++ more) = (p, p.length + 12, 0) := by
  have hl : (recL p).length = p.length + 12 := by
    simp only [recL, List.length_append, headL_len, fourL_len]; omega
  have hf : fromL (recL p ++ more) = p.length := by
    have : recL p ++ more = fourL p.length ++ (fourL (sumL (fourL p.length)) ++ p ++ fourL (sumL (headL p.length ++ p)) ++ more) := by
      simp [recL, headL]
    rw [this]
    exact from_four _ (by omega) _
  have ht8 : (recL p ++ more).take 8 = headL p.length := by
    rw [recL, List.append_assoc, List.append_assoc]
    exact List.take_left' (headL_len _)
  have htm : (recL p ++ more).take (8 + p.length) = headL p.length ++ p := by
    rw [recL, List.append_assoc]
    exact List.take_left' (by rw [List.length_append, headL_len])
  have hdm : (recL p ++ more).drop (8 + p.length) = fourL (sumL (headL p.length ++ p)) ++ more := by
    rw [recL, List.append_assoc]
    exact List.drop_left' (by rw [List.length_append, headL_len])
  unfold decL
  rw [hf, ht8, htm, hdm, from_four _ (sumL_lt _), if_neg (by rw [List.length_append]; omega), if_neg (fun h => h rfl), if_neg (by omega), if_neg (by rw [List.length_append]; omega), if_neg (fun h => h rfl), List.drop_left' (headL_len _), Nat.add_comm]

theorem dec_err (b : List UInt8) (h : (decL b).2.2 ≠ 0) : (decL b).1 = [] ∧ (decL b).2.1 = 0 := by
  revert h
  unfold decL
  split
  · simp
  · split
    · simp
    · split
      · simp
      · split
        · simp
        · split
          · simp
          · simp
theorem dec_ok (b : List UInt8) (h : (decL b).2.2 = 0) : b.take 8 = headL (fromL b) ∧ fromL (b.drop (8 + fromL b)) = sumL (b.take (8 + fromL b)) ∧ 12 + fromL b ≤ b.length := by
  revert h
  unfold decL
  split
  · simp
  · split
    · simp
    · split
      · simp
      · split
        · simp
        · split
          · simp
          · rename_i h1 h2 h3 h4 h5
            intro _
            exact ⟨by simpa using h2, by simpa using h5, by omega⟩
theorem set_ne {l : List UInt8} {j : Nat} (hj : j < l.length) {x : UInt8} (hx : x ≠ l[j]) : l.set j x ≠ l := by
  intro h
  have := congrArg (fun l => l[j]?) h
  simp [hj] at this
  exact hx this
theorem take_set_lt {l : List UInt8} {j n : Nat} (x : UInt8) (h : n ≤ j) : (l.set j x).take n = l.take n := by
  rw [List.take_set]
  exact List.set_eq_of_length_le (by rw [List.length_take]; omega)
theorem drop_set_lt {l : List UInt8} {j n : Nat} (x : UInt8) (h : j < n) : (l.set j x).drop n = l.drop n := by
  rw [List.drop_set, if_pos h]

theorem dec_flip (R p more : List UInt8) (hR : R = recL p) (hp : p.length ≤ 1048576) (j : Nat) (hj : j < R.length) (x : UInt8) (hx : x ≠ R[j]) : (decL (R.set j x ++ more)).2.2 ≠ 0 := by
  intro h0
  obtain ⟨h1, h2, h3⟩ := dec_ok _ h0
  have hRl : R.length = p.length + 12 := by
    rw [hR]
    simp only [recL, List.length_append, headL_len, fourL_len]; omega
  have hsl : (R.set j x).length = p.length + 12 := by rw [List.length_set, hRl]
  have t4 : R.take 4 = fourL p.length := by
    rw [hR, recL, headL, List.append_assoc, List.append_assoc, List.append_assoc]
    exact List.take_left' rfl
  have t8 : R.take 8 = headL p.length := by
    rw [hR, recL, List.append_assoc]
    exact List.take_left' (headL_len _)
  have tm : R.take (8 + p.length) = headL p.length ++ p := by
    rw [hR, recL]
    exact List.take_left' (by rw [List.length_append, headL_len])
  have dm : R.drop (8 + p.length) = fourL (sumL (headL p.length ++ p)) := by
    rw [hR, recL]
    exact List.drop_left' (by rw [List.length_append, headL_len])
  have hS := sumL_lt (headL p.length ++ p)
  obtain ⟨S, hSd⟩ : ∃ S, S = sumL (headL p.length ++ p) := ⟨_, rfl⟩
  rw [← hSd] at dm hS
  clear hR
  have hbt : ∀ k, k ≤ p.length + 12 → (R.set j x ++ more).take k = (R.set j x).take k := fun k hk => List.take_append_of_le_length (by omega)
  have hbd : (R.set j x ++ more).drop (8 + p.length) = (R.set j x).drop (8 + p.length) ++ more := List.drop_append_of_le_length (by omega)
  have hbl : (R.set j x ++ more).length = p.length + 12 + more.length := by rw [List.length_append, hsl]
  have hnl := fromL_lt (R.set j x ++ more)
  have hn4 := four_from (R.set j x ++ more) (by omega)
  obtain ⟨n, hn⟩ : ∃ n, n = fromL (R.set j x ++ more) := ⟨_, rfl⟩
  rw [← hn] at h1 h2 h3 hn4 hnl
  rw [hbt 4 (by omega)] at hn4
  rw [hbt 8 (by omega)] at h1
  have hgj : R[j]? = some R[j] := List.getElem?_eq_getElem hj
  by_cases j8 : j < 8
  · by_cases j4 : j < 4
    · have e1 : (R.set j x).take 4 = (fourL p.length).set j x := by rw [List.take_set, t4]
      have e2 : ((R.set j x).take 8).drop 4 = fourL (sumL (fourL p.length)) := by
        rw [List.take_set, t8, drop_set_lt x j4]
        exact List.drop_left' rfl
      rw [h1, headL, List.drop_left' (fourL_len _)] at e2
      have e3 := fourL_inj (sumL_lt _) (sumL_lt _) e2
      rw [hn4, e1] at e3
      refine sum_flip (fourL p.length) j j4 x (fun e => hx ?_) e3
      rw [e]
      have : (R.take 4)[j]? = (fourL p.length)[j]? := by rw [t4]
      rw [List.getElem?_take_of_lt j4, hgj, List.getElem?_eq_getElem (show j < (fourL p.length).length from j4)] at this
      exact (Option.some.inj this).symm
    · have e1 : (R.set j x).take 4 = R.take 4 := take_set_lt x (by omega)
      rw [e1, t4] at hn4
      have e2 := fourL_inj hnl (by omega) hn4
      rw [e2, ← t8] at h1
      have := congrArg (fun l => l[j]?) h1
      simp only [List.getElem?_take_of_lt j8, List.getElem?_set_self hj, hgj] at this
      exact hx (Option.some.inj this)
  · have e1 : (R.set j x).take 8 = R.take 8 := take_set_lt x (by omega)
    have e4 : (R.set j x).take 4 = R.take 4 := take_set_lt x (by omega)
    rw [e4, t4] at hn4
    have e2 := fourL_inj hnl (by omega) hn4
    rw [e2, hbt _ (by omega), hbd] at h2
    by_cases jm : j < 8 + p.length
    · rw [drop_set_lt x jm, dm, from_four _ hS, List.take_set, hSd] at h2
      have hjl : j < (R.take (8 + p.length)).length := by rw [List.length_take]; omega
      rw [← tm] at h2
      refine sum_flip (R.take (8 + p.length)) j hjl x (fun e => hx ?_) h2.symm
      rw [e, List.getElem_take]
    · rw [take_set_lt x (by omega), tm, ← hSd] at h2
      have hds : (R.set j x).drop (8 + p.length) = (fourL S).set (j - (8 + p.length)) x := by
        rw [List.drop_set, if_neg jm, dm]
      rw [hds] at h2
      have h4 := four_from ((fourL S).set (j - (8 + p.length)) x ++ more) (by rw [List.length_append, List.length_set, fourL_len]; omega)
      rw [h2, List.take_left' (by rw [List.length_set, fourL_len])] at h4
      have hi : j - (8 + p.length) < (fourL S).length := by rw [fourL_len]; omega
      refine set_ne hi (fun e => hx ?_) h4.symm
      rw [e]
      have : (R.drop (8 + p.length))[j - (8 + p.length)]? = (fourL S)[j - (8 + p.length)]? := by rw [dm]
      rw [List.getElem?_drop, show 8 + p.length + (j - (8 + p.length)) = j by omega, hgj, List.getElem?_eq_getElem hi] at this
      exact (Option.some.inj this).symm
theorem decL_len (b : List UInt8) : (decL b).1.length ≤ b.length := by
  unfold decL
  split
  · simp
  · split
    · simp
    · split
      · simp
      · split
        · simp
        · split
          · simp
          · simp; omega
theorem oneL_len (b : List UInt8) : (oneL b).1.length ≤ b.length := by
  unfold oneL
  split
  · simp
  · exact decL_len b
theorem recL_len (p : List UInt8) : (recL p).length = p.length + 12 := by
  simp only [recL, List.length_append, headL_len, fourL_len]; omega
theorem decL_all (b : List UInt8) (h : (decL b).2.2 ≠ 0) : ∃ e, e ≠ 0 ∧ decL b = ([], 0, e) := by
  obtain ⟨h1, h2⟩ := dec_err b h
  exact ⟨(decL b).2.2, h, by rw [← h1, ← h2]⟩

theorem one_rec (p : List UInt8) (hp : p.length ≤ 1048576) : oneL (recL p) = (p, 0) := by
  have h := dec_rec p [] hp
  rw [List.append_nil] at h
  unfold oneL
  rw [h, recL_len, if_neg (fun h => h.2 rfl)]
theorem one_rec1 (p : List UInt8) (hp : p.length ≤ 1048576) (x : UInt8) : oneL (recL p ++ [x]) = ([], 3) := by
  have h := dec_rec p [x] hp
  unfold oneL
  rw [h, List.length_append, recL_len, if_pos ⟨rfl, by simp⟩]

end Go.Proofs.YthonmjgagblogaaGreat
