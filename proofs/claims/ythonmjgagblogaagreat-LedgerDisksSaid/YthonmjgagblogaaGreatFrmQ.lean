/-
  Records one behind the other, whole and torn: plain laws. By the session itself.
-/
import Derived.Test.YthonmjgagblogaaGreatFrmP
namespace Go.Proofs.YthonmjgagblogaaGreat
set_option linter.unusedSimpArgs false
set_option linter.unusedVariables false
set_option maxRecDepth 100000
open Go.Vc Go.RowKit

def recsB (l : List (List UInt8)) : List UInt8 := l.flatMap recL
theorem recsB_take {ps : List (List UInt8)} {k : Nat} (h : k < ps.length) : recsB (ps.take (k + 1)) = recsB (ps.take k) ++ recL ps[k] := by
  unfold recsB
  rw [List.take_succ_eq_append_getElem h, List.flatMap_append]
  simp
theorem recsB_drop {ps : List (List UInt8)} {k : Nat} (h : k < ps.length) : recsB (ps.drop k) = recL ps[k] ++ recsB (ps.drop (k + 1)) := by
  unfold recsB
  rw [List.drop_eq_getElem_cons h, List.flatMap_cons]
theorem recsB_len (l : List (List UInt8)) : 12 * l.length ≤ (recsB l).length := by
  induction l with
  | nil => simp [recsB]
  | cons p l ih =>
    have := recL_len p
    unfold recsB at ih ⊢
    rw [List.flatMap_cons, List.length_append, List.length_cons]
    omega
theorem recsB_split (ps : List (List UInt8)) (k : Nat) : recsB ps = recsB (ps.take k) ++ recsB (ps.drop k) := by
  unfold recsB
  rw [← List.flatMap_append, List.take_append_drop]
theorem scan_recs (k : Nat) (rest : List UInt8) : ∀ (l : List (List UInt8)), (∀ p ∈ l, p.length ≤ 1048576) → scanL (k + l.length) (recsB l ++ rest) = (l ++ (scanL k rest).1, (recsB l).length + (scanL k rest).2)
  | [], _ => by simp [recsB]
  | p :: l, h => by
    have e : recsB (p :: l) ++ rest = recL p ++ (recsB l ++ rest) := by simp [recsB]
    have hl := recL_len p
    have hd := dec_rec p (recsB l ++ rest) (h p (by simp))
    have ih := scan_recs k rest l fun q hq => h q (by simp [hq])
    have hn : (recsB (p :: l)).length = p.length + 12 + (recsB l).length := by
      unfold recsB
      rw [List.flatMap_cons, List.length_append, hl]
    rw [e, List.length_cons, ← Nat.add_assoc]
    simp only [scanL]
    rw [if_neg (by rw [List.length_append]; omega), hd]
    simp only [if_true]
    rw [List.drop_left' hl, ih, hn]
    simp only [List.cons_append, Nat.add_assoc]
theorem scan_none {k : Nat} {b : List UInt8} (h : b = [] ∨ (decL b).2.2 ≠ 0) : scanL k b = ([], 0) := by
  cases k with
  | zero => rfl
  | succ k =>
    simp only [scanL]
    rcases h with rfl | h
    · rfl
    · split
      · rfl
      · rfl
theorem dec_short (p : List UInt8) (hp : p.length ≤ 1048576) (m : Nat) (hm : m < (recL p).length) : (decL ((recL p).take m)).2.2 ≠ 0 := by
  intro h
  obtain ⟨h1, h2, h3⟩ := dec_ok _ h
  have hl := recL_len p
  rw [List.length_take] at h3
  have h8 : 8 ≤ m := by omega
  have t4 : ((recL p).take m).take 4 = fourL p.length := by
    rw [List.take_take, Nat.min_eq_left (by omega), recL, headL, List.append_assoc, List.append_assoc, List.append_assoc]
    exact List.take_left' rfl
  have h4 := four_from ((recL p).take m) (by rw [List.length_take]; omega)
  rw [t4] at h4
  have := fourL_inj (fromL_lt _) (by omega) h4
  omega
/-- Records of which the last is cut. -/
theorem scan_cut (ps : List (List UInt8)) (hp : ∀ p ∈ ps, p.length ≤ 1048576) (n k K : Nat) (hn : n ≤ ps.length) (h1 : (recsB (ps.take n)).length ≤ k) (h2 : n = ps.length ∨ k < (recsB (ps.take (n + 1))).length) (hk : k ≤ (recsB ps).length) (hK : k < K) :
    scanL K ((recsB ps).take k) = (ps.take n, (recsB (ps.take n)).length) := by
  have hlen := recsB_len (ps.take n)
  have hln : (ps.take n).length = n := by rw [List.length_take]; omega
  rw [hln] at hlen
  obtain ⟨K', rfl⟩ : ∃ K', K = K' + (ps.take n).length := ⟨K - n, by omega⟩
  have e : (recsB ps).take k = recsB (ps.take n) ++ (recsB (ps.drop n)).take (k - (recsB (ps.take n)).length) := by
    rw [recsB_split ps n, List.take_append, List.take_of_length_le h1]
  have hnone : scanL K' ((recsB (ps.drop n)).take (k - (recsB (ps.take n)).length)) = ([], 0) := by
    refine scan_none ?_
    by_cases hnl : n < ps.length
    · have hk2 : k < (recsB (ps.take (n + 1))).length := by omega
      rw [recsB_take hnl, List.length_append] at hk2
      refine .inr ?_
      rw [recsB_drop hnl, List.take_append_of_le_length (by omega)]
      exact dec_short _ (hp _ (List.getElem_mem hnl)) _ (by omega)
    · refine .inl ?_
      rw [List.drop_eq_nil_of_le (by omega)]
      simp [recsB]
  rw [e, scan_recs K' _ (ps.take n) (fun p hp' => hp p (List.mem_of_mem_take hp')), hnone]
  simp
end Go.Proofs.YthonmjgagblogaaGreat
