/-
  bytes.Equal, frame.Decode walked. By the session itself.
-/
import Derived.Test.YthonmjgagblogaaGreatFrmAm
import Derived.MapKept
namespace Go.Proofs.YthonmjgagblogaaGreat
set_option linter.unusedSimpArgs false
set_option linter.unusedVariables false
set_option maxRecDepth 100000
open Go.Vc Go.RowKit

theorem bytes_eq (p q : List UInt8) : ((⟨p.toArray⟩ : ByteArray) == ⟨q.toArray⟩) = decide (p = q) := by
  rw [Bool.eq_iff_iff, MapKept.bytes_beq, decide_eq_true_iff]
  constructor
  · intro h
    injection h with h
    exact List.toArray_inj h
  · rintro rfl; rfl
theorem equal_spec (p q : List UInt8) (A B : Option Addr) (c d : Nat) (w : World) (hA : Rd w A (p.map u8)) (hB : Rd w B (q.map u8)) :
    Cal Tryz.prog 97 #[.slice A p.length c, .slice B q.length d] w fun v w' => v = .bool (decide (p = q)) ∧ w' = w := by
  have h1 := fun (c : Nat) => conv_str (P := Tryz.prog) (t := 22) (s := 9) (e := 5) (c := c) (by kernel_rfl) (by kernel_rfl) (by kernel_rfl) hA
  have h2 := fun (c : Nat) => conv_str (P := Tryz.prog) (t := 22) (s := 9) (e := 5) (c := c) (by kernel_rfl) (by kernel_rfl) (by kernel_rfl) hB
  have h3 := bytes_eq p q
  refine enter Tryz.mixed Tryz.func97 rfl (by kernel_rfl) ?_
  simp -dsimp [go_sem, h1, h2]
  exact (by rw [Bool.eq_iff_iff]; simp : (p == q) = decide (p = q))

/-- What bytes begin with: what the record holds, how many bytes it has, the error. -/
def decL (b : List UInt8) : List UInt8 × Nat × Nat :=
  if b.length < 8 then ([], 0, 2) else if b.take 8 ≠ headL (fromL b) then ([], 0, 4) else if 1048576 < fromL b then ([], 0, 5) else if b.length < 12 + fromL b then ([], 0, 2)
  else if fromL (b.drop (8 + fromL b)) ≠ sumL (b.take (8 + fromL b)) then ([], 0, 4) else ((b.take (8 + fromL b)).drop 8, 12 + fromL b, 0)
theorem fromL_lt (l : List UInt8) : fromL l < 4294967296 := by
  unfold fromL
  split
  · rename_i a b c d _
    have ha := UInt8.toNat_lt a
    have hb := UInt8.toNat_lt b
    have hc := UInt8.toNat_lt c
    have hd := UInt8.toNat_lt d
    omega
  · omega
theorem decode_spec (b : List UInt8) (A : Option Addr) (c : Nat) (w : World) (hr : Rd w A (b.map u8)) (hc : b.length ≤ c) (hl : b.length ≤ 140737488355328) :
    Cal Tryz.prog 86 #[.slice A b.length c] w fun v w' => Nw w w' ∧ ∃ u, v = .tuple #[u, i64 (decL b).2.1, i64 (decL b).2.2] ∧ Bs w' u (decL b).1 w.heap.size := by
  refine enter Tryz.mixed Tryz.func86 rfl (by kernel_rfl) ?_
  have hlen : b.length = b.length := rfl
  obtain ⟨L, hL⟩ : ∃ L, L = b.length := ⟨_, rfl⟩
  rw [← hL] at hc hl ⊢
  simp -dsimp [go_sem]
  refine cond_d (fun h8 => ?_) (fun h8 => ?_)
  · have e : decL b = ([], 0, 2) := by unfold decL; rw [if_pos (by omega)]
    simp -dsimp [go_sem]
    rw [e]
    exact ⟨Kp.refl _ _, _, ⟨rfl, rfl, rfl⟩, Bs.nil _ _⟩
  · have hff := from_spec b (by omega) A c w hr
    rw [← hL] at hff
    simp -dsimp [go_sem]
    refine call hff ?_
    rintro v w1 ⟨rfl, hk1⟩
    have hnl := fromL_lt b
    obtain ⟨n, hn⟩ : ∃ n, n = fromL b := ⟨_, rfl⟩
    rw [← hn] at hnl ⊢
    have h8c : 8 ≤ c := by omega
    have h8c' : (8 : Int) ≤ (c : Int) := by omega
    simp -dsimp [go_sem]
    refine draw (.take 0 (.take 1 (.take 2 (.alt 3 (.alt 4 (.take 5 (.take 6 .done)) .stop) .stop)))) (by kernel_rfl) (fun _ => True) trivial ?_
    simp -dsimp [go_sem, h8c, h8c']
    refine call (headOf_spec n hnl w1.drew) ?_
    rintro v w2 ⟨⟨A2, c2, rfl, ho2, hA2⟩, hk2⟩
    have k2 : Nw w w2 := (hk1.drew).nw hk2
    have ht8 : (b.take 8).length = 8 := by rw [List.length_take]; omega
    have heq := equal_spec (b.take 8) (headL n) A A2 c c2 w2 (by rw [List.map_take]; exact (hr.nw k2).take 8) ho2.rd
    rw [ht8] at heq
    simp -dsimp [go_sem]
    refine call heq ?_
    rintro v w3 ⟨rfl, rfl⟩
    simp -dsimp [go_sem]
    have u8' : ¬ b.length < 8 := by omega
    refine cond_nd (fun hh => ?_) (fun hh => ?_)
    · have e : decL b = ([], 0, 4) := by unfold decL; rw [if_neg u8', if_pos (by rw [← hn]; exact hh)]
      simp -dsimp [go_sem]
      rw [e]
      exact ⟨k2, _, ⟨rfl, rfl, rfl⟩, Bs.nil _ _⟩
    · have hh' : ¬ b.take 8 ≠ headL (fromL b) := by rw [← hn]; exact fun h => h hh
      simp -dsimp [go_sem]
      refine cond_d (fun hbig => ?_) (fun hbig => ?_)
      · have e : decL b = ([], 0, 5) := by unfold decL; rw [if_neg u8', if_neg hh', if_pos (by omega)]
        simp -dsimp [go_sem]
        rw [e]
        exact ⟨k2, _, ⟨rfl, rfl, rfl⟩, Bs.nil _ _⟩
      · have hbig' : ¬ 1048576 < fromL b := by omega
        have w1' : IntKind.i64.wrap ((L : Int) - 8) = (L : Int) - 8 := w64 (by omega) (by omega)
        have w2' : IntKind.i64.wrap ((L : Int) - 8 - 4) = (L : Int) - 12 := by rw [w64 (by omega) (by omega)]; omega
        have w3' : IntKind.i64.wrap (n : Int) = n := w64 (by omega) (by omega)
        simp -dsimp [go_sem, w1', w2', w3']
        refine cond_d (fun hs => ?_) (fun hs => ?_)
        · have e : decL b = ([], 0, 2) := by unfold decL; rw [if_neg u8', if_neg hh', if_neg hbig', if_pos (by omega)]
          simp -dsimp [go_sem]
          rw [e]
          exact ⟨k2, _, ⟨rfl, rfl, rfl⟩, Bs.nil _ _⟩
        · have hs' : ¬ b.length < 12 + fromL b := by omega
          have w4' : IntKind.i64.wrap (8 + (n : Int)) = ((8 + n : Nat) : Int) := w64 (by omega) (by omega)
          obtain ⟨m, hm⟩ : ∃ m, m = 8 + n := ⟨_, rfl⟩
          rw [← hm] at w4'
          have hmc : m ≤ c := by omega
          have hmL : m ≤ L := by omega
          have hmL' : (m : Int) ≤ (L : Int) := by omega
          simp -dsimp [go_sem, w3', w4', hmc, hmL, hmL']
          have hr3 := hr.nw k2
          have hdl : (b.drop m).length = L - m := by rw [List.length_drop, hL]
          have hrd : Rd w3 (cutA A c m) ((b.drop m).map u8) := by
            rw [List.map_drop]; exact hr3.cut (by simp; omega) m
          have hf2 := from_spec (b.drop m) (by omega) (cutA A c m) (c - m) w3 hrd
          rw [hdl] at hf2
          refine call hf2 ?_
          rintro v w4 ⟨rfl, hk4⟩
          have htl : (b.take m).length = m := by rw [List.length_take]; omega
          have hrt : Rd w4 A ((b.take m).map u8) := by
            rw [List.map_take]; exact (hr3.nw hk4).take m
          have hs2 := sum1_spec (b.take m) A c w4 hrt (by omega) (by omega)
          rw [htl] at hs2
          obtain ⟨y, hy⟩ : ∃ y, y = fromL (b.drop m) := ⟨_, rfl⟩
          rw [← hy]
          simp -dsimp [go_sem]
          refine call hs2 ?_
          rintro v w5 ⟨rfl, hk5⟩
          obtain ⟨z, hz⟩ : ∃ z, z = sumL (b.take m) := ⟨_, rfl⟩
          rw [← hz]
          have k5 : Nw w w5 := (k2.nw hk4).nw hk5
          simp -dsimp [go_sem]
          refine cond_n (fun hne => ?_) (fun he => ?_)
          · have e : decL b = ([], 0, 4) := by
              unfold decL
              rw [if_neg u8', if_neg hh', if_neg hbig', if_neg hs', if_pos (by rw [← hn, ← hm, ← hy, ← hz]; omega)]
            simp -dsimp [go_sem]
            rw [e]
            exact ⟨k5, _, ⟨rfl, rfl, rfl⟩, Bs.nil _ _⟩
          · have e : decL b = ((b.take m).drop 8, 12 + n, 0) := by
              unfold decL
              rw [if_neg u8', if_neg hh', if_neg hbig', if_neg hs', if_neg (by rw [← hn, ← hm, ← hy, ← hz]; omega), ← hn, ← hm]
            have hm8 : 8 ≤ m := by omega
            have hm8' : (8 : Int) ≤ (m : Int) := by omega
            simp -dsimp [go_sem, hm8, hm8', h8c, h8c']
            have hcl : ((b.take m).drop 8).length = m - 8 := by rw [List.length_drop, htl]
            have hcs := clone_spec (cutA A c 8) (c - 8) ((b.take m).drop 8) w5 (by
              rw [List.map_drop]; exact (hrt.nw hk5).cut (by simp; omega) 8) (by omega)
            rw [hcl] at hcs
            refine call hcs ?_
            rintro v w6 ⟨hB, hk6⟩
            have w5' : IntKind.i64.wrap ((m : Int) + 4) = ((12 + n : Nat) : Int) := by rw [w64 (by omega) (by omega)]; omega
            simp -dsimp [go_sem, w5']
            rw [e]
            exact ⟨k5.nw hk6, _, ⟨rfl, rfl, rfl⟩, hB.mono k5.size⟩
end Go.Proofs.YthonmjgagblogaaGreat
