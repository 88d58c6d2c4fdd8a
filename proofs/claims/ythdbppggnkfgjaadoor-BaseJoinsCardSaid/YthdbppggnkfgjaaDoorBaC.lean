/-
  base.Encode walked: bytes by threes as letters. By the session itself.
-/
import Derived.Test.YthdbppggnkfgjaaDoorBaB
import Derived.Laws.BitsAllLaws
namespace Go.Proofs.YthdbppggnkfgjaaDoor
set_option linter.unusedSimpArgs false
set_option linter.unusedVariables false
set_option maxRecDepth 100000
set_option maxHeartbeats 1000000
open Go.Vc Go.RowKit

def nk (l : List UInt8) : Nat → Nat
  | 0 => 0
  | k + 1 => nk l k * 256 + getB l k
theorem nk_lt (l : List UInt8) (k : Nat) : nk l k < 256 ^ k := by
  induction k with
  | zero => simp [nk]
  | succ k ih =>
    have := getB_lt l k
    rw [nk, Nat.pow_succ]
    omega
theorem nk_three (l : List UInt8) : nk l 3 = num3 l := by
  simp only [nk, num3]; omega
theorem encode_spec (l : List UInt8) (A : Option Addr) (c : Nat) (w : World) (hr : Rd w A (l.map u8)) (hl : l.length ≤ 1073741824) :
    Cal Tryd.prog 11 #[.slice A l.length c] w fun v w' => v = stL (encB l) ∧ Nw w w' := by
  refine enter Tryd.mixed Tryd.func11 rfl (by kernel_rfl) ?_
  simp -dsimp [go_sem]
  refine scope2 Tryd.mixed 0 rfl rfl [2, 3, 4, 5, 6, 7, 8, 9, 10, 11, 12, 13, 14, 15, 16, 17, 18, 19, 20, 21, 22, 23, 24, 25, 26, 27, 28, 29, 30, 31, 32, 33, 34, 35, 36, 37, 38, 39, 40, 41, 42, 43, 44, 45, 46, 47, 48, 49, 50, 51, 52, 53, 54, 55, 56, 57, 58] (by kernel_rfl)
    (fun f w' => Box2 (fun a b w' => ∃ (i : Nat) (X : List UInt8), a = i64 i ∧ i ≤ l.length + 2 ∧ Bs w' b X w.heap.size ∧ X ++ encB (l.drop i) = encB l ∧ Nw w w') (f 4) (f 3) w') (fun f _ => l.length + 3 - (intOf (f 4)).toNat) ?_ ?_
  · simp -dsimp [go_sem]
    exact ⟨0, [], rfl, by omega, Bs.nil _ _, by simp, Kp.refl _ _⟩
  · rintro f w1 ⟨i, X, f4, hi, hB, hX, hk⟩
    have hXl : X.length ≤ 2000000000 := by
      have := congrArg List.length hX
      rw [List.length_append, encB_len l] at this
      omega
    by_cases hge : l.length ≤ i
    · have hge' : (l.length : Int) ≤ (i : Int) := by omega
      rw [List.drop_eq_nil_of_le hge, encB, List.append_nil] at hX
      obtain ⟨A3, c3, f3, ho3, hA3⟩ := hB
      have hcv : convR Tryd.prog 22 9 (.slice A3 X.length c3) w1 = .ok (.string ⟨X.toArray⟩) w1 := conv_str (e := 5) (by kernel_rfl) (by kernel_rfl) (by kernel_rfl) ho3.rd
      simp -dsimp [go_sem, f4, f3, hge, hge', hcv]
      exact ⟨by rw [hX], hk⟩
    · have hge' : ¬ (l.length : Int) ≤ (i : Int) := by omega
      simp -dsimp [go_sem, f4, hge, hge']
      refine loop [5, 6, 15, 16, 17, 18, 19, 20, 21, 22, 23, 24, 25, 26, 27, 28, 29, 30, 31, 32, 33, 34, 35] (by kernel_rfl)
        (fun f w' => Box2 (fun a b w' => ∃ k : Nat, a = i64 k ∧ k ≤ 3 ∧ b = .int .u64 (nk (l.drop i) k) ∧ w' = w1) (f 15) (f 5) w') (fun f _ => 3 - (intOf (f 15)).toNat) ⟨0, rfl, by omega, rfl, rfl⟩ ?_
      rintro g w2 ⟨k, g15, hk3, g5, rfl⟩
      by_cases hlt : k < 3
      · have hlt' : (k : Int) < 3 := by omega
        have hn := nk_lt (l.drop i) k
        have hn3 : (256 : Nat) ^ k ≤ 65536 := by
          have : k = 0 ∨ k = 1 ∨ k = 2 := by omega
          rcases this with rfl | rfl | rfl <;> decide
        have hstep : nk (l.drop i) (k + 1) = nk (l.drop i) k * 256 + getB (l.drop i) k := rfl
        have hgb : getB (l.drop i) k = if h : i + k < l.length then l[i + k].toNat else 0 := by
          unfold getB
          by_cases h : i + k < l.length
          · simp [h]
          · rw [dif_neg h, List.getD_eq_getElem?_getD, List.getElem?_eq_none (by simp; omega)]; rfl
        have hik : IntKind.i64.wrap ((i : Int) + (k : Int)) = ((i + k : Nat) : Int) := by rw [w64 (by omega) (by omega)]; omega
        have hk1 : IntKind.i64.wrap ((k : Int) + 1) = ((k + 1 : Nat) : Int) := by rw [w64 (by omega) (by omega)]; omega
        obtain ⟨k1, hk1'⟩ : ∃ k1, k1 = k + 1 := ⟨_, rfl⟩
        obtain ⟨ik, hik'⟩ : ∃ ik, ik = i + k := ⟨_, rfl⟩
        rw [← hk1'] at hk1 hstep
        rw [← hik'] at hik
        simp only [← hik'] at hgb
        generalize nk (l.drop i) k = n at *
        have hsh : IntKind.u64.wrap ((n : Int) * 256) = ((n * 256 : Nat) : Int) := by rw [IntKind.wrap_u64]; omega
        by_cases hin : ik < l.length
        · rw [dif_pos hin] at hgb
          obtain ⟨b, o, rfl, hcell⟩ := (hr.nw hk) ik (u8 l[ik]) (by simp [hin])
          have hb := UInt8.toNat_lt l[ik]
          replace hcell : w2.cell? ⟨b, o + ik, none⟩ = some (.int .u8 (l[ik].toNat : Int)) := hcell
          generalize l[ik].toNat = x at *
          have hcx : IntKind.u64.wrap (x : Int) = (x : Int) := by rw [IntKind.wrap_u64]; omega
          have hor : bits .or .u64 ((n * 256 : Nat) : Int) (x : Int) = ((nk (l.drop i) k1 : Nat) : Int) := by
            rw [u64_or_nat _ _ (by omega) (by omega), nat_join 8 _ _ (by omega) (by omega), hstep, hgb]
          obtain ⟨n8, hn8⟩ : ∃ n8, n8 = n * 256 := ⟨_, rfl⟩
          rw [← hn8] at hsh hor
          simp -dsimp [go_sem, f4, g15, g5, hlt, hlt', hik, hin, hcell, hsh, hcx, hor, hk1]
          exact ⟨⟨k1, rfl, by omega, rfl, rfl⟩, by simp [intOf]; omega⟩
        · rw [dif_neg hin] at hgb
          obtain ⟨n8, hn8⟩ : ∃ n8, n8 = n * 256 := ⟨_, rfl⟩
          rw [← hn8] at hsh
          simp -dsimp [go_sem, f4, g15, g5, hlt, hlt', hik, hin, hsh, hk1]
          exact ⟨⟨k1, rfl, by omega, by rw [hstep, hgb, hn8, Nat.add_zero], rfl⟩, by simp [intOf]; omega⟩
      · obtain rfl : k = 3 := by omega
        have hne : l.drop i ≠ [] := by simp; omega
        have hnum := nk_three (l.drop i)
        have hN := nk_lt (l.drop i) 3
        simp -dsimp [go_sem, g15, g5]
        rw [hnum] at g5 hN
        have g4l : (g4 (l.drop i)).length = 4 := rfl
        have g4k : ∀ k, k < 4 → (g4 (l.drop i))[k]? = some (lett (l.drop i) k) := fun k hk => by
          have : k = 0 ∨ k = 1 ∨ k = 2 ∨ k = 3 := by omega
          rcases this with rfl | rfl | rfl | rfl <;> rfl
        refine loop [3, 7, 8, 36, 37, 38, 39, 40, 41, 42, 43, 44, 45, 46, 47, 48, 49, 50, 51, 52, 53, 54, 55, 56] (by kernel_rfl)
          (fun f w' => Box2 (fun a b w' => ∃ k : Nat, a = i64 k ∧ k ≤ 4 ∧ Bs w' b (X ++ (g4 (l.drop i)).take k) w.heap.size ∧ Nw w w') (f 36) (f 3) w') (fun f _ => 4 - (intOf (f 36)).toNat) ⟨0, rfl, by omega, by simpa [upd, mix] using hB, hk⟩ ?_
        rintro h w3 ⟨k, h36, hk4, hB3, hk3'⟩
        by_cases hlt4 : k < 4
        · have hlt4' : (k : Int) < 4 := by omega
          have hk1 : IntKind.i64.wrap ((k : Int) + 1) = ((k + 1 : Nat) : Int) := by rw [w64 (by omega) (by omega)]; omega
          have hik : IntKind.i64.wrap ((i : Int) + (k : Int)) = ((i + k : Nat) : Int) := by rw [w64 (by omega) (by omega)]; omega
          have htk : (g4 (l.drop i)).take (k + 1) = (g4 (l.drop i)).take k ++ [lett (l.drop i) k] := by rw [List.take_add_one, g4k k hlt4]; rfl
          have hle : (k ≤ (l.drop i).length) = (i + k ≤ l.length) := by rw [List.length_drop]; apply propext; omega
          have hlet : lett (l.drop i) k = if i + k ≤ l.length then let6 (num3 (l.drop i) / 2 ^ (6 * (3 - k)) % 64) else 61 := by unfold lett; simp only [hle]
          have hXt : (X ++ (g4 (l.drop i)).take k).length ≤ 2000000004 := by rw [List.length_append, List.length_take, g4l]; omega
          obtain ⟨k1, hk1'⟩ : ∃ k1, k1 = k + 1 := ⟨_, rfl⟩
          obtain ⟨ik, hik'⟩ : ∃ ik, ik = i + k := ⟨_, rfl⟩
          rw [← hk1'] at hk1 htk
          rw [← hik'] at hik hlet
          generalize num3 (l.drop i) = N at *
          by_cases hin : ik ≤ l.length
          · rw [if_pos hin] at hlet
            have hq : IntKind.i64.wrap (3 - (k : Int)) = ((3 - k : Nat) : Int) := by rw [w64 (by omega) (by omega)]; omega
            have hr6 : IntKind.i64.wrap (6 * ((3 - k : Nat) : Int)) = ((6 * (3 - k) : Nat) : Int) := by rw [w64 (by omega) (by omega)]; omega
            obtain ⟨r, hr'⟩ : ∃ r, r = 6 * (3 - k) := ⟨_, rfl⟩
            rw [← hr'] at hr6 hlet
            obtain ⟨q, hq'⟩ : ∃ q, q = 3 - k := ⟨_, rfl⟩
            rw [← hq'] at hr6 hq
            have hsh : (N : Int) / 2 ^ r = ((N / 2 ^ r : Nat) : Int) := by simp
            have hr64 : r ≤ 64 := by omega
            have hN2 : N / 2 ^ r ≤ N := Nat.div_le_self _ _
            have hand : bits .and .u64 ((N / 2 ^ r : Nat) : Int) 63 = ((N / 2 ^ r % 64 : Nat) : Int) := by
              rw [show (63 : Int) = ((63 : Nat) : Int) from rfl, u64_and_nat _ 63 (by omega) (by omega), nat_mask6]
            obtain ⟨m, hm⟩ : ∃ m, m = N / 2 ^ r := ⟨_, rfl⟩
            rw [← hm] at hsh hand hlet
            obtain ⟨x, hx⟩ : ∃ x, x = m % 64 := ⟨_, rfl⟩
            rw [← hx] at hand hlet
            have hx64 : x < 64 := by omega
            have hix : (Instr.index 9 (.string abcS) (.int .u64 (x : Int))).run Tryd.prog w3 = .ok (.int .u8 ((let6 x).toNat : Int)) w3 := by
              rw [run_index_string w3 9 abcS .u64 x (by kernel_rfl), dif_pos ⟨by omega, by show (x : Int) < 64; omega⟩]
              have : ∀ h, abcS[((x : Int)).toNat]'h = let6 x := fun h => by
                have h2 := Lib.getElem_mk abc _ h
                unfold let6
                rw [List.getD_eq_getElem?_getD]
                conv => rhs; rw [← Int.toNat_natCast x]
                rw [h2]
                rfl
              rw [this]
            simp -dsimp [go_sem, h36, f4, g5, hlt4, hlt4', hik, hin, hq, hr6, hsh, hand, hix]
            refine bs_push (B := w.heap.size) hB3 rfl (UInt8.toNat_lt _) (by omega) hk3'.size ?_
            intro v4 w4 hB4 hk4'
            rw [UInt8.ofNat_toNat, List.append_assoc, ← hlet, ← htk] at hB4
            simp -dsimp [go_sem, h36, hk1]
            exact ⟨⟨k1, rfl, by omega, hB4, hk3'.fr hk4' (Nat.le_refl _)⟩, by simp [intOf]; omega⟩
          · rw [if_neg hin] at hlet
            simp -dsimp [go_sem, h36, f4, g5, hlt4, hlt4', hik, hin]
            refine bs_push (B := w.heap.size) (x := 61) hB3 rfl (by omega) (by omega) hk3'.size ?_
            intro v4 w4 hB4 hk4'
            rw [List.append_assoc, show UInt8.ofNat 61 = 61 from rfl, ← hlet, ← htk] at hB4
            simp -dsimp [go_sem, h36, hk1]
            exact ⟨⟨k1, rfl, by omega, hB4, hk3'.fr hk4' (Nat.le_refl _)⟩, by simp [intOf]; omega⟩
        · obtain rfl : k = 4 := by omega
          have hi3 : IntKind.i64.wrap ((i : Int) + 3) = ((i + 3 : Nat) : Int) := by rw [w64 (by omega) (by omega)]; omega
          obtain ⟨i3, hi3'⟩ : ∃ i3, i3 = i + 3 := ⟨_, rfl⟩
          rw [← hi3'] at hi3
          simp -dsimp [go_sem, h36, f4, hi3]
          refine ⟨⟨i3, X ++ g4 (l.drop i), rfl, by omega, ?_, ?_, hk3'⟩, by simp [intOf]; omega⟩
          · rw [List.take_of_length_le (by rw [g4l]; omega)] at hB3; exact hB3
          · rw [← hX, encB_step hne, List.drop_drop, hi3', List.append_assoc]
end Go.Proofs.YthdbppggnkfgjaaDoor
