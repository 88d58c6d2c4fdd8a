/-
  The reference's Decode walked. By the session itself.
-/
import Derived.Test.YthdbppggnkfgjaaDoorBaF
import Derived.Test.YthdbppggnkfgjaaDoorBaD
namespace Go.Proofs.YthdbppggnkfgjaaDoor
set_option linter.unusedSimpArgs false
set_option linter.unusedVariables false
set_option maxRecDepth 100000
set_option maxHeartbeats 2000000
open Go.Vc Go.RowKit

def nf (l : List UInt8) : Nat → Nat
  | 0 => 0
  | k + 1 => nf l k * 64 + num0 (l.getD k 0)
theorem num0_lt (c : UInt8) : num0 c < 64 := by
  have := idx_lt c
  have := idx_ge c
  unfold num0; omega
theorem nf_lt (l : List UInt8) (k : Nat) : nf l k < 64 ^ k := by
  induction k with
  | zero => simp [nf]
  | succ k ih =>
    have := num0_lt (l.getD k 0)
    rw [nf, Nat.pow_succ]
    omega
theorem refG_step {l : List UInt8} (h : 4 ≤ l.length) : refG l = by4 (nf l 4) ++ refG (l.drop 4) := by
  match l, h with
  | a :: b :: c :: d :: r, _ =>
    show by4 (four a b c d) ++ refG r = _
    congr 2
    simp [four, nf]
theorem refG_short {l : List UInt8} (h : l.length < 4) : refG l = [] := by
  match l, h with
  | [], _ => rfl
  | [a], _ => rfl
  | [a, b], _ => rfl
  | [a, b, c], _ => rfl
  | _ :: _ :: _ :: _ :: _, h => simp at h; omega
theorem refG_len (l : List UInt8) : (refG l).length ≤ l.length := by
  match l with
  | [] => simp [refG]
  | [a] => simp [refG]
  | [a, b] => simp [refG]
  | [a, b, c] => simp [refG]
  | a :: b :: c :: d :: r =>
    have := refG_len r
    simp [refG, by4]
    omega
theorem strips_def (s : List UInt8) : strips s = if s[s.length - 1]? = some 61 then (if 2 ≤ s.length ∧ s[s.length - 2]? = some 61 then 2 else 1) else 0 := by
  unfold strips
  rw [List.getLast?_eq_getElem?]
  have : (s.dropLast.getLast? = some 61) = (2 ≤ s.length ∧ s[s.length - 2]? = some 61) := by
    rw [List.getLast?_eq_getElem?, List.length_dropLast, List.getElem?_dropLast]
    apply propext
    split
    · rw [show s.length - 1 - 1 = s.length - 2 by omega]
      exact ⟨fun h => ⟨by omega, h⟩, fun h => h.2⟩
    · constructor
      · intro h; cases h
      · intro h; omega
  simp only [this]
theorem strips_le (s : List UInt8) : strips s ≤ s.length ∧ strips s ≤ 2 := by
  rw [strips_def]
  split
  · rename_i h
    have := (List.getElem?_eq_some_iff.1 h).1
    split
    · omega
    · omega
  · omega
theorem strips_more {s : List UInt8} {j : Nat} (hj : j < 2) (hl : j < s.length) (h : j ≤ strips s) : (s[s.length - 1 - j] = 61 → j + 1 ≤ strips s) ∧ (s[s.length - 1 - j] ≠ 61 → strips s = j) := by
  rw [strips_def] at *
  have hj' : j = 0 ∨ j = 1 := by omega
  rcases hj' with rfl | rfl
  · simp only [Nat.sub_zero]
    constructor
    · intro e
      rw [if_pos (by rw [List.getElem?_eq_getElem (by omega), e])]
      split <;> omega
    · intro e
      rw [if_neg (by rw [List.getElem?_eq_getElem (by omega)]; simpa using e)]
  · have h1 : s[s.length - 1]? = some 61 := by
      by_cases h1 : s[s.length - 1]? = some 61
      · exact h1
      · rw [if_neg h1] at h; omega
    rw [if_pos h1]
    simp only [show s.length - 1 - 1 = s.length - 2 by omega]
    constructor
    · intro e
      rw [if_pos ⟨by omega, by rw [List.getElem?_eq_getElem (by omega), e]⟩]; omega
    · intro e
      rw [if_neg]
      rintro ⟨_, e2⟩
      rw [List.getElem?_eq_getElem (by omega)] at e2
      exact e (Option.some.inj e2)
theorem str_at (s : List UInt8) (i : Nat) (hi : i < s.length) : ∀ h, (⟨s.toArray⟩ : ByteArray)[i]'h = s[i] := fun h => by
  have h2 := Lib.getElem_mk s i h
  rw [List.getElem?_eq_getElem hi] at h2
  exact (Option.some.inj h2).symm

theorem refO_len (s : List UInt8) : (refO s).length ≤ s.length := by
  have := refG_len s
  unfold refO
  rw [List.length_take]; omega
theorem rDecode_spec (s : List UInt8) (w : World) (hl : s.length ≤ 536870912) :
    Cal Tryd.prog 10 #[stL s] w fun v w' => DecR v w' s w.heap.size ∧ Nw w w' := by
  refine enter Tryd.mixed Tryd.func10 rfl (by kernel_rfl) ?_
  simp -dsimp [go_sem]
  refine loop [4, 5, 6, 7, 9, 10, 11, 12, 13, 14, 15, 16, 17, 18, 19, 20, 21, 22, 23, 24, 25, 26, 27, 28, 29, 30, 31, 32, 33, 34, 35, 36, 37, 38, 39, 40] (by kernel_rfl)
    (fun f w' => Box2 (fun a b w' => ∃ (i : Nat) (X : List UInt8), a = i64 i ∧ i ≤ s.length + 3 ∧ Bs w' b X w.heap.size ∧ X ++ refG (s.drop i) = refG s ∧ Nw w w') (f 5) (f 4) w') (fun f _ => s.length + 4 - (intOf (f 5)).toNat) ⟨0, [], rfl, by omega, Bs.nil _ _, by simp, Kp.refl _ _⟩ ?_
  rintro f w1 ⟨i, X, f5, hi, hB, hX, hk⟩
  have hGl := refG_len s
  have hXl : X.length ≤ 536870912 := by
    have := congrArg List.length hX
    rw [List.length_append] at this
    omega
  have hi3 : IntKind.i64.wrap ((i : Int) + 3) = ((i + 3 : Nat) : Int) := by rw [w64 (by omega) (by omega)]; omega
  obtain ⟨i3, hi3'⟩ : ∃ i3, i3 = i + 3 := ⟨_, rfl⟩
  rw [← hi3'] at hi3
  by_cases hlt : i3 < s.length
  · have hlt' : (i3 : Int) < (s.length : Int) := by omega
    simp -dsimp [go_sem, f5, hi3, hlt, hlt']
    refine loop [6, 7, 16, 17, 18, 19, 20, 21, 22, 23, 24, 25, 26, 27, 28, 29] (by kernel_rfl)
      (fun f w' => Box2 (fun a b w' => ∃ k : Nat, a = i64 k ∧ k ≤ 4 ∧ b = i64 (nf (s.drop i) k) ∧ w' = w1) (f 7) (f 6) w') (fun f _ => 4 - (intOf (f 7)).toNat) ⟨0, rfl, by omega, rfl, rfl⟩ ?_
    rintro g w2 ⟨k, g7, hk4, g6, rfl⟩
    have hn := nf_lt (s.drop i) k
    by_cases h4 : k < 4
    · have h4' : (k : Int) < 4 := by omega
      have hn3 : (64 : Nat) ^ k ≤ 262144 := by
        have : k = 0 ∨ k = 1 ∨ k = 2 ∨ k = 3 := by omega
        rcases this with rfl | rfl | rfl | rfl <;> decide
      have hk1 : IntKind.i64.wrap ((k : Int) + 1) = ((k + 1 : Nat) : Int) := by rw [w64 (by omega) (by omega)]; omega
      have hik : IntKind.i64.wrap ((i : Int) + (k : Int)) = ((i + k : Nat) : Int) := by rw [w64 (by omega) (by omega)]; omega
      have hstep : nf (s.drop i) (k + 1) = nf (s.drop i) k * 64 + num0 ((s.drop i).getD k 0) := rfl
      have hat : (s.drop i).getD k 0 = s[i + k] := by
        rw [List.getD_eq_getElem?_getD, List.getElem?_drop, List.getElem?_eq_getElem (by omega)]; rfl
      rw [hat] at hstep
      obtain ⟨k1, hk1'⟩ : ∃ k1, k1 = k + 1 := ⟨_, rfl⟩
      obtain ⟨ik, hik'⟩ : ∃ ik, ik = i + k := ⟨_, rfl⟩
      rw [← hk1'] at hk1 hstep
      rw [← hik'] at hik
      simp only [← hik'] at hstep
      have hin : ik < s.length := by omega
      have hsa := str_at s ik hin
      generalize nf (s.drop i) k = n at *
      have hc := num0_lt s[ik]
      have hmx : max 0 (idx s[ik]) = ((num0 s[ik] : Nat) : Int) := by unfold num0; omega
      have hsh : IntKind.i64.wrap ((n : Int) * 64) = ((n * 64 : Nat) : Int) := by rw [w64 (by omega) (by omega)]; omega
      have hor : bits .or .i64 ((n * 64 : Nat) : Int) (num0 s[ik] : Int) = ((nf (s.drop i) k1 : Nat) : Int) := by
        rw [i64_or_nat _ _ (by omega) (by omega), nat_join 6 _ _ (by omega) (by omega), hstep]
      obtain ⟨n6, hn6⟩ : ∃ n6, n6 = n * 64 := ⟨_, rfl⟩
      rw [← hn6] at hsh hor
      simp -dsimp [go_sem, f5, g7, g6, h4, h4', hik, hin, hsa, hsh]
      refine call (number_spec s[ik] _) ?_
      rintro v w3 ⟨rfl, rfl⟩
      simp -dsimp [go_sem, hmx, hor, hk1, g7]
      exact ⟨⟨k1, rfl, by omega, rfl, rfl⟩, by simp [intOf]; omega⟩
    · obtain rfl : k = 4 := by omega
      have hn' : nf (s.drop i) 4 < 16777216 := hn
      have hst : refG (s.drop i) = by4 (nf (s.drop i) 4) ++ refG ((s.drop i).drop 4) := refG_step (by rw [List.length_drop]; omega)
      have hi4 : IntKind.i64.wrap ((i : Int) + 4) = ((i + 4 : Nat) : Int) := by rw [w64 (by omega) (by omega)]; omega
      obtain ⟨i4, hi4'⟩ : ∃ i4, i4 = i + 4 := ⟨_, rfl⟩
      rw [← hi4'] at hi4
      rw [List.drop_drop, ← hi4'] at hst
      generalize nf (s.drop i) 4 = n at *
      have b1 : IntKind.u8.wrap ((n : Int) / 65536) = ((n / 65536 % 256 : Nat) : Int) := by rw [IntKind.wrap_u8']; omega
      have b2 : IntKind.u8.wrap ((n : Int) / 256) = ((n / 256 % 256 : Nat) : Int) := by rw [IntKind.wrap_u8']; omega
      have b3 : IntKind.u8.wrap (n : Int) = ((n % 256 : Nat) : Int) := by rw [IntKind.wrap_u8']; omega
      have hby : (by4 n).map u8 = [.int .u8 ((n / 65536 % 256 : Nat) : Int), .int .u8 ((n / 256 % 256 : Nat) : Int), .int .u8 ((n % 256 : Nat) : Int)] := by
        simp only [by4, List.map_cons, List.map_nil]
        rw [show (n / 65536 % 256).toUInt8 = UInt8.ofNat (n / 65536 % 256) from rfl, show (n / 256 % 256).toUInt8 = UInt8.ofNat (n / 256 % 256) from rfl, show (n % 256).toUInt8 = UInt8.ofNat (n % 256) from rfl, byteOf _ (by omega), byteOf _ (by omega), byteOf _ (by omega)]
      generalize n / 65536 % 256 = y1 at *
      generalize n / 256 % 256 = y2 at *
      generalize n % 256 = y3 at *
      simp -dsimp [go_sem, g7, g6, b1, b2, b3]
      have ka : Nw w2 (w2.alloc (.cells #[.int .u8 (y1 : Int), .int .u8 (y2 : Int), .int .u8 (y3 : Int)] 5)) := (Kp.refl _ _).alloc _
      refine bs_app (m := by4 n) (hB.nw ka) (Rd.fresh rfl (by rw [hby])) (by simp [by4]; omega) (Nat.le_trans hk.size ka.size) ?_
      intro v4 w4 hB4 hk4'
      simp -dsimp [go_sem, f5, hi4]
      refine ⟨⟨i4, X ++ by4 n, rfl, by omega, hB4, by rw [← hX, hst, List.append_assoc], Nw.fr (hk.nw ka) hk4' (Nat.le_refl _)⟩, by simp [intOf]; omega⟩
  · have hlt' : ¬ (i3 : Int) < (s.length : Int) := by omega
    rw [refG_short (by simp; omega), List.append_nil] at hX
    subst hX
    have hw1 : IntKind.i64.wrap ((s.length : Int) - 1) = (s.length : Int) - 1 := w64 (by omega) (by omega)
    have hw2 : IntKind.i64.wrap ((s.length : Int) - 2) = (s.length : Int) - 2 := w64 (by omega) (by omega)
    have hsl := strips_le s
    simp -dsimp [go_sem, f5, hi3, hlt, hlt', hw1]
    refine loop [4, 8, 44, 45, 46, 47, 48, 49, 50, 51, 52, 53, 54, 55, 56, 57, 58, 59, 60, 61, 62, 63, 64, 65, 66, 67, 68, 69, 70] (by kernel_rfl)
      (fun f w' => Box2 (fun a b w' => ∃ j : Nat, a = i64 ((s.length : Int) - 1 - j) ∧ j ≤ s.length ∧ j ≤ strips s ∧ Bs w' b ((refG s).take ((refG s).length - j)) w.heap.size ∧ w' = w1) (f 8) (f 4) w') (fun f _ => (intOf (f 8) + 1).toNat)
      ⟨0, by simp [upd, mix], by omega, by omega, by simpa [upd, mix] using hB, rfl⟩ ?_
    rintro g w2 ⟨j, g8, hjl, hjs, hBj, rfl⟩
    obtain ⟨A, c, g4, ho, hA⟩ := id hBj
    have hml : ((refG s).take ((refG s).length - j)).length = (refG s).length - j := by simp
    have hfin : ∀ (h : (refG s).length - j = 0 ∨ j = strips s), (refG s).take ((refG s).length - j) = refO s := fun h => by
      unfold refO
      rcases h with h | h
      · rw [h, show (refG s).length - strips s = 0 by omega]
      · rw [h]
    by_cases hj0 : j = s.length
    · subst hj0
      have hfin := hfin (.inr (by omega))
      rw [hfin] at g4 ho hBj
      have hneg : (s.length : Int) - 1 - (s.length : Int) = -1 := by omega
      rw [hneg] at g8
      simp -dsimp [go_sem, g8, g4]
      refine call (rEncode_spec (refO s) A c w2 ho.rd (by have := refO_len s; omega)) ?_
      rintro v w3 ⟨rfl, hk3⟩
      by_cases he : encB (refO s) = s
      · have hds : decB s = some (refO s) := by rw [decB_some]; exact he
        have he' : (encB (refO s) == s) = true := by simp [he]
        simp -dsimp [go_sem, he', g4]
        refine ⟨⟨_, by rw [hds]; rfl, ?_⟩, hk.nw hk3⟩
        rw [hds]
        exact Bs.nw ⟨A, c, rfl, ho, hA⟩ hk3
      · have hds : decB s = none := by
          rw [← decR_eq]
          unfold decR
          rw [if_neg he]
        have he' : (encB (refO s) == s) = false := by simpa using he
        simp -dsimp [go_sem, he']
        exact ⟨decR_none hds rfl, hk.nw hk3⟩
    · obtain ⟨p, hp⟩ : ∃ p : Nat, (s.length : Int) - 1 - (j : Int) = (p : Int) := ⟨s.length - 1 - j, by omega⟩
      rw [hp] at g8
      have hps : p = s.length - 1 - j := by omega
      have hin : p < s.length := by omega
      have hat := str_at s p hin
      by_cases hj2 : j = 2
      · have hge : ¬ (s.length : Int) - 2 ≤ (p : Int) := by omega
        have hfin := hfin (.inr (by omega))
        rw [hfin] at g4 ho hBj
        simp -dsimp [go_sem, g8, hw2, hge, g4]
        refine call (rEncode_spec (refO s) A c w2 ho.rd (by have := refO_len s; omega)) ?_
        rintro v w3 ⟨rfl, hk3⟩
        by_cases he : encB (refO s) = s
        · have hds : decB s = some (refO s) := by rw [decB_some]; exact he
          have he' : (encB (refO s) == s) = true := by simp [he]
          simp -dsimp [go_sem, he', g4]
          refine ⟨⟨_, by rw [hds]; rfl, ?_⟩, hk.nw hk3⟩
          rw [hds]
          exact Bs.nw ⟨A, c, rfl, ho, hA⟩ hk3
        · have hds : decB s = none := by
            rw [← decR_eq]
            unfold decR
            rw [if_neg he]
          have he' : (encB (refO s) == s) = false := by simpa using he
          simp -dsimp [go_sem, he']
          exact ⟨decR_none hds rfl, hk.nw hk3⟩
      · have hge : (s.length : Int) - 2 ≤ (p : Int) := by omega
        have hmore := strips_more (s := s) (j := j) (by omega) (by omega) hjs
        simp only [← hps] at hmore
        by_cases h61 : s[p] = 61
        · have hj1 := hmore.1 h61
          have h61' : ((s[p].toNat : Int) == 61) = true := by rw [h61]; rfl
          by_cases hm0 : (refG s).length - j = 0
          · have hfin := hfin (.inl hm0)
            rw [hfin] at g4 ho hBj hml
            rw [hm0] at hml
            obtain ⟨n0, hn0⟩ : ∃ n0, n0 = (refO s).length := ⟨_, rfl⟩
            rw [← hn0] at g4 hml
            have hnp : ¬ 0 < n0 := by omega
            simp -dsimp [go_sem, g8, hw2, hge, hin, hat, h61, g4, hnp]
            rw [hn0] at g4 ⊢
            refine call (rEncode_spec (refO s) A c w2 ho.rd (by have := refO_len s; omega)) ?_
            rintro v w3 ⟨rfl, hk3⟩
            by_cases he : encB (refO s) = s
            · have hds : decB s = some (refO s) := by rw [decB_some]; exact he
              have he' : (encB (refO s) == s) = true := by simp [he]
              simp -dsimp [go_sem, he', g4]
              refine ⟨⟨_, by rw [hds]; rfl, ?_⟩, hk.nw hk3⟩
              rw [hds]
              exact Bs.nw ⟨A, c, rfl, ho, hA⟩ hk3
            · have hds : decB s = none := by
                rw [← decR_eq]
                unfold decR
                rw [if_neg he]
              have he' : (encB (refO s) == s) = false := by simpa using he
              simp -dsimp [go_sem, he']
              exact ⟨decR_none hds rfl, hk.nw hk3⟩
          · obtain ⟨m, hm⟩ : ∃ m, (refG s).length - j = m + 1 := ⟨(refG s).length - j - 1, by omega⟩
            rw [hm] at hml g4 ho
            have hmi : IntKind.i64.wrap (((m + 1 : Nat) : Int) - 1) = (m : Int) := by rw [w64 (by omega) (by omega)]; omega
            obtain ⟨m1, hm1⟩ : ∃ m1, m1 = m + 1 := ⟨_, rfl⟩
            rw [hml] at g4
            rw [← hm1] at hmi g4 
            have hpos : 0 < m1 := by omega
            have hmm : m ≤ m1 := by omega
            have hp1 : IntKind.i64.wrap ((p : Int) - 1) = (p : Int) - 1 := w64 (by omega) (by omega)
            have hmc : m ≤ c := by have := ho.2.1; omega
            simp -dsimp [go_sem, g8, hw2, hge, hin, hat, h61, g4, hmi, hpos, hmm, hmc, hp1, sliced]
            refine ⟨⟨j + 1, by congr 1; omega, by omega, hj1, ?_, rfl⟩, by simp [intOf]; omega⟩
            have ho2 := ho.take (m := m) (by omega)
            have hmt : (refG s).take ((refG s).length - (j + 1)) = (refG s).take m := by congr 1; omega
            have hmtl : ((refG s).take m).length = m := by rw [List.length_take]; omega
            rw [hmt]
            refine ⟨A, c, by rw [hmtl], ?_, hA⟩
            rw [hmtl]
            simpa [List.map_take, List.take_take, Nat.min_eq_left (show m ≤ m + 1 by omega)] using ho2
        · have hfin := hfin (.inr (hmore.2 h61).symm)
          have h61' : ((s[p].toNat : Int) == 61) = false := by
            have : s[p].toNat ≠ 61 := fun e => h61 (UInt8.toNat_inj.1 e)
            simp; omega
          rw [hfin] at g4 ho hBj
          simp -dsimp [go_sem, g8, hw2, hge, hin, hat, h61', g4]
          refine call (rEncode_spec (refO s) A c w2 ho.rd (by have := refO_len s; omega)) ?_
          rintro v w3 ⟨rfl, hk3⟩
          by_cases he : encB (refO s) = s
          · have hds : decB s = some (refO s) := by rw [decB_some]; exact he
            have he' : (encB (refO s) == s) = true := by simp [he]
            simp -dsimp [go_sem, he', g4]
            refine ⟨⟨_, by rw [hds]; rfl, ?_⟩, hk.nw hk3⟩
            rw [hds]
            exact Bs.nw ⟨A, c, rfl, ho, hA⟩ hk3
          · have hds : decB s = none := by
              rw [← decR_eq]
              unfold decR
              rw [if_neg he]
            have he' : (encB (refO s) == s) = false := by simpa using he
            simp -dsimp [go_sem, he']
            exact ⟨decR_none hds rfl, hk.nw hk3⟩
end Go.Proofs.YthdbppggnkfgjaaDoor
