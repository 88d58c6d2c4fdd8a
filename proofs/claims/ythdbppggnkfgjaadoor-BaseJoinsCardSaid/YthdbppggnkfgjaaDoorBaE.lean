/-
  The reference's base: letters, number, Encode walked. By the session itself.
-/
import Derived.Test.YthdbppggnkfgjaaDoorBaC
import Derived.Laws.BitsAllLaws
namespace Go.Proofs.YthdbppggnkfgjaaDoor
set_option linter.unusedSimpArgs false
set_option linter.unusedVariables false
set_option maxRecDepth 100000
set_option maxHeartbeats 1000000
open Go.Vc Go.RowKit

theorem i64_and_nat (a b : Nat) (ha : a < 9223372036854775808) (hb : b < 9223372036854775808) : bits .and .i64 (a : Int) (b : Int) = ((a &&& b : Nat) : Int) := by
  have hx : a &&& b < 2 ^ 63 := Nat.and_lt_two_pow _ (by omega)
  show IntKind.i64.wrap ((BitVec.ofInt 64 (a : Int) &&& BitVec.ofInt 64 (b : Int)).toNat : Int) = _
  rw [BitVec.toNat_and, ofInt_u64 a (by omega), ofInt_u64 b (by omega), w64 (by omega) (by omega)]
theorem i64_or_nat (a b : Nat) (ha : a < 9223372036854775808) (hb : b < 9223372036854775808) : bits .or .i64 (a : Int) (b : Int) = ((a ||| b : Nat) : Int) := by
  have hx : a ||| b < 2 ^ 63 := Nat.or_lt_two_pow (by omega) (by omega)
  show IntKind.i64.wrap ((BitVec.ofInt 64 (a : Int) ||| BitVec.ofInt 64 (b : Int)).toNat : Int) = _
  rw [BitVec.toNat_or, ofInt_u64 a (by omega), ofInt_u64 b (by omega), w64 (by omega) (by omega)]
theorem i64_mask (n : Int) (k m : Nat) (hk : k ≤ 62) (hm : m = 2 ^ k - 1) : bits .and .i64 n (m : Int) = n % 2 ^ k := by
  subst hm
  have h2 : (2 : Nat) ^ k ≤ 2 ^ 62 := Nat.pow_le_pow_right (by omega) hk
  have h0 : 0 < (2 : Nat) ^ k := Nat.two_pow_pos k
  have key : (BitVec.ofInt 64 n &&& BitVec.ofInt 64 ((2 ^ k - 1 : Nat) : Int)).toNat = (n % ((2 ^ 64 : Nat) : Int)).toNat % 2 ^ k := by
    rw [BitVec.toNat_and, BitVec.toNat_ofInt, ofInt_u64 _ (by omega), Nat.and_two_pow_sub_one_eq_mod]
  show IntKind.i64.wrap ((BitVec.ofInt 64 n &&& BitVec.ofInt 64 ((2 ^ k - 1 : Nat) : Int)).toNat : Nat) = _
  rw [key]
  have h3 : (((n % ((2 ^ 64 : Nat) : Int)).toNat % 2 ^ k : Nat) : Int) = n % 2 ^ k := by
    rw [Int.natCast_emod, Int.toNat_of_nonneg (Int.emod_nonneg _ (by decide))]
    have : ((2 ^ k : Nat) : Int) ∣ ((2 ^ 64 : Nat) : Int) := Int.natCast_dvd_natCast.2 (Nat.pow_dvd_pow 2 (by omega))
    rw [Int.emod_emod_of_dvd _ this]
    simp
  have h4 : (n % ((2 ^ 64 : Nat) : Int)).toNat % 2 ^ k < 2 ^ k := Nat.mod_lt _ h0
  rw [← h3, w64 (by omega) (by omega)]

theorem letters_spec (w : World) : Cal Tryd.prog 17 #[] w fun v w' => v = .string abcS ∧ w' = w := by
  refine enter Tryd.mixed Tryd.func17 rfl (by kernel_rfl) ?_
  simp -dsimp [go_sem]
theorem indexByte_first : ∀ (l : List UInt8) (c : UInt8) (k : Nat), l[k]? = some c → (∀ j b, j < k → l[j]? = some b → b ≠ c) → Lib.indexByte l c = k
  | [], _, _, h, _ => by simp at h
  | b :: l, c, 0, h, _ => by
    simp at h
    subst h
    simp [Lib.indexByte]
  | b :: l, c, k + 1, h, hn => by
    have hb : b ≠ c := hn 0 b (by omega) rfl
    have ih := indexByte_first l c k (by simpa using h) fun j x hj hx => hn (j + 1) x (by omega) (by simpa using hx)
    unfold Lib.indexByte
    rw [if_neg (by simpa using hb), ih, if_neg (by rw [beq_iff_eq]; omega)]
    omega
theorem indexByte_no : ∀ (l : List UInt8) (c : UInt8), (∀ b ∈ l, b ≠ c) → Lib.indexByte l c = -1
  | [], _, _ => rfl
  | b :: l, c, h => by
    unfold Lib.indexByte
    rw [if_neg (by simpa using h b (List.mem_cons_self ..)), indexByte_no l c fun x hx => h x (List.mem_cons_of_mem _ hx)]
    rfl
theorem abcS_at (x : Nat) (hx : x < 64) (h : x < abcS.size) : abcS[x]'h = let6 x := by
  have h2 := Lib.getElem_mk abc x h
  unfold let6
  rw [List.getD_eq_getElem?_getD, h2]
  rfl
theorem abc_get (x : Nat) (hx : x < 64) : abc[x]? = some (let6 x) := by
  unfold let6
  rw [List.getD_eq_getElem?_getD, List.getElem?_eq_getElem (by rw [abc_len]; exact hx)]
  rfl
theorem number_spec (c : UInt8) (w : World) : Cal Tryd.prog 16 #[.int .u8 (c.toNat : Int)] w fun v w' => v = i64 (idx c) ∧ w' = w := by
  refine enter Tryd.mixed Tryd.func16 rfl (by kernel_rfl) ?_
  simp -dsimp [go_sem]
  refine call (letters_spec w) ?_
  rintro v w1 ⟨rfl, rfl⟩
  simp -dsimp [go_sem]
  refine loop [2, 4, 6, 7, 8, 9, 10, 11, 12, 13, 14, 15, 16, 17] (by kernel_rfl) (fun f w' => Box1 (fun a w' => ∃ k : Nat, a = i64 k ∧ k ≤ 64 ∧ (∀ j b, j < k → abc[j]? = some b → b ≠ c) ∧ w' = w1) (f 4) w') (fun f _ => 64 - (intOf (f 4)).toNat)
    ⟨0, rfl, by omega, (fun j b hj => by omega), rfl⟩ ?_
  rintro f w' ⟨k, f4, hk, hno, rfl⟩
  by_cases hlt : k < 64
  · have hlt' : (k : Int) < 64 := by omega
    have hk1 : IntKind.i64.wrap ((k : Int) + 1) = ((k + 1 : Nat) : Int) := by rw [w64 (by omega) (by omega)]; omega
    obtain ⟨k1, hk1'⟩ : ∃ k1, k1 = k + 1 := ⟨_, rfl⟩
    rw [← hk1'] at hk1
    have hat := abcS_at k hlt hlt
    by_cases hc : let6 k = c
    · have hc' : (((let6 k).toNat : Int) == (c.toNat : Int)) = true := by simp [hc]
      simp -dsimp [go_sem, f4, hlt, hlt', hat, hc']
      exact (indexByte_first abc c k (by rw [abc_get k hlt, hc]) hno).symm
    · have hc' : (((let6 k).toNat : Int) == (c.toNat : Int)) = false := by
        have : (let6 k).toNat ≠ c.toNat := fun e => hc (UInt8.toNat_inj.1 e)
        simp; omega
      simp -dsimp [go_sem, f4, hlt, hlt', hat, hc', hk1]
      refine ⟨⟨k1, rfl, by omega, (fun j b hj hb => ?_), rfl⟩, by simp [intOf]; omega⟩
      by_cases hjk : j < k
      · exact hno j b hjk hb
      · obtain rfl : j = k := by omega
        rw [abc_get j hlt] at hb
        cases hb
        exact hc
  · obtain rfl : k = 64 := by omega
    simp -dsimp [go_sem, f4]
    exact (indexByte_no abc c fun b hb => by
      obtain ⟨j, hj, rfl⟩ := List.getElem_of_mem hb
      exact hno j _ (by rw [abc_len] at hj; exact hj) (List.getElem?_eq_getElem hj)).symm

theorem abcS_cut (x : Nat) (hx : x < 64) : abcS.extract x (x + 1) = ⟨#[let6 x]⟩ := by
  rw [show abcS = ⟨abc.toArray⟩ from rfl, Lib.extract_mk, show x + 1 - x = 1 by omega]
  rw [List.drop_eq_getElem_cons (by rw [abc_len]; exact hx)]
  have h := abc_get x hx
  rw [List.getElem?_eq_getElem (by rw [abc_len]; exact hx)] at h
  rw [Option.some.inj h]
  rfl
theorem str_app (a b : List UInt8) : (⟨a.toArray⟩ : ByteArray) ++ ⟨b.toArray⟩ = ⟨(a ++ b).toArray⟩ := by
  apply ByteArray.ext
  simp
end Go.Proofs.YthdbppggnkfgjaaDoor
