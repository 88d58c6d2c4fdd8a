/-
  The check sum: octet.Sum and the reference's walked; a byte that is another one has another sum. By the session itself.
-/
import Derived.Test.YthonmjgagblogaaGreatBs
import Derived.Laws.BitsAllLaws

namespace Go.Proofs.YthonmjgagblogaaGreat
set_option linter.unusedSimpArgs false
set_option linter.unusedVariables false
set_option maxRecDepth 100000
open Go.Vc Go.RowKit

def crcBit (v : Nat) : Nat := if v % 2 = 1 then (v / 2) ^^^ 3988292384 else v / 2
def crcBits : Nat → Nat → Nat
  | 0, v => v
  | n + 1, v => crcBits n (crcBit v)
def crcByte (v : Nat) (c : UInt8) : Nat := crcBits 8 (v ^^^ c.toNat)
def crcRow (v : Nat) (l : List UInt8) : Nat := l.foldl crcByte v
/-- The check sum of bytes. -/
def sumL (l : List UInt8) : Nat := 4294967295 - crcRow 4294967295 l

theorem crcBit_lt {v : Nat} (h : v < 4294967296) : crcBit v < 4294967296 := by
  unfold crcBit
  split
  · exact Nat.xor_lt_two_pow (n := 32) (by omega) (by omega)
  · omega
theorem crcBits_lt : ∀ (n v : Nat), v < 4294967296 → crcBits n v < 4294967296
  | 0, _, h => h
  | n + 1, _, h => crcBits_lt n _ (crcBit_lt h)
theorem crcBits_succ (n v : Nat) : crcBits (n + 1) v = crcBit (crcBits n v) := by
  induction n generalizing v with
  | zero => rfl
  | succ n ih => exact ih (crcBit v)
theorem crcByte_lt {v : Nat} (h : v < 4294967296) (c : UInt8) : crcByte v c < 4294967296 :=
  crcBits_lt 8 _ (Nat.xor_lt_two_pow (n := 32) (by omega) (by have := UInt8.toNat_lt c; omega))
theorem crcRow_lt : ∀ (l : List UInt8) (v : Nat), v < 4294967296 → crcRow v l < 4294967296
  | [], _, h => h
  | c :: l, _, h => crcRow_lt l _ (crcByte_lt h c)
theorem crcRow_append (v : Nat) (a b : List UInt8) : crcRow v (a ++ b) = crcRow (crcRow v a) b := List.foldl_append ..

theorem xor_ones {v : Nat} (h : v < 4294967296) : 4294967295 ^^^ v = 4294967295 - v := by
  have h1 : (BitVec.allOnes 32 ^^^ BitVec.ofNat 32 v).toNat = 2 ^ 32 - 1 - (BitVec.ofNat 32 v).toNat := by rw [BitVec.allOnes_xor, BitVec.toNat_not]
  rw [BitVec.toNat_xor, BitVec.toNat_allOnes, BitVec.toNat_ofNat, Nat.mod_eq_of_lt (by omega)] at h1
  exact h1
theorem crc_step (v : Nat) (h : v < 4294967296) : bits .xor .u32 ((v : Int) / 2) (bits .and .u32 3988292384 (IntKind.u32.wrap (-bits .and .u32 (v : Int) 1))) = (crcBit v : Int) := by
  have e1 : bits .and .u32 (v : Int) 1 = ((v % 2 : Nat) : Int) := by
    rw [show (1 : Int) = ((1 : Nat) : Int) from rfl, u32_and_nat v 1 h (by omega), nat_mask1]
  have e0 : (v : Int) / 2 = ((v / 2 : Nat) : Int) := by omega
  rw [e1, e0]
  unfold crcBit
  by_cases hb : v % 2 = 1
  · rw [hb, if_pos rfl]
    have e2 : IntKind.u32.wrap (-((1 : Nat) : Int)) = ((4294967295 : Nat) : Int) := by rw [IntKind.wrap_u32']; omega
    rw [e2, show (3988292384 : Int) = ((3988292384 : Nat) : Int) from rfl, u32_and_nat _ _ (by omega) (by omega), show (3988292384 &&& 4294967295 : Nat) = 3988292384 by decide, u32_xor_nat _ _ (by omega) (by omega)]
  · have hb : v % 2 = 0 := by omega
    rw [hb, if_neg (by omega)]
    have e2 : IntKind.u32.wrap (-((0 : Nat) : Int)) = ((0 : Nat) : Int) := by rw [IntKind.wrap_u32']; omega
    rw [e2, show (3988292384 : Int) = ((3988292384 : Nat) : Int) from rfl, u32_and_nat _ _ (by omega) (by omega), Nat.and_zero, u32_xor_nat _ _ (by omega) (by omega), Nat.xor_zero]
theorem sum_spec (ps : List (List UInt8)) (A : Option Addr) (c : Nat) (w : World) (S : Nat → Prop) (hr : Brs w A ps S) (hl : ps.length ≤ 140737488355328) (hl2 : ∀ p ∈ ps, p.length ≤ 140737488355328) :
    Cal Tryz.prog 76 #[.slice A ps.length c] w fun v w' => v = .int .u32 (sumL ps.flatten : Nat) ∧ w = w' := by
  obtain ⟨vs, hvl, hrd, hoA, hi⟩ := hr
  refine enter Tryz.mixed Tryz.func76 rfl (by kernel_rfl) ?_
  simp -dsimp [go_sem]
  refine loop [3, 5, 7, 10, 11, 12, 13, 14, 15, 16, 17, 18, 19, 20, 21, 22, 23, 24, 25, 26, 27, 28, 29, 30, 31, 32, 33, 34, 35] (by kernel_rfl)
    (fun f w' => Box2 (fun a b w' => ∃ k v : Nat, k ≤ ps.length ∧ a = i64 k ∧ b = .int .u32 v ∧ v < 4294967296 ∧ v = crcRow 4294967295 (ps.take k).flatten ∧ w = w') (f 10) (f 3) w') (fun f _ => ps.length - (intOf (f 10)).toNat) ⟨0, 4294967295, by simp [upd, crcRow]⟩ ?_
  rintro f w' ⟨k, v, hk, f10, f3, hv, hv2, rfl⟩
  simp -dsimp [go_sem, f10, f3]
  refine cond_d (fun hlt => ?_) (fun hlt => ?_)
  · have hlt : k < ps.length := by omega
    obtain ⟨B, d, hvk, hrB, hoB, hd⟩ := hi k hlt
    obtain ⟨b, o, rfl, hcell⟩ := hrd k _ hvk
    have hpl := hl2 _ (List.getElem_mem hlt)
    simp -dsimp [go_sem, f10, f3, hlt, hcell]
    refine loop [3, 7, 16, 17, 18, 19, 20, 21, 22, 23, 24, 25, 26, 27, 28, 29, 30, 31, 32, 33, 34] (by kernel_rfl)
      (fun f2 w' => Box2 (fun a b w' => ∃ j u : Nat, j ≤ ps[k].length ∧ a = i64 j ∧ b = .int .u32 u ∧ u < 4294967296 ∧ u = crcRow v (ps[k].take j) ∧ w = w') (f2 16) (f2 3) w') (fun f2 _ => ps[k].length - (intOf (f2 16)).toNat) ⟨0, v, by simp [upd, crcRow, f3, hv, mix]⟩ ?_
    rintro f2 w' ⟨j, u, hj, f16, f23, hu, hu2, rfl⟩
    simp -dsimp [go_sem, f16, f23]
    refine cond_d (fun hjl => ?_) (fun hjl => ?_)
    · have hjl : j < ps[k].length := by omega
      obtain ⟨b2, o2, rfl, hcell2⟩ := hrB j (u8 (ps[k][j])) (by simp [hjl])
      have hc := UInt8.toNat_lt ps[k][j]
      have hx : bits .xor .u32 (u : Int) (IntKind.u32.wrap (ps[k][j].toNat : Int)) = ((u ^^^ ps[k][j].toNat : Nat) : Int) := by
        rw [show IntKind.u32.wrap (ps[k][j].toNat : Int) = (ps[k][j].toNat : Int) by rw [IntKind.wrap_u32']; omega, u32_xor_nat _ _ hu (by omega)]
      have hxl : u ^^^ ps[k][j].toNat < 4294967296 := Nat.xor_lt_two_pow (n := 32) (by omega) (by omega)
      obtain ⟨x, hx'⟩ : ∃ x, x = u ^^^ ps[k][j].toNat := ⟨_, rfl⟩
      rw [← hx'] at hx hxl
      simp -dsimp [go_sem, f16, f23, hjl, hcell2, hx]
      refine loop [3, 24, 25, 26, 27, 28, 29, 30, 31, 32, 33] (by kernel_rfl)
        (fun f3 w' => Box2 (fun a b w' => ∃ i y : Nat, i ≤ 8 ∧ a = i64 i ∧ b = .int .u32 y ∧ y < 4294967296 ∧ y = crcBits i x ∧ w = w') (f3 24) (f3 3) w') (fun f3 _ => 8 - (intOf (f3 24)).toNat) ⟨0, x, by simp [upd, crcBits, hxl]⟩ ?_
      rintro f3 w' ⟨i, y, hi8, f24, f33, hy, hy2, rfl⟩
      simp -dsimp [go_sem, f24, f33]
      refine cond_d (fun hil => ?_) (fun hil => ?_)
      · have hil : i < 8 := by omega
        have hst := crc_step y hy
        have hcl := crcBit_lt hy
        have hcs : crcBit y = crcBits (i + 1) x := by rw [crcBits_succ, hy2]
        obtain ⟨z, hz⟩ : ∃ z, z = crcBit y := ⟨_, rfl⟩
        rw [← hz] at hst hcl hcs
        have hk1 : IntKind.i64.wrap ((i : Int) + 1) = ((i + 1 : Nat) : Int) := w64 (by omega) (by omega)
        obtain ⟨k1, hk1'⟩ : ∃ k1, k1 = i + 1 := ⟨_, rfl⟩
        rw [← hk1'] at hk1
        simp -dsimp [go_sem, f24, f33, hst, hk1]
        exact ⟨⟨k1, z, by omega, rfl, rfl, hcl, by rw [hk1', hcs], rfl⟩, by simp [intOf]; omega⟩
      · obtain rfl : i = 8 := by omega
        have hk1 : IntKind.i64.wrap ((j : Int) + 1) = ((j + 1 : Nat) : Int) := w64 (by omega) (by omega)
        obtain ⟨k1, hk1'⟩ : ∃ k1, k1 = j + 1 := ⟨_, rfl⟩
        rw [← hk1'] at hk1
        simp -dsimp [go_sem, f16, f33, hk1]
        refine ⟨⟨k1, y, by omega, rfl, rfl, hy, ?_, rfl⟩, by simp [intOf]; omega⟩
        rw [hk1', List.take_succ_eq_append_getElem hjl, crcRow_append, ← hu2, hy2, hx']
        rfl
    · obtain rfl : j = ps[k].length := by omega
      have hk1 : IntKind.i64.wrap ((k : Int) + 1) = ((k + 1 : Nat) : Int) := w64 (by omega) (by omega)
      obtain ⟨k1, hk1'⟩ : ∃ k1, k1 = k + 1 := ⟨_, rfl⟩
      rw [← hk1'] at hk1
      simp -dsimp [go_sem, f10, f23, hk1]
      refine ⟨⟨k1, u, by omega, rfl, rfl, hu, ?_, rfl⟩, by simp [intOf]; omega⟩
      rw [hk1', List.take_succ_eq_append_getElem hlt, List.flatten_append, crcRow_append, ← hv2, hu2, List.take_length]
      simp
  · obtain rfl : k = ps.length := by omega
    simp -dsimp [go_sem, f3]
    show bits .xor .u32 ((4294967295 : Nat) : Int) (v : Int) = _
    rw [u32_xor_nat _ _ (by omega) hv, xor_ones hv, hv2, List.take_length]
    rfl

theorem crc_if (v : Nat) (h : v < 4294967296) : (if bits .and .u32 (v : Int) 1 = 1 then bits .xor .u32 ((v : Int) / 2) 3988292384 else (v : Int) / 2) = (crcBit v : Int) := by
  rw [show (1 : Int) = ((1 : Nat) : Int) from rfl, u32_and_nat _ _ h (by omega), show v &&& 1 = v % 2 from Nat.and_two_pow_sub_one_eq_mod v 1, show (v : Int) / 2 = ((v / 2 : Nat) : Int) by omega, show (3988292384 : Int) = ((3988292384 : Nat) : Int) from rfl, u32_xor_nat _ _ (by omega) (by omega)]
  unfold crcBit
  by_cases h1 : v % 2 = 1
  · rw [if_pos h1, if_pos (by omega)]
  · rw [if_neg h1, if_neg (by omega)]
theorem refSum_spec (l : List UInt8) (A : Option Addr) (c : Nat) (w : World) (hr : Rd w A (l.map u8)) (hl : l.length ≤ 140737488355328) :
    Cal Tryz.prog 99 #[.slice A l.length c] w fun v w' => v = .int .u32 (sumL l : Nat) ∧ w' = w := by
  refine enter Tryz.mixed Tryz.func99 rfl (by kernel_rfl) ?_
  simp -dsimp [go_sem]
  refine loop [3, 4, 5, 6, 7, 8, 9, 10, 11, 12, 13, 14, 15, 16, 17, 18, 19, 20, 21, 22, 23, 24, 25, 26, 27, 28, 29, 30] (by kernel_rfl)
    (fun f w' => Box2 (fun a b w' => ∃ k v : Nat, k ≤ l.length ∧ b = i64 k ∧ a = .int .u32 v ∧ v < 4294967296 ∧ v = crcRow 4294967295 (l.take k) ∧ w' = w) (f 3) (f 4) w') (fun f _ => l.length - (intOf (f 4)).toNat)
    ⟨0, 4294967295, Nat.zero_le _, rfl, rfl, by omega, rfl, rfl⟩ ?_
  rintro f w' ⟨k, v, hk, f4, f3, hv, hv2, rfl⟩
  simp -dsimp [go_sem, f3, f4]
  refine cond_d (fun hlt => ?_) (fun hlt => ?_)
  · have hlt : k < l.length := by omega
    obtain ⟨b, o, rfl, hcell⟩ := hr k (u8 l[k]) (by simp [hlt])
    have hw : IntKind.u32.wrap (l[k].toNat : Int) = (l[k].toNat : Int) := by have := UInt8.toNat_lt l[k]; rw [IntKind.wrap_u32']; omega
    have hx : bits .xor .u32 (v : Int) (l[k].toNat : Int) = ((v ^^^ l[k].toNat : Nat) : Int) := u32_xor_nat _ _ (by omega) (by have := UInt8.toNat_lt l[k]; omega)
    have hxl : v ^^^ l[k].toNat < 4294967296 := Nat.xor_lt_two_pow (n := 32) hv (by have := UInt8.toNat_lt l[k]; omega)
    obtain ⟨x, hx'⟩ : ∃ x, x = v ^^^ l[k].toNat := ⟨_, rfl⟩
    rw [← hx'] at hx hxl
    simp -dsimp [go_sem, f3, f4, hlt, hcell, hw, hx]
    refine loop [3, 5, 19, 20, 21, 22, 23, 24, 25, 26, 27, 28, 29, 30] (by kernel_rfl)
      (fun f w4 => Box2 (fun a b w3 => ∃ i y : Nat, i ≤ 8 ∧ b = i64 i ∧ a = .int .u32 y ∧ y < 4294967296 ∧ y = crcBits i x ∧ w3 = w') (f 3) (f 5) w4) (fun f _ => 8 - (intOf (f 5)).toNat)
      ⟨0, x, Nat.zero_le _, rfl, rfl, hxl, rfl, rfl⟩ ?_
    rintro f2 w2 ⟨i, y, hi, f5, f3', hy, hy2, rfl⟩
    simp -dsimp [go_sem, f5, f3']
    refine cond_d (fun hil => ?_) (fun hil => ?_)
    · have hil : i < 8 := by omega
      have hst := crc_if y hy
      have hcl := crcBit_lt hy
      have hcs : crcBit y = crcBits (i + 1) x := by rw [crcBits_succ, hy2]
      obtain ⟨z, hz⟩ : ∃ z, z = crcBit y := ⟨_, rfl⟩
      rw [← hz] at hst hcl hcs
      have hk1 : IntKind.i64.wrap ((i : Int) + 1) = ((i + 1 : Nat) : Int) := w64 (by omega) (by omega)
      obtain ⟨k1, hk1'⟩ : ∃ k1, k1 = i + 1 := ⟨_, rfl⟩
      rw [← hk1'] at hk1
      simp -dsimp [go_sem, f5, f3']
      refine cond_e (fun h1 => ?_) (fun h1 => ?_)
      · rw [if_pos h1] at hst
        simp -dsimp [go_sem, f5, f3', hst, hk1]
        exact ⟨⟨k1, z, by omega, rfl, rfl, hcl, by rw [hk1', hcs], rfl⟩, by simp [intOf]; omega⟩
      · rw [if_neg h1] at hst
        simp -dsimp [go_sem, f5, f3', hst, hk1]
        exact ⟨⟨k1, z, by omega, rfl, rfl, hcl, by rw [hk1', hcs], rfl⟩, by simp [intOf]; omega⟩
    · obtain rfl : i = 8 := by omega
      have hk1 : IntKind.i64.wrap ((k : Int) + 1) = ((k + 1 : Nat) : Int) := w64 (by omega) (by omega)
      obtain ⟨k1, hk1'⟩ : ∃ k1, k1 = k + 1 := ⟨_, rfl⟩
      rw [← hk1'] at hk1
      simp -dsimp [go_sem, f4, hk1]
      refine ⟨⟨k1, y, by omega, rfl, f3', hy, ?_, rfl⟩, by simp [intOf]; omega⟩
      rw [hk1', List.take_succ_eq_append_getElem hlt, crcRow_append, ← hv2, hy2, hx']
      rfl
  · obtain rfl : k = l.length := by omega
    simp -dsimp [go_sem, f3]
    show bits .xor .u32 ((4294967295 : Nat) : Int) (v : Int) = _
    rw [u32_xor_nat _ _ (by omega) hv, xor_ones hv, hv2, List.take_length]
    rfl
/-! A byte that is another one has another sum. -/
theorem crcBit_hi {v : Nat} (h : v < 4294967296) : 2147483648 ≤ crcBit v ↔ v % 2 = 1 := by
  unfold crcBit
  split
  · rename_i h1
    refine ⟨fun _ => h1, fun _ => ?_⟩
    have ht : (v / 2 ^^^ 3988292384).testBit 31 = true := by
      rw [Nat.testBit_xor, Nat.testBit_lt_two_pow (show v / 2 < 2 ^ 31 by omega)]
      decide
    exact Nat.ge_two_pow_of_testBit ht
  · omega
theorem crcBit_inj {a b : Nat} (ha : a < 4294967296) (hb : b < 4294967296) (h : crcBit a = crcBit b) : a = b := by
  have h1 := crcBit_hi ha
  have h2 := crcBit_hi hb
  have hp : a % 2 = 1 ↔ b % 2 = 1 := by rw [← h1, ← h2, h]
  unfold crcBit at h
  by_cases h0 : a % 2 = 1
  · rw [if_pos h0, if_pos (hp.1 h0)] at h
    have := congrArg (· ^^^ 3988292384) h
    simp only [Nat.xor_assoc, Nat.xor_self, Nat.xor_zero] at this
    omega
  · rw [if_neg h0, if_neg (fun h => h0 (hp.2 h))] at h
    omega
theorem crcBits_inj : ∀ (n a b : Nat), a < 4294967296 → b < 4294967296 → crcBits n a = crcBits n b → a = b
  | 0, a, b, _, _, h => h
  | n + 1, a, b, ha, hb, h => by
    rw [crcBits_succ, crcBits_succ] at h
    exact crcBits_inj n a b ha hb (crcBit_inj (crcBits_lt n a ha) (crcBits_lt n b hb) h)
theorem crcByte_inj {a b : Nat} {c d : UInt8} (ha : a < 4294967296) (hb : b < 4294967296) (h : crcByte a c = crcByte b d) : a ^^^ c.toNat = b ^^^ d.toNat := by
  have hc := UInt8.toNat_lt c
  have hd := UInt8.toNat_lt d
  exact crcBits_inj 8 _ _ (Nat.xor_lt_two_pow (n := 32) ha (by omega)) (Nat.xor_lt_two_pow (n := 32) hb (by omega)) h
theorem xor_right_inj {a b c : Nat} (h : a ^^^ c = b ^^^ c) : a = b := by
  have := congrArg (· ^^^ c) h
  simpa only [Nat.xor_assoc, Nat.xor_self, Nat.xor_zero] using this
theorem crcRow_inj : ∀ (l : List UInt8) (a b : Nat), a < 4294967296 → b < 4294967296 → crcRow a l = crcRow b l → a = b
  | [], a, b, _, _, h => h
  | c :: l, a, b, ha, hb, h => xor_right_inj (crcByte_inj ha hb (crcRow_inj l _ _ (crcByte_lt ha c) (crcByte_lt hb c) h))
theorem sum_flip (l : List UInt8) (j : Nat) (hj : j < l.length) (x : UInt8) (hx : x ≠ l[j]) : sumL (l.set j x) ≠ sumL l := by
  intro h
  have e1 : l = l.take j ++ l[j] :: l.drop (j + 1) := by rw [List.getElem_cons_drop, List.take_append_drop]
  have e2 : l.set j x = l.take j ++ x :: l.drop (j + 1) := by rw [List.set_eq_take_append_cons_drop, if_pos hj]
  have hv := crcRow_lt (l.take j) 4294967295 (by omega)
  have hs : crcRow 4294967295 (l.set j x) = crcRow 4294967295 l := by
    have h1 := crcRow_lt (l.set j x) 4294967295 (by omega)
    have h2 := crcRow_lt l 4294967295 (by omega)
    unfold sumL at h
    omega
  rw [e2] at hs
  conv at hs => rhs; rw [e1]
  rw [crcRow_append, crcRow_append] at hs
  have hs : crcRow (crcByte (crcRow 4294967295 (l.take j)) x) (l.drop (j + 1)) = crcRow (crcByte (crcRow 4294967295 (l.take j)) l[j]) (l.drop (j + 1)) := hs
  have h3 := crcByte_inj hv hv (crcRow_inj _ _ _ (crcByte_lt hv _) (crcByte_lt hv _) hs)
  rw [Nat.xor_comm _ x.toNat, Nat.xor_comm _ l[j].toNat] at h3
  exact hx (UInt8.toNat_inj.1 (xor_right_inj h3))

theorem i64_and30 (n : Int) : bits .and .i64 n 1073741823 = n % 1073741824 := by
  have h127 : (BitVec.ofInt 64 1073741823).toNat = 2 ^ 30 - 1 := by decide
  have key : (BitVec.ofInt 64 n &&& BitVec.ofInt 64 1073741823).toNat = (n % ((2 ^ 64 : Nat) : Int)).toNat % 2 ^ 30 := by
    rw [BitVec.toNat_and, BitVec.toNat_ofInt, h127, Nat.and_two_pow_sub_one_eq_mod]
  show IntKind.i64.wrap ((BitVec.ofInt 64 n &&& BitVec.ofInt 64 1073741823).toNat : Nat) = n % 1073741824
  rw [key, IntKind.wrap_i64]
  omega

end Go.Proofs.YthonmjgagblogaaGreat
