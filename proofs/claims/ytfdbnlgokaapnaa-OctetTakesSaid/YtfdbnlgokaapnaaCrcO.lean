/-
  The check sum: octet.Sum and the reference's walked; a byte that is another one has another sum. By the session itself.
-/
import Derived.Test.YtfdbnlgokaapnaaBs
import Derived.Laws.BitsAllLaws

namespace Go.Proofs.Ytfdbnlgokaapnaa
set_option linter.unusedSimpArgs false
set_option linter.unusedVariables false
set_option maxRecDepth 100000
open Go.Vc Go.RowKit

def crcBit (v : Nat) : Nat := if v % 2 = 1 then (v / 2) ^^^ 3988292384 else v / 2
def crcBits : Nat → Nat → Nat
  | 0, v => v
  | n + 1, v => crcBits n (crcBit v)
def crcByte (v : Nat) (c : UInt8) : Nat := crcBits 8 (v ^^^ c.toNat)
def crcRow (v : Nat) (l : List UInt8) : Nat := l.foldl crcByte v
/-- The check sum of bytes. -/
def sumL (l : List UInt8) : Nat := 4294967295 - crcRow 4294967295 l

theorem crcBit_lt {v : Nat} (h : v < 4294967296) : crcBit v < 4294967296 := by
  unfold crcBit
  split
  · exact Nat.xor_lt_two_pow (n := 32) (by omega) (by omega)
  · omega
theorem crcBits_lt : ∀ (n v : Nat), v < 4294967296 → crcBits n v < 4294967296
  | 0, _, h => h
  | n + 1, _, h => crcBits_lt n _ (crcBit_lt h)
theorem crcBits_succ (n v : Nat) : crcBits (n + 1) v = crcBit (crcBits n v) := by
  induction n generalizing v with
  | zero => rfl
  | succ n ih => exact ih (crcBit v)
theorem crcByte_lt {v : Nat} (h : v < 4294967296) (c : UInt8) : crcByte v c < 4294967296 :=
  crcBits_lt 8 _ (Nat.xor_lt_two_pow (n := 32) (by omega) (by have := UInt8.toNat_lt c; omega))
theorem crcRow_lt : ∀ (l : List UInt8) (v : Nat), v < 4294967296 → crcRow v l < 4294967296
  | [], _, h => h
  | c :: l, _, h => crcRow_lt l _ (crcByte_lt h c)
theorem crcRow_append (v : Nat) (a b : List UInt8) : crcRow v (a ++ b) = crcRow (crcRow v a) b := List.foldl_append ..

theorem xor_ones {v : Nat} (h : v < 4294967296) : 4294967295 ^^^ v = 4294967295 - v := by
  have h1 : (BitVec.allOnes 32 ^^^ BitVec.ofNat 32 v).toNat = 2 ^ 32 - 1 - (BitVec.ofNat 32 v).toNat := by rw [BitVec.allOnes_xor, BitVec.toNat_not]
  rw [BitVec.toNat_xor, BitVec.toNat_allOnes, BitVec.toNat_ofNat, Nat.mod_eq_of_lt (by omega)] at h1
  exact h1
theorem crc_step (v : Nat) (h : v < 4294967296) : bits .xor .u32 ((v : Int) / 2) (bits .and .u32 3988292384 (IntKind.u32.wrap (-bits .and .u32 (v : Int) 1))) = (crcBit v : Int) := by
  have e1 : bits .and .u32 (v : Int) 1 = ((v % 2 : Nat) : Int) := by
    rw [show (1 : Int) = ((1 : Nat) : Int) from rfl, u32_and_nat v 1 h (by omega), nat_mask1]
  have e0 : (v : Int) / 2 = ((v / 2 : Nat) : Int) := by omega
  rw [e1, e0]
  unfold crcBit
  by_cases hb : v % 2 = 1
  · rw [hb, if_pos rfl]
    have e2 : IntKind.u32.wrap (-((1 : Nat) : Int)) = ((4294967295 : Nat) : Int) := by rw [IntKind.wrap_u32']; omega
    rw [e2, show (3988292384 : Int) = ((3988292384 : Nat) : Int) from rfl, u32_and_nat _ _ (by omega) (by omega), show (3988292384 &&& 4294967295 : Nat) = 3988292384 by decide, u32_xor_nat _ _ (by omega) (by omega)]
  · have hb : v % 2 = 0 := by omega
    rw [hb, if_neg (by omega)]
    have e2 : IntKind.u32.wrap (-((0 : Nat) : Int)) = ((0 : Nat) : Int) := by rw [IntKind.wrap_u32']; omega
    rw [e2, show (3988292384 : Int) = ((3988292384 : Nat) : Int) from rfl, u32_and_nat _ _ (by omega) (by omega), Nat.and_zero, u32_xor_nat _ _ (by omega) (by omega), Nat.xor_zero]
theorem sum_spec (ps : List (List UInt8)) (A : Option Addr) (c : Nat) (w : World) (S : Nat → Prop) (hr : Brs w A ps S) (hl : ps.length ≤ 140737488355328) (hl2 : ∀ p ∈ ps, p.length ≤ 140737488355328) :
    Cal Try.prog 46 #[.slice A ps.length c] w fun v w' => v = .int .u32 (sumL ps.flatten : Nat) ∧ w = w' := by
  obtain ⟨vs, hvl, hrd, hoA, hi⟩ := hr
  refine enter Try.mixed Try.func46 rfl (by kernel_rfl) ?_
  simp -dsimp [go_sem]
  refine loop [3, 5, 7, 10, 11, 12, 13, 14, 15, 16, 17, 18, 19, 20, 21, 22, 23, 24, 25, 26, 27, 28, 29, 30, 31, 32, 33, 34, 35] (by kernel_rfl)
    (fun f w' => Box2 (fun a b w' => ∃ k v : Nat, k ≤ ps.length ∧ a = i64 k ∧ b = .int .u32 v ∧ v < 4294967296 ∧ v = crcRow 4294967295 (ps.take k).flatten ∧ w = w') (f 10) (f 3) w') (fun f _ => ps.length - (intOf (f 10)).toNat) ⟨0, 4294967295, by simp [upd, crcRow]⟩ ?_
  rintro f w' ⟨k, v, hk, f10, f3, hv, hv2, rfl⟩
  simp -dsimp [go_sem, f10, f3]
  refine cond_d (fun hlt => ?_) (fun hlt => ?_)
  · have hlt : k < ps.length := by omega
    obtain ⟨B, d, hvk, hrB, hoB, hd⟩ := hi k hlt
    obtain ⟨b, o, rfl, hcell⟩ := hrd k _ hvk
    have hpl := hl2 _ (List.getElem_mem hlt)
    simp -dsimp [go_sem, f10, f3, hlt, hcell]
    refine loop [3, 7, 16, 17, 18, 19, 20, 21, 22, 23, 24, 25, 26, 27, 28, 29, 30, 31, 32, 33, 34] (by kernel_rfl)
      (fun f2 w' => Box2 (fun a b w' => ∃ j u : Nat, j ≤ ps[k].length ∧ a = i64 j ∧ b = .int .u32 u ∧ u < 4294967296 ∧ u = crcRow v (ps[k].take j) ∧ w = w') (f2 16) (f2 3) w') (fun f2 _ => ps[k].length - (intOf (f2 16)).toNat) ⟨0, v, by simp [upd, crcRow, f3, hv, mix]⟩ ?_
    rintro f2 w' ⟨j, u, hj, f16, f23, hu, hu2, rfl⟩
    simp -dsimp [go_sem, f16, f23]
    refine cond_d (fun hjl => ?_) (fun hjl => ?_)
    · have hjl : j < ps[k].length := by omega
      obtain ⟨b2, o2, rfl, hcell2⟩ := hrB j (u8 (ps[k][j])) (by simp [hjl])
      have hc := UInt8.toNat_lt ps[k][j]
      have hx : bits .xor .u32 (u : Int) (IntKind.u32.wrap (ps[k][j].toNat : Int)) = ((u ^^^ ps[k][j].toNat : Nat) : Int) := by
        rw [show IntKind.u32.wrap (ps[k][j].toNat : Int) = (ps[k][j].toNat : Int) by rw [IntKind.wrap_u32']; omega, u32_xor_nat _ _ hu (by omega)]
      have hxl : u ^^^ ps[k][j].toNat < 4294967296 := Nat.xor_lt_two_pow (n := 32) (by omega) (by omega)
      obtain ⟨x, hx'⟩ : ∃ x, x = u ^^^ ps[k][j].toNat := ⟨_, rfl⟩
      rw [← hx'] at hx hxl
      simp -dsimp [go_sem, f16, f23, hjl, hcell2, hx]
      refine loop [3, 24, 25, 26, 27, 28, 29, 30, 31, 32, 33] (by kernel_rfl)
        (fun f3 w' => Box2 (fun a b w' => ∃ i y : Nat, i ≤ 8 ∧ a = i64 i ∧ b = .int .u32 y ∧ y < 4294967296 ∧ y = crcBits i x ∧ w = w') (f3 24) (f3 3) w') (fun f3 _ => 8 - (intOf (f3 24)).toNat) ⟨0, x, by simp [upd, crcBits, hxl]⟩ ?_
      rintro f3 w' ⟨i, y, hi8, f24, f33, hy, hy2, rfl⟩
      simp -dsimp [go_sem, f24, f33]
      refine cond_d (fun hil => ?_) (fun hil => ?_)
      · have hil : i < 8 := by omega
        have hst := crc_step y hy
        have hcl := crcBit_lt hy
        have hcs : crcBit y = crcBits (i + 1) x := by rw [crcBits_succ, hy2]
        obtain ⟨z, hz⟩ : ∃ z, z = crcBit y := ⟨_, rfl⟩
        rw [← hz] at hst hcl hcs
        have hk1 : IntKind.i64.wrap ((i : Int) + 1) = ((i + 1 : Nat) : Int) := w64 (by omega) (by omega)
        obtain ⟨k1, hk1'⟩ : ∃ k1, k1 = i + 1 := ⟨_, rfl⟩
        rw [← hk1'] at hk1
        simp -dsimp [go_sem, f24, f33, hst, hk1]
        exact ⟨⟨k1, z, by omega, rfl, rfl, hcl, by rw [hk1', hcs], rfl⟩, by simp [intOf]; omega⟩
      · obtain rfl : i = 8 := by omega
        have hk1 : IntKind.i64.wrap ((j : Int) + 1) = ((j + 1 : Nat) : Int) := w64 (by omega) (by omega)
        obtain ⟨k1, hk1'⟩ : ∃ k1, k1 = j + 1 := ⟨_, rfl⟩
        rw [← hk1'] at hk1
        simp -dsimp [go_sem, f16, f33, hk1]
        refine ⟨⟨k1, y, by omega, rfl, rfl, hy, ?_, rfl⟩, by simp [intOf]; omega⟩
        rw [hk1', List.take_succ_eq_append_getElem hjl, crcRow_append, ← hu2, hy2, hx']
        rfl
    · obtain rfl : j = ps[k].length := by omega
      have hk1 : IntKind.i64.wrap ((k : Int) + 1) = ((k + 1 : Nat) : Int) := w64 (by omega) (by omega)
      obtain ⟨k1, hk1'⟩ : ∃ k1, k1 = k + 1 := ⟨_, rfl⟩
      rw [← hk1'] at hk1
      simp -dsimp [go_sem, f10, f23, hk1]
      refine ⟨⟨k1, u, by omega, rfl, rfl, hu, ?_, rfl⟩, by simp [intOf]; omega⟩
      rw [hk1', List.take_succ_eq_append_getElem hlt, List.flatten_append, crcRow_append, ← hv2, hu2, List.take_length]
      simp
  · obtain rfl : k = ps.length := by omega
    simp -dsimp [go_sem, f3]
    show bits .xor .u32 ((4294967295 : Nat) : Int) (v : Int) = _
    rw [u32_xor_nat _ _ (by omega) hv, xor_ones hv, hv2, List.take_length]
    rfl

theorem crc_if (v : Nat) (h : v < 4294967296) : (if bits .and .u32 (v : Int) 1 = 1 then bits .xor .u32 ((v : Int) / 2) 3988292384 else (v : Int) / 2) = (crcBit v : Int) := by
  rw [show (1 : Int) = ((1 : Nat) : Int) from rfl, u32_and_nat _ _ h (by omega), show v &&& 1 = v % 2 from Nat.and_two_pow_sub_one_eq_mod v 1, show (v : Int) / 2 = ((v / 2 : Nat) : Int) by omega, show (3988292384 : Int) = ((3988292384 : Nat) : Int) from rfl, u32_xor_nat _ _ (by omega) (by omega)]
  unfold crcBit
  by_cases h1 : v % 2 = 1
  · rw [if_pos h1, if_pos (by omega)]
  · rw [if_neg h1, if_neg (by omega)]
end Go.Proofs.Ytfdbnlgokaapnaa
