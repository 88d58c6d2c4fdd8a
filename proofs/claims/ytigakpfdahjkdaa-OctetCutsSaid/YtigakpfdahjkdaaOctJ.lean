/-
  OctetSums walked: the check sum of rows. By the session itself.
-/
import Derived.Test.YtigakpfdahjkdaaOctI
namespace Go.Proofs.Ytigakpfdahjkdaa
set_option linter.unusedSimpArgs false
set_option linter.unusedVariables false
open Go.Vc Go.RowKit

/-! A byte that is another one has another sum. -/
theorem crcBit_hi {v : Nat} (h : v < 4294967296) : 2147483648 ≤ crcBit v ↔ v % 2 = 1 := by
  unfold crcBit
  split
  · rename_i h1
    refine ⟨fun _ => h1, fun _ => ?_⟩
    have ht : (v / 2 ^^^ 3988292384).testBit 31 = true := by
      rw [Nat.testBit_xor, Nat.testBit_lt_two_pow (show v / 2 < 2 ^ 31 by omega)]
      decide
    exact Nat.ge_two_pow_of_testBit ht
  · omega
theorem crcBit_inj {a b : Nat} (ha : a < 4294967296) (hb : b < 4294967296) (h : crcBit a = crcBit b) : a = b := by
  have h1 := crcBit_hi ha
  have h2 := crcBit_hi hb
  have hp : a % 2 = 1 ↔ b % 2 = 1 := by rw [← h1, ← h2, h]
  unfold crcBit at h
  by_cases h0 : a % 2 = 1
  · rw [if_pos h0, if_pos (hp.1 h0)] at h
    have := congrArg (· ^^^ 3988292384) h
    simp only [Nat.xor_assoc, Nat.xor_self, Nat.xor_zero] at this
    omega
  · rw [if_neg h0, if_neg (fun h => h0 (hp.2 h))] at h
    omega
theorem crcBits_inj : ∀ (n a b : Nat), a < 4294967296 → b < 4294967296 → crcBits n a = crcBits n b → a = b
  | 0, a, b, _, _, h => h
  | n + 1, a, b, ha, hb, h => by
    rw [crcBits_succ, crcBits_succ] at h
    exact crcBits_inj n a b ha hb (crcBit_inj (crcBits_lt n a ha) (crcBits_lt n b hb) h)
theorem crcByte_inj {a b : Nat} {c d : UInt8} (ha : a < 4294967296) (hb : b < 4294967296) (h : crcByte a c = crcByte b d) : a ^^^ c.toNat = b ^^^ d.toNat := by
  have hc := UInt8.toNat_lt c
  have hd := UInt8.toNat_lt d
  exact crcBits_inj 8 _ _ (Nat.xor_lt_two_pow (n := 32) ha (by omega)) (Nat.xor_lt_two_pow (n := 32) hb (by omega)) h
theorem xor_right_inj {a b c : Nat} (h : a ^^^ c = b ^^^ c) : a = b := by
  have := congrArg (· ^^^ c) h
  simpa only [Nat.xor_assoc, Nat.xor_self, Nat.xor_zero] using this
theorem crcRow_inj : ∀ (l : List UInt8) (a b : Nat), a < 4294967296 → b < 4294967296 → crcRow a l = crcRow b l → a = b
  | [], a, b, _, _, h => h
  | c :: l, a, b, ha, hb, h => xor_right_inj (crcByte_inj ha hb (crcRow_inj l _ _ (crcByte_lt ha c) (crcByte_lt hb c) h))
theorem sum_flip (l : List UInt8) (j : Nat) (hj : j < l.length) (x : UInt8) (hx : x ≠ l[j]) : sumL (l.set j x) ≠ sumL l := by
  intro h
  have e1 : l = l.take j ++ l[j] :: l.drop (j + 1) := by rw [List.getElem_cons_drop, List.take_append_drop]
  have e2 : l.set j x = l.take j ++ x :: l.drop (j + 1) := by rw [List.set_eq_take_append_cons_drop, if_pos hj]
  have hv := crcRow_lt (l.take j) 4294967295 (by omega)
  have hs : crcRow 4294967295 (l.set j x) = crcRow 4294967295 l := by
    have h1 := crcRow_lt (l.set j x) 4294967295 (by omega)
    have h2 := crcRow_lt l 4294967295 (by omega)
    unfold sumL at h
    omega
  rw [e2] at hs
  conv at hs => rhs; rw [e1]
  rw [crcRow_append, crcRow_append] at hs
  have hs : crcRow (crcByte (crcRow 4294967295 (l.take j)) x) (l.drop (j + 1)) = crcRow (crcByte (crcRow 4294967295 (l.take j)) l[j]) (l.drop (j + 1)) := hs
  have h3 := crcByte_inj hv hv (crcRow_inj _ _ _ (crcByte_lt hv _) (crcByte_lt hv _) hs)
  rw [Nat.xor_comm _ x.toNat, Nat.xor_comm _ l[j].toNat] at h3
  exact hx (UInt8.toNat_inj.1 (xor_right_inj h3))

theorem i64_and30 (n : Int) : bits .and .i64 n 1073741823 = n % 1073741824 := by
  have h127 : (BitVec.ofInt 64 1073741823).toNat = 2 ^ 30 - 1 := by decide
  have key : (BitVec.ofInt 64 n &&& BitVec.ofInt 64 1073741823).toNat = (n % ((2 ^ 64 : Nat) : Int)).toNat % 2 ^ 30 := by
    rw [BitVec.toNat_and, BitVec.toNat_ofInt, h127, Nat.and_two_pow_sub_one_eq_mod]
  show IntKind.i64.wrap ((BitVec.ofInt 64 n &&& BitVec.ofInt 64 1073741823).toNat : Nat) = n % 1073741824
  rw [key, IntKind.wrap_i64]
  omega

theorem sums_law (ps : List (List UInt8)) (A : Option Addr) (c : Nat) (a : Int) (by_ : Nat) (w : World) (hr : Brs w A ps fun _ => False) (hc : ps.length ≤ c) (hb : by_ < 256) :
    Cal Try.prog 6 #[.slice A ps.length c, i64 a, .int .u8 by_] w fun u w' => u = .bool true ∧ Nw w w' := by
  refine enter Try.mixed Try.func6 rfl (by kernel_rfl) ?_
  simp -dsimp [go_sem]
  refine call (heavy_spec ps w A c _ hr) ?_
  rintro v w1 ⟨heavy, rfl, hwei, rfl⟩
  simp -dsimp [go_sem]
  refine cond_b (fun hv => ?_) (fun hv => ?_)
  · simp -dsimp [go_sem]
    exact Kp.refl _ _
  · have hwei := hwei hv
    have hfl := wei_flat ps
    have hge := wei_ge ps
    have hmem := fun p hp => Nat.le_trans (wei_mem ps p hp) hwei
    simp -dsimp [go_sem]
    refine call (join_spec ps A c w1 _ hr hc (by omega) (by omega)) ?_
    rintro v w2 ⟨hB2, hk2⟩
    obtain ⟨l, hl⟩ : ∃ l, l = ps.flatten := ⟨_, rfl⟩
    rw [← hl] at hB2 hfl
    obtain ⟨A2, c2, rfl, ho2, hA2⟩ := hB2
    simp -dsimp [go_sem]
    refine loop [8, 9, 15, 16, 17, 18, 19, 20, 21, 22, 23, 24, 25, 26] (by kernel_rfl) (fun f w' => Box2 (fun a b w' => ∃ i : Nat, i ≤ ps.length ∧ b = i64 i ∧ Bs w' a (ps.take i).flatten w2.heap.size ∧ Nw w2 w') (f 8) (f 9) w')
      (fun f _ => ps.length - (intOf (f 9)).toNat) ⟨0, Nat.zero_le _, rfl, Bs.nil _ _, Kp.refl _ _⟩ ?_
    rintro f w3 ⟨i, hi, f9, hB3, hK⟩
    have hft := flat_take ps i
    rw [← hl] at hft
    simp -dsimp [go_sem, f9]
    refine cond_d (fun hlt => ?_) (fun hlt => ?_)
    · have hlt : i < ps.length := by omega
      obtain ⟨vs, hvl, hrd, hoA, hi'⟩ := id hr
      obtain ⟨B, d, hv, hrB, hoB, hd⟩ := hi' i hlt
      obtain ⟨b, o, rfl, hcell⟩ := hrd i _ hv
      have hcell' := (hk2.nw hK).cell_some hcell fun h => h
      have hpl := hmem ps[i] (List.getElem_mem hlt)
      simp -dsimp [go_sem, f9, hlt, hcell']
      refine bs_app hB3 (hrB.nw (hk2.nw hK)) (by omega) hK.size ?_
      intro v4 w4 hB4 hk4
      rw [← flat_at ps i hlt] at hB4
      have hk1 : IntKind.i64.wrap ((i : Int) + 1) = ((i + 1 : Nat) : Int) := w64 (by omega) (by omega)
      obtain ⟨k1, hk1'⟩ : ∃ k1, k1 = i + 1 := ⟨_, rfl⟩
      rw [← hk1'] at hk1 hB4
      simp -dsimp [go_sem, f9, hk1]
      exact ⟨⟨k1, by omega, rfl, hB4, Nw.fr hK hk4 (Nat.le_refl _)⟩, by simp [intOf]; omega⟩
    · obtain rfl : i = ps.length := by omega
      rw [List.take_length, ← hl] at hB3
      obtain ⟨A3, c3, f8, ho3, hA3⟩ := hB3
      have k3 : Nw w1 w3 := hk2.nw hK
      simp -dsimp [go_sem, f8]
      refine call (sum_spec ps A c w3 _ (hr.nw k3) (by omega) (fun p hp => Nat.le_trans (hmem p hp) (by omega))) ?_
      rintro v w4 ⟨rfl, rfl⟩
      rw [← hl]
      simp -dsimp [go_sem, f8]
      refine call (same_spec A2 A3 c2 c3 l l w3 (ho2.rd.nw hK) ho3.rd (by omega)) ?_
      rintro v w4 ⟨rfl, hk4⟩
      have k4 := k3.nw hk4
      simp -dsimp [go_sem, f8]
      refine call (refSum_spec l A3 c3 w4 (ho3.rd.nw hk4) (by omega)) ?_
      rintro v w5 ⟨rfl, rfl⟩
      simp -dsimp [go_sem, f8]
      have no : ∀ A, Off A fun _ => False := fun _ _ _ h => h
      have hsum1 : ∀ (l : List UInt8), sumL ([l] : List (List UInt8)).flatten = sumL l := fun l => by simp
      refine call (sum_spec [l] _ 1 _ (fun _ => False) (Brs.one (p := l) (d := c3) (Blk.new w5 _ _) (fun h => h) ((ho3.rd.nw hk4).nw ((Kp.refl _ _).alloc _)) (no _) ho3.2.1) (by simp) (by simp; omega)) ?_
      rintro v w6 ⟨rfl, rfl⟩
      rw [hsum1]
      simp -dsimp [go_sem, f8]
      have k5 : Nw w1 (w5.alloc (.cells #[.slice A3 l.length c3] 34)) := k4.alloc _
      by_cases hgo : 0 < l.length ∧ by_ ≠ 0
      · obtain ⟨h1, h2⟩ := hgo
        have h2' : ((by_ : Int) != 0) = true := by simp; omega
        have hand := i64_and30 a
        have hrem : (a % 1073741824).tmod (l.length : Int) = (((a % 1073741824).toNat % l.length : Nat) : Int) := by
          have e : a % 1073741824 = ((a % 1073741824).toNat : Int) := by omega
          rw [Int.tmod_eq_emod_of_nonneg (by omega)]
          generalize (a % 1073741824).toNat = n at e ⊢
          rw [e]
          rfl
        have hjl : (a % 1073741824).toNat % l.length < l.length := Nat.mod_lt _ h1
        obtain ⟨j, hj⟩ : ∃ j, j = (a % 1073741824).toNat % l.length := ⟨_, rfl⟩
        rw [← hj] at hrem hjl
        have hne0 : ¬ l.length = 0 := by omega
        have hjl' : (j : Int) < (l.length : Int) := by omega
        obtain ⟨g, rfl⟩ := ho3.some h1
        have ho5 := (ho3.nw hk4).nw ((Kp.refl _ w5).alloc (.cells #[.slice (some ⟨g, 0, none⟩) l.length c3] 34))
        obtain ⟨b, o, e, hcj⟩ := ho5.rd j (u8 l[j]) (by simp [hjl])
        cases e
        rw [Nat.zero_add] at hcj
        have hfj := ho5.frozen j
        have hx8 := UInt8.toNat_lt l[j]
        have hxor : bits .xor .u8 (l[j].toNat : Int) (by_ : Int) = ((l[j].toNat ^^^ by_ : Nat) : Int) := u8_xor_nat _ _ (by omega) (by omega)
        have hxl : l[j].toNat ^^^ by_ < 256 := Nat.xor_lt_two_pow (n := 8) (by omega) (by omega)
        have hxne : l[j].toNat ^^^ by_ ≠ l[j].toNat := fun e => by
          have := congrArg (l[j].toNat ^^^ ·) e
          simp only [← Nat.xor_assoc, Nat.xor_self, Nat.zero_xor] at this
          exact h2 this
        obtain ⟨x, hx⟩ : ∃ x, x = l[j].toNat ^^^ by_ := ⟨_, rfl⟩
        rw [← hx] at hxor hxl hxne
        simp -dsimp [go_sem, h1, h2', hand, hrem, f8, hjl, hcj, hfj, hne0, hxor]
        have ho6 := ho5.set j (.int .u8 (x : Int))
        rw [← byteOf x hxl, ← List.map_set] at ho6
        obtain ⟨l', hl'⟩ : ∃ l', l' = l.set j (UInt8.ofNat x) := ⟨_, rfl⟩
        have hll : l'.length = l.length := by rw [hl', List.length_set]
        rw [← hl', byteOf x hxl] at ho6
        have hflip := sum_flip l j hjl (UInt8.ofNat x) (fun e => hxne (by rw [← e]; simp; omega))
        rw [← hl'] at hflip
        rw [← hll] at ho6
        rw [← hll]
        refine call (sum_spec [l'] _ 1 _ (fun _ => False) (Brs.one (p := l') (d := c3) (Blk.fresh (by simp)) (fun h => h) (ho6.rd.nw ((Kp.refl _ _).alloc _)) (no _) ho6.2.1) (by simp) (by simp; omega)) ?_
        rintro v w6 ⟨rfl, rfl⟩
        rw [hsum1]
        have hs1 : ((sumL l' : Int) == (sumL l : Int)) = false := by simp; omega
        simp -dsimp [go_sem, hs1]
        refine call (known_spec _) ?_
        rintro v w6 ⟨rfl, hk6⟩
        simp -dsimp [go_sem]
        rw [← hll] at k5
        have hgb : w1.heap.size ≤ g := by
          have := hA3 _ rfl
          have := hk2.size
          simp at *
          omega
        exact ((k5.setCell _ _ (.inl hgb)).alloc _).nw hk6
      · by_cases h1 : 0 < l.length
        · have h2 : by_ = 0 := by omega
          subst h2
          simp -dsimp [go_sem, h1]
          refine call (known_spec _) ?_
          rintro v w6 ⟨rfl, hk6⟩
          simp -dsimp [go_sem]
          exact k5.nw hk6
        · simp -dsimp [go_sem, h1]
          refine call (known_spec _) ?_
          rintro v w6 ⟨rfl, hk6⟩
          simp -dsimp [go_sem]
          exact k5.nw hk6
end Go.Proofs.Ytigakpfdahjkdaa
