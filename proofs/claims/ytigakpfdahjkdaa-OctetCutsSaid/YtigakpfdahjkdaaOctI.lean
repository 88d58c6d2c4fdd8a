/-
  bytes.Join and octet.Join walked. By the session itself.
-/
import Derived.Test.YtigakpfdahjkdaaOctG
namespace Go.Proofs.Ytigakpfdahjkdaa
set_option linter.unusedSimpArgs false
set_option linter.unusedVariables false
open Go.Vc Go.RowKit

theorem flat_at (ps : List (List UInt8)) (k : Nat) (hk : k < ps.length) : (ps.take (k + 1)).flatten = (ps.take k).flatten ++ ps[k] := by
  rw [List.take_succ_eq_append_getElem hk, List.flatten_append]
  simp
theorem flat_take (ps : List (List UInt8)) (k : Nat) : (ps.take k).flatten.length ≤ ps.flatten.length := by
  have h := congrArg (fun l => l.flatten.length) (List.take_append_drop k ps)
  simp only [List.flatten_append, List.length_append] at h
  omega

theorem bjoin_spec (ps : List (List UInt8)) (A : Option Addr) (c : Nat) (w : World) (S : Nat → Prop) (hr : Brs w A ps S) (hc : ps.length ≤ c) (hp : ps.length ≤ 140737488355328) (hl : ps.flatten.length ≤ 140737488355328) :
    Cal Try.prog 49 #[.slice A ps.length c, .slice none 0 0] w fun v w' => Bs w' v ps.flatten w.heap.size ∧ Nw w w' := by
  refine enter Try.mixed Try.func49 rfl (by kernel_rfl) ?_
  simp -dsimp [go_sem]
  refine cond_e (fun h0 => ?_) (fun h0 => ?_)
  · have h0 : ps = [] := List.eq_nil_of_length_eq_zero (by omega)
    subst h0
    simp -dsimp [go_sem]
    exact ⟨Gs.made w 5 1 0 #[] rfl rfl rfl (by simp [maxLen]) (Nat.le_refl _), (Kp.refl _ _).alloc _⟩
  · simp -dsimp [go_sem]
    obtain ⟨vs, hvl, hrd, hoA, hi⟩ := id hr
    refine cond_e (fun h1 => ?_) (fun h1 => ?_)
    · have h1 : ps.length = 1 := by omega
      obtain ⟨p, rfl⟩ := List.length_eq_one_iff.1 h1
      obtain ⟨B, d, hv, hrB, hoB, hd⟩ := hi 0 (by simp)
      obtain ⟨b, o, rfl, hcell⟩ := hrd 0 _ hv
      simp at hcell hl
      simp -dsimp [go_sem, hcell]
      refine bs_app (m := p) (l := []) (B := w.heap.size) (Bs.nil _ _) hrB (by simpa using hl) (Nat.le_refl _) ?_
      intro v1 w1 hB1 hk1
      simp -dsimp [go_sem]
      exact ⟨by simpa using hB1, Nw.fr (Kp.refl _ _) hk1 (Nat.le_refl _)⟩
    · have hge : 2 ≤ ps.length := by omega
      simp -dsimp [go_sem]
      refine loop [5, 7, 44, 45, 46, 47, 48, 49, 50, 51, 52, 53, 54, 55, 56, 57, 58] (by kernel_rfl) (fun f w' => Box2 (fun a b w' => ∃ k : Nat, k ≤ ps.length ∧ b = i64 k ∧ a = i64 (ps.take k).flatten.length ∧ w' = w) (f 5) (f 44) w')
        (fun f _ => ps.length - (intOf (f 44)).toNat) ⟨0, Nat.zero_le _, rfl, rfl, rfl⟩ ?_
      rintro f w' ⟨k, hk, f44, f5, rfl⟩
      have hft := flat_take ps k
      obtain ⟨x, hx⟩ : ∃ x, x = (ps.take k).flatten.length := ⟨_, rfl⟩
      rw [← hx] at f5 hft
      simp -dsimp [go_sem, f44]
      refine cond_d (fun hlt => ?_) (fun hlt => ?_)
      · have hlt : k < ps.length := by omega
        obtain ⟨B, d, hv, hrB, hoB, hd⟩ := hi k hlt
        obtain ⟨b, o, rfl, hcell⟩ := hrd k _ hv
        have hat := congrArg List.length (flat_at ps k hlt)
        rw [List.length_append, ← hx] at hat
        have hft1 := flat_take ps (k + 1)
        have hs1 : IntKind.i64.wrap (9223372036854775807 - (x : Int)) = ((9223372036854775807 - x : Nat) : Int) := by rw [w64 (by omega) (by omega)]; omega
        obtain ⟨y, hy⟩ : ∃ y, y = 9223372036854775807 - x := ⟨_, rfl⟩
        rw [← hy] at hs1
        simp -dsimp [go_sem, f5, f44, hlt, hcell, hs1]
        refine cond_d (fun hbig => ?_) (fun hbig => ?_)
        · omega
        · have h2 : IntKind.i64.wrap ((x : Int) + (ps[k].length : Int)) = ((x + ps[k].length : Nat) : Int) := w64 (by omega) (by omega)
          have hk1 : IntKind.i64.wrap ((k : Int) + 1) = ((k + 1 : Nat) : Int) := w64 (by omega) (by omega)
          obtain ⟨k1, hk1'⟩ : ∃ k1, k1 = k + 1 := ⟨_, rfl⟩
          obtain ⟨z, hz⟩ : ∃ z, z = x + ps[k].length := ⟨_, rfl⟩
          rw [← hz] at h2 hat
          rw [← hk1'] at hk1 hat
          simp -dsimp [go_sem, f5, f44, h2, hk1]
          exact ⟨⟨k1, by omega, rfl, by rw [hat], rfl⟩, by simp [intOf]; omega⟩
      · obtain rfl : k = ps.length := by omega
        rw [List.take_length] at hx
        simp -dsimp [go_sem, f5]
        refine nz_ok (e := 5) (by kernel_rfl) x (by omega) ?_
        intro cs hcs1 hcs2
        obtain ⟨B0, d0, hv0, hrB0, hoB0, hd0⟩ := hi 0 (by omega)
        obtain ⟨b, o, rfl, hcell0⟩ := hrd 0 _ hv0
        rw [Nat.add_zero] at hcell0
        have k0 : Nw w' (w'.drew.drew.alloc (.cells cs 5)) := (Kp.refl _ _).drew.drew.alloc _
        have hcell0' := k0.cell_some hcell0 fun h => h
        have hb0 : Blk (w'.drew.drew.alloc (.cells cs 5)) w'.heap.size 5 cs := Blk.new w'.drew.drew _ _
        have hn0 : 0 < ps.length := by omega
        have hat0 := flat_at ps 0 (by omega)
        rw [List.take_zero, List.flatten_nil, List.nil_append] at hat0
        have hft0 := flat_take ps 1
        rw [hat0] at hft0
        generalize hw1 : w'.drew.drew.alloc (.cells cs 5) = w1 at *
        obtain ⟨g, hg⟩ : ∃ g, g = w'.heap.size := ⟨_, rfl⟩
        rw [← hg] at hb0 ⊢
        simp -dsimp [go_sem, hcs1, f5, hcell0', hn0]
        refine copy_at (elem := 5) (ys := ps[0].map u8) (by kernel_rfl) (by kernel_rfl) (fun _ => rfl) hb0 (hrB0.nw k0) (by simp) (by omega) (by omega) (one_u8 _) ?_
        intro w2 cur2 hb2 hs2 ht2 hk2
        have k2 : Nw w' w2 := Nw.at_ k0 hk2 (Nf.at_ (by omega))
        rw [List.take_zero, List.nil_append, Nat.zero_add, ← hat0] at ht2
        have hlen1 : ps[0].length = (ps.take 1).flatten.length := by rw [← hat0]
        rw [hlen1]
        have ht2 : cur2.toList.take (ps.take 1).flatten.length = (ps.take 1).flatten.map u8 := ht2
        obtain ⟨m1, hm1⟩ : ∃ m1, m1 = (ps.take 1).flatten.length := ⟨_, rfl⟩
        rw [← hm1]
        have hc1 : ¬ c = 1 := by omega
        have hc2 : (1 : Int) ≤ (ps.length : Int) := by omega
        obtain ⟨q, hq⟩ : ∃ q, ps.length - 1 = q := ⟨_, rfl⟩
        simp -dsimp [go_sem, hc1, hn0, hc2, hq]
        refine loop [9, 11, 72, 73, 74, 75, 76, 77, 78, 79, 80, 81, 82, 83, 84, 85, 86, 87, 88, 89, 90] (by kernel_rfl)
          (fun f w3 => Box2 (fun a b' w3 => ∃ k cur, k + 1 ≤ ps.length ∧ b' = i64 k ∧ a = i64 (ps.take (k + 1)).flatten.length ∧ Blk w3 g 5 cur ∧ cur.size = cs.size ∧ cur.toList.take (ps.take (k + 1)).flatten.length = (ps.take (k + 1)).flatten.map u8 ∧ Nw w' w3) (f 9) (f 72) w3)
          (fun f _ => ps.length - (intOf (f 72)).toNat) ⟨0, cur2, by omega, rfl, by rw [← hm1]; rfl, hb2, hs2, ht2, k2⟩ ?_
        rintro f3 w3 ⟨k, cur, hk, f72, f9, hb, hs, ht, hK⟩
        have hft3 := flat_take ps (k + 1)
        obtain ⟨m, hm⟩ : ∃ m, m = (ps.take (k + 1)).flatten.length := ⟨_, rfl⟩
        rw [← hm] at f9 ht hft3
        simp -dsimp [go_sem, f72]
        refine cond_d (fun hlt => ?_) (fun hlt => ?_)
        · have hlt : k < q := by omega
          obtain ⟨B, d, hv, hrB, hoB, hd⟩ := hi (k + 1) (by omega)
          obtain ⟨b1, o1, e, hcell⟩ := hrd (k + 1) _ hv
          cases e
          have hcell' := hK.cell_some hcell fun h => h
          rw [show o + (k + 1) = o + 1 + k by omega] at hcell'
          have hat := flat_at ps (k + 1) (by omega)
          have hal := congrArg List.length hat
          rw [List.length_append, ← hm] at hal
          have hft4 := flat_take ps (k + 1 + 1)
          have hmx : m ≤ x := by omega
          have hmx' : (m : Int) ≤ (x : Int) := by omega
          simp -dsimp [go_sem, f72, f9, hlt, hcell', hmx, hmx']
          refine copy_none (elem := 5) (by kernel_rfl) (by kernel_rfl) ?_
          have hm0 : IntKind.i64.wrap (m : Int) = m := w64 (by omega) (by omega)
          simp -dsimp [go_sem, hmx, hmx', hm0]
          refine copy_at (elem := 5) (ys := ps[k + 1].map u8) (g := g) (o := m) (by kernel_rfl) (by kernel_rfl) (fun h => by rw [if_neg (by omega)]) hb ((hrB.nw hK)) (by simp) (by omega) (by omega) (one_u8 _) ?_
          intro w4 cur4 hb4 hs4 ht4 hk4
          have h2 : IntKind.i64.wrap ((m : Int) + (ps[k + 1].length : Int)) = ((m + ps[k + 1].length : Nat) : Int) := w64 (by omega) (by omega)
          have hk1 : IntKind.i64.wrap ((k : Int) + 1) = ((k + 1 : Nat) : Int) := w64 (by omega) (by omega)
          obtain ⟨z, hz⟩ : ∃ z, z = m + ps[k + 1].length := ⟨_, rfl⟩
          obtain ⟨k1, hk1'⟩ : ∃ k1, k1 = k + 1 := ⟨_, rfl⟩
          rw [← hz] at h2 hal ht4
          rw [← hk1'] at hk1
          simp -dsimp [go_sem, f72, h2, hk1]
          subst hk1'
          refine ⟨⟨k + 1, cur4, by omega, rfl, by rw [hal], hb4, hs4.trans hs, ?_, Nw.at_ hK hk4 (Nf.at_ (by omega))⟩, by simp [intOf]; omega⟩
          rw [hal, ht4, ht, hat, List.map_append]
        · obtain rfl : k = q := by omega
          simp -dsimp [go_sem]
          have hall : ps.take (k + 1) = ps := List.take_of_length_le (by omega)
          rw [hall] at ht hm
          refine ⟨⟨_, x, by rw [hx], ⟨by rw [List.length_map, Nat.mul_one], by omega, by simp only [maxLen]; omega, .inr ⟨g, cur, rfl, hb, by omega, ?_⟩⟩, fun a ha => by cases ha; exact Nat.le_refl _⟩, hK⟩
          rw [← hm, Nat.mul_one, ht]

theorem join_spec (ps : List (List UInt8)) (A : Option Addr) (c : Nat) (w : World) (S : Nat → Prop) (hr : Brs w A ps S) (hc : ps.length ≤ c) (hp : ps.length ≤ 140737488355328) (hl : ps.flatten.length ≤ 140737488355328) :
    Cal Try.prog 29 #[.slice A ps.length c] w fun v w' => Bs w' v ps.flatten w.heap.size ∧ Nw w w' := by
  refine enter Try.mixed Try.func29 rfl (by kernel_rfl) ?_
  simp -dsimp [go_sem]
  refine call (bjoin_spec ps A c w S hr hc hp hl) ?_
  rintro v w1 ⟨hB, hk⟩
  simp -dsimp [go_sem]
  exact ⟨hB, hk⟩

theorem crc_if (v : Nat) (h : v < 4294967296) : (if bits .and .u32 (v : Int) 1 = 1 then bits .xor .u32 ((v : Int) / 2) 3988292384 else (v : Int) / 2) = (crcBit v : Int) := by
  rw [show (1 : Int) = ((1 : Nat) : Int) from rfl, u32_and_nat _ _ h (by omega), show v &&& 1 = v % 2 from Nat.and_two_pow_sub_one_eq_mod v 1, show (v : Int) / 2 = ((v / 2 : Nat) : Int) by omega, show (3988292384 : Int) = ((3988292384 : Nat) : Int) from rfl, u32_xor_nat _ _ (by omega) (by omega)]
  unfold crcBit
  by_cases h1 : v % 2 = 1
  · rw [if_pos h1, if_pos (by omega)]
  · rw [if_neg h1, if_neg (by omega)]
theorem refSum_spec (l : List UInt8) (A : Option Addr) (c : Nat) (w : World) (hr : Rd w A (l.map u8)) (hl : l.length ≤ 140737488355328) :
    Cal Try.prog 31 #[.slice A l.length c] w fun v w' => v = .int .u32 (sumL l : Nat) ∧ w' = w := by
  refine enter Try.mixed Try.func31 rfl (by kernel_rfl) ?_
  simp -dsimp [go_sem]
  refine loop [3, 4, 5, 6, 7, 8, 9, 10, 11, 12, 13, 14, 15, 16, 17, 18, 19, 20, 21, 22, 23, 24, 25, 26, 27, 28, 29, 30] (by kernel_rfl)
    (fun f w' => Box2 (fun a b w' => ∃ k v : Nat, k ≤ l.length ∧ b = i64 k ∧ a = .int .u32 v ∧ v < 4294967296 ∧ v = crcRow 4294967295 (l.take k) ∧ w' = w) (f 3) (f 4) w') (fun f _ => l.length - (intOf (f 4)).toNat)
    ⟨0, 4294967295, Nat.zero_le _, rfl, rfl, by omega, rfl, rfl⟩ ?_
  rintro f w' ⟨k, v, hk, f4, f3, hv, hv2, rfl⟩
  simp -dsimp [go_sem, f3, f4]
  refine cond_d (fun hlt => ?_) (fun hlt => ?_)
  · have hlt : k < l.length := by omega
    obtain ⟨b, o, rfl, hcell⟩ := hr k (u8 l[k]) (by simp [hlt])
    have hw : IntKind.u32.wrap (l[k].toNat : Int) = (l[k].toNat : Int) := by have := UInt8.toNat_lt l[k]; rw [IntKind.wrap_u32']; omega
    have hx : bits .xor .u32 (v : Int) (l[k].toNat : Int) = ((v ^^^ l[k].toNat : Nat) : Int) := u32_xor_nat _ _ (by omega) (by have := UInt8.toNat_lt l[k]; omega)
    have hxl : v ^^^ l[k].toNat < 4294967296 := Nat.xor_lt_two_pow (n := 32) hv (by have := UInt8.toNat_lt l[k]; omega)
    obtain ⟨x, hx'⟩ : ∃ x, x = v ^^^ l[k].toNat := ⟨_, rfl⟩
    rw [← hx'] at hx hxl
    simp -dsimp [go_sem, f3, f4, hlt, hcell, hw, hx]
    refine loop [3, 5, 19, 20, 21, 22, 23, 24, 25, 26, 27, 28, 29, 30] (by kernel_rfl)
      (fun f w4 => Box2 (fun a b w3 => ∃ i y : Nat, i ≤ 8 ∧ b = i64 i ∧ a = .int .u32 y ∧ y < 4294967296 ∧ y = crcBits i x ∧ w3 = w') (f 3) (f 5) w4) (fun f _ => 8 - (intOf (f 5)).toNat)
      ⟨0, x, Nat.zero_le _, rfl, rfl, hxl, rfl, rfl⟩ ?_
    rintro f2 w2 ⟨i, y, hi, f5, f3', hy, hy2, rfl⟩
    simp -dsimp [go_sem, f5, f3']
    refine cond_d (fun hil => ?_) (fun hil => ?_)
    · have hil : i < 8 := by omega
      have hst := crc_if y hy
      have hcl := crcBit_lt hy
      have hcs : crcBit y = crcBits (i + 1) x := by rw [crcBits_succ, hy2]
      obtain ⟨z, hz⟩ : ∃ z, z = crcBit y := ⟨_, rfl⟩
      rw [← hz] at hst hcl hcs
      have hk1 : IntKind.i64.wrap ((i : Int) + 1) = ((i + 1 : Nat) : Int) := w64 (by omega) (by omega)
      obtain ⟨k1, hk1'⟩ : ∃ k1, k1 = i + 1 := ⟨_, rfl⟩
      rw [← hk1'] at hk1
      simp -dsimp [go_sem, f5, f3']
      refine cond_e (fun h1 => ?_) (fun h1 => ?_)
      · rw [if_pos h1] at hst
        simp -dsimp [go_sem, f5, f3', hst, hk1]
        exact ⟨⟨k1, z, by omega, rfl, rfl, hcl, by rw [hk1', hcs], rfl⟩, by simp [intOf]; omega⟩
      · rw [if_neg h1] at hst
        simp -dsimp [go_sem, f5, f3', hst, hk1]
        exact ⟨⟨k1, z, by omega, rfl, rfl, hcl, by rw [hk1', hcs], rfl⟩, by simp [intOf]; omega⟩
    · obtain rfl : i = 8 := by omega
      have hk1 : IntKind.i64.wrap ((k : Int) + 1) = ((k + 1 : Nat) : Int) := w64 (by omega) (by omega)
      obtain ⟨k1, hk1'⟩ : ∃ k1, k1 = k + 1 := ⟨_, rfl⟩
      rw [← hk1'] at hk1
      simp -dsimp [go_sem, f4, hk1]
      refine ⟨⟨k1, y, by omega, rfl, f3', hy, ?_, rfl⟩, by simp [intOf]; omega⟩
      rw [hk1', List.take_succ_eq_append_getElem hlt, crcRow_append, ← hv2, hy2, hx']
      rfl
  · obtain rfl : k = l.length := by omega
    simp -dsimp [go_sem, f3]
    show bits .xor .u32 ((4294967295 : Nat) : Int) (v : Int) = _
    rw [u32_xor_nat _ _ (by omega) hv, xor_ones hv, hv2, List.take_length]
    rfl
end Go.Proofs.Ytigakpfdahjkdaa
