/-
  bytes.Join and octet.Join walked. By the session itself.
-/
import Derived.Test.YthonmjgagblogaaGreatBs
namespace Go.Proofs.YthonmjgagblogaaGreat
set_option linter.unusedSimpArgs false
set_option linter.unusedVariables false
set_option maxRecDepth 100000
open Go.Vc Go.RowKit

theorem flat_at (ps : List (List UInt8)) (k : Nat) (hk : k < ps.length) : (ps.take (k + 1)).flatten = (ps.take k).flatten ++ ps[k] := by
  rw [List.take_succ_eq_append_getElem hk, List.flatten_append]
  simp
theorem flat_take (ps : List (List UInt8)) (k : Nat) : (ps.take k).flatten.length ≤ ps.flatten.length := by
  have h := congrArg (fun l => l.flatten.length) (List.take_append_drop k ps)
  simp only [List.flatten_append, List.length_append] at h
  omega

theorem bjoin_spec (ps : List (List UInt8)) (A : Option Addr) (c : Nat) (w : World) (S : Nat → Prop) (hr : Brs w A ps S) (hc : ps.length ≤ c) (hp : ps.length ≤ 140737488355328) (hl : ps.flatten.length ≤ 140737488355328) :
    Cal Tryz.prog 26 #[.slice A ps.length c, .slice none 0 0] w fun v w' => Bs w' v ps.flatten w.heap.size ∧ Nw w w' := by
  refine enter Tryz.mixed Tryz.func26 rfl (by kernel_rfl) ?_
  simp -dsimp [go_sem]
  refine cond_e (fun h0 => ?_) (fun h0 => ?_)
  · have h0 : ps = [] := List.eq_nil_of_length_eq_zero (by omega)
    subst h0
    simp -dsimp [go_sem]
    exact ⟨Gs.made w 5 1 0 #[] rfl rfl rfl (by simp [maxLen]) (Nat.le_refl _), (Kp.refl _ _).alloc _⟩
  · simp -dsimp [go_sem]
    obtain ⟨vs, hvl, hrd, hoA, hi⟩ := id hr
    refine cond_e (fun h1 => ?_) (fun h1 => ?_)
    · have h1 : ps.length = 1 := by omega
      obtain ⟨p, rfl⟩ := List.length_eq_one_iff.1 h1
      obtain ⟨B, d, hv, hrB, hoB, hd⟩ := hi 0 (by simp)
      obtain ⟨b, o, rfl, hcell⟩ := hrd 0 _ hv
      simp at hcell hl
      simp -dsimp [go_sem, hcell]
      refine bs_app (m := p) (l := []) (B := w.heap.size) (Bs.nil _ _) hrB (by simpa using hl) (Nat.le_refl _) ?_
      intro v1 w1 hB1 hk1
      simp -dsimp [go_sem]
      exact ⟨by simpa using hB1, Nw.fr (Kp.refl _ _) hk1 (Nat.le_refl _)⟩
    · have hge : 2 ≤ ps.length := by omega
      simp -dsimp [go_sem]
      refine loop [5, 7, 44, 45, 46, 47, 48, 49, 50, 51, 52, 53, 54, 55, 56, 57, 58] (by kernel_rfl) (fun f w' => Box2 (fun a b w' => ∃ k : Nat, k ≤ ps.length ∧ b = i64 k ∧ a = i64 (ps.take k).flatten.length ∧ w' = w) (f 5) (f 44) w')
        (fun f _ => ps.length - (intOf (f 44)).toNat) ⟨0, Nat.zero_le _, rfl, rfl, rfl⟩ ?_
      rintro f w' ⟨k, hk, f44, f5, rfl⟩
      have hft := flat_take ps k
      obtain ⟨x, hx⟩ : ∃ x, x = (ps.take k).flatten.length := ⟨_, rfl⟩
      rw [← hx] at f5 hft
      simp -dsimp [go_sem, f44]
      refine cond_d (fun hlt => ?_) (fun hlt => ?_)
      · have hlt : k < ps.length := by omega
        obtain ⟨B, d, hv, hrB, hoB, hd⟩ := hi k hlt
        obtain ⟨b, o, rfl, hcell⟩ := hrd k _ hv
        have hat := congrArg List.length (flat_at ps k hlt)
        rw [List.length_append, ← hx] at hat
        have hft1 := flat_take ps (k + 1)
        have hs1 : IntKind.i64.wrap (9223372036854775807 - (x : Int)) = ((9223372036854775807 - x : Nat) : Int) := by rw [w64 (by omega) (by omega)]; omega
        obtain ⟨y, hy⟩ : ∃ y, y = 9223372036854775807 - x := ⟨_, rfl⟩
        rw [← hy] at hs1
        simp -dsimp [go_sem, f5, f44, hlt, hcell, hs1]
        refine cond_d (fun hbig => ?_) (fun hbig => ?_)
        · omega
        · have h2 : IntKind.i64.wrap ((x : Int) + (ps[k].length : Int)) = ((x + ps[k].length : Nat) : Int) := w64 (by omega) (by omega)
          have hk1 : IntKind.i64.wrap ((k : Int) + 1) = ((k + 1 : Nat) : Int) := w64 (by omega) (by omega)
          obtain ⟨k1, hk1'⟩ : ∃ k1, k1 = k + 1 := ⟨_, rfl⟩
          obtain ⟨z, hz⟩ : ∃ z, z = x + ps[k].length := ⟨_, rfl⟩
          rw [← hz] at h2 hat
          rw [← hk1'] at hk1 hat
          simp -dsimp [go_sem, f5, f44, h2, hk1]
          exact ⟨⟨k1, by omega, rfl, by rw [hat], rfl⟩, by simp [intOf]; omega⟩
      · obtain rfl : k = ps.length := by omega
        rw [List.take_length] at hx
        simp -dsimp [go_sem, f5]
        refine nz_ok (e := 5) (by kernel_rfl) x (by omega) ?_
        intro cs hcs1 hcs2
        obtain ⟨B0, d0, hv0, hrB0, hoB0, hd0⟩ := hi 0 (by omega)
        obtain ⟨b, o, rfl, hcell0⟩ := hrd 0 _ hv0
        rw [Nat.add_zero] at hcell0
        have k0 : Nw w' (w'.drew.drew.alloc (.cells cs 5)) := (Kp.refl _ _).drew.drew.alloc _
        have hcell0' := k0.cell_some hcell0 fun h => h
        have hb0 : Blk (w'.drew.drew.alloc (.cells cs 5)) w'.heap.size 5 cs := Blk.new w'.drew.drew _ _
        have hn0 : 0 < ps.length := by omega
        have hat0 := flat_at ps 0 (by omega)
        rw [List.take_zero, List.flatten_nil, List.nil_append] at hat0
        have hft0 := flat_take ps 1
        rw [hat0] at hft0
        generalize hw1 : w'.drew.drew.alloc (.cells cs 5) = w1 at *
        obtain ⟨g, hg⟩ : ∃ g, g = w'.heap.size := ⟨_, rfl⟩
        rw [← hg] at hb0 ⊢
        simp -dsimp [go_sem, hcs1, f5, hcell0', hn0]
        refine copy_at (elem := 5) (ys := ps[0].map u8) (by kernel_rfl) (by kernel_rfl) (fun _ => rfl) hb0 (hrB0.nw k0) (by simp) (by omega) (by omega) (one_u8 _) ?_
        intro w2 cur2 hb2 hs2 ht2 hk2
        have k2 : Nw w' w2 := Nw.at_ k0 hk2 (Nf.at_ (by omega))
        rw [List.take_zero, List.nil_append, Nat.zero_add, ← hat0] at ht2
        have hlen1 : ps[0].length = (ps.take 1).flatten.length := by rw [← hat0]
        rw [hlen1]
        have ht2 : cur2.toList.take (ps.take 1).flatten.length = (ps.take 1).flatten.map u8 := ht2
        obtain ⟨m1, hm1⟩ : ∃ m1, m1 = (ps.take 1).flatten.length := ⟨_, rfl⟩
        rw [← hm1]
        have hc1 : ¬ c = 1 := by omega
        have hc2 : (1 : Int) ≤ (ps.length : Int) := by omega
        obtain ⟨q, hq⟩ : ∃ q, ps.length - 1 = q := ⟨_, rfl⟩
        simp -dsimp [go_sem, hc1, hn0, hc2, hq]
        refine loop [9, 11, 72, 73, 74, 75, 76, 77, 78, 79, 80, 81, 82, 83, 84, 85, 86, 87, 88, 89, 90] (by kernel_rfl)
          (fun f w3 => Box2 (fun a b' w3 => ∃ k cur, k + 1 ≤ ps.length ∧ b' = i64 k ∧ a = i64 (ps.take (k + 1)).flatten.length ∧ Blk w3 g 5 cur ∧ cur.size = cs.size ∧ cur.toList.take (ps.take (k + 1)).flatten.length = (ps.take (k + 1)).flatten.map u8 ∧ Nw w' w3) (f 9) (f 72) w3)
          (fun f _ => ps.length - (intOf (f 72)).toNat) ⟨0, cur2, by omega, rfl, by rw [← hm1]; rfl, hb2, hs2, ht2, k2⟩ ?_
        rintro f3 w3 ⟨k, cur, hk, f72, f9, hb, hs, ht, hK⟩
        have hft3 := flat_take ps (k + 1)
        obtain ⟨m, hm⟩ : ∃ m, m = (ps.take (k + 1)).flatten.length := ⟨_, rfl⟩
        rw [← hm] at f9 ht hft3
        simp -dsimp [go_sem, f72]
        refine cond_d (fun hlt => ?_) (fun hlt => ?_)
        · have hlt : k < q := by omega
          obtain ⟨B, d, hv, hrB, hoB, hd⟩ := hi (k + 1) (by omega)
          obtain ⟨b1, o1, e, hcell⟩ := hrd (k + 1) _ hv
          cases e
          have hcell' := hK.cell_some hcell fun h => h
          rw [show o + (k + 1) = o + 1 + k by omega] at hcell'
          have hat := flat_at ps (k + 1) (by omega)
          have hal := congrArg List.length hat
          rw [List.length_append, ← hm] at hal
          have hft4 := flat_take ps (k + 1 + 1)
          have hmx : m ≤ x := by omega
          have hmx' : (m : Int) ≤ (x : Int) := by omega
          simp -dsimp [go_sem, f72, f9, hlt, hcell', hmx, hmx']
          refine copy_none (elem := 5) (by kernel_rfl) (by kernel_rfl) ?_
          have hm0 : IntKind.i64.wrap (m : Int) = m := w64 (by omega) (by omega)
          simp -dsimp [go_sem, hmx, hmx', hm0]
          refine copy_at (elem := 5) (ys := ps[k + 1].map u8) (g := g) (o := m) (by kernel_rfl) (by kernel_rfl) (fun h => by rw [if_neg (by omega)]) hb ((hrB.nw hK)) (by simp) (by omega) (by omega) (one_u8 _) ?_
          intro w4 cur4 hb4 hs4 ht4 hk4
          have h2 : IntKind.i64.wrap ((m : Int) + (ps[k + 1].length : Int)) = ((m + ps[k + 1].length : Nat) : Int) := w64 (by omega) (by omega)
          have hk1 : IntKind.i64.wrap ((k : Int) + 1) = ((k + 1 : Nat) : Int) := w64 (by omega) (by omega)
          obtain ⟨z, hz⟩ : ∃ z, z = m + ps[k + 1].length := ⟨_, rfl⟩
          obtain ⟨k1, hk1'⟩ : ∃ k1, k1 = k + 1 := ⟨_, rfl⟩
          rw [← hz] at h2 hal ht4
          rw [← hk1'] at hk1
          simp -dsimp [go_sem, f72, h2, hk1]
          subst hk1'
          refine ⟨⟨k + 1, cur4, by omega, rfl, by rw [hal], hb4, hs4.trans hs, ?_, Nw.at_ hK hk4 (Nf.at_ (by omega))⟩, by simp [intOf]; omega⟩
          rw [hal, ht4, ht, hat, List.map_append]
        · obtain rfl : k = q := by omega
          simp -dsimp [go_sem]
          have hall : ps.take (k + 1) = ps := List.take_of_length_le (by omega)
          rw [hall] at ht hm
          refine ⟨⟨_, x, by rw [hx], ⟨by rw [List.length_map, Nat.mul_one], by omega, by simp only [maxLen]; omega, .inr ⟨g, cur, rfl, hb, by omega, ?_⟩⟩, fun a ha => by cases ha; exact Nat.le_refl _⟩, hK⟩
          rw [← hm, Nat.mul_one, ht]

theorem join_spec (ps : List (List UInt8)) (A : Option Addr) (c : Nat) (w : World) (S : Nat → Prop) (hr : Brs w A ps S) (hc : ps.length ≤ c) (hp : ps.length ≤ 140737488355328) (hl : ps.flatten.length ≤ 140737488355328) :
    Cal Tryz.prog 11 #[.slice A ps.length c] w fun v w' => Bs w' v ps.flatten w.heap.size ∧ Nw w w' := by
  refine enter Tryz.mixed Tryz.func11 rfl (by kernel_rfl) ?_
  simp -dsimp [go_sem]
  refine call (bjoin_spec ps A c w S hr hc hp hl) ?_
  rintro v w1 ⟨hB, hk⟩
  simp -dsimp [go_sem]
  exact ⟨hB, hk⟩

end Go.Proofs.YthonmjgagblogaaGreat
