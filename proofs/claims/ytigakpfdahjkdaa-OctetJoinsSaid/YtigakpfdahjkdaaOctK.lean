/-
  OctetJoins walked: rows joined in two parts. By the session itself.
-/
import Derived.Test.YtigakpfdahjkdaaOctJ
namespace Go.Proofs.Ytigakpfdahjkdaa
set_option linter.unusedSimpArgs false
set_option linter.unusedVariables false
open Go.Vc Go.RowKit

theorem joins_law (ps qs : List (List UInt8)) (A B : Option Addr) (c d : Nat) (w : World) (hr : Brs w A ps fun _ => False) (hc : ps.length ≤ c) (hr2 : Brs w B qs fun _ => False) (hc2 : qs.length ≤ d) :
    Cal Try.prog 7 #[.slice A ps.length c, .slice B qs.length d] w fun u w' => u = .bool true ∧ Nw w w' := by
  refine enter Try.mixed Try.func7 rfl (by kernel_rfl) ?_
  simp -dsimp [go_sem]
  refine call (heavy_spec ps w A c _ hr) ?_
  rintro v w1 ⟨heavy, rfl, hwei, rfl⟩
  cases heavy with
  | true =>
    simp -dsimp [go_sem]
    exact Kp.refl _ _
  | false =>
    have hwei := hwei rfl
    simp -dsimp [go_sem]
    refine call (heavy_spec qs w1 B d _ hr2) ?_
    rintro v w2 ⟨heavy, rfl, hwei2, rfl⟩
    cases heavy with
    | true =>
      simp -dsimp [go_sem]
      exact Kp.refl _ _
    | false =>
      have hwei2 := hwei2 rfl
      simp -dsimp [go_sem]
      obtain ⟨vs, hrv, _, hV⟩ := hr.rv
      obtain ⟨us, hru, _, hU⟩ := hr2.rv
      have g1 := wei_ge ps
      have g2 := wei_ge qs
      have g3 := wei_flat ps
      have g4 := wei_flat qs
      have k0 : Nw w2 (w2.alloc (.cells #[] 34)) := (Kp.refl _ _).alloc _
      refine gs_app Try.Srows (B := w2.heap.size) (Gs.made w2 34 1 0 #[] rfl rfl rfl (by simp [maxLen]) (Nat.le_refl _)) (hrv.nw k0) (by rw [hV.1, Nat.mul_one]) hV.cells (by omega) (by omega) k0.size ?_
      intro v3 w3 hG3 hk3
      have k3 := k0.fr hk3 (Nat.le_refl _)
      simp -dsimp [go_sem]
      refine gs_app Try.Srows hG3 (hru.nw k3) (by rw [hU.1, Nat.mul_one]) hU.cells (by omega) (by omega) k3.size ?_
      intro v4 w4 hG4 hk4
      have k4 := k3.fr hk4 (Nat.le_refl _)
      obtain ⟨A4, c4, rfl, ho4, hA4⟩ := hG4
      rw [List.nil_append] at ho4
      have hall : RV w4 (vs ++ us) (ps ++ qs) (fun _ => False) := (hV.nw k4).append (hU.nw k4)
      have no : ∀ A vs, Ofl A vs fun _ => False := fun _ _ _ _ _ h => h
      have hbr : Brs w4 A4 (ps ++ qs) (fun _ => False) := hall.brs ho4.rd (no _ _)
      obtain ⟨n, hn⟩ : ∃ n, n = 0 + ps.length + qs.length := ⟨_, rfl⟩
      have hnl : (ps ++ qs).length = n := by rw [List.length_append]; omega
      rw [← hn] at ho4 ⊢
      simp -dsimp [go_sem]
      obtain ⟨p, hp⟩ : ∃ p, p = ps.flatten := ⟨_, rfl⟩
      obtain ⟨q, hq⟩ : ∃ q, q = qs.flatten := ⟨_, rfl⟩
      have hpq : (ps ++ qs).flatten = p ++ q := by rw [List.flatten_append, hp, hq]
      have g3' := g3
      have g4' := g4
      rw [← hp] at g3
      rw [← hq] at g4
      have join1 : ∀ w', Nw w4 w' → Cal Try.prog 29 #[.slice A ps.length c] w' fun v w'' => Bs w'' v p w'.heap.size ∧ Nw w' w'' := fun w' k => hp ▸ join_spec ps A c w' _ (hr.nw (k4.nw k)) hc (by omega) (by omega)
      have join2 : ∀ w', Nw w4 w' → Cal Try.prog 29 #[.slice B qs.length d] w' fun v w'' => Bs w'' v q w'.heap.size ∧ Nw w' w'' := fun w' k => hq ▸ join_spec qs B d w' _ (hr2.nw (k4.nw k)) hc2 (by omega) (by omega)
      have join3 : ∀ w', Nw w4 w' → Cal Try.prog 29 #[.slice A4 n c4] w' fun v w'' => Bs w'' v (p ++ q) w'.heap.size ∧ Nw w' w'' := fun w' k => by
        have := join_spec (ps ++ qs) A4 c4 w' _ (hbr.nw k) (by have := ho4.2.1; omega) (by omega) (by rw [hpq, List.length_append]; omega)
        rw [hpq, hnl] at this
        exact this
      have join4 : ∀ (w' : World) (A1 A2 : Option Addr) (c1 c2 : Nat), Rd w' A1 (p.map u8) → Rd w' A2 (q.map u8) → p.length ≤ c1 → q.length ≤ c2 → Cal Try.prog 29 #[.slice (some ⟨w'.heap.size, 0, none⟩) 2 2] (w'.alloc (.cells #[.slice A1 p.length c1, .slice A2 q.length c2] 34)) fun v w'' => Bs w'' v (p ++ q) w'.heap.size ∧ Nw w' w'' := fun w' A1 A2 c1 c2 h1 h2 l1 l2 => by
        have kn : Nw w' (w'.alloc (.cells #[.slice A1 p.length c1, .slice A2 q.length c2] 34)) := (Kp.refl _ _).alloc _
        have := join_spec [p, q] (some ⟨w'.heap.size, 0, none⟩) 2 (w'.alloc (.cells #[.slice A1 p.length c1, .slice A2 q.length c2] 34)) (fun _ => False) (Brs.two (Blk.new w' _ _) (fun h => h) (h1.nw kn) (fun _ _ h => h) l1 (h2.nw kn) (fun _ _ h => h) l2) (Nat.le_refl _) (by simp) (by simp; omega)
        refine this.mono fun v w'' ⟨hB, hk⟩ => ?_
        rw [show [p, q].flatten = p ++ q by simp] at hB
        exact ⟨hB.mono kn.size, kn.nw hk⟩
      refine call (join1 w4 (Kp.refl _ _)) ?_
      rintro v w5 ⟨⟨A5, c5, rfl, ho5, hA5⟩, hk5⟩
      simp -dsimp [go_sem]
      refine call (join2 w5 hk5) ?_
      rintro v w6 ⟨⟨A6, c6, rfl, ho6, hA6⟩, hk6⟩
      simp -dsimp [go_sem]
      refine call (join4 w6 A5 A6 c5 c6 (ho5.rd.nw hk6) ho6.rd ho5.2.1 ho6.2.1) ?_
      rintro v w7 ⟨hB7, hk7⟩
      obtain ⟨x, hx⟩ : ∃ x, x = p ++ q := ⟨_, rfl⟩
      rw [← hx] at hB7 hpq join3 join4
      have hxl : x.length = p.length + q.length := by rw [hx, List.length_append]
      obtain ⟨A7, c7, rfl, ho7, hA7⟩ := hB7
      have k7 := (hk5.nw hk6).nw hk7
      simp -dsimp [go_sem]
      refine call (join3 w7 k7) ?_
      rintro v w8 ⟨⟨A8, c8, rfl, ho8, hA8⟩, hk8⟩
      have k8 := Kp.nw k7 hk8
      simp -dsimp [go_sem]
      refine call (same_spec A7 A8 c7 c8 x x w8 (ho7.rd.nw hk8) ho8.rd (by omega)) ?_
      rintro v w9 ⟨rfl, hk9⟩
      have k9 := Kp.nw k8 hk9
      simp -dsimp [go_sem]
      have hsm := sum_spec (ps ++ qs) A4 c4 w9 _ (hbr.nw k9) (by omega) ?_
      rotate_left
      · intro p' hp'
        rcases List.mem_append.1 hp' with h | h
        · have := wei_mem ps p' h; omega
        · have := wei_mem qs p' h; omega
      rw [hnl, hpq] at hsm
      refine call hsm ?_
      rintro v w10 ⟨rfl, rfl⟩
      simp -dsimp [go_sem]
      have hsum1 : ∀ (l : List UInt8), sumL ([l] : List (List UInt8)).flatten = sumL l := fun l => by simp
      have ho9 := (ho7.nw hk8).nw hk9
      refine call (sum_spec [x] _ 1 _ (fun _ => False) (Brs.one (p := x) (d := c7) (Blk.new w9 _ _) (fun h => h) (ho9.rd.nw ((Kp.refl _ _).alloc _)) (fun _ _ h => h) ho9.2.1) (by simp) (by simp; omega)) ?_
      rintro v w10 ⟨rfl, rfl⟩
      rw [hsum1]
      simp -dsimp [go_sem]
      have k10 : Nw w4 (w9.alloc (.cells #[.slice A7 x.length c7] 34)) := k9.alloc _
      have ho10 := ho9.nw ((Kp.refl _ w9).alloc (.cells #[.slice A7 x.length c7] 34))
      generalize w9.alloc (.cells #[.slice A7 x.length c7] 34) = w10 at *
      have hxf : x.length = (ps ++ qs).flatten.length := by rw [hpq]
      have hbr10 := hbr.nw k10
      obtain ⟨es, hle, hrdE, _, hiE⟩ := hbr10
      refine loop [7, 8, 39, 40, 41, 42, 43, 44, 45, 46, 47, 48, 49, 50, 51] (by kernel_rfl) (fun f w' => Box2 (fun a b w' => ∃ i : Nat, i ≤ n ∧ b = i64 i ∧ a = i64 ((ps ++ qs).take i).flatten.length ∧ w' = w10) (f 7) (f 8) w')
        (fun f _ => n - (intOf (f 8)).toNat) ⟨0, Nat.zero_le _, rfl, rfl, rfl⟩ ?_
      rintro f w' ⟨i, hi, f8, f7, rfl⟩
      have hft := flat_take (ps ++ qs) i
      rw [← hxf] at hft
      obtain ⟨y, hy⟩ : ∃ y, y = ((ps ++ qs).take i).flatten.length := ⟨_, rfl⟩
      rw [← hy] at f7 hft
      simp -dsimp [go_sem, f8, hnl]
      refine cond_d (fun hlt => ?_) (fun hlt => ?_)
      · have hlt : i < n := by omega
        have hlt' : i < (ps ++ qs).length := by omega
        obtain ⟨B', d', hv, _⟩ := hiE i hlt'
        obtain ⟨b, o, rfl, hcell⟩ := hrdE i _ hv
        have hat := congrArg List.length (flat_at (ps ++ qs) i hlt')
        rw [List.length_append, ← hy] at hat
        have hft2 := flat_take (ps ++ qs) (i + 1)
        obtain ⟨u, hu⟩ : ∃ u, u = (ps ++ qs)[i].length := ⟨_, rfl⟩
        rw [← hu] at hat hcell
        have h2 : IntKind.i64.wrap ((y : Int) + (u : Int)) = ((y + u : Nat) : Int) := w64 (by omega) (by omega)
        have hk1 : IntKind.i64.wrap ((i : Int) + 1) = ((i + 1 : Nat) : Int) := w64 (by omega) (by omega)
        obtain ⟨z, hz⟩ : ∃ z, z = y + u := ⟨_, rfl⟩
        obtain ⟨k1, hk1'⟩ : ∃ k1, k1 = i + 1 := ⟨_, rfl⟩
        rw [← hz] at h2 hat
        rw [← hk1'] at hk1 hat
        simp -dsimp [go_sem, f7, f8, hlt, hcell, h2, hk1, hnl]
        exact ⟨⟨k1, by omega, rfl, by rw [hat], rfl⟩, by simp [intOf]; omega⟩
      · obtain rfl : i = n := by omega
        rw [List.take_of_length_le (by omega), hpq] at hy
        subst hy
        simp -dsimp [go_sem, f7, hnl]
        refine call (spoil_spec x w' A7 c7 ho10 (by omega)) ?_
        rintro v w11 ⟨rfl, hk11⟩
        have k11 : Nw w4 w11 := k10.trans hk11 fun i hi hb => by
          obtain ⟨a, rfl, rfl⟩ := blk_of hb
          have := hA7 a rfl
          have := (hk5.nw hk6).size
          omega
        simp -dsimp [go_sem, f7, hnl]
        refine call (join3 w11 k11) ?_
        rintro v w12 ⟨⟨A12, c12, rfl, ho12, hA12⟩, hk12⟩
        simp -dsimp [go_sem, f7, hnl]
        refine call (join1 w12 (Kp.nw k11 hk12)) ?_
        rintro v w13 ⟨⟨A13, c13, rfl, ho13, hA13⟩, hk13⟩
        simp -dsimp [go_sem, f7, hnl]
        refine call (join2 w13 (Kp.nw (Kp.nw k11 hk12) hk13)) ?_
        rintro v w14 ⟨⟨A14, c14, rfl, ho14, hA14⟩, hk14⟩
        simp -dsimp [go_sem, f7, hnl]
        refine call (join4 w14 A13 A14 c13 c14 (ho13.rd.nw hk14) ho14.rd ho13.2.1 ho14.2.1) ?_
        rintro v w15 ⟨⟨A15, c15, rfl, ho15, hA15⟩, hk15⟩
        simp -dsimp [go_sem, f7, hnl]
        refine call (same_spec A12 A15 c12 c15 x x w15 (ho12.rd.nw ((hk13.nw hk14).nw hk15)) ho15.rd (by omega)) ?_
        rintro v w16 ⟨rfl, hk16⟩
        simp -dsimp [go_sem, f7, hnl]
        refine call (known_spec _) ?_
        rintro v w17 ⟨rfl, hk17⟩
        simp -dsimp [go_sem]
        exact k4.nw (Kp.nw (Kp.nw (Kp.nw (Kp.nw (Kp.nw (Kp.nw k11 hk12) hk13) hk14) hk15) hk16) hk17)
end Go.Proofs.Ytigakpfdahjkdaa
