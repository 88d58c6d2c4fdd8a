/-
  FrameEncodes walked: any rows as one record, and back. By the session itself.
-/
import Derived.Test.YtdhgfljpnjneeaaFrmI
namespace Go.Proofs.Ytdhgfljpnjneeaa
set_option linter.unusedSimpArgs false
set_option linter.unusedVariables false
open Go.Vc Go.RowKit

theorem one_rec (p : List UInt8) (hp : p.length ≤ 1048576) : oneL (recL p) = (p, 0) := by
  have h := dec_rec p [] hp
  rw [List.append_nil] at h
  unfold oneL
  rw [h, recL_len, if_neg (fun h => h.2 rfl)]
theorem one_rec1 (p : List UInt8) (hp : p.length ≤ 1048576) (x : UInt8) : oneL (recL p ++ [x]) = ([], 3) := by
  have h := dec_rec p [x] hp
  unfold oneL
  rw [h, List.length_append, recL_len, if_pos ⟨rfl, by simp⟩]

theorem encodes_law (ps : List (List UInt8)) (more : List UInt8) (A B : Option Addr) (c d : Nat) (w : World) (hr : Brs w A ps fun _ => False) (hc : ps.length ≤ c) (hm : Rd w B (more.map u8)) (hd : more.length ≤ d)
    (hz : ps.length ≤ 140737488351232) (hz2 : more.length ≤ 140737488351232) :
    Cal Try.prog 4 #[.slice A ps.length c, .slice B more.length d] w fun v w' => v = .bool true ∧ Nw w w' := by
  refine enter Try.mixed Try.func4 rfl (by kernel_rfl) ?_
  simp -dsimp [go_sem]
  refine loop [4, 5, 6, 18, 19, 20, 21, 22, 23, 24, 25, 26, 27, 28, 29, 30, 31, 32, 33, 34, 35, 36, 37, 38, 39, 40] (by kernel_rfl) (fun f w' => Box2 (fun a b w' => ∃ i : Nat, i ≤ ps.length ∧ b = i64 i ∧ (ps.take i).flatten.length ≤ 8000 ∧ Bs w' a (ps.take i).flatten w.heap.size ∧ Nw w w') (f 5) (f 6) w')
    (fun f _ => ps.length - (intOf (f 6)).toNat) ⟨0, Nat.zero_le _, rfl, by simp, Bs.nil _ _, Kp.refl _ _⟩ ?_
  rintro f w1 ⟨i, hi, f6, h8, hB, hK⟩
  obtain ⟨A1, c1, f5, ho1, hA1⟩ := id hB
  simp -dsimp [go_sem, f6]
  refine cond_d (fun hlt => ?_) (fun hlt => ?_)
  · have hlt : i < ps.length := by omega
    obtain ⟨vs, hvl, hrd, hoA, hi'⟩ := hr.nw hK
    obtain ⟨X, x, hv, hrX, hoX, hx⟩ := hi' i hlt
    obtain ⟨b, o, rfl, hcell⟩ := hrd i _ hv
    have hat := flat_at ps i hlt
    have hatl := congrArg List.length hat
    rw [List.length_append] at hatl
    by_cases h1 : 4000 < ps[i].length
    · have h1' : (4000 : Int) < (ps[i].length : Int) := by omega
      simp -dsimp [go_sem, f5, f6, hlt, hcell, h1, h1']
      exact hK
    · have h1' : ¬ (4000 : Int) < (ps[i].length : Int) := by omega
      by_cases h2 : 4000 < (ps.take i).flatten.length
      · have h2' : (4000 : Int) < ((ps.take i).flatten.length : Int) := by omega
        obtain ⟨n, hn⟩ : ∃ n, n = (ps.take i).flatten.length := ⟨_, rfl⟩
        rw [← hn] at f5 h2 h2'
        simp -dsimp [go_sem, f5, f6, hlt, hcell, h1, h1', h2, h2']
        exact hK
      · obtain ⟨n, hn⟩ : ∃ n, n = (ps.take i).flatten.length := ⟨_, rfl⟩
        have h2' : ¬ (4000 : Int) < (n : Int) := by omega
        rw [← hn] at f5 h2
        simp -dsimp [go_sem, f5, f6, hlt, hcell, h1, h1', h2, h2']
        refine bs_app (l := (ps.take i).flatten) (m := ps[i]) (B := w.heap.size) ⟨A1, c1, by rw [hn], ho1, hA1⟩ hrX (by omega) hK.size ?_
        intro v2 w2 hB2 hk2
        have k2 := Nw.fr hK hk2 (Nat.le_refl _)
        rw [← hat] at hB2
        have hk1 : IntKind.i64.wrap ((i : Int) + 1) = ((i + 1 : Nat) : Int) := w64 (by omega) (by omega)
        obtain ⟨k1, hk1'⟩ : ∃ k1, k1 = i + 1 := ⟨_, rfl⟩
        rw [← hk1'] at hk1 hB2 hatl
        simp -dsimp [go_sem, f6, hk1]
        exact ⟨⟨k1, by omega, rfl, by omega, hB2, k2⟩, by simp [intOf]; omega⟩
  · obtain rfl : i = ps.length := by omega
    rw [List.take_length] at h8 f5 ho1
    have hpl := h8
    obtain ⟨p, hp⟩ : ∃ p, p = ps.flatten := ⟨_, rfl⟩
    have hpl : p.length ≤ 8000 := by rw [hp]; exact hpl
    have hs : IntKind.i64.wrap ((p.length : Int) + (more.length : Int)) = ((p.length + more.length : Nat) : Int) := w64 (by omega) (by omega)
    obtain ⟨s, hs'⟩ : ∃ s, s = p.length + more.length := ⟨_, rfl⟩
    rw [← hs'] at hs
    rw [← hp] at f5 ho1 h8
    simp -dsimp [go_sem, f5, hs]
    refine cond_d (fun h4 => ?_) (fun h4 => ?_)
    · simp -dsimp [go_sem]
      exact hK
    · have h4 : s ≤ 4000 := by omega
      simp -dsimp [go_sem]
      refine call (encode_spec ps A c w1 _ (hr.nw hK) hc (by omega) (by omega)) ?_
      rintro v w2 ⟨hk2, h | ⟨_, u, rfl, hB2⟩⟩
      · omega
      · have k2 := hK.nw hk2
        rw [← hp] at hB2
        simp -dsimp [go_sem, f5]
        refine call (refEncode_spec p A1 c1 w2 (ho1.rd.nw hk2) (by omega)) ?_
        rintro v w3 ⟨hk3, h | ⟨_, u3, rfl, hB3⟩⟩
        · omega
        · have k3 := k2.nw hk3
          have hrl := recL_len p
          have hdec := dec_rec p more (by omega)
          have hone := one_rec p (by omega)
          have hone1 := one_rec1 p (by omega) (UInt8.ofNat 1)
          obtain ⟨R, hR⟩ : ∃ R, R = recL p := ⟨_, rfl⟩
          rw [← hR] at hB2 hB3 hrl hdec hone hone1
          obtain ⟨A2, c2, rfl, ho2, hA2⟩ := hB2
          obtain ⟨A3, c3, rfl, ho3, hA3⟩ := hB3
          simp -dsimp [go_sem]
          refine call (same_spec A2 A3 c2 c3 R R w3 (ho2.nw hk3).rd ho3.rd (by omega)) ?_
          rintro v w4 ⟨rfl, hk4⟩
          have k4 := k3.nw hk4
          simp -dsimp [go_sem]
          have ho2' := ((ho2.nw hk3).nw hk4)
          have ka : Nw w4 (w4.alloc (.cells #[] 5)) := (Kp.refl _ _).alloc _
          refine bs_app (m := R) (l := []) (B := w4.heap.size) (Gs.made w4 5 1 0 #[] rfl rfl rfl (by simp [maxLen]) (Nat.le_refl _)) (ho2'.rd.nw ka) (by simp; omega) ka.size ?_
          intro v6 w6 hB6 hk6
          rw [List.nil_append] at hB6
          have k6 := Nw.fr ka hk6 (Nat.le_refl _)
          simp -dsimp [go_sem]
          refine bs_app (m := more) (l := R) (B := w4.heap.size) hB6 (hm.nw (k4.nw k6)) (by omega) k6.size ?_
          intro v7 w7 hB7 hk7
          have k7 := Nw.fr k6 hk7 (Nat.le_refl _)
          have hbl : (R ++ more).length ≤ 140737488355328 := by rw [List.length_append]; omega
          obtain ⟨b, hb⟩ : ∃ b, b = R ++ more := ⟨_, rfl⟩
          rw [← hb] at hB7 hdec hbl
          obtain ⟨A7, c7, rfl, ho7, hA7⟩ := hB7
          simp -dsimp [go_sem]
          refine call (decode_spec b A7 c7 w7 ho7.rd ho7.2.1 hbl) ?_
          rintro v w8 ⟨hk8, u8, rfl, hB8⟩
          rw [hdec] at hB8 ⊢
          obtain ⟨A8, c8, rfl, ho8, hA8⟩ := hB8
          have k8 := k7.nw hk8
          have hb1 : (R ++ [UInt8.ofNat 1]).length ≤ 140737488355328 := by simp; omega
          simp -dsimp [go_sem]
          refine call (one_spec R A2 c2 w8 (ho2'.nw k8).rd ho2.2.1 (by omega)) ?_
          rintro v w9 ⟨hk9, u9, rfl, hB9⟩
          rw [hone] at hB9 ⊢
          obtain ⟨A9, c9, rfl, ho9, hA9⟩ := hB9
          have k9 := k8.nw hk9
          simp -dsimp [go_sem]
          have kb : Nw w9 (w9.alloc (.cells #[] 5)) := (Kp.refl _ _).alloc _
          refine bs_app (m := R) (l := []) (B := w9.heap.size) (Gs.made w9 5 1 0 #[] rfl rfl rfl (by simp [maxLen]) (Nat.le_refl _)) (((ho2'.nw k9).rd).nw kb) (by simp; omega) kb.size ?_
          intro v10 w10 hB10 hk10
          rw [List.nil_append] at hB10
          have k10 := Nw.fr kb hk10 (Nat.le_refl _)
          simp -dsimp [go_sem]
          refine bs_push (x := 1) hB10 rfl (by omega) (by omega) k10.size ?_
          intro v11 w11 hB11 hk11
          have k11 := Nw.fr k10 hk11 (Nat.le_refl _)
          obtain ⟨b1, hb1'⟩ : ∃ b, b = R ++ [UInt8.ofNat 1] := ⟨_, rfl⟩
          rw [← hb1'] at hB11 hone1 hb1
          obtain ⟨A11, c11, rfl, ho11, hA11⟩ := hB11
          simp -dsimp [go_sem]
          refine call (one_spec b1 A11 c11 w11 ho11.rd ho11.2.1 hb1) ?_
          rintro v w12 ⟨hk12, u12, rfl, hB12⟩
          rw [hone1]
          have k12 := k11.nw hk12
          have e8 := (((ho8.nw hk9).nw k12))
          have e1 : Rd w12 A1 (p.map u8) := ho1.rd.nw (((hk2.nw hk3).nw hk4).nw (k9.nw k12))
          rw [hrl]
          obtain ⟨n, hn⟩ : ∃ n, n = p.length + 12 := ⟨_, rfl⟩
          rw [← hn]
          have hcast : (p.length : Int) + 12 = (n : Int) := by omega
          simp -dsimp [go_sem, f5, hcast]
          refine call (same_spec A8 A1 c8 c1 p p w12 e8.rd e1 (by omega)) ?_
          rintro v w13 ⟨rfl, hk13⟩
          have k13 := k12.nw hk13
          simp -dsimp [go_sem, f5]
          refine call (same_spec A9 A1 c9 c1 p p w13 (ho9.nw k13).rd (e1.nw hk13) (by omega)) ?_
          rintro v w14 ⟨rfl, hk14⟩
          simp -dsimp [go_sem]
          refine call (fknown_spec w14) ?_
          rintro v w15 ⟨rfl, hk15⟩
          simp -dsimp [go_sem]
          exact (((k4.nw k9).nw k13).nw hk14).nw hk15
end Go.Proofs.Ytdhgfljpnjneeaa
