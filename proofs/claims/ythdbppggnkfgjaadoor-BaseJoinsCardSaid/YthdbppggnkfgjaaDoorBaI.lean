/-
  base's laws: BaseCut, BaseBits, BaseJoins walked. By the session itself.
-/
import Derived.Test.YthdbppggnkfgjaaDoorBaH
namespace Go.Proofs.YthdbppggnkfgjaaDoor
set_option linter.unusedSimpArgs false
set_option linter.unusedVariables false
set_option maxRecDepth 100000
set_option maxHeartbeats 2000000
open Go.Vc Go.RowKit

theorem decB_len {s : List UInt8} (h : s.length % 4 ≠ 0) : decB s = none := by
  cases hd : decB s with
  | none => rfl
  | some b =>
    have := encB_len b
    rw [decB_some.1 hd] at this
    omega
theorem decB_take (b : List UInt8) (k : Nat) (hk : k < (encB b).length) (h4 : k % 4 = 0) : decB ((encB b).take k) = some (b.take (k / 4 * 3)) := by
  rw [encB_len] at hk
  have hl : (b.take (k / 4 * 3)).length = k / 4 * 3 := by rw [List.length_take]; omega
  have h := encB_app (b.take (k / 4 * 3)) (b.drop (k / 4 * 3)) (by rw [hl]; omega)
  rw [List.take_append_drop] at h
  have hl2 : (encB (b.take (k / 4 * 3))).length = k := by rw [encB_len, hl]; omega
  rw [decB_some, h, List.take_left' hl2]
theorem cut_law (b : List UInt8) (at_ : Int) (A : Option Addr) (c : Nat) (w : World) (hr : Rd w A (b.map u8)) (hc : b.length ≤ c) :
    Cal Tryd.prog 6 #[.slice A b.length c, i64 at_] w fun v w' => v = .bool true ∧ Nw w w' := by
  refine enter Tryd.mixed Tryd.func6 rfl (by kernel_rfl) ?_
  by_cases h0 : (b.length : Int) < 1
  · simp -dsimp [go_sem, h0]
    exact Kp.refl _ _
  · by_cases h1 : (1000 : Int) < (b.length : Int)
    · simp -dsimp [go_sem, h0, h1]
      exact Kp.refl _ _
    · simp -dsimp [go_sem, h0, h1]
      refine call (encode_spec b A c w hr (by omega)) ?_
      rintro v w1 ⟨rfl, hk⟩
      have hlen := encB_len b
      have h4 : ¬ ((encB b).length : Int) < 4 := by omega
      have hm : bits .and .i64 at_ 65535 = at_ % 65536 := i64_mask at_ 16 65535 (by omega) rfl
      obtain ⟨t, ht⟩ : ∃ t : Nat, at_ % 65536 = (t : Int) := ⟨(at_ % 65536).toNat, by omega⟩
      rw [ht] at hm
      have hne : encB b ≠ [] := fun e => by rw [e] at hlen; simp at hlen; omega
      have hmod : (t : Int).tmod ((encB b).length : Int) = ((t % (encB b).length : Nat) : Int) := rfl
      obtain ⟨k, hk'⟩ : ∃ k, k = t % (encB b).length := ⟨_, rfl⟩
      have hkl : k < (encB b).length := by rw [hk']; exact Nat.mod_lt _ (by omega)
      rw [← hk'] at hmod
      have hkl2 : k ≤ (encB b).length := by omega
      have hex : (⟨(encB b).toArray⟩ : ByteArray).extract 0 k = ⟨((encB b).take k).toArray⟩ := by rw [Lib.extract_mk]; simp
      simp -dsimp [go_sem, h4, hm, hne, hmod, hkl2, hex]
      refine call (decode_spec ((encB b).take k) w1 (by rw [List.length_take]; omega)) ?_
      rintro v w2 ⟨⟨va, rfl, hB⟩, hk2⟩
      have n2 := hk.nw hk2
      have hm4 : (k : Int).tmod 4 = ((k % 4 : Nat) : Int) := rfl
      by_cases hk4 : k % 4 = 0
      · have hd := decB_take b k hkl hk4
        rw [hd] at hB
        replace hB : Bs w2 va (b.take (k / 4 * 3)) w1.heap.size := hB
        obtain ⟨A1, c1, rfl, ho1, hA1⟩ := hB
        rw [hk4] at hm4
        have hq : (k : Int).tdiv 4 = ((k / 4 : Nat) : Int) := rfl
        have hw0 : IntKind.i64.wrap ((k / 4 : Nat) : Int) = ((k / 4 : Nat) : Int) := w64 (by omega) (by omega)
        obtain ⟨q, hq'⟩ : ∃ q, q = k / 4 := ⟨_, rfl⟩
        rw [← hq'] at hq hd ho1 hw0
        have hq3 : IntKind.i64.wrap ((q : Int) * 3) = ((q * 3 : Nat) : Int) := by rw [w64 (by omega) (by omega)]; omega
        obtain ⟨r, hr'⟩ : ∃ r, r = q * 3 := ⟨_, rfl⟩
        rw [← hr'] at hq3 hd ho1
        have hrl : r ≤ b.length := by omega
        have hrc : r ≤ c := by omega
        have hbt : (b.take r).length = r := by rw [List.length_take]; omega
        rw [← hq', ← hr'] 
        have hcv1 : ∀ w3, Nw w2 w3 → convR Tryd.prog 22 9 (.slice A1 (b.take r).length c1) w3 = .ok (.string ⟨(b.take r).toArray⟩) w3 := fun w3 h3 => conv_str (e := 5) (by kernel_rfl) (by kernel_rfl) (by kernel_rfl) (ho1.rd.nw h3)
        have hcv2 : ∀ w3, Nw w2 w3 → convR Tryd.prog 22 9 (.slice A r c) w3 = .ok (.string ⟨(b.take r).toArray⟩) w3 := fun w3 h3 => by
          have := conv_str (P := Tryd.prog) (w := w3) (t := 22) (s := 9) (e := 5) (A := A) (c := c) (l := b.take r) (by kernel_rfl) (by kernel_rfl) (by kernel_rfl) (by rw [List.map_take]; exact ((hr.nw n2).nw h3).take r)
          rw [hbt] at this
          exact this
        rw [hbt] at hcv1 ⊢
        have kd : Nw w2 w2.drew := (Kp.refl _ _).drew
        simp -dsimp [go_sem, hm4]
        refine draw (.take 0 (.take 1 (.take 2 (.take 3 (.take 4 (.take 5 (.take 6 (.take 7 (.take 8 (.take 9 (.take 10 (.take 11 (.take 12 (.take 13 (.alt 14 (.take 15 (.take 16 .done)) .stop))))))))))))))) (by kernel_rfl) (fun wz => Nw w2 wz) kd ?_
        have g1 : ∀ w3, Nw w2 w3 → (convert 22 9 (.slice A1 r c1)).run Tryd.prog w3 = .ok (.string ⟨(b.take r).toArray⟩) w3 := hcv1
        have g2 : ∀ w3, Nw w2 w3 → (convert 22 9 (.slice A r c)).run Tryd.prog w3 = .ok (.string ⟨(b.take r).toArray⟩) w3 := hcv2
        have g1d := g1 _ kd
        have g2d := g2 _ kd
        simp -dsimp [go_sem, hd, g1d, g2d, hq, hw0, hq3, hrc, sliced]
        refine ⟨fun wz hz => g1 wz hz, fun wz hz => g2 wz hz, ?_⟩
        refine call (bknown_spec w2.drew) ?_
        rintro v w3 ⟨rfl, hk3⟩
        simp -dsimp [go_sem]
        exact ⟨kd.nw hk3, n2.nw (kd.nw hk3)⟩
      · have hd := decB_len (s := (encB b).take k) (by rw [List.length_take, Nat.min_eq_left hkl2]; exact hk4)
        obtain ⟨m, hm'⟩ : ∃ m, m = k % 4 := ⟨_, rfl⟩
        rw [← hm'] at hm4
        have hm0 : ((m : Int) != 0) = true := by simp; omega
        simp -dsimp [go_sem, hm4, hm0, hd]
        refine call (bknown_spec w2) ?_
        rintro v w3 ⟨rfl, hk3⟩
        simp -dsimp [go_sem]
        exact n2.nw hk3
theorem bits_dec (a L : Nat) (ha : a < 256) (hL : L ≤ 15) : decB [let6 (a / 4), let6 (a % 4 * 16 + L), 61, 61] = if L = 0 then some [UInt8.ofNat a] else none := by
  have hta : (UInt8.ofNat a).toNat = a := by simp; omega
  by_cases h : L = 0
  · subst h
    rw [if_pos rfl, decB_some, encB, g4_a, hta]
    rfl
  · rw [if_neg h]
    cases hd : decB [let6 (a / 4), let6 (a % 4 * 16 + L), 61, 61] with
    | none => rfl
    | some b =>
      exfalso
      have he := decB_some.1 hd
      have hl := encB_len b
      rw [he] at hl
      match b with
      | [] => simp [encB] at he
      | [x] =>
        have hx := UInt8.toNat_lt x
        rw [encB, g4_a] at he
        have h2 : let6 (x.toNat % 4 * 16) = let6 (a % 4 * 16 + L) := by simpa using (List.cons.inj (List.cons.inj he).2).1
        have h3 := congrArg idx h2
        rw [idx_let (by omega), idx_let (by omega)] at h3
        omega
      | [x, y] =>
        have hy := UInt8.toNat_lt y
        rw [encB, g4_b] at he
        have h2 : let6 (y.toNat % 16 * 4) = 61 := by
          have := (List.cons.inj (List.cons.inj (List.cons.inj he).2).2).1
          exact this
        exact let6_ne (by omega) h2
      | [x, y, z] =>
        have hz := UInt8.toNat_lt z
        rw [encB, g4_c] at he
        have h2 : let6 (z.toNat % 64) = 61 := by
          have := congrArg (fun l : List UInt8 => l.getD 3 0) he
          simpa [encB] using this
        exact let6_ne (by omega) h2
      | _ :: _ :: _ :: _ :: _ => simp at hl; omega
theorem bits_law (b : Nat) (left : Int) (hb : b < 256) (w : World) :
    Cal Tryd.prog 7 #[.int .u8 b, i64 left] w fun v w' => v = .bool true ∧ Nw w w' := by
  refine enter Tryd.mixed Tryd.func7 rfl (by kernel_rfl) ?_
  by_cases h0 : left < 0
  · simp -dsimp [go_sem, h0]
    exact Kp.refl _ _
  · by_cases h1 : 15 < left
    · simp -dsimp [go_sem, h0, h1]
      exact Kp.refl _ _
    · obtain ⟨L, rfl⟩ : ∃ L : Nat, left = L := ⟨left.toNat, by omega⟩
      have hL : L ≤ 15 := by omega
      have hdec := bits_dec b L hb hL
      have hta : (UInt8.ofNat b).toNat = b := by simp; omega
      have hub : u8 (UInt8.ofNat b) = .int .u8 (b : Int) := byteOf b hb
      simp -dsimp [go_sem, h0, h1]
      have ka : Nw w (w.alloc (.cells #[.int .u8 (b : Int)] 5)) := (Kp.refl _ _).alloc _
      refine call (encode_spec [UInt8.ofNat b] _ 1 _ (Rd.fresh rfl (by rw [List.map_cons, List.map_nil, hub])) (by simp)) ?_
      rintro v w1 ⟨rfl, hk⟩
      have nw1 := ka.nw hk
      have he : encB [UInt8.ofNat b] = [let6 (b / 4), let6 (b % 4 * 16), 61, 61] := by rw [encB, g4_a, hta]
      have e1 : IntKind.i64.wrap (b : Int) = (b : Int) := w64 (by omega) (by omega)
      have e2 : bits .and .i64 (b : Int) 3 = ((b % 4 : Nat) : Int) := by
        rw [show (3 : Int) = ((3 : Nat) : Int) from rfl, i64_and_nat _ 3 (by omega) (by omega), nat_mask2]
      have e3 : IntKind.i64.wrap (((b % 4 : Nat) : Int) * 16) = ((b % 4 * 16 : Nat) : Int) := by rw [w64 (by omega) (by omega)]; omega
      have e4 : bits .or .i64 ((b % 4 * 16 : Nat) : Int) (L : Int) = ((b % 4 * 16 + L : Nat) : Int) := by
        rw [i64_or_nat _ _ (by omega) (by omega), nat_join 4 _ _ (by omega) (by omega)]
      have hx0 : b / 4 < 64 := by omega
      have hn : b % 4 * 16 + L < 64 := by omega
      generalize b / 4 = x0 at *
      obtain ⟨n, hn'⟩ : ∃ n, n = b % 4 * 16 + L := ⟨_, rfl⟩
      rw [← hn'] at e4 hn hdec
      generalize b % 4 * 16 = y at *
      generalize b % 4 = z at *
      have e5 : IntKind.i64.wrap ((n : Int) + 1) = ((n + 1 : Nat) : Int) := by rw [w64 (by omega) (by omega)]; omega
      obtain ⟨n1, hn1⟩ : ∃ n1, n1 = n + 1 := ⟨_, rfl⟩
      rw [← hn1] at e5
      have e6 : n1 ≤ 64 := by omega
      have e6i : (n1 : Int) ≤ 64 := by omega
      have e7 : n ≤ n1 := by omega
      have e8 : abcS.extract n n1 = ⟨#[let6 n]⟩ := by rw [hn1]; exact abcS_cut n hn
      have e9 : (⟨#[let6 x0, let6 y, 61, 61]⟩ : ByteArray).extract 0 1 = ⟨#[let6 x0]⟩ := rfl
      have e10 : (⟨#[let6 x0]⟩ : ByteArray) ++ ⟨#[let6 n]⟩ = ⟨#[let6 x0, let6 n]⟩ := str_app [let6 x0] [let6 n]
      have e11 : (⟨#[let6 x0, let6 n]⟩ : ByteArray) ++ ⟨#[61, 61]⟩ = ⟨#[let6 x0, let6 n, 61, 61]⟩ := str_app [let6 x0, let6 n] [61, 61]
      simp -dsimp [go_sem, he, e1, e2, e3, e4]
      have kd : Nw w1 w1.drew := (Kp.refl _ _).drew
      refine draw (.take 0 (.take 1 (.take 2 (.take 3 (.take 4 (.take 5 (.take 6 (.take 7 (.take 8 (.alt 9 (.take 10 (.take 11 (.take 12 (.take 13 (.take 14 .done))))) .stop)))))))))) (by kernel_rfl) (fun wz => Nw w1 wz) kd ?_
      simp -dsimp [go_sem, e5, e6, e6i, e7, e8, e9, e10, e11]
      refine call (decode_spec [let6 x0, let6 n, 61, 61] w1.drew (by simp)) ?_
      rintro v w2 ⟨⟨va, rfl, hB⟩, hk2⟩
      have k2 := kd.nw hk2
      have n2 := nw1.nw k2
      refine ⟨k2, ?_⟩
      by_cases hL0 : L = 0
      · rw [if_pos hL0] at hdec
        rw [hdec] at hB
        obtain ⟨A1, c1, rfl, ho1, hA1⟩ := hB
        have hL0i : ((L : Int) == 0) = true := by simp [hL0]
        obtain ⟨q, o, rfl, hcell⟩ := ho1.rd 0 (u8 (UInt8.ofNat b)) rfl
        rw [hub, Nat.add_zero] at hcell
        simp -dsimp [go_sem, hdec, hL0i, hcell]
        refine call (bknown_spec w2) ?_
        rintro v w3 ⟨rfl, hk3⟩
        simp -dsimp [go_sem]
        exact n2.nw hk3
      · rw [if_neg hL0] at hdec
        have hL0i : ((L : Int) == 0) = false := by simp [hL0]
        simp -dsimp [go_sem, hdec, hL0i]
        refine call (bknown_spec w2) ?_
        rintro v w3 ⟨rfl, hk3⟩
        simp -dsimp [go_sem]
        exact n2.nw hk3
theorem joins_law (a b : List UInt8) (A B : Option Addr) (c d : Nat) (w : World) (hr : Rd w A (a.map u8)) (hc : a.length ≤ c) (hr2 : Rd w B (b.map u8)) (hal : a.length ≤ 140737488355328) (hbl : b.length ≤ 140737488355328) :
    Cal Tryd.prog 8 #[.slice A a.length c, .slice B b.length d] w fun v w' => v = .bool true ∧ Nw w w' := by
  refine enter Tryd.mixed Tryd.func8 rfl (by kernel_rfl) ?_
  have hs : IntKind.i64.wrap ((a.length : Int) + (b.length : Int)) = ((a.length + b.length : Nat) : Int) := w64 (by omega) (by omega)
  obtain ⟨s, hs'⟩ : ∃ s, s = a.length + b.length := ⟨_, rfl⟩
  rw [← hs'] at hs
  by_cases h0 : (1500 : Int) < (s : Int)
  · simp -dsimp [go_sem, hs, h0]
    exact Kp.refl _ _
  · have hq : (a.length : Int).tdiv 3 = ((a.length / 3 : Nat) : Int) := rfl
    obtain ⟨q, hq'⟩ : ∃ q, q = a.length / 3 := ⟨_, rfl⟩
    rw [← hq'] at hq
    have hqw : IntKind.i64.wrap (q : Int) = (q : Int) := w64 (by omega) (by omega)
    have hq3 : IntKind.i64.wrap ((q : Int) * 3) = ((q * 3 : Nat) : Int) := by rw [w64 (by omega) (by omega)]; omega
    obtain ⟨r, hr'⟩ : ∃ r, r = q * 3 := ⟨_, rfl⟩
    rw [← hr'] at hq3
    have hrl : r ≤ a.length := by omega
    have hrc : r ≤ c := by omega
    have hbt : (a.take r).length = r := by rw [List.length_take]; omega
    have hrt : Rd w A ((a.take r).map u8) := by rw [List.map_take]; exact hr.take r
    have happ := encB_app (a.take r) b (by rw [hbt]; omega)
    have hl1 := encB_len (a.take r)
    have hl2 := encB_len b
    generalize a.take r = a' at *
    simp -dsimp [go_sem, hs, h0, hq, hqw, hq3, hrc, sliced]
    have ka : Nw w (w.alloc (.cells #[] 5)) := (Kp.refl _ _).alloc _
    rw [← hbt]
    refine bs_app (B := w.heap.size) (m := a') (l := []) (Bs.of_gs (Gs.made w 5 1 0 #[] rfl rfl rfl (by simp [maxLen]) (Nat.le_refl _)) rfl) (hrt.nw ka) (by simp; omega) ka.size ?_
    intro v1 w1 hB1 hk1
    have n1 : Nw w w1 := Nw.fr ka hk1 (Nat.le_refl _)
    rw [List.nil_append] at hB1
    simp -dsimp [go_sem]
    refine bs_app (B := w.heap.size) (m := b) (l := a') hB1 (hr2.nw n1) (by omega) n1.size ?_
    intro v2 w2 hB2 hk2
    have n2 : Nw w w2 := Nw.fr n1 hk2 (Nat.le_refl _)
    have habl : (a' ++ b).length ≤ 1500 := by rw [List.length_append]; omega
    obtain ⟨ab, hab⟩ : ∃ ab, ab = a' ++ b := ⟨_, rfl⟩
    rw [← hab] at hB2 happ habl
    obtain ⟨A2, c2, rfl, ho2, hA2⟩ := hB2
    simp -dsimp [go_sem]
    refine call (encode_spec ab A2 c2 w2 ho2.rd (by omega)) ?_
    rintro v w3 ⟨rfl, hk3⟩
    have n3 := n2.nw hk3
    simp -dsimp [go_sem]
    refine call (encode_spec a' A c w3 (hrt.nw n3) (by omega)) ?_
    rintro v w4 ⟨rfl, hk4⟩
    have n4 := n3.nw hk4
    simp -dsimp [go_sem]
    refine call (encode_spec b B d w4 (hr2.nw n4) (by omega)) ?_
    rintro v w5 ⟨rfl, hk5⟩
    have n5 := n4.nw hk5
    have hz : ¬ 9223372036854775807 < (encB a').length + (encB b).length := by omega
    have hsa := str_app (encB a') (encB b)
    simp -dsimp [go_sem, happ, hz, hsa]
    refine call (bknown_spec w5) ?_
    rintro v w6 ⟨rfl, hk6⟩
    simp -dsimp [go_sem]
    exact n5.nw hk6
end Go.Proofs.YthdbppggnkfgjaaDoor
