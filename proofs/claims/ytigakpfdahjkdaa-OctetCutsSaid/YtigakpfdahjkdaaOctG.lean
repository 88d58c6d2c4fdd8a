/-
  What the statements' own small functions, and the reference's numbers, come to: spoil, roomy, stands, heavyRows; Num, Nums, Bytes. By the session itself.
-/
import Derived.Test.YtigakpfdahjkdaaOctF
namespace Go.Proofs.Ytigakpfdahjkdaa
set_option linter.unusedSimpArgs false
set_option linter.unusedVariables false
open Go.Vc Go.RowKit

theorem spoil_spec (l : List UInt8) (w : World) (A : Option Addr) (c : Nat) (ho : Ow w 5 1 A l.length c (l.map u8)) (hl : l.length + 1 ≤ 140737488355328) :
    Cal Try.prog 24 #[.slice A l.length c] w fun v w' => v = .tuple #[] ∧ Kp (blk A) w w' := by
  refine enter Try.mixed Try.func24 rfl (by kernel_rfl) ?_
  simp -dsimp [go_sem]
  have k0 : Nw w (w.alloc (.cells #[.int .u8 99] 5)) := (Kp.refl _ _).alloc _
  refine app Try.Su8 (ho.nw k0) (Rd.fresh (xs := [99].map u8) rfl rfl) (m := 1) (by simp) (one_u8 [99]) (by omega) (by omega) ?_
  intro A' c' w1 ho1 hk1 hAA
  obtain ⟨g, rfl⟩ := ho1.some (by omega)
  have hg : w.heap.size ≤ g ∨ blk A g := by
    rcases hAA with rfl | ⟨e, _⟩
    · exact .inr rfl
    · cases e; exact .inl k0.size
  have k1 : Kp (blk A) w w1 := (k0.kp _).trans hk1 fun _ _ h => h
  simp -dsimp [go_sem]
  refine loop [3, 7, 8, 9, 10, 11, 12, 13, 14, 15] (by kernel_rfl) (fun f w' => Box1 (fun a w' => ∃ (i : Nat) (ys : List Value), i ≤ l.length + 1 ∧ a = i64 i ∧ Ow w' 5 1 (some ⟨g, 0, none⟩) (l.length + 1) c' ys ∧ Kp (blk A) w w') (f 3) w')
    (fun f _ => l.length + 1 - (intOf (f 3)).toNat) ⟨0, _, Nat.zero_le _, rfl, ho1, k1⟩ ?_
  rintro f w' ⟨i, ys, hi, f3, ho', hK⟩
  obtain ⟨n, hn⟩ : ∃ n, n = l.length + 1 := ⟨_, rfl⟩
  rw [← hn] at ho' hi ⊢
  simp -dsimp [go_sem, f3, ← hn]
  refine cond_d (fun hlt => ?_) (fun hlt => ?_)
  · have hlt : i < n := by omega
    have hc := ho'.rd.at_ (j := i) (by rw [ho'.1]; omega)
    obtain ⟨b, o, e, hc⟩ := hc
    cases e
    rw [Nat.zero_add] at hc
    have hf := ho'.frozen i
    have hk1 : IntKind.i64.wrap ((i : Int) + 1) = ((i + 1 : Nat) : Int) := w64 (by omega) (by omega)
    obtain ⟨k1, hk1'⟩ : ∃ k1, k1 = i + 1 := ⟨_, rfl⟩
    rw [← hk1'] at hk1
    simp -dsimp [go_sem, f3, hlt, hc, hf, hk1, ← hn]
    refine ⟨⟨k1, _, by omega, rfl, ho'.set i _, hK.setCell _ _ hg⟩, by simp [intOf]; omega⟩
  · simp -dsimp [go_sem]
    exact hK

theorem roomy_spec (l : List UInt8) (w : World) (A : Option Addr) (c : Nat) (hr : Rd w A (l.map u8)) (hl : l.length + 2 ≤ 140737488355328) :
    Cal Try.prog 32 #[.slice A l.length c] w fun v w' => Bs w' v (l ++ [171]) w.heap.size ∧ Nw w w' := by
  refine enter Try.mixed Try.func32 rfl (by kernel_rfl) ?_
  simp -dsimp [go_sem]
  have k0 : Nw w (w.alloc (.cells #[] 5)) := (Kp.refl _ _).alloc _
  refine bs_app (m := l) (l := []) (B := w.heap.size) (Gs.made w 5 1 0 #[] rfl rfl rfl (by simp [maxLen]) (Nat.le_refl _)) (hr.nw k0) (by simp; omega) k0.size ?_
  intro v1 w1 hB1 hk1
  have k1 := k0.fr hk1 (Nat.le_refl _)
  rw [List.nil_append] at hB1
  simp -dsimp [go_sem]
  refine bs_push (x := 171) hB1 rfl (by omega) (by omega) k1.size ?_
  intro v2 w2 hB2 hk2
  have k2 := k1.fr hk2 (Nat.le_refl _)
  simp -dsimp [go_sem]
  refine bs_push (x := 171) hB2 rfl (by omega) (by rw [List.length_append]; simp; omega) k2.size ?_
  intro v3 w3 hB3 hk3
  have k3 := k2.fr hk3 (Nat.le_refl _)
  obtain ⟨A3, c3, rfl, ho3, hA3⟩ := hB3
  have h1 : IntKind.i64.wrap ((l.length : Int) + 1) = ((l.length + 1 : Nat) : Int) := w64 (by omega) (by omega)
  have hlen : (l ++ [UInt8.ofNat 171] ++ [UInt8.ofNat 171]).length = l.length + 2 := by simp
  rw [hlen] at ho3
  obtain ⟨n, hn⟩ : ∃ n, n = l.length + 1 := ⟨_, rfl⟩
  have hnc : n ≤ c3 := by have := ho3.2.1; omega
  rw [← hn] at h1
  simp -dsimp [go_sem, h1, hnc]
  refine ⟨⟨A3, c3, by simp [hn], ?_, hA3⟩, k3⟩
  have := ho3.take (m := n) (by omega)
  rw [hn, Nat.mul_one, ← List.map_take, List.take_append_of_le_length (by simp), List.take_of_length_le (by simp)] at this
  simpa using this

theorem stands_spec (l : List UInt8) (w : World) (A B : Option Addr) (c d : Nat) (hA : Rd w A ((l ++ [171]).map u8)) (hc : l.length + 1 ≤ c) (hB : Rd w B (l.map u8)) (hl : l.length + 1 ≤ 140737488355328) :
    Cal Try.prog 34 #[.slice A (l.length + 1) c, .slice B l.length d] w fun v w' => v = .bool true ∧ Nw w w' := by
  refine enter Try.mixed Try.func34 rfl (by kernel_rfl) ?_
  have h1 : IntKind.i64.wrap ((l.length : Int) + 1) = ((l.length + 1 : Nat) : Int) := w64 (by omega) (by omega)
  obtain ⟨n, hn⟩ : ∃ n, n = l.length + 1 := ⟨_, rfl⟩
  have hlc : l.length ≤ c := by omega
  have hln : l.length < n := by omega
  have hc2 := hA l.length (u8 171) (by simp)
  obtain ⟨b, o, rfl, hcell⟩ := hc2
  rw [← hn] at h1 ⊢
  simp -dsimp [go_sem, h1, hlc]
  refine call (same_spec (some ⟨b, o, none⟩) B c d l l w (by simpa using hA.take l.length) hB (by omega)) ?_
  rintro v w1 ⟨rfl, hk⟩
  have hcell1 := hk.cell_some hcell fun h => h
  simp -dsimp [go_sem, hln, hcell1]
  exact hk

/-- What rows weigh: a row its length and 3. -/
def wei (ps : List (List UInt8)) : Nat := (ps.map fun p => 3 + p.length).sum
theorem wei_at (ps : List (List UInt8)) (k : Nat) (hk : k < ps.length) : wei (ps.take (k + 1)) = wei (ps.take k) + 3 + ps[k].length := by
  unfold wei
  rw [List.take_succ_eq_append_getElem hk, List.map_append, List.sum_append]
  simp
  omega
theorem wei_ge (ps : List (List UInt8)) : 3 * ps.length ≤ wei ps := by
  unfold wei
  induction ps with
  | nil => simp
  | cons p ps ih => simp only [List.map_cons, List.sum_cons, List.length_cons]; omega
theorem wei_flat (ps : List (List UInt8)) : ps.flatten.length ≤ wei ps := by
  unfold wei
  induction ps with
  | nil => simp
  | cons p ps ih => simp only [List.map_cons, List.sum_cons, List.flatten_cons, List.length_append]; omega
theorem wei_mem (ps : List (List UInt8)) (p : List UInt8) (h : p ∈ ps) : p.length ≤ wei ps := by
  unfold wei
  induction ps with
  | nil => cases h
  | cons q ps ih =>
    simp only [List.map_cons, List.sum_cons]
    rcases List.mem_cons.1 h with rfl | h
    · omega
    · have := ih h; omega

theorem heavy_spec (ps : List (List UInt8)) (w : World) (A : Option Addr) (c : Nat) (S : Nat → Prop) (hr : Brs w A ps S) :
    Cal Try.prog 28 #[.slice A ps.length c] w fun v w' => ∃ b, v = .bool b ∧ (b = false → wei ps ≤ 4000) ∧ w' = w := by
  refine enter Try.mixed Try.func28 rfl (by kernel_rfl) ?_
  simp -dsimp [go_sem]
  refine loop [2, 3, 4, 5, 6, 7, 8, 9, 10, 11, 12, 13, 14, 15, 16, 17, 18, 19, 20, 21, 22, 23, 24, 25, 26] (by kernel_rfl)
    (fun f w' => Box2 (fun a b w' => ∃ i : Nat, i ≤ ps.length ∧ b = i64 i ∧ a = i64 (wei (ps.take i) : Nat) ∧ wei (ps.take i) ≤ 4000 ∧ w' = w) (f 3) (f 4) w') (fun f _ => ps.length - (intOf (f 4)).toNat) ⟨0, Nat.zero_le _, rfl, rfl, by simp [wei], rfl⟩ ?_
  rintro f w' ⟨i, hi, f4, f3, hw, rfl⟩
  have hge := wei_ge (ps.take i)
  rw [List.length_take, Nat.min_eq_left hi] at hge
  obtain ⟨x, hx⟩ : ∃ x, x = wei (ps.take i) := ⟨_, rfl⟩
  rw [← hx] at f3 hw hge
  simp -dsimp [go_sem, f3, f4]
  refine cond_d (fun hlt => ?_) (fun hlt => ?_)
  · have hlt : i < ps.length := by omega
    obtain ⟨vs, hvl, hrd, hoA, hi'⟩ := id hr
    obtain ⟨B, d, hv, hrB, hoB, hd⟩ := hi' i hlt
    obtain ⟨b, o, rfl, hcell⟩ := hrd i _ hv
    simp -dsimp [go_sem, f4, hlt, hcell]
    refine cond_d (fun h4 => ?_) (fun h4 => ?_)
    · simp -dsimp [go_sem]
    · have h4 : ps[i].length ≤ 4000 := by omega
      have hat := wei_at ps i hlt
      have h1 : IntKind.i64.wrap ((x : Int) + 3) = ((x + 3 : Nat) : Int) := w64 (by omega) (by omega)
      obtain ⟨y, hy⟩ : ∃ y, y = x + 3 := ⟨_, rfl⟩
      have h2 : IntKind.i64.wrap ((y : Int) + (ps[i].length : Int)) = ((y + ps[i].length : Nat) : Int) := w64 (by omega) (by omega)
      obtain ⟨z, hz⟩ : ∃ z, z = y + ps[i].length := ⟨_, rfl⟩
      rw [← hy] at h1
      rw [← hz] at h2
      simp -dsimp [go_sem, f3, f4, hlt, hcell, h1, h2]
      refine cond_d (fun h5 => ?_) (fun h5 => ?_)
      · simp -dsimp [go_sem]
      · have h5 : z ≤ 4000 := by omega
        have hk1 : IntKind.i64.wrap ((i : Int) + 1) = ((i + 1 : Nat) : Int) := w64 (by omega) (by omega)
        obtain ⟨k1, hk1'⟩ : ∃ k1, k1 = i + 1 := ⟨_, rfl⟩
        rw [← hk1'] at hk1 hat
        simp -dsimp [go_sem, f4, hk1]
        have hz' : z = wei (ps.take k1) := by omega
        exact ⟨⟨k1, by omega, rfl, by rw [hz'], by omega, rfl⟩, by simp [intOf]; omega⟩
  · obtain rfl : i = ps.length := by omega
    simp -dsimp [go_sem]
    rw [List.take_length] at hx
    omega

theorem or128b (n : Nat) (h : n < 18446744073709551616) : bits .or .u8 (IntKind.u8.wrap (bits .and .u64 (n : Int) 127)) 128 = ((n % 128 + 128 : Nat) : Int) := by
  have e : bits .and .u64 (n : Int) 127 = ((n % 128 : Nat) : Int) := by
    rw [show (127 : Int) = ((127 : Nat) : Int) from rfl, u64_and_nat _ _ h (by omega)]
    congr 1
    exact Nat.and_two_pow_sub_one_eq_mod n 7
  rw [e, or128]
  congr 1
  omega
/-- The reference's number. -/
theorem refNum_spec (v : Int) (w : World) (h1 : -9223372036854775808 ≤ v) (h2 : v ≤ 9223372036854775807) :
    Cal Try.prog 48 #[i64 v] w fun u w' => Bs w' u (numB (clampN v)) w.heap.size ∧ Nw w w' := by
  have hcl := clampN_le v
  obtain ⟨n, hn⟩ : ∃ n, n = clampN v := ⟨_, rfl⟩
  rw [← hn] at hcl ⊢
  refine enter Try.mixed Try.func48 rfl (by kernel_rfl) ?_
  simp -dsimp [go_sem]
  refine cond_d (fun hv => ?_) (fun hv => ?_)
  · simp -dsimp [go_sem]
    have hnv : (n : Int) = 4611686018427387904 := by rw [hn]; unfold clampN; omega
    refine loop [3, 4, 11, 12, 13, 14, 15, 16, 17, 18, 19, 20, 21] (by kernel_rfl) (fun f w' => Box2 (fun a b w' => ∃ (u : Nat) (l : List UInt8), a = .int .u64 u ∧ u ≤ n ∧ l ++ numB u = numB n ∧ Bs w' b l w.heap.size ∧ Nw w w') (f 3) (f 4) w')
      (fun f _ => (intOf (f 3)).toNat) ⟨n, [], by first | rfl | simp [upd, hnv], Nat.le_refl _, by simp, Bs.nil _ _, Kp.refl _ _⟩ ?_
    rintro f w' ⟨u, l, f3, hu, hlu, hB, hK⟩
    have hlen2 : l.length + 1 ≤ 9 := by
      have hp := numB_pos u
      have h1 := congrArg List.length hlu
      rw [List.length_append] at h1
      have h2 := numB_len9 hcl
      omega
    simp -dsimp [go_sem, f3]
    refine cond_d (fun hbig => ?_) (fun hbig => ?_)
    · have hbig : ¬ u < 128 := by omega
      have ho1 := or128b u (by omega)
      obtain ⟨x, hx⟩ : ∃ x, x = u % 128 + 128 := ⟨_, rfl⟩
      rw [← hx] at ho1
      simp -dsimp [go_sem, f3, ho1]
      refine bs_push (x := x) hB rfl (by omega) (by omega) hK.size ?_
      intro v' w2 hB2 hk2
      have hsh : (u : Int) / 128 = ((u / 128 : Nat) : Int) := by omega
      obtain ⟨y, hy⟩ : ∃ y, y = u / 128 := ⟨_, rfl⟩
      rw [← hy] at hsh
      simp -dsimp [go_sem, f3, hsh]
      refine ⟨⟨y, l ++ [UInt8.ofNat x], rfl, by omega, ?_, hB2, hK.fr hk2 (Nat.le_refl _)⟩, by simp [intOf]; omega⟩
      rw [← hlu, numB_big hbig, hx, hy, List.append_assoc]
      rfl
    · have hbig : u < 128 := by omega
      have hwu : IntKind.u8.wrap (u : Int) = u := by rw [IntKind.wrap_u8']; omega
      simp -dsimp [go_sem, f3, hwu]
      refine bs_push (x := u) hB rfl (by omega) (by omega) hK.size ?_
      intro v' w2 hB2 hk2
      simp -dsimp [go_sem]
      rw [numB_small hbig] at hlu
      rw [hlu] at hB2
      exact ⟨hB2, hK.fr hk2 (Nat.le_refl _)⟩
  · simp -dsimp [go_sem]
    refine cond_d (fun h0 => ?_) (fun h0 => ?_)
    · have hnv : (n : Int) = v := by rw [hn]; unfold clampN; omega
      have hw : IntKind.u64.wrap v = n := by rw [IntKind.wrap_u64]; omega
      simp -dsimp [go_sem, hw]
      refine loop [3, 4, 11, 12, 13, 14, 15, 16, 17, 18, 19, 20, 21] (by kernel_rfl) (fun f w' => Box2 (fun a b w' => ∃ (u : Nat) (l : List UInt8), a = .int .u64 u ∧ u ≤ n ∧ l ++ numB u = numB n ∧ Bs w' b l w.heap.size ∧ Nw w w') (f 3) (f 4) w')
        (fun f _ => (intOf (f 3)).toNat) ⟨n, [], by first | rfl | simp [upd, hnv], Nat.le_refl _, by simp, Bs.nil _ _, Kp.refl _ _⟩ ?_
      rintro f w' ⟨u, l, f3, hu, hlu, hB, hK⟩
      have hlen2 : l.length + 1 ≤ 9 := by
        have hp := numB_pos u
        have h1 := congrArg List.length hlu
        rw [List.length_append] at h1
        have h2 := numB_len9 hcl
        omega
      simp -dsimp [go_sem, f3]
      refine cond_d (fun hbig => ?_) (fun hbig => ?_)
      · have hbig : ¬ u < 128 := by omega
        have ho1 := or128b u (by omega)
        obtain ⟨x, hx⟩ : ∃ x, x = u % 128 + 128 := ⟨_, rfl⟩
        rw [← hx] at ho1
        simp -dsimp [go_sem, f3, ho1]
        refine bs_push (x := x) hB rfl (by omega) (by omega) hK.size ?_
        intro v' w2 hB2 hk2
        have hsh : (u : Int) / 128 = ((u / 128 : Nat) : Int) := by omega
        obtain ⟨y, hy⟩ : ∃ y, y = u / 128 := ⟨_, rfl⟩
        rw [← hy] at hsh
        simp -dsimp [go_sem, f3, hsh]
        refine ⟨⟨y, l ++ [UInt8.ofNat x], rfl, by omega, ?_, hB2, hK.fr hk2 (Nat.le_refl _)⟩, by simp [intOf]; omega⟩
        rw [← hlu, numB_big hbig, hx, hy, List.append_assoc]
        rfl
      · have hbig : u < 128 := by omega
        have hwu : IntKind.u8.wrap (u : Int) = u := by rw [IntKind.wrap_u8']; omega
        simp -dsimp [go_sem, f3, hwu]
        refine bs_push (x := u) hB rfl (by omega) (by omega) hK.size ?_
        intro v' w2 hB2 hk2
        simp -dsimp [go_sem]
        rw [numB_small hbig] at hlu
        rw [hlu] at hB2
        exact ⟨hB2, hK.fr hk2 (Nat.le_refl _)⟩
    · have hnv : (n : Int) = 0 := by rw [hn]; unfold clampN; omega
      simp -dsimp [go_sem]
      refine loop [3, 4, 11, 12, 13, 14, 15, 16, 17, 18, 19, 20, 21] (by kernel_rfl) (fun f w' => Box2 (fun a b w' => ∃ (u : Nat) (l : List UInt8), a = .int .u64 u ∧ u ≤ n ∧ l ++ numB u = numB n ∧ Bs w' b l w.heap.size ∧ Nw w w') (f 3) (f 4) w')
        (fun f _ => (intOf (f 3)).toNat) ⟨n, [], by first | rfl | simp [upd, hnv], Nat.le_refl _, by simp, Bs.nil _ _, Kp.refl _ _⟩ ?_
      rintro f w' ⟨u, l, f3, hu, hlu, hB, hK⟩
      have hlen2 : l.length + 1 ≤ 9 := by
        have hp := numB_pos u
        have h1 := congrArg List.length hlu
        rw [List.length_append] at h1
        have h2 := numB_len9 hcl
        omega
      simp -dsimp [go_sem, f3]
      refine cond_d (fun hbig => ?_) (fun hbig => ?_)
      · have hbig : ¬ u < 128 := by omega
        have ho1 := or128b u (by omega)
        obtain ⟨x, hx⟩ : ∃ x, x = u % 128 + 128 := ⟨_, rfl⟩
        rw [← hx] at ho1
        simp -dsimp [go_sem, f3, ho1]
        refine bs_push (x := x) hB rfl (by omega) (by omega) hK.size ?_
        intro v' w2 hB2 hk2
        have hsh : (u : Int) / 128 = ((u / 128 : Nat) : Int) := by omega
        obtain ⟨y, hy⟩ : ∃ y, y = u / 128 := ⟨_, rfl⟩
        rw [← hy] at hsh
        simp -dsimp [go_sem, f3, hsh]
        refine ⟨⟨y, l ++ [UInt8.ofNat x], rfl, by omega, ?_, hB2, hK.fr hk2 (Nat.le_refl _)⟩, by simp [intOf]; omega⟩
        rw [← hlu, numB_big hbig, hx, hy, List.append_assoc]
        rfl
      · have hbig : u < 128 := by omega
        have hwu : IntKind.u8.wrap (u : Int) = u := by rw [IntKind.wrap_u8']; omega
        simp -dsimp [go_sem, f3, hwu]
        refine bs_push (x := u) hB rfl (by omega) (by omega) hK.size ?_
        intro v' w2 hB2 hk2
        simp -dsimp [go_sem]
        rw [numB_small hbig] at hlu
        rw [hlu] at hB2
        exact ⟨hB2, hK.fr hk2 (Nat.le_refl _)⟩

theorem numsB_take {vs : List Int} {k : Nat} (h : k < vs.length) : numsB (vs.take (k + 1)) = numsB (vs.take k) ++ numB (clampN vs[k]) := by
  unfold numsB
  rw [List.take_succ_eq_append_getElem h, List.flatMap_append]
  simp
theorem refNums_spec (vs : List Int) (B : Option Addr) (d : Nat) (w : World) (hr : Rd w B (vs.map i64)) (hw : ∀ v ∈ vs, -9223372036854775808 ≤ v ∧ v ≤ 9223372036854775807) (hl : 9 * vs.length ≤ 140737488355328) :
    Cal Try.prog 22 #[.slice B vs.length d] w fun u w' => Bs w' u (numsB vs) w.heap.size ∧ Nw w w' := by
  refine enter Try.mixed Try.func22 rfl (by kernel_rfl) ?_
  simp -dsimp [go_sem]
  refine loop [3, 4, 5, 6, 7, 8, 9, 10, 11, 12, 13, 14, 15, 16, 17] (by kernel_rfl) (fun f w' => Box2 (fun a b w' => ∃ k : Nat, k ≤ vs.length ∧ b = i64 k ∧ Bs w' a (numsB (vs.take k)) w.heap.size ∧ Nw w w') (f 3) (f 4) w')
    (fun f _ => vs.length - (intOf (f 4)).toNat) ⟨0, Nat.zero_le _, rfl, Bs.nil _ _, Kp.refl _ _⟩ ?_
  rintro f w' ⟨k, hk, f4, hB, hK⟩
  simp -dsimp [go_sem, f4]
  refine cond_d (fun hlt => ?_) (fun hlt => ?_)
  · have hlt : k < vs.length := by omega
    obtain ⟨b, o, rfl, hcell⟩ := hr k (i64 vs[k]) (by simp [hlt])
    have hcell' := hK.cell_some hcell fun h => h
    have hlen := numsB_len (vs.take k)
    rw [List.length_take, Nat.min_eq_left hk] at hlen
    have hvk := hw vs[k] (List.getElem_mem hlt)
    have hn9 := numB_len9 (clampN_le vs[k])
    simp -dsimp [go_sem, f4, hlt, hcell']
    refine call (refNum_spec vs[k] w' hvk.1 hvk.2) ?_
    rintro v w1 ⟨⟨A1, c1, rfl, ho1, hA1⟩, hkn⟩
    simp -dsimp [go_sem]
    refine bs_app (hB.nw hkn) ho1.rd (by omega) (by have := hK.size; have := hkn.size; omega) ?_
    intro v2 w2 hB2 hk2
    have hk1 : IntKind.i64.wrap ((k : Int) + 1) = ((k + 1 : Nat) : Int) := w64 (by omega) (by omega)
    rw [← numsB_take hlt] at hB2
    obtain ⟨k1, hk1'⟩ : ∃ k1, k1 = k + 1 := ⟨_, rfl⟩
    rw [← hk1'] at hk1 hB2
    simp -dsimp [go_sem, f4, hk1]
    exact ⟨⟨k1, by omega, rfl, hB2, Nw.fr (hK.nw hkn) hk2 (Nat.le_refl _)⟩, by simp [intOf]; omega⟩
  · obtain rfl : k = vs.length := by omega
    simp -dsimp [go_sem]
    rw [List.take_length] at hB
    exact ⟨hB, hK⟩
theorem refBytes_spec (l : List UInt8) (A : Option Addr) (c : Nat) (w : World) (hr : Rd w A (l.map u8)) (hl : l.length ≤ 100000000000000) :
    Cal Try.prog 35 #[.slice A l.length c] w fun u w' => Bs w' u (rowB l) w.heap.size ∧ Nw w w' := by
  refine enter Try.mixed Try.func35 rfl (by kernel_rfl) ?_
  simp -dsimp [go_sem]
  refine call (refNum_spec (l.length : Int) w (by omega) (by omega)) ?_
  rintro v w1 ⟨hB, hk⟩
  have e : clampN (l.length : Int) = l.length := by unfold clampN; omega
  rw [e] at hB
  have h9 := numB_len9 (n := l.length) (by omega)
  simp -dsimp [go_sem]
  refine bs_app hB (hr.nw hk) (by omega) hk.size ?_
  intro v2 w2 hB2 hk2
  simp -dsimp [go_sem]
  exact ⟨hB2, hk.fr hk2 (Nat.le_refl _)⟩
end Go.Proofs.Ytigakpfdahjkdaa
