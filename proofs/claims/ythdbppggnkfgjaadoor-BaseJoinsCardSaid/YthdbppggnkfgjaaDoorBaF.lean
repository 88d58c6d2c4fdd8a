/-
  The reference's Encode walked. By the session itself.
-/
import Derived.Test.YthdbppggnkfgjaaDoorBaE
import Derived.Laws.DeepStrings4
namespace Go.Proofs.YthdbppggnkfgjaaDoor
set_option linter.unusedSimpArgs false
set_option linter.unusedVariables false
set_option maxRecDepth 100000
set_option maxHeartbeats 2000000
open Go.Vc Go.RowKit

theorem ext_abc (x : Nat) (hx : x < 64) (w : World) (a : Int) (b : Int) (ha : a = x) (hb : b = x + 1) : (Instr.slice 9 (.string abcS) (some (.int .i64 a)) (some (.int .i64 b)) none).run Tryd.prog w = .ok (.string ⟨#[let6 x]⟩) w := by
  subst ha; subst hb
  rw [run_slice_string_if w 9 abcS .i64 .i64 _ _ (by kernel_rfl), if_pos ⟨by omega, by show (x : Int) + 1 ≤ 64; omega⟩, if_pos ⟨by omega, by omega⟩]
  rw [show ((x : Int) + 1).toNat = x + 1 by omega, show ((x : Int)).toNat = x by omega, abcS_cut x hx]
theorem lett_lt (m : Nat) (h : m < 16777216) : m / 262144 < 64 := by omega
/-- What of a group of three is known in the walk: its number's four parts. -/
theorem num3_lt (l : List UInt8) : num3 l < 16777216 := by
  have := getB_lt l 0; have := getB_lt l 1; have := getB_lt l 2
  unfold num3; omega
theorem getB_drop (l : List UInt8) (i k : Nat) : getB (l.drop i) k = if h : i + k < l.length then l[i + k].toNat else 0 := by
  unfold getB
  by_cases h : i + k < l.length
  · simp [h]
  · rw [dif_neg h, List.getD_eq_getElem?_getD, List.getElem?_eq_none (by simp; omega)]; rfl
theorem sh18 (N : Nat) (h : N < 16777216) : (N : Int) / 262144 = ((N / 262144 : Nat) : Int) := by omega
theorem g4_eq (l : List UInt8) (h : l ≠ []) : g4 l = [let6 (num3 l / 262144), let6 (num3 l / 4096 % 64), (if 2 ≤ l.length then let6 (num3 l / 64 % 64) else 61), (if 3 ≤ l.length then let6 (num3 l % 64) else 61)] := by
  have hl : 1 ≤ l.length := by cases l <;> simp at *
  have hN := num3_lt l
  simp only [g4, lett]
  rw [if_pos (by omega), if_pos hl, show 2 ^ (6 * (3 - 0)) = 262144 from rfl, show 2 ^ (6 * (3 - 1)) = 4096 from rfl, show 2 ^ (6 * (3 - 2)) = 64 from rfl, show 2 ^ (6 * (3 - 3)) = 1 from rfl, Nat.div_one, Nat.mod_eq_of_lt (show num3 l / 262144 < 64 by omega)]

theorem rEncode_spec (l : List UInt8) (A : Option Addr) (c : Nat) (w : World) (hr : Rd w A (l.map u8)) (hl : l.length ≤ 1073741824) :
    Cal Tryd.prog 12 #[.slice A l.length c] w fun v w' => v = stL (encB l) ∧ Nw w w' := by
  refine enter Tryd.mixed Tryd.func12 rfl (by kernel_rfl) ?_
  simp -dsimp [go_sem]
  refine loop [3, 4, 5, 6, 7, 8, 9, 10, 11, 12, 13, 14, 15, 16, 17, 18, 19, 20, 21, 22, 23, 24, 25, 26, 27, 28, 29, 30, 31, 32, 33, 34, 35, 36, 37, 38, 39, 40, 41, 42, 43, 44, 45, 46, 47, 48, 49, 50, 51, 52, 53, 54, 55, 56, 57, 58, 59, 60, 61, 62, 63, 64, 65, 66, 67, 68, 69, 70, 71, 72, 73, 74, 75, 76, 77, 78, 79, 80, 81, 82, 83, 84, 85, 86, 87, 88, 89, 90, 91, 92, 93, 94, 95, 96, 97, 98, 99] (by kernel_rfl)
    (fun f w' => Box2 (fun a b w' => ∃ (i : Nat) (X : List UInt8), a = i64 i ∧ i ≤ l.length + 2 ∧ b = stL X ∧ X ++ encB (l.drop i) = encB l ∧ Nw w w') (f 4) (f 3) w') (fun f _ => l.length + 3 - (intOf (f 4)).toNat) ⟨0, [], rfl, by omega, rfl, by simp, Kp.refl _ _⟩ ?_
  rintro f w1' ⟨i, X, f4, hi, f3, hX, hk⟩
  have hXl : X.length ≤ 2000000000 := by
    have := congrArg List.length hX
    rw [List.length_append, encB_len l] at this
    omega
  by_cases hlt : i < l.length
  · have hlt' : (i : Int) < (l.length : Int) := by omega
    have hne : l.drop i ≠ [] := by simp; omega
    have hi1 : IntKind.i64.wrap ((i : Int) + 1) = ((i + 1 : Nat) : Int) := by rw [w64 (by omega) (by omega)]; omega
    have hi2 : IntKind.i64.wrap ((i : Int) + 2) = ((i + 2 : Nat) : Int) := by rw [w64 (by omega) (by omega)]; omega
    have hi3 : IntKind.i64.wrap ((i : Int) + 3) = ((i + 3 : Nat) : Int) := by rw [w64 (by omega) (by omega)]; omega
    have e0 := getB_drop l i 0
    have e1 := getB_drop l i 1
    have e2 := getB_drop l i 2
    have hb0 := getB_lt (l.drop i) 0
    have hb1 := getB_lt (l.drop i) 1
    have hb2 := getB_lt (l.drop i) 2
    have eN : num3 (l.drop i) = getB (l.drop i) 0 * 65536 + getB (l.drop i) 1 * 256 + getB (l.drop i) 2 := rfl
    rw [dif_pos (by omega)] at e0
    simp only [Nat.add_zero] at e0
    obtain ⟨b, o, rfl, hc0⟩ := (hr.nw hk) i (u8 l[i]) (by simp [hlt])
    replace hc0 : w1'.cell? ⟨b, o + i, none⟩ = some (.int .u8 (l[i].toNat : Int)) := hc0
    rw [← e0] at hc0
    obtain ⟨i1, hi1'⟩ : ∃ i1, i1 = i + 1 := ⟨_, rfl⟩
    obtain ⟨i2, hi2'⟩ : ∃ i2, i2 = i + 2 := ⟨_, rfl⟩
    obtain ⟨i3, hi3'⟩ : ∃ i3, i3 = i + 3 := ⟨_, rfl⟩
    rw [← hi1'] at hi1; rw [← hi2'] at hi2; rw [← hi3'] at hi3
    simp only [← hi1'] at e1
    simp only [← hi2'] at e2
    generalize getB (l.drop i) 0 = v0 at *
    have q0 : IntKind.i64.wrap (v0 : Int) = (v0 : Int) := w64 (by omega) (by omega)
    have q0' : IntKind.i64.wrap ((v0 : Int) * 65536) = ((v0 * 65536 : Nat) : Int) := by rw [w64 (by omega) (by omega)]; omega
    obtain ⟨u0, hu0⟩ : ∃ u0, u0 = v0 * 65536 := ⟨_, rfl⟩
    rw [← hu0] at q0'
    by_cases h1 : i1 < l.length
    · have h1' : (i1 : Int) < (l.length : Int) := by omega
      rw [dif_pos h1] at e1
      obtain ⟨_, _, er, hc1⟩ := (hr.nw hk) i1 (u8 l[i1]) (by simp [h1])
      cases er
      replace hc1 : w1'.cell? ⟨b, o + i1, none⟩ = some (.int .u8 (l[i1].toNat : Int)) := hc1
      rw [← e1] at hc1
      generalize getB (l.drop i) 1 = v1 at *
      have q1 : IntKind.i64.wrap (v1 : Int) = (v1 : Int) := w64 (by omega) (by omega)
      have q1' : IntKind.i64.wrap ((v1 : Int) * 256) = ((v1 * 256 : Nat) : Int) := by rw [w64 (by omega) (by omega)]; omega
      have or1 : bits .or .i64 (u0 : Int) ((v1 * 256 : Nat) : Int) = ((u0 + v1 * 256 : Nat) : Int) := by
        rw [i64_or_nat _ _ (by omega) (by omega), nat_join 16 _ _ (by omega) (by omega)]
      obtain ⟨u1, hu1⟩ : ∃ u1, u1 = v1 * 256 := ⟨_, rfl⟩
      rw [← hu1] at q1' or1
      obtain ⟨n1, hn1⟩ : ∃ n1, n1 = u0 + u1 := ⟨_, rfl⟩
      rw [← hn1] at or1
      by_cases h2 : i2 < l.length
      · have h2' : (i2 : Int) < (l.length : Int) := by omega
        rw [dif_pos h2] at e2
        obtain ⟨_, _, er, hc2⟩ := (hr.nw hk) i2 (u8 l[i2]) (by simp [h2])
        cases er
        replace hc2 : w1'.cell? ⟨b, o + i2, none⟩ = some (.int .u8 (l[i2].toNat : Int)) := hc2
        rw [← e2] at hc2
        generalize getB (l.drop i) 2 = v2 at *
        have q2 : IntKind.i64.wrap (v2 : Int) = (v2 : Int) := w64 (by omega) (by omega)
        have or2 : bits .or .i64 (n1 : Int) (v2 : Int) = ((num3 (l.drop i) : Nat) : Int) := by
          rw [i64_or_nat _ _ (by omega) (by omega), nat_join 8 _ _ (by omega) (by omega), eN]
          congr 1; omega
        simp -dsimp [go_sem, f4, hlt, hlt', hc0, q0, q0', hi1, h1, h1', hc1, q1, q1', or1, hi2, h2, h2', hc2, q2, or2]
        refine call (letters_spec w1') ?_
        rintro v wT ⟨rfl, rfl⟩
        simp -dsimp [go_sem]
        have hN := num3_lt (l.drop i)
        have hg4 := g4_eq (l.drop i) hne
        generalize num3 (l.drop i) = N at *
        have s18 : (N : Int) / 262144 = ((N / 262144 : Nat) : Int) := by omega
        have s12 : (N : Int) / 4096 = ((N / 4096 : Nat) : Int) := by omega
        have s6 : (N : Int) / 64 = ((N / 64 : Nat) : Int) := by omega
        have m12 : bits .and .i64 ((N / 4096 : Nat) : Int) 63 = ((N / 4096 % 64 : Nat) : Int) := by
          rw [show (63 : Int) = ((63 : Nat) : Int) from rfl, i64_and_nat _ 63 (by omega) (by omega), nat_mask6]
        have m6 : bits .and .i64 ((N / 64 : Nat) : Int) 63 = ((N / 64 % 64 : Nat) : Int) := by
          rw [show (63 : Int) = ((63 : Nat) : Int) from rfl, i64_and_nat _ 63 (by omega) (by omega), nat_mask6]
        have m0 : bits .and .i64 (N : Int) 63 = ((N % 64 : Nat) : Int) := by
          rw [show (63 : Int) = ((63 : Nat) : Int) from rfl, i64_and_nat _ 63 (by omega) (by omega), nat_mask6]
        have l0 : N / 262144 < 64 := by omega
        have l1 : N / 4096 % 64 < 64 := by omega
        have l2 : N / 64 % 64 < 64 := by omega
        have l3 : N % 64 < 64 := by omega
        generalize N / 262144 = x0 at *
        obtain ⟨y1, hy1⟩ : ∃ y1, y1 = N / 4096 := ⟨_, rfl⟩
        rw [← hy1] at s12 m12 l1 hg4
        obtain ⟨y2, hy2⟩ : ∃ y2, y2 = N / 64 := ⟨_, rfl⟩
        rw [← hy2] at s6 m6 l2 hg4
        generalize y1 % 64 = x1 at *
        generalize y2 % 64 = x2 at *
        generalize N % 64 = x3 at *
        have w0 : IntKind.i64.wrap ((x0 : Int) + 1) = ((x0 + 1 : Nat) : Int) := by rw [w64 (by omega) (by omega)]; omega
        have w1 : IntKind.i64.wrap ((x1 : Int) + 1) = ((x1 + 1 : Nat) : Int) := by rw [w64 (by omega) (by omega)]; omega
        have w2 : IntKind.i64.wrap ((x2 : Int) + 1) = ((x2 + 1 : Nat) : Int) := by rw [w64 (by omega) (by omega)]; omega
        have w3 : IntKind.i64.wrap ((x3 : Int) + 1) = ((x3 + 1 : Nat) : Int) := by rw [w64 (by omega) (by omega)]; omega
        have c0 : ∀ p : Nat, p = x0 + 1 → ∀ w, (Instr.slice 9 (.string abcS) (some (.int .i64 x0)) (some (.int .i64 p)) none).run Tryd.prog w = .ok (.string ⟨#[let6 x0]⟩) w := fun p hp w => ext_abc x0 l0 w _ _ rfl (by omega)
        have c1 : ∀ p : Nat, p = x1 + 1 → ∀ w, (Instr.slice 9 (.string abcS) (some (.int .i64 x1)) (some (.int .i64 p)) none).run Tryd.prog w = .ok (.string ⟨#[let6 x1]⟩) w := fun p hp w => ext_abc x1 l1 w _ _ rfl (by omega)
        have c2 : ∀ p : Nat, p = x2 + 1 → ∀ w, (Instr.slice 9 (.string abcS) (some (.int .i64 x2)) (some (.int .i64 p)) none).run Tryd.prog w = .ok (.string ⟨#[let6 x2]⟩) w := fun p hp w => ext_abc x2 l2 w _ _ rfl (by omega)
        have c3 : ∀ p : Nat, p = x3 + 1 → ∀ w, (Instr.slice 9 (.string abcS) (some (.int .i64 x3)) (some (.int .i64 p)) none).run Tryd.prog w = .ok (.string ⟨#[let6 x3]⟩) w := fun p hp w => ext_abc x3 l3 w _ _ rfl (by omega)
        obtain ⟨p0, hp0⟩ : ∃ p0, p0 = x0 + 1 := ⟨_, rfl⟩
        obtain ⟨p1, hp1⟩ : ∃ p1, p1 = x1 + 1 := ⟨_, rfl⟩
        obtain ⟨p2, hp2⟩ : ∃ p2, p2 = x2 + 1 := ⟨_, rfl⟩
        obtain ⟨p3, hp3⟩ : ∃ p3, p3 = x3 + 1 := ⟨_, rfl⟩
        rw [← hp0] at w0; rw [← hp1] at w1; rw [← hp2] at w2; rw [← hp3] at w3
        have c0 := c0 p0 hp0
        have c1 := c1 p1 hp1
        have p2l : (p2 : Int) ≤ 64 := by omega
        have p3l : (p3 : Int) ≤ 64 := by omega
        have p2x : x2 ≤ p2 := by omega
        have p3x : x3 ≤ p3 := by omega
        have d2 : abcS.extract x2 p2 = ⟨#[let6 x2]⟩ := by rw [hp2]; exact abcS_cut x2 l2
        have d3 : abcS.extract x3 p3 = ⟨#[let6 x3]⟩ := by rw [hp3]; exact abcS_cut x3 l3
        obtain ⟨X1, hX1⟩ : ∃ X1, X1 = X ++ [let6 x0] := ⟨_, rfl⟩
        obtain ⟨X2, hX2⟩ : ∃ X2, X2 = X1 ++ [let6 x1] := ⟨_, rfl⟩
        have a0 : (⟨X.toArray⟩ : ByteArray) ++ ⟨#[let6 x0]⟩ = ⟨X1.toArray⟩ := by rw [hX1]; exact str_app X [let6 x0]
        have a1 : (⟨X1.toArray⟩ : ByteArray) ++ ⟨#[let6 x1]⟩ = ⟨X2.toArray⟩ := by rw [hX2]; exact str_app X1 [let6 x1]
        have X1l : X1.length ≤ 2000000001 := by rw [hX1, List.length_append]; simp; omega
        have X2l : X2.length ≤ 2000000002 := by rw [hX2, List.length_append]; simp; omega
        have z0 : ¬ 9223372036854775807 < X.length + 1 := by omega
        have z1 : ¬ 9223372036854775807 < X1.length + 1 := by omega
        have z2 : ¬ 9223372036854775807 < X2.length + 1 := by omega
        refine draw (.take 0 (.take 1 (.take 2 (.take 3 (.take 4 (.take 5 (.take 6 (.take 7 (.take 8 (.take 9 (.take 10 (.take 11 (.take 12 (.take 13 (.take 14 (.take 15 (.take 16 (.take 17 (.take 18 (.take 19 .done)))))))))))))))))))) (by kernel_rfl) (fun wz => wz = wT.drew) rfl ?_
        simp -dsimp [go_sem, f4, f3, s18, s12, m12, w0, w1, c0, c1, a0, a1, z0, z1, hi1, hi2, h1, h1', h2, h2']
        rw [if_pos (by simp; omega), if_pos (by simp; omega)] at hg4
        obtain ⟨X3, hX3⟩ : ∃ X3, X3 = X2 ++ [let6 x2] := ⟨_, rfl⟩
        obtain ⟨X4, hX4⟩ : ∃ X4, X4 = X3 ++ [let6 x3] := ⟨_, rfl⟩
        have a2 : (⟨X2.toArray⟩ : ByteArray) ++ ⟨#[let6 x2]⟩ = ⟨X3.toArray⟩ := by rw [hX3]; exact str_app X2 [let6 x2]
        have a3 : (⟨X3.toArray⟩ : ByteArray) ++ ⟨#[let6 x3]⟩ = ⟨X4.toArray⟩ := by rw [hX4]; exact str_app X3 [let6 x3]
        have X3l : X3.length ≤ 2000000003 := by rw [hX3, List.length_append]; simp; omega
        have z3 : ¬ 9223372036854775807 < X3.length + 1 := by omega
        simp -dsimp [go_sem, f4, s6, m6, m0, w2, w3, p2l, p3l, p2x, p3x, d2, d3, a2, a3, z2, z3, hi2, h2, h2', hi3]
        exact ⟨⟨i3, X4, rfl, by omega, rfl, by rw [← hX, encB_step hne, hg4, hX4, hX3, hX2, hX1, List.drop_drop, hi3']; simp, Kp.drew hk⟩, by simp [intOf]; omega⟩
      · have h2' : ¬ (i2 : Int) < (l.length : Int) := by omega
        rw [dif_neg h2] at e2
        have eN' : num3 (l.drop i) = n1 := by rw [eN, e2]; omega
        rw [← eN'] at or1
        simp -dsimp [go_sem, f4, hlt, hlt', hc0, q0, q0', hi1, h1, h1', hc1, q1, q1', or1, hi2, h2, h2']
        refine call (letters_spec w1') ?_
        rintro v wT ⟨rfl, rfl⟩
        simp -dsimp [go_sem]
        have hN := num3_lt (l.drop i)
        have hg4 := g4_eq (l.drop i) hne
        generalize num3 (l.drop i) = N at *
        have s18 : (N : Int) / 262144 = ((N / 262144 : Nat) : Int) := by omega
        have s12 : (N : Int) / 4096 = ((N / 4096 : Nat) : Int) := by omega
        have s6 : (N : Int) / 64 = ((N / 64 : Nat) : Int) := by omega
        have m12 : bits .and .i64 ((N / 4096 : Nat) : Int) 63 = ((N / 4096 % 64 : Nat) : Int) := by
          rw [show (63 : Int) = ((63 : Nat) : Int) from rfl, i64_and_nat _ 63 (by omega) (by omega), nat_mask6]
        have m6 : bits .and .i64 ((N / 64 : Nat) : Int) 63 = ((N / 64 % 64 : Nat) : Int) := by
          rw [show (63 : Int) = ((63 : Nat) : Int) from rfl, i64_and_nat _ 63 (by omega) (by omega), nat_mask6]
        have m0 : bits .and .i64 (N : Int) 63 = ((N % 64 : Nat) : Int) := by
          rw [show (63 : Int) = ((63 : Nat) : Int) from rfl, i64_and_nat _ 63 (by omega) (by omega), nat_mask6]
        have l0 : N / 262144 < 64 := by omega
        have l1 : N / 4096 % 64 < 64 := by omega
        have l2 : N / 64 % 64 < 64 := by omega
        have l3 : N % 64 < 64 := by omega
        generalize N / 262144 = x0 at *
        obtain ⟨y1, hy1⟩ : ∃ y1, y1 = N / 4096 := ⟨_, rfl⟩
        rw [← hy1] at s12 m12 l1 hg4
        obtain ⟨y2, hy2⟩ : ∃ y2, y2 = N / 64 := ⟨_, rfl⟩
        rw [← hy2] at s6 m6 l2 hg4
        generalize y1 % 64 = x1 at *
        generalize y2 % 64 = x2 at *
        generalize N % 64 = x3 at *
        have w0 : IntKind.i64.wrap ((x0 : Int) + 1) = ((x0 + 1 : Nat) : Int) := by rw [w64 (by omega) (by omega)]; omega
        have w1 : IntKind.i64.wrap ((x1 : Int) + 1) = ((x1 + 1 : Nat) : Int) := by rw [w64 (by omega) (by omega)]; omega
        have w2 : IntKind.i64.wrap ((x2 : Int) + 1) = ((x2 + 1 : Nat) : Int) := by rw [w64 (by omega) (by omega)]; omega
        have w3 : IntKind.i64.wrap ((x3 : Int) + 1) = ((x3 + 1 : Nat) : Int) := by rw [w64 (by omega) (by omega)]; omega
        have c0 : ∀ p : Nat, p = x0 + 1 → ∀ w, (Instr.slice 9 (.string abcS) (some (.int .i64 x0)) (some (.int .i64 p)) none).run Tryd.prog w = .ok (.string ⟨#[let6 x0]⟩) w := fun p hp w => ext_abc x0 l0 w _ _ rfl (by omega)
        have c1 : ∀ p : Nat, p = x1 + 1 → ∀ w, (Instr.slice 9 (.string abcS) (some (.int .i64 x1)) (some (.int .i64 p)) none).run Tryd.prog w = .ok (.string ⟨#[let6 x1]⟩) w := fun p hp w => ext_abc x1 l1 w _ _ rfl (by omega)
        have c2 : ∀ p : Nat, p = x2 + 1 → ∀ w, (Instr.slice 9 (.string abcS) (some (.int .i64 x2)) (some (.int .i64 p)) none).run Tryd.prog w = .ok (.string ⟨#[let6 x2]⟩) w := fun p hp w => ext_abc x2 l2 w _ _ rfl (by omega)
        have c3 : ∀ p : Nat, p = x3 + 1 → ∀ w, (Instr.slice 9 (.string abcS) (some (.int .i64 x3)) (some (.int .i64 p)) none).run Tryd.prog w = .ok (.string ⟨#[let6 x3]⟩) w := fun p hp w => ext_abc x3 l3 w _ _ rfl (by omega)
        obtain ⟨p0, hp0⟩ : ∃ p0, p0 = x0 + 1 := ⟨_, rfl⟩
        obtain ⟨p1, hp1⟩ : ∃ p1, p1 = x1 + 1 := ⟨_, rfl⟩
        obtain ⟨p2, hp2⟩ : ∃ p2, p2 = x2 + 1 := ⟨_, rfl⟩
        obtain ⟨p3, hp3⟩ : ∃ p3, p3 = x3 + 1 := ⟨_, rfl⟩
        rw [← hp0] at w0; rw [← hp1] at w1; rw [← hp2] at w2; rw [← hp3] at w3
        have c0 := c0 p0 hp0
        have c1 := c1 p1 hp1
        have p2l : (p2 : Int) ≤ 64 := by omega
        have p3l : (p3 : Int) ≤ 64 := by omega
        have p2x : x2 ≤ p2 := by omega
        have p3x : x3 ≤ p3 := by omega
        have d2 : abcS.extract x2 p2 = ⟨#[let6 x2]⟩ := by rw [hp2]; exact abcS_cut x2 l2
        have d3 : abcS.extract x3 p3 = ⟨#[let6 x3]⟩ := by rw [hp3]; exact abcS_cut x3 l3
        obtain ⟨X1, hX1⟩ : ∃ X1, X1 = X ++ [let6 x0] := ⟨_, rfl⟩
        obtain ⟨X2, hX2⟩ : ∃ X2, X2 = X1 ++ [let6 x1] := ⟨_, rfl⟩
        have a0 : (⟨X.toArray⟩ : ByteArray) ++ ⟨#[let6 x0]⟩ = ⟨X1.toArray⟩ := by rw [hX1]; exact str_app X [let6 x0]
        have a1 : (⟨X1.toArray⟩ : ByteArray) ++ ⟨#[let6 x1]⟩ = ⟨X2.toArray⟩ := by rw [hX2]; exact str_app X1 [let6 x1]
        have X1l : X1.length ≤ 2000000001 := by rw [hX1, List.length_append]; simp; omega
        have X2l : X2.length ≤ 2000000002 := by rw [hX2, List.length_append]; simp; omega
        have z0 : ¬ 9223372036854775807 < X.length + 1 := by omega
        have z1 : ¬ 9223372036854775807 < X1.length + 1 := by omega
        have z2 : ¬ 9223372036854775807 < X2.length + 1 := by omega
        refine draw (.take 0 (.take 1 (.take 2 (.take 3 (.take 4 (.take 5 (.take 6 (.take 7 (.take 8 (.take 9 (.take 10 (.take 11 (.take 12 (.take 13 (.take 14 (.take 15 (.take 16 (.take 17 (.take 18 (.take 19 .done)))))))))))))))))))) (by kernel_rfl) (fun wz => wz = wT.drew) rfl ?_
        simp -dsimp [go_sem, f4, f3, s18, s12, m12, w0, w1, c0, c1, a0, a1, z0, z1, hi1, hi2, h1, h1', h2, h2']
        rw [if_pos (by simp; omega), if_neg (by simp; omega)] at hg4
        obtain ⟨X3, hX3⟩ : ∃ X3, X3 = X2 ++ [let6 x2] := ⟨_, rfl⟩
        obtain ⟨X4, hX4⟩ : ∃ X4, X4 = X3 ++ [61] := ⟨_, rfl⟩
        have a2 : (⟨X2.toArray⟩ : ByteArray) ++ ⟨#[let6 x2]⟩ = ⟨X3.toArray⟩ := by rw [hX3]; exact str_app X2 [let6 x2]
        have a3 : (⟨X3.toArray⟩ : ByteArray) ++ ⟨#[61]⟩ = ⟨X4.toArray⟩ := by rw [hX4]; exact str_app X3 [61]
        have X3l : X3.length ≤ 2000000003 := by rw [hX3, List.length_append]; simp; omega
        have z3 : ¬ 9223372036854775807 < X3.length + 1 := by omega
        simp -dsimp [go_sem, f4, s6, m6, m0, w2, w3, p2l, p3l, p2x, p3x, d2, d3, a2, a3, z2, z3, hi2, h2, h2', hi3]
        exact ⟨⟨i3, X4, rfl, by omega, rfl, by rw [← hX, encB_step hne, hg4, hX4, hX3, hX2, hX1, List.drop_drop, hi3']; simp, Kp.drew hk⟩, by simp [intOf]; omega⟩
    · have h1' : ¬ (i1 : Int) < (l.length : Int) := by omega
      have h2 : ¬ i2 < l.length := by omega
      have h2' : ¬ (i2 : Int) < (l.length : Int) := by omega
      rw [dif_neg h1] at e1
      rw [dif_neg h2] at e2
      have eN' : num3 (l.drop i) = u0 := by rw [eN, e2, e1]; omega
      rw [← eN'] at q0'
      simp -dsimp [go_sem, f4, hlt, hlt', hc0, q0, q0', hi1, h1, h1', hi2, h2, h2']
      refine call (letters_spec w1') ?_
      rintro v wT ⟨rfl, rfl⟩
      simp -dsimp [go_sem]
      have hN := num3_lt (l.drop i)
      have hg4 := g4_eq (l.drop i) hne
      generalize num3 (l.drop i) = N at *
      have s18 : (N : Int) / 262144 = ((N / 262144 : Nat) : Int) := by omega
      have s12 : (N : Int) / 4096 = ((N / 4096 : Nat) : Int) := by omega
      have s6 : (N : Int) / 64 = ((N / 64 : Nat) : Int) := by omega
      have m12 : bits .and .i64 ((N / 4096 : Nat) : Int) 63 = ((N / 4096 % 64 : Nat) : Int) := by
        rw [show (63 : Int) = ((63 : Nat) : Int) from rfl, i64_and_nat _ 63 (by omega) (by omega), nat_mask6]
      have m6 : bits .and .i64 ((N / 64 : Nat) : Int) 63 = ((N / 64 % 64 : Nat) : Int) := by
        rw [show (63 : Int) = ((63 : Nat) : Int) from rfl, i64_and_nat _ 63 (by omega) (by omega), nat_mask6]
      have m0 : bits .and .i64 (N : Int) 63 = ((N % 64 : Nat) : Int) := by
        rw [show (63 : Int) = ((63 : Nat) : Int) from rfl, i64_and_nat _ 63 (by omega) (by omega), nat_mask6]
      have l0 : N / 262144 < 64 := by omega
      have l1 : N / 4096 % 64 < 64 := by omega
      have l2 : N / 64 % 64 < 64 := by omega
      have l3 : N % 64 < 64 := by omega
      generalize N / 262144 = x0 at *
      obtain ⟨y1, hy1⟩ : ∃ y1, y1 = N / 4096 := ⟨_, rfl⟩
      rw [← hy1] at s12 m12 l1 hg4
      obtain ⟨y2, hy2⟩ : ∃ y2, y2 = N / 64 := ⟨_, rfl⟩
      rw [← hy2] at s6 m6 l2 hg4
      generalize y1 % 64 = x1 at *
      generalize y2 % 64 = x2 at *
      generalize N % 64 = x3 at *
      have w0 : IntKind.i64.wrap ((x0 : Int) + 1) = ((x0 + 1 : Nat) : Int) := by rw [w64 (by omega) (by omega)]; omega
      have w1 : IntKind.i64.wrap ((x1 : Int) + 1) = ((x1 + 1 : Nat) : Int) := by rw [w64 (by omega) (by omega)]; omega
      have w2 : IntKind.i64.wrap ((x2 : Int) + 1) = ((x2 + 1 : Nat) : Int) := by rw [w64 (by omega) (by omega)]; omega
      have w3 : IntKind.i64.wrap ((x3 : Int) + 1) = ((x3 + 1 : Nat) : Int) := by rw [w64 (by omega) (by omega)]; omega
      have c0 : ∀ p : Nat, p = x0 + 1 → ∀ w, (Instr.slice 9 (.string abcS) (some (.int .i64 x0)) (some (.int .i64 p)) none).run Tryd.prog w = .ok (.string ⟨#[let6 x0]⟩) w := fun p hp w => ext_abc x0 l0 w _ _ rfl (by omega)
      have c1 : ∀ p : Nat, p = x1 + 1 → ∀ w, (Instr.slice 9 (.string abcS) (some (.int .i64 x1)) (some (.int .i64 p)) none).run Tryd.prog w = .ok (.string ⟨#[let6 x1]⟩) w := fun p hp w => ext_abc x1 l1 w _ _ rfl (by omega)
      have c2 : ∀ p : Nat, p = x2 + 1 → ∀ w, (Instr.slice 9 (.string abcS) (some (.int .i64 x2)) (some (.int .i64 p)) none).run Tryd.prog w = .ok (.string ⟨#[let6 x2]⟩) w := fun p hp w => ext_abc x2 l2 w _ _ rfl (by omega)
      have c3 : ∀ p : Nat, p = x3 + 1 → ∀ w, (Instr.slice 9 (.string abcS) (some (.int .i64 x3)) (some (.int .i64 p)) none).run Tryd.prog w = .ok (.string ⟨#[let6 x3]⟩) w := fun p hp w => ext_abc x3 l3 w _ _ rfl (by omega)
      obtain ⟨p0, hp0⟩ : ∃ p0, p0 = x0 + 1 := ⟨_, rfl⟩
      obtain ⟨p1, hp1⟩ : ∃ p1, p1 = x1 + 1 := ⟨_, rfl⟩
      obtain ⟨p2, hp2⟩ : ∃ p2, p2 = x2 + 1 := ⟨_, rfl⟩
      obtain ⟨p3, hp3⟩ : ∃ p3, p3 = x3 + 1 := ⟨_, rfl⟩
      rw [← hp0] at w0; rw [← hp1] at w1; rw [← hp2] at w2; rw [← hp3] at w3
      have c0 := c0 p0 hp0
      have c1 := c1 p1 hp1
      have p2l : (p2 : Int) ≤ 64 := by omega
      have p3l : (p3 : Int) ≤ 64 := by omega
      have p2x : x2 ≤ p2 := by omega
      have p3x : x3 ≤ p3 := by omega
      have d2 : abcS.extract x2 p2 = ⟨#[let6 x2]⟩ := by rw [hp2]; exact abcS_cut x2 l2
      have d3 : abcS.extract x3 p3 = ⟨#[let6 x3]⟩ := by rw [hp3]; exact abcS_cut x3 l3
      obtain ⟨X1, hX1⟩ : ∃ X1, X1 = X ++ [let6 x0] := ⟨_, rfl⟩
      obtain ⟨X2, hX2⟩ : ∃ X2, X2 = X1 ++ [let6 x1] := ⟨_, rfl⟩
      have a0 : (⟨X.toArray⟩ : ByteArray) ++ ⟨#[let6 x0]⟩ = ⟨X1.toArray⟩ := by rw [hX1]; exact str_app X [let6 x0]
      have a1 : (⟨X1.toArray⟩ : ByteArray) ++ ⟨#[let6 x1]⟩ = ⟨X2.toArray⟩ := by rw [hX2]; exact str_app X1 [let6 x1]
      have X1l : X1.length ≤ 2000000001 := by rw [hX1, List.length_append]; simp; omega
      have X2l : X2.length ≤ 2000000002 := by rw [hX2, List.length_append]; simp; omega
      have z0 : ¬ 9223372036854775807 < X.length + 1 := by omega
      have z1 : ¬ 9223372036854775807 < X1.length + 1 := by omega
      have z2 : ¬ 9223372036854775807 < X2.length + 1 := by omega
      refine draw (.take 0 (.take 1 (.take 2 (.take 3 (.take 4 (.take 5 (.take 6 (.take 7 (.take 8 (.take 9 (.take 10 (.take 11 (.take 12 (.take 13 (.take 14 (.take 15 (.take 16 (.take 17 (.take 18 (.take 19 .done)))))))))))))))))))) (by kernel_rfl) (fun wz => wz = wT.drew) rfl ?_
      simp -dsimp [go_sem, f4, f3, s18, s12, m12, w0, w1, c0, c1, a0, a1, z0, z1, hi1, hi2, h1, h1', h2, h2']
      rw [if_neg (by simp; omega), if_neg (by simp; omega)] at hg4
      obtain ⟨X3, hX3⟩ : ∃ X3, X3 = X2 ++ [61] := ⟨_, rfl⟩
      obtain ⟨X4, hX4⟩ : ∃ X4, X4 = X3 ++ [61] := ⟨_, rfl⟩
      have a2 : (⟨X2.toArray⟩ : ByteArray) ++ ⟨#[61]⟩ = ⟨X3.toArray⟩ := by rw [hX3]; exact str_app X2 [61]
      have a3 : (⟨X3.toArray⟩ : ByteArray) ++ ⟨#[61]⟩ = ⟨X4.toArray⟩ := by rw [hX4]; exact str_app X3 [61]
      have X3l : X3.length ≤ 2000000003 := by rw [hX3, List.length_append]; simp; omega
      have z3 : ¬ 9223372036854775807 < X3.length + 1 := by omega
      simp -dsimp [go_sem, f4, s6, m6, m0, w2, w3, a2, a3, z2, z3, hi2, h2, h2', hi3]
      exact ⟨⟨i3, X4, rfl, by omega, rfl, by rw [← hX, encB_step hne, hg4, hX4, hX3, hX2, hX1, List.drop_drop, hi3']; simp, Kp.drew hk⟩, by simp [intOf]; omega⟩
  · rw [List.drop_eq_nil_of_le (by omega), encB, List.append_nil] at hX
    have hlt' : ¬ (i : Int) < (l.length : Int) := by omega
    simp -dsimp [go_sem, f4, f3, hlt, hlt']
    exact ⟨by rw [hX], hk⟩
end Go.Proofs.YthdbppggnkfgjaaDoor
