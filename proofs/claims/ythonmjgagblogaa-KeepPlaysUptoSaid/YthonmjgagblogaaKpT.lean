/-
  KeepPlays walked. By the session itself.
-/
import Derived.Test.YthonmjgagblogaaKpS
import Derived.Test.YthonmjgagblogaaKrC
namespace Go.Proofs.Ythonmjgagblogaa
set_option linter.unusedSimpArgs false
set_option linter.unusedVariables false
set_option maxRecDepth 100000
set_option maxHeartbeats 1000000
open Go.Vc Go.RowKit

theorem kheavy_spec (A : Option Addr) (c : Nat) (q : List Ks) (w : World) (hr : Rd w A (q.flatMap ksc)) (hG : ∀ p ∈ q, KsG w p) (hl : q.length ≤ 9223372036854775807) :
    Cal Try.prog 20 #[.slice A q.length c] w fun v w' => (∃ r, v = .bool r) ∧ Nw w w' := by
  refine enter Try.mixed Try.func20 rfl (by kernel_rfl) ?_
  simp -dsimp [go_sem]
  refine loop [2, 3, 4, 5, 6, 7, 8, 9, 10, 11, 12, 13, 14, 15, 16, 17, 18, 19, 20, 21, 22, 23, 24, 25, 26, 27, 28, 29, 30, 31, 32, 33, 34, 35, 36, 37, 38, 39, 40, 41, 42, 43, 44, 45, 46, 47, 48, 49, 50, 51, 52, 53, 54, 55, 56, 57, 58, 59, 60, 61, 62] (by kernel_rfl)
    (fun f w' => Box2 (fun a b w' => ∃ (i : Nat) (n : Int), a = i64 n ∧ b = i64 i ∧ i ≤ q.length ∧ Nw w w') (f 3) (f 4) w') (fun f _ => q.length - (intOf (f 4)).toNat) ⟨0, 0, rfl, rfl, Nat.zero_le _, Kp.refl _ _⟩ ?_
  rintro f w1 ⟨i, n, f3, f4, hi, n1⟩
  by_cases hlt : i < q.length
  · by_cases h80 : i < 80
    · have h80' : (i : Int) < 80 := by omega
      obtain ⟨g, o, rfl, e0, e1, e2, e3, e4, e5⟩ := ks_at (hr.nw n1) hlt
      obtain ⟨⟨A3, c3, hv3, hr3, hc3⟩, ⟨A4, c4, hv4, hr4, hc4⟩, ⟨A5, c5, hv5, hr5⟩, _⟩ := hG _ (List.getElem_mem hlt)
      rw [hv3] at e3
      rw [hv4] at e4
      rw [hv5] at e5
      have kd : Nw w1 w1.drew := (Kp.refl _ _).drew
      have e2d := kd.cell_some e2 fun h => h
      have e3d := kd.cell_some e3 fun h => h
      have e4d := kd.cell_some e4 fun h => h
      have e5d := kd.cell_some e5 fun h => h
      have hi1 : IntKind.i64.wrap ((i : Int) + 1) = ((i + 1 : Nat) : Int) := w64 (by omega) (by omega)
      obtain ⟨i1, hi1'⟩ : ∃ i1, i1 = i + 1 := ⟨_, rfl⟩
      rw [← hi1'] at hi1
      have hbt := hG _ (List.getElem_mem hlt)
      have htl : q[i].t.length ≤ 1048576 := hbt.2.2.2.2.2.2.1
      clear hbt
      generalize q[i] = s at *
      obtain ⟨kd', nn, s, a, b, t, va, vb, vt⟩ := s
      simp only at e2 e3 e4 e5 e2d e3d e4d e5d hr5 htl
      simp -dsimp [go_sem, f3, f4, hlt, h80, h80']
      refine draw (.take 0 (.take 1 (.take 2 (.take 3 (.take 4 (.take 5 (.take 6 (.take 7 (.take 8 (.take 9 (.take 10 (.take 11 (.take 12 (.take 13 (.take 14 (.take 15 (.take 16 (.take 17 (.take 18 (.take 19 (.take 20 (.take 21 (.take 22 (.take 23 .done)))))))))))))))))))))))) (by kernel_rfl) (fun wz => Nw w1 wz) kd ?_
      simp -dsimp [go_sem, f3, f4, hlt, e2d, e3d, e4d]
      repeat refine ⟨fun wz hz => by simp [hz.cell_some e2 fun h => h, hz.cell_some e3 fun h => h, hz.cell_some e4 fun h => h], ?_⟩
      generalize IntKind.i64.wrap (IntKind.i64.wrap (IntKind.i64.wrap (IntKind.i64.wrap (n + 5) + (a.length : Int)) + (b.length : Int)) + (s.length : Int)) = n2
      obtain ⟨M, hM⟩ : ∃ M, M = t.length := ⟨_, rfl⟩
      rw [← hM] at e5 e5d htl
      refine loop [3, 5, 39, 40, 41, 42, 43, 44, 45, 46, 47, 48, 49, 50, 51, 52, 53, 54, 55, 56, 57, 58, 59, 60] (by kernel_rfl)
        (fun f' w' => Box2 (fun a b w' => ∃ (k : Nat) (n : Int), a = i64 n ∧ b = i64 k ∧ k ≤ M ∧ Nw w1.drew w') (f' 3) (f' 5) w') (fun f' _ => M - (intOf (f' 5)).toNat) ⟨0, n2, rfl, rfl, Nat.zero_le _, Kp.refl _ _⟩ ?_
      rintro f' w2 ⟨k, n3, f3', f5', hk, n2'⟩
      have e5w := n2'.cell_some e5d fun h => h
      have n02 : Nw w w2 := (n1.nw kd).nw n2'
      by_cases hlt2 : k < M
      · obtain ⟨b6, o6, rfl, hc6⟩ := (hr5.nw n02) k (str (t[k]'(by omega))) (by simp [show k < t.length by omega])
        have hk1 : IntKind.i64.wrap ((k : Int) + 1) = ((k + 1 : Nat) : Int) := w64 (by omega) (by omega)
        obtain ⟨k1, hk1'⟩ : ∃ k1, k1 = k + 1 := ⟨_, rfl⟩
        rw [← hk1'] at hk1
        simp -dsimp [go_sem, f3', f5', f4, hlt, e5w, hlt2, hc6, hk1]
        exact ⟨⟨k1, _, rfl, rfl, by omega, n2'⟩, by simp [intOf]; omega⟩
      · obtain rfl : k = M := by omega
        by_cases h5 : 5000 < n3
        · simp -dsimp [go_sem, f3', f5', f4, hlt, e5w, h5]
          exact n02
        · simp -dsimp [go_sem, f3', f5', f4, hlt, e5w, h5, hi1]
          exact ⟨⟨i1, n3, rfl, rfl, by omega, n02⟩, by simp [intOf]; omega⟩
    · have h80' : ¬ (i : Int) < 80 := by omega
      simp -dsimp [go_sem, f3, f4, hlt, h80, h80']
      exact n1
  · obtain rfl : i = q.length := by omega
    simp -dsimp [go_sem, f3, f4]
    exact n1
end Go.Proofs.Ythonmjgagblogaa
