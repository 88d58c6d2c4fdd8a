/-
  The laws' ints: two rows of numbers are the same. By the session itself.
-/
import Derived.Test.YtindfpaahlijeaaBxX
namespace Go.Proofs.Ytindfpaahlijeaa
set_option linter.unusedSimpArgs false
set_option linter.unusedVariables false
set_option maxRecDepth 100000
set_option maxHeartbeats 2000000
open Go.Vc Go.RowKit

theorem ints_spec (l r : List Int) (A B : Option Addr) (c d : Nat) (w : World) (hr : Rd w A (l.map i64)) (hr2 : Rd w B (r.map i64)) (hl : l.length ≤ 1000000000) (hl2 : r.length ≤ 1000000000) :
    Cal Try.prog 42 #[.slice A l.length c, .slice B r.length d] w fun v w' => v = .bool (decide (l = r)) ∧ Nw w w' := by
  refine enter Try.mixed Try.func42 rfl (by kernel_rfl) ?_
  by_cases hlen : l.length = r.length
  · have hb : ((l.length : Int) != (r.length : Int)) = false := by simp [hlen]
    simp -dsimp [go_sem, hb]
    refine loop [4, 5, 11, 12, 13, 14, 15, 16, 17, 18, 19, 20, 21, 22, 23, 24, 25] (by kernel_rfl)
      (fun f w' => Box1 (fun a w' => ∃ i : Nat, a = i64 i ∧ i ≤ l.length ∧ l.take i = r.take i ∧ Nw w w') (f 5) w') (fun f _ => l.length - (intOf (f 5)).toNat) ⟨0, rfl, by omega, rfl, Kp.refl _ _⟩ ?_
    rintro f w' ⟨i, f5, hi, htk, hK⟩
    by_cases hlt : i < l.length
    · have hlt2 : i < r.length := by omega
      have hi1 : IntKind.i64.wrap ((i : Int) + 1) = ((i + 1 : Nat) : Int) := by rw [w64 (by omega) (by omega)]; omega
      obtain ⟨i1, hi1'⟩ : ∃ i1, i1 = i + 1 := ⟨_, rfl⟩
      rw [← hi1'] at hi1
      obtain ⟨g, o, rfl, e0⟩ := rd_int (hr.nw hK) hlt
      obtain ⟨g2, o2, rfl, e2⟩ := rd_int (hr2.nw hK) hlt2
      have kd : Nw w' w'.drew := (Kp.refl _ _).drew
      have e0d := kd.cell_some e0 fun h => h
      have e2d := kd.cell_some e2 fun h => h
      simp -dsimp [go_sem, f5, hlt]
      refine draw (.take 0 (.take 1 (.take 2 (.take 3 (.take 4 (.take 5 (.take 6 (.take 7 (.take 8 .done))))))))) (by kernel_rfl) (fun wz => Nw w' wz) kd ?_
      simp -dsimp [go_sem, f5, hlt, hlt2, e0d, e2d]
      repeat refine ⟨fun wz hz => by simp [hz.cell_some e0 fun h => h, hz.cell_some e2 fun h => h], ?_⟩
      by_cases he : l[i] = r[i]
      · have he' : (l[i] != r[i]) = false := by simpa using he
        simp -dsimp [go_sem, he', f5, hi1]
        refine ⟨⟨i1, rfl, by omega, ?_, hK.nw kd⟩, by simp [intOf]; omega⟩
        rw [hi1', List.take_succ_eq_append_getElem hlt, List.take_succ_eq_append_getElem hlt2, htk, he]
      · have he' : (l[i] != r[i]) = true := by simpa using he
        have hne : l ≠ r := fun e => he (by subst e; rfl)
        simp -dsimp [go_sem, he', hne]
        exact hK.nw kd
    · obtain rfl : i = l.length := by omega
      rw [List.take_length, hlen, List.take_length] at htk
      simp -dsimp [go_sem, f5, htk]
      exact hK
  · have hb : ((l.length : Int) != (r.length : Int)) = true := by simp; omega
    have hne : l ≠ r := fun e => hlen (by rw [e])
    simp -dsimp [go_sem, hb, hne]
    exact Kp.refl _ _
end Go.Proofs.Ytindfpaahlijeaa
