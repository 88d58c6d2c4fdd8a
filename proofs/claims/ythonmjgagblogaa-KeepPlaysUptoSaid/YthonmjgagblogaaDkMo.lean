/-
  DiskNames walked: a file that gets another name has its bytes; what had that name is gone. By the session itself.
-/
import Derived.Test.YthonmjgagblogaaDkL
import Derived.Test.YthonmjgagblogaaTx
import Derived.Test.YthonmjgagblogaaDkFo
namespace Go.Proofs.Ythonmjgagblogaa
set_option linter.unusedSimpArgs false
set_option linter.unusedVariables false
set_option maxRecDepth 100000
set_option maxHeartbeats 1000000
open Go.Vc Go.RowKit

theorem dtexts_spec (A B : Option Addr) (c d : Nat) (xs ys : List Nm) (w : World) (hx : Rd w A (xs.map fun s => str s)) (hy : Rd w B (ys.map fun s => str s)) (hl : xs.length ≤ 140737488355328) :
    Cal Try.prog 64 #[.slice A xs.length c, .slice B ys.length d] w fun v w' => v = .bool (decide (xs = ys)) ∧ Nw w w' := by
  refine enter Try.mixed Try.func64 rfl (by kernel_rfl) ?_
  simp -dsimp [go_sem]
  refine cond_n (fun h => ?_) (fun h => ?_)
  · simp -dsimp [go_sem]
    refine ⟨?_, Kp.refl _ _⟩
    rintro rfl; exact h rfl
  · have hlen : xs.length = ys.length := by omega
    simp -dsimp [go_sem]
    refine loop [4, 5, 11, 12, 13, 14, 15, 16, 17, 18, 19, 20, 21, 22, 23, 24, 25] (by kernel_rfl) (fun f w' => Box1 (fun a w' => ∃ k : Nat, k ≤ xs.length ∧ a = i64 k ∧ xs.take k = ys.take k ∧ w'.heap = w.heap ∧ Nw w w') (f 5) w')
      (fun f _ => xs.length - (intOf (f 5)).toNat) ⟨0, Nat.zero_le _, rfl, by simp, rfl, Kp.refl _ _⟩ ?_
    rintro f w' ⟨k, hk, f5, ht, hh, hK⟩
    simp -dsimp [go_sem, f5]
    refine cond_d (fun hlt => ?_) (fun hlt => ?_)
    · have hlt : k < xs.length := by omega
      obtain ⟨b, o, rfl, hc⟩ := hx k (str xs[k]) (by simp [hlt])
      have hlt' : k < ys.length := by omega
      obtain ⟨b', o', rfl, hc'⟩ := hy k (str ys[k]) (by simp [hlt'])
      simp -dsimp [go_sem]
      refine draw (.take 0 (.take 1 (.take 2 (.take 3 (.take 4 (.take 5 (.take 6 (.take 7 (.take 8 .done))))))))) (by kernel_rfl) (fun w1 => w1.heap = w.heap) hh ?_
      have hcell : ∀ w1 : World, w1.heap = w.heap → ∀ a, w1.cell? a = w.cell? a := fun w1 h a => by simp [World.cell?, h]
      have heq : ((⟨(xs[k]).toArray⟩ : ByteArray) != ⟨(ys[k]).toArray⟩) = !decide (xs[k] = ys[k]) := by rw [bne, bytes_eqn]
      have htk : xs.take (k + 1) = xs.take k ++ [xs[k]] := List.take_succ_eq_append_getElem hlt
      have htk' : ys.take (k + 1) = ys.take k ++ [ys[k]] := List.take_succ_eq_append_getElem hlt'
      have hne : xs[k] ≠ ys[k] → xs ≠ ys := fun h e => h (by simp [e])
      obtain ⟨a, ha⟩ : ∃ a, a = xs[k] := ⟨_, rfl⟩
      obtain ⟨b1, hb1⟩ : ∃ b1, b1 = ys[k] := ⟨_, rfl⟩
      rw [← ha] at hc heq htk hne
      rw [← hb1] at hc' heq htk' hne
      simp -dsimp [go_sem, f5, hlt, hlt', hcell w' hh, hc, hc', heq]
      refine ⟨fun w1 h1 => by simp [hcell w1 h1, hc], fun w1 h1 => by simp [hcell w1 h1, hc'], ?_⟩
      by_cases hab : a = b1
      · subst hab
        have hk1 : IntKind.i64.wrap ((k : Int) + 1) = ((k + 1 : Nat) : Int) := w64 (by omega) (by omega)
        obtain ⟨k1, hk1'⟩ : ∃ k1, k1 = k + 1 := ⟨_, rfl⟩
        rw [← hk1'] at hk1 htk htk'
        simp -dsimp [go_sem, f5, hk1]
        exact ⟨⟨k1, by omega, rfl, by rw [htk, htk', ht], hh, hK.drew⟩, by simp [intOf]; omega⟩
      · have hab' : (a == b1) = false := by simpa using hab
        simp -dsimp [go_sem, hab']
        exact ⟨hne hab, hK.drew⟩
    · obtain rfl : k = xs.length := by omega
      simp -dsimp [go_sem]
      refine ⟨?_, hK⟩
      rw [List.take_length, List.take_of_length_le (by omega)] at ht
      exact ht

theorem lt_xy : ([120] : Nm) < [121] := by decide
theorem bad120 : badN [120] = false := by decide
theorem bad121 : badN [121] = false := by decide
theorem bad122 : badN [122] = false := by decide
end Go.Proofs.Ythonmjgagblogaa
