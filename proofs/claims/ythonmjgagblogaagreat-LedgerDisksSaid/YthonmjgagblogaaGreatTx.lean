/-
  Texts: equality; among others. By the session itself.
-/
import Derived.Test.YthonmjgagblogaaGreatDkL
namespace Go.Proofs.YthonmjgagblogaaGreat
set_option linter.unusedSimpArgs false
set_option linter.unusedVariables false
set_option maxRecDepth 100000
set_option maxHeartbeats 1000000
open Go.Vc Go.RowKit
theorem bytes_eqn (p q : List UInt8) : ((⟨p.toArray⟩ : ByteArray) == ⟨q.toArray⟩) = decide (p = q) := by
  rw [Bool.eq_iff_iff, MapKept.bytes_beq, decide_eq_true_iff]
  constructor
  · intro h
    injection h with h
    exact List.toArray_inj h
  · rintro rfl; rfl
theorem Dk.ofl_new {w : World} {g : Nat} {D : Dsk} {F : Nat → Prop} (h : Dk w g D F) {b : Nat} (hb : w.heap.size ≤ b) (xs : List Value) : Ofl (some ⟨b, 0, none⟩) xs F := fun a ha _ hf => by
  cases ha
  have := h.lt b hf
  omega
theorem index_spec (xs : List Nm) (s : Nm) (A : Option Addr) (c : Nat) (w : World) (hx : Rd w A (xs.map fun s => str s)) (hl : xs.length ≤ 140737488355328) :
    Cal Tryz.prog 95 #[.slice A xs.length c, str s] w fun v w' => (∃ z : Int, v = i64 z ∧ (0 ≤ z ↔ s ∈ xs)) ∧ w' = w := by
  refine enter Tryz.mixed Tryz.func95 rfl (by kernel_rfl) ?_
  simp -dsimp [go_sem]
  refine loop [4, 5, 8, 9, 10, 11, 12, 13, 14, 15, 16, 17, 18] (by kernel_rfl) (fun f w' => Box1 (fun a w' => ∃ k : Nat, k ≤ xs.length ∧ a = i64 k ∧ s ∉ xs.take k ∧ w' = w) (f 8) w')
    (fun f _ => xs.length - (intOf (f 8)).toNat) ⟨0, Nat.zero_le _, rfl, by simp, rfl⟩ ?_
  rintro f w' ⟨k, hk, f8, hno, rfl⟩
  simp -dsimp [go_sem, f8]
  refine cond_d (fun hlt => ?_) (fun hlt => ?_)
  · have hlt : k < xs.length := by omega
    obtain ⟨b, o, rfl, hc⟩ := hx k (str xs[k]) (by simp [hlt])
    have htk : xs.take (k + 1) = xs.take k ++ [xs[k]] := List.take_succ_eq_append_getElem hlt
    have hmem := List.getElem_mem hlt
    obtain ⟨a, ha⟩ : ∃ a, a = xs[k] := ⟨_, rfl⟩
    rw [← ha] at hc htk hmem
    by_cases hab : s = a
    · subst hab
      simp -dsimp [go_sem, f8, hlt, hc]
      exact hmem
    · have hab' : (s == a) = false := by simpa using hab
      have hk1 : IntKind.i64.wrap ((k : Int) + 1) = ((k + 1 : Nat) : Int) := w64 (by omega) (by omega)
      obtain ⟨k1, hk1'⟩ : ∃ k1, k1 = k + 1 := ⟨_, rfl⟩
      rw [← hk1'] at hk1 htk
      simp -dsimp [go_sem, f8, hlt, hc, hab', hk1]
      refine ⟨⟨k1, by omega, rfl, ?_, rfl⟩, by simp [intOf]; omega⟩
      rw [htk]
      simp [hno, hab]
  · obtain rfl : k = xs.length := by omega
    rw [List.take_length] at hno
    simp -dsimp [go_sem]
    exact hno
theorem contains_spec (xs : List Nm) (s : Nm) (A : Option Addr) (c : Nat) (w : World) (hx : Rd w A (xs.map fun s => str s)) (hl : xs.length ≤ 140737488355328) :
    Cal Tryz.prog 85 #[.slice A xs.length c, str s] w fun v w' => v = .bool (decide (s ∈ xs)) ∧ w' = w := by
  refine enter Tryz.mixed Tryz.func85 rfl (by kernel_rfl) ?_
  simp -dsimp [go_sem]
  refine call (index_spec xs s A c w hx hl) ?_
  rintro v w1 ⟨⟨z, rfl, hz⟩, rfl⟩
  simp -dsimp [go_sem]
  exact hz

end Go.Proofs.YthonmjgagblogaaGreat
