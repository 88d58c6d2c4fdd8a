/-
  Numbers and rows read back: plain laws. By the session itself.
-/
import Derived.Test.YtindfpaahlijeaaDoorOctD
namespace Go.Proofs.YtindfpaahlijeaaDoor
set_option linter.unusedSimpArgs false
set_option linter.unusedVariables false
set_option maxRecDepth 100000
open Go.Vc Go.RowKit

theorem takeN_numB : ∀ (n i u : Nat) (rest : List UInt8), i + (numB n).length ≤ 9 → (0 < i → 0 < n) → u + n * 2 ^ (7 * i) ≤ 4611686018427387904 → takeN i u (numB n ++ rest) = some (u + n * 2 ^ (7 * i), rest) := by
  intro n
  induction n using Nat.strongRecOn with
  | _ n ih =>
    intro i u rest hi h0 hu
    by_cases h : n < 128
    · rw [numB_small h] at hi ⊢
      have e : (UInt8.ofNat n).toNat = n := by simp; omega
      have e2 : n % 128 = n := by omega
      simp only [List.cons_append, List.nil_append, takeN, e, e2]
      rw [if_neg (by simp at hi; omega), if_pos h, if_neg (by omega)]
    · rw [numB_big h] at hi ⊢
      have e : (UInt8.ofNat (n % 128 + 128)).toNat = n % 128 + 128 := by simp; omega
      have e2 : (n % 128 + 128) % 128 = n % 128 := by omega
      have hs : n % 128 * 2 ^ (7 * i) + n / 128 * 2 ^ (7 * (i + 1)) = n * 2 ^ (7 * i) := by
        rw [show 7 * (i + 1) = 7 * i + 7 by omega, Nat.pow_add, show (2 : Nat) ^ 7 = 128 from rfl, Nat.mul_comm (2 ^ (7 * i)) 128, ← Nat.mul_assoc, ← Nat.add_mul, Nat.mod_add_div']
      rw [List.length_cons] at hi
      simp only [List.cons_append, takeN, e, e2]
      rw [if_neg (by omega), if_neg (by omega), ih (n / 128) (by omega) (i + 1) _ rest (by omega) (by omega) (by omega), Nat.add_assoc, hs]
theorem numL_numB (n : Nat) (rest : List UInt8) (bad : Bool) (h : n ≤ 4611686018427387904) : numL (numB n ++ rest) bad = (n, rest, bad) := by
  have := takeN_numB n 0 0 rest (by have := numB_len9 h; omega) (by omega) (by simpa using h)
  rw [show 0 + n * 2 ^ (7 * 0) = n by simp] at this
  unfold numL
  rw [this]

theorem bytL_rowB (p rest : List UInt8) (hp : p.length ≤ 4611686018427387904) : bytL (rowB p ++ rest) false = (p, rest, false) := by
  unfold bytL rowB
  rw [List.append_assoc, numL_numB _ _ _ hp]
  unfold rawL
  rw [if_pos ⟨by omega, by rw [List.length_append]; omega⟩]
  simp
end Go.Proofs.YtindfpaahlijeaaDoor
