/-
  frame.One, Scan walked. By the session itself.
-/
import Derived.Test.YthonmjgagblogaaGreatFrmC
namespace Go.Proofs.YthonmjgagblogaaGreat
set_option linter.unusedSimpArgs false
set_option linter.unusedVariables false
set_option maxRecDepth 100000
open Go.Vc Go.RowKit

/-- What a record holds that bytes are. -/
def oneL (b : List UInt8) : List UInt8 × Nat := if (decL b).2.2 = 0 ∧ (decL b).2.1 ≠ b.length then ([], 3) else ((decL b).1, (decL b).2.2)
theorem decL_le (b : List UInt8) : (decL b).2.1 ≤ b.length ∧ ((decL b).2.2 = 0 → 12 ≤ (decL b).2.1) := by
  unfold decL
  split
  · simp
  · split
    · simp
    · split
      · simp
      · split
        · simp
        · split
          · simp
          · simp; omega
theorem one_spec (b : List UInt8) (A : Option Addr) (c : Nat) (w : World) (hr : Rd w A (b.map u8)) (hc : b.length ≤ c) (hl : b.length ≤ 140737488355328) :
    Cal Tryz.prog 81 #[.slice A b.length c] w fun v w' => Nw w w' ∧ ∃ u, v = .tuple #[u, i64 (oneL b).2] ∧ Bs w' u (oneL b).1 w.heap.size := by
  refine enter Tryz.mixed Tryz.func81 rfl (by kernel_rfl) ?_
  simp -dsimp [go_sem]
  refine call (decode_spec b A c w hr hc hl) ?_
  rintro v w1 ⟨hk, u, rfl, hB⟩
  obtain ⟨n, hn⟩ : ∃ n, n = (decL b).2.1 := ⟨_, rfl⟩
  obtain ⟨e, he⟩ : ∃ e, e = (decL b).2.2 := ⟨_, rfl⟩
  rw [← hn, ← he]
  obtain ⟨L, hL⟩ : ∃ L, L = b.length := ⟨_, rfl⟩
  rw [← hL]
  by_cases h0 : e = 0
  · subst h0
    by_cases h1 : n = L
    · have e1 : oneL b = ((decL b).1, (decL b).2.2) := by
        unfold oneL
        rw [if_neg (by rw [← hn, ← he, ← hL]; omega)]
      have h1' : ((n : Int) != (L : Int)) = false := by simp; omega
      simp -dsimp [go_sem, h1']
      rw [e1]
      exact ⟨hk, u, ⟨rfl, by rw [← he]; rfl⟩, hB⟩
    · have e1 : oneL b = ([], 3) := by
        unfold oneL
        rw [if_pos (by rw [← hn, ← he, ← hL]; exact ⟨rfl, h1⟩)]
      have h1' : ((n : Int) != (L : Int)) = true := by simp; omega
      simp -dsimp [go_sem, h1']
      rw [e1]
      exact ⟨hk, _, ⟨rfl, rfl⟩, Bs.nil _ _⟩
  · have e1 : oneL b = ((decL b).1, (decL b).2.2) := by
      unfold oneL
      rw [if_neg (by rw [← he]; exact fun h => h0 h.1)]
    have h0' : ((e : Int) == 0) = false := by simp; omega
    simp -dsimp [go_sem, h0']
    rw [e1]
    exact ⟨hk, u, ⟨rfl, by rw [← he]⟩, hB⟩

/-- What records hold, one behind the other, from the beginning on, and how many bytes they have (k: more records than there can be). -/
def scanL : Nat → List UInt8 → List (List UInt8) × Nat
  | 0, _ => ([], 0)
  | k + 1, b => if b.length = 0 then ([], 0) else if (decL b).2.2 = 0 then ((decL b).1 :: (scanL k (b.drop (decL b).2.1)).1, (decL b).2.1 + (scanL k (b.drop (decL b).2.1)).2) else ([], 0)
/-- Rows in a slice of their own; all lies in what is new since B. -/
def Rs (w : World) (v : Value) (ps : List (List UInt8)) (B : Nat) : Prop := ∃ vs F, Gf w 22 1 v ps.length vs F ∧ RV w vs ps (fun k => F k ∨ k < B) ∧ ∀ i, F i → B ≤ i
end Go.Proofs.YthonmjgagblogaaGreat
