/-
  box: Find walked. By the session itself.
-/
import Derived.Test.YtindfpaahlijeaaDoorBxC
namespace Go.Proofs.YtindfpaahlijeaaDoor
set_option linter.unusedSimpArgs false
set_option linter.unusedVariables false
set_option maxRecDepth 100000
set_option maxHeartbeats 2000000
open Go.Vc Go.RowKit

def findB : List Msg → Int → Int
  | [], _ => -1
  | m :: l, u => if m.uid = u then 0 else if findB l u = -1 then -1 else findB l u + 1
theorem findB_ge (l : List Msg) (u : Int) : -1 ≤ findB l u := by
  induction l with
  | nil => simp [findB]
  | cons m l ih => unfold findB; split; · omega
                   · split <;> omega
theorem findB_first : ∀ (l : List Msg) (u : Int) (i : Nat) (hi : i < l.length), l[i].uid = u → (∀ j (hj : j < l.length), j < i → l[j].uid ≠ u) → findB l u = i
  | m :: l, u, 0, _, h, _ => by
    have h : m.uid = u := h
    unfold findB; rw [if_pos h]; rfl
  | m :: l, u, i + 1, hi, h, hn => by
    have h0 : m.uid ≠ u := hn 0 (by simp) (by omega)
    have ih := findB_first l u i (by simpa using hi) (by simpa using h) fun j hj hji => by
      have := hn (j + 1) (by simpa using hj) (by omega)
      simpa using this
    unfold findB
    rw [if_neg h0, ih, if_neg (by omega)]
    omega
theorem findB_none : ∀ (l : List Msg) (u : Int), (∀ m ∈ l, m.uid ≠ u) → findB l u = -1
  | [], _, _ => rfl
  | m :: l, u, h => by
    unfold findB
    rw [if_neg (h m (List.mem_cons_self ..)), findB_none l u fun x hx => h x (List.mem_cons_of_mem _ hx), if_pos rfl]
theorem mid_get {α : Type} (l r : List α) (a : α) (i : Nat) (h : l.length = i) (hi : i < (l ++ a :: r).length) : (l ++ a :: r)[i]'hi = a := by subst h; simp
theorem mid_set {α : Type} (l r : List α) (a c : α) (i : Nat) (h : l.length = i) : (l ++ a :: r).set i c = (l ++ [c]) ++ r := by subst h; simp
/-- A box in memory, its messages at hand. -/
theorem msg_at {w : World} {A : Option Addr} {q : MQ} (hr : Rd w A (mq q)) {i : Nat} (hi : i < q.length) :
    ∃ g o, A = some ⟨g, o, none⟩ ∧ w.cell? ⟨g, o + i * 4, none⟩ = some (i64 q[i].1.uid) ∧ w.cell? ⟨g, o + i * 4 + 1, none⟩ = some (i64 q[i].1.flags) ∧ w.cell? ⟨g, o + i * 4 + 2, none⟩ = some (i64 q[i].1.date) ∧ w.cell? ⟨g, o + i * 4 + 3, none⟩ = some q[i].2 := by
  obtain ⟨a0, a1, a2, a3⟩ := mq_at q i hi
  obtain ⟨g, o, rfl, e0⟩ := hr _ _ a0
  obtain ⟨_, _, e, e1⟩ := hr _ _ a1
  cases e
  obtain ⟨_, _, e, e2⟩ := hr _ _ a2
  cases e
  obtain ⟨_, _, e, e3⟩ := hr _ _ a3
  cases e
  exact ⟨g, o, rfl, e0, e1, e2, e3⟩
end Go.Proofs.YtindfpaahlijeaaDoor
