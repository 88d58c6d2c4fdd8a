/-
  The laws' long; a box grown from nothing is one that may be. By the session itself.
-/
import Derived.Test.YtindfpaahlijeaaDoorBxK
import Derived.Test.YtindfpaahlijeaaDoorAri
namespace Go.Proofs.YtindfpaahlijeaaDoor
set_option linter.unusedSimpArgs false
set_option linter.unusedVariables false
set_option maxRecDepth 100000
set_option maxHeartbeats 2000000
open Go.Vc Go.RowKit

def LongR (v : Value) (q : AQ) : Prop := ∃ r, v = .bool r ∧ (r = false → ∀ (i : Nat) (hi : i < q.length), i < 60 → q[i].1.uids.length ≤ 9000 ∧ q[i].1.body.length ≤ 9000)
theorem msgsOk_of : ∀ (last next : Int) (l : List Msg), (∀ m ∈ l, last < m.uid ∧ m.uid < next ∧ okF m.flags 0 31 = true ∧ okF m.date 0 1073741824 = true ∧ m.body.length ≤ 1200) → l.Pairwise (fun x y => x.uid < y.uid) → msgsOk last next l = true
  | _, _, [], _, _ => rfl
  | last, next, x :: l, h, hp => by
    obtain ⟨h1, h2, h3, h4, h5⟩ := h x (List.mem_cons_self ..)
    have hp := List.pairwise_cons.1 hp
    have ih := msgsOk_of x.uid next l (fun m hm => ⟨hp.1 m hm, (h m (List.mem_cons_of_mem _ hm)).2⟩) hp.2
    simp [msgsOk, h1, h2, h3, h4, h5, ih]
theorem IsB.is {b : Bx} (h : IsB b) (hn : nameOk b.name = true) : isB b = true := by
  obtain ⟨h1, h2, h3, ⟨h4, h4'⟩, ⟨h5, h5'⟩⟩ := h
  have := msgsOk_of 0 b.next b.L h2 h3
  simp [isB, this, h1, h4, h4', h5, h5', okF, hn]
theorem IsB.add {b : Bx} (h : IsB b) (flags date : Int) (body : List UInt8) : IsB (addB b flags date body).1 := by
  unfold addB
  by_cases h1 : (okF flags 0 31 && okF date 0 1073741824) = false
  · rw [if_pos h1]; exact h
  · rw [if_neg h1]
    by_cases h2 : 1200 < body.length
    · rw [if_pos h2]; exact h
    · rw [if_neg h2]
      by_cases h3 : 24 ≤ b.L.length
      · rw [if_pos h3]; exact h
      · rw [if_neg h3]
        by_cases h4 : 1048576 ≤ b.next
        · rw [if_pos h4]; exact h
        · rw [if_neg h4]
          obtain ⟨k1, k2, k3, k4, k5⟩ := h
          simp only [Bool.and_eq_false_iff, not_or, Bool.not_eq_false] at h1
          refine ⟨by simp; omega, fun m hm => ?_, List.pairwise_append.2 ⟨k3, by simp, fun x hx y hy => ?_⟩, by simp only; omega, k5⟩
          · rcases List.mem_append.1 hm with hm | hm
            · have := k2 m hm
              exact ⟨this.1, by have := this.2.1; simp only; omega, this.2.2⟩
            · obtain rfl := List.mem_singleton.1 hm
              exact ⟨by simp only; omega, by simp only; omega, h1.1, h1.2, by simp only; omega⟩
          · obtain rfl := List.mem_singleton.1 hy
            exact (k2 x hx).2.1
theorem addB_name (b : Bx) (flags date : Int) (body : List UInt8) : (addB b flags date body).1.name = b.name ∧ (addB b flags date body).1.val = b.val := by
  unfold addB
  repeat' (first | exact ⟨rfl, rfl⟩ | split)
theorem addB_next (b : Bx) (flags date : Int) (body : List UInt8) : ((addB b flags date body).2.2 = 0 ∧ (addB b flags date body).2.1 = b.next ∧ (addB b flags date body).1.next = b.next + 1) ∨ ((addB b flags date body).2.2 ≠ 0 ∧ (addB b flags date body).1 = b) := by
  unfold addB
  repeat' (first | exact .inr ⟨by simp, rfl⟩ | exact .inl ⟨rfl, rfl, rfl⟩ | split)
theorem IsB.stay {b : Bx} (h : IsB b) (uids : List Int) : IsB { b with L := stayB uids b.L } := by
  obtain ⟨h1, h2, h3, h4, h5⟩ := h
  exact ⟨Nat.le_trans (stay_len uids b.L) h1, fun m hm => h2 m (List.mem_filter.1 hm).1, h3.filter _, h4, h5⟩
theorem IsB.new (nm : ByteArray) (n : Int) (hn : 1 ≤ n ∧ n ≤ 1048576) : IsB ⟨nm, n, 1, []⟩ := ⟨by simp, by simp, List.Pairwise.nil, by simp, hn⟩
end Go.Proofs.YtindfpaahlijeaaDoor
