/-
  The laws' large; what a box that may be has. By the session itself.
-/
import Derived.Test.YtindfpaahlijeaaDoorBxI
import Derived.Test.YtindfpaahlijeaaDoorBxF
namespace Go.Proofs.YtindfpaahlijeaaDoor
set_option linter.unusedSimpArgs false
set_option linter.unusedVariables false
set_option maxRecDepth 100000
set_option maxHeartbeats 2000000
open Go.Vc Go.RowKit

theorem large_spec (v : Value) (b : Bx) (S : Nat → Prop) (w : World) (h : RB w v b S) (hll : b.L.length ≤ 9223372036854775807) :
    Cal Tryd.prog 5 #[v] w fun v' w' => (∃ r, v' = .bool r) ∧ Nw w w' := by
  obtain ⟨A, c, q, rfl, hq, hc, hr, ho, hb⟩ := h
  have hql : q.length = b.L.length := by rw [← hq, List.length_map]
  refine enter Tryd.mixed Tryd.func5 rfl (by kernel_rfl) ?_
  have k0 : Nw w (w.alloc (.cells #[.string b.name, i64 b.val, i64 b.next, .slice A b.L.length c] 24)) := (Kp.refl _ _).alloc _
  have hb0 : Blk (w.alloc (.cells #[.string b.name, i64 b.val, i64 b.next, .slice A b.L.length c] 24)) w.heap.size 24 #[.string b.name, i64 b.val, i64 b.next, .slice A b.L.length c] := Blk.new _ _ _
  obtain ⟨x, hx⟩ : ∃ x, x = w.heap.size := ⟨_, rfl⟩
  simp -dsimp [go_sem]
  rw [← hx] at hb0 ⊢
  generalize w.alloc (.cells #[.string b.name, i64 b.val, i64 b.next, .slice A b.L.length c] 24) = wa at *
  have c3 := hb0.cell 3
  refine loop [3, 4, 8, 9, 10, 11, 12, 13, 14, 15, 16, 17, 18, 19, 20, 21, 22, 23, 24] (by kernel_rfl)
    (fun f w' => Box2 (fun a l w' => ∃ i : Nat, a = i64 i ∧ i ≤ b.L.length ∧ (∃ n : Int, l = i64 n) ∧ w' = wa) (f 4) (f 3) w') (fun f _ => b.L.length - (intOf (f 4)).toNat)
    ⟨0, rfl, by omega, ⟨_, rfl⟩, rfl⟩ ?_
  rintro f w' ⟨i, f4, hi, ⟨n, f3⟩, rfl⟩
  by_cases hlt : i < b.L.length
  · have hi1 : IntKind.i64.wrap ((i : Int) + 1) = ((i + 1 : Nat) : Int) := by rw [w64 (by omega) (by omega)]; omega
    obtain ⟨i1, hi1'⟩ : ∃ i1, i1 = i + 1 := ⟨_, rfl⟩
    rw [← hi1'] at hi1
    have hltq : i < q.length := by omega
    obtain ⟨g, o, rfl, e0, e1, e2, e3⟩ := msg_at (hr.nw k0) hltq
    obtain ⟨Bm, dm, hv, _⟩ := hb _ (List.getElem_mem hltq)
    rw [hv] at e3
    simp -dsimp [go_sem, f4, f3, c3, hlt, e3, hi1]
    exact ⟨⟨i1, rfl, by omega, ⟨_, rfl⟩, rfl⟩, by simp [intOf]; omega⟩
  · obtain rfl : i = b.L.length := by omega
    simp -dsimp [go_sem, f4, f3, c3]
    exact ⟨by omega, k0⟩

/-! ### A box that may be -/
theorem msgsOk_all : ∀ (last next : Int) (l : List Msg), msgsOk last next l = true → ∀ m ∈ l, last < m.uid ∧ m.uid < next ∧ okF m.flags 0 31 = true ∧ okF m.date 0 1073741824 = true ∧ m.body.length ≤ 1200
  | _, _, [], _, m, hm => by cases hm
  | last, next, x :: l, h, m, hm => by
    simp only [msgsOk, Bool.and_eq_true, decide_eq_true_eq] at h
    obtain ⟨⟨⟨⟨⟨h1, h2⟩, h3⟩, h4⟩, h5⟩, h6⟩ := h
    rcases List.mem_cons.1 hm with rfl | hm
    · exact ⟨h1, h2, h3, h4, h5⟩
    · have := msgsOk_all x.uid next l h6 m hm
      exact ⟨by omega, this.2⟩
theorem msgsOk_pw : ∀ (last next : Int) (l : List Msg), msgsOk last next l = true → l.Pairwise (fun x y => x.uid < y.uid)
  | _, _, [], _ => List.Pairwise.nil
  | last, next, x :: l, h => by
    simp only [msgsOk, Bool.and_eq_true, decide_eq_true_eq] at h
    exact List.pairwise_cons.2 ⟨fun m hm => (msgsOk_all x.uid next l h.2 m hm).1, msgsOk_pw x.uid next l h.2⟩
structure IsB (b : Bx) : Prop where
  len : b.L.length ≤ 24
  all : ∀ m ∈ b.L, 0 < m.uid ∧ m.uid < b.next ∧ okF m.flags 0 31 = true ∧ okF m.date 0 1073741824 = true ∧ m.body.length ≤ 1200
  pw : b.L.Pairwise (fun x y => x.uid < y.uid)
  next : 1 ≤ b.next ∧ b.next ≤ 1048576
  val : 1 ≤ b.val ∧ b.val ≤ 1048576
theorem IsB.of {b : Bx} (h : isB b = true) : IsB b := by
  simp only [isB, Bool.and_eq_true, decide_eq_true_eq, okF] at h
  obtain ⟨⟨⟨⟨h1, h2⟩, h3⟩, h4⟩, h5⟩ := h
  exact ⟨h1, msgsOk_all _ _ _ h2, msgsOk_pw _ _ _ h2, h5, h4⟩
theorem gone_srt {b : Bx} (h : IsB b) (uids : List Int) : srtI (goneB uids b.L) = goneB uids b.L := by
  refine srtI_of ?_
  unfold goneB
  exact List.pairwise_map.2 ((h.pw.filter _).imp fun {a b} hab => by omega)
theorem stay_gone (uids : List Int) (l : List Msg) : (stayB uids l).length + (goneB uids l).length = l.length := by
  unfold stayB goneB
  rw [List.length_map]
  induction l with
  | nil => rfl
  | cons m l ih => by_cases h : m.uid ∈ uids <;> simp [h] <;> omega
theorem find_at {b : Bx} (h : IsB b) {i : Nat} (hi : i < b.L.length) : findB b.L b.L[i].uid = i :=
  findB_first b.L _ i hi rfl fun j hj hji => by
    have := List.pairwise_iff_getElem.1 h.pw j i hj hi hji
    omega
theorem find_zero {b : Bx} (h : IsB b) : findB b.L 0 = -1 := findB_none _ _ fun m hm => by have := (h.all m hm).1; omega
theorem find_stay {b : Bx} (uids : List Int) {i : Nat} (hi : i < b.L.length) : decide (findB (stayB uids b.L) b.L[i].uid < 0) = decide (b.L[i].uid ∈ uids) := by
  by_cases hu : b.L[i].uid ∈ uids
  · have : findB (stayB uids b.L) b.L[i].uid = -1 := findB_none _ _ fun m hm e => by
      have := (List.mem_filter.1 hm).2
      rw [e] at this
      simp [hu] at this
    rw [this]; simp [hu]
  · have hm : b.L[i] ∈ stayB uids b.L := List.mem_filter.2 ⟨List.getElem_mem hi, by simp [hu]⟩
    have : 0 ≤ findB (stayB uids b.L) b.L[i].uid := by
      have key : ∀ (l : List Msg) (u : Int), (∃ m ∈ l, m.uid = u) → 0 ≤ findB l u := by
        intro l u
        induction l with
        | nil => rintro ⟨m, hm, _⟩; cases hm
        | cons x l ih =>
          rintro ⟨m, hm, hu⟩
          have hg := findB_ge l u
          unfold findB
          split
          · omega
          · rename_i hx
            rcases List.mem_cons.1 hm with rfl | hm
            · exact absurd hu hx
            · have := ih ⟨m, hm, hu⟩
              rw [if_neg (by omega)]; omega
      exact key _ _ ⟨_, hm, rfl⟩
    simp [hu]; omega
end Go.Proofs.YtindfpaahlijeaaDoor
