/-
  box: Find walked. By the session itself.
-/
import Derived.Test.YtindfpaahlijeaaBxC
namespace Go.Proofs.Ytindfpaahlijeaa
set_option linter.unusedSimpArgs false
set_option linter.unusedVariables false
set_option maxRecDepth 100000
set_option maxHeartbeats 2000000
open Go.Vc Go.RowKit

def findB : List Msg → Int → Int
  | [], _ => -1
  | m :: l, u => if m.uid = u then 0 else if findB l u = -1 then -1 else findB l u + 1
theorem findB_ge (l : List Msg) (u : Int) : -1 ≤ findB l u := by
  induction l with
  | nil => simp [findB]
  | cons m l ih => unfold findB; split; · omega
                   · split <;> omega
theorem findB_first : ∀ (l : List Msg) (u : Int) (i : Nat) (hi : i < l.length), l[i].uid = u → (∀ j (hj : j < l.length), j < i → l[j].uid ≠ u) → findB l u = i
  | m :: l, u, 0, _, h, _ => by
    have h : m.uid = u := h
    unfold findB; rw [if_pos h]; rfl
  | m :: l, u, i + 1, hi, h, hn => by
    have h0 : m.uid ≠ u := hn 0 (by simp) (by omega)
    have ih := findB_first l u i (by simpa using hi) (by simpa using h) fun j hj hji => by
      have := hn (j + 1) (by simpa using hj) (by omega)
      simpa using this
    unfold findB
    rw [if_neg h0, ih, if_neg (by omega)]
    omega
theorem findB_none : ∀ (l : List Msg) (u : Int), (∀ m ∈ l, m.uid ≠ u) → findB l u = -1
  | [], _, _ => rfl
  | m :: l, u, h => by
    unfold findB
    rw [if_neg (h m (List.mem_cons_self ..)), findB_none l u fun x hx => h x (List.mem_cons_of_mem _ hx), if_pos rfl]
theorem mid_get {α : Type} (l r : List α) (a : α) (i : Nat) (h : l.length = i) (hi : i < (l ++ a :: r).length) : (l ++ a :: r)[i]'hi = a := by subst h; simp
theorem mid_set {α : Type} (l r : List α) (a c : α) (i : Nat) (h : l.length = i) : (l ++ a :: r).set i c = (l ++ [c]) ++ r := by subst h; simp
/-- A box in memory, its messages at hand. -/
theorem msg_at {w : World} {A : Option Addr} {q : MQ} (hr : Rd w A (mq q)) {i : Nat} (hi : i < q.length) :
    ∃ g o, A = some ⟨g, o, none⟩ ∧ w.cell? ⟨g, o + i * 4, none⟩ = some (i64 q[i].1.uid) ∧ w.cell? ⟨g, o + i * 4 + 1, none⟩ = some (i64 q[i].1.flags) ∧ w.cell? ⟨g, o + i * 4 + 2, none⟩ = some (i64 q[i].1.date) ∧ w.cell? ⟨g, o + i * 4 + 3, none⟩ = some q[i].2 := by
  obtain ⟨a0, a1, a2, a3⟩ := mq_at q i hi
  obtain ⟨g, o, rfl, e0⟩ := hr _ _ a0
  obtain ⟨_, _, e, e1⟩ := hr _ _ a1
  cases e
  obtain ⟨_, _, e, e2⟩ := hr _ _ a2
  cases e
  obtain ⟨_, _, e, e3⟩ := hr _ _ a3
  cases e
  exact ⟨g, o, rfl, e0, e1, e2, e3⟩
theorem find1_spec (a b c d : Value) (n u : Int) (y : Nat) (w : World) (ha : a = i64 n) (hy : w.cell? ⟨y, 0, none⟩ = some (i64 u)) :
    Cal Try.prog 33 #[.agg #[a, b, c, d], .pointer (some ⟨y, 0, none⟩)] w fun v w' => v = .bool (n == u) ∧ Nw w w' := by
  subst ha
  refine enter Try.mixed Try.func33 rfl (by kernel_rfl) ?_
  have ka : Nw w (w.alloc (.cells #[i64 n, b, c, d] 42)) := (Kp.refl _ _).alloc _
  have hy1 := ka.cell_some hy fun h => h
  simp -dsimp [go_sem, hy1]
  exact ka
theorem indexM_spec (q : MQ) (S : Nat → Prop) (A : Option Addr) (n c : Nat) (u : Int) (y : Nat) (w : World) (hn : n = q.length) (hr : Rd w A (mq q)) (hl : q.length ≤ 1000000000) (hy : w.cell? ⟨y, 0, none⟩ = some (i64 u)) :
    Cal Try.prog 32 #[.slice A n c, .func (.func 33) #[] #[.pointer (some ⟨y, 0, none⟩)]] w fun v w' => v = i64 (findB (q.map Prod.fst) u) ∧ Nw w w' := by
  subst hn
  refine enter Try.mixed Try.func32 rfl (by kernel_rfl) ?_
  simp -dsimp [go_sem]
  refine loop [4, 5, 8, 9, 10, 11, 12, 13, 14, 15, 16, 17, 18] (by kernel_rfl) (fun f w' => Box1 (fun a w' => ∃ i : Nat, a = i64 i ∧ i ≤ q.length ∧ (∀ j (hj : j < q.length), j < i → q[j].1.uid ≠ u) ∧ Nw w w') (f 8) w') (fun f _ => q.length - (intOf (f 8)).toNat) ⟨0, rfl, by omega, (fun j hj h => by omega), Kp.refl _ _⟩ ?_
  rintro f w' ⟨i, f8, hi, hno, hK⟩
  by_cases hlt : i < q.length
  · have hi1 : IntKind.i64.wrap ((i : Int) + 1) = ((i + 1 : Nat) : Int) := by rw [w64 (by omega) (by omega)]; omega
    obtain ⟨i1, hi1'⟩ : ∃ i1, i1 = i + 1 := ⟨_, rfl⟩
    rw [← hi1'] at hi1
    obtain ⟨g, o, rfl, e0, e1, e2, e3⟩ := msg_at (hr.nw hK) hlt
    simp -dsimp [go_sem, f8, hlt, e0, e1, e2, e3]
    refine call (find1_spec _ _ _ _ q[i].1.uid u y w' rfl (hK.cell_some hy fun h => h)) ?_
    rintro v w2 ⟨rfl, hk2⟩
    by_cases hu : q[i].1.uid = u
    · have hu' : (q[i].1.uid == u) = true := by simp [hu]
      simp -dsimp [go_sem, hu']
      refine ⟨(findB_first _ u i (by simpa using hlt) (by simpa using hu) fun j hj hji => ?_).symm, hK.nw hk2⟩
      have := hno j (by simpa using hj) hji
      simpa using this
    · have hu' : (q[i].1.uid == u) = false := by simpa using hu
      simp -dsimp [go_sem, hu', f8, hi1]
      refine ⟨⟨i1, rfl, by omega, (fun j hj hji => ?_), hK.nw hk2⟩, by simp [intOf]; omega⟩
      by_cases h : j < i
      · exact hno j hj h
      · obtain rfl : j = i := by omega
        exact hu
  · obtain rfl : i = q.length := by omega
    simp -dsimp [go_sem, f8]
    refine ⟨(findB_none _ u fun m hm => ?_).symm, hK⟩
    obtain ⟨p, hp, rfl⟩ := List.mem_map.1 hm
    obtain ⟨j, hj, rfl⟩ := List.getElem_of_mem hp
    exact hno j hj hj
theorem find_spec (v : Value) (b : Bx) (S : Nat → Prop) (u : Int) (w : World) (h : RB w v b S) (hl : b.L.length ≤ 1000000) :
    Cal Try.prog 18 #[v, i64 u] w fun v' w' => v' = i64 (findB b.L u) ∧ Nw w w' := by
  obtain ⟨A, c, q, rfl, hq, hc, hr, ho, hb⟩ := h
  have hql : q.length = b.L.length := by rw [← hq, List.length_map]
  refine enter Try.mixed Try.func18 rfl (by kernel_rfl) ?_
  simp -dsimp [go_sem]
  obtain ⟨x, hx', hb0, hz0, hsz, n0⟩ := two_new w 26 3 #[.string b.name, i64 b.val, i64 b.next, .slice A b.L.length c] #[i64 u]
  rw [← hx']
  generalize (w.alloc (.cells #[.string b.name, i64 b.val, i64 b.next, .slice A b.L.length c] 26)).alloc (.cells #[i64 u] 3) = wa at *
  refine call (indexM_spec q S A b.L.length c u (x + 1) wa hql.symm (hr.nw n0) (by omega) (hz0.cell 0)) ?_
  rintro v1 w1 ⟨rfl, hk1⟩
  simp -dsimp [go_sem, hq]
  exact n0.nw hk1
end Go.Proofs.Ytindfpaahlijeaa
