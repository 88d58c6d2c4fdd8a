/-
  The laws' long; a box grown from nothing is one that may be. By the session itself.
-/
import Derived.Test.YtindfpaahlijeaaBxK
import Derived.Test.YtindfpaahlijeaaAri
namespace Go.Proofs.Ytindfpaahlijeaa
set_option linter.unusedSimpArgs false
set_option linter.unusedVariables false
set_option maxRecDepth 100000
set_option maxHeartbeats 2000000
open Go.Vc Go.RowKit

def LongR (v : Value) (q : AQ) : Prop := ∃ r, v = .bool r ∧ (r = false → ∀ (i : Nat) (hi : i < q.length), i < 60 → q[i].1.uids.length ≤ 9000 ∧ q[i].1.body.length ≤ 9000)
theorem long_spec (A : Option Addr) (c : Nat) (q : AQ) (w : World) (hr : Rd w A (aq q)) (hG : ∀ p ∈ q, ActG w p) (hl : q.length ≤ 9223372036854775807) :
    Cal Try.prog 10 #[.slice A q.length c] w fun v' w' => LongR v' q ∧ Nw w w' := by
  refine enter Try.mixed Try.func10 rfl (by kernel_rfl) ?_
  simp -dsimp [go_sem]
  refine loop [2, 3, 4, 5, 6, 7, 8, 9, 10, 11, 12, 13, 14, 15, 16, 17, 18, 19, 20, 21, 22, 23, 24, 25, 26, 27, 28, 29, 30, 31, 32] (by kernel_rfl)
    (fun f w' => Box2 (fun a t w' => ∃ i n : Nat, a = i64 i ∧ i ≤ q.length ∧ i ≤ 60 ∧ t = i64 n ∧ n ≤ 9000 ∧ (∀ (k : Nat) (hk : k < q.length), k < i → q[k].1.uids.length ≤ 9000 ∧ q[k].1.body.length ≤ 9000) ∧ Nw w w') (f 4) (f 3) w') (fun f _ => q.length - (intOf (f 4)).toNat) ⟨0, 0, rfl, by omega, by omega, rfl, by omega, fun _ _ h => by omega, Kp.refl _ _⟩ ?_
  rintro f w1 ⟨i, n, f4, hi, hi60, f3, hn, hk, n1⟩
  by_cases hlt : i < q.length
  · by_cases h60 : i < 60
    · have h60' : (i : Int) < 60 := by omega
      have hi1 : IntKind.i64.wrap ((i : Int) + 1) = ((i + 1 : Nat) : Int) := by rw [w64 (by omega) (by omega)]; omega
      obtain ⟨i1, hi1'⟩ : ∃ i1, i1 = i + 1 := ⟨_, rfl⟩
      rw [← hi1'] at hi1
      obtain ⟨g, o, rfl, _, _, _, _, e4, e5⟩ := act_at (hr.nw n1) hlt
      obtain ⟨⟨AU, cu, eU, hrU, hcU⟩, ⟨AB, cb, eB, hrB, hoB, hcB⟩, hu, hb, _⟩ := hG _ (List.getElem_mem hlt)
      rw [eU] at e4
      rw [eB] at e5
      obtain ⟨lu, hlu⟩ : ∃ lu, lu = q[i].1.uids.length := ⟨_, rfl⟩
      obtain ⟨lb, hlb⟩ : ∃ lb, lb = q[i].1.body.length := ⟨_, rfl⟩
      rw [← hlu] at hu e4
      rw [← hlb] at hb e5
      have kd : Nw w1 w1.drew := (Kp.refl _ _).drew
      have d4 := kd.cell_some e4 fun h => h
      have d5 := kd.cell_some e5 fun h => h
      have a1 : IntKind.i64.wrap ((n : Int) + 1) = ((n + 1 : Nat) : Int) := by rw [w64 (by omega) (by omega)]; omega
      have a2 : IntKind.i64.wrap (((n + 1 : Nat) : Int) + (lb : Int)) = ((n + 1 + lb : Nat) : Int) := by rw [w64 (by omega) (by omega)]; omega
      have a3 : IntKind.i64.wrap (((n + 1 + lb : Nat) : Int) + (lu : Int)) = ((n + 1 + lb + lu : Nat) : Int) := by rw [w64 (by omega) (by omega)]; omega
      obtain ⟨n1', h1⟩ : ∃ n1', n1' = n + 1 := ⟨_, rfl⟩
      rw [← h1] at a1 a2 a3
      obtain ⟨n2', h2⟩ : ∃ n2', n2' = n1' + lb := ⟨_, rfl⟩
      rw [← h2] at a2 a3
      obtain ⟨n3', h3⟩ : ∃ n3', n3' = n2' + lu := ⟨_, rfl⟩
      rw [← h3] at a3
      simp -dsimp [go_sem, f4, f3, hlt, h60']
      refine draw (.take 0 (.take 1 (.take 2 (.take 3 (.take 4 (.take 5 (.take 6 (.take 7 (.take 8 (.take 9 (.take 10 (.take 11 (.take 12 (.take 13 (.take 14 (.take 15 (.take 16 .done))))))))))))))))) (by kernel_rfl) (fun wz => Nw w1 wz) kd ?_
      simp -dsimp [go_sem, f4, f3, hlt, d4, d5, a1, a2, a3]
      repeat refine ⟨fun wz hz => by simp [hz.cell_some e4 fun h => h, hz.cell_some e5 fun h => h], ?_⟩
      by_cases h9 : (9000 : Int) < (n3' : Int)
      · simp -dsimp [go_sem, h9]
        exact ⟨⟨true, rfl, fun h => by cases h⟩, n1.nw kd⟩
      · simp -dsimp [go_sem, f4, f3, h9, hi1]
        exact ⟨⟨i1, n3', rfl, by omega, by omega, rfl, by omega, fun k hk' hki => by
          by_cases hke : k = i
          · subst hke; omega
          · exact hk k hk' (by omega), n1.nw kd⟩, by simp [intOf]; omega⟩
    · obtain rfl : i = 60 := by omega
      have hlt' : (60 : Int) < (q.length : Int) := by omega
      simp -dsimp [go_sem, f4, hlt']
      exact ⟨⟨false, rfl, fun _ => hk⟩, n1⟩
  · obtain rfl : i = q.length := by omega
    simp -dsimp [go_sem, f4]
    exact ⟨⟨false, rfl, fun _ k h _ => hk k h h⟩, n1⟩
theorem msgsOk_of : ∀ (last next : Int) (l : List Msg), (∀ m ∈ l, last < m.uid ∧ m.uid < next ∧ okF m.flags 0 31 = true ∧ okF m.date 0 1073741824 = true ∧ m.body.length ≤ 1200) → l.Pairwise (fun x y => x.uid < y.uid) → msgsOk last next l = true
  | _, _, [], _, _ => rfl
  | last, next, x :: l, h, hp => by
    obtain ⟨h1, h2, h3, h4, h5⟩ := h x (List.mem_cons_self ..)
    have hp := List.pairwise_cons.1 hp
    have ih := msgsOk_of x.uid next l (fun m hm => ⟨hp.1 m hm, (h m (List.mem_cons_of_mem _ hm)).2⟩) hp.2
    simp [msgsOk, h1, h2, h3, h4, h5, ih]
theorem IsB.is {b : Bx} (h : IsB b) (hn : nameOk b.name = true) : isB b = true := by
  obtain ⟨h1, h2, h3, ⟨h4, h4'⟩, ⟨h5, h5'⟩⟩ := h
  have := msgsOk_of 0 b.next b.L h2 h3
  simp [isB, this, h1, h4, h4', h5, h5', okF, hn]
theorem IsB.add {b : Bx} (h : IsB b) (flags date : Int) (body : List UInt8) : IsB (addB b flags date body).1 := by
  unfold addB
  by_cases h1 : (okF flags 0 31 && okF date 0 1073741824) = false
  · rw [if_pos h1]; exact h
  · rw [if_neg h1]
    by_cases h2 : 1200 < body.length
    · rw [if_pos h2]; exact h
    · rw [if_neg h2]
      by_cases h3 : 24 ≤ b.L.length
      · rw [if_pos h3]; exact h
      · rw [if_neg h3]
        by_cases h4 : 1048576 ≤ b.next
        · rw [if_pos h4]; exact h
        · rw [if_neg h4]
          obtain ⟨k1, k2, k3, k4, k5⟩ := h
          simp only [Bool.and_eq_false_iff, not_or, Bool.not_eq_false] at h1
          refine ⟨by simp; omega, fun m hm => ?_, List.pairwise_append.2 ⟨k3, by simp, fun x hx y hy => ?_⟩, by simp only; omega, k5⟩
          · rcases List.mem_append.1 hm with hm | hm
            · have := k2 m hm
              exact ⟨this.1, by have := this.2.1; simp only; omega, this.2.2⟩
            · obtain rfl := List.mem_singleton.1 hm
              exact ⟨by simp only; omega, by simp only; omega, h1.1, h1.2, by simp only; omega⟩
          · obtain rfl := List.mem_singleton.1 hy
            exact (k2 x hx).2.1
theorem addB_name (b : Bx) (flags date : Int) (body : List UInt8) : (addB b flags date body).1.name = b.name ∧ (addB b flags date body).1.val = b.val := by
  unfold addB
  repeat' (first | exact ⟨rfl, rfl⟩ | split)
theorem addB_next (b : Bx) (flags date : Int) (body : List UInt8) : ((addB b flags date body).2.2 = 0 ∧ (addB b flags date body).2.1 = b.next ∧ (addB b flags date body).1.next = b.next + 1) ∨ ((addB b flags date body).2.2 ≠ 0 ∧ (addB b flags date body).1 = b) := by
  unfold addB
  repeat' (first | exact .inr ⟨by simp, rfl⟩ | exact .inl ⟨rfl, rfl, rfl⟩ | split)
theorem IsB.stay {b : Bx} (h : IsB b) (uids : List Int) : IsB { b with L := stayB uids b.L } := by
  obtain ⟨h1, h2, h3, h4, h5⟩ := h
  exact ⟨Nat.le_trans (stay_len uids b.L) h1, fun m hm => h2 m (List.mem_filter.1 hm).1, h3.filter _, h4, h5⟩
theorem IsB.new (nm : ByteArray) (n : Int) (hn : 1 ≤ n ∧ n ≤ 1048576) : IsB ⟨nm, n, 1, []⟩ := ⟨by simp, by simp, List.Pairwise.nil, by simp, hn⟩
end Go.Proofs.Ytindfpaahlijeaa
