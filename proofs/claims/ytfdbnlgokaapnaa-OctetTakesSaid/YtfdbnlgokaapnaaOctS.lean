/-
  octet's statements' own small functions: same, known, spoil, roomy, stands (for OctetTakes). By the session itself.
-/
import Derived.Test.YtfdbnlgokaapnaaOctD
import Derived.Test.YtfdbnlgokaapnaaCrcO
namespace Go.Proofs.Ytfdbnlgokaapnaa
set_option linter.unusedSimpArgs false
set_option linter.unusedVariables false
set_option maxRecDepth 100000
open Go.Vc Go.RowKit

theorem same_spec (A B : Option Addr) (c d : Nat) (xs ys : List UInt8) (w : World) (hx : Rd w A (xs.map u8)) (hy : Rd w B (ys.map u8)) (hl : xs.length ≤ 140737488355328) :
    Cal Try.prog 27 #[.slice A xs.length c, .slice B ys.length d] w fun v w' => v = .bool (decide (xs = ys)) ∧ Nw w w' := by
  refine enter Try.mixed Try.func27 rfl (by kernel_rfl) ?_
  simp -dsimp [go_sem]
  refine cond_n (fun h => ?_) (fun h => ?_)
  · simp -dsimp [go_sem]
    refine ⟨?_, Kp.refl _ _⟩
    rintro rfl; exact h rfl
  · have hlen : xs.length = ys.length := by omega
    simp -dsimp [go_sem]
    refine loop [4, 5, 11, 12, 13, 14, 15, 16, 17, 18, 19, 20, 21, 22, 23, 24, 25] (by kernel_rfl) (fun f w' => Box1 (fun a w' => ∃ k : Nat, k ≤ xs.length ∧ a = i64 k ∧ xs.take k = ys.take k ∧ w'.heap = w.heap ∧ Nw w w') (f 5) w')
      (fun f _ => xs.length - (intOf (f 5)).toNat) ⟨0, Nat.zero_le _, rfl, by simp, rfl, Kp.refl _ _⟩ ?_
    rintro f w' ⟨k, hk, f5, ht, hh, hK⟩
    simp -dsimp [go_sem, f5]
    refine cond_d (fun hlt => ?_) (fun hlt => ?_)
    · have hlt : k < xs.length := by omega
      obtain ⟨b, o, rfl, hc⟩ := hx k (u8 xs[k]) (by simp [hlt])
      have hlt' : k < ys.length := by omega
      obtain ⟨b', o', rfl, hc'⟩ := hy k (u8 ys[k]) (by simp [hlt'])
      simp -dsimp [go_sem]
      refine draw (.take 0 (.take 1 (.take 2 (.take 3 (.take 4 (.take 5 (.take 6 (.take 7 (.take 8 .done))))))))) (by kernel_rfl) (fun w1 => w1.heap = w.heap) hh ?_
      have hcell : ∀ w1 : World, w1.heap = w.heap → ∀ a, w1.cell? a = w.cell? a := fun w1 h a => by simp [World.cell?, h]
      simp -dsimp [go_sem, f5, hlt, hlt', hcell w' hh, hc, hc']
      refine ⟨fun w1 h1 => by simp [hcell w1 h1, hc], fun w1 h1 => by simp [hcell w1 h1, hc'], ?_⟩
      refine cond_n (fun hne => ?_) (fun he => ?_)
      · simp -dsimp [go_sem]
        exact ⟨fun e => hne (by simp [e]), hK.drew⟩
      · have hk1 : IntKind.i64.wrap ((k : Int) + 1) = ((k + 1 : Nat) : Int) := w64 (by omega) (by omega)
        obtain ⟨k1, hk1'⟩ : ∃ k1, k1 = k + 1 := ⟨_, rfl⟩
        rw [← hk1'] at hk1
        simp -dsimp [go_sem, f5, hk1]
        refine ⟨⟨k1, by omega, rfl, ?_, hh, hK.drew⟩, by simp [intOf]; omega⟩
        rw [hk1', List.take_succ_eq_append_getElem hlt, List.take_succ_eq_append_getElem hlt', ht]
        have : xs[k] = ys[k] := UInt8.toNat_inj.1 (by omega)
        rw [this]
    · obtain rfl : k = xs.length := by omega
      simp -dsimp [go_sem]
      refine ⟨?_, hK⟩
      rw [List.take_length, List.take_of_length_le (by omega)] at ht
      exact ht
theorem spoil_spec (l : List UInt8) (w : World) (A : Option Addr) (c : Nat) (ho : Ow w 5 1 A l.length c (l.map u8)) (hl : l.length + 1 ≤ 140737488355328) :
    Cal Try.prog 29 #[.slice A l.length c] w fun v w' => v = .tuple #[] ∧ Kp (blk A) w w' := by
  refine enter Try.mixed Try.func29 rfl (by kernel_rfl) ?_
  simp -dsimp [go_sem]
  have k0 : Nw w (w.alloc (.cells #[.int .u8 99] 5)) := (Kp.refl _ _).alloc _
  refine app Try.Su8 (ho.nw k0) (Rd.fresh (xs := [99].map u8) rfl rfl) (m := 1) (by simp) (one_u8 [99]) (by omega) (by omega) ?_
  intro A' c' w1 ho1 hk1 hAA
  obtain ⟨g, rfl⟩ := ho1.some (by omega)
  have hg : w.heap.size ≤ g ∨ blk A g := by
    rcases hAA with rfl | ⟨e, _⟩
    · exact .inr rfl
    · cases e; exact .inl k0.size
  have k1 : Kp (blk A) w w1 := (k0.kp _).trans hk1 fun _ _ h => h
  simp -dsimp [go_sem]
  refine loop [3, 7, 8, 9, 10, 11, 12, 13, 14, 15] (by kernel_rfl) (fun f w' => Box1 (fun a w' => ∃ (i : Nat) (ys : List Value), i ≤ l.length + 1 ∧ a = i64 i ∧ Ow w' 5 1 (some ⟨g, 0, none⟩) (l.length + 1) c' ys ∧ Kp (blk A) w w') (f 3) w')
    (fun f _ => l.length + 1 - (intOf (f 3)).toNat) ⟨0, _, Nat.zero_le _, rfl, ho1, k1⟩ ?_
  rintro f w' ⟨i, ys, hi, f3, ho', hK⟩
  obtain ⟨n, hn⟩ : ∃ n, n = l.length + 1 := ⟨_, rfl⟩
  rw [← hn] at ho' hi ⊢
  simp -dsimp [go_sem, f3, ← hn]
  refine cond_d (fun hlt => ?_) (fun hlt => ?_)
  · have hlt : i < n := by omega
    have hc := ho'.rd.at_ (j := i) (by rw [ho'.1]; omega)
    obtain ⟨b, o, e, hc⟩ := hc
    cases e
    rw [Nat.zero_add] at hc
    have hf := ho'.frozen i
    have hk1 : IntKind.i64.wrap ((i : Int) + 1) = ((i + 1 : Nat) : Int) := w64 (by omega) (by omega)
    obtain ⟨k1, hk1'⟩ : ∃ k1, k1 = i + 1 := ⟨_, rfl⟩
    rw [← hk1'] at hk1
    simp -dsimp [go_sem, f3, hlt, hc, hf, hk1, ← hn]
    refine ⟨⟨k1, _, by omega, rfl, ho'.set i _, hK.setCell _ _ hg⟩, by simp [intOf]; omega⟩
  · simp -dsimp [go_sem]
    exact hK

theorem roomy_spec (l : List UInt8) (w : World) (A : Option Addr) (c : Nat) (hr : Rd w A (l.map u8)) (hl : l.length + 2 ≤ 140737488355328) :
    Cal Try.prog 22 #[.slice A l.length c] w fun v w' => Bs w' v (l ++ [171]) w.heap.size ∧ Nw w w' := by
  refine enter Try.mixed Try.func22 rfl (by kernel_rfl) ?_
  simp -dsimp [go_sem]
  have k0 : Nw w (w.alloc (.cells #[] 5)) := (Kp.refl _ _).alloc _
  refine bs_app (m := l) (l := []) (B := w.heap.size) (Gs.made w 5 1 0 #[] rfl rfl rfl (by simp [maxLen]) (Nat.le_refl _)) (hr.nw k0) (by simp; omega) k0.size ?_
  intro v1 w1 hB1 hk1
  have k1 := k0.fr hk1 (Nat.le_refl _)
  rw [List.nil_append] at hB1
  simp -dsimp [go_sem]
  refine bs_push (x := 171) hB1 rfl (by omega) (by omega) k1.size ?_
  intro v2 w2 hB2 hk2
  have k2 := k1.fr hk2 (Nat.le_refl _)
  simp -dsimp [go_sem]
  refine bs_push (x := 171) hB2 rfl (by omega) (by rw [List.length_append]; simp; omega) k2.size ?_
  intro v3 w3 hB3 hk3
  have k3 := k2.fr hk3 (Nat.le_refl _)
  obtain ⟨A3, c3, rfl, ho3, hA3⟩ := hB3
  have h1 : IntKind.i64.wrap ((l.length : Int) + 1) = ((l.length + 1 : Nat) : Int) := w64 (by omega) (by omega)
  have hlen : (l ++ [UInt8.ofNat 171] ++ [UInt8.ofNat 171]).length = l.length + 2 := by simp
  rw [hlen] at ho3
  obtain ⟨n, hn⟩ : ∃ n, n = l.length + 1 := ⟨_, rfl⟩
  have hnc : n ≤ c3 := by have := ho3.2.1; omega
  rw [← hn] at h1
  simp -dsimp [go_sem, h1, hnc]
  refine ⟨⟨A3, c3, by simp [hn], ?_, hA3⟩, k3⟩
  have := ho3.take (m := n) (by omega)
  rw [hn, Nat.mul_one, ← List.map_take, List.take_append_of_le_length (by simp), List.take_of_length_le (by simp)] at this
  simpa using this

theorem stands_spec (l : List UInt8) (w : World) (A B : Option Addr) (c d : Nat) (hA : Rd w A ((l ++ [171]).map u8)) (hc : l.length + 1 ≤ c) (hB : Rd w B (l.map u8)) (hl : l.length + 1 ≤ 140737488355328) :
    Cal Try.prog 39 #[.slice A (l.length + 1) c, .slice B l.length d] w fun v w' => v = .bool true ∧ Nw w w' := by
  refine enter Try.mixed Try.func39 rfl (by kernel_rfl) ?_
  have h1 : IntKind.i64.wrap ((l.length : Int) + 1) = ((l.length + 1 : Nat) : Int) := w64 (by omega) (by omega)
  obtain ⟨n, hn⟩ : ∃ n, n = l.length + 1 := ⟨_, rfl⟩
  have hlc : l.length ≤ c := by omega
  have hln : l.length < n := by omega
  have hc2 := hA l.length (u8 171) (by simp)
  obtain ⟨b, o, rfl, hcell⟩ := hc2
  rw [← hn] at h1 ⊢
  simp -dsimp [go_sem, h1, hlc]
  refine call (same_spec (some ⟨b, o, none⟩) B c d l l w (by simpa using hA.take l.length) hB (by omega)) ?_
  rintro v w1 ⟨rfl, hk⟩
  have hcell1 := hk.cell_some hcell fun h => h
  simp -dsimp [go_sem, hln, hcell1]
  exact hk


theorem Wr.new (w : World) : Wr (w.alloc (.cells #[.slice none 0 0] 72)) w.heap.size [] (At w.heap.size) :=
  ⟨none, 0, Blk.new w _ _, Ow.nil _ _ _, fun _ h => (by cases h), fun k h => by
    rcases h with h | h
    · exact h
    · exact h.elim, fun k (h : k = _) => by simp [h]⟩
theorem known_spec (w : World) : Cal Try.prog 40 #[] w fun v w' => v = .bool true ∧ Nw w w' := by
  refine enter Try.mixed Try.func40 rfl (by kernel_rfl) ?_
  simp -dsimp [go_sem]
  have k0 : Nw w (w.alloc (.cells #[.slice none 0 0] 72)) := (Kp.refl _ _).alloc _
  refine call (wNums_spec w.heap.size [] [1, 300] (At w.heap.size) _ 2 _ (Wr.kp_ (Wr.new w) ((Kp.refl (fun _ => False) _).alloc _) fun _ _ h => h) (Rd.fresh (by simp) rfl) (fun a ha _ e => by cases ha; simp at e) (by simp)) ?_
  rintro v w1 ⟨rfl, F1, hW1, hG1, hK1⟩
  have k1 : Nw w w1 := Nw.at_ (k0.alloc _) hK1 (Nf.at_ (Nat.le_refl _))
  have n1 : Nf w F1 := (Nf.at_ (Nat.le_refl _)).gr hG1 (k0.alloc _).size
  simp -dsimp [go_sem]
  refine conv_const rfl rfl (Blk.new w1 _ _) ?_
  intro w2 hk2 hh2
  simp -dsimp [go_sem]
  have k12 : Nw w1 w2 := Nw.at_ ((Kp.refl _ _).alloc _) hk2 (Nf.at_ (Nat.le_refl _))
  have hr2 := Rd.of_heap hh2
  have hs2 := lt_of_heap hh2
  refine call (wBytes_spec w.heap.size _ [[97]] F1 _ 1 _ ((Wr.kp_ hW1 k12 fun _ _ h => h).kp_ ((Kp.refl (fun _ => False) _).alloc _) fun _ _ h => h)
    (Brs.one (p := [97]) (d := 1) (Blk.new w2 _ _) (fun h => ?_) (hr2.nw ((Kp.refl _ _).alloc _)) ?_ (Nat.le_refl _)) (by decide +kernel)) ?_
  · have := Wr.lt_ hW1 _ h
    have := k12.size
    omega
  · intro a ha h
    cases ha
    exact Nat.lt_irrefl _ (Wr.lt_ hW1 _ h)
  rintro v w3 ⟨rfl, F3, hW3, hG3, hK3⟩
  have k3 : Nw w w3 := ((k1.nw k12).alloc _).trans hK3 fun i hi h => Nat.lt_irrefl _ (Nat.lt_of_lt_of_le hi (n1 i h))
  have hl : [] ++ numsB [1, 300] ++ rowsB [[97]] = [1, 172, 2, 1, 97] := by decide +kernel
  rw [hl] at hW3
  simp -dsimp [go_sem]
  refine call (wOut_spec w.heap.size _ F3 w3 hW3 (by simp)) ?_
  rintro v w4 ⟨⟨A, c, rfl, ho4, hA4⟩, hk4⟩
  simp -dsimp [go_sem]
  refine call (same_spec A (some ⟨w4.heap.size, 0, none⟩) c 5 [1, 172, 2, 1, 97] [1, 172, 2, 1, 97] _ (ho4.rd.nw ((Kp.refl _ _).alloc _)) (Rd.fresh rfl rfl) (by simp)) ?_
  rintro v w5 ⟨rfl, hk5⟩
  simp -dsimp [go_sem]
  have k5 : Nw w w5 := ((k3.nw hk4).alloc _).nw hk5
  refine conv_const rfl rfl (Blk.new w5 _ _) ?_
  intro w6 hk6 hh6
  simp -dsimp [go_sem]
  refine conv_const rfl rfl (Blk.new w6 _ _) ?_
  intro w7 hk7 hh7
  simp -dsimp [go_sem]
  have k56 : Nw w5 w6 := Nw.at_ ((Kp.refl _ _).alloc _) hk6 (Nf.at_ (Nat.le_refl _))
  have k67 : Nw w6 w7 := Nw.at_ ((Kp.refl _ _).alloc _) hk7 (Nf.at_ (Nat.le_refl _))
  have no : ∀ A, Off A fun _ => False := fun _ _ _ h => h
  refine call (sum_spec [[49, 50, 51, 52], [53, 54, 55, 56, 57]] _ 2 _ (fun _ => False) (Brs.two (p := [49, 50, 51, 52]) (q := [53, 54, 55, 56, 57]) (c := 4) (d := 5) (Blk.new w7 _ _) (fun h => h) (((Rd.of_heap hh6).nw k67).nw ((Kp.refl _ _).alloc _)) (no _) (Nat.le_refl _) ((Rd.of_heap hh7).nw ((Kp.refl _ _).alloc _)) (no _) (Nat.le_refl _)) (by simp) (by simp)) ?_
  rintro v w8 ⟨rfl, hk8⟩
  have hsum : sumL ([[49, 50, 51, 52], [53, 54, 55, 56, 57]] : List (List UInt8)).flatten = 3421780262 := by decide +kernel
  rw [hsum]
  simp -dsimp [go_sem]
  exact hk8 ▸ ((k5.nw k56).nw k67).alloc _
end Go.Proofs.Ytfdbnlgokaapnaa
