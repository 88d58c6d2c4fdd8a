/-
  What frame's statements' own small functions come to; the plain laws of records. By the session itself.
-/
import Derived.Test.YtdhgfljpnjneeaaFrmE
namespace Go.Proofs.Ytdhgfljpnjneeaa
set_option linter.unusedSimpArgs false
set_option linter.unusedVariables false
open Go.Vc Go.RowKit

theorem same_spec (A B : Option Addr) (c d : Nat) (xs ys : List UInt8) (w : World) (hx : Rd w A (xs.map u8)) (hy : Rd w B (ys.map u8)) (hl : xs.length ≤ 140737488355328) :
    Cal Try.prog 12 #[.slice A xs.length c, .slice B ys.length d] w fun v w' => v = .bool (decide (xs = ys)) ∧ Nw w w' := by
  refine enter Try.mixed Try.func12 rfl (by kernel_rfl) ?_
  simp -dsimp [go_sem]
  refine cond_n (fun h => ?_) (fun h => ?_)
  · simp -dsimp [go_sem]
    refine ⟨?_, Kp.refl _ _⟩
    rintro rfl; exact h rfl
  · have hlen : xs.length = ys.length := by omega
    simp -dsimp [go_sem]
    refine loop [4, 5, 11, 12, 13, 14, 15, 16, 17, 18, 19, 20, 21, 22, 23, 24, 25] (by kernel_rfl) (fun f w' => Box1 (fun a w' => ∃ k : Nat, k ≤ xs.length ∧ a = i64 k ∧ xs.take k = ys.take k ∧ w'.heap = w.heap ∧ Nw w w') (f 5) w')
      (fun f _ => xs.length - (intOf (f 5)).toNat) ⟨0, Nat.zero_le _, rfl, by simp, rfl, Kp.refl _ _⟩ ?_
    rintro f w' ⟨k, hk, f5, ht, hh, hK⟩
    simp -dsimp [go_sem, f5]
    refine cond_d (fun hlt => ?_) (fun hlt => ?_)
    · have hlt : k < xs.length := by omega
      obtain ⟨b, o, rfl, hc⟩ := hx k (u8 xs[k]) (by simp [hlt])
      have hlt' : k < ys.length := by omega
      obtain ⟨b', o', rfl, hc'⟩ := hy k (u8 ys[k]) (by simp [hlt'])
      simp -dsimp [go_sem]
      refine draw (.take 0 (.take 1 (.take 2 (.take 3 (.take 4 (.take 5 (.take 6 (.take 7 (.take 8 .done))))))))) (by kernel_rfl) (fun w1 => w1.heap = w.heap) hh ?_
      have hcell : ∀ w1 : World, w1.heap = w.heap → ∀ a, w1.cell? a = w.cell? a := fun w1 h a => by simp [World.cell?, h]
      simp -dsimp [go_sem, f5, hlt, hlt', hcell w' hh, hc, hc']
      refine ⟨fun w1 h1 => by simp [hcell w1 h1, hc], fun w1 h1 => by simp [hcell w1 h1, hc'], ?_⟩
      refine cond_n (fun hne => ?_) (fun he => ?_)
      · simp -dsimp [go_sem]
        exact ⟨fun e => hne (by simp [e]), hK.drew⟩
      · have hk1 : IntKind.i64.wrap ((k : Int) + 1) = ((k + 1 : Nat) : Int) := w64 (by omega) (by omega)
        obtain ⟨k1, hk1'⟩ : ∃ k1, k1 = k + 1 := ⟨_, rfl⟩
        rw [← hk1'] at hk1
        simp -dsimp [go_sem, f5, hk1]
        refine ⟨⟨k1, by omega, rfl, ?_, hh, hK.drew⟩, by simp [intOf]; omega⟩
        rw [hk1', List.take_succ_eq_append_getElem hlt, List.take_succ_eq_append_getElem hlt', ht]
        have : xs[k] = ys[k] := UInt8.toNat_inj.1 (by omega)
        rw [this]
    · obtain rfl : k = xs.length := by omega
      simp -dsimp [go_sem]
      refine ⟨?_, hK⟩
      rw [List.take_length, List.take_of_length_le (by omega)] at ht
      exact ht
theorem spoil_spec (l : List UInt8) (w : World) (A : Option Addr) (c : Nat) (ho : Ow w 5 1 A l.length c (l.map u8)) (hl : l.length + 1 ≤ 140737488355328) :
    Cal Try.prog 20 #[.slice A l.length c] w fun v w' => v = .tuple #[] ∧ Kp (blk A) w w' := by
  refine enter Try.mixed Try.func20 rfl (by kernel_rfl) ?_
  simp -dsimp [go_sem]
  have k0 : Nw w (w.alloc (.cells #[.int .u8 99] 5)) := (Kp.refl _ _).alloc _
  refine app Try.Su8 (ho.nw k0) (Rd.fresh (xs := [99].map u8) rfl rfl) (m := 1) (by simp) (one_u8 [99]) (by omega) (by omega) ?_
  intro A' c' w1 ho1 hk1 hAA
  obtain ⟨g, rfl⟩ := ho1.some (by omega)
  have hg : w.heap.size ≤ g ∨ blk A g := by
    rcases hAA with rfl | ⟨e, _⟩
    · exact .inr rfl
    · cases e; exact .inl k0.size
  have k1 : Kp (blk A) w w1 := (k0.kp _).trans hk1 fun _ _ h => h
  simp -dsimp [go_sem]
  refine loop [3, 7, 8, 9, 10, 11, 12, 13, 14, 15] (by kernel_rfl) (fun f w' => Box1 (fun a w' => ∃ (i : Nat) (ys : List Value), i ≤ l.length + 1 ∧ a = i64 i ∧ Ow w' 5 1 (some ⟨g, 0, none⟩) (l.length + 1) c' ys ∧ Kp (blk A) w w') (f 3) w')
    (fun f _ => l.length + 1 - (intOf (f 3)).toNat) ⟨0, _, Nat.zero_le _, rfl, ho1, k1⟩ ?_
  rintro f w' ⟨i, ys, hi, f3, ho', hK⟩
  obtain ⟨n, hn⟩ : ∃ n, n = l.length + 1 := ⟨_, rfl⟩
  rw [← hn] at ho' hi ⊢
  simp -dsimp [go_sem, f3, ← hn]
  refine cond_d (fun hlt => ?_) (fun hlt => ?_)
  · have hlt : i < n := by omega
    have hc := ho'.rd.at_ (j := i) (by rw [ho'.1]; omega)
    obtain ⟨b, o, e, hc⟩ := hc
    cases e
    rw [Nat.zero_add] at hc
    have hf := ho'.frozen i
    have hk1 : IntKind.i64.wrap ((i : Int) + 1) = ((i + 1 : Nat) : Int) := w64 (by omega) (by omega)
    obtain ⟨k1, hk1'⟩ : ∃ k1, k1 = i + 1 := ⟨_, rfl⟩
    rw [← hk1'] at hk1
    simp -dsimp [go_sem, f3, hlt, hc, hf, hk1, ← hn]
    refine ⟨⟨k1, _, by omega, rfl, ho'.set i _, hK.setCell _ _ hg⟩, by simp [intOf]; omega⟩
  · simp -dsimp [go_sem]
    exact hK

theorem roomy_spec (l : List UInt8) (w : World) (A : Option Addr) (c : Nat) (hr : Rd w A (l.map u8)) (hl : l.length + 2 ≤ 140737488355328) :
    Cal Try.prog 16 #[.slice A l.length c] w fun v w' => Bs w' v (l ++ [171]) w.heap.size ∧ Nw w w' := by
  refine enter Try.mixed Try.func16 rfl (by kernel_rfl) ?_
  simp -dsimp [go_sem]
  have k0 : Nw w (w.alloc (.cells #[] 5)) := (Kp.refl _ _).alloc _
  refine bs_app (m := l) (l := []) (B := w.heap.size) (Gs.made w 5 1 0 #[] rfl rfl rfl (by simp [maxLen]) (Nat.le_refl _)) (hr.nw k0) (by simp; omega) k0.size ?_
  intro v1 w1 hB1 hk1
  have k1 := k0.fr hk1 (Nat.le_refl _)
  rw [List.nil_append] at hB1
  simp -dsimp [go_sem]
  refine bs_push (x := 171) hB1 rfl (by omega) (by omega) k1.size ?_
  intro v2 w2 hB2 hk2
  have k2 := k1.fr hk2 (Nat.le_refl _)
  simp -dsimp [go_sem]
  refine bs_push (x := 171) hB2 rfl (by omega) (by rw [List.length_append]; simp; omega) k2.size ?_
  intro v3 w3 hB3 hk3
  have k3 := k2.fr hk3 (Nat.le_refl _)
  obtain ⟨A3, c3, rfl, ho3, hA3⟩ := hB3
  have h1 : IntKind.i64.wrap ((l.length : Int) + 1) = ((l.length + 1 : Nat) : Int) := w64 (by omega) (by omega)
  have hlen : (l ++ [UInt8.ofNat 171] ++ [UInt8.ofNat 171]).length = l.length + 2 := by simp
  rw [hlen] at ho3
  obtain ⟨n, hn⟩ : ∃ n, n = l.length + 1 := ⟨_, rfl⟩
  have hnc : n ≤ c3 := by have := ho3.2.1; omega
  rw [← hn] at h1
  simp -dsimp [go_sem, h1, hnc]
  refine ⟨⟨A3, c3, by simp [hn], ?_, hA3⟩, k3⟩
  have := ho3.take (m := n) (by omega)
  rw [hn, Nat.mul_one, ← List.map_take, List.take_append_of_le_length (by simp), List.take_of_length_le (by simp)] at this
  simpa using this

theorem stands_spec (l : List UInt8) (w : World) (A B : Option Addr) (c d : Nat) (hA : Rd w A ((l ++ [171]).map u8)) (hc : l.length + 1 ≤ c) (hB : Rd w B (l.map u8)) (hl : l.length + 1 ≤ 140737488355328) :
    Cal Try.prog 21 #[.slice A (l.length + 1) c, .slice B l.length d] w fun v w' => v = .bool true ∧ Nw w w' := by
  refine enter Try.mixed Try.func21 rfl (by kernel_rfl) ?_
  have h1 : IntKind.i64.wrap ((l.length : Int) + 1) = ((l.length + 1 : Nat) : Int) := w64 (by omega) (by omega)
  obtain ⟨n, hn⟩ : ∃ n, n = l.length + 1 := ⟨_, rfl⟩
  have hlc : l.length ≤ c := by omega
  have hln : l.length < n := by omega
  have hc2 := hA l.length (u8 171) (by simp)
  obtain ⟨b, o, rfl, hcell⟩ := hc2
  rw [← hn] at h1 ⊢
  simp -dsimp [go_sem, h1, hlc]
  refine call (same_spec (some ⟨b, o, none⟩) B c d l l w (by simpa using hA.take l.length) hB (by omega)) ?_
  rintro v w1 ⟨rfl, hk⟩
  have hcell1 := hk.cell_some hcell fun h => h
  simp -dsimp [go_sem, hln, hcell1]
  exact hk


/-- A record is read as it was, whatever stands behind. -/
theorem dec_rec (p more : List UInt8) (hp : p.length ≤ 1048576) : decL (recL p ++ more) = (p, p.length + 12, 0) := by
  have hl : (recL p).length = p.length + 12 := by
    simp only [recL, List.length_append, headL_len, fourL_len]; omega
  have hf : fromL (recL p ++ more) = p.length := by
    have : recL p ++ more = fourL p.length ++ (fourL (sumL (fourL p.length)) ++ p ++ fourL (sumL (headL p.length ++ p)) ++ more) := by
      simp [recL, headL]
    rw [this]
    exact from_four _ (by omega) _
  have ht8 : (recL p ++ more).take 8 = headL p.length := by
    rw [recL, List.append_assoc, List.append_assoc]
    exact List.take_left' (headL_len _)
  have htm : (recL p ++ more).take (8 + p.length) = headL p.length ++ p := by
    rw [recL, List.append_assoc]
    exact List.take_left' (by rw [List.length_append, headL_len])
  have hdm : (recL p ++ more).drop (8 + p.length) = fourL (sumL (headL p.length ++ p)) ++ more := by
    rw [recL, List.append_assoc]
    exact List.drop_left' (by rw [List.length_append, headL_len])
  unfold decL
  rw [hf, ht8, htm, hdm, from_four _ (sumL_lt _), if_neg (by rw [List.length_append]; omega), if_neg (fun h => h rfl), if_neg (by omega), if_neg (by rw [List.length_append]; omega), if_neg (fun h => h rfl), List.drop_left' (headL_len _), Nat.add_comm]

/-- Two lists of rows that are alike. -/
theorem rows_spec (ps : List (List UInt8)) (A B : Option Addr) (c d : Nat) (w : World) (S T : Nat → Prop) (hA : Brs w A ps S) (hB : Brs w B ps T) (hl : ps.length ≤ 140737488355328) (hm : ∀ p ∈ ps, p.length ≤ 140737488355328) :
    Cal Try.prog 15 #[.slice A ps.length c, .slice B ps.length d] w fun v w' => v = .bool true ∧ Nw w w' := by
  refine enter Try.mixed Try.func15 rfl (by kernel_rfl) ?_
  simp -dsimp [go_sem]
  refine loop [4, 5, 11, 12, 13, 14, 15, 16, 17, 18, 19, 20, 21, 22, 23, 24, 25, 26] (by kernel_rfl) (fun f w' => Box1 (fun a w' => ∃ k : Nat, k ≤ ps.length ∧ a = i64 k ∧ Nw w w') (f 5) w')
    (fun f _ => ps.length - (intOf (f 5)).toNat) ⟨0, Nat.zero_le _, rfl, Kp.refl _ _⟩ ?_
  rintro f w' ⟨k, hk, f5, hK⟩
  simp -dsimp [go_sem, f5]
  refine cond_d (fun hlt => ?_) (fun hlt => ?_)
  · have hlt : k < ps.length := by omega
    obtain ⟨vs, hvl, hrd, hoA, hi⟩ := hA.nw hK
    obtain ⟨us, hul, hru, hoU, hj⟩ := hB.nw hK
    obtain ⟨X, x, hv, hrX, hoX, hx⟩ := hi k hlt
    obtain ⟨Y, y, hu, hrY, hoY, hy⟩ := hj k hlt
    obtain ⟨b1, o1, rfl, hc1⟩ := hrd k _ hv
    obtain ⟨b2, o2, rfl, hc2⟩ := hru k _ hu
    have hpl := hm ps[k] (List.getElem_mem hlt)
    have hcell : ∀ w1 : World, w1.heap = w'.heap → ∀ a, w1.cell? a = w'.cell? a := fun w1 h a => by simp [World.cell?, h]
    simp -dsimp [go_sem]
    refine draw (.take 0 (.take 1 (.take 2 (.take 3 (.take 4 (.take 5 (.take 6 (.take 7 (.alt 8 (.take 9 .done) .stop))))))))) (by kernel_rfl) (fun w1 => Nw w' w1) ((Kp.refl _ _).drew) ?_
    simp -dsimp [go_sem, f5, hlt, hc1, hc2]
    refine ⟨fun w1 h => by simp [h.cell_some hc1 (fun h => h)], fun w1 h => by simp [h.cell_some hc2 (fun h => h)], ?_⟩
    refine call (same_spec X Y x y ps[k] ps[k] w'.drew (hrX.nw ((Kp.refl _ _).drew)) (hrY.nw ((Kp.refl _ _).drew)) hpl) ?_
    rintro v w2 ⟨rfl, hk2⟩
    refine ⟨((Kp.refl _ w').drew).nw hk2, ?_⟩
    have hk1 : IntKind.i64.wrap ((k : Int) + 1) = ((k + 1 : Nat) : Int) := w64 (by omega) (by omega)
    obtain ⟨k1, hk1'⟩ : ∃ k1, k1 = k + 1 := ⟨_, rfl⟩
    rw [← hk1'] at hk1
    simp -dsimp [go_sem, f5, hk1]
    exact ⟨⟨k1, by omega, rfl, (hK.drew).nw hk2⟩, by simp [intOf]; omega⟩
  · simp -dsimp [go_sem]
    exact hK

theorem fknown_spec (w : World) : Cal Try.prog 10 #[] w fun v w' => v = .bool true ∧ Nw w w' := by
  refine enter Try.mixed Try.func10 rfl (by kernel_rfl) ?_
  simp -dsimp [go_sem]
  refine conv_const rfl rfl (Blk.new w _ _) ?_
  intro w1 hk1 hh1
  have k1 : Nw w w1 := Nw.at_ ((Kp.refl _ _).alloc _) hk1 (Nf.at_ (Nat.le_refl _))
  simp -dsimp [go_sem]
  have ka := (k1.alloc (.cells #[.slice (some ⟨w.heap.size, 0, none⟩) 1 1] 22))
  refine call (encode_spec [[120]] _ 1 _ (fun _ => False) (Brs.one (p := [120]) (d := 1) (Blk.fresh rfl) (fun h => h) ((Rd.of_heap hh1).nw ((Kp.refl _ _).alloc _)) (fun _ _ h => h) (Nat.le_refl _)) (by simp) (by simp) (by simp)) ?_
  rintro v w2 ⟨hk2, h | ⟨_, u, rfl, hB⟩⟩
  · simp at h
  · have k2 := Kp.nw ka hk2
    have hrec : recL ([[120]] : List (List UInt8)).flatten = recL [120] := rfl
    rw [hrec] at hB
    simp -dsimp [go_sem]
    have hrl : (recL [120]).length = 13 := rfl
    refine bs_push (x := 1) hB rfl (by omega) (by rw [hrl]; omega) (by simp; have := k1.size; have := k2.size; have := hk2.size; simp at *; omega) ?_
    intro v3 w3 hB3 hk3
    have k3 : Nw w w3 := Nw.fr k2 hk3 (by have := k1.size; simp; omega)
    have hdec : decL (recL [120] ++ [UInt8.ofNat 1]) = ([120], 13, 0) := dec_rec [120] [UInt8.ofNat 1] (by simp)
    have hbl : (recL [120] ++ [UInt8.ofNat 1]).length = 14 := rfl
    obtain ⟨b, hb⟩ : ∃ b, b = recL [120] ++ [UInt8.ofNat 1] := ⟨_, rfl⟩
    rw [← hb] at hB3 hdec hbl
    obtain ⟨A3, c3, rfl, ho3, hA3⟩ := hB3
    simp -dsimp [go_sem]
    refine call (decode_spec b A3 c3 w3 ho3.rd ho3.2.1 (by omega)) ?_
    rintro v w4 ⟨hk4, u4, rfl, hB4⟩
    rw [hdec] at hB4 ⊢
    obtain ⟨A4, c4, rfl, ho4, hA4⟩ := hB4
    have k4 := k3.nw hk4
    simp -dsimp [go_sem]
    refine conv_const rfl rfl (Blk.new w4 _ _) ?_
    intro w5 hk5 hh5
    have k45 : Nw w4 w5 := Nw.at_ ((Kp.refl _ _).alloc _) hk5 (Nf.at_ (Nat.le_refl _))
    simp -dsimp [go_sem]
    refine call (same_spec A4 (some ⟨w4.heap.size, 0, none⟩) c4 1 [120] [120] w5 (ho4.rd.nw k45) (Rd.of_heap hh5) (by simp)) ?_
    rintro v w6 ⟨rfl, hk6⟩
    simp -dsimp [go_sem]
    exact (k4.nw k45).nw hk6
end Go.Proofs.Ytdhgfljpnjneeaa
