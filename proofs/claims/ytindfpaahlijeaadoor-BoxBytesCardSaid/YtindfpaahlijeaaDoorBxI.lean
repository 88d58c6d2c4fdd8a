/-
  The laws of box: known, large; BoxFull walked. By the session itself.
-/
import Derived.Test.YtindfpaahlijeaaDoorBxD
import Derived.Test.YtindfpaahlijeaaDoorBxE
import Derived.Test.YtindfpaahlijeaaDoorBxH
namespace Go.Proofs.YtindfpaahlijeaaDoor
set_option linter.unusedSimpArgs false
set_option linter.unusedVariables false
set_option maxRecDepth 100000
set_option maxHeartbeats 2000000
open Go.Vc Go.RowKit

theorem OB.open_ {w : World} {v : Value} {b : Bx} {B : Nat} (h : OB w v b B) : ∃ A c, v = .agg #[.string b.name, i64 b.val, i64 b.next, .slice A b.L.length c] := by
  obtain ⟨vL, rfl, q, A, c, rfl, _⟩ := h
  exact ⟨A, c, rfl⟩
theorem RB.open_ {w : World} {v : Value} {b : Bx} {S : Nat → Prop} (h : RB w v b S) : ∃ A c, v = .agg #[.string b.name, i64 b.val, i64 b.next, .slice A b.L.length c] := by
  obtain ⟨A, c, q, rfl, _⟩ := h
  exact ⟨A, c, rfl⟩
theorem srtI_of {l : List Int} (h : l.Pairwise (· ≤ ·)) : srtI l = l := List.mergeSort_of_pairwise (h.imp fun {a b} hab => by simpa using hab)
theorem bxknown_spec (w : World) : Cal Tryd.prog 10 #[] w fun v w' => v = .bool true ∧ Nw w w' := by
  refine enter Tryd.mixed Tryd.func10 rfl (by kernel_rfl) ?_
  simp -dsimp [go_sem]
  refine call (new_spec ⟨#[97]⟩ 1 w) ?_
  rintro v w1 ⟨rfl, hk1⟩
  simp -dsimp [go_sem]
  refine call (add_spec _ ⟨⟨#[97]⟩, 1, 1, []⟩ _ 0 5 [] none 0 w1 (ob_new ⟨#[97]⟩ 1 w1 0).rb (by decide) (by simp) (Rd.nil _ _) (by decide)) ?_
  rintro v w2 ⟨⟨bv, rfl, hO2⟩, hk2⟩
  have e2 : addB ⟨⟨#[97]⟩, 1, 1, []⟩ 0 5 [] = (⟨⟨#[97]⟩, 1, 2, [⟨1, 0, 5, []⟩]⟩, 1, 0) := rfl
  rw [e2] at hO2
  replace hO2 : OB w2 bv ⟨⟨#[97]⟩, 1, 2, [⟨1, 0, 5, []⟩]⟩ w1.heap.size := hO2
  obtain ⟨A2, c2, rfl⟩ := hO2.open_
  simp only at hO2
  have n2 := hk1.nw hk2
  have ka : Nw w2 (w2.alloc (.cells #[.string ⟨#[97]⟩, i64 1, i64 2, .slice A2 1 c2] 24)) := (Kp.refl _ _).alloc _
  have hy : Blk (w2.alloc (.cells #[.string ⟨#[97]⟩, i64 1, i64 2, .slice A2 1 c2] 24)) w2.heap.size 24 #[.string ⟨#[97]⟩, i64 1, i64 2, .slice A2 1 c2] := Blk.new _ _ _
  obtain ⟨y, hyw⟩ : ∃ y, y = w2.heap.size := ⟨_, rfl⟩
  have n3 := n2.nw ka
  have hyf : w.heap.size ≤ y := by rw [hyw]; exact n2.size
  have hRa := hO2.rb.nw ka
  simp -dsimp [go_sem, e2]
  rw [← hyw] at hy ⊢
  generalize w2.alloc (.cells #[.string ⟨#[97]⟩, i64 1, i64 2, .slice A2 1 c2] 24) = w3 at *
  refine call (add_spec _ ⟨⟨#[97]⟩, 1, 2, [⟨1, 0, 5, []⟩]⟩ _ 0 5 [] none 0 w3 hRa (by decide) (by simp) (Rd.nil _ _) (by decide)) ?_
  rintro v w4 ⟨⟨bv, rfl, hO4⟩, hk4⟩
  have e4 : addB ⟨⟨#[97]⟩, 1, 2, [⟨1, 0, 5, []⟩]⟩ 0 5 [] = (⟨⟨#[97]⟩, 1, 3, [⟨1, 0, 5, []⟩, ⟨2, 0, 5, []⟩]⟩, 2, 0) := rfl
  rw [e4] at hO4
  replace hO4 : OB w4 bv ⟨⟨#[97]⟩, 1, 3, [⟨1, 0, 5, []⟩, ⟨2, 0, 5, []⟩]⟩ w3.heap.size := hO4
  obtain ⟨A4, c4, rfl⟩ := hO4.open_
  have hy4 := hy.nw hk4
  have n4 := n3.nw hk4
  have y0 := hy4.cell 0
  have y1 := hy4.cell 1
  have y2 := hy4.cell 2
  have y3 := hy4.cell 3
  have f0 := hy4.frozen 0
  have f1 := hy4.frozen 1
  have f2 := hy4.frozen 2
  have f3 := hy4.frozen 3
  have hyl := hy.lt
  have hb5 := blk_set4 hy4 (.string ⟨#[97]⟩) (i64 1) (i64 3) (.slice A4 2 c4)
  have ks := kp_set4 w4 y (.string ⟨#[97]⟩) (i64 1) (i64 3) (.slice A4 2 c4)
  have hO5 := hO4.kp ks fun k hk _ (e : k = y) => by omega
  have n5 := n4.at_ ks fun k (e : k = y) => by omega
  simp -dsimp [go_sem, e4, y0, y1, y2, y3, f0, f1, f2, f3]
  have ka5 : Nw ((((w4.setCell ⟨y, 0, none⟩ (.string ⟨#[97]⟩)).setCell ⟨y, 1, none⟩ (i64 1)).setCell ⟨y, 2, none⟩ (i64 3)).setCell ⟨y, 3, none⟩ (.slice A4 2 c4)) (((((w4.setCell ⟨y, 0, none⟩ (.string ⟨#[97]⟩)).setCell ⟨y, 1, none⟩ (i64 1)).setCell ⟨y, 2, none⟩ (i64 3)).setCell ⟨y, 3, none⟩ (.slice A4 2 c4)).alloc (.cells #[i64 2] 3)) := (Kp.refl _ _).alloc _
  generalize hw5 : (((w4.setCell ⟨y, 0, none⟩ (.string ⟨#[97]⟩)).setCell ⟨y, 1, none⟩ (i64 1)).setCell ⟨y, 2, none⟩ (i64 3)).setCell ⟨y, 3, none⟩ (.slice A4 2 c4) = w5 at *
  have hsz5 : w4.heap.size = w5.heap.size := by rw [← hw5]; simp
  have n6 := n5.nw ka5
  refine call (expunge_spec _ ⟨⟨#[97]⟩, 1, 3, [⟨1, 0, 5, []⟩, ⟨2, 0, 5, []⟩]⟩ _ [2] (some ⟨w4.heap.size, 0, none⟩) 1 _ (hO5.rb.nw ka5) (by decide) (by simp) (Rd.fresh hsz5 rfl) (by decide)) ?_
  rintro v w6 ⟨⟨bv, A6, n, c6, rfl, hn, hnc, hO6, hr6⟩, hk6⟩
  have e6 : srtI (goneB [2] [⟨1, 0, 5, []⟩, ⟨2, 0, 5, []⟩]) = [2] := srtI_of (by decide)
  have e6' : stayB [2] [⟨1, 0, 5, []⟩, ⟨2, 0, 5, []⟩] = [⟨1, 0, 5, []⟩] := rfl
  simp only [e6'] at hO6
  simp only [e6] at hn
  obtain rfl : n = 1 := hn
  replace hO6 : OB w6 bv ⟨⟨#[97]⟩, 1, 3, [⟨1, 0, 5, []⟩]⟩ _ := hO6
  obtain ⟨A7, c7, rfl⟩ := hO6.open_
  clear y0 y1 y2 y3 f0 f1 f2 f3
  have hy6 := (hb5.nw ka5).nw hk6
  have n7 := n6.nw hk6
  have y0 := hy6.cell 0
  have y1 := hy6.cell 1
  have y2 := hy6.cell 2
  have y3 := hy6.cell 3
  have f0 := hy6.frozen 0
  have f1 := hy6.frozen 1
  have f2 := hy6.frozen 2
  have f3 := hy6.frozen 3
  have hb7 := blk_set4 hy6 (.string ⟨#[97]⟩) (i64 1) (i64 3) (.slice A7 1 c7)
  have ks7 := kp_set4 w6 y (.string ⟨#[97]⟩) (i64 1) (i64 3) (.slice A7 1 c7)
  have hyl5 : y < (w5.alloc (.cells #[i64 2] 3)).heap.size := (hb5.nw ka5).lt
  have hO7 := hO6.kp ks7 fun k hk _ (e : k = y) => absurd (Nat.lt_of_lt_of_le hyl5 hk) (by rw [e]; exact Nat.lt_irrefl _)
  have n8 := n7.at_ ks7 fun k (e : k = y) => by omega
  simp -dsimp [go_sem, y0, y1, y2, y3, f0, f1, f2, f3]
  generalize hw7 : (((w6.setCell ⟨y, 0, none⟩ (.string ⟨#[97]⟩)).setCell ⟨y, 1, none⟩ (i64 1)).setCell ⟨y, 2, none⟩ (i64 3)).setCell ⟨y, 3, none⟩ (.slice A7 1 c7) = w7 at *
  refine call (add_spec _ ⟨⟨#[97]⟩, 1, 3, [⟨1, 0, 5, []⟩]⟩ _ 0 5 [] none 0 w7 hO7.rb (by decide) (by simp) (Rd.nil _ _) (by decide)) ?_
  rintro v w8 ⟨⟨bv, rfl, hO8⟩, hk8⟩
  have e8 : addB ⟨⟨#[97]⟩, 1, 3, [⟨1, 0, 5, []⟩]⟩ 0 5 [] = (⟨⟨#[97]⟩, 1, 4, [⟨1, 0, 5, []⟩, ⟨3, 0, 5, []⟩]⟩, 3, 0) := rfl
  rw [e8] at hO8
  replace hO8 : OB w8 bv ⟨⟨#[97]⟩, 1, 4, [⟨1, 0, 5, []⟩, ⟨3, 0, 5, []⟩]⟩ w7.heap.size := hO8
  obtain ⟨A8, c8, rfl⟩ := hO8.open_
  have wz : IntKind.i64.wrap 0 = 0 := rfl
  simp -dsimp [go_sem, e8, wz]
  exact (n8.nw hk8).alloc _
end Go.Proofs.YtindfpaahlijeaaDoor
