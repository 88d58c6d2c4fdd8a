/-
  DiskPlays walked. By the session itself.
-/
import Derived.Test.YthonmjgagblogaaDpB
namespace Go.Proofs.Ythonmjgagblogaa
set_option linter.unusedSimpArgs false
set_option linter.unusedVariables false
set_option maxRecDepth 100000
set_option maxHeartbeats 1000000
open Go.Vc Go.RowKit

theorem dplays_law (room : Int) (A : Option Addr) (c : Nat) (q : List Sp) (w : World) (hr : Rd w A (q.flatMap spc)) (hG : ∀ p ∈ q, SpG w p) (hl : q.length ≤ 9223372036854775807) :
    Cal Try.prog 3 #[i64 room, .slice A q.length c] w fun v w' => v = .bool true ∧ Nw w w' := by
  refine enter Try.mixed Try.func3 rfl (by kernel_rfl) ?_
  simp -dsimp [go_sem]
  refine call (dheavy_spec A c q w hr hG hl) ?_
  rintro v w1 ⟨⟨r, rfl, hh⟩, hk1⟩
  cases r with
  | true =>
    simp -dsimp [go_sem]
    refine call (dknown_spec _) ?_
    rintro v wk ⟨rfl, hkk⟩
    simp -dsimp [go_sem]
    exact Kp.nw hk1 hkk
  | false =>
    have hh := hh rfl
    simp -dsimp [go_sem]
    refine call (new_spec room w1) ?_
    rintro v w2 (⟨hbad, rfl, rfl⟩ | ⟨hr0, hr1, d, F, rfl, hD, nF, hk2⟩)
    · simp -dsimp [go_sem]
      refine call (rnew_spec room w2) ?_
      rintro v w3 (⟨_, rfl, rfl⟩ | ⟨h0, h1, _⟩)
      · simp -dsimp [go_sem]
        refine call (dknown_spec _) ?_
        rintro v wk ⟨rfl, hkk⟩
        simp -dsimp [go_sem]
        exact Kp.nw hk1 hkk
      · omega
    simp -dsimp [go_sem]
    refine call (rnew_spec room w2) ?_
    rintro v w3 (⟨hbad, _⟩ | ⟨_, _, x, G, rfl, hE, nG, hk3⟩)
    · omega
    have T3 : Bo w w3 d x ⟨room.toNat, [], none⟩ := ⟨F, G, hD.nw hk3, hE, fun i hf hg => by have := nG i hg; have := hD.lt i hf; omega, fun i hi => ⟨Nat.le_trans hk1.size (nF i hi), fun h => h⟩, fun i hi => ⟨by have := nG i hi; have := hk1.size; have := hk2.size; omega, fun h => h⟩, (hk1.nw hk2).nw hk3⟩
    simp -dsimp [go_sem]
    refine loop [4, 5, 7, 9, 10, 37, 38, 39, 40, 41, 42, 43, 44, 45, 46, 47, 48, 49, 50, 51, 52, 53, 54, 55, 56, 57, 58, 59, 60, 61, 62, 63, 64, 65, 66, 67, 68, 69, 70, 71, 72, 73, 74, 75, 76, 77, 78, 79, 80] (by kernel_rfl)
      (fun f w' => Box3 (fun a p r w' => ∃ (i d x : Nat) (D : Dsk), a = i64 i ∧ p = .pointer (some ⟨d, 0, none⟩) ∧ r = .pointer (some ⟨x, 0, none⟩) ∧ i ≤ q.length ∧ Bo w w' d x D) (f 9) (f 5) (f 7) w') (fun f _ => q.length - (intOf (f 9)).toNat)
      ⟨0, d, x, _, rfl, rfl, rfl, Nat.zero_le _, T3⟩ ?_
    clear T3 hE hD nF nG
    rintro f w4 ⟨i, d, x, D, f9, f5, f7, hi, T⟩
    have n4 := T.on
    by_cases hlt : i < q.length
    · by_cases h120 : i < 120
      · have h120' : (i : Int) < 120 := by omega
        have hi1 : IntKind.i64.wrap ((i : Int) + 1) = ((i + 1 : Nat) : Int) := w64 (by omega) (by omega)
        obtain ⟨i1, hi1'⟩ : ∃ i1, i1 = i + 1 := ⟨_, rfl⟩
        rw [← hi1'] at hi1
        obtain ⟨g, o, rfl, e0, e1, e2, e3, e4⟩ := sp_at_ (hr.nw n4) hlt
        by_cases h8 : q[i].kind = 8
        · rw [h8] at e0
          simp -dsimp [go_sem, f9, f5, f7, hlt, h120, h120', e0]
          obtain ⟨F4, G4, hF4, hG4, hdj, hF4n, hG4n, _⟩ := id T
          refine call (dcopy_spec d D F4 w4 hF4) ?_
          rintro v w5 ⟨y, F5, rfl, hD5, nF5, hk5⟩
          simp -dsimp [go_sem, f9, f5, f7]
          refine call (rcopy_spec x D G4 w5 (hG4.nw hk5) T.ok) ?_
          rintro v w6 ⟨z, G6, rfl, hE6, nG6, hk6⟩
          have hk46 := hk5.nw hk6
          have hD6 := hD5.nw hk6
          have T6 : Pr w w6 (fun k => F5 k ∨ G6 k) d D x D := (T.new (N' := fun k => F5 k ∨ G6 k) fun k hk => .inr (hk.elim (nF5 k) fun h => by have := nG6 k h; have := hk5.size; omega)).nw hk46
          have hN6 : ∀ k, (F5 k ∨ G6 k) → k < w6.heap.size := fun k hk => hk.elim (hD6.lt k) (hE6.lt k)
          simp -dsimp [go_sem]
          refine conv_const rfl rfl (Blk.new w6 _ _) ?_
          intro wc hkc hhc
          have kc : Nw w6 wc := Nw.at_ ((Kp.refl _ _).alloc _) hkc (Nf.at_ (Nat.le_refl _))
          simp -dsimp [go_sem]
          have kb : Nw w6 (wc.alloc (.cells #[.slice (some ⟨w6.heap.size, 0, none⟩) 1 1] 32)) := kc.alloc _
          refine call (T6.pappend kb (fun k hk => Nat.lt_of_lt_of_le (hN6 k hk) kb.size) [115, 112, 111, 105, 108, 116] [120] _ 1 (Brs.one (p := [120]) (d := 1) (Blk.fresh rfl) (fun h => h) ((Rd.of_heap hhc).nw ((Kp.refl _ _).alloc _)) (fun _ _ h => h) (Nat.le_refl _)) (by omega) (by simp) (by simp)) ?_
          rintro v w7 ⟨rfl, T7, hk7⟩
          have hk67 := (Nw.kp kb (Ns w (fun k => F5 k ∨ G6 k))).trans hk7 fun _ _ h => h
          simp -dsimp [go_sem]
          refine call (T7.pcrash (Kp.refl _ _) (fun k hk => Nat.lt_of_lt_of_le (hN6 k hk) hk67.size) 0) ?_
          rintro v w8 ⟨rfl, T8, hk8⟩
          have hk68 := hk67.trans hk8 fun _ _ h => h
          have hn6 : w.heap.size ≤ w4.heap.size := n4.size
          have T9 : Bo w w8 y z ⟨D.room, D.fs, none⟩ := ⟨F5, G6, hD6.kp hk68 fun k hk h => h.2 (.inl hk), hE6.kp hk68 fun k hk h => h.2 (.inr hk), fun k hf hg => by have := nG6 k hg; have := hD5.lt k hf; omega, fun k hk => ⟨Nat.le_trans hn6 (nF5 k hk), fun h => h⟩, fun k hk => ⟨by have := nG6 k hk; have := hk5.size; omega, fun h => h⟩, T8.on⟩
          simp -dsimp [go_sem, f9, hi1]
          exact ⟨⟨i1, y, z, _, rfl, rfl, rfl, by omega, T9⟩, by simp [intOf]; omega⟩
        · have h8' : (q[i].kind == 8) = false := by simpa using h8
          simp -dsimp [go_sem, f9, f5, f7, hlt, h120, h120', e0, e1, e2, e3, e4, h8']
          refine call (does_any w w4 d x D q[i] T (hG _ (List.getElem_mem hlt)) (hh i hlt h120)) ?_
          rintro v w5 ⟨rfl, D5, T5⟩
          simp -dsimp [go_sem, f5, f7]
          refine call (stood_spec w w5 d x D5 T5) ?_
          rintro v w6 ⟨rfl, hk6⟩
          simp -dsimp [go_sem, f9, f5, f7, hi1]
          exact ⟨⟨i1, d, x, D5, rfl, rfl, rfl, by omega, T5.nw hk6⟩, by simp [intOf]; omega⟩
      · have h120' : ¬ (i : Int) < 120 := by omega
        simp -dsimp [go_sem, f9, hlt, h120, h120']
        refine call (dknown_spec _) ?_
        rintro v wk ⟨rfl, hkk⟩
        simp -dsimp [go_sem]
        exact Kp.nw n4 hkk
    · obtain rfl : i = q.length := by omega
      simp -dsimp [go_sem, f9]
      refine call (dknown_spec _) ?_
      rintro v wk ⟨rfl, hkk⟩
      simp -dsimp [go_sem]
      exact Kp.nw n4 hkk
end Go.Proofs.Ythonmjgagblogaa
