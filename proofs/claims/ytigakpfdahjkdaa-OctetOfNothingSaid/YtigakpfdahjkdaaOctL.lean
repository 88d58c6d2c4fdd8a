/-
  OctetOfNothing walked: a Writer and a Reader that are not there. By the session itself.
-/
import Derived.Test.YtigakpfdahjkdaaOctG
namespace Go.Proofs.Ytigakpfdahjkdaa
set_option linter.unusedSimpArgs false
set_option linter.unusedVariables false
open Go.Vc Go.RowKit

theorem wNums_nil (n d : Nat) (B : Option Addr) (w : World) : Cal Try.prog 19 #[.pointer none, .slice B n d] w fun v w' => v = .tuple #[] ∧ w = w' := by
  refine enter Try.mixed Try.func19 rfl (by kernel_rfl) ?_
  simp -dsimp [go_sem]
theorem wRaw_nil (n d : Nat) (B : Option Addr) (w : World) : Cal Try.prog 36 #[.pointer none, .slice B n d] w fun v w' => v = .tuple #[] ∧ w = w' := by
  refine enter Try.mixed Try.func36 rfl (by kernel_rfl) ?_
  simp -dsimp [go_sem]
theorem wOut_nil (w : World) : Cal Try.prog 20 #[.pointer none] w fun v w' => v = .slice none 0 0 ∧ w = w' := by
  refine enter Try.mixed Try.func20 rfl (by kernel_rfl) ?_
  simp -dsimp [go_sem]
theorem wBytes_nil (ps : List (List UInt8)) (A : Option Addr) (c : Nat) (w : World) (hr : Brs w A ps fun _ => False) (hl : ps.length ≤ 140737488355328) :
    Cal Try.prog 33 #[.pointer none, .slice A ps.length c] w fun v w' => v = .tuple #[] ∧ Nw w w' := by
  refine enter Try.mixed Try.func33 rfl (by kernel_rfl) ?_
  simp -dsimp [go_sem]
  refine loop [5, 8, 9, 10, 11, 12, 13, 14, 15, 16, 17, 18, 19, 20] (by kernel_rfl)
    (fun f w' => Box (∃ k : Nat, k ≤ ps.length ∧ f 8 = i64 k ∧ Nw w w')) (fun f _ => ps.length - (intOf (f 8)).toNat) ⟨0, Nat.zero_le _, rfl, Kp.refl _ _⟩ ?_
  rintro f w' ⟨k, hk, f8, hK⟩
  simp -dsimp [go_sem, f8]
  refine cond_d (fun hlt => ?_) (fun hlt => ?_)
  · have hlt : k < ps.length := by omega
    obtain ⟨vs, hvl, hrd, hoA, hi⟩ := id hr
    obtain ⟨B, d, hv, hrB, hoB, hd⟩ := hi k hlt
    obtain ⟨b, o, rfl, hcell⟩ := hrd k _ hv
    have hcell := hK.cell_some hcell fun h => h
    simp -dsimp [go_sem, f8, hlt, hcell]
    refine call (wNums_nil _ _ _ _) ?_
    rintro v w2 ⟨rfl, rfl⟩
    simp -dsimp [go_sem]
    refine call (wRaw_nil _ _ _ _) ?_
    rintro v w3 ⟨rfl, rfl⟩
    have hk1 : IntKind.i64.wrap ((k : Int) + 1) = ((k + 1 : Nat) : Int) := w64 (by omega) (by omega)
    obtain ⟨k1, hk1'⟩ : ∃ k1, k1 = k + 1 := ⟨_, rfl⟩
    rw [← hk1'] at hk1
    simp -dsimp [go_sem, f8, hk1]
    exact ⟨⟨k1, by omega, rfl, hK.alloc _⟩, by simp [intOf]; omega⟩
  · simp -dsimp [go_sem]
    exact hK

theorem bad_nil (w : World) : Cal Try.prog 40 #[.pointer none] w fun v w' => v = .tuple #[] ∧ w = w' := by
  refine enter Try.mixed Try.func40 rfl (by kernel_rfl) ?_
  simp -dsimp [go_sem]
theorem num_nil (w : World) : Cal Try.prog 25 #[.pointer none] w fun v w' => v = i64 0 ∧ w = w' := by
  refine enter Try.mixed Try.func25 rfl (by kernel_rfl) ?_
  simp -dsimp [go_sem]
theorem rraw_nil (n : Int) (w : World) : Cal Try.prog 39 #[.pointer none, i64 n] w fun v w' => v = .slice none 0 0 ∧ w = w' := by
  refine enter Try.mixed Try.func39 rfl (by kernel_rfl) ?_
  simp -dsimp [go_sem]
  refine call (bad_nil _) ?_
  rintro v w3 ⟨rfl, rfl⟩
  simp -dsimp [go_sem]
theorem rbytes_nil (w : World) : Cal Try.prog 37 #[.pointer none] w fun v w' => v = .slice none 0 0 ∧ w = w' := by
  refine enter Try.mixed Try.func37 rfl (by kernel_rfl) ?_
  simp -dsimp [go_sem]
  refine call (num_nil _) ?_
  rintro v w3 ⟨rfl, rfl⟩
  simp -dsimp [go_sem]
  refine call (rraw_nil _ _) ?_
  rintro v w3 ⟨rfl, rfl⟩
  simp -dsimp [go_sem]
theorem left_nil (w : World) : Cal Try.prog 38 #[.pointer none] w fun v w' => v = i64 0 ∧ w = w' := by
  refine enter Try.mixed Try.func38 rfl (by kernel_rfl) ?_
  simp -dsimp [go_sem]
theorem good_nil (w : World) : Cal Try.prog 26 #[.pointer none] w fun v w' => v = .bool false ∧ w = w' := by
  refine enter Try.mixed Try.func26 rfl (by kernel_rfl) ?_
  simp -dsimp [go_sem]
theorem whole_nil (w : World) : Cal Try.prog 27 #[.pointer none] w fun v w' => v = .bool false ∧ w = w' := by
  refine enter Try.mixed Try.func27 rfl (by kernel_rfl) ?_
  simp -dsimp [go_sem]
  refine call (good_nil _) ?_
  rintro v w3 ⟨rfl, rfl⟩
  simp -dsimp [go_sem]
theorem rnums_nil (b : Nat) (w : World) (hb : w.cell? ⟨b, 0, none⟩ = some (.pointer none)) : Cal Try.prog 41 #[.pointer none, .slice (some ⟨b, 0, none⟩) 1 1] w fun v w' => v = .tuple #[] ∧ w = w' := by
  refine enter Try.mixed Try.func41 rfl (by kernel_rfl) ?_
  simp -dsimp [go_sem]
  refine loop [5, 6, 9, 10, 11, 12, 13, 14, 15, 16, 17, 18, 19, 20] (by kernel_rfl)
    (fun f w' => Box (∃ k : Nat, k ≤ 1 ∧ f 9 = i64 k ∧ w' = w)) (fun f _ => 1 - (intOf (f 9)).toNat) ⟨0, by omega, rfl, rfl⟩ ?_
  rintro f w' ⟨k, hk, f9, rfl⟩
  simp -dsimp [go_sem, f9]
  refine cond_d (fun hlt => ?_) (fun hlt => ?_)
  · obtain rfl : k = 0 := by omega
    simp -dsimp [go_sem, f9, hb]
    refine call (num_nil _) ?_
    rintro v w3 ⟨rfl, rfl⟩
    have e1 : IntKind.i64.wrap 1 = 1 := w64 (by omega) (by omega)
    simp -dsimp [go_sem, f9, e1]
    exact ⟨⟨1, by omega, rfl, rfl⟩, by simp [intOf]⟩
  · simp -dsimp [go_sem]

theorem nothing_law (v : Int) (l : List UInt8) (A : Option Addr) (c : Nat) (w : World) (hr : Rd w A (l.map u8)) (hc : l.length ≤ c) :
    Cal Try.prog 10 #[i64 v, .slice A l.length c] w fun u w' => u = .bool true ∧ Nw w w' := by
  refine enter Try.mixed Try.func10 rfl (by kernel_rfl) ?_
  simp -dsimp [go_sem]
  refine cond_d (fun hl => ?_) (fun hl => ?_)
  · simp -dsimp [go_sem]
    exact Kp.refl _ _
  · simp -dsimp [go_sem]
    have k0 : Nw w (w.alloc (.cells #[i64 v] 3)) := (Kp.refl _ _).alloc _
    refine call (wNums_nil _ _ _ _) ?_
    rintro u w1 ⟨rfl, rfl⟩
    simp -dsimp [go_sem]
    have k1 := k0.alloc (.cells #[.slice A l.length c] 34)
    refine call (wBytes_nil [l] _ 1 _ (Brs.one (p := l) (d := c) (Blk.fresh (by simp)) (fun h => h) (hr.nw k1) (fun _ _ h => h) hc) (by simp)) ?_
    rintro u w2 ⟨rfl, hk2⟩
    have k2 := k1.nw hk2
    simp -dsimp [go_sem]
    refine call (wRaw_nil _ _ _ _) ?_
    rintro u w1 ⟨rfl, rfl⟩
    simp -dsimp [go_sem]
    refine call (bad_nil _) ?_
    rintro u w1 ⟨rfl, rfl⟩
    simp -dsimp [go_sem]
    have hb0 := (Blk.new w2 69 #[.pointer none]).cell 0
    refine call (rnums_nil _ _ hb0) ?_
    rintro u w1 ⟨rfl, rfl⟩
    have k3 := k2.alloc (.cells #[.pointer none] 69)
    simp -dsimp [go_sem]
    refine call (wOut_nil _) ?_
    rintro u w1 ⟨rfl, rfl⟩
    simp -dsimp [go_sem]
    refine call (num_nil _) ?_
    rintro u w1 ⟨rfl, rfl⟩
    simp -dsimp [go_sem]
    refine call (rbytes_nil _) ?_
    rintro u w1 ⟨rfl, rfl⟩
    simp -dsimp [go_sem]
    refine call (rraw_nil _ _) ?_
    rintro u w1 ⟨rfl, rfl⟩
    simp -dsimp [go_sem]
    refine call (left_nil _) ?_
    rintro u w1 ⟨rfl, rfl⟩
    have e0 : IntKind.i64.wrap 0 = 0 := w64 (by omega) (by omega)
    simp -dsimp [go_sem, e0]
    refine call (good_nil _) ?_
    rintro u w1 ⟨rfl, rfl⟩
    simp -dsimp [go_sem]
    refine call (whole_nil _) ?_
    rintro u w1 ⟨rfl, rfl⟩
    simp -dsimp [go_sem]
    refine call (known_spec _) ?_
    rintro u w1 ⟨rfl, hk⟩
    simp -dsimp [go_sem]
    exact k3.nw hk
end Go.Proofs.Ytigakpfdahjkdaa
