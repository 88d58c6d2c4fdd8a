/-
  What disk's statements' own small functions come to; DiskKeeps walked. By the session itself.
-/
import Derived.Test.YthonmjgagblogaaDkE
import Derived.Test.YthonmjgagblogaaTx
namespace Go.Proofs.Ythonmjgagblogaa
set_option linter.unusedSimpArgs false
set_option linter.unusedVariables false
set_option maxRecDepth 100000
set_option maxHeartbeats 1000000
open Go.Vc Go.RowKit

theorem dsame_spec (A B : Option Addr) (c d : Nat) (xs ys : List UInt8) (w : World) (hx : Rd w A (xs.map u8)) (hy : Rd w B (ys.map u8)) (hl : xs.length ≤ 140737488355328) :
    Cal Try.prog 49 #[.slice A xs.length c, .slice B ys.length d] w fun v w' => v = .bool (decide (xs = ys)) ∧ Nw w w' := by
  refine enter Try.mixed Try.func49 rfl (by kernel_rfl) ?_
  simp -dsimp [go_sem]
  refine cond_n (fun h => ?_) (fun h => ?_)
  · simp -dsimp [go_sem]
    refine ⟨?_, Kp.refl _ _⟩
    rintro rfl; exact h rfl
  · have hlen : xs.length = ys.length := by omega
    simp -dsimp [go_sem]
    refine loop [4, 5, 11, 12, 13, 14, 15, 16, 17, 18, 19, 20, 21, 22, 23, 24, 25] (by kernel_rfl) (fun f w' => Box1 (fun a w' => ∃ k : Nat, k ≤ xs.length ∧ a = i64 k ∧ xs.take k = ys.take k ∧ w'.heap = w.heap ∧ Nw w w') (f 5) w')
      (fun f _ => xs.length - (intOf (f 5)).toNat) ⟨0, Nat.zero_le _, rfl, by simp, rfl, Kp.refl _ _⟩ ?_
    rintro f w' ⟨k, hk, f5, ht, hh, hK⟩
    simp -dsimp [go_sem, f5]
    refine cond_d (fun hlt => ?_) (fun hlt => ?_)
    · have hlt : k < xs.length := by omega
      obtain ⟨b, o, rfl, hc⟩ := hx k (u8 xs[k]) (by simp [hlt])
      have hlt' : k < ys.length := by omega
      obtain ⟨b', o', rfl, hc'⟩ := hy k (u8 ys[k]) (by simp [hlt'])
      simp -dsimp [go_sem]
      refine draw (.take 0 (.take 1 (.take 2 (.take 3 (.take 4 (.take 5 (.take 6 (.take 7 (.take 8 .done))))))))) (by kernel_rfl) (fun w1 => w1.heap = w.heap) hh ?_
      have hcell : ∀ w1 : World, w1.heap = w.heap → ∀ a, w1.cell? a = w.cell? a := fun w1 h a => by simp [World.cell?, h]
      simp -dsimp [go_sem, f5, hlt, hlt', hcell w' hh, hc, hc']
      refine ⟨fun w1 h1 => by simp [hcell w1 h1, hc], fun w1 h1 => by simp [hcell w1 h1, hc'], ?_⟩
      refine cond_n (fun hne => ?_) (fun he => ?_)
      · simp -dsimp [go_sem]
        exact ⟨fun e => hne (by simp [e]), hK.drew⟩
      · have hk1 : IntKind.i64.wrap ((k : Int) + 1) = ((k + 1 : Nat) : Int) := w64 (by omega) (by omega)
        obtain ⟨k1, hk1'⟩ : ∃ k1, k1 = k + 1 := ⟨_, rfl⟩
        rw [← hk1'] at hk1
        simp -dsimp [go_sem, f5, hk1]
        refine ⟨⟨k1, by omega, rfl, ?_, hh, hK.drew⟩, by simp [intOf]; omega⟩
        rw [hk1', List.take_succ_eq_append_getElem hlt, List.take_succ_eq_append_getElem hlt', ht]
        have : xs[k] = ys[k] := UInt8.toNat_inj.1 (by omega)
        rw [this]
    · obtain rfl : k = xs.length := by omega
      simp -dsimp [go_sem]
      refine ⟨?_, hK⟩
      rw [List.take_length, List.take_of_length_le (by omega)] at ht
      exact ht

theorem no_ofl1 (A : Option Addr) (vs : List Value) : Ofl A vs fun _ => False := fun _ _ _ h => h
theorem dknown_spec (w : World) : Cal Try.prog 11 #[] w fun v w' => v = .bool true ∧ Nw w w' := by
  have e1 : dAppend ⟨Int.toNat 100, [], none⟩ [97] ([[49, 50, 51, 52, 53]] : List (List UInt8)).flatten = (⟨100, [([97], ⟨[49, 50, 51, 52, 53], 0⟩)], none⟩, 0) := by rfl
  have e2 : dEach fSync ⟨100, [([97], ⟨[49, 50, 51, 52, 53], 0⟩)], none⟩ [[97]] = (⟨100, [([97], ⟨[49, 50, 51, 52, 53], 5⟩)], none⟩, 0) := by rfl
  have e3 : dAppend ⟨100, [([97], ⟨[49, 50, 51, 52, 53], 5⟩)], none⟩ [97] ([[54, 55, 56]] : List (List UInt8)).flatten = (⟨100, [([97], ⟨[49, 50, 51, 52, 53, 54, 55, 56], 5⟩)], none⟩, 0) := by rfl
  have e4 : dRead (dCrash ⟨100, [([97], ⟨[49, 50, 51, 52, 53, 54, 55, 56], 5⟩)], none⟩ 1) [97] = ([49, 50, 51, 52, 53, 54], 0) := by rfl
  refine enter Try.mixed Try.func11 rfl (by kernel_rfl) ?_
  simp -dsimp [go_sem]
  refine call (new_spec 100 w) ?_
  rintro v w1 (⟨h, _⟩ | ⟨_, _, g, F, rfl, hD, nF, hk1⟩)
  · omega
  simp -dsimp [go_sem]
  refine conv_const rfl rfl (Blk.new w1 _ _) ?_
  intro wc hkc hhc
  have kc : Nw w1 wc := Nw.at_ ((Kp.refl _ _).alloc _) hkc (Nf.at_ (Nat.le_refl _))
  simp -dsimp [go_sem]
  have kd := kc.alloc (.cells #[.slice (some ⟨(w1).heap.size, 0, none⟩) 5 5] 32)
  refine call (dappend_spec [97] [[49, 50, 51, 52, 53]] _ 1 _ _ _ (fun _ => False) _ (Dk.nw hD kd) (Brs.one (p := [49, 50, 51, 52, 53]) (d := 5) (Blk.fresh rfl) (fun h => h) ((Rd.of_heap hhc).nw ((Kp.refl _ _).alloc _)) (fun _ _ h => h) (Nat.le_refl _)) (by simp) (by simp) (by simp) (by simp)) ?_
  rintro v w2 ⟨rfl, Fh2, h2, hGh2, k2⟩
  rw [e1] at h2 ⊢
  have nw2 : Nw w w2 := Nw.at_ (hk1.nw kd) k2 nF
  have nF2 := nF.gr hGh2 (hk1.nw kd).size
  simp -dsimp [go_sem]
  have ka : Nw w2 (w2.alloc (.cells #[str [97]] 9)) := (Kp.refl _ _).alloc _
  refine call (dsync_spec [[97]] _ 1 g _ _ _ (h2.nw ka) (Rd.fresh rfl rfl) (h2.ofl_new (Nat.le_refl _) _) (by simp) (by simp)) ?_
  rintro v w3 ⟨rfl, F3, h3, hG3, k3⟩
  rw [e2] at h3 ⊢
  have nw3 : Nw w w3 := Nw.at_ (nw2.nw ka) k3 nF2
  have nF3 := nF2.gr hG3 (nw2.nw ka).size
  simp -dsimp [go_sem]
  refine conv_const rfl rfl (Blk.new w3 _ _) ?_
  intro wc hkc hhc
  have kc : Nw w3 wc := Nw.at_ ((Kp.refl _ _).alloc _) hkc (Nf.at_ (Nat.le_refl _))
  simp -dsimp [go_sem]
  have kd := kc.alloc (.cells #[.slice (some ⟨(w3).heap.size, 0, none⟩) 3 3] 32)
  refine call (dappend_spec [97] [[54, 55, 56]] _ 1 _ _ _ (fun _ => False) _ (Dk.nw h3 kd) (Brs.one (p := [54, 55, 56]) (d := 3) (Blk.fresh rfl) (fun h => h) ((Rd.of_heap hhc).nw ((Kp.refl _ _).alloc _)) (fun _ _ h => h) (Nat.le_refl _)) (by simp) (by simp) (by simp) (by simp)) ?_
  rintro v w4 ⟨rfl, Fh4, h4, hGh4, k4⟩
  rw [e3] at h4 ⊢
  have nw4 : Nw w w4 := Nw.at_ (nw3.nw kd) k4 nF3
  have nF4 := nF3.gr hGh4 (nw3.nw kd).size
  simp -dsimp [go_sem]
  refine call (dcrash_spec 1 g _ _ w4 h4) ?_
  rintro v w5 ⟨rfl, h5, k5⟩
  have nw5 : Nw w w5 := Nw.at_ nw4 k5 nF4
  simp -dsimp [go_sem]
  refine call (dread_spec [97] g _ _ w5 h5) ?_
  rintro v w6 ⟨k6, u, rfl, hB⟩
  rw [e4] at hB ⊢
  obtain ⟨A6, c6, rfl, ho6, hA6⟩ := hB
  have nw6 := nw5.nw k6
  simp -dsimp [go_sem]
  refine conv_const rfl rfl (Blk.new w6 _ _) ?_
  intro w7 hk7 hh7
  have k67 : Nw w6 w7 := Nw.at_ ((Kp.refl _ _).alloc _) hk7 (Nf.at_ (Nat.le_refl _))
  simp -dsimp [go_sem]
  refine call (dsame_spec A6 (some ⟨w6.heap.size, 0, none⟩) c6 6 [49, 50, 51, 52, 53, 54] [49, 50, 51, 52, 53, 54] w7 (ho6.rd.nw k67) (Rd.of_heap hh7) (by simp)) ?_
  rintro v w8 ⟨rfl, hk8⟩
  simp -dsimp [go_sem]
  exact (nw6.nw k67).nw hk8
theorem mayL_none {R : Nat} {fs : List (Nm × Fil)} {s : Nm} (hs : badN s = false) : mayL ⟨R, fs, none⟩ [s] = 0 := by simp [mayL, hs]
theorem dApp0 {R : Nat} {s : Nm} {b : List UInt8} (hs : badN s = false) (h : b.length ≤ R) : dAppend ⟨R, [], none⟩ s b = (⟨R, [(s, ⟨b, 0⟩)], none⟩, 0) := by
  unfold dAppend
  rw [mayL_none hs, if_neg (fun h => h rfl), if_neg (by simp [Dsk.used, sumv, tLook]; omega)]
  simp [tLook, tLay, Dsk.done, Fil.none]
theorem dApp1 {R : Nat} {s : Nm} {a b : List UInt8} {l : Nat} (hs : badN s = false) (h : a.length + b.length ≤ R) : dAppend ⟨R, [(s, ⟨a, l⟩)], none⟩ s b = (⟨R, [(s, ⟨a ++ b, l⟩)], none⟩, 0) := by
  unfold dAppend
  rw [mayL_none hs, if_neg (fun h => h rfl), if_neg (by simp [Dsk.used, sumv, tLook]; omega)]
  simp [tLook, tLay, Dsk.done, Fil.none, nm_lt_irrefl]
theorem dSync1 {R : Nat} {s : Nm} {a : List UInt8} {l : Nat} (hs : badN s = false) : dEach fSync ⟨R, [(s, ⟨a, l⟩)], none⟩ [s] = (⟨R, [(s, ⟨a, a.length⟩)], none⟩, 0) := by
  simp [dEach, dStep, mayL_none hs, tLook, fSync, tLay, nm_lt_irrefl, Dsk.done]
theorem dCrash1 {R : Nat} {s : Nm} {a : List UInt8} {l : Nat} {o : Option Nat} {n : Int} : dCrash ⟨R, [(s, ⟨a, l⟩)], o⟩ n = ⟨R, [(s, cutF n.toNat ⟨a, l⟩)], none⟩ := rfl
/-- One file, once something was laid. -/
def fsK (s : Nm) (a : List UInt8) (l i : Nat) : List (Nm × Fil) := if i = 0 then [] else [(s, ⟨a, l⟩)]
theorem appK {R : Nat} {s : Nm} {a b : List UInt8} {l i : Nat} (hs : badN s = false) (h0 : i = 0 → a = [] ∧ l = 0) (h : a.length + b.length ≤ R) : dAppend ⟨R, fsK s a l i, none⟩ s b = (⟨R, fsK s (a ++ b) l (i + 1), none⟩, 0) := by
  by_cases hi : i = 0
  · obtain ⟨rfl, rfl⟩ := h0 hi
    subst hi
    have h' : b.length ≤ R := by simpa using h
    simpa [fsK] using dApp0 hs h'
  · simp only [fsK, if_neg hi, if_neg (show ¬ i + 1 = 0 by omega)]
    exact dApp1 hs h
theorem bad102 : badN [102] = false := by decide
end Go.Proofs.Ythonmjgagblogaa
