/-
  What disk's statements' own small functions come to; DiskKeeps walked. By the session itself.
-/
import Derived.Test.YthdeedimdabjfaaDkE
namespace Go.Proofs.Ythdeedimdabjfaa
set_option linter.unusedSimpArgs false
set_option linter.unusedVariables false
set_option maxRecDepth 100000
set_option maxHeartbeats 1000000
open Go.Vc Go.RowKit

theorem dsame_spec (A B : Option Addr) (c d : Nat) (xs ys : List UInt8) (w : World) (hx : Rd w A (xs.map u8)) (hy : Rd w B (ys.map u8)) (hl : xs.length ≤ 140737488355328) :
    Cal Try.prog 20 #[.slice A xs.length c, .slice B ys.length d] w fun v w' => v = .bool (decide (xs = ys)) ∧ Nw w w' := by
  refine enter Try.mixed Try.func20 rfl (by kernel_rfl) ?_
  simp -dsimp [go_sem]
  refine cond_n (fun h => ?_) (fun h => ?_)
  · simp -dsimp [go_sem]
    refine ⟨?_, Kp.refl _ _⟩
    rintro rfl; exact h rfl
  · have hlen : xs.length = ys.length := by omega
    simp -dsimp [go_sem]
    refine loop [4, 5, 11, 12, 13, 14, 15, 16, 17, 18, 19, 20, 21, 22, 23, 24, 25] (by kernel_rfl) (fun f w' => Box1 (fun a w' => ∃ k : Nat, k ≤ xs.length ∧ a = i64 k ∧ xs.take k = ys.take k ∧ w'.heap = w.heap ∧ Nw w w') (f 5) w')
      (fun f _ => xs.length - (intOf (f 5)).toNat) ⟨0, Nat.zero_le _, rfl, by simp, rfl, Kp.refl _ _⟩ ?_
    rintro f w' ⟨k, hk, f5, ht, hh, hK⟩
    simp -dsimp [go_sem, f5]
    refine cond_d (fun hlt => ?_) (fun hlt => ?_)
    · have hlt : k < xs.length := by omega
      obtain ⟨b, o, rfl, hc⟩ := hx k (u8 xs[k]) (by simp [hlt])
      have hlt' : k < ys.length := by omega
      obtain ⟨b', o', rfl, hc'⟩ := hy k (u8 ys[k]) (by simp [hlt'])
      simp -dsimp [go_sem]
      refine draw (.take 0 (.take 1 (.take 2 (.take 3 (.take 4 (.take 5 (.take 6 (.take 7 (.take 8 .done))))))))) (by kernel_rfl) (fun w1 => w1.heap = w.heap) hh ?_
      have hcell : ∀ w1 : World, w1.heap = w.heap → ∀ a, w1.cell? a = w.cell? a := fun w1 h a => by simp [World.cell?, h]
      simp -dsimp [go_sem, f5, hlt, hlt', hcell w' hh, hc, hc']
      refine ⟨fun w1 h1 => by simp [hcell w1 h1, hc], fun w1 h1 => by simp [hcell w1 h1, hc'], ?_⟩
      refine cond_n (fun hne => ?_) (fun he => ?_)
      · simp -dsimp [go_sem]
        exact ⟨fun e => hne (by simp [e]), hK.drew⟩
      · have hk1 : IntKind.i64.wrap ((k : Int) + 1) = ((k + 1 : Nat) : Int) := w64 (by omega) (by omega)
        obtain ⟨k1, hk1'⟩ : ∃ k1, k1 = k + 1 := ⟨_, rfl⟩
        rw [← hk1'] at hk1
        simp -dsimp [go_sem, f5, hk1]
        refine ⟨⟨k1, by omega, rfl, ?_, hh, hK.drew⟩, by simp [intOf]; omega⟩
        rw [hk1', List.take_succ_eq_append_getElem hlt, List.take_succ_eq_append_getElem hlt', ht]
        have : xs[k] = ys[k] := UInt8.toNat_inj.1 (by omega)
        rw [this]
    · obtain rfl : k = xs.length := by omega
      simp -dsimp [go_sem]
      refine ⟨?_, hK⟩
      rw [List.take_length, List.take_of_length_le (by omega)] at ht
      exact ht

theorem no_ofl1 (A : Option Addr) (vs : List Value) : Ofl A vs fun _ => False := fun _ _ _ h => h
theorem Dk.ofl_new {w : World} {g : Nat} {D : Dsk} {F : Nat → Prop} (h : Dk w g D F) {b : Nat} (hb : w.heap.size ≤ b) (xs : List Value) : Ofl (some ⟨b, 0, none⟩) xs F := fun a ha _ hf => by
  cases ha
  have := h.lt b hf
  omega
theorem dknown_spec (w : World) : Cal Try.prog 14 #[] w fun v w' => v = .bool true ∧ Nw w w' := by
  have e1 : dAppend ⟨Int.toNat 100, [], none⟩ [97] ([[49, 50, 51, 52, 53]] : List (List UInt8)).flatten = (⟨100, [([97], ⟨[49, 50, 51, 52, 53], 0⟩)], none⟩, 0) := by rfl
  have e2 : dEach fSync ⟨100, [([97], ⟨[49, 50, 51, 52, 53], 0⟩)], none⟩ [[97]] = (⟨100, [([97], ⟨[49, 50, 51, 52, 53], 5⟩)], none⟩, 0) := by rfl
  have e3 : dAppend ⟨100, [([97], ⟨[49, 50, 51, 52, 53], 5⟩)], none⟩ [97] ([[54, 55, 56]] : List (List UInt8)).flatten = (⟨100, [([97], ⟨[49, 50, 51, 52, 53, 54, 55, 56], 5⟩)], none⟩, 0) := by rfl
  have e4 : dRead (dCrash ⟨100, [([97], ⟨[49, 50, 51, 52, 53, 54, 55, 56], 5⟩)], none⟩ 1) [97] = ([49, 50, 51, 52, 53, 54], 0) := by rfl
  refine enter Try.mixed Try.func14 rfl (by kernel_rfl) ?_
  simp -dsimp [go_sem]
  refine call (new_spec 100 w) ?_
  rintro v w1 (⟨h, _⟩ | ⟨_, _, g, F, rfl, hD, nF, hk1⟩)
  · omega
  simp -dsimp [go_sem]
  refine conv_const rfl rfl (Blk.new w1 _ _) ?_
  intro wc hkc hhc
  have kc : Nw w1 wc := Nw.at_ ((Kp.refl _ _).alloc _) hkc (Nf.at_ (Nat.le_refl _))
  simp -dsimp [go_sem]
  have kd := kc.alloc (.cells #[.slice (some ⟨(w1).heap.size, 0, none⟩) 5 5] 23)
  refine call (dappend_spec [97] [[49, 50, 51, 52, 53]] _ 1 _ _ _ (fun _ => False) _ (Dk.nw hD kd) (Brs.one (p := [49, 50, 51, 52, 53]) (d := 5) (Blk.fresh rfl) (fun h => h) ((Rd.of_heap hhc).nw ((Kp.refl _ _).alloc _)) (fun _ _ h => h) (Nat.le_refl _)) (by simp) (by simp) (by simp) (by simp)) ?_
  rintro v w2 ⟨rfl, Fh2, h2, hGh2, k2⟩
  rw [e1] at h2 ⊢
  have nw2 : Nw w w2 := Nw.at_ (hk1.nw kd) k2 nF
  have nF2 := nF.gr hGh2 (hk1.nw kd).size
  simp -dsimp [go_sem]
  have ka : Nw w2 (w2.alloc (.cells #[str [97]] 9)) := (Kp.refl _ _).alloc _
  refine call (dsync_spec [[97]] _ 1 g _ _ _ (h2.nw ka) (Rd.fresh rfl rfl) (h2.ofl_new (Nat.le_refl _) _) (by simp) (by simp)) ?_
  rintro v w3 ⟨rfl, F3, h3, hG3, k3⟩
  rw [e2] at h3 ⊢
  have nw3 : Nw w w3 := Nw.at_ (nw2.nw ka) k3 nF2
  have nF3 := nF2.gr hG3 (nw2.nw ka).size
  simp -dsimp [go_sem]
  refine conv_const rfl rfl (Blk.new w3 _ _) ?_
  intro wc hkc hhc
  have kc : Nw w3 wc := Nw.at_ ((Kp.refl _ _).alloc _) hkc (Nf.at_ (Nat.le_refl _))
  simp -dsimp [go_sem]
  have kd := kc.alloc (.cells #[.slice (some ⟨(w3).heap.size, 0, none⟩) 3 3] 23)
  refine call (dappend_spec [97] [[54, 55, 56]] _ 1 _ _ _ (fun _ => False) _ (Dk.nw h3 kd) (Brs.one (p := [54, 55, 56]) (d := 3) (Blk.fresh rfl) (fun h => h) ((Rd.of_heap hhc).nw ((Kp.refl _ _).alloc _)) (fun _ _ h => h) (Nat.le_refl _)) (by simp) (by simp) (by simp) (by simp)) ?_
  rintro v w4 ⟨rfl, Fh4, h4, hGh4, k4⟩
  rw [e3] at h4 ⊢
  have nw4 : Nw w w4 := Nw.at_ (nw3.nw kd) k4 nF3
  have nF4 := nF3.gr hGh4 (nw3.nw kd).size
  simp -dsimp [go_sem]
  refine call (dcrash_spec 1 g _ _ w4 h4) ?_
  rintro v w5 ⟨rfl, h5, k5⟩
  have nw5 : Nw w w5 := Nw.at_ nw4 k5 nF4
  simp -dsimp [go_sem]
  refine call (dread_spec [97] g _ _ w5 h5) ?_
  rintro v w6 ⟨k6, u, rfl, hB⟩
  rw [e4] at hB ⊢
  obtain ⟨A6, c6, rfl, ho6, hA6⟩ := hB
  have nw6 := nw5.nw k6
  simp -dsimp [go_sem]
  refine conv_const rfl rfl (Blk.new w6 _ _) ?_
  intro w7 hk7 hh7
  have k67 : Nw w6 w7 := Nw.at_ ((Kp.refl _ _).alloc _) hk7 (Nf.at_ (Nat.le_refl _))
  simp -dsimp [go_sem]
  refine call (dsame_spec A6 (some ⟨w6.heap.size, 0, none⟩) c6 6 [49, 50, 51, 52, 53, 54] [49, 50, 51, 52, 53, 54] w7 (ho6.rd.nw k67) (Rd.of_heap hh7) (by simp)) ?_
  rintro v w8 ⟨rfl, hk8⟩
  simp -dsimp [go_sem]
  exact (nw6.nw k67).nw hk8
/-- All rows' bytes, and one more of each. -/
def wei1 (ps : List (List UInt8)) : Nat := (ps.map fun p => p.length + 1).sum
theorem wei1_at (ps : List (List UInt8)) (i : Nat) (h : i < ps.length) : wei1 (ps.take (i + 1)) = wei1 (ps.take i) + ps[i].length + 1 := by
  unfold wei1
  rw [List.take_succ_eq_append_getElem h, List.map_append, List.sum_append]
  simp; omega
theorem wei1_ge (ps : List (List UInt8)) : ps.flatten.length + ps.length = wei1 ps := by
  unfold wei1
  induction ps with
  | nil => rfl
  | cons p ps ih => simp only [List.flatten_cons, List.length_append, List.length_cons, List.map_cons, List.sum_cons]; omega

theorem mayL_none {R : Nat} {fs : List (Nm × Fil)} {s : Nm} (hs : badN s = false) : mayL ⟨R, fs, none⟩ [s] = 0 := by simp [mayL, hs]
theorem dApp0 {R : Nat} {s : Nm} {b : List UInt8} (hs : badN s = false) (h : b.length ≤ R) : dAppend ⟨R, [], none⟩ s b = (⟨R, [(s, ⟨b, 0⟩)], none⟩, 0) := by
  unfold dAppend
  rw [mayL_none hs, if_neg (fun h => h rfl), if_neg (by simp [Dsk.used, sumv, tLook]; omega)]
  simp [tLook, tLay, Dsk.done, Fil.none]
theorem dApp1 {R : Nat} {s : Nm} {a b : List UInt8} {l : Nat} (hs : badN s = false) (h : a.length + b.length ≤ R) : dAppend ⟨R, [(s, ⟨a, l⟩)], none⟩ s b = (⟨R, [(s, ⟨a ++ b, l⟩)], none⟩, 0) := by
  unfold dAppend
  rw [mayL_none hs, if_neg (fun h => h rfl), if_neg (by simp [Dsk.used, sumv, tLook]; omega)]
  simp [tLook, tLay, Dsk.done, Fil.none, nm_lt_irrefl]
theorem dSync1 {R : Nat} {s : Nm} {a : List UInt8} {l : Nat} (hs : badN s = false) : dEach fSync ⟨R, [(s, ⟨a, l⟩)], none⟩ [s] = (⟨R, [(s, ⟨a, a.length⟩)], none⟩, 0) := by
  simp [dEach, dStep, mayL_none hs, tLook, fSync, tLay, nm_lt_irrefl, Dsk.done]
theorem dCrash1 {R : Nat} {s : Nm} {a : List UInt8} {l : Nat} {o : Option Nat} {n : Int} : dCrash ⟨R, [(s, ⟨a, l⟩)], o⟩ n = ⟨R, [(s, cutF n.toNat ⟨a, l⟩)], none⟩ := rfl
/-- One file, once something was laid. -/
def fsK (s : Nm) (a : List UInt8) (l i : Nat) : List (Nm × Fil) := if i = 0 then [] else [(s, ⟨a, l⟩)]
theorem appK {R : Nat} {s : Nm} {a b : List UInt8} {l i : Nat} (hs : badN s = false) (h0 : i = 0 → a = [] ∧ l = 0) (h : a.length + b.length ≤ R) : dAppend ⟨R, fsK s a l i, none⟩ s b = (⟨R, fsK s (a ++ b) l (i + 1), none⟩, 0) := by
  by_cases hi : i = 0
  · obtain ⟨rfl, rfl⟩ := h0 hi
    subst hi
    have h' : b.length ≤ R := by simpa using h
    simpa [fsK] using dApp0 hs h'
  · simp only [fsK, if_neg hi, if_neg (show ¬ i + 1 = 0 by omega)]
    exact dApp1 hs h
theorem bad102 : badN [102] = false := by decide

theorem dkeeps_law (ps : List (List UInt8)) (sy dr : Int) (A : Option Addr) (c : Nat) (w : World) (hr : Brs w A ps fun _ => False) (hc : ps.length ≤ c) (hm : ∀ p ∈ ps, p.length ≤ 140737488355328) :
    Cal Try.prog 3 #[.slice A ps.length c, i64 sy, i64 dr] w fun v w' => v = .bool true ∧ Nw w w' := by
  refine enter Try.mixed Try.func3 rfl (by kernel_rfl) ?_
  simp -dsimp [go_sem]
  refine loopx 0 [7, 8, 16, 17, 18, 19, 20, 21, 22, 23, 24, 25, 26, 27, 28, 29, 30, 31, 32, 33] (by kernel_rfl)
    (fun f w' => Box2 (fun a b w' => ∃ (i n : Nat), i ≤ ps.length ∧ b = i64 i ∧ a = i64 n ∧ n = wei1 (ps.take i) ∧ (i ≠ 0 → wei1 (ps.take (i - 1)) ≤ 8000) ∧ w' = w) (f 7) (f 8) w') (fun f _ => ps.length - (intOf (f 8)).toNat)
    (fun f w' => Box1 (fun a w' => ∃ n : Nat, a = i64 n ∧ (n ≤ 8000 → n = wei1 ps) ∧ w' = w) (f 7) w') ⟨0, 0, Nat.zero_le _, rfl, rfl, rfl, by simp, rfl⟩ ?_ ?_
  · rintro f w' ⟨i, n, hi, fi, fn, hn, h8, rfl⟩
    by_cases hlt : i < ps.length
    · by_cases hn8 : n ≤ 8000
      · have hn8' : (n : Int) ≤ 8000 := by omega
        obtain ⟨vs, hvl, hrd, hoA, hi'⟩ := id hr
        obtain ⟨X, x, hv, hrX, hoX, hx⟩ := hi' i hlt
        obtain ⟨b, o, rfl, hcell⟩ := hrd i _ hv
        have hlen := hm ps[i] (List.getElem_mem hlt)
        have hat := wei1_at ps i hlt
        have h1 : IntKind.i64.wrap ((n : Int) + 1) = ((n + 1 : Nat) : Int) := w64 (by omega) (by omega)
        obtain ⟨n1, hn1⟩ : ∃ n1, n1 = n + 1 := ⟨_, rfl⟩
        have h2 : IntKind.i64.wrap ((n1 : Int) + (ps[i].length : Int)) = ((n1 + ps[i].length : Nat) : Int) := w64 (by omega) (by omega)
        obtain ⟨n2, hn2⟩ : ∃ n2, n2 = n1 + ps[i].length := ⟨_, rfl⟩
        have hge := wei1_ge (ps.take i)
        rw [List.length_take, Nat.min_eq_left (by omega)] at hge
        have hk1 : IntKind.i64.wrap ((i : Int) + 1) = ((i + 1 : Nat) : Int) := w64 (by omega) (by omega)
        obtain ⟨k1, hk1'⟩ : ∃ k1, k1 = i + 1 := ⟨_, rfl⟩
        rw [← hn1] at h1
        rw [← hn2] at h2
        rw [← hk1'] at hk1 hat
        simp -dsimp [go_sem, fn, fi, hlt, hn8, hn8', hcell, h1, h2, hk1]
        refine ⟨⟨k1, n2, by omega, rfl, rfl, by omega, fun _ => by rw [show k1 - 1 = i by omega]; omega, rfl⟩, by simp [intOf]; omega⟩
      · have hn8' : ¬ (n : Int) ≤ 8000 := by omega
        simp -dsimp [go_sem, fn, fi, hlt, hn8, hn8']
        exact ⟨n, rfl, fun h => absurd h hn8, rfl⟩
    · obtain rfl : i = ps.length := by omega
      rw [List.take_length] at hn
      simp -dsimp [go_sem, fn, fi, hlt]
      exact ⟨n, rfl, fun _ => hn, rfl⟩
  rintro f w' ⟨n, f7, hnw, rfl⟩
  simp -dsimp [go_sem, f7]
  refine cond_d (fun h8 => ?_) (fun h8 => ?_)
  · simp -dsimp [go_sem]
    refine call (dknown_spec w') ?_
    rintro v w1 ⟨rfl, hk1⟩
    simp -dsimp [go_sem]
    exact hk1
  · have hw8 : wei1 ps ≤ 8000 := by have := hnw (by omega); omega
    have hge := wei1_ge ps
    simp -dsimp [go_sem]
    refine call (new_spec 1048576 w') ?_
    rintro v w1 (⟨h, _⟩ | ⟨_, _, g, F, rfl, hD, nF, hk1⟩)
    · omega
    simp -dsimp [go_sem]
    refine loop [6, 11, 12, 13, 47, 48, 49, 50, 51, 52, 53, 54, 55, 56, 57, 58, 59, 60, 61, 62, 63, 64, 65, 66, 67, 68, 69, 70, 71, 72, 73, 74, 75, 76] (by kernel_rfl)
      (fun f w2 => Box3 (fun a b d w2 => ∃ (i sl : Nat) (F G : Nat → Prop) (B : Option Addr) (e : Nat), i ≤ ps.length ∧ d = i64 i ∧ (i = 0 → sl = 0) ∧ sl ≤ (ps.take i).flatten.length ∧ Dk w2 g ⟨1048576, fsK [102] (ps.take i).flatten sl i, none⟩ F ∧ Bf w2 a (ps.take i).flatten G ∧ b = .slice B sl e ∧ (∀ j, F j → ¬ G j) ∧ Nf w' F ∧ Nf w' G ∧ Nw w' w2) (f 11) (f 12) (f 13) w2)
      (fun f _ => ps.length - (intOf (f 13)).toNat) ⟨0, 0, F, fun _ => False, none, 0, Nat.zero_le _, rfl, fun _ => rfl, by simp, by simpa [fsK] using hD, Bf.nil _, rfl, fun _ _ h => h, nF, fun _ h => h.elim, hk1⟩ ?_
    rintro f w2 ⟨i, sl, F, G, B, e, hi, f13, h0, hsl, hD, hBf, f12, dFG, nF, nG, hK⟩
    obtain ⟨A5, c5, f11, ho5, h51, h52⟩ := id hBf
    have hft := flat_take ps i
    simp -dsimp [go_sem, f13]
    refine cond_d (fun hlt => ?_) (fun hlt => ?_)
    · have hlt : i < ps.length := by omega
      obtain ⟨vs, hvl, hrd, hoA, hi'⟩ := id hr
      obtain ⟨X, x, hv, hrX, hoX, hx⟩ := hi' i hlt
      obtain ⟨b, o, rfl, hcell0⟩ := hrd i _ hv
      have hcell := hK.cell_some hcell0 fun h => h
      have hat := flat_at ps i hlt
      have hft1 := flat_take ps (i + 1)
      have happ := appK (R := 1048576) (s := [102]) (a := (ps.take i).flatten) (b := ps[i]) (l := sl) (i := i) bad102 (fun h => ⟨by rw [h]; rfl, h0 h⟩) (by rw [hat, List.length_append] at hft1; omega)
      rw [← hat] at happ
      have hft2 := congrArg List.length hat
      rw [List.length_append] at hft2
      obtain ⟨p, hp⟩ : ∃ p, p = ps[i] := ⟨_, rfl⟩
      rw [← hp] at hcell0 hcell hrX hx hat happ hft2
      simp -dsimp [go_sem, f13, hlt, hcell]
      have ka : Nw w2 (w2.alloc (.cells #[.slice X p.length x] 23)) := (Kp.refl _ _).alloc _
      refine call (dappend_spec [102] [p] _ 1 g _ F (fun _ => False) _ (hD.nw ka) (Brs.one (p := p) (d := x) (Blk.fresh rfl) (fun h => h) (hrX.nw (hK.nw ka)) (fun _ _ h => h) hx) (by simp) (by simp) (by simp; omega) (by simp)) ?_
      have hfl : ([p] : List (List UInt8)).flatten = p := by simp
      rw [hfl, happ]
      rintro v w3 ⟨rfl, F3, hD3, hG3, hK3⟩
      have nw3 : Nw w' w3 := Nw.at_ (hK.nw ka) hK3 nF
      have nF3 := nF.gr hG3 (hK.nw ka).size
      have hB3 := (hBf.nw ka).kp hK3 fun j hg hf => dFG j hf hg
      have dF3 : ∀ j, F3 j → ¬ G j := Gr.dj hG3 dFG (hBf.nw ka).lt
      have hrX3 := hrX.nw nw3
      have hcell3 := nw3.cell_some hcell0 fun h => h
      have hk1 : IntKind.i64.wrap ((i : Int) + 1) = ((i + 1 : Nat) : Int) := w64 (by omega) (by omega)
      obtain ⟨n, hn⟩ : ∃ n, n = (ps.take i).flatten.length := ⟨_, rfl⟩
      rw [← hn] at f11
      simp -dsimp [go_sem, f11, f13, hlt, hcell3]
      refine bf_app (l := (ps.take i).flatten) (v := .slice A5 n c5) (by rw [← f11]; exact hB3) hrX3 (by omega) ?_
      intro v4 w4 G4 hB4 hG4 hK4
      rw [← hat] at hB4
      have nw4 : Nw w' w4 := Nw.at_ nw3 hK4 nG
      have nG4 := nG.gr hG4 nw3.size
      have hD4 := hD3.kp hK4 dF3
      have dF4 : ∀ j, F3 j → ¬ G4 j := fun j hf hg => Gr.dj hG4 (fun j hg hf => dF3 j hf hg) hD3.lt j hg hf
      by_cases hsy : (i : Int) < sy
      · simp -dsimp [go_sem, f13, hsy]
        have kb : Nw w4 (w4.alloc (.cells #[str [102]] 9)) := (Kp.refl _ _).alloc _
        refine call (dsync_spec [[102]] _ 1 g _ _ _ (hD4.nw kb) (Rd.fresh rfl rfl) (hD4.ofl_new (Nat.le_refl _) _) (by simp) (by simp)) ?_
        have hsyn : dEach fSync ⟨1048576, fsK [102] (ps.take (i + 1)).flatten sl (i + 1), none⟩ [[102]] = (⟨1048576, fsK [102] (ps.take (i + 1)).flatten (ps.take (i + 1)).flatten.length (i + 1), none⟩, 0) := by
          simp only [fsK, if_neg (show ¬ i + 1 = 0 by omega)]
          exact dSync1 bad102
        rw [hsyn]
        rintro v w5 ⟨rfl, F5, hD5, hG5, hK5⟩
        have nw5 : Nw w' w5 := Nw.at_ (nw4.nw kb) hK5 nF3
        have nF5 := nF3.gr hG5 (nw4.nw kb).size
        have hB5 := (hB4.nw kb).kp hK5 fun j hg hf => dF4 j hf hg
        have dF5 : ∀ j, F5 j → ¬ G4 j := Gr.dj hG5 dF4 (hB4.nw kb).lt
        obtain ⟨A6, c6, rfl, ho6, h61, h62⟩ := id hB5
        obtain ⟨m, hm'⟩ : ∃ m, m = (ps.take (i + 1)).flatten.length := ⟨_, rfl⟩
        rw [← hm']
        simp -dsimp [go_sem, f13]
        refine bs_fresh (m := (ps.take (i + 1)).flatten) rfl hm' ho6.rd (by omega) ?_
        intro v7 w7 hB7 hk7
        obtain ⟨A7, c7, rfl, ho7, hA7⟩ := hB7
        rw [← hm'] at hB5 ⊢
        obtain ⟨k1, hk1'⟩ : ∃ k1, k1 = i + 1 := ⟨_, rfl⟩
        rw [← hk1'] at hk1 hD5 hB5 hm'
        simp -dsimp [go_sem, f13, hk1]
        exact ⟨⟨k1, m, F5, G4, A7, c7, by omega, rfl, fun h => by omega, by omega, by rw [hm']; exact hD5.nw hk7, hB5.nw hk7, rfl, dF5, nF5, nG4, nw5.nw hk7⟩, by simp [intOf]; omega⟩
      · obtain ⟨k1, hk1'⟩ : ∃ k1, k1 = i + 1 := ⟨_, rfl⟩
        rw [← hk1'] at hk1 hD4 hB4 hft2
        simp -dsimp [go_sem, f13, hsy, hk1]
        exact ⟨⟨k1, sl, F3, G4, B, e, by omega, rfl, fun h => by omega, by omega, hD4, hB4, f12, dF4, nF3, nG4, nw4⟩, by simp [intOf]; omega⟩
    · obtain rfl : i = ps.length := by omega
      rw [List.take_length] at hD hBf hsl ho5 f11
      simp -dsimp [go_sem]
      refine call (dcrash_spec dr g _ _ w2 hD) ?_
      rintro v w3 ⟨rfl, hD3, hK3⟩
      have nw3 : Nw w' w3 := Nw.at_ hK hK3 nF
      have hB3 := hBf.kp hK3 fun j hg hf => dFG j hf hg
      simp -dsimp [go_sem]
      refine call (dread_spec [102] g _ _ w3 hD3) ?_
      rintro v w4 ⟨hk4, u, rfl, hB4⟩
      have nw4 := nw3.nw hk4
      obtain ⟨all, hall⟩ : ∃ all, all = ps.flatten := ⟨_, rfl⟩
      rw [← hall] at hD hBf hsl ho5 f11 hB3 hB4 ⊢
      obtain ⟨n, hn⟩ : ∃ n, n = ps.length := ⟨_, rfl⟩
      rw [← hn] at hB4 h0 ⊢
      by_cases hn0 : n = 0
      · have e : dRead (dCrash ⟨1048576, fsK [102] all sl n, none⟩ dr) [102] = ([], 7) := by rw [hn0]; rfl
        have hn0' : ((n : Int) == 0) = true := by rw [beq_iff_eq]; omega
        rw [e]
        simp -dsimp [go_sem, hn0']
        refine call (dknown_spec w4) ?_
        rintro v w5 ⟨rfl, hk5⟩
        simp -dsimp [go_sem]
        exact nw4.nw hk5
      · have e : dRead (dCrash ⟨1048576, fsK [102] all sl n, none⟩ dr) [102] = ((cutF dr.toNat ⟨all, sl⟩).b, 0) := by
          simp [fsK, hn0, dCrash1, dRead, tLook]
        have hn0' : ((n : Int) == 0) = false := by rw [beq_eq_false_iff_ne]; omega
        have hcut := cutF_le dr.toNat (x := ⟨all, sl⟩) hsl
        have hcb : (cutF dr.toNat ⟨all, sl⟩).b = all.take (cutF dr.toNat ⟨all, sl⟩).l := rfl
        have hcl : sl ≤ (cutF dr.toNat ⟨all, sl⟩).l := Nat.le_add_right _ _
        obtain ⟨q, hq⟩ : ∃ q, q = (cutF dr.toNat ⟨all, sl⟩).l := ⟨_, rfl⟩
        rw [← hq] at hcut hcb hcl
        rw [e] at hB4 ⊢
        simp only at hB4
        rw [hcb] at hB4 hcut
        obtain ⟨A8, c8, rfl, ho8, hA8⟩ := hB4
        rw [hcut.2] at ho8 ⊢
        obtain ⟨A9, c9, e9, ho9, _⟩ := hB3.nw hk4
        have hqa : q ≤ all.length := hcut.1
        have hal : all.length ≤ 8000 := by rw [hall]; omega
        have hqc : q ≤ c9 := by have := ho9.2.1; omega
        have hqa' : (q : Int) ≤ (all.length : Int) := by omega
        have hqc' : (q : Int) ≤ (c9 : Int) := by omega
        have hslq : (sl : Int) ≤ (q : Int) := by omega
        simp -dsimp [go_sem, hn0', f12, e9, hqa, hqa', hqc, hqc', hslq, hcl]
        have hsm := dsame_spec A8 A9 c8 c9 (all.take q) (all.take q) w4 ho8.rd (by rw [List.map_take]; exact ho9.rd.take q) (by rw [List.length_take]; omega)
        rw [hcut.2] at hsm
        refine call hsm ?_
        rintro v w5 ⟨rfl, hk5⟩
        simp -dsimp [go_sem]
        refine call (dknown_spec w5) ?_
        rintro v w6 ⟨rfl, hk6⟩
        simp -dsimp [go_sem]
        exact (nw4.nw hk5).nw hk6
end Go.Proofs.Ythdeedimdabjfaa
