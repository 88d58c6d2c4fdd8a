/-
  DiskFuses walked: behind a burnt fuse nothing is done any more, till a crash. By the session itself.
-/
import Derived.Test.YthdeedimdabjfaaDkF
namespace Go.Proofs.Ythdeedimdabjfaa
set_option linter.unusedSimpArgs false
set_option linter.unusedVariables false
set_option maxRecDepth 100000
set_option maxHeartbeats 1000000
open Go.Vc Go.RowKit

theorem mayL_some {R k : Nat} {fs : List (Nm × Fil)} {s : Nm} (hs : badN s = false) : mayL ⟨R, fs, some (k + 1)⟩ [s] = 0 := by simp [mayL, hs]
theorem mayL_burnt {R : Nat} {fs : List (Nm × Fil)} {ns : List Nm} : mayL ⟨R, fs, some 0⟩ ns = 9 := by simp [mayL]
theorem appKs {R k : Nat} {s : Nm} {a b : List UInt8} {l i : Nat} (hs : badN s = false) (h0 : i = 0 → a = [] ∧ l = 0) (h : a.length + b.length ≤ R) : dAppend ⟨R, fsK s a l i, some (k + 1)⟩ s b = (⟨R, fsK s (a ++ b) l (i + 1), some k⟩, 0) := by
  have e := appK (R := R) (b := b) hs h0 h
  unfold dAppend at e ⊢
  rw [mayL_none hs, if_neg (fun h => h rfl)] at e
  rw [mayL_some hs, if_neg (fun h => h rfl)]
  by_cases hc : (⟨R, fsK s a l i, none⟩ : Dsk).room < (⟨R, fsK s a l i, none⟩ : Dsk).used + b.length ∨ (tLook (⟨R, fsK s a l i, none⟩ : Dsk).fs s = .none ∧ 4096 ≤ (⟨R, fsK s a l i, none⟩ : Dsk).fs.length)
  · rw [if_pos hc] at e
    exact absurd (congrArg Prod.snd e) (by simp)
  · rw [if_neg hc] at e
    have hc' : ¬ ((⟨R, fsK s a l i, some (k + 1)⟩ : Dsk).room < (⟨R, fsK s a l i, some (k + 1)⟩ : Dsk).used + b.length ∨ (tLook (⟨R, fsK s a l i, some (k + 1)⟩ : Dsk).fs s = .none ∧ 4096 ≤ (⟨R, fsK s a l i, some (k + 1)⟩ : Dsk).fs.length)) := hc
    rw [if_neg hc']
    have e1 := congrArg (fun p : Dsk × Nat => p.1.fs) e
    simp only [Dsk.done] at e1 ⊢
    rw [e1]
    rfl
theorem dApp_burnt {R : Nat} {fs : List (Nm × Fil)} {s : Nm} {b : List UInt8} : dAppend ⟨R, fs, some 0⟩ s b = (⟨R, fs, some 0⟩, 9) := by
  unfold dAppend
  rw [mayL_burnt, if_pos (by decide)]
/-- Room, a name that is one: it is laid. -/
theorem dApp_fits {D : Dsk} {s : Nm} {b : List UInt8} (hl : D.left = none) (hs : badN s = false) (h : D.used + b.length ≤ D.room) (hm : D.fs.length < 4096) : (dAppend D s b).2 = 0 := by
  unfold dAppend
  have : mayL D [s] = 0 := by simp [mayL, hl, hs]
  rw [this, if_neg (fun h => h rfl), if_neg (by omega)]


theorem dfuses_law (n0 : Int) (ps : List (List UInt8)) (A : Option Addr) (c : Nat) (w : World) (hr : Brs w A ps fun _ => False) (hc : ps.length ≤ c) (hm : ∀ p ∈ ps, p.length ≤ 140737488355328) :
    Cal Try.prog 5 #[i64 n0, .slice A ps.length c] w fun v w' => v = .bool true ∧ Nw w w' := by
  refine enter Try.mixed Try.func5 rfl (by kernel_rfl) ?_
  simp -dsimp [go_sem]
  refine loopx 0 [5, 6, 11, 12, 13, 14, 15, 16, 17, 18, 19, 20, 21, 22, 23, 24, 25, 26, 27, 28] (by kernel_rfl)
    (fun f w' => Box2 (fun a b w' => ∃ (i n : Nat), i ≤ ps.length ∧ b = i64 i ∧ a = i64 n ∧ n = wei1 (ps.take i) ∧ (i ≠ 0 → wei1 (ps.take (i - 1)) ≤ 8000) ∧ w' = w) (f 5) (f 6) w') (fun f _ => ps.length - (intOf (f 6)).toNat)
    (fun f w' => Box1 (fun a w' => ∃ n : Nat, a = i64 n ∧ (n ≤ 8000 → n = wei1 ps) ∧ w' = w) (f 5) w') ⟨0, 0, Nat.zero_le _, rfl, rfl, rfl, by simp, rfl⟩ ?_ ?_
  · rintro f w' ⟨i, n, hi, fi, fn, hn, h8, rfl⟩
    by_cases hlt : i < ps.length
    · by_cases hn8 : n ≤ 8000
      · have hn8' : (n : Int) ≤ 8000 := by omega
        obtain ⟨vs, hvl, hrd, hoA, hi'⟩ := id hr
        obtain ⟨X, x, hv, hrX, hoX, hx⟩ := hi' i hlt
        obtain ⟨b, o, rfl, hcell⟩ := hrd i _ hv
        have hlen := hm ps[i] (List.getElem_mem hlt)
        have hat := wei1_at ps i hlt
        have h1 : IntKind.i64.wrap ((n : Int) + 1) = ((n + 1 : Nat) : Int) := w64 (by omega) (by omega)
        obtain ⟨n1, hn1⟩ : ∃ n1, n1 = n + 1 := ⟨_, rfl⟩
        have h2 : IntKind.i64.wrap ((n1 : Int) + (ps[i].length : Int)) = ((n1 + ps[i].length : Nat) : Int) := w64 (by omega) (by omega)
        obtain ⟨n2, hn2⟩ : ∃ n2, n2 = n1 + ps[i].length := ⟨_, rfl⟩
        have hge := wei1_ge (ps.take i)
        rw [List.length_take, Nat.min_eq_left (by omega)] at hge
        have hk1 : IntKind.i64.wrap ((i : Int) + 1) = ((i + 1 : Nat) : Int) := w64 (by omega) (by omega)
        obtain ⟨k1, hk1'⟩ : ∃ k1, k1 = i + 1 := ⟨_, rfl⟩
        rw [← hn1] at h1
        rw [← hn2] at h2
        rw [← hk1'] at hk1 hat
        simp -dsimp [go_sem, fn, fi, hlt, hn8, hn8', hcell, h1, h2, hk1]
        refine ⟨⟨k1, n2, by omega, rfl, rfl, by omega, fun _ => by rw [show k1 - 1 = i by omega]; omega, rfl⟩, by simp [intOf]; omega⟩
      · have hn8' : ¬ (n : Int) ≤ 8000 := by omega
        simp -dsimp [go_sem, fn, fi, hlt, hn8, hn8']
        exact ⟨n, rfl, fun h => absurd h hn8, rfl⟩
    · obtain rfl : i = ps.length := by omega
      rw [List.take_length] at hn
      simp -dsimp [go_sem, fn, fi, hlt]
      exact ⟨n, rfl, fun _ => hn, rfl⟩
  rintro f w' ⟨n, f5, hnw, rfl⟩
  have out : ∀ w', Cal Try.prog 14 #[] w' fun v w'' => v = .bool true ∧ Nw w' w'' := dknown_spec
  by_cases h8 : 8000 < n
  · have h8' : (8000 : Int) < (n : Int) := by omega
    simp -dsimp [go_sem, f5, h8, h8']
    refine call (out w') ?_
    rintro v w1 ⟨rfl, hk1⟩
    simp -dsimp [go_sem]
    exact hk1
  · have h8' : ¬ (8000 : Int) < (n : Int) := by omega
    have hw8 : wei1 ps ≤ 8000 := by have := hnw (by omega); omega
    have hge := wei1_ge ps
    by_cases hn1 : n0 < 0
    · simp -dsimp [go_sem, f5, h8, h8', hn1]
      refine call (out w') ?_
      rintro v w1 ⟨rfl, hk1⟩
      simp -dsimp [go_sem]
      exact hk1
    · by_cases hn2 : 1000 < n0
      · simp -dsimp [go_sem, f5, h8, h8', hn1, hn2]
        refine call (out w') ?_
        rintro v w1 ⟨rfl, hk1⟩
        simp -dsimp [go_sem]
        exact hk1
      · obtain ⟨N, rfl⟩ : ∃ N : Nat, n0 = N := ⟨n0.toNat, by omega⟩
        simp -dsimp [go_sem, f5, h8, h8', hn1, hn2]
        refine call (new_spec 1048576 w') ?_
        rintro v w1 (⟨h, _⟩ | ⟨_, _, g, F, rfl, hD, nF, hk1⟩)
        · omega
        simp -dsimp [go_sem]
        refine call (dfuse_spec N (by omega) g _ F w1 hD) ?_
        rintro v w2 ⟨rfl, hD2, hk2⟩
        have hDF : dFuse ⟨Int.toNat 1048576, [], none⟩ (N : Int) = ⟨1048576, fsK [102] [] 0 0, some N⟩ := by
          unfold dFuse
          simp [hn1, fsK]
        rw [hDF] at hD2
        have hFg : F g := by
          obtain ⟨_, _, _, _, _, h⟩ := hD
          exact h.fg
        have nw2 : Nw w' w2 := Nw.at_ hk1 (hk2.mono fun i _ (e : i = g) => e ▸ hFg) nF
        simp -dsimp [go_sem]
        refine loop [4, 9, 10, 53, 54, 55, 56, 57, 58, 59, 60, 61, 62, 63, 64, 65, 66, 67, 68, 69, 70, 71, 72, 73, 74, 75, 76, 77, 78, 79] (by kernel_rfl)
          (fun f w3 => Box1 (fun a w3 => ∃ (i m : Nat) (F : Nat → Prop), i ≤ ps.length ∧ m = min i N ∧ a = i64 i ∧ Dk w3 g ⟨1048576, fsK [102] (ps.take m).flatten 0 m, some (N - m)⟩ F ∧ Nf w' F ∧ Nw w' w3) (f 9) w3)
          (fun f _ => ps.length - (intOf (f 9)).toNat) ⟨0, 0, F, Nat.zero_le _, by omega, rfl, by simpa using hD2, nF, nw2⟩ ?_
        rintro f w3 ⟨i, m, F, hi, hmi, f9, hD, nF, hK⟩
        simp -dsimp [go_sem, f9]
        refine cond_d (fun hlt => ?_) (fun hlt => ?_)
        · have hlt : i < ps.length := by omega
          obtain ⟨vs, hvl, hrd, hoA, hi'⟩ := id hr
          obtain ⟨X, x, hv, hrX, hoX, hx⟩ := hi' i hlt
          obtain ⟨b, o, rfl, hcell0⟩ := hrd i _ hv
          have hcell := hK.cell_some hcell0 fun h => h
          have hat := flat_at ps i hlt
          have hft1 := flat_take ps (i + 1)
          have hft2 := congrArg List.length hat
          rw [List.length_append] at hft2
          obtain ⟨p, hp⟩ : ∃ p, p = ps[i] := ⟨_, rfl⟩
          rw [← hp] at hcell0 hcell hrX hx hat hft2
          simp -dsimp [go_sem, f9, hlt, hcell]
          have ka : Nw w3 (w3.alloc (.cells #[.slice X p.length x] 23)) := (Kp.refl _ _).alloc _
          refine call (dappend_spec [102] [p] _ 1 g _ F (fun _ => False) _ (hD.nw ka) (Brs.one (p := p) (d := x) (Blk.fresh rfl) (fun h => h) (hrX.nw (hK.nw ka)) (fun _ _ h => h) hx) (by simp) (by simp) (by simp; omega) (by simp)) ?_
          have hfl : ([p] : List (List UInt8)).flatten = p := by simp
          have hk1 : IntKind.i64.wrap ((i : Int) + 1) = ((i + 1 : Nat) : Int) := w64 (by omega) (by omega)
          rw [hfl]
          by_cases hiN : i < N
          · obtain rfl : m = i := by omega
            obtain ⟨k, hk⟩ : ∃ k, N - m = k + 1 := ⟨N - m - 1, by omega⟩
            have happ := appKs (R := 1048576) (k := k) (s := [102]) (a := (ps.take m).flatten) (b := p) (l := 0) (i := m) bad102 (fun h => ⟨by rw [h]; rfl, rfl⟩) (by omega)
            rw [← hat] at happ
            rw [hk, happ]
            rintro v w4 ⟨rfl, F4, hD4, hG4, hK4⟩
            have hiN' : (m : Int) < (N : Int) := by omega
            obtain ⟨k1, hk1'⟩ : ∃ k1, k1 = m + 1 := ⟨_, rfl⟩
            rw [← hk1'] at hk1 hD4
            simp -dsimp [go_sem, f9, hiN, hiN', hk1]
            exact ⟨⟨k1, k1, F4, by omega, by omega, rfl, by rw [show N - k1 = k by omega]; exact hD4, nF.gr hG4 (hK.nw ka).size, Nw.at_ (hK.nw ka) hK4 nF⟩, by simp [intOf]; omega⟩
          · obtain rfl : m = N := by omega
            rw [Nat.sub_self, dApp_burnt]
            rintro v w4 ⟨rfl, F4, hD4, hG4, hK4⟩
            have hiN' : ¬ (i : Int) < (m : Int) := by omega
            obtain ⟨k1, hk1'⟩ : ∃ k1, k1 = i + 1 := ⟨_, rfl⟩
            rw [← hk1'] at hk1
            simp -dsimp [go_sem, f9, hiN, hiN', hk1]
            exact ⟨⟨k1, m, F4, by omega, by omega, rfl, by rw [Nat.sub_self]; exact hD4, nF.gr hG4 (hK.nw ka).size, Nw.at_ (hK.nw ka) hK4 nF⟩, by simp [intOf]; omega⟩
        · obtain rfl : i = ps.length := by omega
          simp -dsimp [go_sem]
          have ka : Nw w3 (w3.alloc (.cells #[str [110, 111, 110, 101]] 9)) := (Kp.refl _ _).alloc _
          refine call (dremove_spec [[110, 111, 110, 101]] _ 1 g _ _ _ (hD.nw ka) (Rd.fresh rfl rfl) (hD.ofl_new (Nat.le_refl _) _) (by simp) (by simp)) ?_
          rintro v w4 ⟨rfl, F4, hD4, hG4, hK4⟩
          have nw4 : Nw w' w4 := Nw.at_ (hK.nw ka) hK4 nF
          have nF4 := nF.gr hG4 (hK.nw ka).size
          have hrem : ∃ e D', dEach fRemove ⟨1048576, fsK [102] (ps.take m).flatten 0 m, some (N - m)⟩ [[110, 111, 110, 101]] = (D', e) ∧ ((e = 7) ↔ ps.length < N) ∧ D'.fs = fsK [102] (ps.take m).flatten 0 m ∧ D'.room = 1048576 := by
            by_cases hlN : ps.length < N
            · obtain ⟨k, hk⟩ : ∃ k, N - m = k + 1 := ⟨N - m - 1, by omega⟩
              refine ⟨7, ⟨1048576, fsK [102] (ps.take m).flatten 0 m, some (N - m)⟩, ?_, by simp [hlN], rfl, rfl⟩
              have hlk : tLook (fsK [102] (ps.take m).flatten 0 m) [110, 111, 110, 101] = none := by
                unfold fsK
                split
                · rfl
                · simp [tLook]
              rw [hk]
              simp only [dEach, dStep, mayL_some (show badN [110, 111, 110, 101] = false by decide), hlk]
              simp
            · have hk : N - m = 0 := by omega
              refine ⟨9, ⟨1048576, fsK [102] (ps.take m).flatten 0 m, some (N - m)⟩, ?_, by simp [hlN], rfl, rfl⟩
              rw [hk]
              simp only [dEach, dStep, mayL_burnt]
              simp
          obtain ⟨e, D', hE, hiff, hfs, hroom⟩ := hrem
          rw [hE] at hD4 ⊢
          have hcm : ((e : Int) == 7) = decide (ps.length < N) := by
            by_cases h : ps.length < N
            · have := hiff.2 h
              subst this
              simp [h]
            · have : ¬ e = 7 := fun h' => h (hiff.1 h')
              simp only [h, decide_false, beq_eq_false_iff_ne]
              omega
          simp only at hD4
          have hcm2 : decide ((ps.length : Int) < (N : Int)) = decide (ps.length < N) := by simp
          obtain ⟨L, hL⟩ : ∃ L, L = ps.length := ⟨_, rfl⟩
          rw [← hL] at hcm hcm2 ⊢
          simp -dsimp [go_sem, hcm, hcm2]
          refine call (dcrash_spec 0 g _ _ w4 hD4) ?_
          rintro v w5 ⟨rfl, hD5, hK5⟩
          have nw5 : Nw w' w5 := Nw.at_ nw4 hK5 nF4
          simp -dsimp [go_sem]
          have kb : Nw w5 (w5.alloc (.cells #[.slice none 0 0] 23)) := (Kp.refl _ _).alloc _
          refine call (dappend_spec [122] [[]] _ 1 g _ F4 (fun _ => False) _ (hD5.nw kb) (Brs.one (p := []) (d := 0) (Blk.fresh rfl) (fun h => h) (Rd.nil _ _) (fun _ _ h => h) (Nat.le_refl _)) (by simp) (by simp) (by simp) (by simp)) ?_
          have hfin : (dAppend (dCrash D' 0) [122] ([[]] : List (List UInt8)).flatten).2 = 0 := by
            refine dApp_fits rfl (by decide) ?_ ?_
            · have := hD5.ok.used
              simpa using this
            · have : (dCrash D' 0).fs.length ≤ 1 := by
                unfold dCrash
                simp only [mapv, List.length_map, hfs]
                unfold fsK
                split <;> simp
              omega
          rw [hfin]
          rintro v w6 ⟨rfl, F6, hD6, hG6, hK6⟩
          have nw6 : Nw w' w6 := Nw.at_ (nw5.nw kb) hK6 nF4
          simp -dsimp [go_sem]
          refine call (out w6) ?_
          rintro v w7 ⟨rfl, hk7⟩
          simp -dsimp [go_sem]
          exact nw6.nw hk7
end Go.Proofs.Ythdeedimdabjfaa
