/-
  KeepLast walked. By the session itself.
-/
import Derived.Test.YthdeedimdabjfaaKpB
namespace Go.Proofs.Ythdeedimdabjfaa
set_option linter.unusedSimpArgs false
set_option linter.unusedVariables false
set_option maxRecDepth 100000
set_option maxHeartbeats 1000000
open Go.Vc Go.RowKit

/-- What there is behind so many saves. -/
def fsL (ps : List (List UInt8)) (k : Nat) : List (Nm × Fil) := if k = 0 then [] else [([102], ⟨recL (ps.getD (k - 1) []), (recL (ps.getD (k - 1) [])).length⟩)]
theorem fsL_lay (ps : List (List UInt8)) (k : Nat) (h : k < ps.length) : tLay (fsL ps k) [102] ⟨recL ps[k], (recL ps[k]).length⟩ = fsL ps (k + 1) := by
  have e : ps.getD k [] = ps[k] := by simp [List.getD, h]
  unfold fsL
  rw [if_neg (show ¬ k + 1 = 0 by omega), Nat.add_sub_cancel, e]
  split
  · rfl
  · simp [tLay, nm_lt_irrefl]
theorem keeplast_law (ps : List (List UInt8)) (n0 dr : Int) (A : Option Addr) (c : Nat) (w : World) (hr : Brs w A ps fun _ => False) (hc : ps.length ≤ c) (hm : ∀ p ∈ ps, p.length ≤ 140737488355328) :
    Cal Try.prog 6 #[.slice A ps.length c, i64 n0, i64 dr] w fun v w' => v = .bool true ∧ Nw w w' := by
  refine enter Try.mixed Try.func6 rfl (by kernel_rfl) ?_
  simp -dsimp [go_sem]
  refine loopx 0 [7, 8, 15, 16, 17, 18, 19, 20, 21, 22, 23, 24, 25, 26, 27, 28, 29, 30, 31, 32] (by kernel_rfl)
    (fun f w' => Box2 (fun a b w' => ∃ (i n : Nat), i ≤ ps.length ∧ b = i64 i ∧ a = i64 n ∧ n = weiC 5 (ps.take i) ∧ (i ≠ 0 → weiC 5 (ps.take (i - 1)) ≤ 5000) ∧ w' = w) (f 7) (f 8) w') (fun f _ => ps.length - (intOf (f 8)).toNat)
    (fun f w' => Box1 (fun a w' => ∃ n : Nat, a = i64 n ∧ (n ≤ 5000 → n = weiC 5 ps) ∧ w' = w) (f 7) w') ⟨0, 0, Nat.zero_le _, rfl, rfl, rfl, by simp, rfl⟩ ?_ ?_
  · rintro f w' ⟨i, n, hi, fi, fn, hn, h8, rfl⟩
    by_cases hlt : i < ps.length
    · by_cases hn8 : n ≤ 5000
      · have hn8' : (n : Int) ≤ 5000 := by omega
        obtain ⟨vs, hvl, hrd, hoA, hi'⟩ := id hr
        obtain ⟨X, x, hv, hrX, hoX, hx⟩ := hi' i hlt
        obtain ⟨b, o, rfl, hcell⟩ := hrd i _ hv
        have hlen := hm ps[i] (List.getElem_mem hlt)
        have hat := weiC_at 5 ps i hlt
        have h1 : IntKind.i64.wrap ((n : Int) + 5) = ((n + 5 : Nat) : Int) := w64 (by omega) (by omega)
        obtain ⟨n1, hn1⟩ : ∃ n1, n1 = n + 5 := ⟨_, rfl⟩
        have h2 : IntKind.i64.wrap ((n1 : Int) + (ps[i].length : Int)) = ((n1 + ps[i].length : Nat) : Int) := w64 (by omega) (by omega)
        obtain ⟨n2, hn2⟩ : ∃ n2, n2 = n1 + ps[i].length := ⟨_, rfl⟩
        have hge := weiC_ge 5 (ps.take i)
        rw [List.length_take, Nat.min_eq_left (by omega)] at hge
        have hk1 : IntKind.i64.wrap ((i : Int) + 1) = ((i + 1 : Nat) : Int) := w64 (by omega) (by omega)
        obtain ⟨k1, hk1'⟩ : ∃ k1, k1 = i + 1 := ⟨_, rfl⟩
        rw [← hn1] at h1
        rw [← hn2] at h2
        rw [← hk1'] at hk1 hat
        simp -dsimp [go_sem, fn, fi, hlt, hn8, hn8', hcell, h1, h2, hk1]
        refine ⟨⟨k1, n2, by omega, rfl, rfl, by omega, fun _ => by rw [show k1 - 1 = i by omega]; omega, rfl⟩, by simp [intOf]; omega⟩
      · have hn8' : ¬ (n : Int) ≤ 5000 := by omega
        simp -dsimp [go_sem, fn, fi, hlt, hn8, hn8']
        exact ⟨n, rfl, fun h => absurd h hn8, rfl⟩
    · obtain rfl : i = ps.length := by omega
      rw [List.take_length] at hn
      simp -dsimp [go_sem, fn, fi, hlt]
      exact ⟨n, rfl, fun _ => hn, rfl⟩
  rintro f w' ⟨n, f7, hnw, rfl⟩
  by_cases h8 : 5000 < n
  · have h8' : (5000 : Int) < (n : Int) := by omega
    simp -dsimp [go_sem, f7, h8, h8']
    refine call (kknown_spec w') ?_
    rintro v wk ⟨rfl, hkk⟩
    simp -dsimp [go_sem]
    exact hkk
  have h8' : ¬ (5000 : Int) < (n : Int) := by omega
  have hw8 : weiC 5 ps ≤ 5000 := by have := hnw (by omega); omega
  have hge := weiC_ge 5 ps
  by_cases hn1 : n0 < 0
  · simp -dsimp [go_sem, f7, h8, h8', hn1]
    refine call (kknown_spec w') ?_
    rintro v wk ⟨rfl, hkk⟩
    simp -dsimp [go_sem]
    exact hkk
  by_cases hn2 : 1000 < n0
  · simp -dsimp [go_sem, f7, h8, h8', hn1, hn2]
    refine call (kknown_spec w') ?_
    rintro v wk ⟨rfl, hkk⟩
    simp -dsimp [go_sem]
    exact hkk
  obtain ⟨N, rfl⟩ : ∃ N : Nat, n0 = N := ⟨n0.toNat, by omega⟩
  simp -dsimp [go_sem, f7, h8, h8', hn1, hn2]
  refine call (new_spec 1048576 w') ?_
  rintro v w1 (⟨h, _⟩ | ⟨_, _, g, F, rfl, hD, nF, hk1⟩)
  · omega
  simp -dsimp [go_sem]
  refine call (dfuse_spec N (by omega) g _ F w1 hD) ?_
  rintro v w2 ⟨rfl, hD2, hk2⟩
  have hFg : F g := by
    obtain ⟨_, _, _, _, _, h⟩ := hD
    exact h.fg
  have nw2 : Nw w' w2 := Nw.at_ hk1 (hk2.mono fun i _ (e : i = g) => e ▸ hFg) nF
  have hpl : ∀ i (h : i < ps.length), ps[i].length ≤ 5000 := fun i h => by
    have h1 := flat_at ps i h
    have h2 := flat_take ps (i + 1)
    rw [h1, List.length_append] at h2
    omega
  simp -dsimp [go_sem]
  refine loopx 2 [11, 12, 57, 58, 59, 60, 61, 62, 63, 64, 65, 66, 67, 68, 69, 70, 71, 72, 73] (by kernel_rfl)
    (fun f w3 => Box2 (fun a b w3 => ∃ (k : Nat) (D : Dsk) (F : Nat → Prop), k ≤ ps.length ∧ b = i64 k ∧ a = i64 ((k : Int) - 1) ∧ Dk w3 g D F ∧ D.room = 1048576 ∧ D.fs = fsL ps k ∧ Nf w' F ∧ Nw w' w3) (f 11) (f 12) w3) (fun f _ => ps.length - (intOf (f 12)).toNat)
    (fun f w3 => Box2 (fun a b w3 => ∃ (k : Nat) (D : Dsk) (F : Nat → Prop), k ≤ ps.length ∧ b = i64 k ∧ a = i64 ((k : Int) - 1) ∧ Dk w3 g D F ∧ tLook D.fs [102] = tLook (fsL ps k) [102] ∧ Nf w' F ∧ Nw w' w3) (f 11) (f 12) w3)
    ⟨0, _, F, Nat.zero_le _, rfl, rfl, hD2, rfl, rfl, nF, nw2⟩ ?_ ?_
  · rintro f w3 ⟨k, D, F, hk, f12, f11, hD, hroom, hfs, nF, hK⟩
    by_cases hlt : k < ps.length
    · obtain ⟨vs, hvl, hrd, hoA, hi'⟩ := id hr
      obtain ⟨X, x, hv, hrX, hoX, hx⟩ := hi' k hlt
      obtain ⟨b, o, rfl, hcell0⟩ := hrd k _ hv
      have hcell := hK.cell_some hcell0 fun h => h
      have hpk := hpl k hlt
      have hlay := fsL_lay ps k hlt
      have hused : D.used ≤ 5012 := by
        unfold Dsk.used
        rw [hfs]
        unfold fsL
        split
        · simp [sumv]
        · have hgd : ps.getD (k - 1) [] = ps[k - 1]'(by omega) := by simp [List.getD, show k - 1 < ps.length by omega]
          have := hpl (k - 1) (by omega)
          simp only [sumv, List.map_cons, List.map_nil, List.sum_cons, List.sum_nil, recL_len, hgd]
          omega
      have hfl : D.fs.length ≤ 1 := by
        rw [hfs]
        unfold fsL
        split <;> simp
      have hsh : tLook D.fs (shadow [102]) = none := by
        rw [hfs]
        unfold fsL
        split
        · rfl
        · simp [tLook, shadow]
      have hout := kSave_out hD.ok (s := [102]) (p := ps[k]) (by decide) (by decide) (by omega) hsh (by omega) (by omega)
      obtain ⟨p, hp⟩ : ∃ p, p = ps[k] := ⟨_, rfl⟩
      rw [← hp] at hcell hcell0 hrX hx hout hpk hlay
      have ka : Nw w3 (w3.alloc (.cells #[.slice X p.length x] 23)) := (Kp.refl _ _).alloc _
      have hsv := ksave_spec [102] [p] (some ⟨w3.heap.size, 0, none⟩) 1 g D F (fun _ => False) _ (hD.nw ka) (Brs.one (p := p) (d := x) (Blk.fresh rfl) (fun h => h) (hrX.nw (hK.nw ka)) (fun _ _ h => h) hx) (by simp) (by simp) (by simp; omega)
      rw [show ([p] : List (List UInt8)).flatten = p by simp] at hsv
      simp -dsimp [go_sem, f11, f12, hlt, hcell]
      refine call hsv ?_
      obtain ⟨E, hE⟩ : ∃ E, E = kSave D [102] p := ⟨_, rfl⟩
      rw [← hE] at hout ⊢
      obtain ⟨D4, e4⟩ := E
      simp only at hout ⊢
      rintro v w4 ⟨rfl, F4, hD4, hG4, hK4⟩
      have nw3 := hK.nw ka
      have nw4 : Nw w' w4 := Nw.at_ nw3 hK4 nF
      have nF4 := nF.gr hG4 nw3.size
      rcases hout with ⟨rfl, hfs4, hroom4, _⟩ | ⟨rfl, _, hlk⟩
      · have hk1 : IntKind.i64.wrap ((k : Int) + 1) = ((k + 1 : Nat) : Int) := w64 (by omega) (by omega)
        rw [hfs, hlay] at hfs4
        obtain ⟨k1, hk1'⟩ : ∃ k1, k1 = k + 1 := ⟨_, rfl⟩
        rw [← hk1'] at hk1 hfs4
        simp -dsimp [go_sem, f11, f12, hk1]
        exact ⟨⟨k1, D4, F4, by omega, rfl, by congr 1; omega, hD4, by rw [hroom4, hroom], hfs4, nF4, nw4⟩, by simp [intOf]; omega⟩
      · simp -dsimp [go_sem, f11, f12]
        exact ⟨k, D4, F4, hk, rfl, rfl, hD4, by rw [hlk [102] (by decide), hfs], nF4, nw4⟩
    · have hlt' : ¬ (k : Int) < (ps.length : Int) := by omega
      simp -dsimp [go_sem, f11, f12, hlt, hlt']
      exact ⟨k, D, F, hk, rfl, rfl, hD, by rw [hfs], nF, hK⟩
  rintro f w3 ⟨k, D, F, hk, f12, f11, hD, hlk, nF, hK⟩
  simp -dsimp [go_sem]
  refine call (dcrash_spec dr g _ _ w3 hD) ?_
  rintro v w4 ⟨rfl, hD4, hK4⟩
  have nw4 : Nw w' w4 := Nw.at_ hK hK4 nF
  simp -dsimp [go_sem]
  refine call (kload_spec [102] g _ _ w4 hD4) ?_
  by_cases hk0 : k = 0
  · subst hk0
    have hl : kLoad (dCrash D dr) [102] = ([], 7) := by
      have hr : dRead (dCrash D dr) [102] = ([], 7) := by
        unfold dRead dCrash
        simp only [tLook_mapv, hlk]
        rfl
      unfold kLoad
      rw [hr]
      simp
    rw [hl]
    rintro v w5 ⟨hk5, u, rfl, hB⟩
    simp -dsimp [go_sem, f11]
    refine call (kknown_spec w5) ?_
    rintro v wk ⟨rfl, hkk⟩
    simp -dsimp [go_sem]
    exact (nw4.nw hk5).nw hkk
  · obtain ⟨k1, rfl⟩ : ∃ k1, k = k1 + 1 := ⟨k - 1, by omega⟩
    have hlt : k1 < ps.length := by omega
    have hgd : ps.getD (k1 + 1 - 1) [] = ps[k1] := by simp [List.getD, hlt]
    have hpk := hpl k1 hlt
    have hl : kLoad (dCrash D dr) [102] = (ps[k1], 0) := by
      have hr : dRead (dCrash D dr) [102] = (recL ps[k1], 0) := by
        unfold dRead dCrash
        simp only [tLook_mapv, hlk]
        unfold fsL
        rw [if_neg (show ¬ k1 + 1 = 0 by omega), hgd]
        simp [tLook, cutF_whole]
      unfold kLoad
      rw [hr, one_rec _ (by omega)]
      simp
    rw [hl]
    obtain ⟨vs, hvl, hrd, hoA, hi'⟩ := id hr
    obtain ⟨X, x, hv, hrX, hoX, hx⟩ := hi' k1 hlt
    obtain ⟨b, o, rfl, hcell0⟩ := hrd k1 _ hv
    obtain ⟨p, hp⟩ : ∃ p, p = ps[k1] := ⟨_, rfl⟩
    rw [← hp] at hcell0 hrX hx hpk ⊢
    rintro v w5 ⟨hk5, u, rfl, ⟨A5, c5, rfl, ho5, hA5⟩⟩
    have nw5 := nw4.nw hk5
    have hcell5 := nw5.cell_some hcell0 fun h => h
    have e11 : ((k1 + 1 : Nat) : Int) - 1 = (k1 : Int) := by omega
    rw [e11] at f11
    simp -dsimp [go_sem, f11, hlt, hcell5]
    refine call (ksame_spec A5 X c5 x p p w5 ho5.rd (hrX.nw nw5) (by omega)) ?_
    rintro v w6 ⟨rfl, hk6⟩
    simp -dsimp [go_sem]
    refine call (kknown_spec w6) ?_
    rintro v wk ⟨rfl, hkk⟩
    simp -dsimp [go_sem]
    exact (nw5.nw hk6).nw hkk
end Go.Proofs.Ythdeedimdabjfaa
