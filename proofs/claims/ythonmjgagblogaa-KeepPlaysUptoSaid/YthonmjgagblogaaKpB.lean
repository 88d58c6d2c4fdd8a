/-
  KeepLast walked: what is there is what was saved last with OK, or what the save that erred was to write. By the session itself.
-/
import Derived.Test.YthonmjgagblogaaKpA
namespace Go.Proofs.Ythonmjgagblogaa
set_option linter.unusedSimpArgs false
set_option linter.unusedVariables false
set_option maxRecDepth 100000
set_option maxHeartbeats 1000000
open Go.Vc Go.RowKit

theorem ksame_spec (A B : Option Addr) (c d : Nat) (xs ys : List UInt8) (w : World) (hx : Rd w A (xs.map u8)) (hy : Rd w B (ys.map u8)) (hl : xs.length ≤ 140737488355328) :
    Cal Try.prog 26 #[.slice A xs.length c, .slice B ys.length d] w fun v w' => v = .bool (decide (xs = ys)) ∧ Nw w w' := by
  refine enter Try.mixed Try.func26 rfl (by kernel_rfl) ?_
  simp -dsimp [go_sem]
  refine cond_n (fun h => ?_) (fun h => ?_)
  · simp -dsimp [go_sem]
    refine ⟨?_, Kp.refl _ _⟩
    rintro rfl; exact h rfl
  · have hlen : xs.length = ys.length := by omega
    simp -dsimp [go_sem]
    refine loop [4, 5, 11, 12, 13, 14, 15, 16, 17, 18, 19, 20, 21, 22, 23, 24, 25] (by kernel_rfl) (fun f w' => Box1 (fun a w' => ∃ k : Nat, k ≤ xs.length ∧ a = i64 k ∧ xs.take k = ys.take k ∧ w'.heap = w.heap ∧ Nw w w') (f 5) w')
      (fun f _ => xs.length - (intOf (f 5)).toNat) ⟨0, Nat.zero_le _, rfl, by simp, rfl, Kp.refl _ _⟩ ?_
    rintro f w' ⟨k, hk, f5, ht, hh, hK⟩
    simp -dsimp [go_sem, f5]
    refine cond_d (fun hlt => ?_) (fun hlt => ?_)
    · have hlt : k < xs.length := by omega
      obtain ⟨b, o, rfl, hc⟩ := hx k (u8 xs[k]) (by simp [hlt])
      have hlt' : k < ys.length := by omega
      obtain ⟨b', o', rfl, hc'⟩ := hy k (u8 ys[k]) (by simp [hlt'])
      simp -dsimp [go_sem]
      refine draw (.take 0 (.take 1 (.take 2 (.take 3 (.take 4 (.take 5 (.take 6 (.take 7 (.take 8 .done))))))))) (by kernel_rfl) (fun w1 => w1.heap = w.heap) hh ?_
      have hcell : ∀ w1 : World, w1.heap = w.heap → ∀ a, w1.cell? a = w.cell? a := fun w1 h a => by simp [World.cell?, h]
      simp -dsimp [go_sem, f5, hlt, hlt', hcell w' hh, hc, hc']
      refine ⟨fun w1 h1 => by simp [hcell w1 h1, hc], fun w1 h1 => by simp [hcell w1 h1, hc'], ?_⟩
      refine cond_n (fun hne => ?_) (fun he => ?_)
      · simp -dsimp [go_sem]
        exact ⟨fun e => hne (by simp [e]), hK.drew⟩
      · have hk1 : IntKind.i64.wrap ((k : Int) + 1) = ((k + 1 : Nat) : Int) := w64 (by omega) (by omega)
        obtain ⟨k1, hk1'⟩ : ∃ k1, k1 = k + 1 := ⟨_, rfl⟩
        rw [← hk1'] at hk1
        simp -dsimp [go_sem, f5, hk1]
        refine ⟨⟨k1, by omega, rfl, ?_, hh, hK.drew⟩, by simp [intOf]; omega⟩
        rw [hk1', List.take_succ_eq_append_getElem hlt, List.take_succ_eq_append_getElem hlt', ht]
        have : xs[k] = ys[k] := UInt8.toNat_inj.1 (by omega)
        rw [this]
    · obtain rfl : k = xs.length := by omega
      simp -dsimp [go_sem]
      refine ⟨?_, hK⟩
      rw [List.take_length, List.take_of_length_le (by omega)] at ht
      exact ht

/-- All rows' bytes, and c more of each. -/
def weiC (c : Nat) (ps : List (List UInt8)) : Nat := (ps.map fun p => p.length + c).sum
theorem weiC_at (c : Nat) (ps : List (List UInt8)) (i : Nat) (h : i < ps.length) : weiC c (ps.take (i + 1)) = weiC c (ps.take i) + ps[i].length + c := by
  unfold weiC
  rw [List.take_succ_eq_append_getElem h, List.map_append, List.sum_append]
  simp; omega
theorem weiC_ge (c : Nat) (ps : List (List UInt8)) : ps.flatten.length + c * ps.length = weiC c ps := by
  unfold weiC
  induction ps with
  | nil => simp
  | cons p ps ih => simp only [List.flatten_cons, List.length_append, List.length_cons, List.map_cons, List.sum_cons, Nat.mul_add]; omega

theorem mayL_good {D : Dsk} {ns : List Nm} (h : ns.any badN = false) : mayL D ns = if D.left = some 0 then 9 else 0 := by
  unfold mayL
  rw [h]
  rfl
theorem shadow_ne (s : Nm) : s ≠ shadow s := fun h => by
  have := congrArg List.length h
  simp [shadow] at this
theorem kSave_out {D : Dsk} (ok : D.Ok) {s : Nm} {p : List UInt8} (h1 : 1 ≤ s.length) (h2 : s.length ≤ 60) (hp : p.length ≤ 1048576) (hsh : tLook D.fs (shadow s) = none) (hu : D.used + p.length + 12 ≤ D.room) (hm : D.fs.length < 4096) :
    ((kSave D s p).2 = 0 ∧ (kSave D s p).1.fs = tLay D.fs s ⟨recL p, (recL p).length⟩ ∧ (kSave D s p).1.room = D.room ∧ (D.left = none → (kSave D s p).1.left = none)) ∨
    ((kSave D s p).2 = 9 ∧ D.left ≠ none ∧ ∀ t, t ≠ shadow s → tLook (kSave D s p).1.fs t = tLook D.fs t) := by
  have hb1 : badN s = false := by unfold badN; rw [decide_eq_false (by omega), decide_eq_false (by omega)]; rfl
  have hshl : (shadow s).length = s.length + 1 := by simp [shadow]
  have hb2 : badN (shadow s) = false := by unfold badN; rw [decide_eq_false (by omega), decide_eq_false (by omega)]; rfl
  have e0 : kSave D s p = kWhole D s (recL p) := by
    unfold kSave
    rw [if_neg (by omega), if_neg (by omega)]
  have e1 : kW1 D (shadow s) = (D, 0) := by
    unfold kW1
    rw [hsh]
    rfl
  rw [e0]
  unfold kWhole
  rw [e1, if_neg (fun h => h rfl)]
  unfold kW3
  have hne := shadow_ne s
  generalize shadow s = sh at *
  have hRl := recL_len p
  generalize recL p = R at *
  have m1 : mayL D [sh] = if D.left = some 0 then 9 else 0 := mayL_good (by simp [hb2])
  by_cases l0 : D.left = some 0
  · have : dAppend D sh R = (D, 9) := by
      unfold dAppend
      rw [m1, if_pos l0, if_pos (by decide)]
    rw [this]
    exact .inr ⟨rfl, by rw [l0]; simp, fun t _ => rfl⟩
  · have hA : dAppend D sh R = (Dsk.done { D with fs := tLay D.fs sh ⟨R, 0⟩ }, 0) := by
      unfold dAppend
      rw [m1, if_neg l0, if_neg (fun h => h rfl), if_neg (fun h => h.elim (fun h => by omega) fun h => by omega), hsh]
      rfl
    rw [hA]
    simp only [ne_eq, not_true_eq_false, if_false]
    unfold kW4
    have hl4 : tLook (Dsk.done { D with fs := tLay D.fs sh ⟨R, 0⟩ }).fs sh = some ⟨R, 0⟩ := by simp [Dsk.done, tLook_lay]
    have hleft4 : (Dsk.done { D with fs := tLay D.fs sh ⟨R, 0⟩ }).left = D.left.map (· - 1) := rfl
    have hfs4 : (Dsk.done { D with fs := tLay D.fs sh ⟨R, 0⟩ }).fs = tLay D.fs sh ⟨R, 0⟩ := rfl
    have hroom4 : (Dsk.done { D with fs := tLay D.fs sh ⟨R, 0⟩ }).room = D.room := rfl
    generalize Dsk.done { D with fs := tLay D.fs sh ⟨R, 0⟩ } = D4 at *
    have m4 : mayL D4 [sh] = if D4.left = some 0 then 9 else 0 := mayL_good (by simp [hb2])
    by_cases l4 : D4.left = some 0
    · have : dEach fSync D4 [sh] = (D4, 9) := by
        simp only [dEach, dStep, m4, if_pos l4]
        simp
      rw [this]
      refine .inr ⟨rfl, (fun h => by rw [hleft4, h] at l4; cases l4), fun t ht => ?_⟩
      show tLook D4.fs t = _
      rw [hfs4, tLook_lay, if_neg ht]
    · have hC : dEach fSync D4 [sh] = ((fSync D4 sh ⟨R, 0⟩).done, 0) := by
        simp only [dEach, dStep, m4, if_neg l4, hl4]
        simp
      rw [hC]
      simp only [ne_eq, not_true_eq_false, if_false]
      have hleft5 : (fSync D4 sh ⟨R, 0⟩).done.left = D4.left.map (· - 1) := rfl
      have hfs5 : (fSync D4 sh ⟨R, 0⟩).done.fs = tLay D4.fs sh ⟨R, R.length⟩ := rfl
      have hroom5 : (fSync D4 sh ⟨R, 0⟩).done.room = D4.room := rfl
      generalize (fSync D4 sh ⟨R, 0⟩).done = D5 at *
      have m5 : mayL D5 [sh, s] = if D5.left = some 0 then 9 else 0 := mayL_good (by simp [hb1, hb2])
      have hl5 : tLook D5.fs sh = some ⟨R, R.length⟩ := by rw [hfs5, tLook_lay, if_pos rfl]
      unfold dRename
      by_cases l5 : D5.left = some 0
      · rw [m5, if_pos l5, if_pos (by decide)]
        refine .inr ⟨rfl, (fun h => by rw [hleft5, hleft4, h] at l5; cases l5), fun t ht => ?_⟩
        show tLook D5.fs t = _
        rw [hfs5, tLook_lay, if_neg ht, hfs4, tLook_lay, if_neg ht]
      · rw [m5, if_neg l5, if_neg (fun h => h rfl), hl5]
        have hs4 : Srt D4.fs := by rw [hfs4]; exact ok.srt.tLay _ _
        have hs5 : Srt D5.fs := by rw [hfs5]; exact hs4.tLay _ _
        refine .inl ⟨rfl, ?_, by show D5.room = _; rw [hroom5, hroom4], fun h => by show D5.left.map _ = _; rw [hleft5, hleft4, h]; rfl⟩
        show tLay (tGone D5.fs sh) s ⟨R, R.length⟩ = _
        refine tLook_ext ((hs5.tGone _).tLay _ _) (ok.srt.tLay _ _) fun t => ?_
        rw [tLook_lay, tLook_lay]
        by_cases hts : t = s
        · rw [if_pos hts, if_pos hts]
        · rw [if_neg hts, if_neg hts, tLook_gone hs5]
          by_cases hth : t = sh
          · rw [if_pos hth, hth, hsh]
          · rw [if_neg hth, hfs5, tLook_lay, if_neg hth, hfs4, tLook_lay, if_neg hth]
theorem cutF_whole (d : Nat) (b : List UInt8) : cutF d ⟨b, b.length⟩ = ⟨b, b.length⟩ := by
  simp [cutF, Nat.mod_one]
theorem kknown_spec (w : World) : Cal Try.prog 21 #[] w fun v w' => v = .bool true ∧ Nw w w' := by
  refine enter Try.mixed Try.func21 rfl (by kernel_rfl) ?_
  simp -dsimp [go_sem]
  refine call (new_spec 1000 w) ?_
  rintro v w1 (⟨h, _⟩ | ⟨_, _, g, F, rfl, hD, nF, hk1⟩)
  · omega
  have hD : Dk w1 g ⟨1000, [], none⟩ F := hD
  simp -dsimp [go_sem]
  refine conv_const rfl rfl (Blk.new w1 _ _) ?_
  intro w2 hk2 hh2
  have k12 : Nw w1 w2 := Nw.at_ ((Kp.refl _ _).alloc _) hk2 (Nf.at_ (Nat.le_refl _))
  simp -dsimp [go_sem]
  refine conv_const rfl rfl (Blk.new w2 _ _) ?_
  intro w3 hk3 hh3
  have k23 : Nw w2 w3 := Nw.at_ ((Kp.refl _ _).alloc _) hk3 (Nf.at_ (Nat.le_refl _))
  simp -dsimp [go_sem]
  have ka : Nw w3 (w3.alloc (.cells #[.slice (some ⟨w1.heap.size, 0, none⟩) 2 2, .slice (some ⟨w2.heap.size, 0, none⟩) 1 1] 32)) := (Kp.refl _ _).alloc _
  have hr1 : Rd w3 (some ⟨w1.heap.size, 0, none⟩) (([49, 50] : List UInt8).map u8) := (Rd.of_heap hh2).nw k23
  have hr2 : Rd w3 (some ⟨w2.heap.size, 0, none⟩) (([51] : List UInt8).map u8) := Rd.of_heap hh3
  refine call (ksave_spec [97] [[49, 50], [51]] _ 2 g _ F (fun _ => False) _ (((hD.nw k12).nw k23).nw ka) (Brs.two (p := [49, 50]) (q := [51]) (c := 2) (d := 1) (Blk.fresh rfl) (fun h => h) (hr1.nw ka) (fun _ _ h => h) (Nat.le_refl _) (hr2.nw ka) (fun _ _ h => h) (Nat.le_refl _)) (Nat.le_refl _) (by simp) (by simp)) ?_
  have hok : (⟨1000, [], none⟩ : Dsk).Ok := hD.ok
  have hsv := kSave_out hok (s := [97]) (p := [49, 50, 51]) (by decide) (by decide) (by decide) rfl (by decide) (by decide)
  have hfl : ([[49, 50], [51]] : List (List UInt8)).flatten = [49, 50, 51] := rfl
  rw [hfl]
  rcases hsv with ⟨hz, hfs, _, _⟩ | ⟨_, h, _⟩
  · rw [hz]
    rintro v w4 ⟨rfl, F4, hD4, hG4, hK4⟩
    have nw3 := ((hk1.nw k12).nw k23).nw ka
    have nw4 : Nw w w4 := Nw.at_ nw3 hK4 nF
    have nF4 := nF.gr hG4 nw3.size
    obtain ⟨D4, hD4e⟩ : ∃ D4, D4 = (kSave ⟨1000, [], none⟩ [97] [49, 50, 51]).1 := ⟨_, rfl⟩
    rw [← hD4e] at hD4 hfs
    simp -dsimp [go_sem]
    refine call (dcrash_spec 0 g _ _ w4 hD4) ?_
    rintro v w5 ⟨rfl, hD5, hK5⟩
    have nw5 : Nw w w5 := Nw.at_ nw4 hK5 nF4
    simp -dsimp [go_sem]
    refine call (kload_spec [97] g _ _ w5 hD5) ?_
    have hl : kLoad (dCrash D4 0) [97] = ([49, 50, 51], 0) := by
      have hr : dRead (dCrash D4 0) [97] = (recL [49, 50, 51], 0) := by
        unfold dRead dCrash
        simp only [tLook_mapv, hfs, tLook_lay, if_true, Option.map_some, cutF_whole]
      unfold kLoad
      rw [hr, one_rec _ (by simp)]
      simp
    rw [hl]
    rintro v w6 ⟨hk6, u, rfl, ⟨A6, c6, rfl, ho6, hA6⟩⟩
    simp -dsimp [go_sem]
    refine conv_const rfl rfl (Blk.new w6 _ _) ?_
    intro w7 hk7 hh7
    have k67 : Nw w6 w7 := Nw.at_ ((Kp.refl _ _).alloc _) hk7 (Nf.at_ (Nat.le_refl _))
    simp -dsimp [go_sem]
    refine call (ksame_spec A6 (some ⟨w6.heap.size, 0, none⟩) c6 3 [49, 50, 51] [49, 50, 51] w7 (ho6.rd.nw k67) (Rd.of_heap hh7) (by simp)) ?_
    rintro v w8 ⟨rfl, hk8⟩
    simp -dsimp [go_sem]
    exact ((nw5.nw hk6).nw k67).nw hk8
  · exact absurd rfl h
end Go.Proofs.Ythonmjgagblogaa
