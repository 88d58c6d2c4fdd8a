/-
  KeepLast walked: what is there is what was saved last with OK, or what the save that erred was to write. By the session itself.
-/
import Derived.Test.YthonmjgagblogaaGreatKpA
namespace Go.Proofs.YthonmjgagblogaaGreat
set_option linter.unusedSimpArgs false
set_option linter.unusedVariables false
set_option maxRecDepth 100000
set_option maxHeartbeats 1000000
open Go.Vc Go.RowKit

/-- All rows' bytes, and c more of each. -/
def weiC (c : Nat) (ps : List (List UInt8)) : Nat := (ps.map fun p => p.length + c).sum
theorem weiC_at (c : Nat) (ps : List (List UInt8)) (i : Nat) (h : i < ps.length) : weiC c (ps.take (i + 1)) = weiC c (ps.take i) + ps[i].length + c := by
  unfold weiC
  rw [List.take_succ_eq_append_getElem h, List.map_append, List.sum_append]
  simp; omega
theorem weiC_ge (c : Nat) (ps : List (List UInt8)) : ps.flatten.length + c * ps.length = weiC c ps := by
  unfold weiC
  induction ps with
  | nil => simp
  | cons p ps ih => simp only [List.flatten_cons, List.length_append, List.length_cons, List.map_cons, List.sum_cons, Nat.mul_add]; omega

theorem mayL_good {D : Dsk} {ns : List Nm} (h : ns.any badN = false) : mayL D ns = if D.left = some 0 then 9 else 0 := by
  unfold mayL
  rw [h]
  rfl
theorem shadow_ne (s : Nm) : s ≠ shadow s := fun h => by
  have := congrArg List.length h
  simp [shadow] at this
theorem kSave_out {D : Dsk} (ok : D.Ok) {s : Nm} {p : List UInt8} (h1 : 1 ≤ s.length) (h2 : s.length ≤ 60) (hp : p.length ≤ 1048576) (hsh : tLook D.fs (shadow s) = none) (hu : D.used + p.length + 12 ≤ D.room) (hm : D.fs.length < 4096) :
    ((kSave D s p).2 = 0 ∧ (kSave D s p).1.fs = tLay D.fs s ⟨recL p, (recL p).length⟩ ∧ (kSave D s p).1.room = D.room ∧ (D.left = none → (kSave D s p).1.left = none)) ∨
    ((kSave D s p).2 = 9 ∧ D.left ≠ none ∧ ∀ t, t ≠ shadow s → tLook (kSave D s p).1.fs t = tLook D.fs t) := by
  have hb1 : badN s = false := by unfold badN; rw [decide_eq_false (by omega), decide_eq_false (by omega)]; rfl
  have hshl : (shadow s).length = s.length + 1 := by simp [shadow]
  have hb2 : badN (shadow s) = false := by unfold badN; rw [decide_eq_false (by omega), decide_eq_false (by omega)]; rfl
  have e0 : kSave D s p = kWhole D s (recL p) := by
    unfold kSave
    rw [if_neg (by omega), if_neg (by omega)]
  have e1 : kW1 D (shadow s) = (D, 0) := by
    unfold kW1
    rw [hsh]
    rfl
  rw [e0]
  unfold kWhole
  rw [e1, if_neg (fun h => h rfl)]
  unfold kW3
  have hne := shadow_ne s
  generalize shadow s = sh at *
  have hRl := recL_len p
  generalize recL p = R at *
  have m1 : mayL D [sh] = if D.left = some 0 then 9 else 0 := mayL_good (by simp [hb2])
  by_cases l0 : D.left = some 0
  · have : dAppend D sh R = (D, 9) := by
      unfold dAppend
      rw [m1, if_pos l0, if_pos (by decide)]
    rw [this]
    exact .inr ⟨rfl, by rw [l0]; simp, fun t _ => rfl⟩
  · have hA : dAppend D sh R = (Dsk.done { D with fs := tLay D.fs sh ⟨R, 0⟩ }, 0) := by
      unfold dAppend
      rw [m1, if_neg l0, if_neg (fun h => h rfl), if_neg (fun h => h.elim (fun h => by omega) fun h => by omega), hsh]
      rfl
    rw [hA]
    simp only [ne_eq, not_true_eq_false, if_false]
    unfold kW4
    have hl4 : tLook (Dsk.done { D with fs := tLay D.fs sh ⟨R, 0⟩ }).fs sh = some ⟨R, 0⟩ := by simp [Dsk.done, tLook_lay]
    have hleft4 : (Dsk.done { D with fs := tLay D.fs sh ⟨R, 0⟩ }).left = D.left.map (· - 1) := rfl
    have hfs4 : (Dsk.done { D with fs := tLay D.fs sh ⟨R, 0⟩ }).fs = tLay D.fs sh ⟨R, 0⟩ := rfl
    have hroom4 : (Dsk.done { D with fs := tLay D.fs sh ⟨R, 0⟩ }).room = D.room := rfl
    generalize Dsk.done { D with fs := tLay D.fs sh ⟨R, 0⟩ } = D4 at *
    have m4 : mayL D4 [sh] = if D4.left = some 0 then 9 else 0 := mayL_good (by simp [hb2])
    by_cases l4 : D4.left = some 0
    · have : dEach fSync D4 [sh] = (D4, 9) := by
        simp only [dEach, dStep, m4, if_pos l4]
        simp
      rw [this]
      refine .inr ⟨rfl, (fun h => by rw [hleft4, h] at l4; cases l4), fun t ht => ?_⟩
      show tLook D4.fs t = _
      rw [hfs4, tLook_lay, if_neg ht]
    · have hC : dEach fSync D4 [sh] = ((fSync D4 sh ⟨R, 0⟩).done, 0) := by
        simp only [dEach, dStep, m4, if_neg l4, hl4]
        simp
      rw [hC]
      simp only [ne_eq, not_true_eq_false, if_false]
      have hleft5 : (fSync D4 sh ⟨R, 0⟩).done.left = D4.left.map (· - 1) := rfl
      have hfs5 : (fSync D4 sh ⟨R, 0⟩).done.fs = tLay D4.fs sh ⟨R, R.length⟩ := rfl
      have hroom5 : (fSync D4 sh ⟨R, 0⟩).done.room = D4.room := rfl
      generalize (fSync D4 sh ⟨R, 0⟩).done = D5 at *
      have m5 : mayL D5 [sh, s] = if D5.left = some 0 then 9 else 0 := mayL_good (by simp [hb1, hb2])
      have hl5 : tLook D5.fs sh = some ⟨R, R.length⟩ := by rw [hfs5, tLook_lay, if_pos rfl]
      unfold dRename
      by_cases l5 : D5.left = some 0
      · rw [m5, if_pos l5, if_pos (by decide)]
        refine .inr ⟨rfl, (fun h => by rw [hleft5, hleft4, h] at l5; cases l5), fun t ht => ?_⟩
        show tLook D5.fs t = _
        rw [hfs5, tLook_lay, if_neg ht, hfs4, tLook_lay, if_neg ht]
      · rw [m5, if_neg l5, if_neg (fun h => h rfl), hl5]
        have hs4 : Srt D4.fs := by rw [hfs4]; exact ok.srt.tLay _ _
        have hs5 : Srt D5.fs := by rw [hfs5]; exact hs4.tLay _ _
        refine .inl ⟨rfl, ?_, by show D5.room = _; rw [hroom5, hroom4], fun h => by show D5.left.map _ = _; rw [hleft5, hleft4, h]; rfl⟩
        show tLay (tGone D5.fs sh) s ⟨R, R.length⟩ = _
        refine tLook_ext ((hs5.tGone _).tLay _ _) (ok.srt.tLay _ _) fun t => ?_
        rw [tLook_lay, tLook_lay]
        by_cases hts : t = s
        · rw [if_pos hts, if_pos hts]
        · rw [if_neg hts, if_neg hts, tLook_gone hs5]
          by_cases hth : t = sh
          · rw [if_pos hth, hth, hsh]
          · rw [if_neg hth, hfs5, tLook_lay, if_neg hth, hfs4, tLook_lay, if_neg hth]
theorem cutF_whole (d : Nat) (b : List UInt8) : cutF d ⟨b, b.length⟩ = ⟨b, b.length⟩ := by
  simp [cutF, Nat.mod_one]
end Go.Proofs.YthonmjgagblogaaGreat
