/-
  A ledger opened anew on a disk whose fuse is not lit: plain laws. By the session itself.
-/
import Derived.Test.YthonmjgagblogaaLgP
namespace Go.Proofs.Ythonmjgagblogaa
set_option linter.unusedSimpArgs false
set_option linter.unusedVariables false
set_option maxRecDepth 100000
set_option maxHeartbeats 1000000
open Go.Vc Go.RowKit

/-- A file laid anew, no longer than it was. -/
theorem Free.relay {D : Dsk} {u m : Nat} {s : Nm} {x : Fil} (h : Free D u m) (hx : tLook D.fs s = some x) (b : List UInt8) (l : Nat) (hl : l ≤ b.length) (hb : b.length ≤ x.b.length) : Free { D with fs := tLay D.fs s ⟨b, l⟩ } u m := by
  have hu := used_lay h.ok s ⟨b, l⟩
  have e : fileD D s = x := by unfold fileD; rw [hx]; rfl
  rw [e] at hu
  have hus := h.used
  have hll := lay_len h.ok.srt s (⟨b, l⟩ : Fil)
  have hmn := h.many
  simp only at hu
  refine ⟨h.ok.lay s ⟨b, l⟩ hl ?_ (fun e => by rw [hx] at e; cases e) (h.ok.names s x hx), h.left, by omega, ?_⟩
  · rw [hx]
    simp only [Option.getD_some]
    have := h.ok.used
    omega
  · simp only [hll]
    rw [if_pos (by rw [hx]; rfl)]
    exact hmn
theorem Free.gone {D : Dsk} {u m : Nat} (h : Free D u m) (s : Nm) : Free { D with fs := tGone D.fs s } u m := by
  have hgl := gone_len D.fs s
  have hsg := sumv_gone D.fs (fun f : Fil => f.b.length) s
  have hu := h.used
  have hm := h.many
  refine ⟨h.ok.rem s, h.left, ?_, ?_⟩
  · have e1 : Dsk.used D = sumv (fun f : Fil => f.b.length) D.fs := rfl
    show sumv (fun f : Fil => f.b.length) (tGone D.fs s) ≤ _
    omega
  · simp only
    rw [hgl]
    split <;> omega
theorem trunc_free {D : Dsk} {s : Nm} {x : Fil} (n : Nat) (hl : D.left = none) (hs : badN s = false) (hx : tLook D.fs s = some x) (hn : n ≤ x.b.length) : dTrunc D s n = ({ D with fs := tLay D.fs s ⟨x.b.take n, min x.l n⟩ }, 0) := by
  unfold dTrunc
  rw [mayF hl hs, if_neg (fun h => h rfl), hx]
  simp only
  rw [if_neg (by omega), Int.toNat_natCast, done_free (by exact hl)]
theorem cutIf_free {D : Dsk} {s : Nm} {x : Fil} {u m : Nat} (h : Free D u m) (good : Nat) (hs : badN s = false) (hx : tLook D.fs s = some x) :
    ∃ D' l', cutIf D s good x.b.length = (D', 0) ∧ Free D' u m ∧ D'.room = D.room ∧ tLook D'.fs s = some ⟨x.b.take good, l'⟩ ∧ ∀ t, t ≠ s → tLook D'.fs t = tLook D.fs t := by
  unfold cutIf
  by_cases hg : good < x.b.length
  · rw [if_pos hg]
    unfold cutS
    have e1 := trunc_free good h.left hs hx (by omega)
    rw [e1, if_neg (fun h => h rfl)]
    simp only
    have h1 := h.relay hx (x.b.take good) (min x.l good) (by rw [List.length_take]; omega) (by rw [List.length_take]; omega)
    have hx1 : tLook (Dsk.fs { D with fs := tLay D.fs s ⟨x.b.take good, min x.l good⟩ }) s = some ⟨x.b.take good, min x.l good⟩ := by simp only [tLook_lay, if_pos]
    have e2 := step_free (D := { D with fs := tLay D.fs s ⟨x.b.take good, min x.l good⟩ }) (s := s) fSync h1.left (by exact h.left) hs hx1
    have h2 := h1.relay hx1 (x.b.take good) (x.b.take good).length (Nat.le_refl _) (Nat.le_refl _)
    exact ⟨_, (x.b.take good).length, e2, h2, rfl, by simp only [fSync, tLook_lay, if_pos], fun t ht => by simp only [fSync, tLook_lay, if_neg ht]⟩
  · rw [if_neg hg]
    exact ⟨D, x.l, rfl, h, rfl, by rw [hx, List.take_of_length_le (by omega)], fun _ _ => rfl⟩
theorem logOf_free {D : Dsk} {s : Nm} {x : Fil} {u m base good : Nat} {recs qs : List (List UInt8)} {la : Int} (h : Free D u m) (hs : badN s = false) (hx : tLook D.fs s = some x) (hsc : scanL (x.b.length + 1) x.b = (recs, good)) (htk : takesP base (-1) [] recs = some (la, qs)) :
    ∃ D', logOf D s base x.b = (D', 0, qs) ∧ Free D' u m ∧ D'.room = D.room ∧ (qs ≠ [] → ∃ l', tLook D'.fs s = some ⟨x.b.take good, l'⟩) ∧ (qs = [] → tLook D'.fs s = none) ∧ ∀ t, t ≠ s → tLook D'.fs t = tLook D.fs t := by
  obtain ⟨D1, l1, e1, f1, r1, x1, o1⟩ := cutIf_free h good hs hx
  unfold logOf
  rw [hsc]
  simp only
  rw [htk]
  simp only
  unfold logFin
  rw [e1, if_neg (fun h => h rfl)]
  simp only
  unfold emptyIf
  by_cases hq : qs = []
  · subst hq
    simp only [List.length_nil, if_true]
    have e2 := step_free (D := D1) (s := s) fRemove f1.left f1.left hs x1
    rw [e2]
    have f2 := f1.gone s
    exact ⟨_, rfl, f2, r1, fun h => absurd rfl h, fun _ => by simp only [fRemove, tLook_gone f1.ok.srt, if_pos], fun t ht => by simp only [fRemove, tLook_gone f1.ok.srt, if_neg ht]; exact o1 t ht⟩
  · have hq0 : ¬ qs.length = 0 := fun e => hq (List.length_eq_zero_iff.1 e)
    simp only [if_neg hq0]
    exact ⟨D1, rfl, f1, r1, fun _ => ⟨l1, x1⟩, fun e => absurd e hq, o1⟩
/-- A log and no image: what opening finds. -/
theorem opn_log {D : Dsk} {p : Nm} {x : Fil} {u m good : Nat} {qs : List (List UInt8)} (h : Free D u m) (hp : p.length ≤ 20) (hx : tLook D.fs (logN p) = some x) (h1 : tLook D.fs (shadow (imgN p)) = none) (h2 : tLook D.fs (imgN p) = none)
    (hsc : scanL (x.b.length + 1) x.b = (entsP 1 qs, good)) (hq : qs.length ≤ 1099511627776) (hqb : ∀ b ∈ qs, b.length ≤ 1073741824) :
    ∃ D', opn D p = (D', 0, ⟨0, [], qs, false⟩) ∧ Free D' u m ∧ D'.room = D.room ∧ (qs ≠ [] → ∃ l', tLook D'.fs (logN p) = some ⟨x.b.take good, l'⟩) ∧ (qs = [] → tLook D'.fs (logN p) = none) ∧ ∀ t, t ≠ logN p → tLook D'.fs t = tLook D.fs t := by
  have e1 : rmvs D [shadow (imgN p)] = (D, 0) := by simp [rmvs, kW1_none h1]
  have e2 : kLoad D (imgN p) = ([], 7) := by unfold kLoad dRead; rw [h2]; simp
  have e3 : imgL D p = (0, [], 0) := by unfold imgL; rw [e2]; simp
  obtain ⟨la, htk⟩ := takesP_next (base := 0) qs [] (-1) 1 (by simp) (by omega) hqb (.inl (by omega))
  rw [List.nil_append] at htk
  obtain ⟨D', e4, f4, r4, n4, z4, o4⟩ := logOf_free h (logN_bad hp) hx hsc htk
  have e5 : logL D p 0 = (D', 0, qs) := by unfold logL; rw [hx]; exact e4
  refine ⟨D', ?_, f4, r4, n4, z4, o4⟩
  unfold opn opn2
  rw [e1]
  simp only [ne_eq, not_true_eq_false, if_false]
  unfold opn3
  rw [e3]
  simp only [ne_eq, not_true_eq_false, if_false]
  rw [e5]
theorem crash0_look {D : Dsk} {s : Nm} {b : List UInt8} (hx : tLook D.fs s = some ⟨b, b.length⟩) : tLook (dCrash D 0).fs s = some ⟨b, b.length⟩ := by
  unfold dCrash
  simp only [tLook_mapv, hx, Option.map_some]
  unfold cutF
  simp [Nat.mod_one]
theorem recsB_one (l : List (List UInt8)) (b : List UInt8) : recsB (l ++ [b]) = recsB l ++ recL b := by
  unfold recsB
  rw [List.flatMap_append]
  simp
theorem ents_push (qs : List (List UInt8)) (k : Nat) (b : List UInt8) : recsB (entsP k (qs ++ [b])) = recsB (entsP k qs) ++ entB (k + qs.length) b := by
  rw [entsP_app, entsP, entsP, recsB_one]
  rfl
theorem entsP_mem {qs : List (List UInt8)} {k M : Nat} (hb : ∀ b ∈ qs, b.length ≤ M) (hk : k + qs.length ≤ 1099511627777) (hM : M ≤ 1000000) : ∀ e ∈ entsP k qs, e.length ≤ 1048576 := by
  induction qs generalizing k with
  | nil => intro e he; simp [entsP] at he
  | cons b r ih =>
    intro e he
    simp only [List.length_cons] at hk
    rw [entsP, List.mem_cons] at he
    rcases he with rfl | he
    · have := hb b (by simp)
      have := entry_len k b (by omega) (by omega)
      omega
    · exact ih (k := k + 1) (fun x hx => hb x (by simp [hx])) (by omega) e he
end Go.Proofs.Ythonmjgagblogaa
