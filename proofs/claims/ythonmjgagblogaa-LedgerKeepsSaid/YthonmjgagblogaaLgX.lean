/-
  A ledger on a disk whose fuse is lit: plain laws. By the session itself.
-/
import Derived.Test.YthonmjgagblogaaLgW
namespace Go.Proofs.Ythonmjgagblogaa
set_option linter.unusedSimpArgs false
set_option linter.unusedVariables false
set_option maxRecDepth 100000
set_option maxHeartbeats 1000000
open Go.Vc Go.RowKit

/-- An image written on a disk whose fuse may burn. -/
theorem write_lit {D : Dsk} {ps : List (List UInt8)} {u m n : Nat} {b : List UInt8} {lf : Option Nat} (h : Sta D 0 [] ps u m) (sy : Sy D) (hlf : ∀ k, lf = some k → k ≤ 9223372036854775807) (hn : ps.length ≤ n) (hn2 : n ≤ 10000) (hb : b.length ≤ 1000) (hqb : ∀ b ∈ ps, b.length ≤ 65536) (hu : u + b.length + 30 ≤ 65536) (hm : m < 4095) :
    ∃ D3 L3 e, lWrite { D with left := lf } [97] ⟨0, [], ps, false⟩ n b = (D3, L3, e) ∧ (e = 0 ∨ e = 9) ∧ ∀ d, (dCrash D3 d).Ok → ∃ D4 base data qs, opn (dCrash D3 d) [97] = (D4, 0, ⟨base, data, qs, false⟩) ∧ Sta D4 base data qs (u + b.length + 30) (m + 1) ∧ ((base = n ∧ data = b ∧ qs = []) ∨ (e = 9 ∧ base = 0 ∧ data = [] ∧ qs = ps)) := by
  have okF : Dsk.Ok { D with left := lf } := ⟨h.free.ok.srt, h.free.ok.room, h.free.ok.used, h.free.ok.many, h.free.ok.lasts, fun k hk => hlf k hk, h.free.ok.names⟩
  have hcl := entry_len n b (by omega) (by omega)
  have hrl := recL_len (numB n ++ rowB b)
  have hus := h.free.used
  have hms := h.free.many
  have hroom := h.room
  have hll : (⟨0, [], ps, false⟩ : Led).last = ps.length := by simp [Led.last]
  have hil : (imgN [97]).length = 5 := rfl
  have hsv := kSave_out okF (s := imgN [97]) (p := numB n ++ rowB b) (by omega) (by omega) (by omega) h.sh (by show D.used + _ + _ ≤ D.room; omega) (by show D.fs.length < 4096; omega)
  have hsr := kSave_room { D with left := lf } (imgN [97]) (numB n ++ rowB b)
  unfold lWrite
  rw [if_neg (by simp), if_neg (by rw [hll]; omega), if_neg (by omega), Int.toNat_natCast]
  generalize kSave { D with left := lf } (imgN [97]) (numB n ++ rowB b) = R at *
  obtain ⟨DR, er⟩ := R
  simp only at hsv hsr
  have him := img_log [97]
  rcases hsv with ⟨rfl, hfs, _, _⟩ | ⟨rfl, _, hfs⟩
  · -- the image is written
    have hw : wrS (DR, 0) (logN [97]) = rmvs DR [logN [97]] := by unfold wrS; rw [if_neg (fun h => h rfl)]
    rw [hw]
    have fl := h.free.lay (s := imgN [97]) (b := recL (numB n ++ rowB b)) (l := (recL (numB n ++ rowB b)).length) (Nat.le_refl _) (by omega) (by omega) (by omega)
    have hsrt : Srt (tLay D.fs (imgN [97]) (⟨recL (numB n ++ rowB b), (recL (numB n ++ rowB b)).length⟩ : Fil)) := h.free.ok.srt.tLay _ _
    have hlg : tLook DR.fs (logN [97]) = tLook D.fs (logN [97]) := by rw [hfs]; simp only [tLook_lay, if_neg him.symm]
    -- without the log
    have A0 : ∀ D3 : Dsk, D3.fs = tGone DR.fs (logN [97]) → D3.room = DR.room → ∀ d, (dCrash D3 d).Ok → ∃ D4 base data qs, opn (dCrash D3 d) [97] = (D4, 0, ⟨base, data, qs, false⟩) ∧ Sta D4 base data qs (u + b.length + 30) (m + 1) ∧ ((base = n ∧ data = b ∧ qs = [])) := fun D3 h3 h3r d ok => by
      have fg := fl.gone (logN [97])
      have st : Sta { D with fs := tGone (tLay D.fs (imgN [97]) (⟨recL (numB n ++ rowB b), (recL (numB n ++ rowB b)).length⟩ : Fil)) (logN [97]) } n b [] (u + b.length + 30) (m + 1) :=
        ⟨fg.mono (by omega) (Nat.le_refl _), hroom, by simp only [tLook_gone hsrt, if_neg logs_ne, tLook_lay, if_neg (img_sh [97]).symm]; exact h.sh, .inr (by simp only [tLook_gone hsrt, if_neg him, tLook_lay, if_pos]), .inl ⟨rfl, by simp only [tLook_gone hsrt, if_pos]⟩⟩
      obtain ⟨D4, e4, s4⟩ := st.op (by omega) (by omega) (by simp) (by simp)
      refine ⟨D4, n, b, [], ?_, s4, rfl, rfl, rfl⟩
      rw [opn_crash ok (E := { D with fs := tGone (tLay D.fs (imgN [97]) (⟨recL (numB n ++ rowB b), (recL (numB n ++ rowB b)).length⟩ : Fil)) (logN [97]) }) (hsrt.tGone _) (by rw [h3r, hsr]) h.free.left ?_]
      · exact e4
      · intro t
        rw [h3, hfs]
        simp only [tLook_gone hsrt]
        by_cases t1 : t = shadow (imgN [97])
        · rw [if_pos t1, t1, if_neg logs_ne, tLook_lay, if_neg (img_sh [97]).symm]
          exact h.sh
        · rw [if_neg t1]
          by_cases t2 : t = logN [97]
          · rw [if_pos t2]; rfl
          · rw [if_neg t2, tLook_lay]
            by_cases t3 : t = imgN [97]
            · rw [if_pos t3, Option.map_some, cutF_whole]
            · rw [if_neg t3]
              cases hx : tLook D.fs t with
              | none => rfl
              | some x => rw [Option.map_some, cutF_sy (sy t x hx)]
    cases hx : tLook D.fs (logN [97]) with
    | none =>
      have hr : rmvs DR [logN [97]] = (DR, 0) := by simp [rmvs, kW1_none (hlg.trans hx)]
      rw [hr]
      unfold wrL
      rw [if_neg (fun h => h rfl)]
      refine ⟨_, _, _, rfl, .inl rfl, fun d ok => ?_⟩
      obtain ⟨D4, base, data, qs, e4, s4, q⟩ := A0 DR (gone_none (hlg.trans hx)).symm rfl d ok
      exact ⟨D4, base, data, qs, e4, s4, .inl q⟩
    | some x =>
      have hbl : badN (logN [97]) = false := logN_bad (by simp)
      have hmay : mayL DR [logN [97]] = if DR.left = some 0 then 9 else 0 := mayL_good (by simp [hbl])
      have hk : kW1 DR (logN [97]) = dEach fRemove DR [logN [97]] := kW1_some (hlg.trans hx)
      by_cases l0 : DR.left = some 0
      · have hst : dEach fRemove DR [logN [97]] = (DR, 9) := by
          simp only [dEach, dStep, hmay, if_pos l0]
          simp
        have hr : rmvs DR [logN [97]] = (DR, 9) := by simp [rmvs, hk, hst]
        rw [hr]
        unfold wrL
        rw [if_pos (show (9 : Nat) ≠ 0 by decide)]
        refine ⟨_, _, _, rfl, .inr rfl, fun d ok => ?_⟩
        have hlog : ∃ l, tLook D.fs (logN [97]) = some ⟨recsB (entsP 1 ps), l⟩ := by
          rcases h.log with ⟨_, h2⟩ | ⟨l, h2⟩
          · rw [hx] at h2; cases h2
          · exact ⟨l, h2⟩
        obtain ⟨l, hlog⟩ := hlog
        obtain ⟨D4, e4, s4⟩ := opn_old (D := { D with fs := tLay D.fs (imgN [97]) ⟨recL (numB n ++ rowB b), (recL (numB n ++ rowB b)).length⟩ }) (n := n) (l := l) (data := b) (ps := ps) (fl.mono (u' := u + b.length + 30) (by omega) (Nat.le_refl _)) hroom (by simp only [tLook_lay, if_neg (img_sh [97]).symm]; exact h.sh) (by simp only [tLook_lay, if_pos]) (by simp only [tLook_lay, if_neg him.symm]; exact hlog) (by omega) hn (by omega) hqb
        refine ⟨D4, n, b, [], ?_, s4, .inl ⟨rfl, rfl, rfl⟩⟩
        rw [opn_crash ok (E := { D with fs := tLay D.fs (imgN [97]) ⟨recL (numB n ++ rowB b), (recL (numB n ++ rowB b)).length⟩ }) hsrt (by rw [hsr]) h.free.left ?_]
        · exact e4
        · intro t
          rw [hfs]
          simp only [tLook_lay]
          by_cases t1 : t = shadow (imgN [97])
          · rw [if_pos t1, t1, if_neg (img_sh [97]).symm]
            exact h.sh
          · rw [if_neg t1]
            by_cases t3 : t = imgN [97]
            · rw [if_pos t3, Option.map_some, cutF_whole]
            · rw [if_neg t3]
              cases hx : tLook D.fs t with
              | none => rfl
              | some x => rw [Option.map_some, cutF_sy (sy t x hx)]
      · have hst : dEach fRemove DR [logN [97]] = ((fRemove DR (logN [97]) x).done, 0) := by
          simp only [dEach, dStep, hmay, if_neg l0, hlg.trans hx]
          simp
        have hr : rmvs DR [logN [97]] = ((fRemove DR (logN [97]) x).done, 0) := by simp [rmvs, hk, hst]
        rw [hr]
        unfold wrL
        rw [if_neg (fun h => h rfl)]
        refine ⟨_, _, _, rfl, .inl rfl, fun d ok => ?_⟩
        obtain ⟨D4, base, data, qs, e4, s4, q⟩ := A0 (fRemove DR (logN [97]) x).done rfl rfl d ok
        exact ⟨D4, base, data, qs, e4, s4, .inl q⟩
  · -- it is not
    have hw : wrS (DR, 9) (logN [97]) = (DR, 9) := by unfold wrS; rw [if_pos (show (9 : Nat) ≠ 0 by decide)]
    rw [hw]
    unfold wrL
    rw [if_pos (show (9 : Nat) ≠ 0 by decide)]
    refine ⟨_, _, _, rfl, .inr rfl, fun d ok => ?_⟩
    obtain ⟨D4, e4, s4⟩ := h.op (by omega) (by simp) (by omega) hqb
    refine ⟨D4, 0, [], ps, ?_, s4.mono (by omega) (by omega), .inr ⟨rfl, rfl, rfl, rfl⟩⟩
    rw [opn_crash ok (E := D) h.free.ok.srt (by rw [hsr]) h.free.left ?_]
    · exact e4
    · intro t
      by_cases t1 : t = shadow (imgN [97])
      · rw [if_pos t1, t1]
        exact h.sh
      · rw [if_neg t1, hfs t t1]
        show tLook D.fs t = (tLook D.fs t).map _
        cases hx : tLook D.fs t with
        | none => rfl
        | some x => rw [Option.map_some, cutF_sy (sy t x hx)]
/-- Entries that stand, and nothing beside. -/
structure Li (D : Dsk) (ps : List (List UInt8)) (u m : Nat) : Prop where
  sta : Sta D 0 [] ps u m
  sy : Sy D
  on : ∀ t, t ≠ logN [97] → tLook D.fs t = none
def Fz (lf : Option Nat) : Prop := ∀ k, lf = some k → k ≤ 9223372036854775807
theorem Fz.dn {lf : Option Nat} (h : Fz lf) : Fz (lf.map (· - 1)) := fun k hk => by
  cases lf with
  | none => cases hk
  | some n =>
    have := h n rfl
    simp only [Option.map_some, Option.some.injEq] at hk
    omega
/-- A disk behind a crash on which the entries stand. -/
theorem Li.crash {D : Dsk} {ps : List (List UInt8)} {u m : Nat} {lf : Option Nat} (h : Li D ps u m) (hq : ps.length ≤ 1000) (hqb : ∀ b ∈ ps, b.length ≤ 65536) (d : Int) (ok : (dCrash { D with left := lf } d).Ok) : ∃ D4, opn (dCrash { D with left := lf } d) [97] = (D4, 0, ⟨0, [], ps, false⟩) := by
  obtain ⟨D4, e4, s4⟩ := h.sta.op (by omega) (by simp) (by omega) hqb
  refine ⟨D4, ?_⟩
  rw [opn_crash ok (E := D) h.sta.free.ok.srt rfl h.sta.free.left ?_]
  · exact e4
  · intro t
    by_cases t1 : t = shadow (imgN [97])
    · rw [if_pos t1, t1]
      exact h.sta.sh
    · rw [if_neg t1]
      show tLook D.fs t = (tLook D.fs t).map _
      cases hx : tLook D.fs t with
      | none => rfl
      | some x => rw [Option.map_some, cutF_sy (h.sy t x hx)]
/-- An entry of which a part may last. -/
theorem Li.half {D E : Dsk} {ps : List (List UInt8)} {b : List UInt8} {u m : Nat} (h : Li D ps u m) (hb : b.length ≤ 65536) (hu : u + b.length + 30 ≤ 65536) (hm : m < 4095) (hq : ps.length ≤ 999) (hqb : ∀ b ∈ ps, b.length ≤ 65536)
    (hE : E.fs = tLay D.fs (logN [97]) ⟨logB (ps ++ [b]), (logB ps).length⟩) (hr : E.room = D.room) (d : Int) (ok : (dCrash E d).Ok) : ∃ D4 qs, opn (dCrash E d) [97] = (D4, 0, ⟨0, [], qs, false⟩) ∧ (qs = ps ∨ qs = ps ++ [b]) := by
  have hX : logB (ps ++ [b]) = logB ps ++ entB (1 + ps.length) b := ents_push ps 1 b
  have hel : (entB (1 + ps.length) b).length ≤ b.length + 30 := by
    have := entry_len (1 + ps.length) b (by omega) (by omega)
    unfold entB
    rw [recL_len]
    omega
  have hfl : (logB (ps ++ [b])).length = (logB ps).length + (entB (1 + ps.length) b).length := by rw [hX, List.length_append]
  obtain ⟨t, ht⟩ : ∃ t, t = (logB ps).length + d.toNat % ((logB (ps ++ [b])).length - (logB ps).length + 1) := ⟨_, rfl⟩
  have htl : t ≤ (logB (ps ++ [b])).length := by
    have := Nat.mod_lt d.toNat (show (logB (ps ++ [b])).length - (logB ps).length + 1 > 0 by omega)
    omega
  have hcut : cutF d.toNat ⟨logB (ps ++ [b]), (logB ps).length⟩ = ⟨(logB (ps ++ [b])).take t, t⟩ := by unfold cutF; simp only [← ht]
  have hfile : (logB ps).length ≤ u := by
    have h1 := used_lay h.sta.free.ok (logN [97]) ⟨[], 0⟩
    have h2 := h.sta.free.used
    have h3 : (fileD D (logN [97])).b = logB ps := h.sta.file
    rw [h3] at h1
    simp only [List.length_nil] at h1
    omega
  have fr : Free { D with fs := tLay D.fs (logN [97]) ⟨(logB (ps ++ [b])).take t, t⟩ } (u + (u + b.length + 30)) (m + 1) := by
    have hul := used_lay h.sta.free.ok (logN [97]) ⟨(logB (ps ++ [b])).take t, t⟩
    have hll := lay_len h.sta.free.ok.srt (logN [97]) (⟨(logB (ps ++ [b])).take t, t⟩ : Fil)
    have h2 := h.sta.free.used
    have h4 := h.sta.free.many
    have h5 := h.sta.room
    have h3 : (fileD D (logN [97])).b = logB ps := h.sta.file
    have h6 : ((tLook D.fs (logN [97])).getD .none).b = logB ps := h3
    have htk : ((logB (ps ++ [b])).take t).length = t := by rw [List.length_take]; omega
    rw [h3] at hul
    simp only [htk] at hul
    refine ⟨h.sta.free.ok.lay _ _ (by simp only [htk]; omega) (by rw [h6]; simp only [htk]; omega) (fun _ => by omega) (by decide), h.sta.free.left, by omega, ?_⟩
    simp only [hll]
    split <;> omega
  obtain ⟨n, hn1, hn2, hn3, hn4⟩ : ∃ n, n ≤ (ps ++ [b]).length ∧ (logB ((ps ++ [b]).take n)).length ≤ t ∧ (n = (ps ++ [b]).length ∨ t < (logB ((ps ++ [b]).take (n + 1))).length) ∧ ((ps ++ [b]).take n = ps ∨ (ps ++ [b]).take n = ps ++ [b]) := by
    have hl1 : (ps ++ [b]).length = ps.length + 1 := by simp
    have tk1 : (ps ++ [b]).take ps.length = ps := List.take_left' rfl
    have tk2 : (ps ++ [b]).take (ps.length + 1) = ps ++ [b] := List.take_of_length_le (by omega)
    by_cases hlt : t < (logB (ps ++ [b])).length
    · exact ⟨ps.length, by omega, by rw [tk1]; omega, .inr (by rw [tk2]; exact hlt), .inl tk1⟩
    · exact ⟨ps.length + 1, by omega, by rw [tk2]; omega, .inl (by omega), .inr tk2⟩
  obtain ⟨D4, e4, _⟩ := opn_cut (D := { D with fs := tLay D.fs (logN [97]) ⟨(logB (ps ++ [b])).take t, t⟩ }) (ps := ps ++ [b]) (k := t) (n := n) (l := t) fr (by simp only [tLook_lay, if_pos]) (fun s hs => by simp only [tLook_lay, if_neg hs]; exact h.on s hs) htl hn1 hn2 hn3 (by simp; omega) (fun c hc => by
    rcases List.mem_append.1 hc with hc | hc
    · exact hqb c hc
    · rw [List.mem_singleton.1 hc]; exact hb)
  refine ⟨D4, _, ?_, hn4⟩
  rw [opn_crash ok (E := { D with fs := tLay D.fs (logN [97]) ⟨(logB (ps ++ [b])).take t, t⟩ }) (h.sta.free.ok.srt.tLay _ _) hr.symm h.sta.free.left ?_]
  · exact e4
  · intro s
    rw [hE]
    simp only [tLook_lay]
    by_cases s1 : s = shadow (imgN [97])
    · rw [if_pos s1, s1, if_neg logs_ne]
      exact h.sta.sh
    · rw [if_neg s1]
      by_cases s2 : s = logN [97]
      · rw [if_pos s2, if_pos s2, Option.map_some, hcut]
      · rw [if_neg s2, if_neg s2, h.on s s2]
        rfl
/-- An entry appended on a lit disk. -/
theorem Li.push {D : Dsk} {ps : List (List UInt8)} {b : List UInt8} {u m : Nat} {lf : Option Nat} (h : Li D ps u m) (hf : Fz lf) (hb : b.length ≤ 65536) (hu : u + b.length + 30 ≤ 65536) (hm : m < 4095) (hq : ps.length ≤ 999) (hqb : ∀ b ∈ ps, b.length ≤ 65536) :
    (∃ D' lf', lApp { D with left := lf } [97] ⟨0, [], ps, false⟩ b = ({ D' with left := lf' }, ⟨0, [], ps ++ [b], false⟩, ps.length + 1, 0) ∧ Li D' (ps ++ [b]) (u + b.length + 30) (m + 1) ∧ Fz lf') ∨
    ∃ E, lApp { D with left := lf } [97] ⟨0, [], ps, false⟩ b = (E, ⟨0, [], ps, true⟩, 0, 9) ∧ ∀ d, (dCrash E d).Ok → ∃ D4 qs, opn (dCrash E d) [97] = (D4, 0, ⟨0, [], qs, false⟩) ∧ (qs = ps ∨ qs = ps ++ [b]) := by
  have hll : (⟨0, [], ps, false⟩ : Led).last = ps.length := by simp [Led.last]
  have hX : logB (ps ++ [b]) = logB ps ++ entB (1 + ps.length) b := ents_push ps 1 b
  rw [Nat.add_comm 1] at hX
  have hel : (entB (ps.length + 1) b).length ≤ b.length + 30 := by
    have := entry_len (ps.length + 1) b (by omega) (by omega)
    unfold entB
    rw [recL_len]
    omega
  have hfile : (fileD D (logN [97])).b = logB ps := h.sta.file
  have hl : (fileD D (logN [97])).l = (logB ps).length := by
    cases hx : tLook D.fs (logN [97]) with
    | none =>
      have : fileD D (logN [97]) = .none := by unfold fileD; rw [hx]; rfl
      rw [this] at hfile ⊢
      rw [← hfile]
      rfl
    | some x =>
      have : fileD D (logN [97]) = x := by unfold fileD; rw [hx]; rfl
      rw [this] at hfile ⊢
      rw [h.sy _ x hx, hfile]
  obtain ⟨Du, eu, su, yu⟩ := h.sta.pushed h.sy b hb hu (by omega) (by omega)
  have efr := lApp_free (D := D) (p := [97]) (L := ⟨0, [], ps, false⟩) (b := b) h.sta.free.ok h.sta.free.left (by simp) rfl (by rw [hll]; omega) hb (by have := h.sta.free.used; have := h.sta.room; omega) (by have := h.sta.free.many; omega)
  rw [hll, hfile, ← hX] at efr
  have hDu : Du = { D with fs := tLay D.fs (logN [97]) ⟨logB (ps ++ [b]), (logB (ps ++ [b])).length⟩ } := by
    rw [efr] at eu
    exact (Prod.mk.inj eu).1.symm
  have hbl : badN (logN [97]) = false := logN_bad (by simp)
  have e0 : lApp { D with left := lf } [97] ⟨0, [], ps, false⟩ b = apL ⟨0, [], ps, false⟩ (apS (dAppend { D with left := lf } (logN [97]) (entB (ps.length + 1) b)) (logN [97])) b := by
    unfold lApp
    rw [if_neg (by simp), if_neg (by rw [hll]; omega), hll]
  rw [e0]
  have m1 : mayL { D with left := lf } [logN [97]] = if lf = some 0 then 9 else 0 := mayL_good (by simp [hbl])
  by_cases l0 : lf = some 0
  · have : dAppend { D with left := lf } (logN [97]) (entB (ps.length + 1) b) = ({ D with left := lf }, 9) := by
      unfold dAppend
      rw [m1, if_pos l0, if_pos (show (9 : Nat) ≠ 0 by decide)]
    rw [this]
    unfold apS
    rw [if_pos (show (9 : Nat) ≠ 0 by decide)]
    unfold apL
    rw [if_pos (show (9 : Nat) ≠ 0 by decide)]
    refine .inr ⟨_, rfl, fun d ok => ?_⟩
    obtain ⟨D4, e4⟩ := h.crash (by omega) hqb d ok
    exact ⟨D4, ps, e4, .inl rfl⟩
  · have hus := h.sta.free.used
    have hms := h.sta.free.many
    have hrm := h.sta.room
    have hA : dAppend { D with left := lf } (logN [97]) (entB (ps.length + 1) b) = ({ D with fs := tLay D.fs (logN [97]) ⟨logB (ps ++ [b]), (logB ps).length⟩, left := lf.map (· - 1) }, 0) := by
      unfold dAppend
      rw [m1, if_neg l0, if_neg (fun h => h rfl), if_neg (fun h => h.elim (fun h => by have : D.room < D.used + (entB (ps.length + 1) b).length := h; omega) fun h => by have : 4096 ≤ D.fs.length := h.2; omega)]
      have e1 : ((tLook D.fs (logN [97])).getD .none).b = logB ps := hfile
      have e2 : ((tLook D.fs (logN [97])).getD .none).l = (logB ps).length := hl
      simp only [e1, e2, hX]
      rfl
    rw [hA]
    unfold apS
    rw [if_neg (fun h => h rfl)]
    simp only
    obtain ⟨D1, hD1⟩ : ∃ D1 : Dsk, D1 = { D with fs := tLay D.fs (logN [97]) ⟨logB (ps ++ [b]), (logB ps).length⟩, left := lf.map (· - 1) } := ⟨_, rfl⟩
    rw [← hD1]
    have hx1 : tLook D1.fs (logN [97]) = some ⟨logB (ps ++ [b]), (logB ps).length⟩ := by rw [hD1]; simp only [tLook_lay, if_pos]
    have m2 : mayL D1 [logN [97]] = if D1.left = some 0 then 9 else 0 := mayL_good (by simp [hbl])
    by_cases l1 : D1.left = some 0
    · have hS : dEach fSync D1 [logN [97]] = (D1, 9) := by
        simp only [dEach, dStep, m2, if_pos l1]
        simp
      rw [hS]
      unfold apL
      rw [if_pos (show (9 : Nat) ≠ 0 by decide)]
      refine .inr ⟨_, rfl, fun d ok => ?_⟩
      exact h.half hb hu hm hq hqb (by rw [hD1]) (by rw [hD1]) d ok
    · have hS : dEach fSync D1 [logN [97]] = ((fSync D1 (logN [97]) ⟨logB (ps ++ [b]), (logB ps).length⟩).done, 0) := by
        simp only [dEach, dStep, m2, if_neg l1, hx1]
        simp
      rw [hS]
      unfold apL
      rw [if_neg (fun h => h rfl)]
      refine .inl ⟨Du, (lf.map (· - 1)).map (· - 1), ?_, ⟨su, yu, fun t ht => ?_⟩, hf.dn.dn⟩
      · rw [hll]
        have e3 : (fSync D1 (logN [97]) ⟨logB (ps ++ [b]), (logB ps).length⟩).done = { Du with left := (lf.map (· - 1)).map (· - 1) } := by
          rw [hDu, hD1]
          unfold fSync Dsk.done
          simp only [lay_lay h.sta.free.ok.srt]
        rw [e3]
      · rw [hDu]
        simp only [tLook_lay, if_neg ht]
        exact h.on t ht
end Go.Proofs.Ythonmjgagblogaa
