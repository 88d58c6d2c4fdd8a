/-
  A ledger whose image was to be written when the disk's fuse burnt: plain laws. By the session itself.
-/
import Derived.Test.YthonmjgagblogaaLgU
namespace Go.Proofs.Ythonmjgagblogaa
set_option linter.unusedSimpArgs false
set_option linter.unusedVariables false
set_option maxRecDepth 100000
set_option maxHeartbeats 1000000
open Go.Vc Go.RowKit

theorem imgL_none {D : Dsk} {p : Nm} (h2 : tLook D.fs (imgN p) = none) : imgL D p = (0, [], 0) := by
  have e2 : kLoad D (imgN p) = ([], 7) := by unfold kLoad dRead; rw [h2]; simp
  unfold imgL; rw [e2]; simp
theorem imgL_some {D : Dsk} {p : Nm} {n l : Nat} {b : List UInt8} (hn : n ≤ 1099511627776) (hb : b.length ≤ 524288) (h2 : tLook D.fs (imgN p) = some ⟨recL (numB n ++ rowB b), l⟩) : imgL D p = (n, b, 0) := by
  have hcl := entry_len n b (by omega) (by omega)
  have e2 : kLoad D (imgN p) = (numB n ++ rowB b, 0) := by
    unfold kLoad dRead
    rw [h2]
    simp only
    rw [one_rec _ (by omega)]
    simp
  unfold imgL
  rw [e2]
  simp only
  rw [numRow_ent n b (by omega) (by omega)]
  simp
  omega
/-- The shadow of an image is taken away first. -/
theorem opn_sh {D : Dsk} {p : Nm} (ok : D.Ok) (hl : D.left = none) (hp : p.length ≤ 20) : opn D p = opn { D with fs := tGone D.fs (shadow (imgN p)) } p := by
  have hs : badN (shadow (imgN p)) = false := by
    have : (shadow (imgN p)).length = p.length + 5 := by simp [shadow, imgN]
    unfold badN
    rw [decide_eq_false (by omega), decide_eq_false (by omega)]; rfl
  have e1 := rmvs1_free (D := D) (s := shadow (imgN p)) hl hs
  have e2 : rmvs { D with fs := tGone D.fs (shadow (imgN p)) } [shadow (imgN p)] = ({ D with fs := tGone D.fs (shadow (imgN p)) }, 0) := by
    have : tLook (Dsk.fs { D with fs := tGone D.fs (shadow (imgN p)) }) (shadow (imgN p)) = none := by simp only [tLook_gone ok.srt, if_pos]
    simp [rmvs, kW1_none this]
  unfold opn
  rw [e1, e2]
/-- What lies on a disk for the ledger 'a': the image, the log, and nothing beside. -/
structure Sta (D : Dsk) (base : Nat) (data : List UInt8) (qs : List (List UInt8)) (u m : Nat) : Prop where
  free : Free D u m
  room : D.room = 65536
  sh : tLook D.fs (shadow (imgN [97])) = none
  img : (base = 0 ∧ data = [] ∧ tLook D.fs (imgN [97]) = none) ∨ tLook D.fs (imgN [97]) = some ⟨recL (numB base ++ rowB data), (recL (numB base ++ rowB data)).length⟩
  log : (qs = [] ∧ tLook D.fs (logN [97]) = none) ∨ ∃ l, tLook D.fs (logN [97]) = some ⟨recsB (entsP (base + 1) qs), l⟩
theorem Sta.im {D : Dsk} {base u m : Nat} {data : List UInt8} {qs : List (List UInt8)} (h : Sta D base data qs u m) (hn : base ≤ 1099511627776) (hb : data.length ≤ 524288) : imgL D [97] = (base, data, 0) := by
  rcases h.img with ⟨rfl, rfl, h2⟩ | h2
  · exact imgL_none h2
  · exact imgL_some hn hb h2
theorem Sta.file {D : Dsk} {base u m : Nat} {data : List UInt8} {qs : List (List UInt8)} (h : Sta D base data qs u m) : (fileD D (logN [97])).b = recsB (entsP (base + 1) qs) := by
  unfold fileD
  rcases h.log with ⟨rfl, h2⟩ | ⟨l, h2⟩
  · rw [h2]; rfl
  · rw [h2]; rfl
/-- An entry appended. -/
theorem Sta.push {D : Dsk} {base u m : Nat} {data : List UInt8} {qs : List (List UInt8)} (h : Sta D base data qs u m) (b : List UInt8) (hb : b.length ≤ 65536) (hu : u + b.length + 30 ≤ 65536) (hm : m < 4096) (h40 : base + qs.length < 1099511627776) :
    ∃ D', lApp D [97] ⟨base, data, qs, false⟩ b = (D', ⟨base, data, qs ++ [b], false⟩, base + qs.length + 1, 0) ∧ Sta D' base data (qs ++ [b]) (u + b.length + 30) (m + 1) ∧ tLook D'.fs (logN [97]) = some ⟨recsB (entsP (base + 1) (qs ++ [b])), (recsB (entsP (base + 1) (qs ++ [b]))).length⟩ := by
  have hll : (⟨base, data, qs, false⟩ : Led).last = base + qs.length := rfl
  obtain ⟨D', e, f, r, x, o⟩ := lApp_out (p := [97]) (L := ⟨base, data, qs, false⟩) (b := b) h.free (by simp) rfl (by rw [hll]; exact h40) hb (by rw [h.room]; exact hu) hm
  rw [hll] at e x
  have hf : (fileD D (logN [97])).b ++ entB (base + qs.length + 1) b = recsB (entsP (base + 1) (qs ++ [b])) := by
    rw [h.file, ents_push, show base + 1 + qs.length = base + qs.length + 1 by omega]
  rw [hf] at x
  exact ⟨D', e, ⟨f, r.trans h.room, by rw [o _ logs_ne, h.sh], by rw [o _ logi_ne]; exact h.img, .inr ⟨_, x⟩⟩, x⟩
/-- Every file's bytes last. -/
def Sy (D : Dsk) : Prop := ∀ t x, tLook D.fs t = some x → x.l = x.b.length
theorem Sta.pushed {D : Dsk} {base u m : Nat} {data : List UInt8} {qs : List (List UInt8)} (h : Sta D base data qs u m) (sy : Sy D) (b : List UInt8) (hb : b.length ≤ 65536) (hu : u + b.length + 30 ≤ 65536) (hm : m < 4096) (h40 : base + qs.length < 1099511627776) :
    ∃ D', lApp D [97] ⟨base, data, qs, false⟩ b = (D', ⟨base, data, qs ++ [b], false⟩, base + qs.length + 1, 0) ∧ Sta D' base data (qs ++ [b]) (u + b.length + 30) (m + 1) ∧ Sy D' := by
  obtain ⟨D1, e1, s1, x1⟩ := h.push b hb hu hm h40
  have hll : (⟨base, data, qs, false⟩ : Led).last = base + qs.length := rfl
  obtain ⟨D', e, f, r, x, o⟩ := lApp_out (p := [97]) (L := ⟨base, data, qs, false⟩) (b := b) h.free (by simp) rfl (by rw [hll]; exact h40) hb (by rw [h.room]; exact hu) hm
  have eD : D1 = D' := by
    rw [e1] at e
    exact (Prod.mk.inj e).1
  subst eD
  refine ⟨D1, e1, s1, fun t y hy => ?_⟩
  by_cases ht : t = logN [97]
  · rw [ht, x1] at hy
    cases hy
    rfl
  · rw [o t ht] at hy
    exact sy t y hy
theorem scan_all (es : List (List UInt8)) (he : ∀ e ∈ es, e.length ≤ 1048576) : scanL ((recsB es).length + 1) (recsB es) = (es, (recsB es).length) := by
  have := scan_cut es he es.length (recsB es).length ((recsB es).length + 1) (Nat.le_refl _) (by rw [List.take_length]; exact Nat.le_refl _) (.inl rfl) (Nat.le_refl _) (by omega)
  rw [List.take_length, List.take_length] at this
  exact this
/-- What stands is found. -/
theorem Sta.op {D : Dsk} {base u m : Nat} {data : List UInt8} {qs : List (List UInt8)} (h : Sta D base data qs u m) (hn : base ≤ 10000) (hb : data.length ≤ 524288) (hq : qs.length ≤ 10000) (hqb : ∀ b ∈ qs, b.length ≤ 65536) :
    ∃ D', opn D [97] = (D', 0, ⟨base, data, qs, false⟩) ∧ Sta D' base data qs u m := by
  have e1 : rmvs D [shadow (imgN [97])] = (D, 0) := by simp [rmvs, kW1_none h.sh]
  have e3 := h.im (by omega) hb
  have fin : ∀ D', logL D [97] base = (D', 0, qs) → opn D [97] = (D', 0, ⟨base, data, qs, false⟩) := fun D' e => by
    unfold opn opn2
    rw [e1]
    simp only [ne_eq, not_true_eq_false, if_false]
    unfold opn3
    rw [e3]
    simp only [ne_eq, not_true_eq_false, if_false]
    rw [e]
  rcases h.log with ⟨hq0, h2⟩ | ⟨l, h2⟩
  · exact ⟨D, fin D (by unfold logL; rw [h2, hq0]), h⟩
  · obtain ⟨la, htk⟩ := takesP_next (base := base) qs [] (-1) (base + 1) (by simp) (by omega) (fun b hb => by have := hqb b hb; omega) (.inl (by omega))
    rw [List.nil_append] at htk
    have hsc := scan_all (entsP (base + 1) qs) (entsP_mem hqb (by omega) (by omega))
    obtain ⟨D', e4, f4, r4, n4, z4, o4⟩ := logOf_free h.free (logN_bad (p := [97]) (by simp)) h2 hsc htk
    refine ⟨D', fin D' (by unfold logL; rw [h2]; exact e4), f4, r4.trans h.room, by rw [o4 _ logs_ne, h.sh], by rw [o4 _ logi_ne]; exact h.img, ?_⟩
    by_cases hq0 : qs = []
    · exact .inl ⟨hq0, z4 hq0⟩
    · obtain ⟨l', hl'⟩ := n4 hq0
      simp only [List.take_length] at hl'
      exact .inr ⟨l', hl'⟩
/-- An image, and a log whose entries it has. -/
theorem opn_old {D : Dsk} {n u m l : Nat} {data : List UInt8} {ps : List (List UInt8)} (h : Free D u m) (hr : D.room = 65536) (hs : tLook D.fs (shadow (imgN [97])) = none) (hi : tLook D.fs (imgN [97]) = some ⟨recL (numB n ++ rowB data), (recL (numB n ++ rowB data)).length⟩)
    (hl : tLook D.fs (logN [97]) = some ⟨recsB (entsP 1 ps), l⟩) (hn : n ≤ 10000) (hpn : ps.length ≤ n) (hb : data.length ≤ 524288) (hqb : ∀ b ∈ ps, b.length ≤ 65536) :
    ∃ D', opn D [97] = (D', 0, ⟨n, data, [], false⟩) ∧ Sta D' n data [] u m := by
  have e1 : rmvs D [shadow (imgN [97])] = (D, 0) := by simp [rmvs, kW1_none hs]
  have e3 := imgL_some (p := [97]) (by omega) hb hi
  obtain ⟨la, htk⟩ := takesP_old (base := n) ps (-1) 1 (by omega) (by omega) (by omega) (fun b hb => by have := hqb b hb; omega) (.inl (by omega))
  have hsc := scan_all (entsP 1 ps) (entsP_mem hqb (by omega) (by omega))
  obtain ⟨D', e4, f4, r4, n4, z4, o4⟩ := logOf_free h (logN_bad (p := [97]) (by simp)) hl hsc htk
  refine ⟨D', ?_, f4, r4.trans hr, by rw [o4 _ logs_ne, hs], .inr (by rw [o4 _ logi_ne]; exact hi), .inl ⟨rfl, z4 rfl⟩⟩
  have e5 : logL D [97] n = (D', 0, []) := by unfold logL; rw [hl]; exact e4
  unfold opn opn2
  rw [e1]
  simp only [ne_eq, not_true_eq_false, if_false]
  unfold opn3
  rw [e3]
  simp only [ne_eq, not_true_eq_false, if_false]
  rw [e5]
theorem Free.lay {D : Dsk} {u m l : Nat} {s : Nm} {b : List UInt8} (h : Free D u m) (hl : l ≤ b.length) (hu : u + b.length ≤ D.room) (hm : m < 4096) (hs : s.length ≤ 64) : Free { D with fs := tLay D.fs s ⟨b, l⟩ } (u + b.length) (m + 1) := by
  have h1 := h.used
  have h2 := h.many
  have hul := used_lay h.ok s ⟨b, l⟩
  have hll := lay_len h.ok.srt s (⟨b, l⟩ : Fil)
  simp only at hul
  refine ⟨h.ok.lay _ _ hl (by simp only; omega) (fun _ => by omega) hs, h.left, by omega, ?_⟩
  simp only [hll]
  split <;> omega
theorem Free.mono {D : Dsk} {u u' m m' : Nat} (h : Free D u m) (hu : u ≤ u') (hm : m ≤ m') : Free D u' m' := ⟨h.ok, h.left, Nat.le_trans h.used hu, Nat.le_trans h.many hm⟩
theorem Sta.mono {D : Dsk} {base u u' m m' : Nat} {data : List UInt8} {qs : List (List UInt8)} (h : Sta D base data qs u m) (hu : u ≤ u') (hm : m ≤ m') : Sta D base data qs u' m' := ⟨h.free.mono hu hm, h.room, h.sh, h.img, h.log⟩
theorem done_room (D : Dsk) : D.done.room = D.room := rfl
theorem dEach1_room {D : Dsk} {s : Nm} (f : Dsk → Nm → Fil → Dsk) (hf : ∀ D s x, (f D s x).room = D.room) : (dEach f D [s]).1.room = D.room := by
  have h1 : (dStep f D s).1.room = D.room := by
    unfold dStep
    split
    · rfl
    · split
      · rfl
      · rw [done_room, hf]
  simp only [dEach]
  split
  · exact h1
  · exact h1
theorem dApp_room (D : Dsk) (s : Nm) (b : List UInt8) : (dAppend D s b).1.room = D.room := by
  unfold dAppend
  split
  · rfl
  · split <;> rfl
theorem dRen_room (D : Dsk) (a b : Nm) : (dRename D a b).1.room = D.room := by
  unfold dRename
  split
  · rfl
  · split <;> rfl
theorem kW1_room (D : Dsk) (s : Nm) : (kW1 D s).1.room = D.room := by
  unfold kW1
  split
  · exact dEach1_room _ fun _ _ _ => rfl
  · rfl
theorem kSave_room (D : Dsk) (s : Nm) (b : List UInt8) : (kSave D s b).1.room = D.room := by
  have h4 : ∀ E sh, (kW4 E sh s).1.room = E.room := fun E sh => by
    have h := dEach1_room (D := E) (s := sh) fSync fun _ _ _ => rfl
    unfold kW4
    split
    · exact h
    · rw [dRen_room, h]
  have h3 : ∀ E sh c, (kW3 E sh s c).1.room = E.room := fun E sh c => by
    unfold kW3
    split
    · exact dApp_room _ _ _
    · rw [h4, dApp_room]
  unfold kSave
  split
  · rfl
  · split
    · rfl
    · unfold kWhole
      split
      · exact kW1_room _ _
      · rw [h3, kW1_room]
theorem cutF_sy {d : Nat} {x : Fil} (h : x.l = x.b.length) : cutF d x = x := by
  obtain ⟨b, l⟩ := x
  simp only at h
  subst h
  exact cutF_whole d b
/-- A disk behind a crash, its shadow gone: what is left of it. -/
theorem opn_crash {D E : Dsk} {d : Int} (ok : (dCrash D d).Ok) (hE : Srt E.fs) (hr : E.room = D.room) (hl : E.left = none)
    (h : ∀ t, tLook E.fs t = if t = shadow (imgN [97]) then none else (tLook D.fs t).map (cutF d.toNat)) : opn (dCrash D d) [97] = opn E [97] := by
  rw [opn_sh ok rfl (by simp)]
  have e : ({ dCrash D d with fs := tGone (dCrash D d).fs (shadow (imgN [97])) } : Dsk) = E := by
    have : tGone (dCrash D d).fs (shadow (imgN [97])) = E.fs := tLook_ext (ok.srt.tGone _) hE fun t => by
      rw [tLook_gone ok.srt, h t]
      unfold dCrash
      simp only [tLook_mapv]
    rw [this]
    unfold dCrash
    obtain ⟨r, fs, lf⟩ := E
    simp only at hr hl ⊢
    rw [hr, hl]
  rw [e]
theorem write_burnt {D : Dsk} {ps : List (List UInt8)} {u m n : Nat} {b : List UInt8} {U : Int} (h : Sta D 0 [] ps u m) (sy : Sy D) (hU : 0 ≤ U ∧ U ≤ 1000) (hn : ps.length ≤ n) (hn2 : n ≤ 10000) (hb : b.length ≤ 1000) (hqb : ∀ b ∈ ps, b.length ≤ 65536) (hu : u + b.length + 30 ≤ 65536) (hm : m < 4095) :
    ∃ D3 L3 e, lWrite (dFuse D U) [97] ⟨0, [], ps, false⟩ n b = (D3, L3, e) ∧ (e = 0 ∨ e = 9) ∧ ∀ d, (dCrash D3 d).Ok → ∃ D4 base data qs, opn (dCrash D3 d) [97] = (D4, 0, ⟨base, data, qs, false⟩) ∧ Sta D4 base data qs (u + b.length + 30) (m + 1) ∧ ((base = n ∧ data = b ∧ qs = []) ∨ (e = 9 ∧ base = 0 ∧ data = [] ∧ qs = ps)) := by
  have ef : dFuse D U = { D with left := some U.toNat } := by unfold dFuse; rw [if_neg (by omega)]
  rw [ef]
  have okF : Dsk.Ok { D with left := some U.toNat } := ⟨h.free.ok.srt, h.free.ok.room, h.free.ok.used, h.free.ok.many, h.free.ok.lasts, fun k hk => by cases hk; omega, h.free.ok.names⟩
  have hcl := entry_len n b (by omega) (by omega)
  have hrl := recL_len (numB n ++ rowB b)
  have hus := h.free.used
  have hms := h.free.many
  have hroom := h.room
  have hll : (⟨0, [], ps, false⟩ : Led).last = ps.length := by simp [Led.last]
  have hil : (imgN [97]).length = 5 := rfl
  have hsv := kSave_out okF (s := imgN [97]) (p := numB n ++ rowB b) (by omega) (by omega) (by omega) h.sh (by show D.used + _ + _ ≤ D.room; omega) (by show D.fs.length < 4096; omega)
  have hsr := kSave_room { D with left := some U.toNat } (imgN [97]) (numB n ++ rowB b)
  unfold lWrite
  rw [if_neg (by simp), if_neg (by rw [hll]; omega), if_neg (by omega), Int.toNat_natCast]
  generalize kSave { D with left := some U.toNat } (imgN [97]) (numB n ++ rowB b) = R at *
  obtain ⟨DR, er⟩ := R
  simp only at hsv hsr
  have him := img_log [97]
  rcases hsv with ⟨rfl, hfs, _, _⟩ | ⟨rfl, _, hfs⟩
  · -- the image is written
    have hw : wrS (DR, 0) (logN [97]) = rmvs DR [logN [97]] := by unfold wrS; rw [if_neg (fun h => h rfl)]
    rw [hw]
    have fl := h.free.lay (s := imgN [97]) (b := recL (numB n ++ rowB b)) (l := (recL (numB n ++ rowB b)).length) (Nat.le_refl _) (by omega) (by omega) (by omega)
    have hsrt : Srt (tLay D.fs (imgN [97]) (⟨recL (numB n ++ rowB b), (recL (numB n ++ rowB b)).length⟩ : Fil)) := h.free.ok.srt.tLay _ _
    have hlg : tLook DR.fs (logN [97]) = tLook D.fs (logN [97]) := by rw [hfs]; simp only [tLook_lay, if_neg him.symm]
    -- without the log
    have A0 : ∀ D3 : Dsk, D3.fs = tGone DR.fs (logN [97]) → D3.room = DR.room → ∀ d, (dCrash D3 d).Ok → ∃ D4 base data qs, opn (dCrash D3 d) [97] = (D4, 0, ⟨base, data, qs, false⟩) ∧ Sta D4 base data qs (u + b.length + 30) (m + 1) ∧ ((base = n ∧ data = b ∧ qs = [])) := fun D3 h3 h3r d ok => by
      have fg := fl.gone (logN [97])
      have st : Sta { D with fs := tGone (tLay D.fs (imgN [97]) (⟨recL (numB n ++ rowB b), (recL (numB n ++ rowB b)).length⟩ : Fil)) (logN [97]) } n b [] (u + b.length + 30) (m + 1) :=
        ⟨fg.mono (by omega) (Nat.le_refl _), hroom, by simp only [tLook_gone hsrt, if_neg logs_ne, tLook_lay, if_neg (img_sh [97]).symm]; exact h.sh, .inr (by simp only [tLook_gone hsrt, if_neg him, tLook_lay, if_pos]), .inl ⟨rfl, by simp only [tLook_gone hsrt, if_pos]⟩⟩
      obtain ⟨D4, e4, s4⟩ := st.op (by omega) (by omega) (by simp) (by simp)
      refine ⟨D4, n, b, [], ?_, s4, rfl, rfl, rfl⟩
      rw [opn_crash ok (E := { D with fs := tGone (tLay D.fs (imgN [97]) (⟨recL (numB n ++ rowB b), (recL (numB n ++ rowB b)).length⟩ : Fil)) (logN [97]) }) (hsrt.tGone _) (by rw [h3r, hsr]) h.free.left ?_]
      · exact e4
      · intro t
        rw [h3, hfs]
        simp only [tLook_gone hsrt]
        by_cases t1 : t = shadow (imgN [97])
        · rw [if_pos t1, t1, if_neg logs_ne, tLook_lay, if_neg (img_sh [97]).symm]
          exact h.sh
        · rw [if_neg t1]
          by_cases t2 : t = logN [97]
          · rw [if_pos t2]; rfl
          · rw [if_neg t2, tLook_lay]
            by_cases t3 : t = imgN [97]
            · rw [if_pos t3, Option.map_some, cutF_whole]
            · rw [if_neg t3]
              cases hx : tLook D.fs t with
              | none => rfl
              | some x => rw [Option.map_some, cutF_sy (sy t x hx)]
    cases hx : tLook D.fs (logN [97]) with
    | none =>
      have hr : rmvs DR [logN [97]] = (DR, 0) := by simp [rmvs, kW1_none (hlg.trans hx)]
      rw [hr]
      unfold wrL
      rw [if_neg (fun h => h rfl)]
      refine ⟨_, _, _, rfl, .inl rfl, fun d ok => ?_⟩
      obtain ⟨D4, base, data, qs, e4, s4, q⟩ := A0 DR (gone_none (hlg.trans hx)).symm rfl d ok
      exact ⟨D4, base, data, qs, e4, s4, .inl q⟩
    | some x =>
      have hbl : badN (logN [97]) = false := logN_bad (by simp)
      have hmay : mayL DR [logN [97]] = if DR.left = some 0 then 9 else 0 := mayL_good (by simp [hbl])
      have hk : kW1 DR (logN [97]) = dEach fRemove DR [logN [97]] := kW1_some (hlg.trans hx)
      by_cases l0 : DR.left = some 0
      · have hst : dEach fRemove DR [logN [97]] = (DR, 9) := by
          simp only [dEach, dStep, hmay, if_pos l0]
          simp
        have hr : rmvs DR [logN [97]] = (DR, 9) := by simp [rmvs, hk, hst]
        rw [hr]
        unfold wrL
        rw [if_pos (show (9 : Nat) ≠ 0 by decide)]
        refine ⟨_, _, _, rfl, .inr rfl, fun d ok => ?_⟩
        have hlog : ∃ l, tLook D.fs (logN [97]) = some ⟨recsB (entsP 1 ps), l⟩ := by
          rcases h.log with ⟨_, h2⟩ | ⟨l, h2⟩
          · rw [hx] at h2; cases h2
          · exact ⟨l, h2⟩
        obtain ⟨l, hlog⟩ := hlog
        obtain ⟨D4, e4, s4⟩ := opn_old (D := { D with fs := tLay D.fs (imgN [97]) ⟨recL (numB n ++ rowB b), (recL (numB n ++ rowB b)).length⟩ }) (n := n) (l := l) (data := b) (ps := ps) (fl.mono (u' := u + b.length + 30) (by omega) (Nat.le_refl _)) hroom (by simp only [tLook_lay, if_neg (img_sh [97]).symm]; exact h.sh) (by simp only [tLook_lay, if_pos]) (by simp only [tLook_lay, if_neg him.symm]; exact hlog) (by omega) hn (by omega) hqb
        refine ⟨D4, n, b, [], ?_, s4, .inl ⟨rfl, rfl, rfl⟩⟩
        rw [opn_crash ok (E := { D with fs := tLay D.fs (imgN [97]) ⟨recL (numB n ++ rowB b), (recL (numB n ++ rowB b)).length⟩ }) hsrt (by rw [hsr]) h.free.left ?_]
        · exact e4
        · intro t
          rw [hfs]
          simp only [tLook_lay]
          by_cases t1 : t = shadow (imgN [97])
          · rw [if_pos t1, t1, if_neg (img_sh [97]).symm]
            exact h.sh
          · rw [if_neg t1]
            by_cases t3 : t = imgN [97]
            · rw [if_pos t3, Option.map_some, cutF_whole]
            · rw [if_neg t3]
              cases hx : tLook D.fs t with
              | none => rfl
              | some x => rw [Option.map_some, cutF_sy (sy t x hx)]
      · have hst : dEach fRemove DR [logN [97]] = ((fRemove DR (logN [97]) x).done, 0) := by
          simp only [dEach, dStep, hmay, if_neg l0, hlg.trans hx]
          simp
        have hr : rmvs DR [logN [97]] = ((fRemove DR (logN [97]) x).done, 0) := by simp [rmvs, hk, hst]
        rw [hr]
        unfold wrL
        rw [if_neg (fun h => h rfl)]
        refine ⟨_, _, _, rfl, .inl rfl, fun d ok => ?_⟩
        obtain ⟨D4, base, data, qs, e4, s4, q⟩ := A0 (fRemove DR (logN [97]) x).done rfl rfl d ok
        exact ⟨D4, base, data, qs, e4, s4, .inl q⟩
  · -- it is not
    have hw : wrS (DR, 9) (logN [97]) = (DR, 9) := by unfold wrS; rw [if_pos (show (9 : Nat) ≠ 0 by decide)]
    rw [hw]
    unfold wrL
    rw [if_pos (show (9 : Nat) ≠ 0 by decide)]
    refine ⟨_, _, _, rfl, .inr rfl, fun d ok => ?_⟩
    obtain ⟨D4, e4, s4⟩ := h.op (by omega) (by simp) (by omega) hqb
    refine ⟨D4, 0, [], ps, ?_, s4.mono (by omega) (by omega), .inr ⟨rfl, rfl, rfl, rfl⟩⟩
    rw [opn_crash ok (E := D) h.free.ok.srt (by rw [hsr]) h.free.left ?_]
    · exact e4
    · intro t
      by_cases t1 : t = shadow (imgN [97])
      · rw [if_pos t1, t1]
        exact h.sh
      · rw [if_neg t1, hfs t t1]
        show tLook D.fs t = (tLook D.fs t).map _
        cases hx : tLook D.fs t with
        | none => rfl
        | some x => rw [Option.map_some, cutF_sy (sy t x hx)]
theorem Sta.back {D : Dsk} {base u m : Nat} {data : List UInt8} {qs : List (List UInt8)} (h : Sta D base data qs u m) (ok : (dCrash D 0).Ok) (hl : tLook D.fs (logN [97]) = some ⟨recsB (entsP (base + 1) qs), (recsB (entsP (base + 1) qs)).length⟩) (hn : base ≤ 10000) (hb : data.length ≤ 524288) (hq : qs.length ≤ 10000) (hqb : ∀ b ∈ qs, b.length ≤ 65536) :
    ∃ D', opn (dCrash D 0) [97] = (D', 0, ⟨base, data, qs, false⟩) := by
  have hc : ∀ t, tLook (dCrash D 0).fs t = (tLook D.fs t).map (cutF 0) := fun t => by unfold dCrash; simp only [tLook_mapv]; rfl
  have st : Sta (dCrash D 0) base data qs (dCrash D 0).used (dCrash D 0).fs.length := by
    refine ⟨⟨ok, rfl, Nat.le_refl _, Nat.le_refl _⟩, h.room, by rw [hc, h.sh]; rfl, ?_, .inr ⟨_, by rw [hc, hl, Option.map_some, cutF_whole]⟩⟩
    rcases h.img with ⟨h1, h2, h3⟩ | h3
    · exact .inl ⟨h1, h2, by rw [hc, h3]; rfl⟩
    · exact .inr (by rw [hc, h3, Option.map_some, cutF_whole])
  obtain ⟨D', e, _⟩ := st.op hn hb hq hqb
  exact ⟨D', e⟩
end Go.Proofs.Ythonmjgagblogaa
