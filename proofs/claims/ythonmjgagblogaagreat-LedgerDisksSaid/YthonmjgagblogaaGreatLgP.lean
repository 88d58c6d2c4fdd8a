/-
  A ledger on a disk whose fuse is not lit: plain laws. By the session itself.
-/
import Derived.Test.YthonmjgagblogaaGreatLgI
import Derived.Test.YthonmjgagblogaaGreatKpB
import Derived.Test.YthonmjgagblogaaGreatFrmQ
namespace Go.Proofs.YthonmjgagblogaaGreat
set_option linter.unusedSimpArgs false
set_option linter.unusedVariables false
set_option maxRecDepth 100000
set_option maxHeartbeats 1000000
open Go.Vc Go.RowKit

/-- Entries from number k on, as records hold them. -/
def entsP : Nat → List (List UInt8) → List (List UInt8)
  | _, [] => []
  | k, b :: r => (numB k ++ rowB b) :: entsP (k + 1) r
theorem entsP_len : ∀ (k : Nat) (r : List (List UInt8)), (entsP k r).length = r.length
  | _, [] => rfl
  | k, b :: r => by simp [entsP, entsP_len (k + 1) r]
theorem entsP_app : ∀ (k : Nat) (r s : List (List UInt8)), entsP k (r ++ s) = entsP k r ++ entsP (k + r.length) s
  | k, [], s => by simp [entsP]
  | k, b :: r, s => by simp [entsP, entsP_app (k + 1) r s, Nat.add_assoc, Nat.add_comm 1]
theorem entsP_take : ∀ (k : Nat) (r : List (List UInt8)) (n : Nat), (entsP k r).take n = entsP k (r.take n)
  | k, [], n => by simp [entsP]
  | k, b :: r, 0 => by simp [entsP]
  | k, b :: r, n + 1 => by simp [entsP, entsP_take (k + 1) r n]
theorem numRow_ent (n : Nat) (b : List UInt8) (hn : n ≤ 4611686018427387904) (hb : b.length ≤ 4611686018427387904) : numRow (numB n ++ rowB b) = (true, n, b) := by
  have h1 := numL_numB n (rowB b) false hn
  have h2 := bytL_rowB b [] hb
  rw [List.append_nil] at h2
  unfold numRow
  rw [h1]
  simp only
  rw [h2]
  rfl
theorem takeP_next {base : Nat} {es : List (List UInt8)} {b : List UInt8} (last : Int) (k : Nat) (hk : k = base + es.length + 1) (h40 : k ≤ 1099511627776) (hb : b.length ≤ 1073741824) (hl : last < 0 ∨ last = (k : Int) - 1) : takeP base last es (numB k ++ rowB b) = some ((k : Int), es ++ [b]) := by
  have hn := numRow_ent k b (by omega) (by omega)
  unfold takeP
  rw [hn]
  simp only
  rw [if_neg (by simp; omega), if_neg (by omega), if_neg (by omega)]
theorem takeP_old {base : Nat} {es : List (List UInt8)} {b : List UInt8} (last : Int) (k : Nat) (hk : k ≤ base) (h1 : 1 ≤ k) (h40 : k ≤ 1099511627776) (hb : b.length ≤ 1073741824) (hl : last < 0 ∨ last = (k : Int) - 1) : takeP base last es (numB k ++ rowB b) = some ((k : Int), es) := by
  have hn := numRow_ent k b (by omega) (by omega)
  unfold takeP
  rw [hn]
  simp only
  rw [if_neg (by simp; omega), if_pos hk]
/-- Entries that follow are taken. -/
theorem takesP_next {base : Nat} : ∀ (r es : List (List UInt8)) (last : Int) (k : Nat), k = base + es.length + 1 → k + r.length ≤ 1099511627777 → (∀ b ∈ r, b.length ≤ 1073741824) → (last < 0 ∨ last = (k : Int) - 1) → ∃ la, takesP base last es (entsP k r) = some (la, es ++ r)
  | [], es, last, k, _, _, _, _ => ⟨last, by simp [entsP, takesP]⟩
  | b :: r, es, last, k, hk, h40, hb, hl => by
    simp only [List.length_cons] at h40
    obtain ⟨la, h⟩ := takesP_next r (es ++ [b]) (k : Int) (k + 1) (by simp; omega) (by omega) (fun x hx => hb x (List.mem_cons_of_mem _ hx)) (.inr (by omega))
    refine ⟨la, ?_⟩
    rw [entsP, takesP_cons, takeP_next last k hk (by omega) (hb b (List.mem_cons_self ..)) hl]
    simp only
    rw [h]
    simp
/-- Entries that the image has are left out. -/
theorem takesP_old {base : Nat} : ∀ (r : List (List UInt8)) (last : Int) (k : Nat), k + r.length ≤ base + 1 → 1 ≤ k → base ≤ 1099511627776 → (∀ b ∈ r, b.length ≤ 1073741824) → (last < 0 ∨ last = (k : Int) - 1) → ∃ la, takesP base last [] (entsP k r) = some (la, [])
  | [], last, k, _, _, _, _, _ => ⟨last, by simp [entsP, takesP]⟩
  | b :: r, last, k, hk, h1, hb40, hb, hl => by
    simp only [List.length_cons] at hk
    obtain ⟨la, h⟩ := takesP_old r (k : Int) (k + 1) (by omega) (by omega) hb40 (fun x hx => hb x (List.mem_cons_of_mem _ hx)) (.inr (by omega))
    refine ⟨la, ?_⟩
    rw [entsP, takesP_cons, takeP_old last k (by omega) h1 (by omega) (hb b (List.mem_cons_self ..)) hl]
    exact h
theorem logN_bad {p : Nm} (h : p.length ≤ 20) : badN (logN p) = false := by
  have : (logN p).length = p.length + 4 := by simp [logN]
  unfold badN
  rw [decide_eq_false (by omega), decide_eq_false (by omega)]; rfl
theorem imgN_bad {p : Nm} (h : p.length ≤ 20) : badN (imgN p) = false := by
  have : (imgN p).length = p.length + 4 := by simp [imgN]
  unfold badN
  rw [decide_eq_false (by omega), decide_eq_false (by omega)]; rfl
theorem mayF {D : Dsk} {s : Nm} (hl : D.left = none) (hs : badN s = false) : mayL D [s] = 0 := by simp [mayL, hl, hs]
theorem done_free {D : Dsk} (hl : D.left = none) : D.done = D := by unfold Dsk.done; rw [hl]; cases D; simp_all
/-- A file's bytes and what of them lasts, or those of none. -/
def fileD (D : Dsk) (s : Nm) : Fil := (tLook D.fs s).getD .none
theorem app_free {D : Dsk} {s : Nm} {b : List UInt8} (hl : D.left = none) (hs : badN s = false) (hr : D.used + b.length ≤ D.room) (hm : D.fs.length < 4096) : dAppend D s b = ({ D with fs := tLay D.fs s ⟨(fileD D s).b ++ b, (fileD D s).l⟩ }, 0) := by
  unfold dAppend
  rw [mayF hl hs, if_neg (fun h => h rfl), if_neg (by omega)]
  rw [done_free (by exact hl)]
  rfl
theorem step_free {D : Dsk} {s : Nm} {x : Fil} (f : Dsk → Nm → Fil → Dsk) (hl : D.left = none) (hf : (f D s x).left = none) (hs : badN s = false) (hx : tLook D.fs s = some x) : dEach f D [s] = (f D s x, 0) := by
  have : dStep f D s = (f D s x, 0) := by
    unfold dStep
    rw [mayF hl hs, if_neg (fun h => h rfl), hx]
    simp only
    rw [done_free hf]
  simp [dEach, this]
theorem rmvs1_free {D : Dsk} {s : Nm} (hl : D.left = none) (hs : badN s = false) : rmvs D [s] = ({ D with fs := tGone D.fs s }, 0) := by
  have : kW1 D s = ({ D with fs := tGone D.fs s }, 0) := by
    cases hx : tLook D.fs s with
    | none => rw [kW1_none hx, gone_none hx]
    | some x => rw [kW1_some hx, step_free fRemove hl hl hs hx]; rfl
  simp [rmvs, this]
theorem lay_lay {β : Type} {l : List (Nm × β)} (hl : Srt l) (s : Nm) (f g : β) : tLay (tLay l s f) s g = tLay l s g :=
  tLook_ext ((hl.tLay s f).tLay s g) (hl.tLay s g) fun t => by
    simp only [tLook_lay]
    split <;> rfl
/-- An entry appended. -/
theorem lApp_free {D : Dsk} {p : Nm} {L : Led} {b : List UInt8} (ok : D.Ok) (hl : D.left = none) (hp : p.length ≤ 20) (hd : L.dead = false) (h40 : L.last < 1099511627776) (hb : b.length ≤ 65536) (hr : D.used + b.length + 30 ≤ D.room) (hm : D.fs.length < 4096) :
    lApp D p L b = ({ D with fs := tLay D.fs (logN p) ⟨(fileD D (logN p)).b ++ entB (L.last + 1) b, ((fileD D (logN p)).b ++ entB (L.last + 1) b).length⟩ }, { L with ents := L.ents ++ [b] }, L.last + 1, 0) := by
  have hel : (entB (L.last + 1) b).length ≤ b.length + 30 := by
    have := entry_len (L.last + 1) b (by omega) (by omega)
    unfold entB
    rw [recL_len]
    omega
  have h1 := app_free (D := D) (s := logN p) (b := entB (L.last + 1) b) hl (logN_bad hp) (by omega) hm
  unfold lApp
  rw [hd, if_neg (by simp), if_neg (by omega), h1]
  unfold apS
  rw [if_neg (fun h => h rfl)]
  simp only
  rw [step_free (D := { D with fs := tLay D.fs (logN p) ⟨(fileD D (logN p)).b ++ entB (L.last + 1) b, (fileD D (logN p)).l⟩ }) (s := logN p) (x := ⟨(fileD D (logN p)).b ++ entB (L.last + 1) b, (fileD D (logN p)).l⟩) fSync hl hl (logN_bad hp) (by simp only [tLook_lay, if_pos])]
  unfold apL
  rw [if_neg (fun h => h rfl)]
  unfold fSync
  simp only [lay_lay ok.srt]
  rw [hd]
/-- An image written. -/
theorem lWrite_free {D : Dsk} {p : Nm} {L : Led} {n : Nat} {b : List UInt8} (ok : D.Ok) (hl : D.left = none) (hp : p.length ≤ 20) (hd : L.dead = false) (h1 : L.last ≤ n) (h40 : n ≤ 1099511627776) (hb : b.length ≤ 524288) (hsh : tLook D.fs (shadow (imgN p)) = none) (hr : D.used + b.length + 30 ≤ D.room) (hm : D.fs.length < 4096) :
    lWrite D p L n b = ({ D with fs := tGone (tLay D.fs (imgN p) ⟨recL (numB n ++ rowB b), (recL (numB n ++ rowB b)).length⟩) (logN p) }, ⟨n, b, [], false⟩, 0) := by
  have hil : (imgN p).length = p.length + 4 := by simp [imgN]
  have hcl := entry_len n b (by omega) (by omega)
  unfold lWrite
  rw [hd, if_neg (by simp), if_neg (by omega), if_neg (by omega), Int.toNat_natCast]
  rcases kSave_out ok (s := imgN p) (p := numB n ++ rowB b) (by omega) (by omega) (by omega) hsh (by omega) hm with ⟨e1, e2, e3, e4⟩ | ⟨_, e2, _⟩
  · have e5 : kSave D (imgN p) (numB n ++ rowB b) = ({ D with fs := tLay D.fs (imgN p) ⟨recL (numB n ++ rowB b), (recL (numB n ++ rowB b)).length⟩ }, 0) := by
      have e4 := e4 hl
      generalize kSave D (imgN p) (numB n ++ rowB b) = R at *
      obtain ⟨⟨r, fs, lf⟩, e⟩ := R
      simp only at e1 e2 e3 e4
      rw [e1, e2, e3, e4, hl]
    rw [e5]
    unfold wrS
    rw [if_neg (fun h => h rfl)]
    simp only
    rw [rmvs1_free (by exact hl) (logN_bad hp)]
    unfold wrL
    rw [if_neg (fun h => h rfl)]
  · exact absurd hl e2
/-- What an unlit disk is, and how full. -/
structure Free (D : Dsk) (u m : Nat) : Prop where
  ok : D.Ok
  left : D.left = none
  used : D.used ≤ u
  many : D.fs.length ≤ m
theorem used_lay {D : Dsk} (ok : D.Ok) (s : Nm) (f : Fil) : Dsk.used { D with fs := tLay D.fs s f } + (fileD D s).b.length = D.used + f.b.length := by
  have h := sumv_lay ok.srt (fun f : Fil => f.b.length) s f
  have e : ((tLook D.fs s).map fun f : Fil => f.b.length).getD 0 = (fileD D s).b.length := by unfold fileD; cases tLook D.fs s <;> rfl
  rw [e] at h
  exact h
theorem img_log (p : Nm) : imgN p ≠ logN p := fun h => by
  unfold imgN logN at h
  have := List.append_cancel_left h
  simp at this
theorem img_sh (p : Nm) : imgN p ≠ shadow (imgN p) := shadow_ne _
theorem log_sh (p : Nm) : logN p ≠ shadow (imgN p) := fun h => by
  have := congrArg List.length h
  simp [logN, imgN, shadow] at this
theorem lApp_out {D : Dsk} {p : Nm} {L : Led} {b : List UInt8} {u m : Nat} (h : Free D u m) (hp : p.length ≤ 20) (hd : L.dead = false) (h40 : L.last < 1099511627776) (hb : b.length ≤ 65536) (hr : u + b.length + 30 ≤ D.room) (hm : m < 4096) :
    ∃ D', lApp D p L b = (D', { L with ents := L.ents ++ [b] }, L.last + 1, 0) ∧ Free D' (u + b.length + 30) (m + 1) ∧ D'.room = D.room ∧ tLook D'.fs (logN p) = some ⟨(fileD D (logN p)).b ++ entB (L.last + 1) b, ((fileD D (logN p)).b ++ entB (L.last + 1) b).length⟩ ∧ ∀ t, t ≠ logN p → tLook D'.fs t = tLook D.fs t := by
  have hu := h.used
  have hmn := h.many
  have e := lApp_free (D := D) (p := p) (L := L) (b := b) h.ok h.left hp hd h40 hb (by omega) (by omega)
  have hel : (entB (L.last + 1) b).length ≤ b.length + 30 := by
    have := entry_len (L.last + 1) b (by omega) (by omega)
    unfold entB
    rw [recL_len]
    omega
  obtain ⟨X, hX⟩ : ∃ X, X = (fileD D (logN p)).b ++ entB (L.last + 1) b := ⟨_, rfl⟩
  have hXl : X.length = (fileD D (logN p)).b.length + (entB (L.last + 1) b).length := by rw [hX, List.length_append]
  rw [← hX] at e ⊢
  have hul := used_lay h.ok (logN p) ⟨X, X.length⟩
  simp only at hul
  have hll := lay_len h.ok.srt (logN p) (⟨X, X.length⟩ : Fil)
  have hlN : (logN p).length = p.length + 4 := by simp [logN]
  refine ⟨_, e, ⟨h.ok.lay _ _ (Nat.le_refl _) ?_ (fun _ => by omega) (by omega), h.left, by omega, ?_⟩, rfl, by simp only [tLook_lay, if_pos], fun t ht => by simp only [tLook_lay, if_neg ht]⟩
  · have e2 : ((tLook D.fs (logN p)).getD .none).b.length = (fileD D (logN p)).b.length := rfl
    rw [e2]
    simp only
    omega
  · simp only [hll]
    split <;> omega
theorem lWrite_out {D : Dsk} {p : Nm} {L : Led} {n : Nat} {b : List UInt8} {u m : Nat} (h : Free D u m) (hp : p.length ≤ 20) (hd : L.dead = false) (h1 : L.last ≤ n) (h40 : n ≤ 1099511627776) (hb : b.length ≤ 524288) (hsh : tLook D.fs (shadow (imgN p)) = none) (hr : u + b.length + 30 ≤ D.room) (hm : m < 4096) :
    ∃ D', lWrite D p L n b = (D', ⟨n, b, [], false⟩, 0) ∧ Free D' (u + b.length + 30) (m + 1) ∧ D'.room = D.room ∧ tLook D'.fs (imgN p) = some ⟨recL (numB n ++ rowB b), (recL (numB n ++ rowB b)).length⟩ ∧ tLook D'.fs (logN p) = none ∧ ∀ t, t ≠ logN p → t ≠ imgN p → tLook D'.fs t = tLook D.fs t := by
  have hu := h.used
  have hmn := h.many
  have e := lWrite_free (D := D) (p := p) (L := L) (n := n) (b := b) h.ok h.left hp hd h1 h40 hb hsh (by omega) (by omega)
  have hcl := entry_len n b (by omega) (by omega)
  have hrl := recL_len (numB n ++ rowB b)
  generalize numB n ++ rowB b = C at *
  generalize recL C = R at *
  have hiN : (imgN p).length = p.length + 4 := by simp [imgN]
  have hul := used_lay h.ok (imgN p) ⟨R, R.length⟩
  have hok1 : Dsk.Ok { D with fs := tLay D.fs (imgN p) ⟨R, R.length⟩ } := h.ok.lay _ _ (Nat.le_refl _) (by simp only; omega) (fun _ => by omega) (by omega)
  have hok2 := hok1.rem (logN p)
  have hll := lay_len h.ok.srt (imgN p) (⟨R, R.length⟩ : Fil)
  have hgl := gone_len (tLay D.fs (imgN p) (⟨R, R.length⟩ : Fil)) (logN p)
  have hsg := sumv_gone (tLay D.fs (imgN p) (⟨R, R.length⟩ : Fil)) (fun f : Fil => f.b.length) (logN p)
  have hs : Srt (tLay D.fs (imgN p) (⟨R, R.length⟩ : Fil)) := h.ok.srt.tLay _ _
  refine ⟨_, e, ⟨hok2, h.left, ?_, ?_⟩, rfl, ?_, ?_, fun t ht1 ht2 => ?_⟩
  · have e1 : Dsk.used { D with fs := tLay D.fs (imgN p) ⟨R, R.length⟩ } = sumv (fun f : Fil => f.b.length) (tLay D.fs (imgN p) ⟨R, R.length⟩) := rfl
    show sumv (fun f : Fil => f.b.length) (tGone (tLay D.fs (imgN p) ⟨R, R.length⟩) (logN p)) ≤ _
    simp only at hul
    omega
  · simp only
    rw [hgl, hll]
    split <;> split <;> omega
  · simp only [tLook_gone hs, if_neg (img_log p), tLook_lay, if_pos]
  · simp only [tLook_gone hs, if_pos]
  · simp only [tLook_gone hs, if_neg ht1, tLook_lay, if_neg ht2]
/-- Nothing there. -/
theorem opn_none {D : Dsk} {p : Nm} (h1 : tLook D.fs (shadow (imgN p)) = none) (h2 : tLook D.fs (imgN p) = none) (h3 : tLook D.fs (logN p) = none) : opn D p = (D, 0, Led.zero) := by
  have e1 : rmvs D [shadow (imgN p)] = (D, 0) := by simp [rmvs, kW1_none h1]
  have e2 : kLoad D (imgN p) = ([], 7) := by unfold kLoad dRead; rw [h2]; simp
  have e3 : imgL D p = (0, [], 0) := by unfold imgL; rw [e2]; simp
  have e4 : logL D p 0 = (D, 0, []) := by unfold logL; rw [h3]
  unfold opn opn2
  rw [e1]
  simp only [ne_eq, not_true_eq_false, if_false]
  unfold opn3
  rw [e3]
  simp only [ne_eq, not_true_eq_false, if_false]
  rw [e4]
  rfl
theorem Lw.of_open {w0 w w' : World} {v : Value} {g : Nat} {p : Nm} {R : Dsk × Nat × Led} {F : Nat → Prop} (h : OpenR w w' v g p R F) (h0 : R.2.1 = 0) (hF : ∀ k, F k → w0.heap.size ≤ k) (n : Nw w0 w) : ∃ l, v = .tuple #[.pointer (some ⟨l, 0, none⟩), i64 0] ∧ Lw w0 w' l g p R.1 R.2.2 := by
  obtain ⟨F', hD, hG, hK, (⟨h1, _⟩ | ⟨_, l, G, V, hv, hL, ok, hV⟩)⟩ := h
  · exact absurd h0 h1
  · exact ⟨l, hv, F', G, V, hL, ok, fun k hk => (hV k hk).elim (hF k) fun e => Nat.le_trans n.size e.1, n.at_ hK hF⟩
end Go.Proofs.YthonmjgagblogaaGreat
