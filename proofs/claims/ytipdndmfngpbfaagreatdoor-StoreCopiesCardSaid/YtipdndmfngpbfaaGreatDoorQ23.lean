/-
  A ledger on a disk whose fuse is not lit: plain laws. By the session itself. A store's step in plain words; on an unlit disk it never fails. By the session itself. A store in memory; its small functions. By the session itself. A table's names, rising: keys walked. By the session itself; slices.Sort by the kit's contract.
-/
import Derived.Test.YtipdndmfngpbfaaGreatDoorQ22
import Derived.Test.YtipdndmfngpbfaaGreatDoorQ11
import Derived.Test.YtipdndmfngpbfaaGreatDoorQ03
namespace Go.Proofs.YtipdndmfngpbfaaGreatDoor
set_option linter.unusedSimpArgs false
set_option linter.unusedVariables false
set_option maxRecDepth 100000
set_option maxHeartbeats 1000000
open Go.Vc Go.RowKit

/-- Entries from number k on, as records hold them. -/
def entsP : Nat → List (List UInt8) → List (List UInt8)
  | _, [] => []
  | k, b :: r => (numB k ++ rowB b) :: entsP (k + 1) r
theorem entsP_app : ∀ (k : Nat) (r s : List (List UInt8)), entsP k (r ++ s) = entsP k r ++ entsP (k + r.length) s
  | k, [], s => by simp [entsP]
  | k, b :: r, s => by simp [entsP, entsP_app (k + 1) r s, Nat.add_assoc, Nat.add_comm 1]
theorem logN_bad {p : Nm} (h : p.length ≤ 20) : badN (logN p) = false := by
  have : (logN p).length = p.length + 4 := by simp [logN]
  unfold badN
  rw [decide_eq_false (by omega), decide_eq_false (by omega)]; rfl
theorem mayF {D : Dsk} {s : Nm} (hl : D.left = none) (hs : badN s = false) : mayL D [s] = 0 := by simp [mayL, hl, hs]
theorem done_free {D : Dsk} (hl : D.left = none) : D.done = D := by unfold Dsk.done; rw [hl]; cases D; simp_all
/-- A file's bytes and what of them lasts, or those of none. -/
def fileD (D : Dsk) (s : Nm) : Fil := (tLook D.fs s).getD .none
theorem app_free {D : Dsk} {s : Nm} {b : List UInt8} (hl : D.left = none) (hs : badN s = false) (hr : D.used + b.length ≤ D.room) (hm : D.fs.length < 4096) : dAppend D s b = ({ D with fs := tLay D.fs s ⟨(fileD D s).b ++ b, (fileD D s).l⟩ }, 0) := by
  unfold dAppend
  rw [mayF hl hs, if_neg (fun h => h rfl), if_neg (by omega)]
  rw [done_free (by exact hl)]
  rfl
theorem step_free {D : Dsk} {s : Nm} {x : Fil} (f : Dsk → Nm → Fil → Dsk) (hl : D.left = none) (hf : (f D s x).left = none) (hs : badN s = false) (hx : tLook D.fs s = some x) : dEach f D [s] = (f D s x, 0) := by
  have : dStep f D s = (f D s x, 0) := by
    unfold dStep
    rw [mayF hl hs, if_neg (fun h => h rfl), hx]
    simp only
    rw [done_free hf]
  simp [dEach, this]
theorem rmvs1_free {D : Dsk} {s : Nm} (hl : D.left = none) (hs : badN s = false) : rmvs D [s] = ({ D with fs := tGone D.fs s }, 0) := by
  have : kW1 D s = ({ D with fs := tGone D.fs s }, 0) := by
    cases hx : tLook D.fs s with
    | none => rw [kW1_none hx, gone_none hx]
    | some x => rw [kW1_some hx, step_free fRemove hl hl hs hx]; rfl
  simp [rmvs, this]
theorem lay_lay {β : Type} {l : List (Nm × β)} (hl : Srt l) (s : Nm) (f g : β) : tLay (tLay l s f) s g = tLay l s g :=
  tLook_ext ((hl.tLay s f).tLay s g) (hl.tLay s g) fun t => by
    simp only [tLook_lay]
    split <;> rfl
/-- An entry appended. -/
theorem lApp_free {D : Dsk} {p : Nm} {L : Led} {b : List UInt8} (ok : D.Ok) (hl : D.left = none) (hp : p.length ≤ 20) (hd : L.dead = false) (h40 : L.last < 1099511627776) (hb : b.length ≤ 65536) (hr : D.used + b.length + 30 ≤ D.room) (hm : D.fs.length < 4096) :
    lApp D p L b = ({ D with fs := tLay D.fs (logN p) ⟨(fileD D (logN p)).b ++ entB (L.last + 1) b, ((fileD D (logN p)).b ++ entB (L.last + 1) b).length⟩ }, { L with ents := L.ents ++ [b] }, L.last + 1, 0) := by
  have hel : (entB (L.last + 1) b).length ≤ b.length + 30 := by
    have := entry_len (L.last + 1) b (by omega) (by omega)
    unfold entB
    rw [recL_len]
    omega
  have h1 := app_free (D := D) (s := logN p) (b := entB (L.last + 1) b) hl (logN_bad hp) (by omega) hm
  unfold lApp
  rw [hd, if_neg (by simp), if_neg (by omega), h1]
  unfold apS
  rw [if_neg (fun h => h rfl)]
  simp only
  rw [step_free (D := { D with fs := tLay D.fs (logN p) ⟨(fileD D (logN p)).b ++ entB (L.last + 1) b, (fileD D (logN p)).l⟩ }) (s := logN p) (x := ⟨(fileD D (logN p)).b ++ entB (L.last + 1) b, (fileD D (logN p)).l⟩) fSync hl hl (logN_bad hp) (by simp only [tLook_lay, if_pos])]
  unfold apL
  rw [if_neg (fun h => h rfl)]
  unfold fSync
  simp only [lay_lay ok.srt]
  rw [hd]
/-- An image written. -/
theorem lWrite_free {D : Dsk} {p : Nm} {L : Led} {n : Nat} {b : List UInt8} (ok : D.Ok) (hl : D.left = none) (hp : p.length ≤ 20) (hd : L.dead = false) (h1 : L.last ≤ n) (h40 : n ≤ 1099511627776) (hb : b.length ≤ 524288) (hsh : tLook D.fs (shadow (imgN p)) = none) (hr : D.used + b.length + 30 ≤ D.room) (hm : D.fs.length < 4096) :
    lWrite D p L n b = ({ D with fs := tGone (tLay D.fs (imgN p) ⟨recL (numB n ++ rowB b), (recL (numB n ++ rowB b)).length⟩) (logN p) }, ⟨n, b, [], false⟩, 0) := by
  have hil : (imgN p).length = p.length + 4 := by simp [imgN]
  have hcl := entry_len n b (by omega) (by omega)
  unfold lWrite
  rw [hd, if_neg (by simp), if_neg (by omega), if_neg (by omega), Int.toNat_natCast]
  rcases kSave_out ok (s := imgN p) (p := numB n ++ rowB b) (by omega) (by omega) (by omega) hsh (by omega) hm with ⟨e1, e2, e3, e4⟩ | ⟨_, e2, _⟩
  · have e5 : kSave D (imgN p) (numB n ++ rowB b) = ({ D with fs := tLay D.fs (imgN p) ⟨recL (numB n ++ rowB b), (recL (numB n ++ rowB b)).length⟩ }, 0) := by
      have e4 := e4 hl
      generalize kSave D (imgN p) (numB n ++ rowB b) = R at *
      obtain ⟨⟨r, fs, lf⟩, e⟩ := R
      simp only at e1 e2 e3 e4
      rw [e1, e2, e3, e4, hl]
    rw [e5]
    unfold wrS
    rw [if_neg (fun h => h rfl)]
    simp only
    rw [rmvs1_free (by exact hl) (logN_bad hp)]
    unfold wrL
    rw [if_neg (fun h => h rfl)]
  · exact absurd hl e2
/-- What an unlit disk is, and how full. -/
structure Free (D : Dsk) (u m : Nat) : Prop where
  ok : D.Ok
  left : D.left = none
  used : D.used ≤ u
  many : D.fs.length ≤ m
theorem used_lay {D : Dsk} (ok : D.Ok) (s : Nm) (f : Fil) : Dsk.used { D with fs := tLay D.fs s f } + (fileD D s).b.length = D.used + f.b.length := by
  have h := sumv_lay ok.srt (fun f : Fil => f.b.length) s f
  have e : ((tLook D.fs s).map fun f : Fil => f.b.length).getD 0 = (fileD D s).b.length := by unfold fileD; cases tLook D.fs s <;> rfl
  rw [e] at h
  exact h
theorem img_log (p : Nm) : imgN p ≠ logN p := fun h => by
  unfold imgN logN at h
  have := List.append_cancel_left h
  simp at this
theorem img_sh (p : Nm) : imgN p ≠ shadow (imgN p) := shadow_ne _
theorem log_sh (p : Nm) : logN p ≠ shadow (imgN p) := fun h => by
  have := congrArg List.length h
  simp [logN, imgN, shadow] at this
theorem lApp_out {D : Dsk} {p : Nm} {L : Led} {b : List UInt8} {u m : Nat} (h : Free D u m) (hp : p.length ≤ 20) (hd : L.dead = false) (h40 : L.last < 1099511627776) (hb : b.length ≤ 65536) (hr : u + b.length + 30 ≤ D.room) (hm : m < 4096) :
    ∃ D', lApp D p L b = (D', { L with ents := L.ents ++ [b] }, L.last + 1, 0) ∧ Free D' (u + b.length + 30) (m + 1) ∧ D'.room = D.room ∧ tLook D'.fs (logN p) = some ⟨(fileD D (logN p)).b ++ entB (L.last + 1) b, ((fileD D (logN p)).b ++ entB (L.last + 1) b).length⟩ ∧ ∀ t, t ≠ logN p → tLook D'.fs t = tLook D.fs t := by
  have hu := h.used
  have hmn := h.many
  have e := lApp_free (D := D) (p := p) (L := L) (b := b) h.ok h.left hp hd h40 hb (by omega) (by omega)
  have hel : (entB (L.last + 1) b).length ≤ b.length + 30 := by
    have := entry_len (L.last + 1) b (by omega) (by omega)
    unfold entB
    rw [recL_len]
    omega
  obtain ⟨X, hX⟩ : ∃ X, X = (fileD D (logN p)).b ++ entB (L.last + 1) b := ⟨_, rfl⟩
  have hXl : X.length = (fileD D (logN p)).b.length + (entB (L.last + 1) b).length := by rw [hX, List.length_append]
  rw [← hX] at e ⊢
  have hul := used_lay h.ok (logN p) ⟨X, X.length⟩
  simp only at hul
  have hll := lay_len h.ok.srt (logN p) (⟨X, X.length⟩ : Fil)
  have hlN : (logN p).length = p.length + 4 := by simp [logN]
  refine ⟨_, e, ⟨h.ok.lay _ _ (Nat.le_refl _) ?_ (fun _ => by omega) (by omega), h.left, by omega, ?_⟩, rfl, by simp only [tLook_lay, if_pos], fun t ht => by simp only [tLook_lay, if_neg ht]⟩
  · have e2 : ((tLook D.fs (logN p)).getD .none).b.length = (fileD D (logN p)).b.length := rfl
    rw [e2]
    simp only
    omega
  · simp only [hll]
    split <;> omega
theorem lWrite_out {D : Dsk} {p : Nm} {L : Led} {n : Nat} {b : List UInt8} {u m : Nat} (h : Free D u m) (hp : p.length ≤ 20) (hd : L.dead = false) (h1 : L.last ≤ n) (h40 : n ≤ 1099511627776) (hb : b.length ≤ 524288) (hsh : tLook D.fs (shadow (imgN p)) = none) (hr : u + b.length + 30 ≤ D.room) (hm : m < 4096) :
    ∃ D', lWrite D p L n b = (D', ⟨n, b, [], false⟩, 0) ∧ Free D' (u + b.length + 30) (m + 1) ∧ D'.room = D.room ∧ tLook D'.fs (imgN p) = some ⟨recL (numB n ++ rowB b), (recL (numB n ++ rowB b)).length⟩ ∧ tLook D'.fs (logN p) = none ∧ ∀ t, t ≠ logN p → t ≠ imgN p → tLook D'.fs t = tLook D.fs t := by
  have hu := h.used
  have hmn := h.many
  have e := lWrite_free (D := D) (p := p) (L := L) (n := n) (b := b) h.ok h.left hp hd h1 h40 hb hsh (by omega) (by omega)
  have hcl := entry_len n b (by omega) (by omega)
  have hrl := recL_len (numB n ++ rowB b)
  generalize numB n ++ rowB b = C at *
  generalize recL C = R at *
  have hiN : (imgN p).length = p.length + 4 := by simp [imgN]
  have hul := used_lay h.ok (imgN p) ⟨R, R.length⟩
  have hok1 : Dsk.Ok { D with fs := tLay D.fs (imgN p) ⟨R, R.length⟩ } := h.ok.lay _ _ (Nat.le_refl _) (by simp only; omega) (fun _ => by omega) (by omega)
  have hok2 := hok1.rem (logN p)
  have hll := lay_len h.ok.srt (imgN p) (⟨R, R.length⟩ : Fil)
  have hgl := Go.Vc.gone_len (tLay D.fs (imgN p) (⟨R, R.length⟩ : Fil)) (logN p)
  have hsg := sumv_gone (tLay D.fs (imgN p) (⟨R, R.length⟩ : Fil)) (fun f : Fil => f.b.length) (logN p)
  have hs : Srt (tLay D.fs (imgN p) (⟨R, R.length⟩ : Fil)) := h.ok.srt.tLay _ _
  refine ⟨_, e, ⟨hok2, h.left, ?_, ?_⟩, rfl, ?_, ?_, fun t ht1 ht2 => ?_⟩
  · have e1 : Dsk.used { D with fs := tLay D.fs (imgN p) ⟨R, R.length⟩ } = sumv (fun f : Fil => f.b.length) (tLay D.fs (imgN p) ⟨R, R.length⟩) := rfl
    show sumv (fun f : Fil => f.b.length) (tGone (tLay D.fs (imgN p) ⟨R, R.length⟩) (logN p)) ≤ _
    simp only at hul
    omega
  · simp only
    rw [hgl, hll]
    split <;> split <;> omega
  · simp only [tLook_gone hs, if_neg (img_log p), tLook_lay, if_pos]
  · simp only [tLook_gone hs, if_pos]
  · simp only [tLook_gone hs, if_neg ht1, tLook_lay, if_neg ht2]
/-- Nothing there. -/
theorem opn_none {D : Dsk} {p : Nm} (h1 : tLook D.fs (shadow (imgN p)) = none) (h2 : tLook D.fs (imgN p) = none) (h3 : tLook D.fs (logN p) = none) : opn D p = (D, 0, Led.zero) := by
  have e1 : rmvs D [shadow (imgN p)] = (D, 0) := by simp [rmvs, kW1_none h1]
  have e2 : kLoad D (imgN p) = ([], 7) := by unfold kLoad dRead; rw [h2]; simp
  have e3 : imgL D p = (0, [], 0) := by unfold imgL; rw [e2]; simp
  have e4 : logL D p 0 = (D, 0, []) := by unfold logL; rw [h3]
  unfold opn opn2
  rw [e1]
  simp only [ne_eq, not_true_eq_false, if_false]
  unfold opn3
  rw [e3]
  simp only [ne_eq, not_true_eq_false, if_false]
  rw [e4]
  rfl
end Go.Proofs.YtipdndmfngpbfaaGreatDoor

namespace Go.Proofs.YtipdndmfngpbfaaGreatDoor
set_option linter.unusedSimpArgs false
set_option linter.unusedVariables false
set_option maxRecDepth 100000
set_option maxHeartbeats 1000000
open Go.Vc Go.RowKit

theorem encC_len {c : Chg} (h : c.Ok) : (encC c).length ≤ 2000 := by
  have h1 := numsB_len [c.kind]
  have h2 := rowB_lenq (l := c.user) (by have := h.user; omega)
  have h3 := rowB_lenq (l := c.pass) (by have := h.pass; omega)
  have h4 := rowB_lenq (l := c.box) (by have := h.box; omega)
  have h5 := rowB_lenq (l := c.to) (by have := h.to; omega)
  have h6 := numsB_len [(c.uids.length : Int)]
  have h7 := numsB_len c.uids
  have h8 := numsB_len [c.mode, c.flags, c.date]
  have h9 := rowB_lenq (l := c.body) (by have := h.body; omega)
  have k1 := h.user; have k2 := h.pass; have k3 := h.box; have k4 := h.to; have k5 := h.uids.2; have k6 := h.body
  simp only [List.length_cons, List.length_nil] at h1 h6 h8
  have e : (encC c).length = (numsB [c.kind]).length + ((rowB c.user).length + ((rowB c.pass).length + ((rowB c.box).length + (rowB c.to).length))) + (numsB [(c.uids.length : Int)]).length + (numsB c.uids).length + (numsB [c.mode, c.flags, c.date]).length + (rowB c.body).length := by
    unfold encC
    simp [rowsB]
    omega
  omega
theorem encX_len2 {b : Bx} (h : isB b = true) : (encX b).length ≤ 29800 := by
  have hI := IsB.of h
  have hnm : b.name.size ≤ 12 := by
    have := isB_name h
    unfold nameOk at this
    simp only [Bool.and_eq_true, decide_eq_true_eq] at this
    exact this.2
  have hnl : b.name.data.toList.length ≤ 12 := by rw [Array.length_toList]; exact hnm
  have h1 := rowB_lenq (l := b.name.data.toList) (by omega)
  have h2 := numsB_len [b.val, b.next, (b.L.length : Int)]
  have h3 := encMs_len b.L fun m hm => (hI.all m hm).2.2.2.2
  have h4 := hI.len
  simp only [List.length_cons, List.length_nil] at h2
  unfold encX
  rw [List.length_append, List.length_append]
  omega
theorem flat_len {α : Type} (f : α → List UInt8) (N : Nat) : ∀ l : List α, (∀ x ∈ l, (f x).length ≤ N) → (l.flatMap f).length ≤ l.length * N
  | [], _ => by simp
  | x :: l, h => by
    have h1 := h x (List.mem_cons_self ..)
    have h2 := flat_len f N l fun y hy => h y (List.mem_cons_of_mem _ hy)
    rw [List.flatMap_cons, List.length_append, List.length_cons, Nat.add_mul]
    omega
theorem imgU_len {s : Nm} {u : Usr} (hs : nmOk s = true) (h : u.Ok) : (imgU (s, u)).length ≤ 119400 := by
  have k1 := (nmOk_len hs).2
  have k2 := (passOk_len h.pass).2
  have h1 := rowB_lenq (l := s) (by omega)
  have h2 := rowB_lenq (l := u.pass) (by omega)
  have h3 := numsB_len [(u.bx.length : Int)]
  have h4 := flat_len (fun y : Nm × Bx => rowB (encX y.2)) 29809 u.bx fun y hy => by
    have hb := (h.bx y.1 y.2 ((tLook_mem h.srt).2 hy)).2
    have := encX_len2 hb
    have := rowB_lenq (l := encX y.2) (by omega)
    omega
  have h5 := h.len
  have h6 := Nat.mul_le_mul_right 29809 h5
  simp only [List.length_cons, List.length_nil] at h3
  have e : (imgU (s, u)).length = (rowB s).length + (rowB u.pass).length + (numsB [(u.bx.length : Int)]).length + (u.bx.flatMap fun y => rowB (encX y.2)).length := by
    unfold imgU
    simp [rowsB]
    omega
  omega
theorem imgS_len {T : Stt} (h : T.Ok) : (imgS T).length ≤ 500000 := by
  have h1 := numsB_len [T.next, (T.us.length : Int)]
  have h2 := flat_len imgU 119400 T.us fun x hx => by
    have := h.us x.1 x.2 ((tLook_mem h.srt).2 hx)
    exact imgU_len this.1 this.2
  have h3 := Nat.mul_le_mul_right 119400 h.len
  simp only [List.length_cons, List.length_nil] at h1
  unfold imgS
  rw [List.length_append]
  omega
/-- A store: its disk, its ledger, its state. -/
structure Sto where
  D : Dsk
  L : Led
  T : Stt
  dead : Bool
def doX (S : Sto) (n : Int) (r : Dsk × Led × Nat) : Sto × Int × Int := if r.2.2 ≠ 0 then (⟨r.1, r.2.1, S.T, true⟩, 0, (r.2.2 : Int)) else (⟨r.1, r.2.1, S.T, false⟩, n, 0)
def doW (S : Sto) (n : Int) : Sto × Int × Int := if S.L.last < S.L.base + 20 then (S, n, 0) else doX S n (lWrite S.D mailN S.L (S.L.last : Int) (imgS S.T))
def doB (S : Sto) (T : Stt) (n : Int) (r : Dsk × Led × Nat × Nat) : Sto × Int × Int := if r.2.2.2 ≠ 0 then (⟨r.1, r.2.1, S.T, true⟩, 0, (r.2.2.2 : Int)) else doW ⟨r.1, r.2.1, T, false⟩ n
/-- Do. -/
def doA (S : Sto) (c : Chg) : Sto × Int × Int :=
  if S.dead = true then (S, 0, 9) else if chgOk c = false then (S, 0, 1) else if (plan S.T c).1 ≠ 0 then (S, 0, (plan S.T c).1) else doB S (plan S.T c).2.2 (plan S.T c).2.1 (lApp S.D mailN S.L (encC c))
/-- A store on an unlit disk with room. -/
structure Sf (S : Sto) (u m k : Nat) : Prop where
  free : Free S.D u m
  room : S.D.room = 268435456
  dead : S.dead = false
  ldead : S.L.dead = false
  tok : S.T.Ok
  sh : tLook S.D.fs (shadow (imgN mailN)) = none
  few : S.L.ents.length < 20
  last : S.L.last ≤ k
theorem Sf.mono {S : Sto} {u m k u' m' k' : Nat} (h : Sf S u m k) (hu : u ≤ u') (hm : m ≤ m') (hk : k ≤ k') : Sf S u' m' k' :=
  ⟨⟨h.free.ok, h.free.left, Nat.le_trans h.free.used hu, Nat.le_trans h.free.many hm⟩, h.room, h.dead, h.ldead, h.tok, h.sh, h.few, Nat.le_trans h.last hk⟩
/-- A step of it: refused, and nothing has turned; or done. -/
theorem Sf.step {S : Sto} {u m k : Nat} (h : Sf S u m k) (c : Chg) (hu : u + 600000 ≤ 268435456) (hm : m + 2 < 4096) (hk : k < 1000000) :
    (chgOk c = false ∧ doA S c = (S, 0, 1)) ∨ (chgOk c = true ∧ (plan S.T c).1 ≠ 0 ∧ doA S c = (S, 0, (plan S.T c).1)) ∨
    (chgOk c = true ∧ (plan S.T c).1 = 0 ∧ ∃ S', doA S c = (S', (plan S.T c).2.1, 0) ∧ S'.T = (plan S.T c).2.2 ∧ Sf S' (u + 600000) (m + 2) (k + 1)) := by
  have h0 : ¬ S.dead = true := by rw [h.dead]; simp
  unfold doA
  rw [if_neg h0]
  cases hc : chgOk c with
  | false => exact .inl ⟨rfl, by simp⟩
  | true =>
    rw [if_neg (by simp)]
    by_cases hp : (plan S.T c).1 = 0
    · refine .inr (.inr ⟨rfl, hp, ?_⟩)
      rw [if_neg (by simpa using hp)]
      have hl := encC_len (chgOk_ok hc)
      have hpo := plan_ok h.tok hc
      have hlast := h.last
      have hlb : S.L.last = S.L.base + S.L.ents.length := rfl
      have hfew := h.few
      obtain ⟨D1, e1, f1, r1, x1, o1⟩ := lApp_out (p := mailN) (b := encC c) h.free (by decide) h.ldead (by omega) (by omega) (by rw [h.room]; omega) (by omega)
      rw [e1]
      generalize plan S.T c = P at *
      obtain ⟨pe, pn, pT⟩ := P
      simp only at hp hpo ⊢
      unfold doB
      simp only
      rw [if_neg (by simp)]
      have sh1 : tLook D1.fs (shadow (imgN mailN)) = none := by rw [o1 _ (fun e => log_sh mailN e.symm)]; exact h.sh
      have f1' := f1.many
      have f1u := f1.used
      unfold doW
      simp only
      obtain ⟨L1, hL1⟩ : ∃ L1 : Led, L1 = { S.L with ents := S.L.ents ++ [encC c] } := ⟨_, rfl⟩
      have l1b : L1.base = S.L.base := by rw [hL1]
      have l1e : L1.ents.length = S.L.ents.length + 1 := by rw [hL1]; simp
      have l1l : L1.last = S.L.last + 1 := by unfold Led.last at *; omega
      have l1d : L1.dead = false := by rw [hL1]; exact h.ldead
      rw [← hL1]
      by_cases h20 : L1.last < S.L.base + 20
      · rw [if_pos h20]
        refine ⟨_, rfl, rfl, ⟨f1.ok, f1.left, Nat.le_trans f1u (by omega), Nat.le_trans f1' (by omega)⟩, by simp only; rw [r1, h.room], rfl, l1d, hpo, sh1, ?_, ?_⟩
        · simp only; unfold Led.last at *; omega
        · simp only; omega
      · rw [if_neg h20]
        have hil := imgS_len hpo
        obtain ⟨D2, e2, f2, r2, x2, y2, o2⟩ := lWrite_out (p := mailN) (L := L1) (n := L1.last) (b := imgS pT) f1 (by decide) l1d (Nat.le_refl _) (by omega) (by omega) sh1 (by rw [r1, h.room]; omega) (by omega)
        rw [e2]
        unfold doX
        simp only
        rw [if_neg (by simp)]
        refine ⟨_, rfl, rfl, ⟨f2.ok, f2.left, Nat.le_trans f2.used (by omega), Nat.le_trans f2.many (by omega)⟩, by simp only; rw [r2, r1, h.room], rfl, rfl, hpo, ?_, by simp, ?_⟩
        · rw [o2 _ (fun e => log_sh mailN e.symm) (fun e => img_sh mailN e.symm)]; exact sh1
        · show L1.last + 0 ≤ k + 1
          omega
    · refine .inr (.inl ⟨rfl, hp, ?_⟩)
      rw [if_pos hp]
/-- An empty store. -/
def Dsk.fresh : Dsk := ⟨268435456, [], none⟩
def Sto.fresh : Sto := ⟨Dsk.fresh, Led.zero, Stt.zero, false⟩
theorem fresh_open : opn Dsk.fresh mailN = (Dsk.fresh, 0, Led.zero) := opn_none rfl rfl rfl
theorem Dsk.fresh_ok : Dsk.fresh.Ok := ⟨Srt.nil, by decide, by decide, by decide, fun s f h => (by cases h), fun n h => (by cases h), fun s x h => (by cases h)⟩
theorem Sf.fresh : Sf Sto.fresh 0 0 0 := ⟨⟨Dsk.fresh_ok, rfl, Nat.le_refl _, Nat.le_refl _⟩, rfl, rfl, rfl, Stt.Ok.zero, rfl, by decide, Nat.le_refl _⟩
def knownU : Chg := ⟨1, [97], [112], [], [], [], 0, 0, 0, []⟩
def knownA : Chg := ⟨5, [97], [], inboxN, [], [], 0, 0, 0, []⟩
theorem known_one : chgOk knownU = true ∧ (plan Stt.zero knownU).1 = 0 ∧ (plan Stt.zero knownU).2.1 = 0 ∧ (plan Stt.zero knownU).2.2 = ⟨2, [([97], ⟨[112], [(inboxN, newB inboxN 1)]⟩)]⟩ := by
  refine ⟨by decide +kernel, by rfl, by rfl, by rfl⟩
theorem known_two : chgOk knownA = true ∧ (plan ⟨2, [([97], ⟨[112], [(inboxN, newB inboxN 1)]⟩)]⟩ knownA).1 = 0 ∧ (plan ⟨2, [([97], ⟨[112], [(inboxN, newB inboxN 1)]⟩)]⟩ knownA).2.1 = 1 ∧
    (plan ⟨2, [([97], ⟨[112], [(inboxN, newB inboxN 1)]⟩)]⟩ knownA).2.2.us = [([97], ⟨[112], [(inboxN, ⟨⟨inboxN.toArray⟩, 1, 2, [⟨1, 0, 0, []⟩]⟩)]⟩)] := by
  refine ⟨by decide +kernel, by rfl, by rfl, by rfl⟩
end Go.Proofs.YtipdndmfngpbfaaGreatDoor

namespace Go.Proofs.YtipdndmfngpbfaaGreatDoor
set_option linter.unusedSimpArgs false
set_option linter.unusedVariables false
set_option maxRecDepth 100000
set_option maxHeartbeats 1000000
open Go.Vc Go.RowKit

/-- Block s is a store: the ledger at l on the disk at g, the state at t. -/
structure StM (w : World) (s g l t : Nat) (S : Sto) (F G FS V : Nat → Prop) : Prop where
  blk : Blk w s 109 #[.pointer (some ⟨l, 0, none⟩), .pointer (some ⟨t, 0, none⟩), .bool S.dead]
  ls : LS w l g mailN S.D S.L F G V
  lok : S.L.Ok
  st : SttA w t S.T FS V
  apF : ∀ i, FS i → ¬ F i ∧ ¬ G i
  sv : V s
  sap : ¬ F s ∧ ¬ G s ∧ ¬ FS s
theorem StM.nw {w w' : World} {s g l t : Nat} {S : Sto} {F G FS V : Nat → Prop} (h : StM w s g l t S F G FS V) (k : Nw w w') : StM w' s g l t S F G FS V :=
  ⟨h.blk.nw k, h.ls.nw k, h.lok, h.st.nw k, h.apF, h.sv, h.sap⟩
theorem user_nil (n : Nm) (w : World) : Cal Tryz.prog 67 #[.pointer none, str n] w fun v w' => v = .pointer none ∧ w' = w := by
  refine enter Tryz.mixed Tryz.func67 rfl (by kernel_rfl) ?_
  simp -dsimp [go_sem]
theorem user_spec {w : World} {s t r : Nat} {l : Value} {T : Stt} {F V : Nat → Prop} {ptr rb : Nm → Nat} {vb : Nm → Nm → Value} {Fs : Nm → Nat → Prop} {dd : Bool} (hb : Blk w s 109 #[l, .pointer (some ⟨t, 0, none⟩), .bool dd]) (h : SttM w t T F V r ptr rb vb Fs) (n : Nm) :
    Cal Tryz.prog 67 #[.pointer (some ⟨s, 0, none⟩), str n] w fun v w' => v = (Mu ptr T.us n).getD (.pointer none) ∧ w' = w := by
  have b1 := hb.cell 1
  have t1 := h.blk.cell 1
  have hlk := lookup_mp KL hmu (z := .pointer none) (w := w) rfl h.mp n false
  refine enter Tryz.mixed Tryz.func67 rfl (by kernel_rfl) ?_
  simp -dsimp [go_sem, b1, t1, hlk]
theorem dead_nil (w : World) : Cal Tryz.prog 31 #[.pointer none] w fun v w' => v = .bool false ∧ w' = w := by
  refine enter Tryz.mixed Tryz.func31 rfl (by kernel_rfl) ?_
  simp -dsimp [go_sem]
theorem dead_spec {w : World} {s : Nat} {l t : Value} {dd : Bool} (hb : Blk w s 109 #[l, t, .bool dd]) : Cal Tryz.prog 31 #[.pointer (some ⟨s, 0, none⟩)] w fun v w' => v = .bool dd ∧ w' = w := by
  have b2 := hb.cell 2
  refine enter Tryz.mixed Tryz.func31 rfl (by kernel_rfl) ?_
  simp -dsimp [go_sem, b2]
theorem check_nil (n p : Nm) (w : World) : Cal Tryz.prog 29 #[.pointer none, str n, str p] w fun v w' => v = .bool false ∧ w' = w := by
  refine enter Tryz.mixed Tryz.func29 rfl (by kernel_rfl) ?_
  simp -dsimp [go_sem]
  refine call (user_nil n w) ?_
  rintro v w' ⟨rfl, rfl⟩
  simp -dsimp [go_sem]
theorem check_spec {w : World} {s t : Nat} {l : Value} {T : Stt} {F V : Nat → Prop} {dd : Bool} (hb : Blk w s 109 #[l, .pointer (some ⟨t, 0, none⟩), .bool dd]) (h : SttA w t T F V) (n p : Nm) :
    Cal Tryz.prog 29 #[.pointer (some ⟨s, 0, none⟩), str n, str p] w fun v w' => v = .bool (match tLook T.us n with | none => false | some u => decide (u.pass = p)) ∧ w' = w := by
  obtain ⟨r, ptr, rb, vb, Fs, hM⟩ := h
  refine enter Tryz.mixed Tryz.func29 rfl (by kernel_rfl) ?_
  simp -dsimp [go_sem]
  refine call (user_spec hb hM n) ?_
  rintro v w' ⟨rfl, rfl⟩
  cases hu : tLook T.us n with
  | none =>
    rw [show Mu ptr T.us n = none by simp [Mu, hu]]
    simp -dsimp [go_sem]
  | some u =>
    rw [show Mu ptr T.us n = some (.pointer (some ⟨ptr n, 0, none⟩)) by simp [Mu, hu]]
    have p0 := (hM.us _ _ hu).1.blk.cell 0
    by_cases hp : u.pass = p
    · have hp' : (u.pass == p) = true := by simpa using hp
      simp -dsimp [go_sem, p0, hp']
      simp [hp]
    · have hp' : (u.pass == p) = false := by simpa using hp
      simp -dsimp [go_sem, p0, hp']
      simp [hp]
end Go.Proofs.YtipdndmfngpbfaaGreatDoor

namespace Go.Proofs.YtipdndmfngpbfaaGreatDoor
set_option linter.unusedSimpArgs false
set_option linter.unusedVariables false
set_option maxRecDepth 100000
set_option maxHeartbeats 1000000
open Go.Vc Go.RowKit Go.Sort

abbrev srtN (ss : List Nm) : List Nm := ss.mergeSort fun x y => decide (x ≤ y)
theorem ssort_spec (ss : List Nm) (n : Nat) (hn : n = ss.length) (hl : ss.length < 4611686018427387904) (A : Option Addr) (c : Nat) (w : World) (ho : Ow w 9 1 A n c (ss.map fun s => str s)) :
    Cal Tryz.prog 112 #[.slice A n c] w fun v w' => v = .tuple #[] ∧ Rd w' A ((srtN ss).map fun s => str s) ∧ Kp (blk A) w w' := by
  subst hn
  have hrd := ho.rd
  obtain ⟨h1, h2, h3, ⟨rfl, rfl⟩ | ⟨g, cur, rfl, hb, h5, h6⟩⟩ := id ho
  · have hz : ss = [] := List.eq_nil_of_length_eq_zero (by omega)
    subst hz
    refine (AnyM.slices_Sort_string_none Tryz.sort112 none 0 w).mono fun e w' ⟨he, hw⟩ => ⟨_, he, rfl, ?_, ?_⟩
    · rw [hw, show srtN [] = [] by simp [srtN]]; exact Rd.nil _ _
    · rw [hw]; exact Kp.refl _ _
  · have hlt : g < w.heap.size := lt_of_heap hb
    have hH : Sort.Holds encStr w g 0 ss.toArray := fun j hj => by
      have hj' : j < ss.length := by simpa using hj
      obtain ⟨b, o, e, hc⟩ := hrd j (str ss[j]) (by simp [hj'])
      cases e
      refine ⟨?_, hb.frozen _⟩
      rw [hc]
      simp [getElem!_pos, hj']
    refine (AnyM.slices_Sort_string Tryz.sort112 g 0 c ss w hH hlt hl).mono fun e w' ⟨he, n, os, hw⟩ => ⟨_, he, rfl, ?_, ?_⟩
    · intro j u hj
      have hlen : (srtN ss).length = ss.length := by simp [srtN]
      have hjl : j < (srtN ss).length := by
        have := (List.getElem?_eq_some_iff.1 hj).1
        simpa using this
      refine ⟨g, 0, rfl, ?_⟩
      have hu : u = str (srtN ss)[j] := by
        rw [List.getElem?_map, List.getElem?_eq_getElem hjl] at hj
        simpa using hj.symm
      rw [hw, Sort.cell?_grow _ _ _ (by simpa using hlt), Sort.cell?_putRow _ (Sort.ahead w n) g 0 ss.toArray _ hH (by simp) j (by simpa using hjl), hu]
      simp [getElem!_pos, hjl]
      show ((srtN ss)[j]?).getD default = _
      rw [List.getElem?_eq_getElem hjl]
      rfl
    · rw [hw]
      refine ⟨rfl, rfl, rfl, by simp, fun i hi hn => ?_⟩
      rw [Sort.heap_grow_old _ _ (by simpa using hi)]
      show ((Sort.ahead w n).heap.modify g _)[i]? = _
      rw [Array.getElem?_modify, if_neg (fun e => hn e.symm)]
      rfl
theorem srtN_perm {k l : List Nm} (h : k.Perm l) (hs : l.Pairwise fun x y => x < y) : srtN k = l := by
  have h1 : srtN l = l := List.mergeSort_of_pairwise (hs.imp fun {a b} h => by
    have : ¬ b < a := fun h' => nm_lt_irrefl _ (nm_lt_trans h h')
    simpa using this)
  rw [← h1]
  exact mergeSort_of_perm h
theorem keysU_spec (r : Nat) (m : Nm → Option Value) (l : List Nm) (w : World) (h : Mp w r (fun l : Nm => str l) m) (hs : l.Pairwise fun x y => x < y) (hm : ∀ a, (m a).isSome = true ↔ a ∈ l) (hl : l.length ≤ 100) :
    Cal Tryz.prog 69 #[.map (some r)] w fun v w' => Nw w w' ∧ ∃ A c, v = .slice A l.length c ∧ Rd w' A (l.map fun s => str s) ∧ l.length ≤ c ∧ ∀ a, A = some a → w.heap.size ≤ a.block := by
  have K : KeyS Tryz.prog 9 (fun s : Nm => str s) := keyL (by kernel_rfl)
  have hmt : Tryz.prog.underlying 123 = some (.map 9 116) := by kernel_rfl
  obtain ⟨w1, hrun, hR, hk1⟩ := range_mp hmt h
  have nd : l.Nodup := hs.imp fun {a b} h => nm_ne h
  refine enter Tryz.mixed Tryz.func69 rfl (by kernel_rfl) ?_
  simp -dsimp [go_sem, hrun]
  have hrl := h.lt
  have hw1 := hR.lt
  obtain ⟨it, hit⟩ : ∃ it, it = w.heap.size := ⟨_, rfl⟩
  rw [← hit] at hR hw1 ⊢
  refine loop [3, 4, 7, 8, 9, 10, 11, 12, 13, 14] (by kernel_rfl)
    (fun f w' => Box1 (fun a w' => ∃ (ks : List Nm) (A : Option Addr) (c : Nat), a = .slice A ks.length c ∧ ks.Nodup ∧ (∀ s ∈ ks, s ∈ l) ∧ Ow w' 9 1 A ks.length c (ks.map fun s => str s) ∧ (∀ b, A = some b → it < b.block) ∧ Rg w' it r (fun s : Nm => str s) m (fun s => s ∉ ks) ∧ Nw w w') (f 3) w') (fun _ w' => rgN w' it r)
    ⟨[], none, 0, rfl, List.nodup_nil, by simp, Ow.nil _ _ _, by simp, by simpa using hR, hk1⟩ ?_
  rintro f w' ⟨ks, A, c, f3, hnd, hin, hO, hA, hR, hK⟩
  have hkl : ks.length ≤ l.length := hnd.length_le_of_subset hin
  rcases next_rg (P := Tryz.prog) K.inj hR 0 with ⟨hend, hnext⟩ | ⟨a, v, w2, ha, hla, hnext, hR2, hK2, hN2, hentry⟩
  · have hp : ks.Perm l := (List.perm_ext_iff_of_nodup hnd nd).2 fun a => ⟨hin a, fun hal => by
      have := (hm a).2 hal
      obtain ⟨v, hv⟩ := Option.isSome_iff_exists.1 this
      have := hend a v hv
      simpa using this⟩
    have hsl := srtN_perm hp hs
    have hll : ks.length = l.length := hp.length_eq
    simp -dsimp [go_sem, hnext, f3]
    refine call (ssort_spec ks ks.length rfl (by omega) A c w' hO) ?_
    rintro v w3 ⟨rfl, hr3, k3⟩
    rw [hsl] at hr3
    have n3 : Nw w w3 := hK.at_ k3 fun k hk => by
      obtain ⟨b, rfl, rfl⟩ := blk_of hk
      have := hA b rfl; omega
    have hcl := hO.2.1
    rw [hll] at f3 hcl
    simp -dsimp [go_sem, f3]
    exact ⟨n3, A, c, ⟨rfl, rfl⟩, hr3, hcl, fun b hb => by have := hA b hb; omega⟩
  · have hal : a ∈ l := (hm a).1 (by rw [ha]; rfl)
    have hK2' : Nw w w2 := hK.at_ hK2 fun k (e : k = it) => by omega
    have hO2 := hO.kp hK2 fun b hb (e : b.block = it) => by have := hA b hb; omega
    have hnd2 : (ks ++ [a]).Nodup := List.nodup_append.2 ⟨hnd, by simp, fun x hx y hy => by
      rw [List.mem_singleton.1 hy]
      rintro rfl
      exact hla hx⟩
    have hin2 : ∀ s ∈ ks ++ [a], s ∈ l := fun s hs => by
      rcases List.mem_append.1 hs with hs | hs
      · exact hin s hs
      · rw [List.mem_singleton.1 hs]; exact hal
    have hkl2 := hnd2.length_le_of_subset hin2
    rw [List.length_append, List.length_singleton] at hkl2
    simp -dsimp [go_sem, hnext, hentry, f3]
    have ka : Nw w2 (w2.alloc (.cells #[str a] 9)) := (Kp.refl _ _).alloc _
    have hitl : it < w2.heap.size := by have := hR2.lt; omega
    refine app Tryz.Sstr (hO2.nw ka) (Rd.fresh rfl rfl) (m := 1) rfl (fun u hu => by rw [List.mem_singleton.1 hu]; rfl) (by omega) (by omega) ?_
    intro A' c' w3 ho hk hAA
    have hoff : ∀ k, blk A k → it < k := fun k hk => by
      obtain ⟨b, rfl, rfl⟩ := blk_of hk
      exact hA b rfl
    have hA' : ∀ b, A' = some b → it < b.block := fun b hb => by
      rcases hAA with rfl | ⟨rfl, _⟩
      · exact hA b hb
      · cases hb; have := ka.size; simp; omega
    obtain ⟨k1, hk1'⟩ : ∃ k1, k1 = ks.length + 1 := ⟨_, rfl⟩
    have hlen : (ks ++ [a]).length = k1 := by simp [hk1']
    have kx : Kp (blk A) w2 w3 := (Nw.kp ka _).trans hk fun _ _ h => h
    obtain ⟨hR3, hN3⟩ := hR2.kp kx (fun e => by have := hoff it e; omega) (fun e => by have := hoff r e; omega)
    rw [← hk1'] at ho ⊢
    simp -dsimp [go_sem]
    exact ⟨⟨ks ++ [a], A', c', by rw [hlen], hnd2, hin2, by rw [hlen, List.map_append]; exact ho, hA', by simpa [not_or] using hR3, hK2'.at_ kx fun k hk => by have := hoff k hk; omega⟩, by rw [hN3]; exact hN2⟩
theorem keysB_spec (r : Nat) (m : Nm → Option Value) (l : List Nm) (w : World) (h : Mp w r (fun l : Nm => str l) m) (hs : l.Pairwise fun x y => x < y) (hm : ∀ a, (m a).isSome = true ↔ a ∈ l) (hl : l.length ≤ 100) :
    Cal Tryz.prog 73 #[.map (some r)] w fun v w' => Nw w w' ∧ ∃ A c, v = .slice A l.length c ∧ Rd w' A (l.map fun s => str s) ∧ l.length ≤ c ∧ ∀ a, A = some a → w.heap.size ≤ a.block := by
  have K : KeyS Tryz.prog 9 (fun s : Nm => str s) := keyL (by kernel_rfl)
  have hmt : Tryz.prog.underlying 118 = some (.map 9 52) := by kernel_rfl
  obtain ⟨w1, hrun, hR, hk1⟩ := range_mp hmt h
  have nd : l.Nodup := hs.imp fun {a b} h => nm_ne h
  refine enter Tryz.mixed Tryz.func73 rfl (by kernel_rfl) ?_
  simp -dsimp [go_sem, hrun]
  have hrl := h.lt
  have hw1 := hR.lt
  obtain ⟨it, hit⟩ : ∃ it, it = w.heap.size := ⟨_, rfl⟩
  rw [← hit] at hR hw1 ⊢
  refine loop [3, 4, 7, 8, 9, 10, 11, 12, 13, 14] (by kernel_rfl)
    (fun f w' => Box1 (fun a w' => ∃ (ks : List Nm) (A : Option Addr) (c : Nat), a = .slice A ks.length c ∧ ks.Nodup ∧ (∀ s ∈ ks, s ∈ l) ∧ Ow w' 9 1 A ks.length c (ks.map fun s => str s) ∧ (∀ b, A = some b → it < b.block) ∧ Rg w' it r (fun s : Nm => str s) m (fun s => s ∉ ks) ∧ Nw w w') (f 3) w') (fun _ w' => rgN w' it r)
    ⟨[], none, 0, rfl, List.nodup_nil, by simp, Ow.nil _ _ _, by simp, by simpa using hR, hk1⟩ ?_
  rintro f w' ⟨ks, A, c, f3, hnd, hin, hO, hA, hR, hK⟩
  have hkl : ks.length ≤ l.length := hnd.length_le_of_subset hin
  rcases next_rg (P := Tryz.prog) K.inj hR 0 with ⟨hend, hnext⟩ | ⟨a, v, w2, ha, hla, hnext, hR2, hK2, hN2, hentry⟩
  · have hp : ks.Perm l := (List.perm_ext_iff_of_nodup hnd nd).2 fun a => ⟨hin a, fun hal => by
      have := (hm a).2 hal
      obtain ⟨v, hv⟩ := Option.isSome_iff_exists.1 this
      have := hend a v hv
      simpa using this⟩
    have hsl := srtN_perm hp hs
    have hll : ks.length = l.length := hp.length_eq
    simp -dsimp [go_sem, hnext, f3]
    refine call (ssort_spec ks ks.length rfl (by omega) A c w' hO) ?_
    rintro v w3 ⟨rfl, hr3, k3⟩
    rw [hsl] at hr3
    have n3 : Nw w w3 := hK.at_ k3 fun k hk => by
      obtain ⟨b, rfl, rfl⟩ := blk_of hk
      have := hA b rfl; omega
    have hcl := hO.2.1
    rw [hll] at f3 hcl
    simp -dsimp [go_sem, f3]
    exact ⟨n3, A, c, ⟨rfl, rfl⟩, hr3, hcl, fun b hb => by have := hA b hb; omega⟩
  · have hal : a ∈ l := (hm a).1 (by rw [ha]; rfl)
    have hK2' : Nw w w2 := hK.at_ hK2 fun k (e : k = it) => by omega
    have hO2 := hO.kp hK2 fun b hb (e : b.block = it) => by have := hA b hb; omega
    have hnd2 : (ks ++ [a]).Nodup := List.nodup_append.2 ⟨hnd, by simp, fun x hx y hy => by
      rw [List.mem_singleton.1 hy]
      rintro rfl
      exact hla hx⟩
    have hin2 : ∀ s ∈ ks ++ [a], s ∈ l := fun s hs => by
      rcases List.mem_append.1 hs with hs | hs
      · exact hin s hs
      · rw [List.mem_singleton.1 hs]; exact hal
    have hkl2 := hnd2.length_le_of_subset hin2
    rw [List.length_append, List.length_singleton] at hkl2
    simp -dsimp [go_sem, hnext, hentry, f3]
    have ka : Nw w2 (w2.alloc (.cells #[str a] 9)) := (Kp.refl _ _).alloc _
    have hitl : it < w2.heap.size := by have := hR2.lt; omega
    refine app Tryz.Sstr (hO2.nw ka) (Rd.fresh rfl rfl) (m := 1) rfl (fun u hu => by rw [List.mem_singleton.1 hu]; rfl) (by omega) (by omega) ?_
    intro A' c' w3 ho hk hAA
    have hoff : ∀ k, blk A k → it < k := fun k hk => by
      obtain ⟨b, rfl, rfl⟩ := blk_of hk
      exact hA b rfl
    have hA' : ∀ b, A' = some b → it < b.block := fun b hb => by
      rcases hAA with rfl | ⟨rfl, _⟩
      · exact hA b hb
      · cases hb; have := ka.size; simp; omega
    obtain ⟨k1, hk1'⟩ : ∃ k1, k1 = ks.length + 1 := ⟨_, rfl⟩
    have hlen : (ks ++ [a]).length = k1 := by simp [hk1']
    have kx : Kp (blk A) w2 w3 := (Nw.kp ka _).trans hk fun _ _ h => h
    obtain ⟨hR3, hN3⟩ := hR2.kp kx (fun e => by have := hoff it e; omega) (fun e => by have := hoff r e; omega)
    rw [← hk1'] at ho ⊢
    simp -dsimp [go_sem]
    exact ⟨⟨ks ++ [a], A', c', by rw [hlen], hnd2, hin2, by rw [hlen, List.map_append]; exact ho, hA', by simpa [not_or] using hR3, hK2'.at_ kx fun k hk => by have := hoff k hk; omega⟩, by rw [hN3]; exact hN2⟩
end Go.Proofs.YtipdndmfngpbfaaGreatDoor

