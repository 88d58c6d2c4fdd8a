/-
  KeepApart walked: what is saved under one name does not touch another one; Clear takes just what begins so and is not to stay. By the session itself.
-/
import Derived.Test.YthdeedimdabjfaaKpD
namespace Go.Proofs.Ythdeedimdabjfaa
set_option linter.unusedSimpArgs false
set_option linter.unusedVariables false
set_option maxRecDepth 100000
set_option maxHeartbeats 1000000
open Go.Vc Go.RowKit

/-- Without a fuse a save that fits is done. -/
theorem kSave_is {D : Dsk} (ok : D.Ok) {s : Nm} {p : List UInt8} (h1 : 1 ≤ s.length) (h2 : s.length ≤ 60) (hp : p.length ≤ 1048576) (hsh : tLook D.fs (shadow s) = none) (hu : D.used + p.length + 12 ≤ D.room) (hm : D.fs.length < 4096) (hl : D.left = none) :
    kSave D s p = (⟨D.room, tLay D.fs s ⟨recL p, (recL p).length⟩, none⟩, 0) := by
  rcases kSave_out ok h1 h2 hp hsh hu hm with ⟨ha, hb, hc, hd⟩ | ⟨_, h, _⟩
  · replace hd := hd hl
    generalize kSave D s p = E at *
    obtain ⟨⟨r, f, l⟩, e⟩ := E
    simp only at ha hb hc hd
    subst ha; subst hb; subst hc; subst hd
    rfl
  · exact absurd hl h
/-- A file that is whole, and lasts. -/
def whole (p : List UInt8) : Fil := ⟨recL p, (recL p).length⟩
theorem load_whole {R : Nat} {fs : List (Nm × Fil)} {l : Option Nat} {s : Nm} {p : List UInt8} (h : tLook fs s = some (whole p)) (hp : p.length ≤ 1048576) : kLoad ⟨R, fs, l⟩ s = (p, 0) := by
  have hr : dRead ⟨R, fs, l⟩ s = (recL p, 0) := by
    unfold dRead
    rw [h]
    rfl
  unfold kLoad
  rw [hr, one_rec _ hp]
  simp
theorem load_none {R : Nat} {fs : List (Nm × Fil)} {l : Option Nat} {s : Nm} (h : tLook fs s = none) : kLoad ⟨R, fs, l⟩ s = ([], 7) := by
  have hr : dRead ⟨R, fs, l⟩ s = ([], 7) := by
    unfold dRead
    rw [h]
  unfold kLoad
  rw [hr]
  simp
abbrev nP1 : Nm := [112, 45, 49]
abbrev nP2 : Nm := [112, 45, 50]
abbrev nQ : Nm := [113]
theorem lt12 : nP1 < nP2 := by decide
theorem lt1q : nP1 < nQ := by decide
theorem lt2q : nP2 < nQ := by decide
theorem lt21 : ¬ nP2 < nP1 := by decide
theorem ne21 : ¬ nP2 = nP1 := by decide
theorem ne12 : ¬ nP1 = nP2 := by decide
theorem neq1 : ¬ nQ = nP1 := by decide
theorem neq2 : ¬ nQ = nP2 := by decide
theorem ne1q : ¬ nP1 = nQ := by decide
theorem ne2q : ¬ nP2 = nQ := by decide
theorem kapart_law (a b c : List UInt8) (dr : Int) (A B C : Option Addr) (ca cb cc : Nat) (w : World) (hrA : Rd w A (a.map u8)) (hca : a.length ≤ ca) (hrB : Rd w B (b.map u8)) (hcb : b.length ≤ cb) (hrC : Rd w C (c.map u8)) (hcc : c.length ≤ cc)
    (hz1 : a.length ≤ 140737488351232) (hz2 : b.length ≤ 140737488351232) (hz3 : c.length ≤ 140737488351232) :
    Cal Try.prog 12 #[.slice A a.length ca, .slice B b.length cb, .slice C c.length cc, i64 dr] w fun v w' => v = .bool true ∧ Nw w w' := by
  refine enter Try.mixed Try.func12 rfl (by kernel_rfl) ?_
  have s1 : IntKind.i64.wrap ((a.length : Int) + (b.length : Int)) = ((a.length + b.length : Nat) : Int) := w64 (by omega) (by omega)
  obtain ⟨n1, hn1⟩ : ∃ n, n = a.length + b.length := ⟨_, rfl⟩
  rw [← hn1] at s1
  have s2 : IntKind.i64.wrap ((n1 : Int) + (c.length : Int)) = ((n1 + c.length : Nat) : Int) := w64 (by omega) (by omega)
  obtain ⟨n2, hn2⟩ : ∃ n, n = n1 + c.length := ⟨_, rfl⟩
  rw [← hn2] at s2
  simp -dsimp [go_sem, s1, s2]
  refine cond_d (fun h8 => ?_) (fun h8 => ?_)
  · simp -dsimp [go_sem]
    exact Kp.refl _ _
  simp -dsimp [go_sem]
  refine call (new_spec 1048576 w) ?_
  rintro v w1 (⟨h, _⟩ | ⟨_, _, g, F, rfl, hD, nF, hk1⟩)
  · omega
  have hD : Dk w1 g ⟨1048576, [], none⟩ F := hD
  have rla := recL_len a
  have rlb := recL_len b
  have rlc := recL_len c
  have rlba := recL_len (b ++ a)
  have hba : (b ++ a).length = b.length + a.length := by simp
  have e1 : kSave ⟨1048576, [], none⟩ nP1 a = (⟨1048576, [(nP1, whole a)], none⟩, 0) := kSave_is hD.ok (by simp) (by simp) (by omega) rfl (by simp [Dsk.used, sumv]; omega) (by simp) rfl
  simp -dsimp [go_sem]
  have kah2 : Nw w1 ((w1).alloc (.cells #[.slice A (a).length ca] 23)) := (Kp.refl _ _).alloc _
  refine call (ksave_spec nP1 [a] _ 1 g _ F (fun _ => False) _ (Dk.nw hD kah2) (Brs.one (p := a) (d := ca) (Blk.fresh rfl) (fun h => h) (Rd.nw (Rd.nw hrA hk1) kah2) (fun _ _ h => h) (by omega)) (by simp) (by simp) (by simp; omega)) ?_
  rw [show ([a] : List (List UInt8)).flatten = a by simp, e1]
  rintro v w2 ⟨rfl, F2, h2, hGh2, hKh2⟩
  have nw2 : Nw w w2 := Nw.at_ (Kp.nw hk1 kah2) hKh2 nF
  have nF2 := Nf.gr nF hGh2 (Kp.nw hk1 kah2).size
  have e2 : kSave ⟨1048576, [(nP1, whole a)], none⟩ nP2 b = (⟨1048576, [(nP1, whole a), (nP2, whole b)], none⟩, 0) := by
    rw [kSave_is h2.ok (by simp) (by simp) (by omega) (by simp [tLook, shadow]) (by simp [Dsk.used, sumv, whole]; omega) (by simp) rfl]
    simp [tLay, lt12, whole]
    decide
  simp -dsimp [go_sem]
  have kah3 : Nw w2 ((w2).alloc (.cells #[.slice B (b).length cb] 23)) := (Kp.refl _ _).alloc _
  refine call (ksave_spec nP2 [b] _ 1 g _ F2 (fun _ => False) _ (Dk.nw h2 kah3) (Brs.one (p := b) (d := cb) (Blk.fresh rfl) (fun h => h) (Rd.nw (Rd.nw hrB nw2) kah3) (fun _ _ h => h) (by omega)) (by simp) (by simp) (by simp; omega)) ?_
  rw [show ([b] : List (List UInt8)).flatten = b by simp, e2]
  rintro v w3 ⟨rfl, F3, h3, hGh3, hKh3⟩
  have nw3 : Nw w w3 := Nw.at_ (Kp.nw nw2 kah3) hKh3 nF2
  have nF3 := Nf.gr nF2 hGh3 (Kp.nw nw2 kah3).size
  have e3 : kSave ⟨1048576, [(nP1, whole a), (nP2, whole b)], none⟩ nQ c = (⟨1048576, [(nP1, whole a), (nP2, whole b), (nQ, whole c)], none⟩, 0) := by
    rw [kSave_is h3.ok (by simp) (by simp) (by omega) (by simp [tLook, shadow]) (by simp [Dsk.used, sumv, whole]; omega) (by simp) rfl]
    simp [tLay, lt1q, lt2q, whole]
  simp -dsimp [go_sem]
  have kah4 : Nw w3 ((w3).alloc (.cells #[.slice C (c).length cc] 23)) := (Kp.refl _ _).alloc _
  refine call (ksave_spec nQ [c] _ 1 g _ F3 (fun _ => False) _ (Dk.nw h3 kah4) (Brs.one (p := c) (d := cc) (Blk.fresh rfl) (fun h => h) (Rd.nw (Rd.nw hrC nw3) kah4) (fun _ _ h => h) (by omega)) (by simp) (by simp) (by simp; omega)) ?_
  rw [show ([c] : List (List UInt8)).flatten = c by simp, e3]
  rintro v w4 ⟨rfl, F4, h4, hGh4, hKh4⟩
  have nw4 : Nw w w4 := Nw.at_ (Kp.nw nw3 kah4) hKh4 nF3
  have nF4 := Nf.gr nF3 hGh4 (Kp.nw nw3 kah4).size
  have e4 : kSave ⟨1048576, [(nP1, whole a), (nP2, whole b), (nQ, whole c)], none⟩ nP2 (b ++ a) = (⟨1048576, [(nP1, whole a), (nP2, whole (b ++ a)), (nQ, whole c)], none⟩, 0) := by
    rw [kSave_is h4.ok (by simp) (by simp) (by omega) (by simp [tLook, shadow]) (by simp [Dsk.used, sumv, whole]; omega) (by simp) rfl]
    simp [tLay, lt12, nm_lt_irrefl, whole]
    decide
  simp -dsimp [go_sem]
  have ka5 : Nw w4 (w4.alloc (.cells #[.slice B b.length cb, .slice A a.length ca] 23)) := (Kp.refl _ _).alloc _
  refine call (ksave_spec nP2 [b, a] _ 2 g _ F4 (fun _ => False) _ (h4.nw ka5) (Brs.two (p := b) (q := a) (c := cb) (d := ca) (Blk.fresh rfl) (fun h => h) ((hrB.nw nw4).nw ka5) (fun _ _ h => h) hcb ((hrA.nw nw4).nw ka5) (fun _ _ h => h) hca) (by simp) (by simp) (by simp; omega)) ?_
  rw [show ([b, a] : List (List UInt8)).flatten = b ++ a by simp, e4]
  rintro v w5 ⟨rfl, F5, h5, hG5, hK5⟩
  have nw5 : Nw w w5 := Nw.at_ (Kp.nw nw4 ka5) hK5 nF4
  have nF5 := nF4.gr hG5 (Kp.nw nw4 ka5).size
  simp -dsimp [go_sem]
  refine call (dcrash_spec dr g _ F5 w5 h5) ?_
  have ec : dCrash ⟨1048576, [(nP1, whole a), (nP2, whole (b ++ a)), (nQ, whole c)], none⟩ dr = ⟨1048576, [(nP1, whole a), (nP2, whole (b ++ a)), (nQ, whole c)], none⟩ := by
    simp [dCrash, mapv, whole, cutF_whole]
  rw [ec]
  rintro v w6 ⟨rfl, h6, hK6⟩
  have nw6 : Nw w w6 := Nw.at_ nw5 hK6 nF5
  simp -dsimp [go_sem]
  refine call (kload_spec nP1 g _ F5 w6 h6) ?_
  rw [load_whole (p := a) (by simp [tLook]) (by omega)]
  rintro v w7 ⟨hk7, u7, rfl, ⟨A7, c7, rfl, ho7, hA7⟩⟩
  have nw7 := nw6.nw hk7
  have h7 := h6.nw hk7
  simp -dsimp [go_sem]
  refine call (kload_spec nP2 g _ F5 w7 h7) ?_
  rw [load_whole (p := b ++ a) (by simp [tLook, ne12]) (by omega)]
  obtain ⟨y, hy⟩ : ∃ y, y = b ++ a := ⟨_, rfl⟩
  rw [← hy]
  rintro v w8 ⟨hk8, u8, rfl, ⟨A8, c8, rfl, ho8, hA8⟩⟩
  have nw8 := nw7.nw hk8
  have h8' := h7.nw hk8
  have hyl : y.length ≤ 140737488355328 := by rw [hy]; omega
  simp -dsimp [go_sem]
  refine call (ksame_spec A7 A c7 ca a a w8 (ho7.nw hk8).rd (hrA.nw nw8) (by omega)) ?_
  rintro v w9 ⟨rfl, hk9⟩
  have nw9 := nw8.nw hk9
  simp -dsimp [go_sem]
  refine bs_fresh (m := b) rfl rfl (hrB.nw nw9) (by omega) ?_
  intro v10 w10 hB10 hk10
  simp -dsimp [go_sem]
  refine bs_app (m := a) (l := b) (B := w9.heap.size) hB10 (hrA.nw (nw9.nw hk10)) (by omega) hk10.size ?_
  intro v11 w11 hB11 hk11
  have k11 := Nw.fr hk10 hk11 (Nat.le_refl _)
  rw [← hy] at hB11
  obtain ⟨A11, c11, rfl, ho11, hA11⟩ := hB11
  have nw11 := nw9.nw k11
  simp -dsimp [go_sem]
  refine call (ksame_spec A8 A11 c8 c11 y y w11 ((ho8.nw hk9).nw k11).rd ho11.rd hyl) ?_
  rintro v w12 ⟨rfl, hk12⟩
  have nw12 := nw11.nw hk12
  have h12 := ((h8'.nw hk9).nw k11).nw hk12
  rw [← hy] at h12
  simp -dsimp [go_sem]
  have kb : Nw w12 (w12.alloc (.cells #[str nP2, str nQ] 9)) := (Kp.refl _ _).alloc _
  refine call (kclear_spec [112, 45] [nP2, nQ] _ 2 g _ F5 _ (h12.nw kb) (Rd.fresh rfl rfl) (h12.ofl_new (Nat.le_refl _) _) (by simp)) ?_
  have ecl : kClr [112, 45] [nP2, nQ] ⟨1048576, [(nP1, whole a), (nP2, whole y), (nQ, whole c)], none⟩ (keysA [(nP1, whole a), (nP2, whole y), (nQ, whole c)]) = (⟨1048576, [(nP2, whole y), (nQ, whole c)], none⟩, 0) := by
    have p1 : hasPre nP1 [112, 45] = true := by decide
    have p2 : hasPre nP2 [112, 45] = true := by decide
    have hm : mayL ⟨1048576, [(nP1, whole a), (nP2, whole y), (nQ, whole c)], none⟩ [nP1] = 0 := mayL_none (by decide)
    have hrm : dEach fRemove ⟨1048576, [(nP1, whole a), (nP2, whole y), (nQ, whole c)], none⟩ [nP1] = (⟨1048576, [(nP2, whole y), (nQ, whole c)], none⟩, 0) := by
      simp [dEach, dStep, hm, tLook, fRemove, tGone, Dsk.done]
    have n1 : nP1 ∉ [nP2, nQ] := by decide
    show kClr _ _ _ [nP1, nP2, nQ] = _
    simp only [kClr]
    rw [if_neg (by simp only [p1]; simp), hrm, if_neg (fun h => h rfl), if_pos (.inr (by simp)), if_pos (.inr (by simp))]
  rw [show keysA (⟨1048576, [(nP1, whole a), (nP2, whole y), (nQ, whole c)], none⟩ : Dsk).fs = keysA [(nP1, whole a), (nP2, whole y), (nQ, whole c)] from rfl, ecl]
  rintro v w13 ⟨rfl, F13, h13, hG13, hK13⟩
  have nw13 : Nw w w13 := Nw.at_ (nw12.nw kb) hK13 nF5
  have nF13 := nF5.gr hG13 (nw12.nw kb).size
  have h13 : Dk w13 g ⟨1048576, [(nP2, whole y), (nQ, whole c)], none⟩ F13 := h13
  simp -dsimp [go_sem]
  refine call (kload_spec nP1 g _ F13 w13 h13) ?_
  rw [load_none (by simp [tLook])]
  rintro v w14 ⟨hk14, u14, rfl, hB14⟩
  have nw14 := nw13.nw hk14
  have h14 := h13.nw hk14
  simp -dsimp [go_sem]
  refine call (kload_spec nQ g _ F13 w14 h14) ?_
  rw [load_whole (p := c) (by simp [tLook]) (by omega)]
  rintro v w15 ⟨hk15, u15, rfl, ⟨A15, c15, rfl, ho15, hA15⟩⟩
  have nw15 := nw14.nw hk15
  have h15 := h14.nw hk15
  simp -dsimp [go_sem]
  refine call (ksame_spec A15 C c15 cc c c w15 ho15.rd (hrC.nw nw15) (by omega)) ?_
  rintro v w16 ⟨rfl, hk16⟩
  have nw16 := nw15.nw hk16
  have h16 := h15.nw hk16
  simp -dsimp [go_sem]
  refine call (dlist_spec g _ F13 w16 h16) ?_
  rintro v w17 ⟨hk17, A17, c17, rfl, hr17, _, _⟩
  have nw17 := nw16.nw hk17
  simp -dsimp [go_sem]
  have kc : Nw w17 (w17.alloc (.cells #[str nP2, str nQ] 9)) := (Kp.refl _ _).alloc _
  refine call (ktexts_spec A17 (some ⟨w17.heap.size, 0, none⟩) c17 2 [nP2, nQ] [nP2, nQ] _ (hr17.nw kc) (Rd.fresh rfl rfl) (by simp)) ?_
  rintro v w18 ⟨rfl, hk18⟩
  have nw18 := (nw17.nw kc).nw hk18
  simp -dsimp [go_sem]
  refine call (kknown_spec w18) ?_
  rintro v w19 ⟨rfl, hk19⟩
  simp -dsimp [go_sem]
  exact nw18.nw hk19
end Go.Proofs.Ythdeedimdabjfaa
