/-
  DiskNames walked: a file that gets another name has its bytes; what had that name is gone. By the session itself.
-/
import Derived.Test.YthdeedimdabjfaaDkL
import Derived.Test.YthdeedimdabjfaaDkH
namespace Go.Proofs.Ythdeedimdabjfaa
set_option linter.unusedSimpArgs false
set_option linter.unusedVariables false
set_option maxRecDepth 100000
set_option maxHeartbeats 1000000
open Go.Vc Go.RowKit
theorem bytes_eqn (p q : List UInt8) : ((⟨p.toArray⟩ : ByteArray) == ⟨q.toArray⟩) = decide (p = q) := by
  rw [Bool.eq_iff_iff, MapKept.bytes_beq, decide_eq_true_iff]
  constructor
  · intro h
    injection h with h
    exact List.toArray_inj h
  · rintro rfl; rfl

theorem dtexts_spec (A B : Option Addr) (c d : Nat) (xs ys : List Nm) (w : World) (hx : Rd w A (xs.map fun s => str s)) (hy : Rd w B (ys.map fun s => str s)) (hl : xs.length ≤ 140737488355328) :
    Cal Try.prog 30 #[.slice A xs.length c, .slice B ys.length d] w fun v w' => v = .bool (decide (xs = ys)) ∧ Nw w w' := by
  refine enter Try.mixed Try.func30 rfl (by kernel_rfl) ?_
  simp -dsimp [go_sem]
  refine cond_n (fun h => ?_) (fun h => ?_)
  · simp -dsimp [go_sem]
    refine ⟨?_, Kp.refl _ _⟩
    rintro rfl; exact h rfl
  · have hlen : xs.length = ys.length := by omega
    simp -dsimp [go_sem]
    refine loop [4, 5, 11, 12, 13, 14, 15, 16, 17, 18, 19, 20, 21, 22, 23, 24, 25] (by kernel_rfl) (fun f w' => Box1 (fun a w' => ∃ k : Nat, k ≤ xs.length ∧ a = i64 k ∧ xs.take k = ys.take k ∧ w'.heap = w.heap ∧ Nw w w') (f 5) w')
      (fun f _ => xs.length - (intOf (f 5)).toNat) ⟨0, Nat.zero_le _, rfl, by simp, rfl, Kp.refl _ _⟩ ?_
    rintro f w' ⟨k, hk, f5, ht, hh, hK⟩
    simp -dsimp [go_sem, f5]
    refine cond_d (fun hlt => ?_) (fun hlt => ?_)
    · have hlt : k < xs.length := by omega
      obtain ⟨b, o, rfl, hc⟩ := hx k (str xs[k]) (by simp [hlt])
      have hlt' : k < ys.length := by omega
      obtain ⟨b', o', rfl, hc'⟩ := hy k (str ys[k]) (by simp [hlt'])
      simp -dsimp [go_sem]
      refine draw (.take 0 (.take 1 (.take 2 (.take 3 (.take 4 (.take 5 (.take 6 (.take 7 (.take 8 .done))))))))) (by kernel_rfl) (fun w1 => w1.heap = w.heap) hh ?_
      have hcell : ∀ w1 : World, w1.heap = w.heap → ∀ a, w1.cell? a = w.cell? a := fun w1 h a => by simp [World.cell?, h]
      have heq : ((⟨(xs[k]).toArray⟩ : ByteArray) != ⟨(ys[k]).toArray⟩) = !decide (xs[k] = ys[k]) := by rw [bne, bytes_eqn]
      have htk : xs.take (k + 1) = xs.take k ++ [xs[k]] := List.take_succ_eq_append_getElem hlt
      have htk' : ys.take (k + 1) = ys.take k ++ [ys[k]] := List.take_succ_eq_append_getElem hlt'
      have hne : xs[k] ≠ ys[k] → xs ≠ ys := fun h e => h (by simp [e])
      obtain ⟨a, ha⟩ : ∃ a, a = xs[k] := ⟨_, rfl⟩
      obtain ⟨b1, hb1⟩ : ∃ b1, b1 = ys[k] := ⟨_, rfl⟩
      rw [← ha] at hc heq htk hne
      rw [← hb1] at hc' heq htk' hne
      simp -dsimp [go_sem, f5, hlt, hlt', hcell w' hh, hc, hc', heq]
      refine ⟨fun w1 h1 => by simp [hcell w1 h1, hc], fun w1 h1 => by simp [hcell w1 h1, hc'], ?_⟩
      by_cases hab : a = b1
      · subst hab
        have hk1 : IntKind.i64.wrap ((k : Int) + 1) = ((k + 1 : Nat) : Int) := w64 (by omega) (by omega)
        obtain ⟨k1, hk1'⟩ : ∃ k1, k1 = k + 1 := ⟨_, rfl⟩
        rw [← hk1'] at hk1 htk htk'
        simp -dsimp [go_sem, f5, hk1]
        exact ⟨⟨k1, by omega, rfl, by rw [htk, htk', ht], hh, hK.drew⟩, by simp [intOf]; omega⟩
      · have hab' : (a == b1) = false := by simpa using hab
        simp -dsimp [go_sem, hab']
        exact ⟨hne hab, hK.drew⟩
    · obtain rfl : k = xs.length := by omega
      simp -dsimp [go_sem]
      refine ⟨?_, hK⟩
      rw [List.take_length, List.take_of_length_le (by omega)] at ht
      exact ht

theorem lt_xy : ([120] : Nm) < [121] := by decide
theorem bad120 : badN [120] = false := by decide
theorem bad121 : badN [121] = false := by decide
theorem bad122 : badN [122] = false := by decide
theorem dn_y {R : Nat} {X : Fil} {c : List UInt8} (h : X.b.length + c.length ≤ R) : dAppend ⟨R, [([120], X)], none⟩ [121] c = (⟨R, [([120], X), ([121], ⟨c, 0⟩)], none⟩, 0) := by
  rw [dApp_is rfl bad121 (by simpa [Dsk.used, sumv] using h) (by simp)]
  simp [tLay, dRead, tLook, Fil.none, lt_xy]
theorem dn_sync {R : Nat} {b : List UInt8} {l : Nat} {Y : Fil} : dEach fSync ⟨R, [([120], ⟨b, l⟩), ([121], Y)], none⟩ [[120]] = (⟨R, [([120], ⟨b, b.length⟩), ([121], Y)], none⟩, 0) := by
  simp [dEach, dStep, mayL_none bad120, tLook, fSync, tLay, nm_lt_irrefl, Dsk.done]
theorem dn_ren {R : Nat} {X Y : Fil} : dRename ⟨R, [([120], X), ([121], Y)], none⟩ [120] [121] = (⟨R, [([121], X)], none⟩, 0) := by
  have hm : mayL ⟨R, [([120], X), ([121], Y)], none⟩ [[120], [121]] = 0 := by simp [mayL, bad120, bad121]
  unfold dRename
  rw [hm]
  simp [tLook, tGone, tLay, nm_lt_irrefl, Dsk.done]
theorem dn_ren2 {R : Nat} {X : Fil} : dRename ⟨R, [([121], X)], none⟩ [120] [122] = (⟨R, [([121], X)], none⟩, 7) := by
  have hm : mayL ⟨R, [([121], X)], none⟩ [[120], [122]] = 0 := by simp [mayL, bad120, bad122]
  unfold dRename
  rw [hm]
  simp [tLook]
theorem dn_read {R : Nat} {b : List UInt8} {l : Nat} (h : l ≤ b.length) : dRead (dCrash ⟨R, [([121], ⟨b, l⟩)], none⟩ 0) [121] = (b.take l, 0) := by
  simp [dRead, dCrash1, tLook, cutF]
theorem dnames_law (a b c : List UInt8) (sy : Bool) (A B C : Option Addr) (ca cb cc : Nat) (w : World) (hrA : Rd w A (a.map u8)) (hca : a.length ≤ ca) (hrB : Rd w B (b.map u8)) (hcb : b.length ≤ cb) (hrC : Rd w C (c.map u8)) (hcc : c.length ≤ cc)
    (hz1 : a.length ≤ 140737488351232) (hz2 : b.length ≤ 140737488351232) (hz3 : c.length ≤ 140737488351232) :
    Cal Try.prog 8 #[.slice A a.length ca, .slice B b.length cb, .slice C c.length cc, .bool sy] w fun v w' => v = .bool true ∧ Nw w w' := by
  refine enter Try.mixed Try.func8 rfl (by kernel_rfl) ?_
  have s1 : IntKind.i64.wrap ((a.length : Int) + (b.length : Int)) = ((a.length + b.length : Nat) : Int) := w64 (by omega) (by omega)
  obtain ⟨n1, hn1⟩ : ∃ n, n = a.length + b.length := ⟨_, rfl⟩
  rw [← hn1] at s1
  have s2 : IntKind.i64.wrap ((n1 : Int) + (c.length : Int)) = ((n1 + c.length : Nat) : Int) := w64 (by omega) (by omega)
  obtain ⟨n2, hn2⟩ : ∃ n, n = n1 + c.length := ⟨_, rfl⟩
  rw [← hn2] at s2
  simp -dsimp [go_sem, s1, s2]
  refine cond_d (fun h8 => ?_) (fun h8 => ?_)
  · simp -dsimp [go_sem]
    exact Kp.refl _ _
  simp -dsimp [go_sem]
  refine call (new_spec 1048576 w) ?_
  rintro v w1 (⟨h, _⟩ | ⟨_, _, g, F, rfl, hD, nF, hk1⟩)
  · omega
  have hD : Dk w1 g ⟨1048576, [], none⟩ F := hD
  have hab : (a ++ b).length = a.length + b.length := by simp
  have e1 : dAppend ⟨1048576, [], none⟩ [120] a = (⟨1048576, [([120], ⟨a, 0⟩)], none⟩, 0) := dApp0 bad120 (by omega)
  have e2 : dEach fSync ⟨1048576, [([120], ⟨a, 0⟩)], none⟩ [[120]] = (⟨1048576, [([120], ⟨a, a.length⟩)], none⟩, 0) := dSync1 bad120
  have e3 : dAppend ⟨1048576, [([120], ⟨a, a.length⟩)], none⟩ [120] b = (⟨1048576, [([120], ⟨a ++ b, a.length⟩)], none⟩, 0) := dApp1 bad120 (by omega)
  have e4 : dAppend ⟨1048576, [([120], ⟨a ++ b, a.length⟩)], none⟩ [121] c = (⟨1048576, [([120], ⟨a ++ b, a.length⟩), ([121], ⟨c, 0⟩)], none⟩, 0) := dn_y (by show (a ++ b).length + _ ≤ _; omega)
  simp -dsimp [go_sem]
  have kah2 : Nw w1 ((w1).alloc (.cells #[.slice A (a).length ca] 23)) := (Kp.refl _ _).alloc _
  refine call (dappend_spec [120] [a] _ 1 g _ F (fun _ => False) _ (Dk.nw hD kah2) (Brs.one (p := a) (d := ca) (Blk.fresh rfl) (fun h => h) (Rd.nw (Rd.nw hrA hk1) kah2) (fun _ _ h => h) (by omega)) (by simp) (by simp) (by simp; omega) (by simp)) ?_
  rw [show ([a] : List (List UInt8)).flatten = a by simp, e1]
  rintro v w2 ⟨rfl, F2, h2, hGh2, hKh2⟩
  have nw2 : Nw w w2 := Nw.at_ (Kp.nw hk1 kah2) hKh2 nF
  have nF2 := Nf.gr nF hGh2 (Kp.nw hk1 kah2).size
  simp -dsimp [go_sem]
  have kah3 : Nw w2 ((w2).alloc (.cells #[str [120]] 9)) := (Kp.refl _ _).alloc _
  refine call (dsync_spec [[120]] _ 1 g _ F2 _ (Dk.nw h2 kah3) (Rd.fresh rfl rfl) (Dk.ofl_new h2 (Nat.le_refl _) _) (by simp) (by simp)) ?_
  rw [e2]
  rintro v w3 ⟨rfl, F3, h3, hGh3, hKh3⟩
  have nw3 : Nw w w3 := Nw.at_ (Kp.nw nw2 kah3) hKh3 nF2
  have nF3 := Nf.gr nF2 hGh3 (Kp.nw nw2 kah3).size
  simp -dsimp [go_sem]
  have kah4 : Nw w3 ((w3).alloc (.cells #[.slice B (b).length cb] 23)) := (Kp.refl _ _).alloc _
  refine call (dappend_spec [120] [b] _ 1 g _ F3 (fun _ => False) _ (Dk.nw h3 kah4) (Brs.one (p := b) (d := cb) (Blk.fresh rfl) (fun h => h) (Rd.nw (Rd.nw hrB nw3) kah4) (fun _ _ h => h) (by omega)) (by simp) (by simp) (by simp; omega) (by simp)) ?_
  rw [show ([b] : List (List UInt8)).flatten = b by simp, e3]
  rintro v w4 ⟨rfl, F4, h4, hGh4, hKh4⟩
  have nw4 : Nw w w4 := Nw.at_ (Kp.nw nw3 kah4) hKh4 nF3
  have nF4 := Nf.gr nF3 hGh4 (Kp.nw nw3 kah4).size
  simp -dsimp [go_sem]
  have kah5 : Nw w4 ((w4).alloc (.cells #[.slice C (c).length cc] 23)) := (Kp.refl _ _).alloc _
  refine call (dappend_spec [121] [c] _ 1 g _ F4 (fun _ => False) _ (Dk.nw h4 kah5) (Brs.one (p := c) (d := cc) (Blk.fresh rfl) (fun h => h) (Rd.nw (Rd.nw hrC nw4) kah5) (fun _ _ h => h) (by omega)) (by simp) (by simp) (by simp; omega) (by simp)) ?_
  rw [show ([c] : List (List UInt8)).flatten = c by simp, e4]
  rintro v w5 ⟨rfl, F5, h5, hGh5, hKh5⟩
  have nw5 : Nw w w5 := Nw.at_ (Kp.nw nw4 kah5) hKh5 nF4
  have nF5 := Nf.gr nF4 hGh5 (Kp.nw nw4 kah5).size
  cases sy with
  | true =>
    simp -dsimp [go_sem]
    have kah6 : Nw w5 ((w5).alloc (.cells #[str [120]] 9)) := (Kp.refl _ _).alloc _
    refine call (dsync_spec [[120]] _ 1 g _ F5 _ (Dk.nw h5 kah6) (Rd.fresh rfl rfl) (Dk.ofl_new h5 (Nat.le_refl _) _) (by simp) (by simp)) ?_
    rw [dn_sync]
    rintro v w6 ⟨rfl, F6, h6, hGh6, hKh6⟩
    have nw6 : Nw w w6 := Nw.at_ (Kp.nw nw5 kah6) hKh6 nF5
    have nF6 := Nf.gr nF5 hGh6 (Kp.nw nw5 kah6).size
    simp -dsimp [go_sem]
    refine call (drename_spec [120] [121] g _ F6 w6 h6 (by simp) (by simp)) ?_
    rw [dn_ren]
    rintro v w7 ⟨rfl, h7, hK7⟩
    have nw7 : Nw w w7 := Nw.at_ nw6 hK7 nF6
    simp -dsimp [go_sem]
    refine call (dlist_spec g _ F6 w7 h7) ?_
    rintro v w8 ⟨hk8, A8, c8, rfl, hr8, _, _⟩
    have nw8 := nw7.nw hk8
    simp -dsimp [go_sem]
    have kb : Nw w8 (w8.alloc (.cells #[str [121]] 9)) := (Kp.refl _ _).alloc _
    refine call (dtexts_spec A8 (some ⟨w8.heap.size, 0, none⟩) c8 1 [[121]] [[121]] _ (hr8.nw kb) (Rd.fresh rfl rfl) (by simp)) ?_
    rintro v w9 ⟨rfl, hk9⟩
    have nw9 := (nw8.nw kb).nw hk9
    have h9 := ((h7.nw hk8).nw kb).nw hk9
    simp -dsimp [go_sem]
    refine call (drename_spec [120] [122] g _ F6 w9 h9 (by simp) (by simp)) ?_
    rw [dn_ren2]
    rintro v w10 ⟨rfl, h10, hK10⟩
    have nw10 : Nw w w10 := Nw.at_ nw9 hK10 nF6
    simp -dsimp [go_sem]
    refine call (dcrash_spec 0 g _ F6 w10 h10) ?_
    rintro v w11 ⟨rfl, h11, hK11⟩
    have nw11 : Nw w w11 := Nw.at_ nw10 hK11 nF6
    simp -dsimp [go_sem]
    refine call (dread_spec [121] g _ F6 w11 h11) ?_
    rw [dn_read (by simp)]
    rintro v w12 ⟨hk12, u, rfl, hB12⟩
    have nw12 := nw11.nw hk12
    obtain ⟨q, hq⟩ : ∃ q, q = (a ++ b).take (a ++ b).length := ⟨_, rfl⟩
    simp only at hB12
    rw [← hq] at hB12
    obtain ⟨A12, c12, rfl, ho12, hA12⟩ := hB12
    simp -dsimp [go_sem]
    refine bs_fresh (m := a) rfl rfl (hrA.nw nw12) (by omega) ?_
    intro v13 w13 hB13 hk13
    have nw13 := nw12.nw hk13
    simp -dsimp [go_sem]
    refine bs_app (m := b) (l := a) (B := w12.heap.size) hB13 (hrB.nw nw13) (by omega) hk13.size ?_
    intro v14 w14 hB14 hk14
    have k14 := Nw.fr hk13 hk14 (Nat.le_refl _)
    have hq2 : a ++ b = q := by rw [hq, List.take_length]
    rw [hq2] at hB14
    have hql : q.length ≤ 140737488355328 := by rw [← hq2]; omega
    obtain ⟨A14, c14, rfl, ho14, hA14⟩ := hB14
    simp -dsimp [go_sem]
    refine call (dsame_spec A12 A14 c12 c14 q q w14 (ho12.nw k14).rd ho14.rd hql) ?_
    rintro v w15 ⟨rfl, hk15⟩
    simp -dsimp [go_sem]
    refine call (dknown_spec w15) ?_
    rintro v w16 ⟨rfl, hk16⟩
    simp -dsimp [go_sem]
    exact ((nw12.nw k14).nw hk15).nw hk16
  | false =>
    simp -dsimp [go_sem]
    refine call (drename_spec [120] [121] g _ F5 w5 h5 (by simp) (by simp)) ?_
    rw [dn_ren]
    rintro v w7 ⟨rfl, h7, hK7⟩
    have nw7 : Nw w w7 := Nw.at_ nw5 hK7 nF5
    simp -dsimp [go_sem]
    refine call (dlist_spec g _ F5 w7 h7) ?_
    rintro v w8 ⟨hk8, A8, c8, rfl, hr8, _, _⟩
    have nw8 := nw7.nw hk8
    simp -dsimp [go_sem]
    have kb : Nw w8 (w8.alloc (.cells #[str [121]] 9)) := (Kp.refl _ _).alloc _
    refine call (dtexts_spec A8 (some ⟨w8.heap.size, 0, none⟩) c8 1 [[121]] [[121]] _ (hr8.nw kb) (Rd.fresh rfl rfl) (by simp)) ?_
    rintro v w9 ⟨rfl, hk9⟩
    have nw9 := (nw8.nw kb).nw hk9
    have h9 := ((h7.nw hk8).nw kb).nw hk9
    simp -dsimp [go_sem]
    refine call (drename_spec [120] [122] g _ F5 w9 h9 (by simp) (by simp)) ?_
    rw [dn_ren2]
    rintro v w10 ⟨rfl, h10, hK10⟩
    have nw10 : Nw w w10 := Nw.at_ nw9 hK10 nF5
    simp -dsimp [go_sem]
    refine call (dcrash_spec 0 g _ F5 w10 h10) ?_
    rintro v w11 ⟨rfl, h11, hK11⟩
    have nw11 : Nw w w11 := Nw.at_ nw10 hK11 nF5
    simp -dsimp [go_sem]
    refine call (dread_spec [121] g _ F5 w11 h11) ?_
    rw [dn_read (by simp)]
    rintro v w12 ⟨hk12, u, rfl, hB12⟩
    have nw12 := nw11.nw hk12
    obtain ⟨q, hq⟩ : ∃ q, q = (a ++ b).take a.length := ⟨_, rfl⟩
    simp only at hB12
    rw [← hq] at hB12
    obtain ⟨A12, c12, rfl, ho12, hA12⟩ := hB12
    simp -dsimp [go_sem]
    refine bs_fresh (m := a) rfl rfl (hrA.nw nw12) (by omega) ?_
    intro v13 w13 hB13 hk13
    have nw13 := nw12.nw hk13
    have hq2 : a = q := by rw [hq, List.take_left]
    rw [hq2] at hB13
    have hql : q.length ≤ 140737488355328 := by rw [← hq2]; omega
    obtain ⟨A14, c14, rfl, ho14, hA14⟩ := hB13
    simp -dsimp [go_sem]
    refine call (dsame_spec A12 A14 c12 c14 q q w13 (ho12.nw hk13).rd ho14.rd hql) ?_
    rintro v w15 ⟨rfl, hk15⟩
    simp -dsimp [go_sem]
    refine call (dknown_spec w15) ?_
    rintro v w16 ⟨rfl, hk16⟩
    simp -dsimp [go_sem]
    exact (nw13.nw hk15).nw hk16
end Go.Proofs.Ythdeedimdabjfaa
