/-
  slices.Clone of numbers; a new state; walked. By the session itself. A store's Do walked. By the session itself. Plain facts on what changes come to: their errors; a state as a text. By the session itself. What disk's statements' own small functions come to; DiskKeeps walked. By the session itself. DiskNames walked: a file that gets another name has its bytes; what had that name is gone. By the session itself.
-/
import Derived.Test.YtipdndmfngpbfaaGreatDoorQ20
import Derived.Test.YtipdndmfngpbfaaGreatDoorQ27
import Derived.Test.YtipdndmfngpbfaaGreatDoorQ04
import Derived.Test.YtipdndmfngpbfaaGreatDoorQ05
import Derived.Test.YtipdndmfngpbfaaGreatDoorQ23
import Derived.Test.YtipdndmfngpbfaaGreatDoorQ14
import Derived.Test.YtipdndmfngpbfaaGreatDoorQ16
namespace Go.Proofs.YtipdndmfngpbfaaGreatDoor
set_option linter.unusedSimpArgs false
set_option linter.unusedVariables false
set_option maxRecDepth 100000
set_option maxHeartbeats 1000000
open Go.Vc Go.RowKit

theorem one_i64 (l : List Int) : ∀ u ∈ l.map i64, u.oneCell' = true := fun u hu => by
  obtain ⟨x, _, rfl⟩ := List.mem_map.1 hu
  rfl
theorem iclone_spec (A : Option Addr) (c : Nat) (l : List Int) (w : World) (hr : Rd w A (l.map i64)) (hl : l.length ≤ 1000000000) :
    Cal Tryz.prog 62 #[.slice A l.length c] w fun v w' => Gs w' 3 1 v l.length (l.map i64) w.heap.size ∧ Nw w w' := by
  refine enter Tryz.mixed Tryz.func62 rfl (by kernel_rfl) ?_
  simp -dsimp [go_sem]
  refine cond_b (fun h => ?_) (fun h => ?_)
  · obtain rfl : A = none := by simpa using h
    have hn : l = [] := by
      cases l with
      | nil => rfl
      | cons b t => obtain ⟨_, _, e, _⟩ := hr 0 (i64 b) rfl; cases e
    subst hn
    simp -dsimp [go_sem]
    exact ⟨⟨none, 0, rfl, Ow.nil _ _ _, by simp⟩, Kp.refl _ _⟩
  · simp -dsimp [go_sem]
    refine app Tryz.Sint (Ow.made w 3 1 0 #[] rfl (by simp [maxLen])) (hr.nw ((Kp.refl _ w).alloc _)) (m := l.length) (by simp) (one_i64 l) (by omega) (by omega) ?_
    intro A' c' w' ho hk hA
    simp -dsimp [go_sem]
    refine ⟨⟨A', c', rfl, by simpa using ho, ?_⟩, ?_⟩
    · rintro a rfl
      rcases hA with e | ⟨e, _⟩ <;> cases e <;> simp
    · exact ((Kp.refl _ w).alloc _).trans hk (fun i hi h => by simp [blk] at h; omega)
/-- A state of no users, in two new blocks. -/
theorem empty_spec (w : World) : Cal Tryz.prog 117 #[] w fun v w' => v = .pointer (some ⟨w.heap.size + 1, 0, none⟩) ∧ Nw w w' ∧ w'.heap.size = w.heap.size + 2 ∧ SttA w' (w.heap.size + 1) Stt.zero (fun i => i = w.heap.size ∨ i = w.heap.size + 1) (fun i => i = w.heap.size ∨ i = w.heap.size + 1) := by
  have hmk := fun (t : TypeId) (w : World) => run_makeMap (P := Tryz.prog) t w
  refine enter Tryz.mixed Tryz.func117 rfl (by kernel_rfl) ?_
  simp -dsimp [go_sem, hmk]
  simp [go_sem]
  have k1 : Nw w (w.alloc (.map #[] 0)) := (Kp.refl _ _).alloc _
  have s1 : (w.alloc (.map #[] 0)).heap.size = w.heap.size + 1 := by simp
  have hm : Mp (w.alloc (.map #[] 0)) w.heap.size (fun l : Nm => str l) (fun _ => none) := Mp.new w
  generalize w.alloc (.map #[] 0) = w1 at *
  have k2 : Nw w1 (w1.alloc (.cells #[i64 1, .map (some w.heap.size)] 125)) := (Kp.refl _ _).alloc _
  have hb := Blk.new w1 125 #[i64 1, .map (some w.heap.size)]
  rw [s1] at hb
  refine ⟨k1.nw k2, w.heap.size, fun _ => 0, fun _ => 0, fun _ _ => .bool false, fun _ _ => False, hb, hm.kp k2 (fun h => h), fun s u h => (by cases h), fun _ _ _ _ h => h.elim, fun _ _ h => h.elim, by omega, .inr rfl, .inl rfl, fun i hi => ?_, fun i hi => hi⟩
  simp [s1]
  omega
end Go.Proofs.YtipdndmfngpbfaaGreatDoor

namespace Go.Proofs.YtipdndmfngpbfaaGreatDoor
set_option linter.unusedSimpArgs false
set_option linter.unusedVariables false
set_option maxRecDepth 100000
set_option maxHeartbeats 2000000
open Go.Vc Go.RowKit

theorem doW_wrD {S : Sto} (hd : S.dead = false) (n : Int) : doW S n = doX S n (wrD S) := by
  unfold doW wrD
  split
  · unfold doX
    simp only
    rw [if_neg (by simp)]
    obtain ⟨D, L, T, d⟩ := S
    simp only at hd
    rw [hd]
  · rfl
theorem PlanR.nw {w w' : World} {v : Value} {t : Nat} {P : Int × Int × Stt} {F V : Nat → Prop} (h : PlanR w v t P F V) (k : Nw w w') : PlanR w' v t P F V := by
  rcases h with h | ⟨h1, f, h2, fid, caps, h3, h4, h5⟩
  · exact .inl h
  · exact .inr ⟨h1, f, h2, fid, caps, h3, h4, fun S V' w2 kS hS hG hV => h5 S V' w2 ((Nw.kp k S).trans kS fun _ _ h => h) hS (Gr.wide hG k.size (Nat.le_refl _)) hV⟩
theorem gs_rd {w : World} {e : TypeId} {v : Value} {n : Nat} {xs : List Value} {B : Nat} (h : Gs w e 1 v n xs B) : ∃ A c, v = .slice A n c ∧ Rd w A xs ∧ n ≤ c ∧ (∀ a, A = some a → B ≤ a.block) ∧ (∀ a, A = some a → a.block < w.heap.size) := by
  obtain ⟨A, c, rfl, ho, hA⟩ := h
  exact ⟨A, c, rfl, ho.rd, ho.2.1, hA, ho.lt⟩
theorem do_nil {v : Value} {c : Chg} (h : ChV v c) (w : World) : Cal Tryz.prog 21 #[.pointer none, v] w fun v' w' => v' = .tuple #[i64 0, i64 1] ∧ Nw w w' := by
  obtain ⟨A, ca, B, cb, rfl⟩ := h
  refine enter Tryz.mixed Tryz.func21 rfl (by kernel_rfl) ?_
  simp -dsimp [go_sem]
  exact (Kp.refl _ _).alloc _
theorem do_spec {s g l t : Nat} {S : Sto} {F G FS V : Nat → Prop} (v : Value) (c : Chg) (w : World) (h : StM w s g l t S F G FS V) (hT : S.T.Ok) (hc : RC w v c (fun _ => False)) (hs : CSz c) (hu : c.uids.length ≤ 1000000000) :
    Cal Tryz.prog 21 #[.pointer (some ⟨s, 0, none⟩), v] w fun v' w' => v' = .tuple #[i64 (doA S c).2.1, i64 (doA S c).2.2] ∧ DoR w w' s g l t (doA S c).1 F G FS V := by
  obtain ⟨A, ca, B, cb, rfl, hca, hcb, hrA, _, hrB, _⟩ := hc
  have s2 := h.c2
  refine enter Tryz.mixed Tryz.func21 rfl (by kernel_rfl) ?_
  simp -dsimp [go_sem]
  have k0 : Nw w (w.alloc (.cells (chV c A ca B cb) 25)) := (Kp.refl _ _).alloc _
  have hy := Blk.new w 25 (chV c A ca B cb)
  obtain ⟨y, hy'⟩ : ∃ y, y = w.heap.size := ⟨_, rfl⟩
  rw [← hy'] at hy ⊢
  generalize w.alloc (.cells (chV c A ca B cb) 25) = wa at *
  have ha := h.nw k0
  have s2a := ha.c2
  have e0 : doA S c = if S.dead = true then (S, 0, 9) else if chgOk c = false then (S, 0, 1) else if (plan S.T c).1 ≠ 0 then (S, 0, (plan S.T c).1) else doB S (plan S.T c).2.2 (plan S.T c).2.1 (lApp S.D mailN S.L (encC c)) := rfl
  cases hdead : S.dead with
  | true =>
    rw [hdead] at s2a
    rw [if_pos hdead] at e0
    rw [e0]
    simp -dsimp [go_sem, s2a]
    exact ⟨F, G, FS, V, ha, Cs.nw k0⟩
  | false =>
    rw [hdead] at s2a
    rw [if_neg (by rw [hdead]; simp)] at e0
    obtain ⟨ul, hul⟩ : ∃ ul, ul = c.uids.length := ⟨_, rfl⟩
    obtain ⟨bl, hbl⟩ : ∃ bl, bl = c.body.length := ⟨_, rfl⟩
    have y5 : wa.cell? ⟨y, 5, none⟩ = some (.slice A ul ca) := by rw [hul]; exact hy.cell 5
    have y9 : wa.cell? ⟨y, 9, none⟩ = some (.slice B bl cb) := by rw [hbl]; exact hy.cell 9
    have yf5 := hy.frozen 5
    have yf9 := hy.frozen 9
    simp -dsimp [go_sem, s2a]
    have hyl := hy.lt
    refine drawD (.take 0 (.take 3 (.take 4 (.alt 1 (.alt 2 (.take 6 (.alt 5 (.alt 7 (.take 8 (.alt 9 .done .stop)) .stop) .stop)) .stop) .stop)))) 9 (by kernel_rfl) (fun wz => Kp (At y) wa wz ∧ wz.cell? ⟨y, 9, none⟩ = some (.slice B bl cb)) ⟨(Kp.refl _ _).drew, by simpa using y9⟩ ?_
    simp -dsimp [go_sem, y5, y9]
    have kd : Nw wa wa.drew := (Kp.refl _ _).drew
    refine ⟨fun wz hz hc => by simp [hc], (Kp.refl _ _).drew, ?_⟩
    have hrA1 := (hrA.nw k0).nw kd
    rw [hul]
    refine call (iclone_spec A ca c.uids wa.drew hrA1 hu) ?_
    rintro v w1 ⟨hG1, k1⟩
    obtain ⟨A1, c1, rfl, hr1, hc1, hA1, hA1l⟩ := gs_rd hG1
    have n1 := kd.nw k1
    have y91 := n1.cell_some y9 fun h => h
    refine ⟨.inr ⟨Nw.kp n1 _, y91⟩, ?_⟩
    simp -dsimp [go_sem]
    have hcl : Cal Tryz.prog 63 #[.slice B bl cb] w1 fun v w' => Bs w' v c.body w1.heap.size ∧ Nw w1 w' := by rw [hbl]; exact clone_spec B cb c.body w1 ((hrB.nw k0).nw n1) hs.body
    refine call hcl ?_
    rintro v w2 ⟨hB2, k2⟩
    obtain ⟨B2, c2, rfl, hr2, hc2, hB2', hB2l⟩ := gs_rd hB2
    have n2 := n1.nw k2
    have hy2 := hy.nw n2
    have y92 := n2.cell_some y9 fun h => h
    have y52 := n2.cell_some y5 fun h => h
    have yf52 := hy2.frozen 5
    have yf92 := hy2.frozen 9
    refine ⟨.inr ⟨Nw.kp n2 _, y92⟩, ?_⟩
    have y20 := hy2.cell 0
    have y21 := hy2.cell 1
    have y22 := hy2.cell 2
    have y23 := hy2.cell 3
    have y24 := hy2.cell 4
    have y26 := hy2.cell 6
    have y27 := hy2.cell 7
    have y28 := hy2.cell 8
    simp -dsimp [go_sem, y52, y92, yf52, yf92, y20, y21, y22, y23, y24, y26, y27, y28]
    refine ⟨(Nw.kp n2 _).trans ((Kp.refl (At y) _).setCell_at _ _) fun _ _ h => h, ?_⟩
    have hy3 : Blk ((w2.setCell ⟨y, 5, none⟩ (.slice A1 c.uids.length c1)).setCell ⟨y, 9, none⟩ (.slice B2 c.body.length c2)) y 25 (chV c A1 c1 B2 c2) := by simpa using (hy2.set 5 (.slice A1 c.uids.length c1)).set 9 (.slice B2 c.body.length c2)
    have k23 : Kp (At y) w2 ((w2.setCell ⟨y, 5, none⟩ (.slice A1 c.uids.length c1)).setCell ⟨y, 9, none⟩ (.slice B2 c.body.length c2)) := ((Kp.refl _ _).setCell_at _ _).setCell_at _ _
    have n3 : Nw w ((w2.setCell ⟨y, 5, none⟩ (.slice A1 c.uids.length c1)).setCell ⟨y, 9, none⟩ (.slice B2 c.body.length c2)) := (k0.nw n2).at_ k23 fun k (e : k = y) => by omega
    have hya : ∀ a, A1 = some a → y < a.block := fun a ha => by have := hA1 a ha; simp at this; omega
    have hyb : ∀ a, B2 = some a → y < a.block := fun a ha => by have := hB2' a ha; have := n1.size; omega
    have hrA3 : Rd ((w2.setCell ⟨y, 5, none⟩ (.slice A1 c.uids.length c1)).setCell ⟨y, 9, none⟩ (.slice B2 c.body.length c2)) A1 (c.uids.map i64) := (hr1.nw k2).kp k23 fun a ha _ (e : a.block = y) => by have := hya a ha; omega
    have hrB3 : Rd ((w2.setCell ⟨y, 5, none⟩ (.slice A1 c.uids.length c1)).setCell ⟨y, 9, none⟩ (.slice B2 c.body.length c2)) B2 (c.body.map u8) := hr2.kp k23 fun a ha _ (e : a.block = y) => by have := hyb a ha; omega
    have h3 := h.nw n3
    generalize (w2.setCell ⟨y, 5, none⟩ (.slice A1 c.uids.length c1)).setCell ⟨y, 9, none⟩ (.slice B2 c.body.length c2) = w3 at *
    have hVl := h.lt
    have hRC3 : ∀ V0 : Nat → Prop, (∀ k, V0 k → k ≤ y) → RC w3 (.agg (chV c A1 c1 B2 c2)) c V0 := fun V0 hV0 => ⟨A1, c1, B2, c2, rfl, hc1, hc2, hrA3, fun a ha _ hv => by have := hya a ha; have := hV0 _ hv; omega, hrB3, fun a ha _ hv => by have := hyb a ha; have := hV0 _ hv; omega⟩
    refine call (sencode_spec _ c w3 (hRC3 _ fun _ h => h.elim) hs) ?_
    rintro v w4 ⟨hE, k4⟩
    have n4 := n3.nw k4
    have h4 := h.nw n4
    rcases hE with ⟨hok, pv, rfl, hB4⟩ | ⟨hno, rfl⟩
    · rw [if_neg (by rw [hok]; simp)] at e0
      obtain ⟨X, x, rfl, hoX, hX⟩ := id hB4
      obtain ⟨eb, heb⟩ : ∃ eb, eb = encC c := ⟨_, rfl⟩
      rw [← heb] at e0 hoX ⊢
      have hebl : eb.length ≤ 2000 := by rw [heb]; exact encC_len (chgOk_ok hok)
      simp -dsimp [go_sem]
      have s14 := h4.c1
      have hy4 := hy3.nw k4
      have y40 := hy4.cell 0
      have y41 := hy4.cell 1
      have y42 := hy4.cell 2
      have y43 := hy4.cell 3
      have y44 := hy4.cell 4
      have y45 := hy4.cell 5
      have y46 := hy4.cell 6
      have y47 := hy4.cell 7
      have y48 := hy4.cell 8
      have y49 := hy4.cell 9
      have kd4 : Nw w4 w4.drew := (Kp.refl _ _).drew
      have hVy : ∀ k, V k → k ≤ y := fun k hk => by have := hVl k hk; omega
      have hRC4 : RC w4 (.agg (chV c A1 c1 B2 c2)) c V := (hRC3 V hVy).nw k4
      have hV4 : ∀ k, V k → k < w4.heap.size := h4.lt
      refine draw_cut (.take 0 (.take 1 (.take 2 (.take 3 (.take 4 (.alt 5 (.alt 6 (.alt 7 .done .stop) .stop) (.alt 6 (.alt 5 (.alt 7 .done .stop) .stop) .stop))))))) (fun st w' => st 0 = .pointer (some ⟨s, 0, none⟩) ∧ st 6 = .slice X eb.length x ∧ ∃ (z : Nat) (pf : Value) (pn pe : Int), st 8 = .pointer (some ⟨z, 0, none⟩) ∧ Blk w' z 112 #[pf, i64 pn, i64 pe] ∧ PlanR w' (.agg #[pf, i64 pn, i64 pe]) t (plan S.T c) FS V ∧ Nw w4 w' ∧ w4.heap.size ≤ z)
        (by kernel_rfl) (fun wz => Nw w4 wz) kd4 ?_ ?_
      · simp -dsimp [go_sem, s14, y40, y41, y42, y43, y44, y45, y46, y47, y48, y49]
        refine ⟨fun wz hz => by simp [hz.cell_some s14 fun h => h], fun wz hz => by simp [hz.cell_some y40 fun h => h, hz.cell_some y41 fun h => h, hz.cell_some y42 fun h => h, hz.cell_some y43 fun h => h, hz.cell_some y44 fun h => h, hz.cell_some y45 fun h => h, hz.cell_some y46 fun h => h, hz.cell_some y47 fun h => h, hz.cell_some y48 fun h => h, hz.cell_some y49 fun h => h], ?_, ?_⟩
        · refine call (plans_spec t S.T FS V c _ w4.drew (h4.st.nw kd4) hT (fun k hk => Nat.lt_of_lt_of_le (hV4 k hk) kd4.size) (hRC4.nw kd4) hok) ?_
          rintro v w5 ⟨hP, k5⟩
          have n5 := kd4.nw k5
          refine ⟨n5, ?_⟩
          obtain ⟨pf, pn, pe, rfl, hpf⟩ := hP.three
          have kz : ∀ cs, Nw w5 (w5.alloc (.cells cs 112)) := fun cs => (Kp.refl _ _).alloc _
          have kz2 : ∀ cs, Nw w5 (w5.alloc (.cells cs 112)).drew := fun cs => ((Kp.refl _ _).alloc _).drew
          have hz := fun cs => Blk.new w5 112 cs
          rcases hpf with rfl | ⟨fid, caps, rfl⟩
          · simp -dsimp [go_sem]
            exact ⟨n5.nw (kz _), n5.nw (kz _), _, _, _, hz _, hP.nw (kz _), n5.nw (kz _), n5.size⟩
          · simp -dsimp [go_sem]
            exact ⟨n5.nw (kz _), n5.nw (kz _), _, _, _, hz _, hP.nw (kz _), n5.nw (kz _), n5.size⟩
        · have kz : Nw w4 (w4.alloc (.cells #[.nilFunc, i64 0, i64 0] 112)).drew := ((Kp.refl _ _).alloc _).drew
          have hz0 : Blk (w4.alloc (.cells #[.nilFunc, i64 0, i64 0] 112)).drew w4.heap.size 112 #[.nilFunc, i64 0, i64 0] := (Blk.new w4 _ _).nw ((Kp.refl (fun _ => False) _).drew)
          refine ⟨kz, ?_⟩
          obtain ⟨z, hz⟩ : ∃ z, z = w4.heap.size := ⟨_, rfl⟩
          rw [← hz] at hz0 ⊢
          generalize (w4.alloc (.cells #[.nilFunc, i64 0, i64 0] 112)).drew = wz at *
          have hzl := hz0.lt
          have hst : SttA wz t S.T FS (fun i => V i ∨ i = z) := h4.st.step kz (fun _ h => h.elim) (fun i hi => hi.imp id fun e => ⟨by omega, by omega⟩) fun i hi => .inl hi
          have hzV : ¬ V z := fun e => by have := hV4 z e; omega
          have hzF : ¬ FS z := fun e => hzV (h4.fsv z e)
          refine call (plans_spec t S.T FS (fun i => V i ∨ i = z) c _ wz hst hT (fun k hk => hk.elim (fun e => Nat.lt_of_lt_of_le (hV4 k e) kz.size) fun e => by omega) (hRC4.wide kz (by omega)) hok) ?_
          rintro v w5 ⟨hP, k5⟩
          have n5 := kz.nw k5
          refine ⟨n5, ?_⟩
          obtain ⟨pf, pn, pe, rfl, hpf⟩ := hP.three
          have hz5 := hz0.nw k5
          have z0c := hz5.cell 0
          have z1c := hz5.cell 1
          have z2c := hz5.cell 2
          have z0f := hz5.frozen 0
          have z1f := hz5.frozen 1
          have z2f := hz5.frozen 2
          have hbz := fun a b d => (show Blk (((w5.setCell ⟨z, 0, none⟩ a).setCell ⟨z, 1, none⟩ b).setCell ⟨z, 2, none⟩ d) z 112 #[a, b, d] by simpa using ((hz5.set 0 a).set 1 b).set 2 d)
          have nz := fun a b d => n5.at_ (set3 w5 z a b d) fun k (e : k = z) => by omega
          rcases hpf with rfl | ⟨fid, caps, rfl⟩
          · simp -dsimp [go_sem, z0c, z1c, z2c, z0f, z1f, z2f]
            exact ⟨nz _ _ _, _, _, _, hbz _ _ _, hP.put (set3 w5 z _ _ _) hzF hzV hz5.lt, nz _ _ _⟩
          · simp -dsimp [go_sem, z0c, z1c, z2c, z0f, z1f, z2f]
            exact ⟨nz _ _ _, _, _, _, hbz _ _ _, hP.put (set3 w5 z _ _ _) hzF hzV hz5.lt, nz _ _ _⟩
      · rintro s5 w5 ⟨f0, f6, z, pf, pn, pe, f8, hz, hP, n45, hzl⟩
        have hpo := plan_ok hT hok
        obtain ⟨P, hPe⟩ : ∃ P, P = plan S.T c := ⟨_, rfl⟩
        rw [← hPe] at e0 hP hpo
        obtain ⟨Pe, Pn, PT⟩ := P
        simp only at e0 hpo
        clear y40 y41 y42 y43 y44 y45 y46 y47 y48 y49 y20 y21 y22 y23 y24 y26 y27 y28 y5 y9 yf5 yf9 y91 y92 y52 yf52 yf92
        have n5 := n4.nw n45
        have h5 := h.nw n5
        have z2c := hz.cell 2
        rcases hP with ⟨hne, heq⟩ | ⟨he0, f, heq, hDo⟩
        · injection heq with heq
          simp at heq
          obtain ⟨rfl, rfl, rfl⟩ := heq
          simp only at hne
          rw [if_pos hne] at e0
          have hne' : (pe != 0) = true := by simpa using hne
          simp -dsimp [go_sem, f8, z2c, hne']
          refine draw (.take 0 (.take 1 (.take 2 (.take 3 .done)))) (by kernel_rfl) (fun wz => Nw w5 wz) ((Kp.refl _ _).drew) ?_
          simp -dsimp [go_sem, f8, z2c]
          rw [e0]
          exact ⟨fun wz hk => by simp [hk.cell_some z2c fun h => h], ⟨rfl, rfl⟩, F, G, FS, V, h5.nw ((Kp.refl _ _).drew), Cs.nw (n5.nw ((Kp.refl _ _).drew))⟩
        · simp only at he0
          subst he0
          injection heq with heq
          simp at heq
          obtain ⟨rfl, rfl, rfl⟩ := heq
          rw [if_neg (by simp)] at e0
          have s05 := h5.c0
          simp -dsimp [go_sem, f0, f6, f8, z2c, s05]
          have hX5 : Rd w5 X (eb.map u8) := hoX.rd.nw n45
          refine call (lapp_spec l g mailN S.D S.L F G V eb X x w5 h5.ls StM.mail h5.lok hX5 (fun a ha _ hv => by have := hX a ha; have := hVy _ hv; have := hy3.lt; omega) hoX.2.1 (by omega)) ?_
          rintro v w6 ⟨rfl, c6⟩
          have hch := c6
          obtain ⟨F6, G6, V6, hL6, ch⟩ := hch
          have hDR := h5.led c6 (lApp_ok h5.lok S.D mailN eb)
          obtain ⟨R, hR⟩ : ∃ R, R = lApp S.D mailN S.L eb := ⟨_, rfl⟩
          rw [← hR] at e0 hDR ⊢
          obtain ⟨D1, L1, n1', e1⟩ := R
          simp only at e0 hDR ⊢
          have hsl := h.sl
          have hzN : ∀ k, (F k ∨ G k) → k ≠ z := fun k hk e => by
            have := hV4 k (hk.elim (h4.fv k) (h4.gv k)); omega
          have hz6 := hz.kp ch.kp fun e => hzN z e rfl
          rw [hdead] at hDR
          obtain ⟨F7, G7, FS7, V7, h7, cs7⟩ := id hDR
          have c07 := h7.c0
          by_cases h1 : e1 = 0
          · subst h1
            have eB : doB S PT pn (D1, L1, n1', 0) = doW ⟨D1, L1, PT, false⟩ pn := by unfold doB; rw [if_neg (fun h => h rfl)]
            rw [eB, doW_wrD rfl] at e0
            obtain ⟨fid, caps, rfl, hgo, hcal⟩ := hDo
            have z0c := hz6.cell 0
            simp -dsimp [go_sem, f8, z0c, hgo]
            refine call (hcal (fun k => F k ∨ G k) V6 w6 ch.kp (fun i hi => ⟨hi.elim (h5.fv i) (h5.gv i), fun e => hi.elim (h5.apF i e).1 (h5.apF i e).2⟩) ch.gV ch.vv) ?_
            rintro v w8 ⟨rfl, hDone⟩
            have h6 : StM w6 s g l t ⟨D1, L1, S.T, false⟩ F6 G6 FS V6 := by
              have hFl : ∀ k, FS k → k < w5.heap.size := fun k hk => h5.lt k (h5.fsv k hk)
              have hs5 := h5.sl
              have hb := h5.blk.kp ch.kp fun e => e.elim h5.sap.1 h5.sap.2.1
              rw [hdead] at hb
              have hlo := lApp_ok h5.lok S.D mailN eb
              rw [← hR] at hL6 hlo
              exact ⟨hb, hL6, hlo, h5.st.step ch.kp (fun i hi => ⟨hi.elim (h5.fv i) (h5.gv i), fun e => hi.elim (h5.apF i e).1 (h5.apF i e).2⟩) ch.gV ch.vv, fun i hi => ⟨fun e => (ch.gF i e).elim (h5.apF i hi).1 fun e => by have := hFl i hi; omega, fun e => (ch.gG i e).elim (h5.apF i hi).2 fun e => by have := hFl i hi; omega⟩, ch.vv _ h5.sv, fun e => (ch.gF s e).elim h5.sap.1 fun e => by omega, fun e => (ch.gG s e).elim h5.sap.2.1 fun e => by omega, h5.sap.2.2⟩
            have cs6 : Cs w5 w6 s F F6 G G6 FS FS V V6 := ⟨ch.gF, ch.gG, fun _ h => .inl h, ch.gV, ch.vv, ch.kp.mono fun k _ hk => hk.imp id .inl⟩
            have d8 := h6.done hDone
            obtain ⟨F8, G8, FS8, V8, h8, cs8⟩ := d8
            have cs58 := (Cs.nw (s := s) (F := F) (G := G) (FS := FS) (V := V) n5).trans hsl (cs6.trans h5.sl cs8)
            simp -dsimp [go_sem, f0]
            refine call (writes_spec w8 h8 hpo) ?_
            rintro v w9 ⟨rfl, d9⟩
            obtain ⟨E, hE⟩ : ∃ E, E = wrD ⟨D1, L1, PT, false⟩ := ⟨_, rfl⟩
            rw [← hE] at e0 d9 ⊢
            obtain ⟨D2, L2, e2⟩ := E
            simp only at e0 d9 ⊢
            obtain ⟨F9, G9, FS9, V9, h9, cs9⟩ := d9
            have cs59 := cs58.trans hsl cs9
            have z9 : w9.cell? ⟨z, 1, none⟩ = some (i64 pn) := by
              have k56 := cs6.kp
              have hzv : ∀ k, V k → k ≠ z := fun k hk e => by have := hV4 k hk; omega
              have hz8 := hz6.kp cs8.kp fun e => by
                have hz6l := hz6.lt
                rcases e with e | e | e | e
                · exact (ch.gF z e).elim (fun e => hzv z (h5.fv z e) rfl) fun e => by have := hz.lt; omega
                · exact (ch.gG z e).elim (fun e => hzv z (h5.gv z e) rfl) fun e => by have := hz.lt; omega
                · exact hzv z (h5.fsv z e) rfl
                · exact hzv s h5.sv e.symm
              have hz9 := hz8.kp cs9.kp fun e => by
                have hz6l := hz6.lt
                rcases e with e | e | e | e
                · exact (cs8.gF z e).elim (fun e => (ch.gF z e).elim (fun e => hzv z (h5.fv z e) rfl) fun e => by have := hz.lt; omega) fun e => by omega
                · exact (cs8.gG z e).elim (fun e => (ch.gG z e).elim (fun e => hzv z (h5.gv z e) rfl) fun e => by have := hz.lt; omega) fun e => by omega
                · exact (cs8.gS z e).elim (fun e => hzv z (h5.fsv z e) rfl) fun e => by omega
                · exact hzv s h5.sv e.symm
              exact hz9.cell 1
            by_cases h2 : e2 = 0
            · subst h2
              have eX : doX ⟨D1, L1, PT, false⟩ pn (D2, L2, 0) = (⟨D2, L2, PT, false⟩, pn, 0) := by unfold doX; rw [if_neg (fun h => h rfl)]
              rw [eX] at e0
              rw [e0]
              simp -dsimp [go_sem, f8, z9]
              exact ⟨F9, G9, FS9, V9, h9, cs59⟩
            · have h2' : ((e2 : Int) != 0) = true := by simp; omega
              have eX : doX ⟨D1, L1, PT, false⟩ pn (D2, L2, e2) = (⟨D2, L2, PT, true⟩, 0, (e2 : Int)) := by unfold doX; rw [if_pos h2]
              rw [eX] at e0
              rw [e0]
              have sf := h9.blk.frozen 2
              have sc := h9.c2
              simp -dsimp [go_sem, h2', h2, f0, sf, sc]
              exact DoR.trans hsl cs59 (h9.dies true)
          · have h1' : ((e1 : Int) != 0) = true := by simp; omega
            have eB : doB S PT pn (D1, L1, n1', e1) = (⟨D1, L1, S.T, true⟩, 0, (e1 : Int)) := by unfold doB; rw [if_pos h1]
            rw [eB] at e0
            rw [e0]
            have sf := h7.blk.frozen 2
            have sc := h7.c2
            simp -dsimp [go_sem, h1', h1, f0, sf, sc]
            exact DoR.trans hsl (Cs.trans hsl (Cs.nw n5) cs7) (h7.dies true)
    · rw [if_pos hno] at e0
      rw [e0]
      simp -dsimp [go_sem]
      exact ⟨F, G, FS, V, h4, Cs.nw n4⟩
end Go.Proofs.YtipdndmfngpbfaaGreatDoor

namespace Go.Proofs.YtipdndmfngpbfaaGreatDoor
set_option linter.unusedSimpArgs false
set_option linter.unusedVariables false
set_option maxRecDepth 100000
set_option maxHeartbeats 1000000
open Go.Vc Go.RowKit

theorem addB_err (b : Bx) (flags date : Int) (body : List UInt8) : (addB b flags date body).2.2 ≠ 9 := by
  unfold addB
  repeat' (first | simp | split)
theorem copyL_err (uids : List Int) : ∀ (L : List Msg) (b : Bx) (n : Nat), (copyL uids L b n).1 ≠ 9
  | [], b, n => by simp [copyL]
  | m :: L, b, n => by
    unfold copyL
    split
    · split
      · exact addB_err _ _ _ _
      · exact copyL_err uids L _ _
    · exact copyL_err uids L _ _
theorem plan_err (T : Stt) (c : Chg) : (plan T c).1 ≠ 9 := by
  have keep : ∀ (s : Nm) (u : Usr) (t : Nm) (b : Bx) (n e : Int), e ≠ 9 → (plKeep T s u t b n e).1 ≠ 9 := fun s u t b n e h => by
    unfold plKeep
    split
    · exact h
    · simp
  unfold plan
  split
  · unfold plAdd
    repeat' (first | simp | split)
  · split
    · simp
    · split
      · unfold plCreate
        repeat' (first | simp | split)
      · split
        · simp
        · unfold plBox
          split
          · split <;> simp
          · split
            · unfold plRename
              repeat' (first | simp | split)
            · split
              · exact keep _ _ _ _ _ _ (addB_err _ _ _ _)
              · split
                · exact keep _ _ _ _ _ _ (by simp)
                · split
                  · exact keep _ _ _ _ _ _ (by simp)
                  · unfold plCopy
                    split
                    · simp
                    · exact keep _ _ _ _ _ _ (copyL_err _ _ _ _)
/-- A state as a text. -/
def boxT (x : Nm × Bx) : Nm := [124] ++ encX x.2
def userT (x : Nm × Usr) : Nm := ([47] ++ x.1) ++ x.2.bx.flatMap boxT
def stateT (T : Stt) : Nm := T.us.flatMap userT
theorem boxT_len {u : Usr} (h : u.Ok) {x : Nm × Bx} (hx : x ∈ u.bx) : (boxT x).length ≤ 29801 := by
  have hb := (h.bx x.1 x.2 ((tLook_mem h.srt).2 hx)).2
  have := encX_len2 hb
  unfold boxT
  rw [List.length_append, List.length_singleton]
  omega
theorem boxesT_len {u : Usr} (h : u.Ok) (i : Nat) : ((u.bx.take i).flatMap boxT).length ≤ 119204 := by
  have h1 := flat_len boxT 29801 (u.bx.take i) fun x hx => boxT_len h (List.mem_of_mem_take hx)
  have h2 := h.len
  have h3 : (u.bx.take i).length ≤ 4 := by rw [List.length_take]; omega
  have h4 := Nat.mul_le_mul_right 29801 h3
  omega
theorem userT_len {T : Stt} (h : T.Ok) {x : Nm × Usr} (hx : x ∈ T.us) : (userT x).length ≤ 119217 := by
  have hu := h.us x.1 x.2 ((tLook_mem h.srt).2 hx)
  have h1 := (nmOk_len hu.1).2
  have h2 := boxesT_len hu.2 x.2.bx.length
  rw [List.take_length] at h2
  unfold userT
  rw [List.length_append, List.length_append, List.length_singleton]
  omega
theorem stateT_len {T : Stt} (h : T.Ok) (i : Nat) : ((T.us.take i).flatMap userT).length ≤ 476868 := by
  have h1 := flat_len userT 119217 (T.us.take i) fun x hx => userT_len h (List.mem_of_mem_take hx)
  have h2 := h.len
  have h3 : (T.us.take i).length ≤ 4 := by rw [List.length_take]; omega
  have h4 := Nat.mul_le_mul_right 119217 h3
  omega
end Go.Proofs.YtipdndmfngpbfaaGreatDoor

namespace Go.Proofs.YtipdndmfngpbfaaGreatDoor
set_option linter.unusedSimpArgs false
set_option linter.unusedVariables false
set_option maxRecDepth 100000
set_option maxHeartbeats 1000000
open Go.Vc Go.RowKit

end Go.Proofs.YtipdndmfngpbfaaGreatDoor

namespace Go.Proofs.YtipdndmfngpbfaaGreatDoor
set_option linter.unusedSimpArgs false
set_option linter.unusedVariables false
set_option maxRecDepth 100000
set_option maxHeartbeats 1000000
open Go.Vc Go.RowKit

end Go.Proofs.YtipdndmfngpbfaaGreatDoor

