/-
  box.Same walked. By the session itself.
-/
import Derived.Test.YtindfpaahlijeaaDoorBkB
namespace Go.Proofs.YtindfpaahlijeaaDoor
set_option linter.unusedSimpArgs false
set_option linter.unusedVariables false
set_option maxRecDepth 100000
set_option maxHeartbeats 1000000
open Go.Vc Go.RowKit

theorem bequal_spec (a b : List UInt8) (A B : Option Addr) (c d : Nat) (w : World) (ha : Rd w A (a.map u8)) (hb : Rd w B (b.map u8)) :
    Cal Tryd.prog 37 #[.slice A a.length c, .slice B b.length d] w fun v w' => v = .bool (a == b) ∧ w' = w := by
  have h1 : convR Tryd.prog 26 9 (.slice A a.length c) w = .ok (.string ⟨a.toArray⟩) w := conv_str (e := 5) (by kernel_rfl) (by kernel_rfl) (by kernel_rfl) ha
  have h2 : convR Tryd.prog 26 9 (.slice B b.length d) w = .ok (.string ⟨b.toArray⟩) w := conv_str (e := 5) (by kernel_rfl) (by kernel_rfl) (by kernel_rfl) hb
  refine enter Tryd.mixed Tryd.func37 rfl (by kernel_rfl) ?_
  simp -dsimp [go_sem, h1, h2]
theorem bsame1_spec (m k : Msg) (mv kv : Value) (S T : Nat → Prop) (w : World) (hm : RdB w mv m.body S) (hk : RdB w kv k.body T) :
    Cal Tryd.prog 36 #[.agg #[i64 m.uid, i64 m.flags, i64 m.date, mv], .agg #[i64 k.uid, i64 k.flags, i64 k.date, kv]] w fun v w' => v = .bool (msgEq m k) ∧ Nw w w' := by
  obtain ⟨A, c, rfl, hA, _, _⟩ := hm
  obtain ⟨B, d, rfl, hB, _, _⟩ := hk
  refine enter Tryd.mixed Tryd.func36 rfl (by kernel_rfl) ?_
  simp -dsimp [go_sem]
  obtain ⟨x, hx', hb0, hz0, hsz, n0⟩ := two_new w 41 41 #[i64 m.uid, i64 m.flags, i64 m.date, .slice A m.body.length c] #[i64 k.uid, i64 k.flags, i64 k.date, .slice B k.body.length d]
  rw [← hx']
  generalize (w.alloc (.cells #[i64 m.uid, i64 m.flags, i64 m.date, .slice A m.body.length c] 41)).alloc (.cells #[i64 k.uid, i64 k.flags, i64 k.date, .slice B k.body.length d] 41) = wa at *
  have p1 := hb0.cell 1
  have p2 := hb0.cell 2
  have p3 := hb0.cell 3
  have r1 := hz0.cell 1
  have r2 := hz0.cell 2
  have r3 := hz0.cell 3
  cases e0 : (m.uid == k.uid) with
  | false =>
    simp -dsimp [go_sem, msgEq, e0]
    exact n0
  | true =>
    cases e1 : (m.flags == k.flags) with
    | false =>
      simp -dsimp [go_sem, msgEq, e0, p1, r1, e1]
      exact n0
    | true =>
      cases e2 : (m.date == k.date) with
      | false =>
        simp -dsimp [go_sem, msgEq, e0, p1, r1, e1, p2, r2, e2]
        exact n0
      | true =>
        simp -dsimp [go_sem, msgEq, e0, p1, r1, e1, p2, r2, e2, p3, r3]
        refine call (bequal_spec m.body k.body A B c d wa (hA.nw n0) (hB.nw n0)) ?_
        rintro v w1 ⟨rfl, rfl⟩
        simp -dsimp [go_sem, msgEq, e0, e1, e2]
        exact n0
theorem bmsgs_spec (A A2 : Option Addr) (c c2 : Nat) (q q2 : MQ) (L L2 : List Msg) (S T : Nat → Prop) (w : World) (hq : q.map Prod.fst = L) (hq2 : q2.map Prod.fst = L2) (hr : Rd w A (mq q)) (hr2 : Rd w A2 (mq q2)) (hb : Bds w q S) (hb2 : Bds w q2 T) (hll : L.length ≤ 9223372036854775807) :
    Cal Tryd.prog 35 #[.slice A L.length c, .slice A2 L2.length c2, .func (.func 36) #[] #[]] w fun v w' => v = .bool (msgsEq L L2) ∧ Nw w w' := by
  have hql : q.length = L.length := by rw [← hq, List.length_map]
  have hql2 : q2.length = L2.length := by rw [← hq2, List.length_map]
  have hno : L ≠ L2 → msgsEq L L2 = false := fun h => by
    cases e : msgsEq L L2 with
    | false => rfl
    | true => exact absurd ((msgsEq_iff L L2).1 e) h
  refine enter Tryd.mixed Tryd.func35 rfl (by kernel_rfl) ?_
  by_cases e3 : L.length = L2.length
  · have e3' : ((L.length : Int) != (L2.length : Int)) = false := by simp [e3]
    simp -dsimp [go_sem, e3']
    refine loop [6, 7, 8, 9, 17, 18, 19, 20, 21, 22, 23, 24, 25, 26, 27, 28, 29, 30, 31] (by kernel_rfl)
      (fun f w' => Box1 (fun l w' => ∃ i : Nat, l = i64 i ∧ i ≤ L.length ∧ L.take i = L2.take i ∧ Nw w w') (f 17) w') (fun f _ => L.length - (intOf (f 17)).toNat) ⟨0, rfl, by omega, rfl, Kp.refl _ _⟩ ?_
    rintro f w' ⟨i, f17, hi, htk, hK⟩
    by_cases hlt : i < L.length
    · have hlt2 : i < L2.length := by omega
      have hi1 : IntKind.i64.wrap ((i : Int) + 1) = ((i + 1 : Nat) : Int) := by rw [w64 (by omega) (by omega)]; omega
      obtain ⟨i1, hi1'⟩ : ∃ i1, i1 = i + 1 := ⟨_, rfl⟩
      have htk1 : L[i] = L2[i] → L.take i1 = L2.take i1 := fun h => by rw [hi1', List.take_succ_eq_append_getElem hlt, List.take_succ_eq_append_getElem hlt2, htk, h]
      have hne : L[i] ≠ L2[i] → msgsEq L L2 = false := fun h => hno fun e => by subst e; exact h rfl
      rw [← hi1'] at hi1
      have hltq : i < q.length := by omega
      have hltq2 : i < q2.length := by omega
      obtain ⟨g, o, rfl, m0, m1, m2, m3⟩ := msg_at (hr.nw hK) hltq
      obtain ⟨g2, o2, rfl, k0, k1, k2, k3⟩ := msg_at (hr2.nw hK) hltq2
      have hqi : q[i].1 = L[i] := by simp only [← hq, List.getElem_map]
      have hqi2 : q2[i].1 = L2[i] := by simp only [← hq2, List.getElem_map]
      have hbq := hb _ (List.getElem_mem hltq)
      have hbq2 := hb2 _ (List.getElem_mem hltq2)
      rw [hqi] at m0 m1 m2 hbq
      rw [hqi2] at k0 k1 k2 hbq2
      generalize L[i] = m at *
      generalize L2[i] = k at *
      generalize q[i].2 = mv at *
      generalize q2[i].2 = kv at *
      obtain ⟨Bm, dm, rfl, hrm, hom, hdm⟩ := id hbq
      obtain ⟨Bk, dk, rfl, hrk, hok, hdk⟩ := id hbq2
      have n1 : Nw w' ((w'.alloc (.cells #[i64 m.uid, i64 m.flags, i64 m.date, .slice Bm m.body.length dm] 41)).alloc (.cells #[i64 k.uid, i64 k.flags, i64 k.date, .slice Bk k.body.length dk] 41)) := ((Kp.refl _ _).alloc _).alloc _
      have kq : Nw w' (w'.alloc (.cells #[i64 m.uid, i64 m.flags, i64 m.date, .slice Bm m.body.length dm] 41)) := (Kp.refl _ _).alloc _
      have k0a := kq.cell_some k0 fun h => h
      have k1a := kq.cell_some k1 fun h => h
      have k2a := kq.cell_some k2 fun h => h
      have k3a := kq.cell_some k3 fun h => h
      simp -dsimp [go_sem, f17, hlt, hlt2, m0, m1, m2, m3, k0a, k1a, k2a, k3a]
      refine call (bsame1_spec m k _ _ S T _ ((hbq.nw hK).nw n1) ((hbq2.nw hK).nw n1)) ?_
      rintro v w2 ⟨rfl, hk2⟩
      have n2 := (hK.nw n1).nw hk2
      cases he : msgEq m k with
      | false =>
        have hs := hne fun e => by rw [(msgEq_iff m k).2 e] at he; cases he
        simp -dsimp [go_sem, hs]
        exact n2
      | true =>
        have ht := htk1 ((msgEq_iff m k).1 he)
        simp -dsimp [go_sem, f17, hi1]
        exact ⟨⟨i1, rfl, by omega, ht, n2⟩, by simp [intOf]; omega⟩
    · obtain rfl : i = L.length := by omega
      rw [List.take_length, e3, List.take_length] at htk
      have hs := (msgsEq_iff L L2).2 htk
      simp -dsimp [go_sem, f17, hs]
      exact hK
  · have e3' : ((L.length : Int) != (L2.length : Int)) = true := by simp; omega
    have hs := hno fun e => e3 (by rw [e])
    simp -dsimp [go_sem, e3', hs]
    exact Kp.refl _ _
theorem bsame_spec (v1 v2 : Value) (a b : Bx) (S T : Nat → Prop) (w : World) (h : RB w v1 a S) (h2 : RB w v2 b T) (hll : a.L.length ≤ 9223372036854775807) :
    Cal Tryd.prog 14 #[v1, v2] w fun v' w' => v' = .bool (sameB a b) ∧ Nw w w' := by
  obtain ⟨A, c, q, rfl, hq, hc, hr, ho, hb⟩ := h
  obtain ⟨A2, c2, q2, rfl, hq2, hc2, hr2, ho2, hb2⟩ := h2
  refine enter Tryd.mixed Tryd.func14 rfl (by kernel_rfl) ?_
  simp -dsimp [go_sem]
  obtain ⟨x, hx', hb0, hz0, hsz, n0⟩ := two_new w 24 24 #[.string a.name, i64 a.val, i64 a.next, .slice A a.L.length c] #[.string b.name, i64 b.val, i64 b.next, .slice A2 b.L.length c2]
  rw [← hx']
  generalize (w.alloc (.cells #[.string a.name, i64 a.val, i64 a.next, .slice A a.L.length c] 24)).alloc (.cells #[.string b.name, i64 b.val, i64 b.next, .slice A2 b.L.length c2] 24) = wa at *
  have p1 := hb0.cell 1
  have p2 := hb0.cell 2
  have p3 := hb0.cell 3
  have r1 := hz0.cell 1
  have r2 := hz0.cell 2
  have r3 := hz0.cell 3
  by_cases e0 : a.name = b.name
  · have e0' : (a.name.toList == b.name.toList) = true := by rw [str_beq]; simpa using e0
    cases e1 : (a.val == b.val) with
    | false =>
      simp -dsimp [go_sem, sameB, e0', p1, r1, e1]
      exact n0
    | true =>
      cases e2 : (a.next == b.next) with
      | false =>
        simp -dsimp [go_sem, sameB, e0', p1, r1, e1, p2, r2, e2]
        exact n0
      | true =>
        simp -dsimp [go_sem, sameB, e0', p1, r1, e1, p2, r2, e2, p3, r3]
        refine call (bmsgs_spec A A2 c c2 q q2 a.L b.L S T wa hq hq2 (hr.nw n0) (hr2.nw n0) (hb.nw n0) (hb2.nw n0) hll) ?_
        rintro v w1 ⟨rfl, hk1⟩
        simp -dsimp [go_sem, sameB, e0, e1, e2]
        exact n0.nw hk1
  · have e0' : (a.name.toList == b.name.toList) = false := by rw [str_beq]; simpa using e0
    simp -dsimp [go_sem, sameB, e0', e0]
    exact n0
end Go.Proofs.YtindfpaahlijeaaDoor
