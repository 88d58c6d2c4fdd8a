/-
  The reference's Same walked. By the session itself.
-/
import Derived.Test.YtindfpaahlijeaaDoorBxG
namespace Go.Proofs.YtindfpaahlijeaaDoor
set_option linter.unusedSimpArgs false
set_option linter.unusedVariables false
set_option maxRecDepth 100000
set_option maxHeartbeats 2000000
open Go.Vc Go.RowKit

theorem str_beq (a b : ByteArray) : (a.toList == b.toList) = decide (a = b) := by
  obtain ⟨⟨a⟩⟩ := a
  obtain ⟨⟨b⟩⟩ := b
  by_cases h : a = b
  · subst h; simp
  · have h1 : (ByteArray.mk a.toArray).toList = a := ByteArray.toList_mk a
    have h2 : (ByteArray.mk b.toArray).toList = b := ByteArray.toList_mk b
    have h3 : ((ByteArray.mk a.toArray).toList == (ByteArray.mk b.toArray).toList) = false := by rw [h1, h2]; simpa using h
    have h4 : (ByteArray.mk a.toArray) ≠ (ByteArray.mk b.toArray) := fun e => by
      injection e with e
      exact h (by simpa using e)
    rw [show (decide ((ByteArray.mk a.toArray) = (ByteArray.mk b.toArray))) = false by simpa using h4]
    exact h3
def msgEq (x y : Msg) : Bool := x.uid == y.uid && x.flags == y.flags && x.date == y.date && x.body == y.body
theorem msgEq_iff (x y : Msg) : msgEq x y = true ↔ x = y := by
  obtain ⟨a, b, c, d⟩ := x
  obtain ⟨a', b', c', d'⟩ := y
  simp [msgEq, and_assoc]
def msgsEq : List Msg → List Msg → Bool
  | [], [] => true
  | x :: l, y :: r => msgEq x y && msgsEq l r
  | _, _ => false
theorem msgsEq_iff : ∀ l r : List Msg, msgsEq l r = true ↔ l = r
  | [], [] => by simp [msgsEq]
  | x :: l, y :: r => by simp [msgsEq, msgEq_iff, msgsEq_iff l r]
  | [], _ :: _ => by simp [msgsEq]
  | _ :: _, [] => by simp [msgsEq]
def sameB (a b : Bx) : Bool := decide (a.name = b.name) && a.val == b.val && a.next == b.next && msgsEq a.L b.L
theorem sameB_iff (a b : Bx) : sameB a b = true ↔ a = b := by
  obtain ⟨n, v, x, l⟩ := a
  obtain ⟨n', v', x', l'⟩ := b
  simp [sameB, msgsEq_iff, and_assoc]
theorem sameB_no {a b : Bx} (h : a ≠ b) : sameB a b = false := by
  cases hs : sameB a b with
  | false => rfl
  | true => exact absurd ((sameB_iff a b).1 hs) h
theorem sameB_self (a : Bx) : sameB a a = true := (sameB_iff a a).2 rfl
theorem rsame_spec (v1 v2 : Value) (a b : Bx) (S T : Nat → Prop) (w : World) (h : RB w v1 a S) (h2 : RB w v2 b T) (hll : a.L.length ≤ 9223372036854775807) (hlb : b.L.length ≤ 9223372036854775807) :
    Cal Tryd.prog 9 #[v1, v2] w fun v' w' => v' = .bool (sameB a b) ∧ Nw w w' := by
  obtain ⟨A, c, q, rfl, hq, hc, hr, ho, hb⟩ := h
  obtain ⟨A2, c2, q2, rfl, hq2, hc2, hr2, ho2, hb2⟩ := h2
  have hql : q.length = a.L.length := by rw [← hq, List.length_map]
  have hql2 : q2.length = b.L.length := by rw [← hq2, List.length_map]
  refine enter Tryd.mixed Tryd.func9 rfl (by kernel_rfl) ?_
  simp -dsimp [go_sem]
  obtain ⟨x, hx', hb0, hz0, hsz, n0⟩ := two_new w 24 24 #[.string a.name, i64 a.val, i64 a.next, .slice A a.L.length c] #[.string b.name, i64 b.val, i64 b.next, .slice A2 b.L.length c2]
  rw [← hx']
  generalize (w.alloc (.cells #[.string a.name, i64 a.val, i64 a.next, .slice A a.L.length c] 24)).alloc (.cells #[.string b.name, i64 b.val, i64 b.next, .slice A2 b.L.length c2] 24) = wa at *
  have p1 := hb0.cell 1
  have p2 := hb0.cell 2
  have p3 := hb0.cell 3
  have r1 := hz0.cell 1
  have r2 := hz0.cell 2
  have r3 := hz0.cell 3
  by_cases e0 : a.name = b.name
  · have e0' : (a.name.toList == b.name.toList) = true := by rw [str_beq]; simpa using e0
    by_cases e1 : a.val = b.val
    · have e1' : (a.val != b.val) = false := by simpa using e1
      by_cases e2 : a.next = b.next
      · have e2' : (a.next != b.next) = false := by simpa using e2
        by_cases e3 : a.L.length = b.L.length
        · have e3' : ((a.L.length : Int) != (b.L.length : Int)) = false := by simp [e3]
          simp -dsimp [go_sem, p1, p2, p3, r1, r2, r3, e0', e1', e2', e3']
          refine loop [4, 5, 6, 7, 36, 37, 38, 39, 40, 41, 42, 43, 44, 45, 46, 47, 48, 49, 50, 51, 52, 53, 54, 55, 56, 57, 58, 59, 60, 61, 62, 63, 64, 65, 66, 67, 68, 69, 70, 71, 72, 73, 74, 75, 76, 77, 78, 79, 80] (by kernel_rfl)
            (fun f w' => Box1 (fun l w' => ∃ i : Nat, l = i64 i ∧ i ≤ a.L.length ∧ a.L.take i = b.L.take i ∧ Nw wa w') (f 5) w') (fun f _ => a.L.length - (intOf (f 5)).toNat) ⟨0, rfl, by omega, rfl, Kp.refl _ _⟩ ?_
          rintro f w' ⟨i, f5, hi, htk, hK⟩
          have b3 : w'.cell? ⟨x, 3, none⟩ = some (.slice A a.L.length c) := (hb0.nw hK).cell 3
          have z3 : w'.cell? ⟨x + 1, 3, none⟩ = some (.slice A2 b.L.length c2) := (hz0.nw hK).cell 3
          by_cases hlt : i < a.L.length
          · have hlt2 : i < b.L.length := by omega
            have hi1 : IntKind.i64.wrap ((i : Int) + 1) = ((i + 1 : Nat) : Int) := by rw [w64 (by omega) (by omega)]; omega
            obtain ⟨i1, hi1'⟩ : ∃ i1, i1 = i + 1 := ⟨_, rfl⟩
            have htk1 : a.L[i] = b.L[i] → a.L.take i1 = b.L.take i1 := fun h => by rw [hi1', List.take_succ_eq_append_getElem hlt, List.take_succ_eq_append_getElem hlt2, htk, h]
            have hne : a.L[i] ≠ b.L[i] → sameB a b = false := fun h => sameB_no fun e => by subst e; exact h rfl
            rw [← hi1'] at hi1
            have hltq : i < q.length := by omega
            have hltq2 : i < q2.length := by omega
            obtain ⟨g, o, rfl, m0, m1, m2, m3⟩ := msg_at ((hr.nw n0).nw hK) hltq
            obtain ⟨g2, o2, rfl, k0, k1, k2, k3⟩ := msg_at ((hr2.nw n0).nw hK) hltq2
            have hqi : q[i].1 = a.L[i] := by simp only [← hq, List.getElem_map]
            have hqi2 : q2[i].1 = b.L[i] := by simp only [← hq2, List.getElem_map]
            have hbq := hb _ (List.getElem_mem hltq)
            have hbq2 := hb2 _ (List.getElem_mem hltq2)
            rw [hqi] at m0 m1 m2 hbq
            rw [hqi2] at k0 k1 k2 hbq2
            generalize a.L[i] = m at *
            generalize b.L[i] = k at *
            generalize q[i].2 = mv at *
            generalize q2[i].2 = kv at *
            obtain ⟨Bm, dm, rfl, hrm, hom, hdm⟩ := hbq
            obtain ⟨Bk, dk, rfl, hrk, hok, hdk⟩ := hbq2
            have kd : Nw w' w'.drew := (Kp.refl _ _).drew
            have b3d := kd.cell_some b3 fun h => h
            have z3d := kd.cell_some z3 fun h => h
            have m0d := kd.cell_some m0 fun h => h
            have m1d := kd.cell_some m1 fun h => h
            have m2d := kd.cell_some m2 fun h => h
            have m3d := kd.cell_some m3 fun h => h
            have k0d := kd.cell_some k0 fun h => h
            have k1d := kd.cell_some k1 fun h => h
            have k2d := kd.cell_some k2 fun h => h
            have k3d := kd.cell_some k3 fun h => h
            simp -dsimp [go_sem, f5, b3, hlt]
            refine draw (.take 0 (.take 1 (.take 2 (.take 3 (.take 4 (.take 5 (.take 6 (.take 7 (.take 8 (.take 9 (.alt 10 (.alt 11 (.alt 12 (.alt 13 .done .stop) .stop) .stop) (.alt 11 (.alt 10 (.alt 12 (.alt 13 .done .stop) .stop) .stop) .stop)))))))))))) (by kernel_rfl) (fun wz => Nw w' wz) kd ?_
            simp -dsimp [go_sem, f5, b3d, z3d, hlt, hlt2, m0d, m1d, m2d, m3d, k0d, k1d, k2d, k3d]
            refine ⟨fun wz hz => by simp [hz.cell_some b3 fun h => h], fun wz hz => by simp [hz.cell_some m0 fun h => h, hz.cell_some m1 fun h => h, hz.cell_some m2 fun h => h, hz.cell_some m3 fun h => h], fun wz hz => by simp [hz.cell_some z3 fun h => h], fun wz hz => by simp [hz.cell_some k0 fun h => h, hz.cell_some k1 fun h => h, hz.cell_some k2 fun h => h, hz.cell_some k3 fun h => h], ?_⟩
            have hcm : ∀ W, Nw w' W → convR Tryd.prog 26 9 (.slice Bm m.body.length dm) W = .ok (.string ⟨m.body.toArray⟩) W := fun W hW => conv_str (e := 5) (by kernel_rfl) (by kernel_rfl) (by kernel_rfl) (((hrm.nw n0).nw hK).nw hW)
            have hck : ∀ W, Nw w' W → convR Tryd.prog 26 9 (.slice Bk k.body.length dk) W = .ok (.string ⟨k.body.toArray⟩) W := fun W hW => conv_str (e := 5) (by kernel_rfl) (by kernel_rfl) (by kernel_rfl) (((hrk.nw n0).nw hK).nw hW)
            constructor
            · have kn := (((Kp.refl (fun _ => False) w').alloc (.cells #[i64 m.uid, i64 m.flags, i64 m.date, .slice Bm m.body.length dm] 41)).alloc (.cells #[i64 k.uid, i64 k.flags, i64 k.date, .slice Bk k.body.length dk] 41)).drew
              have hcmW := hcm _ kn
              have hckW := hck _ kn
              have kK := hK.nw kn
              refine ⟨((Kp.refl _ _).alloc _).drew, (((Kp.refl _ _).alloc _).alloc _).drew, (((Kp.refl _ _).alloc _).alloc _).drew, kn, ?_⟩
              by_cases u0 : m.uid = k.uid
              · have u0' : (m.uid != k.uid) = false := by simpa using u0
                by_cases u1 : m.flags = k.flags
                · have u1' : (m.flags != k.flags) = false := by simpa using u1
                  by_cases u2 : m.date = k.date
                  · have u2' : (m.date != k.date) = false := by simpa using u2
                    by_cases u3 : m.body = k.body
                    · have u3' : (m.body == k.body) = true := by simpa using u3
                      have hmk : m = k := by
                        obtain ⟨a1, a2, a3, a4⟩ := m
                        obtain ⟨b1, b2, b3, b4⟩ := k
                        simp only at u0 u1 u2 u3
                        subst u0; subst u1; subst u2; subst u3; rfl
                      have hr1 := htk1 hmk
                      simp -dsimp [go_sem, u0', u1', u2', u3', hcmW, hckW, f5, hi1]
                      exact ⟨⟨i1, rfl, by omega, hr1, kK⟩, by simp [intOf]; omega⟩
                    · have u3' : (m.body == k.body) = false := by simpa using u3
                      have hs := hne fun e => u3 (by rw [e])
                      simp -dsimp [go_sem, u0', u1', u2', u3', hcmW, hckW, hs]
                      exact n0.nw kK
                  · have u2' : (m.date != k.date) = true := by simpa using u2
                    have hs := hne fun e => u2 (by rw [e])
                    simp -dsimp [go_sem, u0', u1', u2', hs]
                    exact n0.nw kK
                · have u1' : (m.flags != k.flags) = true := by simpa using u1
                  have hs := hne fun e => u1 (by rw [e])
                  simp -dsimp [go_sem, u0', u1', hs]
                  exact n0.nw kK
              · have u0' : (m.uid != k.uid) = true := by simpa using u0
                have hs := hne fun e => u0 (by rw [e])
                simp -dsimp [go_sem, u0', hs]
                exact n0.nw kK
            · have kn := (((Kp.refl (fun _ => False) w').alloc (.cells #[i64 k.uid, i64 k.flags, i64 k.date, .slice Bk k.body.length dk] 41)).alloc (.cells #[i64 m.uid, i64 m.flags, i64 m.date, .slice Bm m.body.length dm] 41)).drew
              have hcmW := hcm _ kn
              have hckW := hck _ kn
              have kK := hK.nw kn
              refine ⟨((Kp.refl _ _).alloc _).drew, (((Kp.refl _ _).alloc _).alloc _).drew, (((Kp.refl _ _).alloc _).alloc _).drew, kn, ?_⟩
              by_cases u0 : m.uid = k.uid
              · have u0' : (m.uid != k.uid) = false := by simpa using u0
                by_cases u1 : m.flags = k.flags
                · have u1' : (m.flags != k.flags) = false := by simpa using u1
                  by_cases u2 : m.date = k.date
                  · have u2' : (m.date != k.date) = false := by simpa using u2
                    by_cases u3 : m.body = k.body
                    · have u3' : (m.body == k.body) = true := by simpa using u3
                      have hmk : m = k := by
                        obtain ⟨a1, a2, a3, a4⟩ := m
                        obtain ⟨b1, b2, b3, b4⟩ := k
                        simp only at u0 u1 u2 u3
                        subst u0; subst u1; subst u2; subst u3; rfl
                      have hr1 := htk1 hmk
                      simp -dsimp [go_sem, u0', u1', u2', u3', hcmW, hckW, f5, hi1]
                      exact ⟨⟨i1, rfl, by omega, hr1, kK⟩, by simp [intOf]; omega⟩
                    · have u3' : (m.body == k.body) = false := by simpa using u3
                      have hs := hne fun e => u3 (by rw [e])
                      simp -dsimp [go_sem, u0', u1', u2', u3', hcmW, hckW, hs]
                      exact n0.nw kK
                  · have u2' : (m.date != k.date) = true := by simpa using u2
                    have hs := hne fun e => u2 (by rw [e])
                    simp -dsimp [go_sem, u0', u1', u2', hs]
                    exact n0.nw kK
                · have u1' : (m.flags != k.flags) = true := by simpa using u1
                  have hs := hne fun e => u1 (by rw [e])
                  simp -dsimp [go_sem, u0', u1', hs]
                  exact n0.nw kK
              · have u0' : (m.uid != k.uid) = true := by simpa using u0
                have hs := hne fun e => u0 (by rw [e])
                simp -dsimp [go_sem, u0', hs]
                exact n0.nw kK
          · obtain rfl : i = a.L.length := by omega
            rw [List.take_length, e3, List.take_length] at htk
            have hs : sameB a b = true := (sameB_iff a b).2 (by
              obtain ⟨n, v, y, l⟩ := a
              obtain ⟨n', v', y', l'⟩ := b
              simp only at e0 e1 e2 htk
              subst e0; subst e1; subst e2; subst htk; rfl)
            simp -dsimp [go_sem, f5, b3, hs]
            exact n0.nw hK
        · have e3' : ((a.L.length : Int) != (b.L.length : Int)) = true := by simp; omega
          have hs : sameB a b = false := sameB_no fun e => e3 (by rw [e])
          simp -dsimp [go_sem, p1, p2, p3, r1, r2, r3, e0', e1', e2', e3', hs]
          exact n0
      · have e2' : (a.next != b.next) = true := by simpa using e2
        have hs : sameB a b = false := sameB_no fun e => e2 (by rw [e])
        simp -dsimp [go_sem, p1, p2, p3, r1, r2, r3, e0', e1', e2', hs]
        exact n0
    · have e1' : (a.val != b.val) = true := by simpa using e1
      have hs : sameB a b = false := sameB_no fun e => e1 (by rw [e])
      simp -dsimp [go_sem, p1, p2, p3, r1, r2, r3, e0', e1', hs]
      exact n0
  · have e0' : (a.name.toList == b.name.toList) = false := by rw [str_beq]; simpa using e0
    have hs : sameB a b = false := sameB_no fun e => e0 (by rw [e])
    simp -dsimp [go_sem, e0', hs]
    exact n0
end Go.Proofs.YtindfpaahlijeaaDoor
