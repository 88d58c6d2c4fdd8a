/-
  BoxPlays: one act, on both sides (under way). By the session itself.
-/
import Derived.Test.YtindfpaahlijeaaBxY
import Derived.Test.YtindfpaahlijeaaBxS
namespace Go.Proofs.Ytindfpaahlijeaa
set_option linter.unusedSimpArgs false
set_option linter.unusedVariables false
set_option maxRecDepth 100000
set_option maxHeartbeats 2000000
open Go.Vc Go.RowKit

def bxA (b : Bx) (A : Option Addr) (l c : Nat) : Array Value := #[.string b.name, i64 b.val, i64 b.next, .slice A l c]
/-- Both boxes as they stand between two acts. -/
def Two (w : World) (y1 y2 B0 : Nat) (b : Bx) : Prop := ∃ A1 c1 A2 c2 l, l = b.L.length ∧ Blk w y1 26 #[.string b.name, i64 b.val, i64 b.next, .slice A1 l c1] ∧ RB w (.agg #[.string b.name, i64 b.val, i64 b.next, .slice A1 l c1]) b (fun k => k < B0) ∧
  Blk w y2 26 #[.string b.name, i64 b.val, i64 b.next, .slice A2 l c2] ∧ RB w (.agg #[.string b.name, i64 b.val, i64 b.next, .slice A2 l c2]) b (fun k => k < B0) ∧ y1 < B0 ∧ y2 < B0 ∧ y1 ≠ y2 ∧ B0 ≤ w.heap.size
/-- Behind the program's call of Add. -/
def Add3 (f0 f1 f5 : Value) (w0 : World) (b : Bx) (uid code : Int) (B : Nat) (s : St) (w : World) : Prop := ∃ z A l c, s 0 = f0 ∧ s 1 = f1 ∧ s 5 = f5 ∧ s 7 = .pointer (some ⟨z, 0, none⟩) ∧ s 8 = i64 uid ∧ s 9 = i64 code ∧ l = b.L.length ∧ Blk w z 26 #[.string b.name, i64 b.val, i64 b.next, .slice A l c] ∧ OB w (.agg #[.string b.name, i64 b.val, i64 b.next, .slice A l c]) b B ∧ w0.heap.size ≤ z ∧ Nw w0 w
/-- Behind the reference's call of Add. -/
def Add4 (f : St) (w0 : World) (b : Bx) (uid code : Int) (S : Nat → Prop) (s : St) (w : World) : Prop := s 0 = f 0 ∧ s 1 = f 1 ∧ s 7 = f 7 ∧ s 8 = f 8 ∧ s 9 = f 9 ∧ ∃ z A l c, s 10 = .pointer (some ⟨z, 0, none⟩) ∧ s 11 = i64 uid ∧ s 12 = i64 code ∧ l = b.L.length ∧ Blk w z 26 #[.string b.name, i64 b.val, i64 b.next, .slice A l c] ∧ RB w (.agg #[.string b.name, i64 b.val, i64 b.next, .slice A l c]) b S ∧ w0.heap.size ≤ z ∧ Nw w0 w
theorem act_spec (y1 y2 B0 : Nat) (b : Bx) (a : Ac) (vU vB : Value) (w : World) (h : Two w y1 y2 B0 b) (hl : b.L.length ≤ 1000000) (hbl : ∀ m ∈ b.L, m.body.length ≤ 1000000000) (hn : -9223372036854775808 ≤ b.next)
    (hU : RdI w vU a.uids) (hB : RdB w vB a.body (fun _ => False)) (hul : a.uids.length ≤ 9000) (hk1 : a.kind = 1) :
    Cal Try.prog 24 #[.pointer (some ⟨y1, 0, none⟩), .pointer (some ⟨y2, 0, none⟩), .agg #[i64 a.kind, i64 a.flags, i64 a.date, i64 a.mode, vU, vB]] w fun v w' => v = .bool true ∧ Two w' y1 y2 B0 (addB b a.flags a.date a.body).1 ∧ Kp (fun k => k = y1 ∨ k = y2) w w' := by
  obtain ⟨A1, c1, A2, c2, ln, hln, hb1, hR1, hb2, hR2, hy1, hy2, hy12, hB0⟩ := id h
  obtain ⟨AU, cu, rfl, hrU, hcU⟩ := hU
  obtain ⟨AB, cb, rfl, hrB, hoB, hcB⟩ := hB
  obtain ⟨kd, fl, dt, md, us, bd⟩ := a
  simp only at hk1 hrU hcU hrB hoB hcB hul ⊢
  subst hk1
  refine enter Try.mixed Try.func24 rfl (by kernel_rfl) ?_
  have k0 : Nw w (w.alloc (.cells #[i64 1, i64 fl, i64 dt, i64 md, .slice AU us.length cu, .slice AB bd.length cb] 31)) := (Kp.refl _ _).alloc _
  have hx0 : Blk (w.alloc (.cells #[i64 1, i64 fl, i64 dt, i64 md, .slice AU us.length cu, .slice AB bd.length cb] 31)) w.heap.size 31 #[i64 1, i64 fl, i64 dt, i64 md, .slice AU us.length cu, .slice AB bd.length cb] := Blk.new _ _ _
  obtain ⟨x, hx'⟩ : ∃ x, x = w.heap.size := ⟨_, rfl⟩
  simp -dsimp [go_sem]
  rw [← hx'] at hx0 ⊢
  generalize w.alloc (.cells #[i64 1, i64 fl, i64 dt, i64 md, .slice AU us.length cu, .slice AB bd.length cb] 31) = wa at *
  have a1 : wa.cell? ⟨x, 1, none⟩ = some (i64 fl) := hx0.cell 1
  have a2 : wa.cell? ⟨x, 2, none⟩ = some (i64 dt) := hx0.cell 2
  have a5 : wa.cell? ⟨x, 5, none⟩ = some (.slice AB bd.length cb) := hx0.cell 5
  have hb1a := hb1.nw k0
  have hb2a := hb2.nw k0
  have c0 : wa.cell? ⟨y1, 0, none⟩ = some (.string b.name) := hb1a.cell 0
  have c1' : wa.cell? ⟨y1, 1, none⟩ = some (i64 b.val) := hb1a.cell 1
  have c2' : wa.cell? ⟨y1, 2, none⟩ = some (i64 b.next) := hb1a.cell 2
  have c3 : wa.cell? ⟨y1, 3, none⟩ = some (.slice A1 ln c1) := hb1a.cell 3
  have kD : Nw wa wa.drew := (Kp.refl _ _).drew
  have a1d := kD.cell_some a1 fun h => h
  have a2d := kD.cell_some a2 fun h => h
  have a5d := kD.cell_some a5 fun h => h
  have c0d := kD.cell_some c0 fun h => h
  have c1d := kD.cell_some c1' fun h => h
  have c2d := kD.cell_some c2' fun h => h
  have c3d := kD.cell_some c3 fun h => h
  refine draw_cut (.take 0 (.take 1 (.take 2 (.take 3 (.take 4 (.take 5 (.take 6 (.take 7 (.take 8 (.alt 9 (.take 10 (.take 11 (.take 12 (.take 13 (.alt 14 (.alt 15 (.take 16 (.take 17 .done)) .stop) .stop))))) (.alt 14 (.alt 9 (.take 10 (.take 11 (.take 12 (.take 13 (.alt 15 (.take 16 (.take 17 .done)) .stop))))) .stop) .stop))))))))))) (Add3 (.pointer (some ⟨y1, 0, none⟩)) (.pointer (some ⟨y2, 0, none⟩)) (.pointer (some ⟨x, 0, none⟩)) wa (addB b fl dt bd).1 (addB b fl dt bd).2.1 (addB b fl dt bd).2.2 wa.heap.size) (by kernel_rfl) (fun wz => Nw wa wz) kD ?_ ?_
  · simp -dsimp [go_sem, a1d, a2d, a5d, c0d, c1d, c2d, c3d]
    repeat refine ⟨fun wz hz => by simp [hz.cell_some a1 fun h => h, hz.cell_some a2 fun h => h, hz.cell_some a5 fun h => h, hz.cell_some c0 fun h => h, hz.cell_some c1' fun h => h, hz.cell_some c2' fun h => h, hz.cell_some c3 fun h => h], ?_⟩
    have kA : Nw wa (wa.alloc (.cells #[.string ⟨#[]⟩, .int .i64 0, .int .i64 0, .slice none 0 0] 26)).drew := ((Kp.refl _ _).alloc _).drew
    refine ⟨?_, kA, ?_⟩
    · refine call (add_spec _ b _ fl dt bd AB cb _ ((hR1.nw k0).nw kD) hl hbl ((hrB.nw k0).nw kD) hn) ?_
      rintro v w5 ⟨⟨bv, rfl, hO5⟩, hk5⟩
      generalize addB b fl dt bd = r at *
      obtain ⟨b5, uid, code⟩ := r
      simp only at hO5 ⊢
      obtain ⟨A5, c5, rfl⟩ := hO5.open_
      obtain ⟨l5, hl5⟩ : ∃ l5, l5 = b5.L.length := ⟨_, rfl⟩
      simp only [← hl5] at hO5 ⊢
      have k5 := kD.nw hk5
      refine ⟨k5, ?_⟩
      simp -dsimp [go_sem]
      refine ⟨k5.alloc _, k5.alloc _, ?_⟩
      exact ⟨w5.heap.size, A5, l5, c5, rfl, rfl, rfl, rfl, rfl, rfl, hl5, Blk.new _ _ _, (hO5.nw ((Kp.refl _ _).alloc _)).mono kD.size, k5.size, k5.alloc _⟩
    · refine call (add_spec _ b _ fl dt bd AB cb _ ((hR1.nw k0).nw kA) hl hbl ((hrB.nw k0).nw kA) hn) ?_
      rintro v w5 ⟨⟨bv, rfl, hO5⟩, hk5⟩
      generalize addB b fl dt bd = r at *
      obtain ⟨b5, uid, code⟩ := r
      simp only at hO5 ⊢
      obtain ⟨A5, c5, rfl⟩ := hO5.open_
      obtain ⟨l5, hl5⟩ : ∃ l5, l5 = b5.L.length := ⟨_, rfl⟩
      simp only [← hl5] at hO5 ⊢
      have k5 := kA.nw hk5
      refine ⟨k5, ?_⟩
      have hz5 : Blk w5 wa.heap.size 26 #[.string ⟨#[]⟩, .int .i64 0, .int .i64 0, .slice none 0 0] := ((Blk.new _ _ _).nw ((Kp.refl _ _).drew)).nw hk5
      have z0 := hz5.cell 0
      have z1 := hz5.cell 1
      have z2 := hz5.cell 2
      have z3 := hz5.cell 3
      have f0 := hz5.frozen 0
      have f1 := hz5.frozen 1
      have f2 := hz5.frozen 2
      have f3 := hz5.frozen 3
      have ks := kp_set4 w5 wa.heap.size (.string b5.name) (i64 b5.val) (i64 b5.next) (.slice A5 l5 c5)
      have k6 := k5.at_ ks fun k (e : k = wa.heap.size) => by omega
      simp -dsimp [go_sem, z0, z1, z2, z3, f0, f1, f2, f3]
      refine ⟨k6, ?_⟩
      exact ⟨wa.heap.size, A5, l5, c5, rfl, rfl, rfl, rfl, rfl, rfl, hl5, blk_set4 hz5 _ _ _ _, (hO5.kp ks fun k hk _ (e : k = wa.heap.size) => by simp at hk; omega).mono (by simp), Nat.le_refl _, k6⟩
  · rintro f w3 ⟨z1, A3, l3, c3', f0, f1, f5, f7, f8, f9, hl3, hz1, hO3, hzl, k3⟩
    have hxa := hx0.nw k3
    have hb2c := hb2a.nw k3
    have m1 : w3.cell? ⟨x, 1, none⟩ = some (i64 fl) := hxa.cell 1
    have m2 : w3.cell? ⟨x, 2, none⟩ = some (i64 dt) := hxa.cell 2
    have m5 : w3.cell? ⟨x, 5, none⟩ = some (.slice AB bd.length cb) := hxa.cell 5
    have n0' : w3.cell? ⟨y2, 0, none⟩ = some (.string b.name) := hb2c.cell 0
    have n1' : w3.cell? ⟨y2, 1, none⟩ = some (i64 b.val) := hb2c.cell 1
    have n2' : w3.cell? ⟨y2, 2, none⟩ = some (i64 b.next) := hb2c.cell 2
    have n3' : w3.cell? ⟨y2, 3, none⟩ = some (.slice A2 ln c2) := hb2c.cell 3
    have kE : Nw w3 w3.drew := (Kp.refl _ _).drew
    have m1d := kE.cell_some m1 fun h => h
    have m2d := kE.cell_some m2 fun h => h
    have m5d := kE.cell_some m5 fun h => h
    have n0d := kE.cell_some n0' fun h => h
    have n1d := kE.cell_some n1' fun h => h
    have n2d := kE.cell_some n2' fun h => h
    have n3d := kE.cell_some n3' fun h => h
    simp -dsimp [go_sem]
    refine draw_cut (.take 0 (.take 1 (.take 2 (.take 3 (.take 4 (.take 5 (.take 6 (.take 7 (.take 8 (.alt 9 (.take 10 (.take 11 (.take 12 (.take 13 (.alt 14 (.alt 15 (.take 16 (.take 17 .done)) .stop) .stop))))) (.alt 14 (.alt 9 (.take 10 (.take 11 (.take 12 (.take 13 (.alt 15 (.take 16 (.take 17 .done)) .stop))))) .stop) .stop))))))))))) (Add4 f w3 (addB b fl dt bd).1 (addB b fl dt bd).2.1 (addB b fl dt bd).2.2 (fun k => k < B0)) (by kernel_rfl) (fun wz => Nw w3 wz) kE ?_ ?_
    · simp -dsimp [go_sem, f0, f1, f5, m1d, m2d, m5d, n0d, n1d, n2d, n3d]
      repeat refine ⟨fun wz hz => by simp [hz.cell_some m1 fun h => h, hz.cell_some m2 fun h => h, hz.cell_some m5 fun h => h, hz.cell_some n0' fun h => h, hz.cell_some n1' fun h => h, hz.cell_some n2' fun h => h, hz.cell_some n3' fun h => h], ?_⟩
      have kA : Nw w3 (w3.alloc (.cells #[.string ⟨#[]⟩, .int .i64 0, .int .i64 0, .slice none 0 0] 26)).drew := ((Kp.refl _ _).alloc _).drew
      refine ⟨?_, kA, ?_⟩
      · refine call (radd_spec _ b (fun k => k < B0) fl dt bd AB cb _ (((hR2.nw k0).nw k3).nw kE) (fun k hk => Nat.lt_of_lt_of_le hk (Nat.le_trans hB0 ((k0.nw k3).nw kE).size)) hl (((hrB.nw k0).nw k3).nw kE) hn) ?_
        rintro v w5 ⟨⟨bv, rfl, hO5⟩, hk5⟩
        generalize addB b fl dt bd = r at *
        obtain ⟨b5, uid, code⟩ := r
        simp only at hO5 ⊢
        obtain ⟨A5, c5, rfl⟩ := hO5.open_
        obtain ⟨l5, hl5⟩ : ∃ l5, l5 = b5.L.length := ⟨_, rfl⟩
        simp only [← hl5] at hO5 ⊢
        have k5 := kE.nw hk5
        refine ⟨k5, ?_⟩
        simp -dsimp [go_sem]
        refine ⟨k5.alloc _, k5.alloc _, ?_⟩
        exact ⟨rfl, rfl, rfl, rfl, rfl, w5.heap.size, A5, l5, c5, rfl, rfl, rfl, hl5, Blk.new _ _ _, hO5.nw ((Kp.refl _ _).alloc _), k5.size, k5.alloc _⟩
      · refine call (radd_spec _ b (fun k => k < B0 ∨ k = w3.heap.size) fl dt bd AB cb _ ((((hR2.nw k0).nw k3).ofl fun i hi => hi.elim .inl fun e => .inr (by omega)).nw kA) (fun k hk => by have := ((k0.nw k3).nw kA).size; have := (k0.nw k3).size; rcases hk with hk | rfl; omega; simp) hl (((hrB.nw k0).nw k3).nw kA) hn) ?_
        rintro v w5 ⟨⟨bv, rfl, hO5⟩, hk5⟩
        generalize addB b fl dt bd = r at *
        obtain ⟨b5, uid, code⟩ := r
        simp only at hO5 ⊢
        obtain ⟨A5, c5, rfl⟩ := hO5.open_
        obtain ⟨l5, hl5⟩ : ∃ l5, l5 = b5.L.length := ⟨_, rfl⟩
        simp only [← hl5] at hO5 ⊢
        have k5 := kA.nw hk5
        refine ⟨k5, ?_⟩
        have hz5 : Blk w5 w3.heap.size 26 #[.string ⟨#[]⟩, .int .i64 0, .int .i64 0, .slice none 0 0] := ((Blk.new _ _ _).nw ((Kp.refl _ _).drew)).nw hk5
        have z0 := hz5.cell 0
        have z1 := hz5.cell 1
        have z2 := hz5.cell 2
        have z3 := hz5.cell 3
        have g0 := hz5.frozen 0
        have g1 := hz5.frozen 1
        have g2 := hz5.frozen 2
        have g3 := hz5.frozen 3
        have ks := kp_set4 w5 w3.heap.size (.string b5.name) (i64 b5.val) (i64 b5.next) (.slice A5 l5 c5)
        have k6 := k5.at_ ks fun k (e : k = w3.heap.size) => by omega
        have hO6 := (hO5.kp (ks.mono fun k _ e => .inr e)).ofl (T := fun k => k < B0) fun i hi => .inl (.inl hi)
        simp -dsimp [go_sem, z0, z1, z2, z3, g0, g1, g2, g3]
        refine ⟨k6, ?_⟩
        exact ⟨rfl, rfl, rfl, rfl, rfl, w3.heap.size, A5, l5, c5, rfl, rfl, rfl, hl5, blk_set4 hz5 _ _ _ _, hO6, Nat.le_refl _, k6⟩
    · rintro f' w4 ⟨e0, e1, e7, e8, e9, z2, A4, l4, c4, f10, f11, f12, hl4, hz2, hR4, hz4l, k4⟩
      have hz1' := hz1.nw k4
      have hb1c := (hb1a.nw k3).nw k4
      have hb2d := (hb2c).nw k4
      have n4 := (k0.nw k3).nw k4
      generalize addB b fl dt bd = r at *
      obtain ⟨b5, uid, code⟩ := r
      simp only at hz1' hz2 hO3 hR4 hl3 hl4 f8 f9 f11 f12 ⊢
      have hO4 := hO3.nw k4
      have hlw : w.heap.size ≤ wa.heap.size := k0.size
      have hlw3 : wa.heap.size ≤ w3.heap.size := k3.size
      have z1y1 : ¬ (z1 = y1 ∨ z1 = y2) := by omega
      have z2y : ¬ (z2 = y1 ∨ z2 = y2) := by omega
      have p0 : w4.cell? ⟨z1, 0, none⟩ = some (.string b5.name) := hz1'.cell 0
      have p1 : w4.cell? ⟨z1, 1, none⟩ = some (i64 b5.val) := hz1'.cell 1
      have p2 : w4.cell? ⟨z1, 2, none⟩ = some (i64 b5.next) := hz1'.cell 2
      have p3 : w4.cell? ⟨z1, 3, none⟩ = some (.slice A3 l3 c3') := hz1'.cell 3
      have q0 : w4.cell? ⟨z2, 0, none⟩ = some (.string b5.name) := hz2.cell 0
      have q1 : w4.cell? ⟨z2, 1, none⟩ = some (i64 b5.val) := hz2.cell 1
      have q2 : w4.cell? ⟨z2, 2, none⟩ = some (i64 b5.next) := hz2.cell 2
      have q3 : w4.cell? ⟨z2, 3, none⟩ = some (.slice A4 l4 c4) := hz2.cell 3
      have kF : Kp (fun k => k = y1 ∨ k = y2) w4 w4.drew := (Kp.refl _ _).drew
      have p0d := kF.cell_some p0 z1y1
      have p1d := kF.cell_some p1 z1y1
      have p2d := kF.cell_some p2 z1y1
      have p3d := kF.cell_some p3 z1y1
      have q0d := kF.cell_some q0 z2y
      have q1d := kF.cell_some q1 z2y
      have q2d := kF.cell_some q2 z2y
      have q3d := kF.cell_some q3 z2y
      have y10 := hb1c.cell 0
      have y11 := hb1c.cell 1
      have y12 := hb1c.cell 2
      have y13 := hb1c.cell 3
      have g10 := hb1c.frozen 0
      have g11 := hb1c.frozen 1
      have g12 := hb1c.frozen 2
      have g13 := hb1c.frozen 3
      rw [f0] at e0
      rw [f1] at e1
      rw [f7] at e7
      rw [f8] at e8
      rw [f9] at e9
      simp -dsimp [go_sem]
      refine draw (.take 0 (.take 1 (.take 2 (.take 3 (.take 4 (.alt 5 (.take 6 (.alt 7 .done .stop)) .stop)))))) (by kernel_rfl) (fun wz => Kp (fun k => k = y1 ∨ k = y2) w4 wz) kF ?_
      simp -dsimp [go_sem, e0, e1, e7, f10, p0d, p1d, p2d, p3d, q0d, q1d, q2d, q3d, y10, y11, y12, y13, g10, g11, g12, g13]
      repeat refine ⟨fun wz hz => by simp [hz.cell_some p0 z1y1, hz.cell_some p1 z1y1, hz.cell_some p2 z1y1, hz.cell_some p3 z1y1, hz.cell_some q0 z2y, hz.cell_some q1 z2y, hz.cell_some q2 z2y, hz.cell_some q3 z2y], ?_⟩
      have s1 := kp_set4 w4 y1 (.string b5.name) (i64 b5.val) (i64 b5.next) (.slice A3 l3 c3')
      have B1 := blk_set4 hb1c (.string b5.name) (i64 b5.val) (i64 b5.next) (.slice A3 l3 c3')
      have hb2e := hb2d.kp s1 (by show ¬ y2 = y1; omega)
      have s1' := s1.mono (T := fun k => k = y1 ∨ k = y2) fun k _ (e : k = y1) => .inl e
      refine ⟨s1'.drew, ?_⟩
      have O1 := hO4.kp s1 fun k hk _ (e : k = y1) => by omega
      have R1 := (hR4.kp (s1.mono (T := fun k => k < B0) fun k _ (e : k = y1) => by show k < B0; omega))
      generalize (((w4.setCell ⟨y1, 0, none⟩ (.string b5.name)).setCell ⟨y1, 1, none⟩ (i64 b5.val)).setCell ⟨y1, 2, none⟩ (i64 b5.next)).setCell ⟨y1, 3, none⟩ (.slice A3 l3 c3') = w6 at *
      have t0 := hb2d.cell 0
      have t1 := hb2d.cell 1
      have t2 := hb2d.cell 2
      have t3 := hb2d.cell 3
      have h0 := hb2d.frozen 0
      have h1 := hb2d.frozen 1
      have h2 := hb2d.frozen 2
      have h3 := hb2d.frozen 3
      have u0 := hb2e.cell 0
      have u1 := hb2e.cell 1
      have u2 := hb2e.cell 2
      have u3 := hb2e.cell 3
      have j0 := hb2e.frozen 0
      have j1 := hb2e.frozen 1
      have j2 := hb2e.frozen 2
      have j3 := hb2e.frozen 3
      have s2 := kp_set4 w6 y2 (.string b5.name) (i64 b5.val) (i64 b5.next) (.slice A4 l4 c4)
      have s2' := s1'.trans (s2.mono (T := fun k => k = y1 ∨ k = y2) fun k _ (e : k = y2) => .inr e) fun _ _ h => h
      simp -dsimp [go_sem, t0, t1, t2, t3, h0, h1, h2, h3, u0, u1, u2, u3, j0, j1, j2, j3, e8, e9, f11, f12]
      refine ⟨s2'.drew, ?_⟩
      have B2 := blk_set4 hb2e (.string b5.name) (i64 b5.val) (i64 b5.next) (.slice A4 l4 c4)
      have B1' := B1.kp s2 (by show ¬ y1 = y2; exact hy12)
      have O2 := O1.kp s2 fun k hk _ (e : k = y2) => by omega
      have R2 := R1.kp (s2.mono (T := fun k => k < B0) fun k _ (e : k = y2) => by show k < B0; omega)
      have hsz : B0 ≤ w6.heap.size := by have := n4.size; have := s1'.size; omega
      generalize (((w6.setCell ⟨y2, 0, none⟩ (.string b5.name)).setCell ⟨y2, 1, none⟩ (i64 b5.val)).setCell ⟨y2, 2, none⟩ (i64 b5.next)).setCell ⟨y2, 3, none⟩ (.slice A4 l4 c4) = w7 at *
      obtain rfl : l4 = l3 := by omega
      have kd7 : Nw w7 w7.drew := (Kp.refl _ _).drew
      refine ⟨⟨A3, c3', A4, c4, l4, hl3, B1'.nw kd7, ((O2.nw kd7).mono (B' := B0) (by omega)).rb, B2.nw kd7, R2.nw kd7, hy1, hy2, hy12, by have := s2.size; have := kd7.size; omega⟩, ?_⟩
      exact (Nw.kp n4 _).trans s2'.drew fun _ _ h => h
end Go.Proofs.Ytindfpaahlijeaa
