/-
  BoxPlays: one act, on both sides: Mark, Expunge, Find. By the session itself.
-/
import Derived.Test.YtindfpaahlijeaaBxZ
namespace Go.Proofs.Ytindfpaahlijeaa
set_option linter.unusedSimpArgs false
set_option linter.unusedVariables false
set_option maxRecDepth 100000
set_option maxHeartbeats 2000000
open Go.Vc Go.RowKit

theorem RB.low {w : World} {v : Value} {b : Bx} {B : Nat} {S : Nat → Prop} (h : RB w v b (fun k => k < B)) (hS : ∀ k, S k → k < B) : RB w v b S := h.ofl fun i hi => .inl (hS i hi)
/-- What a call hands back: a box, and one thing more. -/
def BU (v : Value) (w : World) (b : Bx) (S : Nat → Prop) (U : World → Value → Prop) : Prop := ∃ bv u, v = .tuple #[bv, u] ∧ RB w bv b S ∧ U w u
def IsI (n : Nat) (_ : World) (u : Value) : Prop := u = i64 n
def IsG (gone : List Int) (S : Nat → Prop) (w : World) (u : Value) : Prop := ∃ A n c, u = .slice A n c ∧ n = gone.length ∧ Rd w A (gone.map i64) ∧ Ofl A (gone.map i64) S
theorem IsG.nw {gone : List Int} {S : Nat → Prop} {w w' : World} {u : Value} (h : IsG gone S w u) (k : Nw w w') : IsG gone S w' u := by
  obtain ⟨A, n, c, h1, h2, h3, h4⟩ := h
  exact ⟨A, n, c, h1, h2, h3.nw k, h4⟩
theorem IsG.to {gone : List Int} {S T : Nat → Prop} {w w' : World} {u : Value} (h : IsG gone S w u) (k : Kp S w w') (hT : ∀ i, T i → S i) : IsG gone T w' u := by
  obtain ⟨A, n, c, h1, h2, h3, h4⟩ := h
  exact ⟨A, n, c, h1, h2, h3.kp k h4, fun a ha hne ht => h4 a ha hne (hT _ ht)⟩
theorem pmark_rb (v : Value) (b : Bx) (S : Nat → Prop) (uids : List Int) (mode flags : Int) (X : Option Addr) (xc : Nat) (w : World) (h : RB w v b (fun _ => False)) (hS : ∀ k, S k → k < w.heap.size) (hl : b.L.length ≤ 1000000) (hbl : ∀ m ∈ b.L, m.body.length ≤ 1000000000) (hx : Rd w X (uids.map i64)) (hxl : uids.length ≤ 1000000000) :
    Cal Try.prog 22 #[v, .slice X uids.length xc, i64 mode, i64 flags] w fun v' w' => BU v' w' { b with L := b.L.map (mk1 uids mode flags) } S (IsI (markN uids mode flags b.L)) ∧ Nw w w' := by
  refine (mark_spec v b _ uids mode flags X xc w h hl hbl hx hxl).mono ?_
  rintro v' w' ⟨⟨bv, rfl, hO⟩, k⟩
  exact ⟨⟨bv, _, rfl, hO.rb.low hS, rfl⟩, k⟩
theorem rmark_rb (v : Value) (b : Bx) (S : Nat → Prop) (uids : List Int) (mode flags : Int) (X : Option Addr) (xc : Nat) (w : World) (h : RB w v b S) (hS : ∀ k, S k → k < w.heap.size) (hl : b.L.length ≤ 1000000) (hx : Rd w X (uids.map i64)) (hxl : uids.length ≤ 1000000000) :
    Cal Try.prog 40 #[v, .slice X uids.length xc, i64 mode, i64 flags] w fun v' w' => BU v' w' { b with L := b.L.map (mk1 uids mode flags) } S (IsI (markN uids mode flags b.L)) ∧ Nw w w' := by
  refine (rmark_spec v b S uids mode flags X xc w h hS hl hx hxl).mono ?_
  rintro v' w' ⟨⟨bv, rfl, hO⟩, k⟩
  exact ⟨⟨bv, _, rfl, hO, rfl⟩, k⟩
theorem pexp_rb (v : Value) (b : Bx) (S : Nat → Prop) (uids : List Int) (X : Option Addr) (xc : Nat) (w : World) (h : RB w v b (fun _ => False)) (hs : srtI (goneB uids b.L) = goneB uids b.L) (hS : ∀ k, S k → k < w.heap.size) (hl : b.L.length ≤ 1000000) (hbl : ∀ m ∈ b.L, m.body.length ≤ 1000000000) (hx : Rd w X (uids.map i64)) (hxl : uids.length ≤ 1000000000) :
    Cal Try.prog 14 #[v, .slice X uids.length xc] w fun v' w' => BU v' w' { b with L := stayB uids b.L } S (IsG (goneB uids b.L) S) ∧ Nw w w' := by
  refine (expunge_spec v b _ uids X xc w h hl hbl hx hxl).mono ?_
  rw [hs]
  rintro v' w' ⟨⟨bv, A, n, c, rfl, hn, hc, hO, hr, hof⟩, k⟩
  exact ⟨⟨bv, _, rfl, hO.rb.low hS, A, n, c, rfl, hn, hr, fun a ha hne hk => hof a ha hne (hS _ hk)⟩, k⟩
theorem rexp_rb (v : Value) (b : Bx) (S : Nat → Prop) (uids : List Int) (X : Option Addr) (xc : Nat) (w : World) (h : RB w v b S) (hS : ∀ k, S k → k < w.heap.size) (hl : b.L.length ≤ 1000000) (hx : Rd w X (uids.map i64)) (hxl : uids.length ≤ 1000000000) :
    Cal Try.prog 41 #[v, .slice X uids.length xc] w fun v' w' => BU v' w' { b with L := stayB uids b.L } S (IsG (goneB uids b.L) S) ∧ Nw w w' := by
  refine (rexpunge_spec v b S uids X xc w h hS hl hx hxl).mono ?_
  rintro v' w' ⟨⟨bv, A, n, c, rfl, hn, hO, hr, hof⟩, k⟩
  exact ⟨⟨bv, _, rfl, hO, A, n, c, rfl, hn, hr, hof⟩, k⟩

/-- What slots hold. -/
def Hold : List (Nat × Value) → St → Prop
  | [], _ => True
  | p :: r, s => s p.1 = p.2 ∧ Hold r s
theorem Two.nw {w w' : World} {y1 y2 B0 : Nat} {b : Bx} (h : Two w y1 y2 B0 b) (k : Nw w w') : Two w' y1 y2 B0 b := by
  obtain ⟨A1, c1, A2, c2, ln, hln, hb1, hR1, hb2, hR2, hy1, hy2, hy12, hB0⟩ := h
  exact ⟨A1, c1, A2, c2, ln, hln, hb1.nw k, hR1.nw k, hb2.nw k, hR2.nw k, hy1, hy2, hy12, Nat.le_trans hB0 k.size⟩
/-- Behind one of the calls: what the slots vs hold; a new box in slot zs; the thing more in slot us. -/
def Sd (vs : List (Nat × Value)) (zs us : Nat) (w0 : World) (b : Bx) (S : Nat → Prop) (U : World → Value → Prop) (s : St) (w : World) : Prop :=
  Hold vs s ∧ ∃ z A l c, s zs = .pointer (some ⟨z, 0, none⟩) ∧ U w (s us) ∧ l = b.L.length ∧ Blk w z 26 #[.string b.name, i64 b.val, i64 b.next, .slice A l c] ∧ RB w (.agg #[.string b.name, i64 b.val, i64 b.next, .slice A l c]) b S ∧ w0.heap.size ≤ z ∧ Nw w0 w
theorem act_mark (y1 y2 B0 : Nat) (b : Bx) (a : Ac) (vU vB : Value) (w : World) (h : Two w y1 y2 B0 b) (hl : b.L.length ≤ 1000000) (hbl : ∀ m ∈ b.L, m.body.length ≤ 1000000000)
    (hU : RdI w vU a.uids) (hB : RdB w vB a.body (fun _ => False)) (hul : a.uids.length ≤ 9000) (hk1 : a.kind = 2) :
    Cal Try.prog 24 #[.pointer (some ⟨y1, 0, none⟩), .pointer (some ⟨y2, 0, none⟩), .agg #[i64 a.kind, i64 a.flags, i64 a.date, i64 a.mode, vU, vB]] w fun v w' => v = .bool true ∧ Two w' y1 y2 B0 { b with L := b.L.map (mk1 a.uids a.mode a.flags) } ∧ Kp (fun k => k = y1 ∨ k = y2) w w' := by
  obtain ⟨A1, c1, A2, c2, ln, hln, hb1, hR1, hb2, hR2, hy1, hy2, hy12, hB0⟩ := id h
  obtain ⟨AU, cu, rfl, hrU, hcU⟩ := hU
  obtain ⟨AB, cb, rfl, hrB, hoB, hcB⟩ := hB
  obtain ⟨kd, fl, dt, md, us, bd⟩ := a
  simp only at hk1 hrU hcU hrB hoB hcB hul ⊢
  subst hk1
  refine enter Try.mixed Try.func24 rfl (by kernel_rfl) ?_
  have k0 : Nw w (w.alloc (.cells #[i64 2, i64 fl, i64 dt, i64 md, .slice AU us.length cu, .slice AB bd.length cb] 31)) := (Kp.refl _ _).alloc _
  have hx0 : Blk (w.alloc (.cells #[i64 2, i64 fl, i64 dt, i64 md, .slice AU us.length cu, .slice AB bd.length cb] 31)) w.heap.size 31 #[i64 2, i64 fl, i64 dt, i64 md, .slice AU us.length cu, .slice AB bd.length cb] := Blk.new _ _ _
  obtain ⟨x, hx'⟩ : ∃ x, x = w.heap.size := ⟨_, rfl⟩
  simp -dsimp [go_sem]
  rw [← hx'] at hx0 ⊢
  generalize w.alloc (.cells #[i64 2, i64 fl, i64 dt, i64 md, .slice AU us.length cu, .slice AB bd.length cb] 31) = wa at *
  have a1 : wa.cell? ⟨x, 1, none⟩ = some (i64 fl) := hx0.cell 1
  have a2 : wa.cell? ⟨x, 2, none⟩ = some (i64 dt) := hx0.cell 2
  have a3 : wa.cell? ⟨x, 3, none⟩ = some (i64 md) := hx0.cell 3
  have a4 : wa.cell? ⟨x, 4, none⟩ = some (.slice AU us.length cu) := hx0.cell 4
  have hb1a := hb1.nw k0
  have hb2a := hb2.nw k0
  have c0 : wa.cell? ⟨y1, 0, none⟩ = some (.string b.name) := hb1a.cell 0
  have c1' : wa.cell? ⟨y1, 1, none⟩ = some (i64 b.val) := hb1a.cell 1
  have c2' : wa.cell? ⟨y1, 2, none⟩ = some (i64 b.next) := hb1a.cell 2
  have c3 : wa.cell? ⟨y1, 3, none⟩ = some (.slice A1 ln c1) := hb1a.cell 3
  have kD : Nw wa wa.drew := (Kp.refl _ _).drew
  have a1d := kD.cell_some a1 fun h => h
  have a2d := kD.cell_some a2 fun h => h
  have a3d := kD.cell_some a3 fun h => h
  have a4d := kD.cell_some a4 fun h => h
  have c0d := kD.cell_some c0 fun h => h
  have c1d := kD.cell_some c1' fun h => h
  have c2d := kD.cell_some c2' fun h => h
  have c3d := kD.cell_some c3 fun h => h
  obtain ⟨bN, hbN⟩ : ∃ bN : Bx, bN = { b with L := b.L.map (mk1 us md fl) } := ⟨_, rfl⟩
  have hsp := fun (W : World) (S : Nat → Prop) hA hS hx => pmark_rb (.agg #[.string b.name, i64 b.val, i64 b.next, .slice A1 ln c1]) b S us md fl AU cu W hA hS hl hbl hx (by omega)
  have hsr := fun (W : World) (S : Nat → Prop) hA hS hx => rmark_rb (.agg #[.string b.name, i64 b.val, i64 b.next, .slice A2 ln c2]) b S us md fl AU cu W hA hS hl hx (by omega)
  rw [← hbN] at hsp hsr ⊢
  refine draw_cut (.take 0 (.take 1 (.take 2 (.take 3 (.take 4 (.take 5 (.take 6 (.take 7 (.take 8 (.alt 9 (.take 10 (.take 11 (.take 12 (.alt 13 (.alt 14 (.take 15 .done) .stop) .stop)))) (.alt 13 (.alt 9 (.take 10 (.take 11 (.take 12 (.alt 14 (.take 15 .done) .stop)))) .stop) .stop))))))))))) (Sd [(0, .pointer (some ⟨y1, 0, none⟩)), (1, .pointer (some ⟨y2, 0, none⟩)), (5, .pointer (some ⟨x, 0, none⟩))] 13 14 wa bN (fun k => k < B0) (IsI (markN us md fl b.L))) (by kernel_rfl) (fun wz => Nw wa wz) kD ?_ ?_
  · simp -dsimp [go_sem, a1d, a3d, a4d, c0d, c1d, c2d, c3d]
    repeat refine ⟨fun wz hz => by simp [hz.cell_some a1 fun h => h, hz.cell_some a3 fun h => h, hz.cell_some a4 fun h => h, hz.cell_some c0 fun h => h, hz.cell_some c1' fun h => h, hz.cell_some c2' fun h => h, hz.cell_some c3 fun h => h], ?_⟩
    have kA : Nw wa (World.drew (World.alloc wa (.cells #[.string ⟨#[]⟩, .int .i64 0, .int .i64 0, .slice none 0 0] 26))) := ((Kp.refl _ _).alloc _).drew
    refine ⟨?_, kA, ?_⟩
    · refine call (hsp _ (fun k => k < B0) ((hR1.nw k0).nw kD).any (fun k hk => Nat.lt_of_lt_of_le hk (Nat.le_trans hB0 (k0.nw kD).size)) ((hrU.nw k0).nw kD)) ?_
      rintro v w5 ⟨⟨bv, u, rfl, hO5, hU5⟩, hk5⟩
      generalize bN = b5 at *
      obtain ⟨A5, c5, rfl⟩ := hO5.open_
      obtain ⟨l5, hl5⟩ : ∃ l5, l5 = b5.L.length := ⟨_, rfl⟩
      rw [← hl5] at hO5 ⊢
      have k5 := kD.nw hk5
      refine ⟨k5, ?_⟩
      simp -dsimp [go_sem]
      refine ⟨k5.alloc _, k5.alloc _, ?_⟩
      have k6 : Nw w5 (w5.alloc (.cells #[.string b5.name, i64 b5.val, i64 b5.next, .slice A5 l5 c5] 26)) := (Kp.refl _ _).alloc _
      exact ⟨⟨rfl, rfl, rfl, trivial⟩, w5.heap.size, A5, l5, c5, rfl, hU5, hl5, Blk.new _ _ _, hO5.nw k6, k5.size, k5.alloc _⟩
    · refine call (hsp _ (fun k => k < B0 ∨ k = wa.heap.size) ((hR1.nw k0).nw kA).any (fun k hk => hk.elim (fun h => Nat.lt_of_lt_of_le h (Nat.le_trans hB0 (k0.nw kA).size)) (fun e => (by simp [e]))) ((hrU.nw k0).nw kA)) ?_
      rintro v w5 ⟨⟨bv, u, rfl, hO5, hU5⟩, hk5⟩
      generalize bN = b5 at *
      obtain ⟨A5, c5, rfl⟩ := hO5.open_
      obtain ⟨l5, hl5⟩ : ∃ l5, l5 = b5.L.length := ⟨_, rfl⟩
      rw [← hl5] at hO5 ⊢
      have k5 := kA.nw hk5
      refine ⟨k5, ?_⟩
      have hz5 : Blk w5 (World.heap wa).size 26 #[.string ⟨#[]⟩, .int .i64 0, .int .i64 0, .slice none 0 0] := ((Blk.new _ _ _).nw ((Kp.refl _ _).drew)).nw hk5
      have z0 := hz5.cell 0
      have z1 := hz5.cell 1
      have z2 := hz5.cell 2
      have z3 := hz5.cell 3
      have g0 := hz5.frozen 0
      have g1 := hz5.frozen 1
      have g2 := hz5.frozen 2
      have g3 := hz5.frozen 3
      have ks := kp_set4 w5 (World.heap wa).size (.string b5.name) (i64 b5.val) (i64 b5.next) (.slice A5 l5 c5)
      have k6 := k5.at_ ks fun k (e : k = (World.heap wa).size) => by omega
      have hO6 := (hO5.kp (ks.mono fun k _ e => .inr e)).ofl (T := fun k => k < B0) fun i hi => .inl (.inl hi)
      simp -dsimp [go_sem, z0, z1, z2, z3, g0, g1, g2, g3]
      refine ⟨k6, ?_⟩
      exact ⟨⟨rfl, rfl, rfl, trivial⟩, (World.heap wa).size, A5, l5, c5, rfl, hU5, hl5, blk_set4 hz5 _ _ _ _, hO6, Nat.le_refl _, k6⟩
  · rintro f w3 ⟨⟨f0, f1, f5, _⟩, z1, A3, l3, c3', f7, f8, hl3, hz1, hO3, hzl, k3⟩
    simp only at f0 f1 f5
    have hxa := hx0.nw k3
    have hb2c := hb2a.nw k3
    have m1 : w3.cell? ⟨x, 1, none⟩ = some (i64 fl) := hxa.cell 1
    have m3 : w3.cell? ⟨x, 3, none⟩ = some (i64 md) := hxa.cell 3
    have m4 : w3.cell? ⟨x, 4, none⟩ = some (.slice AU us.length cu) := hxa.cell 4
    have n0' : w3.cell? ⟨y2, 0, none⟩ = some (.string b.name) := hb2c.cell 0
    have n1' : w3.cell? ⟨y2, 1, none⟩ = some (i64 b.val) := hb2c.cell 1
    have n2' : w3.cell? ⟨y2, 2, none⟩ = some (i64 b.next) := hb2c.cell 2
    have n3' : w3.cell? ⟨y2, 3, none⟩ = some (.slice A2 ln c2) := hb2c.cell 3
    have kE : Nw w3 w3.drew := (Kp.refl _ _).drew
    have m1d := kE.cell_some m1 fun h => h
    have m3d := kE.cell_some m3 fun h => h
    have m4d := kE.cell_some m4 fun h => h
    have n0d := kE.cell_some n0' fun h => h
    have n1d := kE.cell_some n1' fun h => h
    have n2d := kE.cell_some n2' fun h => h
    have n3d := kE.cell_some n3' fun h => h
    simp -dsimp [go_sem]
    refine draw_cut (.take 0 (.take 1 (.take 2 (.take 3 (.take 4 (.take 5 (.take 6 (.take 7 (.take 8 (.alt 9 (.take 10 (.take 11 (.take 12 (.alt 13 (.alt 14 (.take 15 .done) .stop) .stop)))) (.alt 13 (.alt 9 (.take 10 (.take 11 (.take 12 (.alt 14 (.take 15 .done) .stop)))) .stop) .stop))))))))))) (Sd [(0, f 0), (1, f 1), (13, f 13), (14, f 14)] 15 16 w3 bN (fun k => k < B0) (IsI (markN us md fl b.L))) (by kernel_rfl) (fun wz => Nw w3 wz) kE ?_ ?_
    · simp -dsimp [go_sem, f0, f1, f5, m1d, m3d, m4d, n0d, n1d, n2d, n3d]
      repeat refine ⟨fun wz hz => by simp [hz.cell_some m1 fun h => h, hz.cell_some m3 fun h => h, hz.cell_some m4 fun h => h, hz.cell_some n0' fun h => h, hz.cell_some n1' fun h => h, hz.cell_some n2' fun h => h, hz.cell_some n3' fun h => h], ?_⟩
      have kA : Nw w3 (World.drew (World.alloc w3 (.cells #[.string ⟨#[]⟩, .int .i64 0, .int .i64 0, .slice none 0 0] 26))) := ((Kp.refl _ _).alloc _).drew
      refine ⟨?_, kA, ?_⟩
      · refine call (hsr _ (fun k => k < B0) (((hR2.nw k0).nw k3).nw kE) (fun k hk => Nat.lt_of_lt_of_le hk (Nat.le_trans hB0 ((k0.nw k3).nw kE).size)) (((hrU.nw k0).nw k3).nw kE)) ?_
        rintro v w5 ⟨⟨bv, u, rfl, hO5, hU5⟩, hk5⟩
        generalize bN = b5 at *
        obtain ⟨A5, c5, rfl⟩ := hO5.open_
        obtain ⟨l5, hl5⟩ : ∃ l5, l5 = b5.L.length := ⟨_, rfl⟩
        rw [← hl5] at hO5 ⊢
        have k5 := kE.nw hk5
        refine ⟨k5, ?_⟩
        simp -dsimp [go_sem]
        refine ⟨k5.alloc _, k5.alloc _, ?_⟩
        have k6 : Nw w5 (w5.alloc (.cells #[.string b5.name, i64 b5.val, i64 b5.next, .slice A5 l5 c5] 26)) := (Kp.refl _ _).alloc _
        exact ⟨⟨rfl, rfl, rfl, rfl, trivial⟩, w5.heap.size, A5, l5, c5, rfl, hU5, hl5, Blk.new _ _ _, hO5.nw k6, k5.size, k5.alloc _⟩
      · refine call (hsr _ (fun k => k < B0 ∨ k = w3.heap.size) ((((hR2.nw k0).nw k3).ofl fun i hi => hi.elim .inl fun e => .inr (by omega)).nw kA) (fun k hk => hk.elim (fun h => Nat.lt_of_lt_of_le h (Nat.le_trans hB0 ((k0.nw k3).nw kA).size)) (fun e => (by simp [e]))) (((hrU.nw k0).nw k3).nw kA)) ?_
        rintro v w5 ⟨⟨bv, u, rfl, hO5, hU5⟩, hk5⟩
        generalize bN = b5 at *
        obtain ⟨A5, c5, rfl⟩ := hO5.open_
        obtain ⟨l5, hl5⟩ : ∃ l5, l5 = b5.L.length := ⟨_, rfl⟩
        rw [← hl5] at hO5 ⊢
        have k5 := kA.nw hk5
        refine ⟨k5, ?_⟩
        have hz5 : Blk w5 (World.heap w3).size 26 #[.string ⟨#[]⟩, .int .i64 0, .int .i64 0, .slice none 0 0] := ((Blk.new _ _ _).nw ((Kp.refl _ _).drew)).nw hk5
        have z0 := hz5.cell 0
        have z1 := hz5.cell 1
        have z2 := hz5.cell 2
        have z3 := hz5.cell 3
        have g0 := hz5.frozen 0
        have g1 := hz5.frozen 1
        have g2 := hz5.frozen 2
        have g3 := hz5.frozen 3
        have ks := kp_set4 w5 (World.heap w3).size (.string b5.name) (i64 b5.val) (i64 b5.next) (.slice A5 l5 c5)
        have k6 := k5.at_ ks fun k (e : k = (World.heap w3).size) => by omega
        have hO6 := (hO5.kp (ks.mono fun k _ e => .inr e)).ofl (T := fun k => k < B0) fun i hi => .inl (.inl hi)
        simp -dsimp [go_sem, z0, z1, z2, z3, g0, g1, g2, g3]
        refine ⟨k6, ?_⟩
        exact ⟨⟨rfl, rfl, rfl, rfl, trivial⟩, (World.heap w3).size, A5, l5, c5, rfl, hU5, hl5, blk_set4 hz5 _ _ _ _, hO6, Nat.le_refl _, k6⟩
    · rintro f' w4 ⟨⟨e0, e1, e7, e8, _⟩, z2, A4, l4, c4, f10, f11, hl4, hz2, hR4, hz4l, k4⟩
      simp only at e0 e1 e7 e8
      rw [f0] at e0
      rw [f1] at e1
      rw [f7] at e7
      have f8 : f 14 = _ := f8
      have f11 : f' 16 = _ := f11
      rw [f8] at e8
      clear hbN hsp hsr
      generalize bN = b5 at *
      have hz1' := hz1.nw k4
      have hb1c := (hb1a.nw k3).nw k4
      have hb2d := (hb2c).nw k4
      have n4 := (k0.nw k3).nw k4
      have hO4 := hO3.nw k4
      have hlw : w.heap.size ≤ wa.heap.size := k0.size
      have hlw3 : wa.heap.size ≤ w3.heap.size := k3.size
      have z1y1 : ¬ (z1 = y1 ∨ z1 = y2) := by omega
      have z2y : ¬ (z2 = y1 ∨ z2 = y2) := by omega
      obtain rfl : l4 = l3 := by omega
      have p0 : w4.cell? ⟨z1, 0, none⟩ = some (.string b5.name) := hz1'.cell 0
      have p1 : w4.cell? ⟨z1, 1, none⟩ = some (i64 b5.val) := hz1'.cell 1
      have p2 : w4.cell? ⟨z1, 2, none⟩ = some (i64 b5.next) := hz1'.cell 2
      have p3 : w4.cell? ⟨z1, 3, none⟩ = some (.slice A3 l4 c3') := hz1'.cell 3
      have q0 : w4.cell? ⟨z2, 0, none⟩ = some (.string b5.name) := hz2.cell 0
      have q1 : w4.cell? ⟨z2, 1, none⟩ = some (i64 b5.val) := hz2.cell 1
      have q2 : w4.cell? ⟨z2, 2, none⟩ = some (i64 b5.next) := hz2.cell 2
      have q3 : w4.cell? ⟨z2, 3, none⟩ = some (.slice A4 l4 c4) := hz2.cell 3
      have kF : Kp (fun k => k = y1 ∨ k = y2) w4 w4.drew := (Kp.refl _ _).drew
      have p0d := kF.cell_some p0 z1y1
      have p1d := kF.cell_some p1 z1y1
      have p2d := kF.cell_some p2 z1y1
      have p3d := kF.cell_some p3 z1y1
      have q0d := kF.cell_some q0 z2y
      have q1d := kF.cell_some q1 z2y
      have q2d := kF.cell_some q2 z2y
      have q3d := kF.cell_some q3 z2y
      have y10 := hb1c.cell 0
      have y11 := hb1c.cell 1
      have y12 := hb1c.cell 2
      have y13 := hb1c.cell 3
      have g10 := hb1c.frozen 0
      have g11 := hb1c.frozen 1
      have g12 := hb1c.frozen 2
      have g13 := hb1c.frozen 3
      simp -dsimp [go_sem]
      refine draw (.take 0 (.take 1 (.take 2 (.take 3 (.take 4 (.alt 5 (.take 6 (.alt 7 .done .stop)) .stop)))))) (by kernel_rfl) (fun wz => Kp (fun k => k = y1 ∨ k = y2) w4 wz) kF ?_
      simp -dsimp [go_sem, e0, e1, e7, f10, p0d, p1d, p2d, p3d, q0d, q1d, q2d, q3d, y10, y11, y12, y13, g10, g11, g12, g13]
      repeat refine ⟨fun wz hz => by simp [hz.cell_some p0 z1y1, hz.cell_some p1 z1y1, hz.cell_some p2 z1y1, hz.cell_some p3 z1y1, hz.cell_some q0 z2y, hz.cell_some q1 z2y, hz.cell_some q2 z2y, hz.cell_some q3 z2y], ?_⟩
      have s1 := kp_set4 w4 y1 (.string b5.name) (i64 b5.val) (i64 b5.next) (.slice A3 l4 c3')
      have B1 := blk_set4 hb1c (.string b5.name) (i64 b5.val) (i64 b5.next) (.slice A3 l4 c3')
      have hb2e := hb2d.kp s1 (by show ¬ y2 = y1; omega)
      have s1' := s1.mono (T := fun k => k = y1 ∨ k = y2) fun k _ (e : k = y1) => .inl e
      refine ⟨s1'.drew, ?_⟩
      have O1 := hO4.kp (s1.mono (T := fun k => k < B0) fun k _ (e : k = y1) => by show k < B0; omega)
      have R1 := hR4.kp (s1.mono (T := fun k => k < B0) fun k _ (e : k = y1) => by show k < B0; omega)
      generalize (((w4.setCell ⟨y1, 0, none⟩ (.string b5.name)).setCell ⟨y1, 1, none⟩ (i64 b5.val)).setCell ⟨y1, 2, none⟩ (i64 b5.next)).setCell ⟨y1, 3, none⟩ (.slice A3 l4 c3') = w6 at *
      have t0 := hb2d.cell 0
      have t1 := hb2d.cell 1
      have t2 := hb2d.cell 2
      have t3 := hb2d.cell 3
      have h0 := hb2d.frozen 0
      have h1 := hb2d.frozen 1
      have h2 := hb2d.frozen 2
      have h3 := hb2d.frozen 3
      have u0 := hb2e.cell 0
      have u1 := hb2e.cell 1
      have u2 := hb2e.cell 2
      have u3 := hb2e.cell 3
      have j0 := hb2e.frozen 0
      have j1 := hb2e.frozen 1
      have j2 := hb2e.frozen 2
      have j3 := hb2e.frozen 3
      have s2 := kp_set4 w6 y2 (.string b5.name) (i64 b5.val) (i64 b5.next) (.slice A4 l4 c4)
      have s2' := s1'.trans (s2.mono (T := fun k => k = y1 ∨ k = y2) fun k _ (e : k = y2) => .inr e) fun _ _ h => h
      simp -dsimp [go_sem, t0, t1, t2, t3, h0, h1, h2, h3, u0, u1, u2, u3, j0, j1, j2, j3]
      refine ⟨s2'.drew, ?_⟩
      have B2 := blk_set4 hb2e (.string b5.name) (i64 b5.val) (i64 b5.next) (.slice A4 l4 c4)
      have B1' := B1.kp s2 (by show ¬ y1 = y2; exact hy12)
      have O2 := O1.kp (s2.mono (T := fun k => k < B0) fun k _ (e : k = y2) => by show k < B0; omega)
      have R2 := R1.kp (s2.mono (T := fun k => k < B0) fun k _ (e : k = y2) => by show k < B0; omega)
      have hsz : B0 ≤ w6.heap.size := by have := n4.size; have := s1'.size; omega
      generalize (((w6.setCell ⟨y2, 0, none⟩ (.string b5.name)).setCell ⟨y2, 1, none⟩ (i64 b5.val)).setCell ⟨y2, 2, none⟩ (i64 b5.next)).setCell ⟨y2, 3, none⟩ (.slice A4 l4 c4) = w7 at *
      have kd7 : Nw w7 w7.drew := (Kp.refl _ _).drew
      have hTwo : Two w7.drew y1 y2 B0 b5 := ⟨A3, c3', A4, c4, l4, hl3, B1'.nw kd7, O2.nw kd7, B2.nw kd7, R2.nw kd7, hy1, hy2, hy12, by have := s2.size; have := kd7.size; omega⟩
      have hKp : Kp (fun k => k = y1 ∨ k = y2) w w7.drew := (Nw.kp n4 _).trans s2'.drew fun _ _ h => h
      simp -dsimp [go_sem, e8, f11]
      exact ⟨hTwo, hKp⟩
theorem act_exp (y1 y2 B0 : Nat) (b : Bx) (a : Ac) (vU vB : Value) (w : World) (h : Two w y1 y2 B0 b) (hl : b.L.length ≤ 1000000) (hbl : ∀ m ∈ b.L, m.body.length ≤ 1000000000)
    (hU : RdI w vU a.uids) (hB : RdB w vB a.body (fun _ => False)) (hul : a.uids.length ≤ 9000) (hk1 : a.kind = 3 ∧ isB b = true) :
    Cal Try.prog 24 #[.pointer (some ⟨y1, 0, none⟩), .pointer (some ⟨y2, 0, none⟩), .agg #[i64 a.kind, i64 a.flags, i64 a.date, i64 a.mode, vU, vB]] w fun v w' => v = .bool true ∧ Two w' y1 y2 B0 { b with L := stayB a.uids b.L } ∧ Kp (fun k => k = y1 ∨ k = y2) w w' := by
  obtain ⟨hk1, hib⟩ := hk1
  have hIB := IsB.of hib
  obtain ⟨A1, c1, A2, c2, ln, hln, hb1, hR1, hb2, hR2, hy1, hy2, hy12, hB0⟩ := id h
  obtain ⟨AU, cu, rfl, hrU, hcU⟩ := hU
  obtain ⟨AB, cb, rfl, hrB, hoB, hcB⟩ := hB
  obtain ⟨kd, fl, dt, md, us, bd⟩ := a
  simp only at hk1 hrU hcU hrB hoB hcB hul ⊢
  subst hk1
  refine enter Try.mixed Try.func24 rfl (by kernel_rfl) ?_
  have k0 : Nw w (w.alloc (.cells #[i64 3, i64 fl, i64 dt, i64 md, .slice AU us.length cu, .slice AB bd.length cb] 31)) := (Kp.refl _ _).alloc _
  have hx0 : Blk (w.alloc (.cells #[i64 3, i64 fl, i64 dt, i64 md, .slice AU us.length cu, .slice AB bd.length cb] 31)) w.heap.size 31 #[i64 3, i64 fl, i64 dt, i64 md, .slice AU us.length cu, .slice AB bd.length cb] := Blk.new _ _ _
  obtain ⟨x, hx'⟩ : ∃ x, x = w.heap.size := ⟨_, rfl⟩
  simp -dsimp [go_sem]
  rw [← hx'] at hx0 ⊢
  generalize w.alloc (.cells #[i64 3, i64 fl, i64 dt, i64 md, .slice AU us.length cu, .slice AB bd.length cb] 31) = wa at *
  have a1 : wa.cell? ⟨x, 1, none⟩ = some (i64 fl) := hx0.cell 1
  have a2 : wa.cell? ⟨x, 2, none⟩ = some (i64 dt) := hx0.cell 2
  have a3 : wa.cell? ⟨x, 3, none⟩ = some (i64 md) := hx0.cell 3
  have a4 : wa.cell? ⟨x, 4, none⟩ = some (.slice AU us.length cu) := hx0.cell 4
  have hb1a := hb1.nw k0
  have hb2a := hb2.nw k0
  have c0 : wa.cell? ⟨y1, 0, none⟩ = some (.string b.name) := hb1a.cell 0
  have c1' : wa.cell? ⟨y1, 1, none⟩ = some (i64 b.val) := hb1a.cell 1
  have c2' : wa.cell? ⟨y1, 2, none⟩ = some (i64 b.next) := hb1a.cell 2
  have c3 : wa.cell? ⟨y1, 3, none⟩ = some (.slice A1 ln c1) := hb1a.cell 3
  have kD : Nw wa wa.drew := (Kp.refl _ _).drew
  have a1d := kD.cell_some a1 fun h => h
  have a2d := kD.cell_some a2 fun h => h
  have a3d := kD.cell_some a3 fun h => h
  have a4d := kD.cell_some a4 fun h => h
  have c0d := kD.cell_some c0 fun h => h
  have c1d := kD.cell_some c1' fun h => h
  have c2d := kD.cell_some c2' fun h => h
  have c3d := kD.cell_some c3 fun h => h
  have hgs := gone_srt hIB us
  have hgl : (goneB us b.L).length ≤ 1000000000 := Nat.le_trans (gone_len us b.L) (by omega)
  obtain ⟨bN, hbN⟩ : ∃ bN : Bx, bN = { b with L := stayB us b.L } := ⟨_, rfl⟩
  have hsp := fun (W : World) (S : Nat → Prop) hA hS hx => pexp_rb (.agg #[.string b.name, i64 b.val, i64 b.next, .slice A1 ln c1]) b S us AU cu W hA hgs hS hl hbl hx (by omega)
  have hsr := fun (W : World) (S : Nat → Prop) hA hS hx => rexp_rb (.agg #[.string b.name, i64 b.val, i64 b.next, .slice A2 ln c2]) b S us AU cu W hA hS hl hx (by omega)
  rw [← hbN] at hsp hsr ⊢
  refine draw_cut (.take 0 (.take 1 (.take 2 (.take 3 (.take 4 (.alt 5 (.take 6 (.take 7 (.take 8 (.alt 9 (.alt 10 (.take 11 .done) .stop) .stop)))) (.alt 9 (.alt 5 (.take 6 (.take 7 (.take 8 (.alt 10 (.take 11 .done) .stop)))) .stop) .stop))))))) (Sd [(0, .pointer (some ⟨y1, 0, none⟩)), (1, .pointer (some ⟨y2, 0, none⟩)), (5, .pointer (some ⟨x, 0, none⟩))] 17 18 wa bN (fun k => k < B0) (IsG (goneB us b.L) (fun k => k < B0))) (by kernel_rfl) (fun wz => Nw wa wz) kD ?_ ?_
  · simp -dsimp [go_sem, a4d, c0d, c1d, c2d, c3d]
    repeat refine ⟨fun wz hz => by simp [hz.cell_some a4 fun h => h, hz.cell_some c0 fun h => h, hz.cell_some c1' fun h => h, hz.cell_some c2' fun h => h, hz.cell_some c3 fun h => h], ?_⟩
    have kA : Nw wa (World.drew (World.alloc wa (.cells #[.string ⟨#[]⟩, .int .i64 0, .int .i64 0, .slice none 0 0] 26))) := ((Kp.refl _ _).alloc _).drew
    refine ⟨?_, kA, ?_⟩
    · refine call (hsp _ (fun k => k < B0) ((hR1.nw k0).nw kD).any (fun k hk => Nat.lt_of_lt_of_le hk (Nat.le_trans hB0 (k0.nw kD).size)) ((hrU.nw k0).nw kD)) ?_
      rintro v w5 ⟨⟨bv, u, rfl, hO5, hU5⟩, hk5⟩
      generalize bN = b5 at *
      obtain ⟨A5, c5, rfl⟩ := hO5.open_
      obtain ⟨l5, hl5⟩ : ∃ l5, l5 = b5.L.length := ⟨_, rfl⟩
      rw [← hl5] at hO5 ⊢
      have k5 := kD.nw hk5
      refine ⟨k5, ?_⟩
      simp -dsimp [go_sem]
      refine ⟨k5.alloc _, k5.alloc _, ?_⟩
      have k6 : Nw w5 (w5.alloc (.cells #[.string b5.name, i64 b5.val, i64 b5.next, .slice A5 l5 c5] 26)) := (Kp.refl _ _).alloc _
      exact ⟨⟨rfl, rfl, rfl, trivial⟩, w5.heap.size, A5, l5, c5, rfl, (hU5.nw k6), hl5, Blk.new _ _ _, hO5.nw k6, k5.size, k5.alloc _⟩
    · refine call (hsp _ (fun k => k < B0 ∨ k = wa.heap.size) ((hR1.nw k0).nw kA).any (fun k hk => hk.elim (fun h => Nat.lt_of_lt_of_le h (Nat.le_trans hB0 (k0.nw kA).size)) (fun e => (by simp [e]))) ((hrU.nw k0).nw kA)) ?_
      rintro v w5 ⟨⟨bv, u, rfl, hO5, hU5⟩, hk5⟩
      generalize bN = b5 at *
      obtain ⟨A5, c5, rfl⟩ := hO5.open_
      obtain ⟨l5, hl5⟩ : ∃ l5, l5 = b5.L.length := ⟨_, rfl⟩
      rw [← hl5] at hO5 ⊢
      have k5 := kA.nw hk5
      refine ⟨k5, ?_⟩
      have hz5 : Blk w5 (World.heap wa).size 26 #[.string ⟨#[]⟩, .int .i64 0, .int .i64 0, .slice none 0 0] := ((Blk.new _ _ _).nw ((Kp.refl _ _).drew)).nw hk5
      have z0 := hz5.cell 0
      have z1 := hz5.cell 1
      have z2 := hz5.cell 2
      have z3 := hz5.cell 3
      have g0 := hz5.frozen 0
      have g1 := hz5.frozen 1
      have g2 := hz5.frozen 2
      have g3 := hz5.frozen 3
      have ks := kp_set4 w5 (World.heap wa).size (.string b5.name) (i64 b5.val) (i64 b5.next) (.slice A5 l5 c5)
      have k6 := k5.at_ ks fun k (e : k = (World.heap wa).size) => by omega
      have hO6 := (hO5.kp (ks.mono fun k _ e => .inr e)).ofl (T := fun k => k < B0) fun i hi => .inl (.inl hi)
      simp -dsimp [go_sem, z0, z1, z2, z3, g0, g1, g2, g3]
      refine ⟨k6, ?_⟩
      exact ⟨⟨rfl, rfl, rfl, trivial⟩, (World.heap wa).size, A5, l5, c5, rfl, (hU5.to (ks.mono fun k _ e => .inr e) fun i hi => .inl hi), hl5, blk_set4 hz5 _ _ _ _, hO6, Nat.le_refl _, k6⟩
  · rintro f w3 ⟨⟨f0, f1, f5, _⟩, z1, A3, l3, c3', f7, f8, hl3, hz1, hO3, hzl, k3⟩
    simp only at f0 f1 f5
    have hxa := hx0.nw k3
    have hb2c := hb2a.nw k3
    have m1 : w3.cell? ⟨x, 1, none⟩ = some (i64 fl) := hxa.cell 1
    have m3 : w3.cell? ⟨x, 3, none⟩ = some (i64 md) := hxa.cell 3
    have m4 : w3.cell? ⟨x, 4, none⟩ = some (.slice AU us.length cu) := hxa.cell 4
    have n0' : w3.cell? ⟨y2, 0, none⟩ = some (.string b.name) := hb2c.cell 0
    have n1' : w3.cell? ⟨y2, 1, none⟩ = some (i64 b.val) := hb2c.cell 1
    have n2' : w3.cell? ⟨y2, 2, none⟩ = some (i64 b.next) := hb2c.cell 2
    have n3' : w3.cell? ⟨y2, 3, none⟩ = some (.slice A2 ln c2) := hb2c.cell 3
    have kE : Nw w3 w3.drew := (Kp.refl _ _).drew
    have m1d := kE.cell_some m1 fun h => h
    have m3d := kE.cell_some m3 fun h => h
    have m4d := kE.cell_some m4 fun h => h
    have n0d := kE.cell_some n0' fun h => h
    have n1d := kE.cell_some n1' fun h => h
    have n2d := kE.cell_some n2' fun h => h
    have n3d := kE.cell_some n3' fun h => h
    simp -dsimp [go_sem]
    refine draw_cut (.take 0 (.take 1 (.take 2 (.take 3 (.take 4 (.alt 5 (.take 6 (.take 7 (.take 8 (.alt 9 (.alt 10 (.take 11 .done) .stop) .stop)))) (.alt 9 (.alt 5 (.take 6 (.take 7 (.take 8 (.alt 10 (.take 11 .done) .stop)))) .stop) .stop))))))) (Sd [(0, f 0), (1, f 1), (17, f 17), (18, f 18)] 19 20 w3 bN (fun k => k < B0) (IsG (goneB us b.L) (fun k => k < B0))) (by kernel_rfl) (fun wz => Nw w3 wz) kE ?_ ?_
    · simp -dsimp [go_sem, f0, f1, f5, m4d, n0d, n1d, n2d, n3d]
      repeat refine ⟨fun wz hz => by simp [hz.cell_some m4 fun h => h, hz.cell_some n0' fun h => h, hz.cell_some n1' fun h => h, hz.cell_some n2' fun h => h, hz.cell_some n3' fun h => h], ?_⟩
      have kA : Nw w3 (World.drew (World.alloc w3 (.cells #[.string ⟨#[]⟩, .int .i64 0, .int .i64 0, .slice none 0 0] 26))) := ((Kp.refl _ _).alloc _).drew
      refine ⟨?_, kA, ?_⟩
      · refine call (hsr _ (fun k => k < B0) (((hR2.nw k0).nw k3).nw kE) (fun k hk => Nat.lt_of_lt_of_le hk (Nat.le_trans hB0 ((k0.nw k3).nw kE).size)) (((hrU.nw k0).nw k3).nw kE)) ?_
        rintro v w5 ⟨⟨bv, u, rfl, hO5, hU5⟩, hk5⟩
        generalize bN = b5 at *
        obtain ⟨A5, c5, rfl⟩ := hO5.open_
        obtain ⟨l5, hl5⟩ : ∃ l5, l5 = b5.L.length := ⟨_, rfl⟩
        rw [← hl5] at hO5 ⊢
        have k5 := kE.nw hk5
        refine ⟨k5, ?_⟩
        simp -dsimp [go_sem]
        refine ⟨k5.alloc _, k5.alloc _, ?_⟩
        have k6 : Nw w5 (w5.alloc (.cells #[.string b5.name, i64 b5.val, i64 b5.next, .slice A5 l5 c5] 26)) := (Kp.refl _ _).alloc _
        exact ⟨⟨rfl, rfl, rfl, rfl, trivial⟩, w5.heap.size, A5, l5, c5, rfl, (hU5.nw k6), hl5, Blk.new _ _ _, hO5.nw k6, k5.size, k5.alloc _⟩
      · refine call (hsr _ (fun k => k < B0 ∨ k = w3.heap.size) ((((hR2.nw k0).nw k3).ofl fun i hi => hi.elim .inl fun e => .inr (by omega)).nw kA) (fun k hk => hk.elim (fun h => Nat.lt_of_lt_of_le h (Nat.le_trans hB0 ((k0.nw k3).nw kA).size)) (fun e => (by simp [e]))) (((hrU.nw k0).nw k3).nw kA)) ?_
        rintro v w5 ⟨⟨bv, u, rfl, hO5, hU5⟩, hk5⟩
        generalize bN = b5 at *
        obtain ⟨A5, c5, rfl⟩ := hO5.open_
        obtain ⟨l5, hl5⟩ : ∃ l5, l5 = b5.L.length := ⟨_, rfl⟩
        rw [← hl5] at hO5 ⊢
        have k5 := kA.nw hk5
        refine ⟨k5, ?_⟩
        have hz5 : Blk w5 (World.heap w3).size 26 #[.string ⟨#[]⟩, .int .i64 0, .int .i64 0, .slice none 0 0] := ((Blk.new _ _ _).nw ((Kp.refl _ _).drew)).nw hk5
        have z0 := hz5.cell 0
        have z1 := hz5.cell 1
        have z2 := hz5.cell 2
        have z3 := hz5.cell 3
        have g0 := hz5.frozen 0
        have g1 := hz5.frozen 1
        have g2 := hz5.frozen 2
        have g3 := hz5.frozen 3
        have ks := kp_set4 w5 (World.heap w3).size (.string b5.name) (i64 b5.val) (i64 b5.next) (.slice A5 l5 c5)
        have k6 := k5.at_ ks fun k (e : k = (World.heap w3).size) => by omega
        have hO6 := (hO5.kp (ks.mono fun k _ e => .inr e)).ofl (T := fun k => k < B0) fun i hi => .inl (.inl hi)
        simp -dsimp [go_sem, z0, z1, z2, z3, g0, g1, g2, g3]
        refine ⟨k6, ?_⟩
        exact ⟨⟨rfl, rfl, rfl, rfl, trivial⟩, (World.heap w3).size, A5, l5, c5, rfl, (hU5.to (ks.mono fun k _ e => .inr e) fun i hi => .inl hi), hl5, blk_set4 hz5 _ _ _ _, hO6, Nat.le_refl _, k6⟩
    · rintro f' w4 ⟨⟨e0, e1, e7, e8, _⟩, z2, A4, l4, c4, f10, f11, hl4, hz2, hR4, hz4l, k4⟩
      simp only at e0 e1 e7 e8
      rw [f0] at e0
      rw [f1] at e1
      rw [f7] at e7
      clear hbN hsp hsr
      generalize bN = b5 at *
      have hz1' := hz1.nw k4
      have hb1c := (hb1a.nw k3).nw k4
      have hb2d := (hb2c).nw k4
      have n4 := (k0.nw k3).nw k4
      have hO4 := hO3.nw k4
      have hlw : w.heap.size ≤ wa.heap.size := k0.size
      have hlw3 : wa.heap.size ≤ w3.heap.size := k3.size
      have z1y1 : ¬ (z1 = y1 ∨ z1 = y2) := by omega
      have z2y : ¬ (z2 = y1 ∨ z2 = y2) := by omega
      obtain rfl : l4 = l3 := by omega
      have p0 : w4.cell? ⟨z1, 0, none⟩ = some (.string b5.name) := hz1'.cell 0
      have p1 : w4.cell? ⟨z1, 1, none⟩ = some (i64 b5.val) := hz1'.cell 1
      have p2 : w4.cell? ⟨z1, 2, none⟩ = some (i64 b5.next) := hz1'.cell 2
      have p3 : w4.cell? ⟨z1, 3, none⟩ = some (.slice A3 l4 c3') := hz1'.cell 3
      have q0 : w4.cell? ⟨z2, 0, none⟩ = some (.string b5.name) := hz2.cell 0
      have q1 : w4.cell? ⟨z2, 1, none⟩ = some (i64 b5.val) := hz2.cell 1
      have q2 : w4.cell? ⟨z2, 2, none⟩ = some (i64 b5.next) := hz2.cell 2
      have q3 : w4.cell? ⟨z2, 3, none⟩ = some (.slice A4 l4 c4) := hz2.cell 3
      have kF : Kp (fun k => k = y1 ∨ k = y2) w4 w4.drew := (Kp.refl _ _).drew
      have p0d := kF.cell_some p0 z1y1
      have p1d := kF.cell_some p1 z1y1
      have p2d := kF.cell_some p2 z1y1
      have p3d := kF.cell_some p3 z1y1
      have q0d := kF.cell_some q0 z2y
      have q1d := kF.cell_some q1 z2y
      have q2d := kF.cell_some q2 z2y
      have q3d := kF.cell_some q3 z2y
      have y10 := hb1c.cell 0
      have y11 := hb1c.cell 1
      have y12 := hb1c.cell 2
      have y13 := hb1c.cell 3
      have g10 := hb1c.frozen 0
      have g11 := hb1c.frozen 1
      have g12 := hb1c.frozen 2
      have g13 := hb1c.frozen 3
      simp -dsimp [go_sem]
      refine draw (.take 0 (.take 1 (.take 2 (.take 3 (.take 4 (.alt 5 (.take 6 (.alt 7 .done .stop)) .stop)))))) (by kernel_rfl) (fun wz => Kp (fun k => k = y1 ∨ k = y2) w4 wz) kF ?_
      simp -dsimp [go_sem, e0, e1, e7, f10, p0d, p1d, p2d, p3d, q0d, q1d, q2d, q3d, y10, y11, y12, y13, g10, g11, g12, g13]
      repeat refine ⟨fun wz hz => by simp [hz.cell_some p0 z1y1, hz.cell_some p1 z1y1, hz.cell_some p2 z1y1, hz.cell_some p3 z1y1, hz.cell_some q0 z2y, hz.cell_some q1 z2y, hz.cell_some q2 z2y, hz.cell_some q3 z2y], ?_⟩
      have s1 := kp_set4 w4 y1 (.string b5.name) (i64 b5.val) (i64 b5.next) (.slice A3 l4 c3')
      have B1 := blk_set4 hb1c (.string b5.name) (i64 b5.val) (i64 b5.next) (.slice A3 l4 c3')
      have hb2e := hb2d.kp s1 (by show ¬ y2 = y1; omega)
      have s1' := s1.mono (T := fun k => k = y1 ∨ k = y2) fun k _ (e : k = y1) => .inl e
      refine ⟨s1'.drew, ?_⟩
      have O1 := hO4.kp (s1.mono (T := fun k => k < B0) fun k _ (e : k = y1) => by show k < B0; omega)
      have R1 := hR4.kp (s1.mono (T := fun k => k < B0) fun k _ (e : k = y1) => by show k < B0; omega)
      generalize (((w4.setCell ⟨y1, 0, none⟩ (.string b5.name)).setCell ⟨y1, 1, none⟩ (i64 b5.val)).setCell ⟨y1, 2, none⟩ (i64 b5.next)).setCell ⟨y1, 3, none⟩ (.slice A3 l4 c3') = w6 at *
      have t0 := hb2d.cell 0
      have t1 := hb2d.cell 1
      have t2 := hb2d.cell 2
      have t3 := hb2d.cell 3
      have h0 := hb2d.frozen 0
      have h1 := hb2d.frozen 1
      have h2 := hb2d.frozen 2
      have h3 := hb2d.frozen 3
      have u0 := hb2e.cell 0
      have u1 := hb2e.cell 1
      have u2 := hb2e.cell 2
      have u3 := hb2e.cell 3
      have j0 := hb2e.frozen 0
      have j1 := hb2e.frozen 1
      have j2 := hb2e.frozen 2
      have j3 := hb2e.frozen 3
      have s2 := kp_set4 w6 y2 (.string b5.name) (i64 b5.val) (i64 b5.next) (.slice A4 l4 c4)
      have s2' := s1'.trans (s2.mono (T := fun k => k = y1 ∨ k = y2) fun k _ (e : k = y2) => .inr e) fun _ _ h => h
      simp -dsimp [go_sem, t0, t1, t2, t3, h0, h1, h2, h3, u0, u1, u2, u3, j0, j1, j2, j3]
      refine ⟨s2'.drew, ?_⟩
      have B2 := blk_set4 hb2e (.string b5.name) (i64 b5.val) (i64 b5.next) (.slice A4 l4 c4)
      have B1' := B1.kp s2 (by show ¬ y1 = y2; exact hy12)
      have O2 := O1.kp (s2.mono (T := fun k => k < B0) fun k _ (e : k = y2) => by show k < B0; omega)
      have R2 := R1.kp (s2.mono (T := fun k => k < B0) fun k _ (e : k = y2) => by show k < B0; omega)
      have hsz : B0 ≤ w6.heap.size := by have := n4.size; have := s1'.size; omega
      generalize (((w6.setCell ⟨y2, 0, none⟩ (.string b5.name)).setCell ⟨y2, 1, none⟩ (i64 b5.val)).setCell ⟨y2, 2, none⟩ (i64 b5.next)).setCell ⟨y2, 3, none⟩ (.slice A4 l4 c4) = w7 at *
      have kd7 : Nw w7 w7.drew := (Kp.refl _ _).drew
      have hTwo : Two w7.drew y1 y2 B0 b5 := ⟨A3, c3', A4, c4, l4, hl3, B1'.nw kd7, O2.nw kd7, B2.nw kd7, R2.nw kd7, hy1, hy2, hy12, by have := s2.size; have := kd7.size; omega⟩
      have hKp : Kp (fun k => k = y1 ∨ k = y2) w w7.drew := (Nw.kp n4 _).trans s2'.drew fun _ _ h => h
      have hS7 : Kp (fun k => k < B0) w4 w7.drew := s2'.drew.mono fun k _ h => by
        have h : k = y1 ∨ k = y2 := h
        show k < B0
        omega
      obtain ⟨AG, ng, cg, eG, hng, hrG, _⟩ := (f8.nw k4).to hS7 fun i hi => hi
      obtain ⟨AH, nh, ch, eH, hnh, hrH, _⟩ := f11.to hS7 fun i hi => hi
      rw [eG] at e8
      subst hng
      subst hnh
      simp -dsimp [go_sem, e8, eH]
      refine call (ints_spec _ _ AG AH cg ch _ hrG hrH hgl hgl) ?_
      rintro v w8 ⟨rfl, hk8⟩
      simp -dsimp [go_sem]
      exact ⟨hTwo.nw hk8, hKp.nw hk8⟩
theorem act_find (y1 y2 B0 : Nat) (b : Bx) (a : Ac) (vU vB : Value) (w : World) (h : Two w y1 y2 B0 b) (hl : b.L.length ≤ 1000000)
    (hU : RdI w vU a.uids) (hB : RdB w vB a.body (fun _ => False)) (hul : a.uids.length ≤ 9000) (hk1 : a.kind ≠ 1 ∧ a.kind ≠ 2 ∧ a.kind ≠ 3) :
    Cal Try.prog 24 #[.pointer (some ⟨y1, 0, none⟩), .pointer (some ⟨y2, 0, none⟩), .agg #[i64 a.kind, i64 a.flags, i64 a.date, i64 a.mode, vU, vB]] w fun v w' => v = .bool true ∧ Two w' y1 y2 B0 b ∧ Kp (fun k => k = y1 ∨ k = y2) w w' := by
  obtain ⟨A1, c1, A2, c2, ln, hln, hb1, hR1, hb2, hR2, hy1, hy2, hy12, hB0⟩ := id h
  obtain ⟨AU, cu, rfl, hrU, hcU⟩ := hU
  obtain ⟨AB, cb, rfl, hrB, hoB, hcB⟩ := hB
  obtain ⟨kd, fl, dt, md, us, bd⟩ := a
  simp only at hk1 hrU hcU hrB hoB hcB hul ⊢
  have ⟨g1, g2, g3⟩ := hk1
  refine enter Try.mixed Try.func24 rfl (by kernel_rfl) ?_
  have k0 : Nw w (w.alloc (.cells #[i64 kd, i64 fl, i64 dt, i64 md, .slice AU us.length cu, .slice AB bd.length cb] 31)) := (Kp.refl _ _).alloc _
  have hx0 : Blk (w.alloc (.cells #[i64 kd, i64 fl, i64 dt, i64 md, .slice AU us.length cu, .slice AB bd.length cb] 31)) w.heap.size 31 #[i64 kd, i64 fl, i64 dt, i64 md, .slice AU us.length cu, .slice AB bd.length cb] := Blk.new _ _ _
  obtain ⟨x, hx'⟩ : ∃ x, x = w.heap.size := ⟨_, rfl⟩
  simp -dsimp [go_sem, (show (kd == 1) = false by simpa using g1), (show (kd == 2) = false by simpa using g2), (show (kd == 3) = false by simpa using g3)]
  rw [← hx'] at hx0 ⊢
  generalize w.alloc (.cells #[i64 kd, i64 fl, i64 dt, i64 md, .slice AU us.length cu, .slice AB bd.length cb] 31) = wa at *
  have a1 : wa.cell? ⟨x, 1, none⟩ = some (i64 fl) := hx0.cell 1
  have a2 : wa.cell? ⟨x, 2, none⟩ = some (i64 dt) := hx0.cell 2
  have a3 : wa.cell? ⟨x, 3, none⟩ = some (i64 md) := hx0.cell 3
  have a4 : wa.cell? ⟨x, 4, none⟩ = some (.slice AU us.length cu) := hx0.cell 4
  have hb1a := hb1.nw k0
  have hb2a := hb2.nw k0
  have c0 : wa.cell? ⟨y1, 0, none⟩ = some (.string b.name) := hb1a.cell 0
  have c1' : wa.cell? ⟨y1, 1, none⟩ = some (i64 b.val) := hb1a.cell 1
  have c2' : wa.cell? ⟨y1, 2, none⟩ = some (i64 b.next) := hb1a.cell 2
  have c3 : wa.cell? ⟨y1, 3, none⟩ = some (.slice A1 ln c1) := hb1a.cell 3
  have kD : Nw wa wa.drew := (Kp.refl _ _).drew
  have a1d := kD.cell_some a1 fun h => h
  have a2d := kD.cell_some a2 fun h => h
  have a3d := kD.cell_some a3 fun h => h
  have a4d := kD.cell_some a4 fun h => h
  have c0d := kD.cell_some c0 fun h => h
  have c1d := kD.cell_some c1' fun h => h
  have c2d := kD.cell_some c2' fun h => h
  have c3d := kD.cell_some c3 fun h => h
  have n0' : wa.cell? ⟨y2, 0, none⟩ = some (.string b.name) := hb2a.cell 0
  have n1' : wa.cell? ⟨y2, 1, none⟩ = some (i64 b.val) := hb2a.cell 1
  have n2' : wa.cell? ⟨y2, 2, none⟩ = some (i64 b.next) := hb2a.cell 2
  have n3' : wa.cell? ⟨y2, 3, none⟩ = some (.slice A2 ln c2) := hb2a.cell 3
  have n0d := kD.cell_some n0' fun h => h
  have n1d := kD.cell_some n1' fun h => h
  have n2d := kD.cell_some n2' fun h => h
  have n3d := kD.cell_some n3' fun h => h
  refine draw (.take 0 (.take 1 (.take 2 (.take 3 (.take 4 (.take 6 (.take 7 (.take 8 (.take 9 (.take 10 (.alt 5 (.alt 11 (.take 12 (.take 13 .done)) .stop) .stop))))))))))) (by kernel_rfl) (fun wz => Nw wa wz) kD ?_
  simp -dsimp [go_sem, a2d, c0d, c1d, c2d, c3d, n0d, n1d, n2d, n3d]
  repeat refine ⟨fun wz hz => by simp [hz.cell_some a2 fun h => h, hz.cell_some c0 fun h => h, hz.cell_some c1' fun h => h, hz.cell_some c2' fun h => h, hz.cell_some c3 fun h => h, hz.cell_some n0' fun h => h, hz.cell_some n1' fun h => h, hz.cell_some n2' fun h => h, hz.cell_some n3' fun h => h], ?_⟩
  refine call (find_spec _ b _ dt _ ((hR1.nw k0).nw kD) hl) ?_
  rintro v w1 ⟨rfl, hk1'⟩
  have n1 := kD.nw hk1'
  refine ⟨n1, ?_⟩
  simp -dsimp [go_sem]
  refine call (rfind_spec _ b _ dt _ ((hR2.nw k0).nw n1) hl) ?_
  rintro v w2 ⟨rfl, hk2⟩
  have n2 := n1.nw hk2
  refine ⟨n2, ?_⟩
  simp -dsimp [go_sem]
  exact ⟨h.nw (k0.nw n2), Nw.kp (k0.nw n2) _⟩
end Go.Proofs.Ytindfpaahlijeaa
