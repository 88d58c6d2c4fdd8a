/-
  A law's steps on a store whose state is known; boxes taken out of it that stay. By the session itself. StoreMoves walked. By the session itself. StoreCopies: its boxes, and the walk. By the session itself.
-/
import Derived.Test.YtipdndmfngpbfaaGreatDoorQ35
import Derived.Test.YtipdndmfngpbfaaGreatDoorQ06
namespace Go.Proofs.YtipdndmfngpbfaaGreatDoor
set_option linter.unusedSimpArgs false
set_option linter.unusedVariables false
set_option maxRecDepth 100000
set_option maxHeartbeats 2000000
open Go.Vc Go.RowKit

/-- A box in a law's variable, all of it in blocks that stay. -/
def BxE (w : World) (z : Nat) (b : Bx) (E : Nat → Prop) (B : Nat) : Prop := ∃ A n c, n = b.L.length ∧ Blk w z 52 #[.string b.name, i64 b.val, i64 b.next, .slice A n c] ∧ RB w (.agg #[.string b.name, i64 b.val, i64 b.next, .slice A n c]) b (fun k => ¬ E k ∨ k = z ∨ k < B) ∧ E z
section
variable {w0 w w' : World} {s g l t : Nat} {S : Sto} {U E E' : Nat → Prop} {z B : Nat} {b : Bx}
theorem BxE.kp {Z : Nat → Prop} (h : BxE w z b E B) (k : Kp Z w w') (hZ : ∀ i, Z i → ¬ E i) : BxE w' z b E B := by
  obtain ⟨A, n, c, h1, h2, h3, h4⟩ := h
  exact ⟨A, n, c, h1, h2.kp k fun e => hZ z e h4, h3.kp (k.mono fun i _ hi => .inl (hZ i hi)), h4⟩
theorem BxE.nw (h : BxE w z b E B) (k : Nw w w') : BxE w' z b E B := h.kp k fun _ h => h.elim
theorem BxE.fu (h : BxE w z b E B) (k : Kp (Fu w0 U E) w w') : BxE w' z b E B := h.kp k fun i hi => hi.2.2
theorem BxE.more (h : BxE w z b E B) (hE : ∀ k, E k → E' k) : BxE w z b E' B := by
  obtain ⟨A, n, c, h1, h2, h3, h4⟩ := h
  exact ⟨A, n, c, h1, h2, h3.ofl fun i hi => .inl (hi.imp (fun hi e => hi (hE i e)) id), hE z h4⟩
theorem BxE.lt (h : BxE w z b E B) : z < w.heap.size := by
  obtain ⟨A, n, c, h1, h2, h3, h4⟩ := h
  exact h2.lt
/-- A box out of a store, in a new variable. -/
theorem Sm.getE (h : Sm w0 w s g l t S (fun _ => False) E) (ok : S.T.Ok) (n m : Nm) (hb : getB S.T n m = some b) : Cal Tryz.prog 22 #[.pointer (some ⟨s, 0, none⟩), str n, str m] w fun v w' => ∃ A c E', v = .tuple #[.agg #[.string b.name, i64 b.val, i64 b.next, .slice A b.L.length c], .bool true] ∧ (∀ k, E k → E' k) ∧
    Sm w0 (w'.alloc (.cells #[.string b.name, i64 b.val, i64 b.next, .slice A b.L.length c] 52)) s g l t S (fun _ => False) E' ∧ BxE (w'.alloc (.cells #[.string b.name, i64 b.val, i64 b.next, .slice A b.L.length c] 52)) w'.heap.size b E' w.heap.size ∧ w.heap.size ≤ w'.heap.size ∧ Nw w (w'.alloc (.cells #[.string b.name, i64 b.val, i64 b.next, .slice A b.L.length c] 52)) := by
  refine (h.get ok n m).mono ?_
  rintro v w' ⟨k, bb, bv, rfl, hO, ho⟩
  rw [hb] at ho ⊢
  rcases ho with ho | ho
  · cases ho
  cases ho
  obtain ⟨A, c, rfl⟩ := hO.open_
  have ka : Nw w' (w'.alloc (.cells #[.string b.name, i64 b.val, i64 b.next, .slice A b.L.length c] 52)) := (Kp.refl _ _).alloc _
  have hz := Blk.new w' 52 #[.string b.name, i64 b.val, i64 b.next, .slice A b.L.length c]
  have hzl := hz.lt
  have k2 := k.nw ka
  have ks := k.size
  refine ⟨A, c, fun i => E i ∨ w.heap.size ≤ i ∧ i < (w'.alloc (.cells #[.string b.name, i64 b.val, i64 b.next, .slice A b.L.length c] 52)).heap.size, rfl, fun i hi => .inl hi, h.more k2 (fun i hi => hi.elim) (fun i hi => hi) (fun i hi => hi.elim), ⟨A, _, c, rfl, hz, (hO.rb.ofl fun i hi => ?_).nw ka, .inr ⟨by omega, hzl⟩⟩, ks, k2⟩
  rcases hi with hi | hi | hi
  · by_cases hi2 : w.heap.size ≤ i
    · exact .inr (Nat.le_of_not_lt fun h3 => hi (.inr ⟨hi2, by omega⟩))
    · exact .inl (by omega)
  · exact .inr (by omega)
  · exact .inl hi
theorem Sm.getN (h : Sm w0 w s g l t S U E) (ok : S.T.Ok) (n m : Nm) (hb : getB S.T n m = none) : Cal Tryz.prog 22 #[.pointer (some ⟨s, 0, none⟩), str n, str m] w fun v w' => ∃ (b : Bx) (A : Option Addr) (c : Nat), v = .tuple #[.agg #[.string b.name, i64 b.val, i64 b.next, .slice A b.L.length c], .bool false] ∧ Nw w w' := by
  refine (h.get ok n m).mono ?_
  rintro v w' ⟨k, bb, bv, rfl, hO, ho⟩
  rw [hb]
  obtain ⟨A, c, rfl⟩ := hO.open_
  exact ⟨bb, A, c, rfl, k⟩
theorem Sm.goS (h : Sm w0 w s g l t S U E) {u m k : Nat} (sf : Sf S u m k) {v : Value} {c : Chg} (hc : RC w v c (fun _ => False)) (hok : chgOk c = true) (hu : u + 600000 ≤ 268435456) (hm : m + 2 < 4096) (hk : k < 1000000) {n : Int} {T' : Stt} (hp : plan S.T c = (0, n, T')) :
    Cal Tryz.prog 21 #[.pointer (some ⟨s, 0, none⟩), v] w fun v' w' => v' = .tuple #[i64 n, i64 0] ∧ ∃ S', S'.T = T' ∧ Sf S' (u + 600000) (m + 2) (k + 1) ∧ Sm w0 w' s g l t S' U E ∧ Kp (Fu w0 U E) w w' := by
  have ho := chgOk_ok hok
  refine (h.do sf.tok hc ho.sz (by have := ho.uids.2; omega)).mono ?_
  rcases sf.step c hu hm hk with ⟨h, _⟩ | ⟨_, h, _⟩ | ⟨_, _, S', h1, h2, h3⟩
  · rw [hok] at h; cases h
  · rw [hp] at h; exact absurd rfl h
  rw [hp] at h1 h2
  rw [h1]
  rintro v' w' ⟨rfl, a, b⟩
  exact ⟨rfl, S', h2, h3, a, b⟩
theorem Sm.noS (h : Sm w0 w s g l t S U E) {u m k : Nat} (sf : Sf S u m k) {v : Value} {c : Chg} (hc : RC w v c (fun _ => False)) (hok : chgOk c = true) (hu : u + 600000 ≤ 268435456) (hm : m + 2 < 4096) (hk : k < 1000000) {e : Int} (he : e ≠ 0) (hp : (plan S.T c).1 = e) :
    Cal Tryz.prog 21 #[.pointer (some ⟨s, 0, none⟩), v] w fun v' w' => v' = .tuple #[i64 0, i64 e] ∧ Sm w0 w' s g l t S U E ∧ Kp (Fu w0 U E) w w' := by
  have ho := chgOk_ok hok
  refine (h.do sf.tok hc ho.sz (by have := ho.uids.2; omega)).mono ?_
  rcases sf.step c hu hm hk with ⟨h, _⟩ | ⟨_, _, h⟩ | ⟨_, h, _⟩
  · rw [hok] at h; cases h
  · rw [hp] at h
    rw [h]
    exact fun v' w' h => h
  · rw [hp] at h; exact absurd h he
end
theorem RB.ren {w : World} {S : Nat → Prop} {b : Bx} {A : Option Addr} {n c : Nat} (h : RB w (.agg #[.string b.name, i64 b.val, i64 b.next, .slice A n c]) b S) (nm : ByteArray) : RB w (.agg #[.string nm, i64 b.val, i64 b.next, .slice A n c]) { b with name := nm } S := by
  obtain ⟨A', c', q, e, h⟩ := h
  cases e
  exact ⟨_, _, q, rfl, h⟩
/-- A change with a body, as the statements lay it. -/
theorem rc_body {w : World} {A : Option Addr} {body : List UInt8} {ca : Nat} (hr : Rd w A (body.map u8)) (hc : body.length ≤ ca) (k : Int) (us ps bx to : Nm) (m f d : Int) : RC w (.agg #[i64 k, str us, str ps, str bx, str to, .slice none 0 0, i64 m, i64 f, i64 d, .slice A body.length ca]) ⟨k, us, ps, bx, to, [], m, f, d, body⟩ (fun _ => False) :=
  ⟨none, 0, A, ca, rfl, Nat.le_refl _, hc, Rd.nil _ _, fun _ _ h => absurd rfl h, hr, fun _ _ _ h => h⟩
end Go.Proofs.YtipdndmfngpbfaaGreatDoor

namespace Go.Proofs.YtipdndmfngpbfaaGreatDoor
set_option linter.unusedSimpArgs false
set_option linter.unusedVariables false
set_option maxRecDepth 100000
set_option maxHeartbeats 2000000
open Go.Vc Go.RowKit

/-- The box x behind so many messages. -/
def bM (body : List UInt8) (j : Nat) : Bx := ⟨⟨#[120]⟩, 2, (j : Int) + 1, (List.range j).map fun (i : Nat) => ⟨(i : Int) + 1, 0, 0, body⟩⟩
theorem bM_len (body : List UInt8) (j : Nat) : (bM body j).L.length = j := by simp [bM]
theorem bM_add {body : List UInt8} {j : Nat} (hb : body.length ≤ 500) (hj : j < 24) : addB (bM body j) 0 0 body = (bM body (j + 1), (j : Int) + 1, 0) := by
  unfold addB
  rw [if_neg (by decide), if_neg (by omega), if_neg (by rw [bM_len]; omega), if_neg (by show ¬ 1048576 ≤ (j : Int) + 1; omega)]
  simp [bM, List.range_succ]
/-- The user a with boxes. -/
abbrev stA (n : Int) (l : List (Nm × Bx)) : Stt := ⟨n, [([97], ⟨[112], l⟩)]⟩
abbrev kN (k : Int) (box to : Nm) : Chg := ⟨k, [97], [], box, to, [], 0, 0, 0, []⟩
abbrev kA (box : Nm) (body : List UInt8) : Chg := ⟨5, [97], [], box, [], [], 0, 0, 0, body⟩
theorem kA_ok {body : List UInt8} (hb : body.length ≤ 500) : chgOk (kA [120] body) = true := by
  have e1 : nmOk [97] = true := by decide +kernel
  have e2 : nmOk [120] = true := by decide +kernel
  have h : body.length ≤ 1200 := by omega
  simp [chgOk, namedOk, okF, toK, manyK, uidsOk, riseU, e1, e2, h]
theorem pl_user : plan Stt.zero knownU = (0, 0, stA 2 [(inboxN, newB inboxN 1)]) := by rfl
theorem pl_x : plan (stA 2 [(inboxN, newB inboxN 1)]) (kN 2 [120] []) = (0, 0, stA 3 [(inboxN, newB inboxN 1), ([120], newB [120] 2)]) := by rfl
theorem pl_app {body : List UInt8} {j : Nat} (hb : body.length ≤ 500) (hj : j < 24) : plan (stA 3 [(inboxN, newB inboxN 1), ([120], bM body j)]) (kA [120] body) = (0, (j : Int) + 1, stA 3 [(inboxN, newB inboxN 1), ([120], bM body (j + 1))]) := by
  have e : plan (stA 3 [(inboxN, newB inboxN 1), ([120], bM body j)]) (kA [120] body) = plKeep (stA 3 [(inboxN, newB inboxN 1), ([120], bM body j)]) [97] ⟨[112], [(inboxN, newB inboxN 1), ([120], bM body j)]⟩ [120] (addB (bM body j) 0 0 body).1 (addB (bM body j) 0 0 body).2.1 (addB (bM body j) 0 0 body).2.2 := rfl
  rw [e, bM_add hb hj]
  rfl
theorem pl_ren (b : Bx) : plan (stA 3 [(inboxN, newB inboxN 1), ([120], b)]) (kN 4 [120] [121]) = (0, 0, stA 3 [(inboxN, newB inboxN 1), ([121], { b with name := ⟨#[121]⟩ })]) := by rfl
theorem pl_x2 (b : Bx) : plan (stA 3 [(inboxN, newB inboxN 1), ([121], b)]) (kN 2 [120] []) = (0, 0, stA 4 [(inboxN, newB inboxN 1), ([120], newB [120] 3), ([121], b)]) := by rfl
theorem pl_del (b : Bx) : plan (stA 4 [(inboxN, newB inboxN 1), ([120], newB [120] 3), ([121], b)]) (kN 3 [121] []) = (0, 0, stA 4 [(inboxN, newB inboxN 1), ([120], newB [120] 3)]) := by rfl
theorem pl_din : (plan (stA 4 [(inboxN, newB inboxN 1), ([120], newB [120] 3)]) (kN 3 inboxN [])).1 = 11 := by rfl
theorem pl_rin : (plan (stA 4 [(inboxN, newB inboxN 1), ([120], newB [120] 3)]) (kN 4 inboxN [122])).1 = 11 := by rfl
theorem getA1 (b : Bx) : getB (stA 3 [(inboxN, newB inboxN 1), ([120], b)]) [97] [120] = some b := by rfl
theorem getA2 (b : Bx) : getB (stA 4 [(inboxN, newB inboxN 1), ([120], newB [120] 3), ([121], b)]) [97] [121] = some b := by rfl
theorem getA3 (b : Bx) : getB (stA 4 [(inboxN, newB inboxN 1), ([120], newB [120] 3), ([121], b)]) [97] [120] = some (newB [120] 3) := by rfl
theorem getA4 : getB (stA 4 [(inboxN, newB inboxN 1), ([120], newB [120] 3)]) [97] [121] = none := by rfl
theorem moves_law (body : List UInt8) (A : Option Addr) (ca : Nat) (n : Int) (w : World) (hr : Rd w A (body.map u8)) (hc : body.length ≤ ca) (hbl : body.length ≤ 140737488355328) :
    Cal Tryz.prog 5 #[.slice A body.length ca, i64 n] w fun v w' => v = .bool true ∧ Nw w w' := by
  refine enter Tryz.mixed Tryz.func5 rfl (by kernel_rfl) ?_
  by_cases h1 : 500 < body.length
  · have h1' : (500 : Int) < (body.length : Int) := by omega
    simp -dsimp [go_sem, h1, h1']
    exact Kp.refl _ _
  have h1' : ¬ (500 : Int) < (body.length : Int) := by omega
  by_cases h2 : n < 0
  · simp -dsimp [go_sem, h1, h1', h2]
    exact Kp.refl _ _
  by_cases h3 : 10 < n
  · simp -dsimp [go_sem, h1, h1', h2, h3]
    exact Kp.refl _ _
  obtain ⟨N, rfl⟩ : ∃ N : Nat, n = N := ⟨n.toNat, by omega⟩
  have hb5 : body.length ≤ 500 := by omega
  simp -dsimp [go_sem, h1, h1', h2, h3]
  refine call (begin_spec w) ?_
  rintro v w1 ⟨p, g, x, s, t, l, qq, l2, F2, G2, V2, rfl, hp, hS, _⟩
  have n1 := hS.on
  have hS := hS.more (U' := fun _ => False) (E' := fun k => k = p) (Kp.refl _ _) (fun i hi => hi.elim) (fun i hi => .inl hi) (fun i hi => hi.elim)
  obtain ⟨E, hE⟩ : ∃ E, E = fun k => k = p := ⟨_, rfl⟩
  have hEp : E p := by rw [hE]
  rw [← hE] at hS
  clear hE
  have p2 := hp.cell 2
  simp -dsimp [go_sem, p2]
  simp [go_sem]
  refine call (hS.goS Sf.fresh (rc_plain w1 1 [97] [112] [] [] 0 0 0) (by decide +kernel) (by omega) (by omega) (by omega) pl_user) ?_
  rintro v w2 ⟨rfl, S1, t1, f1, hS, k2⟩
  have hp := hp.kp k2 fun e => e.2.2 hEp
  have p2 := hp.cell 2
  simp -dsimp [go_sem, p2]
  simp [go_sem]
  refine call (hS.goS f1 (rc_plain w2 2 [97] [] [120] [] 0 0 0) (by decide +kernel) (by omega) (by omega) (by omega) (by rw [t1]; exact pl_x)) ?_
  rintro v w3 ⟨rfl, S2, t2, f2, hS, k3⟩
  have hp := hp.kp k3 fun e => e.2.2 hEp
  have p2 := hp.cell 2
  simp -dsimp [go_sem]
  refine loop [6, 51, 52, 53, 54, 55, 56, 57, 58, 59, 60, 61, 62] (by kernel_rfl)
    (fun f w' => Box1 (fun a w' => ∃ (j : Nat) (S : Sto), a = i64 j ∧ j ≤ N ∧ Sf S (600000 * j + 1200000) (2 * j + 4) (j + 2) ∧ S.T = stA 3 [(inboxN, newB inboxN 1), ([120], bM body j)] ∧ Blk w' p 48 #[.pointer (some ⟨g, 0, none⟩), .pointer (some ⟨x, 0, none⟩), .pointer (some ⟨s, 0, none⟩), .pointer (some ⟨qq, 0, none⟩)] ∧ Sm w w' s g l t S (fun _ => False) E) (f 6) w') (fun f _ => N - (intOf (f 6)).toNat)
    ⟨0, S2, rfl, Nat.zero_le _, f2, t2, hp, hS⟩ ?_
  clear hS hp f2 t2 f1 t1 p2 k3 k2
  rintro f wa ⟨j, S, f6, hj, hSf, hT, hp, hS⟩
  have p2 := hp.cell 2
  by_cases hlt : j < N
  · have hlt' : (j : Int) < (N : Int) := by omega
    have hj1 : IntKind.i64.wrap ((j : Int) + 1) = ((j + 1 : Nat) : Int) := by rw [w64 (by omega) (by omega)]; omega
    obtain ⟨j1, hj1'⟩ : ∃ j1, j1 = j + 1 := ⟨_, rfl⟩
    rw [← hj1'] at hj1
    simp -dsimp [go_sem, f6, hlt', p2]
    simp [go_sem]
    refine call (hS.goS hSf (rc_body (hr.nw hS.on) hc 5 [97] [] [120] [] 0 0 0) (kA_ok hb5) (by omega) (by omega) (by omega) (by rw [hT]; exact pl_app hb5 (by omega))) ?_
    rintro v w2 ⟨rfl, S1, t1, f1, hS, k2⟩
    have hp := hp.kp k2 fun e => e.2.2 hEp
    have p2 := hp.cell 2
    simp -dsimp [go_sem, f6, hj1]
    rw [← hj1'] at t1
    exact ⟨⟨j1, S1, rfl, by omega, f1.mono (by omega) (by omega) (by omega), t1, hp, hS⟩, by simp [intOf]; omega⟩
  · obtain rfl : j = N := by omega
    have hlt' : ¬ (j : Int) < (j : Int) := by omega
    have hbx : ∀ n, (⟨n, (bM body j).val, (bM body j).next, (bM body j).L⟩ : Bx) = { bM body j with name := n } := fun _ => rfl
    have hbL := bM_len body j
    have hn0 := hS.on.size
    simp -dsimp [go_sem, f6, hlt', p2]
    refine call (hS.getE hSf.tok [97] [120] (by rw [hT]; exact getA1 _)) ?_
    rintro v w2 ⟨A1, c1, E1, rfl, hE1, hS, hB1, q2, k2⟩
    have hp := hp.nw k2
    have p2 := hp.cell 2
    have hEp := hE1 p hEp
    simp -dsimp [go_sem]
    generalize w2.heap.size = z1 at *
    generalize w2.alloc _ = wb at *
    simp -dsimp [go_sem, p2]
    simp [go_sem]
    refine call (hS.goS hSf (rc_plain wb 4 [97] [] [120] [121] 0 0 0) (by decide +kernel) (by omega) (by omega) (by omega) (by rw [hT]; exact pl_ren _)) ?_
    rintro v w3 ⟨rfl, S1, t1, f1, hS, k3⟩
    have hp := hp.kp k3 fun e => e.2.2 hEp
    have p2 := hp.cell 2
    have hB1 := hB1.fu k3
    simp -dsimp [go_sem, p2]
    simp [go_sem]
    refine call (hS.goS f1 (rc_plain w3 2 [97] [] [120] [] 0 0 0) (by decide +kernel) (by omega) (by omega) (by omega) (by rw [t1]; exact pl_x2 _)) ?_
    rintro v w4 ⟨rfl, S2, t2, f2, hS, k4⟩
    have hp := hp.kp k4 fun e => e.2.2 hEp
    have p2 := hp.cell 2
    have hB1 := hB1.fu k4
    simp -dsimp [go_sem, p2]
    refine call (hS.getE f2.tok [97] [121] (by rw [t2]; exact getA2 _)) ?_
    rintro v w5 ⟨A2, c2, E2, rfl, hE2, hS, hB2, q5, k5⟩
    have l12 := hB1.lt
    have hp := hp.nw k5
    have p2 := hp.cell 2
    have hEp := hE2 p hEp
    have hB1 := (hB1.nw k5).more hE2
    simp -dsimp [go_sem]
    obtain ⟨z2, hz2⟩ : ∃ z2, z2 = w5.heap.size := ⟨_, rfl⟩
    rw [← hz2] at hB2 q5 ⊢
    generalize w5.alloc _ = wc at *
    simp -dsimp [go_sem, p2]
    refine call (hS.getE f2.tok [97] [120] (by rw [t2]; exact getA3 _)) ?_
    rintro v w6 ⟨A3, c3, E3, rfl, hE3, hS, hB3, q6, k6⟩
    have l13 := hB1.lt
    have l23 := hB2.lt
    have hp := hp.nw k6
    have p2 := hp.cell 2
    have hEp := hE3 p hEp
    have hB1 := (hB1.nw k6).more hE3
    have hB2 := (hB2.nw k6).more hE3
    simp -dsimp [go_sem]
    obtain ⟨z3, hz3⟩ : ∃ z3, z3 = w6.heap.size := ⟨_, rfl⟩
    rw [← hz3] at hB3 q6 ⊢
    generalize w6.alloc _ = wd at *
    simp -dsimp [go_sem, p2]
    simp [go_sem]
    refine call (hS.goS f2 (rc_plain wd 3 [97] [] [121] [] 0 0 0) (by decide +kernel) (by omega) (by omega) (by omega) (by rw [t2]; exact pl_del _)) ?_
    rintro v w7 ⟨rfl, S3, t3, f3, hS, k7⟩
    have hp := hp.kp k7 fun e => e.2.2 hEp
    have p2 := hp.cell 2
    have hB1 := hB1.fu k7
    have hB2 := hB2.fu k7
    have hB3 := hB3.fu k7
    simp -dsimp [go_sem, p2]
    refine call (hS.getN f3.tok [97] [121] (by rw [t3]; exact getA4)) ?_
    rintro v w8 ⟨b4, A4, c4, rfl, k8⟩
    have hS := hS.nw k8
    have hp := hp.nw k8
    have p2 := hp.cell 2
    have hB1 := hB1.nw k8
    have hB2 := hB2.nw k8
    have hB3 := hB3.nw k8
    have ka : Nw w8 (w8.alloc (.cells #[.string b4.name, i64 b4.val, i64 b4.next, .slice A4 b4.L.length c4] 52)) := (Kp.refl _ _).alloc _
    have hS := hS.nw ka
    have hp := hp.nw ka
    have p2 := hp.cell 2
    have hB1 := hB1.nw ka
    have hB2 := hB2.nw ka
    have hB3 := hB3.nw ka
    simp -dsimp [go_sem]
    generalize w8.alloc _ = we at *
    simp -dsimp [go_sem, p2]
    simp [go_sem]
    refine call (hS.noS f3 (rc_plain we 3 [97] [] inboxN [] 0 0 0) (by decide +kernel) (by omega) (by omega) (by omega) (e := 11) (by omega) (by rw [t3]; exact pl_din)) ?_
    rintro v w9 ⟨rfl, hS, k9⟩
    have hp := hp.kp k9 fun e => e.2.2 hEp
    have p2 := hp.cell 2
    have hB1 := hB1.fu k9
    have hB2 := hB2.fu k9
    have hB3 := hB3.fu k9
    simp -dsimp [go_sem, p2]
    simp [go_sem]
    refine call (hS.noS f3 (rc_plain w9 4 [97] [] inboxN [122] 0 0 0) (by decide +kernel) (by omega) (by omega) (by omega) (e := 11) (by omega) (by rw [t3]; exact pl_rin)) ?_
    rintro v w10 ⟨rfl, hS, k10⟩
    have hp := hp.kp k10 fun e => e.2.2 hEp
    have p2 := hp.cell 2
    have hB1 := hB1.fu k10
    have hB2 := hB2.fu k10
    have hB3 := hB3.fu k10
    obtain ⟨X1, m1, d1, hm1, hZ1, hR1, _⟩ := hB1
    obtain ⟨X2, m2, d2, hm2, hZ2, hR2, _⟩ := hB2
    obtain ⟨X3, m3, d3, hm3, hZ3, hR3, _⟩ := hB3
    obtain rfl : m1 = j := hm1.trans (bM_len body j)
    obtain rfl : m2 = m1 := hm2.trans (bM_len body m1)
    obtain rfl : m3 = 0 := hm3
    have u0 := hZ1.frozen 0
    have u1 := hZ1.cell 0
    have kz : Kp (At z1) w10 (w10.setCell ⟨z1, 0, none⟩ (.string ⟨#[121]⟩)) := (Kp.refl _ _).setCell_at _ _
    have hZ1 : Blk (w10.setCell ⟨z1, 0, none⟩ (.string ⟨#[121]⟩)) z1 52 #[.string ⟨#[121]⟩, i64 (bM body m2).val, i64 (bM body m2).next, .slice X1 m2 d1] := by
      have := hZ1.set 0 (.string ⟨#[121]⟩)
      simpa using this
    have hZ2 := hZ2.kp kz fun (e : z2 = z1) => by omega
    have hZ3 := hZ3.kp kz fun (e : z3 = z1) => by omega
    have hR1 := (hR1.ren ⟨#[121]⟩).ofl (T := At z1) (fun i (e : i = z1) => .inl (.inr (.inl e)))
    have hR1 := hR1.kp kz
    have hR2 := hR2.ofl (T := At z1) (fun i (e : i = z1) => .inl (.inr (.inr (by omega))))
    have hR2 := hR2.kp kz
    simp -dsimp [go_sem, u0, u1]
    generalize w10.setCell ⟨z1, 0, none⟩ (.string ⟨#[121]⟩) = wf at *
    have a0 := hZ1.cell 0
    have a1 := hZ1.cell 1
    have a2 := hZ1.cell 2
    have a3 := hZ1.cell 3
    have b0 := hZ2.cell 0
    have b1 := hZ2.cell 1
    have b2 := hZ2.cell 2
    have b3 := hZ2.cell 3
    have d1 := hZ3.cell 1
    have d3 := hZ3.cell 3
    have hw0 : IntKind.i64.wrap 0 = 0 := by decide
    simp -dsimp [go_sem, hw0, a0, a1, a2, a3, b0, b1, b2, b3, d1, d3]
    have hq : sameB { bM body m2 with name := ⟨#[121]⟩ } { bM body m2 with name := ⟨#[121]⟩ } = true := (sameB_iff _ _).2 rfl
    refine call (rsame_spec _ _ _ _ _ _ wf hR2 hR1 (by show (bM body m2).L.length ≤ _; omega) (by show (bM body m2).L.length ≤ _; omega)) ?_
    rintro v wg ⟨rfl, kg⟩
    rw [hq]
    have b1 := (hZ2.nw kg).cell 1
    have b3 := (hZ2.nw kg).cell 3
    have d1 := (hZ3.nw kg).cell 1
    have d3 := (hZ3.nw kg).cell 3
    have hv : ((newB [120] 3).val != (bM body m2).val) = true := rfl
    simp -dsimp [go_sem, b1, b3, d1, d3, hv]
    refine call (stknown_spec wg) ?_
    rintro v wh ⟨rfl, kh⟩
    simp -dsimp [go_sem]
    exact ((hS.on.at_ kz fun k (e : k = z1) => by omega).nw kg).nw kh
end Go.Proofs.YtipdndmfngpbfaaGreatDoor

namespace Go.Proofs.YtipdndmfngpbfaaGreatDoor
set_option linter.unusedSimpArgs false
set_option linter.unusedVariables false
set_option maxRecDepth 100000
set_option maxHeartbeats 2000000
open Go.Vc Go.RowKit

def mI (fl : Int) (u : Nat) : Msg := ⟨u, fl, u, [UInt8.ofNat u]⟩
def bI (fl : Int) (j : Nat) : Bx := ⟨⟨inboxN.toArray⟩, 1, (j : Int) + 1, (List.range' 1 j).map (mI fl)⟩
def cM (h : Nat) (fl : Int) (u : Nat) : Msg := ⟨((h + u : Nat) : Int), fl, u, [UInt8.ofNat u]⟩
def bC (h : Nat) (fl : Int) (i : Nat) : Bx := ⟨⟨#[120]⟩, 2, ((h + i : Nat) : Int) + 1, (bM [] h).L ++ (List.range' 1 i).map (cM h fl)⟩
theorem bC_zero (h : Nat) (fl : Int) : bC h fl 0 = bM [] h := by simp [bC, bM]
theorem bC_len (h : Nat) (fl : Int) (i : Nat) : (bC h fl i).L.length = h + i := by simp [bC, bM_len]
theorem bI_add {fl : Int} (hf : 0 ≤ fl ∧ fl ≤ 31) {j : Nat} (hj : j < 24) : addB (bI fl j) fl ((j + 1 : Nat) : Int) [UInt8.ofNat (j + 1)] = (bI fl (j + 1), ((j + 1 : Nat) : Int), 0) := by
  unfold addB
  have h1 : (okF fl 0 31 && okF ((j + 1 : Nat) : Int) 0 1073741824) = true := by simp only [okF, Bool.and_eq_true, decide_eq_true_eq]; omega
  rw [h1, if_neg (by simp), if_neg (by simp), if_neg (by simp [bI]; omega), if_neg (by show ¬ 1048576 ≤ (j : Int) + 1; omega)]
  simp [bI, mI, List.range'_1_concat, Nat.add_comm 1 j]
theorem bC_add {fl : Int} (hf : 0 ≤ fl ∧ fl ≤ 31) {h i : Nat} (hi : i < 24) (hh : h ≤ 24) : addB (bC h fl i) fl ((i + 1 : Nat) : Int) [UInt8.ofNat (i + 1)] = if 24 ≤ h + i then (bC h fl i, 0, 6) else (bC h fl (i + 1), ((h + i : Nat) : Int) + 1, 0) := by
  unfold addB
  have h1 : (okF fl 0 31 && okF ((i + 1 : Nat) : Int) 0 1073741824) = true := by simp only [okF, Bool.and_eq_true, decide_eq_true_eq]; omega
  rw [h1, if_neg (by simp), if_neg (by simp), bC_len]
  by_cases h24 : 24 ≤ h + i
  · rw [if_pos h24, if_pos h24]
  · rw [if_neg h24, if_neg h24, if_neg (by show ¬ 1048576 ≤ ((h + i : Nat) : Int) + 1; omega)]
    simp [bC, cM, List.range'_1_concat, Nat.add_comm 1 i, Nat.add_assoc, Int.add_assoc]
theorem copy_all {fl : Int} (hf : 0 ≤ fl ∧ fl ≤ 31) {h : Nat} (hh : h ≤ 24) {us : List Int} : ∀ (m i : Nat), i + m ≤ 24 → (∀ u : Nat, i < u → u ≤ i + m → (u : Int) ∈ us) →
    (h + (i + m) ≤ 24 → copyL us ((List.range' (i + 1) m).map (mI fl)) (bC h fl i) i = (0, i + m, bC h fl (i + m))) ∧ (24 < h + (i + m) → h + i ≤ 24 → (copyL us ((List.range' (i + 1) m).map (mI fl)) (bC h fl i) i).1 = 6)
  | 0, i, _, _ => ⟨fun _ => rfl, fun h1 h2 => by omega⟩
  | m + 1, i, hm, hu => by
    have hin : ((i + 1 : Nat) : Int) ∈ us := hu (i + 1) (by omega) (by omega)
    have e : (List.range' (i + 1) (m + 1)).map (mI fl) = mI fl (i + 1) :: (List.range' (i + 1 + 1) m).map (mI fl) := by rw [List.range'_succ]; rfl
    rw [e]
    simp only [copyL]
    rw [if_pos (show (mI fl (i + 1)).uid ∈ us from hin), show addB (bC h fl i) (mI fl (i + 1)).flags (mI fl (i + 1)).date (mI fl (i + 1)).body = _ from bC_add hf (by omega) hh]
    by_cases h24 : 24 ≤ h + i
    · rw [if_pos h24]
      exact ⟨fun h1 => by omega, fun _ _ => rfl⟩
    · rw [if_neg h24]
      have ih := copy_all hf hh (us := us) m (i + 1) (by omega) fun u h1 h2 => hu u (by omega) (by omega)
      rw [show i + 1 + m = i + (m + 1) by omega] at ih
      exact ⟨fun h1 => ih.1 h1, fun h1 h2 => ih.2 h1 (by omega)⟩
def usI (n : Nat) : List Int := (List.range' 1 n).map fun u : Nat => (u : Int)
theorem usI_len (n : Nat) : (usI n).length = n := by simp [usI]
theorem usI_mem (n : Nat) : ∀ u : Nat, 0 < u → u ≤ 0 + n → (u : Int) ∈ usI n := fun u h1 h2 => List.mem_map.2 ⟨u, by simp; omega, rfl⟩
abbrev kI (fl : Int) (u : Nat) : Chg := ⟨5, [97], [], inboxN, [], [], 0, fl, u, [UInt8.ofNat u]⟩
abbrev kC (n : Nat) : Chg := ⟨8, [97], [], inboxN, [120], usI n, 0, 0, 0, []⟩
theorem kI_ok {fl : Int} (hf : 0 ≤ fl ∧ fl ≤ 31) {u : Nat} (hu : u ≤ 24) : chgOk (kI fl u) = true := by
  have e1 : nmOk [97] = true := by decide +kernel
  have e2 : nmOk inboxN = true := by decide +kernel
  have h : (u : Int) ≤ 1073741824 := by omega
  simp [chgOk, namedOk, okF, toK, manyK, uidsOk, riseU, e1, e2, h, hf]
theorem usI_ok (n : Nat) (hn : n ≤ 24) : uidsOk (usI n) = true := by
  have key : ∀ i, i ≤ n → riseU (usI n) i = true := by
    intro i
    induction i with
    | zero => intro _; rfl
    | succ i ih =>
      intro hi
      have hg : ∀ k < n, (usI n).getD k 0 = ((k + 1 : Nat) : Int) := fun k hk => by simp [usI, List.getD, hk]; omega
      simp only [riseU, ih (by omega), stepU, hg i (by omega), Bool.true_and, Bool.and_eq_true, okF, decide_eq_true_eq, Bool.or_eq_true]
      refine ⟨by omega, ?_⟩
      by_cases h0 : i = 0
      · exact .inl h0
      · rw [hg (i - 1) (by omega)]
        exact .inr (by omega)
  unfold uidsOk
  rw [usI_len, key n (Nat.le_refl _)]
  simp [hn]
theorem kC_ok {n : Nat} (hn : n ≤ 24) : chgOk (kC n) = true := by
  have e1 : nmOk [97] = true := by decide +kernel
  have e2 : nmOk inboxN = true := by decide +kernel
  have e3 : nmOk [120] = true := by decide +kernel
  simp [chgOk, namedOk, okF, toK, manyK, usI_ok n hn, e1, e2, e3]
theorem pl_in {fl : Int} (hf : 0 ≤ fl ∧ fl ≤ 31) {j : Nat} (hj : j < 24) : plan (stA 3 [(inboxN, bI fl j), ([120], newB [120] 2)]) (kI fl (j + 1)) = (0, ((j + 1 : Nat) : Int), stA 3 [(inboxN, bI fl (j + 1)), ([120], newB [120] 2)]) := by
  have e : plan (stA 3 [(inboxN, bI fl j), ([120], newB [120] 2)]) (kI fl (j + 1)) = plKeep (stA 3 [(inboxN, bI fl j), ([120], newB [120] 2)]) [97] ⟨[112], [(inboxN, bI fl j), ([120], newB [120] 2)]⟩ inboxN (addB (bI fl j) fl ((j + 1 : Nat) : Int) [UInt8.ofNat (j + 1)]).1 (addB (bI fl j) fl ((j + 1 : Nat) : Int) [UInt8.ofNat (j + 1)]).2.1 (addB (bI fl j) fl ((j + 1 : Nat) : Int) [UInt8.ofNat (j + 1)]).2.2 := rfl
  rw [e, bI_add hf hj]
  rfl
theorem pl_ap (b : Bx) {k : Nat} (hk : k < 24) : plan (stA 3 [(inboxN, b), ([120], bM [] k)]) (kA [120] []) = (0, (k : Int) + 1, stA 3 [(inboxN, b), ([120], bM [] (k + 1))]) := by
  have e : plan (stA 3 [(inboxN, b), ([120], bM [] k)]) (kA [120] []) = plKeep (stA 3 [(inboxN, b), ([120], bM [] k)]) [97] ⟨[112], [(inboxN, b), ([120], bM [] k)]⟩ [120] (addB (bM [] k) 0 0 []).1 (addB (bM [] k) 0 0 []).2.1 (addB (bM [] k) 0 0 []).2.2 := rfl
  rw [e, bM_add (by simp) hk]
  rfl
theorem pl_copy {fl : Int} (hf : 0 ≤ fl ∧ fl ≤ 31) {n h : Nat} (hn : n ≤ 24) (hh : h ≤ 24) :
    (h + n ≤ 24 → plan (stA 3 [(inboxN, bI fl n), ([120], bM [] h)]) (kC n) = (0, (n : Int), stA 3 [(inboxN, bI fl n), ([120], bC h fl n)])) ∧ (24 < h + n → (plan (stA 3 [(inboxN, bI fl n), ([120], bM [] h)]) (kC n)).1 = 6) := by
  have e : plan (stA 3 [(inboxN, bI fl n), ([120], bM [] h)]) (kC n) = plKeep (stA 3 [(inboxN, bI fl n), ([120], bM [] h)]) [97] ⟨[112], [(inboxN, bI fl n), ([120], bM [] h)]⟩ [120] (copyL (usI n) (bI fl n).L (bM [] h) 0).2.2 (copyL (usI n) (bI fl n).L (bM [] h) 0).2.1 (copyL (usI n) (bI fl n).L (bM [] h) 0).1 := rfl
  have hc := copy_all hf hh (us := usI n) n 0 (by omega) (usI_mem n)
  simp only [Nat.zero_add] at hc
  rw [bC_zero] at hc
  rw [e]
  refine ⟨fun h1 => ?_, fun h1 => ?_⟩
  · rw [show (bI fl n).L = (List.range' 1 n).map (mI fl) from rfl, hc.1 h1]
    rfl
  · rw [show (bI fl n).L = (List.range' 1 n).map (mI fl) from rfl]
    have h6 := hc.2 h1 hh
    unfold plKeep
    rw [h6]
    rfl
theorem getX (b c : Bx) : getB (stA 3 [(inboxN, b), ([120], c)]) [97] [120] = some c := by rfl
theorem Sm.turn {w0 w w1 : World} {s g l t : Nat} {S : Sto} {U U' E : Nat → Prop} (h : Sm w0 w s g l t S U E) (k : Kp U w w1) (hU : Gr U U' w w1) : Sm w0 w1 s g l t S U' E := by
  obtain ⟨F, G, FS, V, h1, h2, h3, h4, h5⟩ := h
  have hVl := h1.lt
  have hsl := h1.sl
  refine ⟨F, G, FS, fun i => V i ∨ U' i, h1.step k h4 (fun i hi => hi.elim .inl fun e => (hU i e).imp (fun e => (h4 i e).1) id) fun i hi => .inl hi, fun i hi => hi.elim (h2 i) fun e => (hU i e).elim (fun e => h2 i (h4 i e).1) fun e => by have := h3.size; omega, h3.at_ k fun k hk => h2 k (h4 k hk).1, fun i hi => ⟨.inr hi, ?_⟩, fun i hi => ⟨fun e => ?_, Nat.lt_of_lt_of_le (h5 i hi).2 k.size⟩⟩
  · rcases hU i hi with e | e
    · exact (h4 i e).2
    · exact ⟨fun e' => by have := hVl i (h1.fv i e'); omega, fun e' => by have := hVl i (h1.gv i e'); omega, fun e' => by have := hVl i (h1.fsv i e'); omega, by omega⟩
  · rcases e with e | e
    · exact (h5 i hi).1 e
    · rcases hU i e with e' | e'
      · exact (h5 i hi).1 (h4 i e').1
      · have := (h5 i hi).2; omega
theorem Sm.apart {w0 w : World} {s g l t : Nat} {S : Sto} {U E : Nat → Prop} (h : Sm w0 w s g l t S U E) {p : Nat} (hE : E p) : ¬ U p := by
  obtain ⟨F, G, FS, V, h1, h2, h3, h4, h5⟩ := h
  exact fun hu => (h5 p hE).1 (h4 p hu).1
theorem rc_uids {w : World} {A : Option Addr} {us : List Int} {ca : Nat} (hr : Rd w A (us.map fun n => i64 n)) (hc : us.length ≤ ca) (k : Int) (u ps bx to : Nm) (m f d : Int) : RC w (.agg #[i64 k, str u, str ps, str bx, str to, .slice A us.length ca, i64 m, i64 f, i64 d, .slice none 0 0]) ⟨k, u, ps, bx, to, us, m, f, d, []⟩ (fun _ => False) :=
  ⟨A, ca, none, 0, rfl, hc, Nat.le_refl _, hr, fun _ _ _ h => h, Rd.nil _ _, fun _ _ h => absurd rfl h⟩
end Go.Proofs.YtipdndmfngpbfaaGreatDoor

