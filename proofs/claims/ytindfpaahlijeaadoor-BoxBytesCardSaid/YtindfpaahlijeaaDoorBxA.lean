/-
  A mailbox in memory: messages as structs of four cells; a box that reads, a box that is new. By the session itself.
-/
import Derived.Test.YtindfpaahlijeaaDoorClone
namespace Go.Proofs.YtindfpaahlijeaaDoor
set_option linter.unusedSimpArgs false
set_option linter.unusedVariables false
set_option maxRecDepth 100000
set_option maxHeartbeats 1000000
open Go.Vc Go.RowKit

structure Msg where
  uid : Int
  flags : Int
  date : Int
  body : List UInt8
structure Bx where
  name : ByteArray
  val : Int
  next : Int
  L : List Msg

/-- Messages, each with the value of its body. -/
abbrev MQ := List (Msg × Value)
def mq (q : MQ) : List Value := q.flatMap fun p => [i64 p.1.uid, i64 p.1.flags, i64 p.1.date, p.2]
theorem mq_nil : mq [] = [] := rfl
theorem mq_cons (p : Msg × Value) (q : MQ) : mq (p :: q) = i64 p.1.uid :: i64 p.1.flags :: i64 p.1.date :: p.2 :: mq q := rfl
theorem mq_len (q : MQ) : (mq q).length = q.length * 4 := by
  induction q with
  | nil => rfl
  | cons p q ih => simp only [mq_cons, List.length_cons, ih]; omega
theorem mq_app (q r : MQ) : mq (q ++ r) = mq q ++ mq r := by simp [mq]
theorem mq_at : ∀ (q : MQ) (i : Nat) (h : i < q.length), (mq q)[i * 4]? = some (i64 q[i].1.uid) ∧ (mq q)[i * 4 + 1]? = some (i64 q[i].1.flags) ∧ (mq q)[i * 4 + 2]? = some (i64 q[i].1.date) ∧ (mq q)[i * 4 + 3]? = some q[i].2
  | p :: q, 0, _ => ⟨rfl, rfl, rfl, rfl⟩
  | p :: q, i + 1, h => by
    have ih := mq_at q i (by simpa using h)
    rw [mq_cons, show (i + 1) * 4 = i * 4 + 1 + 1 + 1 + 1 by omega]
    simpa using ih
theorem mq_take (q : MQ) (i : Nat) (h : i ≤ q.length) : (mq q).take (i * 4) = mq (q.take i) := by
  have h1 : mq q = mq (q.take i) ++ mq (q.drop i) := by rw [← mq_app, List.take_append_drop]
  rw [h1, List.take_left' (by rw [mq_len, List.length_take, Nat.min_eq_left h])]
theorem mq_drop (q : MQ) (i : Nat) (h : i ≤ q.length) : (mq q).drop (i * 4) = mq (q.drop i) := by
  have h1 : mq q = mq (q.take i) ++ mq (q.drop i) := by rw [← mq_app, List.take_append_drop]
  conv => lhs; rw [h1]
  rw [List.drop_left' (by rw [mq_len, List.length_take, Nat.min_eq_left h])]
theorem mq_set_body : ∀ (q : MQ) (i : Nat) (h : i < q.length) (v : Value), (mq q).set (i * 4 + 3) v = mq (q.set i (q[i].1, v))
  | p :: q, 0, _, v => rfl
  | p :: q, i + 1, h, v => by
    have ih := mq_set_body q i (by simpa using h) v
    rw [mq_cons, show (i + 1) * 4 + 3 = (i * 4 + 3) + 1 + 1 + 1 + 1 by omega]
    simp only [List.set_cons_succ, ih, List.getElem_cons_succ, mq_cons]
theorem mq_set_flags : ∀ (q : MQ) (i : Nat) (h : i < q.length) (n : Int), (mq q).set (i * 4 + 1) (i64 n) = mq (q.set i ({ q[i].1 with flags := n }, q[i].2))
  | p :: q, 0, _, v => rfl
  | p :: q, i + 1, h, v => by
    have ih := mq_set_flags q i (by simpa using h) v
    rw [mq_cons, show (i + 1) * 4 + 1 = (i * 4 + 1) + 1 + 1 + 1 + 1 by omega]
    simp only [List.set_cons_succ, ih, List.getElem_cons_succ, mq_cons]

/-- A slice of bytes that reads, and does not lie in S. -/
def RdB (w : World) (v : Value) (l : List UInt8) (S : Nat → Prop) : Prop := ∃ B d, v = .slice B l.length d ∧ Rd w B (l.map u8) ∧ Ofl B (l.map u8) S ∧ l.length ≤ d
section
variable {w w' : World} {v : Value} {l : List UInt8} {S T : Nat → Prop}
theorem RdB.nw (h : RdB w v l S) (k : Nw w w') : RdB w' v l S := by
  obtain ⟨B, d, h1, h2, h3, h4⟩ := h
  exact ⟨B, d, h1, h2.nw k, h3, h4⟩
theorem RdB.kp (h : RdB w v l S) (k : Kp S w w') : RdB w' v l S := by
  obtain ⟨B, d, h1, h2, h3, h4⟩ := h
  exact ⟨B, d, h1, h2.kp k h3, h3, h4⟩
theorem RdB.one (h : RdB w v l S) : v.oneCell' = true := by
  obtain ⟨B, d, rfl, _⟩ := h
  cases B <;> rfl
theorem RdB.ofl (h : RdB w v l S) (hT : ∀ i, T i → S i ∨ w.heap.size ≤ i) : RdB w v l T := by
  obtain ⟨B, d, h1, h2, h3, h4⟩ := h
  exact ⟨B, d, h1, h2, fun a ha hx ht => by
    rcases hT _ ht with h | h
    · exact h3 a ha hx h
    · exact h2.ofl (S := fun i => w.heap.size ≤ i) (fun i hi => hi) a ha hx h, h4⟩
theorem Bs.rdb {B : Nat} (h : Bs w v l B) : RdB w v l (fun k => k < B) := by
  obtain ⟨A, c, h1, ho, hA⟩ := h
  exact ⟨A, c, h1, ho.rd, fun a ha _ hk => by have := hA a ha; omega, ho.2.1⟩
theorem RdB.any (h : RdB w v l S) : RdB w v l (fun _ => False) := h.ofl fun _ h => h.elim
end

/-- Bodies that read. -/
def Bds (w : World) (q : MQ) (S : Nat → Prop) : Prop := ∀ p ∈ q, RdB w p.2 p.1.body S
/-- A box that reads, none of it in S. -/
def RB (w : World) (v : Value) (b : Bx) (S : Nat → Prop) : Prop :=
  ∃ A c, ∃ q : MQ, v = .agg #[.string b.name, i64 b.val, i64 b.next, .slice A b.L.length c] ∧ q.map Prod.fst = b.L ∧ b.L.length ≤ c ∧ Rd w A (mq q) ∧ Ofl A (mq q) S ∧ Bds w q S
section
variable {w w' : World} {v : Value} {b : Bx} {S T : Nat → Prop} {q : MQ}
theorem Bds.nw (h : Bds w q S) (k : Nw w w') : Bds w' q S := fun p hp => (h p hp).nw k
theorem Bds.kp (h : Bds w q S) (k : Kp S w w') : Bds w' q S := fun p hp => (h p hp).kp k
theorem RB.nw (h : RB w v b S) (k : Nw w w') : RB w' v b S := by
  obtain ⟨A, c, q, h1, h2, h3, h4, h5, h6⟩ := h
  exact ⟨A, c, q, h1, h2, h3, h4.nw k, h5, h6.nw k⟩
theorem RB.kp (h : RB w v b S) (k : Kp S w w') : RB w' v b S := by
  obtain ⟨A, c, q, h1, h2, h3, h4, h5, h6⟩ := h
  exact ⟨A, c, q, h1, h2, h3, h4.kp k h5, h5, h6.kp k⟩
theorem RB.ofl (h : RB w v b S) (hT : ∀ i, T i → S i ∨ w.heap.size ≤ i) : RB w v b T := by
  obtain ⟨A, c, q, h1, h2, h3, h4, h5, h6⟩ := h
  exact ⟨A, c, q, h1, h2, h3, h4, fun a ha hx ht => by
    rcases hT _ ht with h | h
    · exact h5 a ha hx h
    · exact h4.ofl (S := fun i => w.heap.size ≤ i) (fun i hi => hi) a ha hx h, fun p hp => (h6 p hp).ofl hT⟩
theorem RB.any (h : RB w v b S) : RB w v b (fun _ => False) := h.ofl fun _ h => h.elim
end

theorem Smsg : SlT Tryd.prog 22 41 4 48 (.agg #[.int .i64 0, .int .i64 0, .int .i64 0, .slice none 0 0]) := ⟨by kernel_rfl, by kernel_rfl, by rfl, by decide⟩
/-- Bytes in memory that is new since block B and no part of A's block. -/
def BsA (w : World) (v : Value) (l : List UInt8) (B : Nat) (A : Option Addr) : Prop := ∃ X c, v = .slice X l.length c ∧ Ow w 5 1 X l.length c (l.map u8) ∧ ∀ a, X = some a → B ≤ a.block ∧ ¬ blk A a.block
section
variable {w w' : World} {v : Value} {l : List UInt8} {B B' : Nat} {A : Option Addr} {S : Nat → Prop}
theorem BsA.bs (h : BsA w v l B A) : Bs w v l B := by
  obtain ⟨X, c, h1, h2, h3⟩ := h
  exact ⟨X, c, h1, h2, fun a ha => (h3 a ha).1⟩
theorem BsA.kp (h : BsA w v l B A) (k : Kp S w w') (hn : ∀ i, B ≤ i → i < w.heap.size → ¬ blk A i → ¬ S i) : BsA w' v l B A := by
  obtain ⟨X, c, h1, h2, h3⟩ := h
  exact ⟨X, c, h1, h2.kp k fun a ha => hn _ (h3 a ha).1 (h2.lt a ha) (h3 a ha).2, h3⟩
theorem BsA.nw (h : BsA w v l B A) (k : Nw w w') : BsA w' v l B A := h.kp k fun _ _ _ _ h => h
theorem BsA.mono (h : BsA w v l B A) (hB : B' ≤ B) : BsA w v l B' A := by
  obtain ⟨X, c, h1, h2, h3⟩ := h
  exact ⟨X, c, h1, h2, fun a ha => ⟨Nat.le_trans hB (h3 a ha).1, (h3 a ha).2⟩⟩
theorem BsA.of {B0 : Nat} (h : Bs w v l B) (hB : B0 ≤ B) (hA : ∀ a, A = some a → a.block < B) : BsA w v l B0 A := by
  obtain ⟨X, c, h1, h2, h3⟩ := h
  exact ⟨X, c, h1, h2, fun a ha => ⟨Nat.le_trans hB (h3 a ha), fun hb => by
    obtain ⟨a', ha', e⟩ := blk_of hb
    have h4 := hA a' ha'
    have h5 := h3 a ha
    omega⟩⟩
/-- The other slice is put elsewhere, behind all there is. -/
theorem BsA.moved {A' : Option Addr} (h : BsA w v l B A) (hA : A' = A ∨ ∃ a, A' = some a ∧ w.heap.size ≤ a.block) : BsA w v l B A' := by
  obtain ⟨X, c, h1, h2, h3⟩ := h
  refine ⟨X, c, h1, h2, fun a ha => ⟨(h3 a ha).1, fun hb => ?_⟩⟩
  rcases hA with rfl | ⟨a', rfl, hle⟩
  · exact (h3 a ha).2 hb
  · have := h2.lt a ha
    have hb : a.block = a'.block := hb
    omega
/-- Another slice, all of it behind what there was. -/
theorem BsA.to {A' : Option Addr} (h : BsA w v l B A) (hA : ∀ k, blk A' k → w.heap.size ≤ k) (k : Kp S w w') (hS : ∀ i, B ≤ i → i < w.heap.size → ¬ S i) : BsA w' v l B A' := by
  obtain ⟨X, c, h1, h2, h3⟩ := h
  exact ⟨X, c, h1, h2.kp k fun a ha => hS _ (h3 a ha).1 (h2.lt a ha), fun a ha => ⟨(h3 a ha).1, fun hb => by have := hA _ hb; have := h2.lt a ha; omega⟩⟩
/-- Behind an append onto the other slice. -/
theorem BsA.grown {A' : Option Addr} (h : BsA w v l B A) (k : Kp (blk A) w w') (hA : A' = A ∨ ∃ a, A' = some a ∧ w.heap.size ≤ a.block) : BsA w' v l B A' := by
  have h2 := (h.moved hA)
  obtain ⟨X, c, h1, ho, h3⟩ := h
  obtain ⟨X', c', h1', ho', h3'⟩ := h2
  rw [h1] at h1'
  cases h1'
  exact ⟨X, c, h1, ho.kp k fun a ha => (h3 a ha).2, h3'⟩
end
/-- Messages in memory that is new since block B, all their bodies too, each on its own. -/
def OL (w : World) (v : Value) (L : List Msg) (B : Nat) : Prop := ∃ (q : MQ) (A : Option Addr) (c : Nat), v = .slice A L.length c ∧ q.map Prod.fst = L ∧ Ow w 41 4 A L.length c (mq q) ∧ (∀ a, A = some a → B ≤ a.block) ∧ ∀ p ∈ q, BsA w p.2 p.1.body B A
/-- A box of memory that is new since block B. -/
def OB (w : World) (v : Value) (b : Bx) (B : Nat) : Prop := ∃ vL, v = .agg #[.string b.name, i64 b.val, i64 b.next, vL] ∧ OL w vL b.L B
section
variable {w w' : World} {v : Value} {b : Bx} {L : List Msg} {B B' : Nat} {S : Nat → Prop}
theorem OL.nil (w : World) (B : Nat) : OL w (.slice none 0 0) [] B := ⟨[], none, 0, rfl, rfl, Ow.nil _ _ _, by simp, by simp⟩
theorem OL.kp (h : OL w v L B) (k : Kp S w w') (hn : ∀ i, B ≤ i → i < w.heap.size → ¬ S i) : OL w' v L B := by
  obtain ⟨q, A, c, h0, h1, h2, h3, h4⟩ := h
  exact ⟨q, A, c, h0, h1, h2.kp k fun a ha => hn _ (h3 a ha) (h2.lt a ha), h3, fun p hp => (h4 p hp).kp k fun i h5 h6 _ => hn i h5 h6⟩
theorem OL.nw (h : OL w v L B) (k : Nw w w') : OL w' v L B := h.kp k fun _ _ _ h => h
theorem OL.mono (h : OL w v L B) (hB : B' ≤ B) : OL w v L B' := by
  obtain ⟨q, A, c, h0, h1, h2, h3, h4⟩ := h
  exact ⟨q, A, c, h0, h1, h2, fun a ha => Nat.le_trans hB (h3 a ha), fun p hp => (h4 p hp).mono hB⟩
theorem OB.nw (h : OB w v b B) (k : Nw w w') : OB w' v b B := by
  obtain ⟨vL, h1, h2⟩ := h
  exact ⟨vL, h1, h2.nw k⟩
theorem OB.kp (h : OB w v b B) (k : Kp S w w') (hn : ∀ i, B ≤ i → i < w.heap.size → ¬ S i) : OB w' v b B := by
  obtain ⟨vL, h1, h2⟩ := h
  exact ⟨vL, h1, h2.kp k hn⟩
theorem OB.mono (h : OB w v b B) (hB : B' ≤ B) : OB w v b B' := by
  obtain ⟨vL, h1, h2⟩ := h
  exact ⟨vL, h1, h2.mono hB⟩
theorem OB.rb (h : OB w v b B) : RB w v b (fun k => k < B) := by
  obtain ⟨vL, rfl, q, A, c, rfl, h1, ho, hA, h3⟩ := h
  exact ⟨A, c, q, rfl, h1, ho.2.1, ho.rd, fun a ha _ hk => by have := hA a ha; omega, fun p hp => (h3 p hp).bs.rdb⟩
end
theorem kp_set4 (w : World) (g : Nat) (a b c d : Value) : Kp (At g) w ((((w.setCell ⟨g, 0, none⟩ a).setCell ⟨g, 1, none⟩ b).setCell ⟨g, 2, none⟩ c).setCell ⟨g, 3, none⟩ d) :=
  ((((Kp.refl _ w).setCell_at _ _).setCell_at _ _).setCell_at _ _).setCell_at _ _
theorem ow_set {w : World} {e : TypeId} {g sz n c : Nat} {xs : List Value} (h : Ow w e sz (some ⟨g, 0, none⟩) n c xs) (i : Nat) (u : Value) : Ow (w.setCell ⟨g, i, none⟩ u) e sz (some ⟨g, 0, none⟩) n c (xs.set i u) := by
  obtain ⟨h1, h2, h3, h4⟩ := h
  refine ⟨by simpa using h1, h2, h3, ?_⟩
  rcases h4 with ⟨h4, _⟩ | ⟨g', cur, e, hg, h5, h6⟩
  · cases h4
  · cases e
    refine .inr ⟨_, _, rfl, hg.set i u, by simpa using h5, ?_⟩
    subst h6
    rw [Array.toList_setIfInBounds, List.take_set]
theorem mq_one {w : World} {q : MQ} {S : Nat → Prop} (h : Bds w q S) : ∀ u ∈ mq q, u.oneCell' = true := by
  intro u hu
  obtain ⟨p, hp, hu⟩ := List.mem_flatMap.1 hu
  simp only [List.mem_cons, List.not_mem_nil, or_false] at hu
  rcases hu with rfl | rfl | rfl | rfl
  · rfl
  · rfl
  · rfl
  · exact (h p hp).one
/-- A literal of one message. -/
theorem run_bsA4 {P : Program} {w : World} (t : TypeId) (a b c d : Value) (h : P.underlying t = some (.slice (P.elem t))) (hs : (sizeOf (P.elem t)).run P w = .ok 4 w) (hz : ∃ x y z u, (zeroValue (P.elem t)).run P w = .ok (.agg #[x, y, z, u]) w) :
    bsR P t 1 #[(0, .agg #[a, b, c, d])] w = .ok (.slice (some ⟨w.heap.size, 0, none⟩) 1 1) (w.alloc (.cells #[a, b, c, d] (P.elem t))) := by
  obtain ⟨x, y, z, u, hz⟩ := hz
  simp [bsR, Instr.buildSlice, run_underlying h, hs, hz, Instr.fill, Value.cells, newRow, show Array.range 1 = #[0] from rfl, show Array.range 4 = #[0, 1, 2, 3] from rfl]
@[go_sem 20000] theorem bs_msg (a b c d : Value) (w : World) : bsR Tryd.prog 22 1 #[(0, .agg #[a, b, c, d])] w = .ok (.slice (some ⟨w.heap.size, 0, none⟩) 1 1) (w.alloc (.cells #[a, b, c, d] 41)) :=
  run_bsA4 _ a b c d (by kernel_rfl) (by rfl) ⟨_, _, _, _, rfl⟩
/-- What is handed back lies in a variable of its own. -/
@[go_sem] theorem resSem_cell (i : Nat) (t : TypeId) (s : St) : resSem #[.cell i t] s = (do loadVar t (← asAddr (s i))) := by simp [resSem]
@[go_sem] theorem resSem_cell2 (i j : Nat) (t : TypeId) (s : St) : resSem #[.cell i t, .tmp j] s = (do let v ← (do loadVar t (← asAddr (s i))); pure (.tuple #[v, s j])) := by simp [resSem]
@[go_sem] theorem resSem_cell3 (i j k : Nat) (t : TypeId) (s : St) : resSem #[.cell i t, .tmp j, .tmp k] s = (do let v ← (do loadVar t (← asAddr (s i))); pure (.tuple #[v, s j, s k])) := by simp [resSem]
end Go.Proofs.YtindfpaahlijeaaDoor
