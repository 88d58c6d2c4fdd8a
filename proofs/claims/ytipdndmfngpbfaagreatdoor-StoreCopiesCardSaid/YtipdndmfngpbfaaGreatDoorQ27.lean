/-
  A store in memory: what its steps may turn; a store in a law. By the session itself. A store's writes, walked. By the session itself. A store's plans walked: plans. By the session itself.
-/
import Derived.Test.YtipdndmfngpbfaaGreatDoorQ23
import Derived.Test.YtipdndmfngpbfaaGreatDoorQ26
import Derived.Test.YtipdndmfngpbfaaGreatDoorQ22
namespace Go.Proofs.YtipdndmfngpbfaaGreatDoor
set_option linter.unusedSimpArgs false
set_option linter.unusedVariables false
set_option maxRecDepth 100000
set_option maxHeartbeats 1000000
open Go.Vc Go.RowKit

section
variable {w w' w1 w2 : World} {s g l t : Nat} {S S' S1 S2 : Sto} {F F' G G' FS FS' V V' Z : Nat → Prop}
theorem LS.step {p : Nm} {D : Dsk} {L : Led} (h : LS w l g p D L F G V) (k : Kp Z w w') (hZ : ∀ i, Z i → V i ∧ ¬ F i ∧ ¬ G i) (hG : Gr V V' w w') (hV : ∀ i, V i → V' i) : LS w' l g p D L F G V' :=
  ⟨h.dk.kp k fun i hf hz => (hZ i hz).2.1 hf, h.lg.step k (fun i hi => ⟨(hZ i hi).1, (hZ i hi).2.2⟩) hG hV, fun i hi => hV i (h.fv i hi), h.dj⟩
theorem SttA.fv {T : Stt} (h : SttA w t T F V) : ∀ k, F k → V k := by
  obtain ⟨r, ptr, rb, vb, Fs, h⟩ := h
  exact h.fv
theorem StM.step (h : StM w s g l t S F G FS V) (k : Kp Z w w') (hZ : ∀ i, Z i → V i ∧ ¬ F i ∧ ¬ G i ∧ ¬ FS i ∧ i ≠ s) (hG : Gr V V' w w') (hV : ∀ i, V i → V' i) : StM w' s g l t S F G FS V' :=
  ⟨h.blk.kp k fun e => (hZ _ e).2.2.2.2 rfl, h.ls.step k (fun i hi => ⟨(hZ i hi).1, (hZ i hi).2.1, (hZ i hi).2.2.1⟩) hG hV, h.lok, h.st.step k (fun i hi => ⟨(hZ i hi).1, (hZ i hi).2.2.2.1⟩) hG hV, h.apF, hV _ h.sv, h.sap⟩
theorem StM.lt (h : StM w s g l t S F G FS V) : ∀ k, V k → k < w.heap.size := h.ls.lg.lt
theorem StM.fsv (h : StM w s g l t S F G FS V) : ∀ k, FS k → V k := h.st.fv
theorem StM.fv (h : StM w s g l t S F G FS V) : ∀ k, F k → V k := h.ls.fv
theorem StM.gv (h : StM w s g l t S F G FS V) : ∀ k, G k → V k := h.ls.lg.gv
/-- What a step of a store may turn. -/
structure Cs (w w1 : World) (s : Nat) (F F1 G G1 FS FS1 V V1 : Nat → Prop) : Prop where
  gF : Gr F F1 w w1
  gG : Gr G G1 w w1
  gS : Gr FS FS1 w w1
  gV : Gr V V1 w w1
  vv : ∀ k, V k → V1 k
  kp : Kp (fun k => F k ∨ G k ∨ FS k ∨ k = s) w w1
def DoR (w w' : World) (s g l t : Nat) (S : Sto) (F G FS V : Nat → Prop) : Prop := ∃ F' G' FS' V', StM w' s g l t S F' G' FS' V' ∧ Cs w w' s F F' G G' FS FS' V V'
theorem Cs.nw (k : Nw w w1) : Cs w w1 s F F G G FS FS V V := ⟨fun _ h => .inl h, fun _ h => .inl h, fun _ h => .inl h, fun _ h => .inl h, fun _ h => h, Nw.kp k _⟩
theorem Cs.trans {F1 F2 G1 G2 FS1 FS2 V1 V2 : Nat → Prop} (hs : s < w.heap.size) (a : Cs w w1 s F F1 G G1 FS FS1 V V1) (b : Cs w1 w2 s F1 F2 G1 G2 FS1 FS2 V1 V2) : Cs w w2 s F F2 G G2 FS FS2 V V2 :=
  ⟨Gr.trans a.gF b.gF a.kp.size b.kp.size, Gr.trans a.gG b.gG a.kp.size b.kp.size, Gr.trans a.gS b.gS a.kp.size b.kp.size, Gr.trans a.gV b.gV a.kp.size b.kp.size, fun k h => b.vv k (a.vv k h),
    a.kp.trans b.kp fun k hk h => by
      rcases h with h | h | h | h
      · exact (a.gF k h).elim .inl fun e => by omega
      · exact (a.gG k h).elim (fun e => .inr (.inl e)) fun e => by omega
      · exact (a.gS k h).elim (fun e => .inr (.inr (.inl e))) fun e => by omega
      · exact .inr (.inr (.inr h))⟩
theorem DoR.trans (hs : s < w.heap.size) {F1 G1 FS1 V1 : Nat → Prop} (a : Cs w w1 s F F1 G G1 FS FS1 V V1) (b : DoR w1 w2 s g l t S F1 G1 FS1 V1) : DoR w w2 s g l t S F G FS V := by
  obtain ⟨F2, G2, FS2, V2, h, c⟩ := b
  exact ⟨F2, G2, FS2, V2, h, a.trans hs c⟩
theorem StM.sl (h : StM w s g l t S F G FS V) : s < w.heap.size := h.blk.lt
/-- The ledger and its disk have turned. -/
theorem StM.led {D' : Dsk} {L' : Led} (h : StM w s g l t S F G FS V) (c : ChR w w' l g mailN D' L' F G V) (ok : L'.Ok) : DoR w w' s g l t ⟨D', L', S.T, S.dead⟩ F G FS V := by
  obtain ⟨F', G', V', hL, ch⟩ := c
  have hFl : ∀ k, FS k → k < w.heap.size := fun k hk => h.lt k (h.fsv k hk)
  have hsl := h.sl
  refine ⟨F', G', FS, V', ⟨h.blk.kp ch.kp fun e => e.elim h.sap.1 h.sap.2.1, hL, ok, h.st.step ch.kp (fun i hi => ⟨hi.elim (h.fv i) (h.gv i), fun e => hi.elim (h.apF i e).1 (h.apF i e).2⟩) ch.gV ch.vv, fun i hi => ⟨fun e => ?_, fun e => ?_⟩, ch.vv _ h.sv, fun e => ?_, fun e => ?_, h.sap.2.2⟩,
    ch.gF, ch.gG, fun _ h => .inl h, ch.gV, ch.vv, ch.kp.mono fun k _ hk => hk.imp id .inl⟩
  · exact (ch.gF i e).elim (h.apF i hi).1 fun e => by have := hFl i hi; omega
  · exact (ch.gG i e).elim (h.apF i hi).2 fun e => by have := hFl i hi; omega
  · exact (ch.gF s e).elim h.sap.1 fun e => by omega
  · exact (ch.gG s e).elim h.sap.2.1 fun e => by omega
/-- The state has turned. -/
theorem StM.done {T' : Stt} (h : StM w s g l t S F G FS V) (c : DoneR w w' t T' FS V) : DoR w w' s g l t ⟨S.D, S.L, T', S.dead⟩ F G FS V := by
  obtain ⟨FS', V', hT, gS, gV, vv, kp⟩ := c
  have hsl := h.sl
  have hVl := h.lt
  refine ⟨F, G, FS', V', ⟨h.blk.kp kp h.sap.2.2, h.ls.step kp (fun i hi => ⟨h.fsv i hi, (h.apF i hi).1, (h.apF i hi).2⟩) gV vv, h.lok, hT, fun i hi => ⟨fun e => ?_, fun e => ?_⟩, vv _ h.sv, h.sap.1, h.sap.2.1, fun e => ?_⟩,
    fun _ h => .inl h, fun _ h => .inl h, gS, gV, vv, kp.mono fun k _ hk => .inr (.inr (.inl hk))⟩
  · exact (gS i hi).elim (fun e' => (h.apF i e').1 e) fun e' => by have := hVl i (h.fv i e); omega
  · exact (gS i hi).elim (fun e' => (h.apF i e').2 e) fun e' => by have := hVl i (h.gv i e); omega
  · exact (gS s e).elim h.sap.2.2 fun e' => by omega
/-- It is dead. -/
theorem StM.dies (h : StM w s g l t S F G FS V) (b : Bool) : DoR w (w.setCell ⟨s, 2, none⟩ (.bool b)) s g l t ⟨S.D, S.L, S.T, b⟩ F G FS V := by
  have k : Kp (At s) w (w.setCell ⟨s, 2, none⟩ (.bool b)) := (Kp.refl _ _).setCell_at _ _
  have hZ : ∀ i, At s i → V i ∧ ¬ F i ∧ ¬ G i ∧ ¬ FS i := fun i (e : i = s) => by subst e; exact ⟨h.sv, h.sap⟩
  exact ⟨F, G, FS, V, ⟨by simpa using h.blk.set 2 (.bool b), h.ls.step k (fun i hi => ⟨(hZ i hi).1, (hZ i hi).2.1, (hZ i hi).2.2.1⟩) (fun _ h => .inl h) fun _ h => h, h.lok, h.st.step k (fun i hi => ⟨(hZ i hi).1, (hZ i hi).2.2.2⟩) (fun _ h => .inl h) fun _ h => h, h.apF, h.sv, h.sap⟩,
    fun _ h => .inl h, fun _ h => .inl h, fun _ h => .inl h, fun _ h => .inl h, fun _ h => h, k.mono fun i _ hi => .inr (.inr (.inr hi))⟩
end
/-- A store in a law: all of it new since w0; the law's own blocks U may turn, what is in E stays. -/
def Sm (w0 w : World) (s g l t : Nat) (S : Sto) (U E : Nat → Prop) : Prop := ∃ F G FS V, StM w s g l t S F G FS V ∧ (∀ k, V k → w0.heap.size ≤ k) ∧ Nw w0 w ∧ (∀ k, U k → V k ∧ ¬ F k ∧ ¬ G k ∧ ¬ FS k ∧ k ≠ s) ∧ ∀ k, E k → ¬ V k ∧ k < w.heap.size
/-- What a step of it may turn. -/
abbrev Fu (w0 : World) (U E : Nat → Prop) : Nat → Prop := fun k => w0.heap.size ≤ k ∧ ¬ U k ∧ ¬ E k
section
variable {w0 w w1 : World} {s g l t : Nat} {S S' : Sto} {U U' E E' : Nat → Prop}
theorem Sm.on (h : Sm w0 w s g l t S U E) : Nw w0 w := by
  obtain ⟨F, G, FS, V, h1, h2, h3, h4, h5⟩ := h
  exact h3
theorem Sm.nw (h : Sm w0 w s g l t S U E) (k : Nw w w1) : Sm w0 w1 s g l t S U E := by
  obtain ⟨F, G, FS, V, h1, h2, h3, h4, h5⟩ := h
  exact ⟨F, G, FS, V, h1.nw k, h2, h3.nw k, h4, fun i hi => ⟨(h5 i hi).1, Nat.lt_of_lt_of_le (h5 i hi).2 k.size⟩⟩
theorem Sm.of {F G FS V : Nat → Prop} (h1 : StM w s g l t S F G FS V) (h2 : ∀ k, V k → w0.heap.size ≤ k) (h3 : Nw w0 w) (h4 : ∀ k, U k → V k ∧ ¬ F k ∧ ¬ G k ∧ ¬ FS k ∧ k ≠ s) (h5 : ∀ k, E k → ¬ V k ∧ k < w.heap.size) (c : DoR w w1 s g l t S' F G FS V) :
    Sm w0 w1 s g l t S' U E ∧ Kp (Fu w0 U E) w w1 := by
  obtain ⟨F', G', FS', V', hS, ch⟩ := c
  have hVl := h1.lt
  have hsv : ∀ k, (F k ∨ G k ∨ FS k ∨ k = s) → V k := fun k hk => by
    rcases hk with hk | hk | hk | hk
    · exact h1.fv k hk
    · exact h1.gv k hk
    · exact h1.fsv k hk
    · exact hk ▸ h1.sv
  refine ⟨⟨F', G', FS', V', hS, fun k hk => (ch.gV k hk).elim (h2 k) fun e => Nat.le_trans h3.size e.1, h3.at_ ch.kp fun k hk => h2 k (hsv k hk), fun k hk => ?_, fun k hk => ⟨fun e => (ch.gV k e).elim (h5 k hk).1 fun e => by have := (h5 k hk).2; omega, Nat.lt_of_lt_of_le (h5 k hk).2 ch.kp.size⟩⟩, ch.kp.mono fun k _ hk => ⟨h2 k (hsv k hk), fun hu => ?_, fun he => (h5 k he).1 (hsv k hk)⟩⟩
  · obtain ⟨a1, a2, a3, a4, a5⟩ := h4 k hk
    have := hVl k a1
    exact ⟨ch.vv k a1, fun e => (ch.gF k e).elim a2 fun e => by omega, fun e => (ch.gG k e).elim a3 fun e => by omega, fun e => (ch.gS k e).elim a4 fun e => by omega, a5⟩
  · obtain ⟨a1, a2, a3, a4, a5⟩ := h4 k hu
    rcases hk with hk | hk | hk | hk
    · exact a2 hk
    · exact a3 hk
    · exact a4 hk
    · exact a5 hk
/-- The law's own blocks have turned. -/
theorem Sm.own (h : Sm w0 w s g l t S U E) (k : Kp U w w1) : Sm w0 w1 s g l t S U E := by
  obtain ⟨F, G, FS, V, h1, h2, h3, h4, h5⟩ := h
  exact ⟨F, G, FS, V, h1.step k h4 (fun _ h => .inl h) fun _ h => h, h2, h3.at_ k fun k hk => h2 k (h4 k hk).1, h4, fun i hi => ⟨(h5 i hi).1, Nat.lt_of_lt_of_le (h5 i hi).2 k.size⟩⟩
/-- New blocks: the law's own, or such that stay. -/
theorem Sm.more (h : Sm w0 w s g l t S U E) (k : Nw w w1) (hU : ∀ i, U' i → U i ∨ w.heap.size ≤ i ∧ i < w1.heap.size) (hE : ∀ i, E' i → E i ∨ w.heap.size ≤ i ∧ i < w1.heap.size) (hd : ∀ i, U' i → ¬ E' i) : Sm w0 w1 s g l t S U' E' := by
  obtain ⟨F, G, FS, V, h1, h2, h3, h4, h5⟩ := h
  have hVl := h1.lt
  have hsl := h1.sl
  refine ⟨F, G, FS, fun i => V i ∨ U' i, h1.step k (fun _ h => h.elim) (fun i hi => hi.elim .inl fun e => (hU i e).imp (fun e => (h4 i e).1) id) fun i hi => .inl hi, fun i hi => hi.elim (h2 i) fun e => (hU i e).elim (fun e => h2 i (h4 i e).1) fun e => by have := h3.size; omega, h3.nw k, fun i hi => ⟨.inr hi, ?_⟩, fun i hi => ⟨fun e => ?_, ?_⟩⟩
  · rcases hU i hi with e | e
    · exact (h4 i e).2
    · exact ⟨fun e' => by have := hVl i (h1.fv i e'); omega, fun e' => by have := hVl i (h1.gv i e'); omega, fun e' => by have := hVl i (h1.fsv i e'); omega, by omega⟩
  · rcases e with e | e
    · rcases hE i hi with e' | e'
      · exact (h5 i e').1 e
      · have := hVl i e; omega
    · exact hd i e hi
  · rcases hE i hi with e' | e'
    · exact Nat.lt_of_lt_of_le (h5 i e').2 k.size
    · exact e'.2
end
end Go.Proofs.YtipdndmfngpbfaaGreatDoor

namespace Go.Proofs.YtipdndmfngpbfaaGreatDoor
set_option linter.unusedSimpArgs false
set_option linter.unusedVariables false
set_option maxRecDepth 100000
set_option maxHeartbeats 2000000
open Go.Vc Go.RowKit

/-- The image written, if there are too many entries: the disk, the ledger, an error. -/
def wrD (S : Sto) : Dsk × Led × Nat := if S.L.last < S.L.base + 20 then (S.D, S.L, 0) else lWrite S.D mailN S.L (S.L.last : Int) (imgS S.T)
theorem StM.c0 {w : World} {s g l t : Nat} {S : Sto} {F G FS V : Nat → Prop} (h : StM w s g l t S F G FS V) : w.cell? ⟨s, 0, none⟩ = some (.pointer (some ⟨l, 0, none⟩)) := h.blk.cell 0
theorem StM.c1 {w : World} {s g l t : Nat} {S : Sto} {F G FS V : Nat → Prop} (h : StM w s g l t S F G FS V) : w.cell? ⟨s, 1, none⟩ = some (.pointer (some ⟨t, 0, none⟩)) := h.blk.cell 1
theorem StM.c2 {w : World} {s g l t : Nat} {S : Sto} {F G FS V : Nat → Prop} (h : StM w s g l t S F G FS V) : w.cell? ⟨s, 2, none⟩ = some (.bool S.dead) := h.blk.cell 2
theorem StM.mail : mailN.length ≤ 20 := by decide
theorem writes_spec {s g l t : Nat} {S : Sto} {F G FS V : Nat → Prop} (w : World) (h : StM w s g l t S F G FS V) (hT : S.T.Ok) :
    Cal Tryz.prog 66 #[.pointer (some ⟨s, 0, none⟩)] w fun v w' => v = i64 (wrD S).2.2 ∧ DoR w w' s g l t ⟨(wrD S).1, (wrD S).2.1, S.T, S.dead⟩ F G FS V := by
  have s0 := h.c0
  have hlk := h.lok.last
  have hll : S.L.last = S.L.base + S.L.ents.length := rfl
  refine enter Tryz.mixed Tryz.func66 rfl (by kernel_rfl) ?_
  simp -dsimp [go_sem, s0]
  refine call (base_spec l g mailN S.L G V w h.ls.lg h.lok) ?_
  rintro v w1 ⟨k1, u, rfl, hB⟩
  have h1 := h.nw k1
  have s01 := h1.c0
  simp -dsimp [go_sem, s01]
  refine call (last_spec l g mailN S.L G V w1 h1.ls.lg h1.lok) ?_
  rintro v w2 ⟨rfl, k2⟩
  have h2 := h1.nw k2
  have hsub : IntKind.i64.wrap ((S.L.last : Int) - (S.L.base : Int)) = (S.L.last : Int) - (S.L.base : Int) := w64 (by omega) (by omega)
  by_cases h20 : S.L.last < S.L.base + 20
  · have h20' : (S.L.last : Int) - (S.L.base : Int) < 20 := by omega
    have e : wrD S = (S.D, S.L, 0) := by unfold wrD; rw [if_pos h20]
    rw [e]
    simp -dsimp [go_sem, hsub, h20']
    exact ⟨F, G, FS, V, h2, Cs.nw (k1.nw k2)⟩
  · have h20' : ¬ (S.L.last : Int) - (S.L.base : Int) < 20 := by omega
    have e : wrD S = lWrite S.D mailN S.L (S.L.last : Int) (imgS S.T) := by unfold wrD; rw [if_neg h20]
    rw [e]
    simp -dsimp [go_sem, hsub, h20']
    have s02 := h2.c0
    have s12 := h2.c1
    have hsF : ¬ (F s ∨ G s) := fun e => e.elim h.sap.1 h.sap.2.1
    have kd : Nw w2 w2.drew := (Kp.refl _ _).drew
    refine draw (.take 0 (.take 1 (.take 2 (.take 3 (.take 4 (.take 5 (.take 6 (.take 7 (.take 9 (.take 10 (.take 11 (.take 12 (.alt 8 (.alt 13 (.alt 14 (.take 15 .done) .stop) .stop) .stop))))))))))))) (by kernel_rfl) (fun wz => Kp (fun k => F k ∨ G k) w2 wz) (Nw.kp kd _) ?_
    simp -dsimp [go_sem, s02, s12]
    refine ⟨fun wz hz => by simp [hz.cell_some s02 hsF], fun wz hz => by simp [hz.cell_some s12 hsF], ?_⟩
    have hd := h2.nw kd
    refine call (last_spec l g mailN S.L G V w2.drew hd.ls.lg hd.lok) ?_
    rintro v w3 ⟨rfl, k3⟩
    have n3 := kd.nw k3
    have h3 := h2.nw n3
    refine ⟨Nw.kp n3 _, ?_⟩
    simp -dsimp [go_sem]
    refine call (simage_spec t S.T FS V w3 h3.st hT) ?_
    rintro v w4 ⟨hB4, k4⟩
    have n4 := n3.nw k4
    have h4 := h2.nw n4
    refine ⟨Nw.kp n4 _, ?_⟩
    obtain ⟨X, x, rfl, hoX, hX⟩ := id hB4
    have hil := imgS_len hT
    obtain ⟨b, hb⟩ : ∃ b, b = imgS S.T := ⟨_, rfl⟩
    rw [← hb] at hoX hil ⊢
    simp -dsimp [go_sem]
    have hVl := h3.lt
    refine call (lwrite_spec l g mailN S.D S.L F G V (S.L.last : Int) b X x w4 h4.ls StM.mail h4.lok hoX.rd (fun a ha _ hv => by have := hX a ha; have := hVl _ hv; omega) hoX.2.1 (by omega)) ?_
    rintro v w5 ⟨rfl, c5⟩
    have hch := c5
    obtain ⟨F', G', V', hL5, ch⟩ := hch
    refine ⟨(Nw.kp n4 _).trans ch.kp fun _ _ h => h, ?_⟩
    simp -dsimp [go_sem]
    exact DoR.trans h.sl (Cs.nw ((k1.nw k2).nw n4)) (h4.led c5 (lWrite_ok h4.lok S.D mailN _ b))
end Go.Proofs.YtipdndmfngpbfaaGreatDoor


namespace Go.Proofs.YtipdndmfngpbfaaGreatDoor
set_option linter.unusedSimpArgs false
set_option linter.unusedVariables false
set_option maxRecDepth 100000
set_option maxHeartbeats 2000000
open Go.Vc Go.RowKit

theorem plans_spec (t : Nat) (T : Stt) (F V : Nat → Prop) (c : Chg) (v : Value) (w : World) (h : SttA w t T F V) (ok : T.Ok) (hVl : ∀ i, V i → i < w.heap.size) (hc : RC w v c V) (hok : chgOk c = true) :
    Cal Tryz.prog 64 #[.pointer (some ⟨t, 0, none⟩), v] w fun v w' => PlanR w' v t (plan T c) F V ∧ Nw w w' := by
  have hRC := hc
  have hX := chgOk_ok hok
  obtain ⟨A, ca, B, cb, rfl, hca, hcb, hrA, hoA, hrB, hoB⟩ := hc
  refine enter Tryz.mixed Tryz.func64 rfl (by kernel_rfl) ?_
  simp -dsimp [go_sem]
  obtain ⟨y, hy', hy, hz, hsz, n0⟩ := two_new w 25 112 (chV c A ca B cb) #[.nilFunc, i64 0, i64 0]
  obtain ⟨z, hz'⟩ : ∃ z, z = y + 1 := ⟨_, rfl⟩
  rw [← hz'] at hz
  have hsz : ((w.alloc (.cells (chV c A ca B cb) 25)).alloc (.cells #[.nilFunc, i64 0, i64 0] 112)).heap.size = z + 1 := by rw [hsz]; omega
  rw [← hy', ← hz']
  generalize (w.alloc (.cells (chV c A ca B cb) 25)).alloc (.cells #[.nilFunc, i64 0, i64 0] 112) = wa at *
  have hzF : ¬ F z := fun e => by
    obtain ⟨_, _, _, _, _, hM⟩ := h
    have := hVl _ (hM.fv _ e); omega
  have hzV : ¬ V z := fun e => by have := hVl _ e; omega
  have hyc : ∀ i, wa.cell? ⟨y, i, none⟩ = (chV c A ca B cb)[i]? := fun i => hy.cell i
  have y0 := hyc 0
  have y1 := hyc 1
  have y2 := hyc 2
  have y3 := hyc 3
  have y4 := hyc 4
  have y5 := hyc 5
  have y6 := hyc 6
  have y7 := hyc 7
  have y8 := hyc 8
  have y9 := hyc 9
  by_cases hk1 : c.kind = 1
  · have hpl : plan T c = plAdd T c := by unfold plan; rw [if_pos hk1]
    have hk1' : (c.kind == 1) = true := by simpa using hk1
    simp -dsimp [go_sem, y0, hk1', y1, y2, y3, y4, y5, y6, y7, y8, y9]
    have hV1 : ∀ i, (V i ∨ i = z) → i < wa.heap.size := fun i hi => hi.elim (fun e => Nat.lt_of_lt_of_le (hVl i e) n0.size) fun e => by omega
    have hS1 : SttA wa t T F (fun i => V i ∨ i = z) := by
      obtain ⟨r, ptr, rb, vb, Fs, hM⟩ := h
      exact ⟨r, ptr, rb, vb, Fs, hM.wide n0 (by omega) (by omega)⟩
    refine call (adds_spec t T F _ c _ wa hS1 ok hV1 (hRC.wide n0 (by omega))) ?_
    rintro v w1 ⟨hP, k1⟩
    have hzW := (hz.nw k1)
    have nW := (n0.nw k1)
    have z0c := hzW.cell 0
    have z1c := hzW.cell 1
    have z2c := hzW.cell 2
    have z0f := hzW.frozen 0
    have z1f := hzW.frozen 1
    have z2f := hzW.frozen 2
    obtain ⟨pf, pn, pe, rfl, hpf⟩ := PlanR.three hP
    rw [hpl]
    rcases hpf with rfl | ⟨fid, caps, rfl⟩
    · simp -dsimp [go_sem, z0c, z1c, z2c, z0f, z1f, z2f]
      exact ⟨PlanR.put hP (set3 _ z _ _ _) hzF hzV hzW.lt, nW.at_ (set3 _ z _ _ _) fun k (e : k = z) => by omega⟩
    · simp -dsimp [go_sem, z0c, z1c, z2c, z0f, z1f, z2f]
      exact ⟨PlanR.put hP (set3 _ z _ _ _) hzF hzV hzW.lt, nW.at_ (set3 _ z _ _ _) fun k (e : k = z) => by omega⟩
  · have hk1' : (c.kind == 1) = false := by simpa using hk1
    obtain ⟨r, ptr, rb, vb, Fs, hM0⟩ := h
    have hM := hM0.nw n0
    have t1 := hM.blk.cell 1
    simp -dsimp [go_sem, y0, hk1']
    have hlz : ∀ wz, Nw wa wz → (Instr.lookup 123 (.map (some r)) (str c.user) false).run Tryz.prog wz = .ok ((Mu ptr T.us c.user).getD (.pointer none)) wz := fun wz hk => lookup_mp KL hmu (z := .pointer none) (w := wz) rfl (hM.mp.kp hk fun h => h) c.user false
    have kdr : Nw wa wa.drew := (Kp.refl _ _).drew
    have hlk := hlz wa.drew kdr
    refine draw (.take 0 (.take 1 (.take 2 (.take 3 (.take 4 (.take 5 (.take 6 (.alt 7 (.alt 8 .done .stop) .stop)))))))) (by kernel_rfl) (fun wz => Nw wa wz) kdr ?_
    have kf : ∀ cs, Nw wa (wa.alloc (.cells cs 116)).drew := fun cs => ((Kp.refl _ wa).alloc _).drew
    cases hu : tLook T.us c.user with
    | none =>
      have hpl : plan T c = (7, 0, T) := by unfold plan; rw [if_neg hk1, hu]
      rw [show Mu ptr T.us c.user = none by simp [Mu, hu]] at hlz hlk
      simp -dsimp [go_sem, y1, t1, hlk]
      refine ⟨fun wz hz => by simp [hz.cell_some t1 fun h => h], fun wz hz => by simp [hz.cell_some y1 fun h => h], fun wz hk => by simp [hlz wz hk], kf _, ?_⟩
      refine call (refused_spec 7 _) ?_
      rintro v w1 ⟨rfl, k1⟩
      have n1 := Kp.nw (n0.nw (kf _)) k1
      have hz1 := Blk.nw (hz.nw (kf _)) k1
      have z0c := hz1.cell 0
      have z1c := hz1.cell 1
      have z2c := hz1.cell 2
      have z0f := hz1.frozen 0
      have z1f := hz1.frozen 1
      have z2f := hz1.frozen 2
      simp -dsimp [go_sem, z0c, z1c, z2c, z0f, z1f, z2f]
      rw [hpl]
      exact ⟨.inl ⟨by simp, rfl⟩, n1.at_ (set3 w1 z _ _ _) fun k (e : k = z) => by omega⟩
    | some u =>
      rw [show Mu ptr T.us c.user = some (.pointer (some ⟨ptr c.user, 0, none⟩)) by simp [Mu, hu]] at hlz hlk
      have hUO := (ok.us _ _ hu).2
      have ka : ∀ cs, Nw wa (wa.alloc (.cells cs 116)) := fun cs => (Kp.refl _ wa).alloc _
      have hx0 := Blk.new wa 116 #[.pointer (some ⟨ptr c.user, 0, none⟩)]
      have nab := kf #[.pointer (some ⟨ptr c.user, 0, none⟩)]
      have hxb := hx0.nw ((Kp.refl (fun _ => False) _).drew)
      have y0b := fun cs => (ka cs).cell_some y0 fun h => h
      simp -dsimp [go_sem, y1, t1, hlk, y0b]
      refine ⟨fun wz hz => by simp [hz.cell_some t1 fun h => h], fun wz hz => by simp [hz.cell_some y1 fun h => h], fun wz hk => by simp [hlz wz hk], kf _, kf _, ?_⟩
      obtain ⟨x, hx'⟩ : ∃ x, x = wa.heap.size := ⟨_, rfl⟩
      have hxs : (wa.alloc (.cells #[.pointer (some ⟨ptr c.user, 0, none⟩)] 116)).drew.heap.size = x + 1 := by simp [hx']
      rw [← hx'] at hxb ⊢
      generalize (wa.alloc (.cells #[.pointer (some ⟨ptr c.user, 0, none⟩)] 116)).drew = wb at *
      have hyb := hy.nw nab
      have hzb := hz.nw nab
      have n1 := n0.nw nab
      have hMb := hM0.nw n1
      have hW := hM0.wide n1 (z := z) (by omega) (by omega)
      have hVb : ∀ i, (V i ∨ i = z) → i < wb.heap.size := fun i hi => hi.elim (fun e => Nat.lt_of_lt_of_le (hVl i e) n1.size) fun e => by omega
      have hRCb := hRC.wide n1 (z := z) (by omega)
      have hyc : ∀ i, wb.cell? ⟨y, i, none⟩ = (chV c A ca B cb)[i]? := fun i => hyb.cell i
      clear y0 y1 y2 y3 y4 y5 y6 y7 y8 y9 hlk hlz hx0 y0b
      have y0 := hyc 0
      have y1 := hyc 1
      have y2 := hyc 2
      have y3 := hyc 3
      have y4 := hyc 4
      have y5 := hyc 5
      have y6 := hyc 6
      have y7 := hyc 7
      have y8 := hyc 8
      have y9 := hyc 9
      have x0 := hxb.cell 0
      by_cases hk2 : c.kind = 2
      · have hpl : plan T c = plCreate T c u := by unfold plan; rw [if_neg hk1, hu]; simp only; rw [if_pos hk2]
        have hk2' : (c.kind == 2) = true := by simpa using hk2
        simp -dsimp [go_sem, y0, hk2', y1, y2, y3, y4, y5, y6, y7, y8, y9, x0]
        refine call (creates_spec c _ wb hW ok hVb hu hRCb) ?_
        rintro v w1 ⟨hP, k1⟩
        have hzW := (hzb.nw k1)
        have nW := (n1.nw k1)
        have z0c := hzW.cell 0
        have z1c := hzW.cell 1
        have z2c := hzW.cell 2
        have z0f := hzW.frozen 0
        have z1f := hzW.frozen 1
        have z2f := hzW.frozen 2
        obtain ⟨pf, pn, pe, rfl, hpf⟩ := PlanR.three hP
        rw [hpl]
        rcases hpf with rfl | ⟨fid, caps, rfl⟩
        · simp -dsimp [go_sem, z0c, z1c, z2c, z0f, z1f, z2f]
          exact ⟨PlanR.put hP (set3 _ z _ _ _) hzF hzV hzW.lt, nW.at_ (set3 _ z _ _ _) fun k (e : k = z) => by omega⟩
        · simp -dsimp [go_sem, z0c, z1c, z2c, z0f, z1f, z2f]
          exact ⟨PlanR.put hP (set3 _ z _ _ _) hzF hzV hzW.lt, nW.at_ (set3 _ z _ _ _) fun k (e : k = z) => by omega⟩
      · have hk2' : (c.kind == 2) = false := by simpa using hk2
        simp -dsimp [go_sem, hk2']
        obtain ⟨hU, u2, u3, u4⟩ := hMb.us _ _ hu
        have p1 := hU.blk.cell 1
        have hlz : ∀ wz, Nw wb wz → (Instr.lookup 118 (.map (some (rb c.user))) (str c.box) true).run Tryz.prog wz = .ok (.tuple #[(Mb (vb c.user) u.bx c.box).getD (.agg #[.string ⟨#[]⟩, i64 0, i64 0, .slice none 0 0]), .bool (Mb (vb c.user) u.bx c.box).isSome]) wz := fun wz hk => lookup_mp KL hmb zeroBox (hU.mp.kp hk fun h => h) c.box true
        have kdr : Nw wb wb.drew := (Kp.refl _ _).drew
        have hlk := hlz wb.drew kdr
        refine draw (.take 0 (.take 1 (.take 2 (.take 3 (.take 4 (.take 5 (.take 6 (.take 7 (.take 8 (.take 9 (.alt 10 (.alt 11 (.take 12 .done) .stop) .stop)))))))))))  (by kernel_rfl) (fun wz => Nw wb wz) kdr ?_
        have kf : ∀ cs, Nw wb (wb.alloc (.cells cs 52)).drew := fun cs => ((Kp.refl _ wb).alloc _).drew
        have ka : ∀ cs, Nw wb (wb.alloc (.cells cs 52)) := fun cs => (Kp.refl _ wb).alloc _
        cases hb : tLook u.bx c.box with
        | none =>
          have hpl : plan T c = (7, 0, T) := by unfold plan; rw [if_neg hk1, hu]; simp only; rw [if_neg hk2, hb]
          rw [show Mb (vb c.user) u.bx c.box = none by simp [Mb, hb]] at hlz hlk
          simp -dsimp [go_sem, x0, y3, p1, hlk]
          refine ⟨fun wz hz => by simp [hz.cell_some x0 fun h => h], fun wz hz => by simp [hz.cell_some p1 fun h => h], fun wz hz => by simp [hz.cell_some y3 fun h => h], fun wz hk => by simp [hlz wz hk], kf _, ?_⟩
          refine call (refused_spec 7 _) ?_
          rintro v w1 ⟨rfl, k1⟩
          have n1 := Kp.nw (n1.nw (kf _)) k1
          have hz1 := Blk.nw (hzb.nw (kf _)) k1
          have z0c := hz1.cell 0
          have z1c := hz1.cell 1
          have z2c := hz1.cell 2
          have z0f := hz1.frozen 0
          have z1f := hz1.frozen 1
          have z2f := hz1.frozen 2
          simp -dsimp [go_sem, z0c, z1c, z2c, z0f, z1f, z2f]
          rw [hpl]
          exact ⟨.inl ⟨by simp, rfl⟩, n1.at_ (set3 w1 z _ _ _) fun k (e : k = z) => by omega⟩
        | some b =>
          have hpl : plan T c = plBox T c u b := by unfold plan; rw [if_neg hk1, hu]; simp only; rw [if_neg hk2, hb]
          have hB := hUO.bx _ _ hb
          have hRw := (hM0.us _ _ hu).1.bx _ _ hb
          obtain ⟨X, xc, hv⟩ := hRw.open_
          rw [hv] at hRw
          rw [show Mb (vb c.user) u.bx c.box = some (.agg #[.string b.name, i64 b.val, i64 b.next, .slice X b.L.length xc]) by simp [Mb, hb, hv]] at hlz hlk
          have hg0 := Blk.new wb 52 #[.string b.name, i64 b.val, i64 b.next, .slice X b.L.length xc]
          have nbc := kf #[.string b.name, i64 b.val, i64 b.next, .slice X b.L.length xc]
          have hgc := hg0.nw ((Kp.refl (fun _ => False) _).drew)
          have y0b := fun cs => (ka cs).cell_some y0 fun h => h
          simp -dsimp [go_sem, x0, y3, p1, hlk, y0b]
          refine ⟨fun wz hz => by simp [hz.cell_some x0 fun h => h], fun wz hz => by simp [hz.cell_some p1 fun h => h], fun wz hz => by simp [hz.cell_some y3 fun h => h], fun wz hk => by simp [hlz wz hk], kf _, kf _, ?_⟩
          obtain ⟨g, hg'⟩ : ∃ g, g = wb.heap.size := ⟨_, rfl⟩
          rw [← hg'] at hgc ⊢
          generalize (wb.alloc (.cells #[.string b.name, i64 b.val, i64 b.next, .slice X b.L.length xc] 52)).drew = wc at *
          have hyb := hyb.nw nbc
          have hzb := hzb.nw nbc
          have hxb := hxb.nw nbc
          have n1 := n1.nw nbc
          have hMb := hM0.nw n1
          have hW := hM0.wide n1 (z := z) (by omega) hzb.lt
          have hVb : ∀ i, (V i ∨ i = z) → i < wc.heap.size := fun i hi => hi.elim (fun e => Nat.lt_of_lt_of_le (hVl i e) n1.size) fun e => e ▸ hzb.lt
          have hRCb := hRC.wide n1 (z := z) (by omega)
          have hRb : RB wc (.agg #[.string b.name, i64 b.val, i64 b.next, .slice X b.L.length xc]) b (fun i => V i ∨ i = z) := (hRw.ofl (T := fun i => V i ∨ i = z) fun i hi => hi.imp id fun e => by omega).nw n1
          have hyc : ∀ i, wc.cell? ⟨y, i, none⟩ = (chV c A ca B cb)[i]? := fun i => hyb.cell i
          clear y0 y1 y2 y3 y4 y5 y6 y7 y8 y9 hlk hlz hg0 y0b p1 x0
          have y0 := hyc 0
          have y1 := hyc 1
          have y2 := hyc 2
          have y3 := hyc 3
          have y4 := hyc 4
          have y5 := hyc 5
          have y6 := hyc 6
          have y7 := hyc 7
          have y8 := hyc 8
          have y9 := hyc 9
          have x0 := hxb.cell 0
          have g0 := hgc.cell 0
          have g1 := hgc.cell 1
          have g2 := hgc.cell 2
          have g3 := hgc.cell 3
          by_cases hk3 : c.kind = 3
          · have hk3' : (c.kind == 3) = true := by simpa using hk3
            have hie := beq_in c.box
            by_cases hin : c.box = inboxN
            · have hpl : plan T c = (11, 0, T) := by rw [hpl]; unfold plBox; rw [if_pos hk3, if_pos hin]
              rw [decide_eq_true hin] at hie
              simp -dsimp [go_sem, hk3', y3, hie]
              refine call (refused_spec 11 _) ?_
              rintro v w1 ⟨rfl, k1⟩
              have n1 := Kp.nw n1 k1
              have hz1 := Blk.nw hzb k1
              have z0c := hz1.cell 0
              have z1c := hz1.cell 1
              have z2c := hz1.cell 2
              have z0f := hz1.frozen 0
              have z1f := hz1.frozen 1
              have z2f := hz1.frozen 2
              simp -dsimp [go_sem, z0c, z1c, z2c, z0f, z1f, z2f]
              rw [hpl]
              exact ⟨.inl ⟨by simp, rfl⟩, n1.at_ (set3 w1 z _ _ _) fun k (e : k = z) => by omega⟩
            · have hpl : plan T c = (0, 0, T.turn c.user u (tGone u.bx c.box)) := by rw [hpl]; unfold plBox; rw [if_pos hk3, if_neg hin]
              rw [decide_eq_false hin] at hie
              have z0c := hzb.cell 0
              have z1c := hzb.cell 1
              have z2c := hzb.cell 2
              have z0f := hzb.frozen 0
              have z1f := hzb.frozen 1
              have z2f := hzb.frozen 2
              simp -dsimp [go_sem, hk3', y3, hie]
              simp [go_sem, z0c, z1c, z2c, z0f, z1f, z2f]
              have nf := fun a b c => n1.at_ (set3 wc z a b c) fun k (e : k = z) => by omega
              rw [hpl]
              exact ⟨.inr ⟨rfl, _, rfl, gone_does (hM0.nw (nf _ _ _)) ok hVl (nf _ _ _).size hu (hyb.kp (set3 wc z _ _ _) fun (e : y = z) => by omega) (hxb.kp (set3 wc z _ _ _) fun (e : x = z) => by omega) (by omega) (by omega)⟩, nf _ _ _⟩
          · have hk3' : (c.kind == 3) = false := by simpa using hk3
            by_cases hk4 : c.kind = 4
            · have hk4' : (c.kind == 4) = true := by simpa using hk4
              have hpl : plan T c = plRename T c u b := by rw [hpl]; unfold plBox; rw [if_neg hk3, if_pos hk4]
              simp -dsimp [go_sem, hk3', hk4', y0, y1, y2, y3, y4, y5, y6, y7, y8, y9, x0, g0, g1, g2, g3]
              refine call (renames_spec c _ _ wc hW ok hVb hu hRCb hRb) ?_
              rintro v w1 ⟨hP, k1⟩
              have hzW := (hzb.nw k1)
              have nW := (n1.nw k1)
              have z0c := hzW.cell 0
              have z1c := hzW.cell 1
              have z2c := hzW.cell 2
              have z0f := hzW.frozen 0
              have z1f := hzW.frozen 1
              have z2f := hzW.frozen 2
              obtain ⟨pf, pn, pe, rfl, hpf⟩ := PlanR.three hP
              rw [hpl]
              rcases hpf with rfl | ⟨fid, caps, rfl⟩
              · simp -dsimp [go_sem, z0c, z1c, z2c, z0f, z1f, z2f]
                exact ⟨PlanR.put hP (set3 _ z _ _ _) hzF hzV hzW.lt, nW.at_ (set3 _ z _ _ _) fun k (e : k = z) => by omega⟩
              · simp -dsimp [go_sem, z0c, z1c, z2c, z0f, z1f, z2f]
                exact ⟨PlanR.put hP (set3 _ z _ _ _) hzF hzV hzW.lt, nW.at_ (set3 _ z _ _ _) fun k (e : k = z) => by omega⟩
            · have hk4' : (c.kind == 4) = false := by simpa using hk4
              have hI := IsB.of hB.2
              have hll : b.L.length ≤ 1000000 := by have := hI.len; omega
              have hbl : ∀ m ∈ b.L, m.body.length ≤ 1000000000 := fun m hm => by have := (hI.all m hm).2.2.2.2; omega
              by_cases hk5 : c.kind = 5
              · have hk5' : (c.kind == 5) = true := by simpa using hk5
                have hpl : plan T c = plKeep T c.user u c.box (addB b c.flags c.date c.body).1 (addB b c.flags c.date c.body).2.1 (addB b c.flags c.date c.body).2.2 := by rw [hpl]; unfold plBox; rw [if_neg hk3, if_neg hk4, if_pos hk5]
                simp -dsimp [go_sem, hk3', hk4', hk5', y7, y8, y9, g0, g1, g2, g3]
                refine call (add_spec _ b _ c.flags c.date c.body B cb wc hRb hll hbl (hrB.nw n1) (by have := hI.next; omega)) ?_
                rintro v w2 ⟨⟨bv, rfl, hO⟩, k2⟩
                have hname := addB_name b c.flags c.date c.body
                obtain ⟨R, hR⟩ : ∃ R, R = addB b c.flags c.date c.body := ⟨_, rfl⟩
                rw [← hR] at hO hname hpl ⊢
                obtain ⟨R1, R2, R3⟩ := R
                simp only at hO hname hpl ⊢
                obtain ⟨A7, c7, rfl⟩ := hO.open_
                have n2 := n1.nw k2
                have ha2 : ∀ cs, Nw w2 (World.alloc w2 (.cells cs 52)) := fun cs => (Kp.refl _ w2).alloc _
                have x2 := (hxb.nw k2).cell 0
                have x2b := fun cs => (ha2 cs).cell_some x2 fun h => h
                simp -dsimp [go_sem, x2, x2b]
                have n3 := Kp.nw n2 (ha2 #[.string (Bx.name R1), i64 (Bx.val R1), i64 (Bx.next R1), (.slice A7 R1.L.length c7)])
                have hz3 := (hzb.nw k2).nw (ha2 #[.string (Bx.name R1), i64 (Bx.val R1), i64 (Bx.next R1), (.slice A7 R1.L.length c7)])
                have hR3 := ((hO.rb.ofl (T := fun i => V i ∨ i = z) fun i hi => .inl (hVb i hi))).nw (ha2 #[.string (Bx.name R1), i64 (Bx.val R1), i64 (Bx.next R1), (.slice A7 R1.L.length c7)])
                refine call (keeps_spec _ _ (hM0.wide n3 (z := z) (by omega) hz3.lt) (fun i hi => hi.elim (fun e => Nat.lt_of_lt_of_le (hVl i e) n3.size) fun e => e ▸ hz3.lt) hu (hname.1.trans hB.1) hR3 R2 R3) ?_
                rintro v w4 ⟨hP, k4⟩
                have hzW := (hz3.nw k4)
                have nW := (n3.nw k4)
                have z0c := hzW.cell 0
                have z1c := hzW.cell 1
                have z2c := hzW.cell 2
                have z0f := hzW.frozen 0
                have z1f := hzW.frozen 1
                have z2f := hzW.frozen 2
                obtain ⟨pf, pn, pe, rfl, hpf⟩ := PlanR.three hP
                rw [hpl]
                rcases hpf with rfl | ⟨fid, caps, rfl⟩
                · simp -dsimp [go_sem, z0c, z1c, z2c, z0f, z1f, z2f]
                  exact ⟨PlanR.put hP (set3 _ z _ _ _) hzF hzV hzW.lt, nW.at_ (set3 _ z _ _ _) fun k (e : k = z) => by omega⟩
                · simp -dsimp [go_sem, z0c, z1c, z2c, z0f, z1f, z2f]
                  exact ⟨PlanR.put hP (set3 _ z _ _ _) hzF hzV hzW.lt, nW.at_ (set3 _ z _ _ _) fun k (e : k = z) => by omega⟩
              · have hk5' : (c.kind == 5) = false := by simpa using hk5
                by_cases hk6 : c.kind = 6
                · have hk6' : (c.kind == 6) = true := by simpa using hk6
                  have hpl : plan T c = plKeep T c.user u c.box { b with L := b.L.map (mk1 c.uids c.mode c.flags) } (markN c.uids c.mode c.flags b.L) 0 := by rw [hpl]; unfold plBox; rw [if_neg hk3, if_neg hk4, if_neg hk5, if_pos hk6]
                  simp -dsimp [go_sem, hk3', hk4', hk5', hk6', y5, y6, y7, g0, g1, g2, g3]
                  refine call (mark_spec _ b _ c.uids c.mode c.flags A ca wc hRb hll hbl (hrA.nw n1) (by have := hX.uids.2; omega)) ?_
                  rintro v w2 ⟨⟨bv, rfl, hO⟩, k2⟩
                  have hnm : (⟨b.name, b.val, b.next, b.L.map (mk1 c.uids c.mode c.flags)⟩ : Bx).name = ⟨c.box.toArray⟩ := hB.1
                  obtain ⟨R1, hR1⟩ : ∃ R1 : Bx, R1 = ⟨b.name, b.val, b.next, b.L.map (mk1 c.uids c.mode c.flags)⟩ := ⟨_, rfl⟩
                  rw [← hR1] at hO hpl hnm
                  obtain ⟨A7, c7, rfl⟩ := hO.open_
                  have n2 := n1.nw k2
                  have ha2 : ∀ cs, Nw w2 (World.alloc w2 (.cells cs 52)) := fun cs => (Kp.refl _ w2).alloc _
                  have x2 := (hxb.nw k2).cell 0
                  have x2b := fun cs => (ha2 cs).cell_some x2 fun h => h
                  simp -dsimp [go_sem, x2, x2b]
                  have n3 := Kp.nw n2 (ha2 #[.string (Bx.name R1), i64 (Bx.val R1), i64 (Bx.next R1), (.slice A7 R1.L.length c7)])
                  have hz3 := (hzb.nw k2).nw (ha2 #[.string (Bx.name R1), i64 (Bx.val R1), i64 (Bx.next R1), (.slice A7 R1.L.length c7)])
                  have hR3 := ((hO.rb.ofl (T := fun i => V i ∨ i = z) fun i hi => .inl (hVb i hi))).nw (ha2 #[.string (Bx.name R1), i64 (Bx.val R1), i64 (Bx.next R1), (.slice A7 R1.L.length c7)])
                  refine call (keeps_spec _ _ (hM0.wide n3 (z := z) (by omega) hz3.lt) (fun i hi => hi.elim (fun e => Nat.lt_of_lt_of_le (hVl i e) n3.size) fun e => e ▸ hz3.lt) hu hnm hR3 (markN c.uids c.mode c.flags b.L : Int) 0) ?_
                  rintro v w4 ⟨hP, k4⟩
                  have hzW := (hz3.nw k4)
                  have nW := (n3.nw k4)
                  have z0c := hzW.cell 0
                  have z1c := hzW.cell 1
                  have z2c := hzW.cell 2
                  have z0f := hzW.frozen 0
                  have z1f := hzW.frozen 1
                  have z2f := hzW.frozen 2
                  obtain ⟨pf, pn, pe, rfl, hpf⟩ := PlanR.three hP
                  rw [hpl]
                  rcases hpf with rfl | ⟨fid, caps, rfl⟩
                  · simp -dsimp [go_sem, z0c, z1c, z2c, z0f, z1f, z2f]
                    exact ⟨PlanR.put hP (set3 _ z _ _ _) hzF hzV hzW.lt, nW.at_ (set3 _ z _ _ _) fun k (e : k = z) => by omega⟩
                  · simp -dsimp [go_sem, z0c, z1c, z2c, z0f, z1f, z2f]
                    exact ⟨PlanR.put hP (set3 _ z _ _ _) hzF hzV hzW.lt, nW.at_ (set3 _ z _ _ _) fun k (e : k = z) => by omega⟩
                · have hk6' : (c.kind == 6) = false := by simpa using hk6
                  by_cases hk7 : c.kind = 7
                  · have hk7' : (c.kind == 7) = true := by simpa using hk7
                    have hpl : plan T c = plKeep T c.user u c.box { b with L := stayB c.uids b.L } (goneB c.uids b.L).length 0 := by rw [hpl]; unfold plBox; rw [if_neg hk3, if_neg hk4, if_neg hk5, if_neg hk6, if_pos hk7]
                    simp -dsimp [go_sem, hk3', hk4', hk5', hk6', hk7', y5, g0, g1, g2, g3]
                    refine call (expunge_spec _ b _ c.uids A ca wc hRb hll hbl (hrA.nw n1) (by have := hX.uids.2; omega)) ?_
                    rintro v w2 ⟨⟨bv, A8, n8, c8, rfl, hn8, hgc8, hO, hr8, ho8⟩, k2⟩
                    have hnm : (⟨b.name, b.val, b.next, stayB c.uids b.L⟩ : Bx).name = ⟨c.box.toArray⟩ := hB.1
                    have hn8 : n8 = (goneB c.uids b.L).length := by rw [hn8]; simp [srtI]
                    subst hn8
                    obtain ⟨R1, hR1⟩ : ∃ R1 : Bx, R1 = ⟨b.name, b.val, b.next, stayB c.uids b.L⟩ := ⟨_, rfl⟩
                    rw [← hR1] at hO hpl hnm
                    obtain ⟨A7, c7, rfl⟩ := hO.open_
                    have n2 := n1.nw k2
                    have ha2 : ∀ cs, Nw w2 (World.alloc w2 (.cells cs 52)) := fun cs => (Kp.refl _ w2).alloc _
                    have x2 := (hxb.nw k2).cell 0
                    have x2b := fun cs => (ha2 cs).cell_some x2 fun h => h
                    simp -dsimp [go_sem, x2, x2b]
                    have n3 := Kp.nw n2 (ha2 #[.string (Bx.name R1), i64 (Bx.val R1), i64 (Bx.next R1), (.slice A7 R1.L.length c7)])
                    have hz3 := (hzb.nw k2).nw (ha2 #[.string (Bx.name R1), i64 (Bx.val R1), i64 (Bx.next R1), (.slice A7 R1.L.length c7)])
                    have hR3 := ((hO.rb.ofl (T := fun i => V i ∨ i = z) fun i hi => .inl (hVb i hi))).nw (ha2 #[.string (Bx.name R1), i64 (Bx.val R1), i64 (Bx.next R1), (.slice A7 R1.L.length c7)])
                    refine call (keeps_spec _ _ (hM0.wide n3 (z := z) (by omega) hz3.lt) (fun i hi => hi.elim (fun e => Nat.lt_of_lt_of_le (hVl i e) n3.size) fun e => e ▸ hz3.lt) hu hnm hR3 ((goneB c.uids b.L).length : Int) 0) ?_
                    rintro v w4 ⟨hP, k4⟩
                    have hzW := (hz3.nw k4)
                    have nW := (n3.nw k4)
                    have z0c := hzW.cell 0
                    have z1c := hzW.cell 1
                    have z2c := hzW.cell 2
                    have z0f := hzW.frozen 0
                    have z1f := hzW.frozen 1
                    have z2f := hzW.frozen 2
                    obtain ⟨pf, pn, pe, rfl, hpf⟩ := PlanR.three hP
                    rw [hpl]
                    rcases hpf with rfl | ⟨fid, caps, rfl⟩
                    · simp -dsimp [go_sem, z0c, z1c, z2c, z0f, z1f, z2f]
                      exact ⟨PlanR.put hP (set3 _ z _ _ _) hzF hzV hzW.lt, nW.at_ (set3 _ z _ _ _) fun k (e : k = z) => by omega⟩
                    · simp -dsimp [go_sem, z0c, z1c, z2c, z0f, z1f, z2f]
                      exact ⟨PlanR.put hP (set3 _ z _ _ _) hzF hzV hzW.lt, nW.at_ (set3 _ z _ _ _) fun k (e : k = z) => by omega⟩
                  · have hk7' : (c.kind == 7) = false := by simpa using hk7
                    have hpl : plan T c = plCopy T c u b := by rw [hpl]; unfold plBox; rw [if_neg hk3, if_neg hk4, if_neg hk5, if_neg hk6, if_neg hk7]
                    simp -dsimp [go_sem, hk3', hk4', hk5', hk6', hk7', y0, y1, y2, y3, y4, y5, y6, y7, y8, y9, x0, g0, g1, g2, g3]
                    refine call (copies_spec c _ _ wc hW ok hVb hu hRCb hX.uids.2 hRb hB.2) ?_
                    rintro v w1 ⟨hP, k1⟩
                    have hzW := (hzb.nw k1)
                    have nW := (n1.nw k1)
                    have z0c := hzW.cell 0
                    have z1c := hzW.cell 1
                    have z2c := hzW.cell 2
                    have z0f := hzW.frozen 0
                    have z1f := hzW.frozen 1
                    have z2f := hzW.frozen 2
                    obtain ⟨pf, pn, pe, rfl, hpf⟩ := PlanR.three hP
                    rw [hpl]
                    rcases hpf with rfl | ⟨fid, caps, rfl⟩
                    · simp -dsimp [go_sem, z0c, z1c, z2c, z0f, z1f, z2f]
                      exact ⟨PlanR.put hP (set3 _ z _ _ _) hzF hzV hzW.lt, nW.at_ (set3 _ z _ _ _) fun k (e : k = z) => by omega⟩
                    · simp -dsimp [go_sem, z0c, z1c, z2c, z0f, z1f, z2f]
                      exact ⟨PlanR.put hP (set3 _ z _ _ _) hzF hzV hzW.lt, nW.at_ (set3 _ z _ _ _) fun k (e : k = z) => by omega⟩
end Go.Proofs.YtipdndmfngpbfaaGreatDoor

