/-
  A ledger: Drop walked; a ledger in a law. By the session itself.
-/
import Derived.Test.YthonmjgagblogaaLgH
namespace Go.Proofs.Ythonmjgagblogaa
set_option linter.unusedSimpArgs false
set_option linter.unusedVariables false
set_option maxRecDepth 100000
set_option maxHeartbeats 2000000
open Go.Vc Go.RowKit

theorem ldrop_spec (l g : Nat) (p : Nm) (D : Dsk) (L : Led) (F G V : Nat → Prop) (w : World) (h : LS w l g p D L F G V) (hp : p.length ≤ 20) :
    Cal Try.prog 43 #[.pointer (some ⟨l, 0, none⟩)] w fun v w' => v = i64 (lDrop D p L).2.2 ∧ ChR w w' l g p (lDrop D p L).1 (lDrop D p L).2.1 F G V := by
  have e0 : lDrop D p L = if L.dead then (D, L, 9) else ((rmvs D [logN p, imgN p]).1, { L with dead := true }, (rmvs D [logN p, imgN p]).2) := rfl
  have hlN : (logN p).length = p.length + 4 := by simp [logN]
  have hiN : (imgN p).length = p.length + 4 := by simp [imgN]
  obtain ⟨B, d, A, c, vs, hb, hr, ho, hd', hA, hv, hAl, h1, h2, h3⟩ := id h.lg
  have c5 := hb.cell 5
  have f5 := hb.frozen 5
  refine enter Try.mixed Try.func43 rfl (by kernel_rfl) ?_
  cases hd : L.dead with
  | true =>
    rw [hd] at c5
    rw [hd, if_pos rfl] at e0
    rw [e0]
    simp -dsimp [go_sem, c5]
    exact ⟨F, G, V, h, Ch.nw (Kp.refl _ _)⟩
  | false =>
    rw [hd] at c5
    rw [hd, if_neg (by simp)] at e0
    have hVl : V l := h2 _ (h1 _ (.inl rfl))
    have ks : Kp (At l) w (w.setCell ⟨l, 5, none⟩ (.bool true)) := (Kp.refl _ _).setCell_at _ _
    have lg1 : Lg (w.setCell ⟨l, 5, none⟩ (.bool true)) l g p { L with dead := true } G V :=
      ⟨B, d, A, c, vs, by simpa using hb.set 5 (.bool true), hr.kp ks (fun a ha hx e => ho a ha hx ((show a.block = l from e) ▸ hVl)), ho, hd', hA.kp ks hAl, hv.gr (ks.mono fun i _ (e : i = l) => e ▸ hVl) (fun i hi => .inl hi), hAl, h1, h2, fun k hk => Nat.lt_of_lt_of_le (h3 k hk) ks.size⟩
    obtain ⟨hL1, ch1⟩ := Ch.own h lg1 (fun _ h => .inl h) (fun _ h => .inl h) (fun _ h => h) (ks.mono fun k _ (e : k = l) => h1 k (.inl e))
    simp -dsimp [go_sem, c5, f5]
    generalize w.setCell ⟨l, 5, none⟩ (.bool true) = w1 at *
    have q0 := LS.c0' hL1
    have kq : Kp F w1 (World.drew w1) := (Kp.refl _ _).drew
    have kqN : Nw w1 (World.drew w1) := (Kp.refl _ _).drew
    have hqF := LS.lF hL1
    have q0d := kq.cell_some q0 hqF
    have q1d := kqN.cell_some (LS.c1' hL1) fun h => h
    refine draw (.take 0 (.take 1 (.take 2 (.take 3 (.take 4 (.take 6 (.alt 5 (.alt 7 (.alt 8 (.alt 9 (.take 10 .done) .stop) .stop) .stop) .stop))))))) (by kernel_rfl) (fun wz => Kp F w1 wz) kq ?_
    simp -dsimp [go_sem, q0d]
    refine ⟨fun wz hz => by simp [hz.cell_some q0 hqF], ?_⟩
    refine call (logname_spec l p w1.drew q1d hp) ?_
    rintro v wq ⟨rfl, rfl⟩
    refine ⟨kq, ?_⟩
    simp -dsimp [go_sem]
    refine call (imgname_spec l p w1.drew q1d hp) ?_
    rintro v wq ⟨rfl, rfl⟩
    refine ⟨kq, ?_⟩
    simp -dsimp [go_sem]
    have kb : Nw w1 (w1.alloc (.cells #[str (logN p), str (imgN p)] 9)).drew := ((Kp.refl _ _).alloc _).drew
    refine ⟨Nw.kp kb _, ?_⟩
    refine call (removes_spec [logN p, imgN p] _ 2 g D F _ (hL1.dk.nw kb) ((Rd.fresh (w := w1) rfl rfl).nw ((Kp.refl _ _).drew)) (hL1.dk.ofl_new (Nat.le_refl _) _) (by simp) (by simp; omega)) ?_
    rintro v w9 ⟨rfl, F9, hD9, hG9, hK9⟩
    have hK19 := (Nw.kp kb F).trans hK9 fun _ _ h => h
    refine ⟨hK19, ?_⟩
    obtain ⟨h9, ch9⟩ := Ch.disk hL1 hD9 (Gr.wide hG9 kb.size (Nat.le_refl _)) hK19
    rw [e0]
    simp -dsimp [go_sem]
    exact ⟨_, _, _, h9, ch1.trans ch9⟩
theorem lapp_nil (n x : Nat) (X : Option Addr) (w : World) : Cal Try.prog 41 #[.pointer none, .slice X n x] w fun v w' => v = .tuple #[i64 0, i64 1] ∧ w' = w := by
  refine enter Try.mixed Try.func41 rfl (by kernel_rfl) ?_
  simp -dsimp [go_sem]
theorem lwrite_nil (i : Int) (n x : Nat) (X : Option Addr) (w : World) : Cal Try.prog 42 #[.pointer none, i64 i, .slice X n x] w fun v w' => v = i64 1 ∧ w' = w := by
  refine enter Try.mixed Try.func42 rfl (by kernel_rfl) ?_
  simp -dsimp [go_sem]
theorem ldrop_nil (w : World) : Cal Try.prog 43 #[.pointer none] w fun v w' => v = i64 1 ∧ w' = w := by
  refine enter Try.mixed Try.func43 rfl (by kernel_rfl) ?_
  simp -dsimp [go_sem]
/-- A ledger and its disk, all of it new since w0. -/
def Lw (w0 w : World) (l g : Nat) (p : Nm) (D : Dsk) (L : Led) : Prop := ∃ F G V, LS w l g p D L F G V ∧ L.Ok ∧ (∀ k, V k → w0.heap.size ≤ k) ∧ Nw w0 w
section
variable {w0 w w1 : World} {l g : Nat} {p : Nm} {D : Dsk} {L : Led}
theorem Lw.nw (T : Lw w0 w l g p D L) (k : Nw w w1) : Lw w0 w1 l g p D L := by
  obtain ⟨F, G, V, h1, h2, h3, h4⟩ := T
  exact ⟨F, G, V, h1.nw k, h2, h3, h4.nw k⟩
theorem Lw.on (T : Lw w0 w l g p D L) : Nw w0 w := by
  obtain ⟨F, G, V, h1, h2, h3, h4⟩ := T
  exact h4
theorem Lw.ok (T : Lw w0 w l g p D L) : D.Ok := by
  obtain ⟨F, G, V, h1, h2, h3, h4⟩ := T
  exact h1.dk.ok
theorem Lw.lok (T : Lw w0 w l g p D L) : L.Ok := by
  obtain ⟨F, G, V, h1, h2, h3, h4⟩ := T
  exact h2
theorem Lw.of {D1 : Dsk} {L1 : Led} {F G V : Nat → Prop} (h : LS w l g p D L F G V) (hV : ∀ k, V k → w0.heap.size ≤ k) (n : Nw w0 w) (c : ChR w w1 l g p D1 L1 F G V) (ok : L1.Ok) : Lw w0 w1 l g p D1 L1 := by
  obtain ⟨F1, G1, V1, h1, ch⟩ := c
  exact ⟨F1, G1, V1, h1, ok, fun k hk => (ch.gV k hk).elim (hV k) fun e => Nat.le_trans n.size e.1, n.at_ ch.kp fun k hk => hk.elim (fun e => hV k (h.fv k e)) fun e => hV k (h.lg.gv k e)⟩
/-- An append of what lay there before, or lies off all that turns. -/
theorem Lw.append (T : Lw w0 w l g p D L) (hp : p.length ≤ 20) (k1 : Nw w w1) (b : List UInt8) (X : Option Addr) (x : Nat) (hr : Rd w1 X (b.map u8)) (hX : Rd w0 X (b.map u8) ∨ ∀ k, blk X k → w.heap.size ≤ k) (hx : b.length ≤ x) (hb : b.length ≤ 140737488355328) :
    Cal Try.prog 41 #[.pointer (some ⟨l, 0, none⟩), .slice X b.length x] w1 fun v w' => v = .tuple #[i64 (lApp D p L b).2.2.1, i64 (lApp D p L b).2.2.2] ∧ Lw w0 w' l g p (lApp D p L b).1 (lApp D p L b).2.1 := by
  obtain ⟨F, G, V, h1, h2, h3, h4⟩ := T
  refine (lapp_spec l g p D L F G V b X x w1 (h1.nw k1) hp h2 hr ?_ hx hb).mono ?_
  · rcases hX with hX | hX
    · exact hX.ofl fun k hk => h3 k hk
    · intro a ha _ hv
      have e1 := hX a.block (by rw [ha]; rfl)
      have e2 := h1.lg.lt _ hv
      omega
  · rintro v w' ⟨e, c⟩
    exact ⟨e, Lw.of (h1.nw k1) h3 (h4.nw k1) c (lApp_ok h2 D p b)⟩
theorem Lw.write (T : Lw w0 w l g p D L) (hp : p.length ≤ 20) (k1 : Nw w w1) (n : Int) (b : List UInt8) (X : Option Addr) (x : Nat) (hr : Rd w1 X (b.map u8)) (hX : Rd w0 X (b.map u8) ∨ ∀ k, blk X k → w.heap.size ≤ k) (hx : b.length ≤ x) (hb : b.length ≤ 140737488355328) :
    Cal Try.prog 42 #[.pointer (some ⟨l, 0, none⟩), i64 n, .slice X b.length x] w1 fun v w' => v = i64 (lWrite D p L n b).2.2 ∧ Lw w0 w' l g p (lWrite D p L n b).1 (lWrite D p L n b).2.1 := by
  obtain ⟨F, G, V, h1, h2, h3, h4⟩ := T
  refine (lwrite_spec l g p D L F G V n b X x w1 (h1.nw k1) hp h2 hr ?_ hx hb).mono ?_
  · rcases hX with hX | hX
    · exact hX.ofl fun k hk => h3 k hk
    · intro a ha _ hv
      have e1 := hX a.block (by rw [ha]; rfl)
      have e2 := h1.lg.lt _ hv
      omega
  · rintro v w' ⟨e, c⟩
    exact ⟨e, Lw.of (h1.nw k1) h3 (h4.nw k1) c (lWrite_ok h2 D p n b)⟩
theorem Lw.last (T : Lw w0 w l g p D L) : Cal Try.prog 44 #[.pointer (some ⟨l, 0, none⟩)] w fun v w' => v = i64 L.last ∧ Nw w w' := by
  obtain ⟨F, G, V, h1, h2, h3, h4⟩ := T
  exact last_spec l g p L G V w h1.lg h2
theorem Lw.base_ (T : Lw w0 w l g p D L) : Cal Try.prog 46 #[.pointer (some ⟨l, 0, none⟩)] w fun v w' => Nw w w' ∧ ∃ u, v = .tuple #[i64 L.base, u] ∧ Bs w' u L.data w.heap.size := by
  obtain ⟨F, G, V, h1, h2, h3, h4⟩ := T
  exact base_spec l g p L G V w h1.lg h2
theorem Lw.at_ (T : Lw w0 w l g p D L) (i : Int) (hi : -9223372036854775808 ≤ i) : Cal Try.prog 45 #[.pointer (some ⟨l, 0, none⟩), i64 i] w fun v w' => Nw w w' ∧ ∃ u, v = .tuple #[u, i64 (lAt L i).2] ∧ Bs w' u (lAt L i).1 w.heap.size := by
  obtain ⟨F, G, V, h1, h2, h3, h4⟩ := T
  exact at_spec i l g p L G V w h1.lg h2 hi
end
end Go.Proofs.Ythonmjgagblogaa
