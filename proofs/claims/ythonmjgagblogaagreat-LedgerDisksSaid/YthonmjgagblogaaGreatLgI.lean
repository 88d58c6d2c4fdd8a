/-
  A ledger: Drop walked; a ledger in a law. By the session itself.
-/
import Derived.Test.YthonmjgagblogaaGreatLgH
namespace Go.Proofs.YthonmjgagblogaaGreat
set_option linter.unusedSimpArgs false
set_option linter.unusedVariables false
set_option maxRecDepth 100000
set_option maxHeartbeats 2000000
open Go.Vc Go.RowKit

theorem lapp_nil (n x : Nat) (X : Option Addr) (w : World) : Cal Tryz.prog 22 #[.pointer none, .slice X n x] w fun v w' => v = .tuple #[i64 0, i64 1] ∧ w' = w := by
  refine enter Tryz.mixed Tryz.func22 rfl (by kernel_rfl) ?_
  simp -dsimp [go_sem]
theorem lwrite_nil (i : Int) (n x : Nat) (X : Option Addr) (w : World) : Cal Tryz.prog 23 #[.pointer none, i64 i, .slice X n x] w fun v w' => v = i64 1 ∧ w' = w := by
  refine enter Tryz.mixed Tryz.func23 rfl (by kernel_rfl) ?_
  simp -dsimp [go_sem]
/-- A ledger and its disk, all of it new since w0. -/
def Lw (w0 w : World) (l g : Nat) (p : Nm) (D : Dsk) (L : Led) : Prop := ∃ F G V, LS w l g p D L F G V ∧ L.Ok ∧ (∀ k, V k → w0.heap.size ≤ k) ∧ Nw w0 w
section
variable {w0 w w1 : World} {l g : Nat} {p : Nm} {D : Dsk} {L : Led}
theorem Lw.nw (T : Lw w0 w l g p D L) (k : Nw w w1) : Lw w0 w1 l g p D L := by
  obtain ⟨F, G, V, h1, h2, h3, h4⟩ := T
  exact ⟨F, G, V, h1.nw k, h2, h3, h4.nw k⟩
theorem Lw.on (T : Lw w0 w l g p D L) : Nw w0 w := by
  obtain ⟨F, G, V, h1, h2, h3, h4⟩ := T
  exact h4
theorem Lw.ok (T : Lw w0 w l g p D L) : D.Ok := by
  obtain ⟨F, G, V, h1, h2, h3, h4⟩ := T
  exact h1.dk.ok
theorem Lw.lok (T : Lw w0 w l g p D L) : L.Ok := by
  obtain ⟨F, G, V, h1, h2, h3, h4⟩ := T
  exact h2
theorem Lw.of {D1 : Dsk} {L1 : Led} {F G V : Nat → Prop} (h : LS w l g p D L F G V) (hV : ∀ k, V k → w0.heap.size ≤ k) (n : Nw w0 w) (c : ChR w w1 l g p D1 L1 F G V) (ok : L1.Ok) : Lw w0 w1 l g p D1 L1 := by
  obtain ⟨F1, G1, V1, h1, ch⟩ := c
  exact ⟨F1, G1, V1, h1, ok, fun k hk => (ch.gV k hk).elim (hV k) fun e => Nat.le_trans n.size e.1, n.at_ ch.kp fun k hk => hk.elim (fun e => hV k (h.fv k e)) fun e => hV k (h.lg.gv k e)⟩
/-- An append of what lay there before, or lies off all that turns. -/
theorem Lw.append (T : Lw w0 w l g p D L) (hp : p.length ≤ 20) (k1 : Nw w w1) (b : List UInt8) (X : Option Addr) (x : Nat) (hr : Rd w1 X (b.map u8)) (hX : Rd w0 X (b.map u8) ∨ ∀ k, blk X k → w.heap.size ≤ k) (hx : b.length ≤ x) (hb : b.length ≤ 140737488355328) :
    Cal Tryz.prog 22 #[.pointer (some ⟨l, 0, none⟩), .slice X b.length x] w1 fun v w' => v = .tuple #[i64 (lApp D p L b).2.2.1, i64 (lApp D p L b).2.2.2] ∧ Lw w0 w' l g p (lApp D p L b).1 (lApp D p L b).2.1 := by
  obtain ⟨F, G, V, h1, h2, h3, h4⟩ := T
  refine (lapp_spec l g p D L F G V b X x w1 (h1.nw k1) hp h2 hr ?_ hx hb).mono ?_
  · rcases hX with hX | hX
    · exact hX.ofl fun k hk => h3 k hk
    · intro a ha _ hv
      have e1 := hX a.block (by rw [ha]; rfl)
      have e2 := h1.lg.lt _ hv
      omega
  · rintro v w' ⟨e, c⟩
    exact ⟨e, Lw.of (h1.nw k1) h3 (h4.nw k1) c (lApp_ok h2 D p b)⟩
theorem Lw.write (T : Lw w0 w l g p D L) (hp : p.length ≤ 20) (k1 : Nw w w1) (n : Int) (b : List UInt8) (X : Option Addr) (x : Nat) (hr : Rd w1 X (b.map u8)) (hX : Rd w0 X (b.map u8) ∨ ∀ k, blk X k → w.heap.size ≤ k) (hx : b.length ≤ x) (hb : b.length ≤ 140737488355328) :
    Cal Tryz.prog 23 #[.pointer (some ⟨l, 0, none⟩), i64 n, .slice X b.length x] w1 fun v w' => v = i64 (lWrite D p L n b).2.2 ∧ Lw w0 w' l g p (lWrite D p L n b).1 (lWrite D p L n b).2.1 := by
  obtain ⟨F, G, V, h1, h2, h3, h4⟩ := T
  refine (lwrite_spec l g p D L F G V n b X x w1 (h1.nw k1) hp h2 hr ?_ hx hb).mono ?_
  · rcases hX with hX | hX
    · exact hX.ofl fun k hk => h3 k hk
    · intro a ha _ hv
      have e1 := hX a.block (by rw [ha]; rfl)
      have e2 := h1.lg.lt _ hv
      omega
  · rintro v w' ⟨e, c⟩
    exact ⟨e, Lw.of (h1.nw k1) h3 (h4.nw k1) c (lWrite_ok h2 D p n b)⟩
theorem Lw.last (T : Lw w0 w l g p D L) : Cal Tryz.prog 25 #[.pointer (some ⟨l, 0, none⟩)] w fun v w' => v = i64 L.last ∧ Nw w w' := by
  obtain ⟨F, G, V, h1, h2, h3, h4⟩ := T
  exact last_spec l g p L G V w h1.lg h2
theorem Lw.base_ (T : Lw w0 w l g p D L) : Cal Tryz.prog 24 #[.pointer (some ⟨l, 0, none⟩)] w fun v w' => Nw w w' ∧ ∃ u, v = .tuple #[i64 L.base, u] ∧ Bs w' u L.data w.heap.size := by
  obtain ⟨F, G, V, h1, h2, h3, h4⟩ := T
  exact base_spec l g p L G V w h1.lg h2
theorem Lw.at_ (T : Lw w0 w l g p D L) (i : Int) (hi : -9223372036854775808 ≤ i) : Cal Tryz.prog 41 #[.pointer (some ⟨l, 0, none⟩), i64 i] w fun v w' => Nw w w' ∧ ∃ u, v = .tuple #[u, i64 (lAt L i).2] ∧ Bs w' u (lAt L i).1 w.heap.size := by
  obtain ⟨F, G, V, h1, h2, h3, h4⟩ := T
  exact at_spec i l g p L G V w h1.lg h2 hi
end
end Go.Proofs.YthonmjgagblogaaGreat
