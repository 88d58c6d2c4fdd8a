/-
  Read, Fuse, Crash of a disk walked. By the session itself.
-/
import Derived.Test.YthonmjgagblogaaGreatDkD
namespace Go.Proofs.YthonmjgagblogaaGreat
set_option linter.unusedSimpArgs false
set_option linter.unusedVariables false
set_option maxRecDepth 100000
set_option maxHeartbeats 1000000
open Go.Vc Go.RowKit

theorem _root_.Go.Vc.Ow.cap {w : World} {e : TypeId} {sz n c c' : Nat} {A : Option Addr} {xs : List Value} (h : Ow w e sz A n c xs) (h1 : n ≤ c') (h2 : c' ≤ c) : Ow w e sz A n c' xs := by
  obtain ⟨g1, g2, g3, g4⟩ := h
  refine ⟨g1, h1, Nat.le_trans h2 g3, ?_⟩
  rcases g4 with ⟨rfl, rfl⟩ | ⟨g, cur, rfl, hg, h5, h6⟩
  · exact .inl ⟨rfl, by omega⟩
  · exact .inr ⟨g, cur, rfl, hg, Nat.le_trans (Nat.mul_le_mul_right _ h2) h5, h6⟩
def dRead (D : Dsk) (s : Nm) : List UInt8 × Nat := match tLook D.fs s with
  | none => ([], 7)
  | some x => (x.b, 0)
theorem dRead_len {D : Dsk} (ok : D.Ok) (a : Nm) : (dRead D a).1.length ≤ 1073741824 := by
  have h1 := ok.used
  have h2 := ok.room
  unfold dRead
  cases hl : tLook D.fs a with
  | none => simp
  | some f =>
    have h3 := sumv_ge (fun f : Fil => f.b.length) hl
    have h5 : D.used = sumv (fun f : Fil => f.b.length) D.fs := rfl
    simp only
    omega
theorem dread_spec (s : Nm) (g : Nat) (D : Dsk) (F : Nat → Prop) (w : World) (h : Dk w g D F) :
    Cal Tryz.prog 39 #[.pointer (some ⟨g, 0, none⟩), str s] w fun v w' => Nw w w' ∧ ∃ u, v = .tuple #[u, i64 (dRead D s).2] ∧ Bs w' u (dRead D s).1 w.heap.size := by
  obtain ⟨ok, r, z, ptr, Fs, h⟩ := h
  have K : KeyS Tryz.prog 9 (fun s : Nm => str s) := keyL (by kernel_rfl)
  have hmt : Tryz.prog.underlying 38 = some (.map 9 47) := by kernel_rfl
  have g1 := h.blk.cell 1
  have hlk := lookup_mp K hmt (z := .pointer none) (w := w) rfl h.mp s false
  refine enter Tryz.mixed Tryz.func39 rfl (by kernel_rfl) ?_
  cases hx : tLook D.fs s with
  | none =>
    have e : dRead D s = ([], 7) := by unfold dRead; rw [hx]
    have hm1 : Mf ptr D.fs s = none := by simp [Mf, hx]
    rw [hm1] at hlk
    simp -dsimp [go_sem, g1, hlk]
    rw [e]
    exact ⟨Kp.refl _ _, _, ⟨rfl, rfl⟩, Bs.nil _ _⟩
  | some x =>
    have e : dRead D s = (x.b, 0) := by unfold dRead; rw [hx]
    have hm1 : Mf ptr D.fs s = some (.pointer (some ⟨ptr s, 0, none⟩)) := by simp [Mf, hx]
    rw [hm1] at hlk
    obtain ⟨u, G, hb, hBf, hnG, hin, hlt⟩ := h.files s x hx
    obtain ⟨A, c, rfl, ho, ho1, ho2⟩ := id hBf
    have h0 := hb.cell 0
    have hxu : x.b.length ≤ D.used := sumv_ge (fun f : Fil => f.b.length) hx
    have := ok.used
    have := ok.room
    simp -dsimp [go_sem, g1, hlk, h0]
    refine call (clone_spec A c x.b w ho.rd (by omega)) ?_
    rintro v w1 ⟨hB, hk⟩
    simp -dsimp [go_sem]
    rw [e]
    exact ⟨hk, v, ⟨rfl, rfl⟩, hB⟩

def dFuse (D : Dsk) (n : Int) : Dsk := { D with left := if n < 0 then none else some n.toNat }
/-- What a crash leaves of a file. -/
def cutF (d : Nat) (x : Fil) : Fil := ⟨x.b.take (x.l + d % (x.b.length - x.l + 1)), x.l + d % (x.b.length - x.l + 1)⟩
def dCrash (D : Dsk) (n : Int) : Dsk := { D with fs := mapv (cutF n.toNat) D.fs, left := none }
theorem cutF_le (d : Nat) {x : Fil} (h : x.l ≤ x.b.length) : (cutF d x).l ≤ x.b.length ∧ (cutF d x).b.length = (cutF d x).l := by
  have : d % (x.b.length - x.l + 1) < x.b.length - x.l + 1 := Nat.mod_lt _ (by omega)
  unfold cutF
  simp only [List.length_take]
  omega
theorem sumv_mapv_le {β : Type} (n : β → Nat) (c : β → β) (l : List (Nm × β)) (h : ∀ x ∈ l, n (c x.2) ≤ n x.2) : sumv n (mapv c l) ≤ sumv n l := by
  unfold sumv mapv
  induction l with
  | nil => simp
  | cons x l ih =>
    have h1 := h x (by simp)
    have h2 := ih fun y hy => h y (by simp [hy])
    simp only [List.map_cons, List.sum_cons] at h2 ⊢
    omega
theorem Dsk.Ok.crash {D : Dsk} (h : D.Ok) (n : Int) : (dCrash D n).Ok := by
  have hl : ∀ x ∈ D.fs, x.2.l ≤ x.2.b.length := fun ⟨s, x⟩ hx => h.lasts s x ((tLook_mem h.srt).2 hx)
  have hu : (dCrash D n).used ≤ D.used := sumv_mapv_le _ _ _ fun x hx => by
    have := cutF_le n.toNat (hl x hx)
    omega
  refine ⟨h.srt.mapv _, h.room, Nat.le_trans hu h.used, by simpa [dCrash, mapv] using h.many, fun s f hf => ?_, by simp [dCrash], fun s f hf => ?_⟩
  · unfold dCrash at hf
    simp only [tLook_mapv] at hf
    cases hx : tLook D.fs s with
    | none => rw [hx] at hf; cases hf
    | some x =>
      rw [hx] at hf
      cases hf
      have := cutF_le n.toNat (h.lasts s x hx)
      omega
  · unfold dCrash at hf
    simp only [tLook_mapv] at hf
    cases hx : tLook D.fs s with
    | none => rw [hx] at hf; cases hf
    | some x => exact h.names s x hx
end Go.Proofs.YthonmjgagblogaaGreat
