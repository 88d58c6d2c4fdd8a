/-
  What the small functions of octet come to: copies of bytes, the Reader's looks. By the session itself.
-/
import Derived.Test.YtindfpaahlijeaaDoorClone
namespace Go.Proofs.YtindfpaahlijeaaDoor
set_option linter.unusedSimpArgs false
set_option linter.unusedVariables false
set_option maxRecDepth 100000
open Go.Vc Go.RowKit
/-- A Reader at block g: what is left, whether it erred; its row lies outside S. -/
def Rdr (w : World) (g : Nat) (l : List UInt8) (bad : Bool) (F : Nat → Prop) : Prop :=
  ∃ A c, Blk w g 74 #[.slice A l.length c, .bool bad] ∧ l.length ≤ c ∧ c ≤ maxLen ∧ Rd w A (l.map u8) ∧ Off A (At g) ∧ (bad = true → l = []) ∧ (∀ k, k = g ∨ blk A k → F k) ∧ (∀ k, F k → k < w.heap.size)

theorem Rdr.kp_ {S : Nat → Prop} {w w' : World} {g : Nat} {l : List UInt8} {bad : Bool} {F : Nat → Prop} (h : Rdr w g l bad F) (k : Kp S w w') (hd : ∀ i, F i → ¬ S i) : Rdr w' g l bad F := by
  obtain ⟨A, c, hb, h1, h2, hr, hg, h3, hF, hFl⟩ := h
  exact ⟨A, c, hb.kp k (hd _ (hF _ (.inl rfl))), h1, h2, hr.kp k ((Off.of_blk fun i hi => hd _ (hF _ (.inr hi))).l _), hg, h3, hF, fun i hi => Nat.lt_of_lt_of_le (hFl i hi) k.size⟩
theorem Rdr.nw {w w' : World} {g : Nat} {l : List UInt8} {bad : Bool} {F : Nat → Prop} (h : Rdr w g l bad F) (k : Nw w w') : Rdr w' g l bad F := h.kp_ k fun _ _ h => h
theorem Rdr.in_ {w : World} {g : Nat} {l : List UInt8} {bad : Bool} {F : Nat → Prop} (h : Rdr w g l bad F) : F g := by
  obtain ⟨A, c, hb, h1, h2, hr, hg, h3, hF, hFl⟩ := h
  exact hF _ (.inl rfl)

theorem good_spec (g : Nat) (l : List UInt8) (bad : Bool) (F : Nat → Prop) (w : World) (h : Rdr w g l bad F) :
    Cal Tryd.prog 24 #[.pointer (some ⟨g, 0, none⟩)] w fun v w' => v = .bool (!bad) ∧ w = w' := by
  obtain ⟨A, c, hb, _⟩ := h
  have h1 := hb.cell 1
  refine enter Tryd.mixed Tryd.func24 rfl (by kernel_rfl) ?_
  simp -dsimp [go_sem, h1]

theorem bad_spec (g : Nat) (l : List UInt8) (bad : Bool) (F : Nat → Prop) (w : World) (h : Rdr w g l bad F) :
    Cal Tryd.prog 56 #[.pointer (some ⟨g, 0, none⟩)] w fun v w' => v = .tuple #[] ∧ Rdr w' g [] true F ∧ Kp (At g) w w' := by
  obtain ⟨A, c, hb, hc, hcm, hr, ho, hbad, hF, hFl⟩ := h
  have h0 := hb.cell 0
  have h1 := hb.cell 1
  have f0 := hb.frozen 0
  have f1 := hb.frozen 1
  refine enter Tryd.mixed Tryd.func56 rfl (by kernel_rfl) ?_
  simp -dsimp [go_sem, h0, h1, f0, f1]
  refine ⟨⟨none, 0, ?_, Nat.le_refl _, by simp, Rd.nil _ _, by simp [Off], by simp, ?_⟩, ?_⟩
  · simpa using (hb.set 0 _).set 1 _
  · constructor
    · rintro k (rfl | h)
      · exact hF _ (.inl rfl)
      · exact h.elim
    · simpa using hFl
  · exact ((Kp.refl _ w).setCell_at _ _).setCell_at _ _

theorem whole_spec (g : Nat) (l : List UInt8) (bad : Bool) (F : Nat → Prop) (w : World) (h : Rdr w g l bad F) :
    Cal Tryd.prog 25 #[.pointer (some ⟨g, 0, none⟩)] w fun v w' => v = .bool (!bad && l.isEmpty) ∧ w = w' := by
  obtain ⟨A, c, hb, _⟩ := id h
  have h0 := hb.cell 0
  refine enter Tryd.mixed Tryd.func25 rfl (by kernel_rfl) ?_
  simp -dsimp [go_sem]
  refine call (good_spec g l bad F w h) ?_
  rintro v w' ⟨rfl, rfl⟩
  simp -dsimp [go_sem]
  refine cond_nb (fun hb => ?_) (fun hb => ?_)
  · subst hb
    simp -dsimp [go_sem, h0]
    cases l <;> simp
    omega
  · subst hb
    simp -dsimp [go_sem]

theorem newReader_spec (A : Option Addr) (c : Nat) (l : List UInt8) (w : World) (hr : Rd w A (l.map u8)) (hl : l.length ≤ 140737488355328) :
    Cal Tryd.prog 21 #[.slice A l.length c] w fun v w' => ∃ g, v = .pointer (some ⟨g, 0, none⟩) ∧ w.heap.size ≤ g ∧ (∃ F, Rdr w' g l false F ∧ ∀ k, F k → w.heap.size ≤ k ∧ k < w'.heap.size) ∧ Nw w w' := by
  refine enter Tryd.mixed Tryd.func21 rfl (by kernel_rfl) ?_
  simp -dsimp [go_sem]
  refine call (clone_spec A c l w hr hl) ?_
  rintro v w' ⟨⟨A', c', rfl, ho, hf⟩, hk⟩
  simp -dsimp [go_sem]
  simp [go_sem]
  refine ⟨hk.size, ⟨fun k => k = w'.heap.size ∨ blk A' k, ⟨A', c', Blk.new _ _ _, ho.2.1, ho.2.2.1, ho.rd.nw ((Kp.refl _ _).alloc _), ?_, by simp, fun k h => h, ?_⟩, ?_⟩, hk.alloc _⟩
  · rintro a rfl
    have := ho.lt _ rfl
    simp; omega
  · rintro k (rfl | h)
    · simp
    · cases A' with
      | none => exact h.elim
      | some a =>
        have := ho.lt _ rfl
        simp [blk] at h
        simp; omega
  · rintro k (rfl | h)
    · exact ⟨hk.size, by omega⟩
    · cases A' with
      | none => exact h.elim
      | some a =>
        have := ho.lt _ rfl
        have := hf _ rfl
        simp [blk] at h
        omega

end Go.Proofs.YtindfpaahlijeaaDoor
