/-
  bytes.Clone walked. By the session itself.
-/
import Derived.Test.YtindfpaahlijeaaDoorBs
namespace Go.Proofs.YtindfpaahlijeaaDoor
set_option linter.unusedSimpArgs false
set_option linter.unusedVariables false
set_option maxRecDepth 100000
open Go.Vc Go.RowKit

theorem clone_spec (A : Option Addr) (c : Nat) (l : List UInt8) (w : World) (hr : Rd w A (l.map u8)) (hl : l.length ≤ 140737488355328) :
    Cal Tryd.prog 40 #[.slice A l.length c] w fun v w' => Bs w' v l w.heap.size ∧ Nw w w' := by
  refine enter Tryd.mixed Tryd.func40 rfl (by kernel_rfl) ?_
  simp -dsimp [go_sem]
  refine cond_b (fun h => ?_) (fun h => ?_)
  · obtain rfl : A = none := by simpa using h
    have hn : l = [] := by
      cases l with
      | nil => rfl
      | cons b t => obtain ⟨_, _, e, _⟩ := hr 0 (u8 b) rfl; cases e
    subst hn
    simp -dsimp [go_sem]
    exact ⟨⟨none, 0, rfl, Ow.nil _ _ _, by simp⟩, Kp.refl _ _⟩
  · simp -dsimp [go_sem]
    refine app Tryd.Su8 (Ow.made w 5 1 0 #[] rfl (by simp [maxLen])) (hr.nw ((Kp.refl _ w).alloc _)) (m := l.length) (by simp) (one_u8 l) (by omega) (by omega) ?_
    intro A' c' w' ho hk hA
    simp -dsimp [go_sem]
    refine ⟨⟨A', c', rfl, by simpa using ho, ?_⟩, ?_⟩
    · rintro a rfl
      rcases hA with e | ⟨e, _⟩ <;> cases e <;> simp
    · exact ((Kp.refl _ w).alloc _).trans hk (fun i hi h => by simp [blk] at h; omega)

end Go.Proofs.YtindfpaahlijeaaDoor
