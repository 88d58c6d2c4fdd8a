/-
  lock: a nil Locks; LockOfNothing walked; what Touch and Forget come to. By the session itself.
-/
import Derived.Test.YtfdbnlgokaapnaaLkK
namespace Go.Proofs.Ytfdbnlgokaapnaa
set_option linter.unusedSimpArgs false
set_option linter.unusedVariables false
set_option maxRecDepth 100000
set_option maxHeartbeats 1000000
open Go.Vc Go.RowKit

theorem lfree_nil (n : Int) (w : World) : Cal Try.prog 15 #[.pointer none, i64 n] w fun v w' => v = .tuple #[] ∧ w' = w := by
  refine enter Try.mixed Try.func15 rfl (by kernel_rfl) ?_
  simp -dsimp [go_sem]
theorem ltouch_nil (c n l : Int) (w : World) : Cal Try.prog 8 #[.pointer none, i64 c, i64 n, i64 l] w fun v w' => v = .tuple #[] ∧ w' = w := by
  refine enter Try.mixed Try.func8 rfl (by kernel_rfl) ?_
  simp -dsimp [go_sem]
theorem lforget_nil (c : Int) (w : World) : Cal Try.prog 10 #[.pointer none, i64 c] w fun v w' => v = .tuple #[] ∧ w' = w := by
  refine enter Try.mixed Try.func10 rfl (by kernel_rfl) ?_
  simp -dsimp [go_sem]
theorem lholder_nil (u : ByteArray) (w : World) : Cal Try.prog 20 #[.pointer none, .string u] w fun v w' => v = .tuple #[i64 0, .bool false] ∧ w' = w := by
  refine enter Try.mixed Try.func20 rfl (by kernel_rfl) ?_
  simp -dsimp [go_sem]
theorem ltake_nil (u : ByteArray) (c : Int) (w : World) : Cal Try.prog 13 #[.pointer none, .string u, i64 c] w fun v w' => v = .bool false ∧ w' = w := by
  refine enter Try.mixed Try.func13 rfl (by kernel_rfl) ?_
  simp -dsimp [go_sem]
theorem ldue_nil (n : Int) (w : World) : Cal Try.prog 9 #[.pointer none, i64 n] w fun v w' => v = .slice none 0 0 ∧ w' = w := by
  refine enter Try.mixed Try.func9 rfl (by kernel_rfl) ?_
  simp -dsimp [go_sem]

theorem lnothing_law (u : ByteArray) (c : Int) (w : World) : Cal Try.prog 5 #[.string u, i64 c] w fun v w' => v = .bool true ∧ Nw w w' := by
  refine enter Try.mixed Try.func5 rfl (by kernel_rfl) ?_
  simp -dsimp [go_sem]
  refine cond_d (fun h8 => ?_) (fun h8 => ?_)
  · simp -dsimp [go_sem]
    exact Kp.refl _ _
  simp -dsimp [go_sem]
  refine call (lfree_nil c w) ?_
  rintro v w1 ⟨rfl, rfl⟩
  simp -dsimp [go_sem]
  refine call (ltouch_nil c 1 1 w1) ?_
  rintro v w2 ⟨rfl, rfl⟩
  simp -dsimp [go_sem]
  refine call (lforget_nil c w2) ?_
  rintro v w3 ⟨rfl, rfl⟩
  simp -dsimp [go_sem]
  refine call (lholder_nil u w3) ?_
  rintro v w4 ⟨rfl, rfl⟩
  simp -dsimp [go_sem]
  refine call (ltake_nil u c w4) ?_
  rintro v w5 ⟨rfl, rfl⟩
  simp -dsimp [go_sem]
  refine call (ldue_nil 9 w5) ?_
  rintro v w6 ⟨rfl, rfl⟩
  simp -dsimp [go_sem]
  refine call (lknown_spec w6) ?_
  rintro v w7 ⟨rfl, hk⟩
  simp -dsimp [go_sem]
  exact hk

/-! ### Who is due -/
theorem Lk.parts {w : World} {g : Nat} {f : ByteArray → Option Int} {d : Int → Option Int} {F : Nat → Prop} {r1 r2 : Nat} (hb : Blk w g 60 #[.map (some r1), .map (some r2)]) (hm : Mp w r2 kInt (Mi d)) : g ≠ r2 := by
  rintro rfl
  obtain ⟨E, c, hh, _⟩ := hm
  unfold Blk at hb
  rw [hb] at hh; cases hh
def touchD (d : Int → Option Int) (c at_ : Int) : Int → Option Int := fun x => if x = c then some at_ else d x
def forgetD (d : Int → Option Int) (c : Int) : Int → Option Int := fun x => if x = c then none else d x
theorem touch_spec (g : Nat) (f : ByteArray → Option Int) (d : Int → Option Int) (F : Nat → Prop) (c n l : Int) (w : World) (h : Lk w g f d F) :
    Cal Try.prog 8 #[.pointer (some ⟨g, 0, none⟩), i64 c, i64 n, i64 l] w fun v w' => v = .tuple #[] ∧ Lk w' g f (touchD d c (IntKind.i64.wrap (n + l))) F ∧ Kp F w w' := by
  obtain ⟨r1, r2, hb, hm1, hm2, hne, hF, hFl⟩ := id h
  have h1 := hb.cell 1
  have K : KeyS Try.prog 3 kInt := keyInt (by kernel_rfl)
  have hmt : Try.prog.underlying 58 = some (.map 3 3) := by kernel_rfl
  have hg := Lk.parts (f := f) (F := F) hb hm2
  refine enter Try.mixed Try.func8 rfl (by kernel_rfl) ?_
  obtain ⟨w1, hu, hm, hk⟩ := update_mp K hmt hm2 c (i64 (IntKind.i64.wrap (n + l)))
  simp -dsimp [go_sem, h1, hu]
  rw [put_mi] at hm
  exact ⟨⟨r1, r2, hb.kp hk (fun e => hg e), hm1.kp hk (fun e => hne e), hm, hne, hF, fun i hi => Nat.lt_of_lt_of_le (hFl i hi) hk.size⟩, hk.mono fun i _ e => hF _ (.inr (.inr e))⟩
theorem forget_spec (g : Nat) (f : ByteArray → Option Int) (d : Int → Option Int) (F : Nat → Prop) (c : Int) (w : World) (h : Lk w g f d F) :
    Cal Try.prog 10 #[.pointer (some ⟨g, 0, none⟩), i64 c] w fun v w' => v = .tuple #[] ∧ Lk w' g f (forgetD d c) F ∧ Kp F w w' := by
  obtain ⟨r1, r2, hb, hm1, hm2, hne, hF, hFl⟩ := id h
  have h1 := hb.cell 1
  have K : KeyS Try.prog 3 kInt := keyInt (by kernel_rfl)
  have hmt : Try.prog.underlying 58 = some (.map 3 3) := by kernel_rfl
  have hg := Lk.parts (f := f) (F := F) hb hm2
  refine enter Try.mixed Try.func10 rfl (by kernel_rfl) ?_
  obtain ⟨w1, hu, hm, hk⟩ := delete_mp (ty := 0) K hmt hm2 c
  have hu' : deleteS Try.prog #[58, 3] 0 #[.map (some r2), kInt c] w = .ok (.tuple #[]) w1 := hu
  simp -dsimp [go_sem, h1, hu']
  rw [cut_mi] at hm
  exact ⟨⟨r1, r2, hb.kp hk (fun e => hg e), hm1.kp hk (fun e => hne e), hm, hne, hF, fun i hi => Nat.lt_of_lt_of_le (hFl i hi) hk.size⟩, hk.mono fun i _ e => hF _ (.inr (.inr e))⟩
end Go.Proofs.Ytfdbnlgokaapnaa
