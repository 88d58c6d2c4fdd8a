/-
  DiskOfNothing walked: a nil Disk has no file. By the session itself.
-/
import Derived.Test.YthdeedimdabjfaaDkL
import Derived.Test.YthdeedimdabjfaaDkF
namespace Go.Proofs.Ythdeedimdabjfaa
set_option linter.unusedSimpArgs false
set_option linter.unusedVariables false
set_option maxRecDepth 100000
set_option maxHeartbeats 1000000
open Go.Vc Go.RowKit

theorem nil_may (A : Option Addr) (n c : Nat) (w : World) : Cal Try.prog 49 #[.pointer none, .slice A n c] w fun v w' => v = i64 1 ∧ w' = w := by
  refine enter Try.mixed Try.func49 rfl (by kernel_rfl) ?_
  simp -dsimp [go_sem]
theorem nil_append (s : ByteArray) (A : Option Addr) (n c : Nat) (w : World) : Cal Try.prog 16 #[.pointer none, .string s, .slice A n c] w fun v w' => v = i64 1 ∧ Nw w w' := by
  refine enter Try.mixed Try.func16 rfl (by kernel_rfl) ?_
  simp -dsimp [go_sem]
  refine call (nil_may _ _ _ _) ?_
  rintro v w1 ⟨rfl, rfl⟩
  simp -dsimp [go_sem]
  exact (Kp.refl _ _).alloc _
theorem nil_trunc (s : ByteArray) (n : Int) (w : World) : Cal Try.prog 37 #[.pointer none, .string s, i64 n] w fun v w' => v = i64 1 ∧ Nw w w' := by
  refine enter Try.mixed Try.func37 rfl (by kernel_rfl) ?_
  simp -dsimp [go_sem]
  refine call (nil_may _ _ _ _) ?_
  rintro v w1 ⟨rfl, rfl⟩
  simp -dsimp [go_sem]
  exact (Kp.refl _ _).alloc _
theorem nil_rename (s t : ByteArray) (w : World) : Cal Try.prog 29 #[.pointer none, .string s, .string t] w fun v w' => v = i64 1 ∧ Nw w w' := by
  refine enter Try.mixed Try.func29 rfl (by kernel_rfl) ?_
  simp -dsimp [go_sem]
  refine call (nil_may _ _ _ _) ?_
  rintro v w1 ⟨rfl, rfl⟩
  simp -dsimp [go_sem]
  exact (Kp.refl _ _).alloc _
theorem nil_each (A : Option Addr) (n c : Nat) (f : Value) (w : World) : Cal Try.prog 52 #[.pointer none, .slice A n c, f] w fun v w' => v = i64 1 ∧ w' = w := by
  refine enter Try.mixed Try.func52 rfl (by kernel_rfl) ?_
  simp -dsimp [go_sem]
theorem nil_sync (A : Option Addr) (n c : Nat) (w : World) : Cal Try.prog 17 #[.pointer none, .slice A n c] w fun v w' => v = i64 1 ∧ Nw w w' := by
  refine enter Try.mixed Try.func17 rfl (by kernel_rfl) ?_
  simp -dsimp [go_sem]
  refine call (nil_each _ _ _ _ _) ?_
  rintro v w1 ⟨rfl, rfl⟩
  simp -dsimp [go_sem]
  exact Kp.refl _ _
theorem nil_remove (A : Option Addr) (n c : Nat) (w : World) : Cal Try.prog 23 #[.pointer none, .slice A n c] w fun v w' => v = i64 1 ∧ Nw w w' := by
  refine enter Try.mixed Try.func23 rfl (by kernel_rfl) ?_
  simp -dsimp [go_sem]
  refine call (nil_each _ _ _ _ _) ?_
  rintro v w1 ⟨rfl, rfl⟩
  simp -dsimp [go_sem]
  exact (Kp.refl _ _).alloc _
theorem nil_read (s : ByteArray) (w : World) : Cal Try.prog 19 #[.pointer none, .string s] w fun v w' => v = .tuple #[.slice none 0 0, i64 7] ∧ w' = w := by
  refine enter Try.mixed Try.func19 rfl (by kernel_rfl) ?_
  simp -dsimp [go_sem]
theorem nil_list (w : World) : Cal Try.prog 28 #[.pointer none] w fun v w' => v = .slice none 0 0 ∧ w' = w := by
  refine enter Try.mixed Try.func28 rfl (by kernel_rfl) ?_
  simp -dsimp [go_sem]
theorem nil_fuse (n : Int) (w : World) : Cal Try.prog 22 #[.pointer none, i64 n] w fun v w' => v = .tuple #[] ∧ w' = w := by
  refine enter Try.mixed Try.func22 rfl (by kernel_rfl) ?_
  simp -dsimp [go_sem]
theorem nil_crash (n : Int) (w : World) : Cal Try.prog 18 #[.pointer none, i64 n] w fun v w' => v = .tuple #[] ∧ w' = w := by
  refine enter Try.mixed Try.func18 rfl (by kernel_rfl) ?_
  simp -dsimp [go_sem]
theorem nil_used (w : World) : Cal Try.prog 21 #[.pointer none] w fun v w' => v = i64 0 ∧ w' = w := by
  refine enter Try.mixed Try.func21 rfl (by kernel_rfl) ?_
  simp -dsimp [go_sem]
theorem nil_copy (w : World) : Cal Try.prog 33 #[.pointer none] w fun v w' => v = .pointer none ∧ w' = w := by
  refine enter Try.mixed Try.func33 rfl (by kernel_rfl) ?_
  simp -dsimp [go_sem]
theorem dnothing_law (s : ByteArray) (b : List UInt8) (n : Int) (B : Option Addr) (cb : Nat) (w : World) (hrB : Rd w B (b.map u8)) (hcb : b.length ≤ cb) (hz1 : s.size ≤ 140737488351232) (hz2 : b.length ≤ 140737488351232) :
    Cal Try.prog 10 #[.string s, .slice B b.length cb, i64 n] w fun v w' => v = .bool true ∧ Nw w w' := by
  refine enter Try.mixed Try.func10 rfl (by kernel_rfl) ?_
  have s1 : IntKind.i64.wrap ((s.size : Int) + (b.length : Int)) = ((s.size + b.length : Nat) : Int) := w64 (by omega) (by omega)
  obtain ⟨n1, hn1⟩ : ∃ n, n = s.size + b.length := ⟨_, rfl⟩
  rw [← hn1] at s1
  simp -dsimp [go_sem, s1]
  refine cond_d (fun h8 => ?_) (fun h8 => ?_)
  · simp -dsimp [go_sem]
    exact Kp.refl _ _
  simp -dsimp [go_sem]
  refine call (nil_fuse n w) ?_
  rintro v w1 ⟨rfl, rfl⟩
  simp -dsimp [go_sem]
  refine call (nil_crash n w1) ?_
  rintro v w2 ⟨rfl, rfl⟩
  simp -dsimp [go_sem]
  refine call (nil_read s w2) ?_
  rintro v w3 ⟨rfl, rfl⟩
  simp -dsimp [go_sem]
  have k0 : Nw w3 (w3.alloc (.cells #[.slice B b.length cb] 23)) := (Kp.refl _ _).alloc _
  refine call (nil_append s _ _ _ _) ?_
  rintro v w4 ⟨rfl, hk4⟩
  have k4 := k0.nw hk4
  simp -dsimp [go_sem]
  refine call (nil_sync _ _ _ _) ?_
  rintro v w5 ⟨rfl, hk5⟩
  have k5 := (k4.alloc (.cells #[.string s] 9)).nw hk5
  simp -dsimp [go_sem]
  refine call (nil_trunc s n w5) ?_
  rintro v w6 ⟨rfl, hk6⟩
  have k6 := Kp.nw k5 hk6
  simp -dsimp [go_sem]
  refine call (nil_rename s s w6) ?_
  rintro v w7 ⟨rfl, hk7⟩
  have k7 := k6.nw hk7
  simp -dsimp [go_sem]
  refine call (nil_remove _ _ _ _) ?_
  rintro v w8 ⟨rfl, hk8⟩
  have k8 := (k7.alloc (.cells #[.string s] 9)).nw hk8
  simp -dsimp [go_sem]
  refine call (nil_list w8) ?_
  rintro v w9 ⟨rfl, rfl⟩
  simp -dsimp [go_sem]
  refine call (nil_used w9) ?_
  rintro v w10 ⟨rfl, rfl⟩
  have z0 : IntKind.i64.wrap 0 = 0 := by decide
  simp -dsimp [go_sem, z0]
  refine call (nil_copy w10) ?_
  rintro v w11 ⟨rfl, rfl⟩
  simp -dsimp [go_sem]
  refine call (dknown_spec w11) ?_
  rintro v w12 ⟨rfl, hk12⟩
  simp -dsimp [go_sem]
  exact Kp.nw k8 hk12
end Go.Proofs.Ythdeedimdabjfaa
