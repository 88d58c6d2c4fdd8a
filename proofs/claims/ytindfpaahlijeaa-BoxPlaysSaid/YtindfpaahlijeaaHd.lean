/-
  What the walks want to know of the program: which functions have bodies; its slice types. Written by a program of the session.
-/
import Derived.Test.YtindfpaahlijeaaProg
import Derived.Test.YtindfpaahlijeaaHp
namespace Go.Proofs
open Go.Vc
theorem Try.mixed : Try.prog.follows .mixedOrders = true := by kernel_rfl
@[go_sem] theorem Try.go3 : isGo Try.prog 3 = true := by kernel_rfl
@[go_sem] theorem Try.go4 : isGo Try.prog 4 = true := by kernel_rfl
@[go_sem] theorem Try.go5 : isGo Try.prog 5 = true := by kernel_rfl
@[go_sem] theorem Try.go6 : isGo Try.prog 6 = true := by kernel_rfl
@[go_sem] theorem Try.go7 : isGo Try.prog 7 = true := by kernel_rfl
@[go_sem] theorem Try.go8 : isGo Try.prog 8 = true := by kernel_rfl
@[go_sem] theorem Try.go9 : isGo Try.prog 9 = true := by kernel_rfl
@[go_sem] theorem Try.go10 : isGo Try.prog 10 = true := by kernel_rfl
@[go_sem] theorem Try.go11 : isGo Try.prog 11 = true := by kernel_rfl
@[go_sem] theorem Try.go12 : isGo Try.prog 12 = true := by kernel_rfl
@[go_sem] theorem Try.go13 : isGo Try.prog 13 = true := by kernel_rfl
@[go_sem] theorem Try.go14 : isGo Try.prog 14 = true := by kernel_rfl
@[go_sem] theorem Try.go15 : isGo Try.prog 15 = true := by kernel_rfl
@[go_sem] theorem Try.go16 : isGo Try.prog 16 = true := by kernel_rfl
@[go_sem] theorem Try.go17 : isGo Try.prog 17 = true := by kernel_rfl
@[go_sem] theorem Try.go18 : isGo Try.prog 18 = true := by kernel_rfl
@[go_sem] theorem Try.go19 : isGo Try.prog 19 = true := by kernel_rfl
@[go_sem] theorem Try.go20 : isGo Try.prog 20 = true := by kernel_rfl
@[go_sem] theorem Try.go21 : isGo Try.prog 21 = true := by kernel_rfl
@[go_sem] theorem Try.go22 : isGo Try.prog 22 = true := by kernel_rfl
@[go_sem] theorem Try.go23 : isGo Try.prog 23 = true := by kernel_rfl
@[go_sem] theorem Try.go24 : isGo Try.prog 24 = true := by kernel_rfl
@[go_sem] theorem Try.go25 : isGo Try.prog 25 = true := by kernel_rfl
@[go_sem] theorem Try.go26 : isGo Try.prog 26 = true := by kernel_rfl
@[go_sem] theorem Try.go27 : isGo Try.prog 27 = true := by kernel_rfl
@[go_sem] theorem Try.go28 : isGo Try.prog 28 = true := by kernel_rfl
@[go_sem] theorem Try.go29 : isGo Try.prog 29 = true := by kernel_rfl
@[go_sem] theorem Try.go30 : isGo Try.prog 30 = true := by kernel_rfl
@[go_sem] theorem Try.go31 : isGo Try.prog 31 = true := by kernel_rfl
@[go_sem] theorem Try.go32 : isGo Try.prog 32 = true := by kernel_rfl
@[go_sem] theorem Try.go33 : isGo Try.prog 33 = true := by kernel_rfl
@[go_sem] theorem Try.go34 : isGo Try.prog 34 = true := by kernel_rfl
@[go_sem] theorem Try.go35 : isGo Try.prog 35 = true := by kernel_rfl
@[go_sem] theorem Try.go36 : isGo Try.prog 36 = true := by kernel_rfl
@[go_sem] theorem Try.go37 : isGo Try.prog 37 = true := by kernel_rfl
@[go_sem] theorem Try.go38 : isGo Try.prog 38 = true := by kernel_rfl
@[go_sem] theorem Try.go39 : isGo Try.prog 39 = true := by kernel_rfl
@[go_sem] theorem Try.go40 : isGo Try.prog 40 = true := by kernel_rfl
@[go_sem] theorem Try.go41 : isGo Try.prog 41 = true := by kernel_rfl
@[go_sem] theorem Try.go42 : isGo Try.prog 42 = true := by kernel_rfl
@[go_sem] theorem Try.go43 : isGo Try.prog 43 = true := by kernel_rfl
@[go_sem] theorem Try.go44 : isGo Try.prog 44 = true := by kernel_rfl
@[go_sem] theorem Try.go45 : isGo Try.prog 45 = true := by kernel_rfl
@[go_sem] theorem Try.go46 : isGo Try.prog 46 = true := by kernel_rfl
@[go_sem] theorem Try.go47 : isGo Try.prog 47 = true := by kernel_rfl
@[go_sem] theorem Try.go48 : isGo Try.prog 48 = true := by kernel_rfl
@[go_sem] theorem Try.go49 : isGo Try.prog 49 = true := by kernel_rfl
@[go_sem] theorem Try.go50 : isGo Try.prog 50 = true := by kernel_rfl
@[go_sem] theorem Try.go51 : isGo Try.prog 51 = true := by kernel_rfl
@[go_sem] theorem Try.go52 : isGo Try.prog 52 = true := by kernel_rfl
@[go_sem] theorem Try.go53 : isGo Try.prog 53 = true := by kernel_rfl
@[go_sem] theorem Try.go54 : isGo Try.prog 54 = true := by kernel_rfl
@[go_sem] theorem Try.go55 : isGo Try.prog 55 = true := by kernel_rfl
@[go_sem] theorem Try.go56 : isGo Try.prog 56 = true := by kernel_rfl
@[go_sem] theorem Try.go57 : isGo Try.prog 57 = true := by kernel_rfl
@[go_sem] theorem Try.go58 : isGo Try.prog 58 = true := by kernel_rfl
@[go_sem] theorem Try.go59 : isGo Try.prog 59 = true := by kernel_rfl
@[go_sem] theorem Try.go60 : isGo Try.prog 60 = true := by kernel_rfl
@[go_sem] theorem Try.go61 : isGo Try.prog 61 = true := by kernel_rfl
@[go_sem] theorem Try.go62 : isGo Try.prog 62 = true := by kernel_rfl
@[go_sem] theorem Try.go63 : isGo Try.prog 63 = true := by kernel_rfl
@[go_sem] theorem Try.go64 : isGo Try.prog 64 = true := by kernel_rfl
@[go_sem] theorem Try.go65 : isGo Try.prog 65 = true := by kernel_rfl
@[go_sem] theorem Try.go66 : isGo Try.prog 66 = true := by kernel_rfl
@[go_sem] theorem Try.go67 : isGo Try.prog 67 = true := by kernel_rfl
@[go_sem] theorem Try.go68 : isGo Try.prog 68 = true := by kernel_rfl
@[go_sem] theorem Try.go69 : isGo Try.prog 69 = true := by kernel_rfl
theorem Try.Su8 : SlT Try.prog 29 5 1 1 (.int .u8 0) := ⟨by kernel_rfl, by kernel_rfl, by rfl, by decide⟩
theorem Try.Sint : SlT Try.prog 28 3 1 8 (.int .i64 0) := ⟨by kernel_rfl, by kernel_rfl, by rfl, by decide⟩
end Go.Proofs
