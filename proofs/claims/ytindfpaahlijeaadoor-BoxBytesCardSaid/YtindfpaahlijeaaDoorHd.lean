/-
  What the walks want to know of the program: which functions have bodies; its slice types. Written by a program of the session.
-/
import Derived.Test.YtindfpaahlijeaaDoorProg
import Derived.Test.YtindfpaahlijeaaDoorHp
namespace Go.Proofs
open Go.Vc
theorem Tryd.mixed : Tryd.prog.follows .mixedOrders = true := by kernel_rfl
@[go_sem] theorem Tryd.go3 : isGo Tryd.prog 3 = true := by kernel_rfl
@[go_sem] theorem Tryd.go4 : isGo Tryd.prog 4 = true := by kernel_rfl
@[go_sem] theorem Tryd.go5 : isGo Tryd.prog 5 = true := by kernel_rfl
@[go_sem] theorem Tryd.go6 : isGo Tryd.prog 6 = true := by kernel_rfl
@[go_sem] theorem Tryd.go7 : isGo Tryd.prog 7 = true := by kernel_rfl
@[go_sem] theorem Tryd.go8 : isGo Tryd.prog 8 = true := by kernel_rfl
@[go_sem] theorem Tryd.go9 : isGo Tryd.prog 9 = true := by kernel_rfl
@[go_sem] theorem Tryd.go10 : isGo Tryd.prog 10 = true := by kernel_rfl
@[go_sem] theorem Tryd.go11 : isGo Tryd.prog 11 = true := by kernel_rfl
@[go_sem] theorem Tryd.go12 : isGo Tryd.prog 12 = true := by kernel_rfl
@[go_sem] theorem Tryd.go13 : isGo Tryd.prog 13 = true := by kernel_rfl
@[go_sem] theorem Tryd.go14 : isGo Tryd.prog 14 = true := by kernel_rfl
@[go_sem] theorem Tryd.go15 : isGo Tryd.prog 15 = true := by kernel_rfl
@[go_sem] theorem Tryd.go16 : isGo Tryd.prog 16 = true := by kernel_rfl
@[go_sem] theorem Tryd.go17 : isGo Tryd.prog 17 = true := by kernel_rfl
@[go_sem] theorem Tryd.go18 : isGo Tryd.prog 18 = true := by kernel_rfl
@[go_sem] theorem Tryd.go19 : isGo Tryd.prog 19 = true := by kernel_rfl
@[go_sem] theorem Tryd.go20 : isGo Tryd.prog 20 = true := by kernel_rfl
@[go_sem] theorem Tryd.go21 : isGo Tryd.prog 21 = true := by kernel_rfl
@[go_sem] theorem Tryd.go22 : isGo Tryd.prog 22 = true := by kernel_rfl
@[go_sem] theorem Tryd.go23 : isGo Tryd.prog 23 = true := by kernel_rfl
@[go_sem] theorem Tryd.go24 : isGo Tryd.prog 24 = true := by kernel_rfl
@[go_sem] theorem Tryd.go25 : isGo Tryd.prog 25 = true := by kernel_rfl
@[go_sem] theorem Tryd.go26 : isGo Tryd.prog 26 = true := by kernel_rfl
@[go_sem] theorem Tryd.go27 : isGo Tryd.prog 27 = true := by kernel_rfl
@[go_sem] theorem Tryd.go28 : isGo Tryd.prog 28 = true := by kernel_rfl
@[go_sem] theorem Tryd.go29 : isGo Tryd.prog 29 = true := by kernel_rfl
@[go_sem] theorem Tryd.go30 : isGo Tryd.prog 30 = true := by kernel_rfl
@[go_sem] theorem Tryd.go31 : isGo Tryd.prog 31 = true := by kernel_rfl
@[go_sem] theorem Tryd.go32 : isGo Tryd.prog 32 = true := by kernel_rfl
@[go_sem] theorem Tryd.go33 : isGo Tryd.prog 33 = true := by kernel_rfl
@[go_sem] theorem Tryd.go34 : isGo Tryd.prog 34 = true := by kernel_rfl
@[go_sem] theorem Tryd.go35 : isGo Tryd.prog 35 = true := by kernel_rfl
@[go_sem] theorem Tryd.go36 : isGo Tryd.prog 36 = true := by kernel_rfl
@[go_sem] theorem Tryd.go37 : isGo Tryd.prog 37 = true := by kernel_rfl
@[go_sem] theorem Tryd.go38 : isGo Tryd.prog 38 = true := by kernel_rfl
@[go_sem] theorem Tryd.go39 : isGo Tryd.prog 39 = true := by kernel_rfl
@[go_sem] theorem Tryd.go40 : isGo Tryd.prog 40 = true := by kernel_rfl
@[go_sem] theorem Tryd.go41 : isGo Tryd.prog 41 = true := by kernel_rfl
@[go_sem] theorem Tryd.go42 : isGo Tryd.prog 42 = true := by kernel_rfl
@[go_sem] theorem Tryd.go43 : isGo Tryd.prog 43 = true := by kernel_rfl
@[go_sem] theorem Tryd.go44 : isGo Tryd.prog 44 = true := by kernel_rfl
@[go_sem] theorem Tryd.go45 : isGo Tryd.prog 45 = true := by kernel_rfl
@[go_sem] theorem Tryd.go46 : isGo Tryd.prog 46 = true := by kernel_rfl
@[go_sem] theorem Tryd.go47 : isGo Tryd.prog 47 = true := by kernel_rfl
@[go_sem] theorem Tryd.go48 : isGo Tryd.prog 48 = true := by kernel_rfl
@[go_sem] theorem Tryd.go49 : isGo Tryd.prog 49 = true := by kernel_rfl
@[go_sem] theorem Tryd.go50 : isGo Tryd.prog 50 = true := by kernel_rfl
@[go_sem] theorem Tryd.go51 : isGo Tryd.prog 51 = true := by kernel_rfl
@[go_sem] theorem Tryd.go52 : isGo Tryd.prog 52 = true := by kernel_rfl
@[go_sem] theorem Tryd.go53 : isGo Tryd.prog 53 = true := by kernel_rfl
@[go_sem] theorem Tryd.go54 : isGo Tryd.prog 54 = true := by kernel_rfl
@[go_sem] theorem Tryd.go55 : isGo Tryd.prog 55 = true := by kernel_rfl
@[go_sem] theorem Tryd.go56 : isGo Tryd.prog 56 = true := by kernel_rfl
@[go_sem] theorem Tryd.go57 : isGo Tryd.prog 57 = true := by kernel_rfl
@[go_sem] theorem Tryd.go58 : isGo Tryd.prog 58 = true := by kernel_rfl
@[go_sem] theorem Tryd.go59 : isGo Tryd.prog 59 = true := by kernel_rfl
@[go_sem] theorem Tryd.go60 : isGo Tryd.prog 60 = true := by kernel_rfl
@[go_sem] theorem Tryd.go61 : isGo Tryd.prog 61 = true := by kernel_rfl
@[go_sem] theorem Tryd.go62 : isGo Tryd.prog 62 = true := by kernel_rfl
@[go_sem] theorem Tryd.go63 : isGo Tryd.prog 63 = true := by kernel_rfl
@[go_sem] theorem Tryd.go64 : isGo Tryd.prog 64 = true := by kernel_rfl
@[go_sem] theorem Tryd.go65 : isGo Tryd.prog 65 = true := by kernel_rfl
@[go_sem] theorem Tryd.go66 : isGo Tryd.prog 66 = true := by kernel_rfl
@[go_sem] theorem Tryd.go67 : isGo Tryd.prog 67 = true := by kernel_rfl
@[go_sem] theorem Tryd.go68 : isGo Tryd.prog 68 = true := by kernel_rfl
@[go_sem] theorem Tryd.go69 : isGo Tryd.prog 69 = true := by kernel_rfl
@[go_sem] theorem Tryd.go70 : isGo Tryd.prog 70 = true := by kernel_rfl
@[go_sem] theorem Tryd.go71 : isGo Tryd.prog 71 = true := by kernel_rfl
@[go_sem] theorem Tryd.go72 : isGo Tryd.prog 72 = true := by kernel_rfl
@[go_sem] theorem Tryd.go73 : isGo Tryd.prog 73 = true := by kernel_rfl
@[go_sem] theorem Tryd.go74 : isGo Tryd.prog 74 = true := by kernel_rfl
@[go_sem] theorem Tryd.go75 : isGo Tryd.prog 75 = true := by kernel_rfl
@[go_sem] theorem Tryd.go76 : isGo Tryd.prog 76 = true := by kernel_rfl
@[go_sem] theorem Tryd.go77 : isGo Tryd.prog 77 = true := by kernel_rfl
@[go_sem] theorem Tryd.go78 : isGo Tryd.prog 78 = true := by kernel_rfl
@[go_sem] theorem Tryd.go79 : isGo Tryd.prog 79 = true := by kernel_rfl
@[go_sem] theorem Tryd.go80 : isGo Tryd.prog 80 = true := by kernel_rfl
@[go_sem] theorem Tryd.go81 : isGo Tryd.prog 81 = true := by kernel_rfl
@[go_sem] theorem Tryd.go82 : isGo Tryd.prog 82 = true := by kernel_rfl
@[go_sem] theorem Tryd.go83 : isGo Tryd.prog 83 = true := by kernel_rfl
@[go_sem] theorem Tryd.go84 : isGo Tryd.prog 84 = true := by kernel_rfl
@[go_sem] theorem Tryd.go85 : isGo Tryd.prog 85 = true := by kernel_rfl
@[go_sem] theorem Tryd.go86 : isGo Tryd.prog 86 = true := by kernel_rfl
@[go_sem] theorem Tryd.go87 : isGo Tryd.prog 87 = true := by kernel_rfl
@[go_sem] theorem Tryd.go89 : isGo Tryd.prog 89 = true := by kernel_rfl
@[go_sem] theorem Tryd.go90 : isGo Tryd.prog 90 = true := by kernel_rfl
theorem Tryd.Su8 : SlT Tryd.prog 26 5 1 1 (.int .u8 0) := ⟨by kernel_rfl, by kernel_rfl, by rfl, by decide⟩
theorem Tryd.Sint : SlT Tryd.prog 55 3 1 8 (.int .i64 0) := ⟨by kernel_rfl, by kernel_rfl, by rfl, by decide⟩
theorem Tryd.Srows : SlT Tryd.prog 69 26 1 24 (.slice none 0 0) := ⟨by kernel_rfl, by kernel_rfl, by rfl, by decide⟩
theorem Tryd.Spint : SlT Tryd.prog 76 51 1 8 (.pointer none) := ⟨by kernel_rfl, by kernel_rfl, by rfl, by decide⟩
end Go.Proofs
