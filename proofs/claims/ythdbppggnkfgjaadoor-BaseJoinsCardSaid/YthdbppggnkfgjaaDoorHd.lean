/-
  What the walks want to know of the program: which functions have bodies; its slice types. Written by a program of the session.
-/
import Derived.Test.YthdbppggnkfgjaaDoorProg
import Derived.Test.YthdbppggnkfgjaaDoorHp
namespace Go.Proofs
open Go.Vc
theorem Tryd.mixed : Tryd.prog.follows .mixedOrders = true := by kernel_rfl
@[go_sem] theorem Tryd.go3 : isGo Tryd.prog 3 = true := by kernel_rfl
@[go_sem] theorem Tryd.go4 : isGo Tryd.prog 4 = true := by kernel_rfl
@[go_sem] theorem Tryd.go5 : isGo Tryd.prog 5 = true := by kernel_rfl
@[go_sem] theorem Tryd.go6 : isGo Tryd.prog 6 = true := by kernel_rfl
@[go_sem] theorem Tryd.go7 : isGo Tryd.prog 7 = true := by kernel_rfl
@[go_sem] theorem Tryd.go8 : isGo Tryd.prog 8 = true := by kernel_rfl
@[go_sem] theorem Tryd.go9 : isGo Tryd.prog 9 = true := by kernel_rfl
@[go_sem] theorem Tryd.go10 : isGo Tryd.prog 10 = true := by kernel_rfl
@[go_sem] theorem Tryd.go11 : isGo Tryd.prog 11 = true := by kernel_rfl
@[go_sem] theorem Tryd.go12 : isGo Tryd.prog 12 = true := by kernel_rfl
@[go_sem] theorem Tryd.go13 : isGo Tryd.prog 13 = true := by kernel_rfl
@[go_sem] theorem Tryd.go14 : isGo Tryd.prog 14 = true := by kernel_rfl
@[go_sem] theorem Tryd.go15 : isGo Tryd.prog 15 = true := by kernel_rfl
@[go_sem] theorem Tryd.go16 : isGo Tryd.prog 16 = true := by kernel_rfl
@[go_sem] theorem Tryd.go17 : isGo Tryd.prog 17 = true := by kernel_rfl
@[go_sem] theorem Tryd.go18 : isGo Tryd.prog 18 = true := by kernel_rfl
@[go_sem] theorem Tryd.go19 : isGo Tryd.prog 19 = true := by kernel_rfl
@[go_sem] theorem Tryd.go20 : isGo Tryd.prog 20 = true := by kernel_rfl
@[go_sem] theorem Tryd.go21 : isGo Tryd.prog 21 = true := by kernel_rfl
@[go_sem] theorem Tryd.go22 : isGo Tryd.prog 22 = true := by kernel_rfl
@[go_sem] theorem Tryd.go23 : isGo Tryd.prog 23 = true := by kernel_rfl
@[go_sem] theorem Tryd.go24 : isGo Tryd.prog 24 = true := by kernel_rfl
@[go_sem] theorem Tryd.go26 : isGo Tryd.prog 26 = true := by kernel_rfl
@[go_sem] theorem Tryd.go27 : isGo Tryd.prog 27 = true := by kernel_rfl
@[go_sem] theorem Tryd.go28 : isGo Tryd.prog 28 = true := by kernel_rfl
@[go_sem] theorem Tryd.go29 : isGo Tryd.prog 29 = true := by kernel_rfl
@[go_sem] theorem Tryd.go30 : isGo Tryd.prog 30 = true := by kernel_rfl
@[go_sem] theorem Tryd.go31 : isGo Tryd.prog 31 = true := by kernel_rfl
@[go_sem] theorem Tryd.go33 : isGo Tryd.prog 33 = true := by kernel_rfl
theorem Tryd.Su8 : SlT Tryd.prog 22 5 1 1 (.int .u8 0) := ⟨by kernel_rfl, by kernel_rfl, by rfl, by decide⟩
end Go.Proofs
