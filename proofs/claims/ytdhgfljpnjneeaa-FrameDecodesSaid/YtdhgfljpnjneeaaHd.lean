/-
  What the walks want to know of the program: which functions have bodies; its slice types. Written by a program of the session.
-/
import Derived.Test.YtdhgfljpnjneeaaProg
import Derived.Test.YtdhgfljpnjneeaaHp
namespace Go.Proofs
open Go.Vc
theorem Try.mixed : Try.prog.follows .mixedOrders = true := by kernel_rfl
@[go_sem] theorem Try.go3 : isGo Try.prog 3 = true := by kernel_rfl
@[go_sem] theorem Try.go4 : isGo Try.prog 4 = true := by kernel_rfl
@[go_sem] theorem Try.go5 : isGo Try.prog 5 = true := by kernel_rfl
@[go_sem] theorem Try.go6 : isGo Try.prog 6 = true := by kernel_rfl
@[go_sem] theorem Try.go7 : isGo Try.prog 7 = true := by kernel_rfl
@[go_sem] theorem Try.go8 : isGo Try.prog 8 = true := by kernel_rfl
@[go_sem] theorem Try.go9 : isGo Try.prog 9 = true := by kernel_rfl
@[go_sem] theorem Try.go10 : isGo Try.prog 10 = true := by kernel_rfl
@[go_sem] theorem Try.go11 : isGo Try.prog 11 = true := by kernel_rfl
@[go_sem] theorem Try.go12 : isGo Try.prog 12 = true := by kernel_rfl
@[go_sem] theorem Try.go13 : isGo Try.prog 13 = true := by kernel_rfl
@[go_sem] theorem Try.go14 : isGo Try.prog 14 = true := by kernel_rfl
@[go_sem] theorem Try.go15 : isGo Try.prog 15 = true := by kernel_rfl
@[go_sem] theorem Try.go16 : isGo Try.prog 16 = true := by kernel_rfl
@[go_sem] theorem Try.go17 : isGo Try.prog 17 = true := by kernel_rfl
@[go_sem] theorem Try.go18 : isGo Try.prog 18 = true := by kernel_rfl
@[go_sem] theorem Try.go19 : isGo Try.prog 19 = true := by kernel_rfl
@[go_sem] theorem Try.go20 : isGo Try.prog 20 = true := by kernel_rfl
@[go_sem] theorem Try.go21 : isGo Try.prog 21 = true := by kernel_rfl
@[go_sem] theorem Try.go22 : isGo Try.prog 22 = true := by kernel_rfl
@[go_sem] theorem Try.go23 : isGo Try.prog 23 = true := by kernel_rfl
@[go_sem] theorem Try.go24 : isGo Try.prog 24 = true := by kernel_rfl
@[go_sem] theorem Try.go25 : isGo Try.prog 25 = true := by kernel_rfl
@[go_sem] theorem Try.go26 : isGo Try.prog 26 = true := by kernel_rfl
@[go_sem] theorem Try.go27 : isGo Try.prog 27 = true := by kernel_rfl
@[go_sem] theorem Try.go28 : isGo Try.prog 28 = true := by kernel_rfl
@[go_sem] theorem Try.go29 : isGo Try.prog 29 = true := by kernel_rfl
@[go_sem] theorem Try.go30 : isGo Try.prog 30 = true := by kernel_rfl
@[go_sem] theorem Try.go31 : isGo Try.prog 31 = true := by kernel_rfl
@[go_sem] theorem Try.go32 : isGo Try.prog 32 = true := by kernel_rfl
@[go_sem] theorem Try.nz (a b args : Array Value) (w : World) (K : Value → World → Prop) (k : Stop K) : callV Try.prog (.func (.func 33) a b) args w K k = wV K .mk (nzS Try.prog 22 (a ++ args ++ b) w) := callV_entry (e := Extern.BytealgMakeNoZero.makeNoZero Try.f33.params Try.f33.resultTypes) Try.func33 (by kernel_rfl) (by kernel_rfl) (by kernel_rfl) (by kernel_rfl) a b args w K k
theorem Try.Su8 : SlT Try.prog 22 5 1 1 (.int .u8 0) := ⟨by kernel_rfl, by kernel_rfl, by rfl, by decide⟩
theorem Try.Sint : SlT Try.prog 36 3 1 8 (.int .i64 0) := ⟨by kernel_rfl, by kernel_rfl, by rfl, by decide⟩
theorem Try.Srows : SlT Try.prog 30 22 1 24 (.slice none 0 0) := ⟨by kernel_rfl, by kernel_rfl, by rfl, by decide⟩
end Go.Proofs
