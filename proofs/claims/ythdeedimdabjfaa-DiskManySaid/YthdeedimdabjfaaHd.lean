/-
  What the walks want to know of the program: which functions have bodies; its slice types. Written by a program of the session.
-/
import Derived.Test.YthdeedimdabjfaaProg
import Derived.Test.YthdeedimdabjfaaHp
namespace Go.Proofs
open Go.Vc
theorem Try.mixed : Try.prog.follows .mixedOrders = true := by kernel_rfl
@[go_sem] theorem Try.go3 : isGo Try.prog 3 = true := by kernel_rfl
@[go_sem] theorem Try.go4 : isGo Try.prog 4 = true := by kernel_rfl
@[go_sem] theorem Try.go5 : isGo Try.prog 5 = true := by kernel_rfl
@[go_sem] theorem Try.go6 : isGo Try.prog 6 = true := by kernel_rfl
@[go_sem] theorem Try.go7 : isGo Try.prog 7 = true := by kernel_rfl
@[go_sem] theorem Try.go8 : isGo Try.prog 8 = true := by kernel_rfl
@[go_sem] theorem Try.go9 : isGo Try.prog 9 = true := by kernel_rfl
@[go_sem] theorem Try.go10 : isGo Try.prog 10 = true := by kernel_rfl
@[go_sem] theorem Try.go11 : isGo Try.prog 11 = true := by kernel_rfl
@[go_sem] theorem Try.go12 : isGo Try.prog 12 = true := by kernel_rfl
@[go_sem] theorem Try.go13 : isGo Try.prog 13 = true := by kernel_rfl
@[go_sem] theorem Try.go14 : isGo Try.prog 14 = true := by kernel_rfl
@[go_sem] theorem Try.go15 : isGo Try.prog 15 = true := by kernel_rfl
@[go_sem] theorem Try.go16 : isGo Try.prog 16 = true := by kernel_rfl
@[go_sem] theorem Try.go17 : isGo Try.prog 17 = true := by kernel_rfl
@[go_sem] theorem Try.go18 : isGo Try.prog 18 = true := by kernel_rfl
@[go_sem] theorem Try.go19 : isGo Try.prog 19 = true := by kernel_rfl
@[go_sem] theorem Try.go20 : isGo Try.prog 20 = true := by kernel_rfl
@[go_sem] theorem Try.go21 : isGo Try.prog 21 = true := by kernel_rfl
@[go_sem] theorem Try.go22 : isGo Try.prog 22 = true := by kernel_rfl
@[go_sem] theorem Try.go23 : isGo Try.prog 23 = true := by kernel_rfl
@[go_sem] theorem Try.go24 : isGo Try.prog 24 = true := by kernel_rfl
@[go_sem] theorem Try.go25 : isGo Try.prog 25 = true := by kernel_rfl
@[go_sem] theorem Try.go26 : isGo Try.prog 26 = true := by kernel_rfl
@[go_sem] theorem Try.go27 : isGo Try.prog 27 = true := by kernel_rfl
@[go_sem] theorem Try.go28 : isGo Try.prog 28 = true := by kernel_rfl
@[go_sem] theorem Try.go29 : isGo Try.prog 29 = true := by kernel_rfl
@[go_sem] theorem Try.go30 : isGo Try.prog 30 = true := by kernel_rfl
@[go_sem] theorem Try.go31 : isGo Try.prog 31 = true := by kernel_rfl
@[go_sem] theorem Try.go32 : isGo Try.prog 32 = true := by kernel_rfl
@[go_sem] theorem Try.go33 : isGo Try.prog 33 = true := by kernel_rfl
@[go_sem] theorem Try.go34 : isGo Try.prog 34 = true := by kernel_rfl
@[go_sem] theorem Try.go35 : isGo Try.prog 35 = true := by kernel_rfl
@[go_sem] theorem Try.go36 : isGo Try.prog 36 = true := by kernel_rfl
@[go_sem] theorem Try.go37 : isGo Try.prog 37 = true := by kernel_rfl
@[go_sem] theorem Try.go38 : isGo Try.prog 38 = true := by kernel_rfl
@[go_sem] theorem Try.go39 : isGo Try.prog 39 = true := by kernel_rfl
@[go_sem] theorem Try.go40 : isGo Try.prog 40 = true := by kernel_rfl
@[go_sem] theorem Try.go41 : isGo Try.prog 41 = true := by kernel_rfl
@[go_sem] theorem Try.go42 : isGo Try.prog 42 = true := by kernel_rfl
@[go_sem] theorem Try.go43 : isGo Try.prog 43 = true := by kernel_rfl
@[go_sem] theorem Try.go44 : isGo Try.prog 44 = true := by kernel_rfl
@[go_sem] theorem Try.go45 : isGo Try.prog 45 = true := by kernel_rfl
@[go_sem] theorem Try.go46 : isGo Try.prog 46 = true := by kernel_rfl
@[go_sem] theorem Try.go47 : isGo Try.prog 47 = true := by kernel_rfl
@[go_sem] theorem Try.go48 : isGo Try.prog 48 = true := by kernel_rfl
@[go_sem] theorem Try.go49 : isGo Try.prog 49 = true := by kernel_rfl
@[go_sem] theorem Try.go50 : isGo Try.prog 50 = true := by kernel_rfl
@[go_sem] theorem Try.go51 : isGo Try.prog 51 = true := by kernel_rfl
@[go_sem] theorem Try.go52 : isGo Try.prog 52 = true := by kernel_rfl
@[go_sem] theorem Try.go53 : isGo Try.prog 53 = true := by kernel_rfl
@[go_sem] theorem Try.go54 : isGo Try.prog 54 = true := by kernel_rfl
@[go_sem] theorem Try.go55 : isGo Try.prog 55 = true := by kernel_rfl
@[go_sem] theorem Try.go56 : isGo Try.prog 56 = true := by kernel_rfl
@[go_sem] theorem Try.go57 : isGo Try.prog 57 = true := by kernel_rfl
@[go_sem] theorem Try.go58 : isGo Try.prog 58 = true := by kernel_rfl
@[go_sem] theorem Try.go59 : isGo Try.prog 59 = true := by kernel_rfl
@[go_sem] theorem Try.go60 : isGo Try.prog 60 = true := by kernel_rfl
@[go_sem] theorem Try.go61 : isGo Try.prog 61 = true := by kernel_rfl
@[go_sem] theorem Try.go62 : isGo Try.prog 62 = true := by kernel_rfl
@[go_sem] theorem Try.go63 : isGo Try.prog 63 = true := by kernel_rfl
@[go_sem] theorem Try.go64 : isGo Try.prog 64 = true := by kernel_rfl
@[go_sem] theorem Try.go65 : isGo Try.prog 65 = true := by kernel_rfl
@[go_sem] theorem Try.go66 : isGo Try.prog 66 = true := by kernel_rfl
@[go_sem] theorem Try.go67 : isGo Try.prog 67 = true := by kernel_rfl
@[go_sem] theorem Try.go68 : isGo Try.prog 68 = true := by kernel_rfl
@[go_sem] theorem Try.go69 : isGo Try.prog 69 = true := by kernel_rfl
@[go_sem] theorem Try.go70 : isGo Try.prog 70 = true := by kernel_rfl
@[go_sem] theorem Try.go71 : isGo Try.prog 71 = true := by kernel_rfl
@[go_sem] theorem Try.go72 : isGo Try.prog 72 = true := by kernel_rfl
@[go_sem] theorem Try.go73 : isGo Try.prog 73 = true := by kernel_rfl
@[go_sem] theorem Try.go74 : isGo Try.prog 74 = true := by kernel_rfl
@[go_sem] theorem Try.go75 : isGo Try.prog 75 = true := by kernel_rfl
@[go_sem] theorem Try.go76 : isGo Try.prog 76 = true := by kernel_rfl
@[go_sem] theorem Try.go77 : isGo Try.prog 77 = true := by kernel_rfl
@[go_sem] theorem Try.go78 : isGo Try.prog 78 = true := by kernel_rfl
@[go_sem] theorem Try.go79 : isGo Try.prog 79 = true := by kernel_rfl
@[go_sem] theorem Try.go80 : isGo Try.prog 80 = true := by kernel_rfl
@[go_sem] theorem Try.go81 : isGo Try.prog 81 = true := by kernel_rfl
@[go_sem] theorem Try.go82 : isGo Try.prog 82 = true := by kernel_rfl
@[go_sem] theorem Try.go83 : isGo Try.prog 83 = true := by kernel_rfl
@[go_sem] theorem Try.go84 : isGo Try.prog 84 = true := by kernel_rfl
@[go_sem] theorem Try.go85 : isGo Try.prog 85 = true := by kernel_rfl
@[go_sem] theorem Try.go86 : isGo Try.prog 86 = true := by kernel_rfl
@[go_sem] theorem Try.go87 : isGo Try.prog 87 = true := by kernel_rfl
@[go_sem] theorem Try.go88 : isGo Try.prog 88 = true := by kernel_rfl
@[go_sem] theorem Try.go89 : isGo Try.prog 89 = true := by kernel_rfl
@[go_sem] theorem Try.go90 : isGo Try.prog 90 = true := by kernel_rfl
@[go_sem] theorem Try.go91 : isGo Try.prog 91 = true := by kernel_rfl
@[go_sem] theorem Try.go93 : isGo Try.prog 93 = true := by kernel_rfl
@[go_sem] theorem Try.go94 : isGo Try.prog 94 = true := by kernel_rfl
@[go_sem] theorem Try.go95 : isGo Try.prog 95 = true := by kernel_rfl
@[go_sem] theorem Try.go96 : isGo Try.prog 96 = true := by kernel_rfl
@[go_sem] theorem Try.go97 : isGo Try.prog 97 = true := by kernel_rfl
@[go_sem] theorem Try.go98 : isGo Try.prog 98 = true := by kernel_rfl
@[go_sem] theorem Try.go99 : isGo Try.prog 99 = true := by kernel_rfl
@[go_sem] theorem Try.go100 : isGo Try.prog 100 = true := by kernel_rfl
@[go_sem] theorem Try.go101 : isGo Try.prog 101 = true := by kernel_rfl
@[go_sem] theorem Try.go102 : isGo Try.prog 102 = true := by kernel_rfl
@[go_sem] theorem Try.go103 : isGo Try.prog 103 = true := by kernel_rfl
@[go_sem] theorem Try.go104 : isGo Try.prog 104 = true := by kernel_rfl
@[go_sem] theorem Try.go105 : isGo Try.prog 105 = true := by kernel_rfl
@[go_sem] theorem Try.go106 : isGo Try.prog 106 = true := by kernel_rfl
@[go_sem] theorem Try.go107 : isGo Try.prog 107 = true := by kernel_rfl
@[go_sem] theorem Try.go108 : isGo Try.prog 108 = true := by kernel_rfl
@[go_sem] theorem Try.go109 : isGo Try.prog 109 = true := by kernel_rfl
@[go_sem] theorem Try.go110 : isGo Try.prog 110 = true := by kernel_rfl
@[go_sem] theorem Try.go111 : isGo Try.prog 111 = true := by kernel_rfl
@[go_sem] theorem Try.go112 : isGo Try.prog 112 = true := by kernel_rfl
@[go_sem] theorem Try.go113 : isGo Try.prog 113 = true := by kernel_rfl
@[go_sem] theorem Try.go114 : isGo Try.prog 114 = true := by kernel_rfl
@[go_sem] theorem Try.go115 : isGo Try.prog 115 = true := by kernel_rfl
@[go_sem] theorem Try.go116 : isGo Try.prog 116 = true := by kernel_rfl
@[go_sem] theorem Try.nz (a b args : Array Value) (w : World) (K : Value → World → Prop) (k : Stop K) : callV Try.prog (.func (.func 92) a b) args w K k = wV K .mk (nzS Try.prog 23 (a ++ args ++ b) w) := callV_entry (e := Extern.BytealgMakeNoZero.makeNoZero Try.f92.params Try.f92.resultTypes) Try.func92 (by kernel_rfl) (by kernel_rfl) (by kernel_rfl) (by kernel_rfl) a b args w K k
theorem Try.Su8 : SlT Try.prog 23 5 1 1 (.int .u8 0) := ⟨by kernel_rfl, by kernel_rfl, by rfl, by decide⟩
theorem Try.Srows : SlT Try.prog 22 23 1 24 (.slice none 0 0) := ⟨by kernel_rfl, by kernel_rfl, by rfl, by decide⟩
theorem Try.Sstr : SlT Try.prog 40 9 1 16 (.string ⟨#[]⟩) := ⟨by kernel_rfl, by kernel_rfl, by rfl, by decide⟩
end Go.Proofs
