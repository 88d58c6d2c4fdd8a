/-
  What the walks want to know of the program: which functions have bodies; its slice types. Written by a program of the session.
-/
import Derived.Test.YthonmjgagblogaaGreatProg
import Derived.Test.YthonmjgagblogaaGreatHp
namespace Go.Proofs
open Go.Vc
theorem Tryz.mixed : Tryz.prog.follows .mixedOrders = true := by kernel_rfl
@[go_sem] theorem Tryz.go3 : isGo Tryz.prog 3 = true := by kernel_rfl
@[go_sem] theorem Tryz.go4 : isGo Tryz.prog 4 = true := by kernel_rfl
@[go_sem] theorem Tryz.go5 : isGo Tryz.prog 5 = true := by kernel_rfl
@[go_sem] theorem Tryz.go6 : isGo Tryz.prog 6 = true := by kernel_rfl
@[go_sem] theorem Tryz.go7 : isGo Tryz.prog 7 = true := by kernel_rfl
@[go_sem] theorem Tryz.go8 : isGo Tryz.prog 8 = true := by kernel_rfl
@[go_sem] theorem Tryz.go9 : isGo Tryz.prog 9 = true := by kernel_rfl
@[go_sem] theorem Tryz.go10 : isGo Tryz.prog 10 = true := by kernel_rfl
@[go_sem] theorem Tryz.go11 : isGo Tryz.prog 11 = true := by kernel_rfl
@[go_sem] theorem Tryz.go12 : isGo Tryz.prog 12 = true := by kernel_rfl
@[go_sem] theorem Tryz.go13 : isGo Tryz.prog 13 = true := by kernel_rfl
@[go_sem] theorem Tryz.go14 : isGo Tryz.prog 14 = true := by kernel_rfl
@[go_sem] theorem Tryz.go15 : isGo Tryz.prog 15 = true := by kernel_rfl
@[go_sem] theorem Tryz.go16 : isGo Tryz.prog 16 = true := by kernel_rfl
@[go_sem] theorem Tryz.go17 : isGo Tryz.prog 17 = true := by kernel_rfl
@[go_sem] theorem Tryz.go18 : isGo Tryz.prog 18 = true := by kernel_rfl
@[go_sem] theorem Tryz.go19 : isGo Tryz.prog 19 = true := by kernel_rfl
@[go_sem] theorem Tryz.go20 : isGo Tryz.prog 20 = true := by kernel_rfl
@[go_sem] theorem Tryz.go21 : isGo Tryz.prog 21 = true := by kernel_rfl
@[go_sem] theorem Tryz.go22 : isGo Tryz.prog 22 = true := by kernel_rfl
@[go_sem] theorem Tryz.go23 : isGo Tryz.prog 23 = true := by kernel_rfl
@[go_sem] theorem Tryz.go24 : isGo Tryz.prog 24 = true := by kernel_rfl
@[go_sem] theorem Tryz.go25 : isGo Tryz.prog 25 = true := by kernel_rfl
@[go_sem] theorem Tryz.go26 : isGo Tryz.prog 26 = true := by kernel_rfl
@[go_sem] theorem Tryz.go27 : isGo Tryz.prog 27 = true := by kernel_rfl
@[go_sem] theorem Tryz.go28 : isGo Tryz.prog 28 = true := by kernel_rfl
@[go_sem] theorem Tryz.go29 : isGo Tryz.prog 29 = true := by kernel_rfl
@[go_sem] theorem Tryz.go30 : isGo Tryz.prog 30 = true := by kernel_rfl
@[go_sem] theorem Tryz.go31 : isGo Tryz.prog 31 = true := by kernel_rfl
@[go_sem] theorem Tryz.go32 : isGo Tryz.prog 32 = true := by kernel_rfl
@[go_sem] theorem Tryz.go33 : isGo Tryz.prog 33 = true := by kernel_rfl
@[go_sem] theorem Tryz.go34 : isGo Tryz.prog 34 = true := by kernel_rfl
@[go_sem] theorem Tryz.go35 : isGo Tryz.prog 35 = true := by kernel_rfl
@[go_sem] theorem Tryz.go36 : isGo Tryz.prog 36 = true := by kernel_rfl
@[go_sem] theorem Tryz.go37 : isGo Tryz.prog 37 = true := by kernel_rfl
@[go_sem] theorem Tryz.go38 : isGo Tryz.prog 38 = true := by kernel_rfl
@[go_sem] theorem Tryz.go39 : isGo Tryz.prog 39 = true := by kernel_rfl
@[go_sem] theorem Tryz.go40 : isGo Tryz.prog 40 = true := by kernel_rfl
@[go_sem] theorem Tryz.go41 : isGo Tryz.prog 41 = true := by kernel_rfl
@[go_sem] theorem Tryz.go42 : isGo Tryz.prog 42 = true := by kernel_rfl
@[go_sem] theorem Tryz.go43 : isGo Tryz.prog 43 = true := by kernel_rfl
@[go_sem] theorem Tryz.go44 : isGo Tryz.prog 44 = true := by kernel_rfl
@[go_sem] theorem Tryz.go45 : isGo Tryz.prog 45 = true := by kernel_rfl
@[go_sem] theorem Tryz.go46 : isGo Tryz.prog 46 = true := by kernel_rfl
@[go_sem] theorem Tryz.go47 : isGo Tryz.prog 47 = true := by kernel_rfl
@[go_sem] theorem Tryz.go48 : isGo Tryz.prog 48 = true := by kernel_rfl
@[go_sem] theorem Tryz.go49 : isGo Tryz.prog 49 = true := by kernel_rfl
@[go_sem] theorem Tryz.go50 : isGo Tryz.prog 50 = true := by kernel_rfl
@[go_sem] theorem Tryz.go51 : isGo Tryz.prog 51 = true := by kernel_rfl
@[go_sem] theorem Tryz.go52 : isGo Tryz.prog 52 = true := by kernel_rfl
@[go_sem] theorem Tryz.go53 : isGo Tryz.prog 53 = true := by kernel_rfl
@[go_sem] theorem Tryz.go55 : isGo Tryz.prog 55 = true := by kernel_rfl
@[go_sem] theorem Tryz.go56 : isGo Tryz.prog 56 = true := by kernel_rfl
@[go_sem] theorem Tryz.go57 : isGo Tryz.prog 57 = true := by kernel_rfl
@[go_sem] theorem Tryz.go58 : isGo Tryz.prog 58 = true := by kernel_rfl
@[go_sem] theorem Tryz.go59 : isGo Tryz.prog 59 = true := by kernel_rfl
@[go_sem] theorem Tryz.go60 : isGo Tryz.prog 60 = true := by kernel_rfl
@[go_sem] theorem Tryz.go61 : isGo Tryz.prog 61 = true := by kernel_rfl
@[go_sem] theorem Tryz.go62 : isGo Tryz.prog 62 = true := by kernel_rfl
@[go_sem] theorem Tryz.go63 : isGo Tryz.prog 63 = true := by kernel_rfl
@[go_sem] theorem Tryz.go64 : isGo Tryz.prog 64 = true := by kernel_rfl
@[go_sem] theorem Tryz.go65 : isGo Tryz.prog 65 = true := by kernel_rfl
@[go_sem] theorem Tryz.go66 : isGo Tryz.prog 66 = true := by kernel_rfl
@[go_sem] theorem Tryz.go67 : isGo Tryz.prog 67 = true := by kernel_rfl
@[go_sem] theorem Tryz.go68 : isGo Tryz.prog 68 = true := by kernel_rfl
@[go_sem] theorem Tryz.go69 : isGo Tryz.prog 69 = true := by kernel_rfl
@[go_sem] theorem Tryz.go70 : isGo Tryz.prog 70 = true := by kernel_rfl
@[go_sem] theorem Tryz.go71 : isGo Tryz.prog 71 = true := by kernel_rfl
@[go_sem] theorem Tryz.go72 : isGo Tryz.prog 72 = true := by kernel_rfl
@[go_sem] theorem Tryz.go73 : isGo Tryz.prog 73 = true := by kernel_rfl
@[go_sem] theorem Tryz.go74 : isGo Tryz.prog 74 = true := by kernel_rfl
@[go_sem] theorem Tryz.go75 : isGo Tryz.prog 75 = true := by kernel_rfl
@[go_sem] theorem Tryz.go76 : isGo Tryz.prog 76 = true := by kernel_rfl
@[go_sem] theorem Tryz.go77 : isGo Tryz.prog 77 = true := by kernel_rfl
@[go_sem] theorem Tryz.go78 : isGo Tryz.prog 78 = true := by kernel_rfl
@[go_sem] theorem Tryz.go79 : isGo Tryz.prog 79 = true := by kernel_rfl
@[go_sem] theorem Tryz.go80 : isGo Tryz.prog 80 = true := by kernel_rfl
@[go_sem] theorem Tryz.go81 : isGo Tryz.prog 81 = true := by kernel_rfl
@[go_sem] theorem Tryz.go82 : isGo Tryz.prog 82 = true := by kernel_rfl
@[go_sem] theorem Tryz.go83 : isGo Tryz.prog 83 = true := by kernel_rfl
@[go_sem] theorem Tryz.go84 : isGo Tryz.prog 84 = true := by kernel_rfl
@[go_sem] theorem Tryz.go85 : isGo Tryz.prog 85 = true := by kernel_rfl
@[go_sem] theorem Tryz.go86 : isGo Tryz.prog 86 = true := by kernel_rfl
@[go_sem] theorem Tryz.go87 : isGo Tryz.prog 87 = true := by kernel_rfl
@[go_sem] theorem Tryz.go88 : isGo Tryz.prog 88 = true := by kernel_rfl
@[go_sem] theorem Tryz.go89 : isGo Tryz.prog 89 = true := by kernel_rfl
@[go_sem] theorem Tryz.go90 : isGo Tryz.prog 90 = true := by kernel_rfl
@[go_sem] theorem Tryz.go91 : isGo Tryz.prog 91 = true := by kernel_rfl
@[go_sem] theorem Tryz.go92 : isGo Tryz.prog 92 = true := by kernel_rfl
@[go_sem] theorem Tryz.go93 : isGo Tryz.prog 93 = true := by kernel_rfl
@[go_sem] theorem Tryz.go94 : isGo Tryz.prog 94 = true := by kernel_rfl
@[go_sem] theorem Tryz.go95 : isGo Tryz.prog 95 = true := by kernel_rfl
@[go_sem] theorem Tryz.go96 : isGo Tryz.prog 96 = true := by kernel_rfl
@[go_sem] theorem Tryz.go97 : isGo Tryz.prog 97 = true := by kernel_rfl
@[go_sem] theorem Tryz.go98 : isGo Tryz.prog 98 = true := by kernel_rfl
@[go_sem] theorem Tryz.go99 : isGo Tryz.prog 99 = true := by kernel_rfl
@[go_sem] theorem Tryz.go100 : isGo Tryz.prog 100 = true := by kernel_rfl
@[go_sem] theorem Tryz.go101 : isGo Tryz.prog 101 = true := by kernel_rfl
@[go_sem] theorem Tryz.go102 : isGo Tryz.prog 102 = true := by kernel_rfl
@[go_sem] theorem Tryz.go103 : isGo Tryz.prog 103 = true := by kernel_rfl
@[go_sem] theorem Tryz.go104 : isGo Tryz.prog 104 = true := by kernel_rfl
@[go_sem] theorem Tryz.go105 : isGo Tryz.prog 105 = true := by kernel_rfl
@[go_sem] theorem Tryz.go106 : isGo Tryz.prog 106 = true := by kernel_rfl
@[go_sem] theorem Tryz.go107 : isGo Tryz.prog 107 = true := by kernel_rfl
@[go_sem] theorem Tryz.go108 : isGo Tryz.prog 108 = true := by kernel_rfl
@[go_sem] theorem Tryz.go109 : isGo Tryz.prog 109 = true := by kernel_rfl
@[go_sem] theorem Tryz.go110 : isGo Tryz.prog 110 = true := by kernel_rfl
@[go_sem] theorem Tryz.go111 : isGo Tryz.prog 111 = true := by kernel_rfl
@[go_sem] theorem Tryz.go112 : isGo Tryz.prog 112 = true := by kernel_rfl
@[go_sem] theorem Tryz.go113 : isGo Tryz.prog 113 = true := by kernel_rfl
@[go_sem] theorem Tryz.go114 : isGo Tryz.prog 114 = true := by kernel_rfl
@[go_sem] theorem Tryz.go115 : isGo Tryz.prog 115 = true := by kernel_rfl
@[go_sem] theorem Tryz.go116 : isGo Tryz.prog 116 = true := by kernel_rfl
@[go_sem] theorem Tryz.go117 : isGo Tryz.prog 117 = true := by kernel_rfl
@[go_sem] theorem Tryz.go118 : isGo Tryz.prog 118 = true := by kernel_rfl
@[go_sem] theorem Tryz.go119 : isGo Tryz.prog 119 = true := by kernel_rfl
@[go_sem] theorem Tryz.go120 : isGo Tryz.prog 120 = true := by kernel_rfl
@[go_sem] theorem Tryz.nz (a b args : Array Value) (w : World) (K : Value → World → Prop) (k : Stop K) : callV Tryz.prog (.func (.func 54) a b) args w K k = wV K .mk (nzS Tryz.prog 22 (a ++ args ++ b) w) := callV_entry (e := Extern.BytealgMakeNoZero.makeNoZero Tryz.f54.params Tryz.f54.resultTypes) Tryz.func54 (by kernel_rfl) (by kernel_rfl) (by kernel_rfl) (by kernel_rfl) a b args w K k
theorem Tryz.Su8 : SlT Tryz.prog 22 5 1 1 (.int .u8 0) := ⟨by kernel_rfl, by kernel_rfl, by rfl, by decide⟩
theorem Tryz.Sint : SlT Tryz.prog 120 3 1 8 (.int .i64 0) := ⟨by kernel_rfl, by kernel_rfl, by rfl, by decide⟩
theorem Tryz.Srows : SlT Tryz.prog 44 22 1 24 (.slice none 0 0) := ⟨by kernel_rfl, by kernel_rfl, by rfl, by decide⟩
theorem Tryz.Sstr : SlT Tryz.prog 68 9 1 16 (.string ⟨#[]⟩) := ⟨by kernel_rfl, by kernel_rfl, by rfl, by decide⟩
end Go.Proofs
