/-
  What disk's statements' own small functions come to; DiskKeeps walked. By the session itself.
-/
import Derived.Test.YthonmjgagblogaaGreatDkE
import Derived.Test.YthonmjgagblogaaGreatTx
namespace Go.Proofs.YthonmjgagblogaaGreat
set_option linter.unusedSimpArgs false
set_option linter.unusedVariables false
set_option maxRecDepth 100000
set_option maxHeartbeats 1000000
open Go.Vc Go.RowKit

theorem no_ofl1 (A : Option Addr) (vs : List Value) : Ofl A vs fun _ => False := fun _ _ _ h => h
theorem mayL_none {R : Nat} {fs : List (Nm × Fil)} {s : Nm} (hs : badN s = false) : mayL ⟨R, fs, none⟩ [s] = 0 := by simp [mayL, hs]
theorem dApp0 {R : Nat} {s : Nm} {b : List UInt8} (hs : badN s = false) (h : b.length ≤ R) : dAppend ⟨R, [], none⟩ s b = (⟨R, [(s, ⟨b, 0⟩)], none⟩, 0) := by
  unfold dAppend
  rw [mayL_none hs, if_neg (fun h => h rfl), if_neg (by simp [Dsk.used, sumv, tLook]; omega)]
  simp [tLook, tLay, Dsk.done, Fil.none]
theorem dApp1 {R : Nat} {s : Nm} {a b : List UInt8} {l : Nat} (hs : badN s = false) (h : a.length + b.length ≤ R) : dAppend ⟨R, [(s, ⟨a, l⟩)], none⟩ s b = (⟨R, [(s, ⟨a ++ b, l⟩)], none⟩, 0) := by
  unfold dAppend
  rw [mayL_none hs, if_neg (fun h => h rfl), if_neg (by simp [Dsk.used, sumv, tLook]; omega)]
  simp [tLook, tLay, Dsk.done, Fil.none, nm_lt_irrefl]
theorem dSync1 {R : Nat} {s : Nm} {a : List UInt8} {l : Nat} (hs : badN s = false) : dEach fSync ⟨R, [(s, ⟨a, l⟩)], none⟩ [s] = (⟨R, [(s, ⟨a, a.length⟩)], none⟩, 0) := by
  simp [dEach, dStep, mayL_none hs, tLook, fSync, tLay, nm_lt_irrefl, Dsk.done]
theorem dCrash1 {R : Nat} {s : Nm} {a : List UInt8} {l : Nat} {o : Option Nat} {n : Int} : dCrash ⟨R, [(s, ⟨a, l⟩)], o⟩ n = ⟨R, [(s, cutF n.toNat ⟨a, l⟩)], none⟩ := rfl
/-- One file, once something was laid. -/
def fsK (s : Nm) (a : List UInt8) (l i : Nat) : List (Nm × Fil) := if i = 0 then [] else [(s, ⟨a, l⟩)]
theorem appK {R : Nat} {s : Nm} {a b : List UInt8} {l i : Nat} (hs : badN s = false) (h0 : i = 0 → a = [] ∧ l = 0) (h : a.length + b.length ≤ R) : dAppend ⟨R, fsK s a l i, none⟩ s b = (⟨R, fsK s (a ++ b) l (i + 1), none⟩, 0) := by
  by_cases hi : i = 0
  · obtain ⟨rfl, rfl⟩ := h0 hi
    subst hi
    have h' : b.length ≤ R := by simpa using h
    simpa [fsK] using dApp0 hs h'
  · simp only [fsK, if_neg hi, if_neg (show ¬ i + 1 = 0 by omega)]
    exact dApp1 hs h
theorem bad102 : badN [102] = false := by decide
end Go.Proofs.YthonmjgagblogaaGreat
