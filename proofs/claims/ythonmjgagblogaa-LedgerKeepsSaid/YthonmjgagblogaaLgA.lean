/-
  A ledger: what its functions come to, in plain words. By the session itself.
-/
import Derived.Test.YthonmjgagblogaaKpA
import Derived.Test.YthonmjgagblogaaTx
import Derived.Test.YthonmjgagblogaaFrmT
import Derived.Test.YthonmjgagblogaaOctPn
namespace Go.Proofs.Ythonmjgagblogaa
set_option linter.unusedSimpArgs false
set_option linter.unusedVariables false
set_option maxRecDepth 100000
set_option maxHeartbeats 1000000
open Go.Vc Go.RowKit

/-- The names of a ledger's files. -/
def imgN (p : Nm) : Nm := p ++ [45, 105, 109, 103]
def logN (p : Nm) : Nm := p ++ [45, 108, 111, 103]
/-- A ledger: the image's number and bytes, the entries behind it, and whether an error of the disk has ended it. -/
structure Led where
  base : Nat
  data : List UInt8
  ents : List (List UInt8)
  dead : Bool
def Led.last (L : Led) : Nat := L.base + L.ents.length
theorem kLoad_len {D : Dsk} (ok : D.Ok) (s : Nm) : (kLoad D s).1.length ≤ 1073741824 := by
  have h1 := dRead_len ok s
  have h2 := oneL_len (dRead D s).1
  unfold kLoad
  split
  · simp
  · split
    · simp
    · simp only; omega
/-- Files taken away that are there. -/
def rmvs : Dsk → List Nm → Dsk × Nat
  | D, [] => (D, 0)
  | D, s :: r => if (kW1 D s).2 ≠ 0 then kW1 D s else rmvs (kW1 D s).1 r
/-- A number and a row, and nothing behind them: whether it is that, the number, the row. -/
def numRow (b : List UInt8) : Bool × Nat × List UInt8 :=
  (!(bytL (numL b false).2.1 (numL b false).2.2).2.2 && (bytL (numL b false).2.1 (numL b false).2.2).2.1.isEmpty, (numL b false).1, (bytL (numL b false).2.1 (numL b false).2.2).1)
/-- The image: its number, its bytes, an error. -/
def imgL (D : Dsk) (p : Nm) : Nat × List UInt8 × Nat :=
  if (kLoad D (imgN p)).2 = 7 then (0, [], 0) else if (kLoad D (imgN p)).2 ≠ 0 then (0, [], (kLoad D (imgN p)).2) else
    ((numRow (kLoad D (imgN p)).1).2.1, (numRow (kLoad D (imgN p)).1).2.2, if (numRow (kLoad D (imgN p)).1).1 = false ∨ 1099511627776 < (numRow (kLoad D (imgN p)).1).2.1 then 3 else 0)
/-- A record taken in: the last number (-1: none), the entries. -/
def takeP (base : Nat) (last : Int) (es : List (List UInt8)) (p : List UInt8) : Option (Int × List (List UInt8)) :=
  if (numRow p).1 = false ∨ (numRow p).2.1 < 1 ∨ 1099511627776 < (numRow p).2.1 ∨ (0 ≤ last ∧ ((numRow p).2.1 : Int) ≠ last + 1) then none
  else if (numRow p).2.1 ≤ base then some ((numRow p).2.1, es) else if (numRow p).2.1 ≠ base + es.length + 1 then none else some ((numRow p).2.1, es ++ [(numRow p).2.2])
def takesP (base : Nat) : Int → List (List UInt8) → List (List UInt8) → Option (Int × List (List UInt8))
  | last, es, [] => some (last, es)
  | last, es, p :: r => match takeP base last es p with
    | none => none
    | some q => takesP base q.1 q.2 r
/-- A file cut off, and that synced. -/
def cutS (D : Dsk) (s : Nm) (n : Nat) : Dsk × Nat := if (dTrunc D s n).2 ≠ 0 then dTrunc D s n else dEach fSync (dTrunc D s n).1 [s]
def cutIf (D : Dsk) (s : Nm) (good len : Nat) : Dsk × Nat := if good < len then cutS D s good else (D, 0)
def emptyIf (D : Dsk) (s : Nm) (es : List (List UInt8)) : Dsk × Nat := if es.length = 0 then dEach fRemove D [s] else (D, 0)
def logFin (D : Dsk) (s : Nm) (good len : Nat) (es : List (List UInt8)) : Dsk × Nat × List (List UInt8) :=
  if (cutIf D s good len).2 ≠ 0 then ((cutIf D s good len).1, (cutIf D s good len).2, es) else ((emptyIf (cutIf D s good len).1 s es).1, (emptyIf (cutIf D s good len).1 s es).2, es)
def logOf (D : Dsk) (s : Nm) (base : Nat) (b : List UInt8) : Dsk × Nat × List (List UInt8) :=
  match takesP base (-1) [] (scanL (b.length + 1) b).1 with
  | none => (D, 3, [])
  | some q => logFin D s (scanL (b.length + 1) b).2 b.length q.2
/-- The log: the disk, an error, the entries. -/
def logL (D : Dsk) (p : Nm) (base : Nat) : Dsk × Nat × List (List UInt8) := match tLook D.fs (logN p) with
  | none => (D, 0, [])
  | some x => logOf D (logN p) base x.b
/-- Open: the disk, an error, the ledger. -/
def opn3 (D : Dsk) (p : Nm) (i : Nat × List UInt8 × Nat) : Dsk × Nat × Led :=
  if i.2.2 ≠ 0 then (D, i.2.2, ⟨0, [], [], false⟩) else ((logL D p i.1).1, (logL D p i.1).2.1, ⟨i.1, i.2.1, (logL D p i.1).2.2, false⟩)
def opn2 (r : Dsk × Nat) (p : Nm) : Dsk × Nat × Led := if r.2 ≠ 0 then (r.1, r.2, ⟨0, [], [], false⟩) else opn3 r.1 p (imgL r.1 p)
def opn (D : Dsk) (p : Nm) : Dsk × Nat × Led := opn2 (rmvs D [shadow (imgN p)]) p
/-- What an entry is written as. -/
def entB (n : Nat) (b : List UInt8) : List UInt8 := recL (numB n ++ rowB b)
def apS (r : Dsk × Nat) (s : Nm) : Dsk × Nat := if r.2 ≠ 0 then r else dEach fSync r.1 [s]
def apL (L : Led) (r : Dsk × Nat) (b : List UInt8) : Dsk × Led × Nat × Nat :=
  if r.2 ≠ 0 then (r.1, { L with dead := true }, 0, r.2) else (r.1, { L with ents := L.ents ++ [b] }, L.last + 1, 0)
/-- Append: the disk, the ledger, the number, an error. -/
def lApp (D : Dsk) (p : Nm) (L : Led) (b : List UInt8) : Dsk × Led × Nat × Nat :=
  if L.dead then (D, L, 0, 9) else if 65536 < b.length ∨ 1099511627776 ≤ L.last then (D, L, 0, 5) else
    apL L (apS (dAppend D (logN p) (entB (L.last + 1) b)) (logN p)) b
def wrS (r : Dsk × Nat) (s : Nm) : Dsk × Nat := if r.2 ≠ 0 then r else rmvs r.1 [s]
def wrL (L : Led) (r : Dsk × Nat) (n : Nat) (b : List UInt8) : Dsk × Led × Nat :=
  if r.2 ≠ 0 then (r.1, { L with dead := true }, r.2) else (r.1, ⟨n, b, [], false⟩, 0)
/-- Write: the disk, the ledger, an error. -/
def lWrite (D : Dsk) (p : Nm) (L : Led) (n : Int) (b : List UInt8) : Dsk × Led × Nat :=
  if L.dead then (D, L, 9) else if n < L.last ∨ 1099511627776 < n then (D, L, 1) else if 524288 < b.length then (D, L, 5) else
    wrL L (wrS (kSave D (imgN p) (numB n.toNat ++ rowB b)) (logN p)) n.toNat b
/-- Drop: the disk, the ledger, an error. -/
def lDrop (D : Dsk) (p : Nm) (L : Led) : Dsk × Led × Nat :=
  if L.dead then (D, L, 9) else ((rmvs D [logN p, imgN p]).1, { L with dead := true }, (rmvs D [logN p, imgN p]).2)
def lAt (L : Led) (i : Int) : List UInt8 × Nat := if i ≤ L.base ∨ (L.last : Int) < i then ([], 7) else (L.ents.getD (i - L.base - 1).toNat [], 0)
end Go.Proofs.Ythonmjgagblogaa
