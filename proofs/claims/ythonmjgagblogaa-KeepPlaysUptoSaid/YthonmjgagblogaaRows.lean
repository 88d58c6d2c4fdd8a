/-
  No cell of these rows narrows 'for every input' (looked for: loops, veiled, ifaces, maps, wideKeys, modest, calm, conditions, laid).
  DERIVED. THE GIVEN ROWS OF THIS SEAT. 7 by the template 'for every input the law returns true; each argument reads behind the call as it read before'; 0 by the template 'total and deterministic' (their statements: YthonmjgagblogaaTotals.lean).
  GIVEN WITH THE SEED: the statements are not yours to turn. If you find one false, say at which input.
  Laid BY PROGRAM, IN A SANDBOX (cutbox-rows.mjs): the forced cells as the released guide's own fill.sh prints them over the translation 43df31e6eb7b0adf… (all of the seat's roots in one cut). By AI agents, Wed Nov 11 2026. No macro, syntax, notation, axiom, sorry.
-/
import Derived.Test.YthonmjgagblogaaChecked
import GoSem.Claim
import GoSem.ClaimJoined
import GoSem.ClaimMapViews
import Derived.JoinedTies
import Derived.KernelRfl
namespace Go.Proofs.Ythonmjgagblogaa
/- THE CELL 'sum', in the pinned program and in every row, IS THE sha256 OF THE DUMP (.gsa) THAT YthonmjgagblogaaProg.lean LOADS. Nothing in Lean hashes anything: it is a label: what it is worth is what the hold of that sum in a sandbox is worth. -/
noncomputable def Try.pinned : Pinned := { name := "ythonmjgagblogaa", sum := "43df31e6eb7b0adf20a798875129f1f93477e53aa73ecfca2a19fac4b0338d86", checked := Try.checked }
namespace Rows
def none {H : Type} : Left H := { results := [], args := [] }

/-- 'letterboxlaw3.DiskPlays': WHATEVER THE INPUT: true; the input reads as it did. -/
def diskPlaysSpec : ChangeSpec := { name := "diskPlays", fn := fun _ => fun
  | [d1, d2] => { results := [.lit (.bool true)], args := [d1, d2] }
  | _ => none }
def diskPlaysRow : OpenClaim := { program := "ythonmjgagblogaa", sum := "43df31e6eb7b0adf20a798875129f1f93477e53aa73ecfca2a19fac4b0338d86", func := "letterbox/letterboxlaw3.DiskPlays", spec := "diskPlays", inPlace := ["internal/bytealg.MakeNoZero"], unfollowed := true, recurses := true, apart := false }
def DiskPlaysSaid : Prop := diskPlaysRow.holds Try.pinned (OpenSpec.ofChange diskPlaysSpec)

/-- ITS FALSE NEIGHBOUR: 'it returns false'. Refute it at one input. -/
def diskPlaysWrong : ChangeSpec := { name := "diskPlays", fn := fun _ => fun
  | [d1, d2] => { results := [.lit (.bool false)], args := [d1, d2] }
  | _ => none }
def DiskPlaysWrongFalsely : Prop := diskPlaysRow.holds Try.pinned (OpenSpec.ofChange diskPlaysWrong)

/-- 'letterboxlaw4.KeepPlays': WHATEVER THE INPUT: true; the input reads as it did. -/
def keepPlaysSpec : ChangeSpec := { name := "keepPlays", fn := fun _ => fun
  | [d1, d2] => { results := [.lit (.bool true)], args := [d1, d2] }
  | _ => none }
def keepPlaysRow : OpenClaim := { program := "ythonmjgagblogaa", sum := "43df31e6eb7b0adf20a798875129f1f93477e53aa73ecfca2a19fac4b0338d86", func := "letterbox/letterboxlaw4.KeepPlays", spec := "keepPlays", inPlace := ["internal/bytealg.MakeNoZero"], unfollowed := true, recurses := true, apart := false }
def KeepPlaysSaid : Prop := keepPlaysRow.holds Try.pinned (OpenSpec.ofChange keepPlaysSpec)

/-- ITS FALSE NEIGHBOUR: 'it returns false'. Refute it at one input. -/
def keepPlaysWrong : ChangeSpec := { name := "keepPlays", fn := fun _ => fun
  | [d1, d2] => { results := [.lit (.bool false)], args := [d1, d2] }
  | _ => none }
def KeepPlaysWrongFalsely : Prop := keepPlaysRow.holds Try.pinned (OpenSpec.ofChange keepPlaysWrong)

/-- 'letterboxlaw5.LedgerApart': WHATEVER THE INPUT: true; the input reads as it did. -/
def ledgerApartSpec : ChangeSpec := { name := "ledgerApart", fn := fun _ => fun
  | [d1, d2, d3, d4] => { results := [.lit (.bool true)], args := [d1, d2, d3, d4] }
  | _ => none }
def ledgerApartRow : OpenClaim := { program := "ythonmjgagblogaa", sum := "43df31e6eb7b0adf20a798875129f1f93477e53aa73ecfca2a19fac4b0338d86", func := "letterbox/letterboxlaw5.LedgerApart", spec := "ledgerApart", inPlace := ["internal/bytealg.MakeNoZero"], unfollowed := true, recurses := true, apart := false }
def LedgerApartSaid : Prop := ledgerApartRow.holds Try.pinned (OpenSpec.ofChange ledgerApartSpec)

/-- ITS FALSE NEIGHBOUR: 'it returns false'. Refute it at one input. -/
def ledgerApartWrong : ChangeSpec := { name := "ledgerApart", fn := fun _ => fun
  | [d1, d2, d3, d4] => { results := [.lit (.bool false)], args := [d1, d2, d3, d4] }
  | _ => none }
def LedgerApartWrongFalsely : Prop := ledgerApartRow.holds Try.pinned (OpenSpec.ofChange ledgerApartWrong)

/-- 'letterboxlaw5.LedgerJumps': WHATEVER THE INPUT: true; the input reads as it did. -/
def ledgerJumpsSpec : ChangeSpec := { name := "ledgerJumps", fn := fun _ => fun
  | [d1, d2, d3, d4] => { results := [.lit (.bool true)], args := [d1, d2, d3, d4] }
  | _ => none }
def ledgerJumpsRow : OpenClaim := { program := "ythonmjgagblogaa", sum := "43df31e6eb7b0adf20a798875129f1f93477e53aa73ecfca2a19fac4b0338d86", func := "letterbox/letterboxlaw5.LedgerJumps", spec := "ledgerJumps", inPlace := ["internal/bytealg.MakeNoZero"], unfollowed := true, recurses := true, apart := false }
def LedgerJumpsSaid : Prop := ledgerJumpsRow.holds Try.pinned (OpenSpec.ofChange ledgerJumpsSpec)

/-- ITS FALSE NEIGHBOUR: 'it returns false'. Refute it at one input. -/
def ledgerJumpsWrong : ChangeSpec := { name := "ledgerJumps", fn := fun _ => fun
  | [d1, d2, d3, d4] => { results := [.lit (.bool false)], args := [d1, d2, d3, d4] }
  | _ => none }
def LedgerJumpsWrongFalsely : Prop := ledgerJumpsRow.holds Try.pinned (OpenSpec.ofChange ledgerJumpsWrong)

/-- 'letterboxlaw5.LedgerOfNothing': WHATEVER THE INPUT: true; the input reads as it did. -/
def ledgerOfNothingSpec : ChangeSpec := { name := "ledgerOfNothing", fn := fun _ => fun
  | [d1, d2] => { results := [.lit (.bool true)], args := [d1, d2] }
  | _ => none }
def ledgerOfNothingRow : OpenClaim := { program := "ythonmjgagblogaa", sum := "43df31e6eb7b0adf20a798875129f1f93477e53aa73ecfca2a19fac4b0338d86", func := "letterbox/letterboxlaw5.LedgerOfNothing", spec := "ledgerOfNothing", inPlace := ["internal/bytealg.MakeNoZero"], unfollowed := true, recurses := true, apart := false }
def LedgerOfNothingSaid : Prop := ledgerOfNothingRow.holds Try.pinned (OpenSpec.ofChange ledgerOfNothingSpec)

/-- ITS FALSE NEIGHBOUR: 'it returns false'. Refute it at one input. -/
def ledgerOfNothingWrong : ChangeSpec := { name := "ledgerOfNothing", fn := fun _ => fun
  | [d1, d2] => { results := [.lit (.bool false)], args := [d1, d2] }
  | _ => none }
def LedgerOfNothingWrongFalsely : Prop := ledgerOfNothingRow.holds Try.pinned (OpenSpec.ofChange ledgerOfNothingWrong)

/-- 'letterboxlaw5.LedgerTorn': WHATEVER THE INPUT: true; the input reads as it did. -/
def ledgerTornSpec : ChangeSpec := { name := "ledgerTorn", fn := fun _ => fun
  | [d1, d2] => { results := [.lit (.bool true)], args := [d1, d2] }
  | _ => none }
def ledgerTornRow : OpenClaim := { program := "ythonmjgagblogaa", sum := "43df31e6eb7b0adf20a798875129f1f93477e53aa73ecfca2a19fac4b0338d86", func := "letterbox/letterboxlaw5.LedgerTorn", spec := "ledgerTorn", inPlace := ["internal/bytealg.MakeNoZero"], unfollowed := true, recurses := true, apart := false }
def LedgerTornSaid : Prop := ledgerTornRow.holds Try.pinned (OpenSpec.ofChange ledgerTornSpec)

/-- ITS FALSE NEIGHBOUR: 'it returns false'. Refute it at one input. -/
def ledgerTornWrong : ChangeSpec := { name := "ledgerTorn", fn := fun _ => fun
  | [d1, d2] => { results := [.lit (.bool false)], args := [d1, d2] }
  | _ => none }
def LedgerTornWrongFalsely : Prop := ledgerTornRow.holds Try.pinned (OpenSpec.ofChange ledgerTornWrong)

/-- 'letterboxlaw5.LedgerKeeps': WHATEVER THE INPUT: true; the input reads as it did. -/
def ledgerKeepsSpec : ChangeSpec := { name := "ledgerKeeps", fn := fun _ => fun
  | [d1, d2, d3, d4] => { results := [.lit (.bool true)], args := [d1, d2, d3, d4] }
  | _ => none }
def ledgerKeepsRow : OpenClaim := { program := "ythonmjgagblogaa", sum := "43df31e6eb7b0adf20a798875129f1f93477e53aa73ecfca2a19fac4b0338d86", func := "letterbox/letterboxlaw5.LedgerKeeps", spec := "ledgerKeeps", inPlace := ["internal/bytealg.MakeNoZero"], unfollowed := true, recurses := true, apart := false }
def LedgerKeepsSaid : Prop := ledgerKeepsRow.holds Try.pinned (OpenSpec.ofChange ledgerKeepsSpec)

/-- ITS FALSE NEIGHBOUR: 'it returns false'. Refute it at one input. -/
def ledgerKeepsWrong : ChangeSpec := { name := "ledgerKeeps", fn := fun _ => fun
  | [d1, d2, d3, d4] => { results := [.lit (.bool false)], args := [d1, d2, d3, d4] }
  | _ => none }
def LedgerKeepsWrongFalsely : Prop := ledgerKeepsRow.holds Try.pinned (OpenSpec.ofChange ledgerKeepsWrong)

/- THE SECOND FORM. 'bulk': how many values and letters a reading holds, each counted each time it is reached (what is shared counts as often as it is met; a slice's spare places count too). A statement '..UptoSaid' is the law's where the arguments, and the package variables that the reading takes, are together of bulk at most 1048576: NARROWER than '..Said'. Prove '..Said' where nothing that the law and all that it calls make is longer than what came in: it says more and counts as full. Else prove '..UptoSaid'. A law counts once. -/
mutual
def uptoBulk {H : Type} : DataW H → Nat
  | .lit (.string bytes) => bytes.length + 1
  | .lit _ => 1
  | .nil => 1
  | .ptr d => uptoBulk d + 1
  | .slice elems spare => uptoBulkAll elems + uptoBulkAll spare + 1
  | .agg parts => uptoBulkAll parts + 1
  | .iface _ d => uptoBulk d + 1
  | .map entries => uptoBulkEntries entries + 1
  | .held _ => 1
def uptoBulkAll {H : Type} : List (DataW H) → Nat
  | [] => 0
  | d :: r => uptoBulk d + uptoBulkAll r
def uptoBulkEntries {H : Type} : List (Lit × DataW H) → Nat
  | [] => 0
  | x :: r => uptoBulkEntry x + uptoBulkEntries r
def uptoBulkEntry {H : Type} : Lit × DataW H → Nat
  | (.string bytes, d) => bytes.length + uptoBulk d + 1
  | (_, d) => uptoBulk d + 1
 end
def uptoSmall : (H : Type) → List (DataW H) → Bool := fun _ ds => decide (uptoBulkAll ds ≤ 1048576)
def OpenSpec.upto (s : _root_.Go.ChangeSpec) : _root_.Go.OpenSpec := { _root_.Go.OpenSpec.ofChange s with cond := some uptoSmall }

/-- 'letterboxlaw3.DiskPlays', WHERE WHAT IT READS IS OF BULK AT MOST 1048576: true; the input reads as it did. -/
def diskPlaysUptoRow : OpenClaim := { program := "ythonmjgagblogaa", sum := "43df31e6eb7b0adf20a798875129f1f93477e53aa73ecfca2a19fac4b0338d86", func := "letterbox/letterboxlaw3.DiskPlays", spec := "diskPlays", inPlace := ["internal/bytealg.MakeNoZero"], unfollowed := true, recurses := true, apart := false, narrowed := true }
def DiskPlaysUptoSaid : Prop := diskPlaysUptoRow.holds Try.pinned (OpenSpec.upto diskPlaysSpec)

/-- 'letterboxlaw4.KeepPlays', WHERE WHAT IT READS IS OF BULK AT MOST 1048576: true; the input reads as it did. -/
def keepPlaysUptoRow : OpenClaim := { program := "ythonmjgagblogaa", sum := "43df31e6eb7b0adf20a798875129f1f93477e53aa73ecfca2a19fac4b0338d86", func := "letterbox/letterboxlaw4.KeepPlays", spec := "keepPlays", inPlace := ["internal/bytealg.MakeNoZero"], unfollowed := true, recurses := true, apart := false, narrowed := true }
def KeepPlaysUptoSaid : Prop := keepPlaysUptoRow.holds Try.pinned (OpenSpec.upto keepPlaysSpec)

/-- 'letterboxlaw5.LedgerApart', WHERE WHAT IT READS IS OF BULK AT MOST 1048576: true; the input reads as it did. -/
def ledgerApartUptoRow : OpenClaim := { program := "ythonmjgagblogaa", sum := "43df31e6eb7b0adf20a798875129f1f93477e53aa73ecfca2a19fac4b0338d86", func := "letterbox/letterboxlaw5.LedgerApart", spec := "ledgerApart", inPlace := ["internal/bytealg.MakeNoZero"], unfollowed := true, recurses := true, apart := false, narrowed := true }
def LedgerApartUptoSaid : Prop := ledgerApartUptoRow.holds Try.pinned (OpenSpec.upto ledgerApartSpec)

/-- 'letterboxlaw5.LedgerJumps', WHERE WHAT IT READS IS OF BULK AT MOST 1048576: true; the input reads as it did. -/
def ledgerJumpsUptoRow : OpenClaim := { program := "ythonmjgagblogaa", sum := "43df31e6eb7b0adf20a798875129f1f93477e53aa73ecfca2a19fac4b0338d86", func := "letterbox/letterboxlaw5.LedgerJumps", spec := "ledgerJumps", inPlace := ["internal/bytealg.MakeNoZero"], unfollowed := true, recurses := true, apart := false, narrowed := true }
def LedgerJumpsUptoSaid : Prop := ledgerJumpsUptoRow.holds Try.pinned (OpenSpec.upto ledgerJumpsSpec)

/-- 'letterboxlaw5.LedgerOfNothing', WHERE WHAT IT READS IS OF BULK AT MOST 1048576: true; the input reads as it did. -/
def ledgerOfNothingUptoRow : OpenClaim := { program := "ythonmjgagblogaa", sum := "43df31e6eb7b0adf20a798875129f1f93477e53aa73ecfca2a19fac4b0338d86", func := "letterbox/letterboxlaw5.LedgerOfNothing", spec := "ledgerOfNothing", inPlace := ["internal/bytealg.MakeNoZero"], unfollowed := true, recurses := true, apart := false, narrowed := true }
def LedgerOfNothingUptoSaid : Prop := ledgerOfNothingUptoRow.holds Try.pinned (OpenSpec.upto ledgerOfNothingSpec)

/-- 'letterboxlaw5.LedgerTorn', WHERE WHAT IT READS IS OF BULK AT MOST 1048576: true; the input reads as it did. -/
def ledgerTornUptoRow : OpenClaim := { program := "ythonmjgagblogaa", sum := "43df31e6eb7b0adf20a798875129f1f93477e53aa73ecfca2a19fac4b0338d86", func := "letterbox/letterboxlaw5.LedgerTorn", spec := "ledgerTorn", inPlace := ["internal/bytealg.MakeNoZero"], unfollowed := true, recurses := true, apart := false, narrowed := true }
def LedgerTornUptoSaid : Prop := ledgerTornUptoRow.holds Try.pinned (OpenSpec.upto ledgerTornSpec)

/-- 'letterboxlaw5.LedgerKeeps', WHERE WHAT IT READS IS OF BULK AT MOST 1048576: true; the input reads as it did. -/
def ledgerKeepsUptoRow : OpenClaim := { program := "ythonmjgagblogaa", sum := "43df31e6eb7b0adf20a798875129f1f93477e53aa73ecfca2a19fac4b0338d86", func := "letterbox/letterboxlaw5.LedgerKeeps", spec := "ledgerKeeps", inPlace := ["internal/bytealg.MakeNoZero"], unfollowed := true, recurses := true, apart := false, narrowed := true }
def LedgerKeepsUptoSaid : Prop := ledgerKeepsUptoRow.holds Try.pinned (OpenSpec.upto ledgerKeepsSpec)

end Rows
end Go.Proofs.Ythonmjgagblogaa
