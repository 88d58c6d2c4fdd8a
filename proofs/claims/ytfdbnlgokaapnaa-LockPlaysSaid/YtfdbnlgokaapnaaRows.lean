/-
  No cell of these rows narrows 'for every input' (looked for: loops, veiled, ifaces, maps, wideKeys, modest, calm, conditions, laid).
  DERIVED. THE GIVEN ROWS OF THIS SEAT. 4 by the template 'for every input the law returns true; each argument reads behind the call as it read before'; 0 by the template 'total and deterministic' (their statements: YtfdbnlgokaapnaaTotals.lean).
  GIVEN WITH THE SEED: the statements are not yours to turn. If you find one false, say at which input.
  Laid BY PROGRAM, IN A SANDBOX (cutbox-rows.mjs): the forced cells as the released guide's own fill.sh prints them over the translation 6c8c409757555314… (all of the seat's roots in one cut). By AI agents, Wed Nov 11 2026. No macro, syntax, notation, axiom, sorry.
-/
import Derived.Test.YtfdbnlgokaapnaaChecked
import GoSem.Claim
import GoSem.ClaimJoined
import GoSem.ClaimMapViews
import Derived.JoinedTies
import Derived.KernelRfl
namespace Go.Proofs.Ytfdbnlgokaapnaa
/- THE CELL 'sum', in the pinned program and in every row, IS THE sha256 OF THE DUMP (.gsa) THAT YtfdbnlgokaapnaaProg.lean LOADS. Nothing in Lean hashes anything: it is a label: what it is worth is what the hold of that sum in a sandbox is worth. -/
noncomputable def Try.pinned : Pinned := { name := "ytfdbnlgokaapnaa", sum := "6c8c40975755531461021bf4d20dd20048fafc6cb0bf877e64f608f72d0c8658", checked := Try.checked }
namespace Rows
def none {H : Type} : Left H := { results := [], args := [] }

/-- 'letterboxlaw15.LockDue': WHATEVER THE INPUT: true; the input reads as it did. -/
def lockDueSpec : ChangeSpec := { name := "lockDue", fn := fun _ => fun
  | [d1, d2, d3, d4, d5] => { results := [.lit (.bool true)], args := [d1, d2, d3, d4, d5] }
  | _ => none }
def lockDueRow : OpenClaim := { program := "ytfdbnlgokaapnaa", sum := "6c8c40975755531461021bf4d20dd20048fafc6cb0bf877e64f608f72d0c8658", func := "letterbox/letterboxlaw15.LockDue", spec := "lockDue", recurses := true, apart := false }
def LockDueSaid : Prop := lockDueRow.holds Try.pinned (OpenSpec.ofChange lockDueSpec)

/-- ITS FALSE NEIGHBOUR: 'it returns false'. Refute it at one input. -/
def lockDueWrong : ChangeSpec := { name := "lockDue", fn := fun _ => fun
  | [d1, d2, d3, d4, d5] => { results := [.lit (.bool false)], args := [d1, d2, d3, d4, d5] }
  | _ => none }
def LockDueWrongFalsely : Prop := lockDueRow.holds Try.pinned (OpenSpec.ofChange lockDueWrong)

/-- 'letterboxlaw15.LockPlays': WHATEVER THE INPUT: true; the input reads as it did. -/
def lockPlaysSpec : ChangeSpec := { name := "lockPlays", fn := fun _ => fun
  | [d] => { results := [.lit (.bool true)], args := [d] }
  | _ => none }
def lockPlaysRow : OpenClaim := { program := "ytfdbnlgokaapnaa", sum := "6c8c40975755531461021bf4d20dd20048fafc6cb0bf877e64f608f72d0c8658", func := "letterbox/letterboxlaw15.LockPlays", spec := "lockPlays", recurses := true, apart := false }
def LockPlaysSaid : Prop := lockPlaysRow.holds Try.pinned (OpenSpec.ofChange lockPlaysSpec)

/-- ITS FALSE NEIGHBOUR: 'it returns false'. Refute it at one input. -/
def lockPlaysWrong : ChangeSpec := { name := "lockPlays", fn := fun _ => fun
  | [d] => { results := [.lit (.bool false)], args := [d] }
  | _ => none }
def LockPlaysWrongFalsely : Prop := lockPlaysRow.holds Try.pinned (OpenSpec.ofChange lockPlaysWrong)

/-- 'letterboxlaw15.LockOfNothing': WHATEVER THE INPUT: true; the input reads as it did. -/
def lockOfNothingSpec : ChangeSpec := { name := "lockOfNothing", fn := fun _ => fun
  | [d1, d2] => { results := [.lit (.bool true)], args := [d1, d2] }
  | _ => none }
def lockOfNothingRow : OpenClaim := { program := "ytfdbnlgokaapnaa", sum := "6c8c40975755531461021bf4d20dd20048fafc6cb0bf877e64f608f72d0c8658", func := "letterbox/letterboxlaw15.LockOfNothing", spec := "lockOfNothing", recurses := true, apart := false }
def LockOfNothingSaid : Prop := lockOfNothingRow.holds Try.pinned (OpenSpec.ofChange lockOfNothingSpec)

/-- ITS FALSE NEIGHBOUR: 'it returns false'. Refute it at one input. -/
def lockOfNothingWrong : ChangeSpec := { name := "lockOfNothing", fn := fun _ => fun
  | [d1, d2] => { results := [.lit (.bool false)], args := [d1, d2] }
  | _ => none }
def LockOfNothingWrongFalsely : Prop := lockOfNothingRow.holds Try.pinned (OpenSpec.ofChange lockOfNothingWrong)

/-- 'letterboxlaw1.OctetTakes': WHATEVER THE INPUT: true; the input reads as it did. -/
def octetTakesSpec : ChangeSpec := { name := "octetTakes", fn := fun _ => fun
  | [d1, d2, d3] => { results := [.lit (.bool true)], args := [d1, d2, d3] }
  | _ => none }
def octetTakesRow : OpenClaim := { program := "ytfdbnlgokaapnaa", sum := "6c8c40975755531461021bf4d20dd20048fafc6cb0bf877e64f608f72d0c8658", func := "letterbox/letterboxlaw1.OctetTakes", spec := "octetTakes", apart := false }
def OctetTakesSaid : Prop := octetTakesRow.holds Try.pinned (OpenSpec.ofChange octetTakesSpec)

/-- ITS FALSE NEIGHBOUR: 'it returns false'. Refute it at one input. -/
def octetTakesWrong : ChangeSpec := { name := "octetTakes", fn := fun _ => fun
  | [d1, d2, d3] => { results := [.lit (.bool false)], args := [d1, d2, d3] }
  | _ => none }
def OctetTakesWrongFalsely : Prop := octetTakesRow.holds Try.pinned (OpenSpec.ofChange octetTakesWrong)

/- THE SECOND FORM. 'bulk': how many values and letters a reading holds, each counted each time it is reached (what is shared counts as often as it is met; a slice's spare places count too). A statement '..UptoSaid' is the law's where the arguments, and the package variables that the reading takes, are together of bulk at most 1048576: NARROWER than '..Said'. Prove '..Said' where nothing that the law and all that it calls make is longer than what came in: it says more and counts as full. Else prove '..UptoSaid'. A law counts once. -/
mutual
def uptoBulk {H : Type} : DataW H → Nat
  | .lit (.string bytes) => bytes.length + 1
  | .lit _ => 1
  | .nil => 1
  | .ptr d => uptoBulk d + 1
  | .slice elems spare => uptoBulkAll elems + uptoBulkAll spare + 1
  | .agg parts => uptoBulkAll parts + 1
  | .iface _ d => uptoBulk d + 1
  | .map entries => uptoBulkEntries entries + 1
  | .held _ => 1
def uptoBulkAll {H : Type} : List (DataW H) → Nat
  | [] => 0
  | d :: r => uptoBulk d + uptoBulkAll r
def uptoBulkEntries {H : Type} : List (Lit × DataW H) → Nat
  | [] => 0
  | x :: r => uptoBulkEntry x + uptoBulkEntries r
def uptoBulkEntry {H : Type} : Lit × DataW H → Nat
  | (.string bytes, d) => bytes.length + uptoBulk d + 1
  | (_, d) => uptoBulk d + 1
 end
def uptoSmall : (H : Type) → List (DataW H) → Bool := fun _ ds => decide (uptoBulkAll ds ≤ 1048576)
def OpenSpec.upto (s : _root_.Go.ChangeSpec) : _root_.Go.OpenSpec := { _root_.Go.OpenSpec.ofChange s with cond := some uptoSmall }

/-- 'letterboxlaw15.LockDue', WHERE WHAT IT READS IS OF BULK AT MOST 1048576: true; the input reads as it did. -/
def lockDueUptoRow : OpenClaim := { program := "ytfdbnlgokaapnaa", sum := "6c8c40975755531461021bf4d20dd20048fafc6cb0bf877e64f608f72d0c8658", func := "letterbox/letterboxlaw15.LockDue", spec := "lockDue", recurses := true, apart := false, narrowed := true }
def LockDueUptoSaid : Prop := lockDueUptoRow.holds Try.pinned (OpenSpec.upto lockDueSpec)

/-- 'letterboxlaw15.LockPlays', WHERE WHAT IT READS IS OF BULK AT MOST 1048576: true; the input reads as it did. -/
def lockPlaysUptoRow : OpenClaim := { program := "ytfdbnlgokaapnaa", sum := "6c8c40975755531461021bf4d20dd20048fafc6cb0bf877e64f608f72d0c8658", func := "letterbox/letterboxlaw15.LockPlays", spec := "lockPlays", recurses := true, apart := false, narrowed := true }
def LockPlaysUptoSaid : Prop := lockPlaysUptoRow.holds Try.pinned (OpenSpec.upto lockPlaysSpec)

/-- 'letterboxlaw15.LockOfNothing', WHERE WHAT IT READS IS OF BULK AT MOST 1048576: true; the input reads as it did. -/
def lockOfNothingUptoRow : OpenClaim := { program := "ytfdbnlgokaapnaa", sum := "6c8c40975755531461021bf4d20dd20048fafc6cb0bf877e64f608f72d0c8658", func := "letterbox/letterboxlaw15.LockOfNothing", spec := "lockOfNothing", recurses := true, apart := false, narrowed := true }
def LockOfNothingUptoSaid : Prop := lockOfNothingUptoRow.holds Try.pinned (OpenSpec.upto lockOfNothingSpec)

/-- 'letterboxlaw1.OctetTakes', WHERE WHAT IT READS IS OF BULK AT MOST 1048576: true; the input reads as it did. -/
def octetTakesUptoRow : OpenClaim := { program := "ytfdbnlgokaapnaa", sum := "6c8c40975755531461021bf4d20dd20048fafc6cb0bf877e64f608f72d0c8658", func := "letterbox/letterboxlaw1.OctetTakes", spec := "octetTakes", apart := false, narrowed := true }
def OctetTakesUptoSaid : Prop := octetTakesUptoRow.holds Try.pinned (OpenSpec.upto octetTakesSpec)

end Rows
end Go.Proofs.Ytfdbnlgokaapnaa
