/-
  No cell of these rows narrows 'for every input' (looked for: loops, veiled, ifaces, maps, wideKeys, modest, calm, conditions, laid).
  DERIVED. THE GIVEN ROWS OF THIS SEAT. 7 by the template 'for every input the law returns true; each argument reads behind the call as it read before'; 0 by the template 'total and deterministic' (their statements: YtindfpaahlijeaaTotals.lean).
  GIVEN WITH THE SEED: the statements are not yours to turn. If you find one false, say at which input.
  Laid BY PROGRAM, IN A SANDBOX (cutbox-rows.mjs): the forced cells as the released guide's own fill.sh prints them over the translation 12c0f667aa93bed3… (all of the seat's roots in one cut). By AI agents, Wed Nov 11 2026. No macro, syntax, notation, axiom, sorry.
-/
import Derived.Test.YtindfpaahlijeaaChecked
import GoSem.Claim
import GoSem.ClaimJoined
import GoSem.ClaimMapViews
import Derived.JoinedTies
import Derived.KernelRfl
namespace Go.Proofs.Ytindfpaahlijeaa
/- THE CELL 'sum', in the pinned program and in every row, IS THE sha256 OF THE DUMP (.gsa) THAT YtindfpaahlijeaaProg.lean LOADS. Nothing in Lean hashes anything: it is a label: what it is worth is what the hold of that sum in a sandbox is worth. -/
noncomputable def Try.pinned : Pinned := { name := "ytindfpaahlijeaa", sum := "12c0f667aa93bed30b9a29f8be4ccacc52f7ef63a51243d8dbe5f8594e281d0d", checked := Try.checked }
namespace Rows
def none {H : Type} : Left H := { results := [], args := [] }

/-- 'letterboxlaw13.BoxUIDs': WHATEVER THE INPUT: true; the input reads as it did. -/
def boxUIDsSpec : ChangeSpec := { name := "boxUIDs", fn := fun _ => fun
  | [d] => { results := [.lit (.bool true)], args := [d] }
  | _ => none }
def boxUIDsRow : OpenClaim := { program := "ytindfpaahlijeaa", sum := "12c0f667aa93bed30b9a29f8be4ccacc52f7ef63a51243d8dbe5f8594e281d0d", func := "letterbox/letterboxlaw13.BoxUIDs", spec := "boxUIDs", recurses := true, apart := false }
def BoxUIDsSaid : Prop := boxUIDsRow.holds Try.pinned (OpenSpec.ofChange boxUIDsSpec)

/-- ITS FALSE NEIGHBOUR: 'it returns false'. Refute it at one input. -/
def boxUIDsWrong : ChangeSpec := { name := "boxUIDs", fn := fun _ => fun
  | [d] => { results := [.lit (.bool false)], args := [d] }
  | _ => none }
def BoxUIDsWrongFalsely : Prop := boxUIDsRow.holds Try.pinned (OpenSpec.ofChange boxUIDsWrong)

/-- 'letterboxlaw13.BoxFull': WHATEVER THE INPUT: true; the input reads as it did. -/
def boxFullSpec : ChangeSpec := { name := "boxFull", fn := fun _ => fun
  | [d1, d2] => { results := [.lit (.bool true)], args := [d1, d2] }
  | _ => none }
def boxFullRow : OpenClaim := { program := "ytindfpaahlijeaa", sum := "12c0f667aa93bed30b9a29f8be4ccacc52f7ef63a51243d8dbe5f8594e281d0d", func := "letterbox/letterboxlaw13.BoxFull", spec := "boxFull", recurses := true, apart := false }
def BoxFullSaid : Prop := boxFullRow.holds Try.pinned (OpenSpec.ofChange boxFullSpec)

/-- ITS FALSE NEIGHBOUR: 'it returns false'. Refute it at one input. -/
def boxFullWrong : ChangeSpec := { name := "boxFull", fn := fun _ => fun
  | [d1, d2] => { results := [.lit (.bool false)], args := [d1, d2] }
  | _ => none }
def BoxFullWrongFalsely : Prop := boxFullRow.holds Try.pinned (OpenSpec.ofChange boxFullWrong)

/-- 'letterboxlaw13.BoxGone': WHATEVER THE INPUT: true; the input reads as it did. -/
def boxGoneSpec : ChangeSpec := { name := "boxGone", fn := fun _ => fun
  | [d1, d2] => { results := [.lit (.bool true)], args := [d1, d2] }
  | _ => none }
def boxGoneRow : OpenClaim := { program := "ytindfpaahlijeaa", sum := "12c0f667aa93bed30b9a29f8be4ccacc52f7ef63a51243d8dbe5f8594e281d0d", func := "letterbox/letterboxlaw13.BoxGone", spec := "boxGone", unfollowed := true, recurses := true, apart := false }
def BoxGoneSaid : Prop := boxGoneRow.holds Try.pinned (OpenSpec.ofChange boxGoneSpec)

/-- ITS FALSE NEIGHBOUR: 'it returns false'. Refute it at one input. -/
def boxGoneWrong : ChangeSpec := { name := "boxGone", fn := fun _ => fun
  | [d1, d2] => { results := [.lit (.bool false)], args := [d1, d2] }
  | _ => none }
def BoxGoneWrongFalsely : Prop := boxGoneRow.holds Try.pinned (OpenSpec.ofChange boxGoneWrong)

/-- 'letterboxlaw13.BoxStamps': WHATEVER THE INPUT: true; the input reads as it did. -/
def boxStampsSpec : ChangeSpec := { name := "boxStamps", fn := fun _ => fun
  | [d1, d2] => { results := [.lit (.bool true)], args := [d1, d2] }
  | _ => none }
def boxStampsRow : OpenClaim := { program := "ytindfpaahlijeaa", sum := "12c0f667aa93bed30b9a29f8be4ccacc52f7ef63a51243d8dbe5f8594e281d0d", func := "letterbox/letterboxlaw13.BoxStamps", spec := "boxStamps", recurses := true, apart := false }
def BoxStampsSaid : Prop := boxStampsRow.holds Try.pinned (OpenSpec.ofChange boxStampsSpec)

/-- ITS FALSE NEIGHBOUR: 'it returns false'. Refute it at one input. -/
def boxStampsWrong : ChangeSpec := { name := "boxStamps", fn := fun _ => fun
  | [d1, d2] => { results := [.lit (.bool false)], args := [d1, d2] }
  | _ => none }
def BoxStampsWrongFalsely : Prop := boxStampsRow.holds Try.pinned (OpenSpec.ofChange boxStampsWrong)

/-- 'letterboxlaw13.BoxOwn': WHATEVER THE INPUT: true; the input reads as it did. -/
def boxOwnSpec : ChangeSpec := { name := "boxOwn", fn := fun _ => fun
  | [d1, d2, d3] => { results := [.lit (.bool true)], args := [d1, d2, d3] }
  | _ => none }
def boxOwnRow : OpenClaim := { program := "ytindfpaahlijeaa", sum := "12c0f667aa93bed30b9a29f8be4ccacc52f7ef63a51243d8dbe5f8594e281d0d", func := "letterbox/letterboxlaw13.BoxOwn", spec := "boxOwn", recurses := true, apart := false }
def BoxOwnSaid : Prop := boxOwnRow.holds Try.pinned (OpenSpec.ofChange boxOwnSpec)

/-- ITS FALSE NEIGHBOUR: 'it returns false'. Refute it at one input. -/
def boxOwnWrong : ChangeSpec := { name := "boxOwn", fn := fun _ => fun
  | [d1, d2, d3] => { results := [.lit (.bool false)], args := [d1, d2, d3] }
  | _ => none }
def BoxOwnWrongFalsely : Prop := boxOwnRow.holds Try.pinned (OpenSpec.ofChange boxOwnWrong)

/-- 'letterboxlaw13.BoxMarks': WHATEVER THE INPUT: true; the input reads as it did. -/
def boxMarksSpec : ChangeSpec := { name := "boxMarks", fn := fun _ => fun
  | [d1, d2, d3, d4] => { results := [.lit (.bool true)], args := [d1, d2, d3, d4] }
  | _ => none }
def boxMarksRow : OpenClaim := { program := "ytindfpaahlijeaa", sum := "12c0f667aa93bed30b9a29f8be4ccacc52f7ef63a51243d8dbe5f8594e281d0d", func := "letterbox/letterboxlaw13.BoxMarks", spec := "boxMarks", recurses := true, apart := false }
def BoxMarksSaid : Prop := boxMarksRow.holds Try.pinned (OpenSpec.ofChange boxMarksSpec)

/-- ITS FALSE NEIGHBOUR: 'it returns false'. Refute it at one input. -/
def boxMarksWrong : ChangeSpec := { name := "boxMarks", fn := fun _ => fun
  | [d1, d2, d3, d4] => { results := [.lit (.bool false)], args := [d1, d2, d3, d4] }
  | _ => none }
def BoxMarksWrongFalsely : Prop := boxMarksRow.holds Try.pinned (OpenSpec.ofChange boxMarksWrong)

/-- 'letterboxlaw13.BoxPlays': WHATEVER THE INPUT: true; the input reads as it did. -/
def boxPlaysSpec : ChangeSpec := { name := "boxPlays", fn := fun _ => fun
  | [d1, d2, d3] => { results := [.lit (.bool true)], args := [d1, d2, d3] }
  | _ => none }
def boxPlaysRow : OpenClaim := { program := "ytindfpaahlijeaa", sum := "12c0f667aa93bed30b9a29f8be4ccacc52f7ef63a51243d8dbe5f8594e281d0d", func := "letterbox/letterboxlaw13.BoxPlays", spec := "boxPlays", unfollowed := true, recurses := true, apart := false }
def BoxPlaysSaid : Prop := boxPlaysRow.holds Try.pinned (OpenSpec.ofChange boxPlaysSpec)

/-- ITS FALSE NEIGHBOUR: 'it returns false'. Refute it at one input. -/
def boxPlaysWrong : ChangeSpec := { name := "boxPlays", fn := fun _ => fun
  | [d1, d2, d3] => { results := [.lit (.bool false)], args := [d1, d2, d3] }
  | _ => none }
def BoxPlaysWrongFalsely : Prop := boxPlaysRow.holds Try.pinned (OpenSpec.ofChange boxPlaysWrong)

/- THE SECOND FORM. 'bulk': how many values and letters a reading holds, each counted each time it is reached (what is shared counts as often as it is met; a slice's spare places count too). A statement '..UptoSaid' is the law's where the arguments, and the package variables that the reading takes, are together of bulk at most 1048576: NARROWER than '..Said'. Prove '..Said' where nothing that the law and all that it calls make is longer than what came in: it says more and counts as full. Else prove '..UptoSaid'. A law counts once. -/
mutual
def uptoBulk {H : Type} : DataW H → Nat
  | .lit (.string bytes) => bytes.length + 1
  | .lit _ => 1
  | .nil => 1
  | .ptr d => uptoBulk d + 1
  | .slice elems spare => uptoBulkAll elems + uptoBulkAll spare + 1
  | .agg parts => uptoBulkAll parts + 1
  | .iface _ d => uptoBulk d + 1
  | .map entries => uptoBulkEntries entries + 1
  | .held _ => 1
def uptoBulkAll {H : Type} : List (DataW H) → Nat
  | [] => 0
  | d :: r => uptoBulk d + uptoBulkAll r
def uptoBulkEntries {H : Type} : List (Lit × DataW H) → Nat
  | [] => 0
  | x :: r => uptoBulkEntry x + uptoBulkEntries r
def uptoBulkEntry {H : Type} : Lit × DataW H → Nat
  | (.string bytes, d) => bytes.length + uptoBulk d + 1
  | (_, d) => uptoBulk d + 1
 end
def uptoSmall : (H : Type) → List (DataW H) → Bool := fun _ ds => decide (uptoBulkAll ds ≤ 1048576)
def OpenSpec.upto (s : _root_.Go.ChangeSpec) : _root_.Go.OpenSpec := { _root_.Go.OpenSpec.ofChange s with cond := some uptoSmall }

/-- 'letterboxlaw13.BoxUIDs', WHERE WHAT IT READS IS OF BULK AT MOST 1048576: true; the input reads as it did. -/
def boxUIDsUptoRow : OpenClaim := { program := "ytindfpaahlijeaa", sum := "12c0f667aa93bed30b9a29f8be4ccacc52f7ef63a51243d8dbe5f8594e281d0d", func := "letterbox/letterboxlaw13.BoxUIDs", spec := "boxUIDs", recurses := true, apart := false, narrowed := true }
def BoxUIDsUptoSaid : Prop := boxUIDsUptoRow.holds Try.pinned (OpenSpec.upto boxUIDsSpec)

/-- 'letterboxlaw13.BoxFull', WHERE WHAT IT READS IS OF BULK AT MOST 1048576: true; the input reads as it did. -/
def boxFullUptoRow : OpenClaim := { program := "ytindfpaahlijeaa", sum := "12c0f667aa93bed30b9a29f8be4ccacc52f7ef63a51243d8dbe5f8594e281d0d", func := "letterbox/letterboxlaw13.BoxFull", spec := "boxFull", recurses := true, apart := false, narrowed := true }
def BoxFullUptoSaid : Prop := boxFullUptoRow.holds Try.pinned (OpenSpec.upto boxFullSpec)

/-- 'letterboxlaw13.BoxGone', WHERE WHAT IT READS IS OF BULK AT MOST 1048576: true; the input reads as it did. -/
def boxGoneUptoRow : OpenClaim := { program := "ytindfpaahlijeaa", sum := "12c0f667aa93bed30b9a29f8be4ccacc52f7ef63a51243d8dbe5f8594e281d0d", func := "letterbox/letterboxlaw13.BoxGone", spec := "boxGone", unfollowed := true, recurses := true, apart := false, narrowed := true }
def BoxGoneUptoSaid : Prop := boxGoneUptoRow.holds Try.pinned (OpenSpec.upto boxGoneSpec)

/-- 'letterboxlaw13.BoxStamps', WHERE WHAT IT READS IS OF BULK AT MOST 1048576: true; the input reads as it did. -/
def boxStampsUptoRow : OpenClaim := { program := "ytindfpaahlijeaa", sum := "12c0f667aa93bed30b9a29f8be4ccacc52f7ef63a51243d8dbe5f8594e281d0d", func := "letterbox/letterboxlaw13.BoxStamps", spec := "boxStamps", recurses := true, apart := false, narrowed := true }
def BoxStampsUptoSaid : Prop := boxStampsUptoRow.holds Try.pinned (OpenSpec.upto boxStampsSpec)

/-- 'letterboxlaw13.BoxOwn', WHERE WHAT IT READS IS OF BULK AT MOST 1048576: true; the input reads as it did. -/
def boxOwnUptoRow : OpenClaim := { program := "ytindfpaahlijeaa", sum := "12c0f667aa93bed30b9a29f8be4ccacc52f7ef63a51243d8dbe5f8594e281d0d", func := "letterbox/letterboxlaw13.BoxOwn", spec := "boxOwn", recurses := true, apart := false, narrowed := true }
def BoxOwnUptoSaid : Prop := boxOwnUptoRow.holds Try.pinned (OpenSpec.upto boxOwnSpec)

/-- 'letterboxlaw13.BoxMarks', WHERE WHAT IT READS IS OF BULK AT MOST 1048576: true; the input reads as it did. -/
def boxMarksUptoRow : OpenClaim := { program := "ytindfpaahlijeaa", sum := "12c0f667aa93bed30b9a29f8be4ccacc52f7ef63a51243d8dbe5f8594e281d0d", func := "letterbox/letterboxlaw13.BoxMarks", spec := "boxMarks", recurses := true, apart := false, narrowed := true }
def BoxMarksUptoSaid : Prop := boxMarksUptoRow.holds Try.pinned (OpenSpec.upto boxMarksSpec)

/-- 'letterboxlaw13.BoxPlays', WHERE WHAT IT READS IS OF BULK AT MOST 1048576: true; the input reads as it did. -/
def boxPlaysUptoRow : OpenClaim := { program := "ytindfpaahlijeaa", sum := "12c0f667aa93bed30b9a29f8be4ccacc52f7ef63a51243d8dbe5f8594e281d0d", func := "letterbox/letterboxlaw13.BoxPlays", spec := "boxPlays", unfollowed := true, recurses := true, apart := false, narrowed := true }
def BoxPlaysUptoSaid : Prop := boxPlaysUptoRow.holds Try.pinned (OpenSpec.upto boxPlaysSpec)

end Rows
end Go.Proofs.Ytindfpaahlijeaa
