/-
  NARROWER THAN 'FOR EVERY INPUT', by the rows' own cells (each row's printed sentence says how): BaseTells: laid · BaseBack: laid · BaseOne: laid · BaseCut: laid · BaseBits: laid · BaseJoins: laid.
  DERIVED. THE GIVEN ROWS OF THIS SEAT. 6 by the template 'for every input the law returns true; each argument reads behind the call as it read before'; 0 by the template 'total and deterministic' (their statements: YthdbppggnkfgjaaDoorTotals.lean).
  GIVEN WITH THE SEED: the statements are not yours to turn. If you find one false, say at which input.
  Laid BY PROGRAM, IN A SANDBOX (cutbox-rows.mjs): the forced cells as the released guide's own fill.sh prints them over the translation 301d8364c776ef23… (all of the seat's roots in one cut). By AI agents, Wed Nov 11 2026. No macro, syntax, notation, axiom, sorry.
-/
import Derived.Test.YthdbppggnkfgjaaDoorChecked
import GoSem.PinnedTables
import GoSem.Claim
import GoSem.ClaimJoined
import GoSem.ClaimMapViews
import Derived.JoinedTies
import Derived.KernelRfl
namespace Go.Proofs.YthdbppggnkfgjaaDoor
/- THE CELL 'sum', in the pinned program and in every row, IS THE sha256 OF THE DUMP (.gsa) THAT YthdbppggnkfgjaaDoorProg.lean LOADS. Nothing in Lean hashes anything: it is a label: what it is worth is what the hold of that sum in a sandbox is worth. -/
noncomputable def Tryd.pinned : Pinned := { name := "ythdbppggnkfgjaadoor", sum := "301d8364c776ef23fc6a4af278028d5d6bedcadeb9ec63db06a9371ec60a8dfe", checked := Tryd.checked }
namespace Rows
def none {H : Type} : Left H := { results := [], args := [] }

/- WHAT THE LISTED PACKAGE-LEVEL VARIABLES READ AS WHEN THE CALL BEGINS. Each datum BY PROGRAM (the guide's laid-datum.mjs) off the statement by which the dump's own 'gosem.cut.vars' lays the variable. In a bare row this is a premise. The card (YthdbppggnkfgjaaDoorCards.lean) ties it to the program's text. -/
def laid_unicode_utf8_acceptRanges {H : Type} : DataW H := .agg [.agg [.lit (.int .u8 128), .lit (.int .u8 191)], .agg [.lit (.int .u8 160), .lit (.int .u8 191)], .agg [.lit (.int .u8 128), .lit (.int .u8 159)], .agg [.lit (.int .u8 144), .lit (.int .u8 191)], .agg [.lit (.int .u8 128), .lit (.int .u8 143)], .agg [.lit (.int .u8 0), .lit (.int .u8 0)], .agg [.lit (.int .u8 0), .lit (.int .u8 0)], .agg [.lit (.int .u8 0), .lit (.int .u8 0)], .agg [.lit (.int .u8 0), .lit (.int .u8 0)], .agg [.lit (.int .u8 0), .lit (.int .u8 0)], .agg [.lit (.int .u8 0), .lit (.int .u8 0)], .agg [.lit (.int .u8 0), .lit (.int .u8 0)], .agg [.lit (.int .u8 0), .lit (.int .u8 0)], .agg [.lit (.int .u8 0), .lit (.int .u8 0)], .agg [.lit (.int .u8 0), .lit (.int .u8 0)], .agg [.lit (.int .u8 0), .lit (.int .u8 0)]]
/-- One of Go's own tables, pinned by name: the form's constant. -/
def laid_unicode_utf8_first : DataW Unit := Go.Pinned.utf8First

/-- 'letterboxlaw7.BaseTells': WHATEVER THE INPUT: true; the input reads as it did. -/
def baseTellsSpec : ChangeSpec := { name := "baseTells", fn := fun _ => fun
  | [d1, d2] => { results := [.lit (.bool true)], args := [d1, d2] }
  | _ => none }
def baseTellsRow : OpenClaim := { program := "ythdbppggnkfgjaadoor", sum := "301d8364c776ef23fc6a4af278028d5d6bedcadeb9ec63db06a9371ec60a8dfe", func := "letterbox/letterboxlaw7.BaseTells", spec := "baseTells", inPlace := ["internal/bytealg.IndexByteString", "internal/bytealg.IndexString"], named := ["unicode/utf8.first", "unicode/utf8.acceptRanges", "internal/bytealg.MaxLen"], apart := false, laid := [("unicode/utf8.acceptRanges", laid_unicode_utf8_acceptRanges), ("unicode/utf8.first", laid_unicode_utf8_first)] }
def BaseTellsSaid : Prop := baseTellsRow.holds Tryd.pinned (OpenSpec.ofChange baseTellsSpec)

/-- ITS FALSE NEIGHBOUR: 'it returns false'. Refute it at one input. -/
def baseTellsWrong : ChangeSpec := { name := "baseTells", fn := fun _ => fun
  | [d1, d2] => { results := [.lit (.bool false)], args := [d1, d2] }
  | _ => none }
def BaseTellsWrongFalsely : Prop := baseTellsRow.holds Tryd.pinned (OpenSpec.ofChange baseTellsWrong)

/-- 'letterboxlaw7.BaseBack': WHATEVER THE INPUT: true; the input reads as it did. -/
def baseBackSpec : ChangeSpec := { name := "baseBack", fn := fun _ => fun
  | [d] => { results := [.lit (.bool true)], args := [d] }
  | _ => none }
def baseBackRow : OpenClaim := { program := "ythdbppggnkfgjaadoor", sum := "301d8364c776ef23fc6a4af278028d5d6bedcadeb9ec63db06a9371ec60a8dfe", func := "letterbox/letterboxlaw7.BaseBack", spec := "baseBack", inPlace := ["internal/bytealg.IndexByteString", "internal/bytealg.IndexString"], named := ["unicode/utf8.first", "unicode/utf8.acceptRanges", "internal/bytealg.MaxLen"], apart := false, laid := [("unicode/utf8.acceptRanges", laid_unicode_utf8_acceptRanges), ("unicode/utf8.first", laid_unicode_utf8_first)] }
def BaseBackSaid : Prop := baseBackRow.holds Tryd.pinned (OpenSpec.ofChange baseBackSpec)

/-- ITS FALSE NEIGHBOUR: 'it returns false'. Refute it at one input. -/
def baseBackWrong : ChangeSpec := { name := "baseBack", fn := fun _ => fun
  | [d] => { results := [.lit (.bool false)], args := [d] }
  | _ => none }
def BaseBackWrongFalsely : Prop := baseBackRow.holds Tryd.pinned (OpenSpec.ofChange baseBackWrong)

/-- 'letterboxlaw7.BaseOne': WHATEVER THE INPUT: true; the input reads as it did. -/
def baseOneSpec : ChangeSpec := { name := "baseOne", fn := fun _ => fun
  | [d] => { results := [.lit (.bool true)], args := [d] }
  | _ => none }
def baseOneRow : OpenClaim := { program := "ythdbppggnkfgjaadoor", sum := "301d8364c776ef23fc6a4af278028d5d6bedcadeb9ec63db06a9371ec60a8dfe", func := "letterbox/letterboxlaw7.BaseOne", spec := "baseOne", inPlace := ["internal/bytealg.IndexByteString", "internal/bytealg.IndexString"], named := ["unicode/utf8.first", "unicode/utf8.acceptRanges", "internal/bytealg.MaxLen"], apart := false, laid := [("unicode/utf8.acceptRanges", laid_unicode_utf8_acceptRanges), ("unicode/utf8.first", laid_unicode_utf8_first)] }
def BaseOneSaid : Prop := baseOneRow.holds Tryd.pinned (OpenSpec.ofChange baseOneSpec)

/-- ITS FALSE NEIGHBOUR: 'it returns false'. Refute it at one input. -/
def baseOneWrong : ChangeSpec := { name := "baseOne", fn := fun _ => fun
  | [d] => { results := [.lit (.bool false)], args := [d] }
  | _ => none }
def BaseOneWrongFalsely : Prop := baseOneRow.holds Tryd.pinned (OpenSpec.ofChange baseOneWrong)

/-- 'letterboxlaw7.BaseCut': WHATEVER THE INPUT: true; the input reads as it did. -/
def baseCutSpec : ChangeSpec := { name := "baseCut", fn := fun _ => fun
  | [d1, d2] => { results := [.lit (.bool true)], args := [d1, d2] }
  | _ => none }
def baseCutRow : OpenClaim := { program := "ythdbppggnkfgjaadoor", sum := "301d8364c776ef23fc6a4af278028d5d6bedcadeb9ec63db06a9371ec60a8dfe", func := "letterbox/letterboxlaw7.BaseCut", spec := "baseCut", inPlace := ["internal/bytealg.IndexByteString", "internal/bytealg.IndexString"], named := ["unicode/utf8.first", "unicode/utf8.acceptRanges", "internal/bytealg.MaxLen"], apart := false, laid := [("unicode/utf8.acceptRanges", laid_unicode_utf8_acceptRanges), ("unicode/utf8.first", laid_unicode_utf8_first)] }
def BaseCutSaid : Prop := baseCutRow.holds Tryd.pinned (OpenSpec.ofChange baseCutSpec)

/-- ITS FALSE NEIGHBOUR: 'it returns false'. Refute it at one input. -/
def baseCutWrong : ChangeSpec := { name := "baseCut", fn := fun _ => fun
  | [d1, d2] => { results := [.lit (.bool false)], args := [d1, d2] }
  | _ => none }
def BaseCutWrongFalsely : Prop := baseCutRow.holds Tryd.pinned (OpenSpec.ofChange baseCutWrong)

/-- 'letterboxlaw7.BaseBits': WHATEVER THE INPUT: true; the input reads as it did. -/
def baseBitsSpec : ChangeSpec := { name := "baseBits", fn := fun _ => fun
  | [d1, d2] => { results := [.lit (.bool true)], args := [d1, d2] }
  | _ => none }
def baseBitsRow : OpenClaim := { program := "ythdbppggnkfgjaadoor", sum := "301d8364c776ef23fc6a4af278028d5d6bedcadeb9ec63db06a9371ec60a8dfe", func := "letterbox/letterboxlaw7.BaseBits", spec := "baseBits", inPlace := ["internal/bytealg.IndexByteString", "internal/bytealg.IndexString"], named := ["unicode/utf8.first", "unicode/utf8.acceptRanges", "internal/bytealg.MaxLen"], apart := false, laid := [("unicode/utf8.acceptRanges", laid_unicode_utf8_acceptRanges), ("unicode/utf8.first", laid_unicode_utf8_first)] }
def BaseBitsSaid : Prop := baseBitsRow.holds Tryd.pinned (OpenSpec.ofChange baseBitsSpec)

/-- ITS FALSE NEIGHBOUR: 'it returns false'. Refute it at one input. -/
def baseBitsWrong : ChangeSpec := { name := "baseBits", fn := fun _ => fun
  | [d1, d2] => { results := [.lit (.bool false)], args := [d1, d2] }
  | _ => none }
def BaseBitsWrongFalsely : Prop := baseBitsRow.holds Tryd.pinned (OpenSpec.ofChange baseBitsWrong)

/-- 'letterboxlaw7.BaseJoins': WHATEVER THE INPUT: true; the input reads as it did. -/
def baseJoinsSpec : ChangeSpec := { name := "baseJoins", fn := fun _ => fun
  | [d1, d2] => { results := [.lit (.bool true)], args := [d1, d2] }
  | _ => none }
def baseJoinsRow : OpenClaim := { program := "ythdbppggnkfgjaadoor", sum := "301d8364c776ef23fc6a4af278028d5d6bedcadeb9ec63db06a9371ec60a8dfe", func := "letterbox/letterboxlaw7.BaseJoins", spec := "baseJoins", inPlace := ["internal/bytealg.IndexByteString", "internal/bytealg.IndexString"], named := ["unicode/utf8.first", "unicode/utf8.acceptRanges", "internal/bytealg.MaxLen"], apart := false, laid := [("unicode/utf8.acceptRanges", laid_unicode_utf8_acceptRanges), ("unicode/utf8.first", laid_unicode_utf8_first)] }
def BaseJoinsSaid : Prop := baseJoinsRow.holds Tryd.pinned (OpenSpec.ofChange baseJoinsSpec)

/-- ITS FALSE NEIGHBOUR: 'it returns false'. Refute it at one input. -/
def baseJoinsWrong : ChangeSpec := { name := "baseJoins", fn := fun _ => fun
  | [d1, d2] => { results := [.lit (.bool false)], args := [d1, d2] }
  | _ => none }
def BaseJoinsWrongFalsely : Prop := baseJoinsRow.holds Tryd.pinned (OpenSpec.ofChange baseJoinsWrong)

/- THE SECOND FORM. 'bulk': how many values and letters a reading holds, each counted each time it is reached (what is shared counts as often as it is met; a slice's spare places count too). A statement '..UptoSaid' is the law's where the arguments, and the package variables that the reading takes, are together of bulk at most 1048576: NARROWER than '..Said'. Prove '..Said' where nothing that the law and all that it calls make is longer than what came in: it says more and counts as full. Else prove '..UptoSaid'. A law counts once. -/
mutual
def uptoBulk {H : Type} : DataW H → Nat
  | .lit (.string bytes) => bytes.length + 1
  | .lit _ => 1
  | .nil => 1
  | .ptr d => uptoBulk d + 1
  | .slice elems spare => uptoBulkAll elems + uptoBulkAll spare + 1
  | .agg parts => uptoBulkAll parts + 1
  | .iface _ d => uptoBulk d + 1
  | .map entries => uptoBulkEntries entries + 1
  | .held _ => 1
def uptoBulkAll {H : Type} : List (DataW H) → Nat
  | [] => 0
  | d :: r => uptoBulk d + uptoBulkAll r
def uptoBulkEntries {H : Type} : List (Lit × DataW H) → Nat
  | [] => 0
  | x :: r => uptoBulkEntry x + uptoBulkEntries r
def uptoBulkEntry {H : Type} : Lit × DataW H → Nat
  | (.string bytes, d) => bytes.length + uptoBulk d + 1
  | (_, d) => uptoBulk d + 1
 end
def uptoSmall : (H : Type) → List (DataW H) → Bool := fun _ ds => decide (uptoBulkAll ds ≤ 1048576)
def OpenSpec.upto (s : _root_.Go.ChangeSpec) : _root_.Go.OpenSpec := { _root_.Go.OpenSpec.ofChange s with cond := some uptoSmall }

/-- 'letterboxlaw7.BaseTells', WHERE WHAT IT READS IS OF BULK AT MOST 1048576: true; the input reads as it did. -/
def baseTellsUptoRow : OpenClaim := { program := "ythdbppggnkfgjaadoor", sum := "301d8364c776ef23fc6a4af278028d5d6bedcadeb9ec63db06a9371ec60a8dfe", func := "letterbox/letterboxlaw7.BaseTells", spec := "baseTells", inPlace := ["internal/bytealg.IndexByteString", "internal/bytealg.IndexString"], named := ["unicode/utf8.first", "unicode/utf8.acceptRanges", "internal/bytealg.MaxLen"], apart := false, laid := [("unicode/utf8.acceptRanges", laid_unicode_utf8_acceptRanges), ("unicode/utf8.first", laid_unicode_utf8_first)], narrowed := true }
def BaseTellsUptoSaid : Prop := baseTellsUptoRow.holds Tryd.pinned (OpenSpec.upto baseTellsSpec)

/-- 'letterboxlaw7.BaseBack', WHERE WHAT IT READS IS OF BULK AT MOST 1048576: true; the input reads as it did. -/
def baseBackUptoRow : OpenClaim := { program := "ythdbppggnkfgjaadoor", sum := "301d8364c776ef23fc6a4af278028d5d6bedcadeb9ec63db06a9371ec60a8dfe", func := "letterbox/letterboxlaw7.BaseBack", spec := "baseBack", inPlace := ["internal/bytealg.IndexByteString", "internal/bytealg.IndexString"], named := ["unicode/utf8.first", "unicode/utf8.acceptRanges", "internal/bytealg.MaxLen"], apart := false, laid := [("unicode/utf8.acceptRanges", laid_unicode_utf8_acceptRanges), ("unicode/utf8.first", laid_unicode_utf8_first)], narrowed := true }
def BaseBackUptoSaid : Prop := baseBackUptoRow.holds Tryd.pinned (OpenSpec.upto baseBackSpec)

/-- 'letterboxlaw7.BaseOne', WHERE WHAT IT READS IS OF BULK AT MOST 1048576: true; the input reads as it did. -/
def baseOneUptoRow : OpenClaim := { program := "ythdbppggnkfgjaadoor", sum := "301d8364c776ef23fc6a4af278028d5d6bedcadeb9ec63db06a9371ec60a8dfe", func := "letterbox/letterboxlaw7.BaseOne", spec := "baseOne", inPlace := ["internal/bytealg.IndexByteString", "internal/bytealg.IndexString"], named := ["unicode/utf8.first", "unicode/utf8.acceptRanges", "internal/bytealg.MaxLen"], apart := false, laid := [("unicode/utf8.acceptRanges", laid_unicode_utf8_acceptRanges), ("unicode/utf8.first", laid_unicode_utf8_first)], narrowed := true }
def BaseOneUptoSaid : Prop := baseOneUptoRow.holds Tryd.pinned (OpenSpec.upto baseOneSpec)

/-- 'letterboxlaw7.BaseCut', WHERE WHAT IT READS IS OF BULK AT MOST 1048576: true; the input reads as it did. -/
def baseCutUptoRow : OpenClaim := { program := "ythdbppggnkfgjaadoor", sum := "301d8364c776ef23fc6a4af278028d5d6bedcadeb9ec63db06a9371ec60a8dfe", func := "letterbox/letterboxlaw7.BaseCut", spec := "baseCut", inPlace := ["internal/bytealg.IndexByteString", "internal/bytealg.IndexString"], named := ["unicode/utf8.first", "unicode/utf8.acceptRanges", "internal/bytealg.MaxLen"], apart := false, laid := [("unicode/utf8.acceptRanges", laid_unicode_utf8_acceptRanges), ("unicode/utf8.first", laid_unicode_utf8_first)], narrowed := true }
def BaseCutUptoSaid : Prop := baseCutUptoRow.holds Tryd.pinned (OpenSpec.upto baseCutSpec)

/-- 'letterboxlaw7.BaseBits', WHERE WHAT IT READS IS OF BULK AT MOST 1048576: true; the input reads as it did. -/
def baseBitsUptoRow : OpenClaim := { program := "ythdbppggnkfgjaadoor", sum := "301d8364c776ef23fc6a4af278028d5d6bedcadeb9ec63db06a9371ec60a8dfe", func := "letterbox/letterboxlaw7.BaseBits", spec := "baseBits", inPlace := ["internal/bytealg.IndexByteString", "internal/bytealg.IndexString"], named := ["unicode/utf8.first", "unicode/utf8.acceptRanges", "internal/bytealg.MaxLen"], apart := false, laid := [("unicode/utf8.acceptRanges", laid_unicode_utf8_acceptRanges), ("unicode/utf8.first", laid_unicode_utf8_first)], narrowed := true }
def BaseBitsUptoSaid : Prop := baseBitsUptoRow.holds Tryd.pinned (OpenSpec.upto baseBitsSpec)

/-- 'letterboxlaw7.BaseJoins', WHERE WHAT IT READS IS OF BULK AT MOST 1048576: true; the input reads as it did. -/
def baseJoinsUptoRow : OpenClaim := { program := "ythdbppggnkfgjaadoor", sum := "301d8364c776ef23fc6a4af278028d5d6bedcadeb9ec63db06a9371ec60a8dfe", func := "letterbox/letterboxlaw7.BaseJoins", spec := "baseJoins", inPlace := ["internal/bytealg.IndexByteString", "internal/bytealg.IndexString"], named := ["unicode/utf8.first", "unicode/utf8.acceptRanges", "internal/bytealg.MaxLen"], apart := false, laid := [("unicode/utf8.acceptRanges", laid_unicode_utf8_acceptRanges), ("unicode/utf8.first", laid_unicode_utf8_first)], narrowed := true }
def BaseJoinsUptoSaid : Prop := baseJoinsUptoRow.holds Tryd.pinned (OpenSpec.upto baseJoinsSpec)

end Rows
end Go.Proofs.YthdbppggnkfgjaaDoor
