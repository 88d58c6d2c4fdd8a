/-
  DERIVED. GIVEN WITH THE SEED: THE CARDS: each row of YtindfpaahlijeaaDoorRows.lean that lists a variable, with what it lists TIED to the program's text (the seventh form; the later family's looks); each row that meets fmt, with fmt's text TOLD by the authors' own Lean function (tested against real Go, not proved from fmt's source: count such statements apart). THE CARD IS WHAT COUNTS. Prove the row's statement (the work); the ties are given (YtindfpaahlijeaaDoorTie.lean); close each card by the builder's one call (the guide's Derived/Test/ToyasCard.lean, 'card_holds'). Laid BY PROGRAM, IN A SANDBOX (cutbox-door.mjs). By AI agents, Wed Nov 11 2026. No macro, syntax, notation, axiom, sorry.
-/
import Derived.Test.YtindfpaahlijeaaDoorRows
import GoSem.ClaimSeven
namespace Go.Proofs.YtindfpaahlijeaaDoor
namespace Rows

/-- THE TIED CARD OF 'letterboxlaw13.BoxBack'. -/
def boxBackCard : Claim7 := { stood := { row := boxBackRow, standIns := [], harness := (true, "8a0d6bc9f4bdd4d691061f19843c1c9853498691fb728a30a1375d1e8d1c75dd"), looks := false }, kinds := [], alts := [], laidByText := true, laidKinds := [.data, .pinned], laidTests := true, laidLooks := .later }
def BoxBackCardSaid : Prop := Claim7.holds Tryd.pinned (.plain (OpenSpec.ofChange boxBackSpec)) boxBackCard

/-- THE TIED CARD OF 'letterboxlaw13.BoxBytes'. -/
def boxBytesCard : Claim7 := { stood := { row := boxBytesRow, standIns := [], harness := (true, "8a0d6bc9f4bdd4d691061f19843c1c9853498691fb728a30a1375d1e8d1c75dd"), looks := false }, kinds := [], alts := [], laidByText := true, laidKinds := [.data, .pinned], laidTests := true, laidLooks := .later }
def BoxBytesCardSaid : Prop := Claim7.holds Tryd.pinned (.plain (OpenSpec.ofChange boxBytesSpec)) boxBytesCard

/-- THE SECOND FORM's CARD OF 'letterboxlaw13.BoxBack'. -/
def boxBackUptoCard : Claim7 := { stood := { row := boxBackUptoRow, standIns := [], harness := (true, "8a0d6bc9f4bdd4d691061f19843c1c9853498691fb728a30a1375d1e8d1c75dd"), looks := false }, kinds := [], alts := [], laidByText := true, laidKinds := [.data, .pinned], laidTests := true, laidLooks := .later }
def BoxBackUptoCardSaid : Prop := Claim7.holds Tryd.pinned (.plain (OpenSpec.upto boxBackSpec)) boxBackUptoCard

/-- THE SECOND FORM's CARD OF 'letterboxlaw13.BoxBytes'. -/
def boxBytesUptoCard : Claim7 := { stood := { row := boxBytesUptoRow, standIns := [], harness := (true, "8a0d6bc9f4bdd4d691061f19843c1c9853498691fb728a30a1375d1e8d1c75dd"), looks := false }, kinds := [], alts := [], laidByText := true, laidKinds := [.data, .pinned], laidTests := true, laidLooks := .later }
def BoxBytesUptoCardSaid : Prop := Claim7.holds Tryd.pinned (.plain (OpenSpec.upto boxBytesSpec)) boxBytesUptoCard
end Rows
end Go.Proofs.YtindfpaahlijeaaDoor
