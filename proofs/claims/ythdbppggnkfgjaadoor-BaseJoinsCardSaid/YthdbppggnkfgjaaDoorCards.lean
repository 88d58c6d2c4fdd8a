/-
  DERIVED. GIVEN WITH THE SEED: THE CARDS: each row of YthdbppggnkfgjaaDoorRows.lean that lists a variable, with what it lists TIED to the program's text (the seventh form; the later family's looks); each row that meets fmt, with fmt's text TOLD by the authors' own Lean function (tested against real Go, not proved from fmt's source: count such statements apart). THE CARD IS WHAT COUNTS. Prove the row's statement (the work); the ties are given (YthdbppggnkfgjaaDoorTie.lean); close each card by the builder's one call (the guide's Derived/Test/ToyasCard.lean, 'card_holds'). Laid BY PROGRAM, IN A SANDBOX (cutbox-door.mjs). By AI agents, Wed Nov 11 2026. No macro, syntax, notation, axiom, sorry.
-/
import Derived.Test.YthdbppggnkfgjaaDoorRows
import GoSem.ClaimSeven
namespace Go.Proofs.YthdbppggnkfgjaaDoor
namespace Rows

/-- THE TIED CARD OF 'letterboxlaw7.BaseTells'. -/
def baseTellsCard : Claim7 := { stood := { row := baseTellsRow, standIns := [], harness := (true, "4cdb0e47a5f4f40adced65ced994c3c63f82a17f32a16b4ec89cd04383dfe5f0"), looks := false }, kinds := [], alts := [], laidByText := true, laidKinds := [.data, .pinned], laidTests := true, laidLooks := .later }
def BaseTellsCardSaid : Prop := Claim7.holds Tryd.pinned (.plain (OpenSpec.ofChange baseTellsSpec)) baseTellsCard

/-- THE TIED CARD OF 'letterboxlaw7.BaseBack'. -/
def baseBackCard : Claim7 := { stood := { row := baseBackRow, standIns := [], harness := (true, "4cdb0e47a5f4f40adced65ced994c3c63f82a17f32a16b4ec89cd04383dfe5f0"), looks := false }, kinds := [], alts := [], laidByText := true, laidKinds := [.data, .pinned], laidTests := true, laidLooks := .later }
def BaseBackCardSaid : Prop := Claim7.holds Tryd.pinned (.plain (OpenSpec.ofChange baseBackSpec)) baseBackCard

/-- THE TIED CARD OF 'letterboxlaw7.BaseOne'. -/
def baseOneCard : Claim7 := { stood := { row := baseOneRow, standIns := [], harness := (true, "4cdb0e47a5f4f40adced65ced994c3c63f82a17f32a16b4ec89cd04383dfe5f0"), looks := false }, kinds := [], alts := [], laidByText := true, laidKinds := [.data, .pinned], laidTests := true, laidLooks := .later }
def BaseOneCardSaid : Prop := Claim7.holds Tryd.pinned (.plain (OpenSpec.ofChange baseOneSpec)) baseOneCard

/-- THE TIED CARD OF 'letterboxlaw7.BaseCut'. -/
def baseCutCard : Claim7 := { stood := { row := baseCutRow, standIns := [], harness := (true, "4cdb0e47a5f4f40adced65ced994c3c63f82a17f32a16b4ec89cd04383dfe5f0"), looks := false }, kinds := [], alts := [], laidByText := true, laidKinds := [.data, .pinned], laidTests := true, laidLooks := .later }
def BaseCutCardSaid : Prop := Claim7.holds Tryd.pinned (.plain (OpenSpec.ofChange baseCutSpec)) baseCutCard

/-- THE TIED CARD OF 'letterboxlaw7.BaseBits'. -/
def baseBitsCard : Claim7 := { stood := { row := baseBitsRow, standIns := [], harness := (true, "4cdb0e47a5f4f40adced65ced994c3c63f82a17f32a16b4ec89cd04383dfe5f0"), looks := false }, kinds := [], alts := [], laidByText := true, laidKinds := [.data, .pinned], laidTests := true, laidLooks := .later }
def BaseBitsCardSaid : Prop := Claim7.holds Tryd.pinned (.plain (OpenSpec.ofChange baseBitsSpec)) baseBitsCard

/-- THE TIED CARD OF 'letterboxlaw7.BaseJoins'. -/
def baseJoinsCard : Claim7 := { stood := { row := baseJoinsRow, standIns := [], harness := (true, "4cdb0e47a5f4f40adced65ced994c3c63f82a17f32a16b4ec89cd04383dfe5f0"), looks := false }, kinds := [], alts := [], laidByText := true, laidKinds := [.data, .pinned], laidTests := true, laidLooks := .later }
def BaseJoinsCardSaid : Prop := Claim7.holds Tryd.pinned (.plain (OpenSpec.ofChange baseJoinsSpec)) baseJoinsCard

/-- THE SECOND FORM's CARD OF 'letterboxlaw7.BaseTells'. -/
def baseTellsUptoCard : Claim7 := { stood := { row := baseTellsUptoRow, standIns := [], harness := (true, "4cdb0e47a5f4f40adced65ced994c3c63f82a17f32a16b4ec89cd04383dfe5f0"), looks := false }, kinds := [], alts := [], laidByText := true, laidKinds := [.data, .pinned], laidTests := true, laidLooks := .later }
def BaseTellsUptoCardSaid : Prop := Claim7.holds Tryd.pinned (.plain (OpenSpec.upto baseTellsSpec)) baseTellsUptoCard

/-- THE SECOND FORM's CARD OF 'letterboxlaw7.BaseBack'. -/
def baseBackUptoCard : Claim7 := { stood := { row := baseBackUptoRow, standIns := [], harness := (true, "4cdb0e47a5f4f40adced65ced994c3c63f82a17f32a16b4ec89cd04383dfe5f0"), looks := false }, kinds := [], alts := [], laidByText := true, laidKinds := [.data, .pinned], laidTests := true, laidLooks := .later }
def BaseBackUptoCardSaid : Prop := Claim7.holds Tryd.pinned (.plain (OpenSpec.upto baseBackSpec)) baseBackUptoCard

/-- THE SECOND FORM's CARD OF 'letterboxlaw7.BaseOne'. -/
def baseOneUptoCard : Claim7 := { stood := { row := baseOneUptoRow, standIns := [], harness := (true, "4cdb0e47a5f4f40adced65ced994c3c63f82a17f32a16b4ec89cd04383dfe5f0"), looks := false }, kinds := [], alts := [], laidByText := true, laidKinds := [.data, .pinned], laidTests := true, laidLooks := .later }
def BaseOneUptoCardSaid : Prop := Claim7.holds Tryd.pinned (.plain (OpenSpec.upto baseOneSpec)) baseOneUptoCard

/-- THE SECOND FORM's CARD OF 'letterboxlaw7.BaseCut'. -/
def baseCutUptoCard : Claim7 := { stood := { row := baseCutUptoRow, standIns := [], harness := (true, "4cdb0e47a5f4f40adced65ced994c3c63f82a17f32a16b4ec89cd04383dfe5f0"), looks := false }, kinds := [], alts := [], laidByText := true, laidKinds := [.data, .pinned], laidTests := true, laidLooks := .later }
def BaseCutUptoCardSaid : Prop := Claim7.holds Tryd.pinned (.plain (OpenSpec.upto baseCutSpec)) baseCutUptoCard

/-- THE SECOND FORM's CARD OF 'letterboxlaw7.BaseBits'. -/
def baseBitsUptoCard : Claim7 := { stood := { row := baseBitsUptoRow, standIns := [], harness := (true, "4cdb0e47a5f4f40adced65ced994c3c63f82a17f32a16b4ec89cd04383dfe5f0"), looks := false }, kinds := [], alts := [], laidByText := true, laidKinds := [.data, .pinned], laidTests := true, laidLooks := .later }
def BaseBitsUptoCardSaid : Prop := Claim7.holds Tryd.pinned (.plain (OpenSpec.upto baseBitsSpec)) baseBitsUptoCard

/-- THE SECOND FORM's CARD OF 'letterboxlaw7.BaseJoins'. -/
def baseJoinsUptoCard : Claim7 := { stood := { row := baseJoinsUptoRow, standIns := [], harness := (true, "4cdb0e47a5f4f40adced65ced994c3c63f82a17f32a16b4ec89cd04383dfe5f0"), looks := false }, kinds := [], alts := [], laidByText := true, laidKinds := [.data, .pinned], laidTests := true, laidLooks := .later }
def BaseJoinsUptoCardSaid : Prop := Claim7.holds Tryd.pinned (.plain (OpenSpec.upto baseJoinsSpec)) baseJoinsUptoCard
end Rows
end Go.Proofs.YthdbppggnkfgjaaDoor
