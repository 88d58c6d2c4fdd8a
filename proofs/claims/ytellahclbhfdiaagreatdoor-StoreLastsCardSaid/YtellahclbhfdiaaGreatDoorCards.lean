/-
  DERIVED. GIVEN WITH THE SEED: THE CARDS: each row of YtellahclbhfdiaaGreatDoorRows.lean that lists a variable, with what it lists TIED to the program's text (the seventh form; the later family's looks); each row that meets fmt, with fmt's text TOLD by the authors' own Lean function (tested against real Go, not proved from fmt's source: count such statements apart). THE CARD IS WHAT COUNTS. Prove the row's statement (the work); the ties are given (YtellahclbhfdiaaGreatDoorTie.lean); close each card by the builder's one call (the guide's Derived/Test/ToyasCard.lean, 'card_holds'). Laid BY PROGRAM, IN A SANDBOX (cutbox-door.mjs). By AI agents, Wed Nov 11 2026. No macro, syntax, notation, axiom, sorry.
-/
import Derived.Test.YtellahclbhfdiaaGreatDoorRows
import GoSem.ClaimSeven
namespace Go.Proofs.YtellahclbhfdiaaGreatDoor
namespace Rows

/-- THE TIED CARD OF 'letterboxlaw14.StoreBytes'. -/
def storeBytesCard : Claim7 := { stood := { row := storeBytesRow, standIns := [], harness := (true, "a7ff9855175c81a25d487f4c1bf757303c88dc533e56e5c4ea6e2a5abdce9809"), looks := false }, kinds := [], alts := [], laidByText := true, laidKinds := [.data, .pinned], laidTests := true, laidLooks := .later }
def StoreBytesCardSaid : Prop := Claim7.holds Tryz.pinned (.plain (OpenSpec.ofChange storeBytesSpec)) storeBytesCard

/-- THE TIED CARD OF 'letterboxlaw14.StoreBack'. -/
def storeBackCard : Claim7 := { stood := { row := storeBackRow, standIns := [], harness := (true, "a7ff9855175c81a25d487f4c1bf757303c88dc533e56e5c4ea6e2a5abdce9809"), looks := false }, kinds := [], alts := [], laidByText := true, laidKinds := [.data, .pinned], laidTests := true, laidLooks := .later }
def StoreBackCardSaid : Prop := Claim7.holds Tryz.pinned (.plain (OpenSpec.ofChange storeBackSpec)) storeBackCard

/-- THE TIED CARD OF 'letterboxlaw14.StoreReopens'. -/
def storeReopensCard : Claim7 := { stood := { row := storeReopensRow, standIns := [], harness := (true, "a7ff9855175c81a25d487f4c1bf757303c88dc533e56e5c4ea6e2a5abdce9809"), looks := false }, kinds := [], alts := [], laidByText := true, laidKinds := [.data, .pinned], laidTests := true, laidLooks := .later }
def StoreReopensCardSaid : Prop := Claim7.holds Tryz.pinned (.plain (OpenSpec.ofChange storeReopensSpec)) storeReopensCard

/-- THE TIED CARD OF 'letterboxlaw14.StorePlays'. -/
def storePlaysCard : Claim7 := { stood := { row := storePlaysRow, standIns := [], harness := (true, "a7ff9855175c81a25d487f4c1bf757303c88dc533e56e5c4ea6e2a5abdce9809"), looks := false }, kinds := [], alts := [], laidByText := true, laidKinds := [.data, .pinned], laidTests := true, laidLooks := .later }
def StorePlaysCardSaid : Prop := Claim7.holds Tryz.pinned (.plain (OpenSpec.ofChange storePlaysSpec)) storePlaysCard

/-- THE TIED CARD OF 'letterboxlaw14.StoreLasts'. -/
def storeLastsCard : Claim7 := { stood := { row := storeLastsRow, standIns := [], harness := (true, "a7ff9855175c81a25d487f4c1bf757303c88dc533e56e5c4ea6e2a5abdce9809"), looks := false }, kinds := [], alts := [], laidByText := true, laidKinds := [.data, .pinned], laidTests := true, laidLooks := .later }
def StoreLastsCardSaid : Prop := Claim7.holds Tryz.pinned (.plain (OpenSpec.ofChange storeLastsSpec)) storeLastsCard

/-- THE SECOND FORM's CARD OF 'letterboxlaw14.StoreBytes'. -/
def storeBytesUptoCard : Claim7 := { stood := { row := storeBytesUptoRow, standIns := [], harness := (true, "a7ff9855175c81a25d487f4c1bf757303c88dc533e56e5c4ea6e2a5abdce9809"), looks := false }, kinds := [], alts := [], laidByText := true, laidKinds := [.data, .pinned], laidTests := true, laidLooks := .later }
def StoreBytesUptoCardSaid : Prop := Claim7.holds Tryz.pinned (.plain (OpenSpec.upto storeBytesSpec)) storeBytesUptoCard

/-- THE SECOND FORM's CARD OF 'letterboxlaw14.StoreBack'. -/
def storeBackUptoCard : Claim7 := { stood := { row := storeBackUptoRow, standIns := [], harness := (true, "a7ff9855175c81a25d487f4c1bf757303c88dc533e56e5c4ea6e2a5abdce9809"), looks := false }, kinds := [], alts := [], laidByText := true, laidKinds := [.data, .pinned], laidTests := true, laidLooks := .later }
def StoreBackUptoCardSaid : Prop := Claim7.holds Tryz.pinned (.plain (OpenSpec.upto storeBackSpec)) storeBackUptoCard

/-- THE SECOND FORM's CARD OF 'letterboxlaw14.StoreReopens'. -/
def storeReopensUptoCard : Claim7 := { stood := { row := storeReopensUptoRow, standIns := [], harness := (true, "a7ff9855175c81a25d487f4c1bf757303c88dc533e56e5c4ea6e2a5abdce9809"), looks := false }, kinds := [], alts := [], laidByText := true, laidKinds := [.data, .pinned], laidTests := true, laidLooks := .later }
def StoreReopensUptoCardSaid : Prop := Claim7.holds Tryz.pinned (.plain (OpenSpec.upto storeReopensSpec)) storeReopensUptoCard

/-- THE SECOND FORM's CARD OF 'letterboxlaw14.StorePlays'. -/
def storePlaysUptoCard : Claim7 := { stood := { row := storePlaysUptoRow, standIns := [], harness := (true, "a7ff9855175c81a25d487f4c1bf757303c88dc533e56e5c4ea6e2a5abdce9809"), looks := false }, kinds := [], alts := [], laidByText := true, laidKinds := [.data, .pinned], laidTests := true, laidLooks := .later }
def StorePlaysUptoCardSaid : Prop := Claim7.holds Tryz.pinned (.plain (OpenSpec.upto storePlaysSpec)) storePlaysUptoCard

/-- THE SECOND FORM's CARD OF 'letterboxlaw14.StoreLasts'. -/
def storeLastsUptoCard : Claim7 := { stood := { row := storeLastsUptoRow, standIns := [], harness := (true, "a7ff9855175c81a25d487f4c1bf757303c88dc533e56e5c4ea6e2a5abdce9809"), looks := false }, kinds := [], alts := [], laidByText := true, laidKinds := [.data, .pinned], laidTests := true, laidLooks := .later }
def StoreLastsUptoCardSaid : Prop := Claim7.holds Tryz.pinned (.plain (OpenSpec.upto storeLastsSpec)) storeLastsUptoCard
end Rows
end Go.Proofs.YtellahclbhfdiaaGreatDoor
