/-
  DERIVED. GIVEN WITH THE SEED: THE CARDS: each row of YtipdndmfngpbfaaGreatDoorRows.lean that lists a variable, with what it lists TIED to the program's text (the seventh form; the later family's looks); each row that meets fmt, with fmt's text TOLD by the authors' own Lean function (tested against real Go, not proved from fmt's source: count such statements apart). THE CARD IS WHAT COUNTS. Prove the row's statement (the work); the ties are given (YtipdndmfngpbfaaGreatDoorTie.lean); close each card by the builder's one call (the guide's Derived/Test/ToyasCard.lean, 'card_holds'). Laid BY PROGRAM, IN A SANDBOX (cutbox-door.mjs). By AI agents, Wed Nov 11 2026. No macro, syntax, notation, axiom, sorry.
-/
import Derived.Test.YtipdndmfngpbfaaGreatDoorRows
import GoSem.ClaimSeven
namespace Go.Proofs.YtipdndmfngpbfaaGreatDoor
namespace Rows

/-- THE TIED CARD OF 'letterboxlaw14.StoreBytes'. -/
def storeBytesCard : Claim7 := { stood := { row := storeBytesRow, standIns := [], harness := (true, "446b9b981c8c87777c9d1c979ee779d939cf986c91920fbecacc0d8bdbe7a982"), looks := false }, kinds := [], alts := [], laidByText := true, laidKinds := [.data, .pinned], laidTests := true, laidLooks := .later }
def StoreBytesCardSaid : Prop := Claim7.holds Tryz.pinned (.plain (OpenSpec.ofChange storeBytesSpec)) storeBytesCard

/-- THE TIED CARD OF 'letterboxlaw14.StoreBack'. -/
def storeBackCard : Claim7 := { stood := { row := storeBackRow, standIns := [], harness := (true, "446b9b981c8c87777c9d1c979ee779d939cf986c91920fbecacc0d8bdbe7a982"), looks := false }, kinds := [], alts := [], laidByText := true, laidKinds := [.data, .pinned], laidTests := true, laidLooks := .later }
def StoreBackCardSaid : Prop := Claim7.holds Tryz.pinned (.plain (OpenSpec.ofChange storeBackSpec)) storeBackCard

/-- THE TIED CARD OF 'letterboxlaw14.StoreMoves'. -/
def storeMovesCard : Claim7 := { stood := { row := storeMovesRow, standIns := [], harness := (true, "446b9b981c8c87777c9d1c979ee779d939cf986c91920fbecacc0d8bdbe7a982"), looks := false }, kinds := [], alts := [], laidByText := true, laidKinds := [.data, .pinned], laidTests := true, laidLooks := .later }
def StoreMovesCardSaid : Prop := Claim7.holds Tryz.pinned (.plain (OpenSpec.ofChange storeMovesSpec)) storeMovesCard

/-- THE TIED CARD OF 'letterboxlaw14.StoreCopies'. -/
def storeCopiesCard : Claim7 := { stood := { row := storeCopiesRow, standIns := [], harness := (true, "446b9b981c8c87777c9d1c979ee779d939cf986c91920fbecacc0d8bdbe7a982"), looks := false }, kinds := [], alts := [], laidByText := true, laidKinds := [.data, .pinned], laidTests := true, laidLooks := .later }
def StoreCopiesCardSaid : Prop := Claim7.holds Tryz.pinned (.plain (OpenSpec.ofChange storeCopiesSpec)) storeCopiesCard

/-- THE TIED CARD OF 'letterboxlaw14.StoreUsers'. -/
def storeUsersCard : Claim7 := { stood := { row := storeUsersRow, standIns := [], harness := (true, "446b9b981c8c87777c9d1c979ee779d939cf986c91920fbecacc0d8bdbe7a982"), looks := false }, kinds := [], alts := [], laidByText := true, laidKinds := [.data, .pinned], laidTests := true, laidLooks := .later }
def StoreUsersCardSaid : Prop := Claim7.holds Tryz.pinned (.plain (OpenSpec.ofChange storeUsersSpec)) storeUsersCard

/-- THE TIED CARD OF 'letterboxlaw14.StoreErrs'. -/
def storeErrsCard : Claim7 := { stood := { row := storeErrsRow, standIns := [], harness := (true, "446b9b981c8c87777c9d1c979ee779d939cf986c91920fbecacc0d8bdbe7a982"), looks := false }, kinds := [], alts := [], laidByText := true, laidKinds := [.data, .pinned], laidTests := true, laidLooks := .later }
def StoreErrsCardSaid : Prop := Claim7.holds Tryz.pinned (.plain (OpenSpec.ofChange storeErrsSpec)) storeErrsCard

/-- THE TIED CARD OF 'letterboxlaw14.StoreReopens'. -/
def storeReopensCard : Claim7 := { stood := { row := storeReopensRow, standIns := [], harness := (true, "446b9b981c8c87777c9d1c979ee779d939cf986c91920fbecacc0d8bdbe7a982"), looks := false }, kinds := [], alts := [], laidByText := true, laidKinds := [.data, .pinned], laidTests := true, laidLooks := .later }
def StoreReopensCardSaid : Prop := Claim7.holds Tryz.pinned (.plain (OpenSpec.ofChange storeReopensSpec)) storeReopensCard

/-- THE TIED CARD OF 'letterboxlaw14.StoreOfNothing'. -/
def storeOfNothingCard : Claim7 := { stood := { row := storeOfNothingRow, standIns := [], harness := (true, "446b9b981c8c87777c9d1c979ee779d939cf986c91920fbecacc0d8bdbe7a982"), looks := false }, kinds := [], alts := [], laidByText := true, laidKinds := [.data, .pinned], laidTests := true, laidLooks := .later }
def StoreOfNothingCardSaid : Prop := Claim7.holds Tryz.pinned (.plain (OpenSpec.ofChange storeOfNothingSpec)) storeOfNothingCard

/-- THE TIED CARD OF 'letterboxlaw14.StorePlays'. -/
def storePlaysCard : Claim7 := { stood := { row := storePlaysRow, standIns := [], harness := (true, "446b9b981c8c87777c9d1c979ee779d939cf986c91920fbecacc0d8bdbe7a982"), looks := false }, kinds := [], alts := [], laidByText := true, laidKinds := [.data, .pinned], laidTests := true, laidLooks := .later }
def StorePlaysCardSaid : Prop := Claim7.holds Tryz.pinned (.plain (OpenSpec.ofChange storePlaysSpec)) storePlaysCard

/-- THE TIED CARD OF 'letterboxlaw14.StoreLasts'. -/
def storeLastsCard : Claim7 := { stood := { row := storeLastsRow, standIns := [], harness := (true, "446b9b981c8c87777c9d1c979ee779d939cf986c91920fbecacc0d8bdbe7a982"), looks := false }, kinds := [], alts := [], laidByText := true, laidKinds := [.data, .pinned], laidTests := true, laidLooks := .later }
def StoreLastsCardSaid : Prop := Claim7.holds Tryz.pinned (.plain (OpenSpec.ofChange storeLastsSpec)) storeLastsCard

/-- THE SECOND FORM's CARD OF 'letterboxlaw14.StoreBytes'. -/
def storeBytesUptoCard : Claim7 := { stood := { row := storeBytesUptoRow, standIns := [], harness := (true, "446b9b981c8c87777c9d1c979ee779d939cf986c91920fbecacc0d8bdbe7a982"), looks := false }, kinds := [], alts := [], laidByText := true, laidKinds := [.data, .pinned], laidTests := true, laidLooks := .later }
def StoreBytesUptoCardSaid : Prop := Claim7.holds Tryz.pinned (.plain (OpenSpec.upto storeBytesSpec)) storeBytesUptoCard

/-- THE SECOND FORM's CARD OF 'letterboxlaw14.StoreBack'. -/
def storeBackUptoCard : Claim7 := { stood := { row := storeBackUptoRow, standIns := [], harness := (true, "446b9b981c8c87777c9d1c979ee779d939cf986c91920fbecacc0d8bdbe7a982"), looks := false }, kinds := [], alts := [], laidByText := true, laidKinds := [.data, .pinned], laidTests := true, laidLooks := .later }
def StoreBackUptoCardSaid : Prop := Claim7.holds Tryz.pinned (.plain (OpenSpec.upto storeBackSpec)) storeBackUptoCard

/-- THE SECOND FORM's CARD OF 'letterboxlaw14.StoreMoves'. -/
def storeMovesUptoCard : Claim7 := { stood := { row := storeMovesUptoRow, standIns := [], harness := (true, "446b9b981c8c87777c9d1c979ee779d939cf986c91920fbecacc0d8bdbe7a982"), looks := false }, kinds := [], alts := [], laidByText := true, laidKinds := [.data, .pinned], laidTests := true, laidLooks := .later }
def StoreMovesUptoCardSaid : Prop := Claim7.holds Tryz.pinned (.plain (OpenSpec.upto storeMovesSpec)) storeMovesUptoCard

/-- THE SECOND FORM's CARD OF 'letterboxlaw14.StoreCopies'. -/
def storeCopiesUptoCard : Claim7 := { stood := { row := storeCopiesUptoRow, standIns := [], harness := (true, "446b9b981c8c87777c9d1c979ee779d939cf986c91920fbecacc0d8bdbe7a982"), looks := false }, kinds := [], alts := [], laidByText := true, laidKinds := [.data, .pinned], laidTests := true, laidLooks := .later }
def StoreCopiesUptoCardSaid : Prop := Claim7.holds Tryz.pinned (.plain (OpenSpec.upto storeCopiesSpec)) storeCopiesUptoCard

/-- THE SECOND FORM's CARD OF 'letterboxlaw14.StoreUsers'. -/
def storeUsersUptoCard : Claim7 := { stood := { row := storeUsersUptoRow, standIns := [], harness := (true, "446b9b981c8c87777c9d1c979ee779d939cf986c91920fbecacc0d8bdbe7a982"), looks := false }, kinds := [], alts := [], laidByText := true, laidKinds := [.data, .pinned], laidTests := true, laidLooks := .later }
def StoreUsersUptoCardSaid : Prop := Claim7.holds Tryz.pinned (.plain (OpenSpec.upto storeUsersSpec)) storeUsersUptoCard

/-- THE SECOND FORM's CARD OF 'letterboxlaw14.StoreErrs'. -/
def storeErrsUptoCard : Claim7 := { stood := { row := storeErrsUptoRow, standIns := [], harness := (true, "446b9b981c8c87777c9d1c979ee779d939cf986c91920fbecacc0d8bdbe7a982"), looks := false }, kinds := [], alts := [], laidByText := true, laidKinds := [.data, .pinned], laidTests := true, laidLooks := .later }
def StoreErrsUptoCardSaid : Prop := Claim7.holds Tryz.pinned (.plain (OpenSpec.upto storeErrsSpec)) storeErrsUptoCard

/-- THE SECOND FORM's CARD OF 'letterboxlaw14.StoreReopens'. -/
def storeReopensUptoCard : Claim7 := { stood := { row := storeReopensUptoRow, standIns := [], harness := (true, "446b9b981c8c87777c9d1c979ee779d939cf986c91920fbecacc0d8bdbe7a982"), looks := false }, kinds := [], alts := [], laidByText := true, laidKinds := [.data, .pinned], laidTests := true, laidLooks := .later }
def StoreReopensUptoCardSaid : Prop := Claim7.holds Tryz.pinned (.plain (OpenSpec.upto storeReopensSpec)) storeReopensUptoCard

/-- THE SECOND FORM's CARD OF 'letterboxlaw14.StoreOfNothing'. -/
def storeOfNothingUptoCard : Claim7 := { stood := { row := storeOfNothingUptoRow, standIns := [], harness := (true, "446b9b981c8c87777c9d1c979ee779d939cf986c91920fbecacc0d8bdbe7a982"), looks := false }, kinds := [], alts := [], laidByText := true, laidKinds := [.data, .pinned], laidTests := true, laidLooks := .later }
def StoreOfNothingUptoCardSaid : Prop := Claim7.holds Tryz.pinned (.plain (OpenSpec.upto storeOfNothingSpec)) storeOfNothingUptoCard

/-- THE SECOND FORM's CARD OF 'letterboxlaw14.StorePlays'. -/
def storePlaysUptoCard : Claim7 := { stood := { row := storePlaysUptoRow, standIns := [], harness := (true, "446b9b981c8c87777c9d1c979ee779d939cf986c91920fbecacc0d8bdbe7a982"), looks := false }, kinds := [], alts := [], laidByText := true, laidKinds := [.data, .pinned], laidTests := true, laidLooks := .later }
def StorePlaysUptoCardSaid : Prop := Claim7.holds Tryz.pinned (.plain (OpenSpec.upto storePlaysSpec)) storePlaysUptoCard

/-- THE SECOND FORM's CARD OF 'letterboxlaw14.StoreLasts'. -/
def storeLastsUptoCard : Claim7 := { stood := { row := storeLastsUptoRow, standIns := [], harness := (true, "446b9b981c8c87777c9d1c979ee779d939cf986c91920fbecacc0d8bdbe7a982"), looks := false }, kinds := [], alts := [], laidByText := true, laidKinds := [.data, .pinned], laidTests := true, laidLooks := .later }
def StoreLastsUptoCardSaid : Prop := Claim7.holds Tryz.pinned (.plain (OpenSpec.upto storeLastsSpec)) storeLastsUptoCard
end Rows
end Go.Proofs.YtipdndmfngpbfaaGreatDoor
