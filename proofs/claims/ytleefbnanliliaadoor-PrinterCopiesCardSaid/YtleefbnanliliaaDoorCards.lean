/-
  DERIVED. GIVEN WITH THE SEED: THE CARDS: each row of YtleefbnanliliaaDoorRows.lean that lists a variable, with what it lists TIED to the program's text (the seventh form; the later family's looks); each row that meets fmt, with fmt's text TOLD by the authors' own Lean function (tested against real Go, not proved from fmt's source: count such statements apart). THE CARD IS WHAT COUNTS. Prove the row's statement (the work); the ties are given (YtleefbnanliliaaDoorTie.lean); close each card by the builder's one call (the guide's Derived/Test/ToyasCard.lean, 'card_holds'). Laid BY PROGRAM, IN A SANDBOX (cutbox-door.mjs). By AI agents, Wed Nov 11 2026. No macro, syntax, notation, axiom, sorry.
-/
import Derived.Test.YtleefbnanliliaaDoorRows
import GoSem.ClaimSeven
namespace Go.Proofs.YtleefbnanliliaaDoor
namespace Rows

/-- THE TIED CARD OF 'tithinglaw13.PrinterWaits'. -/
def printerWaitsCard : Claim7 := { stood := { row := printerWaitsRow, standIns := [], harness := (true, "83339155388d066d643bae6b6b44418ff9a8bfa94a217aac8a9da43fca51048f"), looks := false }, kinds := [], alts := [], laidByText := true, laidKinds := [.data, .data, .data], laidTests := true, laidLooks := .later }
def PrinterWaitsCardSaid : Prop := Claim7.holds Tryd.pinned (.plain (OpenSpec.ofChange printerWaitsSpec)) printerWaitsCard

/-- THE TIED CARD OF 'tithinglaw13.PrinterNews'. -/
def printerNewsCard : Claim7 := { stood := { row := printerNewsRow, standIns := [], harness := (true, "83339155388d066d643bae6b6b44418ff9a8bfa94a217aac8a9da43fca51048f"), looks := false }, kinds := [], alts := [], laidByText := true, laidKinds := [.data, .data, .data], laidTests := true, laidLooks := .later }
def PrinterNewsCardSaid : Prop := Claim7.holds Tryd.pinned (.plain (OpenSpec.ofChange printerNewsSpec)) printerNewsCard

/-- THE TIED CARD OF 'tithinglaw13.PrinterWhole'. -/
def printerWholeCard : Claim7 := { stood := { row := printerWholeRow, standIns := [], harness := (true, "83339155388d066d643bae6b6b44418ff9a8bfa94a217aac8a9da43fca51048f"), looks := false }, kinds := [], alts := [], laidByText := true, laidKinds := [.data, .data, .data], laidTests := true, laidLooks := .later }
def PrinterWholeCardSaid : Prop := Claim7.holds Tryd.pinned (.plain (OpenSpec.ofChange printerWholeSpec)) printerWholeCard

/-- THE TIED CARD OF 'tithinglaw13.PrinterForwards'. -/
def printerForwardsCard : Claim7 := { stood := { row := printerForwardsRow, standIns := [], harness := (true, "83339155388d066d643bae6b6b44418ff9a8bfa94a217aac8a9da43fca51048f"), looks := false }, kinds := [], alts := [], laidByText := true, laidKinds := [.data, .data, .data], laidTests := true, laidLooks := .later }
def PrinterForwardsCardSaid : Prop := Claim7.holds Tryd.pinned (.plain (OpenSpec.ofChange printerForwardsSpec)) printerForwardsCard

/-- THE TIED CARD OF 'tithinglaw13.PrinterPlays'. -/
def printerPlaysCard : Claim7 := { stood := { row := printerPlaysRow, standIns := [], harness := (true, "83339155388d066d643bae6b6b44418ff9a8bfa94a217aac8a9da43fca51048f"), looks := false }, kinds := [], alts := [], laidByText := true, laidKinds := [.data, .data, .data], laidTests := true, laidLooks := .later }
def PrinterPlaysCardSaid : Prop := Claim7.holds Tryd.pinned (.plain (OpenSpec.ofChange printerPlaysSpec)) printerPlaysCard

/-- THE TIED CARD OF 'tithinglaw13.PrinterNils'. -/
def printerNilsCard : Claim7 := { stood := { row := printerNilsRow, standIns := [], harness := (true, "83339155388d066d643bae6b6b44418ff9a8bfa94a217aac8a9da43fca51048f"), looks := false }, kinds := [], alts := [], laidByText := true, laidKinds := [.data, .data, .data], laidTests := true, laidLooks := .later }
def PrinterNilsCardSaid : Prop := Claim7.holds Tryd.pinned (.plain (OpenSpec.ofChange printerNilsSpec)) printerNilsCard

/-- THE TIED CARD OF 'tithinglaw13.PrinterCopies'. -/
def printerCopiesCard : Claim7 := { stood := { row := printerCopiesRow, standIns := [], harness := (true, "83339155388d066d643bae6b6b44418ff9a8bfa94a217aac8a9da43fca51048f"), looks := false }, kinds := [], alts := [], laidByText := true, laidKinds := [.data, .data, .data], laidTests := true, laidLooks := .later }
def PrinterCopiesCardSaid : Prop := Claim7.holds Tryd.pinned (.plain (OpenSpec.ofChange printerCopiesSpec)) printerCopiesCard

/-- THE SECOND FORM's CARD OF 'tithinglaw13.PrinterWaits'. -/
def printerWaitsUptoCard : Claim7 := { stood := { row := printerWaitsUptoRow, standIns := [], harness := (true, "83339155388d066d643bae6b6b44418ff9a8bfa94a217aac8a9da43fca51048f"), looks := false }, kinds := [], alts := [], laidByText := true, laidKinds := [.data, .data, .data], laidTests := true, laidLooks := .later }
def PrinterWaitsUptoCardSaid : Prop := Claim7.holds Tryd.pinned (.plain (OpenSpec.upto printerWaitsSpec)) printerWaitsUptoCard

/-- THE SECOND FORM's CARD OF 'tithinglaw13.PrinterNews'. -/
def printerNewsUptoCard : Claim7 := { stood := { row := printerNewsUptoRow, standIns := [], harness := (true, "83339155388d066d643bae6b6b44418ff9a8bfa94a217aac8a9da43fca51048f"), looks := false }, kinds := [], alts := [], laidByText := true, laidKinds := [.data, .data, .data], laidTests := true, laidLooks := .later }
def PrinterNewsUptoCardSaid : Prop := Claim7.holds Tryd.pinned (.plain (OpenSpec.upto printerNewsSpec)) printerNewsUptoCard

/-- THE SECOND FORM's CARD OF 'tithinglaw13.PrinterWhole'. -/
def printerWholeUptoCard : Claim7 := { stood := { row := printerWholeUptoRow, standIns := [], harness := (true, "83339155388d066d643bae6b6b44418ff9a8bfa94a217aac8a9da43fca51048f"), looks := false }, kinds := [], alts := [], laidByText := true, laidKinds := [.data, .data, .data], laidTests := true, laidLooks := .later }
def PrinterWholeUptoCardSaid : Prop := Claim7.holds Tryd.pinned (.plain (OpenSpec.upto printerWholeSpec)) printerWholeUptoCard

/-- THE SECOND FORM's CARD OF 'tithinglaw13.PrinterForwards'. -/
def printerForwardsUptoCard : Claim7 := { stood := { row := printerForwardsUptoRow, standIns := [], harness := (true, "83339155388d066d643bae6b6b44418ff9a8bfa94a217aac8a9da43fca51048f"), looks := false }, kinds := [], alts := [], laidByText := true, laidKinds := [.data, .data, .data], laidTests := true, laidLooks := .later }
def PrinterForwardsUptoCardSaid : Prop := Claim7.holds Tryd.pinned (.plain (OpenSpec.upto printerForwardsSpec)) printerForwardsUptoCard

/-- THE SECOND FORM's CARD OF 'tithinglaw13.PrinterPlays'. -/
def printerPlaysUptoCard : Claim7 := { stood := { row := printerPlaysUptoRow, standIns := [], harness := (true, "83339155388d066d643bae6b6b44418ff9a8bfa94a217aac8a9da43fca51048f"), looks := false }, kinds := [], alts := [], laidByText := true, laidKinds := [.data, .data, .data], laidTests := true, laidLooks := .later }
def PrinterPlaysUptoCardSaid : Prop := Claim7.holds Tryd.pinned (.plain (OpenSpec.upto printerPlaysSpec)) printerPlaysUptoCard

/-- THE SECOND FORM's CARD OF 'tithinglaw13.PrinterNils'. -/
def printerNilsUptoCard : Claim7 := { stood := { row := printerNilsUptoRow, standIns := [], harness := (true, "83339155388d066d643bae6b6b44418ff9a8bfa94a217aac8a9da43fca51048f"), looks := false }, kinds := [], alts := [], laidByText := true, laidKinds := [.data, .data, .data], laidTests := true, laidLooks := .later }
def PrinterNilsUptoCardSaid : Prop := Claim7.holds Tryd.pinned (.plain (OpenSpec.upto printerNilsSpec)) printerNilsUptoCard

/-- THE SECOND FORM's CARD OF 'tithinglaw13.PrinterCopies'. -/
def printerCopiesUptoCard : Claim7 := { stood := { row := printerCopiesUptoRow, standIns := [], harness := (true, "83339155388d066d643bae6b6b44418ff9a8bfa94a217aac8a9da43fca51048f"), looks := false }, kinds := [], alts := [], laidByText := true, laidKinds := [.data, .data, .data], laidTests := true, laidLooks := .later }
def PrinterCopiesUptoCardSaid : Prop := Claim7.holds Tryd.pinned (.plain (OpenSpec.upto printerCopiesSpec)) printerCopiesUptoCard
end Rows
end Go.Proofs.YtleefbnanliliaaDoor
