/-
  DERIVED. GIVEN WITH THE SEED: THE CARDS: each row of YtkaihcpnomdkkaaDoorRows.lean that lists a variable, with what it lists TIED to the program's text (the seventh form; the later family's looks); each row that meets fmt, with fmt's text TOLD by the authors' own Lean function (tested against real Go, not proved from fmt's source: count such statements apart). THE CARD IS WHAT COUNTS. Prove the row's statement (the work); the ties are given (YtkaihcpnomdkkaaDoorTie.lean); close each card by the builder's one call (the guide's Derived/Test/ToyasCard.lean, 'card_holds'). Laid BY PROGRAM, IN A SANDBOX (cutbox-door.mjs). By AI agents, Wed Nov 11 2026. No macro, syntax, notation, axiom, sorry.
-/
import Derived.Test.YtkaihcpnomdkkaaDoorRows
import GoSem.ClaimSeven
namespace Go.Proofs.YtkaihcpnomdkkaaDoor
namespace Rows

/-- THE TIED CARD OF 'tithinglaw22.LabelNames'. -/
def labelNamesCard : Claim7 := { stood := { row := labelNamesRow, standIns := [], harness := (true, "27fe56c14012e7967d268bd555617ac425fc67ba3e2aa6bad4af46d819c2192a"), looks := false }, kinds := [], alts := [], laidByText := true, laidKinds := [.data, .data, .data], laidTests := true, laidLooks := .later }
def LabelNamesCardSaid : Prop := Claim7.holds Tryd.pinned (.plain (OpenSpec.ofChange labelNamesSpec)) labelNamesCard

/-- THE TIED CARD OF 'tithinglaw22.LabelFree'. -/
def labelFreeCard : Claim7 := { stood := { row := labelFreeRow, standIns := [], harness := (true, "27fe56c14012e7967d268bd555617ac425fc67ba3e2aa6bad4af46d819c2192a"), looks := false }, kinds := [], alts := [], laidByText := true, laidKinds := [.data, .data, .data], laidTests := true, laidLooks := .later }
def LabelFreeCardSaid : Prop := Claim7.holds Tryd.pinned (.plain (OpenSpec.ofChange labelFreeSpec)) labelFreeCard

/-- THE TIED CARD OF 'tithinglaw22.LabelSorts'. -/
def labelSortsCard : Claim7 := { stood := { row := labelSortsRow, standIns := [], harness := (true, "27fe56c14012e7967d268bd555617ac425fc67ba3e2aa6bad4af46d819c2192a"), looks := false }, kinds := [], alts := [], laidByText := true, laidKinds := [.data, .data, .data], laidTests := true, laidLooks := .later }
def LabelSortsCardSaid : Prop := Claim7.holds Tryd.pinned (.plain (OpenSpec.ofChange labelSortsSpec)) labelSortsCard

/-- THE TIED CARD OF 'tithinglaw22.LabelLongs'. -/
def labelLongsCard : Claim7 := { stood := { row := labelLongsRow, standIns := [], harness := (true, "27fe56c14012e7967d268bd555617ac425fc67ba3e2aa6bad4af46d819c2192a"), looks := false }, kinds := [], alts := [], laidByText := true, laidKinds := [.data, .data, .data, .data, .pinned, .pinned], laidTests := true, laidLooks := .later }
def LabelLongsCardSaid : Prop := Claim7.holds Tryd.pinned (.plain (OpenSpec.ofChange labelLongsSpec)) labelLongsCard

/-- THE TIED CARD OF 'tithinglaw22.LabelBack'. -/
def labelBackCard : Claim7 := { stood := { row := labelBackRow, standIns := [], harness := (true, "27fe56c14012e7967d268bd555617ac425fc67ba3e2aa6bad4af46d819c2192a"), looks := false }, kinds := [], alts := [], laidByText := true, laidKinds := [.data, .data, .data, .data, .pinned, .pinned], laidTests := true, laidLooks := .later }
def LabelBackCardSaid : Prop := Claim7.holds Tryd.pinned (.plain (OpenSpec.ofChange labelBackSpec)) labelBackCard

/-- THE SECOND FORM's CARD OF 'tithinglaw22.LabelNames'. -/
def labelNamesUptoCard : Claim7 := { stood := { row := labelNamesUptoRow, standIns := [], harness := (true, "27fe56c14012e7967d268bd555617ac425fc67ba3e2aa6bad4af46d819c2192a"), looks := false }, kinds := [], alts := [], laidByText := true, laidKinds := [.data, .data, .data], laidTests := true, laidLooks := .later }
def LabelNamesUptoCardSaid : Prop := Claim7.holds Tryd.pinned (.plain (OpenSpec.upto labelNamesSpec)) labelNamesUptoCard

/-- THE SECOND FORM's CARD OF 'tithinglaw22.LabelFree'. -/
def labelFreeUptoCard : Claim7 := { stood := { row := labelFreeUptoRow, standIns := [], harness := (true, "27fe56c14012e7967d268bd555617ac425fc67ba3e2aa6bad4af46d819c2192a"), looks := false }, kinds := [], alts := [], laidByText := true, laidKinds := [.data, .data, .data], laidTests := true, laidLooks := .later }
def LabelFreeUptoCardSaid : Prop := Claim7.holds Tryd.pinned (.plain (OpenSpec.upto labelFreeSpec)) labelFreeUptoCard

/-- THE SECOND FORM's CARD OF 'tithinglaw22.LabelSorts'. -/
def labelSortsUptoCard : Claim7 := { stood := { row := labelSortsUptoRow, standIns := [], harness := (true, "27fe56c14012e7967d268bd555617ac425fc67ba3e2aa6bad4af46d819c2192a"), looks := false }, kinds := [], alts := [], laidByText := true, laidKinds := [.data, .data, .data], laidTests := true, laidLooks := .later }
def LabelSortsUptoCardSaid : Prop := Claim7.holds Tryd.pinned (.plain (OpenSpec.upto labelSortsSpec)) labelSortsUptoCard

/-- THE SECOND FORM's CARD OF 'tithinglaw22.LabelLongs'. -/
def labelLongsUptoCard : Claim7 := { stood := { row := labelLongsUptoRow, standIns := [], harness := (true, "27fe56c14012e7967d268bd555617ac425fc67ba3e2aa6bad4af46d819c2192a"), looks := false }, kinds := [], alts := [], laidByText := true, laidKinds := [.data, .data, .data, .data, .pinned, .pinned], laidTests := true, laidLooks := .later }
def LabelLongsUptoCardSaid : Prop := Claim7.holds Tryd.pinned (.plain (OpenSpec.upto labelLongsSpec)) labelLongsUptoCard

/-- THE SECOND FORM's CARD OF 'tithinglaw22.LabelBack'. -/
def labelBackUptoCard : Claim7 := { stood := { row := labelBackUptoRow, standIns := [], harness := (true, "27fe56c14012e7967d268bd555617ac425fc67ba3e2aa6bad4af46d819c2192a"), looks := false }, kinds := [], alts := [], laidByText := true, laidKinds := [.data, .data, .data, .data, .pinned, .pinned], laidTests := true, laidLooks := .later }
def LabelBackUptoCardSaid : Prop := Claim7.holds Tryd.pinned (.plain (OpenSpec.upto labelBackSpec)) labelBackUptoCard
end Rows
end Go.Proofs.YtkaihcpnomdkkaaDoor
