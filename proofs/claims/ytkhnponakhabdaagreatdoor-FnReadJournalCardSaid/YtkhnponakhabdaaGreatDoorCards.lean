/-
  DERIVED. GIVEN WITH THE SEED: THE CARDS: each row of YtkhnponakhabdaaGreatDoorRows.lean that lists a variable, with what it lists TIED to the program's text (the seventh form; the later family's looks); each row that meets fmt, with fmt's text TOLD by the authors' own Lean function (tested against real Go, not proved from fmt's source: count such statements apart). THE CARD IS WHAT COUNTS. Prove the row's statement (the work); the ties are given (YtkhnponakhabdaaGreatDoorTie.lean); close each card by the builder's one call (the guide's Derived/Test/ToyasCard.lean, 'card_holds'). Laid BY PROGRAM, IN A SANDBOX (cutbox-door.mjs). By AI agents, Wed Nov 11 2026. No macro, syntax, notation, axiom, sorry.
-/
import Derived.Test.YtkhnponakhabdaaGreatDoorRows
import GoSem.ClaimSeven
namespace Go.Proofs.YtkhnponakhabdaaGreatDoor
namespace Rows

/-- THE TIED CARD OF 'laws.FnHouseLines'. -/
def fnHouseLinesCard : Claim7 := { stood := { row := fnHouseLinesRow, standIns := [], harness := (true, "020a1d0c07c2c98662195de753adcb3ca858f0fec1996a32c3e41ecb282244ed"), looks := false }, kinds := [], alts := [], laidByText := true, laidKinds := [.data, .data, .data, .data, .data, .data, .pinned], laidTests := true, laidLooks := .later }
def FnHouseLinesCardSaid : Prop := Claim7.holds Tryz.pinned (.plain (OpenSpec.ofChange fnHouseLinesSpec)) fnHouseLinesCard

/-- THE TIED CARD OF 'laws.FnHouseLine'. -/
def fnHouseLineCard : Claim7 := { stood := { row := fnHouseLineRow, standIns := [], harness := (true, "020a1d0c07c2c98662195de753adcb3ca858f0fec1996a32c3e41ecb282244ed"), looks := false }, kinds := [], alts := [], laidByText := true, laidKinds := [.data, .data, .data, .data, .data, .data, .pinned], laidTests := true, laidLooks := .later }
def FnHouseLineCardSaid : Prop := Claim7.holds Tryz.pinned (.plain (OpenSpec.ofChange fnHouseLineSpec)) fnHouseLineCard

/-- THE TIED CARD OF 'laws.FnReadJournal'. -/
def fnReadJournalCard : Claim7 := { stood := { row := fnReadJournalRow, standIns := [], harness := (true, "020a1d0c07c2c98662195de753adcb3ca858f0fec1996a32c3e41ecb282244ed"), looks := false }, kinds := [], alts := [], laidByText := true, laidKinds := [.data, .data, .data, .data, .data, .data, .pinned], laidTests := true, laidLooks := .later }
def FnReadJournalCardSaid : Prop := Claim7.holds Tryz.pinned (.plain (OpenSpec.ofChange fnReadJournalSpec)) fnReadJournalCard

/-- THE SECOND FORM's CARD OF 'laws.FnHouseLines'. -/
def fnHouseLinesUptoCard : Claim7 := { stood := { row := fnHouseLinesUptoRow, standIns := [], harness := (true, "020a1d0c07c2c98662195de753adcb3ca858f0fec1996a32c3e41ecb282244ed"), looks := false }, kinds := [], alts := [], laidByText := true, laidKinds := [.data, .data, .data, .data, .data, .data, .pinned], laidTests := true, laidLooks := .later }
def FnHouseLinesUptoCardSaid : Prop := Claim7.holds Tryz.pinned (.plain (OpenSpec.upto fnHouseLinesSpec)) fnHouseLinesUptoCard

/-- THE SECOND FORM's CARD OF 'laws.FnHouseLine'. -/
def fnHouseLineUptoCard : Claim7 := { stood := { row := fnHouseLineUptoRow, standIns := [], harness := (true, "020a1d0c07c2c98662195de753adcb3ca858f0fec1996a32c3e41ecb282244ed"), looks := false }, kinds := [], alts := [], laidByText := true, laidKinds := [.data, .data, .data, .data, .data, .data, .pinned], laidTests := true, laidLooks := .later }
def FnHouseLineUptoCardSaid : Prop := Claim7.holds Tryz.pinned (.plain (OpenSpec.upto fnHouseLineSpec)) fnHouseLineUptoCard

/-- THE SECOND FORM's CARD OF 'laws.FnReadJournal'. -/
def fnReadJournalUptoCard : Claim7 := { stood := { row := fnReadJournalUptoRow, standIns := [], harness := (true, "020a1d0c07c2c98662195de753adcb3ca858f0fec1996a32c3e41ecb282244ed"), looks := false }, kinds := [], alts := [], laidByText := true, laidKinds := [.data, .data, .data, .data, .data, .data, .pinned], laidTests := true, laidLooks := .later }
def FnReadJournalUptoCardSaid : Prop := Claim7.holds Tryz.pinned (.plain (OpenSpec.upto fnReadJournalSpec)) fnReadJournalUptoCard
end Rows
end Go.Proofs.YtkhnponakhabdaaGreatDoor
