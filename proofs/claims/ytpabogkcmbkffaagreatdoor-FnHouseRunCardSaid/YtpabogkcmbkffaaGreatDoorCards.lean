/-
  DERIVED. GIVEN WITH THE SEED: THE CARDS: each row of YtpabogkcmbkffaaGreatDoorRows.lean that lists a variable, with what it lists TIED to the program's text (the seventh form; the later family's looks); each row that meets fmt, with fmt's text TOLD by the authors' own Lean function (tested against real Go, not proved from fmt's source: count such statements apart). THE CARD IS WHAT COUNTS. Prove the row's statement (the work); the ties are given (YtpabogkcmbkffaaGreatDoorTie.lean); close each card by the builder's one call (the guide's Derived/Test/ToyasCard.lean, 'card_holds'). Laid BY PROGRAM, IN A SANDBOX (cutbox-door.mjs). By AI agents, Wed Nov 11 2026. No macro, syntax, notation, axiom, sorry.
-/
import Derived.Test.YtpabogkcmbkffaaGreatDoorRows
import GoSem.ClaimSeven
namespace Go.Proofs.YtpabogkcmbkffaaGreatDoor
namespace Rows

/-- THE TIED CARD OF 'laws.FnHouseDo'. -/
def fnHouseDoCard : Claim7 := { stood := { row := fnHouseDoRow, standIns := [], harness := (true, "49f3a5018ef30bd2f49694c4bd3381e39fb69dcd08e704688dc4b20d005db0d2"), looks := false }, kinds := [], alts := [], laidByText := true, laidKinds := [.data, .data, .data, .data], laidTests := true, laidLooks := .later }
def FnHouseDoCardSaid : Prop := Claim7.holds Tryz.pinned (.plain (OpenSpec.ofChange fnHouseDoSpec)) fnHouseDoCard

/-- THE TIED CARD OF 'laws.FnEndDeeds'. -/
def fnEndDeedsCard : Claim7 := { stood := { row := fnEndDeedsRow, standIns := [], harness := (true, "49f3a5018ef30bd2f49694c4bd3381e39fb69dcd08e704688dc4b20d005db0d2"), looks := false }, kinds := [], alts := [], laidByText := true, laidKinds := [.data, .data, .data, .data], laidTests := true, laidLooks := .later }
def FnEndDeedsCardSaid : Prop := Claim7.holds Tryz.pinned (.plain (OpenSpec.ofChange fnEndDeedsSpec)) fnEndDeedsCard

/-- THE TIED CARD OF 'laws.FnHouseRun'. -/
def fnHouseRunCard : Claim7 := { stood := { row := fnHouseRunRow, standIns := [], harness := (true, "49f3a5018ef30bd2f49694c4bd3381e39fb69dcd08e704688dc4b20d005db0d2"), looks := false }, kinds := [], alts := [], laidByText := true, laidKinds := [.data, .data, .data, .data], laidTests := true, laidLooks := .later }
def FnHouseRunCardSaid : Prop := Claim7.holds Tryz.pinned (.plain (OpenSpec.ofChange fnHouseRunSpec)) fnHouseRunCard

/-- THE SECOND FORM's CARD OF 'laws.FnHouseDo'. -/
def fnHouseDoUptoCard : Claim7 := { stood := { row := fnHouseDoUptoRow, standIns := [], harness := (true, "49f3a5018ef30bd2f49694c4bd3381e39fb69dcd08e704688dc4b20d005db0d2"), looks := false }, kinds := [], alts := [], laidByText := true, laidKinds := [.data, .data, .data, .data], laidTests := true, laidLooks := .later }
def FnHouseDoUptoCardSaid : Prop := Claim7.holds Tryz.pinned (.plain (OpenSpec.upto fnHouseDoSpec)) fnHouseDoUptoCard

/-- THE SECOND FORM's CARD OF 'laws.FnEndDeeds'. -/
def fnEndDeedsUptoCard : Claim7 := { stood := { row := fnEndDeedsUptoRow, standIns := [], harness := (true, "49f3a5018ef30bd2f49694c4bd3381e39fb69dcd08e704688dc4b20d005db0d2"), looks := false }, kinds := [], alts := [], laidByText := true, laidKinds := [.data, .data, .data, .data], laidTests := true, laidLooks := .later }
def FnEndDeedsUptoCardSaid : Prop := Claim7.holds Tryz.pinned (.plain (OpenSpec.upto fnEndDeedsSpec)) fnEndDeedsUptoCard

/-- THE SECOND FORM's CARD OF 'laws.FnHouseRun'. -/
def fnHouseRunUptoCard : Claim7 := { stood := { row := fnHouseRunUptoRow, standIns := [], harness := (true, "49f3a5018ef30bd2f49694c4bd3381e39fb69dcd08e704688dc4b20d005db0d2"), looks := false }, kinds := [], alts := [], laidByText := true, laidKinds := [.data, .data, .data, .data], laidTests := true, laidLooks := .later }
def FnHouseRunUptoCardSaid : Prop := Claim7.holds Tryz.pinned (.plain (OpenSpec.upto fnHouseRunSpec)) fnHouseRunUptoCard
end Rows
end Go.Proofs.YtpabogkcmbkffaaGreatDoor
