/-
  DERIVED. GIVEN WITH THE SEED: THE CARDS: each row of YtcjkbcdlpfgbgaaGreatDoorRows.lean that lists a variable, with what it lists TIED to the program's text (the seventh form; the later family's looks); each row that meets fmt, with fmt's text TOLD by the authors' own Lean function (tested against real Go, not proved from fmt's source: count such statements apart). THE CARD IS WHAT COUNTS. Prove the row's statement (the work); the ties are given (YtcjkbcdlpfgbgaaGreatDoorTie.lean); close each card by the builder's one call (the guide's Derived/Test/ToyasCard.lean, 'card_holds'). Laid BY PROGRAM, IN A SANDBOX (cutbox-door.mjs). By AI agents, Wed Nov 11 2026. No macro, syntax, notation, axiom, sorry.
-/
import Derived.Test.YtcjkbcdlpfgbgaaGreatDoorRows
import GoSem.ClaimSeven
namespace Go.Proofs.YtcjkbcdlpfgbgaaGreatDoor
namespace Rows

/-- THE TIED CARD OF 'laws.FnExactHouseLine'. -/
def fnExactHouseLineCard : Claim7 := { stood := { row := fnExactHouseLineRow, standIns := [], harness := (true, "213a5da4e7352985ff891575a2cf3ac8c90ecd7005b93f10292997246fb92715"), looks := false }, kinds := [], alts := [], laidByText := true, laidKinds := [.data, .data, .data, .data, .data, .data, .pinned], laidTests := true, laidLooks := .later }
def FnExactHouseLineCardSaid : Prop := Claim7.holds Tryz.pinned (.plain (OpenSpec.ofChange fnExactHouseLineSpec)) fnExactHouseLineCard

/-- THE TIED CARD OF 'laws.FnExactHouseLines'. -/
def fnExactHouseLinesCard : Claim7 := { stood := { row := fnExactHouseLinesRow, standIns := [], harness := (true, "213a5da4e7352985ff891575a2cf3ac8c90ecd7005b93f10292997246fb92715"), looks := false }, kinds := [], alts := [], laidByText := true, laidKinds := [.data, .data, .data, .data, .data, .data, .pinned], laidTests := true, laidLooks := .later }
def FnExactHouseLinesCardSaid : Prop := Claim7.holds Tryz.pinned (.plain (OpenSpec.ofChange fnExactHouseLinesSpec)) fnExactHouseLinesCard

/-- THE TIED CARD OF 'laws.FnExactHouseDo'. -/
def fnExactHouseDoCard : Claim7 := { stood := { row := fnExactHouseDoRow, standIns := [], harness := (true, "213a5da4e7352985ff891575a2cf3ac8c90ecd7005b93f10292997246fb92715"), looks := false }, kinds := [], alts := [], laidByText := true, laidKinds := [.data], laidTests := true, laidLooks := .later }
def FnExactHouseDoCardSaid : Prop := Claim7.holds Tryz.pinned (.plain (OpenSpec.ofChange fnExactHouseDoSpec)) fnExactHouseDoCard

/-- THE TIED CARD OF 'laws.FnExactHouseRun'. -/
def fnExactHouseRunCard : Claim7 := { stood := { row := fnExactHouseRunRow, standIns := [], harness := (true, "213a5da4e7352985ff891575a2cf3ac8c90ecd7005b93f10292997246fb92715"), looks := false }, kinds := [], alts := [], laidByText := true, laidKinds := [.data], laidTests := true, laidLooks := .later }
def FnExactHouseRunCardSaid : Prop := Claim7.holds Tryz.pinned (.plain (OpenSpec.ofChange fnExactHouseRunSpec)) fnExactHouseRunCard

/-- THE SECOND FORM's CARD OF 'laws.FnExactHouseLine'. -/
def fnExactHouseLineUptoCard : Claim7 := { stood := { row := fnExactHouseLineUptoRow, standIns := [], harness := (true, "213a5da4e7352985ff891575a2cf3ac8c90ecd7005b93f10292997246fb92715"), looks := false }, kinds := [], alts := [], laidByText := true, laidKinds := [.data, .data, .data, .data, .data, .data, .pinned], laidTests := true, laidLooks := .later }
def FnExactHouseLineUptoCardSaid : Prop := Claim7.holds Tryz.pinned (.plain (OpenSpec.upto fnExactHouseLineSpec)) fnExactHouseLineUptoCard

/-- THE SECOND FORM's CARD OF 'laws.FnExactHouseLines'. -/
def fnExactHouseLinesUptoCard : Claim7 := { stood := { row := fnExactHouseLinesUptoRow, standIns := [], harness := (true, "213a5da4e7352985ff891575a2cf3ac8c90ecd7005b93f10292997246fb92715"), looks := false }, kinds := [], alts := [], laidByText := true, laidKinds := [.data, .data, .data, .data, .data, .data, .pinned], laidTests := true, laidLooks := .later }
def FnExactHouseLinesUptoCardSaid : Prop := Claim7.holds Tryz.pinned (.plain (OpenSpec.upto fnExactHouseLinesSpec)) fnExactHouseLinesUptoCard

/-- THE SECOND FORM's CARD OF 'laws.FnExactHouseDo'. -/
def fnExactHouseDoUptoCard : Claim7 := { stood := { row := fnExactHouseDoUptoRow, standIns := [], harness := (true, "213a5da4e7352985ff891575a2cf3ac8c90ecd7005b93f10292997246fb92715"), looks := false }, kinds := [], alts := [], laidByText := true, laidKinds := [.data], laidTests := true, laidLooks := .later }
def FnExactHouseDoUptoCardSaid : Prop := Claim7.holds Tryz.pinned (.plain (OpenSpec.upto fnExactHouseDoSpec)) fnExactHouseDoUptoCard

/-- THE SECOND FORM's CARD OF 'laws.FnExactHouseRun'. -/
def fnExactHouseRunUptoCard : Claim7 := { stood := { row := fnExactHouseRunUptoRow, standIns := [], harness := (true, "213a5da4e7352985ff891575a2cf3ac8c90ecd7005b93f10292997246fb92715"), looks := false }, kinds := [], alts := [], laidByText := true, laidKinds := [.data], laidTests := true, laidLooks := .later }
def FnExactHouseRunUptoCardSaid : Prop := Claim7.holds Tryz.pinned (.plain (OpenSpec.upto fnExactHouseRunSpec)) fnExactHouseRunUptoCard
end Rows
end Go.Proofs.YtcjkbcdlpfgbgaaGreatDoor
