/-
  DERIVED. GIVEN WITH THE SEED: THE CARDS: each row of YthofjabphcheeaaDoorRows.lean that lists a variable, with what it lists TIED to the program's text (the seventh form; the later family's looks); each row that meets fmt, with fmt's text TOLD by the authors' own Lean function (tested against real Go, not proved from fmt's source: count such statements apart). THE CARD IS WHAT COUNTS. Prove the row's statement (the work); the ties are given (YthofjabphcheeaaDoorTie.lean); close each card by the builder's one call (the guide's Derived/Test/ToyasCard.lean, 'card_holds'). Laid BY PROGRAM, IN A SANDBOX (cutbox-door.mjs). By AI agents, Wed Nov 11 2026. No macro, syntax, notation, axiom, sorry.
-/
import Derived.Test.YthofjabphcheeaaDoorRows
import GoSem.ClaimSeven
namespace Go.Proofs.YthofjabphcheeaaDoor
namespace Rows

/-- THE TIED CARD OF 'laws.FnHouseValid'. -/
def fnHouseValidCard : Claim7 := { stood := { row := fnHouseValidRow, standIns := [], harness := (true, "a3f61946f4baff277a8286aa849afd2095262625d07542831e38c501ac23cf4a"), looks := false }, kinds := [], alts := [], laidByText := true, laidKinds := [.data, .data, .data], laidTests := true, laidLooks := .later }
def FnHouseValidCardSaid : Prop := Claim7.holds Tryd.pinned (.plain (OpenSpec.ofChange fnHouseValidSpec)) fnHouseValidCard

/-- THE TIED CARD OF 'laws.FnTableBill'. -/
def fnTableBillCard : Claim7 := { stood := { row := fnTableBillRow, standIns := [], harness := (true, "a3f61946f4baff277a8286aa849afd2095262625d07542831e38c501ac23cf4a"), looks := false }, kinds := [], alts := [], laidByText := true, laidKinds := [.data, .data, .data], laidTests := true, laidLooks := .later }
def FnTableBillCardSaid : Prop := Claim7.holds Tryd.pinned (.plain (OpenSpec.ofChange fnTableBillSpec)) fnTableBillCard

/-- THE TIED CARD OF 'laws.FnHouseWorth'. -/
def fnHouseWorthCard : Claim7 := { stood := { row := fnHouseWorthRow, standIns := [], harness := (true, "a3f61946f4baff277a8286aa849afd2095262625d07542831e38c501ac23cf4a"), looks := false }, kinds := [], alts := [], laidByText := true, laidKinds := [.data, .data, .data], laidTests := true, laidLooks := .later }
def FnHouseWorthCardSaid : Prop := Claim7.holds Tryd.pinned (.plain (OpenSpec.ofChange fnHouseWorthSpec)) fnHouseWorthCard

/-- THE TIED CARD OF 'laws.FnDeedText'. -/
def fnDeedTextCard : Claim7 := { stood := { row := fnDeedTextRow, standIns := [], harness := (true, "a3f61946f4baff277a8286aa849afd2095262625d07542831e38c501ac23cf4a"), looks := false }, kinds := [], alts := [], laidByText := true, laidKinds := [.data, .data, .data, .data, .data, .data, .pinned], laidTests := true, laidLooks := .later }
def FnDeedTextCardSaid : Prop := Claim7.holds Tryd.pinned (.plain (OpenSpec.ofChange fnDeedTextSpec)) fnDeedTextCard

/-- THE TIED CARD OF 'laws.FnReadDeed'. -/
def fnReadDeedCard : Claim7 := { stood := { row := fnReadDeedRow, standIns := [], harness := (true, "a3f61946f4baff277a8286aa849afd2095262625d07542831e38c501ac23cf4a"), looks := false }, kinds := [], alts := [], laidByText := true, laidKinds := [.data, .data, .data, .data, .data, .data, .pinned], laidTests := true, laidLooks := .later }
def FnReadDeedCardSaid : Prop := Claim7.holds Tryd.pinned (.plain (OpenSpec.ofChange fnReadDeedSpec)) fnReadDeedCard

/-- THE TIED CARD OF 'laws.FnJournalText'. -/
def fnJournalTextCard : Claim7 := { stood := { row := fnJournalTextRow, standIns := [], harness := (true, "a3f61946f4baff277a8286aa849afd2095262625d07542831e38c501ac23cf4a"), looks := false }, kinds := [], alts := [], laidByText := true, laidKinds := [.data, .data, .data, .data, .data, .data, .pinned], laidTests := true, laidLooks := .later }
def FnJournalTextCardSaid : Prop := Claim7.holds Tryd.pinned (.plain (OpenSpec.ofChange fnJournalTextSpec)) fnJournalTextCard

/-- THE SECOND FORM's CARD OF 'laws.FnHouseValid'. -/
def fnHouseValidUptoCard : Claim7 := { stood := { row := fnHouseValidUptoRow, standIns := [], harness := (true, "a3f61946f4baff277a8286aa849afd2095262625d07542831e38c501ac23cf4a"), looks := false }, kinds := [], alts := [], laidByText := true, laidKinds := [.data, .data, .data], laidTests := true, laidLooks := .later }
def FnHouseValidUptoCardSaid : Prop := Claim7.holds Tryd.pinned (.plain (OpenSpec.upto fnHouseValidSpec)) fnHouseValidUptoCard

/-- THE SECOND FORM's CARD OF 'laws.FnTableBill'. -/
def fnTableBillUptoCard : Claim7 := { stood := { row := fnTableBillUptoRow, standIns := [], harness := (true, "a3f61946f4baff277a8286aa849afd2095262625d07542831e38c501ac23cf4a"), looks := false }, kinds := [], alts := [], laidByText := true, laidKinds := [.data, .data, .data], laidTests := true, laidLooks := .later }
def FnTableBillUptoCardSaid : Prop := Claim7.holds Tryd.pinned (.plain (OpenSpec.upto fnTableBillSpec)) fnTableBillUptoCard

/-- THE SECOND FORM's CARD OF 'laws.FnHouseWorth'. -/
def fnHouseWorthUptoCard : Claim7 := { stood := { row := fnHouseWorthUptoRow, standIns := [], harness := (true, "a3f61946f4baff277a8286aa849afd2095262625d07542831e38c501ac23cf4a"), looks := false }, kinds := [], alts := [], laidByText := true, laidKinds := [.data, .data, .data], laidTests := true, laidLooks := .later }
def FnHouseWorthUptoCardSaid : Prop := Claim7.holds Tryd.pinned (.plain (OpenSpec.upto fnHouseWorthSpec)) fnHouseWorthUptoCard

/-- THE SECOND FORM's CARD OF 'laws.FnDeedText'. -/
def fnDeedTextUptoCard : Claim7 := { stood := { row := fnDeedTextUptoRow, standIns := [], harness := (true, "a3f61946f4baff277a8286aa849afd2095262625d07542831e38c501ac23cf4a"), looks := false }, kinds := [], alts := [], laidByText := true, laidKinds := [.data, .data, .data, .data, .data, .data, .pinned], laidTests := true, laidLooks := .later }
def FnDeedTextUptoCardSaid : Prop := Claim7.holds Tryd.pinned (.plain (OpenSpec.upto fnDeedTextSpec)) fnDeedTextUptoCard

/-- THE SECOND FORM's CARD OF 'laws.FnReadDeed'. -/
def fnReadDeedUptoCard : Claim7 := { stood := { row := fnReadDeedUptoRow, standIns := [], harness := (true, "a3f61946f4baff277a8286aa849afd2095262625d07542831e38c501ac23cf4a"), looks := false }, kinds := [], alts := [], laidByText := true, laidKinds := [.data, .data, .data, .data, .data, .data, .pinned], laidTests := true, laidLooks := .later }
def FnReadDeedUptoCardSaid : Prop := Claim7.holds Tryd.pinned (.plain (OpenSpec.upto fnReadDeedSpec)) fnReadDeedUptoCard

/-- THE SECOND FORM's CARD OF 'laws.FnJournalText'. -/
def fnJournalTextUptoCard : Claim7 := { stood := { row := fnJournalTextUptoRow, standIns := [], harness := (true, "a3f61946f4baff277a8286aa849afd2095262625d07542831e38c501ac23cf4a"), looks := false }, kinds := [], alts := [], laidByText := true, laidKinds := [.data, .data, .data, .data, .data, .data, .pinned], laidTests := true, laidLooks := .later }
def FnJournalTextUptoCardSaid : Prop := Claim7.holds Tryd.pinned (.plain (OpenSpec.upto fnJournalTextSpec)) fnJournalTextUptoCard
end Rows
end Go.Proofs.YthofjabphcheeaaDoor
