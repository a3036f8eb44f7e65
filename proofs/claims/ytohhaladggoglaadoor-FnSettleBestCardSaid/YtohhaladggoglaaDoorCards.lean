/-
  DERIVED. GIVEN WITH THE SEED: THE CARDS: each row of YtohhaladggoglaaDoorRows.lean that lists a variable, with what it lists TIED to the program's text (the seventh form; the later family's looks); each row that meets fmt, with fmt's text TOLD by the authors' own Lean function (tested against real Go, not proved from fmt's source: count such statements apart). THE CARD IS WHAT COUNTS. Prove the row's statement (the work); the ties are given (YtohhaladggoglaaDoorTie.lean); close each card by the builder's one call (the guide's Derived/Test/ToyasCard.lean, 'card_holds'). Laid BY PROGRAM, IN A SANDBOX (cutbox-door.mjs). By AI agents, Wed Nov 11 2026. No macro, syntax, notation, axiom, sorry.
-/
import Derived.Test.YtohhaladggoglaaDoorRows
import GoSem.ClaimSeven
namespace Go.Proofs.YtohhaladggoglaaDoor
namespace Rows

/-- THE TIED CARD OF 'laws.FnOwedValid'. -/
def fnOwedValidCard : Claim7 := { stood := { row := fnOwedValidRow, standIns := [], harness := (true, "a29d4eb26bb84b627f655b4631cc2efb3da6bba30a94298adbcd782654a110d5"), looks := false }, kinds := [], alts := [], laidByText := true, laidKinds := [.data, .data, .data], laidTests := true, laidLooks := .later }
def FnOwedValidCardSaid : Prop := Claim7.holds Tryd.pinned (.plain (OpenSpec.ofChange fnOwedValidSpec)) fnOwedValidCard

/-- THE TIED CARD OF 'laws.FnSharesValid'. -/
def fnSharesValidCard : Claim7 := { stood := { row := fnSharesValidRow, standIns := [], harness := (true, "a29d4eb26bb84b627f655b4631cc2efb3da6bba30a94298adbcd782654a110d5"), looks := false }, kinds := [], alts := [], laidByText := true, laidKinds := [.data, .data, .data], laidTests := true, laidLooks := .later }
def FnSharesValidCardSaid : Prop := Claim7.holds Tryd.pinned (.plain (OpenSpec.ofChange fnSharesValidSpec)) fnSharesValidCard

/-- THE TIED CARD OF 'laws.FnGroupsMost'. -/
def fnGroupsMostCard : Claim7 := { stood := { row := fnGroupsMostRow, standIns := [], harness := (true, "a29d4eb26bb84b627f655b4631cc2efb3da6bba30a94298adbcd782654a110d5"), looks := false }, kinds := [], alts := [], laidByText := true, laidKinds := [.data, .data, .data], laidTests := true, laidLooks := .later }
def FnGroupsMostCardSaid : Prop := Claim7.holds Tryd.pinned (.plain (OpenSpec.ofChange fnGroupsMostSpec)) fnGroupsMostCard

/-- THE TIED CARD OF 'laws.FnSettleFast'. -/
def fnSettleFastCard : Claim7 := { stood := { row := fnSettleFastRow, standIns := [], harness := (true, "a29d4eb26bb84b627f655b4631cc2efb3da6bba30a94298adbcd782654a110d5"), looks := false }, kinds := [], alts := [], laidByText := true, laidKinds := [.data, .data, .data], laidTests := true, laidLooks := .later }
def FnSettleFastCardSaid : Prop := Claim7.holds Tryd.pinned (.plain (OpenSpec.ofChange fnSettleFastSpec)) fnSettleFastCard

/-- THE TIED CARD OF 'laws.FnPaysOk'. -/
def fnPaysOkCard : Claim7 := { stood := { row := fnPaysOkRow, standIns := [], harness := (true, "a29d4eb26bb84b627f655b4631cc2efb3da6bba30a94298adbcd782654a110d5"), looks := false }, kinds := [], alts := [], laidByText := true, laidKinds := [.data, .data, .data], laidTests := true, laidLooks := .later }
def FnPaysOkCardSaid : Prop := Claim7.holds Tryd.pinned (.plain (OpenSpec.ofChange fnPaysOkSpec)) fnPaysOkCard

/-- THE TIED CARD OF 'laws.FnShareOf'. -/
def fnShareOfCard : Claim7 := { stood := { row := fnShareOfRow, standIns := [], harness := (true, "a29d4eb26bb84b627f655b4631cc2efb3da6bba30a94298adbcd782654a110d5"), looks := false }, kinds := [], alts := [], laidByText := true, laidKinds := [.data, .data, .data], laidTests := true, laidLooks := .later }
def FnShareOfCardSaid : Prop := Claim7.holds Tryd.pinned (.plain (OpenSpec.ofChange fnShareOfSpec)) fnShareOfCard

/-- THE TIED CARD OF 'laws.FnSettleLeast'. -/
def fnSettleLeastCard : Claim7 := { stood := { row := fnSettleLeastRow, standIns := [], harness := (true, "a29d4eb26bb84b627f655b4631cc2efb3da6bba30a94298adbcd782654a110d5"), looks := false }, kinds := [], alts := [], laidByText := true, laidKinds := [.data, .data, .data], laidTests := true, laidLooks := .later }
def FnSettleLeastCardSaid : Prop := Claim7.holds Tryd.pinned (.plain (OpenSpec.ofChange fnSettleLeastSpec)) fnSettleLeastCard

/-- THE TIED CARD OF 'laws.FnSettleBest'. -/
def fnSettleBestCard : Claim7 := { stood := { row := fnSettleBestRow, standIns := [], harness := (true, "a29d4eb26bb84b627f655b4631cc2efb3da6bba30a94298adbcd782654a110d5"), looks := false }, kinds := [], alts := [], laidByText := true, laidKinds := [.data, .data, .data], laidTests := true, laidLooks := .later }
def FnSettleBestCardSaid : Prop := Claim7.holds Tryd.pinned (.plain (OpenSpec.ofChange fnSettleBestSpec)) fnSettleBestCard

/-- THE TIED CARD OF 'laws.FnOwedOf'. -/
def fnOwedOfCard : Claim7 := { stood := { row := fnOwedOfRow, standIns := [], harness := (true, "a29d4eb26bb84b627f655b4631cc2efb3da6bba30a94298adbcd782654a110d5"), looks := false }, kinds := [], alts := [], laidByText := true, laidKinds := [.data, .data, .data], laidTests := true, laidLooks := .later }
def FnOwedOfCardSaid : Prop := Claim7.holds Tryd.pinned (.plain (OpenSpec.ofChange fnOwedOfSpec)) fnOwedOfCard

/-- THE SECOND FORM's CARD OF 'laws.FnOwedValid'. -/
def fnOwedValidUptoCard : Claim7 := { stood := { row := fnOwedValidUptoRow, standIns := [], harness := (true, "a29d4eb26bb84b627f655b4631cc2efb3da6bba30a94298adbcd782654a110d5"), looks := false }, kinds := [], alts := [], laidByText := true, laidKinds := [.data, .data, .data], laidTests := true, laidLooks := .later }
def FnOwedValidUptoCardSaid : Prop := Claim7.holds Tryd.pinned (.plain (OpenSpec.upto fnOwedValidSpec)) fnOwedValidUptoCard

/-- THE SECOND FORM's CARD OF 'laws.FnSharesValid'. -/
def fnSharesValidUptoCard : Claim7 := { stood := { row := fnSharesValidUptoRow, standIns := [], harness := (true, "a29d4eb26bb84b627f655b4631cc2efb3da6bba30a94298adbcd782654a110d5"), looks := false }, kinds := [], alts := [], laidByText := true, laidKinds := [.data, .data, .data], laidTests := true, laidLooks := .later }
def FnSharesValidUptoCardSaid : Prop := Claim7.holds Tryd.pinned (.plain (OpenSpec.upto fnSharesValidSpec)) fnSharesValidUptoCard

/-- THE SECOND FORM's CARD OF 'laws.FnGroupsMost'. -/
def fnGroupsMostUptoCard : Claim7 := { stood := { row := fnGroupsMostUptoRow, standIns := [], harness := (true, "a29d4eb26bb84b627f655b4631cc2efb3da6bba30a94298adbcd782654a110d5"), looks := false }, kinds := [], alts := [], laidByText := true, laidKinds := [.data, .data, .data], laidTests := true, laidLooks := .later }
def FnGroupsMostUptoCardSaid : Prop := Claim7.holds Tryd.pinned (.plain (OpenSpec.upto fnGroupsMostSpec)) fnGroupsMostUptoCard

/-- THE SECOND FORM's CARD OF 'laws.FnSettleFast'. -/
def fnSettleFastUptoCard : Claim7 := { stood := { row := fnSettleFastUptoRow, standIns := [], harness := (true, "a29d4eb26bb84b627f655b4631cc2efb3da6bba30a94298adbcd782654a110d5"), looks := false }, kinds := [], alts := [], laidByText := true, laidKinds := [.data, .data, .data], laidTests := true, laidLooks := .later }
def FnSettleFastUptoCardSaid : Prop := Claim7.holds Tryd.pinned (.plain (OpenSpec.upto fnSettleFastSpec)) fnSettleFastUptoCard

/-- THE SECOND FORM's CARD OF 'laws.FnPaysOk'. -/
def fnPaysOkUptoCard : Claim7 := { stood := { row := fnPaysOkUptoRow, standIns := [], harness := (true, "a29d4eb26bb84b627f655b4631cc2efb3da6bba30a94298adbcd782654a110d5"), looks := false }, kinds := [], alts := [], laidByText := true, laidKinds := [.data, .data, .data], laidTests := true, laidLooks := .later }
def FnPaysOkUptoCardSaid : Prop := Claim7.holds Tryd.pinned (.plain (OpenSpec.upto fnPaysOkSpec)) fnPaysOkUptoCard

/-- THE SECOND FORM's CARD OF 'laws.FnShareOf'. -/
def fnShareOfUptoCard : Claim7 := { stood := { row := fnShareOfUptoRow, standIns := [], harness := (true, "a29d4eb26bb84b627f655b4631cc2efb3da6bba30a94298adbcd782654a110d5"), looks := false }, kinds := [], alts := [], laidByText := true, laidKinds := [.data, .data, .data], laidTests := true, laidLooks := .later }
def FnShareOfUptoCardSaid : Prop := Claim7.holds Tryd.pinned (.plain (OpenSpec.upto fnShareOfSpec)) fnShareOfUptoCard

/-- THE SECOND FORM's CARD OF 'laws.FnSettleLeast'. -/
def fnSettleLeastUptoCard : Claim7 := { stood := { row := fnSettleLeastUptoRow, standIns := [], harness := (true, "a29d4eb26bb84b627f655b4631cc2efb3da6bba30a94298adbcd782654a110d5"), looks := false }, kinds := [], alts := [], laidByText := true, laidKinds := [.data, .data, .data], laidTests := true, laidLooks := .later }
def FnSettleLeastUptoCardSaid : Prop := Claim7.holds Tryd.pinned (.plain (OpenSpec.upto fnSettleLeastSpec)) fnSettleLeastUptoCard

/-- THE SECOND FORM's CARD OF 'laws.FnSettleBest'. -/
def fnSettleBestUptoCard : Claim7 := { stood := { row := fnSettleBestUptoRow, standIns := [], harness := (true, "a29d4eb26bb84b627f655b4631cc2efb3da6bba30a94298adbcd782654a110d5"), looks := false }, kinds := [], alts := [], laidByText := true, laidKinds := [.data, .data, .data], laidTests := true, laidLooks := .later }
def FnSettleBestUptoCardSaid : Prop := Claim7.holds Tryd.pinned (.plain (OpenSpec.upto fnSettleBestSpec)) fnSettleBestUptoCard

/-- THE SECOND FORM's CARD OF 'laws.FnOwedOf'. -/
def fnOwedOfUptoCard : Claim7 := { stood := { row := fnOwedOfUptoRow, standIns := [], harness := (true, "a29d4eb26bb84b627f655b4631cc2efb3da6bba30a94298adbcd782654a110d5"), looks := false }, kinds := [], alts := [], laidByText := true, laidKinds := [.data, .data, .data], laidTests := true, laidLooks := .later }
def FnOwedOfUptoCardSaid : Prop := Claim7.holds Tryd.pinned (.plain (OpenSpec.upto fnOwedOfSpec)) fnOwedOfUptoCard
end Rows
end Go.Proofs.YtohhaladggoglaaDoor
