/-
  DERIVED. GIVEN WITH THE SEED: THE CARDS: each row of YtidhmbmollkhdaaDoorRows.lean that lists a variable, with what it lists TIED to the program's text (the seventh form; the later family's looks); each row that meets fmt, with fmt's text TOLD by the authors' own Lean function (tested against real Go, not proved from fmt's source: count such statements apart). THE CARD IS WHAT COUNTS. Prove the row's statement (the work); the ties are given (YtidhmbmollkhdaaDoorTie.lean); close each card by the builder's one call (the guide's Derived/Test/ToyasCard.lean, 'card_holds'). Laid BY PROGRAM, IN A SANDBOX (cutbox-door.mjs). By AI agents, Wed Nov 11 2026. No macro, syntax, notation, axiom, sorry.
-/
import Derived.Test.YtidhmbmollkhdaaDoorRows
import GoSem.ClaimSeven
namespace Go.Proofs.YtidhmbmollkhdaaDoor
namespace Rows

/-- THE TIED CARD OF 'laws.FnDishesMany'. -/
def fnDishesManyCard : Claim7 := { stood := { row := fnDishesManyRow, standIns := [], harness := (true, "550cb4fe94d6a27b0cc7aac0c3e4922460158f73c48eb4dd3a0b9070e6ded793"), looks := false }, kinds := [], alts := [], laidByText := true, laidKinds := [.data, .data, .data], laidTests := true, laidLooks := .later }
def FnDishesManyCardSaid : Prop := Claim7.holds Tryd.pinned (.plain (OpenSpec.ofChange fnDishesManySpec)) fnDishesManyCard

/-- THE TIED CARD OF 'laws.FnMenuValid'. -/
def fnMenuValidCard : Claim7 := { stood := { row := fnMenuValidRow, standIns := [], harness := (true, "550cb4fe94d6a27b0cc7aac0c3e4922460158f73c48eb4dd3a0b9070e6ded793"), looks := false }, kinds := [], alts := [], laidByText := true, laidKinds := [.data, .data, .data], laidTests := true, laidLooks := .later }
def FnMenuValidCardSaid : Prop := Claim7.holds Tryd.pinned (.plain (OpenSpec.ofChange fnMenuValidSpec)) fnMenuValidCard

/-- THE TIED CARD OF 'laws.FnQuarrelsValid'. -/
def fnQuarrelsValidCard : Claim7 := { stood := { row := fnQuarrelsValidRow, standIns := [], harness := (true, "550cb4fe94d6a27b0cc7aac0c3e4922460158f73c48eb4dd3a0b9070e6ded793"), looks := false }, kinds := [], alts := [], laidByText := true, laidKinds := [.data, .data, .data], laidTests := true, laidLooks := .later }
def FnQuarrelsValidCardSaid : Prop := Claim7.holds Tryd.pinned (.plain (OpenSpec.ofChange fnQuarrelsValidSpec)) fnQuarrelsValidCard

/-- THE TIED CARD OF 'laws.FnFedBy'. -/
def fnFedByCard : Claim7 := { stood := { row := fnFedByRow, standIns := [], harness := (true, "550cb4fe94d6a27b0cc7aac0c3e4922460158f73c48eb4dd3a0b9070e6ded793"), looks := false }, kinds := [], alts := [], laidByText := true, laidKinds := [.data, .data, .data], laidTests := true, laidLooks := .later }
def FnFedByCardSaid : Prop := Claim7.holds Tryd.pinned (.plain (OpenSpec.ofChange fnFedBySpec)) fnFedByCard

/-- THE TIED CARD OF 'laws.FnSeatsLeast'. -/
def fnSeatsLeastCard : Claim7 := { stood := { row := fnSeatsLeastRow, standIns := [], harness := (true, "550cb4fe94d6a27b0cc7aac0c3e4922460158f73c48eb4dd3a0b9070e6ded793"), looks := false }, kinds := [], alts := [], laidByText := true, laidKinds := [.data, .data, .data], laidTests := true, laidLooks := .later }
def FnSeatsLeastCardSaid : Prop := Claim7.holds Tryd.pinned (.plain (OpenSpec.ofChange fnSeatsLeastSpec)) fnSeatsLeastCard

/-- THE TIED CARD OF 'laws.FnCliqueMost'. -/
def fnCliqueMostCard : Claim7 := { stood := { row := fnCliqueMostRow, standIns := [], harness := (true, "550cb4fe94d6a27b0cc7aac0c3e4922460158f73c48eb4dd3a0b9070e6ded793"), looks := false }, kinds := [], alts := [], laidByText := true, laidKinds := [.data, .data, .data], laidTests := true, laidLooks := .later }
def FnCliqueMostCardSaid : Prop := Claim7.holds Tryd.pinned (.plain (OpenSpec.ofChange fnCliqueMostSpec)) fnCliqueMostCard

/-- THE TIED CARD OF 'laws.FnDishesLeast'. -/
def fnDishesLeastCard : Claim7 := { stood := { row := fnDishesLeastRow, standIns := [], harness := (true, "550cb4fe94d6a27b0cc7aac0c3e4922460158f73c48eb4dd3a0b9070e6ded793"), looks := false }, kinds := [], alts := [], laidByText := true, laidKinds := [.data, .data, .data], laidTests := true, laidLooks := .later }
def FnDishesLeastCardSaid : Prop := Claim7.holds Tryd.pinned (.plain (OpenSpec.ofChange fnDishesLeastSpec)) fnDishesLeastCard

/-- THE TIED CARD OF 'laws.FnApartValid'. -/
def fnApartValidCard : Claim7 := { stood := { row := fnApartValidRow, standIns := [], harness := (true, "550cb4fe94d6a27b0cc7aac0c3e4922460158f73c48eb4dd3a0b9070e6ded793"), looks := false }, kinds := [], alts := [], laidByText := true, laidKinds := [.data, .data, .data], laidTests := true, laidLooks := .later }
def FnApartValidCardSaid : Prop := Claim7.holds Tryd.pinned (.plain (OpenSpec.ofChange fnApartValidSpec)) fnApartValidCard

/-- THE TIED CARD OF 'laws.FnFeedsAll'. -/
def fnFeedsAllCard : Claim7 := { stood := { row := fnFeedsAllRow, standIns := [], harness := (true, "550cb4fe94d6a27b0cc7aac0c3e4922460158f73c48eb4dd3a0b9070e6ded793"), looks := false }, kinds := [], alts := [], laidByText := true, laidKinds := [.data, .data, .data], laidTests := true, laidLooks := .later }
def FnFeedsAllCardSaid : Prop := Claim7.holds Tryd.pinned (.plain (OpenSpec.ofChange fnFeedsAllSpec)) fnFeedsAllCard

/-- THE TIED CARD OF 'laws.FnDishesGreedy'. -/
def fnDishesGreedyCard : Claim7 := { stood := { row := fnDishesGreedyRow, standIns := [], harness := (true, "550cb4fe94d6a27b0cc7aac0c3e4922460158f73c48eb4dd3a0b9070e6ded793"), looks := false }, kinds := [], alts := [], laidByText := true, laidKinds := [.data, .data, .data], laidTests := true, laidLooks := .later }
def FnDishesGreedyCardSaid : Prop := Claim7.holds Tryd.pinned (.plain (OpenSpec.ofChange fnDishesGreedySpec)) fnDishesGreedyCard

/-- THE TIED CARD OF 'laws.FnApartMost'. -/
def fnApartMostCard : Claim7 := { stood := { row := fnApartMostRow, standIns := [], harness := (true, "550cb4fe94d6a27b0cc7aac0c3e4922460158f73c48eb4dd3a0b9070e6ded793"), looks := false }, kinds := [], alts := [], laidByText := true, laidKinds := [.data, .data, .data], laidTests := true, laidLooks := .later }
def FnApartMostCardSaid : Prop := Claim7.holds Tryd.pinned (.plain (OpenSpec.ofChange fnApartMostSpec)) fnApartMostCard

/-- THE TIED CARD OF 'laws.FnSeatsMany'. -/
def fnSeatsManyCard : Claim7 := { stood := { row := fnSeatsManyRow, standIns := [], harness := (true, "550cb4fe94d6a27b0cc7aac0c3e4922460158f73c48eb4dd3a0b9070e6ded793"), looks := false }, kinds := [], alts := [], laidByText := true, laidKinds := [.data, .data, .data], laidTests := true, laidLooks := .later }
def FnSeatsManyCardSaid : Prop := Claim7.holds Tryd.pinned (.plain (OpenSpec.ofChange fnSeatsManySpec)) fnSeatsManyCard

/-- THE TIED CARD OF 'laws.FnSeatsFirst'. -/
def fnSeatsFirstCard : Claim7 := { stood := { row := fnSeatsFirstRow, standIns := [], harness := (true, "550cb4fe94d6a27b0cc7aac0c3e4922460158f73c48eb4dd3a0b9070e6ded793"), looks := false }, kinds := [], alts := [], laidByText := true, laidKinds := [.data, .data, .data], laidTests := true, laidLooks := .later }
def FnSeatsFirstCardSaid : Prop := Claim7.holds Tryd.pinned (.plain (OpenSpec.ofChange fnSeatsFirstSpec)) fnSeatsFirstCard

/-- THE TIED CARD OF 'laws.FnSeatsOk'. -/
def fnSeatsOkCard : Claim7 := { stood := { row := fnSeatsOkRow, standIns := [], harness := (true, "550cb4fe94d6a27b0cc7aac0c3e4922460158f73c48eb4dd3a0b9070e6ded793"), looks := false }, kinds := [], alts := [], laidByText := true, laidKinds := [.data, .data, .data], laidTests := true, laidLooks := .later }
def FnSeatsOkCardSaid : Prop := Claim7.holds Tryd.pinned (.plain (OpenSpec.ofChange fnSeatsOkSpec)) fnSeatsOkCard

/-- THE SECOND FORM's CARD OF 'laws.FnDishesMany'. -/
def fnDishesManyUptoCard : Claim7 := { stood := { row := fnDishesManyUptoRow, standIns := [], harness := (true, "550cb4fe94d6a27b0cc7aac0c3e4922460158f73c48eb4dd3a0b9070e6ded793"), looks := false }, kinds := [], alts := [], laidByText := true, laidKinds := [.data, .data, .data], laidTests := true, laidLooks := .later }
def FnDishesManyUptoCardSaid : Prop := Claim7.holds Tryd.pinned (.plain (OpenSpec.upto fnDishesManySpec)) fnDishesManyUptoCard

/-- THE SECOND FORM's CARD OF 'laws.FnMenuValid'. -/
def fnMenuValidUptoCard : Claim7 := { stood := { row := fnMenuValidUptoRow, standIns := [], harness := (true, "550cb4fe94d6a27b0cc7aac0c3e4922460158f73c48eb4dd3a0b9070e6ded793"), looks := false }, kinds := [], alts := [], laidByText := true, laidKinds := [.data, .data, .data], laidTests := true, laidLooks := .later }
def FnMenuValidUptoCardSaid : Prop := Claim7.holds Tryd.pinned (.plain (OpenSpec.upto fnMenuValidSpec)) fnMenuValidUptoCard

/-- THE SECOND FORM's CARD OF 'laws.FnQuarrelsValid'. -/
def fnQuarrelsValidUptoCard : Claim7 := { stood := { row := fnQuarrelsValidUptoRow, standIns := [], harness := (true, "550cb4fe94d6a27b0cc7aac0c3e4922460158f73c48eb4dd3a0b9070e6ded793"), looks := false }, kinds := [], alts := [], laidByText := true, laidKinds := [.data, .data, .data], laidTests := true, laidLooks := .later }
def FnQuarrelsValidUptoCardSaid : Prop := Claim7.holds Tryd.pinned (.plain (OpenSpec.upto fnQuarrelsValidSpec)) fnQuarrelsValidUptoCard

/-- THE SECOND FORM's CARD OF 'laws.FnFedBy'. -/
def fnFedByUptoCard : Claim7 := { stood := { row := fnFedByUptoRow, standIns := [], harness := (true, "550cb4fe94d6a27b0cc7aac0c3e4922460158f73c48eb4dd3a0b9070e6ded793"), looks := false }, kinds := [], alts := [], laidByText := true, laidKinds := [.data, .data, .data], laidTests := true, laidLooks := .later }
def FnFedByUptoCardSaid : Prop := Claim7.holds Tryd.pinned (.plain (OpenSpec.upto fnFedBySpec)) fnFedByUptoCard

/-- THE SECOND FORM's CARD OF 'laws.FnSeatsLeast'. -/
def fnSeatsLeastUptoCard : Claim7 := { stood := { row := fnSeatsLeastUptoRow, standIns := [], harness := (true, "550cb4fe94d6a27b0cc7aac0c3e4922460158f73c48eb4dd3a0b9070e6ded793"), looks := false }, kinds := [], alts := [], laidByText := true, laidKinds := [.data, .data, .data], laidTests := true, laidLooks := .later }
def FnSeatsLeastUptoCardSaid : Prop := Claim7.holds Tryd.pinned (.plain (OpenSpec.upto fnSeatsLeastSpec)) fnSeatsLeastUptoCard

/-- THE SECOND FORM's CARD OF 'laws.FnCliqueMost'. -/
def fnCliqueMostUptoCard : Claim7 := { stood := { row := fnCliqueMostUptoRow, standIns := [], harness := (true, "550cb4fe94d6a27b0cc7aac0c3e4922460158f73c48eb4dd3a0b9070e6ded793"), looks := false }, kinds := [], alts := [], laidByText := true, laidKinds := [.data, .data, .data], laidTests := true, laidLooks := .later }
def FnCliqueMostUptoCardSaid : Prop := Claim7.holds Tryd.pinned (.plain (OpenSpec.upto fnCliqueMostSpec)) fnCliqueMostUptoCard

/-- THE SECOND FORM's CARD OF 'laws.FnDishesLeast'. -/
def fnDishesLeastUptoCard : Claim7 := { stood := { row := fnDishesLeastUptoRow, standIns := [], harness := (true, "550cb4fe94d6a27b0cc7aac0c3e4922460158f73c48eb4dd3a0b9070e6ded793"), looks := false }, kinds := [], alts := [], laidByText := true, laidKinds := [.data, .data, .data], laidTests := true, laidLooks := .later }
def FnDishesLeastUptoCardSaid : Prop := Claim7.holds Tryd.pinned (.plain (OpenSpec.upto fnDishesLeastSpec)) fnDishesLeastUptoCard

/-- THE SECOND FORM's CARD OF 'laws.FnApartValid'. -/
def fnApartValidUptoCard : Claim7 := { stood := { row := fnApartValidUptoRow, standIns := [], harness := (true, "550cb4fe94d6a27b0cc7aac0c3e4922460158f73c48eb4dd3a0b9070e6ded793"), looks := false }, kinds := [], alts := [], laidByText := true, laidKinds := [.data, .data, .data], laidTests := true, laidLooks := .later }
def FnApartValidUptoCardSaid : Prop := Claim7.holds Tryd.pinned (.plain (OpenSpec.upto fnApartValidSpec)) fnApartValidUptoCard

/-- THE SECOND FORM's CARD OF 'laws.FnFeedsAll'. -/
def fnFeedsAllUptoCard : Claim7 := { stood := { row := fnFeedsAllUptoRow, standIns := [], harness := (true, "550cb4fe94d6a27b0cc7aac0c3e4922460158f73c48eb4dd3a0b9070e6ded793"), looks := false }, kinds := [], alts := [], laidByText := true, laidKinds := [.data, .data, .data], laidTests := true, laidLooks := .later }
def FnFeedsAllUptoCardSaid : Prop := Claim7.holds Tryd.pinned (.plain (OpenSpec.upto fnFeedsAllSpec)) fnFeedsAllUptoCard

/-- THE SECOND FORM's CARD OF 'laws.FnDishesGreedy'. -/
def fnDishesGreedyUptoCard : Claim7 := { stood := { row := fnDishesGreedyUptoRow, standIns := [], harness := (true, "550cb4fe94d6a27b0cc7aac0c3e4922460158f73c48eb4dd3a0b9070e6ded793"), looks := false }, kinds := [], alts := [], laidByText := true, laidKinds := [.data, .data, .data], laidTests := true, laidLooks := .later }
def FnDishesGreedyUptoCardSaid : Prop := Claim7.holds Tryd.pinned (.plain (OpenSpec.upto fnDishesGreedySpec)) fnDishesGreedyUptoCard

/-- THE SECOND FORM's CARD OF 'laws.FnApartMost'. -/
def fnApartMostUptoCard : Claim7 := { stood := { row := fnApartMostUptoRow, standIns := [], harness := (true, "550cb4fe94d6a27b0cc7aac0c3e4922460158f73c48eb4dd3a0b9070e6ded793"), looks := false }, kinds := [], alts := [], laidByText := true, laidKinds := [.data, .data, .data], laidTests := true, laidLooks := .later }
def FnApartMostUptoCardSaid : Prop := Claim7.holds Tryd.pinned (.plain (OpenSpec.upto fnApartMostSpec)) fnApartMostUptoCard

/-- THE SECOND FORM's CARD OF 'laws.FnSeatsMany'. -/
def fnSeatsManyUptoCard : Claim7 := { stood := { row := fnSeatsManyUptoRow, standIns := [], harness := (true, "550cb4fe94d6a27b0cc7aac0c3e4922460158f73c48eb4dd3a0b9070e6ded793"), looks := false }, kinds := [], alts := [], laidByText := true, laidKinds := [.data, .data, .data], laidTests := true, laidLooks := .later }
def FnSeatsManyUptoCardSaid : Prop := Claim7.holds Tryd.pinned (.plain (OpenSpec.upto fnSeatsManySpec)) fnSeatsManyUptoCard

/-- THE SECOND FORM's CARD OF 'laws.FnSeatsFirst'. -/
def fnSeatsFirstUptoCard : Claim7 := { stood := { row := fnSeatsFirstUptoRow, standIns := [], harness := (true, "550cb4fe94d6a27b0cc7aac0c3e4922460158f73c48eb4dd3a0b9070e6ded793"), looks := false }, kinds := [], alts := [], laidByText := true, laidKinds := [.data, .data, .data], laidTests := true, laidLooks := .later }
def FnSeatsFirstUptoCardSaid : Prop := Claim7.holds Tryd.pinned (.plain (OpenSpec.upto fnSeatsFirstSpec)) fnSeatsFirstUptoCard

/-- THE SECOND FORM's CARD OF 'laws.FnSeatsOk'. -/
def fnSeatsOkUptoCard : Claim7 := { stood := { row := fnSeatsOkUptoRow, standIns := [], harness := (true, "550cb4fe94d6a27b0cc7aac0c3e4922460158f73c48eb4dd3a0b9070e6ded793"), looks := false }, kinds := [], alts := [], laidByText := true, laidKinds := [.data, .data, .data], laidTests := true, laidLooks := .later }
def FnSeatsOkUptoCardSaid : Prop := Claim7.holds Tryd.pinned (.plain (OpenSpec.upto fnSeatsOkSpec)) fnSeatsOkUptoCard
end Rows
end Go.Proofs.YtidhmbmollkhdaaDoor
