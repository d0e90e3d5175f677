/-
  DERIVED. GIVEN WITH THE SEED: THE CARDS: each row of YtbefoehadfnkbaaGreatDoorRows.lean that lists a variable, with what it lists TIED to the program's text (the seventh form; the later family's looks); each row that meets fmt, with fmt's text TOLD by the authors' own Lean function (tested against real Go, not proved from fmt's source: count such statements apart). THE CARD IS WHAT COUNTS. Prove the row's statement (the work); the ties are given (YtbefoehadfnkbaaGreatDoorTie.lean); close each card by the builder's one call (the guide's Derived/Test/ToyasCard.lean, 'card_holds'). Laid BY PROGRAM, IN A SANDBOX (cutbox-door.mjs). By AI agents, Wed Nov 11 2026. No macro, syntax, notation, axiom, sorry.
-/
import Derived.Test.YtbefoehadfnkbaaGreatDoorRows
import GoSem.ClaimSeven
namespace Go.Proofs.YtbefoehadfnkbaaGreatDoor
namespace Rows

/-- THE TIED CARD OF 'tellurionlaw10.JourneymanWheels'. -/
def journeymanWheelsCard : Claim7 := { stood := { row := journeymanWheelsRow, standIns := [], harness := (true, "10916d6a50da4de06cf201e97dea62fb560b1855d457058128e996c1b79409dd"), looks := true }, kinds := [], alts := [], laidByText := true, laidKinds := [.data, .data, .data, .data, .pinned], laidTests := true, laidLooks := .later }
def JourneymanWheelsCardSaid : Prop := Claim7.holds Tryz.pinned (.plain (OpenSpec.ofChange journeymanWheelsSpec)) journeymanWheelsCard

/-- THE TIED CARD OF 'tellurionlaw10.JourneymanRates'. -/
def journeymanRatesCard : Claim7 := { stood := { row := journeymanRatesRow, standIns := [], harness := (true, "10916d6a50da4de06cf201e97dea62fb560b1855d457058128e996c1b79409dd"), looks := true }, kinds := [], alts := [], laidByText := true, laidKinds := [.data, .data, .data, .data, .pinned], laidTests := true, laidLooks := .later }
def JourneymanRatesCardSaid : Prop := Claim7.holds Tryz.pinned (.plain (OpenSpec.ofChange journeymanRatesSpec)) journeymanRatesCard

/-- THE TIED CARD OF 'tellurionlaw10.JourneymanPaid'. -/
def journeymanPaidCard : Claim7 := { stood := { row := journeymanPaidRow, standIns := [], harness := (true, "10916d6a50da4de06cf201e97dea62fb560b1855d457058128e996c1b79409dd"), looks := true }, kinds := [], alts := [], laidByText := true, laidKinds := [.data, .data, .data, .data, .pinned], laidTests := true, laidLooks := .later }
def JourneymanPaidCardSaid : Prop := Claim7.holds Tryz.pinned (.plain (OpenSpec.ofChange journeymanPaidSpec)) journeymanPaidCard

/-- THE TIED CARD OF 'tellurionlaw10.JourneymanDays'. -/
def journeymanDaysCard : Claim7 := { stood := { row := journeymanDaysRow, standIns := [], harness := (true, "10916d6a50da4de06cf201e97dea62fb560b1855d457058128e996c1b79409dd"), looks := true }, kinds := [], alts := [], laidByText := true, laidKinds := [.data, .data, .data, .data, .pinned], laidTests := true, laidLooks := .later }
def JourneymanDaysCardSaid : Prop := Claim7.holds Tryz.pinned (.plain (OpenSpec.ofChange journeymanDaysSpec)) journeymanDaysCard

/-- THE TIED CARD OF 'tellurionlaw10.JourneymanStrikes'. -/
def journeymanStrikesCard : Claim7 := { stood := { row := journeymanStrikesRow, standIns := [], harness := (true, "10916d6a50da4de06cf201e97dea62fb560b1855d457058128e996c1b79409dd"), looks := true }, kinds := [], alts := [], laidByText := true, laidKinds := [.data, .data, .data, .data, .pinned], laidTests := true, laidLooks := .later }
def JourneymanStrikesCardSaid : Prop := Claim7.holds Tryz.pinned (.plain (OpenSpec.ofChange journeymanStrikesSpec)) journeymanStrikesCard

/-- THE TIED CARD OF 'tellurionlaw10.JourneymanConsoles'. -/
def journeymanConsolesCard : Claim7 := { stood := { row := journeymanConsolesRow, standIns := [], harness := (true, "10916d6a50da4de06cf201e97dea62fb560b1855d457058128e996c1b79409dd"), looks := true }, kinds := [], alts := [], laidByText := true, laidKinds := [.data, .data, .data, .data, .pinned], laidTests := true, laidLooks := .later }
def JourneymanConsolesCardSaid : Prop := Claim7.holds Tryz.pinned (.plain (OpenSpec.ofChange journeymanConsolesSpec)) journeymanConsolesCard

/-- THE TIED CARD OF 'tellurionlaw10.JourneymanLines'. -/
def journeymanLinesCard : Claim7 := { stood := { row := journeymanLinesRow, standIns := [], harness := (true, "10916d6a50da4de06cf201e97dea62fb560b1855d457058128e996c1b79409dd"), looks := true }, kinds := [], alts := [], laidByText := true, laidKinds := [.data, .data, .data, .data, .pinned], laidTests := true, laidLooks := .later }
def JourneymanLinesCardSaid : Prop := Claim7.holds Tryz.pinned (.plain (OpenSpec.ofChange journeymanLinesSpec)) journeymanLinesCard

/-- THE TIED CARD OF 'tellurionlaw10.JourneymanParses'. -/
def journeymanParsesCard : Claim7 := { stood := { row := journeymanParsesRow, standIns := [], harness := (true, "10916d6a50da4de06cf201e97dea62fb560b1855d457058128e996c1b79409dd"), looks := true }, kinds := [], alts := [], laidByText := true, laidKinds := [.data, .data, .data, .data, .pinned], laidTests := true, laidLooks := .later }
def JourneymanParsesCardSaid : Prop := Claim7.holds Tryz.pinned (.plain (OpenSpec.ofChange journeymanParsesSpec)) journeymanParsesCard

/-- THE TIED CARD OF 'tellurionlaw10.JourneymanNil'. -/
def journeymanNilCard : Claim7 := { stood := { row := journeymanNilRow, standIns := [], harness := (true, "10916d6a50da4de06cf201e97dea62fb560b1855d457058128e996c1b79409dd"), looks := true }, kinds := [], alts := [], laidByText := true, laidKinds := [.data, .data, .data, .data, .pinned], laidTests := true, laidLooks := .later }
def JourneymanNilCardSaid : Prop := Claim7.holds Tryz.pinned (.plain (OpenSpec.ofChange journeymanNilSpec)) journeymanNilCard

/-- THE TIED CARD OF 'tellurionlaw10.JourneymanRefuses'. -/
def journeymanRefusesCard : Claim7 := { stood := { row := journeymanRefusesRow, standIns := [], harness := (true, "10916d6a50da4de06cf201e97dea62fb560b1855d457058128e996c1b79409dd"), looks := true }, kinds := [], alts := [], laidByText := true, laidKinds := [.data, .data, .data, .data, .pinned], laidTests := true, laidLooks := .later }
def JourneymanRefusesCardSaid : Prop := Claim7.holds Tryz.pinned (.plain (OpenSpec.ofChange journeymanRefusesSpec)) journeymanRefusesCard

/-- THE TIED CARD OF 'tellurionlaw10.JourneymanCopies'. -/
def journeymanCopiesCard : Claim7 := { stood := { row := journeymanCopiesRow, standIns := [], harness := (true, "10916d6a50da4de06cf201e97dea62fb560b1855d457058128e996c1b79409dd"), looks := true }, kinds := [], alts := [], laidByText := true, laidKinds := [.data, .data, .data, .data, .pinned], laidTests := true, laidLooks := .later }
def JourneymanCopiesCardSaid : Prop := Claim7.holds Tryz.pinned (.plain (OpenSpec.ofChange journeymanCopiesSpec)) journeymanCopiesCard

/-- THE TIED CARD OF 'tellurionlaw10.JourneymanEnters'. -/
def journeymanEntersCard : Claim7 := { stood := { row := journeymanEntersRow, standIns := [], harness := (true, "10916d6a50da4de06cf201e97dea62fb560b1855d457058128e996c1b79409dd"), looks := true }, kinds := [], alts := [], laidByText := true, laidKinds := [.data, .data, .data, .data, .pinned], laidTests := true, laidLooks := .later }
def JourneymanEntersCardSaid : Prop := Claim7.holds Tryz.pinned (.plain (OpenSpec.ofChange journeymanEntersSpec)) journeymanEntersCard

/-- THE TIED CARD OF 'tellurionlaw10.JourneymanReplays'. -/
def journeymanReplaysCard : Claim7 := { stood := { row := journeymanReplaysRow, standIns := [], harness := (true, "10916d6a50da4de06cf201e97dea62fb560b1855d457058128e996c1b79409dd"), looks := true }, kinds := [], alts := [], laidByText := true, laidKinds := [.data, .data, .data, .data, .pinned], laidTests := true, laidLooks := .later }
def JourneymanReplaysCardSaid : Prop := Claim7.holds Tryz.pinned (.plain (OpenSpec.ofChange journeymanReplaysSpec)) journeymanReplaysCard

/-- THE TIED CARD OF 'tellurionlaw10.JourneymanAgain'. -/
def journeymanAgainCard : Claim7 := { stood := { row := journeymanAgainRow, standIns := [], harness := (true, "10916d6a50da4de06cf201e97dea62fb560b1855d457058128e996c1b79409dd"), looks := true }, kinds := [], alts := [], laidByText := true, laidKinds := [.data, .data, .data, .data, .pinned], laidTests := true, laidLooks := .later }
def JourneymanAgainCardSaid : Prop := Claim7.holds Tryz.pinned (.plain (OpenSpec.ofChange journeymanAgainSpec)) journeymanAgainCard

/-- THE SECOND FORM's CARD OF 'tellurionlaw10.JourneymanWheels'. -/
def journeymanWheelsUptoCard : Claim7 := { stood := { row := journeymanWheelsUptoRow, standIns := [], harness := (true, "10916d6a50da4de06cf201e97dea62fb560b1855d457058128e996c1b79409dd"), looks := true }, kinds := [], alts := [], laidByText := true, laidKinds := [.data, .data, .data, .data, .pinned], laidTests := true, laidLooks := .later }
def JourneymanWheelsUptoCardSaid : Prop := Claim7.holds Tryz.pinned (.plain (OpenSpec.upto journeymanWheelsSpec)) journeymanWheelsUptoCard

/-- THE SECOND FORM's CARD OF 'tellurionlaw10.JourneymanRates'. -/
def journeymanRatesUptoCard : Claim7 := { stood := { row := journeymanRatesUptoRow, standIns := [], harness := (true, "10916d6a50da4de06cf201e97dea62fb560b1855d457058128e996c1b79409dd"), looks := true }, kinds := [], alts := [], laidByText := true, laidKinds := [.data, .data, .data, .data, .pinned], laidTests := true, laidLooks := .later }
def JourneymanRatesUptoCardSaid : Prop := Claim7.holds Tryz.pinned (.plain (OpenSpec.upto journeymanRatesSpec)) journeymanRatesUptoCard

/-- THE SECOND FORM's CARD OF 'tellurionlaw10.JourneymanPaid'. -/
def journeymanPaidUptoCard : Claim7 := { stood := { row := journeymanPaidUptoRow, standIns := [], harness := (true, "10916d6a50da4de06cf201e97dea62fb560b1855d457058128e996c1b79409dd"), looks := true }, kinds := [], alts := [], laidByText := true, laidKinds := [.data, .data, .data, .data, .pinned], laidTests := true, laidLooks := .later }
def JourneymanPaidUptoCardSaid : Prop := Claim7.holds Tryz.pinned (.plain (OpenSpec.upto journeymanPaidSpec)) journeymanPaidUptoCard

/-- THE SECOND FORM's CARD OF 'tellurionlaw10.JourneymanDays'. -/
def journeymanDaysUptoCard : Claim7 := { stood := { row := journeymanDaysUptoRow, standIns := [], harness := (true, "10916d6a50da4de06cf201e97dea62fb560b1855d457058128e996c1b79409dd"), looks := true }, kinds := [], alts := [], laidByText := true, laidKinds := [.data, .data, .data, .data, .pinned], laidTests := true, laidLooks := .later }
def JourneymanDaysUptoCardSaid : Prop := Claim7.holds Tryz.pinned (.plain (OpenSpec.upto journeymanDaysSpec)) journeymanDaysUptoCard

/-- THE SECOND FORM's CARD OF 'tellurionlaw10.JourneymanStrikes'. -/
def journeymanStrikesUptoCard : Claim7 := { stood := { row := journeymanStrikesUptoRow, standIns := [], harness := (true, "10916d6a50da4de06cf201e97dea62fb560b1855d457058128e996c1b79409dd"), looks := true }, kinds := [], alts := [], laidByText := true, laidKinds := [.data, .data, .data, .data, .pinned], laidTests := true, laidLooks := .later }
def JourneymanStrikesUptoCardSaid : Prop := Claim7.holds Tryz.pinned (.plain (OpenSpec.upto journeymanStrikesSpec)) journeymanStrikesUptoCard

/-- THE SECOND FORM's CARD OF 'tellurionlaw10.JourneymanConsoles'. -/
def journeymanConsolesUptoCard : Claim7 := { stood := { row := journeymanConsolesUptoRow, standIns := [], harness := (true, "10916d6a50da4de06cf201e97dea62fb560b1855d457058128e996c1b79409dd"), looks := true }, kinds := [], alts := [], laidByText := true, laidKinds := [.data, .data, .data, .data, .pinned], laidTests := true, laidLooks := .later }
def JourneymanConsolesUptoCardSaid : Prop := Claim7.holds Tryz.pinned (.plain (OpenSpec.upto journeymanConsolesSpec)) journeymanConsolesUptoCard

/-- THE SECOND FORM's CARD OF 'tellurionlaw10.JourneymanLines'. -/
def journeymanLinesUptoCard : Claim7 := { stood := { row := journeymanLinesUptoRow, standIns := [], harness := (true, "10916d6a50da4de06cf201e97dea62fb560b1855d457058128e996c1b79409dd"), looks := true }, kinds := [], alts := [], laidByText := true, laidKinds := [.data, .data, .data, .data, .pinned], laidTests := true, laidLooks := .later }
def JourneymanLinesUptoCardSaid : Prop := Claim7.holds Tryz.pinned (.plain (OpenSpec.upto journeymanLinesSpec)) journeymanLinesUptoCard

/-- THE SECOND FORM's CARD OF 'tellurionlaw10.JourneymanParses'. -/
def journeymanParsesUptoCard : Claim7 := { stood := { row := journeymanParsesUptoRow, standIns := [], harness := (true, "10916d6a50da4de06cf201e97dea62fb560b1855d457058128e996c1b79409dd"), looks := true }, kinds := [], alts := [], laidByText := true, laidKinds := [.data, .data, .data, .data, .pinned], laidTests := true, laidLooks := .later }
def JourneymanParsesUptoCardSaid : Prop := Claim7.holds Tryz.pinned (.plain (OpenSpec.upto journeymanParsesSpec)) journeymanParsesUptoCard

/-- THE SECOND FORM's CARD OF 'tellurionlaw10.JourneymanNil'. -/
def journeymanNilUptoCard : Claim7 := { stood := { row := journeymanNilUptoRow, standIns := [], harness := (true, "10916d6a50da4de06cf201e97dea62fb560b1855d457058128e996c1b79409dd"), looks := true }, kinds := [], alts := [], laidByText := true, laidKinds := [.data, .data, .data, .data, .pinned], laidTests := true, laidLooks := .later }
def JourneymanNilUptoCardSaid : Prop := Claim7.holds Tryz.pinned (.plain (OpenSpec.upto journeymanNilSpec)) journeymanNilUptoCard

/-- THE SECOND FORM's CARD OF 'tellurionlaw10.JourneymanRefuses'. -/
def journeymanRefusesUptoCard : Claim7 := { stood := { row := journeymanRefusesUptoRow, standIns := [], harness := (true, "10916d6a50da4de06cf201e97dea62fb560b1855d457058128e996c1b79409dd"), looks := true }, kinds := [], alts := [], laidByText := true, laidKinds := [.data, .data, .data, .data, .pinned], laidTests := true, laidLooks := .later }
def JourneymanRefusesUptoCardSaid : Prop := Claim7.holds Tryz.pinned (.plain (OpenSpec.upto journeymanRefusesSpec)) journeymanRefusesUptoCard

/-- THE SECOND FORM's CARD OF 'tellurionlaw10.JourneymanCopies'. -/
def journeymanCopiesUptoCard : Claim7 := { stood := { row := journeymanCopiesUptoRow, standIns := [], harness := (true, "10916d6a50da4de06cf201e97dea62fb560b1855d457058128e996c1b79409dd"), looks := true }, kinds := [], alts := [], laidByText := true, laidKinds := [.data, .data, .data, .data, .pinned], laidTests := true, laidLooks := .later }
def JourneymanCopiesUptoCardSaid : Prop := Claim7.holds Tryz.pinned (.plain (OpenSpec.upto journeymanCopiesSpec)) journeymanCopiesUptoCard

/-- THE SECOND FORM's CARD OF 'tellurionlaw10.JourneymanEnters'. -/
def journeymanEntersUptoCard : Claim7 := { stood := { row := journeymanEntersUptoRow, standIns := [], harness := (true, "10916d6a50da4de06cf201e97dea62fb560b1855d457058128e996c1b79409dd"), looks := true }, kinds := [], alts := [], laidByText := true, laidKinds := [.data, .data, .data, .data, .pinned], laidTests := true, laidLooks := .later }
def JourneymanEntersUptoCardSaid : Prop := Claim7.holds Tryz.pinned (.plain (OpenSpec.upto journeymanEntersSpec)) journeymanEntersUptoCard

/-- THE SECOND FORM's CARD OF 'tellurionlaw10.JourneymanReplays'. -/
def journeymanReplaysUptoCard : Claim7 := { stood := { row := journeymanReplaysUptoRow, standIns := [], harness := (true, "10916d6a50da4de06cf201e97dea62fb560b1855d457058128e996c1b79409dd"), looks := true }, kinds := [], alts := [], laidByText := true, laidKinds := [.data, .data, .data, .data, .pinned], laidTests := true, laidLooks := .later }
def JourneymanReplaysUptoCardSaid : Prop := Claim7.holds Tryz.pinned (.plain (OpenSpec.upto journeymanReplaysSpec)) journeymanReplaysUptoCard

/-- THE SECOND FORM's CARD OF 'tellurionlaw10.JourneymanAgain'. -/
def journeymanAgainUptoCard : Claim7 := { stood := { row := journeymanAgainUptoRow, standIns := [], harness := (true, "10916d6a50da4de06cf201e97dea62fb560b1855d457058128e996c1b79409dd"), looks := true }, kinds := [], alts := [], laidByText := true, laidKinds := [.data, .data, .data, .data, .pinned], laidTests := true, laidLooks := .later }
def JourneymanAgainUptoCardSaid : Prop := Claim7.holds Tryz.pinned (.plain (OpenSpec.upto journeymanAgainSpec)) journeymanAgainUptoCard
end Rows
end Go.Proofs.YtbefoehadfnkbaaGreatDoor
