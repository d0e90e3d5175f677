/-
  DERIVED. GIVEN WITH THE SEED: THE CARDS: each row of YticjmjdcggomgaaGreatDoorRows.lean that lists a variable, with what it lists TIED to the program's text (the seventh form; the later family's looks); each row that meets fmt, with fmt's text TOLD by the authors' own Lean function (tested against real Go, not proved from fmt's source: count such statements apart). THE CARD IS WHAT COUNTS. Prove the row's statement (the work); the ties are given (YticjmjdcggomgaaGreatDoorTie.lean); close each card by the builder's one call (the guide's Derived/Test/ToyasCard.lean, 'card_holds'). Laid BY PROGRAM, IN A SANDBOX (cutbox-door.mjs). By AI agents, Wed Nov 11 2026. No macro, syntax, notation, axiom, sorry.
-/
import Derived.Test.YticjmjdcggomgaaGreatDoorRows
import GoSem.ClaimSeven
namespace Go.Proofs.YticjmjdcggomgaaGreatDoor
namespace Rows

/-- THE TIED CARD OF 'tellurionlaw02.PlateRatios'. -/
def plateRatiosCard : Claim7 := { stood := { row := plateRatiosRow, standIns := [], harness := (true, "2e9d653d22b11ebd3834900b8ce7bdad775251e5f3a44458fc3bf31d9359df28"), looks := true }, kinds := [], alts := [], laidByText := true, laidKinds := [.data, .data, .data, .data, .pinned], laidTests := true, laidLooks := .later }
def PlateRatiosCardSaid : Prop := Claim7.holds Tryz.pinned (.plain (OpenSpec.ofChange plateRatiosSpec)) plateRatiosCard

/-- THE TIED CARD OF 'tellurionlaw02.PlateTurned'. -/
def plateTurnedCard : Claim7 := { stood := { row := plateTurnedRow, standIns := [], harness := (true, "2e9d653d22b11ebd3834900b8ce7bdad775251e5f3a44458fc3bf31d9359df28"), looks := true }, kinds := [], alts := [], laidByText := true, laidKinds := [.data, .data, .data, .data, .pinned], laidTests := true, laidLooks := .later }
def PlateTurnedCardSaid : Prop := Claim7.holds Tryz.pinned (.plain (OpenSpec.ofChange plateTurnedSpec)) plateTurnedCard

/-- THE TIED CARD OF 'tellurionlaw02.PlateLayers'. -/
def plateLayersCard : Claim7 := { stood := { row := plateLayersRow, standIns := [], harness := (true, "2e9d653d22b11ebd3834900b8ce7bdad775251e5f3a44458fc3bf31d9359df28"), looks := true }, kinds := [], alts := [], laidByText := true, laidKinds := [.data, .data, .data, .data, .pinned], laidTests := true, laidLooks := .later }
def PlateLayersCardSaid : Prop := Claim7.holds Tryz.pinned (.plain (OpenSpec.ofChange plateLayersSpec)) plateLayersCard

/-- THE TIED CARD OF 'tellurionlaw02.PlateMoved'. -/
def plateMovedCard : Claim7 := { stood := { row := plateMovedRow, standIns := [], harness := (true, "2e9d653d22b11ebd3834900b8ce7bdad775251e5f3a44458fc3bf31d9359df28"), looks := true }, kinds := [], alts := [], laidByText := true, laidKinds := [.data, .data, .data, .data, .pinned], laidTests := true, laidLooks := .later }
def PlateMovedCardSaid : Prop := Claim7.holds Tryz.pinned (.plain (OpenSpec.ofChange plateMovedSpec)) plateMovedCard

/-- THE TIED CARD OF 'tellurionlaw02.PlateLaid'. -/
def plateLaidCard : Claim7 := { stood := { row := plateLaidRow, standIns := [], harness := (true, "2e9d653d22b11ebd3834900b8ce7bdad775251e5f3a44458fc3bf31d9359df28"), looks := true }, kinds := [], alts := [], laidByText := true, laidKinds := [.data, .data, .data, .data, .pinned], laidTests := true, laidLooks := .later }
def PlateLaidCardSaid : Prop := Claim7.holds Tryz.pinned (.plain (OpenSpec.ofChange plateLaidSpec)) plateLaidCard

/-- THE TIED CARD OF 'tellurionlaw02.PlateLess'. -/
def plateLessCard : Claim7 := { stood := { row := plateLessRow, standIns := [], harness := (true, "2e9d653d22b11ebd3834900b8ce7bdad775251e5f3a44458fc3bf31d9359df28"), looks := true }, kinds := [], alts := [], laidByText := true, laidKinds := [.data, .data, .data, .data, .pinned], laidTests := true, laidLooks := .later }
def PlateLessCardSaid : Prop := Claim7.holds Tryz.pinned (.plain (OpenSpec.ofChange plateLessSpec)) plateLessCard

/-- THE TIED CARD OF 'tellurionlaw02.PlatePrints'. -/
def platePrintsCard : Claim7 := { stood := { row := platePrintsRow, standIns := [], harness := (true, "2e9d653d22b11ebd3834900b8ce7bdad775251e5f3a44458fc3bf31d9359df28"), looks := true }, kinds := [], alts := [], laidByText := true, laidKinds := [.data, .data, .data, .data, .pinned], laidTests := true, laidLooks := .later }
def PlatePrintsCardSaid : Prop := Claim7.holds Tryz.pinned (.plain (OpenSpec.ofChange platePrintsSpec)) platePrintsCard

/-- THE TIED CARD OF 'tellurionlaw02.PlateReads'. -/
def plateReadsCard : Claim7 := { stood := { row := plateReadsRow, standIns := [], harness := (true, "2e9d653d22b11ebd3834900b8ce7bdad775251e5f3a44458fc3bf31d9359df28"), looks := true }, kinds := [], alts := [], laidByText := true, laidKinds := [.data, .data, .data, .data, .pinned], laidTests := true, laidLooks := .later }
def PlateReadsCardSaid : Prop := Claim7.holds Tryz.pinned (.plain (OpenSpec.ofChange plateReadsSpec)) plateReadsCard

/-- THE TIED CARD OF 'tellurionlaw02.PlateSpoilt'. -/
def plateSpoiltCard : Claim7 := { stood := { row := plateSpoiltRow, standIns := [], harness := (true, "2e9d653d22b11ebd3834900b8ce7bdad775251e5f3a44458fc3bf31d9359df28"), looks := true }, kinds := [], alts := [], laidByText := true, laidKinds := [.data, .data, .data, .data, .pinned], laidTests := true, laidLooks := .later }
def PlateSpoiltCardSaid : Prop := Claim7.holds Tryz.pinned (.plain (OpenSpec.ofChange plateSpoiltSpec)) plateSpoiltCard

/-- THE SECOND FORM's CARD OF 'tellurionlaw02.PlateRatios'. -/
def plateRatiosUptoCard : Claim7 := { stood := { row := plateRatiosUptoRow, standIns := [], harness := (true, "2e9d653d22b11ebd3834900b8ce7bdad775251e5f3a44458fc3bf31d9359df28"), looks := true }, kinds := [], alts := [], laidByText := true, laidKinds := [.data, .data, .data, .data, .pinned], laidTests := true, laidLooks := .later }
def PlateRatiosUptoCardSaid : Prop := Claim7.holds Tryz.pinned (.plain (OpenSpec.upto plateRatiosSpec)) plateRatiosUptoCard

/-- THE SECOND FORM's CARD OF 'tellurionlaw02.PlateTurned'. -/
def plateTurnedUptoCard : Claim7 := { stood := { row := plateTurnedUptoRow, standIns := [], harness := (true, "2e9d653d22b11ebd3834900b8ce7bdad775251e5f3a44458fc3bf31d9359df28"), looks := true }, kinds := [], alts := [], laidByText := true, laidKinds := [.data, .data, .data, .data, .pinned], laidTests := true, laidLooks := .later }
def PlateTurnedUptoCardSaid : Prop := Claim7.holds Tryz.pinned (.plain (OpenSpec.upto plateTurnedSpec)) plateTurnedUptoCard

/-- THE SECOND FORM's CARD OF 'tellurionlaw02.PlateLayers'. -/
def plateLayersUptoCard : Claim7 := { stood := { row := plateLayersUptoRow, standIns := [], harness := (true, "2e9d653d22b11ebd3834900b8ce7bdad775251e5f3a44458fc3bf31d9359df28"), looks := true }, kinds := [], alts := [], laidByText := true, laidKinds := [.data, .data, .data, .data, .pinned], laidTests := true, laidLooks := .later }
def PlateLayersUptoCardSaid : Prop := Claim7.holds Tryz.pinned (.plain (OpenSpec.upto plateLayersSpec)) plateLayersUptoCard

/-- THE SECOND FORM's CARD OF 'tellurionlaw02.PlateMoved'. -/
def plateMovedUptoCard : Claim7 := { stood := { row := plateMovedUptoRow, standIns := [], harness := (true, "2e9d653d22b11ebd3834900b8ce7bdad775251e5f3a44458fc3bf31d9359df28"), looks := true }, kinds := [], alts := [], laidByText := true, laidKinds := [.data, .data, .data, .data, .pinned], laidTests := true, laidLooks := .later }
def PlateMovedUptoCardSaid : Prop := Claim7.holds Tryz.pinned (.plain (OpenSpec.upto plateMovedSpec)) plateMovedUptoCard

/-- THE SECOND FORM's CARD OF 'tellurionlaw02.PlateLaid'. -/
def plateLaidUptoCard : Claim7 := { stood := { row := plateLaidUptoRow, standIns := [], harness := (true, "2e9d653d22b11ebd3834900b8ce7bdad775251e5f3a44458fc3bf31d9359df28"), looks := true }, kinds := [], alts := [], laidByText := true, laidKinds := [.data, .data, .data, .data, .pinned], laidTests := true, laidLooks := .later }
def PlateLaidUptoCardSaid : Prop := Claim7.holds Tryz.pinned (.plain (OpenSpec.upto plateLaidSpec)) plateLaidUptoCard

/-- THE SECOND FORM's CARD OF 'tellurionlaw02.PlateLess'. -/
def plateLessUptoCard : Claim7 := { stood := { row := plateLessUptoRow, standIns := [], harness := (true, "2e9d653d22b11ebd3834900b8ce7bdad775251e5f3a44458fc3bf31d9359df28"), looks := true }, kinds := [], alts := [], laidByText := true, laidKinds := [.data, .data, .data, .data, .pinned], laidTests := true, laidLooks := .later }
def PlateLessUptoCardSaid : Prop := Claim7.holds Tryz.pinned (.plain (OpenSpec.upto plateLessSpec)) plateLessUptoCard

/-- THE SECOND FORM's CARD OF 'tellurionlaw02.PlatePrints'. -/
def platePrintsUptoCard : Claim7 := { stood := { row := platePrintsUptoRow, standIns := [], harness := (true, "2e9d653d22b11ebd3834900b8ce7bdad775251e5f3a44458fc3bf31d9359df28"), looks := true }, kinds := [], alts := [], laidByText := true, laidKinds := [.data, .data, .data, .data, .pinned], laidTests := true, laidLooks := .later }
def PlatePrintsUptoCardSaid : Prop := Claim7.holds Tryz.pinned (.plain (OpenSpec.upto platePrintsSpec)) platePrintsUptoCard

/-- THE SECOND FORM's CARD OF 'tellurionlaw02.PlateReads'. -/
def plateReadsUptoCard : Claim7 := { stood := { row := plateReadsUptoRow, standIns := [], harness := (true, "2e9d653d22b11ebd3834900b8ce7bdad775251e5f3a44458fc3bf31d9359df28"), looks := true }, kinds := [], alts := [], laidByText := true, laidKinds := [.data, .data, .data, .data, .pinned], laidTests := true, laidLooks := .later }
def PlateReadsUptoCardSaid : Prop := Claim7.holds Tryz.pinned (.plain (OpenSpec.upto plateReadsSpec)) plateReadsUptoCard

/-- THE SECOND FORM's CARD OF 'tellurionlaw02.PlateSpoilt'. -/
def plateSpoiltUptoCard : Claim7 := { stood := { row := plateSpoiltUptoRow, standIns := [], harness := (true, "2e9d653d22b11ebd3834900b8ce7bdad775251e5f3a44458fc3bf31d9359df28"), looks := true }, kinds := [], alts := [], laidByText := true, laidKinds := [.data, .data, .data, .data, .pinned], laidTests := true, laidLooks := .later }
def PlateSpoiltUptoCardSaid : Prop := Claim7.holds Tryz.pinned (.plain (OpenSpec.upto plateSpoiltSpec)) plateSpoiltUptoCard
end Rows
end Go.Proofs.YticjmjdcggomgaaGreatDoor
