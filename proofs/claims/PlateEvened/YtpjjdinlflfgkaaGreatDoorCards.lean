/-
  DERIVED. GIVEN WITH THE SEED: THE CARDS: each row of YtpjjdinlflfgkaaGreatDoorRows.lean that lists a variable, with what it lists TIED to the program's text (the seventh form; the later family's looks); each row that meets fmt, with fmt's text TOLD by the authors' own Lean function (tested against real Go, not proved from fmt's source: count such statements apart). THE CARD IS WHAT COUNTS. Prove the row's statement (the work); the ties are given (YtpjjdinlflfgkaaGreatDoorTie.lean); close each card by the builder's one call (the guide's Derived/Test/ToyasCard.lean, 'card_holds'). Laid BY PROGRAM, IN A SANDBOX (cutbox-door.mjs). By AI agents, Wed Nov 11 2026. No macro, syntax, notation, axiom, sorry.
-/
import Derived.Test.YtpjjdinlflfgkaaGreatDoorRows
import GoSem.ClaimSeven
namespace Go.Proofs.YtpjjdinlflfgkaaGreatDoor
namespace Rows

/-- THE TIED CARD OF 'tellurionlaw02.PlateSpares'. -/
def plateSparesCard : Claim7 := { stood := { row := plateSparesRow, standIns := [], harness := (true, "463e82dfb21d0f02379e78c6158bf5fd3ed2cc8cf0e176740507614031544bd9"), looks := true }, kinds := [], alts := [], laidByText := true, laidKinds := [.data, .data, .data, .data, .pinned], laidTests := true, laidLooks := .later }
def PlateSparesCardSaid : Prop := Claim7.holds Tryz.pinned (.plain (OpenSpec.ofChange plateSparesSpec)) plateSparesCard

/-- THE TIED CARD OF 'tellurionlaw02.PlateFewest'. -/
def plateFewestCard : Claim7 := { stood := { row := plateFewestRow, standIns := [], harness := (true, "463e82dfb21d0f02379e78c6158bf5fd3ed2cc8cf0e176740507614031544bd9"), looks := true }, kinds := [], alts := [], laidByText := true, laidKinds := [.data, .data, .data, .data, .pinned], laidTests := true, laidLooks := .later }
def PlateFewestCardSaid : Prop := Claim7.holds Tryz.pinned (.plain (OpenSpec.ofChange plateFewestSpec)) plateFewestCard

/-- THE TIED CARD OF 'tellurionlaw02.PlateFrames'. -/
def plateFramesCard : Claim7 := { stood := { row := plateFramesRow, standIns := [], harness := (true, "463e82dfb21d0f02379e78c6158bf5fd3ed2cc8cf0e176740507614031544bd9"), looks := true }, kinds := [], alts := [], laidByText := true, laidKinds := [.data, .data, .data, .data, .pinned], laidTests := true, laidLooks := .later }
def PlateFramesCardSaid : Prop := Claim7.holds Tryz.pinned (.plain (OpenSpec.ofChange plateFramesSpec)) plateFramesCard

/-- THE TIED CARD OF 'tellurionlaw02.PlateRatios'. -/
def plateRatiosCard : Claim7 := { stood := { row := plateRatiosRow, standIns := [], harness := (true, "463e82dfb21d0f02379e78c6158bf5fd3ed2cc8cf0e176740507614031544bd9"), looks := true }, kinds := [], alts := [], laidByText := true, laidKinds := [.data, .data, .data, .data, .pinned], laidTests := true, laidLooks := .later }
def PlateRatiosCardSaid : Prop := Claim7.holds Tryz.pinned (.plain (OpenSpec.ofChange plateRatiosSpec)) plateRatiosCard

/-- THE TIED CARD OF 'tellurionlaw02.PlateTurned'. -/
def plateTurnedCard : Claim7 := { stood := { row := plateTurnedRow, standIns := [], harness := (true, "463e82dfb21d0f02379e78c6158bf5fd3ed2cc8cf0e176740507614031544bd9"), looks := true }, kinds := [], alts := [], laidByText := true, laidKinds := [.data, .data, .data, .data, .pinned], laidTests := true, laidLooks := .later }
def PlateTurnedCardSaid : Prop := Claim7.holds Tryz.pinned (.plain (OpenSpec.ofChange plateTurnedSpec)) plateTurnedCard

/-- THE TIED CARD OF 'tellurionlaw02.PlatePlaces'. -/
def platePlacesCard : Claim7 := { stood := { row := platePlacesRow, standIns := [], harness := (true, "463e82dfb21d0f02379e78c6158bf5fd3ed2cc8cf0e176740507614031544bd9"), looks := true }, kinds := [], alts := [], laidByText := true, laidKinds := [.data, .data, .data, .data, .pinned], laidTests := true, laidLooks := .later }
def PlatePlacesCardSaid : Prop := Claim7.holds Tryz.pinned (.plain (OpenSpec.ofChange platePlacesSpec)) platePlacesCard

/-- THE TIED CARD OF 'tellurionlaw02.PlateLayers'. -/
def plateLayersCard : Claim7 := { stood := { row := plateLayersRow, standIns := [], harness := (true, "463e82dfb21d0f02379e78c6158bf5fd3ed2cc8cf0e176740507614031544bd9"), looks := true }, kinds := [], alts := [], laidByText := true, laidKinds := [.data, .data, .data, .data, .pinned], laidTests := true, laidLooks := .later }
def PlateLayersCardSaid : Prop := Claim7.holds Tryz.pinned (.plain (OpenSpec.ofChange plateLayersSpec)) plateLayersCard

/-- THE TIED CARD OF 'tellurionlaw02.PlateEnough'. -/
def plateEnoughCard : Claim7 := { stood := { row := plateEnoughRow, standIns := [], harness := (true, "463e82dfb21d0f02379e78c6158bf5fd3ed2cc8cf0e176740507614031544bd9"), looks := true }, kinds := [], alts := [], laidByText := true, laidKinds := [.data, .data, .data, .data, .pinned], laidTests := true, laidLooks := .later }
def PlateEnoughCardSaid : Prop := Claim7.holds Tryz.pinned (.plain (OpenSpec.ofChange plateEnoughSpec)) plateEnoughCard

/-- THE TIED CARD OF 'tellurionlaw02.PlateMarks'. -/
def plateMarksCard : Claim7 := { stood := { row := plateMarksRow, standIns := [], harness := (true, "463e82dfb21d0f02379e78c6158bf5fd3ed2cc8cf0e176740507614031544bd9"), looks := true }, kinds := [], alts := [], laidByText := true, laidKinds := [.data, .data, .data, .data, .pinned], laidTests := true, laidLooks := .later }
def PlateMarksCardSaid : Prop := Claim7.holds Tryz.pinned (.plain (OpenSpec.ofChange plateMarksSpec)) plateMarksCard

/-- THE TIED CARD OF 'tellurionlaw02.PlateEvens'. -/
def plateEvensCard : Claim7 := { stood := { row := plateEvensRow, standIns := [], harness := (true, "463e82dfb21d0f02379e78c6158bf5fd3ed2cc8cf0e176740507614031544bd9"), looks := true }, kinds := [], alts := [], laidByText := true, laidKinds := [.data, .data, .data, .data, .pinned], laidTests := true, laidLooks := .later }
def PlateEvensCardSaid : Prop := Claim7.holds Tryz.pinned (.plain (OpenSpec.ofChange plateEvensSpec)) plateEvensCard

/-- THE TIED CARD OF 'tellurionlaw02.PlateEvened'. -/
def plateEvenedCard : Claim7 := { stood := { row := plateEvenedRow, standIns := [], harness := (true, "463e82dfb21d0f02379e78c6158bf5fd3ed2cc8cf0e176740507614031544bd9"), looks := true }, kinds := [], alts := [], laidByText := true, laidKinds := [.data, .data, .data, .data, .pinned], laidTests := true, laidLooks := .later }
def PlateEvenedCardSaid : Prop := Claim7.holds Tryz.pinned (.plain (OpenSpec.ofChange plateEvenedSpec)) plateEvenedCard

/-- THE SECOND FORM's CARD OF 'tellurionlaw02.PlateSpares'. -/
def plateSparesUptoCard : Claim7 := { stood := { row := plateSparesUptoRow, standIns := [], harness := (true, "463e82dfb21d0f02379e78c6158bf5fd3ed2cc8cf0e176740507614031544bd9"), looks := true }, kinds := [], alts := [], laidByText := true, laidKinds := [.data, .data, .data, .data, .pinned], laidTests := true, laidLooks := .later }
def PlateSparesUptoCardSaid : Prop := Claim7.holds Tryz.pinned (.plain (OpenSpec.upto plateSparesSpec)) plateSparesUptoCard

/-- THE SECOND FORM's CARD OF 'tellurionlaw02.PlateFewest'. -/
def plateFewestUptoCard : Claim7 := { stood := { row := plateFewestUptoRow, standIns := [], harness := (true, "463e82dfb21d0f02379e78c6158bf5fd3ed2cc8cf0e176740507614031544bd9"), looks := true }, kinds := [], alts := [], laidByText := true, laidKinds := [.data, .data, .data, .data, .pinned], laidTests := true, laidLooks := .later }
def PlateFewestUptoCardSaid : Prop := Claim7.holds Tryz.pinned (.plain (OpenSpec.upto plateFewestSpec)) plateFewestUptoCard

/-- THE SECOND FORM's CARD OF 'tellurionlaw02.PlateFrames'. -/
def plateFramesUptoCard : Claim7 := { stood := { row := plateFramesUptoRow, standIns := [], harness := (true, "463e82dfb21d0f02379e78c6158bf5fd3ed2cc8cf0e176740507614031544bd9"), looks := true }, kinds := [], alts := [], laidByText := true, laidKinds := [.data, .data, .data, .data, .pinned], laidTests := true, laidLooks := .later }
def PlateFramesUptoCardSaid : Prop := Claim7.holds Tryz.pinned (.plain (OpenSpec.upto plateFramesSpec)) plateFramesUptoCard

/-- THE SECOND FORM's CARD OF 'tellurionlaw02.PlateRatios'. -/
def plateRatiosUptoCard : Claim7 := { stood := { row := plateRatiosUptoRow, standIns := [], harness := (true, "463e82dfb21d0f02379e78c6158bf5fd3ed2cc8cf0e176740507614031544bd9"), looks := true }, kinds := [], alts := [], laidByText := true, laidKinds := [.data, .data, .data, .data, .pinned], laidTests := true, laidLooks := .later }
def PlateRatiosUptoCardSaid : Prop := Claim7.holds Tryz.pinned (.plain (OpenSpec.upto plateRatiosSpec)) plateRatiosUptoCard

/-- THE SECOND FORM's CARD OF 'tellurionlaw02.PlateTurned'. -/
def plateTurnedUptoCard : Claim7 := { stood := { row := plateTurnedUptoRow, standIns := [], harness := (true, "463e82dfb21d0f02379e78c6158bf5fd3ed2cc8cf0e176740507614031544bd9"), looks := true }, kinds := [], alts := [], laidByText := true, laidKinds := [.data, .data, .data, .data, .pinned], laidTests := true, laidLooks := .later }
def PlateTurnedUptoCardSaid : Prop := Claim7.holds Tryz.pinned (.plain (OpenSpec.upto plateTurnedSpec)) plateTurnedUptoCard

/-- THE SECOND FORM's CARD OF 'tellurionlaw02.PlatePlaces'. -/
def platePlacesUptoCard : Claim7 := { stood := { row := platePlacesUptoRow, standIns := [], harness := (true, "463e82dfb21d0f02379e78c6158bf5fd3ed2cc8cf0e176740507614031544bd9"), looks := true }, kinds := [], alts := [], laidByText := true, laidKinds := [.data, .data, .data, .data, .pinned], laidTests := true, laidLooks := .later }
def PlatePlacesUptoCardSaid : Prop := Claim7.holds Tryz.pinned (.plain (OpenSpec.upto platePlacesSpec)) platePlacesUptoCard

/-- THE SECOND FORM's CARD OF 'tellurionlaw02.PlateLayers'. -/
def plateLayersUptoCard : Claim7 := { stood := { row := plateLayersUptoRow, standIns := [], harness := (true, "463e82dfb21d0f02379e78c6158bf5fd3ed2cc8cf0e176740507614031544bd9"), looks := true }, kinds := [], alts := [], laidByText := true, laidKinds := [.data, .data, .data, .data, .pinned], laidTests := true, laidLooks := .later }
def PlateLayersUptoCardSaid : Prop := Claim7.holds Tryz.pinned (.plain (OpenSpec.upto plateLayersSpec)) plateLayersUptoCard

/-- THE SECOND FORM's CARD OF 'tellurionlaw02.PlateEnough'. -/
def plateEnoughUptoCard : Claim7 := { stood := { row := plateEnoughUptoRow, standIns := [], harness := (true, "463e82dfb21d0f02379e78c6158bf5fd3ed2cc8cf0e176740507614031544bd9"), looks := true }, kinds := [], alts := [], laidByText := true, laidKinds := [.data, .data, .data, .data, .pinned], laidTests := true, laidLooks := .later }
def PlateEnoughUptoCardSaid : Prop := Claim7.holds Tryz.pinned (.plain (OpenSpec.upto plateEnoughSpec)) plateEnoughUptoCard

/-- THE SECOND FORM's CARD OF 'tellurionlaw02.PlateMarks'. -/
def plateMarksUptoCard : Claim7 := { stood := { row := plateMarksUptoRow, standIns := [], harness := (true, "463e82dfb21d0f02379e78c6158bf5fd3ed2cc8cf0e176740507614031544bd9"), looks := true }, kinds := [], alts := [], laidByText := true, laidKinds := [.data, .data, .data, .data, .pinned], laidTests := true, laidLooks := .later }
def PlateMarksUptoCardSaid : Prop := Claim7.holds Tryz.pinned (.plain (OpenSpec.upto plateMarksSpec)) plateMarksUptoCard

/-- THE SECOND FORM's CARD OF 'tellurionlaw02.PlateEvens'. -/
def plateEvensUptoCard : Claim7 := { stood := { row := plateEvensUptoRow, standIns := [], harness := (true, "463e82dfb21d0f02379e78c6158bf5fd3ed2cc8cf0e176740507614031544bd9"), looks := true }, kinds := [], alts := [], laidByText := true, laidKinds := [.data, .data, .data, .data, .pinned], laidTests := true, laidLooks := .later }
def PlateEvensUptoCardSaid : Prop := Claim7.holds Tryz.pinned (.plain (OpenSpec.upto plateEvensSpec)) plateEvensUptoCard

/-- THE SECOND FORM's CARD OF 'tellurionlaw02.PlateEvened'. -/
def plateEvenedUptoCard : Claim7 := { stood := { row := plateEvenedUptoRow, standIns := [], harness := (true, "463e82dfb21d0f02379e78c6158bf5fd3ed2cc8cf0e176740507614031544bd9"), looks := true }, kinds := [], alts := [], laidByText := true, laidKinds := [.data, .data, .data, .data, .pinned], laidTests := true, laidLooks := .later }
def PlateEvenedUptoCardSaid : Prop := Claim7.holds Tryz.pinned (.plain (OpenSpec.upto plateEvenedSpec)) plateEvenedUptoCard
end Rows
end Go.Proofs.YtpjjdinlflfgkaaGreatDoor
