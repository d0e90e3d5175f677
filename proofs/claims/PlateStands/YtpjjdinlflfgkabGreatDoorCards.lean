/-
  DERIVED. GIVEN WITH THE SEED: THE CARDS: each row of YtpjjdinlflfgkabGreatDoorRows.lean that lists a variable, with what it lists TIED to the program's text (the seventh form; the later family's looks); each row that meets fmt, with fmt's text TOLD by the authors' own Lean function (tested against real Go, not proved from fmt's source: count such statements apart). THE CARD IS WHAT COUNTS. Prove the row's statement (the work); the ties are given (YtpjjdinlflfgkabGreatDoorTie.lean); close each card by the builder's one call (the guide's Derived/Test/ToyasCard.lean, 'card_holds'). Laid BY PROGRAM, IN A SANDBOX (cutbox-door.mjs). By AI agents, Wed Nov 11 2026. No macro, syntax, notation, axiom, sorry.
-/
import Derived.Test.YtpjjdinlflfgkabGreatDoorRows
import GoSem.ClaimSeven
namespace Go.Proofs.YtpjjdinlflfgkabGreatDoor
namespace Rows

/-- THE TIED CARD OF 'tellurionlaw02.PlateFirst'. -/
def plateFirstCard : Claim7 := { stood := { row := plateFirstRow, standIns := [], harness := (true, "75f69f7f745ea161d85b67deea7535774cf87f0920b2591dec77504779607bbb"), looks := true }, kinds := [], alts := [], laidByText := true, laidKinds := [.data, .data, .data, .data, .pinned], laidTests := true, laidLooks := .later }
def PlateFirstCardSaid : Prop := Claim7.holds Tryz.pinned (.plain (OpenSpec.ofChange plateFirstSpec)) plateFirstCard

/-- THE TIED CARD OF 'tellurionlaw02.PlateMoved'. -/
def plateMovedCard : Claim7 := { stood := { row := plateMovedRow, standIns := [], harness := (true, "75f69f7f745ea161d85b67deea7535774cf87f0920b2591dec77504779607bbb"), looks := true }, kinds := [], alts := [], laidByText := true, laidKinds := [.data, .data, .data, .data, .pinned], laidTests := true, laidLooks := .later }
def PlateMovedCardSaid : Prop := Claim7.holds Tryz.pinned (.plain (OpenSpec.ofChange plateMovedSpec)) plateMovedCard

/-- THE TIED CARD OF 'tellurionlaw02.PlateStands'. -/
def plateStandsCard : Claim7 := { stood := { row := plateStandsRow, standIns := [], harness := (true, "75f69f7f745ea161d85b67deea7535774cf87f0920b2591dec77504779607bbb"), looks := true }, kinds := [], alts := [], laidByText := true, laidKinds := [.data, .data, .data, .data, .pinned], laidTests := true, laidLooks := .later }
def PlateStandsCardSaid : Prop := Claim7.holds Tryz.pinned (.plain (OpenSpec.ofChange plateStandsSpec)) plateStandsCard

/-- THE TIED CARD OF 'tellurionlaw02.PlateLaid'. -/
def plateLaidCard : Claim7 := { stood := { row := plateLaidRow, standIns := [], harness := (true, "75f69f7f745ea161d85b67deea7535774cf87f0920b2591dec77504779607bbb"), looks := true }, kinds := [], alts := [], laidByText := true, laidKinds := [.data, .data, .data, .data, .pinned], laidTests := true, laidLooks := .later }
def PlateLaidCardSaid : Prop := Claim7.holds Tryz.pinned (.plain (OpenSpec.ofChange plateLaidSpec)) plateLaidCard

/-- THE TIED CARD OF 'tellurionlaw02.PlateLess'. -/
def plateLessCard : Claim7 := { stood := { row := plateLessRow, standIns := [], harness := (true, "75f69f7f745ea161d85b67deea7535774cf87f0920b2591dec77504779607bbb"), looks := true }, kinds := [], alts := [], laidByText := true, laidKinds := [.data, .data, .data, .data, .pinned], laidTests := true, laidLooks := .later }
def PlateLessCardSaid : Prop := Claim7.holds Tryz.pinned (.plain (OpenSpec.ofChange plateLessSpec)) plateLessCard

/-- THE TIED CARD OF 'tellurionlaw02.PlatePrints'. -/
def platePrintsCard : Claim7 := { stood := { row := platePrintsRow, standIns := [], harness := (true, "75f69f7f745ea161d85b67deea7535774cf87f0920b2591dec77504779607bbb"), looks := true }, kinds := [], alts := [], laidByText := true, laidKinds := [.data, .data, .data, .data, .pinned], laidTests := true, laidLooks := .later }
def PlatePrintsCardSaid : Prop := Claim7.holds Tryz.pinned (.plain (OpenSpec.ofChange platePrintsSpec)) platePrintsCard

/-- THE TIED CARD OF 'tellurionlaw02.PlateReads'. -/
def plateReadsCard : Claim7 := { stood := { row := plateReadsRow, standIns := [], harness := (true, "75f69f7f745ea161d85b67deea7535774cf87f0920b2591dec77504779607bbb"), looks := true }, kinds := [], alts := [], laidByText := true, laidKinds := [.data, .data, .data, .data, .pinned], laidTests := true, laidLooks := .later }
def PlateReadsCardSaid : Prop := Claim7.holds Tryz.pinned (.plain (OpenSpec.ofChange plateReadsSpec)) plateReadsCard

/-- THE TIED CARD OF 'tellurionlaw02.PlateSpoilt'. -/
def plateSpoiltCard : Claim7 := { stood := { row := plateSpoiltRow, standIns := [], harness := (true, "75f69f7f745ea161d85b67deea7535774cf87f0920b2591dec77504779607bbb"), looks := true }, kinds := [], alts := [], laidByText := true, laidKinds := [.data, .data, .data, .data, .pinned], laidTests := true, laidLooks := .later }
def PlateSpoiltCardSaid : Prop := Claim7.holds Tryz.pinned (.plain (OpenSpec.ofChange plateSpoiltSpec)) plateSpoiltCard

/-- THE TIED CARD OF 'tellurionlaw02.PlateFaults'. -/
def plateFaultsCard : Claim7 := { stood := { row := plateFaultsRow, standIns := [], harness := (true, "75f69f7f745ea161d85b67deea7535774cf87f0920b2591dec77504779607bbb"), looks := true }, kinds := [], alts := [], laidByText := true, laidKinds := [.data, .data, .data, .data, .pinned], laidTests := true, laidLooks := .later }
def PlateFaultsCardSaid : Prop := Claim7.holds Tryz.pinned (.plain (OpenSpec.ofChange plateFaultsSpec)) plateFaultsCard

/-- THE TIED CARD OF 'tellurionlaw02.PlateCuts'. -/
def plateCutsCard : Claim7 := { stood := { row := plateCutsRow, standIns := [], harness := (true, "75f69f7f745ea161d85b67deea7535774cf87f0920b2591dec77504779607bbb"), looks := true }, kinds := [], alts := [], laidByText := true, laidKinds := [.data, .data, .data, .data, .pinned], laidTests := true, laidLooks := .later }
def PlateCutsCardSaid : Prop := Claim7.holds Tryz.pinned (.plain (OpenSpec.ofChange plateCutsSpec)) plateCutsCard

/-- THE TIED CARD OF 'tellurionlaw02.PlateRound'. -/
def plateRoundCard : Claim7 := { stood := { row := plateRoundRow, standIns := [], harness := (true, "75f69f7f745ea161d85b67deea7535774cf87f0920b2591dec77504779607bbb"), looks := true }, kinds := [], alts := [], laidByText := true, laidKinds := [.data, .data, .data, .data, .pinned], laidTests := true, laidLooks := .later }
def PlateRoundCardSaid : Prop := Claim7.holds Tryz.pinned (.plain (OpenSpec.ofChange plateRoundSpec)) plateRoundCard

/-- THE SECOND FORM's CARD OF 'tellurionlaw02.PlateFirst'. -/
def plateFirstUptoCard : Claim7 := { stood := { row := plateFirstUptoRow, standIns := [], harness := (true, "75f69f7f745ea161d85b67deea7535774cf87f0920b2591dec77504779607bbb"), looks := true }, kinds := [], alts := [], laidByText := true, laidKinds := [.data, .data, .data, .data, .pinned], laidTests := true, laidLooks := .later }
def PlateFirstUptoCardSaid : Prop := Claim7.holds Tryz.pinned (.plain (OpenSpec.upto plateFirstSpec)) plateFirstUptoCard

/-- THE SECOND FORM's CARD OF 'tellurionlaw02.PlateMoved'. -/
def plateMovedUptoCard : Claim7 := { stood := { row := plateMovedUptoRow, standIns := [], harness := (true, "75f69f7f745ea161d85b67deea7535774cf87f0920b2591dec77504779607bbb"), looks := true }, kinds := [], alts := [], laidByText := true, laidKinds := [.data, .data, .data, .data, .pinned], laidTests := true, laidLooks := .later }
def PlateMovedUptoCardSaid : Prop := Claim7.holds Tryz.pinned (.plain (OpenSpec.upto plateMovedSpec)) plateMovedUptoCard

/-- THE SECOND FORM's CARD OF 'tellurionlaw02.PlateStands'. -/
def plateStandsUptoCard : Claim7 := { stood := { row := plateStandsUptoRow, standIns := [], harness := (true, "75f69f7f745ea161d85b67deea7535774cf87f0920b2591dec77504779607bbb"), looks := true }, kinds := [], alts := [], laidByText := true, laidKinds := [.data, .data, .data, .data, .pinned], laidTests := true, laidLooks := .later }
def PlateStandsUptoCardSaid : Prop := Claim7.holds Tryz.pinned (.plain (OpenSpec.upto plateStandsSpec)) plateStandsUptoCard

/-- THE SECOND FORM's CARD OF 'tellurionlaw02.PlateLaid'. -/
def plateLaidUptoCard : Claim7 := { stood := { row := plateLaidUptoRow, standIns := [], harness := (true, "75f69f7f745ea161d85b67deea7535774cf87f0920b2591dec77504779607bbb"), looks := true }, kinds := [], alts := [], laidByText := true, laidKinds := [.data, .data, .data, .data, .pinned], laidTests := true, laidLooks := .later }
def PlateLaidUptoCardSaid : Prop := Claim7.holds Tryz.pinned (.plain (OpenSpec.upto plateLaidSpec)) plateLaidUptoCard

/-- THE SECOND FORM's CARD OF 'tellurionlaw02.PlateLess'. -/
def plateLessUptoCard : Claim7 := { stood := { row := plateLessUptoRow, standIns := [], harness := (true, "75f69f7f745ea161d85b67deea7535774cf87f0920b2591dec77504779607bbb"), looks := true }, kinds := [], alts := [], laidByText := true, laidKinds := [.data, .data, .data, .data, .pinned], laidTests := true, laidLooks := .later }
def PlateLessUptoCardSaid : Prop := Claim7.holds Tryz.pinned (.plain (OpenSpec.upto plateLessSpec)) plateLessUptoCard

/-- THE SECOND FORM's CARD OF 'tellurionlaw02.PlatePrints'. -/
def platePrintsUptoCard : Claim7 := { stood := { row := platePrintsUptoRow, standIns := [], harness := (true, "75f69f7f745ea161d85b67deea7535774cf87f0920b2591dec77504779607bbb"), looks := true }, kinds := [], alts := [], laidByText := true, laidKinds := [.data, .data, .data, .data, .pinned], laidTests := true, laidLooks := .later }
def PlatePrintsUptoCardSaid : Prop := Claim7.holds Tryz.pinned (.plain (OpenSpec.upto platePrintsSpec)) platePrintsUptoCard

/-- THE SECOND FORM's CARD OF 'tellurionlaw02.PlateReads'. -/
def plateReadsUptoCard : Claim7 := { stood := { row := plateReadsUptoRow, standIns := [], harness := (true, "75f69f7f745ea161d85b67deea7535774cf87f0920b2591dec77504779607bbb"), looks := true }, kinds := [], alts := [], laidByText := true, laidKinds := [.data, .data, .data, .data, .pinned], laidTests := true, laidLooks := .later }
def PlateReadsUptoCardSaid : Prop := Claim7.holds Tryz.pinned (.plain (OpenSpec.upto plateReadsSpec)) plateReadsUptoCard

/-- THE SECOND FORM's CARD OF 'tellurionlaw02.PlateSpoilt'. -/
def plateSpoiltUptoCard : Claim7 := { stood := { row := plateSpoiltUptoRow, standIns := [], harness := (true, "75f69f7f745ea161d85b67deea7535774cf87f0920b2591dec77504779607bbb"), looks := true }, kinds := [], alts := [], laidByText := true, laidKinds := [.data, .data, .data, .data, .pinned], laidTests := true, laidLooks := .later }
def PlateSpoiltUptoCardSaid : Prop := Claim7.holds Tryz.pinned (.plain (OpenSpec.upto plateSpoiltSpec)) plateSpoiltUptoCard

/-- THE SECOND FORM's CARD OF 'tellurionlaw02.PlateFaults'. -/
def plateFaultsUptoCard : Claim7 := { stood := { row := plateFaultsUptoRow, standIns := [], harness := (true, "75f69f7f745ea161d85b67deea7535774cf87f0920b2591dec77504779607bbb"), looks := true }, kinds := [], alts := [], laidByText := true, laidKinds := [.data, .data, .data, .data, .pinned], laidTests := true, laidLooks := .later }
def PlateFaultsUptoCardSaid : Prop := Claim7.holds Tryz.pinned (.plain (OpenSpec.upto plateFaultsSpec)) plateFaultsUptoCard

/-- THE SECOND FORM's CARD OF 'tellurionlaw02.PlateCuts'. -/
def plateCutsUptoCard : Claim7 := { stood := { row := plateCutsUptoRow, standIns := [], harness := (true, "75f69f7f745ea161d85b67deea7535774cf87f0920b2591dec77504779607bbb"), looks := true }, kinds := [], alts := [], laidByText := true, laidKinds := [.data, .data, .data, .data, .pinned], laidTests := true, laidLooks := .later }
def PlateCutsUptoCardSaid : Prop := Claim7.holds Tryz.pinned (.plain (OpenSpec.upto plateCutsSpec)) plateCutsUptoCard

/-- THE SECOND FORM's CARD OF 'tellurionlaw02.PlateRound'. -/
def plateRoundUptoCard : Claim7 := { stood := { row := plateRoundUptoRow, standIns := [], harness := (true, "75f69f7f745ea161d85b67deea7535774cf87f0920b2591dec77504779607bbb"), looks := true }, kinds := [], alts := [], laidByText := true, laidKinds := [.data, .data, .data, .data, .pinned], laidTests := true, laidLooks := .later }
def PlateRoundUptoCardSaid : Prop := Claim7.holds Tryz.pinned (.plain (OpenSpec.upto plateRoundSpec)) plateRoundUptoCard
end Rows
end Go.Proofs.YtpjjdinlflfgkabGreatDoor
