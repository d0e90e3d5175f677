/-
  The law JourneymanParses is true of the program, whatever its arguments are.
  Conditions: none.
-/
import Derived.Test.YtbefoehadfnkbaaGreatDoorJourneymanParsesM26
import Derived.Test.YtbefoehadfnkbaaGreatDoorJourneymanParsesM30
namespace Go.Proofs.YtbefoehadfnkbaaGreatDoor
open Go.Am
theorem journeymanParses_holds:Rows.JourneymanParsesCardSaid:=ar8 fun xs h=>by
  obtain⟨x0,l0,rfl,a0,h0⟩:=ana h
  obtain rfl:=aod h0
  obtain⟨v0,s0,rfl⟩:=Go.Tel.asx a0
  exact Go.Tel.asw v0
end Go.Proofs.YtbefoehadfnkbaaGreatDoor
