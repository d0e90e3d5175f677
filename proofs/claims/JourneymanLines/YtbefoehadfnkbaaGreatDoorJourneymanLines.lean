/-
  The law JourneymanLines is true of the program, whatever its arguments are.
  Conditions: none.
-/
import Derived.Test.YtbefoehadfnkbaaGreatDoorJourneymanLinesM26
import Derived.Test.YtbefoehadfnkbaaGreatDoorJourneymanLinesM29
namespace Go.Proofs.YtbefoehadfnkbaaGreatDoor
open Go.Am
theorem journeymanLines_holds:Rows.JourneymanLinesCardSaid:=acd fun xs h=>by
  obtain⟨x0,l0,rfl,a0,h0⟩:=ana h
  obtain rfl:=aod h0
  obtain⟨v0,rfl⟩:=Go.Tel.aqf a0
  exact Go.Tel.ao8 v0
end Go.Proofs.YtbefoehadfnkbaaGreatDoor
