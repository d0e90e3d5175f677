/-
  The law JourneymanConsoles is true of the program, whatever its arguments are.
  Conditions: none.
-/
import Derived.Test.YtbefoehadfnkbaaGreatDoorJourneymanConsolesM09
import Derived.Test.YtbefoehadfnkbaaGreatDoorJourneymanConsolesM12
namespace Go.Proofs.YtbefoehadfnkbaaGreatDoor
open Go.Am
theorem journeymanConsoles_holds:Rows.JourneymanConsolesCardSaid:=Vl fun xs h=>by
  obtain⟨x0,l0,rfl,a0,h0⟩:=alS h
  obtain⟨x1,l1,rfl,a1,h1⟩:=alS h0
  obtain rfl:=amW h1
  obtain⟨v0,rfl⟩:=Go.Tel.ao9 a0
  obtain⟨v1,s1,rfl⟩:=Go.Tel.aoh a1
  exact Go.Tel.ajv v0 v1
end Go.Proofs.YtbefoehadfnkbaaGreatDoor
