/-
  The law JourneymanNil is true of the program, whatever its arguments are.
  Conditions: none.
-/
import Derived.Test.YtbefoehadfnkbaaGreatDoorJourneymanNilM26
import Derived.Test.YtbefoehadfnkbaaGreatDoorJourneymanNilM29
namespace Go.Proofs.YtbefoehadfnkbaaGreatDoor
open Go.Am
theorem journeymanNil_holds:Rows.JourneymanNilCardSaid:=adO fun xs h=>by
  obtain⟨x0,l0,rfl,a0,h0⟩:=alS h
  obtain⟨x1,l1,rfl,a1,h1⟩:=alS h0
  obtain rfl:=amX h1
  obtain⟨v0,rfl⟩:=Go.Tel.aoY a0
  obtain⟨v1,rfl⟩:=Go.Tel.aoZ a1
  exact Go.Tel.ap6 v0 v1
end Go.Proofs.YtbefoehadfnkbaaGreatDoor
