/-
  The law JourneymanCopies is true of the program, whatever its arguments are.
  Conditions: none.
-/
import Derived.Test.YtbefoehadfnkbaaGreatDoorJourneymanCopiesM09
import Derived.Test.YtbefoehadfnkbaaGreatDoorJourneymanCopiesM12
namespace Go.Proofs.YtbefoehadfnkbaaGreatDoor
open Go.Am
theorem journeymanCopies_holds:Rows.JourneymanCopiesCardSaid:=aJQ fun xs h=>by
  obtain⟨x0,l0,rfl,a0,h0⟩:=aWC h
  obtain⟨x1,l1,rfl,a1,h1⟩:=aWC h0
  obtain⟨x2,l2,rfl,a2,h2⟩:=aWC h1
  obtain rfl:=aXI h2
  obtain⟨v0,rfl⟩:=Go.Tel.aZV a0
  obtain⟨v1,rfl⟩:=Go.Tel.aYZ a1
  obtain⟨v2,rfl⟩:=Go.Tel.aY0 a2
  exact Go.Tel.aWT v0 v1 v2
end Go.Proofs.YtbefoehadfnkbaaGreatDoor
