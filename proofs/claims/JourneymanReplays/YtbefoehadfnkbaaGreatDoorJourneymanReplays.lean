/-
  The law JourneymanReplays is true of the program, whatever its arguments are.
  Conditions: none.
-/
import Derived.Test.YtbefoehadfnkbaaGreatDoorJourneymanReplaysM09
import Derived.Test.YtbefoehadfnkbaaGreatDoorJourneymanReplaysM12
namespace Go.Proofs.YtbefoehadfnkbaaGreatDoor
open Go.Am
theorem journeymanReplays_holds:Rows.JourneymanReplaysCardSaid:=Xg fun xs h=>by
  obtain⟨x0,l0,rfl,a0,h0⟩:=alR h
  obtain⟨x1,l1,rfl,a1,h1⟩:=alR h0
  obtain⟨x2,l2,rfl,a2,h2⟩:=alR h1
  obtain rfl:=amW h2
  obtain⟨v0,rfl⟩:=Go.Tel.apg a0
  obtain⟨v1,s1,rfl⟩:=Go.Tel.aoi a1
  obtain⟨v2,rfl⟩:=Go.Tel.aoh a2
  exact Go.Tel.alL v0 v1 v2
end Go.Proofs.YtbefoehadfnkbaaGreatDoor
