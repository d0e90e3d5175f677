/-
  The law JourneymanEnters is true of the program, whatever its arguments are.
  Conditions: none.
-/
import Derived.Test.YtbefoehadfnkbaaGreatDoorJourneymanEntersM09
import Derived.Test.YtbefoehadfnkbaaGreatDoorJourneymanEntersM12
namespace Go.Proofs.YtbefoehadfnkbaaGreatDoor
open Go.Am
theorem journeymanEnters_holds:Rows.JourneymanEntersCardSaid:=ayO fun xs h=>by
  obtain⟨x0,l0,rfl,a0,h0⟩:=an1 h
  obtain⟨x1,l1,rfl,a1,h1⟩:=an1 h0
  obtain⟨x2,l2,rfl,a2,h2⟩:=an1 h1
  obtain rfl:=ao2 h2
  obtain⟨v0,rfl⟩:=Go.Tel.arn a0
  obtain⟨v1,rfl⟩:=Go.Tel.aqp a1
  obtain⟨v2,rfl⟩:=Go.Tel.aud a2
  exact Go.Tel.ayR v0 v1 v2
end Go.Proofs.YtbefoehadfnkbaaGreatDoor
