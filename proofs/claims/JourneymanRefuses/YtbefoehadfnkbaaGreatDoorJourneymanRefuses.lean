/-
  The law JourneymanRefuses is true of the program, whatever its arguments are.
  Conditions: none.
-/
import Derived.Test.YtbefoehadfnkbaaGreatDoorJourneymanRefusesM09
import Derived.Test.YtbefoehadfnkbaaGreatDoorJourneymanRefusesM12
namespace Go.Proofs.YtbefoehadfnkbaaGreatDoor
open Go.Am
theorem journeymanRefuses_holds:Rows.JourneymanRefusesCardSaid:=axw fun xs h=>by
  obtain⟨x0,l0,rfl,a0,h0⟩:=an1 h
  obtain⟨x1,l1,rfl,a1,h1⟩:=an1 h0
  obtain⟨x2,l2,rfl,a2,h2⟩:=an1 h1
  obtain⟨x3,l3,rfl,a3,h3⟩:=an1 h2
  obtain rfl:=ao2 h3
  obtain⟨v0,rfl⟩:=Go.Tel.arn a0
  obtain⟨v1,rfl⟩:=Go.Tel.aqp a1
  obtain⟨v2,rfl⟩:=Go.Tel.awn a2
  obtain⟨v3,rfl⟩:=Go.Tel.aud a3
  exact Go.Tel.ayu v0 v1 v2 v3
end Go.Proofs.YtbefoehadfnkbaaGreatDoor
