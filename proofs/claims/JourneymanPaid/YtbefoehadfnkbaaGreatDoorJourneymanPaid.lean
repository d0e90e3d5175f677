/-
  The law JourneymanPaid is true of the program, whatever its arguments are.
  Conditions: none.
-/
import Derived.Test.YtbefoehadfnkbaaGreatDoorJourneymanPaidM09
import Derived.Test.YtbefoehadfnkbaaGreatDoorJourneymanPaidM12
namespace Go.Proofs.YtbefoehadfnkbaaGreatDoor
open Go.Am
theorem journeymanPaid_holds:Rows.JourneymanPaidCardSaid:=atw fun xs h=>by
  obtain⟨x0,l0,rfl,a0,h0⟩:=an1 h
  obtain⟨x1,l1,rfl,a1,h1⟩:=an1 h0
  obtain rfl:=ao2 h1
  obtain⟨v0,rfl⟩:=Go.Tel.arn a0
  obtain⟨v1,rfl⟩:=Go.Tel.aqp a1
  exact Go.Tel.atI v0 v1
end Go.Proofs.YtbefoehadfnkbaaGreatDoor
