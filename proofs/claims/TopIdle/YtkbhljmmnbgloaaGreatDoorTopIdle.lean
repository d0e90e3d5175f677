/-
  The law TopIdle is true of the program, whatever its arguments are.
  Conditions: none.
-/
import Derived.Test.YtkbhljmmnbgloaaGreatDoorTopIdleM09
import Derived.Test.YtkbhljmmnbgloaaGreatDoorTopIdleM12
namespace Go.Proofs.YtkbhljmmnbgloaaGreatDoor
open Go.Am
theorem topIdle_holds:Rows.TopIdleCardSaid:=ang fun xs h=>by
  obtain⟨x0,l0,rfl,a0,h0⟩:=ahm h
  obtain⟨x1,l1,rfl,a1,h1⟩:=ahm h0
  obtain⟨x2,l2,rfl,a2,h2⟩:=ahm h1
  obtain⟨x3,l3,rfl,a3,h3⟩:=ahm h2
  obtain⟨x4,l4,rfl,a4,h4⟩:=ahm h3
  obtain rfl:=aix h4
  obtain⟨v0,rfl⟩:=Go.Tel.aiy a0
  obtain⟨v1,rfl⟩:=Go.Tel.anA a1
  obtain⟨v2,rfl⟩:=Go.Tel.ajP a2
  obtain⟨v3,rfl⟩:=Go.Tel.ajP a3
  obtain⟨v4,rfl⟩:=Go.Tel.ajP a4
  exact Go.Tel.anu v0 v1 v2 v3 v4
end Go.Proofs.YtkbhljmmnbgloaaGreatDoor
