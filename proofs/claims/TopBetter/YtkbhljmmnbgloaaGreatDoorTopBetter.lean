/-
  The law TopBetter is true of the program, whatever its arguments are.
  Conditions: none.
-/
import Derived.Test.YtkbhljmmnbgloaaGreatDoorTopBetterM09
import Derived.Test.YtkbhljmmnbgloaaGreatDoorTopBetterM13
namespace Go.Proofs.YtkbhljmmnbgloaaGreatDoor
open Go.Am
theorem topBetter_holds:Rows.TopBetterCardSaid:=ajP fun xs h=>by
  obtain⟨x0,l0,rfl,a0,h0⟩:=amx h
  obtain⟨x1,l1,rfl,a1,h1⟩:=amx h0
  obtain rfl:=anM h1
  obtain⟨v0,rfl⟩:=Go.Tel.ap3 a0
  obtain⟨v1,rfl⟩:=Go.Tel.ap4 a1
  exact Go.Tel.amu v0 v1
end Go.Proofs.YtkbhljmmnbgloaaGreatDoor
