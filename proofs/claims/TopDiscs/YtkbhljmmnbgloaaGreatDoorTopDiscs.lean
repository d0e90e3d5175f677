/-
  The law TopDiscs is true of the program, whatever its arguments are.
  Conditions: none.
-/
import Derived.Test.YtkbhljmmnbgloaaGreatDoorTopDiscsM08
import Derived.Test.YtkbhljmmnbgloaaGreatDoorTopDiscsM11
namespace Go.Proofs.YtkbhljmmnbgloaaGreatDoor
open Go.Am
theorem topDiscs_holds:Rows.TopDiscsCardSaid:=afc fun xs h=>by
  obtain⟨x0,l0,rfl,a0,h0⟩:=ahm h
  obtain⟨x1,l1,rfl,a1,h1⟩:=ahm h0
  obtain⟨x2,l2,rfl,a2,h2⟩:=ahm h1
  obtain rfl:=aix h2
  obtain⟨v0,rfl⟩:=Go.Tel.aiy a0
  obtain⟨v1,rfl⟩:=Go.Tel.ajP a1
  obtain⟨v2,rfl⟩:=Go.Tel.alD a2
  exact Go.Tel.ahL v0 v1 v2
end Go.Proofs.YtkbhljmmnbgloaaGreatDoor
