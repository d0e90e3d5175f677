/-
  The law PlatePrints is true of the program, whatever its arguments are.
  Conditions: none.
-/
import Derived.Test.YticjmjdcggomgaaGreatDoorPlatePrintsL05
namespace Go.Proofs.YticjmjdcggomgaaGreatDoor
open Go.Am
theorem platePrints_holds : Rows.PlatePrintsCardSaid := platePrints_card fun xs h => by
  obtain ⟨x0, l0, rfl, a0, h0⟩ := hasAll_cons h
  obtain rfl := hasAll_nil h0
  obtain ⟨v0, rfl⟩ := Go.Tel.hasV_piece a0
  exact Go.Tel.PlatePrints_c Go.Tel.known v0
end Go.Proofs.YticjmjdcggomgaaGreatDoor
