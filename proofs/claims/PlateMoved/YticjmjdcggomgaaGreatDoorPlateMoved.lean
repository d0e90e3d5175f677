/-
  The law PlateMoved is true of the program, whatever its arguments are.
  Conditions: none.
-/
import Derived.Test.YticjmjdcggomgaaGreatDoorPlateMovedL05
namespace Go.Proofs.YticjmjdcggomgaaGreatDoor
open Go.Am
theorem plateMoved_holds : Rows.PlateMovedCardSaid := plateMoved_card fun xs h => by
  obtain ⟨x0, l0, rfl, a0, h0⟩ := hasAll_cons h
  obtain ⟨x1, l1, rfl, a1, h1⟩ := hasAll_cons h0
  obtain ⟨x2, l2, rfl, a2, h2⟩ := hasAll_cons h1
  obtain ⟨x3, l3, rfl, a3, h3⟩ := hasAll_cons h2
  obtain ⟨x4, l4, rfl, a4, h4⟩ := hasAll_cons h3
  obtain rfl := hasAll_nil h4
  obtain ⟨v0, rfl⟩ := Go.Tel.hasV_piece a0
  obtain ⟨v1, rfl⟩ := Go.Tel.hasV_int a1
  obtain ⟨v2, rfl⟩ := Go.Tel.hasV_int a2
  obtain ⟨v3, rfl⟩ := Go.Tel.hasV_int a3
  obtain ⟨v4, rfl⟩ := Go.Tel.hasV_int a4
  exact Go.Tel.PlateMoved_c Go.Tel.known v0 v1 v2 v3 v4
end Go.Proofs.YticjmjdcggomgaaGreatDoor
