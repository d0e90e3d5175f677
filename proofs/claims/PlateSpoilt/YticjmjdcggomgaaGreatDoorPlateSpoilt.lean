/-
  The law PlateSpoilt is true of the program, whatever its arguments are.
  Conditions: none.
-/
import Derived.Test.YticjmjdcggomgaaGreatDoorPlateSpoiltL05
namespace Go.Proofs.YticjmjdcggomgaaGreatDoor
open Go.Am
theorem plateSpoilt_holds : Rows.PlateSpoiltCardSaid := plateSpoilt_card fun xs h => by
  obtain ⟨x0, l0, rfl, a0, h0⟩ := hasAll_cons h
  obtain ⟨x1, l1, rfl, a1, h1⟩ := hasAll_cons h0
  obtain ⟨x2, l2, rfl, a2, h2⟩ := hasAll_cons h1
  obtain rfl := hasAll_nil h2
  obtain ⟨v0, rfl⟩ := Go.Tel.hasV_piece a0
  obtain ⟨v1, rfl⟩ := Go.Tel.hasV_int a1
  obtain ⟨v2, rfl⟩ := Go.Tel.hasV_int a2
  exact Go.Tel.PlateSpoilt_c Go.Tel.known v0 v1 v2
end Go.Proofs.YticjmjdcggomgaaGreatDoor
