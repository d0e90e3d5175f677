/-
  The law PlateLaid is true of the program, whatever its arguments are.
  Conditions: none.
-/
import Derived.Test.YticjmjdcggomgaaGreatDoorPlateLaidL06
namespace Go.Proofs.YticjmjdcggomgaaGreatDoor
open Go.Am
theorem plateLaid_holds : Rows.PlateLaidCardSaid := plateLaid_card fun xs h => by
  obtain ⟨x0, l0, rfl, a0, h0⟩ := hasAll_cons h
  obtain ⟨x1, l1, rfl, a1, h1⟩ := hasAll_cons h0
  obtain rfl := hasAll_nil h1
  obtain ⟨v0, rfl⟩ := Go.Tel.hasV_piece a0
  obtain ⟨v1, rfl⟩ := Go.Tel.hasV_ints a1
  exact Go.Tel.PlateLaid_c Go.Tel.known v0 v1
end Go.Proofs.YticjmjdcggomgaaGreatDoor
