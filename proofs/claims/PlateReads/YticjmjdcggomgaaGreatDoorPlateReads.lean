/-
  The law PlateReads is true of the program, whatever its arguments are.
  Conditions: none.
-/
import Derived.Test.YticjmjdcggomgaaGreatDoorPlateReadsL06
namespace Go.Proofs.YticjmjdcggomgaaGreatDoor
open Go.Am
theorem plateReads_holds : Rows.PlateReadsCardSaid := plateReads_card fun xs h => by
  obtain ⟨x0, l0, rfl, a0, h0⟩ := hasAll_cons h
  obtain rfl := hasAll_nil h0
  obtain ⟨v0, s0, rfl⟩ := Go.Tel.hasV_str a0
  exact Go.Tel.PlateReads_c Go.Tel.known v0
end Go.Proofs.YticjmjdcggomgaaGreatDoor
