/-
  The law PlateEvens is true of the program, whatever its arguments are.
  Conditions: none.
-/
import Derived.Test.YtpjjdinlflfgkaaGreatDoorPlateEvensL03
namespace Go.Proofs.YtpjjdinlflfgkaaGreatDoor
open Go.Am
theorem plateEvens_holds : Rows.PlateEvensCardSaid := plateEvens_card fun xs h => by
  obtain ⟨x0, l0, rfl, a0, h0⟩ := hasAll_cons h
  obtain ⟨x1, l1, rfl, a1, h1⟩ := hasAll_cons h0
  obtain rfl := hasAll_nil h1
  obtain ⟨v0, rfl⟩ := Go.Tel.hasV_int a0
  obtain ⟨v1, rfl⟩ := Go.Tel.hasV_ints a1
  exact Go.Tel.PlateEvens_c Go.Tel.known v0 v1
end Go.Proofs.YtpjjdinlflfgkaaGreatDoor
