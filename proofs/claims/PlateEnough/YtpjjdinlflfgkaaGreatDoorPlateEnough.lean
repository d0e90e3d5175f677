/-
  The law PlateEnough is true of the program, whatever its arguments are.
  Conditions: none.
-/
import Derived.Test.YtpjjdinlflfgkaaGreatDoorPlateEnoughL05
namespace Go.Proofs.YtpjjdinlflfgkaaGreatDoor
open Go.Am
theorem plateEnough_holds : Rows.PlateEnoughCardSaid := plateEnough_card fun xs h => by
  obtain ⟨x0, l0, rfl, a0, h0⟩ := hasAll_cons h
  obtain ⟨x1, l1, rfl, a1, h1⟩ := hasAll_cons h0
  obtain ⟨x2, l2, rfl, a2, h2⟩ := hasAll_cons h1
  obtain ⟨x3, l3, rfl, a3, h3⟩ := hasAll_cons h2
  obtain rfl := hasAll_nil h3
  obtain ⟨v0, rfl⟩ := Go.Tel.hasV_dvd a0
  obtain ⟨v1, rfl⟩ := Go.Tel.hasV_ints a1
  obtain ⟨v2, rfl⟩ := Go.Tel.hasV_ints a2
  obtain ⟨v3, rfl⟩ := Go.Tel.hasV_int a3
  exact Go.Tel.PlateEnough_c Go.Tel.known v0 v1 v2 v3
end Go.Proofs.YtpjjdinlflfgkaaGreatDoor
