/-
  Part 4 of the proof of a law of plates, the law itself: an abstract machine over the model, contracts of functions, plain laws.
  Conditions: none.
-/
import Derived.Test.YtpjjdinlflfgkabGreatDoorPlateFirstL03
set_option linter.all false
namespace Go.Proofs.YtpjjdinlflfgkabGreatDoor
open Go.ChangeShapes Go.WideShapes Go.RowKit Go.Am
set_option maxRecDepth 100000 in
theorem plateFirst_row (hlaw : ∀ xs, HasAll [Go.Tel.pieceTy, .int .i64, .int .i64] xs → Am.Pure Go.Tel.C 3 xs (.d (.bool true)) []) : Rows.PlateFirstSaid :=
 OpenClaim.holds_of_wide 3 Tryz.f3 rfl rfl rfl rfl rfl rfl rfl ⟨rfl, rfl, rfl, rfl, rfl⟩ rfl rfl rfl rfl rfl (by kernel_rfl) Tryz.func3 (by kernel_rfl)
  (of_decide_eq_true (by kernel_rfl)) (by unfold Func.isWrapper; first | (rw [if_pos (by decide +kernel)]; kernel_rfl) | (rw [if_neg (by decide +kernel)]; exact ⟨rfl, rfl⟩))
  (fun os started H enc _ => plateFirst_lifted hlaw os started H enc)
end Go.Proofs.YtpjjdinlflfgkabGreatDoor
