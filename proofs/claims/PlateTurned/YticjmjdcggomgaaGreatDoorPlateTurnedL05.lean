/-
  Part 5 of the proof of a law of plates, the law itself: an abstract machine over the model, contracts of functions, plain laws.
  Conditions: none.
-/
import Derived.Test.YticjmjdcggomgaaGreatDoorPlateTurnedL04
set_option linter.all false
namespace Go.Proofs.YticjmjdcggomgaaGreatDoor
open Go.ChangeShapes Go.WideShapes Go.RowKit Go.Am
set_option maxHeartbeats 4000000 in
set_option maxRecDepth 100000 in
theorem plateTurned_facts : joinedFacts Tryz.prog 4 Tryz.f4 Rows.plateTurnedSpec Rows.plateTurnedRow = true := by
 unfold joinedFacts
 refine and_tt (and_tt (and_tt (and_tt (and_tt (and_tt (and_tt (and_tt (and_tt (and_tt (and_tt (and_tt (and_tt (and_tt (and_tt (and_tt (and_tt (and_tt (and_tt (and_tt (and_tt (and_tt (and_tt (and_tt (and_tt (and_tt (and_tt (and_tt (and_tt (and_tt (and_tt ?_ ?_) ?_) ?_) ?_) ?_) ?_) ?_) ?_) ?_) ?_) ?_) ?_) ?_) ?_) ?_) ?_) ?_) ?_) ?_) ?_) ?_) ?_) ?_) ?_) ?_) ?_) ?_) ?_) ?_) ?_) ?_
 all_goals (as_aux_lemma => kernel_rfl)
set_option maxRecDepth 100000 in
theorem plateTurned_row (hlaw : ∀ xs, HasAll [Go.Tel.pieceTy, .int .i64, .int .i64] xs → Am.Pure Go.Tel.C 4 xs (.d (.bool true)) []) : Rows.PlateTurnedSaid :=
 OpenClaim.holds_of_wide 4 Tryz.f4 rfl rfl rfl rfl rfl rfl rfl ⟨rfl, rfl, rfl, rfl, rfl⟩ rfl rfl rfl rfl rfl (by kernel_rfl) Tryz.func4 plateTurned_facts
  (of_decide_eq_true (by kernel_rfl)) (by unfold Func.isWrapper; first | (rw [if_pos (by decide +kernel)]; kernel_rfl) | (rw [if_neg (by decide +kernel)]; exact ⟨rfl, rfl⟩))
  (fun os started H enc _ => plateTurned_lifted hlaw os started H enc)
end Go.Proofs.YticjmjdcggomgaaGreatDoor
