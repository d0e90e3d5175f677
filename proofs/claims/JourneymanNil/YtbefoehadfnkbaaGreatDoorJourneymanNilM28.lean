/-
  Part 28 of the proof of a law of desks: an abstract machine over the model, contracts of functions, plain laws.
  Conditions: none.
-/
import Derived.Test.YtbefoehadfnkbaaGreatDoorJourneymanNilM27
set_option linter.all false
set_option maxHeartbeats 4000000
namespace Go.Proofs.YtbefoehadfnkbaaGreatDoor
open Go.ChangeShapes Go.WideShapes Go.RowKit Go.Am
set_option maxRecDepth 100000 in
theorem Ns:joinedFacts Tryz.prog 11 Tryz.f11 Rows.journeymanNilSpec Rows.journeymanNilRow=true:=by
 unfold joinedFacts
 refine fV (fV (fV (fV (fV (fV (fV (fV (fV (fV (fV (fV (fV (fV (fV (fV (fV (fV (fV (fV (fV (fV (fV (fV (fV (fV (fV (fV (fV (fV (fV ?_ ?_) ?_) ?_) ?_) ?_) ?_) ?_) ?_) ?_) ?_) ?_) ?_) ?_) ?_) ?_) ?_) ?_) ?_) ?_) ?_) ?_) ?_) ?_) ?_) ?_) ?_) ?_) ?_) ?_) ?_) ?_
 all_goals(as_aux_lemma=>kernel_rfl)
set_option maxRecDepth 100000 in
theorem Qg (adE:∀xs,Ii [Go.Tel.mg,Go.Tel.mg] xs→Am.Pure Go.Tel.C 11 xs (.d (.bool true)) []):Rows.JourneymanNilSaid:=
 OpenClaim.holds_of_wide 11 Tryz.f11 rfl rfl rfl rfl rfl rfl rfl ⟨rfl,rfl,rfl,rfl,rfl⟩ rfl rfl rfl rfl rfl (by kernel_rfl) Tryz.func11 Ns
  (of_decide_eq_true (by kernel_rfl)) (by unfold Func.isWrapper;first|(rw[if_pos (by decide+kernel)];kernel_rfl)|(rw[if_neg (by decide+kernel)];exact⟨rfl,rfl⟩))
  (fun os started H enc _=>KI adE os started H enc)
end Go.Proofs.YtbefoehadfnkbaaGreatDoor
