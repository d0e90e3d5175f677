/-
  Part 29 of the proof of a law of desks: an abstract machine over the model, contracts of functions, plain laws.
  Conditions: none.
-/
import Derived.Test.YtbefoehadfnkbaaGreatDoorJourneymanParsesM28
set_option linter.all false
set_option maxHeartbeats 4000000
namespace Go.Proofs.YtbefoehadfnkbaaGreatDoor
open Go.ChangeShapes Go.WideShapes Go.RowKit Go.Am
set_option maxRecDepth 100000 in
theorem arL:joinedFacts Tryz.prog 10 Tryz.f10 Rows.journeymanParsesSpec Rows.journeymanParsesRow=true:=by
 unfold joinedFacts
 refine fV (fV (fV (fV (fV (fV (fV (fV (fV (fV (fV (fV (fV (fV (fV (fV (fV (fV (fV (fV (fV (fV (fV (fV (fV (fV (fV (fV (fV (fV (fV ?_ ?_) ?_) ?_) ?_) ?_) ?_) ?_) ?_) ?_) ?_) ?_) ?_) ?_) ?_) ?_) ?_) ?_) ?_) ?_) ?_) ?_) ?_) ?_) ?_) ?_) ?_) ?_) ?_) ?_) ?_) ?_
 all_goals(as_aux_lemma=>kernel_rfl)
set_option maxRecDepth 100000 in
theorem arQ (aeJ:∀xs,Iu [.str] xs→Am.Pure Go.Tel.C 10 xs (.d (.bool true)) []):Rows.JourneymanParsesSaid:=
 OpenClaim.holds_of_wide 10 Tryz.f10 rfl rfl rfl rfl rfl rfl rfl ⟨rfl,rfl,rfl,rfl,rfl⟩ rfl rfl rfl rfl rfl (by kernel_rfl) Tryz.func10 arL
  (of_decide_eq_true (by kernel_rfl)) (by unfold Func.isWrapper;first|(rw[if_pos (by decide+kernel)];kernel_rfl)|(rw[if_neg (by decide+kernel)];exact⟨rfl,rfl⟩))
  (fun os started H enc _=>arI aeJ os started H enc)
end Go.Proofs.YtbefoehadfnkbaaGreatDoor
