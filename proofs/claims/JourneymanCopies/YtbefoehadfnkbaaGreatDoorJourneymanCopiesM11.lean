/-
  Part 11 of a law of desks.
  Conditions: none.
-/
import Derived.Test.YtbefoehadfnkbaaGreatDoorJourneymanCopiesM10
set_option linter.all false
set_option maxHeartbeats 4000000
namespace Go.Proofs.YtbefoehadfnkbaaGreatDoor
open Go.ChangeShapes Go.WideShapes Go.RowKit Go.Am
set_option maxRecDepth 100000 in
def axY:joinedFacts Tryz.prog 13 Tryz.f13 Rows.journeymanCopiesSpec Rows.journeymanCopiesRow=true:=by
 unfold joinedFacts;refine apk (apk (apk (apk (apk (apk (apk (apk (apk (apk (apk (apk (apk (apk (apk (apk (apk (apk (apk (apk (apk (apk (apk (apk (apk (apk (apk (apk (apk (apk (apk ?_ ?_) ?_) ?_) ?_) ?_) ?_) ?_) ?_) ?_) ?_) ?_) ?_) ?_) ?_) ?_) ?_) ?_) ?_) ?_) ?_) ?_) ?_) ?_) ?_) ?_) ?_) ?_) ?_) ?_) ?_) ?_
 all_goals(as_aux_lemma=>kernel_rfl)
set_option maxRecDepth 100000 in
def ay8 (aHt:∀xs,axL [Go.Tel.az9, .slice (Go.Tel.aqL), .slice (Go.Tel.aqL)] xs->Am.Pure Go.Tel.C 13 xs (.d (.bool true)) []):Rows.JourneymanCopiesSaid:=
 OpenClaim.holds_of_wide 13 Tryz.f13 rfl rfl rfl rfl rfl rfl rfl ⟨rfl,rfl,rfl,rfl,rfl⟩ rfl rfl rfl rfl rfl (by kernel_rfl) Tryz.func13 axY
  (of_decide_eq_true (by kernel_rfl)) (by unfold Func.isWrapper;first|(rw[if_pos (by decide+kernel)];kernel_rfl)|(rw[if_neg (by decide+kernel)];exact⟨rfl,rfl⟩))
  (fun os a H b _=>axj aHt os a H b)
end Go.Proofs.YtbefoehadfnkbaaGreatDoor
