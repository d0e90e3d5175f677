/-
  Part 11 of a law of desks.
  Conditions: none.
-/
import Derived.Test.YtbefoehadfnkbaaGreatDoorJourneymanEntersM10
set_option linter.all false
set_option maxHeartbeats 4000000
namespace Go.Proofs.YtbefoehadfnkbaaGreatDoor
open Go.ChangeShapes Go.WideShapes Go.RowKit Go.Am
set_option maxRecDepth 100000 in
def ayL:joinedFacts Tryz.prog 14 Tryz.f14 Rows.journeymanEntersSpec Rows.journeymanEntersRow=true:=by
 unfold joinedFacts;refine gG (gG (gG (gG (gG (gG (gG (gG (gG (gG (gG (gG (gG (gG (gG (gG (gG (gG (gG (gG (gG (gG (gG (gG (gG (gG (gG (gG (gG (gG (gG ?_ ?_) ?_) ?_) ?_) ?_) ?_) ?_) ?_) ?_) ?_) ?_) ?_) ?_) ?_) ?_) ?_) ?_) ?_) ?_) ?_) ?_) ?_) ?_) ?_) ?_) ?_) ?_) ?_) ?_) ?_) ?_
 all_goals(as_aux_lemma=>kernel_rfl)
set_option maxRecDepth 100000 in
def ayM (adC:∀xs,Df [Go.Tel.Ir, .slice (Go.Tel.Ad), .slice (Go.Tel.Ad)] xs->Am.Pure Go.Tel.C 14 xs (.d (.bool true)) []):Rows.JourneymanEntersSaid:=
 OpenClaim.holds_of_wide 14 Tryz.f14 rfl rfl rfl rfl rfl rfl rfl ⟨rfl,rfl,rfl,rfl,rfl⟩ rfl rfl rfl rfl rfl (by kernel_rfl) Tryz.func14 ayL
  (of_decide_eq_true (by kernel_rfl)) (by unfold Func.isWrapper;first|(rw[if_pos (by decide+kernel)];kernel_rfl)|(rw[if_neg (by decide+kernel)];exact⟨rfl,rfl⟩))
  (fun os a H b _=>ayK adC os a H b)
end Go.Proofs.YtbefoehadfnkbaaGreatDoor
