/-
  Part 11 of a law of desks.
  Conditions: none.
-/
import Derived.Test.YtbefoehadfnkbaaGreatDoorJourneymanStrikesM10
set_option linter.all false
set_option maxHeartbeats 4000000
namespace Go.Proofs.YtbefoehadfnkbaaGreatDoor
open Go.ChangeShapes Go.WideShapes Go.RowKit Go.Am
set_option maxRecDepth 100000 in
def atO:joinedFacts Tryz.prog 7 Tryz.f7 Rows.journeymanStrikesSpec Rows.journeymanStrikesRow=true:=by
 unfold joinedFacts;refine gG (gG (gG (gG (gG (gG (gG (gG (gG (gG (gG (gG (gG (gG (gG (gG (gG (gG (gG (gG (gG (gG (gG (gG (gG (gG (gG (gG (gG (gG (gG ?_ ?_) ?_) ?_) ?_) ?_) ?_) ?_) ?_) ?_) ?_) ?_) ?_) ?_) ?_) ?_) ?_) ?_) ?_) ?_) ?_) ?_) ?_) ?_) ?_) ?_) ?_) ?_) ?_) ?_) ?_) ?_
 all_goals(as_aux_lemma=>kernel_rfl)
set_option maxRecDepth 100000 in
def atP (adC:∀xs,Df [Go.Tel.Ir, .slice (Go.Tel.Ad), .slice (Go.Tel.Ad)] xs->Am.Pure Go.Tel.C 7 xs (.d (.bool true)) []):Rows.JourneymanStrikesSaid:=
 OpenClaim.holds_of_wide 7 Tryz.f7 rfl rfl rfl rfl rfl rfl rfl ⟨rfl,rfl,rfl,rfl,rfl⟩ rfl rfl rfl rfl rfl (by kernel_rfl) Tryz.func7 atO
  (of_decide_eq_true (by kernel_rfl)) (by unfold Func.isWrapper;first|(rw[if_pos (by decide+kernel)];kernel_rfl)|(rw[if_neg (by decide+kernel)];exact⟨rfl,rfl⟩))
  (fun os a H b _=>atM adC os a H b)
end Go.Proofs.YtbefoehadfnkbaaGreatDoor
