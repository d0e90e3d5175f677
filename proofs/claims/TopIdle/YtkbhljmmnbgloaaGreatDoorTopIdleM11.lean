/-
  Part 11 of a law of desks.
  Conditions: none.
-/
import Derived.Test.YtkbhljmmnbgloaaGreatDoorTopIdleM10
set_option linter.all false
set_option maxHeartbeats 4000000
namespace Go.Proofs.YtkbhljmmnbgloaaGreatDoor
open Go.ChangeShapes Go.WideShapes Go.RowKit Go.Am
set_option maxRecDepth 100000 in
def aml:joinedFacts Tryz.prog 4 Tryz.f4 Rows.topIdleSpec Rows.topIdleRow=true:=by
 unfold joinedFacts;refine fF (fF (fF (fF (fF (fF (fF (fF (fF (fF (fF (fF (fF (fF (fF (fF (fF (fF (fF (fF (fF (fF (fF (fF (fF (fF (fF (fF (fF (fF (fF ?_ ?_) ?_) ?_) ?_) ?_) ?_) ?_) ?_) ?_) ?_) ?_) ?_) ?_) ?_) ?_) ?_) ?_) ?_) ?_) ?_) ?_) ?_) ?_) ?_) ?_) ?_) ?_) ?_) ?_) ?_) ?_
 all_goals(as_aux_lemma=>kernel_rfl)
set_option maxRecDepth 100000 in
def amG (XK:∀xs,AX [Go.Tel.Fa,Go.Tel.NY, .int .i64, .int .i64, .int .i64] xs->Am.Pure Go.Tel.C 4 xs (.d (.bool true)) []):Rows.TopIdleSaid:=
 OpenClaim.holds_of_wide 4 Tryz.f4 rfl rfl rfl rfl rfl rfl rfl ⟨rfl,rfl,rfl,rfl,rfl⟩ rfl rfl rfl rfl rfl (by kernel_rfl) Tryz.func4 aml
  (of_decide_eq_true (by kernel_rfl)) (by unfold Func.isWrapper;first|(rw[if_pos (by decide+kernel)];kernel_rfl)|(rw[if_neg (by decide+kernel)];exact⟨rfl,rfl⟩))
  (fun os a H b _=>amj XK os a H b)
end Go.Proofs.YtkbhljmmnbgloaaGreatDoor
