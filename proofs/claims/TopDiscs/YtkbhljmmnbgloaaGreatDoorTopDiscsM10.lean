/-
  Part 10 of a law of desks.
  Conditions: none.
-/
import Derived.Test.YtkbhljmmnbgloaaGreatDoorTopDiscsM09
set_option linter.all false
set_option maxHeartbeats 4000000
namespace Go.Proofs.YtkbhljmmnbgloaaGreatDoor
open Go.ChangeShapes Go.WideShapes Go.RowKit Go.Am
set_option maxRecDepth 100000 in
def OE:joinedFacts Tryz.prog 3 Tryz.f3 Rows.topDiscsSpec Rows.topDiscsRow=true:=by
 unfold joinedFacts;refine fF (fF (fF (fF (fF (fF (fF (fF (fF (fF (fF (fF (fF (fF (fF (fF (fF (fF (fF (fF (fF (fF (fF (fF (fF (fF (fF (fF (fF (fF (fF ?_ ?_) ?_) ?_) ?_) ?_) ?_) ?_) ?_) ?_) ?_) ?_) ?_) ?_) ?_) ?_) ?_) ?_) ?_) ?_) ?_) ?_) ?_) ?_) ?_) ?_) ?_) ?_) ?_) ?_) ?_) ?_
 all_goals(as_aux_lemma=>kernel_rfl)
set_option maxRecDepth 100000 in
def Ti (XK:∀xs,AX [Go.Tel.Fa, .int .i64,Go.Tel.NY] xs->Am.Pure Go.Tel.C 3 xs (.d (.bool true)) []):Rows.TopDiscsSaid:=
 OpenClaim.holds_of_wide 3 Tryz.f3 rfl rfl rfl rfl rfl rfl rfl ⟨rfl,rfl,rfl,rfl,rfl⟩ rfl rfl rfl rfl rfl (by kernel_rfl) Tryz.func3 OE
  (of_decide_eq_true (by kernel_rfl)) (by unfold Func.isWrapper;first|(rw[if_pos (by decide+kernel)];kernel_rfl)|(rw[if_neg (by decide+kernel)];exact⟨rfl,rfl⟩))
  (fun os a H b _=>LJ XK os a H b)
end Go.Proofs.YtkbhljmmnbgloaaGreatDoor
