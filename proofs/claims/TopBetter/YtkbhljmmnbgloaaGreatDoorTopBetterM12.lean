/-
  Part 12 of a law of desks.
  Conditions: none.
-/
import Derived.Test.YtkbhljmmnbgloaaGreatDoorTopBetterM11
set_option linter.all false
set_option maxHeartbeats 4000000
namespace Go.Proofs.YtkbhljmmnbgloaaGreatDoor
open Go.ChangeShapes Go.WideShapes Go.RowKit Go.Am
set_option maxRecDepth 100000 in
def Ql:joinedFacts Tryz.prog 5 Tryz.f5 Rows.topBetterSpec Rows.topBetterRow=true:=by
 unfold joinedFacts;refine gK (gK (gK (gK (gK (gK (gK (gK (gK (gK (gK (gK (gK (gK (gK (gK (gK (gK (gK (gK (gK (gK (gK (gK (gK (gK (gK (gK (gK (gK (gK ?_ ?_) ?_) ?_) ?_) ?_) ?_) ?_) ?_) ?_) ?_) ?_) ?_) ?_) ?_) ?_) ?_) ?_) ?_) ?_) ?_) ?_) ?_) ?_) ?_) ?_) ?_) ?_) ?_) ?_) ?_) ?_
 all_goals(as_aux_lemma=>kernel_rfl)
set_option maxRecDepth 100000 in
def UE (abK:∀xs,Ed [Go.Tel.NW,Go.Tel.Xn] xs->Am.Pure Go.Tel.C 5 xs (.d (.bool true)) []):Rows.TopBetterSaid:=
 OpenClaim.holds_of_wide 5 Tryz.f5 rfl rfl rfl rfl rfl rfl rfl ⟨rfl,rfl,rfl,rfl,rfl⟩ rfl rfl rfl rfl rfl (by kernel_rfl) Tryz.func5 Ql
  (of_decide_eq_true (by kernel_rfl)) (by unfold Func.isWrapper;first|(rw[if_pos (by decide+kernel)];kernel_rfl)|(rw[if_neg (by decide+kernel)];exact⟨rfl,rfl⟩))
  (fun os a H b _=>OI abK os a H b)
end Go.Proofs.YtkbhljmmnbgloaaGreatDoor
