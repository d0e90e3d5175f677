/-
  Part 13 of a law of desks.
  Conditions: none.
-/
import Derived.Test.YtkbhljmmnbgloaaGreatDoorTopBetterM12
import Derived.Test.YtkbhljmmnbgloaaGreatDoorCards
import Derived.Test.YtkbhljmmnbgloaaGreatDoorTie
import Derived.SevenTiedAt
set_option linter.all false
set_option maxHeartbeats 4000000
namespace Go.Proofs.YtkbhljmmnbgloaaGreatDoor
open Go.ChangeShapes Go.WideShapes Go.RowKit Go.Am
set_option maxRecDepth 100000 in
def ajP (abK:∀xs,Ed [Go.Tel.NW,Go.Tel.Xn] xs->Am.Pure Go.Tel.C 5 xs (.d (.bool true)) []):Rows.TopBetterCardSaid:=
 Claim7.holds_tied_plain_at .later [] [.data, .data, .data, .data, .pinned] true (true, "8203212ac23b2da707031fe617061f62d99d1c44dfc24e7922aef608d977be5d") true
  (UE abK) (fun _ h=>by cases h) (by as_aux_lemma=>kernel_rfl) (fun _ h=>by cases h) topBetter_row_tie rfl ⟨rfl,rfl⟩ (by as_aux_lemma=>kernel_rfl) rfl
  (fun f fn g b=>by
   obtain rfl:f=5:=Option.some.inj ((show Tryz.prog.funcNamed "tellurion/telluriontop.TopBetter" =some 5 by as_aux_lemma=>kernel_rfl).symm.trans g)|>.symm
   obtain rfl:fn=Tryz.f5:=(Option.some.inj (Tryz.func5.symm.trans b)).symm;exact⟨by as_aux_lemma=>kernel_rfl,fun j t c=>by
    rw[Tryz.params5]at c;have e:t=64\/t=54:=by
     have a:t∈([64,54]:List TypeId):=List.mem_of_getElem? (by simpa using c);simp only[List.mem_cons,List.not_mem_nil,or_false]at a
     rcases a with h|h<;>simp[h]
    rcases e with rfl|rfl
    ·exact(show Tryz.prog.wantsStandIn 64=false by kernel_rfl)
    ·exact(show Tryz.prog.wantsStandIn 54=false by kernel_rfl)⟩)
  (by as_aux_lemma=>kernel_rfl)
end Go.Proofs.YtkbhljmmnbgloaaGreatDoor
