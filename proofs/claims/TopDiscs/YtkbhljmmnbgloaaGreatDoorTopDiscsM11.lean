/-
  Part 11 of a law of desks.
  Conditions: none.
-/
import Derived.Test.YtkbhljmmnbgloaaGreatDoorTopDiscsM10
import Derived.Test.YtkbhljmmnbgloaaGreatDoorCards
import Derived.Test.YtkbhljmmnbgloaaGreatDoorTie
import Derived.SevenTiedAt
set_option linter.all false
set_option maxHeartbeats 4000000
namespace Go.Proofs.YtkbhljmmnbgloaaGreatDoor
open Go.ChangeShapes Go.WideShapes Go.RowKit Go.Am
set_option maxRecDepth 100000 in
def afc (XK:∀xs,AX [Go.Tel.Fa, .int .i64,Go.Tel.NY] xs->Am.Pure Go.Tel.C 3 xs (.d (.bool true)) []):Rows.TopDiscsCardSaid:=
 Claim7.holds_tied_plain_at .later [] [.data, .data, .data, .data, .pinned] true (true, "8203212ac23b2da707031fe617061f62d99d1c44dfc24e7922aef608d977be5d") true
  (Ti XK) (fun _ h=>by cases h) (by as_aux_lemma=>kernel_rfl) (fun _ h=>by cases h) topDiscs_row_tie rfl ⟨rfl,rfl⟩ (by as_aux_lemma=>kernel_rfl) rfl
  (fun f fn g b=>by
   obtain rfl:f=3:=Option.some.inj ((show Tryz.prog.funcNamed "tellurion/telluriontop.TopDiscs" =some 3 by as_aux_lemma=>kernel_rfl).symm.trans g)|>.symm
   obtain rfl:fn=Tryz.f3:=(Option.some.inj (Tryz.func3.symm.trans b)).symm;exact⟨by as_aux_lemma=>kernel_rfl,fun j t c=>by
    rw[Tryz.params3]at c;have e:t=26\/t=3\/t=28:=by
     have a:t∈([26,3,28]:List TypeId):=List.mem_of_getElem? (by simpa using c);simp only[List.mem_cons,List.not_mem_nil,or_false]at a
     rcases a with h|h|h<;>simp[h]
    rcases e with rfl|rfl|rfl
    ·exact(show Tryz.prog.wantsStandIn 26=false by kernel_rfl)
    ·exact(show Tryz.prog.wantsStandIn 3=false by kernel_rfl)
    ·exact(show Tryz.prog.wantsStandIn 28=false by kernel_rfl)⟩)
  (by as_aux_lemma=>kernel_rfl)
end Go.Proofs.YtkbhljmmnbgloaaGreatDoor
