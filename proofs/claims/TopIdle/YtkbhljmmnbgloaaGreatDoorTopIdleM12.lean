/-
  Part 12 of a law of desks.
  Conditions: none.
-/
import Derived.Test.YtkbhljmmnbgloaaGreatDoorTopIdleM11
import Derived.Test.YtkbhljmmnbgloaaGreatDoorCards
import Derived.Test.YtkbhljmmnbgloaaGreatDoorTie
import Derived.SevenTiedAt
set_option linter.all false
set_option maxHeartbeats 4000000
namespace Go.Proofs.YtkbhljmmnbgloaaGreatDoor
open Go.ChangeShapes Go.WideShapes Go.RowKit Go.Am
set_option maxRecDepth 100000 in
def ang (XK:∀xs,AX [Go.Tel.Fa,Go.Tel.NY, .int .i64, .int .i64, .int .i64] xs->Am.Pure Go.Tel.C 4 xs (.d (.bool true)) []):Rows.TopIdleCardSaid:=
 Claim7.holds_tied_plain_at .later [] [.data, .data, .data, .data, .pinned] true (true, "8203212ac23b2da707031fe617061f62d99d1c44dfc24e7922aef608d977be5d") true
  (amG XK) (fun _ h=>by cases h) (by as_aux_lemma=>kernel_rfl) (fun _ h=>by cases h) topIdle_row_tie rfl ⟨rfl,rfl⟩ (by as_aux_lemma=>kernel_rfl) rfl
  (fun f fn g b=>by
   obtain rfl:f=4:=Option.some.inj ((show Tryz.prog.funcNamed "tellurion/telluriontop.TopIdle" =some 4 by as_aux_lemma=>kernel_rfl).symm.trans g)|>.symm
   obtain rfl:fn=Tryz.f4:=(Option.some.inj (Tryz.func4.symm.trans b)).symm;exact⟨by as_aux_lemma=>kernel_rfl,fun j t c=>by
    rw[Tryz.params4]at c;have e:t=26\/t=28\/t=3:=by
     have a:t∈([26,28,3,3,3]:List TypeId):=List.mem_of_getElem? (by simpa using c);simp only[List.mem_cons,List.not_mem_nil,or_false]at a
     rcases a with h|h|h|h|h<;>simp[h]
    rcases e with rfl|rfl|rfl
    ·exact(show Tryz.prog.wantsStandIn 26=false by kernel_rfl)
    ·exact(show Tryz.prog.wantsStandIn 28=false by kernel_rfl)
    ·exact(show Tryz.prog.wantsStandIn 3=false by kernel_rfl)⟩)
  (by as_aux_lemma=>kernel_rfl)
end Go.Proofs.YtkbhljmmnbgloaaGreatDoor
