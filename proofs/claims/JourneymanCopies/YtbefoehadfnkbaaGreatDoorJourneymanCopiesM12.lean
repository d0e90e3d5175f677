/-
  Part 12 of a law of desks.
  Conditions: none.
-/
import Derived.Test.YtbefoehadfnkbaaGreatDoorJourneymanCopiesM11
import Derived.Test.YtbefoehadfnkbaaGreatDoorCards
import Derived.Test.YtbefoehadfnkbaaGreatDoorTie
import Derived.SevenTiedAt
set_option linter.all false
set_option maxHeartbeats 4000000
namespace Go.Proofs.YtbefoehadfnkbaaGreatDoor
open Go.ChangeShapes Go.WideShapes Go.RowKit Go.Am
set_option maxRecDepth 100000 in
def aJQ (aHt:∀xs,axL [Go.Tel.az9, .slice (Go.Tel.aqL), .slice (Go.Tel.aqL)] xs->Am.Pure Go.Tel.C 13 xs (.d (.bool true)) []):Rows.JourneymanCopiesCardSaid:=
 Claim7.holds_tied_plain_at .later [] [.data, .data, .data, .data, .pinned] true (true, "10916d6a50da4de06cf201e97dea62fb560b1855d457058128e996c1b79409dd") true
  (ay8 aHt) (fun _ h=>by cases h) (by as_aux_lemma=>kernel_rfl) (fun _ h=>by cases h) journeymanCopies_row_tie rfl ⟨rfl,rfl⟩ (by as_aux_lemma=>kernel_rfl) rfl
  (fun f fn g b=>by
   obtain rfl:f=13:=Option.some.inj ((show Tryz.prog.funcNamed "tellurion/tellurionlaw10.JourneymanCopies" =some 13 by as_aux_lemma=>kernel_rfl).symm.trans g)|>.symm
   obtain rfl:fn=Tryz.f13:=(Option.some.inj (Tryz.func13.symm.trans b)).symm;exact⟨by as_aux_lemma=>kernel_rfl,fun j t c=>by
    rw[Tryz.params13]at c;have e:t=35\/t=36\/t=84:=by
     have a:t∈([35,36,84]:List TypeId):=List.mem_of_getElem? (by simpa using c);simp only[List.mem_cons,List.not_mem_nil,or_false]at a
     rcases a with h|h|h<;>simp[h]
    rcases e with rfl|rfl|rfl
    ·exact(show Tryz.prog.wantsStandIn 35=false by kernel_rfl)
    ·exact(show Tryz.prog.wantsStandIn 36=false by kernel_rfl)
    ·exact(show Tryz.prog.wantsStandIn 84=false by kernel_rfl)⟩)
  (by as_aux_lemma=>kernel_rfl)
end Go.Proofs.YtbefoehadfnkbaaGreatDoor
