/-
  Part 29 of the proof of a law of desks: an abstract machine over the model, contracts of functions, plain laws.
  Conditions: none.
-/
import Derived.Test.YtbefoehadfnkbaaGreatDoorJourneymanLinesM28
import Derived.Test.YtbefoehadfnkbaaGreatDoorCards
import Derived.Test.YtbefoehadfnkbaaGreatDoorTie
import Derived.SevenTiedAt
set_option linter.all false
set_option maxHeartbeats 4000000
namespace Go.Proofs.YtbefoehadfnkbaaGreatDoor
open Go.ChangeShapes Go.WideShapes Go.RowKit Go.Am
set_option maxRecDepth 100000 in
theorem acd (aeJ:∀xs,Iu [Go.Tel.Fh] xs→Am.Pure Go.Tel.C 9 xs (.d (.bool true)) []):Rows.JourneymanLinesCardSaid:=
 Claim7.holds_tied_plain_at .later [] [.data, .data, .data, .data, .pinned] true (true, "10916d6a50da4de06cf201e97dea62fb560b1855d457058128e996c1b79409dd") true
  (NK aeJ) (fun _ h=>by cases h) (by as_aux_lemma=>kernel_rfl) (fun _ h=>by cases h) journeymanLines_row_tie rfl ⟨rfl,rfl⟩ (by as_aux_lemma=>kernel_rfl) rfl
  (fun f fn hf hfn=>by
   obtain rfl:f=9:=Option.some.inj ((show Tryz.prog.funcNamed "tellurion/tellurionlaw10.JourneymanLines" =some 9 by as_aux_lemma=>kernel_rfl).symm.trans hf)|>.symm
   obtain rfl:fn=Tryz.f9:=(Option.some.inj (Tryz.func9.symm.trans hfn)).symm
   exact⟨by as_aux_lemma=>kernel_rfl,fun j t ht=>by
    rw[Tryz.params9]at ht
    have h3:t=55:=by
     have ht':t∈([55]:List TypeId):=List.mem_of_getElem? (by simpa using ht)
     simp only[List.mem_cons,List.not_mem_nil,or_false]at ht'
     exact ht'
    rcases h3 with rfl
    ·exact(show Tryz.prog.wantsStandIn 55=false by kernel_rfl)⟩)
  (by as_aux_lemma=>kernel_rfl)
end Go.Proofs.YtbefoehadfnkbaaGreatDoor
