/-
  Part 30 of the proof of a law of desks: an abstract machine over the model, contracts of functions, plain laws.
  Conditions: none.
-/
import Derived.Test.YtbefoehadfnkbaaGreatDoorJourneymanParsesM29
import Derived.Test.YtbefoehadfnkbaaGreatDoorCards
import Derived.Test.YtbefoehadfnkbaaGreatDoorTie
import Derived.SevenTiedAt
set_option linter.all false
set_option maxHeartbeats 4000000
namespace Go.Proofs.YtbefoehadfnkbaaGreatDoor
open Go.ChangeShapes Go.WideShapes Go.RowKit Go.Am
set_option maxRecDepth 100000 in
theorem ar8 (aeJ:∀xs,Iu [.str] xs→Am.Pure Go.Tel.C 10 xs (.d (.bool true)) []):Rows.JourneymanParsesCardSaid:=
 Claim7.holds_tied_plain_at .later [] [.data, .data, .data, .data, .pinned] true (true, "10916d6a50da4de06cf201e97dea62fb560b1855d457058128e996c1b79409dd") true
  (arQ aeJ) (fun _ h=>by cases h) (by as_aux_lemma=>kernel_rfl) (fun _ h=>by cases h) journeymanParses_row_tie rfl ⟨rfl,rfl⟩ (by as_aux_lemma=>kernel_rfl) rfl
  (fun f fn hf hfn=>by
   obtain rfl:f=10:=Option.some.inj ((show Tryz.prog.funcNamed "tellurion/tellurionlaw10.JourneymanParses" =some 10 by as_aux_lemma=>kernel_rfl).symm.trans hf)|>.symm
   obtain rfl:fn=Tryz.f10:=(Option.some.inj (Tryz.func10.symm.trans hfn)).symm
   exact⟨by as_aux_lemma=>kernel_rfl,fun j t ht=>by
    rw[Tryz.params10]at ht
    have h3:t=9:=by
     have ht':t∈([9]:List TypeId):=List.mem_of_getElem? (by simpa using ht)
     simp only[List.mem_cons,List.not_mem_nil,or_false]at ht'
     exact ht'
    rcases h3 with rfl
    ·exact(show Tryz.prog.wantsStandIn 9=false by kernel_rfl)⟩)
  (by as_aux_lemma=>kernel_rfl)
end Go.Proofs.YtbefoehadfnkbaaGreatDoor
