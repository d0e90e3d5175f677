/-
  Part 28 of the proof of a law of desks: an abstract machine over the model, contracts of functions, plain laws.
  Conditions: none.
-/
import Derived.Test.YtbefoehadfnkbaaGreatDoorJourneymanParsesM27
set_option linter.all false
namespace Go.Proofs.YtbefoehadfnkbaaGreatDoor
open Go.ChangeShapes Go.WideShapes Go.RowKit Go.Am
theorem arR:I9 Tryz.prog [.str] Tryz.f10.params.toList=true:=by kernel_rfl
set_option maxRecDepth 100000 in
theorem arI (aeJ:∀xs,Iu [.str] xs→Am.Pure Go.Tel.C 10 xs (.d (.bool true)) [])(os:Os)(started:os.Started)(H:Type)(enc:TypeId×Value→H):
  ReturnsInHanded {} Tryz.checked os 10 .any (fun w args=>(Rows.journeymanParsesSpec.pre enc Tryz.prog Tryz.f10 [] false w args∧laidMetH Tryz.prog Og w)∧sizedMet enc Tryz.prog Tryz.f10 (OpenSpec.ofChange Rows.journeymanParsesSpec) false w args)
   (Rows.journeymanParsesSpec.post enc Tryz.prog Tryz.f10 false true false false):=by
 refine returnsInHanded_of_change_and (C:=Tryz.checked) (X:=fun w _=>laidMetH Tryz.prog Og w) (fun _ _ _ hh h=>h.of_heap hh) own started (by kernel_rfl) Tryz.func10
  (ChangeSpec.witness_at (enc:=enc) (C:=Tryz.checked) (os:=os) (X:=fun w _=>laidMetH Tryz.prog Og w) false (World.laidAll Tryz.prog os Og)
   #[.string ByteArray.empty] 8 (World.laidAll_os _ _ _) (by kernel_rfl) (by kernel_rfl) (by kernel_rfl) (by kernel_rfl) (by kernel_rfl) (ahz os _)) ?_
 intro W base args ds gs before hval0 hW _ _ hL _
 have hW':=hW
 obtain⟨p,q,hA,hV,rfl,hfz,hnd⟩:=hW
 obtain⟨rfl,rfl⟩:=trodVars_none hV
 have hG:=ao0 hL
 refine(ahA (C:=Go.Tel.C) (P:=Tryz.prog) (Ts:=[.str]) rfl hG (Go.Tel.aoL hG) arR (fun j t v ht hv=>hval0 j t v (by simpa using ht) (by simpa using hv)) hA aeJ).mono ?_
 rintro e W' ⟨rfl,hb⟩
 refine⟨_,rfl,ajO (tb:=4) laidOut rfl hW' (by kernel_rfl) (by kernel_rfl) (fun t ht=> ?_) ?_ hb⟩
 ·have:t=9:=by
   rw[Tryz.params10]at ht
   change t∈([9]:List TypeId)at ht
   simp only[List.mem_cons,List.not_mem_nil,or_false]at ht
   exact ht
  rcases this with rfl
  ·exact⟨by kernel_rfl,of_decide_eq_true (by kernel_rfl)⟩
 ·have hl:=Vp hA
  rw[Tryz.params10]at hl
  obtain⟨d0,rfl⟩:=apY hl
  rfl
end Go.Proofs.YtbefoehadfnkbaaGreatDoor
