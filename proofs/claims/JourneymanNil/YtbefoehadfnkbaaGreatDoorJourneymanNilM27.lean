/-
  Part 27 of the proof of a law of desks: an abstract machine over the model, contracts of functions, plain laws.
  Conditions: none.
-/
import Derived.Test.YtbefoehadfnkbaaGreatDoorJourneymanNilM26
set_option linter.all false
namespace Go.Proofs.YtbefoehadfnkbaaGreatDoor
open Go.ChangeShapes Go.WideShapes Go.RowKit Go.Am
theorem RY:IV Tryz.prog [Go.Tel.mg,Go.Tel.mg] Tryz.f11.params.toList=true:=by kernel_rfl
set_option maxRecDepth 100000 in
theorem KI (adE:∀xs,Ii [Go.Tel.mg,Go.Tel.mg] xs→Am.Pure Go.Tel.C 11 xs (.d (.bool true)) [])(os:Os)(started:os.Started)(H:Type)(enc:TypeId×Value→H):
  ReturnsInHanded {} Tryz.checked os 11 .any (fun w args=>(Rows.journeymanNilSpec.pre enc Tryz.prog Tryz.f11 [] false w args∧laidMetH Tryz.prog NS w)∧sizedMet enc Tryz.prog Tryz.f11 (OpenSpec.ofChange Rows.journeymanNilSpec) false w args)
   (Rows.journeymanNilSpec.post enc Tryz.prog Tryz.f11 false true false false):=by
 refine returnsInHanded_of_change_and (C:=Tryz.checked) (X:=fun w _=>laidMetH Tryz.prog NS w) (fun _ _ _ hh h=>h.of_heap hh) own started (by kernel_rfl) Tryz.func11
  (ChangeSpec.witness_at (enc:=enc) (C:=Tryz.checked) (os:=os) (X:=fun w _=>laidMetH Tryz.prog NS w) false (World.laidAll Tryz.prog os NS)
   #[.agg #[.int .i64 0, .slice none 0 0], .agg #[.int .i64 0, .slice none 0 0]] 8 (World.laidAll_os _ _ _) (by kernel_rfl) (by kernel_rfl) (by kernel_rfl) (by kernel_rfl) (by kernel_rfl) (agz os _)) ?_
 intro W base args ds gs before hval0 hW _ _ hL _
 have hW':=hW
 obtain⟨p,q,hA,hV,rfl,hfz,hnd⟩:=hW
 obtain⟨rfl,rfl⟩:=trodVars_none hV
 have hG:=anN hL
 refine(agA (C:=Go.Tel.C) (P:=Tryz.prog) (Ts:=[Go.Tel.mg,Go.Tel.mg]) rfl hG (Go.Tel.anz hG) RY (fun j t v ht hv=>hval0 j t v (by simpa using ht) (by simpa using hv)) hA adE).mono ?_
 rintro e W' ⟨rfl,hb⟩
 refine⟨_,rfl,aiK (tb:=4) laidOut rfl hW' (by kernel_rfl) (by kernel_rfl) (fun t ht=> ?_) ?_ hb⟩
 ·have:t=55∨t=51:=by
   rw[Tryz.params11]at ht
   change t∈([55,51]:List TypeId)at ht
   simp only[List.mem_cons,List.not_mem_nil,or_false]at ht
   rcases ht with h|h<;>simp[h]
  rcases this with rfl|rfl
  ·exact⟨by kernel_rfl,of_decide_eq_true (by kernel_rfl)⟩
  ·exact⟨by kernel_rfl,of_decide_eq_true (by kernel_rfl)⟩
 ·have hl:=UQ hA
  rw[Tryz.params11]at hl
  obtain⟨d0,d1,rfl⟩:=aoH hl
  rfl
end Go.Proofs.YtbefoehadfnkbaaGreatDoor
