/-
  Part 10 of a law of desks.
  Conditions: none.
-/
import Derived.Test.YtbefoehadfnkbaaGreatDoorJourneymanCopiesM09
set_option linter.all false
namespace Go.Proofs.YtbefoehadfnkbaaGreatDoor
open Go.ChangeShapes Go.WideShapes Go.RowKit Go.Am
def aAc:ax5 Tryz.prog [Go.Tel.az9, .slice (Go.Tel.aqL), .slice (Go.Tel.aqL)] Tryz.f13.params.toList=true:=by kernel_rfl
set_option maxRecDepth 100000 in
def axj (aHt:∀xs,axL [Go.Tel.az9, .slice (Go.Tel.aqL), .slice (Go.Tel.aqL)] xs->Am.Pure Go.Tel.C 13 xs (.d (.bool true)) [])(os:Os)(a:os.Started)(H:Type)(enc:TypeId×Value->H):
  ReturnsInHanded {} Tryz.checked os 13 .any (fun w args=>(Rows.journeymanCopiesSpec.pre enc Tryz.prog Tryz.f13 [] false w args/\laidMetH Tryz.prog aAk w)/\sizedMet enc Tryz.prog Tryz.f13 (OpenSpec.ofChange Rows.journeymanCopiesSpec) false w args)
   (Rows.journeymanCopiesSpec.post enc Tryz.prog Tryz.f13 false true false false):=by
 refine returnsInHanded_of_change_and (C:=Tryz.checked) (X:=fun w _=>laidMetH Tryz.prog aAk w) (fun _ _ _ hh h=>h.of_heap hh) own a (by kernel_rfl) Tryz.func13
  (ChangeSpec.witness_at (enc:=enc) (C:=Tryz.checked) (os:=os) (X:=fun w _=>laidMetH Tryz.prog aAk w) false (World.laidAll Tryz.prog os aAk)
   #[.agg #[.slice none 0 0, .slice none 0 0, .slice none 0 0, .int .i64 0, .int .i64 0, .slice none 0 0, .int .i64 0, .slice none 0 0, .int .i64 0, .int .i64 0, .int .i64 0, .slice none 0 0, .int .i64 0, .int .i64 0, .int .i64 0, .int .i64 0, .int .i64 0], .slice none 0 0, .slice none 0 0] 8 (World.laidAll_os _ _ _) (by kernel_rfl) (by kernel_rfl) (by kernel_rfl) (by kernel_rfl) (by kernel_rfl) (aP2 os _)) ?_
 intro W i args ds E f b m _ _ o _;have g:=m;obtain⟨p,q,k,r,rfl,u,x⟩:=m;obtain⟨rfl,rfl⟩:=trodVars_none r;have l:=aYC o;refine(aP3 (C:=Go.Tel.C) (P:=Tryz.prog) (Ts:=[Go.Tel.az9, .slice (Go.Tel.aqL), .slice (Go.Tel.aqL)]) rfl l (Go.Tel.aYh l) aAc (fun j t v c y=>b j t v (by simpa using c) (by simpa using y)) k aHt).mono ?_;rintro e z ⟨rfl,s⟩;refine⟨_,rfl,aSx (tb:=4) laidOut rfl g (by kernel_rfl) (by kernel_rfl) (fun t c=> ?_) ?_ s⟩
 ·have:t=35\/t=36\/t=84:=by
   rw[Tryz.params13]at c
   change t∈([35,36,84]:List TypeId)at c
   simp only[List.mem_cons,List.not_mem_nil,or_false]at c
   rcases c with h|h|h<;>simp[h]
  rcases this with rfl|rfl|rfl
  ·exact⟨by kernel_rfl,of_decide_eq_true (by kernel_rfl)⟩
  ·exact⟨by kernel_rfl,of_decide_eq_true (by kernel_rfl)⟩
  ·exact⟨by kernel_rfl,of_decide_eq_true (by kernel_rfl)⟩
 ·have n:=aET k
  rw[Tryz.params13]at n;obtain⟨A,B,D,rfl⟩:=aZC n
  rfl
end Go.Proofs.YtbefoehadfnkbaaGreatDoor
