/-
  Part 10 of a law of desks.
  Conditions: none.
-/
import Derived.Test.YtbefoehadfnkbaaGreatDoorJourneymanConsolesM09
set_option linter.all false
namespace Go.Proofs.YtbefoehadfnkbaaGreatDoor
open Go.ChangeShapes Go.WideShapes Go.RowKit Go.Am
def EH:Dq Tryz.prog [Go.Tel.Hg, .str] Tryz.f8.params.toList=true:=by kernel_rfl
set_option maxRecDepth 100000 in
def zT (Uo:∀xs,Ce [Go.Tel.Hg, .str] xs->Am.Pure Go.Tel.C 8 xs (.d (.bool true)) [])(os:Os)(a:os.Started)(H:Type)(enc:TypeId×Value->H):
  ReturnsInHanded {} Tryz.checked os 8 .any (fun w args=>(Rows.journeymanConsolesSpec.pre enc Tryz.prog Tryz.f8 [] false w args/\laidMetH Tryz.prog H6 w)/\sizedMet enc Tryz.prog Tryz.f8 (OpenSpec.ofChange Rows.journeymanConsolesSpec) false w args)
   (Rows.journeymanConsolesSpec.post enc Tryz.prog Tryz.f8 false true false false):=by
 refine returnsInHanded_of_change_and (C:=Tryz.checked) (X:=fun w _=>laidMetH Tryz.prog H6 w) (fun _ _ _ hh h=>h.of_heap hh) own a (by kernel_rfl) Tryz.func8
  (ChangeSpec.witness_at (enc:=enc) (C:=Tryz.checked) (os:=os) (X:=fun w _=>laidMetH Tryz.prog H6 w) false (World.laidAll Tryz.prog os H6)
   #[.agg #[.slice none 0 0, .slice none 0 0, .slice none 0 0, .int .i64 0, .int .i64 0, .slice none 0 0, .int .i64 0, .slice none 0 0, .int .i64 0, .int .i64 0, .int .i64 0, .slice none 0 0, .int .i64 0, .int .i64 0, .int .i64 0, .int .i64 0, .int .i64 0], .string ByteArray.empty] 8 (World.laidAll_os _ _ _) (by kernel_rfl) (by kernel_rfl) (by kernel_rfl) (by kernel_rfl) (by kernel_rfl) (afb os _)) ?_
 intro W i args ds D f b m _ _ o _;have g:=m;obtain⟨p,q,k,r,rfl,u,x⟩:=m;obtain⟨rfl,rfl⟩:=trodVars_none r;have l:=anR o;refine(afc (C:=Go.Tel.C) (P:=Tryz.prog) (Ts:=[Go.Tel.Hg, .str]) rfl l (Go.Tel.anw l) EH (fun j t v c y=>b j t v (by simpa using c) (by simpa using y)) k Uo).mono ?_;rintro e z ⟨rfl,s⟩;refine⟨_,rfl,ahF (tb:=4) laidOut rfl g (by kernel_rfl) (by kernel_rfl) (fun t c=> ?_) ?_ s⟩
 ·have:t=35\/t=9:=by
   rw[Tryz.params8]at c
   change t∈([35,9]:List TypeId)at c
   simp only[List.mem_cons,List.not_mem_nil,or_false]at c
   rcases c with h|h<;>simp[h]
  rcases this with rfl|rfl
  ·exact⟨by kernel_rfl,of_decide_eq_true (by kernel_rfl)⟩
  ·exact⟨by kernel_rfl,of_decide_eq_true (by kernel_rfl)⟩
 ·have n:=PN k
  rw[Tryz.params8]at n;obtain⟨A,B,rfl⟩:=aoP n
  rfl
end Go.Proofs.YtbefoehadfnkbaaGreatDoor
