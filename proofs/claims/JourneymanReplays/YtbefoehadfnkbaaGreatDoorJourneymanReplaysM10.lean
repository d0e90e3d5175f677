/-
  Part 10 of a law of desks.
  Conditions: none.
-/
import Derived.Test.YtbefoehadfnkbaaGreatDoorJourneymanReplaysM09
set_option linter.all false
namespace Go.Proofs.YtbefoehadfnkbaaGreatDoor
open Go.ChangeShapes Go.WideShapes Go.RowKit Go.Am
def Fe:Dq Tryz.prog [Go.Tel.He, .str, .slice (Go.Tel.Ae)] Tryz.f15.params.toList=true:=by kernel_rfl
set_option maxRecDepth 100000 in
def AZ (UJ:∀xs,CJ [Go.Tel.He, .str, .slice (Go.Tel.Ae)] xs->Am.Pure Go.Tel.C 15 xs (.d (.bool true)) [])(os:Os)(a:os.Started)(H:Type)(enc:TypeId×Value->H):
  ReturnsInHanded {} Tryz.checked os 15 .any (fun w args=>(Rows.journeymanReplaysSpec.pre enc Tryz.prog Tryz.f15 [] false w args/\laidMetH Tryz.prog Hw w)/\sizedMet enc Tryz.prog Tryz.f15 (OpenSpec.ofChange Rows.journeymanReplaysSpec) false w args)
   (Rows.journeymanReplaysSpec.post enc Tryz.prog Tryz.f15 false true false false):=by
 refine returnsInHanded_of_change_and (C:=Tryz.checked) (X:=fun w _=>laidMetH Tryz.prog Hw w) (fun _ _ _ hh h=>h.of_heap hh) own a (by kernel_rfl) Tryz.func15
  (ChangeSpec.witness_at (enc:=enc) (C:=Tryz.checked) (os:=os) (X:=fun w _=>laidMetH Tryz.prog Hw w) false (World.laidAll Tryz.prog os Hw)
   #[.agg #[.slice none 0 0, .slice none 0 0, .slice none 0 0, .int .i64 0, .int .i64 0, .slice none 0 0, .int .i64 0, .slice none 0 0, .int .i64 0, .int .i64 0, .int .i64 0, .slice none 0 0, .int .i64 0, .int .i64 0, .int .i64 0, .int .i64 0, .int .i64 0], .string ByteArray.empty, .slice none 0 0] 8 (World.laidAll_os _ _ _) (by kernel_rfl) (by kernel_rfl) (by kernel_rfl) (by kernel_rfl) (by kernel_rfl) (ae0 os _)) ?_
 intro W i args ds E f b m _ _ o _;have g:=m;obtain⟨p,q,k,r,rfl,u,x⟩:=m;obtain⟨rfl,rfl⟩:=trodVars_none r;have l:=anS o;refine(ae1 (C:=Go.Tel.C) (P:=Tryz.prog) (Ts:=[Go.Tel.He, .str, .slice (Go.Tel.Ae)]) rfl l (Go.Tel.anw l) Fe (fun j t v c y=>b j t v (by simpa using c) (by simpa using y)) k UJ).mono ?_;rintro e z ⟨rfl,s⟩;refine⟨_,rfl,ahz (tb:=4) laidOut rfl g (by kernel_rfl) (by kernel_rfl) (fun t c=> ?_) ?_ s⟩
 ·have:t=35\/t=9\/t=84:=by
   rw[Tryz.params15]at c
   change t∈([35,9,84]:List TypeId)at c
   simp only[List.mem_cons,List.not_mem_nil,or_false]at c
   rcases c with h|h|h<;>simp[h]
  rcases this with rfl|rfl|rfl
  ·exact⟨by kernel_rfl,of_decide_eq_true (by kernel_rfl)⟩
  ·exact⟨by kernel_rfl,of_decide_eq_true (by kernel_rfl)⟩
  ·exact⟨by kernel_rfl,of_decide_eq_true (by kernel_rfl)⟩
 ·have n:=PN k
  rw[Tryz.params15]at n;obtain⟨A,B,D,rfl⟩:=aoV n
  rfl
end Go.Proofs.YtbefoehadfnkbaaGreatDoor
