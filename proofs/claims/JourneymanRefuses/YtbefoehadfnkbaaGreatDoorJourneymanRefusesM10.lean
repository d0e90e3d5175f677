/-
  Part 10 of a law of desks.
  Conditions: none.
-/
import Derived.Test.YtbefoehadfnkbaaGreatDoorJourneymanRefusesM09
set_option linter.all false
namespace Go.Proofs.YtbefoehadfnkbaaGreatDoor
open Go.ChangeShapes Go.WideShapes Go.RowKit Go.Am
def awH:DW Tryz.prog [Go.Tel.Ir, .slice (Go.Tel.Ad),Go.Tel.Ad, .slice (Go.Tel.Ad)] Tryz.f12.params.toList=true:=by kernel_rfl
set_option maxRecDepth 100000 in
def awx (adC:∀xs,Df [Go.Tel.Ir, .slice (Go.Tel.Ad),Go.Tel.Ad, .slice (Go.Tel.Ad)] xs->Am.Pure Go.Tel.C 12 xs (.d (.bool true)) [])(os:Os)(a:os.Started)(H:Type)(enc:TypeId×Value->H):
  ReturnsInHanded {} Tryz.checked os 12 .any (fun w args=>(Rows.journeymanRefusesSpec.pre enc Tryz.prog Tryz.f12 [] false w args/\laidMetH Tryz.prog I4 w)/\sizedMet enc Tryz.prog Tryz.f12 (OpenSpec.ofChange Rows.journeymanRefusesSpec) false w args)
   (Rows.journeymanRefusesSpec.post enc Tryz.prog Tryz.f12 false true false false):=by
 refine returnsInHanded_of_change_and (C:=Tryz.checked) (X:=fun w _=>laidMetH Tryz.prog I4 w) (fun _ _ _ hh h=>h.of_heap hh) own a (by kernel_rfl) Tryz.func12
  (ChangeSpec.witness_at (enc:=enc) (C:=Tryz.checked) (os:=os) (X:=fun w _=>laidMetH Tryz.prog I4 w) false (World.laidAll Tryz.prog os I4)
   #[.agg #[.slice none 0 0, .slice none 0 0, .slice none 0 0, .int .i64 0, .int .i64 0, .slice none 0 0, .int .i64 0, .slice none 0 0, .int .i64 0, .int .i64 0, .int .i64 0, .slice none 0 0, .int .i64 0, .int .i64 0, .int .i64 0, .int .i64 0, .int .i64 0], .slice none 0 0, .agg #[.int .i64 0, .slice none 0 0], .slice none 0 0] 8 (World.laidAll_os _ _ _) (by kernel_rfl) (by kernel_rfl) (by kernel_rfl) (by kernel_rfl) (by kernel_rfl) (ag7 os _)) ?_
 intro W i args ds F f b m _ _ o _;have g:=m;obtain⟨p,q,k,r,rfl,u,x⟩:=m;obtain⟨rfl,rfl⟩:=trodVars_none r;have l:=apY o;refine(ag8 (C:=Go.Tel.C) (P:=Tryz.prog) (Ts:=[Go.Tel.Ir, .slice (Go.Tel.Ad),Go.Tel.Ad, .slice (Go.Tel.Ad)]) rfl l (Go.Tel.apE l) awH (fun j t v c y=>b j t v (by simpa using c) (by simpa using y)) k adC).mono ?_;rintro e z ⟨rfl,s⟩;refine⟨_,rfl,ajQ (tb:=4) laidOut rfl g (by kernel_rfl) (by kernel_rfl) (fun t c=> ?_) ?_ s⟩
 ·have:t=35\/t=36\/t=55\/t=84:=by
   rw[Tryz.params12]at c
   change t∈([35,36,55,84]:List TypeId)at c
   simp only[List.mem_cons,List.not_mem_nil,or_false]at c
   rcases c with h|h|h|h<;>simp[h]
  rcases this with rfl|rfl|rfl|rfl
  ·exact⟨by kernel_rfl,of_decide_eq_true (by kernel_rfl)⟩
  ·exact⟨by kernel_rfl,of_decide_eq_true (by kernel_rfl)⟩
  ·exact⟨by kernel_rfl,of_decide_eq_true (by kernel_rfl)⟩
  ·exact⟨by kernel_rfl,of_decide_eq_true (by kernel_rfl)⟩
 ·have n:=QK k
  rw[Tryz.params12]at n;obtain⟨A,B,D,E,rfl⟩:=awm n
  rfl
end Go.Proofs.YtbefoehadfnkbaaGreatDoor
