/-
  Part 11 of a law of desks.
  Conditions: none.
-/
import Derived.Test.YtkbhljmmnbgloaaGreatDoorTopBetterM10
set_option linter.all false
namespace Go.Proofs.YtkbhljmmnbgloaaGreatDoor
open Go.ChangeShapes Go.WideShapes Go.RowKit Go.Am
def XQ:EL Tryz.prog [Go.Tel.NW,Go.Tel.Xn] Tryz.f5.params.toList=true:=by kernel_rfl
set_option maxRecDepth 100000 in
def OI (abK:∀xs,Ed [Go.Tel.NW,Go.Tel.Xn] xs->Am.Pure Go.Tel.C 5 xs (.d (.bool true)) [])(os:Os)(a:os.Started)(H:Type)(enc:TypeId×Value->H):
  ReturnsInHanded {} Tryz.checked os 5 .any (fun w args=>(Rows.topBetterSpec.pre enc Tryz.prog Tryz.f5 [] false w args/\laidMetH Tryz.prog Jp w)/\sizedMet enc Tryz.prog Tryz.f5 (OpenSpec.ofChange Rows.topBetterSpec) false w args)
   (Rows.topBetterSpec.post enc Tryz.prog Tryz.f5 false true false false):=by
 refine returnsInHanded_of_change_and (C:=Tryz.checked) (X:=fun w _=>laidMetH Tryz.prog Jp w) (fun _ _ _ hh h=>h.of_heap hh) own a (by kernel_rfl) Tryz.func5
  (ChangeSpec.witness_at (enc:=enc) (C:=Tryz.checked) (os:=os) (X:=fun w _=>laidMetH Tryz.prog Jp w) false (World.laidAll Tryz.prog os Jp)
   #[.agg #[.slice none 0 0, .slice none 0 0], .agg #[.int .i64 0, .int .i64 0]] 8 (World.laidAll_os _ _ _) (by kernel_rfl) (by kernel_rfl) (by kernel_rfl) (by kernel_rfl) (by kernel_rfl) (afy os _)) ?_
 intro W g args ds B before b l _ _ n _;have f:=l;obtain⟨p,q,i,o,rfl,s,u⟩:=l;obtain⟨rfl,rfl⟩:=trodVars_none o;have k:=aoE n;refine(afA (C:=Go.Tel.C) (P:=Tryz.prog) (Ts:=[Go.Tel.NW,Go.Tel.Xn]) rfl k (Go.Tel.aol k) XQ (fun j t v c x=>b j t v (by simpa using c) (by simpa using x)) i abK).mono ?_;rintro e y ⟨rfl,r⟩;refine⟨_,rfl,aik (tb:=4) laidOut rfl f (by kernel_rfl) (by kernel_rfl) (fun t c=> ?_) ?_ r⟩
 ·have:t=64\/t=54:=by
   rw[Tryz.params5]at c
   change t∈([64,54]:List TypeId)at c
   simp only[List.mem_cons,List.not_mem_nil,or_false]at c
   rcases c with h|h<;>simp[h]
  rcases this with rfl|rfl
  ·exact⟨by kernel_rfl,of_decide_eq_true (by kernel_rfl)⟩
  ·exact⟨by kernel_rfl,of_decide_eq_true (by kernel_rfl)⟩
 ·have m:=Qd i
  rw[Tryz.params5]at m;obtain⟨z,A,rfl⟩:=apI m
  rfl
end Go.Proofs.YtkbhljmmnbgloaaGreatDoor
