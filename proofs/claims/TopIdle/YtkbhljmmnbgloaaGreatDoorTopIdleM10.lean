/-
  Part 10 of a law of desks.
  Conditions: none.
-/
import Derived.Test.YtkbhljmmnbgloaaGreatDoorTopIdleM09
set_option linter.all false
namespace Go.Proofs.YtkbhljmmnbgloaaGreatDoor
open Go.ChangeShapes Go.WideShapes Go.RowKit Go.Am
def amP:BG Tryz.prog [Go.Tel.Fa,Go.Tel.NY, .int .i64, .int .i64, .int .i64] Tryz.f4.params.toList=true:=by kernel_rfl
set_option maxRecDepth 100000 in
def amj (XK:∀xs,AX [Go.Tel.Fa,Go.Tel.NY, .int .i64, .int .i64, .int .i64] xs->Am.Pure Go.Tel.C 4 xs (.d (.bool true)) [])(os:Os)(a:os.Started)(H:Type)(enc:TypeId×Value->H):
  ReturnsInHanded {} Tryz.checked os 4 .any (fun w args=>(Rows.topIdleSpec.pre enc Tryz.prog Tryz.f4 [] false w args/\laidMetH Tryz.prog FQ w)/\sizedMet enc Tryz.prog Tryz.f4 (OpenSpec.ofChange Rows.topIdleSpec) false w args)
   (Rows.topIdleSpec.post enc Tryz.prog Tryz.f4 false true false false):=by
 refine returnsInHanded_of_change_and (C:=Tryz.checked) (X:=fun w _=>laidMetH Tryz.prog FQ w) (fun _ _ _ hh h=>h.of_heap hh) own a (by kernel_rfl) Tryz.func4
  (ChangeSpec.witness_at (enc:=enc) (C:=Tryz.checked) (os:=os) (X:=fun w _=>laidMetH Tryz.prog FQ w) false (World.laidAll Tryz.prog os FQ)
   #[.agg #[.int .i64 0, .int .i64 0, .int .i64 0, .int .i64 0, .int .i64 0, .slice none 0 0, .slice none 0 0, .slice none 0 0], .agg #[.int .i64 0, .int .i64 0], .int .i64 0, .int .i64 0, .int .i64 0] 8 (World.laidAll_os _ _ _) (by kernel_rfl) (by kernel_rfl) (by kernel_rfl) (by kernel_rfl) (by kernel_rfl) (aa7 os _)) ?_
 intro W i args ds G f b m _ _ o _;have g:=m;obtain⟨p,q,k,r,rfl,u,x⟩:=m;obtain⟨rfl,rfl⟩:=trodVars_none r;have l:=ajm o;refine(aa8 (C:=Go.Tel.C) (P:=Tryz.prog) (Ts:=[Go.Tel.Fa,Go.Tel.NY, .int .i64, .int .i64, .int .i64]) rfl l (Go.Tel.ai5 l) amP (fun j t v c y=>b j t v (by simpa using c) (by simpa using y)) k XK).mono ?_;rintro e z ⟨rfl,s⟩;refine⟨_,rfl,adH (tb:=4) laidOut rfl g (by kernel_rfl) (by kernel_rfl) (fun t c=> ?_) ?_ s⟩
 ·have:t=26\/t=28\/t=3:=by
   rw[Tryz.params4]at c
   change t∈([26,28,3,3,3]:List TypeId)at c
   simp only[List.mem_cons,List.not_mem_nil,or_false]at c
   rcases c with h|h|h|h|h<;>simp[h]
  rcases this with rfl|rfl|rfl
  ·exact⟨by kernel_rfl,of_decide_eq_true (by kernel_rfl)⟩
  ·exact⟨by kernel_rfl,of_decide_eq_true (by kernel_rfl)⟩
  ·exact⟨by kernel_rfl,of_decide_eq_true (by kernel_rfl)⟩
 ·have n:=LC k
  rw[Tryz.params4]at n;obtain⟨A,B,D,E,F,rfl⟩:=anw n
  rfl
end Go.Proofs.YtkbhljmmnbgloaaGreatDoor
