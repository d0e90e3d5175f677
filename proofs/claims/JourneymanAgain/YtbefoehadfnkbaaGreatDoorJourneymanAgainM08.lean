/-
  Part 8 of a law of desks.
  Conditions: none.
-/
import Derived.Test.YtbefoehadfnkbaaGreatDoorJourneymanAgainM04
import Derived.Test.YtbefoehadfnkbaaGreatDoorJourneymanAgainM07
import Derived.Test.YtbefoehadfnkbaaGreatDoorRows
import Derived.Lay
import Derived.Handed
import Derived.LaidHandle
import Derived.Lib.LaidTab
set_option linter.all false
set_option maxRecDepth 10000
set_option maxHeartbeats 4000000
open Nat renaming reduceBEq->B,reduceAdd->F,reduceSub->I,reduceEqDiff->J,reduceLT->N,reduceLeDiff->O,zero_le->aw,le_refl->bh,add_sub_cancel->bB,div_mul_cancel->bE,le_trans->bS,mul_div_mul_right->cz,lt_irrefl->cF,gcd_dvd_right->cM,sub_self->cN,gcd_dvd_left->cR,min_eq_right->cS,min_eq_left->cY,mod_lt->c7,add_assoc->c9,mul_comm->db
open List renaming length_map->Q,getD_eq_getElem?_getD->S,length_append->Z,mem_cons->ab,map_cons->ae,length_cons->ai,mem_cons_of_mem->an,mem_cons_self->ao,mem_singleton->ap,getElem?_append_left->aq,getElem?_eq_some_iff->av,length_singleton->ax,drop_length->aD,map_append->aE,cons_append->aL,getElem?_set_ne->aM,getD_cons_zero->aR,take_of_length_le->a7,all_eq_true->a8,append_assoc->bc,range'->bd,take_append_of_le_length->be,foldl_cons->bj,mem_append->bk,filter_congr->bo,getElem?_concat_length->bp,perm_append_singleton->bt,map_map->bu,mem_map->bv,nil_append->bA,drop_zero->bN,getElem?_set_self->bO,mem_range->bR,filter_cons->b0,length_take->b4,take_length->b5,all_cons->b7,length_nil->b8,mem_filter->b9,getD_cons_succ->ca,map_congr_left->cb,all_nil->cf,map_nil->cg,foldl_nil->ch,getElem?_append_right->cj,pairwise_cons->ck,any_eq_false->cm,foldl_append->cn,mem_range'_1->cp,getElem?_eq_getElem->cr,drop_of_length_le->cv,pairwise_append->cB,range_eq_range'->cC,drop_succ_cons->cD,count_eq_zero->cG,filter_append->cH,filter_filter->cI,flatten_cons->cK,getElem?_map->cL,any_eq_true->cP,range'_succ->cQ,length->cT,append_nil->cU,filter_nil->cV,nodup_cons->cW,range_succ->cX,drop_left->c5,range->c6
open Bool renaming and_eq_true->U,false_and->V,true_and->am,false_eq_true->bi,and_false->bq,eq_iff_iff->bz,and_eq_false_iff->bX,not_eq_true'->cl,and_true->cq,not_eq_eq_eq_not->cw,not_false->cA,and_self->cE,not_true->c8
open Int renaming toNat_natCast->Y,lt_irrefl->az,eq_ofNat_of_zero_le->bL,mul_nonneg->c0,natAbs_mul->c4
open ByteArray renaming size_append->bl
open Option renaming isSome_iff_exists->bw,getD_some->b6,bind_some->ct
open Function renaming comp_def->cJ
open Go.IntKind renaming wrap->dc
namespace Go.Tel
open Go.Am
def Me:aA:=(sw (r0 [ba 3 0 0,mf 6 false] 1 [1,2,3] [3]) (sw (sr [mi 7 0] 0 [1,2,3,7] (.block 0 (.loop (sw (sr [mv 9 7,mv 10 1,oa 11 .len 10,ob 12 pL 9 11,mv 13 12,ov 14 .mov 7 13 0,ot 15 pL [.t 14,kI 27] 13 0,pf 16 13 15] 0 [1,2,3,7,16] (cx 16 0)) (sw (.block 1 (sr [mv 19 1,mv 20 7,ix 21 2 19 20,fa 22 1 21,lo 23 22,oa 24 .len 23,oi 25 pG 24 6] 0 [1,2,3,7,25] (cd 25 (sr [mf 6 false] 0 [6] .ret) .skip))) (rg [mv 17 7,oi 18 pA 17 1,mv 7 18] 0 [1,2,3,7])))))) (sw (sr [mi 8 0] 0 [1,2,3,8] (.block 2 (.loop (sw (sr [mv 26 8,mv 27 2,oa 28 .len 27,ob 29 pL 26 28,mv 30 29,ov 31 .mov 8 30 0,ot 32 pL [.t 31,kI 11] 30 0,pf 33 30 32] 0 [1,2,3,8,33] (cx 33 2)) (sw (.block 3 (sr [mv 36 2,mv 37 8,ix 38 2 36 37,fa 39 1 38,lo 40 39,oa 41 .len 40,oi 42 pG 41 6] 0 [1,2,3,8,42] (cd 42 (sr [mf 6 false] 0 [6] .ret) .skip))) (rg [mv 34 8,oi 35 pA 34 1,mv 8 35] 0 [1,2,3,8])))))) (sr [lw 43 17 3,oa 44 (.aj 39) 43,mv 45 44,ov 46 .mov 1 45 0,ov 47 .len 46 45 0,ot 48 (.bin .leq) [.t 47,kI 26] 45 0,pf 49 45 48,mv 50 49,ov 51 .mov 2 50 0,ov 52 .len 51 50 0,ot 53 (.bin .leq) [.t 52,kI 10] 50 0,pf 54 50 53,mv 6 54] 0 [6] .ret))))
def YA:aC C.P 17 3 Me jr=true:=by kernel_rfl
def MB:aA:=(sr [mf 0 false] 0 [] (sr [on 4 (.aj 68) [],oc 5 (.aj 40) 4 (.c (.str ⟨#[104,97,110,100,115,10,111,114,100,101,114,32,48,32,50,32,53,10,111,114,100,101,114,32,48,32,49,32,50,10,110,101,101,100,32,48,32,49,48,32,50,48,10,110,101,101,100,32,49,32,49,48,32,50,48,10,99,104,97,110,103,101,32,49,32,49,50,32,49,53,10,99,117,116,32,51,55,10,99,117,116,32,49,53,10,115,116,111,99,107,10,99,104,97,110,103,101,32,49,32,49,50,32,49,53,10,115,116,111,99,107,10,112,114,105,99,101,32,48,10,115,101,114,118,101,32,48,32,53,54,10,115,101,114,118,101,32,48,32,53,55,10,111,112,101,110,10,99,111,105,110,115,10,111,102,102,32,49,32,57,10,111,102,102,32,49,32,49,48,10,119,114,111,110,103,10,115,101,116,32,54,10,115,101,116,32,57,10,115,101,116,32,56,10,115,101,116,32,56,10,119,111,114,107,115,32,57,10,100,97,116,101,32,52,48,10,119,114,111,110,103,10,99,117,116,115,32,51,54,10,115,116,114,105,107,101,32,49,10,115,116,114,105,107,101,32,52,10,115,116,114,105,107,101,32,51,10,99,111,105,110,115,10,111,112,101,110,10,115,116,97,110,100,115,10,115,116,114,105,107,101,32,48,10,115,116,114,105,107,101,32,57,10,115,101,114,118,101,32,48,10]⟩)),mv 3 5,xa 6 0 3,xa 7 1 3,mv 1 6,mv 2 7] 0 [1,2] (sr [mv 8 2,oi 9 pE 8 0,mv 10 9,ov 11 .mov 1 10 0,ot 12 pE [.t 11,.c (.str ⟨#[49,32,51,32,51,32,52,10,110,111,116,101,100,10,101,114,114,111,114,32,55,10,49,32,49,50,32,49,53,10,101,114,114,111,114,32,55,10,101,114,114,111,114,32,55,10,101,114,114,111,114,32,55,10,110,111,116,101,100,10,49,53,10,110,111,116,101,100,10,49,56,10,53,55,10,101,114,114,111,114,32,55,10,110,111,116,101,100,10,110,111,116,104,105,110,103,10,53,55,10,57,55,10,49,48,56,10,51,53,54,10,101,114,114,111,114,32,55,10,101,114,114,111,114,32,55,10,110,111,116,101,100,10,101,114,114,111,114,32,55,10,49,48,10,50,32,57,10,51,52,56,10,50,32,49,32,51,10,101,114,114,111,114,32,55,10,110,111,116,101,100,10,110,111,116,101,100,10,48,10,48,32,50,32,53,10,48,32,49,32,50,10,101,114,114,111,114,32,55,10,101,114,114,111,114,32,50,10,101,114,114,111,114,32,52,10]⟩)] 10 0,pf 13 10 12,mv 0 13] 0 [0] .ret)))
def YB:aC C.P 19 0 MB akU=true:=by kernel_rfl
def MF:aA:=(sw (r0 [ba 1 0 0,mf 2 false] 1 [1] [1]) (sr [fa 3 0 1,fa 4 0 3,lo 5 4,oa 6 .len 5,oi 7 (.bin .leq) 6 7,mv 8 7,ov 9 (.fld 0) 1 8 0,ov 10 (.fld 1) 9 8 0,ov 11 (.load false 1) 10 8 0,ov 12 .len 11 8 0,ot 13 (.bin .leq) [.t 12,kI 6] 8 0,pf 14 8 13,mv 15 14,ov 16 (.fld 2) 1 15 0,ov 17 (.load false 1) 16 15 0,ov 18 .len 17 15 0,ot 19 (.bin .leq) [.t 18,kI 6] 15 0,pf 20 15 19,mv 21 20,ov 22 (.fld 4) 1 21 0,ov 23 (.fld 1) 22 21 0,ov 24 (.load false 1) 23 21 0,ov 25 .len 24 21 0,ot 26 (.bin .leq) [.t 25,kI 8] 21 0,pf 27 21 26,mv 28 27,ov 29 (.fld 6) 1 28 0,ov 30 (.fld 1) 29 28 0,ov 31 (.load false 1) 30 28 0,ov 32 .len 31 28 0,ot 33 (.bin .leq) [.t 32,kI 5] 28 0,pf 34 28 33,mv 35 34,ov 36 (.fld 11) 1 35 0,ov 37 (.load false 1) 36 35 0,ov 38 .len 37 35 0,ot 39 (.bin .leq) [.t 38,kI 8] 35 0,pf 40 35 39,mv 2 40] 0 [2] .ret))
def YD:aC C.P 39 1 MF aK=true:=by kernel_rfl
def Md:aA:=(sr [al 0 0 [zs,zs,zs,z0,z0,zs,z0,zs,z0,z0,z0,zs,z0,z0,z0,z0,z0]] 1 [0] (sr [on 1 (.aj 158) [],on 2 (.build [z0,z0] [(0,1),(1,1)]) [kI 1,kI 3],on 3 (.build [z0,z0] [(0,1),(1,1)]) [kI 1499,kI 2000],ob 4 (.gu 2 [.agg [z0,z0],.agg [z0,z0]] [0,1]) 2 3,on 5 (.aj 159) [],on 6 (.aj 160) [],on 7 (.aj 161) [],on 8 (.build [.bool false,z0,z0,z0] [(0,1)]) [.c (.bool true)],on 9 (.build [.bool false,z0,z0,z0] [(1,1),(2,1)]) [kI 1,kI 6],ob 10 (.gu 4 [.agg [.bool false,z0,z0,z0],.agg [.bool false,z0,z0,z0]] [0,1]) 8 9,on 11 (.build [zs,zs,zs,z0,z0,zs,z0,zs,z0,z0,z0,zs,z0,z0,z0,z0,z0] [(0,2),(2,1),(3,1),(4,2),(6,2),(8,3),(11,1),(12,1),(13,1),(14,1),(15,1),(16,1)]) [.t 1,.t 4,kI 100,.t 5,.t 6,.t 7,.t 10,kI 1,kI 3,kI 6,kI 4,kI 10],sk 17 0 11 0] 0 [0] .ret))
def Yz:aC C.P 68 0 Md akV=true:=by kernel_rfl
def abz:aA:=(sr [al 0 0 [zs,zs]] 1 [0] (sr [on 1 (.aj 238) [kI 10,kI 20],oa 2 (.build [z0,z0,z0] [(1,2)]) 1,on 3 (.aj 238) [kI 12,kI 18],on 4 (.build [z0,z0,z0] [(0,1),(1,2)]) [kI 1,.t 3],on 5 (.aj 238) [kI 15,kI 10],on 6 (.build [z0,z0,z0] [(0,1),(1,2)]) [kI 1,.t 5],on 7 (.gu 3 [.agg [z0,z0,z0],.agg [z0,z0,z0],.agg [z0,z0,z0]] [0,1,2]) [.t 2,.t 4,.t 6],on 8 (.gu 1 [z0,z0] [0,1]) [kI 2,kI 3],ob 9 (.build [zs,zs] [(0,1),(1,1)]) 7 8,sk 2 0 9 0] 0 [0] .ret))
def akc:aC C.P 158 0 abz OV=true:=by kernel_rfl
def aby:aA:=(sr [al 0 0 [z0,zs]] 1 [0] (sr [on 1 (.gu 1 [z0] [0]) [kI 4],oa 2 (.build [z0,zs] [(1,1)]) 1,sk 2 0 2 0] 0 [0] .ret))
def akb:aC C.P 160 0 aby OV=true:=by kernel_rfl
def abx:aA:=(sr [al 0 0 [z0,z0,z0]] 1 [0] (sr [on 1 (.build [z0,z0,z0] [(0,1),(1,1)]) [kI 59,kI 2],sk 3 0 1 0] 0 [0] .ret))
def aj9:aC C.P 161 0 abx akW=true:=by kernel_rfl
def PZ:aA:=(sr [al 4 0 [z0,z0]] 1 [0,1,4] (sr [mv 5 0,mv 6 1,ob 7 (.build [z0,z0] [(0,1),(1,1)]) 5 6,sk 2 4 7 0] 0 [4] .ret))
def aaY:aC C.P 238 2 PZ yg=true:=by kernel_rfl
def abA:aA:=(sr [al 0 0 [z0,zs]] 1 [0] (sr [on 1 (.gu 1 [z0,z0,z0] [0,1,2]) [kI 15,kI 21,kI 27],on 2 (.build [z0,zs] [(0,1),(1,1)]) [kI 40,.t 1],sk 2 0 2 0] 0 [0] .ret))
def akd:aC C.P 159 0 abA OV=true:=by kernel_rfl
end Go.Tel
namespace Go.Tel
open Go.Am
def JY {base sz:Nat}{zs:List DV}{a:List Nat}{args:List PV}{ds xs:List DV}{M:Mem}{K:PV->Mem->Prop}{KP:DV->Mem->Prop}(h1:dF M args=some ds)(h2:wI sz zs a (ds.map DV.strip)=some xs)(b:M.frz args=M)(c:K (.d (.slice true xs)) M):au C base (.gu sz zs a) args M K KP:=by
 simp only[au,h1,h2,b];exact c
def aej (a b:Int):Pure C 238 [dI a,dI b] (.d (.agg [dI a,dI b])) []:=by
 refine ah mixed rfl aaY ?_;simp only[PZ,yg,lu,RN,B,F,I,J,N,O]
def P_k:Pure C 158 [] (.d (.agg [.slice true (aU.pc.links.map Lk.dv), .slice true (aU.pc.hands.map ay)])) []:=by
 refine ah mixed rfl akc ?_;simp only[abz,OV,lu,RN,B,F,I,J,N,O];refine ak rfl rfl (aej 10 20) ?_;(try simp only[RN,B,F,I,J,N,O]);refine ak rfl rfl (aej 12 18) ?_;(try simp only[RN,B,F,I,J,N,O]);refine ak rfl rfl (aej 15 10) ?_;(try simp only[RN,B,F,I,J,N,O]);refine JY rfl rfl rfl ?_;(try simp only[RN,B,F,I,J,N,O]);refine JY rfl rfl rfl ?_;simp only[lu,RN,B,F,I,J,N,O]
 rfl
def O_k:Pure C 160 [] (.d (.agg [dI 0, .slice true [dI 4]])) []:=by
 refine ah mixed rfl akb ?_;simp only[aby,OV,lu,RN,B,F,I,J,N,O];exact⟨rfl,rfl⟩
def M_k:Pure C 161 [] (.d (.agg [dI 59,dI 2,dI 0])) []:=by
 refine ah mixed rfl aj9 ?_;simp only[abx,akW,lu,RN,B,F,I,J,N,O]
def D_k:Pure C 159 [] (.d (.agg [dI 40, .slice true [dI 15,dI 21,dI 27]])) []:=by
 refine ah mixed rfl akd ?_;simp only[abA,OV,RN,B,F,I,J,N,O];refine JY rfl rfl rfl ?_;simp only[lu,RN,B,F,I,J,N,O]
 rfl
def anJ:DV:= .agg [.slice true (aU.pc.links.map Lk.dv), .slice true (aU.pc.hands.map ay), .slice true (aU.tg.map Fr.dv),dI 100,dI 40, .slice true (aU.dvd.cir.map ay),dI 0, .slice true (aU.cal.cy.map ay),dI 59,dI 2,dI 0, .slice true (aU.fs.map Fs.dv),dI 1,dI 3,dI 6,dI 4,dI 10]
def alJ:Pure C 68 [] (.d anJ) []:=by
 refine ah mixed rfl Yz ?_;simp only[Md,akV,RN,B,F,I,J,N,O];refine ak rfl rfl P_k ?_;(try simp only[RN,B,F,I,J,N,O]);refine JY rfl rfl rfl ?_;(try simp only[RN,B,F,I,J,N,O]);refine ak rfl rfl D_k ?_;(try simp only[RN,B,F,I,J,N,O]);refine ak rfl rfl O_k ?_;(try simp only[RN,B,F,I,J,N,O]);refine ak rfl rfl M_k ?_;(try simp only[RN,B,F,I,J,N,O]);refine JY rfl rfl rfl ?_;simp only[lu,RN,B,F,I,J,N,O]
 rfl
def Zo:aU.Small:=⟨by decide,by decide,by decide,by decide,by decide⟩
def Ry:Pure C 19 [] (.d (.bool true)) []:=by
 refine ah mixed rfl YB ?_;simp only[MB,akU,RN,B,F,I,J,N,O];refine ak rfl rfl alJ ?_;(try simp only[RN,B,F,I,J,N,O]);refine ak rfl rfl (afU aU Zo (by kernel_rfl) (by decide:Zf.size<=1500) (by kernel_rfl) aqW) ?_;have b:(KT.toList==KT.toList)=true:=beq_self_eq_true _;have a:(.str ⟨#[49,32,51,32,51,32,52,10,110,111,116,101,100,10,101,114,114,111,114,32,55,10,49,32,49,50,32,49,53,10,101,114,114,111,114,32,55,10,101,114,114,111,114,32,55,10,101,114,114,111,114,32,55,10,110,111,116,101,100,10,49,53,10,110,111,116,101,100,10,49,56,10,53,55,10,101,114,114,111,114,32,55,10,110,111,116,101,100,10,110,111,116,104,105,110,103,10,53,55,10,57,55,10,49,48,56,10,51,53,54,10,101,114,114,111,114,32,55,10,101,114,114,111,114,32,55,10,110,111,116,101,100,10,101,114,114,111,114,32,55,10,49,48,10,50,32,57,10,51,52,56,10,50,32,49,32,51,10,101,114,114,111,114,32,55,10,110,111,116,101,100,10,110,111,116,101,100,10,48,10,48,32,50,32,53,10,48,32,49,32,50,10,101,114,114,111,114,32,55,10,101,114,114,111,114,32,50,10,101,114,114,111,114,32,52,10]⟩:DV)= .str KT:=rfl;simp only[z1,oD,RJ,a,b,RN,B,F,I,J,N,O]
end Go.Tel
namespace Go.Tel
open Go.Am Go.Lib
variable{a b:ByteArray}
def avV (h:a.data.toList=b.data.toList):a=b:=by
 cases a with|mk x=>cases b with|mk y=>
 simp only at h;rw[Array.toList_inj.1 h]
def auV (a b:ByteArray):(a++b).data.toList=a.data.toList++b.data.toList:=by
 rw[ByteArray.data_append,Array.toList_append]
def avd {xs ys:List ByteArray}(h:xs.map (·.data.toList)=ys.map (·.data.toList)):xs=ys:=by
 induction xs generalizing ys with
 |nil=>cases ys with
  |nil=>rfl
  |cons y ys=>cases h
 |cons x xs a=>cases ys with
  |nil=>cases h
  |cons y ys=>
   simp only[ae,List.cons.injEq]at h;rw[avV h.1,a h.2]
def avA:(a.toList==b.toList)=decide (a=b):=by
 rw[toList_data,toList_data]
 by_cases h:a=b
 ·rw[h,decide_eq_true rfl,beq_self_eq_true]
 ·rw[decide_eq_false h];exact beq_eq_false_iff_ne.2 fun e=>h (avV e)
def spl (c:UInt8):List UInt8->List (List UInt8)
 | []=>[[]]
 |b::l=>if b=c then[]::spl c l else match spl c l with
  |x::r=>(b::x)::r
  | []=>[[b]]
def avy {c:UInt8}:∀{x:List UInt8} {l:List UInt8},c∉x->spl c (x++c::l)=x::spl c l
 | [],l,_=>by rw[bA,spl,if_pos rfl]
 |b::x,l,h=>by
  have h1:b≠c:=fun e=>h (by rw[e];exact ao)
  rw[aL,spl,if_neg h1,avy fun hh=>h (an _ hh)]
def avo {c:UInt8}:∀{x:List UInt8},c∉x->spl c x=[x]
 | [],_=>rfl
 |b::x,h=>by
  have h1:b≠c:=fun e=>h (by rw[e];exact ao)
  rw[spl,if_neg h1,avo fun hh=>h (an _ hh)]
def avq (c:UInt8):∀l:List UInt8,c∉l\/∃x r,l=x++c::r/\c∉x
 | []=> .inl (by simp)
 |b::l=>by
  by_cases h:b=c
  ·right;exact⟨[],l,by rw[h];rfl,by simp⟩
  ·rcases avq c l with h1|⟨x,r,rfl,h2⟩
   ·left;simp only[ab,not_or];exact⟨fun e=>h e.symm,h1⟩
   ·right;exact⟨b::x,r,rfl,by simp only[ab,not_or];exact⟨fun e=>h e.symm,h2⟩⟩
def av5 {c:UInt8}:∀{x r:List UInt8},c∉x->indexByte (x++c::r) c=x.length
 | [],r,_=>by rw[bA,indexByte,beq_self_eq_true,if_pos rfl];rfl
 |b::x,r,h=>by
  have h1:(b==c)=false:=beq_eq_false_iff_ne.2 fun e=>h (by rw[e];exact ao)
  have a:=av5 (r:=r) fun hh=>h (an b hh)
  have h2:(((x.length:Nat):Int)== -1)=false:=beq_eq_false_iff_ne.2 (by omega);rw[aL,indexByte,h1,a,h2];simp only[bi,if_false,ai];omega
def avp (c:UInt8):∀(n:Nat) (l:List UInt8),l.length<=n->splitK [c] 0 (l.count c) l=spl c l
 |n,l,b=>by
  rcases avq c l with h|⟨x,r,rfl,h⟩
  ·rw[cG.2 h,splitK,avo h]
  ·have f:(x++c::r).count c=r.count c+1:=by rw[List.count_append,cG.2 h,List.count_cons_self];omega
   have a:index (x++c::r) [c]=(x.length:Int):=by rw[index_one,av5 h]
   have g:¬(index (x++c::r) [c]== -1)=true:=by rw[a,beq_iff_eq];omega
   rw[f,splitK,if_neg g,a,avy h,Y,Nat.add_zero];have d:(x++c::r).take x.length=x:=by rw[List.take_left]
   have e:(x++c::r).drop (x.length+ [c].length)=r:=by
    rw[ax,<-List.drop_drop,c5];rfl
   rw[d,e];cases n with
   |zero=>simp at b
   |succ n=>rw[avp c n r (by simp at b;omega)]
def avj (s:ByteArray)(c:UInt8):(mX s c).map (·.data.toList)=spl c s.data.toList:=by
 rw[mX,splitB_data];have h:countB s ⟨#[c]⟩=s.data.toList.count c:=count_one c _;rw[h];exact avp c _ _ (bh _)
def avu {α:Type}{c:UInt8}{f:α->List UInt8}:∀{ns:List α} {w:List UInt8},c∉w->(∀n∈ns,c∉f n)->spl c (w++(ns.map fun n=>c::f n).flatten)=w::ns.map f
 | [],w,a,_=>by simp[avo a]
 |n::ns,w,a,h=>by
  have e:w++((n::ns).map fun n=>c::f n).flatten=w++c::(f n++(ns.map fun n=>c::f n).flatten):=by simp
  rw[e,avy a,avu (h n ao) fun m b=>h m (an _ b)];rfl
def avE (c:UInt8):∀l:List UInt8,∃x r,spl c l=x::r/\l=x++(r.map fun y=>c::y).flatten
 | []=>⟨[],[],rfl,rfl⟩
 |b::l=>by
  obtain⟨x,r,h1,h2⟩:=avE c l;rw[spl,h1]
  by_cases h:b=c
  ·rw[if_pos h]
   exact⟨[],x::r,rfl,by rw[h2,h];simp⟩
  ·rw[if_neg h]
   exact⟨b::x,r,rfl,by rw[aL,<-h2]⟩
def avL (n:Nat):(tK (n:Int)).data.toList=decDigits n:=by
 rw[tK,itoa,if_neg (by omega),Y]
def avk {d:Nat}(h:d<10):(UInt8.ofNat (48+d)).toNat=48+d:=by
 have:48+d<256:=by omega
 simp[UInt8.toNat_ofNat];omega
def awd {n:Nat}(h:n<10):decDigits n=[UInt8.ofNat (48+n)]:=by rw[decDigits,dif_pos h]
def awi {n:Nat}(h:¬n<10):decDigits n=decDigits (n / 10)++ [UInt8.ofNat (48+n % 10)]:=by rw[decDigits,dif_neg h]
def avv:∀(k n:Nat),n<=k->∀b∈decDigits n,48<=b.toNat/\b.toNat<=57
 |k,n,c,b,a=>by
  by_cases h:n<10
  ·rw[awd h,ap]at a
   rw[a,avk h];omega
  ·rw[awi h]at a
   rcases bk.1 a with a|a
   ·cases k with
    |zero=>omega
    |succ k=>exact avv k (n / 10) (by omega) b a
   ·rw[ap.1 a,avk (c7 _ (by decide))]
    have:n % 10<10:=c7 _ (by decide);omega
def avS {n:Int}(h:0<=n){c:UInt8}(hc:c.toNat<48):c∉(tK n).data.toList:=fun hh=>by
 obtain⟨m,rfl⟩:=bL h;rw[avL]at hh;have:=avv m m (bh _) c hh;omega
def avw:∀(k n:Nat),n<10 ^ (k+1)->(decDigits n).length<=k+1/\1<=(decDigits n).length
 |0,n,h=>by rw[awd (by omega)];simp
 |k+1,n,h=>by
  by_cases h1:n<10
  ·rw[awd h1];simp
  ·have:=avw k (n / 10) (by rw[Nat.pow_succ]at h;omega)
   rw[awi h1,Z,ax];omega
def avW (w:ByteArray)(i:Nat):w.data.getD i 0=w.data.toList.getD i 0:=by
 rw[Array.getD_eq_getD_getElem?,<-Array.getElem?_toList,S]
def avn (w:ByteArray)(hs:w.size<=4):∀(l:List UInt8) (pos:Nat) (n:Int),w.data.toList.drop pos=l->(∀b∈l,48<=b.toNat/\b.toNat<=57)->WY w l.length pos n=some (l.foldl (fun n b=>10*n+((b.toNat:Int) - 48)) n)
 | [],_,_,_,_=>rfl
 |b::l,pos,n,h,hd=>by
  have c:pos<w.data.toList.length:=by
   refine Nat.lt_of_not_le fun hh=> ?_
   rw[cv hh]at h;cases h
  have h2:=List.drop_eq_getElem_cons c;rw[h]at h2;obtain⟨d,f⟩:=List.cons.inj h2;have e:w.data.getD pos 0=b:=by rw[avW,S,cr c,d];rfl
  have a:=hd b ao;rw[ai,WY,e,if_pos ⟨a.1,a.2,hs⟩,avn w hs l (pos+1) _ f.symm fun x g=>hd x (an _ g)]
  rfl
def avR:∀(k n:Nat),n<=k->(decDigits n).foldl (fun n b=>10*n+((b.toNat:Int) - 48)) 0=(n:Int)
 |k,n,a=>by
  by_cases h:n<10
  ·rw[awd h]
   simp only[bj,ch,avk h];omega
  ·cases k with
   |zero=>omega
   |succ k=>
    rw[awi h,cn,avR k (n / 10) (by omega)];have:n % 10<10:=c7 _ (by decide);simp only[bj,ch,avk this];omega
def avI {n:Int}(h:0<=n/\n<=9999):Aj (tK n)=some n:=by
 obtain⟨m,rfl⟩:=bL h.1;have hd:=avL m;have c:=avw 3 m (by omega);have a:(tK (m:Int)).size=(decDigits m).length:=by rw[<-size_data,hd]
 have b:=avn (tK (m:Int)) (by omega) (decDigits m) 0 0 (by rw[bN,hd]) (avv m m (bh _));rw[avR m m (bh _)]at b;rw[Aj,a,b];simp only;rw[if_pos ⟨by omega,trivial⟩]
def avN {w:ByteArray}{n:Int}(h:Aj w=some n):tK n=w:=by
 unfold Aj at h
 split at h
 ·split at h
  ·rename_i h1
   cases h;exact avV h1.2
  ·cases h
 ·cases h
def avi:∀(ns a:List Int),(∀n∈ns,0<=n/\n<=9999)->JX (ns.map tK) a=some (a++ns)
 | [],a,_=>by simp[JX]
 |n::ns,a,h=>by
  rw[ae,JX,avI (h n ao)];simp only;rw[avi ns _ fun m b=>h m (an _ b),bc];rfl
def avm:∀(ws:List ByteArray) (a l:List Int),JX ws a=some l->∃ns,l=a++ns/\ns.map tK=ws
 | [],a,l,h=>by cases h;exact⟨[],by simp,rfl⟩
 |w::ws,a,l,h=>by
  rw[JX]at h;cases b:Aj w with
  |none=>rw[b]at h;cases h
  |some n=>
   rw[b]at h;obtain⟨ns,h1,h2⟩:=avm ws _ l h;exact⟨n::ns,by rw[h1,bc];rfl,by rw[ae,avN b,h2]⟩
def avF (n:Int)(ns:List Int):(Rw (n::ns)).data.toList=(tK n).data.toList++(ns.map fun n=>32::(tK n).data.toList).flatten:=by
 show(List.toArray (join ((List.map tK (n::ns)).map (·.data.toList)) [32])).toList=_
 rw[ae,ae,join_cons,joinTail];simp[bu,cJ]
variable{x:En}
def au7 (h:x.ns≠[]):x.line.data.toList=(fwE x.kind).data.toList++(x.ns.map fun n=>32::(tK n).data.toList).flatten:=by
 obtain⟨n,ns,e⟩:∃n ns,x.ns=n::ns:=by
  cases a:x.ns with
  |nil=>exact absurd a h
  |cons n ns=>exact⟨n,ns,rfl⟩
 rw[En.line,auV,auV,e,avF];simp
def awk {k:Int}(hk:1<=k/\k<=6):(32:UInt8)∉(fwE k).data.toList:=by
 obtain rfl|rfl|rfl|rfl|rfl|rfl:=aiM hk
 all_goals decide
def av4 {k:Int}(hk:1<=k/\k<=6):lY (vO (fwE k) (jc k)) fmL 0=k - 1:=by
 obtain rfl|rfl|rfl|rfl|rfl|rfl:=aiM hk
 all_goals kernel_rfl
def auW (h:x.formed=true):(1<=x.kind/\x.kind<=6)/\x.ns.length=jc x.kind/\1<=x.ns.length:=by
 have a:∀k,1<=jc k:=by
  intro k;unfold jc;split
  ·omega
  ·split<;>omega
 simp only[En.formed,U,inR,decide_eq_true_eq]at h;have:=a x.kind;exact⟨by omega,h.1.2,by omega⟩
def avQ (h:x.formed=true):mX x.line 32=fwE x.kind::x.ns.map tK:=by
 obtain⟨h1,h2,a⟩:=auW h;have b:=au1 h;refine avd ?_;rw[avj,au7 (by intro e;rw[e]at a;simp at a),avu (awk h1) fun n c=>avS (b n c).1 (by decide)];simp
def avY (h:x.formed=true):AB x.line fmL=some (x.kind - 1,x.ns):=by
 obtain⟨h1,h2,e⟩:=auW h;have a:=avQ h;have b:(mX x.line 32).getD 0 default=fwE x.kind:=by rw[a];rfl
 have c:(mX x.line 32).length - 1=jc x.kind:=by rw[a];simp[h2]
 have d:(mX x.line 32).drop 1=x.ns.map tK:=by rw[a];rfl
 rw[AB,b,c,d,av4 h1,avi x.ns [] (au1 h),if_pos (by omega)];rfl
def avg (h:x.formed=true):x.line.size<=30:=by
 obtain⟨h1,h2,b⟩:=auW h;have g:=au1 h;have c:=afm x.kind;have a:∀ns:List Int,(∀n∈ns,0<=n/\n<=9999)->(ns.map fun n=>32::(tK n).data.toList).flatten.length<=5*ns.length:=by
  intro ns
  induction ns with
  |nil=>intro _;simp
  |cons n ns j=>
   intro hh;obtain⟨m,c⟩:=bL (hh n ao).1;have d:=(hh n ao).2;have f:=avw 3 m (by omega);have:=j fun y i=>hh y (an _ i)
   rw[ae,cK,Z,ai,c,avL,ai];omega
 have d:=a x.ns g;have f:=avD x.kind;rw[<-size_data,au7 (by intro e;rw[e]at b;simp at b),Z,size_data];omega
def avO (h:x.formed=true):fG x.line=(x,0):=by
 have:=avg h;rw[fG,if_neg (by omega),avY h];simp only[Prod.mk.injEq,and_true];cases x;simp only[En.mk.injEq,and_true];omega
def av8 {line:ByteArray}{a:Int}{ns:List Int}(h:AB line fmL=some (a,ns)):(⟨1+a,ns⟩:En).formed=true/\(⟨1+a,ns⟩:En).line=line:=by
 obtain⟨x,r,h1,h2⟩:=avE 32 line.data.toList;rw[<-avj]at h1;have y:∃w ws,mX line 32=w::ws/\w.data.toList=x/\ws.map (·.data.toList)=r:=by
  cases o:mX line 32 with
  |nil=>rw[o]at h1;cases h1
  |cons w ws=>rw[o]at h1;cases h1;exact⟨w,ws,rfl,rfl,rfl⟩
 obtain⟨w,ws,o,rfl,rfl⟩:=y;unfold AB at h;rw[o]at h;simp only[aR,ai,bB,cD,bN]at h
 split at h
 ·rename_i f
  cases q:JX ws []with
  |none=>rw[q]at h;cases h
  |some l=>
   rw[q]at h;simp only[Option.some.injEq,Prod.mk.injEq]at h;obtain⟨rfl,rfl⟩:=h;obtain⟨ns,A,rfl⟩:=avm ws [] l q;rw[bA]at A;subst A;have m:∀n∈l,0<=n/\n<=9999:=by
    have:=av7 (line:=line) (fm:=fmL) (a:=lY (vO w (l.map tK).length) fmL 0) (ns:=l) (by
     unfold AB;rw[o];simp only[aR,ai,bB,cD,bN];rw[if_pos f,q])
    exact this
   obtain⟨k,c,K,I⟩:∃k:Int,(1<=k/\k<=6)/\w=fwE k/\l.length=jc k/\lY (vO w (l.map tK).length) fmL 0=k - 1:=by
    have z:∀(n:Nat) (p:ByteArray×Nat),vO w n p=true->w=p.1/\n=p.2:=by
     intro n p g;rw[vO,avA,U,decide_eq_true_eq,beq_iff_eq]at g;exact⟨g.1,by omega⟩
    rw[Q]at f⊢;have d:∀k:Int,1<=k/\k<=6->vO w l.length (fmL.getD (k - 1).toNat default)=true->w=fwE k/\l.length=jc k:=by
     intro k c g;obtain⟨a,b⟩:=z _ _ g;refine⟨a,b.trans ?_⟩;obtain rfl|rfl|rfl|rfl|rfl|rfl:=aiM c
     all_goals rfl
    have s:∀k:Int,1<=k/\k<=6->vO w l.length (fmL.getD (k - 1).toNat default)=true->∃k:Int,(1<=k/\k<=6)/\w=fwE k/\l.length=jc k/\lY (vO w l.length) fmL 0=k - 1:=by
     intro k c g;obtain⟨a,b⟩:=d k c g;exact⟨k,c,a,b,by rw[a,b];exact av4 c⟩
    have j:fmL.any (vO w l.length)=true:=by rw[<-Lu _ fmL 0];exact decide_eq_true f
    obtain⟨p,u,v⟩:=cP.1 j;obtain⟨i,D,rfl⟩:=List.mem_iff_getElem.1 u;have H:i<6:=D;have G:fmL.getD (((i:Int)+1) - 1).toNat default=fmL[i]:=by
     rw[show(((i:Int)+1) - 1).toNat=i by omega,S,cr D];rfl
    exact s ((i:Int)+1) ⟨by omega,by omega⟩ (by rw[G];exact v)
   obtain⟨t,J⟩:=I;have e:1+lY (vO w (l.map tK).length) fmL 0=k:=by omega
   rw[e];have C:(⟨k,l⟩:En).formed=true:=by
    simp only[En.formed,U,inR,decide_eq_true_eq,a8];exact⟨⟨⟨c.1,c.2⟩,t⟩,fun n E=>⟨(m n E).1,(m n E).2⟩⟩
   refine⟨C,avV ?_⟩;obtain⟨_,_,B⟩:=auW C;rw[au7 (by intro F;rw[F]at B;simp at B),h2,K];simp[bu,cJ]
 ·cases h
def MX:aA:=(sw (r0 [ba 1 0 0,mf 2 false] 1 [1] [1]) (sw (sr [fa 4 0 1,lw 5 2 4,oa 6 (.aj 58) 5,oa 7 pN 6,mv 8 7,ow 9 (.fld 2) 1 8 0,lq 10 9 8,ow 11 .len 10 8 0,ow 12 (.fld 0) 1 8 0,ow 13 (.fld 1) 12 8 0,lq 14 13 8,ow 15 .len 14 8 0,obF 16 pQ 11 15 8 0,pt 17 8 16,mv 18 17,ow 19 (.fld 3) 1 18 0,lq 20 19 18,ow 21 (.aj 59) 20 18 0,ow 22 pN 21 18 0,pt 23 18 22,mv 24 23,ow 25 (.fld 4) 1 24 0,ow 26 (.load true 2) 25 24 0,ow 27 (.aj 60) 26 24 0,ow 28 pN 27 24 0,pt 29 24 28] 0 [1,29] (cd 29 (sr [mf 2 false] 0 [2] .ret) .skip)) (sw (sr [mi 3 0] 0 [1,3] (.block 0 (.loop (sw (sr [mv 30 3,fa 31 2 1,lo 32 31,oa 33 .len 32,ob 34 pL 30 33] 0 [1,3,34] (cx 34 0)) (sw (.block 1 (sr [fa 37 2 1,lo 38 37,mv 39 3,ix 40 2 38 39,lw 41 2 40,oa 42 (.aj 61) 41,oa 43 pN 42] 0 [1,3,43] (cd 43 (sr [mf 2 false] 0 [2] .ret) .skip))) (rg [mv 35 3,oi 36 pA 35 1,mv 3 36] 0 [1,3])))))) (sr [fa 44 6 1,lw 45 2 44,oa 46 (.aj 62) 45,mv 47 46,ov 48 (.fld 8) 1 47 0,ov 49 (.load true 3) 48 47 0,ov 50 (.aj 63) 49 47 0,pf 51 47 50,mv 52 51,ov 53 (.fld 11) 1 52 0,ov 54 (.load false 1) 53 52 0,ov 55 (.aj 64) 54 52 0,pf 56 52 55,mv 57 56,ov 58 (.fld 12) 1 57 0,ov 59 (.load false 1) 58 57 0,ov 60 (.aj 65) 59 57 0,pf 61 57 60,mv 62 61,ov 63 (.load true 17) 1 62 0,ot 64 (.aj 67) [.t 63,.c (.slice true [])] 62 0,ov 65 (.aj 66) 64 62 0,pf 66 62 65,mv 2 66] 0 [2] .ret))))
def YT:aC C.P 18 1 MX aK=true:=by kernel_rfl
def Qi:aA:=(sr [mf 4 false] 0 [0,1] (sr [mv 5 0,mv 6 1,ob 7 (.aj 87) 5 6,mv 4 7] 0 [4] .ret))
def abd:aC C.P 23 2 Qi aJ=true:=by kernel_rfl
def Qj:aA:=(sw (r0 [ba 2 0 0,al 4 1 [zs,z0,z0,z0,z0,z0]] 2 [1,2,4] [2]) (sr [mv 5 1,fa 6 13 2,lo 7 6,fa 8 14 2,lo 9 8,fa 10 15 2,lo 11 10,fa 12 16 2,lo 13 12,on 14 (.build [zs,z0,z0,z0,z0,z0] [(0,1),(1,1),(2,1),(3,1),(4,1)]) [.t 5,.t 7,.t 9,.t 11,.t 13],sk 6 4 14 0] 0 [4] .ret))
def abe:aC C.P 67 2 Qj akX=true:=by kernel_rfl
def MG:aA:=(sr [mf 2 false] 0 [0] (sr [mv 3 0,on 4 (.aj 154) [.t 3,kI 0,kI 10800],mv 2 4] 0 [2] .ret))
def YE:aC C.P 59 1 MG aK=true:=by kernel_rfl
def EP:aA:=(sw (r0 [ba 1 0 0,mf 2 false] 1 [1] [1]) (sr [fa 3 0 1,lo 4 3,on 5 (.aj 154) [.t 4,kI 0,kI 50000],mv 6 5,ov 7 (.fld 1) 1 6 0,ov 8 (.load false 1) 7 6 0,ot 9 (.aj 154) [.t 8,kI 1,kI 50000] 6 0,pf 10 6 9,mv 2 10] 0 [2] .ret))
def QU:aC C.P 61 1 EP aK=true:=by kernel_rfl
def P6:aA:=(sr [mf 4 false] 0 [0,1] (sw (sr [mv 6 0,oa 7 .len 6,mv 8 1,oa 9 .len 8,ob 10 pQ 7 9] 0 [0,1,10] (cd 10 (sr [mf 4 false] 0 [4] .ret) .skip)) (sw (sr [mi 5 0] 0 [0,1,5] (.block 0 (.loop (sw (sr [mv 11 5,mv 12 0,oa 13 .len 12,ob 14 pL 11 13] 0 [0,1,5,14] (cx 14 0)) (sw (.block 1 (sw (r1 [mv 17 0,mv 18 5,ob1 19 (.aZ 1) 17 18 1,lv 20 19,mv 21 1,mv 22 5,ob1 23 (.aZ 1) 21 22 1,lv 24 23,ob 25 pQ 20 24] 0 [0,1,5,25] []) (cd 25 (sr [mf 4 false] 0 [4] .ret) .skip))) (rg [mv 15 5,oi 16 pA 15 1,mv 5 16] 0 [0,1,5])))))) (sr [mf 4 true] 0 [4] .ret))))
def aa0:aC C.P 87 2 P6 aJ=true:=by kernel_rfl
def Xe:aA:=(sr [mf 6 false] 0 [0,1,2] (sr [mv 7 0,mv 8 1,ob 9 (.bin .geq) 7 8,mv 10 9,ov 11 .mov 0 10 0,ov 12 .mov 2 10 0,obT 13 (.bin .leq) 11 12 10 0,pf 14 10 13,mv 6 14] 0 [6] .ret))
def ahj:aC C.P 154 3 Xe jr=true:=by kernel_rfl
def MH:aA:=(sr [mf 2 false] 0 [0] (sr [mv 3 0,on 4 (.aj 154) [.t 3,kI 4,kI 60],mv 2 4] 0 [2] .ret))
def YF:aC C.P 157 1 MH aK=true:=by kernel_rfl
end Go.Tel
namespace Go.Am
end Go.Am
namespace Go.Tel
open Go.Am Go.Lib
def anD (a b:List Int)(p:a.length<=1000000)(hb:b.length<=1000000):Pure C 87 [sF (a.map ay),sF (b.map ay)] (.d (.bool (decide (a=b)))) []:=by
 refine ah mixed rfl aa0 ?_;simp only[P6,aJ,Q,RN,B,F,I,J,N,O]
 by_cases l:a.length=b.length
 case neg=>
  have e:((a.length:Int) !=(b.length:Int))=true:=by simp;omega
  simp only[e,RN,B,F,I,J,N,O];have:a≠b:=fun e=>l (by rw[e])
  simp[this]
 have e:((a.length:Int) !=(b.length:Int))=false:=by simp[l]
 simp only[e,RN,B,F,I,J,N,O];refine aH a.length (fun i (_:Unit)=>⟨[(0, .d (sF (a.map ay))),(1, .d (sF (b.map ay))),(5,pI i)],⟨[],[],[]⟩⟩)
  (fun i _=>decide (a=b)=decide (a.drop i=b.drop i)) 0 () (aw _) rfl (by simp) (fun i _ g c=> ?_) (fun _ c=> ?_)
 ·obtain⟨m,n,o⟩:=rng g p
  have f:i<b.length:=by omega
  have k:(i:Int)<(b.length:Int):=by omega
  rw[drop_cons g,drop_cons f]at c;simp only[Q,m,n,g,f,k,Y,getD_map,aI,RN,B,F,I,J,N,O]
  by_cases h:a.getD i default=b.getD i default
  ·have j:(a.getD i default !=b.getD i default)=false:=bne_eq_false_iff_eq.2 h
   rw[h]at c;simp only[j,o,RN,B,F,I,J,N,O];exact bn () g rfl (by rw[c];simp)
  ·have j:(a.getD i default !=b.getD i default)=true:=bne_iff_ne.2 h
   simp only[j,RN,B,F,I,J,N,O];rw[c,decide_eq_false (by intro e;exact h (List.cons.inj e).1)]
 ·rw[aD,cv (by omega)]at c
  simp only[az,Q,c,RN,B,F,I,J,N,O]
def apU (a b:List Int)(c:a.length<=1000000)(hb:b.length<=1000000):Pure C 23 [sF (a.map ay),sF (b.map ay)] (.d (.bool (decide (a=b)))) []:=by
 refine ah mixed rfl abd ?_;simp only[Qi,aJ,RN,B,F,I,J,N,O];refine ak rfl rfl (anD a b c hb) ?_;(try simp only[RN,B,F,I,J,N,O])
def ER:aA:=(sw (r0 [ba 1 0 0,mf 2 false] 1 [1] [1]) (sw (sr [mi 3 0] 0 [1,3] (.block 0 (.loop (sw (sr [mv 4 3,fa 5 1 1,lo 6 5,oa 7 .len 6,ob 8 pL 4 7] 0 [1,3,8] (cx 8 0)) (sw (.block 1 (sw (r1 [fu 11 1 1 1,lv 12 11,mv 13 3,ob1 14 (.aZ 1) 12 13 1,lv 15 14,on 16 (.aj 105) [.t 15,kI 2,kI 1000],oa 17 pN 16,mv 18 17,ow 19 .mov 3 18 0,oF 20 pG [.t 19,kI 0] 18 0,ow 21 .mov 20 18 0,ov 22 (.fld 1) 1 21 1,ov 23 (.load false 1) 22 21 1,ov 24 .mov 3 21 0,obT 25 (.aZ 1) 23 24 21 1,ov 26 (.load false 1) 25 21 1,ov 27 (.fld 1) 1 21 1,ov 28 (.load false 1) 27 21 1,ov 29 .mov 3 21 0,ot 30 pU [.t 29,kI 1] 21 0,obT 31 (.aZ 1) 28 30 21 1,ov 32 (.load false 1) 31 21 1,obT 33 (.bin .leq) 26 32 21 0,oF 34 .pick [.t 21,.t 33,.c (.bool false)] 18 0,pt 35 18 34] 0 [1,3,35] []) (cd 35 (sr [mf 2 false] 0 [2] .ret) .skip))) (rg [mv 9 3,oi 10 pA 9 1,mv 3 10] 0 [1,3])))))) (sr [fa 36 0 1,lo 37 36,on 38 (.aj 105) [.t 37,kI 0,kI 1000],mv 39 38,ov 40 (.fld 1) 1 39 0,ov 41 (.load false 1) 40 39 0,ov 42 .len 41 39 0,ot 43 (.aj 105) [.t 42,kI 1,kI 3] 39 0,pf 44 39 43,mv 2 44] 0 [2] .ret)))
def QV:aC C.P 62 1 ER aK=true:=by kernel_rfl
def Qa:aA:=(sw (r0 [ba 1 0 0,mf 2 false] 1 [1] [1]) (sr [fa 3 1 1,lo 4 3,on 5 (.aj 105) [.t 4,kI 1,kI 1000],mv 6 5,ov 7 (.fld 0) 1 6 0,ov 8 (.load false 1) 7 6 0,ov 9 (.fld 1) 1 6 0,ov 10 (.load false 1) 9 6 0,ot 11 pM [kI 29,.t 10] 6 0,ov 12 (.fld 1) 1 6 0,ov 13 (.load false 1) 12 6 0,ot 14 pM [kI 30,.t 13] 6 0,ot 15 (.aj 105) [.t 8,.t 11,.t 14] 6 0,pf 16 6 15,mv 17 16,ov 18 (.fld 2) 1 17 0,ov 19 (.load false 1) 18 17 0,ov 20 (.fld 0) 1 17 0,ov 21 (.load false 1) 20 17 0,ot 22 pU [.t 21,kI 1] 17 0,ot 23 (.aj 105) [.t 19,kI 0,.t 22] 17 0,pf 24 17 23,mv 2 24] 0 [2] .ret))
def aa4:aC C.P 63 1 Qa aK=true:=by kernel_rfl
def Jh:aA:=(sr [mf 2 false] 0 [0] (sw (sr [mi 3 0] 0 [0,3] (.block 0 (.loop (sw (sr [mv 4 3,mv 5 0,oa 6 .len 5,ob 7 pL 4 6] 0 [0,3,7] (cx 7 0)) (sw (.block 1 (sr [mv 10 0,mv 11 3,ix 12 4 10 11,lw 13 4 12,oa 14 (.aj 156) 13,oa 15 pN 14] 0 [0,3,15] (cd 15 (sr [mf 2 false] 0 [2] .ret) .skip))) (rg [mv 8 3,oi 9 pA 8 1,mv 3 9] 0 [0,3])))))) (sr [mv 16 0,oa 17 .len 16,oi 18 (.bin .leq) 17 6,mv 2 18] 0 [2] .ret)))
def VT:aC C.P 64 1 Jh aK=true:=by kernel_rfl
def Qc:aA:=(sr [mf 2 false] 0 [0] (sr [mv 3 0,on 4 (.aj 105) [.t 3,kI 0,kI 4000],mv 2 4] 0 [2] .ret))
def aa6:aC C.P 65 1 Qc aK=true:=by kernel_rfl
def Xf:aA:=(sr [mf 6 false] 0 [0,1,2] (sr [mv 7 0,mv 8 1,ob 9 (.bin .geq) 7 8,mv 10 9,ov 11 .mov 0 10 0,ov 12 .mov 2 10 0,obT 13 (.bin .leq) 11 12 10 0,pf 14 10 13,mv 6 14] 0 [6] .ret))
def ahk:aC C.P 105 3 Xf jr=true:=by kernel_rfl
def MJ:aA:=(sw (r0 [ba 1 0 0,mf 2 false] 1 [1] [1]) (sw (sr [fa 3 0 1,lo 4 3] 0 [1,4] (cd 4 (sr [fa 5 1 1,lo 6 5,oi 7 pE 6 0,mv 8 7,ov 9 (.fld 2) 1 8 0,ov 10 (.load false 1) 9 8 0,ot 11 pE [.t 10,kI 0] 8 0,pf 12 8 11,mv 13 12,ov 14 (.fld 3) 1 13 0,ov 15 (.load false 1) 14 13 0,ot 16 (.aj 105) [.t 15,kI (-60),kI 60] 13 0,pf 17 13 16,mv 2 17] 0 [2] .ret) .skip)) (sr [fa 18 1 1,lo 19 18,on 20 (.aj 105) [.t 19,kI 1,kI 12],mv 21 20,ov 22 (.fld 2) 1 21 0,ov 23 (.load false 1) 22 21 0,ot 24 (.aj 105) [.t 23,kI 1,kI 31] 21 0,pf 25 21 24,mv 26 25,ov 27 (.fld 3) 1 26 0,ov 28 (.load false 1) 27 26 0,ot 29 pE [.t 28,kI 0] 26 0,pf 30 26 29,mv 2 30] 0 [2] .ret)))
def YH:aC C.P 156 1 MJ aK=true:=by kernel_rfl
def MO:aA:=(sw (r0 [ba 1 0 0,mf 2 false] 1 [1] [1]) (sw (sr [fa 5 0 1,lo 6 5,oa 7 .len 6,on 8 (.aj 150) [.t 7,kI 1,kI 5],oa 9 pN 8,mv 10 9,ow 11 (.fld 1) 1 10 0,lq 12 11 10,ow 13 .len 12 10 0,oF 14 (.aj 150) [.t 13,kI 1,kI 4] 10 0,ow 15 pN 14 10 0,pt 16 10 15] 0 [1,16] (cd 16 (sr [mf 2 false] 0 [2] .ret) .skip)) (sw (sr [mi 3 0] 0 [1,3] (.block 0 (.loop (sw (sr [mv 17 3,fa 18 0 1,lo 19 18,oa 20 .len 19,ob 21 pL 17 20] 0 [1,3,21] (cx 21 0)) (sw (.block 1 (sr [fa 24 0 1,lo 25 24,mv 26 3,ix 27 3 25 26,fa 28 0 27,lo 29 28,mv 30 3,on 31 (.aj 150) [.t 29,kI 0,.t 30],oa 32 pN 31,mv 33 32,ow 34 (.fld 0) 1 33 0,lq 35 34 33,ow 36 .mov 3 33 0,obF 37 (.aZ 3) 35 36 33 0,ow 38 (.fld 1) 37 33 0,ow 39 (.load true 2) 38 33 0,ow 40 (.aj 151) 39 33 0,ow 41 pN 40 33 0,pt 42 33 41,mv 43 42,ow 44 (.load true 2) 1 43 0,ow 45 .mov 3 43 0,oF 46 pA [.t 45,kI 1] 43 0,obF 47 (.aj 152) 44 46 43 0,ow 48 .len 47 43 0,oF 49 pG [.t 48,kI 3] 43 0,pt 50 43 49] 0 [1,3,50] (cd 50 (sr [mf 2 false] 0 [2] .ret) .skip))) (rg [mv 22 3,oi 23 pA 22 1,mv 3 23] 0 [1,3])))))) (sw (sr [mi 4 0] 0 [1,4] (.block 2 (.loop (sw (sr [mv 51 4,fa 52 1 1,lo 53 52,oa 54 .len 53,ob 55 pL 51 54] 0 [1,4,55] (cx 55 2)) (sw (.block 3 (sw (r1 [ou 58 (.load true 2) 1 1,fu 59 1 1 1,lv 60 59,mv 61 4,ob1 62 (.aZ 1) 60 61 1,lv 63 62,ob 64 (.aj 153) 58 63,oa 65 pN 64] 0 [1,4,65] []) (cd 65 (sr [mf 2 false] 0 [2] .ret) .skip))) (rg [mv 56 4,oi 57 pA 56 1,mv 4 57] 0 [1,4])))))) (sr [mf 2 true] 0 [2] .ret)))))
def YL:aC C.P 58 1 MO aK=true:=by kernel_rfl
def Qd:aA:=(sw (r0 [ba 1 0 0,mf 2 false] 1 [1] [1]) (sw (sr [mi 3 0] 0 [1,3] (.block 0 (.loop (sw (sr [mv 4 3,fa 5 0 1,lo 6 5,oa 7 .len 6,ob 8 pL 4 7] 0 [1,3,8] (cx 8 0)) (sw (.block 1 (sr [fa 11 0 1,lo 12 11,mv 13 3,ix 14 1 12 13,lo 15 14,oa 16 (.aj 157) 15,oa 17 pN 16] 0 [1,3,17] (cd 17 (sr [mf 2 false] 0 [2] .ret) .skip))) (rg [mv 9 3,oi 10 pA 9 1,mv 3 10] 0 [1,3])))))) (sr [fa 18 0 1,lo 19 18,oa 20 .len 19,oi 21 (.bin .leq) 20 8,mv 22 21,ov 23 (.fld 1) 1 22 0,ov 24 (.load false 1) 23 22 0,ot 25 (.aj 150) [.t 24,kI 0,kI 1000] 22 0,pf 26 22 25,mv 27 26,ov 28 (.fld 2) 1 27 0,ov 29 (.load false 1) 28 27 0,ot 30 (.aj 150) [.t 29,kI 0,kI 40] 27 0,pf 31 27 30,mv 32 31,ov 33 (.fld 3) 1 32 0,ov 34 (.load false 1) 33 32 0,ot 35 (.aj 150) [.t 34,kI 0,kI 100] 32 0,pf 36 32 35,mv 37 36,ov 38 (.fld 4) 1 37 0,ov 39 (.load false 1) 38 37 0,ot 40 (.aj 150) [.t 39,kI 0,kI 100] 37 0,pf 41 37 40,mv 42 41,ov 43 (.fld 5) 1 42 0,ov 44 (.load false 1) 43 42 0,ot 45 (.aj 150) [.t 44,kI 0,kI 1000000] 42 0,pf 46 42 45,mv 2 46] 0 [2] .ret)))
def aa7:aC C.P 66 1 Qd aK=true:=by kernel_rfl
def Xg:aA:=(sr [mf 6 false] 0 [0,1,2] (sr [mv 7 0,mv 8 1,ob 9 (.bin .geq) 7 8,mv 10 9,ov 11 .mov 0 10 0,ov 12 .mov 2 10 0,obT 13 (.bin .leq) 11 12 10 0,pf 14 10 13,mv 6 14] 0 [6] .ret))
def ahl:aC C.P 150 3 Xg jr=true:=by kernel_rfl
def Qe:aA:=(sw (r0 [ba 1 0 0,mf 2 false] 1 [1] [1]) (sr [fa 3 0 1,lo 4 3,oa 5 (.aj 157) 4,mv 6 5,ov 7 (.fld 1) 1 6 0,ov 8 (.load false 1) 7 6 0,ov 9 (.aj 157) 8 6 0,pf 10 6 9,mv 2 10] 0 [2] .ret))
def aa8:aC C.P 151 1 Qe aK=true:=by kernel_rfl
def Eb:aA:=(sw (r0 [ba 2 0 0,ag 4 2] 1 [1,2] [2]) (sw (sr [mv 6 1,oi 7 pE 6 0] 0 [1,2,7] (cd 7 (sr [ag 4 2] 0 [4] .ret) .skip)) (sw (r0 [fa 8 0 2,lo 9 8,mv 10 1,oi 11 pU 10 1,ix 12 3 9 11,lw 13 3 12,al 5 0 [z0,z0,z0],sk 3 5 13 0] 1 [2,5] [5]) (sw (r1 [ou 14 (.load true 2) 2 1,fu 15 0 5 1,lv 16 15,ob 17 (.aj 152) 14 16,on 18 (.app 2 false) [.c (.slice true []),.t 17],fu 19 1 5 1,ou 20 (.load true 2) 19 1,ou 21 (.gu 2 [.agg [z0,z0]] [0]) 20 1,ob 22 (.app 2 false) 18 21,mv 4 22] 0 [4] []) .ret))))
def YN:aC C.P 152 2 Eb aJ=true:=by kernel_rfl
def MN:aA:=(sw (r0 [ba 2 0 0,mf 4 false] 1 [1,2] [2]) (sr [mv 5 1,fa 6 0 2,lo 7 6,oa 8 .len 7,on 9 (.aj 150) [.t 5,kI 1,.t 8],mv 4 9] 0 [4] .ret))
def YK:aC C.P 153 2 MN aJ=true:=by kernel_rfl
def GL:aA:=(sw (r0 [ba 1 0 0,mf 2 false] 1 [1] [1]) (sw (sr [mi 3 0] 0 [1,3] (.block 0 (.loop (sw (sr [mv 4 3,fa 5 1 1,lo 6 5,oa 7 .len 6,ob 8 pL 4 7] 0 [1,3,8] (cx 8 0)) (sw (.block 1 (sr [fa 11 1 1,lo 12 11,mv 13 3,ix 14 1 12 13,lo 15 14,on 16 (.aj 155) [.t 15,kI 1,kI 120],oa 17 pN 16] 0 [1,3,17] (cd 17 (sr [mf 2 false] 0 [2] .ret) .skip))) (rg [mv 9 3,oi 10 pA 9 1,mv 3 10] 0 [1,3])))))) (sr [fa 18 0 1,lo 19 18,on 20 (.aj 155) [.t 19,kI 1,kI 60],mv 21 20,ov 22 (.fld 1) 1 21 0,ov 23 (.load false 1) 22 21 0,ov 24 .len 23 21 0,ot 25 (.aj 155) [.t 24,kI 1,kI 6] 21 0,pf 26 21 25,mv 2 26] 0 [2] .ret)))
def Ue:aC C.P 60 1 GL aK=true:=by kernel_rfl
def Xj:aA:=(sr [mf 6 false] 0 [0,1,2] (sr [mv 7 0,mv 8 1,ob 9 (.bin .geq) 7 8,mv 10 9,ov 11 .mov 0 10 0,ov 12 .mov 2 10 0,obT 13 (.bin .leq) 11 12 10 0,pf 14 10 13,mv 6 14] 0 [6] .ret))
def aho:aC C.P 155 3 Xj jr=true:=by kernel_rfl
end Go.Tel
namespace Go.Tel
open Go.Am
def U4 (n l h:Int):Pure C 150 [dI n,dI l,dI h] (.d (.bool (inR n l h))) []:=by
 refine ah mixed rfl ahl ?_
 by_cases h1:n>=l<;>simp only[h1,inR,Xg,jr,V,RN,B,F,I,J,N,O]
def Bv (n l h:Int):Pure C 105 [dI n,dI l,dI h] (.d (.bool (inR n l h))) []:=by
 refine ah mixed rfl ahk ?_
 by_cases h1:n>=l<;>simp only[h1,inR,Xf,jr,V,RN,B,F,I,J,N,O]
def aeA (n l h:Int):Pure C 154 [dI n,dI l,dI h] (.d (.bool (inR n l h))) []:=by
 refine ah mixed rfl ahj ?_
 by_cases h1:n>=l<;>simp only[h1,inR,Xe,jr,V,RN,B,F,I,J,N,O]
def aeB (n l h:Int):Pure C 155 [dI n,dI l,dI h] (.d (.bool (inR n l h))) []:=by
 refine ah mixed rfl aho ?_
 by_cases h1:n>=l<;>simp only[h1,inR,Xj,jr,V,RN,B,F,I,J,N,O]
def He (n:Int):Pure C 157 [dI n] (.d (.bool (aT n))) []:=by
 refine ah mixed rfl YF ?_;simp only[MH,aK,RN,B,F,I,J,N,O]
 repeat' first
  |(refine ak rfl rfl (aeA _ _ _) ?_;try simp only[RN,B,F,I,J,N,O])
  |(refine bF (by rfl) (fun a=> ?_) (fun a=> ?_)<;>simp only[a,RN,B,F,I,J,N,O])
  |(refine bJ (by rfl) (fun a=> ?_) (fun a=> ?_)<;>simp only[a,RN,B,F,I,J,N,O])
 all_goals(first|(simp only[aT, *,BSN];done)|(simp_all[aT];done)|(simp_all[aT];omega))
def akJ (n:Int):Pure C 59 [dI n] (.d (.bool (inR n 0 10800))) []:=by
 refine ah mixed rfl YE ?_;simp only[MG,aK,RN,B,F,I,J,N,O]
 repeat' first
  |(refine ak rfl rfl (aeA _ _ _) ?_;try simp only[RN,B,F,I,J,N,O])
  |(refine bF (by rfl) (fun a=> ?_) (fun a=> ?_)<;>simp only[a,RN,B,F,I,J,N,O])
  |(refine bJ (by rfl) (fun a=> ?_) (fun a=> ?_)<;>simp only[a,RN,B,F,I,J,N,O])
 all_goals(first|(simp only[inR, *,BSN];done)|(simp_all[inR];done)|(simp_all[inR];omega))
def anj (f:Fr):Pure C 61 [f.dv] (.d (.bool f.ok)) []:=by
 refine ah mixed rfl QU ?_;simp only[EP,aK,bW,RN,B,F,I,J,N,O]
 repeat' first
  |(refine ak rfl rfl (aeA _ _ _) ?_;try simp only[bW,RN,B,F,I,J,N,O])
  |(refine bF (by rfl) (fun a=> ?_) (fun a=> ?_)<;>simp only[a,bW,RN,B,F,I,J,N,O])
  |(refine bJ (by rfl) (fun a=> ?_) (fun a=> ?_)<;>simp only[a,bW,RN,B,F,I,J,N,O])
 all_goals(first|(simp only[Fr.ok, *,BSN];done)|(simp_all[Fr.ok];done)|(simp_all[Fr.ok];omega))
def anz (p:Pr):Pure C 151 [p.dv] (.d (.bool p.ok)) []:=by
 refine ah mixed rfl aa8 ?_;simp only[Qe,aK,jJ,RN,B,F,I,J,N,O]
 repeat' first
  |(refine ak rfl rfl (He _) ?_;try simp only[jJ,RN,B,F,I,J,N,O])
  |(refine bF (by rfl) (fun a=> ?_) (fun a=> ?_)<;>simp only[a,jJ,RN,B,F,I,J,N,O])
  |(refine bJ (by rfl) (fun a=> ?_) (fun a=> ?_)<;>simp only[a,jJ,RN,B,F,I,J,N,O])
 all_goals(first|(simp only[Pr.ok, *,BSN];done)|(simp_all[Pr.ok];done)|(simp_all[Pr.ok];omega))
def afE (n:Int):Pure C 65 [dI n] (.d (.bool (inR n 0 4000))) []:=by
 refine ah mixed rfl aa6 ?_;simp only[Qc,aK,RN,B,F,I,J,N,O]
 repeat' first
  |(refine ak rfl rfl (Bv _ _ _) ?_;try simp only[RN,B,F,I,J,N,O])
  |(refine bF (by rfl) (fun a=> ?_) (fun a=> ?_)<;>simp only[a,RN,B,F,I,J,N,O])
  |(refine bJ (by rfl) (fun a=> ?_) (fun a=> ?_)<;>simp only[a,RN,B,F,I,J,N,O])
 all_goals(first|(simp only[inR, *,BSN];done)|(simp_all[inR];done)|(simp_all[inR];omega))
def anm (m:gK):Pure C 63 [m.dv] (.d (.bool m.ok)) []:=by
 refine ah mixed rfl aa4 ?_;simp only[Qa,aK,iy,RN,B,F,I,J,N,O];refine ak rfl rfl (Bv _ _ _) ?_;cases h1:inR m.d 1 1000
 ·(try simp only[RN,B,F,I,J,N,O])
  simp[gK.ok,h1]
 have a:1<=m.d/\m.d<=1000:=by simpa[inR]using h1
 have c:dc .i64 (29*m.d)=29*m.d:=aF (by omega);have e:dc .i64 (30*m.d)=30*m.d:=aF (by omega);simp only[c,e,RN,B,F,I,J,N,O];refine ak rfl rfl (Bv _ _ _) ?_;cases h2:inR m.n (29*m.d) (30*m.d)
 ·(try simp only[RN,B,F,I,J,N,O])
  simp[gK.ok,h1,h2]
 have b:29*m.d<=m.n/\m.n<=30*m.d:=by simpa[inR]using h2
 have f:dc .i64 (m.n - 1)=m.n - 1:=aF (by omega);simp only[f,RN,B,F,I,J,N,O];refine ak rfl rfl (Bv _ _ _) ?_;(try simp only[RN,B,F,I,J,N,O]);simp[gK.ok,h1,h2]
def akI (f:Fs):Pure C 156 [f.dv] (.d (.bool (!f.bad))) []:=by
 refine ah mixed rfl YH ?_;simp only[MJ,aK,xH,RN,B,F,I,J,N,O]
 repeat' first
  |(refine ak rfl rfl (Bv _ _ _) ?_;try simp only[xH,RN,B,F,I,J,N,O])
  |(refine bF (by rfl) (fun a=> ?_) (fun a=> ?_)<;>simp only[a,xH,RN,B,F,I,J,N,O])
  |(refine bJ (by rfl) (fun a=> ?_) (fun a=> ?_)<;>simp only[a,xH,RN,B,F,I,J,N,O])
 all_goals first|(simp_all[Fs.bad];done)|(simp_all[Fs.bad,bne];done)
def ahL (l:List Fs)(hl:l.length<=1000000):Pure C 64 [sF (l.map Fs.dv)] (.d (.bool (jA l))) []:=by
 refine ah mixed rfl VT ?_;simp only[Jh,aK,Q,RN,B,F,I,J,N,O];refine aH l.length (fun i (_:Unit)=>⟨[(0, .d (sF (l.map Fs.dv))),(3,pI i)],⟨[],[],[]⟩⟩)
  (fun i _=>l.any Fs.bad=(l.drop i).any Fs.bad) 0 () (aw _) rfl rfl (fun i _ b a=> ?_) (fun _ a=> ?_)
 ·obtain⟨f,g,h⟩:=rng b hl
  rw[drop_cons b,List.any_cons]at a;have e:=akI (l.getD i default);rw[xH]at e;simp only[f,g,b,getD_map,xH,Y,Q,RN,B,F,I,J,N,O];refine ak rfl rfl e ?_;cases c:(l.getD i default).bad
  ·rw[c,Bool.false_or]at a
   simp only[h,RN,B,F,I,J,N,O];exact bn () b rfl a
  ·rw[c,Bool.true_or]at a
   (try simp only[RN,B,F,I,J,N,O]);simp[jA,a]
 ·rw[aD,List.any_nil]at a
  simp only[az,Q,RN,B,F,I,J,N,O];simp[jA,a];omega
def apT (d:Dvd)(hl:d.cir.length<=1000000):Pure C 60 [d.dv] (.d (.bool d.ok)) []:=by
 refine ah mixed rfl Ue ?_;rw[sZ];simp only[GL,aK,Q,RN,B,F,I,J,N,O];refine aH d.cir.length (fun i (_:Unit)=>⟨[(1, .d (.aW [dI d.eF,sF (d.cir.map ay)])),(3,pI i)],⟨[some [pI d.eF, .d (sF (d.cir.map ay))]],[0],[]⟩⟩)
  (fun i _=>(d.cir.all fun n=>inR n 1 120)=((d.cir.drop i).all fun n=>inR n 1 120)) 0 () (aw _) rfl rfl (fun i _ b a=> ?_) (fun _ a=> ?_)
 ·obtain⟨e,f,g⟩:=rng b hl
  rw[drop_cons b,b7]at a;simp only[e,f,b,getD_map,aI,Y,Q,RN,B,F,I,J,N,O];refine ak rfl rfl (aeB _ _ _) ?_;cases c:inR (d.cir.getD i default) 1 120
  ·rw[c,V]at a
   (try simp only[RN,B,F,I,J,N,O]);simp only[Dvd.ok,a,bq]
  ·rw[c,am]at a
   simp only[g,RN,B,F,I,J,N,O];exact bn () b rfl a
 ·rw[aD,cf]at a
  simp only[az,Q,RN,B,F,I,J,N,O];refine ak rfl rfl (aeB _ _ _) ?_;cases h1:inR d.eF 1 60
  ·(try simp only[RN,B,F,I,J,N,O])
   simp only[Dvd.ok,h1,V]
  simp only[Q,RN,B,F,I,J,N,O];refine ak rfl rfl (aeB _ _ _) ?_;(try simp only[RN,B,F,I,J,N,O]);simp only[Dvd.ok,h1,a,am,cq]
def apS (c:Cal)(hl:c.cy.length<=1000000):Pure C 62 [c.dv] (.d (.bool c.ok)) []:=by
 refine ah mixed rfl QV ?_;rw[fE];simp only[ER,aK,Q,RN,B,F,I,J,N,O];refine aH c.cy.length (fun i (_:Unit)=>⟨[(1, .d (.aW [dI c.ep,sF (c.cy.map ay)])),(3,pI i)],⟨[some [pI c.ep, .d (sF (c.cy.map ay))]],[0],[]⟩⟩)
  (fun i _=>JD c.cy 1=JD (c.cy.drop i) (if i=0 then 1 else c.cy.getD (i - 1) default)/\(i≠0->2<=c.cy.getD (i - 1) default)) 0 () (aw _) rfl ⟨rfl,fun h=>absurd rfl h⟩ (fun i _ g e=> ?_) (fun _ e=> ?_)
 ·obtain⟨q,o,p⟩:=rng g hl
  obtain⟨e,n⟩:=e;rw[drop_cons g,JD]at e;simp only[q,o,g,getD_map,aI,Y,Q,RN,B,F,I,J,N,O];refine ak rfl rfl (Bv _ _ _) ?_;have a:∀b,inR (c.cy.getD i default) ((if i=0 then 1 else c.cy.getD (i - 1) default)+1) 1000=b->JD c.cy 1=(b&&JD (c.cy.drop (i+1)) (c.cy.getD i default)):=fun b m=>by rw[e,m]
  cases m:inR (c.cy.getD i default) 2 1000
  ·have f:=a false (by
    simp only[inR,bX,decide_eq_false_iff_not]at m⊢
    split
    ·omega
    ·rename_i h;have:=n h;omega)
   (try simp only[RN,B,F,I,J,N,O]);simp only[Cal.ok,f,V,bq]
  have j:2<=c.cy.getD i default/\c.cy.getD i default<=1000:=by simpa[inR]using m
  by_cases k:i=0
  ·subst k
   have f:=a true (by simp only[inR,if_true,U,decide_eq_true_eq];omega);have z:¬((0:Nat):Int)>0:=by decide
   simp only[z,p,RN,B,F,I,J,N,O];exact bn () g rfl ⟨by rw[f];rfl,fun _=>j.1⟩
  ·have z:(i:Int)>0:=by omega
   have s:dc .i64 ((i:Int) - 1)=((i - 1:Nat):Int):=by rw[aF (by omega)];omega
   have j0:(0:Int)<=((i - 1:Nat):Int):=by omega
   have r:i - 1<c.cy.length:=by omega
   rw[if_neg k]at a;simp only[z,s,j0,r,o,g,getD_map,aI,Y,Q,RN,B,F,I,J,N,O]
   by_cases l:c.cy.getD i default<=c.cy.getD (i - 1) default
   ·have f:=a false (by simp only[inR,bX,decide_eq_false_iff_not];omega)
    simp only[l,RN,B,F,I,J,N,O];simp only[Cal.ok,f,V,bq]
   ·have f:=a true (by simp only[inR,U,decide_eq_true_eq];omega)
    simp only[l,p,RN,B,F,I,J,N,O];exact bn () g rfl ⟨by rw[f,if_neg (by omega)];rfl,fun _=>j.1⟩
 ·rw[aD]at e
  have f:=e.1;rw[JD]at f;simp only[az,Q,RN,B,F,I,J,N,O];refine ak rfl rfl (Bv _ _ _) ?_;cases h1:inR c.ep 0 1000
  ·(try simp only[RN,B,F,I,J,N,O])
   simp only[Cal.ok,h1,V]
  simp only[Q,RN,B,F,I,J,N,O];refine ak rfl rfl (Bv _ _ _) ?_;(try simp only[RN,B,F,I,J,N,O]);simp only[Cal.ok,h1,f,am,cq]
def ahH (b:Bil)(hl:b.dJ.length<=1000000):Pure C 66 [b.dv] (.d (.bool b.ok)) []:=by
 refine ah mixed rfl aa7 ?_;rw[JI];simp only[Qd,aK,Q,RN,B,F,I,J,N,O];refine aH b.dJ.length (fun i (_:Unit)=>⟨[(1, .d (.aW [sF (b.dJ.map ay),dI b.gq,dI b.hours,dI b.lC,dI b.pct,dI b.adv])),(3,pI i)],⟨[some [.d (sF (b.dJ.map ay)),pI b.gq,pI b.hours,pI b.lC,pI b.pct,pI b.adv]],[0],[]⟩⟩)
  (fun i _=>b.dJ.all aT=(b.dJ.drop i).all aT) 0 () (aw _) rfl rfl (fun i _ f a=> ?_) (fun _ a=> ?_)
 ·obtain⟨h,j,k⟩:=rng f hl
  rw[drop_cons f,b7]at a;simp only[h,j,f,getD_map,aI,Y,Q,RN,B,F,I,J,N,O];refine ak rfl rfl (He _) ?_;cases g:aT (b.dJ.getD i default)
  ·rw[g,V]at a
   (try simp only[RN,B,F,I,J,N,O]);simp only[Bil.ok,qY,a,bq,V]
  ·rw[g,am]at a
   simp only[k,RN,B,F,I,J,N,O];exact bn () f rfl a
 ·rw[aD,cf]at a
  simp only[az,Q,RN,B,F,I,J,N,O]
  by_cases c:(b.dJ.length:Int)<=8
  case neg=>
   simp only[c,RN,B,F,I,J,N,O];have:¬b.dJ.length<=8:=by omega
   simp[Bil.ok,qY,this,c]
  have l:b.dJ.length<=8:=by omega
  simp only[c,RN,B,F,I,J,N,O]
  repeat' first
   |(refine ak rfl rfl (U4 _ _ _) ?_;try simp only[c,RN,B,F,I,J,N,O])
   |(refine bF (by rfl) (fun e=> ?_) (fun e=> ?_)<;>simp only[e,c,RN,B,F,I,J,N,O])
   |(refine bJ (by rfl) (fun e=> ?_) (fun e=> ?_)<;>simp only[e,c,RN,B,F,I,J,N,O])
  all_goals(simp_all[Bil.ok,qY];done)
def afA (s:Su)(ts:List Int)(ex:Bool):Pure C 67 [s.dv, .slice ex (ts.map ay)] (.d (.agg [.slice ex (ts.map ay),dI s.gq,dI s.hours,dI s.lC,dI s.pct,dI 0])) []:=by
 refine ah mixed rfl abe ?_;rw[gU];simp only[Qj,akX,lu,RN,B,F,I,J,N,O]
end Go.Tel
namespace Go.Tel
open Go.Am
variable{ls:List Lk}
def D9 {n:Nat}(c:n<=ls.length)(h:linked (ls.take n)){a:Nat}(b:a<=n):fO ls a=fO (ls.take n) a:=by
 have:=Ij (ms:=ls.drop n) h a a (by rw[b4];omega);rw[List.take_append_drop]at this;exact this
def ah2 {n a:Nat}(b:a<n):(ls.take n).getD a default=ls.getD a default:=by
 rw[S,S,List.getElem?_take,if_pos b]
def PU {n a:Nat}(b:n<=ls.length)(h:linked (ls.take n))(c:a<n):(0<=(ls.getD a default).fr/\(ls.getD a default).fr<=a)/\fO ls (a+1)=fO ls (ls.getD a default).fr.toNat++ [a]:=by
 have d:(ls.take n).length=n:=by rw[b4];omega
 have h1:=h a (by omega);have h2:=nS h (a:=a) (by omega);rw[ah2 c]at h1 h2;refine⟨h1,?_⟩;rw[D9 b h (show a+1<=n by omega),h2,D9 b h (show(ls.getD a default).fr.toNat<=n by omega)]
def ael {n a:Nat}(c:n<=ls.length)(h:linked (ls.take n))(b:a<=n):(fO ls a).length<=a:=by
 rw[D9 c h b];exact OM h (by rw[b4];omega)
def abJ (p:Pc)(n:Nat)(k:n<=p.links.length)(b:linked (p.links.take n))(hl:p.links.length<=1000):∀a,a<=n->Pure C 152 [p.dv,dI (a:Nat)] (.d (sF ((bg p.links a).map Pr.dv))) []:=by
 intro a
 induction a using Nat.strongRecOn with
 |ind a h=>
  intro j;refine bU (aG mixed rfl YN ?_);rw[dZ]at*
  match a,h,j with
  |0,_,_=>
   have z:(((0:Nat):Int)==0)=true:=rfl;simp only[Eb,aJ,z,RN,B,F,I,J,N,O];simp[datum,Mem.row,bg,fO,uV]
  |a+1,h,j=>
   have z:(((a+1:Nat):Int)==0)=false:=by simp;omega
   have s:dc .i64 (((a+1:Nat):Int) - 1)=(a:Int):=by rw[aF (by omega)];omega
   obtain⟨t,e⟩:=PU k b (show a<n by omega);have l:(p.links.getD a default).fr.toNat<=a:=by omega
   have i:=h (p.links.getD a default).fr.toNat (by omega) (by omega);have c:(((p.links.getD a default).fr.toNat:Nat):Int)=(p.links.getD a default).fr:=by omega
   rw[c]at i;have j0:(0:Int)<=(a:Int):=by omega
   have r:a<p.links.length:=by omega
   have m:(bg p.links (p.links.getD a default).fr.toNat).length<=1000:=by
    rw[bg,Q];have:=ael k b (show(p.links.getD a default).fr.toNat<=n by omega);omega
   have f:∀x∈(bg p.links (p.links.getD a default).fr.toNat).map Pr.dv,x.fits 2=true:=by
    intro x o;obtain⟨y,_,rfl⟩:=bv.1 o;rw[jJ];exact Ll
   simp only[Eb,aJ,z,s,j0,r,getD_map,nI,Y,Q,RN,B,F,I,J,N,O];refine ak rfl rfl i ?_;(try simp only[RN,B,F,I,J,N,O]);have g:bg p.links (a+1)=bg p.links (p.links.getD a default).fr.toNat++ [(p.links.getD a default).pr]:=by rw[bg,e,aE];rfl
   refine⟨f,by simp,by simp,by rw[Q];omega,rfl,by intro y q;subst q;rfl,by simp,by rw[Q];omega,?_⟩;rw[g];simp[datum,Mem.row,jJ,DV.strip]
def akr (p:Pc)(n:Int):Pure C 153 [p.dv,dI n] (.d (.bool (inR n 1 p.links.length))) []:=by
 refine ah mixed rfl YK ?_;rw[dZ];simp only[MN,aJ,Q,RN,B,F,I,J,N,O];refine ak rfl rfl (U4 _ _ _) ?_;(try simp only[RN,B,F,I,J,N,O])
def akv (p:Pc)(hl:p.links.length<=1000)(hh:p.hands.length<=1000):Pure C 58 [p.dv] (.d (.bool p.ok)) []:=by
 have z:∀q:Pr,Pure C 151 [.agg [dI q.a,dI q.b]] (.d (.bool q.ok)) []:=fun q=>by have:=anz q;rwa [jJ]at this
 have v:∀n:Int,Pure C 153 [.agg [sF (p.links.map Lk.dv),sF (p.hands.map ay)],dI n] (.d (.bool (inR n 1 p.links.length))) []:=fun n=>by have:=akr p n;rwa [dZ]at this
 refine ah mixed rfl YL ?_;have x:=dZ (p:=p);rw[dZ];simp only[MO,aK,Q,RN,B,F,I,J,N,O];refine ak rfl rfl (U4 _ _ _) ?_;cases u:inR p.links.length 1 5
 ·(try simp only[RN,B,F,I,J,N,O])
  simp only[Pc.ok,u,V]
 simp only[Q,RN,B,F,I,J,N,O];refine ak rfl rfl (U4 _ _ _) ?_;cases D:inR p.hands.length 1 4
 ·(try simp only[RN,B,F,I,J,N,O])
  simp only[Pc.ok,u,D,V,am]
 have H:p.links.length<=5:=by simp only[inR,U,decide_eq_true_eq]at u;omega
 have w:p.ok=(jS [] p.links&&p.hands.all (fun n=>inR n 1 p.links.length)):=by simp[Pc.ok,u,D]
 rw[w];(try simp only[RN,B,F,I,J,N,O]);refine aH p.links.length (fun i (_:Unit)=>⟨[(1, .d (.aW [sF (p.links.map Lk.dv),sF (p.hands.map ay)])),(3,pI i)],⟨[some [.d (sF (p.links.map Lk.dv)), .d (sF (p.hands.map ay))]],[0],[]⟩⟩)
  (fun i _=>jS [] p.links=jS (p.links.take i) (p.links.drop i)/\linked (p.links.take i)) 0 () (aw _) rfl ⟨by simp,fun i L=>by simp at L⟩ (fun i _ e c=> ?_) (fun _ c=> ?_)
 ·obtain⟨r,s,t⟩:=rng e (by omega)
  obtain⟨c,j⟩:=c;have l:(p.links.take i).length=i:=by simp;omega
  rw[drop_cons e,jS]at c;have k:mP (p.links.take i) (p.links.getD i default)=false->jS [] p.links=false:=fun h=>by rw[c,h,V]
  simp only[r,s,e,getD_map,nI,Y,Q,RN,B,F,I,J,N,O];refine ak rfl rfl (U4 _ _ _) ?_;cases g:inR (p.links.getD i default).fr 0 (i:Int)
  ·(try simp only[RN,B,F,I,J,N,O])
   rw[k (by simp only[mP,l,g,V])];rfl
  simp only[r,s,e,getD_map,nI,Y,Q,RN,B,F,I,J,N,O];refine ak rfl rfl (z _) ?_;cases o:(p.links.getD i default).pr.ok
  ·(try simp only[RN,B,F,I,J,N,O])
   rw[k (by simp only[mP,o,bq,V])];rfl
  have G:0<=(p.links.getD i default).fr/\(p.links.getD i default).fr<=(i:Int):=by simpa[inR]using g
  have f:linked (p.links.take (i+1)):=by rw[aS e];exact JV j G.1 (by rw[l];exact G.2)
  obtain⟨_,A⟩:=PU (show i+1<=p.links.length by omega) f (Nat.lt_succ_self i);have y:=D9 (show i<=p.links.length by omega) j (show(p.links.getD i default).fr.toNat<=i by omega);have m:=abJ p (i+1) (by omega) f hl (i+1) (bh _);have M:(bg p.links (i+1)).length=(fO (p.links.take i) (p.links.getD i default).fr.toNat).length+1:=by rw[bg,Q,A,Z,y];rfl
  rw[x]at m;simp only[t,RN,B,F,I,J,N,O];refine ak rfl rfl m ?_;simp only[Q,RN,B,F,I,J,N,O]
  by_cases K:(((bg p.links (i+1)).length:Nat):Int)>3
  ·simp only[K,RN,B,F,I,J,N,O]
   rw[k (by simp only[mP,bX,cw,cA,decide_eq_true_eq];right;omega)];rfl
  ·simp only[K,t,RN,B,F,I,J,N,O]
   have P:mP (p.links.take i) (p.links.getD i default)=true:=by
    simp only[mP,l,g,o,am,cw,c8,decide_eq_false_iff_not];omega
   rw[P,am,<-aS e]at c;exact bn () e rfl ⟨c,f⟩
 ·obtain⟨c,j⟩:=c
  rw[aD,jS]at c;rw[c,am];simp only[az,Q,RN,B,F,I,J,N,O];refine aH p.hands.length (fun i (_:Unit)=>⟨[(1, .d (.aW [sF (p.links.map Lk.dv),sF (p.hands.map ay)])),(4,pI i)],⟨[some [.d (sF (p.links.map Lk.dv)), .d (sF (p.hands.map ay))]],[0],[]⟩⟩)
   (fun i _=>(p.hands.all (fun n=>inR n 1 p.links.length))=((p.hands.drop i).all (fun n=>inR n 1 p.links.length))) 0 () (aw _) rfl rfl (fun i _ e c=> ?_) (fun _ c=> ?_)
  ·obtain⟨r,s,t⟩:=rng e (by omega)
   rw[drop_cons e,b7]at c;simp only[r,s,e,getD_map,aI,Y,Q,RN,B,F,I,J,N,O];refine ak rfl rfl (v _) ?_;cases E:inR (p.hands.getD i default) 1 p.links.length
   ·rw[E,V]at c
    simp only[c,RN,B,F,I,J,N,O]
   ·rw[E,am]at c
    simp only[t,RN,B,F,I,J,N,O];exact bn () e rfl c
  ·rw[aD,cf]at c
   simp only[az,Q,c,RN,B,F,I,J,N,O]
def En.chg (x:En):Chg:=⟨x.n 0,⟨x.n 1,x.n 2⟩⟩
def mV (p:Pc)(x:En):Pc:=if x.kind=2 then p.changed x.chg else p
def dG (s:Su)(l:List En):Pc:=l.foldl mV s.pc
def oM:List Int->Int->List Int
 | [],n=>[n]
 |x::l,n=>if x<=n then x::oM l n else n::x::l
def dH (l:List Int)(n:Int):List Int×Bool:=if n∈l then(l.erase n,true)else(l,false)
def gY (st:List Int)(c d:Pr):List Int×Bool:=
 let r1:=if c.a≠d.a then dH st d.a else(st,true)
 let r2:=if r1.2=true/\c.b≠d.b then dH r1.1 d.b else r1
 let e:=if c.a≠d.a then oM r2.1 c.a else r2.1
 (if c.b≠d.b then oM e c.b else e,r2.2)
def jH (p:Pc)(x:En):Pr:=(p.links.getD (x.n 0).toNat default).pr
def OX (r:Pc×List Int)(x:En):Pc×List Int:=
 (mV r.1 x,if x.kind=1 then oM r.2 (x.n 0)else if x.kind=2 then(gY r.2 (jH r.1 x) x.chg.pr).1 else r.2)
def iI (s:Su)(l:List En):List Int:=(l.foldl OX (s.pc,[])).2
def lM (h:Int)(r:Fr×Bool)(x:En):Fr×Bool:=
 if x.kind=3/\x.n 0=h then(⟨x.n 1,x.n 2⟩,true)else if x.kind=4/\x.n 0=h then(r.1,false)else r
def dA (l:List En)(h:Int):Fr×Bool:=l.foldl (lM h) (⟨0,0⟩,false)
def Vw (h:Int)(r:Fr×(Fr×Bool))(x:En):Fr×(Fr×Bool):=
 (if x.kind=4/\x.n 0=h then r.2.1 else r.1,lM h r.2 x)
def RP (s:Su)(l:List En)(h:Int):Fr:=(l.foldl (Vw h) (s.tg.getD h.toNat default,(⟨0,0⟩,false))).1
def Sm (l:List En):Int:=l.foldl (fun n x=>if x.kind=4 then n+x.n 1 else n) 0
def Vg (l:List En):List Int:=(l.filter fun x=>x.kind==5).map fun x=>x.n 0
def je (s:Su)(l:List En)(x:En):dG s (l++ [x])=mV (dG s l) x:=by simp[dG]
def ahZ (s:Su)(l:List En):(l.foldl OX (s.pc,[])).1=dG s l:=by
 unfold dG;generalize s.pc=p;generalize ([]:List Int)=st
 induction l generalizing p st with
 |nil=>rfl
 |cons x l a=>simp only[bj];rw[<-a];rfl
def gX (s:Su)(l:List En)(x:En):iI s (l++ [x])=if x.kind=1 then oM (iI s l) (x.n 0)else if x.kind=2 then(gY (iI s l) (jH (dG s l) x) x.chg.pr).1 else iI s l:=by
 unfold iI;simp only[cn,bj,ch,OX,ahZ]
def nR (l:List En)(h:Int)(x:En):dA (l++ [x]) h=lM h (dA l h) x:=by simp[dA]
def alq (s:Su)(l:List En)(h:Int)(f:Fr):(l.foldl (Vw h) (f,(⟨0,0⟩,false))).2=dA l h:=by
 unfold dA;generalize ((⟨0,0⟩,false):Fr×Bool)=o
 induction l generalizing f o with
 |nil=>rfl
 |cons x l a=>simp only[bj];rw[<-a];rfl
def uM (s:Su)(l:List En)(h:Int)(x:En):RP s (l++ [x]) h=if x.kind=4/\x.n 0=h then(dA l h).1 else RP s l h:=by
 unfold RP;simp only[cn,bj,ch,Vw,alq s]
def wF (l:List En)(x:En):Sm (l++ [x])=if x.kind=4 then Sm l+x.n 1 else Sm l:=by simp[Sm]
def zC (l:List En)(x:En):Vg (l++ [x])=if x.kind=5 then Vg l++ [x.n 0]else Vg l:=by
 unfold Vg
 by_cases h:x.kind=5<;>simp[h]
def ni (p:Pc)(c:Chg):List Int:=((c6 p.hands.length).filter fun i=>decide (dP (bg p.links (p.hands.getD i default).toNat)≠dP (bg (p.changed c).links (p.hands.getD i default).toNat))).map fun(i:Nat)=>(i:Int)
def UG (s:Su)(p:Pc)(h:Int):Int:=(s.bil (cZ (bg p.links (p.hands.getD h.toNat default).toNat))).price
def aj6 (p:Pc)(h:Int)(f:Fr)(turns:Int):Int:=ahi (bg p.links (p.hands.getD h.toNat default).toNat) f turns
def qh (s:Su)(l:List En)(x:En):Bool:=
 if x.kind=1 then(s.dvd.first (x.n 0)).isSome&&decide ((iI s l).length<8)
 else if x.kind=2 then !decide (jH (dG s l) x=x.chg.pr)&&(gY (iI s l) (jH (dG s l) x) x.chg.pr).2&&(ni (dG s l) x.chg).all fun h=>(dA l h).2
 else if x.kind=3 then !(dA l (x.n 0)).2
 else if x.kind=4 then(dA l (x.n 0)).2&&inR (aj6 (dG s l) (x.n 0) (dA l (x.n 0)).1 100) (-s.lim) s.lim&&decide (x.n 1>=UG s (dG s l) (x.n 0))
 else !((l.any fun y=>y.kind==5&&decide (y.n 0>=x.n 0)))&&s.works (s.first+x.n 0 - 1)
def mJ (s:Su)(l:List En):Bool:=(c6 l.length).all fun i=>qh s (l.take i) (l.getD i default)
def O4 (s:Su)(l:List En)(x:En):mJ s (l++ [x])=(mJ s l&&qh s l x):=by
 unfold mJ;rw[Z,ax,cX,List.all_append,b7,cf,cq]
 congr 1
 ·rw[bz]
  simp only[a8,bR];constructor
  ·intro h i a
   have:=h i a
   rwa [be (by omega),S,aq a,<-S]at this
  ·intro h i a
   have:=h i a
   rwa [be (by omega),S,aq a,<-S]
 ·simp[S]
def mG:∀(l:List Int) (n:Int),(oM l n).Perm (n::l)
 | [],n=>List.Perm.refl _
 |x::l,n=>by
  unfold oM
  split
  ·exact((mG l n).cons x).trans (List.Perm.swap n x l)
  ·exact List.Perm.refl _
def Up (l:List Int):Prop:=l.Pairwise (·<=·)
variable{l:List Int}
def Y5 {n:Int}(h:Up l):Up (oM l n):=by
 induction l with
 |nil=>simp[oM,Up]
 |cons x l d=>
  simp only[Up,ck]at h;unfold oM
  split
  ·rename_i c
   simp only[Up,ck];refine⟨fun a b=> ?_,d h.2⟩
   rcases ab.1 ((mG l n).mem_iff.1 b)with rfl|b
   ·exact c
   ·exact h.1 a b
  ·rename_i c
   simp only[Up,ck];refine⟨fun a b=> ?_,h.1,h.2⟩
   rcases ab.1 b with rfl|b
   ·omega
   ·have:=h.1 a b;omega
def XG {n:Int}(h:Up l):Up (dH l n).1:=by
 unfold dH
 split
 ·exact List.Pairwise.sublist List.erase_sublist h
 ·exact h
def alj {a b:Pr}(h:Up l):Up (gY l a b).1:=by
 have h1:Up (if a.a≠b.a then dH l b.a else(l,true)).1:=by split;exact XG h;exact h
 unfold gY;simp only;generalize (if a.a≠b.a then dH l b.a else(l,true))=r1 at h1;have h2:Up (if r1.2=true/\a.b≠b.b then dH r1.1 b.b else r1).1:=by split;exact XG h1;exact h1
 generalize (if r1.2=true/\a.b≠b.b then dH r1.1 b.b else r1)=r2 at h2;have c:Up (if a.a≠b.a then oM r2.1 a.a else r2.1):=by split;exact Y5 h2;exact h2
 split
 ·exact Y5 c
 ·exact c
def acg {st:List Int}(h:l.Perm st)(c d:Pr):match oz st [] c.a d.a with
  |none=>(gY l c d).2=false
  |some (o,m)=>match oz o m c.b d.b with
   |none=>(gY l c d).2=false
   |some (p,n)=>(gY l c d).2=true/\(gY l c d).1.Perm (p++n):=by
 unfold oz gY dH
 by_cases k:c.a=d.a
 ·simp only[k,ne_eq,not_true_eq_false,if_true,if_false,true_and]
  by_cases j:c.b=d.b
  ·simp only[j,not_true_eq_false,if_true,if_false]
   exact⟨trivial,by simpa using h⟩
  ·simp only[j,not_false_eq_true,if_true,if_false]
   by_cases g:d.b∈st
   ·have f:d.b∈l:=h.mem_iff.2 g
    simp only[g,f,if_true,bA];refine⟨trivial,(mG _ _).trans ?_⟩;exact((h.erase d.b).cons c.b).trans (bt c.b _).symm
   ·have f:d.b∉l:=fun e=>g (h.mem_iff.1 e)
    simp only[g,f,if_false]
 ·simp only[k,ne_eq,not_false_eq_true,if_true,if_false]
  by_cases g:d.a∈st
  ·have f:d.a∈l:=h.mem_iff.2 g
   have h1:=h.erase d.a;simp only[g,f,if_true,bA,true_and]
   by_cases j:c.b=d.b
   ·simp only[j,not_true_eq_false,if_true,if_false]
    exact⟨trivial,(mG _ _).trans ((h1.cons c.a).trans (bt c.a _).symm)⟩
   ·simp only[j,not_false_eq_true,if_true,if_false]
    by_cases i:d.b∈st.erase d.a
    ·have apm:d.b∈l.erase d.a:=h1.mem_iff.2 i
     simp only[i,apm,if_true];refine⟨trivial,(mG _ _).trans ?_⟩;refine((mG _ _).cons c.b).trans ?_;refine(((h1.erase d.b).cons c.a).cons c.b).trans ?_;have:(c.b::c.a::(st.erase d.a).erase d.b).Perm ([c.a,c.b]++(st.erase d.a).erase d.b):=List.Perm.swap _ _ _;exact this.trans List.perm_append_comm
    ·have apm:d.b∉l.erase d.a:=fun e=>i (h1.mem_iff.1 e)
     simp only[i,apm,if_false]
  ·have f:d.a∉l:=fun e=>g (h.mem_iff.1 e)
   simp only[g,f,if_false,bi,false_and]
def abP {a b k:Nat}(hk:0<k):G7 (a*k) (b*k)=G7 a b:=by
 unfold G7;rw[Nat.gcd_mul_right,cz _ _ hk,cz _ _ hk]
def ane {a b c d:Nat}(hb:0<b)(hd:0<d):G7 a b=G7 c d↔a*d=c*b:=by
 constructor
 ·intro h
  unfold G7 at h;simp only[Fr.mk.injEq,Int.natCast_inj]at h;have e:=bE (cR a b);have f:=bE (cM a b);have g:=bE (cR c d);have i:=bE (cM c d);rw[<-i]
  conv=>lhs;lhs;rw[<-e]
  conv=>rhs;rw[<-g];rhs;rw[<-f]
  rw[h.1,h.2];simp only[Nat.mul_assoc,db,Nat.mul_left_comm]
 ·intro h
  rw[<-abP (a:=a) (b:=b) hd,h,db b d,abP hb]
def UK:∀(l:List Int) (x p:Int),jQ (l++ [x]) p=jQ l p*x
 | [],_,_=>rfl
 |y::l,x,p=>by simp only[aL,jQ];exact UK l x (p*y)
def gW (l:List Pr):Fr:=⟨jQ (l.map (·.a)) 1,jQ (l.map (·.b)) 1⟩
def UH (l:List Pr)(x:Pr):gW (l++ [x])=mulR (gW l) x:=by simp[gW,mulR,UK]
def QJ (h:linked ls){a:Nat}(b:a<ls.length):bg ls (a+1)=bg ls (ls.getD a default).fr.toNat++ [(ls.getD a default).pr]:=by
 rw[bg,nS h b,aE];rfl
def UR {ls:List Lk}(h:linked ls):∀(k i:Nat) (a:List Fr),i+k=ls.length->a.length=i+1->(∀j,j<=i->a.getD j default=gW (bg ls j))->∀j,j<=ls.length->(qW (ls.drop i) a).getD j default=gW (bg ls j)
 |0,i,a,g,c,b,j,f=>by
  rw[List.drop_eq_nil_of_le (by omega),qW];exact b j (by omega)
 |k+1,i,a,g,c,b,j,f=>by
  have d:i<ls.length:=by omega
  have l:=h i d;rw[drop_cons d,qW];refine UR h k (i+1) _ (by omega) (by simp[c]) (fun m n=> ?_) j f
  by_cases e:m<=i
  ·rw[S,aq (by omega),<-S];exact b m e
  ·have:m=i+1:=by omega
   subst this;rw[S,<-c,bp,b6,b _ (by omega),c,QJ h d,UH]
def abL (h:linked ls){a:Nat}(b:a<=ls.length):(fP ls).getD a default=gW (bg ls a):=by
 have:=UR h ls.length 0 [⟨1,1⟩] (by omega) rfl (fun j c=>by
  have:j=0:=by omega
  subst this;simp[gW,bg,fO,uV,jQ]) a b
 simpa[fP]using this
def Xk {l:List Pr}(h:∀p∈l,p.ok=true):1<=(gW l).n/\1<=(gW l).d:=by
 have f:∀p∈l,1<=p.a/\1<=p.b:=fun p c=>by
  have:=h p c;simp only[Pr.ok,aT,inR,U,decide_eq_true_eq,ge_iff_le]at this;omega
 exact⟨Ed _ 1 (fun x e=>by obtain⟨p,c,rfl⟩:=bv.1 e;exact(f p c).1) (by omega),Ed _ 1 (fun x e=>by obtain⟨p,c,rfl⟩:=bv.1 e;exact(f p c).2) (by omega)⟩
def aeT {l m:List Pr}(hl:∀p∈l,p.ok=true)(b:∀p∈m,p.ok=true):Fa (gW l) (gW m)=decide (dP l=dP m):=by
 obtain⟨c,e⟩:=Xk hl;obtain⟨f,g⟩:=Xk b;have a:∀l,dP l=G7 (gW l).n.natAbs (gW l).d.natAbs:=fun _=>rfl
 rw[a,a,bz,decide_eq_true_iff,ane (by omega) (by omega)];simp only[Fa,beq_iff_eq];rw[<-c4,<-c4];have h:0<=(gW l).n*(gW m).d:=c0 (by omega) (by omega);have i:0<=(gW m).n*(gW l).d:=c0 (by omega) (by omega);omega
def yG (h:linked ls)(e:∀l∈ls,l.pr.ok=true){a:Nat}(b:a<=ls.length):∀p∈bg ls a,p.ok=true:=by
 intro p c;simp only[bg,bv]at c;obtain⟨i,d,rfl⟩:=c;exact e _ (getD_mem (Nat.lt_of_lt_of_le (Uo h b i d) b))
def QH (a b:List Fr):∀(hs:List Int) (i:Nat),uK a b hs i=((bd i hs.length).filter fun j=> !Fa (a.getD (hs.getD (j - i) default).toNat default) (b.getD (hs.getD (j - i) default).toNat default)).map fun(j:Nat)=>(j:Int)
 | [],i=>rfl
 |h::hs,i=>by
  rw[uK,QH a b hs (i+1),ai,cQ,b0];have e:(bd (i+1) hs.length).filter (fun j=> !Fa (a.getD ((h::hs).getD (j - i) default).toNat default) (b.getD ((h::hs).getD (j - i) default).toNat default))=(bd (i+1) hs.length).filter (fun j=> !Fa (a.getD (hs.getD (j - (i+1)) default).toNat default) (b.getD (hs.getD (j - (i+1)) default).toNat default)):=by
   refine bo fun j c=> ?_
   have:=(cp.1 c).1;rw[show j - i=(j - (i+1))+1 by omega,ca]
  simp only[cN,aR];rw[e];cases Fa (a.getD h.toNat default) (b.getD h.toNat default)<;>simp
variable{p:Pc}
def aeM {c:Chg}(a:p.ok=true)(hc:c.pr.ok=true):p.rF (p.changed c)=ni p c:=by
 have i:=Dl a hc;have g:=Pc.good a;have b:=Pc.good i;rw[Pc.rF,QH,ni,cC]
 congr 1
 refine bo fun j h=> ?_
 have d:j<p.hands.length:=by simpa using(cp.1 h)
 have e:inR (p.hands.getD j default) 1 p.links.length=true:=by
  simp only[Pc.ok,U,a8]at a;exact a.2 _ (getD_mem d)
 have f:1<=p.hands.getD j default/\p.hands.getD j default<=p.links.length:=by simpa[inR]using e
 have k:(p.changed c).links.length=p.links.length:=by simp[Pc.changed]
 rw[Nat.sub_zero,abL g.lk (by omega),abL b.lk (by omega),aeT (yG g.lk g.pr (by omega)) (yG b.lk b.pr (by omega))];simp
structure Rel (s:Su) (l:List En) (t:Sp):Prop where
 pc:t.pc=dG s l
 op:∀h,fZ t.op h=if(dA l h).2 then some (dA l h).1 else none
 nd:(t.op.map (·.1)).Nodup
 tl:t.tg.length=s.tg.length
 tg:∀h:Int,0<=h->h.toNat<s.tg.length->t.tg.getD h.toNat default=RP s l h
 st:(iI s l).Perm t.eH
 up:Up (iI s l)
 co:t.kE=Sm l
 se:t.sets=Vg l
 inc:t.sets.Pairwise (·<·)
def ang (s:Su):Rel s [] s.sp0:=
 {pc:=rfl,op:=fun _=>rfl,nd:=List.nodup_nil,tl:=rfl,tg:=fun _ _ _=>rfl,st:=List.Perm.refl _,up:=List.Pairwise.nil,co:=rfl,se:=rfl,inc:=List.Pairwise.nil}
variable{x:En}
def En.deed1 (h:x.kind=1):x.deed= .cut (x.n 0):=by simp[En.deed,h]
def En.deed2 (h:x.kind=2):x.deed= .change x.chg:=by simp[En.deed,h,En.chg]
def En.deed3 (h:x.kind=3):x.deed= .order (x.n 0) ⟨x.n 1,x.n 2⟩:=by simp[En.deed,h]
def En.deed4 (h:x.kind=4):x.deed= .serve (x.n 0) (x.n 1):=by simp[En.deed,h]
def En.Pq (h:x.kind=5):x.deed= .set (x.n 0):=by simp[En.deed,h]
structure En.Fit (s:Su) (x:En):Prop where
 fm:x.formed=true
 k6:x.kind≠6
 te:x.kind=1->aT (x.n 0)=true
 hd:x.kind=3\/x.kind=4->0<=x.n 0/\(x.n 0).toNat<s.pc.hands.length
 fr:x.kind=3->(⟨x.n 1,x.n 2⟩:Fr).ok=true
 df:kK s s.sp0 x.deed
def En.BL (h:x.formed=true):1<=x.kind/\x.kind<=6:=by
 simp only[En.formed,U,decide_eq_true_eq]at h
 simpa[inR]using h.1.1
def yO (h:x.formed=true){i:Nat}(hi:i<jc x.kind):0<=x.n i/\x.n i<=9999:=by
 simp only[En.formed,U,decide_eq_true_eq,a8]at h;have:=h.2 _ (getD_mem (show i<x.ns.length by omega))
 simpa[inR,En.n]using this
variable{s:Su}
def En.Fit.k (h:x.Fit s):x.kind=1\/x.kind=2\/x.kind=3\/x.kind=4\/x.kind=5:=by
 have:=En.BL h.fm;have:=h.k6;omega
variable{h:Int}
def ajO {l:List (Int×Fr)}(b:(l.map (·.1)).Nodup):((BX l h).map (·.1)).Nodup/\(∀h',fZ (BX l h) h'=if h'=h then none else fZ l h')/\∀k∈(BX l h).map (·.1),k∈l.map (·.1):=by
 induction l with
 |nil=>exact⟨b,fun h'=>by simp[BX,fZ],fun k a=>a⟩
 |cons p l f=>
  simp only[ae,cW]at b;obtain⟨i,j,g⟩:=f b.2;have d:∀(l:List (Int×Fr)) (k:Int),k∉l.map (·.1)->fZ l k=none:=by
   intro l k a
   induction l with
   |nil=>rfl
   |cons q l f=>simp only[ae,ab,not_or]at a;rw[fZ,if_neg a.1];exact f a.2
  unfold BX
  by_cases c:h=p.1
  ·rw[if_pos c]
   refine⟨b.2,fun h'=> ?_,fun k a=>by simp only[ae,ab];exact .inr a⟩
   by_cases e:h'=h
   ·rw[if_pos e,e,c];exact d l _ b.1
   ·rw[if_neg e,fZ,if_neg (by rw[<-c];exact e)]
  ·rw[if_neg c]
   refine⟨?_,fun h'=> ?_,fun k a=> ?_⟩
   ·simp only[ae,cW];exact⟨fun e=>b.1 (g _ e),i⟩
   ·rw[fZ,fZ,j h']
    by_cases e:h'=p.1
    ·rw[if_pos e,if_pos e,if_neg (by rw[e];exact Ne.symm c)]
    ·rw[if_neg e,if_neg e]
   ·simp only[ae,ab]at a⊢;exact a.imp id (g k)
def aei {l:List (Int×Fr)}{f:Fr}(a:fZ l h=none)(h':Int):fZ (l++ [(h,f)]) h'=if h'=h then some f else fZ l h':=by
 induction l with
 |nil=>simp[fZ]
 |cons p l c=>
  rw[fZ]at a
  by_cases b:h=p.1
  ·rw[if_pos b]at a;cases a
  ·rw[if_neg b]at a
   rw[aL,fZ,fZ,c a]
   by_cases e:h'=p.1
   ·rw[if_pos e,if_pos e,if_neg (by rw[e];exact Ne.symm b)]
   ·rw[if_neg e,if_neg e]
def ahq {l:List (Int×Fr)}(a:fZ l h=none):h∉l.map (·.1):=by
 induction l with
 |nil=>simp
 |cons p l c=>
  rw[fZ]at a
  by_cases b:h=p.1
  ·rw[if_pos b]at a;cases a
  ·rw[if_neg b]at a
   simp only[ae,ab,not_or];exact⟨b,c a⟩
def ac3 {d:Dvd}(hd:d.ok=true){n:Int}(a:aT n=true):(d.cuts n).2=0↔(d.first n).isSome=true:=by
 have h1:inR n 1 400=true:=by simp only[aT,inR,U,decide_eq_true_eq]at a⊢;omega
 unfold Dvd.cuts Dvd.first;rw[hd,h1];simp only[cE,if_true];cases EH d.eF n 0 d.cir<;>simp
def Vx (f:p.ok=true){h:Int}(j:0<=h)(h1:h.toNat<p.hands.length):lS (bg p.links (p.hands.getD h.toNat default).toNat)=true:=by
 have g:=Pc.good f;have k:=g.hd _ (getD_mem h1);have c:(p.hands.getD h.toNat default).toNat<=p.links.length:=by omega
 have i:=g.short _ c;have b:=yG g.lk g.pr c;have l:1<=(bg p.links (p.hands.getD h.toNat default).toNat).length:=by
  obtain⟨a,e⟩:∃a,(p.hands.getD h.toNat default).toNat=a+1:=⟨(p.hands.getD h.toNat default).toNat - 1,by omega⟩
  rw[e,QJ g.lk (by omega)];simp
 have d:(bg p.links (p.hands.getD h.toNat default).toNat).length<=3:=by rw[bg,Q];exact i
 simp only[lS,inR,U,decide_eq_true_eq,a8,ge_iff_le];exact⟨⟨by omega,by omega⟩,b⟩
def adF {n a b:Int}(h:a<=n/\n<=b):inR n a b=true:=by
 simp only[inR,U,decide_eq_true_eq];omega
def aif (a:p.ok=true){h:Int}(b:0<=h)(h1:h.toNat<p.hands.length){f:Fr}(hf:f.ok=true){t:Int}(e:0<=t/\t<=10000):rG p h f t=(aj6 p h f t,0):=by
 have h2:inR h 0 ((p.hands.length:Int) - 1)=true:=adF (by omega);have c:=Vx a b h1;have d:=adF e;simp only[rG,ad5,aj6,a,h2,c,d,hf,cE,if_true]
def ahx (hs:s.ok=true){t:Sp}(g:t.pc.ok=true){h:Int}(d:0<=h)(h1:h.toNat<t.pc.hands.length):Ec s t h.toNat=UG s t.pc h:=by
 have a:=(Su.facts hs).2.2.2.2.2.2.2.2.1;have c:=Vx g d h1;simp only[lS,inR,U,decide_eq_true_eq,a8]at c;obtain⟨⟨_,j⟩,e⟩:=c;have f:(s.bil (cZ (bg t.pc.links (t.pc.hands.getD h.toNat default).toNat))).ok=true:=by
  simp only[Bil.ok,Su.bil,U]at a⊢;refine⟨⟨⟨⟨⟨?_,a.1.1.1.1.2⟩,a.1.1.1.2⟩,a.1.1.2⟩,a.1.2⟩,a.2⟩;simp only[qY,U,decide_eq_true_eq,a8];refine⟨by rw[qp];omega,fun x b=> ?_⟩;simp only[cZ,List.mem_flatMap]at b;obtain⟨q,i,b⟩:=b;have:=e q i;simp only[Pr.ok,U]at this;simp only[ab,List.not_mem_nil,or_false]at b
  rcases b with rfl|rfl
  ·exact this.1
  ·exact this.2
 simp only[Ec,UG,Bil.VB,f,if_true]
def alZ {d:Int}(b:1<=d)(h1:d.toNat<=s.days.length):s.days.getD (d - 1).toNat default=(s.first+d - 1,s.works (s.first+d - 1)):=by
 have c:s.days.length=s.dur:=by simp[Su.days,Su.pJ]
 have a:(d - 1).toNat<s.dur:=by omega
 rw[Su.days,Su.pJ,S,cL,List.getElem?_range a];simp only[Option.map_some,b6];rw[show(((d - 1).toNat:Nat):Int)=d - 1 by omega,show s.first+(d - 1)=s.first+d - 1 by omega]
def aaF (h:l.Pairwise (·<·))(d:Int):(l.isEmpty||decide (d>l.getD (l.length - 1) default))= !(l.any fun y=>decide (y>=d)):=by
 rcases List.eq_nil_or_concat l with rfl|⟨m,x,rfl⟩
 ·rfl
 ·have e:(m++ [x]).getD ((m++ [x]).length - 1) default=x:=by simp[S]
  rw[List.concat_eq_append]at h⊢;rw[e];have b:∀y∈m,y<x:=fun y a=>(cB.1 h).2.2 y a x (by simp)
  rw[bz];simp only[Bool.or_eq_true,List.isEmpty_iff,List.append_eq_nil_iff,List.cons_ne_self,and_false,false_or,decide_eq_true_eq,cl,cm,bk,ap];constructor
  ·rintro h1 y (a|rfl)
   ·have:=b y a;omega
   ·omega
  ·intro hh
   have:=hh x (.inr rfl);omega
def aiv (l:List En)(d:Int):((Vg l).any fun y=>decide (y>=d))=l.any fun y=>y.kind==5&&decide (y.n 0>=d):=by
 unfold Vg;rw[List.any_map,List.any_filter]
 rfl
def UW (hs:s.ok=true){n:Nat}{l:List En}{t:Sp}(d:Rel s l t)(hi:zK s n t)(o:∀h,(dA l h).2=true->(dA l h).1.ok=true){x:En}(hx:x.Fit s):qh s l x=(doS s t x.deed).isSome:=by
 obtain⟨z,A,u,j,_⟩:=Su.facts hs;have f:t.eH.length=(iI s l).length:=d.st.length_eq.symm
 rcases hx.k with k|k|k|k|k
 ·rw[En.deed1 k]
  unfold qh;rw[if_pos k];simp only[doS,ac3 j (hx.te k),f]
  by_cases h1:(s.dvd.first (x.n 0)).isSome=true<;>by_cases h2:(iI s l).length<8<;>simp[h1,h2]
 ·rw[En.deed2 k]
  have hd:=hx.df;rw[En.deed2 k]at hd;obtain⟨i,g⟩:=hd;unfold qh;rw[if_neg (by omega),if_pos k,<-d.pc];have v:t.pc.FN x.chg= !decide (jH t.pc x=x.chg.pr):=by
   have:inR x.chg.link 0 ((t.pc.links.length:Int) - 1)=true:=by rw[hi.ll];exact i
   simp only[Pc.FN,hi.pc,g,this,cE,am]
   congr 1
   exact decide_eq_decide.2 ⟨fun h=>h.symm,fun h=>h.symm⟩
  have w:((t.pc.rF (t.pc.changed x.chg)).all fun h=>(fZ t.op h).isSome)=((ni t.pc x.chg).all fun h=>(dA l h).2):=by
   rw[aeM hi.pc g]
   congr 1
   funext h
   rw[d.op];cases(dA l h).2<;>rfl
  simp only[doS,v,w];have c:=acg d.st (jH t.pc x) x.chg.pr;have m:(t.pc.links.getD x.chg.link.toNat default).pr=jH t.pc x:=rfl;rw[m];cases h1:(!decide (jH t.pc x=x.chg.pr))<;>cases h2:((ni t.pc x.chg).all fun h=>(dA l h).2)<;>simp only[V,bq,am,cq,bi,if_false,if_true,Option.isSome_none]
  revert c
  generalize oz t.eH [] (jH t.pc x).a x.chg.pr.a=p;cases p with
  |none=>intro c;simp only at c⊢;rw[c];rfl
  |some p=>
   obtain⟨C,B⟩:=p;simp only;generalize oz C B (jH t.pc x).b x.chg.pr.b=q;cases q with
   |none=>intro c;simp only at c⊢;rw[c];rfl
   |some q=>intro c;obtain⟨E,D⟩:=q;simp only at c⊢;rw[c.1];rfl
 ·rw[En.deed3 k]
  unfold qh;rw[if_neg (by omega),if_neg (by omega),if_pos k];simp only[doS,d.op];cases(dA l (x.n 0)).2<;>rfl
 ·rw[En.deed4 k]
  obtain⟨r,h1⟩:=hx.hd (.inr k);have e:(x.n 0).toNat<t.pc.hands.length:=by rw[hi.hh];exact h1
  unfold qh;rw[if_neg (by omega),if_neg (by omega),if_neg (by omega),if_pos k,<-d.pc];simp only[doS,d.op];cases y:(dA l (x.n 0)).2
  ·rfl
  ·simp only[if_true,am,TD,aif hi.pc r e (o _ y) (show(0:Int)<=100/\(100:Int)<=10000 by omega),ahx hs hi.pc r e]
   split<;>simp_all
 ·rw[En.Pq k]
  have hd:=hx.df;rw[En.Pq k]at hd;obtain⟨i,g⟩:=hd;unfold qh;rw[if_neg (by omega),if_neg (by omega),if_neg (by omega),if_neg (by omega)];simp only[doS,alZ i g,aaF d.inc];rw[d.se,aiv,Bool.and_comm]
  split<;>simp_all
def Uk {l:List En}(a:x.kind≠3)(b:x.kind≠4):dA (l++ [x]) h=dA l h:=by
 rw[nR,lM,if_neg (fun e=>a e.1),if_neg (fun e=>b e.1)]
def rel_step (hs:s.ok=true){n:Nat}{l:List En}{t t':Sp}(c:Rel s l t)(hi:zK s n t){x:En}(hx:x.Fit s)(hd:doS s t x.deed=some t'):Rel s (l++ [x]) t':=by
 obtain⟨F,z,C,E,_⟩:=Su.facts hs
 rcases hx.k with k|k|k|k|k
 ·rw[En.deed1 k]at hd
  simp only[doS]at hd
  split at hd
  ·cases hd
   exact
   {pc:=by rw[je,mV,if_neg (by omega)];exact c.pc
    op:=fun h=>by rw[Uk (by omega) (by omega)];exact c.op h
    nd:=c.nd,tl:=c.tl
    tg:=fun h g h1=>by rw[uM,if_neg (by omega)];exact c.tg h g h1
    st:=by rw[gX,if_pos k];exact(mG _ _).trans ((c.st.cons _).trans (bt _ _).symm)
    up:=by rw[gX,if_pos k];exact Y5 c.up
    co:=by rw[wF,if_neg (by omega)];exact c.co
    se:=by rw[zC,if_neg (by omega)];exact c.se
    inc:=c.inc}
  ·cases hd
 ·rw[En.deed2 k]at hd
  simp only[doS]at hd
  split at hd
  ·have j:=acg c.st (jH t.pc x) x.chg.pr
   have v:(t.pc.links.getD x.chg.link.toNat default).pr=jH t.pc x:=rfl;rw[v]at hd
   revert j hd
   generalize oz t.eH [] (jH t.pc x).a x.chg.pr.a=A;cases A with
   |none=>intro hd _;cases hd
   |some A=>
    obtain⟨J,I⟩:=A;simp only;generalize oz J I (jH t.pc x).b x.chg.pr.b=B;cases B with
    |none=>intro hd _;cases hd
    |some B=>
     obtain⟨N,M⟩:=B;intro hd j;simp only at j hd;cases hd;exact
     {pc:=by rw[je,mV,if_pos k,c.pc]
      op:=fun h=>by rw[Uk (by omega) (by omega)];exact c.op h
      nd:=c.nd,tl:=c.tl
      tg:=fun h g h1=>by rw[uM,if_neg (by omega)];exact c.tg h g h1
      st:=by rw[gX,if_neg (by omega),if_pos k,<-c.pc];exact j.2
      up:=by rw[gX,if_neg (by omega),if_pos k];exact alj c.up
      co:=by rw[wF,if_neg (by omega)];exact c.co
      se:=by rw[zC,if_neg (by omega)];exact c.se
      inc:=c.inc}
  ·cases hd
 ·rw[En.deed3 k]at hd
  simp only[doS]at hd
  split at hd
  ·cases hd
  ·rename_i i
   have i:fZ t.op (x.n 0)=none:=by simpa using i
   cases hd;exact
   {pc:=by rw[je,mV,if_neg (by omega)];exact c.pc
    op:=fun h=>by
     rw[aei i]
     by_cases e:x.n 0=h
     ·have m:dA (l++ [x]) h=(⟨x.n 1,x.n 2⟩,true):=by rw[nR,lM,if_pos ⟨k,e⟩]
      rw[if_pos e.symm,m];rfl
     ·have m:dA (l++ [x]) h=dA l h:=by rw[nR,lM,if_neg (fun q=>e q.2),if_neg (by omega)]
      rw[if_neg (Ne.symm e),m];exact c.op h
    nd:=by
     simp only[aE,ae,cg];rw[List.nodup_append];exact⟨c.nd,by simp,fun a r b p=>by simp only[ap]at p;subst p;rintro rfl;exact ahq i r⟩
    tl:=c.tl
    tg:=fun h g h1=>by rw[uM,if_neg (by omega)];exact c.tg h g h1
    st:=by rw[gX,if_neg (by omega),if_neg (by omega)];exact c.st
    up:=by rw[gX,if_neg (by omega),if_neg (by omega)];exact c.up
    co:=by rw[wF,if_neg (by omega)];exact c.co
    se:=by rw[zC,if_neg (by omega)];exact c.se
    inc:=c.inc}
 ·rw[En.deed4 k]at hd
  obtain⟨K,D⟩:=hx.hd (.inr k);simp only[doS]at hd;have d:=c.op (x.n 0)
  revert hd d
  generalize fZ t.op (x.n 0)=o;cases o with
  |none=>intro hd;cases hd
  |some f=>
   intro hd d;simp only at hd
   split at hd
   ·cases hd
    have w:(dA l (x.n 0)).2=true:=by
     cases h:(dA l (x.n 0)).2 with
     |true=>rfl
     |false=>rw[h]at d;simp at d
    rw[w,if_pos rfl]at d;have y:f=(dA l (x.n 0)).1:=Option.some.inj d;obtain⟨G,H,L⟩:=ajO (h:=x.n 0) c.nd;exact
    {pc:=by rw[je,mV,if_neg (by omega)];exact c.pc
     op:=fun h=>by
      rw[H]
      by_cases e:x.n 0=h
      ·have m:dA (l++ [x]) h=((dA l h).1,false):=by rw[nR,lM,if_neg (by omega),if_pos ⟨k,e⟩]
       rw[if_pos e.symm,m];rfl
      ·have m:dA (l++ [x]) h=dA l h:=by rw[nR,lM,if_neg (by omega),if_neg (fun q=>e q.2)]
       rw[if_neg (Ne.symm e),m];exact c.op h
     nd:=G
     tl:=by simp[c.tl]
     tg:=fun h g h1=>by
      rw[uM]
      by_cases e:x.n 0=h
      ·rw[if_pos ⟨k,e⟩,<-e,<-y]
       simp only[S,bO (show(x.n 0).toNat<t.tg.length by rw[c.tl,z];exact D),b6]
      ·rw[if_neg (fun q=>e q.2),<-c.tg h g h1]
       have:(x.n 0).toNat≠h.toNat:=by omega
       simp only[S,aM this]
     st:=by rw[gX,if_neg (by omega),if_neg (by omega)];exact c.st
     up:=by rw[gX,if_neg (by omega),if_neg (by omega)];exact c.up
     co:=by rw[wF,if_pos k,<-c.co]
     se:=by rw[zC,if_neg (by omega)];exact c.se
     inc:=c.inc}
   ·cases hd
 ·rw[En.Pq k]at hd
  simp only[doS]at hd
  split at hd
  ·rename_i u
   cases hd;rw[aaF c.inc]at u;simp only[U,cl,cm,decide_eq_true_eq]at u;exact
   {pc:=by rw[je,mV,if_neg (by omega)];exact c.pc
    op:=fun h=>by rw[Uk (by omega) (by omega)];exact c.op h
    nd:=c.nd,tl:=c.tl
    tg:=fun h g h1=>by rw[uM,if_neg (by omega)];exact c.tg h g h1
    st:=by rw[gX,if_neg (by omega),if_neg (by omega)];exact c.st
    up:=by rw[gX,if_neg (by omega),if_neg (by omega)];exact c.up
    co:=by rw[wF,if_neg (by omega)];exact c.co
    se:=by rw[zC,if_pos k,c.se]
    inc:=by
     rw[cB];exact⟨c.inc,List.pairwise_singleton _ _,fun a r b p=>by simp only[ap]at p;have:=u.2 a r;omega⟩}
  ·cases hd
def uH {α:Type}{P:List α->Prop}(h0:P [])(h1:∀l x,P l->P (l++ [x]))(l:List α):P l:=by
 have:∀m:List α,P m.reverse:=by
  intro m
  induction m with
  |nil=>exact h0
  |cons x m ih=>rw[List.reverse_cons];exact h1 _ _ ih
 have h:=this l.reverse
 rwa [List.reverse_reverse]at h
def L6 (l:List En)(h:Int):(∀x∈l,x.Fit s)->(dA l h).2=true->(dA l h).1.ok=true:=by
 induction l using uH with
 |h0=>intro _ e;simp[dA]at e
 |h1 l x a=>
  intro b;rw[nR,lM];have c:=b x (by simp);have a:=a fun y d=>b y (by simp[d])
  split
  ·rename_i e;intro _;exact c.fr e.1
  ·split
   ·intro e;cases e
   ·exact a
def JH (s:Su):∀(l:List De) (x:De) (t:Sp),pX s (l++ [x]) t=(pX s l t).bind fun t=>doS s t x
 | [],x,t=>by simp[pX]
 |y::l,x,t=>by
  simp only[aL,pX];cases doS s t y with
  |none=>rfl
  |some t1=>exact JH s l x t1
def anf (hs:s.ok=true)(l:List En):(∀x∈l,x.Fit s)->mJ s l=(pX s (l.map En.deed) s.sp0).isSome/\∀t,pX s (l.map En.deed) s.sp0=some t->Rel s l t/\zK s l.length t:=by
 induction l using uH with
 |h0=>exact fun _=>⟨rfl,fun t e=>by cases e;exact⟨ang s,aeL hs⟩⟩
 |h1 l x p=>
  intro g;have a:∀y∈l,y.Fit s:=fun y k=>g y (by simp[k])
  have f:=g x (by simp);obtain⟨m,o⟩:=p a;rw[O4,aE,ae,cg,JH,m];cases hd:pX s (l.map En.deed) s.sp0 with
  |none=>exact⟨by simp,fun t e=>by cases e⟩
  |some t=>
   obtain⟨i,b⟩:=o t hd;have j:=UW hs i b (fun h=>L6 l h a) f;simp only[Option.isSome_some,am,ct];refine⟨j,fun q c=> ?_⟩;have d:=kK.same (n:=l.length) (t:=s.sp0) (t':=t) b.ll.symm b.hh.symm f.df;exact⟨rel_step hs i b f c,by rw[Z,ax];exact ai0 b d c⟩
def ny (D:Dk)(i:Nat):Bool:=decide ((D.es.getD i default).kind≠6)&& !D.st.getD i default
def iH (D:Dk):List Nat:=(c6 D.es.length).filter (ny D)
def bC (D:Dk)(w:Int):List En:=((iH D).filter fun(i:Nat)=>decide ((i:Int)≠w)).map fun i=>D.es.getD i default
def Vm:∀(es:List En) (st:List Bool) (i:Nat),es.length=st.length->kJ es st i=((bd i es.length).filter fun j=>decide ((es.getD (j - i) default).kind≠6)&& !st.getD (j - i) default).map fun j=>(j,(es.getD (j - i) default).deed)
 | [],[],_,_=>rfl
 | [],_::_,_,h=>by simp at h
 | _::_,[],_,h=>by simp at h
 |x::es,b::st,i,h=>by
  have g:=Vm es st (i+1) (by simpa using h);rw[kJ,g,ai,cQ,b0];have e:∀j∈bd (i+1) es.length,(decide (((x::es).getD (j - i) default).kind≠6)&& !(b::st).getD (j - i) default)=(decide ((es.getD (j - (i+1)) default).kind≠6)&& !st.getD (j - (i+1)) default)/\(x::es).getD (j - i) default=es.getD (j - (i+1)) default:=fun j a=>by
   have:=(cp.1 a).1;rw[show j - i=(j - (i+1))+1 by omega,ca,ca];exact⟨rfl,rfl⟩
  have f:(bd (i+1) es.length).filter (fun j=>decide (((x::es).getD (j - i) default).kind≠6)&& !(b::st).getD (j - i) default)=(bd (i+1) es.length).filter (fun j=>decide ((es.getD (j - (i+1)) default).kind≠6)&& !st.getD (j - (i+1)) default):=bo fun j a=>(e j a).1
  have c:((bd (i+1) es.length).filter (fun j=>decide ((es.getD (j - (i+1)) default).kind≠6)&& !st.getD (j - (i+1)) default)).map (fun j=>(j,((x::es).getD (j - i) default).deed))=((bd (i+1) es.length).filter (fun j=>decide ((es.getD (j - (i+1)) default).kind≠6)&& !st.getD (j - (i+1)) default)).map (fun j=>(j,(es.getD (j - (i+1)) default).deed)):=cb fun j a=>by rw[(e j (b9.1 a).1).2]
  rw[f,cN,aR,aR]
  by_cases d:x.kind=6
  ·simp only[d,ne_eq,not_true_eq_false,false_and,if_false,decide_false,V,bi]
   exact c.symm
  ·cases b
   ·simp only[d,ne_eq,not_false_eq_true,and_self,if_true,decide_true,am,cA,ae,c,cN,aR]
   ·simp only[d,ne_eq,not_false_eq_true,Bool.true_eq_false,and_false,if_false,decide_true,am,c8,bi]
    exact c.symm
variable{D:Dk}
def ahY (h:D.es.length=D.st.length):D.stands=(iH D).map fun i=>(i,(D.es.getD i default).deed):=by
 rw[Dk.stands,Vm _ _ _ h,iH,cC]
 rfl
def zJ (h:D.es.length=D.st.length)(w:Int):D.without w=(bC D w).map En.deed:=by
 rw[Dk.without,ahY h,bC,List.filter_map,bu,bu]
 rfl
def KF (s:Su)(x:En):Bool:=
 if x.kind=1 then aT (x.n 0)
 else if x.kind=2 then decide (x.n 0<(s.pc.links.length:Int))&&aT (x.n 1)&&aT (x.n 2)
 else if x.kind=3 then inR (x.n 0) 0 ((s.pc.hands.length:Int) - 1)&&decide (x.n 2>0)
 else if x.kind=4 then inR (x.n 0) 0 ((s.pc.hands.length:Int) - 1)
 else inR (x.n 0) 1 (wH (s.cal.leap s.year))
def xI (D:Dk)(x:En):Int:=
 if x.formed=false then 2 else if D.es.length>=24 then 3
 else if x.kind=6 then(if x.n 0>=(D.es.length:Int)\/(D.es.getD (x.n 0).toNat default).kind=6 then 2 else if D.st.getD (x.n 0).toNat default=true\/mJ D.su (bC D (x.n 0))=false then 7 else 0)
 else if KF D.su x=false then 2 else if qh D.su (bC D (-1)) x=false then 7 else 0
structure Dk.Live (D:Dk):Prop where
 ok:D.Ok
 fit:∀x∈D.es,x.kind≠6->x.Fit D.su
 live:(D.state (-1)).isSome=true
variable{w:Int}
def acd:D.state w=pX D.su (D.without w) D.su.sp0:=rfl
def aiX (s:Su):(s.days.length:Int)=wH (s.cal.leap s.year):=by
 have:=mY (s.cal.leap s.year);have e:s.days.length=s.dur:=by simp[Su.days,Su.pJ]
 rw[e,Su.dur,this]
 split<;>rfl
def En.anZ (h:x.kind=6):x.deed= .strike (x.n 0):=by simp[En.deed,h]
def Eo (hf:x.formed=true)(k:x.kind≠6):KF D.su x=D.gB x.deed:=by
 have l:=En.BL hf;have c:=fun h=>yO hf (i:=0) h
 have f:0<jc x.kind:=by unfold jc;split;omega;split<;>omega
 have c:=c f;unfold KF
 by_cases a:x.kind=1
 ·rw[if_pos a,En.deed1 a];rfl
 by_cases d:x.kind=2
 ·rw[if_neg a,if_pos d,En.deed2 d]
  simp only[Dk.gB,Pr.ok,En.chg,Bool.and_assoc]
  congr 1
  rw[bz];simp only[inR,U,decide_eq_true_eq];omega
 by_cases b:x.kind=3
 ·have g:=yO hf (i:=1) (by simp[jc,b])
  have j:=yO hf (i:=2) (by simp[jc,b]);rw[if_neg a,if_neg d,if_pos b,En.deed3 b];simp only[Dk.gB,Fr.ok]
  congr 1
  rw[bz];simp only[inR,U,decide_eq_true_eq];omega
 by_cases e:x.kind=4
 ·rw[if_neg a,if_neg d,if_neg b,if_pos e,En.deed4 e];rfl
 ·rw[if_neg a,if_neg d,if_neg b,if_neg e,En.Pq (by omega)]
  simp only[Dk.gB,aiX]
def Yc (hf:x.formed=true)(a:x.kind≠6)(hb:D.gB x.deed=true):x.Fit D.su:=
 {fm:=hf,k6:=a
  te:=fun k=>by rw[En.deed1 k]at hb;exact hb
  hd:=fun k=>by
   have:inR (x.n 0) 0 ((D.su.pc.hands.length:Int) - 1)=true:=by
    rcases k with k|k
    ·rw[En.deed3 k]at hb;simp only[Dk.gB,U]at hb;exact hb.1
    ·rw[En.deed4 k]at hb;exact hb
   simp only[inR,U,decide_eq_true_eq]at this;omega
  fr:=fun k=>by rw[En.deed3 k]at hb;simp only[Dk.gB,U]at hb;exact hb.2
  df:=Yb hf hb}
def iY (h:x∈bC D w):x∈D.es/\x.kind≠6:=by
 simp only[bC,bv,b9,iH,bR,ny,U,decide_eq_true_eq]at h;obtain⟨i,⟨⟨a,h1,_⟩,_⟩,rfl⟩:=h;exact⟨getD_mem a,h1⟩
def Dk.Live.all (h:D.Live)(w:Int):mJ D.su (bC D w)=(D.state w).isSome/\∀t,D.state w=some t->Rel D.su (bC D w) t/\zK D.su (bC D w).length t:=by
 have:=anf h.ok.su (bC D w) fun x a=>h.fit x (iY a).1 (iY a).2
 rwa [<-zJ h.ok.len]at this
def ab9 (h:D.es.length=D.st.length)(x:En):iH {D with es:=D.es++ [x],st:=D.st++ [false]}=iH D++if x.kind=6 then[]else[D.es.length]:=by
 have e:(ny {D with es:=D.es++ [x],st:=D.st++ [false]} D.es.length)=decide (x.kind≠6):=by
  simp only[ny,S,bp,b6];rw[h,bp];simp
 simp only[iH,Z,ax,cX,cH]
 congr 1
 ·refine bo fun i a=> ?_
  have a:=bR.1 a;simp only[ny,S,aq a,aq (show i<D.st.length by omega)]
 ·rw[b0,e,cV]
  by_cases b:x.kind=6<;>simp[b]
def Ju (h:D.es.length=D.st.length)(x:En):bC {D with es:=D.es++ [x],st:=D.st++ [false]} (-1)=bC D (-1)++if x.kind=6 then[]else[x]:=by
 unfold bC;rw[ab9 h,cH,aE]
 congr 1
 ·refine cb fun i a=> ?_
  have a:=(b9.1 a).1;have a:=bR.1 (b9.1 a).1;simp only[S,aq a]
 ·by_cases b:x.kind=6
  ·simp[b]
  ·rw[if_neg b,if_neg b,b0,if_pos (by simp),cV]
   simp[S]
def Wj (h:D.es.length=D.st.length){n:Nat}:iH {D with st:=D.st.set n true}=(iH D).filter fun(i:Nat)=>decide ((i:Int)≠(n:Int)):=by
 simp only[iH,cI];refine bo fun i a=> ?_
 have a:=bR.1 a;simp only[ny,S,List.getElem?_set]
 by_cases e:n=i
 ·subst e
  simp[show n<D.st.length by omega]
 ·have b:¬(i:Int)=(n:Int):=by omega
  simp[e,b]
def Rh (h:D.es.length=D.st.length){n:Nat}:bC {D with st:=D.st.set n true} (-1)=bC D n:=by
 unfold bC;rw[Wj h,cI]
 congr 1
def alz (hf:x.formed=true)(a:x.kind≠6):D.with x={D with es:=D.es++ [x],st:=D.st++ [false]}:=by
 have b:=En.BL hf
 rcases(show x.kind=1\/x.kind=2\/x.kind=3\/x.kind=4\/x.kind=5 by omega)with k|k|k|k|k
 ·unfold Dk.with;rw[En.deed1 k];rfl
 ·unfold Dk.with;rw[En.deed2 k];rfl
 ·unfold Dk.with;rw[En.deed3 k];rfl
 ·unfold Dk.with;rw[En.deed4 k];rfl
 ·unfold Dk.with;rw[En.Pq k];rfl
def QL (a:x.kind=6):D.with x={D with es:=D.es++ [x],st:=D.st.set (x.n 0).toNat true++ [false]}:=by
 unfold Dk.with;rw[En.anZ a];rfl
def WT (h:D.Live)(hf:x.formed=true)(c:x.kind≠6)(hb:D.gB x.deed=true):D.goes x.deed=qh D.su (bC D (-1)) x:=by
 obtain⟨t,a⟩:=bw.1 h.live;obtain⟨e,d⟩:=(h.all (-1)).2 t a;have f:=Yc hf c hb;have:=UW h.ok.su e d (fun k=>L6 _ k fun y b=>h.fit y (iY b).1 (iY b).2) f;have g:=En.BL hf;rw[this]
 rcases(show x.kind=1\/x.kind=2\/x.kind=3\/x.kind=4\/x.kind=5 by omega)with k|k|k|k|k
 ·rw[En.deed1 k];simp only[Dk.goes,a]
 ·rw[En.deed2 k];simp only[Dk.goes,a]
 ·rw[En.deed3 k];simp only[Dk.goes,a]
 ·rw[En.deed4 k];simp only[Dk.goes,a]
 ·rw[En.Pq k];simp only[Dk.goes,a]
def H7 (h:D.Live)(x:En):D.enter x=(if xI D x=0 then D.with x else D,xI D x):=by
 have k:=h.ok.len;have j:=h.ok.few;unfold Dk.enter xI
 by_cases f:x.formed=false
 ·simp[f]
 by_cases c:D.es.length=24
 ·simp[f,c]
 have ars:¬D.es.length>=24:=by omega
 have a:x.formed=true:=by simpa using f
 rw[if_neg f,if_neg c,if_neg f,if_neg ars]
 by_cases b:x.kind=6
 ·rw[if_pos b,En.anZ b]
  have l:=yO a (i:=0) (by rw[b];decide)
  by_cases hc:x.n 0>=(D.es.length:Int)\/(D.es.getD (x.n 0).toNat default).kind=6
  ·have d:D.gB (.strike (x.n 0))=false:=by
    rw[<-Bool.not_eq_true];simp only[Dk.gB,inR,U,decide_eq_true_eq];rintro⟨h1,h2⟩
    rcases hc with hc|hc
    ·omega
    ·exact h2 hc
   rw[if_pos d,if_pos hc];rfl
  ·have d:¬D.gB (.strike (x.n 0))=false:=by
    rw[Bool.not_eq_false];simp only[Dk.gB,inR,U,decide_eq_true_eq];refine⟨by omega,fun e=>hc (.inr e)⟩
   rw[if_neg d,if_neg hc];have g:=(h.all (x.n 0)).1;simp only[Dk.goes,<-g];cases D.st.getD (x.n 0).toNat default<;>cases mJ D.su (bC D (x.n 0))<;>simp
 ·rw[if_neg b,Eo a b]
  cases d:D.gB x.deed
  ·rfl
  ·rw[WT h a b d]
   cases qh D.su (bC D (-1)) x<;>rfl
def adb (h:D.Live)(x:En):(D.enter x).1.Live:=by
 have b:=aac h.ok x;have j:=h.ok.len;rw[H7 h]at b⊢;simp only at b⊢
 split
 ·rename_i a
  rw[if_pos a]at b;have d:x.formed=true:=by cases e:x.formed with
   |true=>rfl
   |false=>unfold xI at a;rw[if_pos e]at a;cases a
  have m:¬D.es.length>=24:=fun e=>by unfold xI at a;rw[if_neg (by simp[d]),if_pos e]at a;cases a
  unfold xI at a;rw[if_neg (by simp[d]),if_neg m]at a
  by_cases c:x.kind=6
  ·rw[if_pos c]at a
   rw[QL c]at b⊢
   by_cases q:x.n 0>=(D.es.length:Int)\/(D.es.getD (x.n 0).toNat default).kind=6
   ·rw[if_pos q]at a;cases a
   rw[if_neg q]at a;have w:=yO d (i:=0) (by rw[c];decide);have g:mJ D.su (bC D (x.n 0))=true:=by
    cases e:mJ D.su (bC D (x.n 0))with
    |true=>rfl
    |false=>rw[if_pos (.inr e)]at a;cases a
   refine⟨b,fun y hy f=> ?_,?_⟩
   ·rcases bk.1 hy with hy|hy
    ·exact h.fit y hy f
    ·simp only[ap]at hy;subst hy;exact absurd c f
   ·have e:bC {D with es:=D.es++ [x],st:=D.st.set (x.n 0).toNat true++ [false]} (-1)=bC D (x.n 0):=by
     have p:=Ju (D:={D with st:=D.st.set (x.n 0).toNat true}) (by simpa using j) x;rw[if_pos c,cU,Rh j]at p;rw[p]
     congr 1;omega
    rw[acd,zJ b.len,e,<-zJ j];have:=(h.all (x.n 0)).1;rw[g]at this;exact this.symm
  ·rw[if_neg c]at a
   rw[alz d c]at b⊢;have l:D.gB x.deed=true:=by
    rw[<-Eo d c];cases e:KF D.su x with
    |true=>rfl
    |false=>rw[if_pos e]at a;cases a
   have g:qh D.su (bC D (-1)) x=true:=by
    cases e:qh D.su (bC D (-1)) x with
    |true=>rfl
    |false=>rw[Eo d c,if_neg (by simp[l]),if_pos e]at a;cases a
   refine⟨b,fun y hy f=> ?_,?_⟩
   ·rcases bk.1 hy with hy|hy
    ·exact h.fit y hy f
    ·simp only[ap]at hy;subst hy;exact Yc (D:=D) d c l
   ·have e:=Ju j x
    rw[if_neg c]at e;obtain⟨t,r⟩:=bw.1 h.live;have hd:=WT h d c l;have o:pX D.su (D.without (-1)) D.su.sp0=some t:=r;rw[acd,zJ b.len,e,aE,<-zJ j,ae,cg,JH];simp only[o,ct];obtain⟨u,s⟩:=(h.all (-1)).2 t r;have v:=Yc d c l;rw[<-UW h.ok.su u s (fun k=>L6 _ k fun y hy=>h.fit y (iY hy).1 (iY hy).2) v];exact g
 ·exact h
def ajW (hs:s.ok=true):Dk.Live ⟨s,[],[]⟩:=
 ⟨⟨hs,rfl,by simp,by simp,by simp⟩,by simp,rfl⟩
end Go.Tel
namespace Go.Tel
open Go.Am
def akz (s:Su)(hs:s.Small)(e:s.fs.length<=1000000):Pure C 18 [s.dv] (.d (.bool s.ok)) []:=by
 have h1:=akv s.pc hs.l hs.h;have h2:=apT s.dvd (by have:=hs.ci;omega);have k:=apS s.cal (by have:=hs.cy;omega);have m:=anm s.jf;have y:=ahL s.fs e;have n:=afA s [] false;have o:=ahH (s.bil []) (by simp[Su.bil]);have b:=fun f:Fr=>anj f
 simp only[dZ,sZ,fE,iy,JI,bW,gU]at h1 h2 k m n o b;refine ah mixed rfl YT ?_;rw[gU];simp only[MX,aK,RN,B,F,I,J,N,O];refine ak rfl rfl h1 ?_;cases q:s.pc.ok
 ·(try simp only[RN,B,F,I,J,N,O])
  simp[Su.ok,q]
 simp only[Q,RN,B,F,I,J,N,O]
 by_cases j:s.tg.length=s.pc.hands.length
 case neg=>
  have z:((s.tg.length:Int) !=(s.pc.hands.length:Int))=true:=by simp;omega
  simp only[z,RN,B,F,I,J,N,O];simp[Su.ok,j]
 have z:((s.tg.length:Int) !=(s.pc.hands.length:Int))=false:=by simp[j]
 simp only[z,RN,B,F,I,J,N,O];refine ak rfl rfl (akJ _) ?_;cases r:inR s.lim 0 10800
 ·(try simp only[RN,B,F,I,J,N,O])
  simp[Su.ok,r]
 (try simp only[RN,B,F,I,J,N,O]);refine ak rfl rfl h2 ?_;cases u:s.dvd.ok
 ·(try simp only[RN,B,F,I,J,N,O])
  simp[Su.ok,u]
 simp only[Q,RN,B,F,I,J,N,O];have A:=hs.t;refine aH s.tg.length (fun i (_:Unit)=>⟨[(1, .d (.aW s.cs)),(3,pI i)],⟨[some (s.cs.map .d)],[0],[]⟩⟩)
  (fun i _=>s.tg.all Fr.ok=(s.tg.drop i).all Fr.ok) 0 () (aw _) rfl rfl (fun i _ c a=> ?_) (fun _ a=> ?_)
 ·obtain⟨v,w,x⟩:=rng c (by omega)
  rw[drop_cons c,b7]at a;simp only[uS,v,w,c,getD_map,bW,Y,Q,RN,B,F,I,J,N,O];refine ak rfl rfl (b _) ?_;cases p:(s.tg.getD i default).ok
  ·rw[p,V]at a
   (try simp only[RN,B,F,I,J,N,O]);simp[Su.ok,a]
  ·rw[p,am]at a
   simp only[x,RN,B,F,I,J,N,O];exact bn () c rfl a
 ·rw[aD,cf]at a
  have g:s.ok=(s.cal.ok&&s.jf.ok&&jA s.fs&&inR s.year 0 4000&&(s.bil []).ok):=by
   simp[Su.ok,q,j,r,u,a]
  rw[g];simp only[uS,az,Q,RN,B,F,I,J,N,O];refine ak rfl rfl k ?_;cases D:s.cal.ok
  ·simp only[V,RN,B,F,I,J,N,O]
  (try simp only[RN,B,F,I,J,N,O]);refine ak rfl rfl m ?_;cases k6:s.jf.ok
  ·simp only[V,RN,B,F,I,J,N,O]
  (try simp only[RN,B,F,I,J,N,O]);refine ak rfl rfl y ?_;cases E:jA s.fs
  ·simp only[V,RN,B,F,I,J,N,O]
  (try simp only[RN,B,F,I,J,N,O]);refine ak rfl rfl (afE _) ?_;cases G:inR s.year 0 4000
  ·simp only[V,RN,B,F,I,J,N,O]
  (try simp only[RN,B,F,I,J,N,O]);refine ak rfl rfl n ?_;(try simp only[RN,B,F,I,J,N,O]);refine ak rfl rfl o ?_;(try simp only[RN,B,F,I,J,N,O])
def Su.short (s:Su):Bool:=decide (s.pc.links.length<=7)&&decide (s.pc.hands.length<=6)&&decide (s.tg.length<=6)&&decide (s.dvd.cir.length<=8)&&decide (s.cal.cy.length<=5)&&decide (s.fs.length<=8)
variable{s:Su}
def Su.ab1 (h:s.short=true):s.Small/\s.fs.length<=8:=by
 simp only[Su.short,U,decide_eq_true_eq]at h;exact⟨⟨by omega,by omega,by omega,by omega,by omega⟩,by omega⟩
def wG {a b:Nat}:decide ((a:Int)<=(b:Int))=decide (a<=b):=decide_eq_decide.2 (by omega)
def anG (s:Su):Pure C 39 [s.dv] (.d (.bool s.short)) []:=by
 refine ah mixed rfl YD ?_;rw[gU];simp only[MF,aK,Q,RN,B,F,I,J,N,O];have a:decide ((s.pc.links.length:Int)<=7)=decide (s.pc.links.length<=7):=wG;have c:decide ((s.pc.hands.length:Int)<=6)=decide (s.pc.hands.length<=6):=wG;have f:decide ((s.tg.length:Int)<=6)=decide (s.tg.length<=6):=wG;have h:decide ((s.dvd.cir.length:Int)<=8)=decide (s.dvd.cir.length<=8):=wG;have j:decide ((s.cal.cy.length:Int)<=5)=decide (s.cal.cy.length<=5):=wG;have l:decide ((s.fs.length:Int)<=8)=decide (s.fs.length<=8):=wG;rw[Su.short];cases b:decide (s.pc.links.length<=7)
 ·simp only[a,b,V,RN,B,F,I,J,N,O]
 cases e:decide (s.pc.hands.length<=6)
 ·simp only[a,b,c,e,V,Q,RN,B,F,I,J,N,O]
 cases g:decide (s.tg.length<=6)
 ·simp only[a,b,c,e,f,g,V,Q,RN,B,F,I,J,N,O]
 cases i:decide (s.dvd.cir.length<=8)
 ·simp only[a,b,c,e,f,g,h,i,V,Q,RN,B,F,I,J,N,O]
 cases k:decide (s.cal.cy.length<=5)
 ·simp only[a,b,c,e,f,g,h,i,j,k,V,Q,RN,B,F,I,J,N,O]
 ·simp only[a,b,c,e,f,g,h,i,j,k,l,V,Q,RN,B,F,I,J,N,O]
def AP (s:Su)(l:List En)(q:List Qn):Bool:= !((l.take 27).any fun x=>decide (x.ns.length>6))&& !((q.take 11).any fun x=>decide (x.ns.length>6))&&(s.short&&decide (l.length<=26)&&decide (q.length<=10))
def XP {l:List En}{q:List Qn}(h:AP s l q=true):s.short=true/\(l.length<=26/\∀x∈l,x.ns.length<=6)/\q.length<=10/\∀x∈q,x.ns.length<=6:=by
 simp only[AP,U,cl,cm,decide_eq_true_eq]at h;obtain⟨⟨h1,h2⟩,⟨b,c⟩,d⟩:=h;rw[a7 (by omega)]at h1 h2;exact⟨b,⟨c,fun x a=>by have:=h1 x a;omega⟩,d,fun x a=>by have:=h2 x a;omega⟩
def any_take_succ {α:Type}[Inhabited α](p:α->Bool)(l:List α){i:Nat}(h:i<l.length)(a:(l.take i).any p=false):(l.take (i+1)).any p=p (l.getD i default):=by
 rw[aS h,List.any_append,a];simp
def O5 {α:Type}(p:α->Bool)(l:List α){i n:Nat}(a:i<=n)(h:(l.take i).any p=true):(l.take n).any p=true:=by
 rw[cP]at h⊢;obtain⟨x,c,b⟩:=h;exact⟨x,(List.take_sublist_take_left a).subset c,b⟩
def alP (s:Su)(l:List En)(q:List Qn):Pure C 17 [s.dv,sF (l.map En.dv),sF (q.map Qn.dv)] (.d (.bool (AP s l q))) []:=by
 have y:=anG s;refine ah mixed rfl YA ?_;rw[gU]at y⊢;simp only[Me,jr,RN,B,F,I,J,N,O];refine aH (min l.length 27) (fun i (_:Unit)=>⟨[(1, .d (sF (l.map En.dv))),(2, .d (sF (q.map Qn.dv))),(3, .d (.aW s.cs)),(7,pI i)],⟨[some (s.cs.map .d)],[0],[]⟩⟩)
  (fun i _=>((l.take i).any fun x=>decide (x.ns.length>6))=false) 0 () (aw _) rfl rfl (fun i _ j a=> ?_) (fun _ a=> ?_)
 ·have k:(i:Int)<(l.length:Int):=by omega
  have n:(i:Int)<27:=by omega
  have m:(0:Int)<=(i:Int):=by omega
  have e:i<l.length:=by omega
  have o:dc .i64 ((i:Int)+1)=((i+1:Nat):Int):=by rw[aF (by omega)];omega
  have b:=any_take_succ (fun x:En=>decide (x.ns.length>6)) l e a;simp only[k,n,m,e,getD_map,dM,Y,Q,RN,B,F,I,J,N,O]
  by_cases f:(l.getD i default).ns.length>6
  ·have z:((l.getD i default).ns.length:Int)>6:=by omega
   have r:AP s l q=false:=by
    rw[decide_eq_true f]at b;have:=O5 _ l (show i+1<=27 by omega) b;simp[AP,this]
   simp only[z,r,RN,B,F,I,J,N,O]
  ·have z:¬((l.getD i default).ns.length:Int)>6:=by omega
   rw[decide_eq_false f]at b;simp only[z,o,RN,B,F,I,J,N,O];exact bn () j rfl b
 have E:((l.take 27).any fun x=>decide (x.ns.length>6))=false:=by
  by_cases h:l.length<=27
  ·rw[cY h,b5]at a;rw[a7 h];exact a
  ·rwa [cS (by omega)]at a
 have g:¬((min l.length 27:Nat):Int)<(l.length:Int)\/((min l.length 27:Nat):Int)<(l.length:Int)/\¬((min l.length 27:Nat):Int)<27:=by omega
 have K:∀v:Prop,v->v:=fun _ h=>h
 rcases g with t|⟨t,H⟩
 all_goals(
  first
   |(simp only[t,H,Q,RN,B,F,I,J,N,O])
   |(simp only[t,Q,RN,B,F,I,J,N,O])
  refine aH (min q.length 11) (fun i (_:Unit)=>⟨[(1, .d (sF (l.map En.dv))),(2, .d (sF (q.map Qn.dv))),(3, .d (.aW s.cs)),(8,pI i)],⟨[some (s.cs.map .d)],[0],[]⟩⟩)
   (fun i _=>((q.take i).any fun x=>decide (x.ns.length>6))=false) 0 () (aw _) rfl rfl (fun i _ j a=> ?_) (fun _ a=> ?_)
  ·have k:(i:Int)<(q.length:Int):=by omega
   have n:(i:Int)<11:=by omega
   have m:(0:Int)<=(i:Int):=by omega
   have e:i<q.length:=by omega
   have o:dc .i64 ((i:Int)+1)=((i+1:Nat):Int):=by rw[aF (by omega)];omega
   have b:=any_take_succ (fun x:Qn=>decide (x.ns.length>6)) q e a;simp only[k,n,m,e,getD_map,afa,Y,Q,RN,B,F,I,J,N,O]
   by_cases f:(q.getD i default).ns.length>6
   ·have z:((q.getD i default).ns.length:Int)>6:=by omega
    have r:AP s l q=false:=by
     rw[decide_eq_true f]at b;have:=O5 _ q (show i+1<=11 by omega) b;simp[AP,this]
    simp only[z,r,RN,B,F,I,J,N,O]
   ·have z:¬((q.getD i default).ns.length:Int)>6:=by omega
    rw[decide_eq_false f]at b;simp only[z,o,RN,B,F,I,J,N,O];exact bn () j rfl b
  have G:((q.take 11).any fun x=>decide (x.ns.length>6))=false:=by
   by_cases h:q.length<=11
   ·rw[cY h,b5]at a;rw[a7 h];exact a
   ·rwa [cS (by omega)]at a
  have p:AP s l q=(s.short&&decide (l.length<=26)&&decide (q.length<=10)):=by simp only[AP,E,G,cA,am]
  rw[p];have aqz:¬((min q.length 11:Nat):Int)<(q.length:Int)\/((min q.length 11:Nat):Int)<(q.length:Int)/\¬((min q.length 11:Nat):Int)<11:=by omega
  have w:decide ((l.length:Int)<=26)=decide (l.length<=26):=wG;have D:decide ((q.length:Int)<=10)=decide (q.length<=10):=wG
  rcases aqz with c|⟨c,u⟩
  all_goals(
   first
    |(simp only[uS,c,u,Q,RN,B,F,I,J,N,O])
    |(simp only[uS,c,Q,RN,B,F,I,J,N,O])
   refine ak rfl rfl y ?_;cases L:s.short
   ·simp only[V,RN,B,F,I,J,N,O]
   cases A:decide (l.length<=26)
   ·simp only[w,A,V,Q,RN,B,F,I,J,N,O]
   ·simp only[w,A,D,Q,RN,B,F,I,J,N,O]))
end Go.Tel
namespace Go.Tel
open Go.Am
def avJ (s:ByteArray)(hs:s.size<=1000000){bs:List (Option (List PV))}{fz:List Nat}{ar:List (Option Arr)}(t:FzB ⟨bs,fz,ar⟩){KP:DV->Mem->Prop}:
  SC C 236 [.d (.slice true []), .func (.func 211) [] [.ptr bs.length 0]] ⟨bs++ [some [.d (.str s)]],fz,ar⟩ (fun p M'=>slN 1 true p ((jw s).map .str) M'.aB/\Frm ⟨bs,fz,ar⟩ M'/\(∀k,kOf p=some k->ar.length<=k)) KP:=by
 have V:bs.length+1∉fz:=fun e=>by have:=t _ e;simp only at this;omega
 have W:bs.length∉fz:=fun e=>cF _ (t _ e)
 have an:=adQ s;refine aG mixed rfl auY ?_;simp only[ar4,aJ,bD,bQ,aQ,bV,dh,aV,bc,Z,c9,RN,B,F,I,J,N,O];refine rD (acC s bs.length hs) (fun _ h=>h) rfl (by kernel_rfl) (fun i b=>by have:=t i b;simp at this⊢;omega) (fun x z=>by obtain⟨y,_,rfl⟩:=bv.1 z;rfl) (fun i b=>by subst b;simp) (fun M' f=>⟨(f.box _ (by simp) id).trans (by simp),fun e=>W ((f.fz _ (by simp) id).1 e)⟩)
  (fun v A=>∃l r c,jw s=l++r/\v=l.map ru/\A.boxes[bs.length+1]?=some (some [c])/\bs.length+1∉A.fz/\slN 1 true c (l.map .str) A.aB/\Frm ⟨bs,fz,ar⟩ A/\(∀k,kOf c=some k->ar.length<=k)) ?_ ?_ ?_ ?_
 ·rintro v A M2 f ⟨l,r,c,m,w,o,E,G,a,H⟩
  simp only[Z,ai,b8]at f;refine⟨l,r,c,m,w,(f.box _ (by omega) (by omega)).trans o,fun e=>E ((f.fz _ (by omega) (by omega)).1 e),by rw[f.aB];exact G,?_,H⟩;have U:=f.len;have h6:=a.len;exact⟨bS h6 U,by rw[f.aB];exact a.bH,fun i b=>by simp only at b;exact(f.box i (by omega) (by omega)).trans (a.box i b),fun i b=>by simp only at b;exact(f.fz i (by omega) (by omega)).trans (a.fz i b),fun k Q=>by rw[f.aB];exact a.row k Q,fun e=>f.fzb (a.fzb e)⟩
 ·exact⟨[],jw s,_,rfl,rfl,by simp,V, .inl ⟨rfl,rfl⟩,Frm.new (xf:=[]) (by simp),(fun k Q=>by cases Q)⟩
 ·rintro L cells v x ac ⟨q,P,M⟩ z u n D ⟨l,r,c,m,w,o,E,G,a,H⟩ M0
  simp only[Z,ai,b8]at u n D o E⊢;obtain⟨p,K,rfl⟩:∃p K,r=p::K:=by
   cases r with
   |nil=>
    rw[m,w]at z;have:=congrArg cT z;simp at this
   |cons p K=>exact⟨p,K,rfl⟩
  have Y:x=ru p:=by
   rw[m,w,aE,ae]at z;have:=List.append_cancel_left z;exact(List.cons.inj this).1.symm
  subst Y;have g:bs.length+1<q.length:=by omega
  have ab:l.length<=1000000:=by have:=congrArg cT m;simp at this;omega
  simp only[ru,List.zip_cons_cons,List.zip_nil_left,ae,cg,o,g,iC,DV.strip,JF,RN,B,F,I,J,N,O];refine RG G (by decide) (by intro y hy;simp only[ap]at hy;subst hy;rfl) (by simp) (by simp;omega) fun k ver st am a1 a2 a3 a4 a5 a6=> ?_
  have X:=a6 rfl;subst X;simp only[o,g,E,bM,dB,wz,RN,B,F,I,J,N,O];have S:ar.length<=k:=by
   rcases a1 with a1|a1
   ·exact H k a1
   ·have:=a.bH;simp only at this;omega
  refine⟨by rw[aM (by omega)];exact n,D,Kept.ND (by omega) (by omega) a4 (fun _ h=>h.elim),l++ [p],K, .tsl k ver 0,by rw[m];simp,by rw[w];simp[ru],by simp[g], .inr ⟨k,ver,1,rfl,by rw[a2];simp,by decide,fun _=> .inl rfl⟩,?_,(fun k' R=>by cases R;exact S)⟩;exact
  {len:=by have:=a.len;simpa using this
   bH:=bS a.bH a4
   box:=fun i b=>by
    have:=a.box i b;simp only at b this⊢;rw[aM (by omega)];exact this
   fz:=a.fz
   row:=fun j hj=>by
    have:=a.row j hj;have T:=a.bH;simp only at hj this T⊢;rw[a3 j (by omega) (by omega)];exact this
   fzb:=fun e i b=>by have:=a.fzb e i b;simpa using this}
 ·rintro⟨q,P,M⟩ ⟨l,r,c,m,w,o,E,G,a,H⟩ u
  simp only[Z,ai,b8]at u o;have hr:r=[]:=by
   have:=congrArg cT w;rw[m]at this;simp at this;exact this
  subst hr;rw[cU]at m;have g:bs.length+1<q.length:=by omega
  simp only[o,g,RN,B,F,I,J,N,O];rw[m];exact⟨G,a,H⟩
def avz (s:ByteArray)(hs:s.size<=1000000){bs:List (Option (List PV))}{fz:List Nat}{ar:List (Option Arr)}(a:FzB ⟨bs,fz,ar⟩){KP:DV->Mem->Prop}:
  SC C 148 [.func (.func 211) [] [.ptr bs.length 0]] ⟨bs++ [some [.d (.str s)]],fz,ar⟩ (fun p M'=>slN 1 true p ((jw s).map .str) M'.aB/\Frm ⟨bs,fz,ar⟩ M'/\(∀k,kOf p=some k->ar.length<=k)) KP:=by
 refine aG mixed rfl auZ ?_;simp only[ar5,aK,RN,B,F,I,J,N,O];refine SC.jU (SC.mono (avJ s hs a (KP:=fun _ _=>False)) ?_) (fun _ _ h=>h.elim);rintro p ⟨c,e,b⟩ h;(try simp only[RN,B,F,I,J,N,O]);exact h
variable{s:ByteArray}
def av1 (hs:s.size<=1000000):Pure C 237 [.str s, .str ⟨#[10]⟩] (.d (.tup [.str (dL s), .bool (FP s)])) []:=by
 refine ah mixed rfl au0 ?_;simp only[auQ,jq,RN,B,F,I,J,N,O];refine ak rfl rfl (aan hs) ?_;have a:dc .i64 ((s.size:Int) - ((1:Nat):Int))=(s.size:Int) - 1:=by rw[aF (by omega)];omega
 unfold dL;cases h:FP s
 ·(try simp only[RN,B,F,I,J,N,O])
  simp
 ·have:1<=s.size:=by unfold FP at h;simp only[U,decide_eq_true_eq]at h;exact h.1
  have b:(0:Int)<=(s.size:Int) - 1:=by omega
  have c:(s.size:Int) - 1<=(s.size:Int):=by omega
  have e:((s.size:Int) - 1).toNat=s.size - 1:=by omega
  simp only[Zi,a,SK b c,e,RN,B,F,I,J,N,O];simp
def avZ (hs:s.size<=1000000):Pure C 149 [.str s, .str ⟨#[10]⟩] (.d (.tup [.str (dL s), .bool (FP s)])) []:=by
 refine ah mixed rfl au6 ?_;simp only[auT,jq,RN,B,F,I,J,N,O];refine ak rfl rfl (av1 hs) ?_;(try simp only[RN,B,F,I,J,N,O])
end Go.Tel
namespace Go.Tel
open Go.Am
def zy:Dk->List ByteArray->Nat->Dk×Int×Int
 |D,[],_=>(D, -1,0)
 |D,y::ls,i=>if FP y=false\/(fG (dL y)).2≠0 then(D,i,4)else
  if(D.enter (fG (dL y)).1).2≠0 then(D,i,(D.enter (fG (dL y)).1).2)else zy (D.enter (fG (dL y)).1).1 ls (i+1)
def avP (line:ByteArray):(fG line).2=0->(fG line).1.ns.length<=1000/\(fG line).1.formed=true:=by
 intro h;unfold fG at h⊢
 split at h
 ·cases h
 ·rename_i h1
  rw[if_neg h1]
  split at h
  ·rename_i a ns b
   simp only[b];have c:ns.length<=1000/\(⟨1+a,ns⟩:En).formed=true:=by
    have:=(av8 b).1;exact⟨by have:=JL this;simp only at this;omega,this⟩
   exact c
  ·cases h
variable{d:Nat}{M:Mem}
def awg {sz:Nat}{W:Bool}{c:PV}{xs:List DV}{ce cs ce' cs':PV}{M':Mem}(h:slN sz W c xs M.aB)(hf:FrD d ce cs ce' cs' M M')(hd:∀k,kOf c=some k->kOf ce≠some k/\kOf cs≠some k):slN sz W c xs M'.aB/\(∀k,kOf c=some k->kOf ce'≠some k/\kOf cs'≠some k):=by
 have b:∀k,kOf c=some k->k<M.aB.length:=by
  intro k a
  rcases h with⟨rfl,rfl⟩|⟨g,ver,st,rfl,h1,_⟩
  ·cases a
  ·cases a;exact(av.1 h1).1
 refine⟨zF h fun k A a f=>by rw[hf.row k (b k a) (hd k a).1 (hd k a).2];exact f,fun k a=>⟨fun e=> ?_,fun e=> ?_⟩⟩
 ·rcases hf.oe k e with h1|h1
  ·exact(hd k a).1 h1
  ·have:=b k a;omega
 ·rcases hf.os k e with h1|h1
  ·exact(hd k a).2 h1
  ·have:=b k a;omega
def awh (s:Su)(j:ByteArray)(M:Mem)(p:PV)(M':Mem):Prop:=
 (s.ok=false/\p= .d (.tup [.nilPtr,dI 0,dI 2]))\/
 (s.ok=true/\j.size>1500/\p= .d (.tup [.nilPtr,dI 0,dI 3]))\/
 (s.ok=true/\j.size<=1500/\(zy ⟨s,[],[]⟩ (jw j) 0).2.2≠0/\p= .d (.tup [.nilPtr,dI (zy ⟨s,[],[]⟩ (jw j) 0).2.1,dI (zy ⟨s,[],[]⟩ (jw j) 0).2.2]))\/
 (s.ok=true/\j.size<=1500/\(zy ⟨s,[],[]⟩ (jw j) 0).2.2=0/\(zy ⟨s,[],[]⟩ (jw j) 0).1.Ok/\Frm M M'/\∃d a cs,p= .tup [.ptr d 0,pI (-1),pI 0]/\M.boxes.length<=d/\oC (zy ⟨s,[],[]⟩ (jw j) 0).1 d a cs M'/\(∀k,kOf a=some k->M.aB.length<=k)/\(∀k,kOf cs=some k->M.aB.length<=k))
def avt:∀(l1 l2:List ByteArray) (D:Dk) (i:Nat),(zy D l1 i).2.2=0->zy D (l1++l2) i=zy (zy D l1 i).1 l2 (i+l1.length)
 | [],l2,D,i,_=>by simp[zy]
 |y::l1,l2,D,i,h=>by
  rw[zy]at h;rw[aL,zy,zy]
  by_cases h1:FP y=false\/(fG (dL y)).2≠0
  ·rw[if_pos h1]at h;cases h
  rw[if_neg h1]at h⊢;rw[if_neg h1]
  by_cases h2:(D.enter (fG (dL y)).1).2≠0
  ·rw[if_pos h2]at h;exact absurd h h2
  rw[if_neg h2]at h⊢;rw[if_neg h2,avt l1 l2 _ (i+1) h,ai]
  congr 1
  omega
variable{bs:List (Option (List PV))}{fz:List Nat}{ar:List (Option Arr)}
def oC.grow {D:Dk}{ce cs:PV}(h:oC D d ce cs ⟨bs,fz,ar⟩)(x:Option (List PV)):oC D d ce cs ⟨bs++ [x],bs.length::fz,ar⟩:=by
 have hd:d<bs.length:=(av.1 h.box).1;refine⟨h.toDkRd.ext,h.dif,?_,?_⟩
 ·intro e
  rcases ab.1 e with e|e
  ·omega
  ·exact h.nb e
 ·intro i a
  rcases ab.1 a with rfl|a
  ·simp
  ·have:=h.fzb i a
   simp only at this;simp only[Z,ax];omega
def Frm.grow (h:Frm M ⟨bs,fz,ar⟩)(x:Option (List PV)):Frm M ⟨bs++ [x],bs.length::fz,ar⟩:=
 h.trans (Frm.new (xf:=[bs.length]) (by simp))
def Frm.arf {g b:Mem}{ce cs ce' cs':PV}(h:Frm M g)(f:FrD d ce cs ce' cs' g b)(hd:M.boxes.length<=d)(h1:∀k,kOf ce=some k->M.aB.length<=k)(h2:∀k,kOf cs=some k->M.aB.length<=k)(m:FzB b):
  Frm M b/\(∀k,kOf ce'=some k->M.aB.length<=k)/\(∀k,kOf cs'=some k->M.aB.length<=k):=by
 have l:=h.len;have j:=h.bH;refine⟨⟨bS l f.len,bS j f.bH,fun i c=>(f.box i (by omega) (by omega)).trans (h.box i c),fun i c=>(f.fz i (by omega)).trans (h.fz i c),fun k a=>(f.row k (by omega) (fun e=>by have:=h1 k e;omega) (fun e=>by have:=h2 k e;omega)).trans (h.row k a),fun _=>m⟩,fun k a=> ?_,fun k a=> ?_⟩
 ·rcases f.oe k a with e|e
  ·exact h1 k e
  ·omega
 ·rcases f.os k a with e|e
  ·exact h2 k e
  ·omega
def avT (s:Su)(hs:s.Small)(j:ByteArray){bs:List (Option (List PV))}{fz:List Nat}{ar:List (Option Arr)}{KP:DV->Mem->Prop}(w:FzB ⟨bs,fz,ar⟩):
  SC C 56 [.d s.dv, .d (.str j)] ⟨bs,fz,ar⟩ (awh s j ⟨bs,fz,ar⟩) KP:=by
 have aL:bs.length∉fz:=fun e=>cF _ (w _ e)
 refine aG mixed rfl au5 ?_;rw[gU];simp only[auS,akQ,bD,bQ,aQ,bV,dh,aV,bc,Z,c9,RN,B,F,I,J,N,O];have hO:=fun X KP hX=>ae0 s hs X (bs.length::fz) ar KP hX
 rw[gU]at hO;refine SC.jU (SC.mono (hO _ (fun _ _=>False) (by
  intro i a
  rcases ab.1 a with rfl|a
  ·simp
  ·have:=w _ a
   simp only at this;simp only[Z,ai,b8];omega)) ?_) (fun _ _ h=>h.elim)
 rintro p ⟨t,A,b⟩ (⟨h,rfl⟩|⟨l,rfl,x1,x2,h⟩)
 ·have z1:((2:Int) !=0)=true:=rfl
  simp only[z1,RN,B,F,I,J,N,O];exact .inl ⟨h,rfl⟩
 simp only[Mem.mk.injEq]at h;obtain⟨u,v,rfl⟩:=h;have G:t.length=bs.length+4:=by rw[u];simp
 have aqu:t[bs.length+3]?=some (some (iV s (.d (.slice true [])) (.d (.slice true [])))):=by
  rw[u,cj (by simp)];simp
 have arP:FzB ⟨t,A,b⟩:=by
  intro i a;rw[v]at a;simp only[G]
  rcases ab.1 a with rfl|a
  ·simp
  rcases ab.1 a with rfl|a
  ·simp
  rcases ab.1 a with rfl|a
  ·omega
  ·have:=w _ a;simp only at this;omega
 have awo:bs.length+3∉A:=by
  intro a;rw[v]at a
  rcases ab.1 a with h|a
  ·simp at h
  rcases ab.1 a with h|a
  ·simp at h
  rcases ab.1 a with h|a
  ·omega
  ·have:=w _ a;simp only at this;omega
 have P:Frm ⟨bs,fz,b⟩ ⟨t,A,b⟩:=by
  rw[u,v,bc];exact Frm.new (xf:=[_,_,_]) (by intro i a;simp at a⊢;omega)
 clear u v hO;have z1:((0:Int) !=0)=false:=rfl;simp only[qc,qg,z1,mD,wu,Z,RN,B,F,I,J,N,O]
 by_cases hl:j.size>1500
 ·have z2:decide ((j.size:Int)>1500)=true:=decide_eq_true (by omega)
  simp only[z2,RN,B,F,I,J,N,O];exact .inr (.inl ⟨l,hl,rfl⟩)
 have z2:decide ((j.size:Int)>1500)=false:=decide_eq_false (by omega);simp only[z2,RN,B,F,I,J,N,O];refine SC.jU (SC.mono (ain j (KP:=fun _ _=>False)) ?_) (fun _ _ h=>h.elim);rintro p M1 ⟨rfl,rfl⟩;(try simp only[RN,B,F,I,J,N,O]);refine SC.jU (SC.mono (avz j (by omega) arP (KP:=fun _ _=>False)) ?_) (fun _ _ h=>h.elim);rintro c ⟨L,M,K⟩ ⟨c1,W,c3⟩;(try simp only[RN,B,F,I,J,N,O]);rw[Zj c1];simp only[Q,RN,B,F,I,J,N,O];have av:=adQ j;have ap:oC ⟨s,[],[]⟩ (bs.length+3) (.d (.slice true [])) (.d (.slice true [])) ⟨L,M,K⟩:=
  ⟨⟨(W.box _ (by simp only;omega)).trans aqu, .inl ⟨rfl,rfl⟩, .inl ⟨rfl,rfl⟩⟩,(by intro k hk;cases hk),fun e=>awo ((W.fz _ (by simp only;omega)).1 e),W.fzb arP⟩
 obtain⟨ls,H⟩:∃ls,ls=jw j:=⟨_,rfl⟩
 have R:∀y∈ls,y.size<=1500:=fun y hy=>by have:=adR (s:=j) (x:=y) (by rw[<-H];exact hy);omega
 have hR:awh s j ⟨bs,fz,b⟩=fun p M'=>(s.ok=false/\p= .d (.tup [.nilPtr,dI 0,dI 2]))\/
   (s.ok=true/\j.size>1500/\p= .d (.tup [.nilPtr,dI 0,dI 3]))\/
   (s.ok=true/\j.size<=1500/\(zy ⟨s,[],[]⟩ ls 0).2.2≠0/\p= .d (.tup [.nilPtr,dI (zy ⟨s,[],[]⟩ ls 0).2.1,dI (zy ⟨s,[],[]⟩ ls 0).2.2]))\/
   (s.ok=true/\j.size<=1500/\(zy ⟨s,[],[]⟩ ls 0).2.2=0/\(zy ⟨s,[],[]⟩ ls 0).1.Ok/\Frm ⟨bs,fz,b⟩ M'/\∃d z cs,p= .tup [.ptr d 0,pI (-1),pI 0]/\bs.length<=d/\oC (zy ⟨s,[],[]⟩ ls 0).1 d z cs M'/\(∀k,kOf z=some k->b.length<=k)/\(∀k,kOf cs=some k->b.length<=k)):=by
  rw[H];rfl
 rw[hR];rw[<-H]at c1 av⊢;clear hR;refine zu (fun m st=>∃(i:Nat) (D:Dk) (z cs:PV) (o:List (Option (List PV))) (q:List Nat) (n:List (Option Arr)),m=ls.length - i/\i<=ls.length/\st=⟨[(7, .ptr (bs.length+3) 0),(29,c),(30,pI ls.length),(31,pI i)],⟨o,q,n⟩⟩/\zy ⟨s,[],[]⟩ ls 0=zy D (ls.drop i) i/\oC D (bs.length+3) z cs ⟨o,q,n⟩/\D.Ok/\Frm ⟨bs,fz,b⟩ ⟨o,q,n⟩/\slN 1 true c (ls.map .str) n/\(∀k,kOf c=some k->kOf z≠some k/\kOf cs≠some k)/\(∀k,kOf z=some k->b.length<=k)/\(∀k,kOf cs=some k->b.length<=k)) ls.length
  ⟨0,⟨s,[],[]⟩, .d (.slice true []), .d (.slice true []),L,M,K,rfl,aw _,rfl,rfl,ap,⟨l,rfl,aw _,fun x h=>(by cases h),fun x h=>(by cases h)⟩,P.trans W,c1,fun k _=>⟨fun e=>(by cases e),fun e=>(by cases e)⟩,fun k e=>(by cases e),fun k e=>(by cases e)⟩ ?_
 rintro m st ⟨i,D,z,cs,o,q,n,rfl,a,rfl,f,q2,q3,q4,q5,q6,q7,q8⟩
 by_cases g:i<ls.length
 case neg=>
  have aq:i=ls.length:=by omega
  subst aq;rw[aD,zy]at f;simp only[az,RN,B,F,I,J,N,O];rw[f];exact .inr (.inr (.inr ⟨l,by omega,rfl,q3,q4,_,z,cs,rfl,by omega,q2,q7,q8⟩))
 obtain⟨g2,g3,g6⟩:=rng g (by omega);rw[drop_cons g,zy]at f;have hy:=R _ (getD_mem g);obtain⟨y,T⟩:∃y,y=ls.getD i default:=⟨_,rfl⟩
 rw[<-T]at f hy;obtain⟨k,ver,st,rfl,hk,_,_⟩:=Io q5 (by intro e;rw[List.map_eq_nil_iff]at e;rw[e]at g;exact Nat.not_lt_zero _ g);have aE:=ZV y;have hP:=alF (dL y);have S:=avP (dL y);obtain⟨X,hX⟩:∃X,X=fG (dL y):=⟨_,rfl⟩
 rw[<-hX]at f hP S;obtain⟨x,e⟩:=X;simp only at f hP S;simp only[g2,g3,g,hk,getD_map,Y,Q,JF,<-T,RN,B,F,I,J,N,O];refine ak rfl rfl (avZ (by omega)) ?_;(try simp only[RN,B,F,I,J,N,O]);refine ak rfl rfl hP ?_;have ax:o.length∉q:=fun e=>cF _ (q2.fzb _ e)
 simp only[DK,ax,bD,bQ,aQ,bV,dh,aV,lu,RN,B,F,I,J,N,O];cases r:FP y
 ·rw[if_pos (.inl r)]at f
  simp only[r,RN,B,F,I,J,N,O];exact .inr (.inr (.inl ⟨l,by omega,by rw[f];simp,by rw[f]⟩))
 by_cases E:e=0
 case neg=>
  have V:(e !=0)=true:=by simp[E]
  rw[if_pos (.inr E)]at f;simp only[r,V,RN,B,F,I,J,N,O];exact .inr (.inr (.inl ⟨l,by omega,by rw[f];simp,by rw[f]⟩))
 subst E;rw[if_neg (fun h=>h.elim (fun h=>by rw[r]at h;cases h) (fun h=>h rfl))]at f;have b3:decide ((0:Int)≠0)=false:=rfl;simp only[r,z1,b3,RN,B,F,I,J,N,O];have hE:=Zw (q2.grow (some [pI x.kind, .d (sF (x.ns.map ay))])) q3 x (KP:=fun _ _=>False);rw[dM]at hE;refine SC.jU (SC.mono hE ?_) (fun _ _ h=>h.elim);rintro p ⟨ae,ao,ac⟩ ⟨rfl,am,an,r1,r2⟩;obtain⟨f1,f2,f3⟩:=(q4.grow (some [pI x.kind, .d (sF (x.ns.map ay))])).arf r2 (by simp only;omega) q7 q8 r1.fzb;obtain⟨t1,t2⟩:=awg (c:= .tsl k ver 0) q5 r2 q6
 by_cases U:(D.enter x).2=0
 ·have V:((D.enter x).2 !=0)=false:=by simp[U]
  rw[if_neg (fun h=>h U)]at f;simp only[V,g6,RN,B,F,I,J,N,O];exact⟨ls.length - (i+1),_,by omega, .inl rfl,i+1,(D.enter x).1,am,an,ae,ao,ac,rfl,by omega,rfl,f,r1,aac q3 x,f1,t1,t2,f2,f3⟩
 ·have V:((D.enter x).2 !=0)=true:=by simp[U]
  rw[if_pos U]at f;simp only[V,RN,B,F,I,J,N,O];exact .inr (.inr (.inl ⟨l,by omega,by rw[f];exact U,by rw[f]⟩))
end Go.Tel
namespace Go.Tel
open Go.Am
def avc (l:List En):ByteArray:=l.foldl (fun o x=>o++(x.line++nlB)) ⟨#[]⟩
def avf (l:List En)(x:En):avc (l++ [x])=avc l++(x.line++nlB):=by simp[avc]
def avr (l:List En)(h:∀x∈l,x.formed=true):(avc l).size<=40*l.length:=by
 induction l using uH with
 |h0=>exact bh 0
 |h1 l x b=>
  have h1:=b fun y a=>h y (by simp[a])
  have h2:=avg (h x (by simp));have c:nlB.size=1:=rfl;rw[avf,bl,bl,Z,ax];omega
def ave (b j:Bool)(D:Dk)(hf:∀x∈D.es,x.formed=true)(hl:D.es.length<=1000):Pure C 48 [uP b j D] (.d (.tup [.str (avc D.es),dI 0])) []:=by
 have k:=aaA b j D;refine ah mixed rfl auX ?_;rw[uP,JG]at k⊢;simp only[Dn,Zb,RN,B,F,I,J,N,O];refine ak rfl rfl k ?_;simp only[Q,RN,B,F,I,J,N,O];refine aH D.es.length (fun i (_:Unit)=>⟨[(4, .d (.str (avc (D.es.take i)))),(15, .d (.slice b (D.es.map En.dv))),(16,pI D.es.length),(17,pI i)],⟨[],[],[]⟩⟩)
  (fun i _=>True) 0 () (aw _) rfl trivial (fun i _ a _=> ?_) (fun _ _=> ?_)
 ·obtain⟨m,n,o⟩:=rng a (by omega)
  have l:=hf _ (getD_mem a);have c:=awc (D.es.getD i default);have h:=avr (D.es.take i) fun y q=>hf y (List.mem_of_mem_take q)
  rw[b4]at h;have p:=avg l;have e:(D.es.getD i default).line.size+(⟨#[10]⟩:ByteArray).size<=9223372036854775807:=by have:(⟨#[10]⟩:ByteArray).size=1:=rfl;omega
  have f:(avc (D.es.take i)).size+((D.es.getD i default).line++(⟨#[10]⟩:ByteArray)).size<=9223372036854775807:=by have:(⟨#[10]⟩:ByteArray).size=1:=rfl;rw[bl];omega
  have g:avc (D.es.take (i+1))=avc (D.es.take i)++((D.es.getD i default).line++⟨#[10]⟩):=by rw[aS a,avf];rfl
  simp only[l,if_true]at c;rw[dM]at c;simp only[m,n,a,getD_map,dM,Y,Q,RN,B,F,I,J,N,O];refine ak rfl rfl c ?_;simp only[oD,Iq,e,f,o,RN,B,F,I,J,N,O];exact jv 0 0 () a (by rw[g];rfl) trivial (by simp) (by simp) rfl rfl
 ·simp only[az,Q,RN,B,F,I,J,N,O]
  rw[b5]
end Go.Tel
namespace Go.Am
end Go.Am
namespace Go.Tel
open Go.Am Go.Lib
def avC (s:ByteArray)(a b:Nat):(s.extract a b).data.toList=(s.data.toList.take b).drop a:=by
 rw[ByteArray.data_extract,Array.toList_extract,List.extract_eq_take_drop,List.drop_take]
def avh:∀{x:List UInt8} (r:List UInt8),(10:UInt8)∉x->yQ (x++10::r)=(x++ [10])::yQ r
 | [],_,_=>rfl
 |b::x,r,h=>by
  simp only[ab,not_or]at h;have a:¬(b==10)=true:=by simp;exact fun e=>h.1 e.symm
  rw[aL,yQ,if_neg a,avh r h.2]
  rfl
def awl {k:Int}(hk:1<=k/\k<=6):(10:UInt8)∉(fwE k).data.toList:=by
 rcases aiM hk with rfl|rfl|rfl|rfl|rfl|rfl<;>decide
def awe {x:En}(h:x.formed=true):(10:UInt8)∉x.line.data.toList:=by
 obtain⟨h1,h2,b⟩:=auW h;rw[au7 (by intro e;rw[e]at b;simp at b)];intro a
 rcases bk.1 a with a|a
 ·exact awl h1 a
 ·rw[List.mem_flatten]at a
  obtain⟨l,d,a⟩:=a;obtain⟨n,f,rfl⟩:=bv.1 d
  rcases ab.1 a with a|a
  ·exact absurd a (by decide)
  ·exact avS (au1 h n f).1 (c:=10) (by decide) a
def av6 (l:List En):(avc l).data.toList=(l.map fun x=>x.line.data.toList++ [10]).flatten:=by
 induction l using uH with
 |h0=>rfl
 |h1 l x a=>
  rw[avf,auV,auV,a,aE,List.flatten_append];simp[nlB]
def avX {l:List En}(h:∀x∈l,x.formed=true):jw (avc l)=l.map fun x=>x.line++nlB:=by
 have a:∀l:List En,(∀x∈l,x.formed=true)->yQ (l.map fun x=>x.line.data.toList++ [10]).flatten=l.map fun x=>x.line.data.toList++ [10]:=by
  intro l
  induction l with
  |nil=>exact fun _=>rfl
  |cons x l c=>
   intro h;rw[ae,cK,bc,List.singleton_append,avh _ (awe (h x (by simp))),c fun y b=>h y (by simp[b])]
 refine avd ?_;rw[jw,av6,a l h,bu,bu,bu];refine cb fun x _=> ?_
 simp only[Function.comp_apply,auV]
 rfl
def au8 (s:ByteArray):s.data.toList.length=s.size:=size_data s
def awf (s:ByteArray):FP (s++nlB)=true/\dL (s++nlB)=s:=by
 have a:(s++nlB).size=s.size+1:=by rw[bl];rfl
 have b:FP (s++nlB)=true:=by
  rw[FP,a];have:(s++nlB).extract (s.size+1 - 1) (s.size+1)=⟨#[10]⟩:=by
   refine avV ?_;rw[avC,auV,bB,a7 (by rw[Z,au8];exact bh _),<-au8 s,c5]
   rfl
  rw[avA,this];simp
 refine⟨b,?_⟩;rw[dL,if_pos b,a,bB];refine avV ?_;rw[avC,auV,bN,be (by rw[au8];exact bh _),a7 (by rw[au8];exact bh _)]
def entered (D:Dk)(l:List En):Dk:=l.foldl (fun D x=>(D.enter x).1) D
def Dv (D:Dk)(l:List En)(x:En):entered D (l++ [x])=((entered D l).enter x).1:=by simp[entered]
def anT (D:Dk)(x:En):(D.with x).es=D.es++ [x]/\(D.with x).su=D.su:=by
 unfold Dk.with
 split<;>exact⟨rfl,rfl⟩
def ai8 (D:Dk)(x:En):((D.enter x).2=0/\(D.enter x).1=D.with x/\x.formed=true)\/((D.enter x).2≠0/\(D.enter x).1=D):=by
 unfold Dk.enter
 split
 ·exact .inr ⟨(show(2:Int)≠0 by decide),rfl⟩
 rename_i a
 split
 ·exact .inr ⟨(show(3:Int)≠0 by decide),rfl⟩
 split
 ·exact .inr ⟨(show(2:Int)≠0 by decide),rfl⟩
 split
 ·exact .inl ⟨rfl,rfl,by simpa using a⟩
 ·exact .inr ⟨(show(7:Int)≠0 by decide),rfl⟩
def avU (a:Dk)(h0:a.es=[])(l:List En):zy a ((entered a l).es.map fun x=>x.line++nlB) 0=(entered a l, -1,0)/\∀x∈(entered a l).es,x.formed=true:=by
 induction l using uH with
 |h0=>
  rw[show entered a []=a from rfl,h0];exact⟨rfl,by simp⟩
 |h1 l x e=>
  obtain⟨b,d⟩:=e;rw[Dv]
  rcases ai8 (entered a l) x with⟨h1,h2,c⟩|⟨_,h2⟩
  ·obtain⟨f,g⟩:=awf x.line
   refine⟨?_,?_⟩
   ·rw[h2,(anT _ _).1,aE,avt _ _ _ _ (by rw[b]),b]
    simp only[ae,cg,zy,f,g,avO c,h1];simp[h2]
   ·rw[h2,(anT _ _).1]
    intro y hy
    rcases bk.1 hy with hy|hy
    ·exact d y hy
    ·rw[ap.1 hy];exact c
  ·rw[h2];exact⟨b,d⟩
def avx (s:Su)(l:List En):zy ⟨s,[],[]⟩ (jw (avc (entered ⟨s,[],[]⟩ l).es)) 0=(entered ⟨s,[],[]⟩ l, -1,0):=by
 obtain⟨h1,h2⟩:=avU ⟨s,[],[]⟩ rfl l;rw[avX h2];exact h1
def ind (a v:Int):Nat:=if a=v then 1 else 0
def Dk.Live.t {D:Dk}(h:D.Live):∃t,D.state (-1)=some t/\Rel D.su (bC D (-1)) t/\zK D.su 24 t:=by
 obtain⟨t,a⟩:=bw.1 h.live;exact⟨t,a,((h.all (-1)).2 t a).1,h.ok.Vp a⟩
variable{D:Dk}
def Dk.Live.goes (h:D.Live):mJ D.su (bC D (-1))=true:=by rw[(h.all (-1)).1];exact h.live
def Dk.Live.fits (h:D.Live)(w:Int):∀x∈bC D w,x.Fit D.su:=fun x a=>h.fit x (iY a).1 (iY a).2
def oC.KG {d i:Nat}{ce cs:PV}{bs:List (Option (List PV))}{fz:List Nat}{ar:List (Option Arr)}{y:Option (List PV)}(h:oC D d ce cs ⟨bs,fz,ar⟩)(hi:i≠d):oC D d ce cs ⟨bs.set i y,fz,ar⟩:=
 ⟨⟨by simp only;rw[aM hi];exact h.box,h.ent,h.str⟩,h.dif,h.nb,h.fzb.set⟩
def Ld {s:Su}(hs:s.ok=true)(l:List En):(entered ⟨s,[],[]⟩ l).Live:=by
 induction l using uH with
 |h0=>exact ajW hs
 |h1 l x a=>rw[Dv];exact adb a x
end Go.Tel
namespace Go.Am
def aoY {bs:List (Option (List PV))}{fz:List Nat}{ar:List (Option Arr)}{K:St->Prop}{k ver t sz st:Nat}{ts:List Nat}{xs:List DV}{env:List (Nat×PV)}(h:ar[k]?=some (some ⟨sz,xs,ver,st⟩)):
  QN (.tsl k ver 0) t ts K env ⟨bs,fz,ar⟩=tH ts K ⟨(t, .d (.slice false xs))::env,⟨bs,fz,ar.set k (some ⟨sz,xs,ver,2⟩)⟩⟩:=by
 rw[Go.Tel.Tf h,bN]
end Go.Am
namespace Go.Tel
open Go.Am
variable{M:Mem}{c:PV}
def ajp {bs:List (Option (List PV))}{fz:List Nat}{ar:List (Option Arr)}{L:List Int}{t:Nat}{ts:List Nat}{env:List (Nat×PV)}{K:St->Prop}(hc:slN 1 true c (L.map ay) ar)(a:∀k,kOf c=some k->M.aB.length<=k)(hf:Frm M ⟨bs,fz,ar⟩)
  (b:∀ex ar',Frm M ⟨bs,fz,ar'⟩->tH ts K ⟨(t, .d (.slice ex (L.map ay)))::env,⟨bs,fz,ar'⟩⟩):QN c t ts K env ⟨bs,fz,ar⟩:=by
 rcases hc with⟨rfl,h⟩|⟨k,ver,st,rfl,h,_⟩
 ·have:=b true ar hf
  rw[h]at this;exact this
 ·rw[aoY h]
  refine b false _ ⟨hf.len,by simpa using hf.bH,hf.box,hf.fz,fun j e=> ?_,hf.fzb⟩;have:=a k rfl;simp only;rw[aM (by omega)];exact hf.row j e
variable{p:PV}{e:Int}
def ae5 {C:Ctx}{base:Nat}{K:PV->Mem->Prop}{KP:DV->Mem->Prop}(a:p= .tup [c,pI e]\/(p= .d (.tup [.slice true [],dI e])/\c= .d (.slice true []))):
  (au C base (.ext 0) [p] M K KP=K c M)/\au C base (.ext 1) [p] M K KP=K (pI e) M:=by
 rcases a with rfl|⟨rfl,rfl⟩
 ·exact⟨qc,qg⟩
 ·exact⟨propext ⟨id,id⟩,propext ⟨id,id⟩⟩
def apJ (a:p= .tup [c,pI e]\/(p= .d (.tup [.slice true [],dI e])/\c= .d (.slice true []))):p.qZ=false:=by
 rcases a with rfl|⟨rfl,_⟩<;>rfl
def atg {α:Type}(f g:α->Int)(l:List α):(l.flatMap fun x=>[f x,g x]).length=2*l.length:=by
 induction l with
 |nil=>rfl
 |cons x l a=>rw[List.flatMap_cons,Z,a];simp;omega
variable{D:Dk}
def aua (h:D.Ok)(q:Qn):(D.ask q).1.length<=1000:=by
 unfold Dk.ask
 split
 ·simp
 rename_i d
 split
 ·simp
 cases g:D.state (-1)with
 |none=>simp
 |some t=>
  simp only
  split
  ·have c:=h.Vp g
   have b:=Pc.good c.pc;have a:1<=q.kind/\q.kind<=12:=by simpa[inR]using d
   obtain⟨k,ns⟩:=q;simp only at a
   rcases XR a with rfl|rfl|rfl|rfl|rfl|rfl|rfl|rfl|rfl|rfl|rfl|rfl
   ·have e:(ajr t.pc).length=2*t.pc.hands.length:=atg _ _ _
    have:(D.answer t ⟨1,ns⟩).1=ajr t.pc:=rfl;rw[this,e];have:=b.h2;omega
   ·have:(D.answer t ⟨2,ns⟩).1=QG t.eH:=rfl
    rw[this,QG,List.length_mergeSort];have:=c.st;omega
   ·have:(D.answer t ⟨3,ns⟩).1=qo t.op t.pc.hands.length:=rfl
    rw[this];have:=L8 t.op t.pc.hands.length;have:=b.h2;omega
   ·simp only[Dk.answer];simp;split<;>simp
   ·simp only[Dk.answer,uU];simp
    split
    ·split
     ·simp
     ·rw[agy];have:=ZU t.pc (Qn.n ⟨5,ns⟩ 1) (Qn.n ⟨5,ns⟩ 2) (Qn.n ⟨5,ns⟩ 0);rename_i f _;have:=this f;omega
    ·simp
   ·simp only[Dk.answer];simp;split<;>simp
   ·simp[Dk.answer]
   ·simp only[Dk.answer];simp;split
    ·split<;>simp
    ·simp
   ·simp only[Dk.answer];simp;split<;>simp
   ·simp[Dk.answer]
   ·simp[Dk.answer]
   ·have:(D.answer t ⟨12,ns⟩).1=D.stands.map fun p=>(p.1:Int):=rfl
    rw[this,Q];exact bS (bS (Az _ _ _) h.few) (by decide)
  ·simp
variable{d f:Nat}
def oC.frD {ce cs a b c b':PV}{M':Mem}(h:oC D d ce cs M)(hf:FrD f a b c b' M M')(hd:d≠f)(ho:∀k,ab7 ce cs k->¬ab7 a b k)(g:FzB M'):oC D d ce cs M':=
 {box:=(hf.box d (av.1 h.box).1 hd).trans h.box
  ent:=zF h.ent fun k A h1 h2=>(hf.row k (OW h.ent h1) (fun e=>ho k (.inl h1) (.inl e)) (fun e=>ho k (.inl h1) (.inr e))).trans h2
  str:=zF h.str fun k A h1 h2=>(hf.row k (OW h.str h1) (fun e=>ho k (.inr h1) (.inl e)) (fun e=>ho k (.inr h1) (.inr e))).trans h2
  dif:=h.dif
  nb:=fun e=>h.nb ((hf.fz d (av.1 h.box).1).1 e)
  fzb:=g}
def Two (D E:Dk)(d f:Nat)(M:Mem):Prop:=∃c cs a b,oC D d c cs M/\oC E f a b M/\d≠f/\∀k,ab7 c cs k->¬ab7 a b k
def Two.frm {D E:Dk}{d f:Nat}{M M':Mem}(h:Two D E d f M)(hf:Frm M M'):Two D E d f M':=by
 obtain⟨c,cs,a,b,h1,h2,e⟩:=h;exact⟨c,cs,a,b,h1.frm hf,h2.frm hf,e⟩
def Two.symm {D E:Dk}{d f:Nat}{M:Mem}(h:Two D E d f M):Two E D f d M:=by
 obtain⟨c,cs,a,b,h1,h2,i,j⟩:=h;exact⟨a,b,c,cs,h2,h1,Ne.symm i,fun k e g=>j k g e⟩
variable{E:Dk}
def at1 (h:Two D E d f M)(l:E.Ok)(x:En){KP:DV->Mem->Prop}:
  SC C 38 [.ptr f 0, .d x.dv] M (fun p M'=>p= .d (dI (E.enter x).2)/\Two D (E.enter x).1 d f M') KP:=by
 obtain⟨r,cs,a,b,h1,h2,n,g⟩:=h;refine SC.mono (Zw h2 l x) ?_;rintro p M' ⟨rfl,o,q,m,c⟩;refine⟨rfl,r,cs,o,q,h1.frD c n g m.fzb,m,n,fun k i j=> ?_⟩;have s:k<M.aB.length:=by
  rcases i with e|e
  ·exact OW h1.ent e
  ·exact OW h1.str e
 rcases j with e|e
 ·exact(c.oe k e).elim (fun e=>g k i (.inl e)) (by omega)
 ·exact(c.os k e).elim (fun e=>g k i (.inr e)) (by omega)
def atV (h:Two D E d f M)(e:D.Ok)(q:Qn){KP:DV->Mem->Prop}:
  SC C 21 [.ptr d 0, .d q.dv] M (fun p M'=>∃c,(p= .tup [c,pI ((D.ask q).2)]\/(p= .d (.tup [.slice true [],dI (D.ask q).2])/\c= .d (.slice true [])))/\slN 1 true c ((D.ask q).1.map ay) M'.aB/\(∀k,kOf c=some k->M.aB.length<=k)/\Frm M M') KP:=by
 obtain⟨g,cs,a,b,h1,_⟩:=h;exact aii h1 e q
def oC.new {bs:List (Option (List PV))}{fz:List Nat}{ar:List (Option Arr)}(a:FzB ⟨bs,fz,ar⟩)(s:Su){x1 x2:Option (List PV)}:oC ⟨s,[],[]⟩ (bs.length+2) (.d (.slice true [])) (.d (.slice true [])) ⟨bs++ [x1,x2,some (iV s (.d (.slice true [])) (.d (.slice true [])))],(bs.length+1)::bs.length::fz,ar⟩:=by
 have b:Frm ⟨bs,fz,ar⟩ ⟨bs++ [x1,x2,some (iV s (.d (.slice true [])) (.d (.slice true [])))],(bs.length+1)::bs.length::fz,ar⟩:=Frm.new (xf:=[_,_]) (by intro i c;simp at c⊢;omega);refine⟨⟨?_, .inl ⟨rfl,rfl⟩, .inl ⟨rfl,rfl⟩⟩,(by intro k f;cases f),?_,b.fzb a⟩
 ·simp only;rw[cj (by omega)];simp
 ·intro e
  simp only[ab]at e
  rcases e with e|e|e
  ·omega
  ·omega
  ·have:=a _ e;simp only at this;omega
def Two.new {D:Dk}{d:Nat}{ce cs:PV}{bs:List (Option (List PV))}{fz:List Nat}{ar:List (Option Arr)}(h:oC D d ce cs ⟨bs,fz,ar⟩)(s:Su){x1 x2:Option (List PV)}:Two D ⟨s,[],[]⟩ d (bs.length+2) ⟨bs++ [x1,x2,some (iV s (.d (.slice true [])) (.d (.slice true [])))],(bs.length+1)::bs.length::fz,ar⟩:=by
 have a:Frm ⟨bs,fz,ar⟩ ⟨bs++ [x1,x2,some (iV s (.d (.slice true [])) (.d (.slice true [])))],(bs.length+1)::bs.length::fz,ar⟩:=Frm.new (xf:=[_,_]) (by intro i c;simp at c⊢;omega);have b:d<bs.length:=(av.1 h.box).1;exact⟨ce,cs,_,_,h.frm a, .new h.fzb s,by omega,by rintro k _ (e|e)<;>cases e⟩
end Go.Tel
namespace Go.Tel
open Go.Am
def av3 {C:Ctx}{base:Nat}{M:Mem}{K:PV->Mem->Prop}{KP:DV->Mem->Prop}{x y z:PV}{l:List PV}:au C base (.ext 2) [.tup (x::y::z::l)] M K KP=K z M:=propext ⟨id,id⟩
def av9 (D E:Dk){d f:Nat}(hd:d≠f):∃M,Two D E d f M:=by
 obtain⟨n,g⟩:∃n,n=max d f+1:=⟨_,rfl⟩
 refine⟨⟨((List.replicate n none).set d (some (iV D.su (.tsl 0 0 0) (.tsl 1 0 0)))).set f (some (iV E.su (.tsl 2 0 0) (.tsl 3 0 0))),[],[some ⟨2,D.es.map En.dv,0,0⟩,some ⟨1,D.st.map .bool,0,1⟩,some ⟨2,E.es.map En.dv,0,0⟩,some ⟨1,E.st.map .bool,0,1⟩]⟩,
  .tsl 0 0 0, .tsl 1 0 0, .tsl 2 0 0, .tsl 3 0 0,?_,?_,hd,?_⟩
 ·exact⟨⟨by simp only;rw[aM (Ne.symm hd),bO (by simp;omega)], .inr ⟨0,0,0,rfl,rfl,by decide,by simp⟩, .inr ⟨1,0,1,rfl,rfl,by decide,by simp⟩⟩,(by intro k b e;cases b;cases e),by simp,by intro i a;simp at a⟩
 ·exact⟨⟨by simp only;rw[bO (by simp;omega)], .inr ⟨2,0,0,rfl,rfl,by decide,by simp⟩, .inr ⟨3,0,1,rfl,rfl,by decide,by simp⟩⟩,(by intro k b e;cases b;cases e),by simp,by intro i a;simp at a⟩
 ·rintro k (e|e) (c|c)<;>cases e<;>cases c
def awj (s:Su)(l:List En)(x:En)(q:List Qn):Pure C 16 [s.dv,sF (l.map En.dv),x.dv,sF (q.map Qn.dv)] (.d (.bool true)) []:=by
 have hB:=alP s l q;have hS:=fun h1 h2=>akz s h1 h2
 refine bU (aG mixed rfl au3 ?_);rw[gU]at hB hS⊢;rw[dM];simp only[auR,Bz,mD,wu,RN,B,F,I,J,N,O];refine ak rfl rfl hB ?_;cases hb:AP s l q
 ·(try simp only[RN,B,F,I,J,N,O])
  exact ak rfl rfl Ry (by(try simp only[RN,B,F,I,J,N,O]);rfl)
 obtain⟨hs,⟨hl,hn⟩,hq, -⟩:=XP hb;obtain⟨A,bi⟩:=Su.ab1 hs;simp only[Q,RN,B,F,I,J,N,O]
 by_cases G:(l.length:Int)>18
 ·simp only[G,RN,B,F,I,J,N,O]
  exact ak rfl rfl Ry (by(try simp only[RN,B,F,I,J,N,O]);rfl)
 simp only[G,Q,RN,B,F,I,J,N,O]
 by_cases h6:(x.ns.length:Int)>6
 ·simp only[h6,RN,B,F,I,J,N,O]
  exact ak rfl rfl Ry (by(try simp only[RN,B,F,I,J,N,O]);rfl)
 simp only[h6,RN,B,F,I,J,N,O];refine ak rfl rfl (hS A (by omega)) ?_;cases n:s.ok
 ·(try simp only[RN,B,F,I,J,N,O])
  exact ak rfl rfl Ry (by(try simp only[RN,B,F,I,J,N,O]);rfl)
 (try simp only[RN,B,F,I,J,N,O]);have hO:=fun X fz KP hX=>ae0 s A X fz [] KP hX
 rw[gU]at hO;refine SC.jU (SC.mono (hO _ _ (fun _ _=>False) ?_) ?_) (fun _ _ h=>h.elim)
 ·intro i hi;simp at hi⊢;omega
 rintro p M0 (⟨h,_⟩|⟨_,rfl,x1,x2,P⟩)
 ·rw[n]at h;cases h
 have hk:oC ⟨s,[],[]⟩ 4 (.d (.slice true [])) (.d (.slice true [])) M0:=by rw[P];exact oC.new (bs:=[_,_]) (fz:=[1,0]) (by intro i hi;simp at hi⊢;omega) s
 have z0:((0:Int) !=0)=false:=rfl;simp only[qc,qg,z0,mD,wu,RN,B,F,I,J,N,O];clear P hO hS hB;refine aH l.length (fun i (M:Mem)=>⟨[(1, .d (sF (l.map En.dv))),(3, .d (sF (q.map Qn.dv))),(4, .d (.aW s.cs)),(6, .d (.aW [dI x.kind,sF (x.ns.map ay)])),(9, .ptr 4 0),(11,pI i)],M⟩)
  (fun i M=>∃E cs,oC (entered ⟨s,[],[]⟩ (l.take i)) 4 E cs M) 0 M0 (aw _) (by rw[uS];rfl) ⟨_,_,hk⟩ (fun i M m hP=> ?_) (fun M hP=> ?_)
 ·obtain⟨E,cs,g⟩:=hP
  obtain⟨V,Z,g6⟩:=rng m (by omega);obtain⟨y,j⟩:∃y,y=l.getD i default:=⟨_,rfl⟩
  have hE:=Zw g (Ld n _).ok y (KP:=fun _ _=>False);rw[dM,j,<-Dv,<-aS m,<-j]at hE;simp only[V,Z,m,getD_map,<-j,dM,Y,Q,RN,B,F,I,J,N,O];refine SC.jU (SC.mono hE ?_) (fun _ _ h=>h.elim);rintro p M' ⟨rfl,a6,a7,h1,_⟩;simp only[g6,RN,B,F,I,J,N,O];exact bn M' m rfl ⟨_,_,h1⟩
 obtain⟨E,cs,g⟩:=hP;rw[b5]at g;obtain⟨D,hD⟩:∃D,D=entered ⟨s,[],[]⟩ l:=⟨_,rfl⟩
 rw[<-hD]at g;have a2:D.Live:=by rw[hD];exact Ld n _
 have avK:=a2.ok;have o:=avx s l;rw[<-hD]at o;obtain⟨f1,f2,aD⟩:=Lc g;have hJ:=ave f1 f2 D avK.formed (by have:=avK.few;omega);have bk:=avr D.es avK.formed;have hR:=avT s A (avc D.es) (KP:=fun _ _=>False) (show FzB ⟨M.boxes,M.fz,M.aB⟩ from g.fzb);rw[gU]at hR;simp only[az,Q,RN,B,F,I,J,N,O];refine kS (La aD) rfl hJ rfl ?_;simp only[uS,RN,B,F,I,J,N,O];refine SC.jU (SC.mono hR ?_) (fun _ _ h=>h.elim);rintro p M2 R;simp only[awh,o]at R
 rcases R with⟨h,_⟩|⟨_,h,_⟩|⟨_,_,h,_⟩|⟨_,_,_,_,hF,r,ab,ac,rfl,be,a1,aE,a3⟩
 ·rw[n]at h;cases h
 ·have:=avK.few;omega
 ·exact absurd rfl h
 have bh:4<M.boxes.length:=(av.1 g.box).1;have U:(4:Nat)≠r:=by omega
 have am:Two D D 4 r M2:=⟨E,cs,ab,ac,g.frm hF,a1,U,fun k hk a0=>by
  have bj:k<M.aB.length:=by
   rcases hk with e|e
   ·exact OW g.ent e
   ·exact OW g.str e
  rcases a0 with e|e
  ·have:=aE k e;omega
  ·have:=a3 k e;omega⟩
 obtain⟨f,L⟩:∃f,f=(D.enter x).1:=⟨_,rfl⟩
 obtain⟨e,aL⟩:∃e,e=(D.enter x).2:=⟨_,rfl⟩
 have avl:f.Ok:=by rw[L];exact aac avK x
 have t:=fun(M:Mem) (h:Two D D r 4 M)=>at1 h avK x (KP:=fun _ _=>False)
 have u:=fun(M:Mem) (h:Two f D 4 r M)=>at1 h avK x (KP:=fun _ _=>False)
 rw[dM]at t u;simp only[<-L,<-aL]at t u;have zm:((-1:Int) != -1)=false:=rfl;have ze:(e !=e)=false:=by simp
 obtain⟨W,hW⟩:=av9 D f (Ne.symm U);simp only[qc,qg,av3,z0,zm,av2,RN,B,F,I,J,N,O];refine⟨fun p M'=>p= .d (dI e)/\Two D f r 4 M',t _ am.symm,⟨_,W,rfl,hW⟩,?_⟩;rintro p M3 ⟨rfl,an⟩;(try simp only[RN,B,F,I,J,N,O]);refine SC.jU (SC.mono (u _ an.symm) ?_) (fun _ _ h=>h.elim);rintro p M4 ⟨rfl,ao⟩;simp only[ze,RN,B,F,I,J,N,O];refine aH q.length (fun i (M:Mem)=>⟨[(3, .d (sF (q.map Qn.dv))),(9, .ptr 4 0),(14, .ptr r 0),(17,pI i)],M⟩)
  (fun i M=>Two f f 4 r M) 0 M4 (aw _) rfl ao (fun i M m g=> ?_) (fun M g=> ?_)
 ·obtain⟨V,Z,g6⟩:=rng m (by omega)
  obtain⟨y,j⟩:∃y,y=q.getD i default:=⟨_,rfl⟩
  have H:=atV g avl y (KP:=fun _ _=>False);rw[afa]at H;simp only[V,Z,m,getD_map,<-j,afa,Y,Q,RN,B,F,I,J,N,O];refine SC.jU (SC.mono H ?_) (fun _ _ h=>h.elim);rintro p ⟨a4,bc,ar6⟩ ⟨c,z,hc,v,w⟩;simp only[apJ z,(ae5 z).1,(ae5 z).2,RN,B,F,I,J,N,O];refine ajp hc v w fun a8 ar7 aM=> ?_
  have T:=g.frm aM;have K:=atV T.symm avl y (KP:=fun _ _=>False);rw[afa]at K;simp only[V,Z,m,getD_map,<-j,afa,Y,Q,RN,B,F,I,J,N,O];refine SC.jU (SC.mono K ?_) (fun _ _ h=>h.elim);rintro p ⟨a5,bd,ar8⟩ ⟨c,z,hc,v,w⟩;simp only[apJ z,(ae5 z).1,(ae5 z).2,RN,B,F,I,J,N,O];refine ajp hc v w fun a9 ar9 aR=> ?_
  have ap:=T.frm aR;have zz:((f.ask y).2 !=(f.ask y).2)=false:=by simp
  have hl:=aua avl y;have S:=apU (f.ask y).1 (f.ask y).1 (by omega) (by omega);rw[decide_eq_true rfl]at S;simp only[zz,RN,B,F,I,J,N,O];refine ak rfl rfl S ?_;simp only[g6,RN,B,F,I,J,N,O];exact bn _ m rfl ap
 ·obtain⟨E,cs,a,b,h1,h2,_⟩:=g
  obtain⟨f1,f2,aq⟩:=Lc h1;obtain⟨f3,f4,ax⟩:=Lc h2;have ae:=ave f1 f2 f avl.formed (by have:=avl.few;omega);have ai:=ave f3 f4 f avl.formed (by have:=avl.few;omega);simp only[az,Q,RN,B,F,I,J,N,O];refine kS (La aq) rfl ae rfl ?_;(try simp only[RN,B,F,I,J,N,O]);refine kS (La ax) rfl ai rfl ?_;have zj:((avc f.es).toList==(avc f.es).toList)=true:=beq_self_eq_true _;simp only[z1,oD,RJ,zj,RN,B,F,I,J,N,O];refine ak rfl rfl Ry ?_;(try simp only[RN,B,F,I,J,N,O])
  rfl
end Go.Tel
namespace Go.Am
variable{ds:List DV}
def afg {k:IntKind}(h:Has (.int k) ds):∃n,ds=[.int k n]:=by cases h;exact⟨_,rfl⟩
def vZ (h:Has (.struct []) ds):ds=[]:=by cases h;rfl
variable{ts:List Ty}
def Lr {t:Ty}(h:Has (.struct (t::ts)) ds):∃a b,ds=a++b/\Has t a/\Has (.struct ts) b:=by cases h with|cons h c=>exact⟨_,_,rfl,h,c⟩
def rQ {k:IntKind}(h:Has (.struct (.int k::ts)) ds):∃n b,ds= .int k n::b/\Has (.struct ts) b:=by
 obtain⟨a,b,rfl,h1,h2⟩:=Lr h;obtain⟨n,rfl⟩:=afg h1;exact⟨n,b,rfl,h2⟩
def ait {α:Type}{e:Ty}{dv:α->DV}:∀{xs:List DV},(∀x∈xs,∃a,x=dv a)->∃l:List α,xs=l.map dv
 | [],_=>⟨[],rfl⟩
 |x::xs,h=>by
  obtain⟨a,rfl⟩:=h x ao;obtain⟨l,rfl⟩:=ait (e:=e) fun y b=>h y (an _ b)
  exact⟨a::l,rfl⟩
variable{e:Ty}
def aju {α:Type}{dv:α->DV}(hd:∀x,Has e x.cells->Shp e x->∃a,x=dv a){ds:List DV}(h:Has (.slice e) ds):∃l:List α,ds=[.slice false (l.map dv)]:=by
 cases h with
 |slice h c=>
  rename_i xs
  obtain⟨l,rfl⟩:=ait (e:=e) fun x b=>hd x (h x b) (c x b)
  exact⟨l,rfl⟩
def Tq {α:Type}{dv:α->DV}(hd:∀x,Has e x.cells->Shp e x->∃a,x=dv a){ts:List Ty}{ds:List DV}(h:Has (.struct (.slice e::ts)) ds):∃(l:List α) (b:List DV),ds= .slice false (l.map dv)::b/\Has (.struct ts) b:=by
 obtain⟨a,b,rfl,h1,h2⟩:=Lr h;obtain⟨l,rfl⟩:=aju hd h1;exact⟨l,b,rfl,h2⟩
variable{xs:List DV}
def an1 {T:Ty}{Ts:List Ty}(h:Df (T::Ts) xs):∃x l,xs=x::l/\afV T x/\Df Ts l:=by
 cases xs with
 |nil=>exact h.elim
 |cons x l=>exact⟨x,l,rfl,h.1,h.2⟩
def ao2 (h:Df [] xs):xs=[]:=by
 cases xs with
 |nil=>rfl
 |cons x l=>exact h.elim
end Go.Am
namespace Go.Tel
open Go.Am
abbrev adw:Ty:= .struct [.int .i64, .int .i64]
abbrev adS:Ty:= .struct [.int .i64, .struct [.int .i64, .int .i64]]
abbrev X9:Ty:= .struct [.bool, .int .i64, .int .i64, .int .i64]
abbrev Ir:Ty:= .struct [.struct [.slice adS, .slice (.int .i64)], .slice adw, .int .i64, .struct [.int .i64, .slice (.int .i64)], .struct [.int .i64, .slice (.int .i64)], .struct [.int .i64, .int .i64, .int .i64], .slice X9, .int .i64, .int .i64, .int .i64, .int .i64, .int .i64]
abbrev Ad:Ty:= .struct [.int .i64, .slice (.int .i64)]
variable{ds:List DV}
def Tt {fs ts:List Ty}(h:Has (.struct (.struct fs::ts)) ds):∃a b,ds=a++b/\Has (.struct fs) a/\Has (.struct ts) b:=Lr h
def ajt (h:Has .bool ds):∃b,ds=[.bool b]:=by cases h;exact⟨_,rfl⟩
def Yd (x:DV)(h:Has (.int .i64) x.cells)(hs:Shp (.int .i64) x):∃n:Int,x=ay n:=by
 obtain⟨n,h⟩:=afg h;rw[hs.2 rfl]at h;exact⟨n,(List.cons.inj h).1⟩
def ao4 (x:DV)(h:Has adw x.cells)(hs:Shp adw x):∃p:Fr,x=p.dv:=by
 obtain⟨cs,rfl⟩:=hs.1 rfl;obtain⟨a,_,c,h1⟩:=rQ h;obtain⟨b,_,rfl,h2⟩:=rQ h1;obtain rfl:=vZ h2;exact⟨⟨a,b⟩,by rw[Fr.dv];exact congrArg DV.agg c⟩
def ao6 (x:DV)(h:Has adS x.cells)(hs:Shp adS x):∃p:Lk,x=p.dv:=by
 obtain⟨cs,rfl⟩:=hs.1 rfl;obtain⟨a,_,d,h1⟩:=rQ h;obtain⟨_,_,rfl,h2,e⟩:=Tt h1;obtain rfl:=vZ e;obtain⟨b,_,rfl,f⟩:=rQ h2;obtain⟨c,_,rfl,g⟩:=rQ f;obtain rfl:=vZ g;exact⟨⟨a,⟨b,c⟩⟩,by rw[Lk.dv];exact congrArg DV.agg d⟩
def ao5 (x:DV)(h:Has X9 x.cells)(hs:Shp X9 x):∃p:Fs,x=p.dv:=by
 obtain⟨cs,rfl⟩:=hs.1 rfl;obtain⟨_,_,e,f,h1⟩:=Lr h;obtain⟨a,rfl⟩:=ajt f;obtain⟨b,_,rfl,h2⟩:=rQ h1;obtain⟨c,_,rfl,g⟩:=rQ h2;obtain⟨d,_,rfl,i⟩:=rQ g;obtain rfl:=vZ i;exact⟨⟨a,b,c,d⟩,by rw[Fs.dv];exact congrArg DV.agg e⟩
def ao3 (x:DV)(h:Has Ad x.cells)(hs:Shp Ad x):∃p:En,x=p.dv:=by
 obtain⟨cs,rfl⟩:=hs.1 rfl;obtain⟨a,_,c,h1⟩:=rQ h;obtain⟨b,_,rfl,h2⟩:=Tq Yd h1;obtain rfl:=vZ h2;exact⟨⟨a,b⟩,by rw[En.dv];exact congrArg DV.agg c⟩
def auc (x:DV)(h:Has Ad x.cells)(hs:Shp Ad x):∃p:Qn,x=p.dv:=by
 obtain⟨cs,rfl⟩:=hs.1 rfl;obtain⟨a,_,c,h1⟩:=rQ h;obtain⟨b,_,rfl,h2⟩:=Tq Yd h1;obtain rfl:=vZ h2;exact⟨⟨a,b⟩,by rw[Qn.dv];exact congrArg DV.agg c⟩
variable{x:DV}
def awn (h:afV Ad x):∃p:En,x=p.dv:=ao3 x h.1 h.2
def aqp (h:afV (.slice Ad) x):∃l:List En,x= .slice false (l.map En.dv):=by
 obtain⟨l,h1⟩:=aju ao3 h.1;rw[h.2.2 rfl]at h1;exact⟨l,(List.cons.inj h1).1⟩
def aud (h:afV (.slice Ad) x):∃l:List Qn,x= .slice false (l.map Qn.dv):=by
 obtain⟨l,h1⟩:=aju auc h.1;rw[h.2.2 rfl]at h1;exact⟨l,(List.cons.inj h1).1⟩
def arn (h:afV Ir x):∃s:Su,x=s.dv:=by
 obtain⟨h,F⟩:=h;obtain⟨cs,rfl⟩:=F.1 rfl;obtain⟨_,_,u,h1,h2⟩:=Tt h;obtain⟨l,_,rfl,v⟩:=Tq ao6 h1;obtain⟨hd,_,rfl,w⟩:=Tq Yd v;obtain rfl:=vZ w;obtain⟨tg,_,rfl,z⟩:=Tq ao4 h2;obtain⟨lim,_,rfl,A⟩:=rQ z;obtain⟨_,_,rfl,B,C⟩:=Tt A;obtain⟨wo,_,rfl,D⟩:=rQ B;obtain⟨ci,_,rfl,a⟩:=Tq Yd D;obtain rfl:=vZ a;obtain⟨_,_,rfl,b,c⟩:=Tt C;obtain⟨ep,_,rfl,d⟩:=rQ b;obtain⟨cy,_,rfl,e⟩:=Tq Yd d;obtain rfl:=vZ e;obtain⟨_,_,rfl,f,g⟩:=Tt c;obtain⟨I,_,rfl,i⟩:=rQ f;obtain⟨H,_,rfl,j⟩:=rQ i;obtain⟨G,_,rfl,k⟩:=rQ j;obtain rfl:=vZ k;obtain⟨fs,_,rfl,m⟩:=Tq ao5 g;obtain⟨y,_,rfl,n⟩:=rQ m;obtain⟨t,_,rfl,o⟩:=rQ n;obtain⟨E,_,rfl,p⟩:=rQ o;obtain⟨K,_,rfl,q⟩:=rQ p;obtain⟨J,_,rfl,r⟩:=rQ q;obtain rfl:=vZ r;exact⟨⟨⟨l,hd⟩,tg,lim,⟨wo,ci⟩,⟨ep,cy⟩,⟨I,H,G⟩,fs,y,t,E,K,J⟩,by rw[gU];exact congrArg DV.agg u⟩
end Go.Tel
namespace Go.Am
section
variable {H:Type}{enc:TypeId×Value->H}{P:Program}{w:World}{base:Nat}{spare:Nat->Bool}{held:Bool}
def QK:∀{ts:List TypeId} {vs:List Value} {ds:List (DataW H)} {ps:List MemPlace},DataW.TrodAll enc P w base spare held ts vs ds ps->ds.length=ts.length
 | [],[],[],_,_=>rfl
 |t::ts,v::vs,d::ds,ps,h=>by
  obtain⟨p,q,_,h2,_⟩:=h;rw[ai,ai,QK h2]
 | [],_::_,_,_,h=>by cases h
 | [],[],_::_,_,h=>by cases h
 | _::_,[],_,_,h=>by cases h
 | _::_,_::_,[],_,h=>by cases h
end
def aqX {α:Type}{l:List α}(h:l.length=1):∃a,l=[a]:=List.length_eq_one_iff.1 h
def aq0 {α:Type}{l:List α}{n:Nat}(h:l.length=n+1):∃a r,l=a::r/\r.length=n:=by
 cases l with
 |nil=>cases h
 |cons a r=>exact⟨a,r,rfl,by simpa using h⟩
def aqY {α:Type}{l:List α}(h:l.length=2):∃a b,l=[a,b]:=by
 obtain⟨a,r,rfl,h1⟩:=aq0 h;obtain⟨b,rfl⟩:=aqX h1;exact⟨a,b,rfl⟩
def auf {α:Type}{l:List α}(h:l.length=3):∃a b c,l=[a,b,c]:=by
 obtain⟨a,r,rfl,h1⟩:=aq0 h;obtain⟨b,c,rfl⟩:=aqY h1;exact⟨a,b,c,rfl⟩
def awm {α:Type}{l:List α}(h:l.length=4):∃a b c d,l=[a,b,c,d]:=by
 obtain⟨a,r,rfl,h1⟩:=aq0 h;obtain⟨b,c,d,rfl⟩:=auf h1;exact⟨a,b,c,d,rfl⟩
variable{P:Program}{l:List (String×DataW Unit)}
def ajZ {w:World}(a:(l.filter fun x=>x.2.handleName?.isSome)=[])(h:laidMetH P l w):laidMet P l w:=by
 unfold laidMetH at h;rw[a]at h;exact h
def afQ {P:Program}{w:World}{n:String}{d:DataW Unit}:∀{l:List (String×DataW Unit)} {ps:List MemPlace},DataW.LaidVars P w l ps->(n,d)∈l->
  ∃g t cs a p,P.globalNamed n=some g/\(P.globals[g]?).map (·.type)=some t/\w.var? P n=some cs/\DataW.trod (fun _=>()) P w 0 (fun _=>true) false a t cs.toList=some (d,p)
 | [],_,_,h=>by cases h
 |(j,i)::l,ps,h,b=>by
  obtain⟨g,t,cs,a,p,q,h1,h2,c,e,f,_⟩:=h;cases b with
  |head=>exact⟨g,t,cs,a,p,h1,h2,c,e⟩
  |tail _ b=>exact afQ f b
def alp {W:World}{name:String}{k:IntKind}{zs:List Int}{g:Nat}{t e:TypeId}{n:Nat}
  (o:P.globalNamed name=some g)(i:(P.globals[g]?).map (·.type)=some t)(r:P.underlying t=some (.array n e))(m:P.underlying e=some (.int k))(b:P.cellsOf e=1)(c:P.cellsOf t=n)
  (h:laidMet P l W)(q:(name,Lib.tabData k zs)∈l):Lib.TabIs P W name k zs:=by
 obtain⟨v,s,_⟩:=h;obtain⟨u,w,cs,j,p,d,f,a,hd⟩:=afQ s q;obtain rfl:=Option.some.inj (o.symm.trans d);obtain rfl:=Option.some.inj (i.symm.trans f);unfold Lib.TabIs;rw[a,<-Lib.cells_of_tab r m b c hd]
end Go.Am
namespace Go.Tel
open Go.Am
def apE {W:World}(h:C.G W):∀b,C.low b->b<W.heap.size/\∀c T fz,W.heap[b]?=some (.cells c T fz)->∀(i:Nat) (n:Int),c[i]?≠some (.int .i64 n):=by
 intro b j;have e:Go.Proofs.Tryz.prog.globalNamed "internal/strconv.uint64pow10" =some b:=j;have a:W.var? Go.Proofs.Tryz.prog "internal/strconv.uint64pow10" =some (Go.Lib.pow10Tab.map fun z=>Value.int .u64 z).toArray:=h;unfold World.var? at a;rw[e]at a;simp only[ct]at a;cases f:W.heap[b]? with
 |none=>rw[f]at a;cases a
 |some o=>
  rw[f]at a;refine⟨dw f,fun c T fz k i n d=> ?_⟩;cases k;simp only[Option.some.injEq]at a;subst a;rw[List.getElem?_toArray,cL]at d;cases g:Go.Lib.pow10Tab[i]? with
  |none=>rw[g]at d;cases d
  |some z=>rw[g]at d;cases d
end Go.Tel
namespace Go.Proofs.YtbefoehadfnkbaaGreatDoor
open Go.ChangeShapes Go.WideShapes Go.RowKit Go.Am
def gG {a b:Bool}(c:a=true)(hb:b=true):(a&&b)=true:=by rw[c,hb];rfl
def own:ownKnob Tryz.prog.godebug=none:=by kernel_rfl
def laidOut:laidOutB Tryz.prog=true:=by kernel_rfl
def I4:List (String×DataW Unit):=Rows.journeymanWheelsRow.laid
def laid_met (os:Os)(args:Array Value):laidMet Tryz.prog I4 ((World.laidAll Tryz.prog os I4).forCall (fun _ _=>0) ⟨#[],args,[]⟩).memory:=
 laidMet_laidAll args (by kernel_rfl) (by kernel_rfl)
def ag7 (os:Os)(args:Array Value):laidMetH Tryz.prog I4 ((World.laidAll Tryz.prog os I4).forCall (fun _ _=>0) ⟨#[],args,[]⟩).memory:=
 laidMetH_of_parts (laid_met os args) (by kernel_rfl)
def alo:(Rows.laid_internal_strconv_uint64pow10:DataW Unit)=Lib.tabData .u64 Lib.pow10Tab:=rfl
def anM:("internal/strconv.uint64pow10",(Rows.laid_internal_strconv_uint64pow10:DataW Unit))∈I4:=List.Mem.tail _ (List.Mem.tail _ (List.Mem.head _))
def apY {W:World}(h:laidMetH Tryz.prog I4 W):Go.Tel.C.G W:=
 alp (P:=Tryz.prog) (g:=1) (t:=390) (e:=372) (n:=20) (by kernel_rfl) (by kernel_rfl) (by kernel_rfl) (by kernel_rfl) (by kernel_rfl) (by kernel_rfl) (ajZ (by kernel_rfl) h) (alo▸anM)
end Go.Proofs.YtbefoehadfnkbaaGreatDoor
