/-
  Part 8 of a law of desks.
  Conditions: none.
-/
import Derived.Test.YtbefoehadfnkbaaGreatDoorJourneymanPaidM04
import Derived.Test.YtbefoehadfnkbaaGreatDoorJourneymanPaidM07
set_option linter.all false
set_option maxRecDepth 10000
set_option maxHeartbeats 2000000
open Nat renaming reduceBEq->A,reduceAdd->B,reduceSub->F,reduceEqDiff->H,reduceLT->I,reduceLeDiff->J,zero_le->Y,gcd->a8,div_mul_cancel->bc,le_refl->bd,mul_div_mul_right->bN,gcd_dvd_right->ce,le_trans->cf,gcd_dvd_left->cj,div_le_self->cq,mul_le_mul->cw,gcd_comm->cE,mul_comm->cF
open List renaming length_map->L,getD_eq_getElem?_getD->Q,drop_length->Z,map_append->an,mem_map->ao,map_cons->ap,all_eq_true->aq,getD_cons_succ->ax,mem_cons->aD,mem_of_mem_take->aE,perm_append_singleton->aL,cons_append->aM,length_take->aR,getElem?_append_left->a6,getD_cons_zero->a7,not_mem_nil->be,take_length->bh,all_cons->bj,take_append_of_le_length->bk,foldl_cons->bl,getElem?_range->bo,take_succ_cons->bp,all_nil->bq,length_append->bs,mem_singleton->bt,pairwise_cons->bu,range->bv,getElem?_map->bz,length_singleton->bL,pairwise_append->bO,map_drop->bS,any_eq_false->b7,filter_congr->b8,foldl_append->b9,map_nil->ca,mem_range'_1->cb,filter_cons->cg,length_cons->ch,range'->cl,nil_append->cm,nodup_cons->cn,range_succ->cp,foldl_nil->cv
open Int renaming toNat_natCast->O,lt_irrefl->X,mul_le_mul->ab,tmod_eq_emod_of_nonneg->ae,mul_nonneg->am,lt_of_mul_lt_mul_right->av,mul_le_mul_of_nonneg_right->az,natAbs_mul->br,add_mul->bw,le_refl->ck,ofNat_tdiv->ct,add_assoc->cB,mul_assoc->cC
open Bool renaming and_eq_true->U,false_and->V,true_and->W,and_false->ai,and_eq_false_iff->aw,and_true->bi,eq_iff_iff->bB,not_eq_eq_eq_not->bE,and_self->bR,false_eq_true->bX,not_eq_true'->b0,not_false->cr,false_or->cz,not_true->cA,true_or->cD
open Option renaming getD_some->bA
open Go.IntKind renaming wrap->cG
namespace Go.Tel
open Go.Am
def MB:aA:=(sr [mf 0 false] 0 [] (sr [on 4 (.aj 68) [],oc 5 (.aj 40) 4 (.c (.str ⟨#[104,97,110,100,115,10,111,114,100,101,114,32,48,32,50,32,53,10,111,114,100,101,114,32,48,32,49,32,50,10,110,101,101,100,32,48,32,49,48,32,50,48,10,110,101,101,100,32,49,32,49,48,32,50,48,10,99,104,97,110,103,101,32,49,32,49,50,32,49,53,10,99,117,116,32,51,55,10,99,117,116,32,49,53,10,115,116,111,99,107,10,99,104,97,110,103,101,32,49,32,49,50,32,49,53,10,115,116,111,99,107,10,112,114,105,99,101,32,48,10,115,101,114,118,101,32,48,32,53,54,10,115,101,114,118,101,32,48,32,53,55,10,111,112,101,110,10,99,111,105,110,115,10,111,102,102,32,49,32,57,10,111,102,102,32,49,32,49,48,10,119,114,111,110,103,10,115,101,116,32,54,10,115,101,116,32,57,10,115,101,116,32,56,10,115,101,116,32,56,10,119,111,114,107,115,32,57,10,100,97,116,101,32,52,48,10,119,114,111,110,103,10,99,117,116,115,32,51,54,10,115,116,114,105,107,101,32,49,10,115,116,114,105,107,101,32,52,10,115,116,114,105,107,101,32,51,10,99,111,105,110,115,10,111,112,101,110,10,115,116,97,110,100,115,10,115,116,114,105,107,101,32,48,10,115,116,114,105,107,101,32,57,10,115,101,114,118,101,32,48,10]⟩)),mv 3 5,xa 6 0 3,xa 7 1 3,mv 1 6,mv 2 7] 0 [1,2] (sr [mv 8 2,oi 9 pE 8 0,mv 10 9,ov 11 .mov 1 10 0,ot 12 pE [.t 11,.c (.str ⟨#[49,32,51,32,51,32,52,10,110,111,116,101,100,10,101,114,114,111,114,32,55,10,49,32,49,50,32,49,53,10,101,114,114,111,114,32,55,10,101,114,114,111,114,32,55,10,101,114,114,111,114,32,55,10,110,111,116,101,100,10,49,53,10,110,111,116,101,100,10,49,56,10,53,55,10,101,114,114,111,114,32,55,10,110,111,116,101,100,10,110,111,116,104,105,110,103,10,53,55,10,57,55,10,49,48,56,10,51,53,54,10,101,114,114,111,114,32,55,10,101,114,114,111,114,32,55,10,110,111,116,101,100,10,101,114,114,111,114,32,55,10,49,48,10,50,32,57,10,51,52,56,10,50,32,49,32,51,10,101,114,114,111,114,32,55,10,110,111,116,101,100,10,110,111,116,101,100,10,48,10,48,32,50,32,53,10,48,32,49,32,50,10,101,114,114,111,114,32,55,10,101,114,114,111,114,32,50,10,101,114,114,111,114,32,52,10]⟩)] 10 0,pf 13 10 12,mv 0 13] 0 [0] .ret)))
def YB:aC C.P 19 0 MB akT=true:=by kernel_rfl
def Je:aA:=(sw (r0 [ba 2 0 0,mk 4 (.c (.nilPtr)),al 5 1 [zs,zs,zs,z0,z0,zs,z0,zs,z0,z0,z0,zs,z0,z0,z0,z0,z0,zs,zs]] 2 [1,2,5] [2]) (sr [lw 11 17 2,oa 12 (.build [zs,zs,zs,z0,z0,zs,z0,zs,z0,z0,z0,zs,z0,z0,z0,z0,z0,zs,zs] [(0,17)]) 11,al 6 0 [zs,zs,zs,z0,z0,zs,z0,zs,z0,z0,z0,zs,z0,z0,z0,z0,z0,zs,zs],sk 19 6 12 0] 1 [1,2,5,6] (sr [lw 14 17 2,oa 15 (.call 36) 14,mv 13 15,xa 16 0 13,xa 17 1 13,mv 7 16,mv 8 17] 0 [1,5,6,7,8] (sw (sr [mv 18 8,oi 19 pQ 18 0,mv 20 19,ow 21 .mov 7 20 0,oF 22 (.tJ false) [.t 21,.c (.nilPtr)] 20 0,pt 23 20 22] 0 [1,5,6,7,23] (cd 23 (sw (r1 [ou 24 (.load true 19) 6 2,mk 4 (.c (.nilPtr)),sk 19 5 24 0] 0 [4,5] []) .ret) .skip)) (sw (sr [mi 9 0] 0 [1,5,6,7,9] (.block 0 (.loop (sw (sr [mv 25 9,mv 26 1,oa 27 .len 26,ob 28 pL 25 27] 0 [1,5,6,7,9,28] (cx 28 0)) (sw (.block 1 (sw (r1 [ou 31 (.load true 19) 6 2,mv 32 1,mv 33 9,ob1 34 (.aZ 2) 32 33 1,ou 35 (.load true 2) 34 1,ob 36 (.aj 50) 31 35,mv 10 36] 0 [1,5,6,7,9,10] []) (sw (sr [mv 37 7,mv 38 1,mv 39 9,ix 40 2 38 39,lw 41 2 40,ob 42 (.call 38) 37 41,mv 43 10,ob 44 pQ 42 43] 0 [1,5,6,7,9,10,44] (cd 44 (sw (r1 [ou 45 (.load true 19) 6 2,mk 4 (.c (.nilPtr)),sk 19 5 45 0] 0 [4,5] []) .ret) .skip)) (sr [mv 46 10,oi 47 pE 46 0] 0 [1,5,6,7,9,47] (cd 47 (r1 [ou 48 (.load true 19) 6 2,mv 49 1,mv 50 9,ob1 51 (.aZ 2) 49 50 1,ou 52 (.load true 2) 51 1,ob 53 (.aj 51) 48 52,sk 19 6 53 0] 0 [1,5,6,7,9] []) .skip))))) (rg [mv 29 9,oi 30 pA 29 1,mv 9 30] 0 [1,5,6,7,9])))))) (sw (r1 [mv 54 7,ou 55 (.load true 19) 6 2,mv 4 54,sk 19 5 55 0] 0 [4,5] []) .ret))))))
def VP:aC C.P 20 2 Je akU=true:=by kernel_rfl
def MC:aA:=(sw (r0 [ba 2 0 0,al 4 1 [zs,zs]] 2 [1,2,4] [2]) (sr [fa 8 0 2,lw 9 2 8,al 5 0 [zs,zs],sk 2 5 9 0] 1 [1,4,5] (sw (sr [mi 6 0] 0 [1,4,5,6] (.block 0 (.loop (sw (sr [mv 10 6,mv 11 1,oa 12 .len 11,ob 13 pL 10 12] 0 [1,4,5,6,13] (cx 13 0)) (sw (.block 1 (sr [mv 16 1,mv 17 6,ix 18 2 16 17,fa 19 1 18,lo 20 19,mv 7 20] 0 [1,4,5,6,7] (sr [mv 21 1,mv 22 6,ix 23 2 21 22,fa 24 0 23,lo 25 24,oi 26 pE 25 2] 0 [1,4,5,6,7,26] (cd 26 (r1 [ou 27 (.load true 2) 5 2,mv 28 7,of 29 (.aZ 1) [.t 28,kI 0] 1,lv 30 29,mv 31 7,of 32 (.aZ 1) [.t 31,kI 1] 1,lv 33 32,mv 34 7,of 35 (.aZ 1) [.t 34,kI 2] 1,lv 36 35,ob 37 (.build [z0,z0] [(0,1),(1,1)]) 33 36,ob 38 (.build [z0,z0,z0] [(0,1),(1,2)]) 30 37,ob 39 (.aj 88) 27 38,sk 2 5 39 0] 0 [1,4,5,6] []) .skip)))) (rg [mv 14 6,oi 15 pA 14 1,mv 6 15] 0 [1,4,5,6])))))) (sr [lw 40 2 5,sk 2 4 40 0] 0 [4] .ret))))
def YC:aC C.P 25 2 MC yg=true:=by kernel_rfl
def MF:aA:=(sw (r0 [ba 1 0 0,mf 2 false] 1 [1] [1]) (sr [fa 3 0 1,fa 4 0 3,lo 5 4,oa 6 .len 5,oi 7 (.bin .leq) 6 7,mv 8 7,ov 9 (.fld 0) 1 8 0,ov 10 (.fld 1) 9 8 0,ov 11 (.load false 1) 10 8 0,ov 12 .len 11 8 0,ot 13 (.bin .leq) [.t 12,kI 6] 8 0,pf 14 8 13,mv 15 14,ov 16 (.fld 2) 1 15 0,ov 17 (.load false 1) 16 15 0,ov 18 .len 17 15 0,ot 19 (.bin .leq) [.t 18,kI 6] 15 0,pf 20 15 19,mv 21 20,ov 22 (.fld 4) 1 21 0,ov 23 (.fld 1) 22 21 0,ov 24 (.load false 1) 23 21 0,ov 25 .len 24 21 0,ot 26 (.bin .leq) [.t 25,kI 8] 21 0,pf 27 21 26,mv 28 27,ov 29 (.fld 6) 1 28 0,ov 30 (.fld 1) 29 28 0,ov 31 (.load false 1) 30 28 0,ov 32 .len 31 28 0,ot 33 (.bin .leq) [.t 32,kI 5] 28 0,pf 34 28 33,mv 35 34,ov 36 (.fld 11) 1 35 0,ov 37 (.load false 1) 36 35 0,ov 38 .len 37 35 0,ot 39 (.bin .leq) [.t 38,kI 8] 35 0,pf 40 35 39,mv 2 40] 0 [2] .ret))
def YD:aC C.P 39 1 MF aK=true:=by kernel_rfl
def Md:aA:=(sr [al 0 0 [zs,zs,zs,z0,z0,zs,z0,zs,z0,z0,z0,zs,z0,z0,z0,z0,z0]] 1 [0] (sr [on 1 (.aj 158) [],on 2 (.build [z0,z0] [(0,1),(1,1)]) [kI 1,kI 3],on 3 (.build [z0,z0] [(0,1),(1,1)]) [kI 1499,kI 2000],ob 4 (.gu 2 [.agg [z0,z0],.agg [z0,z0]] [0,1]) 2 3,on 5 (.aj 159) [],on 6 (.aj 160) [],on 7 (.aj 161) [],on 8 (.build [.bool false,z0,z0,z0] [(0,1)]) [.c (.bool true)],on 9 (.build [.bool false,z0,z0,z0] [(1,1),(2,1)]) [kI 1,kI 6],ob 10 (.gu 4 [.agg [.bool false,z0,z0,z0],.agg [.bool false,z0,z0,z0]] [0,1]) 8 9,on 11 (.build [zs,zs,zs,z0,z0,zs,z0,zs,z0,z0,z0,zs,z0,z0,z0,z0,z0] [(0,2),(2,1),(3,1),(4,2),(6,2),(8,3),(11,1),(12,1),(13,1),(14,1),(15,1),(16,1)]) [.t 1,.t 4,kI 100,.t 5,.t 6,.t 7,.t 10,kI 1,kI 3,kI 6,kI 4,kI 10],sk 17 0 11 0] 0 [0] .ret))
def Yz:aC C.P 68 0 Md akV=true:=by kernel_rfl
def abz:aA:=(sr [al 0 0 [zs,zs]] 1 [0] (sr [on 1 (.aj 238) [kI 10,kI 20],oa 2 (.build [z0,z0,z0] [(1,2)]) 1,on 3 (.aj 238) [kI 12,kI 18],on 4 (.build [z0,z0,z0] [(0,1),(1,2)]) [kI 1,.t 3],on 5 (.aj 238) [kI 15,kI 10],on 6 (.build [z0,z0,z0] [(0,1),(1,2)]) [kI 1,.t 5],on 7 (.gu 3 [.agg [z0,z0,z0],.agg [z0,z0,z0],.agg [z0,z0,z0]] [0,1,2]) [.t 2,.t 4,.t 6],on 8 (.gu 1 [z0,z0] [0,1]) [kI 2,kI 3],ob 9 (.build [zs,zs] [(0,1),(1,1)]) 7 8,sk 2 0 9 0] 0 [0] .ret))
def akc:aC C.P 158 0 abz OV=true:=by kernel_rfl
def aby:aA:=(sr [al 0 0 [z0,zs]] 1 [0] (sr [on 1 (.gu 1 [z0] [0]) [kI 4],oa 2 (.build [z0,zs] [(1,1)]) 1,sk 2 0 2 0] 0 [0] .ret))
def akb:aC C.P 160 0 aby OV=true:=by kernel_rfl
def abx:aA:=(sr [al 0 0 [z0,z0,z0]] 1 [0] (sr [on 1 (.build [z0,z0,z0] [(0,1),(1,1)]) [kI 59,kI 2],sk 3 0 1 0] 0 [0] .ret))
def aj9:aC C.P 161 0 abx akW=true:=by kernel_rfl
def PZ:aA:=(sr [al 4 0 [z0,z0]] 1 [0,1,4] (sr [mv 5 0,mv 6 1,ob 7 (.build [z0,z0] [(0,1),(1,1)]) 5 6,sk 2 4 7 0] 0 [4] .ret))
def aaY:aC C.P 238 2 PZ yg=true:=by kernel_rfl
def abA:aA:=(sr [al 0 0 [z0,zs]] 1 [0] (sr [on 1 (.gu 1 [z0,z0,z0] [0,1,2]) [kI 15,kI 21,kI 27],on 2 (.build [z0,zs] [(0,1),(1,1)]) [kI 40,.t 1],sk 2 0 2 0] 0 [0] .ret))
def akd:aC C.P 159 0 abA OV=true:=by kernel_rfl
end Go.Tel
namespace Go.Tel
open Go.Am
def JY {base sz:Nat}{zs:List DV}{a:List Nat}{args:List PV}{ds xs:List DV}{M:Mem}{K:PV->Mem->Prop}{KP:DV->Mem->Prop}(h1:dF M args=some ds)(h2:wI sz zs a (ds.map DV.strip)=some xs)(b:M.frz args=M)(c:K (.d (.slice true xs)) M):au C base (.gu sz zs a) args M K KP:=by
 simp only[au,h1,h2,b];exact c
def aej (a b:Int):Pure C 238 [dI a,dI b] (.d (.agg [dI a,dI b])) []:=by
 refine ah mixed rfl aaY ?_;simp only[PZ,yg,lu,RN,A,B,F,H,I,J]
def P_k:Pure C 158 [] (.d (.agg [.slice true (aU.pc.links.map Lk.dv), .slice true (aU.pc.hands.map ay)])) []:=by
 refine ah mixed rfl akc ?_;simp only[abz,OV,lu,RN,A,B,F,H,I,J];refine ak rfl rfl (aej 10 20) ?_;(try simp only[RN,A,B,F,H,I,J]);refine ak rfl rfl (aej 12 18) ?_;(try simp only[RN,A,B,F,H,I,J]);refine ak rfl rfl (aej 15 10) ?_;(try simp only[RN,A,B,F,H,I,J]);refine JY rfl rfl rfl ?_;(try simp only[RN,A,B,F,H,I,J]);refine JY rfl rfl rfl ?_;simp only[lu,RN,A,B,F,H,I,J]
 rfl
def O_k:Pure C 160 [] (.d (.agg [dI 0, .slice true [dI 4]])) []:=by
 refine ah mixed rfl akb ?_;simp only[aby,OV,lu,RN,A,B,F,H,I,J];exact⟨rfl,rfl⟩
def M_k:Pure C 161 [] (.d (.agg [dI 59,dI 2,dI 0])) []:=by
 refine ah mixed rfl aj9 ?_;simp only[abx,akW,lu,RN,A,B,F,H,I,J]
def D_k:Pure C 159 [] (.d (.agg [dI 40, .slice true [dI 15,dI 21,dI 27]])) []:=by
 refine ah mixed rfl akd ?_;simp only[abA,OV,RN,A,B,F,H,I,J];refine JY rfl rfl rfl ?_;simp only[lu,RN,A,B,F,H,I,J]
 rfl
def anJ:DV:= .agg [.slice true (aU.pc.links.map Lk.dv), .slice true (aU.pc.hands.map ay), .slice true (aU.tg.map Fr.dv),dI 100,dI 40, .slice true (aU.dvd.cir.map ay),dI 0, .slice true (aU.cal.cy.map ay),dI 59,dI 2,dI 0, .slice true (aU.fs.map Fs.dv),dI 1,dI 3,dI 6,dI 4,dI 10]
def alJ:Pure C 68 [] (.d anJ) []:=by
 refine ah mixed rfl Yz ?_;simp only[Md,akV,RN,A,B,F,H,I,J];refine ak rfl rfl P_k ?_;(try simp only[RN,A,B,F,H,I,J]);refine JY rfl rfl rfl ?_;(try simp only[RN,A,B,F,H,I,J]);refine ak rfl rfl D_k ?_;(try simp only[RN,A,B,F,H,I,J]);refine ak rfl rfl O_k ?_;(try simp only[RN,A,B,F,H,I,J]);refine ak rfl rfl M_k ?_;(try simp only[RN,A,B,F,H,I,J]);refine JY rfl rfl rfl ?_;simp only[lu,RN,A,B,F,H,I,J]
 rfl
def Zo:aU.Small:=⟨by decide,by decide,by decide,by decide,by decide⟩
def Ry:Pure C 19 [] (.d (.bool true)) []:=by
 refine ah mixed rfl YB ?_;simp only[MB,akT,RN,A,B,F,H,I,J];refine ak rfl rfl alJ ?_;(try simp only[RN,A,B,F,H,I,J]);refine ak rfl rfl (afU aU Zo (by kernel_rfl) (by decide:Zf.size<=1500) (by kernel_rfl) aqW) ?_;have b:(KT.toList==KT.toList)=true:=beq_self_eq_true _;have a:(.str ⟨#[49,32,51,32,51,32,52,10,110,111,116,101,100,10,101,114,114,111,114,32,55,10,49,32,49,50,32,49,53,10,101,114,114,111,114,32,55,10,101,114,114,111,114,32,55,10,101,114,114,111,114,32,55,10,110,111,116,101,100,10,49,53,10,110,111,116,101,100,10,49,56,10,53,55,10,101,114,114,111,114,32,55,10,110,111,116,101,100,10,110,111,116,104,105,110,103,10,53,55,10,57,55,10,49,48,56,10,51,53,54,10,101,114,114,111,114,32,55,10,101,114,114,111,114,32,55,10,110,111,116,101,100,10,101,114,114,111,114,32,55,10,49,48,10,50,32,57,10,51,52,56,10,50,32,49,32,51,10,101,114,114,111,114,32,55,10,110,111,116,101,100,10,110,111,116,101,100,10,48,10,48,32,50,32,53,10,48,32,49,32,50,10,101,114,114,111,114,32,55,10,101,114,114,111,114,32,50,10,101,114,114,111,114,32,52,10]⟩:DV)= .str KT:=rfl;simp only[z1,oD,RJ,a,b,RN,A,B,F,H,I,J]
def MX:aA:=(sw (r0 [ba 1 0 0,mf 2 false] 1 [1] [1]) (sw (sr [fa 4 0 1,lw 5 2 4,oa 6 (.aj 58) 5,oa 7 pN 6,mv 8 7,ow 9 (.fld 2) 1 8 0,lq 10 9 8,ow 11 .len 10 8 0,ow 12 (.fld 0) 1 8 0,ow 13 (.fld 1) 12 8 0,lq 14 13 8,ow 15 .len 14 8 0,obF 16 pQ 11 15 8 0,pt 17 8 16,mv 18 17,ow 19 (.fld 3) 1 18 0,lq 20 19 18,ow 21 (.aj 59) 20 18 0,ow 22 pN 21 18 0,pt 23 18 22,mv 24 23,ow 25 (.fld 4) 1 24 0,ow 26 (.load true 2) 25 24 0,ow 27 (.aj 60) 26 24 0,ow 28 pN 27 24 0,pt 29 24 28] 0 [1,29] (cd 29 (sr [mf 2 false] 0 [2] .ret) .skip)) (sw (sr [mi 3 0] 0 [1,3] (.block 0 (.loop (sw (sr [mv 30 3,fa 31 2 1,lo 32 31,oa 33 .len 32,ob 34 pL 30 33] 0 [1,3,34] (cx 34 0)) (sw (.block 1 (sr [fa 37 2 1,lo 38 37,mv 39 3,ix 40 2 38 39,lw 41 2 40,oa 42 (.aj 61) 41,oa 43 pN 42] 0 [1,3,43] (cd 43 (sr [mf 2 false] 0 [2] .ret) .skip))) (rg [mv 35 3,oi 36 pA 35 1,mv 3 36] 0 [1,3])))))) (sr [fa 44 6 1,lw 45 2 44,oa 46 (.aj 62) 45,mv 47 46,ov 48 (.fld 8) 1 47 0,ov 49 (.load true 3) 48 47 0,ov 50 (.aj 63) 49 47 0,pf 51 47 50,mv 52 51,ov 53 (.fld 11) 1 52 0,ov 54 (.load false 1) 53 52 0,ov 55 (.aj 64) 54 52 0,pf 56 52 55,mv 57 56,ov 58 (.fld 12) 1 57 0,ov 59 (.load false 1) 58 57 0,ov 60 (.aj 65) 59 57 0,pf 61 57 60,mv 62 61,ov 63 (.load true 17) 1 62 0,ot 64 (.aj 67) [.t 63,.c (.slice true [])] 62 0,ov 65 (.aj 66) 64 62 0,pf 66 62 65,mv 2 66] 0 [2] .ret))))
def YT:aC C.P 18 1 MX aK=true:=by kernel_rfl
def wV:aA:=(sw (r0 [ba 2 0 0,ag 4 2] 1 [1,2] [2]) (sr [ag 5 2] 0 [1,2,5] (sr [lw 8 19 2,oa 9 (.aj 37) 8,mv 6 9] 0 [1,2,5,6] (sw (sr [mi 7 0] 0 [1,2,5,6,7] (.block 0 (.loop (sw (sr [mv 10 7,mv 11 6,oa 12 .len 11,ob 13 pL 10 12] 0 [1,2,5,6,7,13] (cx 13 0)) (sw (.block 1 (sr [mv 16 6,mv 17 7,ix 18 1 16 17,lo 19 18,mv 20 1,ob 21 pQ 19 20] 0 [1,2,5,6,7,21] (cd 21 (r1 [mv 22 5,fu 23 17 2 1,lv 24 23,mv 25 6,mv 26 7,ob1 27 (.aZ 1) 25 26 1,lv 28 27,ob1 29 (.aZ 2) 24 28 1,ou 30 (.load true 2) 29 1,ou 31 (.gu 2 [.agg [z0,zs]] [0]) 30 1,ob 32 (.app 2 false) 22 31,mv 5 32] 0 [1,2,5,6,7] []) .skip))) (rg [mv 14 7,oi 15 pA 14 1,mv 7 15] 0 [1,2,5,6,7])))))) (sr [mv 33 5,mv 4 33] 0 [4] .ret)))))
def Gi:aC C.P 22 2 wV aJ=true:=by kernel_rfl
def Qi:aA:=(sr [mf 4 false] 0 [0,1] (sr [mv 5 0,mv 6 1,ob 7 (.aj 87) 5 6,mv 4 7] 0 [4] .ret))
def abd:aC C.P 23 2 Qi aJ=true:=by kernel_rfl
def zk:aA:=(sw (r0 [ba 1 0 0,ag 2 1] 1 [1] [1]) (sr [ag 3 1] 0 [1,3] (sw (sr [mi 4 0] 0 [1,3,4] (.block 0 (.loop (sw (sr [mv 5 4,fa 6 17 1,lo 7 6,oa 8 .len 7,ob 9 pL 5 8] 0 [1,3,4,9] (cx 9 0)) (sw (.block 1 (sr [fa 12 17 1,lo 13 12,mv 14 4,ix 15 2 13 14,fa 16 0 15,lo 17 16,oi 18 pQ 17 6,mv 19 18,ov 20 (.fld 18) 1 19 0,ov 21 (.load false 1) 20 19 0,ov 22 .mov 4 19 0,obT 23 (.aZ 1) 21 22 19 0,ov 24 (.load false 1) 23 19 0,ov 25 pN 24 19 0,pf 26 19 25] 0 [1,3,4,26] (cd 26 (rg [mv 27 3,mv 28 4,oa 29 (.gu 1 [z0] [0]) 28,ob 30 (.app 1 false) 27 29,mv 3 30] 0 [1,3,4]) .skip))) (rg [mv 10 4,oi 11 pA 10 1,mv 4 11] 0 [1,3,4])))))) (sr [mv 31 3,mv 2 31] 0 [2] .ret))))
def Ko:aC C.P 37 1 zk aK=true:=by kernel_rfl
def Jk:aA:=(sw (r0 [ba 1 0 0,mf 2 false] 1 [1] [1]) (sw (sw (r1 [fu 4 1 1 1,lv 5 4,ou 6 .len 5 1,fu 7 0 1 1,lv 8 7,oa 9 (.aj 123) 8,ob 10 pQ 6 9] 0 [1,10] []) (cd 10 (sr [mf 2 false] 0 [2] .ret) .skip)) (sw (sr [mi 3 0] 0 [1,3] (.block 0 (.loop (sw (sr [mv 11 3,fa 12 1 1,lo 13 12,oa 14 .len 13,ob 15 pL 11 14] 0 [1,3,15] (cx 15 0)) (sw (.block 1 (sr [fa 18 1 1,lo 19 18,mv 20 3,ix 21 1 19 20,lo 22 21,on 23 (.aj 124) [.t 22,kI 0,kI 9999],oa 24 pN 23] 0 [1,3,24] (cd 24 (sr [mf 2 false] 0 [2] .ret) .skip))) (rg [mv 16 3,oi 17 pA 16 1,mv 3 17] 0 [1,3])))))) (sr [mf 2 true] 0 [2] .ret))))
def VX:aC C.P 43 1 Jk aK=true:=by kernel_rfl
def CG:aA:=(sw (r0 [ba 2 0 0,ba 3 1 1,mi 4 0] 2 [2,3] [2,3]) (sw (sr [lw 6 2 3,oa 7 (.aj 43) 6,oa 8 pN 7] 0 [2,3,8] (cd 8 (sr [mi 4 2] 0 [4] .ret) .skip)) (sw (sr [fa 9 17 2,lo 10 9,oa 11 .len 10,oi 12 (.bin .geq) 11 24] 0 [2,3,12] (cd 12 (sr [mi 4 3] 0 [4] .ret) .skip)) (sw (sr [fa 13 0 3,lo 14 13,oi 15 pE 14 6] 0 [2,3,15] (cd 15 (sr [fa 16 1 3,lo 17 16,oi 18 (.aZ 1) 17 0,lo 19 18,mv 5 19] 0 [2,5] (sw (sr [mv 20 5,fa 21 17 2,lo 22 21,oa 23 .len 22,ob 24 (.bin .geq) 20 23,mv 25 24,ow 26 (.fld 17) 2 25 0,lq 27 26 25,ow 28 .mov 5 25 0,obF 29 (.aZ 2) 27 28 25 0,ow 30 (.fld 0) 29 25 0,lq 31 30 25,oF 32 pE [.t 31,kI 6] 25 0,pt 33 25 32] 0 [2,5,33] (cd 33 (sr [mi 4 2] 0 [4] .ret) .skip)) (sw (sw (r1 [fu 34 18 2 1,lv 35 34,mv 36 5,ob1 37 (.aZ 1) 35 36 1,lv 38 37,mv 39 38,ow 40 (.fld 0) 2 39 1,ow 41 (.load true 17) 40 39 1,ow 42 (.load true 19) 2 39 1,ow 43 .mov 5 39 0,obF 44 (.aj 22) 42 43 39 0,obF 45 (.aj 131) 41 44 39 0,ow 46 pN 45 39 0,pt 47 39 46] 0 [47] []) (cd 47 (sr [mi 4 7] 0 [4] .ret) .skip)) (sr [mi 4 0] 0 [4] .ret)))) .skip)) (sw (sr [fa 48 0 2,lw 49 17 48,lw 50 2 3,ob 51 (.aj 132) 49 50,oa 52 pN 51] 0 [2,3,52] (cd 52 (sr [mi 4 2] 0 [4] .ret) .skip)) (sw (sw (r1 [fu 53 0 2 1,ou 54 (.load true 17) 53 1,ou 55 (.load true 19) 2 1,oi 56 (.aj 22) 55 (-1),ou 57 (.load true 2) 3 1,on 58 (.aj 133) [.t 54,.t 56,.t 57],oa 59 pN 58] 0 [59] []) (cd 59 (sr [mi 4 7] 0 [4] .ret) .skip)) (sr [mi 4 0] 0 [4] .ret)))))))
def Ov:aC C.P 50 2 CG aJ=true:=by kernel_rfl
def CJ:aA:=(sw (r0 [ba 2 0 0,ba 3 1 1,al 4 2 [zs,zs,zs,z0,z0,zs,z0,zs,z0,z0,z0,zs,z0,z0,z0,z0,z0,zs,zs]] 3 [2,3,4] [2,3]) (sr [fa 6 0 2,lw 7 17 6,oa 8 (.build [zs,zs,zs,z0,z0,zs,z0,zs,z0,z0,z0,zs,z0,z0,z0,z0,z0,zs,zs] [(0,17)]) 7,al 5 0 [zs,zs,zs,z0,z0,zs,z0,zs,z0,z0,z0,zs,z0,z0,z0,z0,z0,zs,zs],sk 19 5 8 0] 1 [2,3,4,5] (sw (r1 [fu 9 17 2 1,lv 10 9,on 11 (.app 2 false) [.c (.slice true []),.t 10],fu 12 0 3 1,lv 13 12,fu 14 1 3 1,lv 15 14,on 16 (.ZA 1) [.c (.slice true []),.t 15],ob 17 (.build [z0,zs] [(0,1),(1,1)]) 13 16,ou 18 (.gu 2 [.agg [z0,zs]] [0]) 17 1,ob 19 (.app 2 false) 11 18,fu 20 17 5 2,sk 1 20 19 0] 0 [2,3,4,5] []) (sr [fa 21 18 2,lo 22 21,on 23 (.app 1 false) [.c (.slice true []),.t 22],on 24 (.gu 1 [.bool false] [0]) [.c (.bool false)],ob 25 (.app 1 true) 23 24,fa 26 18 5,sk 1 26 25 0] 0 [3,4,5] (sw (sr [fa 27 0 3,lo 28 27,oi 29 pE 28 6] 0 [3,4,5,29] (cd 29 (r1 [fu 30 18 5 2,ou 31 (.load false 1) 30 2,fu 32 1 3 1,lv 33 32,of 34 (.aZ 1) [.t 33,kI 0] 1,lv 35 34,ix 36 1 31 35,os (.store 1) [.t 36,.c (.bool true)] 3] 0 [4,5] []) .skip)) (sr [lw 37 19 5,sk 19 4 37 0] 0 [4] .ret))))))
def Ox:aC C.P 51 2 CJ akX=true:=by kernel_rfl
def Qj:aA:=(sw (r0 [ba 2 0 0,al 4 1 [zs,z0,z0,z0,z0,z0]] 2 [1,2,4] [2]) (sr [mv 5 1,fa 6 13 2,lo 7 6,fa 8 14 2,lo 9 8,fa 10 15 2,lo 11 10,fa 12 16 2,lo 13 12,on 14 (.build [zs,z0,z0,z0,z0,z0] [(0,1),(1,1),(2,1),(3,1),(4,1)]) [.t 5,.t 7,.t 9,.t 11,.t 13],sk 6 4 14 0] 0 [4] .ret))
def abe:aC C.P 67 2 Qj akY=true:=by kernel_rfl
def Qm:aA:=(sr [mi 2 0] 0 [0] (sw (sr [mv 3 0] 0 [3] (.block 0 (sw (sr [oi 5 pE 3 1,mv 4 5] 0 [3,4] (cd 4 .skip (sr [oi 6 pE 3 5,mv 4 6] 0 [3,4] (cd 4 .skip (rg [oi 7 pE 3 6,mv 4 7] 0 [3,4]))))) (cd 4 (sr [mi 2 1] 0 [2] .ret) (sr [oi 9 pE 3 4,mv 8 9] 0 [3,8] (cd 8 (sr [mi 2 2] 0 [2] .ret) (sw (sr [oi 11 pE 3 2,mv 10 11] 0 [3,10] (cd 10 .skip (rg [oi 12 pE 3 3,mv 10 12] 0 [10]))) (cd 10 (sr [mi 2 3] 0 [2] .ret) .skip)))))))) (sr [mi 2 (-1)] 0 [2] .ret)))
def abh:aC C.P 123 1 Qm aK=true:=by kernel_rfl
def Xi:aA:=(sr [mf 6 false] 0 [0,1,2] (sr [mv 7 0,mv 8 1,ob 9 (.bin .geq) 7 8,mv 10 9,ov 11 .mov 0 10 0,ov 12 .mov 2 10 0,obT 13 (.bin .leq) 11 12 10 0,pf 14 10 13,mv 6 14] 0 [6] .ret))
def ahn:aC C.P 124 3 Xi jr=true:=by kernel_rfl
def Nb:aA:=(sw (r0 [ba 2 0 0,mf 4 false] 1 [1,2] [2]) (sw (sr [mi 5 0] 0 [1,2,5] (.block 0 (.loop (sw (sr [mv 6 5,mv 7 1,oa 8 .len 7,ob 9 pL 6 8] 0 [1,2,5,9] (cx 9 0)) (sw (.block 1 (sw (r1 [ou 12 (.load true 17) 2 1,mv 13 1,mv 14 5,ob1 15 (.Eu 2 false true false) 13 14 1,mv 16 1,mv 17 5,ob1 18 (.aZ 2) 16 17 1,ou 19 (.load true 2) 18 1,on 20 (.aj 133) [.t 12,.t 15,.t 19],oa 21 pN 20] 0 [1,2,5,21] []) (cd 21 (sr [mf 4 false] 0 [4] .ret) .skip))) (rg [mv 10 5,oi 11 pA 10 1,mv 5 11] 0 [1,2,5])))))) (sr [mf 4 true] 0 [4] .ret)))
def YW:aC C.P 131 2 Nb aJ=true:=by kernel_rfl
def MV:aA:=(sw (r0 [ba 2 0 0,ba 3 1 1,mf 4 false] 2 [2,3] [2,3]) (sr [fa 6 1 3,lo 7 6,mv 5 7] 0 [2,3,5] (sw (sr [fa 8 0 3,lo 9 8] 0 [2,5,9] (.block 0 (sr [oi 11 pE 9 1,mv 10 11] 0 [2,5,9,10] (cd 10 (sr [mv 12 5,oi 13 (.aZ 1) 12 0,lo 14 13,oa 15 (.aj 157) 14,mv 4 15] 0 [4] .ret) (sr [oi 17 pE 9 2,mv 16 17] 0 [2,5,9,16] (cd 16 (sw (r1 [mv 18 5,of 19 (.aZ 1) [.t 18,kI 0] 1,lv 20 19,fu 21 0 2 1,fu 22 0 21 1,lv 23 22,ou 24 .len 23 1,ob 25 pL 20 24,mv 26 25,ov 27 .mov 5 26 0,ot 28 (.aZ 1) [.t 27,kI 1] 26 1,ov 29 (.load false 1) 28 26 1,ov 30 (.aj 157) 29 26 0,pf 31 26 30,mv 32 31,ov 33 .mov 5 32 0,ot 34 (.aZ 1) [.t 33,kI 2] 32 1,ov 35 (.load false 1) 34 32 1,ov 36 (.aj 157) 35 32 0,pf 37 32 36,mv 4 37] 0 [4] []) .ret) (sr [oi 39 pE 9 3,mv 38 39] 0 [2,5,9,38] (cd 38 (sw (r1 [ou 40 (.load true 17) 2 1,mv 41 5,of 42 (.aZ 1) [.t 41,kI 0] 1,lv 43 42,ob 44 (.aj 135) 40 43,mv 45 44,ov 46 .mov 5 45 0,ot 47 (.aZ 1) [.t 46,kI 2] 45 1,ov 48 (.load false 1) 47 45 1,ot 49 pG [.t 48,kI 0] 45 0,pf 50 45 49,mv 4 50] 0 [4] []) .ret) (sr [oi 52 pE 9 4,mv 51 52] 0 [2,5,51] (cd 51 (sw (r1 [ou 53 (.load true 17) 2 1,mv 54 5,of 55 (.aZ 1) [.t 54,kI 0] 1,lv 56 55,ob 57 (.aj 135) 53 56,mv 4 57] 0 [4] []) .ret) .skip)))))))))) (sw (r1 [ou 58 (.load true 17) 2 1,mv 59 5,of 60 (.aZ 1) [.t 59,kI 0] 1,lv 61 60,ob 62 (.aj 139) 58 61,mv 4 62] 0 [4] []) .ret))))
def YR:aC C.P 132 2 MV aJ=true:=by kernel_rfl
def Qk:aA:=(sw (r0 [ba 3 0 0,ba 5 1 2,mf 6 false] 2 [1,3,5] [3,5]) (sr [fa 23 1 5,lo 24 23,mv 7 24] 0 [1,3,5,7] (sw (r0 [lw 25 17 3,mv 26 1,ob 27 (.aj 137) 25 26,al 8 0 [zs,zs],sk 2 8 27 0] 1 [1,3,5,7,8] [8]) (sw (sr [fa 28 0 5,lo 29 28] 0 [1,3,5,7,8,29] (.block 0 (sr [oi 31 pE 29 1,mv 30 31] 0 [1,3,5,7,8,29,30] (cd 30 (sw (r1 [fu 33 4 3 1,ou 34 (.load true 2) 33 1,mv 35 7,of 36 (.aZ 1) [.t 35,kI 0] 1,lv 37 36,ob 38 (.aj 146) 34 37,mv 32 38,xa 39 0 32,xa 40 1 32,al 9 0 [z0,z0,z0],sk 3 9 39 4,mv 10 40] 1 [1,3,10] []) (sr [mv 41 10,mv 42 41,ov 43 (.load true 17) 3 42 0,ov 44 .mov 1 42 0,obT 45 (.aj 222) 43 44 42 0,ov 46 .len 45 42 0,ot 47 pL [.t 46,kI 8] 42 0,pf 48 42 47,mv 6 48] 0 [6] .ret)) (sr [oi 50 pE 29 2,mv 49 50] 0 [1,3,5,7,8,29,49] (cd 49 (sw (r1 [mv 51 7,of 52 (.aZ 1) [.t 51,kI 0] 1,lv 53 52,ou 54 (.load true 2) 5 1,oa 55 (.aj 223) 54,ob 56 (.build [z0,z0,z0] [(0,1),(1,2)]) 53 55,al 11 0 [z0,z0,z0],sk 3 11 56 4] 1 [1,3,7,8,11] [11]) (sw (sw (r1 [fu 57 0 8 1,lv 58 57,mv 59 7,of 60 (.aZ 1) [.t 59,kI 0] 1,lv 61 60,ob1 62 (.aZ 3) 58 61 1,fu 63 1 62 1,ou 64 (.load true 2) 63 1,fu 65 1 11 1,ou 66 (.load true 2) 65 1,ob 67 (.Fe false [1,1]) 64 66] 0 [1,3,7,8,11,67] []) (cd 67 (sr [mf 6 false] 0 [6] .ret) .skip)) (sw (sw (r1 [ou 69 (.load true 17) 3 1,mv 70 1,ob 71 (.aj 222) 69 70,fu 72 0 8 1,lv 73 72,mv 74 7,of 75 (.aZ 1) [.t 74,kI 0] 1,lv 76 75,ob1 77 (.aZ 3) 73 76 1,fu 78 1 77 1,ou 79 (.load true 2) 78 1,fu 80 1 11 1,ou 81 (.load true 2) 80 1,on 82 (.aj 224) [.t 71,.t 79,.t 81],mv 68 82,xa 83 0 68,xa 84 1 68,mv 12 83,mv 13 84] 0 [1,8,11,13] []) (sr [mv 85 13,oa 86 pN 85] 0 [1,8,11,86] (cd 86 (sr [mf 6 false] 0 [6] .ret) .skip))) (sr [lw 87 2 8,lw 88 3 11,ob 89 (.aj 225) 87 88,mv 14 89] 0 [1,14] (sw (sr [mi 15 0] 0 [1,14,15] (.block 1 (.loop (sw (sr [mv 90 15,mv 91 14,oa 92 .len 91,ob 93 pL 90 92] 0 [1,14,15,93] (cx 93 1)) (sw (.block 2 (sr [mv 97 1,mv 98 14,mv 99 15,ix 100 1 98 99,lo 101 100,ob 102 (.aj 226) 97 101,mv 96 102,xa 103 0 96,xa 104 1 96,al 16 0 [z0,z0],sk 2 16 103 0,mv 17 104] 1 [1,14,15,17] (sr [mv 105 17,oa 106 pN 105] 0 [1,14,15,106] (cd 106 (sr [mf 6 false] 0 [6] .ret) .skip)))) (rg [mv 94 15,oi 95 pA 94 1,mv 15 95] 0 [1,14,15])))))) (sr [mf 6 true] 0 [6] .ret)))))) (sr [oi 108 pE 29 3,mv 107 108] 0 [1,3,7,8,29,107] (cd 107 (sr [mv 110 1,mv 111 7,oi 112 (.aZ 1) 111 0,lo 113 112,ob 114 (.aj 226) 110 113,mv 109 114,xa 115 0 109,xa 116 1 109,al 18 0 [z0,z0],sk 2 18 115 0,mv 19 116] 1 [19] (sr [mv 117 19,oa 118 pN 117,mv 6 118] 0 [6] .ret)) (sr [oi 120 pE 29 4,mv 119 120] 0 [1,3,7,8,119] (cd 119 (sw (r0 [mv 122 1,mv 123 7,oi 124 (.aZ 1) 123 0,lo 125 124,ob 126 (.aj 226) 122 125,mv 121 126,xa 127 0 121,xa 128 1 121,al 20 0 [z0,z0],sk 2 20 127 0,mv 21 128] 1 [3,7,8,20,21] [20]) (sw (r1 [mv 129 21,mv 130 129,ov 131 (.load true 2) 8 130 1,ov 132 .mov 7 130 0,ot 133 (.aZ 1) [.t 132,kI 0] 130 1,ov 134 (.load false 1) 133 130 1,ov 135 (.load true 2) 20 130 1,ot 136 (.aj 227) [.t 131,.t 134,.t 135,kI 100] 130 0,ov 137 (.fld 3) 3 130 1,ov 138 (.load false 1) 137 130 1,ov 139 (.un .neg) 138 130 0,ov 140 (.fld 3) 3 130 1,ov 141 (.load false 1) 140 130 1,ot 142 (.aj 124) [.t 136,.t 139,.t 141] 130 0,pf 143 130 142,mv 144 143,ov 145 .mov 7 144 0,ot 146 (.aZ 1) [.t 145,kI 1] 144 1,ov 147 (.load false 1) 146 144 1,ov 148 (.load true 17) 3 144 1,ov 149 (.load true 2) 8 144 1,ov 150 .mov 7 144 0,ot 151 (.aZ 1) [.t 150,kI 0] 144 1,ov 152 (.load false 1) 151 144 1,ot 153 (.aj 136) [.t 148,.t 149,.t 152] 144 0,obT 154 (.bin .geq) 147 153 144 0,pf 155 144 154,mv 6 155] 0 [6] []) .ret)) .skip)))))))))) (sw (sr [mi 22 0] 0 [1,3,7,22] (.block 3 (.loop (sw (sr [mv 156 22,mv 157 1,oa 158 .len 157,ob 159 pL 156 158] 0 [1,3,7,22,159] (cx 159 3)) (sw (.block 4 (sw (r1 [mv 162 1,mv 163 22,ob1 164 (.aZ 2) 162 163 1,fu 165 0 164 1,lv 166 165,oi 167 pE 166 5,mv 168 167,ov 169 .mov 1 168 0,ov 170 .mov 22 168 0,obT 171 (.aZ 2) 169 170 168 1,ov 172 (.fld 1) 171 168 1,ov 173 (.load false 1) 172 168 1,ot 174 (.aZ 1) [.t 173,kI 0] 168 1,ov 175 (.load false 1) 174 168 1,ov 176 .mov 7 168 0,ot 177 (.aZ 1) [.t 176,kI 0] 168 1,ov 178 (.load false 1) 177 168 1,obT 179 (.bin .geq) 175 178 168 0,pf 180 168 179] 0 [1,3,7,22,180] []) (cd 180 (sr [mf 6 false] 0 [6] .ret) .skip))) (rg [mv 160 22,oi 161 pA 160 1,mv 22 161] 0 [1,3,7,22])))))) (sw (r1 [ou 181 (.load true 17) 3 1,mv 182 7,of 183 (.aZ 1) [.t 182,kI 0] 1,lv 184 183,ob 185 (.aj 142) 181 184,mv 6 185] 0 [6] []) .ret))))))
def abf:aC C.P 133 3 Qk jr=true:=by kernel_rfl
def Ql:aA:=(sw (r0 [ba 2 0 0,mf 4 false] 1 [1,2] [2]) (sr [mv 5 1,fa 6 0 2,fa 7 1 6,lo 8 7,oa 9 .len 8,oi 10 pU 9 1,on 11 (.aj 124) [.t 5,kI 0,.t 10],mv 4 11] 0 [4] .ret))
def abg:aC C.P 135 2 Ql aJ=true:=by kernel_rfl
def MS:aA:=(sw (r0 [ba 3 0 0,ba 4 1 1,mi 6 0] 2 [2,3,4] [3,4]) (sr [ag 7 1] 0 [2,3,4,7] (sw (r1 [ou 10 (.load true 2) 4 1,fu 11 1 4 1,lv 12 11,mv 13 2,ob1 14 (.aZ 1) 12 13 1,lv 15 14,ob 16 (.aj 152) 10 15,mv 8 16] 0 [3,7,8] []) (sw (sr [mi 9 0] 0 [3,7,8,9] (.block 0 (.loop (sw (sr [mv 17 9,mv 18 8,oa 19 .len 18,ob 20 pL 17 19] 0 [3,7,8,9,20] (cx 20 0)) (sw (.block 1 (r1 [mv 23 7,mv 24 8,mv 25 9,ob1 26 (.aZ 2) 24 25 1,fu 27 0 26 1,lv 28 27,mv 29 8,mv 30 9,ob1 31 (.aZ 2) 29 30 1,fu 32 1 31 1,lv 33 32,ob1 34 (.gu 1 [z0,z0] [0,1]) 28 33 1,ob 35 (.app 1 false) 23 34,mv 7 35] 0 [3,7,8,9] [])) (rg [mv 21 9,oi 22 pA 21 1,mv 9 22] 0 [3,7,8,9])))))) (sr [lw 36 17 3,mv 37 7,ob 38 (.rZ 67) 36 37,oa 39 (.aj 228) 38,mv 6 39] 0 [6] .ret)))))
def YQ:aC C.P 136 3 MS jr=true:=by kernel_rfl
def MR:aA:=(sw (r0 [ba 2 0 0,al 4 1 [zs,zs]] 2 [1,2,4] [2]) (sr [fa 7 0 2,lw 8 2 7,al 5 0 [zs,zs],sk 2 5 8 0] 1 [1,4,5] (sw (sr [mi 6 0] 0 [1,4,5,6] (.block 0 (.loop (sw (sr [mv 9 6,mv 10 1,oa 11 .len 10,ob 12 pL 9 11] 0 [1,4,5,6,12] (cx 12 0)) (sw (.block 1 (sr [mv 15 1,mv 16 6,ix 17 2 15 16,fa 18 0 17,lo 19 18,oi 20 pE 19 2] 0 [1,4,5,6,20] (cd 20 (r1 [ou 21 (.load true 2) 5 2,mv 22 1,mv 23 6,ob1 24 (.aZ 2) 22 23 1,fu 25 1 24 1,lv 26 25,of 27 (.aZ 1) [.t 26,kI 0] 1,lv 28 27,mv 29 1,mv 30 6,ob1 31 (.aZ 2) 29 30 1,ou 32 (.load true 2) 31 1,oa 33 (.aj 223) 32,ob 34 (.build [z0,z0,z0] [(0,1),(1,2)]) 28 33,ob 35 (.aj 88) 21 34,sk 2 5 35 0] 0 [1,4,5,6] []) .skip))) (rg [mv 13 6,oi 14 pA 13 1,mv 6 14] 0 [1,4,5,6])))))) (sr [lw 36 2 5,sk 2 4 36 0] 0 [4] .ret))))
def YP:aC C.P 137 2 MR yg=true:=by kernel_rfl
def UA:aA:=(sw (r0 [ba 2 0 0,mf 4 false] 1 [1,2] [2]) (sr [mv 5 1,lw 6 17 2,oa 7 (.aj 141) 6,on 8 (.aj 124) [.t 5,kI 1,.t 7],mv 4 8] 0 [4] .ret))
def aed:aC C.P 139 2 UA aJ=true:=by kernel_rfl
def Qh:aA:=(sw (r0 [ba 1 0 0,mi 2 0] 1 [1] [1]) (sr [fa 3 6 1,lw 4 2 3,fa 5 12 1,lo 6 5,ob 7 (.aj 35) 4 6,mv 2 7] 0 [2] .ret))
def abb:aC C.P 141 1 Qh aK=true:=by kernel_rfl
def Na:aA:=(sw (r0 [ba 2 0 0,mf 4 false] 1 [1,2] [2]) (sr [fa 8 6 2,lw 9 2 8,fa 10 12 2,lo 11 10,ob 12 (.aj 144) 9 11,mv 13 1,ob 14 pA 12 13,oi 15 pU 14 1,mv 5 15] 0 [2,5] (sr [fa 16 6 2,lw 17 2 16,fa 18 8 2,lw 19 3 18,fa 20 11 2,lo 21 20,fa 22 12 2,lo 23 22,on 24 (.aj 232) [.t 17,.t 19,.t 21,.t 23],mv 6 24] 0 [5,6] (sw (sr [mi 7 0] 0 [5,6,7] (.block 0 (.loop (sw (sr [mv 25 7,mv 26 6,oa 27 .len 26,ob 28 pL 25 27] 0 [5,6,7,28] (cx 28 0)) (sw (.block 1 (sr [mv 31 6,mv 32 7,ix 33 1 31 32,lo 34 33,mv 35 5,ob 36 pE 34 35] 0 [5,6,7,36] (cd 36 (sr [mf 4 false] 0 [4] .ret) .skip))) (rg [mv 29 7,oi 30 pA 29 1,mv 7 30] 0 [5,6,7])))))) (sr [mv 37 5,oa 38 (.aj 33) 37,oi 39 pQ 38 0,mv 4 39] 0 [4] .ret)))))
def YV:aC C.P 142 2 Na aJ=true:=by kernel_rfl
def MW:aA:=(sw (r0 [ba 2 0 0,mk 4 (.c (.slice true []))] 1 [1,2] [2]) (sr [mk 5 (.c (.slice true []))] 0 [1,2,5] (sw (sr [mi 6 0] 0 [1,2,5,6] (.block 0 (.loop (sw (sr [mv 7 6,mv 8 1,oa 9 .len 8,ob 10 pL 7 9] 0 [1,2,5,6,10] (cx 10 0)) (sw (.block 1 (sw (sr [mv 13 1,mv 14 6,ix 15 2 13 14,fa 16 0 15,lo 17 16,oi 18 pE 17 1] 0 [1,2,5,6,18] (cd 18 (rg [mv 19 5,mv 20 1,mv 21 6,ix 22 2 20 21,fa 23 1 22,lo 24 23,oi 25 (.aZ 1) 24 0,lo 26 25,ob 27 (.aj 280) 19 26,mv 5 27] 0 [1,2,5,6]) .skip)) (sr [mv 28 1,mv 29 6,ix 30 2 28 29,fa 31 0 30,lo 32 31,oi 33 pE 32 2] 0 [1,2,5,6,33] (cd 33 (r1 [mv 35 5,ou 36 (.load true 17) 2 1,mv 37 1,mv 38 6,ob1 39 (.Eu 2 false true false) 37 38 1,ob 40 (.aj 137) 36 39,oa 41 (.S9 false 0 1) 40,mv 42 1,mv 43 6,ob1 44 (.aZ 2) 42 43 1,fu 45 1 44 1,lv 46 45,of 47 (.aZ 1) [.t 46,kI 0] 1,lv 48 47,ob1 49 (.aZ 3) 41 48 1,fu 50 1 49 1,ou 51 (.load true 2) 50 1,mv 52 1,mv 53 6,ob1 54 (.aZ 2) 52 53 1,ou 55 (.load true 2) 54 1,oa 56 (.aj 223) 55,on 57 (.aj 224) [.t 35,.t 51,.t 56],mv 34 57,xa 58 0 34,xa 59 1 34,mv 5 58] 0 [1,2,5,6] []) .skip)))) (rg [mv 11 6,oi 12 pA 11 1,mv 6 12] 0 [1,2,5,6])))))) (sr [mv 60 5,mv 4 60] 0 [4] .ret))))
def YS:aC C.P 222 2 MW aJ=true:=by kernel_rfl
def Qo:aA:=(sw (r0 [ba 1 0 0,al 2 1 [z0,z0]] 2 [1,2] [1]) (sw (r1 [fu 3 1 1 1,lv 4 3,of 5 (.aZ 1) [.t 4,kI 1] 1,lv 6 5,fu 7 1 1 1,lv 8 7,of 9 (.aZ 1) [.t 8,kI 2] 1,lv 10 9,ob 11 (.build [z0,z0] [(0,1),(1,1)]) 6 10,sk 2 2 11 0] 0 [2] []) .ret))
def abj:aC C.P 223 1 Qo QC=true:=by kernel_rfl
def GK:aA:=(sw (r0 [ba 4 0 1,ba 5 1 2,mk 6 (.c (.slice true [])),mf 7 false] 2 [0,4,5] [4,5]) (sw (r1 [fu 11 0 4 1,lv 12 11,fu 13 0 5 1,lv 14 13,ob 15 pQ 12 14,fu 16 1 4 1,lv 17 16,fu 18 1 5 1,lv 19 18,ob 20 pQ 17 19,mv 8 15,mv 9 20] 0 [0,4,5,8,9] []) (sr [mf 10 true] 0 [0,4,5,8,9,10] (sw (sr [mv 21 8] 0 [0,4,5,8,9,10,21] (cd 21 (rg [mv 23 0,fa 24 0 5,lo 25 24,ob 26 (.aj 281) 23 25,mv 22 26,xa 27 0 22,xa 28 1 22,mv 0 27,mv 10 28] 0 [0,4,5,8,9,10]) .skip)) (sw (sr [mv 29 10,mv 30 29,ov 31 .mov 9 30 0,pf 32 30 31] 0 [0,4,5,8,9,10,32] (cd 32 (rg [mv 34 0,fa 35 1 5,lo 36 35,ob 37 (.aj 281) 34 36,mv 33 37,xa 38 0 33,xa 39 1 33,mv 0 38,mv 10 39] 0 [0,4,8,9,10]) .skip)) (sw (sr [mv 40 8] 0 [0,4,9,10,40] (cd 40 (rg [mv 41 0,fa 42 0 4,lo 43 42,ob 44 (.aj 280) 41 43,mv 0 44] 0 [0,4,9,10]) .skip)) (sw (sr [mv 45 9] 0 [0,4,10,45] (cd 45 (rg [mv 46 0,fa 47 1 4,lo 48 47,ob 49 (.aj 280) 46 48,mv 0 49] 0 [0,10]) .skip)) (sr [mv 50 0,mv 51 10,mv 6 50,mv 7 51] 0 [6,7] .ret))))))))
def Ud:aC C.P 224 3 GK QB=true:=by kernel_rfl
def MQ:aA:=(sr [al 4 0 [z0,z0],mf 5 false] 1 [0,1,4] (sr [on 10 (.build [z0,z0] []) [],al 6 0 [z0,z0],sk 2 6 10 0,mf 7 false] 1 [0,1,4,6,7] (sw (sr [mi 8 0] 0 [0,1,4,6,7,8] (.block 0 (.loop (sw (sr [mv 11 8,mv 12 0,oa 13 .len 12,ob 14 pL 11 13] 0 [0,1,4,6,7,8,14] (cx 14 0)) (sw (.block 1 (sr [mv 17 0,mv 18 8,ix 19 2 17 18,fa 20 1 19,lo 21 20,mv 9 21] 0 [0,1,4,6,7,8,9] (sw (sr [mv 22 0,mv 23 8,ix 24 2 22 23,fa 25 0 24,lo 26 25,oi 27 pE 26 3,mv 28 27,ov 29 .mov 9 28 0,ot 30 (.aZ 1) [.t 29,kI 0] 28 0,ov 31 (.load false 1) 30 28 0,ov 32 .mov 1 28 0,obT 33 pE 31 32 28 0,pf 34 28 33] 0 [0,1,4,6,7,8,9,34] (cd 34 (r1 [mv 35 9,of 36 (.aZ 1) [.t 35,kI 1] 1,lv 37 36,mv 38 9,of 39 (.aZ 1) [.t 38,kI 2] 1,lv 40 39,ob 41 (.build [z0,z0] [(0,1),(1,1)]) 37 40,sk 2 6 41 0,mf 7 true] 0 [0,1,4,6,7,8,9] []) .skip)) (sr [mv 42 0,mv 43 8,ix 44 2 42 43,fa 45 0 44,lo 46 45,oi 47 pE 46 4,mv 48 47,ov 49 .mov 9 48 0,ot 50 (.aZ 1) [.t 49,kI 0] 48 0,ov 51 (.load false 1) 50 48 0,ov 52 .mov 1 48 0,obT 53 pE 51 52 48 0,pf 54 48 53] 0 [0,1,4,6,7,8,54] (cd 54 (rg [mf 7 false] 0 [0,1,4,6,7,8]) .skip))))) (rg [mv 15 8,oi 16 pA 15 1,mv 8 16] 0 [0,1,4,6,7,8])))))) (sr [lw 55 2 6,mv 56 7,sk 2 4 55 0,mv 5 56] 0 [4,5] .ret))))
def YO:aC C.P 226 2 MQ akZ=true:=by kernel_rfl
def Nc:aA:=(sw (r0 [ba 4 0 0,ba 6 1 2,mi 8 0] 2 [1,3,4,6] [4,6]) (sw (r1 [ou 9 (.load true 2) 4 1,fu 10 1 4 1,lv 11 10,mv 12 1,ob1 13 (.aZ 1) 11 12 1,lv 14 13,ob 15 (.aj 152) 9 14,ou 16 (.load true 2) 6 1,mv 17 3,on 18 (.aj 282) [.t 15,.t 16,.t 17],mv 8 18] 0 [8] []) .ret))
def YX:aC C.P 227 4 Nc Bz=true:=by kernel_rfl
def UC:aA:=(sr [ag 4 1] 0 [0,1] (sr [ag 5 1] 0 [0,1,5] (sr [mi 6 0] 0 [0,1,5,6] (sw (.block 0 (.loop (sw (sr [mv 7 6,mv 8 0,oa 9 .len 8,ob 10 pL 7 9,mv 11 10,ov 12 .mov 0 11 0,ov 13 .mov 6 11 0,obT 14 (.aZ 1) 12 13 11 0,ov 15 (.load false 1) 14 11 0,ov 16 .mov 1 11 0,obT 17 (.bin .leq) 15 16 11 0,pf 18 11 17] 0 [0,1,5,6,18] (cx 18 0)) (.block 1 (sr [mv 19 5,mv 20 0,mv 21 6,ix 22 1 20 21,lo 23 22,oa 24 (.gu 1 [z0] [0]) 23,ob 25 (.app 1 false) 19 24,mv 5 25] 0 [0,1,5,6] (rg [mv 26 6,oi 27 pA 26 1,mv 6 27] 0 [0,1,5,6])))))) (sw (r1 [mv 28 5,mv 29 1,ou 30 (.gu 1 [z0] [0]) 29 1,ob 31 (.app 1 false) 28 30,mv 32 0,mv 33 6,ob1 34 (.Eu 1 true false false) 32 33 1,ob 35 (.app 1 false) 31 34,mv 4 35] 0 [4] []) .ret)))))
def aee:aC C.P 280 2 UC aJ=true:=by kernel_rfl
def MZ:aA:=(sr [ag 4 1,mf 5 false] 0 [0,1] (sw (sr [mi 6 0] 0 [0,1,6] (.block 0 (.loop (sw (sr [mv 7 6,mv 8 0,oa 9 .len 8,ob 10 pL 7 9] 0 [0,1,6,10] (cx 10 0)) (sw (.block 1 (sr [mv 13 0,mv 14 6,ix 15 1 13 14,lo 16 15,mv 17 1,ob 18 pE 16 17] 0 [0,1,6,18] (cd 18 (sw (r1 [mv 19 0,mv 20 6,ob1 21 (.Eu 1 false true false) 19 20 1,on 22 (.app 1 false) [.c (.slice true []),.t 21],mv 23 0,mv 24 6,oi 25 pA 24 1,ob1 26 (.Eu 1 true false false) 23 25 1,ob 27 (.app 1 false) 22 26,mv 4 27,mf 5 true] 0 [4,5] []) .ret) .skip))) (rg [mv 11 6,oi 12 pA 11 1,mv 6 12] 0 [0,1,6])))))) (sr [mv 28 0,mv 4 28,mf 5 false] 0 [4,5] .ret)))
def YU:aC C.P 281 2 MZ dY=true:=by kernel_rfl
def MG:aA:=(sr [mf 2 false] 0 [0] (sr [mv 3 0,on 4 (.aj 154) [.t 3,kI 0,kI 10800],mv 2 4] 0 [2] .ret))
def YE:aC C.P 59 1 MG aK=true:=by kernel_rfl
def EP:aA:=(sw (r0 [ba 1 0 0,mf 2 false] 1 [1] [1]) (sr [fa 3 0 1,lo 4 3,on 5 (.aj 154) [.t 4,kI 0,kI 50000],mv 6 5,ov 7 (.fld 1) 1 6 0,ov 8 (.load false 1) 7 6 0,ot 9 (.aj 154) [.t 8,kI 1,kI 50000] 6 0,pf 10 6 9,mv 2 10] 0 [2] .ret))
def QU:aC C.P 61 1 EP aK=true:=by kernel_rfl
def P6:aA:=(sr [mf 4 false] 0 [0,1] (sw (sr [mv 6 0,oa 7 .len 6,mv 8 1,oa 9 .len 8,ob 10 pQ 7 9] 0 [0,1,10] (cd 10 (sr [mf 4 false] 0 [4] .ret) .skip)) (sw (sr [mi 5 0] 0 [0,1,5] (.block 0 (.loop (sw (sr [mv 11 5,mv 12 0,oa 13 .len 12,ob 14 pL 11 13] 0 [0,1,5,14] (cx 14 0)) (sw (.block 1 (sw (r1 [mv 17 0,mv 18 5,ob1 19 (.aZ 1) 17 18 1,lv 20 19,mv 21 1,mv 22 5,ob1 23 (.aZ 1) 21 22 1,lv 24 23,ob 25 pQ 20 24] 0 [0,1,5,25] []) (cd 25 (sr [mf 4 false] 0 [4] .ret) .skip))) (rg [mv 15 5,oi 16 pA 15 1,mv 5 16] 0 [0,1,5])))))) (sr [mf 4 true] 0 [4] .ret))))
def aa0:aC C.P 87 2 P6 aJ=true:=by kernel_rfl
def Xe:aA:=(sr [mf 6 false] 0 [0,1,2] (sr [mv 7 0,mv 8 1,ob 9 (.bin .geq) 7 8,mv 10 9,ov 11 .mov 0 10 0,ov 12 .mov 2 10 0,obT 13 (.bin .leq) 11 12 10 0,pf 14 10 13,mv 6 14] 0 [6] .ret))
def ahj:aC C.P 154 3 Xe jr=true:=by kernel_rfl
def MH:aA:=(sr [mf 2 false] 0 [0] (sr [mv 3 0,on 4 (.aj 154) [.t 3,kI 4,kI 60],mv 2 4] 0 [2] .ret))
def YF:aC C.P 157 1 MH aK=true:=by kernel_rfl
def Uu:aA:=(sw (r0 [ba 4 0 1,mi 6 0] 1 [0,2,4] [4]) (sr [mv 10 0,lw 11 2 4,mv 12 2,on 13 (.aj 306) [.t 10,.t 11,.t 12],mv 9 13,xa 14 0 9,xa 15 1 9,mv 7 14,mv 8 15] 0 [7,8] (sw (sr [mv 16 7,oi 17 pL 16 0] 0 [7,8,17] (cd 17 (sr [mv 18 7,oa 19 (.un .neg) 18,mv 20 8,ob 21 (.bin .quo) 19 20,oa 22 (.un .neg) 21,mv 6 22] 0 [6] .ret) .skip)) (sr [mv 23 7,mv 24 8,ob 25 (.bin .quo) 23 24,mv 6 25] 0 [6] .ret))))
def ad8:aC C.P 282 3 Uu jr=true:=by kernel_rfl
def MI:aA:=(sr [al 2 0 [z0,z0]] 1 [0,2] (sr [on 5 (.build [z0,z0] [(0,1),(1,1)]) [kI 1,kI 1],al 3 0 [z0,z0],sk 2 3 5 0] 1 [0,2,3] (sw (sr [mi 4 0] 0 [0,2,3,4] (.block 0 (.loop (sw (sr [mv 6 4,mv 7 0,oa 8 .len 7,ob 9 pL 6 8] 0 [0,2,3,4,9] (cx 9 0)) (sw (.block 1 (r1 [fu 12 0 3 2,ou 13 (.load false 1) 12 2,mv 14 0,mv 15 4,ob1 16 (.aZ 2) 14 15 1,fu 17 0 16 1,lv 18 17,ob 19 pM 13 18,fu 20 1 3 2,ou 21 (.load false 1) 20 2,mv 22 0,mv 23 4,ob1 24 (.aZ 2) 22 23 1,fu 25 1 24 1,lv 26 25,ob 27 pM 21 26,ob 28 (.build [z0,z0] [(0,1),(1,1)]) 19 27,sk 2 3 28 0] 0 [0,2,3,4] [])) (rg [mv 10 4,oi 11 pA 10 1,mv 4 11] 0 [0,2,3,4])))))) (sr [lw 29 2 3,oa 30 (.aj 307) 29,sk 2 2 30 0] 0 [2] .ret))))
def YG:aC C.P 287 1 MI QC=true:=by kernel_rfl
def Uw:aA:=(sw (r0 [ba 4 0 1,mi 6 0,mi 7 0] 1 [0,2,4] [4]) (sw (r0 [mv 9 0,oa 10 (.aj 287) 9,al 8 0 [z0,z0],sk 2 8 10 0] 1 [2,4,8] [8]) (sw (r1 [fu 11 0 8 1,lv 12 11,fu 13 1 4 1,lv 14 13,ob 15 pM 12 14,fu 16 0 4 1,lv 17 16,fu 18 1 8 1,lv 19 18,ob 20 pM 17 19,ob 21 pU 15 20,mv 22 2,ob 23 pM 21 22,oi 24 pM 23 21600,fu 25 1 8 1,lv 26 25,fu 27 1 4 1,lv 28 27,ob 29 pM 26 28,mv 6 24,mv 7 29] 0 [6,7] []) .ret)))
def ad9:aC C.P 306 3 Uw QB=true:=by kernel_rfl
def Gy:aA:=(sw (r0 [ba 1 0 0,al 2 1 [z0,z0]] 2 [1,2] [1]) (sr [fa 4 0 1,lo 5 4,fa 6 1 1,lo 7 6,ob 8 (.aj 334) 5 7,mv 3 8] 0 [1,2,3] (sw (r1 [fu 9 0 1 1,lv 10 9,mv 11 3,ob 12 (.bin .quo) 10 11,fu 13 1 1 1,lv 14 13,mv 15 3,ob 16 (.bin .quo) 14 15,ob 17 (.build [z0,z0] [(0,1),(1,1)]) 12 16,sk 2 2 17 0] 0 [2] []) .ret)))
def TY:aC C.P 307 1 Gy QC=true:=by kernel_rfl
def Ut:aA:=(sr [mi 4 0] 0 [0,1] (sw (.block 0 (.loop (sw (sr [mv 5 1,oi 6 pG 5 0] 0 [0,1,6] (cx 6 0)) (.block 1 (r1 [mv 7 1,mv 8 0,mv 9 1,ob 10 (.bin .rem) 8 9,mv 0 7,mv 1 10] 0 [0,1] []))))) (sr [mv 11 0,mv 4 11] 0 [4] .ret)))
def ad7:aC C.P 334 2 Ut aJ=true:=by kernel_rfl
end Go.Tel
namespace Go.Am
end Go.Am
namespace Go.Tel
open Go.Am Go.Lib
def afC (n l h:Int):Pure C 124 [dI n,dI l,dI h] (.d (.bool (inR n l h))) []:=by
 refine ah mixed rfl ahn ?_;simp only[Xi,jr,RN,A,B,F,H,I,J]
 by_cases h1:n>=l
 ·simp only[h1,RN,A,B,F,H,I,J]
  simp[inR,show l<=n from h1]
 ·simp only[h1,RN,A,B,F,H,I,J]
  simp[inR,show¬l<=n from h1]
def LH (k:Int):Int:=if k=1\/k=5\/k=6 then 1 else if k=4 then 2 else if k=2\/k=3 then 3 else -1
def anl (k:Int):Pure C 123 [dI k] (pI (LH k)) []:=by
 refine ah mixed rfl abh ?_;simp only[Qm,aK,RN,A,B,F,H,I,J];unfold LH
 by_cases h1:k=1
 ·have e:(k==1)=true:=by simp[h1]
  simp only[e,RN,A,B,F,H,I,J];simp[h1]
 have e:(k==1)=false:=beq_false_of_ne h1;simp only[e,RN,A,B,F,H,I,J]
 by_cases h2:k=5
 ·have f:(k==5)=true:=by simp[h2]
  simp only[f,RN,A,B,F,H,I,J];simp[h2]
 have f:(k==5)=false:=beq_false_of_ne h2;simp only[f,RN,A,B,F,H,I,J]
 by_cases a:k=6
 ·have g:(k==6)=true:=by simp[a]
  simp only[g,RN,A,B,F,H,I,J];simp[a]
 have g:(k==6)=false:=beq_false_of_ne a;simp only[g,RN,A,B,F,H,I,J]
 by_cases b:k=4
 ·have h:(k==4)=true:=by simp[b]
  simp only[h,RN,A,B,F,H,I,J];simp[b]
 have h:(k==4)=false:=beq_false_of_ne b;simp only[h,RN,A,B,F,H,I,J]
 by_cases c:k=2
 ·have i:(k==2)=true:=by simp[c]
  simp only[i,RN,A,B,F,H,I,J];simp[c]
 have i:(k==2)=false:=beq_false_of_ne c;simp only[i,RN,A,B,F,H,I,J]
 by_cases d:k=3
 ·have j:(k==3)=true:=by simp[d]
  simp only[j,RN,A,B,F,H,I,J];simp[d]
 have j:(k==3)=false:=beq_false_of_ne d;simp only[j,RN,A,B,F,H,I,J];simp[h1,h2,a,b,c,d]
def adu (x:En):x.formed=(decide ((x.ns.length:Int)=LH x.kind)&&x.ns.all fun n=>inR n 0 9999):=by
 unfold En.formed
 congr 1
 by_cases h:1<=x.kind/\x.kind<=6
 ·rw[show inR x.kind 1 6=true by simp[inR,h],W]
  have:LH x.kind=(jc x.kind:Int):=by
   rcases aiM h with e|e|e|e|e|e<;>rw[e]<;>rfl
  rw[this]
  by_cases a:x.ns.length=jc x.kind
  ·rw[decide_eq_true a,decide_eq_true (by omega)]
  ·rw[decide_eq_false a,decide_eq_false (by omega)]
 ·rw[show inR x.kind 1 6=false by simp only[inR,aw,decide_eq_false_iff_not];omega,V]
  have:LH x.kind= -1:=by
   unfold LH;rw[if_neg (by omega),if_neg (by omega),if_neg (by omega)]
  rw[this,decide_eq_false (by omega)]
def ahD (x:En)(hx:x.ns.length<=1000000):Pure C 43 [x.dv] (.d (.bool x.formed)) []:=by
 refine ah mixed rfl VX ?_;rw[dM,adu];simp only[Jk,aK,L,RN,A,B,F,H,I,J];refine ak rfl rfl (anl _) ?_
 by_cases e:(x.ns.length:Int)=LH x.kind
 case neg=>
  have b:((x.ns.length:Int) !=LH x.kind)=true:=by simp[e]
  simp only[b,RN,A,B,F,H,I,J];simp[e]
 have b:((x.ns.length:Int) !=LH x.kind)=false:=by simp[e]
 simp only[b,RN,A,B,F,H,I,J];rw[decide_eq_true e,W];refine aH x.ns.length (fun i (_:Unit)=>⟨[(1, .d (.aW [dI x.kind,sF (x.ns.map ay)])),(3,pI i)],⟨[some [pI x.kind, .d (sF (x.ns.map ay))]],[0],[]⟩⟩)
  (fun i _=>(x.ns.all fun n=>inR n 0 9999)=((x.ns.drop i).all fun n=>inR n 0 9999)) 0 () (Y _) rfl rfl (fun i _ c a=> ?_) (fun _ a=> ?_)
 ·obtain⟨g,h,j⟩:=rng c hx
  rw[drop_cons c,bj]at a;simp only[g,h,c,getD_map,aI,O,L,RN,A,B,F,H,I,J];refine ak rfl rfl (afC _ _ _) ?_;cases f:inR (x.ns.getD i default) 0 9999
  ·rw[f,V]at a
   simp only[a,RN,A,B,F,H,I,J]
  ·rw[f,W]at a
   simp only[j,RN,A,B,F,H,I,J];exact bn () c rfl a
 ·rw[Z,bq]at a
  simp only[X,L,a,RN,A,B,F,H,I,J]
def anD (a b:List Int)(p:a.length<=1000000)(hb:b.length<=1000000):Pure C 87 [sF (a.map ay),sF (b.map ay)] (.d (.bool (decide (a=b)))) []:=by
 refine ah mixed rfl aa0 ?_;simp only[P6,aJ,L,RN,A,B,F,H,I,J]
 by_cases l:a.length=b.length
 case neg=>
  have e:((a.length:Int) !=(b.length:Int))=true:=by simp;omega
  simp only[e,RN,A,B,F,H,I,J];have:a≠b:=fun e=>l (by rw[e])
  simp[this]
 have e:((a.length:Int) !=(b.length:Int))=false:=by simp[l]
 simp only[e,RN,A,B,F,H,I,J];refine aH a.length (fun i (_:Unit)=>⟨[(0, .d (sF (a.map ay))),(1, .d (sF (b.map ay))),(5,pI i)],⟨[],[],[]⟩⟩)
  (fun i _=>decide (a=b)=decide (a.drop i=b.drop i)) 0 () (Y _) rfl (by simp) (fun i _ g c=> ?_) (fun _ c=> ?_)
 ·obtain⟨m,n,o⟩:=rng g p
  have f:i<b.length:=by omega
  have k:(i:Int)<(b.length:Int):=by omega
  rw[drop_cons g,drop_cons f]at c;simp only[L,m,n,g,f,k,O,getD_map,aI,RN,A,B,F,H,I,J]
  by_cases h:a.getD i default=b.getD i default
  ·have j:(a.getD i default !=b.getD i default)=false:=bne_eq_false_iff_eq.2 h
   rw[h]at c;simp only[j,o,RN,A,B,F,H,I,J];exact bn () g rfl (by rw[c];simp)
  ·have j:(a.getD i default !=b.getD i default)=true:=bne_iff_ne.2 h
   simp only[j,RN,A,B,F,H,I,J];rw[c,decide_eq_false (by intro e;exact h (List.cons.inj e).1)]
 ·rw[Z,List.drop_of_length_le (by omega)]at c
  simp only[X,L,c,RN,A,B,F,H,I,J]
def apU (a b:List Int)(c:a.length<=1000000)(hb:b.length<=1000000):Pure C 23 [sF (a.map ay),sF (b.map ay)] (.d (.bool (decide (a=b)))) []:=by
 refine ah mixed rfl abd ?_;simp only[Qi,aJ,RN,A,B,F,H,I,J];refine ak rfl rfl (anD a b c hb) ?_;(try simp only[RN,A,B,F,H,I,J])
def Gz:aA:=(sr [mi 2 0] 0 [0] (sr [mv 3 0,oi 4 pA 3 4,oi 5 (.bin .rem) 4 7,mv 2 5] 0 [2] .ret))
def Ua:aC C.P 33 1 Gz aK=true:=by kernel_rfl
def P9:aA:=(sw (r0 [ba 2 0 0,mi 4 0] 1 [1,2] [2]) (sw (sr [lw 5 2 2,mv 6 1,ob 7 (.aj 106) 5 6] 0 [7] (cd 7 (sr [mi 4 366] 0 [4] .ret) .skip)) (sr [mi 4 365] 0 [4] .ret)))
def aa3:aC C.P 35 2 P9 aJ=true:=by kernel_rfl
def ER:aA:=(sw (r0 [ba 1 0 0,mf 2 false] 1 [1] [1]) (sw (sr [mi 3 0] 0 [1,3] (.block 0 (.loop (sw (sr [mv 4 3,fa 5 1 1,lo 6 5,oa 7 .len 6,ob 8 pL 4 7] 0 [1,3,8] (cx 8 0)) (sw (.block 1 (sw (r1 [fu 11 1 1 1,lv 12 11,mv 13 3,ob1 14 (.aZ 1) 12 13 1,lv 15 14,on 16 (.aj 105) [.t 15,kI 2,kI 1000],oa 17 pN 16,mv 18 17,ow 19 .mov 3 18 0,oF 20 pG [.t 19,kI 0] 18 0,ow 21 .mov 20 18 0,ov 22 (.fld 1) 1 21 1,ov 23 (.load false 1) 22 21 1,ov 24 .mov 3 21 0,obT 25 (.aZ 1) 23 24 21 1,ov 26 (.load false 1) 25 21 1,ov 27 (.fld 1) 1 21 1,ov 28 (.load false 1) 27 21 1,ov 29 .mov 3 21 0,ot 30 pU [.t 29,kI 1] 21 0,obT 31 (.aZ 1) 28 30 21 1,ov 32 (.load false 1) 31 21 1,obT 33 (.bin .leq) 26 32 21 0,oF 34 .pick [.t 21,.t 33,.c (.bool false)] 18 0,pt 35 18 34] 0 [1,3,35] []) (cd 35 (sr [mf 2 false] 0 [2] .ret) .skip))) (rg [mv 9 3,oi 10 pA 9 1,mv 3 10] 0 [1,3])))))) (sr [fa 36 0 1,lo 37 36,on 38 (.aj 105) [.t 37,kI 0,kI 1000],mv 39 38,ov 40 (.fld 1) 1 39 0,ov 41 (.load false 1) 40 39 0,ov 42 .len 41 39 0,ot 43 (.aj 105) [.t 42,kI 1,kI 3] 39 0,pf 44 39 43,mv 2 44] 0 [2] .ret)))
def QV:aC C.P 62 1 ER aK=true:=by kernel_rfl
def Qa:aA:=(sw (r0 [ba 1 0 0,mf 2 false] 1 [1] [1]) (sr [fa 3 1 1,lo 4 3,on 5 (.aj 105) [.t 4,kI 1,kI 1000],mv 6 5,ov 7 (.fld 0) 1 6 0,ov 8 (.load false 1) 7 6 0,ov 9 (.fld 1) 1 6 0,ov 10 (.load false 1) 9 6 0,ot 11 pM [kI 29,.t 10] 6 0,ov 12 (.fld 1) 1 6 0,ov 13 (.load false 1) 12 6 0,ot 14 pM [kI 30,.t 13] 6 0,ot 15 (.aj 105) [.t 8,.t 11,.t 14] 6 0,pf 16 6 15,mv 17 16,ov 18 (.fld 2) 1 17 0,ov 19 (.load false 1) 18 17 0,ov 20 (.fld 0) 1 17 0,ov 21 (.load false 1) 20 17 0,ot 22 pU [.t 21,kI 1] 17 0,ot 23 (.aj 105) [.t 19,kI 0,.t 22] 17 0,pf 24 17 23,mv 2 24] 0 [2] .ret))
def aa4:aC C.P 63 1 Qa aK=true:=by kernel_rfl
def Jh:aA:=(sr [mf 2 false] 0 [0] (sw (sr [mi 3 0] 0 [0,3] (.block 0 (.loop (sw (sr [mv 4 3,mv 5 0,oa 6 .len 5,ob 7 pL 4 6] 0 [0,3,7] (cx 7 0)) (sw (.block 1 (sr [mv 10 0,mv 11 3,ix 12 4 10 11,lw 13 4 12,oa 14 (.aj 156) 13,oa 15 pN 14] 0 [0,3,15] (cd 15 (sr [mf 2 false] 0 [2] .ret) .skip))) (rg [mv 8 3,oi 9 pA 8 1,mv 3 9] 0 [0,3])))))) (sr [mv 16 0,oa 17 .len 16,oi 18 (.bin .leq) 17 6,mv 2 18] 0 [2] .ret)))
def VT:aC C.P 64 1 Jh aK=true:=by kernel_rfl
def Qc:aA:=(sr [mf 2 false] 0 [0] (sr [mv 3 0,on 4 (.aj 105) [.t 3,kI 0,kI 4000],mv 2 4] 0 [2] .ret))
def aa6:aC C.P 65 1 Qc aK=true:=by kernel_rfl
def Xf:aA:=(sr [mf 6 false] 0 [0,1,2] (sr [mv 7 0,mv 8 1,ob 9 (.bin .geq) 7 8,mv 10 9,ov 11 .mov 0 10 0,ov 12 .mov 2 10 0,obT 13 (.bin .leq) 11 12 10 0,pf 14 10 13,mv 6 14] 0 [6] .ret))
def ahk:aC C.P 105 3 Xf jr=true:=by kernel_rfl
def P8:aA:=(sw (r0 [ba 2 0 0,mf 4 false] 1 [1,2] [2]) (sr [mi 5 0] 0 [1,2,5] (sw (sr [mi 6 0] 0 [1,2,5,6] (.block 0 (.loop (sw (sr [mv 7 6,fa 8 1 2,lo 9 8,oa 10 .len 9,ob 11 pL 7 10] 0 [1,2,5,6,11] (cx 11 0)) (sw (.block 1 (sr [mv 14 1,fa 15 1 2,lo 16 15,mv 17 6,ix 18 1 16 17,lo 19 18,ob 20 (.bin .rem) 14 19,oi 21 pE 20 0] 0 [1,2,5,6,21] (cd 21 (rg [mv 22 5,oi 23 pA 22 1,mv 5 23] 0 [1,2,5,6]) .skip))) (rg [mv 12 6,oi 13 pA 12 1,mv 6 13] 0 [1,2,5,6])))))) (sr [mv 24 5,oi 25 (.bin .rem) 24 2,oi 26 pE 25 1,mv 4 26] 0 [4] .ret))))
def aa2:aC C.P 106 2 P8 aJ=true:=by kernel_rfl
def MK:aA:=(sw (r0 [ba 2 0 0,mi 4 0] 1 [1,2] [2]) (sr [fa 7 0 2,lo 8 7,mv 9 1,on 10 pM [kI 365,.t 9],ob 11 pA 8 10,mv 5 11] 0 [1,2,5] (sw (sr [mi 6 0] 0 [1,2,5,6] (.block 0 (.loop (sw (sr [mv 12 6,mv 13 1,ob 14 pL 12 13] 0 [1,2,5,6,14] (cx 14 0)) (sw (.block 1 (sr [lw 17 2 2,mv 18 6,ob 19 (.aj 106) 17 18] 0 [1,2,5,6,19] (cd 19 (rg [mv 20 5,oi 21 pA 20 1,mv 5 21] 0 [1,2,5,6]) .skip))) (rg [mv 15 6,oi 16 pA 15 1,mv 6 16] 0 [1,2,5,6])))))) (sr [mv 22 5,mv 4 22] 0 [4] .ret))))
def YI:aC C.P 144 2 MK aJ=true:=by kernel_rfl
def MJ:aA:=(sw (r0 [ba 1 0 0,mf 2 false] 1 [1] [1]) (sw (sr [fa 3 0 1,lo 4 3] 0 [1,4] (cd 4 (sr [fa 5 1 1,lo 6 5,oi 7 pE 6 0,mv 8 7,ov 9 (.fld 2) 1 8 0,ov 10 (.load false 1) 9 8 0,ot 11 pE [.t 10,kI 0] 8 0,pf 12 8 11,mv 13 12,ov 14 (.fld 3) 1 13 0,ov 15 (.load false 1) 14 13 0,ot 16 (.aj 105) [.t 15,kI (-60),kI 60] 13 0,pf 17 13 16,mv 2 17] 0 [2] .ret) .skip)) (sr [fa 18 1 1,lo 19 18,on 20 (.aj 105) [.t 19,kI 1,kI 12],mv 21 20,ov 22 (.fld 2) 1 21 0,ov 23 (.load false 1) 22 21 0,ot 24 (.aj 105) [.t 23,kI 1,kI 31] 21 0,pf 25 21 24,mv 26 25,ov 27 (.fld 3) 1 26 0,ov 28 (.load false 1) 27 26 0,ot 29 pE [.t 28,kI 0] 26 0,pf 30 26 29,mv 2 30] 0 [2] .ret)))
def YH:aC C.P 156 1 MJ aK=true:=by kernel_rfl
def CB:aA:=(sw (r0 [ba 4 0 0,ba 5 1 1,ag 8 1] 2 [2,3,4,5] [4,5]) (sr [ag 9 1] 0 [2,3,4,5,9] (sw (sr [mi 10 0] 0 [2,3,4,5,9,10] (.block 0 (.loop (sw (sr [mv 11 10,mv 12 2,oa 13 .len 12,ob 14 pL 11 13] 0 [2,3,4,5,9,10,14] (cx 14 0)) (sw (.block 1 (r1 [mv 17 9,ou 18 (.load true 2) 4 1,ou 19 (.load true 3) 5 1,mv 20 2,mv 21 10,ob1 22 (.aZ 4) 20 21 1,ou 23 (.load true 4) 22 1,mv 24 3,on 25 (.aj 286) [.t 18,.t 19,.t 23,.t 24],ou 26 (.gu 1 [z0] [0]) 25 1,ob 27 (.app 1 false) 17 26,mv 9 27] 0 [2,3,4,5,9,10] [])) (rg [mv 15 10,oi 16 pA 15 1,mv 10 16] 0 [2,3,4,5,9,10])))))) (sr [mv 28 9,mv 8 28] 0 [8] .ret))))
def Ou:aC C.P 232 4 CB Bz=true:=by kernel_rfl
def Ji:aA:=(sr [mi 4 0] 0 [0,1] (sw (sr [mv 5 0,oi 6 pE 5 2,mv 7 6,ov 8 .mov 1 7 0,pf 9 7 8] 0 [0,9] (cd 9 (sr [mi 4 29] 0 [4] .ret) .skip)) (sr [on 10 (.gu 1 [z0,z0,z0,z0,z0,z0,z0,z0,z0,z0,z0,z0] [0,1,2,3,4,5,6,7,8,9,10,11]) [kI 31,kI 28,kI 31,kI 30,kI 31,kI 30,kI 31,kI 31,kI 30,kI 31,kI 30,kI 31],mv 11 0,oi 12 pU 11 1,ix 13 1 10 12,lo 14 13,mv 4 14] 0 [4] .ret)))
def VU:aC C.P 233 2 Ji aJ=true:=by kernel_rfl
def ES:aA:=(sw (r0 [ba 4 0 0,ba 5 1 1,ba 6 2 2,mi 8 0] 3 [3,4,5,6] [4,5,6]) (sw (sr [fa 10 0 6,lo 11 10] 0 [3,4,5,6,11] (cd 11 (sw (r1 [ou 12 (.load true 2) 4 1,ou 13 (.load true 3) 5 1,mv 14 3,on 15 (.aj 309) [.t 12,.t 13,.t 14],fu 16 3 6 1,lv 17 16,ob 18 pA 15 17,mv 8 18] 0 [8] []) .ret) .skip)) (sw (r0 [mv 19 3,fa 20 1 6,lo 21 20,fa 22 2 6,lo 23 22,on 24 (.build [z0,z0,z0] [(0,1),(1,1),(2,1)]) [.t 19,.t 21,.t 23],al 9 0 [z0,z0,z0],sk 3 9 24 0] 1 [4,9] [9]) (sw (sr [lw 25 2 4,lw 26 3 9,ob 27 (.aj 310) 25 26,oa 28 pN 27] 0 [4,9,28] (cd 28 (sr [mi 8 (-1)] 0 [8] .ret) .skip)) (sr [lw 29 2 4,lw 30 3 9,ob 31 (.aj 311) 29 30,mv 8 31] 0 [8] .ret)))))
def QW:aC C.P 286 4 ES Bz=true:=by kernel_rfl
def Cm:aA:=(sw (r0 [ba 3 0 0,ba 4 1 1,mi 6 0] 2 [2,3,4] [3,4]) (sr [lw 8 2 3,mv 9 2,on 10 (.build [z0,z0,z0] [(0,1),(1,1),(2,1)]) [.t 9,kI 3,kI 21],ob 11 (.aj 311) 8 10,mv 7 11] 0 [4,7] (sw (.block 0 (.loop (sw (sr [lw 12 3 4,mv 13 7,ob 14 (.aj 335) 12 13,oi 15 pQ 14 13] 0 [4,7,15] (cx 15 0)) (.block 1 (rg [mv 16 7,oi 17 pA 16 1,mv 7 17] 0 [4,7]))))) (sr [mv 18 7,oi 19 pA 18 1,mv 7 19] 0 [7] (sw (.block 2 (.loop (sw (sr [mv 20 7,oa 21 (.aj 33) 20,oi 22 pQ 21 0] 0 [7,22] (cx 22 2)) (.block 3 (rg [mv 23 7,oi 24 pA 23 1,mv 7 24] 0 [7]))))) (sr [mv 25 7,mv 6 25] 0 [6] .ret))))))
def Ot:aC C.P 309 3 Cm jr=true:=by kernel_rfl
def Qb:aA:=(sw (r0 [ba 2 0 0,ba 3 1 1,mf 4 false] 2 [2,3] [2,3]) (sw (r1 [ou 5 (.load true 3) 3 1,oa 6 (.aj 336) 5,mv 7 6,ov 8 (.fld 2) 3 7 1,ov 9 (.load false 1) 8 7 1,ov 10 (.fld 1) 3 7 1,ov 11 (.load false 1) 10 7 1,ov 12 (.load true 2) 2 7 1,ov 13 (.fld 0) 3 7 1,ov 14 (.load false 1) 13 7 1,obT 15 (.aj 106) 12 14 7 0,obT 16 (.aj 233) 11 15 7 0,obT 17 (.bin .leq) 9 16 7 0,pf 18 7 17,mv 4 18] 0 [4] []) .ret))
def aa5:aC C.P 310 2 Qb aJ=true:=by kernel_rfl
def Uy:aA:=(sw (r0 [ba 2 0 0,ba 3 1 1,mi 4 0] 2 [2,3] [2,3]) (sw (r1 [ou 5 (.load true 2) 2 1,fu 6 0 3 1,lv 7 6,ob 8 (.aj 144) 5 7,ou 9 (.load true 2) 2 1,ou 10 (.load true 3) 3 1,ob 11 (.aj 337) 9 10,ob 12 pA 8 11,mv 4 12] 0 [4] []) .ret))
def aeb:aC C.P 311 2 Uy aJ=true:=by kernel_rfl
def Ux:aA:=(sw (r0 [ba 2 0 0,mi 4 0] 1 [1,2] [2]) (sr [mi 5 0] 0 [1,2,5] (sw (.block 0 (.loop (sw (sr [lw 6 3 2,mv 7 1,mv 8 5,ob 9 pU 7 8,ob 10 (.aj 352) 6 9,oa 11 pN 10] 0 [1,2,5,11] (cx 11 0)) (.block 1 (rg [mv 12 5,oi 13 pA 12 1,mv 5 13] 0 [1,2,5]))))) (sr [mv 14 5,mv 4 14] 0 [4] .ret))))
def aea:aC C.P 335 2 Ux aJ=true:=by kernel_rfl
def GH:aA:=(sw (r0 [ba 1 0 0,mf 2 false] 1 [1] [1]) (sr [fa 3 0 1,lo 4 3,oa 5 (.aj 65) 4,mv 6 5,ov 7 (.fld 1) 1 6 0,ov 8 (.load false 1) 7 6 0,ot 9 (.aj 105) [.t 8,kI 1,kI 12] 6 0,pf 10 6 9,mv 11 10,ov 12 (.fld 2) 1 11 0,ov 13 (.load false 1) 12 11 0,ot 14 (.aj 105) [.t 13,kI 1,kI 31] 11 0,pf 15 11 14,mv 2 15] 0 [2] .ret))
def Ub:aC C.P 336 1 GH aK=true:=by kernel_rfl
def P7:aA:=(sw (r0 [ba 2 0 0,ba 3 1 1,mi 4 0] 2 [2,3] [2,3]) (sr [fa 7 2 3,lo 8 7,oi 9 pU 8 1,mv 5 9] 0 [2,3,5] (sw (sr [mi 6 1] 0 [2,3,5,6] (.block 0 (.loop (sw (sr [mv 10 6,fa 11 1 3,lo 12 11,ob 13 pL 10 12] 0 [2,3,5,6,13] (cx 13 0)) (sw (.block 1 (rg [mv 16 5,mv 17 6,lw 18 2 2,fa 19 0 3,lo 20 19,ob 21 (.aj 106) 18 20,ob 22 (.aj 233) 17 21,ob 23 pA 16 22,mv 5 23] 0 [2,3,5,6])) (rg [mv 14 6,oi 15 pA 14 1,mv 6 15] 0 [2,3,5,6])))))) (sr [mv 24 5,mv 4 24] 0 [4] .ret))))
def aa1:aC C.P 337 2 P7 aJ=true:=by kernel_rfl
def Uz:aA:=(sw (r0 [ba 2 0 0,mf 4 false] 1 [1,2] [2]) (sr [mv 6 1,fa 7 1 2,lo 8 7,ob 9 pM 6 8,fa 10 2 2,lo 11 10,ob 12 pU 9 11,fa 13 0 2,lo 14 13,ob 15 (.aj 357) 12 14,mv 5 15] 0 [1,2,5] (sw (.block 0 (.loop (sw (sr [mv 16 5,fa 17 0 2,lo 18 17,ob 19 pM 16 18,fa 20 2 2,lo 21 20,ob 22 pA 19 21,fa 23 1 2,lo 24 23,ob 25 (.aj 357) 22 24,mv 26 1,ob 27 pL 25 26] 0 [1,2,5,27] (cx 27 0)) (.block 1 (rg [mv 28 5,oi 29 pA 28 1,mv 5 29] 0 [1,2,5]))))) (sr [mv 30 5,fa 31 0 2,lo 32 31,ob 33 pM 30 32,fa 34 2 2,lo 35 34,ob 36 pA 33 35,fa 37 1 2,lo 38 37,ob 39 (.aj 357) 36 38,mv 40 1,ob 41 pE 39 40,mv 4 41] 0 [4] .ret))))
def aec:aC C.P 352 2 Uz aJ=true:=by kernel_rfl
def ML:aA:=(sr [mi 4 0] 0 [0,1] (sr [mv 6 0,mv 7 1,ob 8 (.bin .quo) 6 7,mv 5 8] 0 [0,1,5] (sw (sr [mv 9 5,mv 10 1,ob 11 pM 9 10,mv 12 0,ob 13 pG 11 12] 0 [5,13] (cd 13 (rg [mv 14 5,oi 15 pU 14 1,mv 5 15] 0 [5]) .skip)) (sr [mv 16 5,mv 4 16] 0 [4] .ret))))
def YJ:aC C.P 357 2 ML aJ=true:=by kernel_rfl
def MO:aA:=(sw (r0 [ba 1 0 0,mf 2 false] 1 [1] [1]) (sw (sr [fa 5 0 1,lo 6 5,oa 7 .len 6,on 8 (.aj 150) [.t 7,kI 1,kI 5],oa 9 pN 8,mv 10 9,ow 11 (.fld 1) 1 10 0,lq 12 11 10,ow 13 .len 12 10 0,oF 14 (.aj 150) [.t 13,kI 1,kI 4] 10 0,ow 15 pN 14 10 0,pt 16 10 15] 0 [1,16] (cd 16 (sr [mf 2 false] 0 [2] .ret) .skip)) (sw (sr [mi 3 0] 0 [1,3] (.block 0 (.loop (sw (sr [mv 17 3,fa 18 0 1,lo 19 18,oa 20 .len 19,ob 21 pL 17 20] 0 [1,3,21] (cx 21 0)) (sw (.block 1 (sr [fa 24 0 1,lo 25 24,mv 26 3,ix 27 3 25 26,fa 28 0 27,lo 29 28,mv 30 3,on 31 (.aj 150) [.t 29,kI 0,.t 30],oa 32 pN 31,mv 33 32,ow 34 (.fld 0) 1 33 0,lq 35 34 33,ow 36 .mov 3 33 0,obF 37 (.aZ 3) 35 36 33 0,ow 38 (.fld 1) 37 33 0,ow 39 (.load true 2) 38 33 0,ow 40 (.aj 151) 39 33 0,ow 41 pN 40 33 0,pt 42 33 41,mv 43 42,ow 44 (.load true 2) 1 43 0,ow 45 .mov 3 43 0,oF 46 pA [.t 45,kI 1] 43 0,obF 47 (.aj 152) 44 46 43 0,ow 48 .len 47 43 0,oF 49 pG [.t 48,kI 3] 43 0,pt 50 43 49] 0 [1,3,50] (cd 50 (sr [mf 2 false] 0 [2] .ret) .skip))) (rg [mv 22 3,oi 23 pA 22 1,mv 3 23] 0 [1,3])))))) (sw (sr [mi 4 0] 0 [1,4] (.block 2 (.loop (sw (sr [mv 51 4,fa 52 1 1,lo 53 52,oa 54 .len 53,ob 55 pL 51 54] 0 [1,4,55] (cx 55 2)) (sw (.block 3 (sw (r1 [ou 58 (.load true 2) 1 1,fu 59 1 1 1,lv 60 59,mv 61 4,ob1 62 (.aZ 1) 60 61 1,lv 63 62,ob 64 (.aj 153) 58 63,oa 65 pN 64] 0 [1,4,65] []) (cd 65 (sr [mf 2 false] 0 [2] .ret) .skip))) (rg [mv 56 4,oi 57 pA 56 1,mv 4 57] 0 [1,4])))))) (sr [mf 2 true] 0 [2] .ret)))))
def YL:aC C.P 58 1 MO aK=true:=by kernel_rfl
def Qd:aA:=(sw (r0 [ba 1 0 0,mf 2 false] 1 [1] [1]) (sw (sr [mi 3 0] 0 [1,3] (.block 0 (.loop (sw (sr [mv 4 3,fa 5 0 1,lo 6 5,oa 7 .len 6,ob 8 pL 4 7] 0 [1,3,8] (cx 8 0)) (sw (.block 1 (sr [fa 11 0 1,lo 12 11,mv 13 3,ix 14 1 12 13,lo 15 14,oa 16 (.aj 157) 15,oa 17 pN 16] 0 [1,3,17] (cd 17 (sr [mf 2 false] 0 [2] .ret) .skip))) (rg [mv 9 3,oi 10 pA 9 1,mv 3 10] 0 [1,3])))))) (sr [fa 18 0 1,lo 19 18,oa 20 .len 19,oi 21 (.bin .leq) 20 8,mv 22 21,ov 23 (.fld 1) 1 22 0,ov 24 (.load false 1) 23 22 0,ot 25 (.aj 150) [.t 24,kI 0,kI 1000] 22 0,pf 26 22 25,mv 27 26,ov 28 (.fld 2) 1 27 0,ov 29 (.load false 1) 28 27 0,ot 30 (.aj 150) [.t 29,kI 0,kI 40] 27 0,pf 31 27 30,mv 32 31,ov 33 (.fld 3) 1 32 0,ov 34 (.load false 1) 33 32 0,ot 35 (.aj 150) [.t 34,kI 0,kI 100] 32 0,pf 36 32 35,mv 37 36,ov 38 (.fld 4) 1 37 0,ov 39 (.load false 1) 38 37 0,ot 40 (.aj 150) [.t 39,kI 0,kI 100] 37 0,pf 41 37 40,mv 42 41,ov 43 (.fld 5) 1 42 0,ov 44 (.load false 1) 43 42 0,ot 45 (.aj 150) [.t 44,kI 0,kI 1000000] 42 0,pf 46 42 45,mv 2 46] 0 [2] .ret)))
def aa7:aC C.P 66 1 Qd aK=true:=by kernel_rfl
def GI:aA:=(sw (r0 [ba 2 0 0,ba 3 1 1,al 4 2 [zs,zs]] 3 [2,3,4] [2,3]) (sr [lw 6 2 2,al 5 0 [zs,zs],sk 2 5 6 0] 1 [2,3,4,5] (sr [fa 7 0 2,lo 8 7,on 9 (.app 3 true) [.c (.slice true []),.t 8],fa 10 0 5,sk 1 10 9 0] 0 [3,4,5] (sr [fa 11 0 5,lo 12 11,fa 13 0 3,lo 14 13,fa 15 1 3,lw 16 2 15,ix 17 3 12 14,fa 18 1 17,sk 2 18 16 0] 0 [4,5] (sr [lw 19 2 5,sk 2 4 19 0] 0 [4] .ret)))))
def Uc:aC C.P 88 2 GI yg=true:=by kernel_rfl
def Xg:aA:=(sr [mf 6 false] 0 [0,1,2] (sr [mv 7 0,mv 8 1,ob 9 (.bin .geq) 7 8,mv 10 9,ov 11 .mov 0 10 0,ov 12 .mov 2 10 0,obT 13 (.bin .leq) 11 12 10 0,pf 14 10 13,mv 6 14] 0 [6] .ret))
def ahl:aC C.P 150 3 Xg jr=true:=by kernel_rfl
def Qe:aA:=(sw (r0 [ba 1 0 0,mf 2 false] 1 [1] [1]) (sr [fa 3 0 1,lo 4 3,oa 5 (.aj 157) 4,mv 6 5,ov 7 (.fld 1) 1 6 0,ov 8 (.load false 1) 7 6 0,ov 9 (.aj 157) 8 6 0,pf 10 6 9,mv 2 10] 0 [2] .ret))
def aa8:aC C.P 151 1 Qe aK=true:=by kernel_rfl
def Eb:aA:=(sw (r0 [ba 2 0 0,ag 4 2] 1 [1,2] [2]) (sw (sr [mv 6 1,oi 7 pE 6 0] 0 [1,2,7] (cd 7 (sr [ag 4 2] 0 [4] .ret) .skip)) (sw (r0 [fa 8 0 2,lo 9 8,mv 10 1,oi 11 pU 10 1,ix 12 3 9 11,lw 13 3 12,al 5 0 [z0,z0,z0],sk 3 5 13 0] 1 [2,5] [5]) (sw (r1 [ou 14 (.load true 2) 2 1,fu 15 0 5 1,lv 16 15,ob 17 (.aj 152) 14 16,on 18 (.app 2 false) [.c (.slice true []),.t 17],fu 19 1 5 1,ou 20 (.load true 2) 19 1,ou 21 (.gu 2 [.agg [z0,z0]] [0]) 20 1,ob 22 (.app 2 false) 18 21,mv 4 22] 0 [4] []) .ret))))
def YN:aC C.P 152 2 Eb aJ=true:=by kernel_rfl
def MN:aA:=(sw (r0 [ba 2 0 0,mf 4 false] 1 [1,2] [2]) (sr [mv 5 1,fa 6 0 2,lo 7 6,oa 8 .len 7,on 9 (.aj 150) [.t 5,kI 1,.t 8],mv 4 9] 0 [4] .ret))
def YK:aC C.P 153 2 MN aJ=true:=by kernel_rfl
def Jj:aA:=(sw (r0 [ba 2 0 0,ba 3 1 1,ag 4 1] 2 [2,3] [2,3]) (sr [ag 5 1] 0 [2,3,5] (sw (r0 [lw 8 2 2,lw 9 3 3,ob 10 (.aj 88) 8 9,al 6 0 [zs,zs],sk 2 6 10 0] 1 [2,5,6] [6]) (sw (sr [mi 7 0] 0 [2,5,6,7] (.block 0 (.loop (sw (sr [mv 11 7,fa 12 1 2,lo 13 12,oa 14 .len 13,ob 15 pL 11 14] 0 [2,5,6,7,15] (cx 15 0)) (sw (.block 1 (sw (r1 [ou 18 (.load true 2) 2 1,fu 19 1 2 1,lv 20 19,mv 21 7,ob1 22 (.aZ 1) 20 21 1,lv 23 22,ob 24 (.aj 235) 18 23,ou 25 (.load true 2) 6 1,fu 26 1 2 1,lv 27 26,mv 28 7,ob1 29 (.aZ 1) 27 28 1,lv 30 29,ob 31 (.aj 235) 25 30,ob 32 (.Fe true [1,1]) 24 31] 0 [2,5,6,7,32] []) (cd 32 (rg [mv 33 5,mv 34 7,oa 35 (.gu 1 [z0] [0]) 34,ob 36 (.app 1 false) 33 35,mv 5 36] 0 [2,5,6,7]) .skip))) (rg [mv 16 7,oi 17 pA 16 1,mv 7 17] 0 [2,5,6,7])))))) (sr [mv 37 5,mv 4 37] 0 [4] .ret)))))
def VW:aC C.P 225 2 Jj aJ=true:=by kernel_rfl
def MP:aA:=(sw (r0 [ba 1 0 0,mi 2 0] 1 [1] [1]) (sr [mi 3 0] 0 [1,3] (sw (sr [mi 4 0] 0 [1,3,4] (.block 0 (.loop (sw (sr [mv 6 4,fa 7 0 1,lo 8 7,oa 9 .len 8,ob 10 pL 6 9] 0 [1,3,4,10] (cx 10 0)) (sw (.block 1 (r1 [mv 13 3,fu 14 0 1 1,lv 15 14,mv 16 4,ob1 17 (.aZ 1) 15 16 1,lv 18 17,fu 19 0 1 1,lv 20 19,mv 21 4,ob1 22 (.aZ 1) 20 21 1,lv 23 22,ob 24 pM 18 23,ob 25 pA 13 24,mv 3 25] 0 [1,3,4] [])) (rg [mv 11 4,oi 12 pA 11 1,mv 4 12] 0 [1,3,4])))))) (sw (r1 [mv 26 3,fu 27 1 1 1,lv 28 27,ob 29 pM 26 28,oa 30 (.aj 283) 29,fu 31 2 1 1,lv 32 31,fu 33 3 1 1,lv 34 33,ob 35 pM 32 34,ob 36 pA 30 35,mv 5 36] 0 [1,5] []) (sr [mv 37 5,mv 38 5,fa 39 4 1,lo 40 39,ob 41 pM 38 40,oa 42 (.aj 283) 41,ob 43 pA 37 42,mv 2 43] 0 [2] .ret)))))
def YM:aC C.P 228 1 MP aK=true:=by kernel_rfl
def Qg:aA:=(sw (r0 [ba 2 0 0,al 4 1 [z0,z0]] 2 [1,2,4] [2]) (sr [lw 5 2 2,mv 6 1,ob 7 (.aj 152) 5 6,oa 8 (.aj 287) 7,sk 2 4 8 0] 0 [4] .ret))
def aa9:aC C.P 235 2 Qg yg=true:=by kernel_rfl
def Xh:aA:=(sr [mi 2 0] 0 [0] (sr [mv 3 0,oi 4 pA 3 99,oi 5 (.bin .quo) 4 100,mv 2 5] 0 [2] .ret))
def ahm:aC C.P 283 1 Xh aK=true:=by kernel_rfl
def GL:aA:=(sw (r0 [ba 1 0 0,mf 2 false] 1 [1] [1]) (sw (sr [mi 3 0] 0 [1,3] (.block 0 (.loop (sw (sr [mv 4 3,fa 5 1 1,lo 6 5,oa 7 .len 6,ob 8 pL 4 7] 0 [1,3,8] (cx 8 0)) (sw (.block 1 (sr [fa 11 1 1,lo 12 11,mv 13 3,ix 14 1 12 13,lo 15 14,on 16 (.aj 155) [.t 15,kI 1,kI 120],oa 17 pN 16] 0 [1,3,17] (cd 17 (sr [mf 2 false] 0 [2] .ret) .skip))) (rg [mv 9 3,oi 10 pA 9 1,mv 3 10] 0 [1,3])))))) (sr [fa 18 0 1,lo 19 18,on 20 (.aj 155) [.t 19,kI 1,kI 60],mv 21 20,ov 22 (.fld 1) 1 21 0,ov 23 (.load false 1) 22 21 0,ov 24 .len 23 21 0,ot 25 (.aj 155) [.t 24,kI 1,kI 6] 21 0,pf 26 21 25,mv 2 26] 0 [2] .ret)))
def Ue:aC C.P 60 1 GL aK=true:=by kernel_rfl
def Qp:aA:=(sw (r0 [ba 2 0 0,al 4 1 [z0,z0,z0],mf 5 false] 2 [1,2,4] [2]) (sw (sr [mi 6 0] 0 [1,2,4,6] (.block 0 (.loop (sw (sr [mv 8 6,fa 9 1 2,lo 10 9,oa 11 .len 10,ob 12 pL 8 11] 0 [1,2,4,6,12] (cx 12 0)) (sw (.block 1 (sr [lw 15 2 2,mv 16 6,mv 17 1,on 18 (.aj 234) [.t 15,.t 16,.t 17]] 0 [1,2,4,6,18] (cd 18 (sw (r1 [fu 19 0 2 1,lv 20 19,fu 21 1 2 1,lv 22 21,mv 23 6,ob1 24 (.aZ 1) 22 23 1,lv 25 24,ob 26 pM 20 25,mv 27 1,ob 28 (.bin .quo) 26 27,mv 7 28] 0 [2,4,6,7] []) (sw (r1 [mv 29 6,mv 30 7,fu 31 1 2 1,lv 32 31,mv 33 6,ob1 34 (.aZ 1) 32 33 1,lv 35 34,ob 36 (.bin .quo) 30 35,mv 37 7,fu 38 1 2 1,lv 39 38,mv 40 6,ob1 41 (.aZ 1) 39 40 1,lv 42 41,ob 43 (.bin .rem) 37 42,on 44 (.build [z0,z0,z0] [(0,1),(1,1),(2,1)]) [.t 29,.t 36,.t 43],sk 3 4 44 0,mf 5 true] 0 [4,5] []) .ret)) .skip))) (rg [mv 13 6,oi 14 pA 13 1,mv 6 14] 0 [1,2,4,6])))))) (sr [on 45 (.build [z0,z0,z0] []) [],sk 3 4 45 0,mf 5 false] 0 [4,5] .ret)))
def abk:aC C.P 146 2 Qp OU=true:=by kernel_rfl
def Xj:aA:=(sr [mf 6 false] 0 [0,1,2] (sr [mv 7 0,mv 8 1,ob 9 (.bin .geq) 7 8,mv 10 9,ov 11 .mov 0 10 0,ov 12 .mov 2 10 0,obT 13 (.bin .leq) 11 12 10 0,pf 14 10 13,mv 6 14] 0 [6] .ret))
def aho:aC C.P 155 3 Xj jr=true:=by kernel_rfl
def UD:aA:=(sw (r0 [ba 3 0 0,mf 6 false] 1 [1,2,3] [3]) (sw (r1 [fu 7 0 3 1,lv 8 7,fu 9 1 3 1,lv 10 9,mv 11 1,ob1 12 (.aZ 1) 10 11 1,lv 13 12,ob 14 pM 8 13,mv 15 2,ob 16 (.bin .rem) 14 15,oi 17 pE 16 0,mv 6 17] 0 [6] []) .ret))
def aef:aC C.P 234 3 UD jr=true:=by kernel_rfl
end Go.Tel
namespace Go.Tel
open Go.Am
def U4 (n l h:Int):Pure C 150 [dI n,dI l,dI h] (.d (.bool (inR n l h))) []:=by
 refine ah mixed rfl ahl ?_
 by_cases h1:n>=l<;>simp only[h1,inR,Xg,jr,V,RN,A,B,F,H,I,J]
def Bv (n l h:Int):Pure C 105 [dI n,dI l,dI h] (.d (.bool (inR n l h))) []:=by
 refine ah mixed rfl ahk ?_
 by_cases h1:n>=l<;>simp only[h1,inR,Xf,jr,V,RN,A,B,F,H,I,J]
def aeA (n l h:Int):Pure C 154 [dI n,dI l,dI h] (.d (.bool (inR n l h))) []:=by
 refine ah mixed rfl ahj ?_
 by_cases h1:n>=l<;>simp only[h1,inR,Xe,jr,V,RN,A,B,F,H,I,J]
def aeB (n l h:Int):Pure C 155 [dI n,dI l,dI h] (.d (.bool (inR n l h))) []:=by
 refine ah mixed rfl aho ?_
 by_cases h1:n>=l<;>simp only[h1,inR,Xj,jr,V,RN,A,B,F,H,I,J]
def He (n:Int):Pure C 157 [dI n] (.d (.bool (aT n))) []:=by
 refine ah mixed rfl YF ?_;simp only[MH,aK,RN,A,B,F,H,I,J]
 repeat' first
  |(refine ak rfl rfl (aeA _ _ _) ?_;try simp only[RN,A,B,F,H,I,J])
  |(refine bF (by rfl) (fun a=> ?_) (fun a=> ?_)<;>simp only[a,RN,A,B,F,H,I,J])
  |(refine bJ (by rfl) (fun a=> ?_) (fun a=> ?_)<;>simp only[a,RN,A,B,F,H,I,J])
 all_goals(first|(simp only[aT, *,BSN];done)|(simp_all[aT];done)|(simp_all[aT];omega))
def akJ (n:Int):Pure C 59 [dI n] (.d (.bool (inR n 0 10800))) []:=by
 refine ah mixed rfl YE ?_;simp only[MG,aK,RN,A,B,F,H,I,J]
 repeat' first
  |(refine ak rfl rfl (aeA _ _ _) ?_;try simp only[RN,A,B,F,H,I,J])
  |(refine bF (by rfl) (fun a=> ?_) (fun a=> ?_)<;>simp only[a,RN,A,B,F,H,I,J])
  |(refine bJ (by rfl) (fun a=> ?_) (fun a=> ?_)<;>simp only[a,RN,A,B,F,H,I,J])
 all_goals(first|(simp only[inR, *,BSN];done)|(simp_all[inR];done)|(simp_all[inR];omega))
def anj (f:Fr):Pure C 61 [f.dv] (.d (.bool f.ok)) []:=by
 refine ah mixed rfl QU ?_;simp only[EP,aK,bW,RN,A,B,F,H,I,J]
 repeat' first
  |(refine ak rfl rfl (aeA _ _ _) ?_;try simp only[bW,RN,A,B,F,H,I,J])
  |(refine bF (by rfl) (fun a=> ?_) (fun a=> ?_)<;>simp only[a,bW,RN,A,B,F,H,I,J])
  |(refine bJ (by rfl) (fun a=> ?_) (fun a=> ?_)<;>simp only[a,bW,RN,A,B,F,H,I,J])
 all_goals(first|(simp only[Fr.ok, *,BSN];done)|(simp_all[Fr.ok];done)|(simp_all[Fr.ok];omega))
def anz (p:Pr):Pure C 151 [p.dv] (.d (.bool p.ok)) []:=by
 refine ah mixed rfl aa8 ?_;simp only[Qe,aK,jJ,RN,A,B,F,H,I,J]
 repeat' first
  |(refine ak rfl rfl (He _) ?_;try simp only[jJ,RN,A,B,F,H,I,J])
  |(refine bF (by rfl) (fun a=> ?_) (fun a=> ?_)<;>simp only[a,jJ,RN,A,B,F,H,I,J])
  |(refine bJ (by rfl) (fun a=> ?_) (fun a=> ?_)<;>simp only[a,jJ,RN,A,B,F,H,I,J])
 all_goals(first|(simp only[Pr.ok, *,BSN];done)|(simp_all[Pr.ok];done)|(simp_all[Pr.ok];omega))
def afE (n:Int):Pure C 65 [dI n] (.d (.bool (inR n 0 4000))) []:=by
 refine ah mixed rfl aa6 ?_;simp only[Qc,aK,RN,A,B,F,H,I,J]
 repeat' first
  |(refine ak rfl rfl (Bv _ _ _) ?_;try simp only[RN,A,B,F,H,I,J])
  |(refine bF (by rfl) (fun a=> ?_) (fun a=> ?_)<;>simp only[a,RN,A,B,F,H,I,J])
  |(refine bJ (by rfl) (fun a=> ?_) (fun a=> ?_)<;>simp only[a,RN,A,B,F,H,I,J])
 all_goals(first|(simp only[inR, *,BSN];done)|(simp_all[inR];done)|(simp_all[inR];omega))
def anm (m:gK):Pure C 63 [m.dv] (.d (.bool m.ok)) []:=by
 refine ah mixed rfl aa4 ?_;simp only[Qa,aK,iy,RN,A,B,F,H,I,J];refine ak rfl rfl (Bv _ _ _) ?_;cases h1:inR m.d 1 1000
 ·(try simp only[RN,A,B,F,H,I,J])
  simp[gK.ok,h1]
 have a:1<=m.d/\m.d<=1000:=by simpa[inR]using h1
 have c:cG .i64 (29*m.d)=29*m.d:=aF (by omega);have e:cG .i64 (30*m.d)=30*m.d:=aF (by omega);simp only[c,e,RN,A,B,F,H,I,J];refine ak rfl rfl (Bv _ _ _) ?_;cases h2:inR m.n (29*m.d) (30*m.d)
 ·(try simp only[RN,A,B,F,H,I,J])
  simp[gK.ok,h1,h2]
 have b:29*m.d<=m.n/\m.n<=30*m.d:=by simpa[inR]using h2
 have f:cG .i64 (m.n - 1)=m.n - 1:=aF (by omega);simp only[f,RN,A,B,F,H,I,J];refine ak rfl rfl (Bv _ _ _) ?_;(try simp only[RN,A,B,F,H,I,J]);simp[gK.ok,h1,h2]
def akI (f:Fs):Pure C 156 [f.dv] (.d (.bool (!f.bad))) []:=by
 refine ah mixed rfl YH ?_;simp only[MJ,aK,xH,RN,A,B,F,H,I,J]
 repeat' first
  |(refine ak rfl rfl (Bv _ _ _) ?_;try simp only[xH,RN,A,B,F,H,I,J])
  |(refine bF (by rfl) (fun a=> ?_) (fun a=> ?_)<;>simp only[a,xH,RN,A,B,F,H,I,J])
  |(refine bJ (by rfl) (fun a=> ?_) (fun a=> ?_)<;>simp only[a,xH,RN,A,B,F,H,I,J])
 all_goals first|(simp_all[Fs.bad];done)|(simp_all[Fs.bad,bne];done)
def ahL (l:List Fs)(hl:l.length<=1000000):Pure C 64 [sF (l.map Fs.dv)] (.d (.bool (jA l))) []:=by
 refine ah mixed rfl VT ?_;simp only[Jh,aK,L,RN,A,B,F,H,I,J];refine aH l.length (fun i (_:Unit)=>⟨[(0, .d (sF (l.map Fs.dv))),(3,pI i)],⟨[],[],[]⟩⟩)
  (fun i _=>l.any Fs.bad=(l.drop i).any Fs.bad) 0 () (Y _) rfl rfl (fun i _ b a=> ?_) (fun _ a=> ?_)
 ·obtain⟨f,g,h⟩:=rng b hl
  rw[drop_cons b,List.any_cons]at a;have e:=akI (l.getD i default);rw[xH]at e;simp only[f,g,b,getD_map,xH,O,L,RN,A,B,F,H,I,J];refine ak rfl rfl e ?_;cases c:(l.getD i default).bad
  ·rw[c,cz]at a
   simp only[h,RN,A,B,F,H,I,J];exact bn () b rfl a
  ·rw[c,cD]at a
   (try simp only[RN,A,B,F,H,I,J]);simp[jA,a]
 ·rw[Z,List.any_nil]at a
  simp only[X,L,RN,A,B,F,H,I,J];simp[jA,a];omega
def apT (d:Dvd)(hl:d.cir.length<=1000000):Pure C 60 [d.dv] (.d (.bool d.ok)) []:=by
 refine ah mixed rfl Ue ?_;rw[sZ];simp only[GL,aK,L,RN,A,B,F,H,I,J];refine aH d.cir.length (fun i (_:Unit)=>⟨[(1, .d (.aW [dI d.eF,sF (d.cir.map ay)])),(3,pI i)],⟨[some [pI d.eF, .d (sF (d.cir.map ay))]],[0],[]⟩⟩)
  (fun i _=>(d.cir.all fun n=>inR n 1 120)=((d.cir.drop i).all fun n=>inR n 1 120)) 0 () (Y _) rfl rfl (fun i _ b a=> ?_) (fun _ a=> ?_)
 ·obtain⟨e,f,g⟩:=rng b hl
  rw[drop_cons b,bj]at a;simp only[e,f,b,getD_map,aI,O,L,RN,A,B,F,H,I,J];refine ak rfl rfl (aeB _ _ _) ?_;cases c:inR (d.cir.getD i default) 1 120
  ·rw[c,V]at a
   (try simp only[RN,A,B,F,H,I,J]);simp only[Dvd.ok,a,ai]
  ·rw[c,W]at a
   simp only[g,RN,A,B,F,H,I,J];exact bn () b rfl a
 ·rw[Z,bq]at a
  simp only[X,L,RN,A,B,F,H,I,J];refine ak rfl rfl (aeB _ _ _) ?_;cases h1:inR d.eF 1 60
  ·(try simp only[RN,A,B,F,H,I,J])
   simp only[Dvd.ok,h1,V]
  simp only[L,RN,A,B,F,H,I,J];refine ak rfl rfl (aeB _ _ _) ?_;(try simp only[RN,A,B,F,H,I,J]);simp only[Dvd.ok,h1,a,W,bi]
def apS (c:Cal)(hl:c.cy.length<=1000000):Pure C 62 [c.dv] (.d (.bool c.ok)) []:=by
 refine ah mixed rfl QV ?_;rw[fE];simp only[ER,aK,L,RN,A,B,F,H,I,J];refine aH c.cy.length (fun i (_:Unit)=>⟨[(1, .d (.aW [dI c.ep,sF (c.cy.map ay)])),(3,pI i)],⟨[some [pI c.ep, .d (sF (c.cy.map ay))]],[0],[]⟩⟩)
  (fun i _=>JD c.cy 1=JD (c.cy.drop i) (if i=0 then 1 else c.cy.getD (i - 1) default)/\(i≠0->2<=c.cy.getD (i - 1) default)) 0 () (Y _) rfl ⟨rfl,fun h=>absurd rfl h⟩ (fun i _ g e=> ?_) (fun _ e=> ?_)
 ·obtain⟨q,o,p⟩:=rng g hl
  obtain⟨e,n⟩:=e;rw[drop_cons g,JD]at e;simp only[q,o,g,getD_map,aI,O,L,RN,A,B,F,H,I,J];refine ak rfl rfl (Bv _ _ _) ?_;have a:∀b,inR (c.cy.getD i default) ((if i=0 then 1 else c.cy.getD (i - 1) default)+1) 1000=b->JD c.cy 1=(b&&JD (c.cy.drop (i+1)) (c.cy.getD i default)):=fun b m=>by rw[e,m]
  cases m:inR (c.cy.getD i default) 2 1000
  ·have f:=a false (by
    simp only[inR,aw,decide_eq_false_iff_not]at m⊢
    split
    ·omega
    ·rename_i h;have:=n h;omega)
   (try simp only[RN,A,B,F,H,I,J]);simp only[Cal.ok,f,V,ai]
  have j:2<=c.cy.getD i default/\c.cy.getD i default<=1000:=by simpa[inR]using m
  by_cases k:i=0
  ·subst k
   have f:=a true (by simp only[inR,if_true,U,decide_eq_true_eq];omega);have z:¬((0:Nat):Int)>0:=by decide
   simp only[z,p,RN,A,B,F,H,I,J];exact bn () g rfl ⟨by rw[f];rfl,fun _=>j.1⟩
  ·have z:(i:Int)>0:=by omega
   have s:cG .i64 ((i:Int) - 1)=((i - 1:Nat):Int):=by rw[aF (by omega)];omega
   have j0:(0:Int)<=((i - 1:Nat):Int):=by omega
   have r:i - 1<c.cy.length:=by omega
   rw[if_neg k]at a;simp only[z,s,j0,r,o,g,getD_map,aI,O,L,RN,A,B,F,H,I,J]
   by_cases l:c.cy.getD i default<=c.cy.getD (i - 1) default
   ·have f:=a false (by simp only[inR,aw,decide_eq_false_iff_not];omega)
    simp only[l,RN,A,B,F,H,I,J];simp only[Cal.ok,f,V,ai]
   ·have f:=a true (by simp only[inR,U,decide_eq_true_eq];omega)
    simp only[l,p,RN,A,B,F,H,I,J];exact bn () g rfl ⟨by rw[f,if_neg (by omega)];rfl,fun _=>j.1⟩
 ·rw[Z]at e
  have f:=e.1;rw[JD]at f;simp only[X,L,RN,A,B,F,H,I,J];refine ak rfl rfl (Bv _ _ _) ?_;cases h1:inR c.ep 0 1000
  ·(try simp only[RN,A,B,F,H,I,J])
   simp only[Cal.ok,h1,V]
  simp only[L,RN,A,B,F,H,I,J];refine ak rfl rfl (Bv _ _ _) ?_;(try simp only[RN,A,B,F,H,I,J]);simp only[Cal.ok,h1,f,W,bi]
def ahH (b:Bil)(hl:b.dJ.length<=1000000):Pure C 66 [b.dv] (.d (.bool b.ok)) []:=by
 refine ah mixed rfl aa7 ?_;rw[JI];simp only[Qd,aK,L,RN,A,B,F,H,I,J];refine aH b.dJ.length (fun i (_:Unit)=>⟨[(1, .d (.aW [sF (b.dJ.map ay),dI b.gq,dI b.hours,dI b.lC,dI b.pct,dI b.adv])),(3,pI i)],⟨[some [.d (sF (b.dJ.map ay)),pI b.gq,pI b.hours,pI b.lC,pI b.pct,pI b.adv]],[0],[]⟩⟩)
  (fun i _=>b.dJ.all aT=(b.dJ.drop i).all aT) 0 () (Y _) rfl rfl (fun i _ f a=> ?_) (fun _ a=> ?_)
 ·obtain⟨h,j,k⟩:=rng f hl
  rw[drop_cons f,bj]at a;simp only[h,j,f,getD_map,aI,O,L,RN,A,B,F,H,I,J];refine ak rfl rfl (He _) ?_;cases g:aT (b.dJ.getD i default)
  ·rw[g,V]at a
   (try simp only[RN,A,B,F,H,I,J]);simp only[Bil.ok,qY,a,ai,V]
  ·rw[g,W]at a
   simp only[k,RN,A,B,F,H,I,J];exact bn () f rfl a
 ·rw[Z,bq]at a
  simp only[X,L,RN,A,B,F,H,I,J]
  by_cases c:(b.dJ.length:Int)<=8
  case neg=>
   simp only[c,RN,A,B,F,H,I,J];have:¬b.dJ.length<=8:=by omega
   simp[Bil.ok,qY,this,c]
  have l:b.dJ.length<=8:=by omega
  simp only[c,RN,A,B,F,H,I,J]
  repeat' first
   |(refine ak rfl rfl (U4 _ _ _) ?_;try simp only[c,RN,A,B,F,H,I,J])
   |(refine bF (by rfl) (fun e=> ?_) (fun e=> ?_)<;>simp only[e,c,RN,A,B,F,H,I,J])
   |(refine bJ (by rfl) (fun e=> ?_) (fun e=> ?_)<;>simp only[e,c,RN,A,B,F,H,I,J])
  all_goals(simp_all[Bil.ok,qY];done)
def afA (s:Su)(ts:List Int)(ex:Bool):Pure C 67 [s.dv, .slice ex (ts.map ay)] (.d (.agg [.slice ex (ts.map ay),dI s.gq,dI s.hours,dI s.lC,dI s.pct,dI 0])) []:=by
 refine ah mixed rfl abe ?_;rw[gU];simp only[Qj,akY,lu,RN,A,B,F,H,I,J]
end Go.Tel
namespace Go.Tel
open Go.Am
variable{ls:List Lk}
def D9 {n:Nat}(c:n<=ls.length)(h:linked (ls.take n)){a:Nat}(b:a<=n):fO ls a=fO (ls.take n) a:=by
 have:=Ij (ms:=ls.drop n) h a a (by rw[aR];omega);rw[List.take_append_drop]at this;exact this
def ah2 {n a:Nat}(b:a<n):(ls.take n).getD a default=ls.getD a default:=by
 rw[Q,Q,List.getElem?_take,if_pos b]
def PU {n a:Nat}(b:n<=ls.length)(h:linked (ls.take n))(c:a<n):(0<=(ls.getD a default).fr/\(ls.getD a default).fr<=a)/\fO ls (a+1)=fO ls (ls.getD a default).fr.toNat++ [a]:=by
 have d:(ls.take n).length=n:=by rw[aR];omega
 have h1:=h a (by omega);have h2:=nS h (a:=a) (by omega);rw[ah2 c]at h1 h2;refine⟨h1,?_⟩;rw[D9 b h (show a+1<=n by omega),h2,D9 b h (show(ls.getD a default).fr.toNat<=n by omega)]
def ael {n a:Nat}(c:n<=ls.length)(h:linked (ls.take n))(b:a<=n):(fO ls a).length<=a:=by
 rw[D9 c h b];exact OM h (by rw[aR];omega)
def abJ (p:Pc)(n:Nat)(k:n<=p.links.length)(b:linked (p.links.take n))(hl:p.links.length<=1000):∀a,a<=n->Pure C 152 [p.dv,dI (a:Nat)] (.d (sF ((bg p.links a).map Pr.dv))) []:=by
 intro a
 induction a using Nat.strongRecOn with
 |ind a h=>
  intro j;refine bU (aG mixed rfl YN ?_);rw[dZ]at*
  match a,h,j with
  |0,_,_=>
   have z:(((0:Nat):Int)==0)=true:=rfl;simp only[Eb,aJ,z,RN,A,B,F,H,I,J];simp[datum,Mem.row,bg,fO,uV]
  |a+1,h,j=>
   have z:(((a+1:Nat):Int)==0)=false:=by simp;omega
   have s:cG .i64 (((a+1:Nat):Int) - 1)=(a:Int):=by rw[aF (by omega)];omega
   obtain⟨t,e⟩:=PU k b (show a<n by omega);have l:(p.links.getD a default).fr.toNat<=a:=by omega
   have i:=h (p.links.getD a default).fr.toNat (by omega) (by omega);have c:(((p.links.getD a default).fr.toNat:Nat):Int)=(p.links.getD a default).fr:=by omega
   rw[c]at i;have j0:(0:Int)<=(a:Int):=by omega
   have r:a<p.links.length:=by omega
   have m:(bg p.links (p.links.getD a default).fr.toNat).length<=1000:=by
    rw[bg,L];have:=ael k b (show(p.links.getD a default).fr.toNat<=n by omega);omega
   have f:∀x∈(bg p.links (p.links.getD a default).fr.toNat).map Pr.dv,x.fits 2=true:=by
    intro x o;obtain⟨y,_,rfl⟩:=ao.1 o;rw[jJ];exact Ll
   simp only[Eb,aJ,z,s,j0,r,getD_map,nI,O,L,RN,A,B,F,H,I,J];refine ak rfl rfl i ?_;(try simp only[RN,A,B,F,H,I,J]);have g:bg p.links (a+1)=bg p.links (p.links.getD a default).fr.toNat++ [(p.links.getD a default).pr]:=by rw[bg,e,an];rfl
   refine⟨f,by simp,by simp,by rw[L];omega,rfl,by intro y q;subst q;rfl,by simp,by rw[L];omega,?_⟩;rw[g];simp[datum,Mem.row,jJ,DV.strip]
def UN (p:Pc)(b:linked p.links)(hl:p.links.length<=1000){a:Nat}(c:a<=p.links.length):Pure C 152 [p.dv,dI (a:Nat)] (.d (sF ((bg p.links a).map Pr.dv))) []:=
 abJ p p.links.length (bd _) (by rw[bh];exact b) hl a c
def akr (p:Pc)(n:Int):Pure C 153 [p.dv,dI n] (.d (.bool (inR n 1 p.links.length))) []:=by
 refine ah mixed rfl YK ?_;rw[dZ];simp only[MN,aJ,L,RN,A,B,F,H,I,J];refine ak rfl rfl (U4 _ _ _) ?_;(try simp only[RN,A,B,F,H,I,J])
def akv (p:Pc)(hl:p.links.length<=1000)(hh:p.hands.length<=1000):Pure C 58 [p.dv] (.d (.bool p.ok)) []:=by
 have z:∀q:Pr,Pure C 151 [.agg [dI q.a,dI q.b]] (.d (.bool q.ok)) []:=fun q=>by have:=anz q;rwa [jJ]at this
 have v:∀n:Int,Pure C 153 [.agg [sF (p.links.map Lk.dv),sF (p.hands.map ay)],dI n] (.d (.bool (inR n 1 p.links.length))) []:=fun n=>by have:=akr p n;rwa [dZ]at this
 refine ah mixed rfl YL ?_;have x:=dZ (p:=p);rw[dZ];simp only[MO,aK,L,RN,A,B,F,H,I,J];refine ak rfl rfl (U4 _ _ _) ?_;cases u:inR p.links.length 1 5
 ·(try simp only[RN,A,B,F,H,I,J])
  simp only[Pc.ok,u,V]
 simp only[L,RN,A,B,F,H,I,J];refine ak rfl rfl (U4 _ _ _) ?_;cases E:inR p.hands.length 1 4
 ·(try simp only[RN,A,B,F,H,I,J])
  simp only[Pc.ok,u,E,V,W]
 have M:p.links.length<=5:=by simp only[inR,U,decide_eq_true_eq]at u;omega
 have w:p.ok=(jS [] p.links&&p.hands.all (fun n=>inR n 1 p.links.length)):=by simp[Pc.ok,u,E]
 rw[w];(try simp only[RN,A,B,F,H,I,J]);refine aH p.links.length (fun i (_:Unit)=>⟨[(1, .d (.aW [sF (p.links.map Lk.dv),sF (p.hands.map ay)])),(3,pI i)],⟨[some [.d (sF (p.links.map Lk.dv)), .d (sF (p.hands.map ay))]],[0],[]⟩⟩)
  (fun i _=>jS [] p.links=jS (p.links.take i) (p.links.drop i)/\linked (p.links.take i)) 0 () (Y _) rfl ⟨by simp,fun i P=>by simp at P⟩ (fun i _ e c=> ?_) (fun _ c=> ?_)
 ·obtain⟨r,s,t⟩:=rng e (by omega)
  obtain⟨c,j⟩:=c;have l:(p.links.take i).length=i:=by simp;omega
  rw[drop_cons e,jS]at c;have k:mP (p.links.take i) (p.links.getD i default)=false->jS [] p.links=false:=fun h=>by rw[c,h,V]
  simp only[r,s,e,getD_map,nI,O,L,RN,A,B,F,H,I,J];refine ak rfl rfl (U4 _ _ _) ?_;cases g:inR (p.links.getD i default).fr 0 (i:Int)
  ·(try simp only[RN,A,B,F,H,I,J])
   rw[k (by simp only[mP,l,g,V])];rfl
  simp only[r,s,e,getD_map,nI,O,L,RN,A,B,F,H,I,J];refine ak rfl rfl (z _) ?_;cases o:(p.links.getD i default).pr.ok
  ·(try simp only[RN,A,B,F,H,I,J])
   rw[k (by simp only[mP,o,ai,V])];rfl
  have K:0<=(p.links.getD i default).fr/\(p.links.getD i default).fr<=(i:Int):=by simpa[inR]using g
  have f:linked (p.links.take (i+1)):=by rw[aS e];exact JV j K.1 (by rw[l];exact K.2)
  obtain⟨_,D⟩:=PU (show i+1<=p.links.length by omega) f (Nat.lt_succ_self i);have y:=D9 (show i<=p.links.length by omega) j (show(p.links.getD i default).fr.toNat<=i by omega);have m:=abJ p (i+1) (by omega) f hl (i+1) (bd _);have Q:(bg p.links (i+1)).length=(fO (p.links.take i) (p.links.getD i default).fr.toNat).length+1:=by rw[bg,L,D,bs,y];rfl
  rw[x]at m;simp only[t,RN,A,B,F,H,I,J];refine ak rfl rfl m ?_;simp only[L,RN,A,B,F,H,I,J]
  by_cases N:(((bg p.links (i+1)).length:Nat):Int)>3
  ·simp only[N,RN,A,B,F,H,I,J]
   rw[k (by simp only[mP,aw,bE,cr,decide_eq_true_eq];right;omega)];rfl
  ·simp only[N,t,RN,A,B,F,H,I,J]
   have R:mP (p.links.take i) (p.links.getD i default)=true:=by
    simp only[mP,l,g,o,W,bE,cA,decide_eq_false_iff_not];omega
   rw[R,W,<-aS e]at c;exact bn () e rfl ⟨c,f⟩
 ·obtain⟨c,j⟩:=c
  rw[Z,jS]at c;rw[c,W];simp only[X,L,RN,A,B,F,H,I,J];refine aH p.hands.length (fun i (_:Unit)=>⟨[(1, .d (.aW [sF (p.links.map Lk.dv),sF (p.hands.map ay)])),(4,pI i)],⟨[some [.d (sF (p.links.map Lk.dv)), .d (sF (p.hands.map ay))]],[0],[]⟩⟩)
   (fun i _=>(p.hands.all (fun n=>inR n 1 p.links.length))=((p.hands.drop i).all (fun n=>inR n 1 p.links.length))) 0 () (Y _) rfl rfl (fun i _ e c=> ?_) (fun _ c=> ?_)
  ·obtain⟨r,s,t⟩:=rng e (by omega)
   rw[drop_cons e,bj]at c;simp only[r,s,e,getD_map,aI,O,L,RN,A,B,F,H,I,J];refine ak rfl rfl (v _) ?_;cases G:inR (p.hands.getD i default) 1 p.links.length
   ·rw[G,V]at c
    simp only[c,RN,A,B,F,H,I,J]
   ·rw[G,W]at c
    simp only[t,RN,A,B,F,H,I,J];exact bn () e rfl c
  ·rw[Z,bq]at c
   simp only[X,L,c,RN,A,B,F,H,I,J]
def ad1 (m:gK)(d:Int):Bool:=
 let k:=dU (d*m.d - m.ad) m.n
 if dU (k*m.n+m.ad) m.d<d then dU ((k+1)*m.n+m.ad) m.d==d else dU (k*m.n+m.ad) m.d==d
def BH {a b c:Int}(hc:0<c)(h:a<=b):dU a c<=dU b c:=by
 obtain⟨d,e⟩:=oG a c hc;obtain⟨f,g⟩:=oG b c hc;have:dU a c<dU b c+1:=av (a:=c) (by omega) (by omega);omega
variable{m:gK}
def TQ (a:m.ok=true)(d:Int):dU (dU (d*m.d - m.ad) m.n*m.n+m.ad) m.d<=d/\d<=dU ((dU (d*m.d - m.ad) m.n+1)*m.n+m.ad) m.d:=by
 obtain⟨hd,h,g⟩:=m.facts a;obtain⟨e,f⟩:=oG (d*m.d - m.ad) m.n (by omega);have b:dU (d*m.d) m.d=d:=WG (by omega) (ck _) (by rw[bw];omega);refine⟨?_,?_⟩
 ·have:=BH (c:=m.d) (by omega) (show dU (d*m.d - m.ad) m.n*m.n+m.ad<=d*m.d by omega)
  omega
 ·have:=BH (c:=m.d) (by omega) (show d*m.d<=(dU (d*m.d - m.ad) m.n+1)*m.n+m.ad by omega)
  omega
def aaO (g:m.ok=true)(d:Int):ad1 m d=true↔∃k,dU (k*m.n+m.ad) m.d=d:=by
 obtain⟨hd,p,j⟩:=m.facts g;obtain⟨r1,r2⟩:=TQ g d;have e:∀{a b:Int},a<=b->a*m.n+m.ad<=b*m.n+m.ad:=fun h=>by
  have:=az h (show 0<=m.n by omega);omega
 unfold ad1;simp only;generalize dU (d*m.d - m.ad) m.n=K at r1 r2;constructor
 ·intro h
  split at h
  ·exact⟨_,beq_iff_eq.1 h⟩
  ·exact⟨_,beq_iff_eq.1 h⟩
 ·rintro⟨k,o⟩
  split
  ·rename_i i
   have f:K+1<=k:=by
    apply Classical.byContradiction;intro l;have:=BH (c:=m.d) (by omega) (e (show k<=K by omega));omega
   have:=BH (c:=m.d) (by omega) (e f);exact beq_iff_eq.2 (by omega)
  ·exact beq_iff_eq.2 (by omega)
def alM (b:m.ok=true)(n:Int):(0<=yh m n/\yh m n<=30)/\ad1 m (n - yh m n)=true/\∀j,0<=j->j<yh m n->ad1 m (n - j)=false:=by
 obtain⟨hd,F,D⟩:=m.facts b;obtain⟨K,f⟩:∃K,K=dU ((n+1)*m.d - 1 - m.ad) m.n:=⟨_,rfl⟩
 obtain⟨i,l⟩:=oG ((n+1)*m.d - 1 - m.ad) m.n (by omega);rw[<-f]at i l;obtain⟨s,e⟩:∃s,s=dU (K*m.n+m.ad) m.d:=⟨_,rfl⟩
 obtain⟨o,p⟩:=oG (K*m.n+m.ad) m.d (by omega);rw[<-e]at o p;have x:(K+1)*m.n=K*m.n+m.n:=by rw[bw];omega
 have y:(n+1)*m.d=n*m.d+m.d:=by rw[bw];omega
 have z:(s+1)*m.d=s*m.d+m.d:=by rw[bw];omega
 have A:(n - 30)*m.d=n*m.d - 30*m.d:=by rw[Int.sub_mul]
 have v:s<n+1:=av (a:=m.d) (by omega) (by omega);have w:n - 30<s+1:=av (a:=m.d) (by omega) (by omega);have g:yh m n=n - s:=by unfold yh;rw[<-f,<-e]
 rw[g];refine⟨by omega,?_,fun j C E=> ?_⟩
 ·rw[show n - (n - s)=s by omega]
  exact(aaO b s).2 ⟨K,e.symm⟩
 ·cases h:ad1 m (n - j)
  ·rfl
  obtain⟨k,t⟩:=(aaO b _).1 h;obtain⟨q,r⟩:=oG (k*m.n+m.ad) m.d (by omega);rw[t]at q r;have B:(n - j+1)*m.d<=(n+1)*m.d:=az (by omega) (by omega);have u:k<K+1:=av (a:=m.n) (by omega) (by omega);have:=BH (c:=m.d) (by omega) (show k*m.n+m.ad<=K*m.n+m.ad by
   have:=az (show k<=K by omega) (show 0<=m.n by omega);omega)
  omega
def anS (n:Int)(h:0<=n):wd (n+(7 - wd n))=0/\(1<=7 - wd n/\7 - wd n<=7)/\∀j,1<=j->j<7 - wd n->wd (n+j)≠0:=by
 unfold wd;rw[ae (show 0<=n+4 by omega)];refine⟨?_,by omega,fun j h1 h2=> ?_⟩
 ·rw[ae (by omega)];omega
 ·rw[ae (by omega)];omega
end Go.Tel
namespace Go.Tel
open Go.Am
def UO (n:Int)(h:0<=n/\n<=1000000000):Pure C 33 [dI n] (pI (wd n)) []:=by
 have a:cG .i64 (n+4)=n+4:=aF (by omega);have c:0<=(n+4).tmod 7:=Int.tmod_nonneg 7 (by omega);have d:(n+4).tmod 7<7:=Int.tmod_lt_of_pos _ (by decide);have b:cG .i64 ((n+4).tmod 7)=(n+4).tmod 7:=aF (by omega);refine ah mixed rfl Ua ?_;simp only[Gz,aK,a,b,wd,RN,A,B,F,H,I,J];simp
def U3 (n b:Int)(h:n.natAbs<=1000000000000000000)(hb:b≠0):Pure C 357 [dI n,dI b] (pI (dU n b)) []:=by
 have f:=nC n b;have g:=Hq n b;have c:cG .i64 (n.tdiv b)=n.tdiv b:=aF (by omega);have d:cG .i64 (n.tdiv b*b)=n.tdiv b*b:=aF (by omega);have e:cG .i64 (n.tdiv b - 1)=n.tdiv b - 1:=aF (by omega);refine ah mixed rfl YJ ?_;simp only[ML,aJ,c,d,hb,RN,A,B,F,H,I,J]
 by_cases a:n.tdiv b*b>n
 ·simp only[a,e,dU,if_true,RN,A,B,F,H,I,J]
 ·simp only[a,dU,if_false,RN,A,B,F,H,I,J]
def Rz (c:Cal)(y:Int)(hl:c.cy.length<=1000000)(r:∀n∈c.cy,n≠0):Pure C 106 [c.dv,dI y] (.d (.bool (c.leap y))) []:=by
 refine ah mixed rfl aa2 ?_;rw[fE];simp only[P8,aJ,L,RN,A,B,F,H,I,J];refine aH c.cy.length (fun i (n:Nat)=>⟨[(1,pI y),(2, .d (.aW [dI c.ep,sF (c.cy.map ay)])),(5,pI (n:Int)),(6,pI i)],⟨[some [pI c.ep, .d (sF (c.cy.map ay))]],[0],[]⟩⟩)
  (fun i n=>n<=i/\c.leap y=F6 (c.cy.drop i) y (decide (n % 2=1))) 0 0 (Y _) rfl ⟨bd _,rfl⟩ (fun i n b a=> ?_) (fun n a=> ?_)
 ·obtain⟨p,q,g⟩:=rng b hl
  obtain⟨f,a⟩:=a;rw[drop_cons b,F6]at a;have e:=r _ (getD_mem b);have k:cG .i64 ((n:Int)+1)=((n+1:Nat):Int):=by rw[aF (by omega)];omega
  simp only[p,q,b,aI,getD_map,O,L,e,RN,A,B,F,H,I,J];cases j:(y.tmod (c.cy.getD i default)==0)
  ·rw[j]at a
   simp only[g,RN,A,B,F,H,I,J];exact bn n b rfl ⟨by omega,a⟩
  ·rw[j]at a
   simp only[k,g,RN,A,B,F,H,I,J];refine bn (n+1) b rfl ⟨by omega,?_⟩;rw[a]
   congr 1
   by_cases h:n % 2=1
   ·simp[h];omega
   ·simp[h];omega
 ·obtain⟨f,a⟩:=a
  rw[Z,F6]at a;have l:cG .i64 ((n:Int).tmod 2)=((n % 2:Nat):Int):=by
   rw[ae (by omega),aF (by omega)];omega
  have m:(n:Int).tmod 2=((n % 2:Nat):Int):=by rw[ae (by omega)];omega
  have s:¬(2:Int)=0:=by decide
  have o:(((n % 2:Nat):Int)==1)=decide (n % 2=1):=by
   by_cases h:n % 2=1
   ·rw[h];rfl
   ·rw[decide_eq_false h];exact beq_false_of_ne (by omega)
  simp only[X,L,l,m,a,s,o,RN,A,B,F,H,I,J]
def alT {k:Int}(h:1<=k/\k<=12):k=1\/k=2\/k=3\/k=4\/k=5\/k=6\/k=7\/k=8\/k=9\/k=10\/k=11\/k=12:=by omega
def Xo {m:Int}(a:1<=m/\m<=12)(leap:Bool):Pure C 233 [dI m, .bool leap] (.d (dI ((aY leap).getD (m - 1).toNat default))) []:=by
 refine ah mixed rfl VU ?_;simp only[Ji,aJ,RN,A,B,F,H,I,J]
 by_cases h2:m=2
 ·subst h2
  have z:((2:Int)==2)=true:=rfl;cases leap
  ·simp only[z,RN,A,B,F,H,I,J]
   refine JY rfl rfl rfl ?_;(try simp only[RN,A,B,F,H,I,J]);exact⟨by decide,by decide,rfl,bd 1,rfl⟩
  ·simp only[z,RN,A,B,F,H,I,J]
   rfl
 ·have z:(m==2)=false:=beq_false_of_ne h2
  simp only[z,RN,A,B,F,H,I,J];refine JY rfl rfl rfl ?_
  rcases alT a with rfl|rfl|rfl|rfl|rfl|rfl|rfl|rfl|rfl|rfl|rfl|rfl
  all_goals first|exact absurd rfl h2|(cases leap<;>((try simp only[RN,A,B,F,H,I,J]);exact⟨by decide,by decide,rfl,bd 1,rfl⟩))
def am9 (c:Cal)(y:Int)(hl:c.cy.length<=1000000)(a:∀n∈c.cy,n≠0):Pure C 35 [c.dv,dI y] (.d (dI (wH (c.leap y)))) []:=by
 refine ah mixed rfl aa3 ?_;have h:=Rz c y hl a;rw[fE]at h⊢;simp only[P9,aJ,RN,A,B,F,H,I,J];refine ak rfl rfl h ?_;cases c.leap y
 ·(try simp only[RN,A,B,F,H,I,J])
  rfl
 ·(try simp only[RN,A,B,F,H,I,J])
  rfl
def oH (c:Cal):Nat->Int
 |0=>0
 |y+1=>oH c y+(if c.leap y then 1 else 0)
def aaH (c:Cal):∀n,0<=oH c n/\oH c n<=n
 |0=>⟨ck _,ck _⟩
 |n+1=>by
  have:=aaH c n;rw[oH];split<;>omega
def Pz (c:Cal):∀n:Nat,c.first n=c.ep+365*n+oH c n
 |0=>by simp[Cal.first,oH]
 |n+1=>by
  rw[Cal.first,Pz c n,oH,mY]
  split<;>omega
def abI (c:Cal)(hc:c.ok=true)(n:Nat)(t:n<=4000):Pure C 144 [c.dv,dI (n:Int)] (pI (c.first n)) []:=by
 obtain⟨r,s,q⟩:=Cal.facts hc;refine ah mixed rfl YI ?_;rw[fE];have g:cG .i64 (365*(n:Int))=365*n:=aF (by omega);have j:cG .i64 (c.ep+365*(n:Int))=c.ep+365*n:=aF (by omega);simp only[MK,aJ,g,j,RN,A,B,F,H,I,J];refine aH n (fun i (_:Unit)=>⟨[(1,pI n),(2, .d (.aW [dI c.ep,sF (c.cy.map ay)])),(5,pI (c.ep+365*n+oH c i)),(6,pI i)],⟨[some [pI c.ep, .d (sF (c.cy.map ay))]],[0],[]⟩⟩)
  (fun i _=>True) 0 () (Y _) (by simp[oH]) trivial (fun i _ b e=> ?_) (fun _ e=> ?_)
 ·obtain⟨m,o,f⟩:=rng b (by omega)
  have a:=aaH c i;have h:=Rz c i (by omega) (fun k p=>by have:=q k p;omega);rw[fE]at h;have l:cG .i64 (c.ep+365*(n:Int)+oH c i+1)=c.ep+365*n+oH c i+1:=aF (by omega);simp only[m,o,b,RN,A,B,F,H,I,J];refine ak rfl rfl h ?_;cases a:c.leap i
  ·simp only[f,RN,A,B,F,H,I,J]
   exact bn () b (by simp[oH,a]) trivial
  ·simp only[l,f,RN,A,B,F,H,I,J]
   exact bn () b (by simp[oH,a,cB]) trivial
 ·simp only[X,RN,A,B,F,H,I,J]
  rw[Pz]
def Jv:∀(l:List Int) (p:Int) (i:Nat),i<l.length->dS (l.take (i+1)) p=dS (l.take i) p+l.getD i default
 | [],_,_,h=>by simp at h
 |x::l,p,0,_=>by simp[dS]
 |x::l,p,i+1,h=>by
  rw[bp,bp,dS,dS,ax];exact Jv l _ i (by simpa using h)
def am7 (c:Cal)(hc:c.ok=true)(d:Dt)(D:1<=d.m/\d.m<=12)(hd:1<=d.d/\d.d<=31):Pure C 337 [c.dv,d.dv] (.d (dI (d.d - 1+dS ((aY (c.leap d.y)).take (d.m - 1).toNat) 0))) []:=by
 obtain⟨v,z,s⟩:=Cal.facts hc;refine ah mixed rfl aa1 ?_;rw[fE,pY];have n:cG .i64 (d.d - 1)=d.d - 1:=aF (by omega);simp only[P7,aJ,n,RN,A,B,F,H,I,J];refine aH (d.m - 1).toNat (fun i (_:Unit)=>⟨[(2, .d (.aW [dI c.ep,sF (c.cy.map ay)])),(3, .d (.aW [dI d.y,dI d.m,dI d.d])),(5, .d (dI (d.d - 1+dS ((aY (c.leap d.y)).take i) 0))),(6, .d (dI ((i:Int)+1)))],⟨[some [pI c.ep, .d (sF (c.cy.map ay))],some [pI d.y,pI d.m,pI d.d]],[1,0],[]⟩⟩)
  (fun i _=>True) 0 () (Y _) (by simp[dS]) trivial (fun i _ p f=> ?_) (fun _ f=> ?_)
 ·have g:(i:Int)+1<d.m:=by omega
  have q:cG .i64 ((i:Int)+1+1)=(((i+1:Nat):Int)+1):=by rw[aF (by omega)];omega
  have h:=Rz c d.y (by omega) (fun k r=>by have:=s k r;omega);rw[fE]at h;have l:=Xo (m:=(i:Int)+1) (by omega) (c.leap d.y);have b:i<(aY (c.leap d.y)).length:=by rw[nO];omega
  have a:=kY (c.leap d.y);have E:=CZ (aY (c.leap d.y)) i 0 fun x e=>by have:=a x e;omega
  have t:=sG ((aY (c.leap d.y)).take i) 0 fun x e=>by have:=a x (aE e);omega
  have u:dS (aY (c.leap d.y)) 0<=366:=by have:=mY (c.leap d.y);unfold wH at this;rw[this];split<;>decide
  have w:=a _ (getD_mem b);have j:=Jv (aY (c.leap d.y)) 0 i b;rw[show((i:Int)+1 - 1).toNat=i by omega]at l;have o:cG .i64 (d.d - 1+dS ((aY (c.leap d.y)).take i) 0+(aY (c.leap d.y)).getD i default)=d.d - 1+dS ((aY (c.leap d.y)).take i) 0+(aY (c.leap d.y)).getD i default:=aF (by omega);simp only[g,RN,A,B,F,H,I,J];refine ak rfl rfl h ?_;(try simp only[RN,A,B,F,H,I,J]);refine ak rfl rfl l ?_;simp only[o,q,RN,A,B,F,H,I,J];exact bn () p (by rw[j,cB]) trivial
 ·have e:¬(((d.m - 1).toNat:Int)+1<d.m):=by omega
  simp only[e,RN,A,B,F,H,I,J]
def akt (c:Cal)(hc:c.ok=true)(d:Dt)(p:0<=d.y/\d.y<=4000)(g:1<=d.m/\d.m<=12)(hd:1<=d.d/\d.d<=31):Pure C 311 [c.dv,d.dv] (.d (dI (AU c (c.firsts 4002) d))) []:=by
 obtain⟨k,l,n⟩:=Cal.facts hc;have h1:=abI c hc d.y.toNat (by omega);have h2:=am7 c hc d g hd;rw[show((d.y.toNat:Nat):Int)=d.y by omega]at h1;have f:(c.firsts 4002).getD d.y.toNat default=c.first d.y.toNat:=by
  rw[Cal.firsts,Q,bz,bo (by omega)];rfl
 have j:=c.kG d.y.toNat;have a:=kY (c.leap d.y);have o:=CZ (aY (c.leap d.y)) (d.m - 1).toNat 0 fun x b=>by have:=a x b;omega
 have h:=sG ((aY (c.leap d.y)).take (d.m - 1).toNat) 0 fun x b=>by have:=a x (aE b);omega
 have i:dS (aY (c.leap d.y)) 0<=366:=by have:=mY (c.leap d.y);unfold wH at this;rw[this];split<;>decide
 have e:cG .i64 (c.first d.y.toNat+(d.d - 1+dS ((aY (c.leap d.y)).take (d.m - 1).toNat) 0))=AU c (c.firsts 4002) d:=by
  rw[AU,f,aF (by omega)];omega
 refine ah mixed rfl aeb ?_;rw[fE]at h1 h2⊢;rw[pY]at h2⊢;simp only[Uy,aJ,RN,A,B,F,H,I,J];refine ak rfl rfl h1 ?_;(try simp only[RN,A,B,F,H,I,J]);refine ak rfl rfl h2 ?_;simp only[e,RN,A,B,F,H,I,J]
def aev (d:Dt):Pure C 336 [d.dv] (.d (.bool (inR d.y 0 4000&&inR d.m 1 12&&inR d.d 1 31))) []:=by
 refine ah mixed rfl Ub ?_;rw[pY];simp only[GH,aK,RN,A,B,F,H,I,J];refine ak rfl rfl (afE _) ?_;cases h1:inR d.y 0 4000
 ·simp only[V,RN,A,B,F,H,I,J]
 (try simp only[RN,A,B,F,H,I,J]);refine ak rfl rfl (Bv _ _ _) ?_;cases h2:inR d.m 1 12
 ·simp only[V,RN,A,B,F,H,I,J]
 (try simp only[RN,A,B,F,H,I,J]);refine ak rfl rfl (Bv _ _ _) ?_;(try simp only[RN,A,B,F,H,I,J])
def ana (c:Cal)(hc:c.ok=true)(d:Dt):Pure C 310 [c.dv,d.dv] (.d (.bool (jY c d))) []:=by
 obtain⟨l,o,j⟩:=Cal.facts hc;have h1:=aev d;have h2:=Rz c d.y (by omega) (fun k h=>by have:=j k h;omega);refine ah mixed rfl aa5 ?_;rw[fE]at h2⊢;rw[pY]at h1⊢;simp only[Qb,aJ,RN,A,B,F,H,I,J];refine ak rfl rfl h1 ?_;cases e:inR d.y 0 4000
 ·simp only[V,RN,A,B,F,H,I,J]
  simp[jY,e]
 cases a:inR d.m 1 12
 ·simp only[V,ai,RN,A,B,F,H,I,J]
  simp[jY,a]
 have i:1<=d.m/\d.m<=12:=by simpa[inR]using a
 have g:=Xo i (c.leap d.y);have b:(d.m - 1).toNat<(aY (c.leap d.y)).length:=by rw[nO];omega
 have n:=kY (c.leap d.y) _ (getD_mem b);cases f:inR d.d 1 31
 ·(try simp only[RN,A,B,F,H,I,J])
  have:inR d.d 1 ((aY (c.leap d.y)).getD (d.m - 1).toNat default)=false:=by
   simp only[inR,aw,decide_eq_false_iff_not]at f⊢;omega
  simp only[jY,e,a,this,ai]
 have hd:1<=d.d/\d.d<=31:=by simpa[inR]using f
 (try simp only[RN,A,B,F,H,I,J]);refine ak rfl rfl h2 ?_;(try simp only[RN,A,B,F,H,I,J]);refine ak rfl rfl g ?_;(try simp only[RN,A,B,F,H,I,J]);have:jY c d=decide (d.d<=(aY (c.leap d.y)).getD (d.m - 1).toNat default):=by
  rw[jY,e,a,W,W];simp only[inR];rw[decide_eq_true (show d.d>=1 by omega),W]
 rw[this]
def apQ (m:gK)(n:Int)(q:m.ok=true)(h:0<=n/\n<=100000000):Pure C 352 [m.dv,dI n] (.d (.bool (ad1 m n))) []:=by
 obtain⟨hd,y,x⟩:=m.facts q;have D:0<=n*m.d/\n*m.d<=100000000*1000:=⟨am (by omega) (by omega),ab (by omega) hd.2 (by omega) (by omega)⟩
 have u:=X6 (n*m.d - m.ad) m.n (by omega);have v:=Z9 (n*m.d - m.ad) m.n;obtain⟨r1,r2⟩:=TQ q n;have r:cG .i64 (n*m.d)=n*m.d:=aF (by omega);have s:cG .i64 (n*m.d - m.ad)=n*m.d - m.ad:=aF (by omega);obtain⟨K,o⟩:∃K,K=dU (n*m.d - m.ad) m.n:=⟨_,rfl⟩
 have b:ad1 m n=if dU (K*m.n+m.ad) m.d<n then dU ((K+1)*m.n+m.ad) m.d==n else dU (K*m.n+m.ad) m.d==n:=by rw[o];rfl
 have p:=U3 (n*m.d - m.ad) m.n (by omega) (by omega);rw[<-o]at u v r1 r2 p;have w:(K+1)*m.n=K*m.n+m.n:=by rw[bw];omega
 have e:cG .i64 (K*m.n)=K*m.n:=aF (by omega);have f:cG .i64 (K*m.n+m.ad)=K*m.n+m.ad:=aF (by omega);have t:cG .i64 (K+1)=K+1:=aF (by omega);have g:cG .i64 ((K+1)*m.n)=(K+1)*m.n:=aF (by omega);have j:cG .i64 ((K+1)*m.n+m.ad)=(K+1)*m.n+m.ad:=aF (by omega);have k:=U3 (K*m.n+m.ad) m.d (by omega) (by omega);have l:=U3 ((K+1)*m.n+m.ad) m.d (by omega) (by omega);refine ah mixed rfl aec ?_;rw[iy];simp only[Uz,aJ,r,s,RN,A,B,F,H,I,J];refine ak rfl rfl p ?_;(try simp only[RN,A,B,F,H,I,J]);refine jo (fun i:Nat=>⟨[(1,pI n),(2, .d (.aW [dI m.n,dI m.d,dI m.ad])),(5,pI (K+i))],⟨[some [pI m.n,pI m.d,pI m.ad]],[0],[]⟩⟩)
  (fun i=>i=0\/(i=1/\dU (K*m.n+m.ad) m.d<n)) (fun i=>1 - i) 0 (by simp) (.inl rfl) ?_
 rintro i (rfl|⟨rfl,a⟩)
 ·have z:K+((0:Nat):Int)=K:=by omega
  simp only[z,e,f,RN,A,B,F,H,I,J];refine ak rfl rfl k ?_
  by_cases a:dU (K*m.n+m.ad) m.d<n
  ·simp only[a,t,RN,A,B,F,H,I,J]
   refine⟨0,_,by omega, .inl rfl,?_⟩;exact⟨(1:Nat),rfl,rfl,Or.inr rfl⟩
  ·simp only[a,e,f,RN,A,B,F,H,I,J]
   refine ak rfl rfl k ?_;(try simp only[RN,A,B,F,H,I,J]);rw[b,if_neg a]
 ·have z:K+((1:Nat):Int)=K+1:=by omega
  have c:¬dU ((K+1)*m.n+m.ad) m.d<n:=by omega
  simp only[z,g,j,RN,A,B,F,H,I,J];refine ak rfl rfl l ?_;simp only[c,g,j,RN,A,B,F,H,I,J];refine ak rfl rfl l ?_;(try simp only[RN,A,B,F,H,I,J]);rw[b,if_pos a]
def apP (m:gK)(n:Int)(f:m.ok=true)(h:30<=n/\n<=100000000):Pure C 335 [m.dv,dI n] (pI (yh m n)) []:=by
 obtain⟨j,b,c⟩:=alM f n;obtain⟨g,p⟩:∃g:Nat,yh m n=(g:Int):=⟨(yh m n).toNat,by omega⟩
 rw[p]at j b c⊢;refine ah mixed rfl aea ?_;rw[iy];simp only[Ux,aJ,RN,A,B,F,H,I,J];refine jo (fun i:Nat=>⟨[(1,pI n),(2, .d (.aW [dI m.n,dI m.d,dI m.ad])),(5,pI (i:Int))],⟨[some [pI m.n,pI m.d,pI m.ad]],[0],[]⟩⟩)
  (fun i=>i<=g) (fun i=>g - i) 0 rfl (Y _) ?_
 intro i q;have k:cG .i64 (n - (i:Int))=n - i:=aF (by omega);have e:=apQ m (n - i) f (by omega);rw[iy]at e;simp only[k,RN,A,B,F,H,I,J];refine ak rfl rfl e ?_
 by_cases o:i=g
 ·subst o
  rw[b];(try simp only[RN,A,B,F,H,I,J])
 ·have l:cG .i64 ((i:Int)+1)=((i+1:Nat):Int):=by rw[aF (by omega)];omega
  rw[c i (by omega) (by omega)];simp only[l,RN,A,B,F,H,I,J];exact uN (μ:=fun i=>g - i) (a:=i) (E:=fun i:Nat=>⟨[(1,pI n),(2, .d (.aW [dI m.n,dI m.d,dI m.ad])),(5,pI (i:Int))],⟨[some [pI m.n,pI m.d,pI m.ad]],[0],[]⟩⟩) (P:=fun i=>i<=g) (i+1) (by omega) rfl (by omega)
def agY {m:gK}(g:m.ok=true)(n:Int):yh m (m.full n)=13/\(n<=m.full n/\m.full n<=n+44)/\∀j,n<=j->j<m.full n->yh m j≠13:=by
 have go:∀(k:Nat) (n:Int),(∃j:Nat,j<k/\yh m (n+j)=13)->yh m (pK m k n)=13/\(n<=pK m k n/\pK m k n<n+k)/\∀j,n<=j->j<pK m k n->yh m j≠13:=by
  intro k
  induction k with
  |zero=>rintro n ⟨j,d,_⟩;omega
  |succ k l=>
   rintro n ⟨j,d,a⟩;rw[pK]
   split
   ·rename_i h;exact⟨h,by omega,fun j h1 h2=>by omega⟩
   ·rename_i h
    have f:j≠0:=by rintro rfl;simp at a;exact h a
    obtain⟨b,i,c⟩:=l (n+1) ⟨j - 1,by omega,by rw[show n+1+((j - 1:Nat):Int)=n+j by omega];exact a⟩;refine⟨b,by omega,fun q h1 h2=> ?_⟩
    by_cases e:q=n
    ·rw[e];exact h
    ·exact c q (by omega) h2
 obtain⟨j,d,a⟩:=WS m g n;obtain⟨b,i,c⟩:=go 45 n ⟨j,by omega,a⟩;exact⟨b,by unfold gK.full;omega,c⟩
def ahC (c:Cal)(m:gK)(y:Int)(hc:c.ok=true)(s:m.ok=true)(K:0<=y/\y<=4000):Pure C 309 [c.dv,m.dv,dI y] (pI (sunday c m y)) []:=by
 obtain⟨R,U,V⟩:=Cal.facts hc;have l:=akt c hc ⟨y,3,21⟩ K (by simp only;omega) (by simp only;omega);have e:(c.firsts 4002).length=4002:=vM c 4002;have w:=ac6 c (c.firsts 4002) ⟨y,3,21⟩ (yC c hc) (by rw[e];simp only;omega) (by simp only;omega);have g:79<=AU c (c.firsts 4002) ⟨y,3,21⟩:=by
  have D:(c.firsts 4002).getD y.toNat default=c.first y.toNat:=by
   rw[Cal.firsts,Q,bz,bo (by omega)];rfl
  have h1:=c.kG y.toNat;have h2:59<=dS ((aY (c.leap y)).take 2) 0:=by cases c.leap y<;>decide
  simp only[AU,D,show((3:Int) - 1).toNat=2 from rfl];omega
 obtain⟨b,h⟩:∃b,b=AU c (c.firsts 4002) ⟨y,3,21⟩:=⟨_,rfl⟩
 obtain⟨u,N,v⟩:=agY s b;have p:sunday c m y=m.full b+(7 - wd (m.full b)):=by rw[h];rfl
 rw[<-h]at l w g;obtain⟨L,W,M⟩:=anS (m.full b) (by omega);rw[p];generalize m.full b=f at*;generalize O:7 - wd f=E at*;rw[fE,pY]at l;refine ah mixed rfl Ot ?_;rw[fE,iy];simp only[Cm,jr,RN,A,B,F,H,I,J];refine ak rfl rfl l ?_;(try simp only[RN,A,B,F,H,I,J]);refine jo (fun i:Nat=>⟨[(4, .d (.aW [dI m.n,dI m.d,dI m.ad])),(7,pI (b+i))],⟨[some [pI c.ep, .d (sF (c.cy.map ay))],some [pI m.n,pI m.d,pI m.ad]],[1,0],[]⟩⟩)
  (fun i=>b+(i:Int)<=f) (fun i=>(f - b - i).toNat) 0 (by simp) (by omega) ?_
 intro i S;have r:=apP m (b+i) s (by omega);rw[iy]at r;(try simp only[RN,A,B,F,H,I,J]);refine ak rfl rfl r ?_
 by_cases o:b+(i:Int)=f
 ·have z:(yh m (b+(i:Int)) !=13)=false:=by rw[o,u];rfl
  have k:cG .i64 (b+(i:Int)+1)=f+1:=by rw[aF (by omega)];omega
  simp only[z,k,RN,A,B,F,H,I,J];refine jo (fun j:Nat=>⟨[(7,pI (f+1+j))],⟨[some [pI c.ep, .d (sF (c.cy.map ay))],some [pI m.n,pI m.d,pI m.ad]],[1,0],[]⟩⟩)
   (fun j=>(j:Int)+1<=E) (fun j=>(E - j).toNat) 0 (by simp) (by omega) ?_
  intro j T;have G:=UO (f+1+j) (by omega);(try simp only[RN,A,B,F,H,I,J]);refine ak rfl rfl G ?_
  by_cases x:(j:Int)+1=E
  ·have q:(wd (f+1+(j:Int)) !=0)=false:=by rw[show f+1+(j:Int)=f+E by omega,L];rfl
   simp only[q,RN,A,B,F,H,I,J];rw[show f+1+(j:Int)=f+E by omega]
  ·have q:(wd (f+1+(j:Int)) !=0)=true:=by
    have:=M ((j:Int)+1) (by omega) (by omega);rw[show f+((j:Int)+1)=f+1+j by omega]at this;exact bne_iff_ne.2 this
   have t:cG .i64 (f+1+(j:Int)+1)=f+1+((j+1:Nat):Int):=by rw[aF (by omega)];omega
   simp only[q,t,RN,A,B,F,H,I,J];exact uN (μ:=fun j:Nat=>(E - j).toNat) (a:=j) (E:=fun j:Nat=>⟨[(7,pI (f+1+j))],⟨[some [pI c.ep, .d (sF (c.cy.map ay))],some [pI m.n,pI m.d,pI m.ad]],[1,0],[]⟩⟩) (P:=fun j:Nat=>(j:Int)+1<=E) (j+1) (by omega) rfl (by omega)
 ·have z:(yh m (b+(i:Int)) !=13)=true:=bne_iff_ne.2 (v _ (by omega) (by omega))
  have k:cG .i64 (b+(i:Int)+1)=b+((i+1:Nat):Int):=by rw[aF (by omega)];omega
  simp only[z,k,RN,A,B,F,H,I,J];exact uN (μ:=fun i:Nat=>(f - b - i).toNat) (a:=i) (E:=fun i:Nat=>⟨[(4, .d (.aW [dI m.n,dI m.d,dI m.ad])),(7,pI (b+i))],⟨[some [pI c.ep, .d (sF (c.cy.map ay))],some [pI m.n,pI m.d,pI m.ad]],[1,0],[]⟩⟩) (P:=fun i:Nat=>b+(i:Int)<=f) (i+1) (by omega) rfl (by omega)
def abH (c:Cal)(m:gK)(f:Fs)(y:Int)(hc:c.ok=true)(k:m.ok=true)(d:0<=y/\y<=4000)(hf:f.bad=false):Pure C 286 [c.dv,m.dv,f.dv,dI y] (pI (kW c m y f)) []:=by
 obtain⟨n,i⟩:=Fs.facts hf;have g:=ahC c m y hc k d;have l:=XC c m y hc d;have h:=ana c hc ⟨y,f.mo,f.da⟩;refine ah mixed rfl QW ?_;rw[fE,iy]at g;rw[fE,pY]at h;rw[fE,iy,xH];simp only[ES,Bz,RN,A,B,F,H,I,J];cases a:f.mv
 ·have e:=akt c hc ⟨y,f.mo,f.da⟩ d (i a).1 (i a).2
  rw[fE,pY]at e;(try simp only[RN,A,B,F,H,I,J]);refine ak rfl rfl h ?_;cases b:jY c ⟨y,f.mo,f.da⟩
  ·(try simp only[RN,A,B,F,H,I,J])
   simp[kW,a,b]
  ·(try simp only[RN,A,B,F,H,I,J])
   refine ak rfl rfl e ?_;(try simp only[RN,A,B,F,H,I,J]);simp[kW,a,b]
 ·have:=n a
  have j:cG .i64 (sunday c m y+f.af)=sunday c m y+f.af:=aF (by omega);(try simp only[RN,A,B,F,H,I,J]);refine ak rfl rfl g ?_;simp only[j,RN,A,B,F,H,I,J];simp[kW,a]
def En.chg (x:En):Chg:=⟨x.n 0,⟨x.n 1,x.n 2⟩⟩
def mV (p:Pc)(x:En):Pc:=if x.kind=2 then p.changed x.chg else p
def dG (s:Su)(l:List En):Pc:=l.foldl mV s.pc
def oM:List Int->Int->List Int
 | [],n=>[n]
 |x::l,n=>if x<=n then x::oM l n else n::x::l
def dH (l:List Int)(n:Int):List Int×Bool:=if n∈l then(l.erase n,true)else(l,false)
def gY (st:List Int)(c d:Pr):List Int×Bool:=
 let r1:=if c.a≠d.a then dH st d.a else(st,true)
 let r2:=if r1.2=true/\c.b≠d.b then dH r1.1 d.b else r1
 let e:=if c.a≠d.a then oM r2.1 c.a else r2.1
 (if c.b≠d.b then oM e c.b else e,r2.2)
def jH (p:Pc)(x:En):Pr:=(p.links.getD (x.n 0).toNat default).pr
def OX (r:Pc×List Int)(x:En):Pc×List Int:=
 (mV r.1 x,if x.kind=1 then oM r.2 (x.n 0)else if x.kind=2 then(gY r.2 (jH r.1 x) x.chg.pr).1 else r.2)
def iI (s:Su)(l:List En):List Int:=(l.foldl OX (s.pc,[])).2
def lM (h:Int)(r:Fr×Bool)(x:En):Fr×Bool:=
 if x.kind=3/\x.n 0=h then(⟨x.n 1,x.n 2⟩,true)else if x.kind=4/\x.n 0=h then(r.1,false)else r
def dA (l:List En)(h:Int):Fr×Bool:=l.foldl (lM h) (⟨0,0⟩,false)
def Vw (h:Int)(r:Fr×(Fr×Bool))(x:En):Fr×(Fr×Bool):=
 (if x.kind=4/\x.n 0=h then r.2.1 else r.1,lM h r.2 x)
def RP (s:Su)(l:List En)(h:Int):Fr:=(l.foldl (Vw h) (s.tg.getD h.toNat default,(⟨0,0⟩,false))).1
def Sm (l:List En):Int:=l.foldl (fun n x=>if x.kind=4 then n+x.n 1 else n) 0
def Vg (l:List En):List Int:=(l.filter fun x=>x.kind==5).map fun x=>x.n 0
def je (s:Su)(l:List En)(x:En):dG s (l++ [x])=mV (dG s l) x:=by simp[dG]
def ahZ (s:Su)(l:List En):(l.foldl OX (s.pc,[])).1=dG s l:=by
 unfold dG;generalize s.pc=p;generalize ([]:List Int)=st
 induction l generalizing p st with
 |nil=>rfl
 |cons x l a=>simp only[bl];rw[<-a];rfl
def gX (s:Su)(l:List En)(x:En):iI s (l++ [x])=if x.kind=1 then oM (iI s l) (x.n 0)else if x.kind=2 then(gY (iI s l) (jH (dG s l) x) x.chg.pr).1 else iI s l:=by
 unfold iI;simp only[b9,bl,cv,OX,ahZ]
def nR (l:List En)(h:Int)(x:En):dA (l++ [x]) h=lM h (dA l h) x:=by simp[dA]
def alq (s:Su)(l:List En)(h:Int)(f:Fr):(l.foldl (Vw h) (f,(⟨0,0⟩,false))).2=dA l h:=by
 unfold dA;generalize ((⟨0,0⟩,false):Fr×Bool)=o
 induction l generalizing f o with
 |nil=>rfl
 |cons x l a=>simp only[bl];rw[<-a];rfl
def uM (s:Su)(l:List En)(h:Int)(x:En):RP s (l++ [x]) h=if x.kind=4/\x.n 0=h then(dA l h).1 else RP s l h:=by
 unfold RP;simp only[b9,bl,cv,Vw,alq s]
def wF (l:List En)(x:En):Sm (l++ [x])=if x.kind=4 then Sm l+x.n 1 else Sm l:=by simp[Sm]
def zC (l:List En)(x:En):Vg (l++ [x])=if x.kind=5 then Vg l++ [x.n 0]else Vg l:=by
 unfold Vg
 by_cases h:x.kind=5<;>simp[h]
def ni (p:Pc)(c:Chg):List Int:=((bv p.hands.length).filter fun i=>decide (dP (bg p.links (p.hands.getD i default).toNat)≠dP (bg (p.changed c).links (p.hands.getD i default).toNat))).map fun(i:Nat)=>(i:Int)
def UG (s:Su)(p:Pc)(h:Int):Int:=(s.bil (cZ (bg p.links (p.hands.getD h.toNat default).toNat))).price
def aj6 (p:Pc)(h:Int)(f:Fr)(turns:Int):Int:=ahi (bg p.links (p.hands.getD h.toNat default).toNat) f turns
def qh (s:Su)(l:List En)(x:En):Bool:=
 if x.kind=1 then(s.dvd.first (x.n 0)).isSome&&decide ((iI s l).length<8)
 else if x.kind=2 then !decide (jH (dG s l) x=x.chg.pr)&&(gY (iI s l) (jH (dG s l) x) x.chg.pr).2&&(ni (dG s l) x.chg).all fun h=>(dA l h).2
 else if x.kind=3 then !(dA l (x.n 0)).2
 else if x.kind=4 then(dA l (x.n 0)).2&&inR (aj6 (dG s l) (x.n 0) (dA l (x.n 0)).1 100) (-s.lim) s.lim&&decide (x.n 1>=UG s (dG s l) (x.n 0))
 else !((l.any fun y=>y.kind==5&&decide (y.n 0>=x.n 0)))&&s.works (s.first+x.n 0 - 1)
def mJ (s:Su)(l:List En):Bool:=(bv l.length).all fun i=>qh s (l.take i) (l.getD i default)
def O4 (s:Su)(l:List En)(x:En):mJ s (l++ [x])=(mJ s l&&qh s l x):=by
 unfold mJ;rw[bs,bL,cp,List.all_append,bj,bq,bi]
 congr 1
 ·rw[bB]
  simp only[aq,List.mem_range];constructor
  ·intro h i a
   have:=h i a
   rwa [bk (by omega),Q,a6 a,<-Q]at this
  ·intro h i a
   have:=h i a
   rwa [bk (by omega),Q,a6 a,<-Q]
 ·simp[Q]
def mG:∀(l:List Int) (n:Int),(oM l n).Perm (n::l)
 | [],n=>List.Perm.refl _
 |x::l,n=>by
  unfold oM
  split
  ·exact((mG l n).cons x).trans (List.Perm.swap n x l)
  ·exact List.Perm.refl _
def Up (l:List Int):Prop:=l.Pairwise (·<=·)
variable{l:List Int}
def Y5 {n:Int}(h:Up l):Up (oM l n):=by
 induction l with
 |nil=>simp[oM,Up]
 |cons x l d=>
  simp only[Up,bu]at h;unfold oM
  split
  ·rename_i c
   simp only[Up,bu];refine⟨fun a b=> ?_,d h.2⟩
   rcases aD.1 ((mG l n).mem_iff.1 b)with rfl|b
   ·exact c
   ·exact h.1 a b
  ·rename_i c
   simp only[Up,bu];refine⟨fun a b=> ?_,h.1,h.2⟩
   rcases aD.1 b with rfl|b
   ·omega
   ·have:=h.1 a b;omega
def XG {n:Int}(h:Up l):Up (dH l n).1:=by
 unfold dH
 split
 ·exact List.Pairwise.sublist List.erase_sublist h
 ·exact h
def alj {a b:Pr}(h:Up l):Up (gY l a b).1:=by
 have h1:Up (if a.a≠b.a then dH l b.a else(l,true)).1:=by split;exact XG h;exact h
 unfold gY;simp only;generalize (if a.a≠b.a then dH l b.a else(l,true))=r1 at h1;have h2:Up (if r1.2=true/\a.b≠b.b then dH r1.1 b.b else r1).1:=by split;exact XG h1;exact h1
 generalize (if r1.2=true/\a.b≠b.b then dH r1.1 b.b else r1)=r2 at h2;have c:Up (if a.a≠b.a then oM r2.1 a.a else r2.1):=by split;exact Y5 h2;exact h2
 split
 ·exact Y5 c
 ·exact c
def acg {st:List Int}(h:l.Perm st)(c d:Pr):match oz st [] c.a d.a with
  |none=>(gY l c d).2=false
  |some (o,m)=>match oz o m c.b d.b with
   |none=>(gY l c d).2=false
   |some (p,n)=>(gY l c d).2=true/\(gY l c d).1.Perm (p++n):=by
 unfold oz gY dH
 by_cases k:c.a=d.a
 ·simp only[k,ne_eq,not_true_eq_false,if_true,if_false,true_and]
  by_cases j:c.b=d.b
  ·simp only[j,not_true_eq_false,if_true,if_false]
   exact⟨trivial,by simpa using h⟩
  ·simp only[j,not_false_eq_true,if_true,if_false]
   by_cases g:d.b∈st
   ·have f:d.b∈l:=h.mem_iff.2 g
    simp only[g,f,if_true,cm];refine⟨trivial,(mG _ _).trans ?_⟩;exact((h.erase d.b).cons c.b).trans (aL c.b _).symm
   ·have f:d.b∉l:=fun e=>g (h.mem_iff.1 e)
    simp only[g,f,if_false]
 ·simp only[k,ne_eq,not_false_eq_true,if_true,if_false]
  by_cases g:d.a∈st
  ·have f:d.a∈l:=h.mem_iff.2 g
   have h1:=h.erase d.a;simp only[g,f,if_true,cm,true_and]
   by_cases j:c.b=d.b
   ·simp only[j,not_true_eq_false,if_true,if_false]
    exact⟨trivial,(mG _ _).trans ((h1.cons c.a).trans (aL c.a _).symm)⟩
   ·simp only[j,not_false_eq_true,if_true,if_false]
    by_cases i:d.b∈st.erase d.a
    ·have apm:d.b∈l.erase d.a:=h1.mem_iff.2 i
     simp only[i,apm,if_true];refine⟨trivial,(mG _ _).trans ?_⟩;refine((mG _ _).cons c.b).trans ?_;refine(((h1.erase d.b).cons c.a).cons c.b).trans ?_;have:(c.b::c.a::(st.erase d.a).erase d.b).Perm ([c.a,c.b]++(st.erase d.a).erase d.b):=List.Perm.swap _ _ _;exact this.trans List.perm_append_comm
    ·have apm:d.b∉l.erase d.a:=fun e=>i (h1.mem_iff.1 e)
     simp only[i,apm,if_false]
  ·have f:d.a∉l:=fun e=>g (h.mem_iff.1 e)
   simp only[g,f,if_false,bX,false_and]
def abP {a b k:Nat}(hk:0<k):G7 (a*k) (b*k)=G7 a b:=by
 unfold G7;rw[Nat.gcd_mul_right,bN _ _ hk,bN _ _ hk]
def ane {a b c d:Nat}(hb:0<b)(hd:0<d):G7 a b=G7 c d↔a*d=c*b:=by
 constructor
 ·intro h
  unfold G7 at h;simp only[Fr.mk.injEq,Int.natCast_inj]at h;have e:=bc (cj a b);have f:=bc (ce a b);have g:=bc (cj c d);have i:=bc (ce c d);rw[<-i]
  conv=>lhs;lhs;rw[<-e]
  conv=>rhs;rw[<-g];rhs;rw[<-f]
  rw[h.1,h.2];simp only[Nat.mul_assoc,cF,Nat.mul_left_comm]
 ·intro h
  rw[<-abP (a:=a) (b:=b) hd,h,cF b d,abP hb]
def UK:∀(l:List Int) (x p:Int),jQ (l++ [x]) p=jQ l p*x
 | [],_,_=>rfl
 |y::l,x,p=>by simp only[aM,jQ];exact UK l x (p*y)
def gW (l:List Pr):Fr:=⟨jQ (l.map (·.a)) 1,jQ (l.map (·.b)) 1⟩
def UH (l:List Pr)(x:Pr):gW (l++ [x])=mulR (gW l) x:=by simp[gW,mulR,UK]
variable{ls:List Lk}
def QJ (h:linked ls){a:Nat}(b:a<ls.length):bg ls (a+1)=bg ls (ls.getD a default).fr.toNat++ [(ls.getD a default).pr]:=by
 rw[bg,nS h b,an];rfl
def UR {ls:List Lk}(h:linked ls):∀(k i:Nat) (a:List Fr),i+k=ls.length->a.length=i+1->(∀j,j<=i->a.getD j default=gW (bg ls j))->∀j,j<=ls.length->(qW (ls.drop i) a).getD j default=gW (bg ls j)
 |0,i,a,g,c,b,j,f=>by
  rw[List.drop_eq_nil_of_le (by omega),qW];exact b j (by omega)
 |k+1,i,a,g,c,b,j,f=>by
  have d:i<ls.length:=by omega
  have l:=h i d;rw[drop_cons d,qW];refine UR h k (i+1) _ (by omega) (by simp[c]) (fun m n=> ?_) j f
  by_cases e:m<=i
  ·rw[Q,a6 (by omega),<-Q];exact b m e
  ·have:m=i+1:=by omega
   subst this;rw[Q,<-c,List.getElem?_concat_length,bA,b _ (by omega),c,QJ h d,UH]
def abL (h:linked ls){a:Nat}(b:a<=ls.length):(fP ls).getD a default=gW (bg ls a):=by
 have:=UR h ls.length 0 [⟨1,1⟩] (by omega) rfl (fun j c=>by
  have:j=0:=by omega
  subst this;simp[gW,bg,fO,uV,jQ]) a b
 simpa[fP]using this
def Xk {l:List Pr}(h:∀p∈l,p.ok=true):1<=(gW l).n/\1<=(gW l).d:=by
 have f:∀p∈l,1<=p.a/\1<=p.b:=fun p c=>by
  have:=h p c;simp only[Pr.ok,aT,inR,U,decide_eq_true_eq,ge_iff_le]at this;omega
 exact⟨Ed _ 1 (fun x e=>by obtain⟨p,c,rfl⟩:=ao.1 e;exact(f p c).1) (by omega),Ed _ 1 (fun x e=>by obtain⟨p,c,rfl⟩:=ao.1 e;exact(f p c).2) (by omega)⟩
def aeT {l m:List Pr}(hl:∀p∈l,p.ok=true)(b:∀p∈m,p.ok=true):Fa (gW l) (gW m)=decide (dP l=dP m):=by
 obtain⟨c,e⟩:=Xk hl;obtain⟨f,g⟩:=Xk b;have a:∀l,dP l=G7 (gW l).n.natAbs (gW l).d.natAbs:=fun _=>rfl
 rw[a,a,bB,decide_eq_true_iff,ane (by omega) (by omega)];simp only[Fa,beq_iff_eq];rw[<-br,<-br];have h:0<=(gW l).n*(gW m).d:=am (by omega) (by omega);have i:0<=(gW m).n*(gW l).d:=am (by omega) (by omega);omega
def yG (h:linked ls)(e:∀l∈ls,l.pr.ok=true){a:Nat}(b:a<=ls.length):∀p∈bg ls a,p.ok=true:=by
 intro p c;simp only[bg,ao]at c;obtain⟨i,d,rfl⟩:=c;exact e _ (getD_mem (Nat.lt_of_lt_of_le (Uo h b i d) b))
def QH (a b:List Fr):∀(hs:List Int) (i:Nat),uK a b hs i=((cl i hs.length).filter fun j=> !Fa (a.getD (hs.getD (j - i) default).toNat default) (b.getD (hs.getD (j - i) default).toNat default)).map fun(j:Nat)=>(j:Int)
 | [],i=>rfl
 |h::hs,i=>by
  rw[uK,QH a b hs (i+1),ch,List.range'_succ,cg];have e:(cl (i+1) hs.length).filter (fun j=> !Fa (a.getD ((h::hs).getD (j - i) default).toNat default) (b.getD ((h::hs).getD (j - i) default).toNat default))=(cl (i+1) hs.length).filter (fun j=> !Fa (a.getD (hs.getD (j - (i+1)) default).toNat default) (b.getD (hs.getD (j - (i+1)) default).toNat default)):=by
   refine b8 fun j c=> ?_
   have:=(cb.1 c).1;rw[show j - i=(j - (i+1))+1 by omega,ax]
  simp only[Nat.sub_self,a7];rw[e];cases Fa (a.getD h.toNat default) (b.getD h.toNat default)<;>simp
def aeM {p:Pc}{c:Chg}(a:p.ok=true)(hc:c.pr.ok=true):p.rF (p.changed c)=ni p c:=by
 have i:=Dl a hc;have g:=Pc.good a;have b:=Pc.good i;rw[Pc.rF,QH,ni,List.range_eq_range']
 congr 1
 refine b8 fun j h=> ?_
 have d:j<p.hands.length:=by simpa using(cb.1 h)
 have e:inR (p.hands.getD j default) 1 p.links.length=true:=by
  simp only[Pc.ok,U,aq]at a;exact a.2 _ (getD_mem d)
 have f:1<=p.hands.getD j default/\p.hands.getD j default<=p.links.length:=by simpa[inR]using e
 have k:(p.changed c).links.length=p.links.length:=by simp[Pc.changed]
 rw[Nat.sub_zero,abL g.lk (by omega),abL b.lk (by omega),aeT (yG g.lk g.pr (by omega)) (yG b.lk b.pr (by omega))];simp
end Go.Tel
namespace Go.Tel
open Go.Am
def Y6 (c:Cal)(m:gK)(l:List Fs)(y:Int)(hc:c.ok=true)(o:m.ok=true)(p:0<=y/\y<=4000)(hl:l.length<=6)(hf:∀f∈l,f.bad=false):
  Pure C 232 [c.dv,m.dv,sF (l.map Fs.dv),dI y] (.d (sF ((l.map (kW c m y)).map ay))) []:=by
 refine bU (aG mixed rfl Ou ?_);have e:=fun f hf=>abH c m f y hc o p hf
 rw[fE,iy]at e⊢;simp only[CB,Bz,L,RN,A,B,F,H,I,J];refine aH l.length (fun i (_:Unit)=>⟨[(2, .d (sF (l.map Fs.dv))),(3,pI y),(4, .d (.aW [dI c.ep,sF (c.cy.map ay)])),(5, .d (.aW [dI m.n,dI m.d,dI m.ad])),(9, .tsl 1 i 0),(10,pI i)],
  ⟨[some [pI c.ep, .d (sF (c.cy.map ay))],some [pI m.n,pI m.d,pI m.ad]],[1,0],[some ⟨1,[],0,0⟩,some ⟨1,((l.take i).map (kW c m y)).map ay,i,0⟩]⟩⟩)
  (fun i _=>True) 0 () (Y _) rfl trivial (fun i _ a _=> ?_) (fun _ _=> ?_)
 ·obtain⟨g,j,k⟩:=rng a (by omega)
  have h:=e _ (hf _ (getD_mem a));have b:((l.take i).map (kW c m y)).map ay++ [dI (kW c m y (l.getD i default))]=((l.take (i+1)).map (kW c m y)).map ay:=by
   rw[aS a];simp[ay]
  rw[xH]at h;simp only[g,j,a,xH,getD_map,O,L,RN,A,B,F,H,I,J];refine ak rfl rfl h ?_;simp only[DV.strip,fits_int,forall_eq,L,RN,A,B,F,H,I,J];refine⟨by simp,by simp;omega,?_⟩;rw[b,k];exact iQ () a rfl trivial (by simp) (by simp) rfl rfl
 ·simp only[X,L,RN,A,B,F,H,I,J]
  simp[datum,Mem.row]
def aoa (n:Int)(h:0<=n/\n<=1000000000000):Pure C 283 [dI n] (pI (upI n 100)) []:=by
 have a:cG .i64 (n+99)=n+99:=aF (by omega);have c:=nC (n+99) 100;have b:cG .i64 ((n+99).tdiv 100)=(n+99).tdiv 100:=aF (by omega);have z:¬(100:Int)=0:=by decide
 refine ah mixed rfl ahm ?_;simp only[Xh,aK,a,b,z,RN,A,B,F,H,I,J];rw[upI,show n+100 - 1=n+99 by omega]
def Vs:∀(l:List Int) (p:Int),dS l p=p+dS l 0
 | [],p=>by simp[dS]
 |x::l,p=>by rw[dS,dS,Vs l (p+x),Vs l (0+x)];omega
def ard {ts:List Int}(h:∀n∈ts,aT n=true):∀x∈ts.map (fun n=>n*n),0<=x/\x<=3600:=by
 intro x b;obtain⟨n,a,rfl⟩:=ao.1 b;have:=h n a;simp only[aT,inR,U,decide_eq_true_eq]at this;have h1:=am (show 0<=n by omega) (show 0<=n by omega);have h2:=ab (show n<=60 by omega) (show n<=60 by omega) (by omega) (by omega);omega
def aeR:∀(l:List Int) (b:Int),(∀x∈l,0<=x/\x<=b)->0<=dS l 0/\dS l 0<=b*l.length
 | [],b,_=>by simp[dS]
 |x::l,b,h=>by
  have h1:=h x (by simp);have h2:=aeR l b fun y a=>h y (by simp[a])
  rw[dS,Vs,ch];have:b*((l.length+1:Nat):Int)=b*l.length+b:=by
   rw[Int.natCast_add,Int.mul_add];simp
  omega
def ahE (b:Bil)(hb:b.ok=true):Pure C 228 [b.dv] (pI b.price) []:=by
 have e:=hb;simp only[Bil.ok,qY,inR,U,decide_eq_true_eq,aq]at e;obtain⟨⟨⟨⟨⟨⟨Q,M⟩,R⟩,T⟩,V⟩,k6⟩,W⟩:=e;have a:=ard M;obtain⟨j,k⟩:=aeR _ 3600 a;rw[L]at k;obtain⟨S,g⟩:∃S,S=dS (b.dJ.map fun n=>n*n) 0:=⟨_,rfl⟩
 rw[<-g]at j k;have Z:0<=S*b.gq/\S*b.gq<=28800*1000:=⟨am j (by omega),ab (by omega) (by omega) (by omega) (by omega)⟩
 have m2:0<=b.hours*b.lC/\b.hours*b.lC<=40*100:=⟨am (by omega) (by omega),ab (by omega) (by omega) (by omega) (by omega)⟩
 have u1:=nC (S*b.gq+100 - 1) 100;have N:0<=(S*b.gq+100 - 1).tdiv 100:=Int.tdiv_nonneg (by omega) (by decide);have h:b.cost=upI (S*b.gq) 100+b.hours*b.lC:=by rw[Bil.cost,<-g]
 have f:0<=b.cost/\b.cost<=30000000:=by rw[h,upI];omega
 have m3:0<=b.cost*b.pct/\b.cost*b.pct<=30000000*100:=⟨am f.1 (by omega),ab f.2 (by omega) (by omega) (by omega)⟩
 have u2:=nC (b.cost*b.pct+100 - 1) 100;have m:cG .i64 (S*b.gq)=S*b.gq:=aF (by omega);have o:cG .i64 (b.hours*b.lC)=b.hours*b.lC:=aF (by omega);have q:cG .i64 (upI (S*b.gq) 100+b.hours*b.lC)=b.cost:=by rw[h,aF (by rw[upI];omega)]
 have r:cG .i64 (b.cost*b.pct)=b.cost*b.pct:=aF (by omega);have s:cG .i64 (b.cost+upI (b.cost*b.pct) 100)=b.price:=by rw[Bil.price,aF (by rw[upI];omega)]
 have r1:=aoa (S*b.gq) (by omega);have r2:=aoa (b.cost*b.pct) (by omega);refine ah mixed rfl YM ?_;rw[JI];simp only[MP,aK,L,RN,A,B,F,H,I,J];refine aH b.dJ.length (fun i (_:Unit)=>⟨[(1, .d (.aW [sF (b.dJ.map ay),dI b.gq,dI b.hours,dI b.lC,dI b.pct,dI b.adv])),(3, .d (dI (dS ((b.dJ.take i).map fun n=>n*n) 0))),(4,pI i)],
   ⟨[some [.d (sF (b.dJ.map ay)),pI b.gq,pI b.hours,pI b.lC,pI b.pct,pI b.adv]],[0],[]⟩⟩)
  (fun i _=>True) 0 () (Y _) rfl trivial (fun i _ c _=> ?_) (fun _ _=> ?_)
 ·obtain⟨v,w,z⟩:=rng c (by omega)
  have P:=a _ (ao.2 ⟨_,getD_mem c,rfl⟩);have E:=aeR ((b.dJ.take i).map fun n=>n*n) 3600 (fun x G=>a x (by
   obtain⟨n,D,rfl⟩:=ao.1 G;exact ao.2 ⟨n,aE D,rfl⟩))
  rw[L,aR]at E;have t:cG .i64 (b.dJ.getD i default*b.dJ.getD i default)=b.dJ.getD i default*b.dJ.getD i default:=aF (by omega);have u:cG .i64 (dS ((b.dJ.take i).map fun n=>n*n) 0+b.dJ.getD i default*b.dJ.getD i default)=dS ((b.dJ.take (i+1)).map fun n=>n*n) 0:=by
   rw[aS c,an,ap,ca];have:∀(l:List Int) (x p:Int),dS (l++ [x]) p=dS l p+x:=by
    intro l x
    induction l with
    |nil=>intro p;simp[dS]
    |cons y l K=>intro p;rw[aM,dS,dS,K]
   rw[this,aF (by omega)]
  simp only[v,w,c,getD_map,aI,O,L,t,u,z,RN,A,B,F,H,I,J];exact bn () c rfl trivial
 ·rw[bh,<-g]
  simp only[X,L,m,RN,A,B,F,H,I,J];refine ak rfl rfl r1 ?_;simp only[o,q,r,RN,A,B,F,H,I,J];refine ak rfl rfl r2 ?_;simp only[s,RN,A,B,F,H,I,J]
def ank (a b:Nat):Pure C 334 [dI a,dI b] (pI (a8 a b:Nat)) []:=by
 refine ah mixed rfl ad7 ?_;simp only[Ut,aJ,RN,A,B,F,H,I,J];refine jo (fun(q:Nat×Nat)=>⟨[(0,pI q.1),(1,pI q.2)],⟨[],[],[]⟩⟩) (fun q=>a8 q.1 q.2=a8 a b) (fun q=>q.2) (a,b) rfl rfl (fun q e=> ?_)
 by_cases g:q.2=0
 ·have c:¬((q.2:Int)>0):=by omega
  simp only[c,RN,A,B,F,H,I,J];rw[<-e,g,Nat.gcd_zero_right]
 ·have c:((q.2:Int)>0):=by omega
  have d:((q.2:Int)≠0):=by omega
  have f:(q.1:Int).tmod (q.2:Int)=((q.1 % q.2:Nat):Int):=(Int.ofNat_tmod q.1 q.2).symm;simp only[c,d,f,RN,A,B,F,H,I,J];exact RQ (q.2,q.1 % q.2) (Nat.mod_lt _ (by omega)) rfl (by simp only;rw[cE,<-Nat.gcd_rec,cE];exact e) (by simp) (by simp) rfl rfl
def aes (a b:Nat)(j:a<=4611686018427387904)(hb:b<=4611686018427387904)(h:0<b):Pure C 307 [.agg [dI a,dI b]] (.d (G7 a b).dv) []:=by
 refine ah mixed rfl TY ?_;have i:((a8 a b:Nat):Int)≠0:=by
  have:0<a8 a b:=Nat.gcd_pos_of_pos_right _ h;omega
 have c:(a:Int).tdiv (a8 a b:Nat)=((a / a8 a b:Nat):Int):=(ct a _).symm;have e:(b:Int).tdiv (a8 a b:Nat)=((b / a8 a b:Nat):Int):=(ct b _).symm;have f:cG .i64 ((a:Int).tdiv (a8 a b:Nat))=((a / a8 a b:Nat):Int):=by
  rw[c];exact Rq (cf (cq _ _) (by omega))
 have g:cG .i64 ((b:Int).tdiv (a8 a b:Nat))=((b / a8 a b:Nat):Int):=by
  rw[e];exact Rq (cf (cq _ _) (by omega))
 simp only[Gy,QC,RN,A,B,F,H,I,J];refine ak rfl rfl (ank a b) ?_;simp only[i,f,g,bW,G7,RN,A,B,F,H,I,J]
def NS {l:List Pr}(h:∀p∈l,p.ok=true):∀p∈l,(4<=p.a/\p.a<=60)/\4<=p.b/\p.b<=60:=by
 intro p c;have:=h p c;simp only[Pr.ok,aT,inR,U,decide_eq_true_eq]at this;omega
def abK (l:List Pr)(hl:l.length<=3)(j:∀p∈l,p.ok=true):Pure C 287 [sF (l.map Pr.dv)] (.d (dP l).dv) []:=by
 have k:=fun i=>NR (l:=l.take i) (by rw[aR];omega) (NS fun p h=>j p (aE h))
 have g:=NR hl (NS j);refine ah mixed rfl YG ?_;simp only[MI,QC,L,RN,A,B,F,H,I,J];refine aH l.length (fun i (_:Unit)=>⟨[(0, .d (sF (l.map Pr.dv))),(2, .ptr 0 0),(3, .ptr 1 0),(4,pI i)],
   ⟨[some [pI 0,pI 0],some [.d (dI (gW (l.take i)).n), .d (dI (gW (l.take i)).d)]],[],[]⟩⟩)
  (fun i _=>True) 0 () (Y _) rfl trivial (fun i _ c _=> ?_) (fun _ _=> ?_)
 ·obtain⟨r,s,t⟩:=rng c (by omega)
  have v:=NS j _ (getD_mem c);have h1:=k i;have h2:=k (i+1);have m:gW (l.take (i+1))=mulR (gW (l.take i)) (l.getD i default):=by rw[aS c,UH]
  have e:(1<=(gW (l.take (i+1))).n/\(gW (l.take (i+1))).n<=216000)/\1<=(gW (l.take (i+1))).d/\(gW (l.take (i+1))).d<=216000:=h2;rw[m]at e;simp only[mulR]at e;have o:cG .i64 ((gW (l.take i)).n*(l.getD i default).a)=(gW (l.take i)).n*(l.getD i default).a:=aF (by omega);have q:cG .i64 ((gW (l.take i)).d*(l.getD i default).b)=(gW (l.take i)).d*(l.getD i default).b:=aF (by omega);simp only[r,s,c,getD_map,jJ,O,L,o,q,t,RN,A,B,F,H,I,J];exact bn () c (by rw[m];rfl) trivial
 ·rw[bh]
  have aqs:(1<=(gW l).n/\(gW l).n<=216000)/\1<=(gW l).d/\(gW l).d<=216000:=g;have f:=aes (gW l).n.natAbs (gW l).d.natAbs (by omega) (by omega) (by omega);rw[show(((gW l).n.natAbs:Nat):Int)=(gW l).n by omega,show(((gW l).d.natAbs:Nat):Int)=(gW l).d by omega]at f;have u:G7 (gW l).n.natAbs (gW l).d.natAbs=dP l:=rfl;rw[u,bW]at f;rw[bW];simp only[X,L,RN,A,B,F,H,I,J];refine ak rfl rfl f ?_;(try simp only[RN,A,B,F,H,I,J])
def apR (l:List Pr)(f:Fr)(turns:Int)(hl:l.length<=3)(i:∀p∈l,p.ok=true)(hf:f.ok=true)(L:0<=turns/\turns<=10000):Pure C 282 [sF (l.map Pr.dv),f.dv,dI turns] (pI (ahi l f turns)) []:=by
 obtain⟨k,m⟩:=O1 hl (NS i);have E:(0<=f.n/\f.n<=50000)/\1<=f.d/\f.d<=50000:=by simp only[Fr.ok,inR,U,decide_eq_true_eq]at hf;omega
 have c:=abK l hl i;rw[bW]at c;obtain⟨x,j⟩:∃x,x=dP l:=⟨_,rfl⟩
 rw[<-j]at c k m;have M:0<=x.n*f.d/\x.n*f.d<=216000*50000:=⟨am (by omega) (by omega),ab (by omega) (by omega) (by omega) (by omega)⟩
 have O:0<=f.n*x.d/\f.n*x.d<=50000*216000:=⟨am (by omega) (by omega),ab (by omega) (by omega) (by omega) (by omega)⟩
 have G:((x.n*f.d - f.n*x.d)*turns).natAbs<=10800000000*10000:=by
  rw[br];exact cw (by omega) (by omega)
 have K:1<=x.d*f.d/\x.d*f.d<=216000*50000:=by
  have h1:=ab (show 1<=x.d by omega) (show 1<=f.d by omega) (by omega) (by omega);have h2:=ab (show x.d<=216000 by omega) (show f.d<=50000 by omega) (by omega) (by omega);omega
 have o:cG .i64 (x.n*f.d)=x.n*f.d:=aF (by omega);have q:cG .i64 (f.n*x.d)=f.n*x.d:=aF (by omega);have r:cG .i64 (x.n*f.d - f.n*x.d)=x.n*f.d - f.n*x.d:=aF (by omega);have s:cG .i64 ((x.n*f.d - f.n*x.d)*turns)=(x.n*f.d - f.n*x.d)*turns:=aF (by omega);have t:cG .i64 ((x.n*f.d - f.n*x.d)*turns*21600)=(x.n*f.d - f.n*x.d)*turns*21600:=aF (by omega);have u:cG .i64 (x.d*f.d)=x.d*f.d:=aF (by omega);have h:Pure C 306 [sF (l.map Pr.dv), .agg [dI f.n,dI f.d],dI turns] (.d (.tup [dI ((x.n*f.d - f.n*x.d)*turns*21600),dI (x.d*f.d)])) []:=by
  refine ah mixed rfl ad9 ?_;simp only[Uw,QB,RN,A,B,F,H,I,J];refine ak rfl rfl c ?_;simp only[o,q,r,s,t,u,RN,A,B,F,H,I,J]
 have a:ahi l f turns=((x.n*f.d - f.n*x.d)*turns*21600).tdiv (x.d*f.d):=by
  rw[ahi,lT,<-j];simp only[ZW];rw[cC,cC,Int.mul_comm 21600 turns]
 obtain⟨N,e⟩:∃N,N=(x.n*f.d - f.n*x.d)*turns*21600:=⟨_,rfl⟩
 obtain⟨Dn,b⟩:∃Dn,Dn=x.d*f.d:=⟨_,rfl⟩
 have nb:N.natAbs<=10800000000*10000*21600:=by
  rw[e,br];exact cw G (by decide)
 rw[<-e,<-b]at h a;rw[<-b]at K;have P:=nC N Dn;have Q:=nC (-N) Dn;have z:Dn≠0:=by omega
 have v:cG .i64 (0 - N)= -N:=by rw[aF (by omega)];omega
 have w:cG .i64 ((-N).tdiv Dn)=(-N).tdiv Dn:=aF (by omega);have y:cG .i64 (0 - (-N).tdiv Dn)=N.tdiv Dn:=by rw[aF (by omega),Int.neg_tdiv];omega
 have D:cG .i64 (N.tdiv Dn)=N.tdiv Dn:=aF (by omega);refine ah mixed rfl ad8 ?_;rw[bW];simp only[Uu,jr,RN,A,B,F,H,I,J];refine ak rfl rfl h ?_;(try simp only[RN,A,B,F,H,I,J])
 by_cases g:N<0
 ·simp only[g,v,w,y,z,a,RN,A,B,F,H,I,J]
 ·simp only[g,D,z,a,RN,A,B,F,H,I,J]
def afy (p:Pc)(f:p.ok=true){a:Nat}(b:a<=p.links.length):Pure C 235 [p.dv,dI (a:Nat)] (.d (dP (bg p.links a)).dv) []:=by
 have g:=Pc.good f;have c:=UN p g.lk (by have:=g.l2;omega) b;have e:=abK (bg p.links a) (by rw[bg,L];exact g.short a b) (yG g.lk g.pr b);refine ah mixed rfl aa9 ?_;rw[dZ]at c⊢;rw[bW]at e⊢;simp only[Qg,yg,RN,A,B,F,H,I,J];refine ak rfl rfl c ?_;(try simp only[RN,A,B,F,H,I,J]);refine ak rfl rfl e ?_;(try simp only[RN,A,B,F,H,I,J])
def Ky (p:Pc)(c:Chg)(hl:p.links.length<=1000)(a:0<=c.link)(h1:c.link.toNat<p.links.length):Pure C 88 [p.dv,c.dv] (.d (p.changed c).dv) []:=by
 refine bU (aG mixed rfl Uc ?_);have b:p.links.map Lk.dv≠[]:=by intro h;simp at h;rw[h]at h1;simp at h1
 simp only[GI,yg,dZ,sW,RN,A,B,F,H,I,J];refine⟨afl _,b,by simp,by simp;omega,?_⟩;simp only[PV.shift,kC,bM,dB,be,a,h1,L,RN,A,B,F,H,I,J];refine qU rfl rfl (by decide) rfl rfl (by rw[getD_map h1,nI];exact bd 3) ?_;simp only[getD_map h1,nI,setCells,bI,Option.map_none,eP,gI,dB,RN,A,B,F,H,I,J];simp only[datum,cu,fA,Mem.row,dZ,Pc.changed,List.map_set,nI];simp
def V9 (p:Pc)(c:Chg)(i:Nat):(((bv (i+1)).filter fun i=>decide (dP (bg p.links (p.hands.getD i default).toNat)≠dP (bg (p.changed c).links (p.hands.getD i default).toNat))).map fun(i:Nat)=>(i:Int))=
  (((bv i).filter fun i=>decide (dP (bg p.links (p.hands.getD i default).toNat)≠dP (bg (p.changed c).links (p.hands.getD i default).toNat))).map fun(i:Nat)=>(i:Int))++if dP (bg p.links (p.hands.getD i default).toNat)≠dP (bg (p.changed c).links (p.hands.getD i default).toNat)then[(i:Int)]else[]:=by
 rw[cp,List.filter_append,an]
 congr 1
 rw[cg,List.filter_nil]
 by_cases h:dP (bg p.links (p.hands.getD i default).toNat)≠dP (bg (p.changed c).links (p.hands.getD i default).toNat)
 ·rw[if_pos (decide_eq_true h),if_pos h];rfl
 ·rw[if_neg (by rw[decide_eq_true_iff];exact h),if_neg h];rfl
def zG (p:Pc)(c:Chg)(n:Nat):List Int:=((bv n).filter fun i=>decide (dP (bg p.links (p.hands.getD i default).toNat)≠dP (bg (p.changed c).links (p.hands.getD i default).toNat))).map fun(i:Nat)=>(i:Int)
def Zl (p:Pc)(c:Chg)(n:Nat):(zG p c n).length<=n:=by
 rw[zG,L];exact cf (List.length_filter_le _ _) (by simp)
variable{d:Int}
def aoK {C:Ctx}{base:Nat}{M:Mem}{K:PV->Mem->Prop}{KP:DV->Mem->Prop}{a b c:Int}:au C base (.Fe true [1,1]) [.d (.agg [dI a,dI b]), .d (.agg [dI c,dI d])] M K KP=K (.d (.bool (!((a==c)&&(b==d))))) M:=by
 simp[au,dK]
def ahF (p:Pc)(c:Chg)(s:p.ok=true)(hc:c.pr.ok=true)(D:0<=c.link)(h1:c.link.toNat<p.links.length):Pure C 225 [p.dv,c.dv] (.d (sF ((ni p c).map ay))) []:=by
 have g:=Pc.good s;have G:=Dl s hc;have l:=Ky p c (by have:=g.l2;omega) D h1;have x:=fun{a:Nat} (r:a<=p.links.length)=>afy p s r
 have e:=fun{a:Nat} (r:a<=(p.changed c).links.length)=>afy (p.changed c) G r
 have E:(p.changed c).links.length=p.links.length:=by simp[Pc.changed]
 rw[E]at e;obtain⟨q,f⟩:∃q,q=p.changed c:=⟨_,rfl⟩
 have K:q.hands=p.hands:=by rw[f];rfl
 rw[<-f]at l e;rw[dZ (p:=q)]at l e;rw[dZ]at l x;rw[sW]at l;have M:∀n,zG p c n=((bv n).filter fun i=>decide (dP (bg p.links (p.hands.getD i default).toNat)≠dP (bg q.links (p.hands.getD i default).toNat))).map fun(i:Nat)=>(i:Int):=fun n=>by rw[f];rfl
 refine bU (aG mixed rfl VW ?_);rw[dZ,sW];simp only[Jj,aJ,RN,A,B,F,H,I,J];refine ak rfl rfl l ?_;(try simp only[RN,A,B,F,H,I,J]);refine aH p.hands.length (fun i (v:Nat)=>⟨[(2, .d (.aW [sF (p.links.map Lk.dv),sF (p.hands.map ay)])),(5, .tsl 1 v 0),(6, .d (.aW [sF (q.links.map Lk.dv),sF (q.hands.map ay)])),(7,pI i)],
   ⟨[some [.d (sF (p.links.map Lk.dv)), .d (sF (p.hands.map ay))],some [pI c.link,pI c.pr.a,pI c.pr.b],some [.d (sF (q.links.map Lk.dv)), .d (sF (q.hands.map ay))]],[2,1,0],[some ⟨1,[],0,0⟩,some ⟨1,(zG p c i).map ay,v,0⟩]⟩⟩)
  (fun i _=>True) 0 0 (Y _) rfl trivial (fun i v k _=> ?_) (fun v _=> ?_)
 ·obtain⟨t,u,w⟩:=rng k (by have:=g.h2;omega)
  have N:=g.hd _ (getD_mem k);have j:zG p c (i+1)=zG p c i++if dP (bg p.links (p.hands.getD i default).toNat)≠dP (bg q.links (p.hands.getD i default).toNat)then[(i:Int)]else[]:=by rw[f];exact V9 p c i
  have y:=Zl p c i;have r1:=x (a:=(p.hands.getD i default).toNat) (by omega);have r2:=e (a:=(p.hands.getD i default).toNat) (by omega);rw[show(((p.hands.getD i default).toNat:Nat):Int)=p.hands.getD i default by omega,bW]at r1 r2;generalize dP (bg p.links (p.hands.getD i default).toNat)=u1 at*;generalize dP (bg q.links (p.hands.getD i default).toNat)=u2 at*;simp only[t,u,k,getD_map,aI,O,L,RN,A,B,F,H,I,J];refine ak rfl rfl r1 ?_
  try simp only[t,u,k,getD_map,aI,O,L,RN,A,B,F,H,I,J]
  refine ak rfl rfl r2 ?_;simp only[aoK,RN,A,B,F,H,I,J]
  by_cases o:u1=u2
  ·have z:((u1.n==u2.n)&&(u1.d==u2.d))=true:=by rw[o];simp
   rw[if_neg (by simp[o]),List.append_nil]at j;simp only[z,w,RN,A,B,F,H,I,J];rw[<-j];exact iQ v k rfl trivial (by simp) (by simp) rfl rfl
  ·have z:((u1.n==u2.n)&&(u1.d==u2.d))=false:=by
    rw[Bool.eq_false_iff];intro h;simp only[U,beq_iff_eq]at h;apply o;cases u1;cases u2;simp only at h;rw[h.1,h.2]
   rw[if_pos o]at j;simp only[z,DV.strip,fits_int,forall_eq,L,w,RN,A,B,F,H,I,J];refine⟨by simp,by have:=g.h2;omega,?_⟩;refine iQ (v+1) k ?_ trivial (by simp) (by simp) rfl rfl;rw[j,an];rfl
 ·have m:zG p c p.hands.length=ni p c:=rfl
  simp only[X,L,RN,A,B,F,H,I,J];rw[m];simp[datum,Mem.row]
def akF (d:Dvd)(i:Nat)(t:Int)(b:1<=d.eF/\d.eF<=60)(hi:i<d.cir.length)(hc:1<=d.cir.getD i default/\d.cir.getD i default<=120)(g:1<=t):Pure C 234 [d.dv,dI i,dI t] (.d (.bool (JC d.eF (d.cir.getD i default) t))) []:=by
 have a:(0:Int)<=(i:Int):=by omega
 have f:1<=d.eF*d.cir.getD i default/\d.eF*d.cir.getD i default<=7200:=by
  have h1:=ab b.2 hc.2 (by omega) (by omega);have h2:=ab b.1 hc.1 (by omega) (by omega);omega
 have c:cG .i64 (d.eF*d.cir.getD i default)=d.eF*d.cir.getD i default:=aF (by omega);have e:t≠0:=by omega
 refine ah mixed rfl aef ?_;simp only[UD,jr,sZ,hi,a,getD_map,O,L,aI,c,e,JC,RN,A,B,F,H,I,J]
def ahK (d:Dvd)(t:Int)(hd:d.ok=true)(p:1<=t):Pure C 146 [d.dv,dI t] (.d (.tup [(asa (d.first t)).dv, .bool (d.first t).isSome])) []:=by
 obtain⟨f,v,e⟩:=Dvd.TW hd;refine ah mixed rfl abk ?_;have aqm:=fun(i:Nat) (k:i<d.cir.length)=>akF d i t f k (e _ (getD_mem k)) p
 rw[sZ]at aqm⊢;simp only[Qp,OU,L,RN,A,B,F,H,I,J];refine aH d.cir.length (fun i (_:Unit)=>⟨[(1,pI t),(2, .d (.aW [dI d.eF,sF (d.cir.map ay)])),(4, .ptr 1 0),(6,pI i)],⟨[some [pI d.eF, .d (sF (d.cir.map ay))],some [pI 0,pI 0,pI 0]],[0],[]⟩⟩)
  (fun i _=>d.first t=EH d.eF t i (d.cir.drop i)) 0 () (Y _) rfl rfl (fun i _ b a=> ?_) (fun _ a=> ?_)
 ·obtain⟨g,h,o⟩:=rng b (by omega)
  rw[drop_cons b,EH]at a;have c:=e _ (getD_mem b);have w:1<=d.eF*d.cir.getD i default/\d.eF*d.cir.getD i default<=7200:=by
   have h1:=ab f.2 c.2 (by omega) (by omega);have h2:=ab f.1 c.1 (by omega) (by omega);omega
  have l:cG .i64 (d.eF*d.cir.getD i default)=d.eF*d.cir.getD i default:=aF (by omega);have s:((d.eF*d.cir.getD i default).tdiv t).natAbs<=7200:=by
   have:=nC (d.eF*d.cir.getD i default) t;omega
  have m:cG .i64 ((d.eF*d.cir.getD i default).tdiv t)=(d.eF*d.cir.getD i default).tdiv t:=aF (by omega);have u:(((d.eF*d.cir.getD i default).tdiv t).tdiv (d.cir.getD i default)).natAbs<=7200:=by
   have:=nC ((d.eF*d.cir.getD i default).tdiv t) (d.cir.getD i default);omega
  have n:cG .i64 (((d.eF*d.cir.getD i default).tdiv t).tdiv (d.cir.getD i default))=((d.eF*d.cir.getD i default).tdiv t).tdiv (d.cir.getD i default):=aF (by omega);have q:t≠0:=by omega
  have r:d.cir.getD i default≠0:=by omega
  simp only[g,h,b,O,L,RN,A,B,F,H,I,J];refine ak rfl rfl (aqm i b) ?_;cases j:JC d.eF (d.cir.getD i default) t
  ·rw[j]at a
   simp only[o,RN,A,B,F,H,I,J];exact bn () b rfl a
  ·rw[j,if_pos rfl]at a
   simp only[g,h,b,getD_map,aI,O,L,l,m,n,q,r,RN,A,B,F,H,I,J];rw[a]
   rfl
 ·rw[Z,EH]at a
  simp only[X,L,RN,A,B,F,H,I,J];rw[a]
  rfl
structure Rel (s:Su) (l:List En) (t:Sp):Prop where
 pc:t.pc=dG s l
 op:∀h,fZ t.op h=if(dA l h).2 then some (dA l h).1 else none
 nd:(t.op.map (·.1)).Nodup
 tl:t.tg.length=s.tg.length
 tg:∀h:Int,0<=h->h.toNat<s.tg.length->t.tg.getD h.toNat default=RP s l h
 st:(iI s l).Perm t.eH
 up:Up (iI s l)
 co:t.kE=Sm l
 se:t.sets=Vg l
 inc:t.sets.Pairwise (·<·)
def ang (s:Su):Rel s [] s.sp0:=
 {pc:=rfl,op:=fun _=>rfl,nd:=List.nodup_nil,tl:=rfl,tg:=fun _ _ _=>rfl,st:=List.Perm.refl _,up:=List.Pairwise.nil,co:=rfl,se:=rfl,inc:=List.Pairwise.nil}
variable{x:En}
def En.deed1 (h:x.kind=1):x.deed= .cut (x.n 0):=by simp[En.deed,h]
def En.deed2 (h:x.kind=2):x.deed= .change x.chg:=by simp[En.deed,h,En.chg]
def En.deed3 (h:x.kind=3):x.deed= .order (x.n 0) ⟨x.n 1,x.n 2⟩:=by simp[En.deed,h]
def En.deed4 (h:x.kind=4):x.deed= .serve (x.n 0) (x.n 1):=by simp[En.deed,h]
def En.Pq (h:x.kind=5):x.deed= .set (x.n 0):=by simp[En.deed,h]
structure En.Fit (s:Su) (x:En):Prop where
 fm:x.formed=true
 k6:x.kind≠6
 te:x.kind=1->aT (x.n 0)=true
 hd:x.kind=3\/x.kind=4->0<=x.n 0/\(x.n 0).toNat<s.pc.hands.length
 fr:x.kind=3->(⟨x.n 1,x.n 2⟩:Fr).ok=true
 df:kK s s.sp0 x.deed
def En.BL (h:x.formed=true):1<=x.kind/\x.kind<=6:=by
 simp only[En.formed,U,decide_eq_true_eq]at h
 simpa[inR]using h.1.1
def yO (h:x.formed=true){i:Nat}(hi:i<jc x.kind):0<=x.n i/\x.n i<=9999:=by
 simp only[En.formed,U,decide_eq_true_eq,aq]at h;have:=h.2 _ (getD_mem (show i<x.ns.length by omega))
 simpa[inR,En.n]using this
variable{s:Su}
def En.Fit.k (h:x.Fit s):x.kind=1\/x.kind=2\/x.kind=3\/x.kind=4\/x.kind=5:=by
 have:=En.BL h.fm;have:=h.k6;omega
variable{l:List (Int×Fr)}{h:Int}
def ajO (b:(l.map (·.1)).Nodup):((BX l h).map (·.1)).Nodup/\(∀h',fZ (BX l h) h'=if h'=h then none else fZ l h')/\∀k∈(BX l h).map (·.1),k∈l.map (·.1):=by
 induction l with
 |nil=>exact⟨b,fun h'=>by simp[BX,fZ],fun k a=>a⟩
 |cons p l f=>
  simp only[ap,cn]at b;obtain⟨i,j,g⟩:=f b.2;have d:∀(l:List (Int×Fr)) (k:Int),k∉l.map (·.1)->fZ l k=none:=by
   intro l k a
   induction l with
   |nil=>rfl
   |cons q l f=>simp only[ap,aD,not_or]at a;rw[fZ,if_neg a.1];exact f a.2
  unfold BX
  by_cases c:h=p.1
  ·rw[if_pos c]
   refine⟨b.2,fun h'=> ?_,fun k a=>by simp only[ap,aD];exact .inr a⟩
   by_cases e:h'=h
   ·rw[if_pos e,e,c];exact d l _ b.1
   ·rw[if_neg e,fZ,if_neg (by rw[<-c];exact e)]
  ·rw[if_neg c]
   refine⟨?_,fun h'=> ?_,fun k a=> ?_⟩
   ·simp only[ap,cn];exact⟨fun e=>b.1 (g _ e),i⟩
   ·rw[fZ,fZ,j h']
    by_cases e:h'=p.1
    ·rw[if_pos e,if_pos e,if_neg (by rw[e];exact Ne.symm c)]
    ·rw[if_neg e,if_neg e]
   ·simp only[ap,aD]at a⊢;exact a.imp id (g k)
def aei {f:Fr}(a:fZ l h=none)(h':Int):fZ (l++ [(h,f)]) h'=if h'=h then some f else fZ l h':=by
 induction l with
 |nil=>simp[fZ]
 |cons p l c=>
  rw[fZ]at a
  by_cases b:h=p.1
  ·rw[if_pos b]at a;cases a
  ·rw[if_neg b]at a
   rw[aM,fZ,fZ,c a]
   by_cases e:h'=p.1
   ·rw[if_pos e,if_pos e,if_neg (by rw[e];exact Ne.symm b)]
   ·rw[if_neg e,if_neg e]
def ahq (a:fZ l h=none):h∉l.map (·.1):=by
 induction l with
 |nil=>simp
 |cons p l c=>
  rw[fZ]at a
  by_cases b:h=p.1
  ·rw[if_pos b]at a;cases a
  ·rw[if_neg b]at a
   simp only[ap,aD,not_or];exact⟨b,c a⟩
def ac3 {d:Dvd}(hd:d.ok=true){n:Int}(a:aT n=true):(d.cuts n).2=0↔(d.first n).isSome=true:=by
 have h1:inR n 1 400=true:=by simp only[aT,inR,U,decide_eq_true_eq]at a⊢;omega
 unfold Dvd.cuts Dvd.first;rw[hd,h1];simp only[bR,if_true];cases EH d.eF n 0 d.cir<;>simp
variable{p:Pc}
def Vx (f:p.ok=true){h:Int}(j:0<=h)(h1:h.toNat<p.hands.length):lS (bg p.links (p.hands.getD h.toNat default).toNat)=true:=by
 have g:=Pc.good f;have k:=g.hd _ (getD_mem h1);have c:(p.hands.getD h.toNat default).toNat<=p.links.length:=by omega
 have i:=g.short _ c;have b:=yG g.lk g.pr c;have l:1<=(bg p.links (p.hands.getD h.toNat default).toNat).length:=by
  obtain⟨a,e⟩:∃a,(p.hands.getD h.toNat default).toNat=a+1:=⟨(p.hands.getD h.toNat default).toNat - 1,by omega⟩
  rw[e,QJ g.lk (by omega)];simp
 have d:(bg p.links (p.hands.getD h.toNat default).toNat).length<=3:=by rw[bg,L];exact i
 simp only[lS,inR,U,decide_eq_true_eq,aq,ge_iff_le];exact⟨⟨by omega,by omega⟩,b⟩
def adF {n a b:Int}(h:a<=n/\n<=b):inR n a b=true:=by
 simp only[inR,U,decide_eq_true_eq];omega
def aif (a:p.ok=true){h:Int}(b:0<=h)(h1:h.toNat<p.hands.length){f:Fr}(hf:f.ok=true){t:Int}(e:0<=t/\t<=10000):rG p h f t=(aj6 p h f t,0):=by
 have h2:inR h 0 ((p.hands.length:Int) - 1)=true:=adF (by omega);have c:=Vx a b h1;have d:=adF e;simp only[rG,ad5,aj6,a,h2,c,d,hf,bR,if_true]
def ahx (hs:s.ok=true){t:Sp}(g:t.pc.ok=true){h:Int}(d:0<=h)(h1:h.toNat<t.pc.hands.length):Ec s t h.toNat=UG s t.pc h:=by
 have a:=(Su.facts hs).2.2.2.2.2.2.2.2.1;have c:=Vx g d h1;simp only[lS,inR,U,decide_eq_true_eq,aq]at c;obtain⟨⟨_,j⟩,e⟩:=c;have f:(s.bil (cZ (bg t.pc.links (t.pc.hands.getD h.toNat default).toNat))).ok=true:=by
  simp only[Bil.ok,Su.bil,U]at a⊢;refine⟨⟨⟨⟨⟨?_,a.1.1.1.1.2⟩,a.1.1.1.2⟩,a.1.1.2⟩,a.1.2⟩,a.2⟩;simp only[qY,U,decide_eq_true_eq,aq];refine⟨by rw[qp];omega,fun x b=> ?_⟩;simp only[cZ,List.mem_flatMap]at b;obtain⟨q,i,b⟩:=b;have:=e q i;simp only[Pr.ok,U]at this;simp only[aD,be,or_false]at b
  rcases b with rfl|rfl
  ·exact this.1
  ·exact this.2
 simp only[Ec,UG,Bil.VB,f,if_true]
def alZ (b:1<=d)(h1:d.toNat<=s.days.length):s.days.getD (d - 1).toNat default=(s.first+d - 1,s.works (s.first+d - 1)):=by
 have c:s.days.length=s.dur:=by simp[Su.days,Su.pJ]
 have a:(d - 1).toNat<s.dur:=by omega
 rw[Su.days,Su.pJ,Q,bz,bo a];simp only[Option.map_some,bA];rw[show(((d - 1).toNat:Nat):Int)=d - 1 by omega,show s.first+(d - 1)=s.first+d - 1 by omega]
def aaF {l:List Int}(h:l.Pairwise (·<·))(d:Int):(l.isEmpty||decide (d>l.getD (l.length - 1) default))= !(l.any fun y=>decide (y>=d)):=by
 rcases List.eq_nil_or_concat l with rfl|⟨m,x,rfl⟩
 ·rfl
 ·have e:(m++ [x]).getD ((m++ [x]).length - 1) default=x:=by simp[Q]
  rw[List.concat_eq_append]at h⊢;rw[e];have b:∀y∈m,y<x:=fun y a=>(bO.1 h).2.2 y a x (by simp)
  rw[bB];simp only[Bool.or_eq_true,List.isEmpty_iff,List.append_eq_nil_iff,List.cons_ne_self,and_false,false_or,decide_eq_true_eq,b0,b7,List.mem_append,bt];constructor
  ·rintro h1 y (a|rfl)
   ·have:=b y a;omega
   ·omega
  ·intro hh
   have:=hh x (.inr rfl);omega
def aiv (l:List En)(d:Int):((Vg l).any fun y=>decide (y>=d))=l.any fun y=>y.kind==5&&decide (y.n 0>=d):=by
 unfold Vg;rw[List.any_map,List.any_filter]
 rfl
def UW (hs:s.ok=true){n:Nat}{l:List En}{t:Sp}(d:Rel s l t)(hi:zK s n t)(o:∀h,(dA l h).2=true->(dA l h).1.ok=true){x:En}(hx:x.Fit s):qh s l x=(doS s t x.deed).isSome:=by
 obtain⟨z,A,u,j,_⟩:=Su.facts hs;have f:t.eH.length=(iI s l).length:=d.st.length_eq.symm
 rcases hx.k with k|k|k|k|k
 ·rw[En.deed1 k]
  unfold qh;rw[if_pos k];simp only[doS,ac3 j (hx.te k),f]
  by_cases h1:(s.dvd.first (x.n 0)).isSome=true<;>by_cases h2:(iI s l).length<8<;>simp[h1,h2]
 ·rw[En.deed2 k]
  have hd:=hx.df;rw[En.deed2 k]at hd;obtain⟨i,g⟩:=hd;unfold qh;rw[if_neg (by omega),if_pos k,<-d.pc];have v:t.pc.FN x.chg= !decide (jH t.pc x=x.chg.pr):=by
   have:inR x.chg.link 0 ((t.pc.links.length:Int) - 1)=true:=by rw[hi.ll];exact i
   simp only[Pc.FN,hi.pc,g,this,bR,W]
   congr 1
   exact decide_eq_decide.2 ⟨fun h=>h.symm,fun h=>h.symm⟩
  have w:((t.pc.rF (t.pc.changed x.chg)).all fun h=>(fZ t.op h).isSome)=((ni t.pc x.chg).all fun h=>(dA l h).2):=by
   rw[aeM hi.pc g]
   congr 1
   funext h
   rw[d.op];cases(dA l h).2<;>rfl
  simp only[doS,v,w];have c:=acg d.st (jH t.pc x) x.chg.pr;have m:(t.pc.links.getD x.chg.link.toNat default).pr=jH t.pc x:=rfl;rw[m];cases h1:(!decide (jH t.pc x=x.chg.pr))<;>cases h2:((ni t.pc x.chg).all fun h=>(dA l h).2)<;>simp only[V,ai,W,bi,bX,if_false,if_true,Option.isSome_none]
  revert c
  generalize oz t.eH [] (jH t.pc x).a x.chg.pr.a=p;cases p with
  |none=>intro c;simp only at c⊢;rw[c];rfl
  |some p=>
   obtain⟨C,B⟩:=p;simp only;generalize oz C B (jH t.pc x).b x.chg.pr.b=q;cases q with
   |none=>intro c;simp only at c⊢;rw[c];rfl
   |some q=>intro c;obtain⟨E,D⟩:=q;simp only at c⊢;rw[c.1];rfl
 ·rw[En.deed3 k]
  unfold qh;rw[if_neg (by omega),if_neg (by omega),if_pos k];simp only[doS,d.op];cases(dA l (x.n 0)).2<;>rfl
 ·rw[En.deed4 k]
  obtain⟨r,h1⟩:=hx.hd (.inr k);have e:(x.n 0).toNat<t.pc.hands.length:=by rw[hi.hh];exact h1
  unfold qh;rw[if_neg (by omega),if_neg (by omega),if_neg (by omega),if_pos k,<-d.pc];simp only[doS,d.op];cases y:(dA l (x.n 0)).2
  ·rfl
  ·simp only[if_true,W,TD,aif hi.pc r e (o _ y) (show(0:Int)<=100/\(100:Int)<=10000 by omega),ahx hs hi.pc r e]
   split<;>simp_all
 ·rw[En.Pq k]
  have hd:=hx.df;rw[En.Pq k]at hd;obtain⟨i,g⟩:=hd;unfold qh;rw[if_neg (by omega),if_neg (by omega),if_neg (by omega),if_neg (by omega)];simp only[doS,alZ i g,aaF d.inc];rw[d.se,aiv,Bool.and_comm]
  split<;>simp_all
def Uk {l:List En}(a:x.kind≠3)(b:x.kind≠4):dA (l++ [x]) h=dA l h:=by
 rw[nR,lM,if_neg (fun e=>a e.1),if_neg (fun e=>b e.1)]
def rel_step (hs:s.ok=true){n:Nat}{l:List En}{t t':Sp}(c:Rel s l t)(hi:zK s n t){x:En}(hx:x.Fit s)(hd:doS s t x.deed=some t'):Rel s (l++ [x]) t':=by
 obtain⟨F,z,C,E,_⟩:=Su.facts hs
 rcases hx.k with k|k|k|k|k
 ·rw[En.deed1 k]at hd
  simp only[doS]at hd
  split at hd
  ·cases hd
   exact
   {pc:=by rw[je,mV,if_neg (by omega)];exact c.pc
    op:=fun h=>by rw[Uk (by omega) (by omega)];exact c.op h
    nd:=c.nd,tl:=c.tl
    tg:=fun h g h1=>by rw[uM,if_neg (by omega)];exact c.tg h g h1
    st:=by rw[gX,if_pos k];exact(mG _ _).trans ((c.st.cons _).trans (aL _ _).symm)
    up:=by rw[gX,if_pos k];exact Y5 c.up
    co:=by rw[wF,if_neg (by omega)];exact c.co
    se:=by rw[zC,if_neg (by omega)];exact c.se
    inc:=c.inc}
  ·cases hd
 ·rw[En.deed2 k]at hd
  simp only[doS]at hd
  split at hd
  ·have j:=acg c.st (jH t.pc x) x.chg.pr
   have v:(t.pc.links.getD x.chg.link.toNat default).pr=jH t.pc x:=rfl;rw[v]at hd
   revert j hd
   generalize oz t.eH [] (jH t.pc x).a x.chg.pr.a=A;cases A with
   |none=>intro hd _;cases hd
   |some A=>
    obtain⟨J,I⟩:=A;simp only;generalize oz J I (jH t.pc x).b x.chg.pr.b=B;cases B with
    |none=>intro hd _;cases hd
    |some B=>
     obtain⟨N,M⟩:=B;intro hd j;simp only at j hd;cases hd;exact
     {pc:=by rw[je,mV,if_pos k,c.pc]
      op:=fun h=>by rw[Uk (by omega) (by omega)];exact c.op h
      nd:=c.nd,tl:=c.tl
      tg:=fun h g h1=>by rw[uM,if_neg (by omega)];exact c.tg h g h1
      st:=by rw[gX,if_neg (by omega),if_pos k,<-c.pc];exact j.2
      up:=by rw[gX,if_neg (by omega),if_pos k];exact alj c.up
      co:=by rw[wF,if_neg (by omega)];exact c.co
      se:=by rw[zC,if_neg (by omega)];exact c.se
      inc:=c.inc}
  ·cases hd
 ·rw[En.deed3 k]at hd
  simp only[doS]at hd
  split at hd
  ·cases hd
  ·rename_i i
   have i:fZ t.op (x.n 0)=none:=by simpa using i
   cases hd;exact
   {pc:=by rw[je,mV,if_neg (by omega)];exact c.pc
    op:=fun h=>by
     rw[aei i]
     by_cases e:x.n 0=h
     ·have m:dA (l++ [x]) h=(⟨x.n 1,x.n 2⟩,true):=by rw[nR,lM,if_pos ⟨k,e⟩]
      rw[if_pos e.symm,m];rfl
     ·have m:dA (l++ [x]) h=dA l h:=by rw[nR,lM,if_neg (fun q=>e q.2),if_neg (by omega)]
      rw[if_neg (Ne.symm e),m];exact c.op h
    nd:=by
     simp only[an,ap,ca];rw[List.nodup_append];exact⟨c.nd,by simp,fun a r b p=>by simp only[bt]at p;subst p;rintro rfl;exact ahq i r⟩
    tl:=c.tl
    tg:=fun h g h1=>by rw[uM,if_neg (by omega)];exact c.tg h g h1
    st:=by rw[gX,if_neg (by omega),if_neg (by omega)];exact c.st
    up:=by rw[gX,if_neg (by omega),if_neg (by omega)];exact c.up
    co:=by rw[wF,if_neg (by omega)];exact c.co
    se:=by rw[zC,if_neg (by omega)];exact c.se
    inc:=c.inc}
 ·rw[En.deed4 k]at hd
  obtain⟨K,D⟩:=hx.hd (.inr k);simp only[doS]at hd;have d:=c.op (x.n 0)
  revert hd d
  generalize fZ t.op (x.n 0)=o;cases o with
  |none=>intro hd;cases hd
  |some f=>
   intro hd d;simp only at hd
   split at hd
   ·cases hd
    have w:(dA l (x.n 0)).2=true:=by
     cases h:(dA l (x.n 0)).2 with
     |true=>rfl
     |false=>rw[h]at d;simp at d
    rw[w,if_pos rfl]at d;have y:f=(dA l (x.n 0)).1:=Option.some.inj d;obtain⟨G,H,L⟩:=ajO (h:=x.n 0) c.nd;exact
    {pc:=by rw[je,mV,if_neg (by omega)];exact c.pc
     op:=fun h=>by
      rw[H]
      by_cases e:x.n 0=h
      ·have m:dA (l++ [x]) h=((dA l h).1,false):=by rw[nR,lM,if_neg (by omega),if_pos ⟨k,e⟩]
       rw[if_pos e.symm,m];rfl
      ·have m:dA (l++ [x]) h=dA l h:=by rw[nR,lM,if_neg (by omega),if_neg (fun q=>e q.2)]
       rw[if_neg (Ne.symm e),m];exact c.op h
     nd:=G
     tl:=by simp[c.tl]
     tg:=fun h g h1=>by
      rw[uM]
      by_cases e:x.n 0=h
      ·rw[if_pos ⟨k,e⟩,<-e,<-y]
       simp only[Q,List.getElem?_set_self (show(x.n 0).toNat<t.tg.length by rw[c.tl,z];exact D),bA]
      ·rw[if_neg (fun q=>e q.2),<-c.tg h g h1]
       have:(x.n 0).toNat≠h.toNat:=by omega
       simp only[Q,List.getElem?_set_ne this]
     st:=by rw[gX,if_neg (by omega),if_neg (by omega)];exact c.st
     up:=by rw[gX,if_neg (by omega),if_neg (by omega)];exact c.up
     co:=by rw[wF,if_pos k,<-c.co]
     se:=by rw[zC,if_neg (by omega)];exact c.se
     inc:=c.inc}
   ·cases hd
 ·rw[En.Pq k]at hd
  simp only[doS]at hd
  split at hd
  ·rename_i u
   cases hd;rw[aaF c.inc]at u;simp only[U,b0,b7,decide_eq_true_eq]at u;exact
   {pc:=by rw[je,mV,if_neg (by omega)];exact c.pc
    op:=fun h=>by rw[Uk (by omega) (by omega)];exact c.op h
    nd:=c.nd,tl:=c.tl
    tg:=fun h g h1=>by rw[uM,if_neg (by omega)];exact c.tg h g h1
    st:=by rw[gX,if_neg (by omega),if_neg (by omega)];exact c.st
    up:=by rw[gX,if_neg (by omega),if_neg (by omega)];exact c.up
    co:=by rw[wF,if_neg (by omega)];exact c.co
    se:=by rw[zC,if_pos k,c.se]
    inc:=by
     rw[bO];exact⟨c.inc,List.pairwise_singleton _ _,fun a r b p=>by simp only[bt]at p;have:=u.2 a r;omega⟩}
  ·cases hd
def uH {α:Type}{P:List α->Prop}(h0:P [])(h1:∀l x,P l->P (l++ [x]))(l:List α):P l:=by
 have:∀m:List α,P m.reverse:=by
  intro m
  induction m with
  |nil=>exact h0
  |cons x m ih=>rw[List.reverse_cons];exact h1 _ _ ih
 have h:=this l.reverse
 rwa [List.reverse_reverse]at h
def L6 (l:List En)(h:Int):(∀x∈l,x.Fit s)->(dA l h).2=true->(dA l h).1.ok=true:=by
 induction l using uH with
 |h0=>intro _ e;simp[dA]at e
 |h1 l x a=>
  intro b;rw[nR,lM];have c:=b x (by simp);have a:=a fun y d=>b y (by simp[d])
  split
  ·rename_i e;intro _;exact c.fr e.1
  ·split
   ·intro e;cases e
   ·exact a
def JH (s:Su):∀(l:List De) (x:De) (t:Sp),pX s (l++ [x]) t=(pX s l t).bind fun t=>doS s t x
 | [],x,t=>by simp[pX]
 |y::l,x,t=>by
  simp only[aM,pX];cases doS s t y with
  |none=>rfl
  |some t1=>exact JH s l x t1
def anf (hs:s.ok=true)(l:List En):(∀x∈l,x.Fit s)->mJ s l=(pX s (l.map En.deed) s.sp0).isSome/\∀t,pX s (l.map En.deed) s.sp0=some t->Rel s l t/\zK s l.length t:=by
 induction l using uH with
 |h0=>exact fun _=>⟨rfl,fun t e=>by cases e;exact⟨ang s,aeL hs⟩⟩
 |h1 l x p=>
  intro g;have a:∀y∈l,y.Fit s:=fun y k=>g y (by simp[k])
  have f:=g x (by simp);obtain⟨m,o⟩:=p a;rw[O4,an,ap,ca,JH,m];cases hd:pX s (l.map En.deed) s.sp0 with
  |none=>exact⟨by simp,fun t e=>by cases e⟩
  |some t=>
   obtain⟨i,b⟩:=o t hd;have j:=UW hs i b (fun h=>L6 l h a) f;simp only[Option.isSome_some,W,Option.bind_some];refine⟨j,fun q c=> ?_⟩;have d:=kK.same (n:=l.length) (t:=s.sp0) (t':=t) b.ll.symm b.hh.symm f.df;exact⟨rel_step hs i b f c,by rw[bs,bL];exact ai0 b d c⟩
end Go.Tel
namespace Go.Tel
open Go.Am
def ai7 (xs:List En):∀y∈xs.map En.dv,y.cells.length=2:=by
 intro y a;obtain⟨z,_,rfl⟩:=ao.1 a;rw[dM];rfl
def Rt (xs:List Int):∀y∈xs.map ay,y.cells.length=1:=by
 intro y a;obtain⟨z,_,rfl⟩:=ao.1 a
 rfl
def am6 (s:Su)(hh:s.pc.hands.length<=1000)(n:Int):Pure C 135 [s.dv,dI n] (.d (.bool (inR n 0 ((s.pc.hands.length:Int) - 1)))) []:=by
 have a:cG .i64 ((s.pc.hands.length:Int) - 1)=(s.pc.hands.length:Int) - 1:=aF (by omega);refine ah mixed rfl abg ?_;rw[gU];simp only[Ql,aJ,L,a,RN,A,B,F,H,I,J];refine ak rfl rfl (afC _ _ _) ?_;(try simp only[RN,A,B,F,H,I,J])
def am8 (s:Su)(hs:s.ok=true):Pure C 141 [s.dv] (.d (dI (wH (s.cal.leap s.year)))) []:=by
 obtain⟨_,_,_,_,a,_⟩:=Su.facts hs;obtain⟨c,e,b⟩:=Cal.facts a;have h:=am9 s.cal s.year (by omega) (fun n h=>by have:=b n h;omega);refine ah mixed rfl abb ?_;rw[fE]at h;rw[gU];simp only[Qh,aK,RN,A,B,F,H,I,J];refine ak rfl rfl h ?_;(try simp only[RN,A,B,F,H,I,J])
def aks (s:Su)(hs:s.ok=true)(n:Int):Pure C 139 [s.dv,dI n] (.d (.bool (inR n 1 (wH (s.cal.leap s.year))))) []:=by
 have h:=am8 s hs;refine ah mixed rfl aed ?_;rw[gU]at h⊢;simp only[UA,aJ,RN,A,B,F,H,I,J];refine ak rfl rfl h ?_;(try simp only[RN,A,B,F,H,I,J]);refine ak rfl rfl (afC _ _ _) ?_;(try simp only[RN,A,B,F,H,I,J])
def akA (s:Su)(hs:s.ok=true)(n:Int)(D:1<=n/\n<=1000):Pure C 142 [s.dv,dI n] (.d (.bool (s.works (s.first+n - 1)))) []:=by
 obtain⟨_,_,_,_,g,x,w,y,_⟩:=Su.facts hs;obtain⟨e,h⟩:=tC w;obtain⟨c,_,_⟩:=Cal.facts g;have h1:=abI s.cal g s.year.toNat (by omega);rw[show((s.year.toNat:Nat):Int)=s.year by omega]at h1;have h2:=Y6 s.cal s.jf s.fs s.year g x y e h;have u:=s.cal.kG s.year.toNat;have j:s.first=s.cal.first s.year.toNat:=rfl;have b:s.dates=s.fs.map (kW s.cal s.jf s.year):=rfl;rw[<-j]at h1 u;rw[<-b]at h2;have p:cG .i64 (s.first+n)=s.first+n:=aF (by omega);have l:cG .i64 (s.first+n - 1)=s.first+n - 1:=aF (by omega);have m:=UO (s.first+n - 1) (by omega);obtain⟨N,o⟩:∃N,N=s.first+n - 1:=⟨_,rfl⟩
 rw[<-o]at l m;refine ah mixed rfl YV ?_;rw[fE]at h1;rw[fE,iy]at h2;rw[gU];simp only[Na,aJ,RN,A,B,F,H,I,J];refine ak rfl rfl h1 ?_;simp only[p,<-o,l,RN,A,B,F,H,I,J];refine ak rfl rfl h2 ?_;simp only[L,RN,A,B,F,H,I,J];have v:s.dates.length<=6:=by rw[b,L];exact e
 refine aH s.dates.length (fun i (_:Unit)=>⟨[(5,pI N),(6, .d (sF (s.dates.map ay))),(7,pI i)],⟨[some (s.cs.map .d)],[0],[]⟩⟩)
  (fun i _=>s.dates.contains N=(s.dates.drop i).contains N) 0 () (Y _) rfl rfl (fun i _ f a=> ?_) (fun _ a=> ?_)
 ·obtain⟨q,r,t⟩:=rng f (by omega)
  rw[drop_cons f,List.contains_cons]at a;simp only[q,r,f,getD_map,aI,O,L,RN,A,B,F,H,I,J]
  by_cases c:s.dates.getD i default=N
  ·have z:(s.dates.getD i default==N)=true:=by rw[c];exact beq_self_eq_true _
   have k:(N==s.dates.getD i default)=true:=by rw[c];exact beq_self_eq_true _
   rw[k,cD]at a;simp only[z,RN,A,B,F,H,I,J];simp only[Su.works,a,cA,ai]
  ·have z:(s.dates.getD i default==N)=false:=beq_false_of_ne c
   have k:(N==s.dates.getD i default)=false:=beq_false_of_ne (Ne.symm c);rw[k,cz]at a;simp only[z,t,RN,A,B,F,H,I,J];exact bn () f rfl a
 ·rw[Z]at a
  simp only[X,L,RN,A,B,F,H,I,J];refine ak rfl rfl m ?_;(try simp only[RN,A,B,F,H,I,J]);have:s.dates.contains N=false:=by rw[a];rfl
  simp only[Su.works,this,cr,bi,wd]
def akw (x:En)(h:3<=x.ns.length):Pure C 223 [x.dv] (.d (.agg [dI (x.n 1),dI (x.n 2)])) []:=by
 have a:(0:Int)<=1:=by omega
 have l1:1<x.ns.length:=by omega
 have b:(0:Int)<=2:=by omega
 have l2:2<x.ns.length:=by omega
 refine ah mixed rfl abj ?_;rw[dM];simp only[Qo,QC,a,t1,l1,b,t2,l2,L,getD_map,aI,RN,A,B,F,H,I,J]
 rfl
def oL (s:Su)(l:List En):(dG s l).links.length=s.pc.links.length/\(dG s l).hands=s.pc.hands:=by
 induction l using uH with
 |h0=>exact⟨rfl,rfl⟩
 |h1 l x a=>
  rw[je,mV]
  split
  ·exact⟨by simp[Pc.changed,a.1],a.2⟩
  ·exact a
variable{s:Su}
def ahv (hs:s.ok=true)(l:List En)(hl:∀x∈l,x.Fit s):(dG s l).ok=true:=by
 induction l using uH with
 |h0=>exact(Su.facts hs).1
 |h1 l x a=>
  rw[je,mV];have a:=a fun y b=>hl y (by simp[b])
  split
  ·rename_i k
   have hd:=(hl x (by simp)).df;rw[En.deed2 k]at hd;exact Dl a hd.2
  ·exact a
variable{x:En}
def Dz (h:x.Fit s):x.ns.length=jc x.kind:=by
 have:=h.fm;simp only[En.formed,U,decide_eq_true_eq]at this;exact this.1.2
def BJ (h:x.Fit s)(k:x.kind=2):(0<=x.n 0/\(x.n 0).toNat<s.pc.links.length)/\x.chg.pr.ok=true:=by
 have hd:=h.df;rw[En.deed2 k]at hd;obtain⟨h1,h2⟩:=hd;have h1:inR (x.n 0) 0 ((s.pc.links.length:Int) - 1)=true:=h1;simp only[inR,U,decide_eq_true_eq]at h1;exact⟨by omega,h2⟩
def UM (s:Su)(hs:s.ok=true)(l:List En)(hl:∀x∈l,x.Fit s)(o:l.length<=1000):Pure C 137 [s.dv,sF (l.map En.dv)] (.d (dG s l).dv) []:=by
 have p:=(Pc.good (Su.facts hs).1).l2;have b:=fun i (x:En) (f:x.Fit s) (k:x.kind=2)=>Ky (dG s (l.take i)) x.chg (by rw[(oL _ _).1];omega) (BJ f k).1.1 (by rw[(oL _ _).1];exact(BJ f k).1.2)
 simp only[dZ,sW]at b;refine ah mixed rfl YP ?_;rw[gU];simp only[MR,yg,L,RN,A,B,F,H,I,J];refine aH l.length (fun i (_:Unit)=>⟨[(1, .d (sF (l.map En.dv))),(4, .ptr 1 0),(5, .ptr 2 0),(6,pI i)],
   ⟨[some (s.cs.map .d),some [.d (.slice true []), .d (.slice true [])],some [.d (sF ((dG s (l.take i)).links.map Lk.dv)), .d (sF ((dG s (l.take i)).hands.map ay))]],[0],[]⟩⟩)
  (fun i _=>True) 0 () (Y _) rfl trivial (fun i _ a _=> ?_) (fun _ _=> ?_)
 ·obtain⟨g,h,j⟩:=rng a (by omega)
  have f:=hl _ (getD_mem a);have c:=Dz f;have e:dG s (l.take (i+1))=mV (dG s (l.take i)) (l.getD i default):=by rw[aS a,je]
  simp only[g,h,a,getD_map,dM,O,L,RN,A,B,F,H,I,J]
  by_cases k:(l.getD i default).kind=2
  ·have z:((l.getD i default).kind==2)=true:=beq_iff_eq.2 k
   have r:(l.getD i default).ns.length=3:=by rw[c,k];rfl
   have m:=akw (l.getD i default) (by omega);have n:=b i _ f k;rw[dM]at m;have q:0<(l.getD i default).ns.length:=by omega
   simp only[z,g,h,a,getD_map,dM,O,L,j0,t0,q,aI,RN,A,B,F,H,I,J];refine ak rfl rfl m ?_;(try simp only[RN,A,B,F,H,I,J]);refine ak rfl rfl n ?_;simp only[j,RN,A,B,F,H,I,J];exact bn () a (by rw[e,mV,if_pos k]) trivial
  ·have z:((l.getD i default).kind==2)=false:=beq_false_of_ne k
   simp only[z,j,RN,A,B,F,H,I,J];exact bn () a (by rw[e,mV,if_neg k]) trivial
 ·simp only[X,L,RN,A,B,F,H,I,J]
  rw[bh,dZ]
def GY (l:List Int)(n:Int):(oM l n).length=l.length+1:=by rw[(mG l n).length_eq];rfl
def afx (n:Int):∀(l:List Int) (i:Nat),i<=l.length->(∀j,j<i->l.getD j default<=n)->oM l n=l.take i++oM (l.drop i) n
 |l,0,_,_=>by simp
 | [],i+1,h,_=>by simp at h
 |x::l,i+1,h,b=>by
  have a:=b 0 (by omega);simp only[a7]at a;rw[oM,if_pos a,bp,List.drop_succ_cons,aM,afx n l i (by simpa using h) fun j c=>by
   have:=b (j+1) (by omega)
   rwa [ax]at this]
def G5 (l:List Int)(n:Int)(t:l.length<=1000):Pure C 280 [sF (l.map ay),dI n] (.d (sF ((oM l n).map ay))) []:=by
 refine bU (aG mixed rfl aee ?_);simp only[UC,aJ,be,RN,A,B,F,H,I,J];refine jo (fun i:Nat=>⟨[(0, .d (sF (l.map ay))),(1,pI n),(5, .tsl 1 i 0),(6,pI i)],⟨[],[],[some ⟨1,[],0,0⟩,some ⟨1,(l.take i).map ay,i,0⟩]⟩⟩)
  (fun i=>i<=l.length/\∀j,j<i->l.getD j default<=n) (fun i=>l.length - i) 0 rfl ⟨Y _,fun j h=>by omega⟩ ?_
 rintro i ⟨s,o⟩;have g:=afx n l i s o;have f:(i=l.length\/(∃h:i<l.length,¬l.getD i default<=n))->(l.take i).map ay++(dI n::(l.drop i).map ay)=(oM l n).map ay:=by
  intro h;rw[g]
  rcases h with rfl|⟨h,u⟩
  ·simp[oM,ay]
  ·rw[drop_cons h,oM,if_neg u];simp[ay]
 have p:(0:Int)<=(i:Int):=by omega
 have q:(i:Int)<=((l.map ay).length:Int):=by rw[L];omega
 have c:(i=l.length\/(∃h:i<l.length,¬l.getD i default<=n))->datum ⟨[],[],[some ⟨1,[],0,0⟩,some ⟨1,(l.take i).map ay++ [dI n]++(l.drop i).map ay,i+1+1,0⟩]⟩ (.tsl 1 (i+1+1) 0)=some (sF ((oM l n).map ay)):=by
  intro h;rw[<-f h];simp[datum,Mem.row]
 by_cases a:i<l.length
 ·obtain⟨k,m,r⟩:=rng a (by omega)
  by_cases b:l.getD i default<=n
  ·simp only[k,m,a,getD_map,aI,O,L,b,iC,DV.strip,fits_int,forall_eq,RN,A,B,F,H,I,J]
   refine⟨by simp,by simp;omega,?_⟩;simp only[r,RN,A,B,F,H,I,J];refine RQ (i+1) (by omega) ?_ ⟨by omega,fun j h=> ?_⟩ (by simp) (by simp) rfl rfl
   ·rw[aS a,an];rfl
   ·by_cases e:j=i
    ·rw[e];exact b
    ·exact o j (by omega)
  ·simp only[k,m,a,getD_map,aI,O,L,b,iC,DV.strip,fits_int,forall_eq,RN,A,B,F,H,I,J]
   refine⟨by simp,by simp;omega,?_⟩;rw[Dw (Rt l) p q,<-bS,O];simp only[L,RN,A,B,F,H,I,J];refine⟨FY _,by simp,by simp;omega,?_⟩;exact c (.inr ⟨a,b⟩)
 ·have v:¬(i:Int)<(l.length:Int):=by omega
  simp only[v,L,iC,DV.strip,fits_int,forall_eq,RN,A,B,F,H,I,J];refine⟨by simp,by simp;omega,?_⟩;rw[Dw (Rt l) p q,<-bS,O];simp only[L,RN,A,B,F,H,I,J];refine⟨FY _,by simp,by simp;omega,?_⟩;exact c (.inl (by omega))
def Vu (n:Int):∀(l:List Int) (i:Nat),i<=l.length->(∀j,j<i->l.getD j default≠n)->(n∈l↔n∈l.drop i)/\(∀_:i<l.length,l.getD i default=n->l.erase n=l.take i++l.drop (i+1))
 |l,0,_,_=>⟨by simp,fun h e=>by
  cases l with
  |nil=>simp at h
  |cons x l=>simp only[a7]at e;subst e;simp⟩
 | [],i+1,h,_=>by simp at h
 |x::l,i+1,h,b=>by
  have a:=b 0 (by omega);simp only[a7]at a;obtain⟨f,g⟩:=Vu n l i (by simpa using h) fun j d=>by
   have:=b (j+1) (by omega)
   rwa [ax]at this
  refine⟨by simp[Ne.symm a,f],fun h1 e=> ?_⟩;rw[ax]at e;have c:¬(x==n)=true:=by simp[a]
  rw[List.erase_cons_tail c,g (by simpa using h1) e];simp
def Ns (l:List Int)(n:Int)(p:l.length<=1000):Pure C 281 [sF (l.map ay),dI n] (.d (.tup [sF ((dH l n).1.map ay), .bool (dH l n).2])) []:=by
 refine bU (aG mixed rfl YU ?_);simp only[MZ,dY,be,RN,A,B,F,H,I,J];refine aH l.length (fun i (_:Unit)=>⟨[(0, .d (sF (l.map ay))),(1,pI n),(6,pI i)],⟨[],[],[some ⟨1,[],0,0⟩]⟩⟩)
  (fun i _=>∀j,j<i->l.getD j default≠n) 0 () (Y _) rfl (fun j h=>by omega) (fun i _ b a=> ?_) (fun _ a=> ?_)
 ·obtain⟨m,o,k⟩:=rng b (by omega)
  obtain⟨t1,t2⟩:=Vu n l i (by omega) a;simp only[m,o,b,getD_map,aI,O,L,RN,A,B,F,H,I,J]
  by_cases c:l.getD i default=n
  ·have z:(l.getD i default==n)=true:=by rw[c];exact beq_self_eq_true _
   have q:(0:Int)<=(i:Int):=by omega
   have r:(i:Int)<=((l.map ay).length:Int):=by rw[L];omega
   have s:(0:Int)<=((i+1:Nat):Int):=by omega
   have t:((i+1:Nat):Int)<=((l.map ay).length:Int):=by rw[L];omega
   have f:n∈l:=by rw[<-c];exact getD_mem b
   have g:dH l n=(l.take i++l.drop (i+1),true):=by rw[dH,if_pos f,t2 b c]
   simp only[z,RN,A,B,F,H,I,J];rw[yN (Rt l) q r,<-List.map_take,O];simp only[L,RN,A,B,F,H,I,J];refine⟨FY _,by simp,by simp,by simp;omega,?_⟩;simp only[k,RN,A,B,F,H,I,J];rw[Dw (Rt l) s t,<-bS,O];simp only[L,RN,A,B,F,H,I,J];refine⟨FY _,by simp,by simp;omega,?_⟩;rw[g];simp[datum,cu,fA,Mem.row,aco,iZ]
  ·have z:(l.getD i default==n)=false:=beq_false_of_ne c
   simp only[z,k,RN,A,B,F,H,I,J];refine bn () b rfl fun j u=> ?_
   by_cases e:j=i
   ·rw[e];exact c
   ·exact a j (by omega)
 ·obtain⟨t1,_⟩:=Vu n l l.length (bd _) a
  rw[Z]at t1;have f:n∉l:=fun e=>by simpa using t1.1 e
  have g:dH l n=(l,false):=by rw[dH,if_neg f]
  simp only[X,L,RN,A,B,F,H,I,J];rw[g];rfl
end Go.Tel
