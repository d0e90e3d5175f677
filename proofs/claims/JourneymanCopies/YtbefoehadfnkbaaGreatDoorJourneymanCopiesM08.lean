/-
  Part 8 of a law of desks.
  Conditions: none.
-/
import Derived.Test.YtbefoehadfnkbaaGreatDoorJourneymanCopiesM04
import Derived.Test.YtbefoehadfnkbaaGreatDoorJourneymanCopiesM07
set_option linter.all false
set_option maxRecDepth 10000
set_option maxHeartbeats 4000000
open Nat renaming reduceBEq->r,reduceAdd->A,reduceSub->B,reduceEqDiff->F,reduceLT->H,reduceLeDiff->I,zero_le->U,le_refl->ai,gcd->aA,le_trans->aB,mul_le_mul->aC,mod_lt->aW,lt_succ_self->a7,mod_eq_of_lt->a8,div_le_self->be,gcd_comm->bl,succ_mul->bn
open List renaming length_map->J,drop_length->X,length_append->ab,getD_eq_getElem?_getD->am,append_assoc->ao,map_append->au,mem_of_mem_take->av,length_take->aw,mem_map->ax,getD_cons_succ->ay,append_nil->az,take_length->aD,all_cons->aE,getD_cons_zero->aF,take_succ_cons->aG,map_cons->aI,length_cons->aL,all_nil->aM,range->aN,nil_append->aO,getElem?_range->aR,map_drop->aU,mem_cons_self->aV,getElem?_map->aZ,cons_append->a6
open Int renaming toNat_natCast->O,lt_irrefl->V,mul_le_mul->Y,tmod_eq_emod_of_nonneg->ae,lt_of_mul_lt_mul_right->ak,mul_le_mul_of_nonneg_right->ap,mul_nonneg->aq,add_mul->aH,eq_ofNat_of_zero_le->aJ,natCast_zero->aK,ofNat_tdiv->aQ,add_zero->aY,le_refl->bc,natAbs_mul->bg,ofNat_tmod->bh,add_assoc->bj,mul_assoc->bk
open Bool renaming false_and->Q,true_and->W,and_eq_true->Z,and_false->aj,and_eq_false_iff->an,not_eq_eq_eq_not->aP,and_true->aS,false_or->aT,true_or->aX,eq_iff_iff->bd,not_false->bf,not_true->bi
open ByteArray renaming size_append->ah
open Go.IntKind renaming wrap->bo
namespace Go.Tel
open Go.Am
def aAo:anH:=(s0 [ba 4 0 1,mf 6 false] 1 [0,2,4] [4] (sw (sr [mi 7 0] 0 [0,2,4,7] (lp (sw (sr [mv 14 7,mv 15 2,oa 16 .len 15,ob 17 pL 14 16] 0 [0,2,4,7,17] (cx 17 0)) (sw (b1 (s0 [mv 21 0,mv 22 2,mv 23 7,ix 24 2 22 23,lw 25 2 24,ob 26 (.call 21) 21 25,mv 20 26,xa 27 0 20,xa 28 1 20,mv 8 27,mv 9 28] 0 [0,2,4,7,8,9] [8] (sw (r1 [ou 30 (.load true 19) 4 1,mv 31 2,mv 32 7,ob1 33 (.anU 2) 31 32 1,ou 34 (.load true 2) 33 1,ob 35 (.anD 54) 30 34,mv 29 35,xa 36 0 29,xa 37 1 29,mv 10 36,mv 11 37] 0 [0,2,4,7,8,9,10,11] []) (sr [mv 38 9,mv 39 11,ob 40 pQ 38 39,mv 41 40,ow 42 .mov 8 41 0,ow 43 .mov 10 41 0,obF 44 (.anD 23) 42 43 41 0,ow 45 pN 44 41 0,pt 46 41 45] 0 [0,2,4,7,46] (cd 46 (sr [mf 6 false] 0 [6] .ret) .skip))))) (rg [mv 18 7,oi 19 pA 18 1,mv 7 19] 0 [0,2,4,7]))))) (sr [mv 48 0,oa 49 (.apl 48) 48,mv 47 49,xa 50 0 47,xa 51 1 47,mv 12 50,mv 13 51] 0 [4,12,13] (sr [mv 52 13,oi 53 pE 52 0,mv 54 53,ov 55 .mov 12 54 0,ov 56 (.load true 19) 4 54 0,ov 57 (.anD 130) 56 54 0,obT 58 pE 55 57 54 0,pf 59 54 58,mv 6 59] 0 [6] .ret))))
def aB4:anH:=(sr [ba 1 0 0] 1 [1] (sw (sr [mi 2 0] 0 [1,2] (lp (sw (sr [mv 8 2,fa 9 0 1,fa 10 0 9,lo 11 10,oa 12 .len 11,ob 13 pL 8 12] 0 [1,2,13] (cx 13 0)) (sw (b1 (rg [fa 16 0 1,fa 17 0 16,lo 18 17,mv 19 2,on 20 (.build [z0,z0] [(0,1),(1,1)]) [kI 59,kI 7],oa 21 (.build [z0,z0,z0] [(1,2)]) 20,ix 22 3 18 19,sk 3 22 21 0] 0 [1,2])) (rg [mv 14 2,oi 15 pA 14 1,mv 2 15] 0 [1,2]))))) (sw (sr [mi 3 0] 0 [1,3] (.block 2 (.loop (sw (sr [mv 23 3,fa 24 0 1,fa 25 1 24,lo 26 25,oa 27 .len 26,ob 28 pL 23 27] 0 [1,3,28] (cx 28 2)) (sw (.block 3 (rg [fa 31 0 1,fa 32 1 31,lo 33 32,mv 34 3,ix 35 1 33 34,os (.store 1) [.t 35,kI 1] 0] 0 [1,3])) (rg [mv 29 3,oi 30 pA 29 1,mv 3 30] 0 [1,3])))))) (sw (sr [mi 4 0] 0 [1,4] (.block 4 (.loop (sw (sr [mv 36 4,fa 37 2 1,lo 38 37,oa 39 .len 38,ob 40 pL 36 39] 0 [1,4,40] (cx 40 4)) (sw (.block 5 (rg [fa 43 2 1,lo 44 43,mv 45 4,on 46 (.build [z0,z0] [(0,1),(1,1)]) [kI 7,kI 3],ix 47 2 44 45,sk 2 47 46 0] 0 [1,4])) (rg [mv 41 4,oi 42 pA 41 1,mv 4 42] 0 [1,4])))))) (sw (sr [mi 5 0] 0 [1,5] (.block 6 (.loop (sw (sr [mv 48 5,fa 49 4 1,fa 50 1 49,lo 51 50,oa 52 .len 51,ob 53 pL 48 52] 0 [1,5,53] (cx 53 6)) (sw (.block 7 (rg [fa 56 4 1,fa 57 1 56,lo 58 57,mv 59 5,ix 60 1 58 59,os (.store 1) [.t 60,kI 1] 0] 0 [1,5])) (rg [mv 54 5,oi 55 pA 54 1,mv 5 55] 0 [1,5])))))) (sw (sr [mi 6 0] 0 [1,6] (.block 8 (.loop (sw (sr [mv 61 6,fa 62 6 1,fa 63 1 62,lo 64 63,oa 65 .len 64,ob 66 pL 61 65] 0 [1,6,66] (cx 66 8)) (sw (.block 9 (rg [fa 69 6 1,fa 70 1 69,lo 71 70,mv 72 6,mv 73 6,on 74 pA [kI 900,.t 73],ix 75 1 71 72,sk 1 75 74 0] 0 [1,6])) (rg [mv 67 6,oi 68 pA 67 1,mv 6 68] 0 [1,6])))))) (sr [mi 7 0] 0 [1,7] (.block 10 (.loop (sw (sr [mv 76 7,fa 77 11 1,lo 78 77,oa 79 .len 78,ob 80 pL 76 79] 0 [1,7,80] (cx 80 10)) (sw (.block 11 (rg [fa 83 11 1,lo 84 83,mv 85 7,on 86 (.build [.bool false,z0,z0,z0] [(1,1),(2,1)]) [kI 12,kI 31],ix 87 4 84 85,sk 4 87 86 0] 0 [1,7])) (rg [mv 81 7,oi 82 pA 81 1,mv 7 82] 0 [1,7]))))))))))))
def aB0:anH:=(sr [al 0 0 [zs,zs,zs,z0,z0,zs,z0,zs,z0,z0,z0,zs,z0,z0,z0,z0,z0]] 1 [0] (sr [on 1 (.anD 158) [],on 2 (.build [z0,z0] [(0,1),(1,1)]) [kI 1,kI 3],on 3 (.build [z0,z0] [(0,1),(1,1)]) [kI 1499,kI 2000],ob 4 (.aoM 2 [.agg [z0,z0],.agg [z0,z0]] [0,1]) 2 3,on 5 (.anD 159) [],on 6 (.anD 160) [],on 7 (.anD 161) [],on 8 (.build [.bool false,z0,z0,z0] [(0,1)]) [.c (.bool true)],on 9 (.build [.bool false,z0,z0,z0] [(1,1),(2,1)]) [kI 1,kI 6],ob 10 (.aoM 4 [.agg [.bool false,z0,z0,z0],.agg [.bool false,z0,z0,z0]] [0,1]) 8 9,on 11 (.build [zs,zs,zs,z0,z0,zs,z0,zs,z0,z0,z0,zs,z0,z0,z0,z0,z0] [(0,2),(2,1),(3,1),(4,2),(6,2),(8,3),(11,1),(12,1),(13,1),(14,1),(15,1),(16,1)]) [.t 1,.t 4,kI 100,.t 5,.t 6,.t 7,.t 10,kI 1,kI 3,kI 6,kI 4,kI 10],sk 17 0 11 0] 0 [0] .ret))
def aLf:anH:=(sr [al 0 0 [zs,zs]] 1 [0] (sr [on 1 (.anD 238) [kI 10,kI 20],oa 2 (.build [z0,z0,z0] [(1,2)]) 1,on 3 (.anD 238) [kI 12,kI 18],on 4 (.build [z0,z0,z0] [(0,1),(1,2)]) [kI 1,.t 3],on 5 (.anD 238) [kI 15,kI 10],on 6 (.build [z0,z0,z0] [(0,1),(1,2)]) [kI 1,.t 5],on 7 (.aoM 3 [.agg [z0,z0,z0],.agg [z0,z0,z0],.agg [z0,z0,z0]] [0,1,2]) [.t 2,.t 4,.t 6],on 8 (.aoM 1 [z0,z0] [0,1]) [kI 2,kI 3],ob 9 (.build [zs,zs] [(0,1),(1,1)]) 7 8,sk 2 0 9 0] 0 [0] .ret))
def aLe:anH:=(sr [al 0 0 [z0,zs]] 1 [0] (sr [on 1 (.aoM 1 [z0] [0]) [kI 4],oa 2 (.build [z0,zs] [(1,1)]) 1,sk 2 0 2 0] 0 [0] .ret))
def aLd:anH:=(sr [al 0 0 [z0,z0,z0]] 1 [0] (sr [on 1 (.build [z0,z0,z0] [(0,1),(1,1)]) [kI 59,kI 2],sk 3 0 1 0] 0 [0] .ret))
def aEi:anH:=(sr [al 4 0 [z0,z0]] 1 [0,1,4] (sr [mv 5 0,mv 6 1,ob 7 (.build [z0,z0] [(0,1),(1,1)]) 5 6,sk 2 4 7 0] 0 [4] .ret))
def aLg:anH:=(sr [al 0 0 [z0,zs]] 1 [0] (sr [on 1 (.aoM 1 [z0,z0,z0] [0,1,2]) [kI 15,kI 21,kI 27],on 2 (.build [z0,zs] [(0,1),(1,1)]) [kI 40,.t 1],sk 2 0 2 0] 0 [0] .ret))
def azb {base sz:Nat}{zs:List DV}{a:List Nat}{args:List PV}{ds xs:List DV}{M:Mem}{K:PV->Mem->Prop}{KP:DV->Mem->Prop}(h1:aos M args=some ds)(h2:auq sz zs a (ds.map DV.strip)=some xs)(b:M.frz args=M)(c:K (.d (.slice true xs)) M):anG C base (.aoM sz zs a) args M K KP:=by
 simp only[anG,h1,h2,b];exact c
def aNr (a b:Int):Pure C 238 [dI a,dI b] (.d (.agg [dI a,dI b])) []:=by
 refine am6 aEi awU ?_;simp only[aEi,awU,arw,RN,r,A,I]
def P_k:Pure C 158 [] (.d (.agg [.slice true (arh.pc.links.map Lk.dv), .slice true (arh.pc.hands.map anF)])) []:=by
 refine am6 aLf aDC ?_;simp only[aLf,aDC,RN,r,A,I];refine anE (aNr 10 20) ?_;(try simp only[RN,r,A,I]);refine anE (aNr 12 18) ?_;(try simp only[RN,r,A,I]);refine anE (aNr 15 10) ?_;(try simp only[RN,r,A,I]);refine azb rfl rfl rfl ?_;(try simp only[RN,r,A,I]);refine azb rfl rfl rfl ?_;simp only[arw,RN,r,A,I]
 rfl
def O_k:Pure C 160 [] (.d (.agg [dI 0, .slice true [dI 4]])) []:=by
 refine am6 aLe aDC ?_;simp only[aLe,aDC,arw,RN,r,A,I];exact⟨rfl,rfl⟩
def M_k:Pure C 161 [] (.d (.agg [dI 59,dI 2,dI 0])) []:=by
 refine am6 aLd aTu ?_;simp only[aLd,aTu,arw,RN,r,A,I]
def D_k:Pure C 159 [] (.d (.agg [dI 40, .slice true [dI 15,dI 21,dI 27]])) []:=by
 refine am6 aLg aDC ?_;simp only[aLg,aDC,RN,r,A,I];refine azb rfl rfl rfl ?_;simp only[arw,RN,r,A,I]
 rfl
def aWi:DV:= .agg [.slice true (arh.pc.links.map Lk.dv), .slice true (arh.pc.hands.map anF), .slice true (arh.tg.map Fr.dv),dI 100,dI 40, .slice true (arh.dvd.cir.map anF),dI 0, .slice true (arh.cal.cy.map anF),dI 59,dI 2,dI 0, .slice true (arh.fs.map Fs.dv),dI 1,dI 3,dI 6,dI 4,dI 10]
def aUl:Pure C 68 [] (.d aWi) []:=by
 refine am6 aB0 aTt ?_;simp only[aB0,aTt,RN,r,A,I];refine anE P_k ?_;(try simp only[RN,r,A,I]);refine azb rfl rfl rfl ?_;(try simp only[RN,r,A,I]);refine anE D_k ?_;(try simp only[RN,r,A,I]);refine anE O_k ?_;(try simp only[RN,r,A,I]);refine anE M_k ?_;(try simp only[RN,r,A,I]);refine azb rfl rfl rfl ?_;simp only[arw,RN,r,A,I]
 rfl
def aJK:arh.Small:=⟨by decide,by decide,by decide,by decide,by decide⟩
def aFf:Pure C 19 [] (.d (.bool true)) []:=by
 refine am6 aB2 aTs ?_;simp only[aB2,aTs,RN,r];refine anE aUl ?_;(try simp only[RN,r,A,B,F,H,I]);refine aoQ rfl rfl (aO1 arh aJK (by kernel_rfl) (by decide:aJB.size<=1500) (by kernel_rfl) aZz) ?_;have b:(aBo.toList==aBo.toList)=true:=beq_self_eq_true _;have a:(.str ⟨#[49,32,51,32,51,32,52,10,110,111,116,101,100,10,101,114,114,111,114,32,55,10,49,32,49,50,32,49,53,10,101,114,114,111,114,32,55,10,101,114,114,111,114,32,55,10,101,114,114,111,114,32,55,10,110,111,116,101,100,10,49,53,10,110,111,116,101,100,10,49,56,10,53,55,10,101,114,114,111,114,32,55,10,110,111,116,101,100,10,110,111,116,104,105,110,103,10,53,55,10,57,55,10,49,48,56,10,51,53,54,10,101,114,114,111,114,32,55,10,101,114,114,111,114,32,55,10,110,111,116,101,100,10,101,114,114,111,114,32,55,10,49,48,10,50,32,57,10,51,52,56,10,50,32,49,32,51,10,101,114,114,111,114,32,55,10,110,111,116,101,100,10,110,111,116,101,100,10,48,10,48,32,50,32,53,10,48,32,49,32,50,10,101,114,114,111,114,32,55,10,101,114,114,111,114,32,50,10,101,114,114,111,114,32,52,10]⟩:DV)= .str aBo:=rfl;simp only[z1,apu,aCU,a,b,RN,r]
end Go.Tel
namespace Go.Tel
open Go.Am Go.Lib
def aW4 {a b:ByteArray}(h:a.data.toList=b.data.toList):a=b:=by
 cases a with|mk x=>cases b with|mk y=>
 simp only at h;rw[Array.toList_inj.1 h]
def avT (a b:ByteArray):(a++b).data.toList=a.data.toList++b.data.toList:=by
 rw[ByteArray.data_append,Array.toList_append]
def aM6 (n:Nat):(apC (n:Int)).data.toList=decDigits n:=by
 rw[apC,itoa,if_neg (by omega),O]
def aUD {n:Nat}(h:n<10):decDigits n=[UInt8.ofNat (48+n)]:=by rw[decDigits,dif_pos h]
def aXe {n:Nat}(h:¬n<10):decDigits n=decDigits (n / 10)++ [UInt8.ofNat (48+n % 10)]:=by rw[decDigits,dif_neg h]
def aOh:∀(k n:Nat),n<10 ^ (k+1)->(decDigits n).length<=k+1/\1<=(decDigits n).length
 |0,n,h=>by rw[aUD (by omega)];simp
 |k+1,n,h=>by
  by_cases h1:n<10
  ·rw[aUD h1];simp
  ·have:=aOh k (n / 10) (by rw[Nat.pow_succ]at h;omega)
   rw[aXe h1,ab,List.length_singleton];omega
def aKH (n:Int)(ns:List Int):(azX (n::ns)).data.toList=(apC n).data.toList++(ns.map fun n=>32::(apC n).data.toList).flatten:=by
 show(List.toArray (join ((List.map apC (n::ns)).map (·.data.toList)) [32])).toList=_
 rw[aI,aI,join_cons,joinTail];simp[List.map_map,Function.comp_def]
variable{x:En}
def aIa (h:x.ns≠[]):x.line.data.toList=(fwE x.kind).data.toList++(x.ns.map fun n=>32::(apC n).data.toList).flatten:=by
 obtain⟨n,ns,e⟩:∃n ns,x.ns=n::ns:=by
  cases a:x.ns with
  |nil=>exact absurd a h
  |cons n ns=>exact⟨n,ns,rfl⟩
 rw[En.line,avT,avT,e,aKH];simp
def aFQ (h:x.formed=true):(1<=x.kind/\x.kind<=6)/\x.ns.length=apG x.kind/\1<=x.ns.length:=by
 have a:∀k,1<=apG k:=by
  intro k;unfold apG;split
  ·omega
  ·split<;>omega
 simp only[En.formed,Z,inR,decide_eq_true_eq]at h;have:=a x.kind;exact⟨by omega,h.1.2,by omega⟩
def azY (h:x.formed=true):x.line.size<=30:=by
 obtain⟨h1,h2,b⟩:=aFQ h;have g:=aDg h;have c:=aJi x.kind;have a:∀ns:List Int,(∀n∈ns,0<=n/\n<=9999)->(ns.map fun n=>32::(apC n).data.toList).flatten.length<=5*ns.length:=by
  intro ns
  induction ns with
  |nil=>intro _;simp
  |cons n ns j=>
   intro hh;obtain⟨m,c⟩:=aJ (hh n aV).1;have d:=(hh n aV).2;have f:=aOh 3 m (by omega);have:=j fun y i=>hh y (List.mem_cons_of_mem _ i)
   rw[aI,List.flatten_cons,ab,aL,c,aM6,aL];omega
 have d:=a x.ns g;have f:=aKs x.kind;rw[<-size_data,aIa (by intro e;rw[e]at b;simp at b),ab,size_data];omega
def aCl:anH:=(s0 [ba 1 0 0,mf 2 false] 1 [1] [1] (sw (sr [fa 4 0 1,lw 5 2 4,oa 6 (.anD 58) 5,oa 7 pN 6,mv 8 7,ow 9 (.fld 2) 1 8 0,lq 10 9 8,ow 11 .len 10 8 0,ow 12 (.fld 0) 1 8 0,ow 13 (.fld 1) 12 8 0,lq 14 13 8,ow 15 .len 14 8 0,obF 16 pQ 11 15 8 0,pt 17 8 16,mv 18 17,ow 19 (.fld 3) 1 18 0,lq 20 19 18,ow 21 (.anD 59) 20 18 0,ow 22 pN 21 18 0,pt 23 18 22,mv 24 23,ow 25 (.fld 4) 1 24 0,ow 26 (.load true 2) 25 24 0,ow 27 (.anD 60) 26 24 0,ow 28 pN 27 24 0,pt 29 24 28] 0 [1,29] (cd 29 (sr [mf 2 false] 0 [2] .ret) .skip)) (sw (sr [mi 3 0] 0 [1,3] (lp (sw (sr [mv 30 3,fa 31 2 1,lo 32 31,oa 33 .len 32,ob 34 pL 30 33] 0 [1,3,34] (cx 34 0)) (sw (b1 (sr [fa 37 2 1,lo 38 37,mv 39 3,ix 40 2 38 39,lw 41 2 40,oa 42 (.anD 61) 41,oa 43 pN 42] 0 [1,3,43] (cd 43 (sr [mf 2 false] 0 [2] .ret) .skip))) (rg [mv 35 3,oi 36 pA 35 1,mv 3 36] 0 [1,3]))))) (sr [fa 44 6 1,lw 45 2 44,oa 46 (.anD 62) 45,mv 47 46,ov 48 (.fld 8) 1 47 0,ov 49 (.load true 3) 48 47 0,ov 50 (.anD 63) 49 47 0,pf 51 47 50,mv 52 51,ov 53 (.fld 11) 1 52 0,ov 54 ld 53 52 0,ov 55 (.anD 64) 54 52 0,pf 56 52 55,mv 57 56,ov 58 (.fld 12) 1 57 0,ov 59 ld 58 57 0,ov 60 (.anD 65) 59 57 0,pf 61 57 60,mv 62 61,ov 63 (.load true 17) 1 62 0,ot 64 (.anD 67) [.t 63,cS] 62 0,ov 65 (.anD 66) 64 62 0,pf 66 62 65,mv 2 66] 0 [2] .ret))))
def au8:anH:=(s0 [ba 2 0 0,ag 4 2] 1 [1,2] [2] (sr [ag 5 2] 0 [1,2,5] (sr [lw 8 19 2,oa 9 (.anD 37) 8,mv 6 9] 0 [1,2,5,6] (sw (sr [mi 7 0] 0 [1,2,5,6,7] (lp (sw (sr [mv 10 7,mv 11 6,oa 12 .len 11,ob 13 pL 10 12] 0 [1,2,5,6,7,13] (cx 13 0)) (sw (b1 (sr [mv 16 6,mv 17 7,ix 18 1 16 17,lo 19 18,mv 20 1,ob 21 pQ 19 20] 0 [1,2,5,6,7,21] (cd 21 (r1 [mv 22 5,fu 23 17 2 1,lv 24 23,mv 25 6,mv 26 7,ob1 27 (.anU 1) 25 26 1,lv 28 27,ob1 29 (.anU 2) 24 28 1,ou 30 (.load true 2) 29 1,ou 31 (.aoM 2 [.agg [z0,zs]] [0]) 30 1,ob 32 (.app 2 false) 22 31,mv 5 32] 0 [1,2,5,6,7] []) .skip))) (rg [mv 14 7,oi 15 pA 14 1,mv 7 15] 0 [1,2,5,6,7]))))) (sr [mv 33 5,mv 4 33] 0 [4] .ret)))))
def aEw:anH:=(sr [mf 4 false] 0 [0,1] (sr [mv 5 0,mv 6 1,ob 7 (.anD 87) 5 6,mv 4 7] 0 [4] .ret))
def awl:anH:=(s0 [ba 1 0 0,ag 2 1] 1 [1] [1] (sr [ag 3 1] 0 [1,3] (sw (sr [mi 4 0] 0 [1,3,4] (lp (sw (sr [mv 5 4,fa 6 17 1,lo 7 6,oa 8 .len 7,ob 9 pL 5 8] 0 [1,3,4,9] (cx 9 0)) (sw (b1 (sr [fa 12 17 1,lo 13 12,mv 14 4,ix 15 2 13 14,fa 16 0 15,lo 17 16,oi 18 pQ 17 6,mv 19 18,ov 20 (.fld 18) 1 19 0,ov 21 ld 20 19 0,ov 22 .mov 4 19 0,obT 23 (.anU 1) 21 22 19 0,ov 24 ld 23 19 0,ov 25 pN 24 19 0,pf 26 19 25] 0 [1,3,4,26] (cd 26 (rg [mv 27 3,mv 28 4,oa 29 (.aoM 1 [z0] [0]) 28,ob 30 (.app 1 false) 27 29,mv 3 30] 0 [1,3,4]) .skip))) (rg [mv 10 4,oi 11 pA 10 1,mv 4 11] 0 [1,3,4]))))) (sr [mv 31 3,mv 2 31] 0 [2] .ret))))
def aAv:anH:=(s0 [ba 1 0 0,mf 2 false] 1 [1] [1] (sw (sw (r1 [fu 4 1 1 1,lv 5 4,ou 6 .len 5 1,fu 7 0 1 1,lv 8 7,oa 9 (.anD 123) 8,ob 10 pQ 6 9] 0 [1,10] []) (cd 10 (sr [mf 2 false] 0 [2] .ret) .skip)) (sw (sr [mi 3 0] 0 [1,3] (lp (sw (sr [mv 11 3,fa 12 1 1,lo 13 12,oa 14 .len 13,ob 15 pL 11 14] 0 [1,3,15] (cx 15 0)) (sw (b1 (sr [fa 18 1 1,lo 19 18,mv 20 3,ix 21 1 19 20,lo 22 21,on 23 (.anD 124) [.t 22,kI 0,kI 9999],oa 24 pN 23] 0 [1,3,24] (cd 24 (sr [mf 2 false] 0 [2] .ret) .skip))) (rg [mv 16 3,oi 17 pA 16 1,mv 3 17] 0 [1,3]))))) (sr [mf 2 true] 0 [2] .ret))))
def aEv:anH:=(s0 [ba 1 0 0,mk 2 (.c ze)] 1 [1] [1] (sw (r1 [fu 3 0 1 1,lv 4 3,oa 5 (.anD 127) 4,fu 6 1 1 1,lv 7 6,oa 8 (.anD 128) 7,ob 9 pA 5 8,mv 2 9] 0 [2] []) .ret))
def axr:anH:=(s0 [ba 2 0 0,ba 3 1 1,mi 4 0] 2 [2,3] [2,3] (sw (sr [lw 6 2 3,oa 7 (.anD 43) 6,oa 8 pN 7] 0 [2,3,8] (cd 8 (sr [mi 4 2] 0 [4] .ret) .skip)) (sw (sr [fa 9 17 2,lo 10 9,oa 11 .len 10,oi 12 (.bin .geq) 11 24] 0 [2,3,12] (cd 12 (sr [mi 4 3] 0 [4] .ret) .skip)) (sw (sr [fa 13 0 3,lo 14 13,oi 15 pE 14 6] 0 [2,3,15] (cd 15 (sr [fa 16 1 3,lo 17 16,oi 18 (.anU 1) 17 0,lo 19 18,mv 5 19] 0 [2,5] (sw (sr [mv 20 5,fa 21 17 2,lo 22 21,oa 23 .len 22,ob 24 (.bin .geq) 20 23,mv 25 24,ow 26 (.fld 17) 2 25 0,lq 27 26 25,ow 28 .mov 5 25 0,obF 29 (.anU 2) 27 28 25 0,ow 30 (.fld 0) 29 25 0,lq 31 30 25,oF 32 pE [.t 31,kI 6] 25 0,pt 33 25 32] 0 [2,5,33] (cd 33 (sr [mi 4 2] 0 [4] .ret) .skip)) (sw (sw (r1 [fu 34 18 2 1,lv 35 34,mv 36 5,ob1 37 (.anU 1) 35 36 1,lv 38 37,mv 39 38,ow 40 (.fld 0) 2 39 1,ow 41 (.load true 17) 40 39 1,ow 42 (.load true 19) 2 39 1,ow 43 .mov 5 39 0,obF 44 (.anD 22) 42 43 39 0,obF 45 (.anD 131) 41 44 39 0,ow 46 pN 45 39 0,pt 47 39 46] 0 [47] []) (cd 47 (sr [mi 4 7] 0 [4] .ret) .skip)) (sr [mi 4 0] 0 [4] .ret)))) .skip)) (sw (sr [fa 48 0 2,lw 49 17 48,lw 50 2 3,ob 51 (.anD 132) 49 50,oa 52 pN 51] 0 [2,3,52] (cd 52 (sr [mi 4 2] 0 [4] .ret) .skip)) (sw (sw (r1 [fu 53 0 2 1,ou 54 (.load true 17) 53 1,ou 55 (.load true 19) 2 1,oi 56 (.anD 22) 55 (-1),ou 57 (.load true 2) 3 1,on 58 (.anD 133) [.t 54,.t 56,.t 57],oa 59 pN 58] 0 [59] []) (cd 59 (sr [mi 4 7] 0 [4] .ret) .skip)) (sr [mi 4 0] 0 [4] .ret)))))))
def axt:anH:=(s0 [ba 2 0 0,ba 3 1 1,al 4 2 zd] 3 [2,3,4] [2,3] (sr [fa 6 0 2,lw 7 17 6,oa 8 (.build zd [(0,17)]) 7,al 5 0 zd,sk 19 5 8 0] 1 [2,3,4,5] (sw (r1 [fu 9 17 2 1,lv 10 9,on 11 (.app 2 false) [cS,.t 10],fu 12 0 3 1,lv 13 12,fu 14 1 3 1,lv 15 14,on 16 (.aJV 1) [cS,.t 15],ob 17 (.build [z0,zs] [(0,1),(1,1)]) 13 16,ou 18 (.aoM 2 [.agg [z0,zs]] [0]) 17 1,ob 19 (.app 2 false) 11 18,fu 20 17 5 2,sk 1 20 19 0] 0 [2,3,4,5] []) (sr [fa 21 18 2,lo 22 21,on 23 (.app 1 false) [cS,.t 22],on 24 (.aoM 1 [.bool false] [0]) [.c (.bool false)],ob 25 (.app 1 true) 23 24,fa 26 18 5,sk 1 26 25 0] 0 [3,4,5] (sw (sr [fa 27 0 3,lo 28 27,oi 29 pE 28 6] 0 [3,4,5,29] (cd 29 (r1 [fu 30 18 5 2,ou 31 ld 30 2,fu 32 1 3 1,lv 33 32,of 34 (.anU 1) [.t 33,kI 0] 1,lv 35 34,ix 36 1 31 35,os (.store 1) [.t 36,.c (.bool true)] 3] 0 [4,5] []) .skip)) (sr [lw 37 19 5,sk 19 4 37 0] 0 [4] .ret))))))
def ayC:anH:=(s0 [ba 2 0 0,ba 3 1 1,mk 4 cS,mi 5 0] 2 [2,3] [2,3] (sw (sw (r1 [fu 14 1 3 1,lv 15 14,ou 16 .len 15 1,fu 17 0 3 1,lv 18 17,oa 19 (.anD 134) 18,ob 20 pQ 16 19] 0 [2,3,20] []) (cd 20 (sr [mk 4 cS,mi 5 2] 0 [4,5] .ret) .skip)) (sw (r1 [fu 21 0 2 1,ou 22 (.load true 17) 21 1,fu 23 1 3 1,lv 24 23,ou 25 (.load true 19) 2 1,oi 26 (.anD 22) 25 (-1),al 6 0 [zs,zs,zs,z0,z0,zs,z0,zs,z0,z0,z0,zs,z0,z0,z0,z0,z0],sk 17 6 22 4,mv 7 24,mv 8 26] 1 [2,3,6,7,8] [6]) (sw (sr [fa 27 0 3,lo 28 27] 0 [2,3,6,7,8,28] (.block 0 (sr [oi 30 pE 28 4,mv 29 30] 0 [2,3,6,7,8,28,29] (cd 29 (sw (sw (r1 [ou 31 (.load true 17) 6 1,mv 32 7,of 33 (.anU 1) [.t 32,kI 0] 1,lv 34 33,ob 35 (.anD 135) 31 34,oa 36 pN 35] 0 [6,7,8,36] []) (cd 36 (sr [mk 4 cS,mi 5 2] 0 [4,5] .ret) .skip)) (sw (r1 [ou 37 (.load true 17) 6 1,ou 38 (.load true 17) 6 1,mv 39 8,ob 40 (.anD 137) 38 39,mv 41 7,of 42 (.anU 1) [.t 41,kI 0] 1,lv 43 42,on 44 (.anD 136) [.t 37,.t 40,.t 43],ou 45 (.aoM 1 [z0] [0]) 44 1,mv 4 45,mi 5 0] 0 [4,5] []) .ret)) (sr [oi 47 pE 28 5,mv 46 47] 0 [2,3,6,7,8,28,46] (cd 46 (sr [lw 48 17 6,mv 49 8,mv 50 7,on 51 (.anD 138) [.t 48,.t 49,.t 50],xa 52 0 51,xa 53 1 51,mv 4 52,mv 5 53] 0 [4,5] .ret) (sr [oi 55 pE 28 6,mv 54 55] 0 [2,3,6,7,8,28,54] (cd 54 (sw (sw (r1 [ou 56 (.load true 17) 6 1,mv 57 7,of 58 (.anU 1) [.t 57,kI 0] 1,lv 59 58,ob 60 (.anD 135) 56 59,oa 61 pN 60,mv 62 61,ow 63 (.load true 17) 6 62 1,ow 64 .mov 7 62 0,oF 65 (.anU 1) [.t 64,kI 1] 62 1,ow 66 ld 65 62 1,obF 67 (.anD 139) 63 66 62 0,ow 68 pN 67 62 0,pt 69 62 68] 0 [6,7,8,69] []) (cd 69 (sr [mk 4 cS,mi 5 2] 0 [4,5] .ret) .skip)) (sw (r1 [ou 70 (.load true 17) 6 1,mv 71 8,mv 72 7,of 73 (.anU 1) [.t 72,kI 0] 1,lv 74 73,mv 75 7,of 76 (.anU 1) [.t 75,kI 1] 1,lv 77 76,on 78 (.anD 140) [.t 70,.t 71,.t 74,.t 77],ou 79 (.aoM 1 [z0] [0]) 78 1,mv 4 79,mi 5 0] 0 [4,5] []) .ret)) (sr [oi 81 pE 28 8,mv 80 81] 0 [2,3,6,7,28,80] (cd 80 (sw (sw (r1 [ou 82 (.load true 17) 6 1,mv 83 7,of 84 (.anU 1) [.t 83,kI 0] 1,lv 85 84,ob 86 (.anD 139) 82 85,oa 87 pN 86] 0 [6,7,87] []) (cd 87 (sr [mk 4 cS,mi 5 2] 0 [4,5] .ret) .skip)) (sw (sr [mv 88 7,oi 89 (.anU 1) 88 0,lo 90 89,mv 9 90] 0 [6,9] (b1 (.loop (sw (sr [mv 91 9,lw 92 17 6,oa 93 (.anD 141) 92,ob 94 (.bin .leq) 91 93] 0 [6,9,94] (cx 94 1)) (sw (.block 2 (sr [lw 97 17 6,mv 98 9,ob 99 (.anD 142) 97 98] 0 [6,9,99] (cd 99 (sr [mv 100 9,oa 101 (.aoM 1 [z0] [0]) 100,mv 4 101,mi 5 0] 0 [4,5] .ret) .skip))) (rg [mv 95 9,oi 96 pA 95 1,mv 9 96] 0 [6,9])))))) (sr [mk 4 cS,mi 5 5] 0 [4,5] .ret))) (sr [oi 103 pE 28 9,mv 102 103] 0 [2,3,6,7,28,102] (cd 102 (sw (sw (r1 [ou 104 (.load true 17) 6 1,mv 105 7,of 106 (.anU 1) [.t 105,kI 0] 1,lv 107 106,ob 108 (.anD 139) 104 107,oa 109 pN 108] 0 [6,7,109] []) (cd 109 (sr [mk 4 cS,mi 5 2] 0 [4,5] .ret) .skip)) (sw (r1 [fu 111 6 6 1,ou 112 (.load true 2) 111 1,fu 113 6 6 1,ou 114 (.load true 2) 113 1,fu 115 12 6 1,lv 116 115,ob 117 (.anD 144) 114 116,mv 118 7,of 119 (.anU 1) [.t 118,kI 0] 1,lv 120 119,ob 121 pA 117 120,oi 122 pU 121 1,ob 123 (.anD 143) 112 122,mv 110 123,xa 124 0 110,xa 125 1 110,al 10 0 [z0,z0,z0],sk 3 10 124 4,mv 11 125] 1 [10] [10]) (sr [fa 126 1 10,lo 127 126,fa 128 2 10,lo 129 128,ob 130 (.aoM 1 [z0,z0] [0,1]) 127 129,mv 4 130,mi 5 0] 0 [4,5] .ret))) (sr [oi 132 pE 28 10,mv 131 132] 0 [2,3,6,7,131] (cd 131 (sw (sr [mv 133 7,oi 134 (.anU 1) 133 0,lo 135 134,oa 136 (.anD 145) 135,oa 137 pN 136] 0 [6,7,137] (cd 137 (sr [mk 4 cS,mi 5 2] 0 [4,5] .ret) .skip)) (sw (r1 [fu 139 4 6 1,ou 140 (.load true 2) 139 1,mv 141 7,of 142 (.anU 1) [.t 141,kI 0] 1,lv 143 142,ob 144 (.anD 146) 140 143,mv 138 144,xa 145 0 138,xa 146 1 138,al 12 0 [z0,z0,z0],sk 3 12 145 4,mv 13 146] 1 [12,13] [12]) (sw (sr [mv 147 13,oa 148 pN 147] 0 [12,148] (cd 148 (sr [mk 4 cS,mi 5 5] 0 [4,5] .ret) .skip)) (sr [fa 149 0 12,lo 150 149,fa 151 1 12,lo 152 151,fa 153 2 12,lo 154 153,on 155 (.aoM 1 [z0,z0,z0] [0,1,2]) [.t 150,.t 152,.t 154],mv 4 155,mi 5 0] 0 [4,5] .ret)))) .skip)))))))))))))) (sr [lw 156 19 2,fa 157 0 3,lo 158 157,ob 159 (.anD 147) 156 158,mv 4 159,mi 5 0] 0 [4,5] .ret)))))
def aEx:anH:=(s0 [ba 2 0 0,al 4 1 [zs,z0,z0,z0,z0,z0]] 2 [1,2,4] [2] (sr [mv 5 1,fa 6 13 2,lo 7 6,fa 8 14 2,lo 9 8,fa 10 15 2,lo 11 10,fa 12 16 2,lo 13 12,on 14 (.build [zs,z0,z0,z0,z0,z0] [(0,1),(1,1),(2,1),(3,1),(4,1)]) [.t 5,.t 7,.t 9,.t 11,.t 13],sk 6 4 14 0] 0 [4] .ret))
def aEA:anH:=(sr [mi 2 0] 0 [0] (sw (sr [mv 3 0] 0 [3] (.block 0 (sw (sr [oi 5 pE 3 1,mv 4 5] 0 [3,4] (cd 4 .skip (sr [oi 6 pE 3 5,mv 4 6] 0 [3,4] (cd 4 .skip (rg [oi 7 pE 3 6,mv 4 7] 0 [3,4]))))) (cd 4 (sr [mi 2 1] 0 [2] .ret) (sr [oi 9 pE 3 4,mv 8 9] 0 [3,8] (cd 8 (sr [mi 2 2] 0 [2] .ret) (sw (sr [oi 11 pE 3 2,mv 10 11] 0 [3,10] (cd 10 .skip (rg [oi 12 pE 3 3,mv 10 12] 0 [10]))) (cd 10 (sr [mi 2 3] 0 [2] .ret) .skip)))))))) (sr [mi 2 (-1)] 0 [2] .ret)))
def aEB:anH:=(sr [mk 2 (.c ze)] 0 [0] (sr [on 3 (.aoM 1 [ze,ze,ze,ze,ze,ze,ze] [0,1,2,3,4,5,6]) [.c ze,.c (.str ⟨#[99,117,116]⟩),.c (.str ⟨#[99,104,97,110,103,101]⟩),.c (.str ⟨#[111,114,100,101,114]⟩),.c (.str ⟨#[115,101,114,118,101]⟩),.c (.str ⟨#[115,101,116]⟩),.c (.str ⟨#[115,116,114,105,107,101]⟩)],mv 4 0,ix 5 1 3 4,lo 6 5,mv 2 6] 0 [2] .ret))
def aCq:anH:=(sr [mk 2 (.c ze)] 0 [0] (sr [mk 3 (.c ze)] 0 [0,3] (sw (sr [mi 4 0] 0 [0,3,4] (lp (sw (sr [mv 5 4,mv 6 0,oa 7 .len 6,ob 8 pL 5 7] 0 [0,3,4,8] (cx 8 0)) (sw (b1 (sr [mv 11 0,mv 12 4,ix 13 1 11 12,lo 14 13,oi 15 pL 14 0] 0 [0,3,4,15] (cd 15 (rg [mv 16 3,oc 17 pA 16 (.c (.str ⟨#[32,45]⟩)),mv 18 0,mv 19 4,ix 20 1 18 19,lo 21 20,oa 22 (.un .neg) 21,oa 23 (.anD 217) 22,ob 24 pA 17 23,mv 3 24] 0 [0,3,4]) (rg [mv 25 3,oc 26 pA 25 (.c (.str ⟨#[32]⟩)),mv 27 0,mv 28 4,ix 29 1 27 28,lo 30 29,oa 31 (.anD 217) 30,ob 32 pA 26 31,mv 3 32] 0 [0,3,4])))) (rg [mv 9 4,oi 10 pA 9 1,mv 4 10] 0 [0,3,4]))))) (sr [mv 33 3,mv 2 33] 0 [2] .ret))))
def avx:anH:=(s0 [ba 1 0 0,mk 2 (.c ze)] 1 [1] [1] (sr [mk 3 (.c ze)] 0 [1,3] (sw (sr [mi 4 0] 0 [1,3,4] (lp (sw (sr [mv 5 4,fa 6 17 1,lo 7 6,oa 8 .len 7,ob 9 pL 5 8] 0 [1,3,4,9] (cx 9 0)) (sw (b1 (rg [mv 12 3,fa 13 17 1,lo 14 13,mv 15 4,ix 16 2 14 15,lw 17 2 16,oa 18 (.anD 45) 17,ob 19 pA 12 18,oc 20 pA 19 (.c (.str ⟨#[10]⟩)),mv 3 20] 0 [1,3,4])) (rg [mv 10 4,oi 11 pA 10 1,mv 4 11] 0 [1,3,4]))))) (sr [mv 21 3,mv 2 21] 0 [2] .ret))))
def aCo:anH:=(s0 [ba 2 0 0,mf 4 false] 1 [1,2] [2] (sw (sr [mi 5 0] 0 [1,2,5] (lp (sw (sr [mv 6 5,mv 7 1,oa 8 .len 7,ob 9 pL 6 8] 0 [1,2,5,9] (cx 9 0)) (sw (b1 (sw (r1 [ou 12 (.load true 17) 2 1,mv 13 1,mv 14 5,ob1 15 (.axG 2 false true false) 13 14 1,mv 16 1,mv 17 5,ob1 18 (.anU 2) 16 17 1,ou 19 (.load true 2) 18 1,on 20 (.anD 133) [.t 12,.t 15,.t 19],oa 21 pN 20] 0 [1,2,5,21] []) (cd 21 (sr [mf 4 false] 0 [4] .ret) .skip))) (rg [mv 10 5,oi 11 pA 10 1,mv 5 11] 0 [1,2,5]))))) (sr [mf 4 true] 0 [4] .ret)))
def aCj:anH:=(s0 [ba 2 0 0,ba 3 1 1,mf 4 false] 2 [2,3] [2,3] (sr [fa 6 1 3,lo 7 6,mv 5 7] 0 [2,3,5] (sw (sr [fa 8 0 3,lo 9 8] 0 [2,5,9] (.block 0 (sr [oi 11 pE 9 1,mv 10 11] 0 [2,5,9,10] (cd 10 (sr [mv 12 5,oi 13 (.anU 1) 12 0,lo 14 13,oa 15 (.anD 157) 14,mv 4 15] 0 [4] .ret) (sr [oi 17 pE 9 2,mv 16 17] 0 [2,5,9,16] (cd 16 (sw (r1 [mv 18 5,of 19 (.anU 1) [.t 18,kI 0] 1,lv 20 19,fu 21 0 2 1,fu 22 0 21 1,lv 23 22,ou 24 .len 23 1,ob 25 pL 20 24,mv 26 25,ov 27 .mov 5 26 0,ot 28 (.anU 1) [.t 27,kI 1] 26 1,ov 29 ld 28 26 1,ov 30 (.anD 157) 29 26 0,pf 31 26 30,mv 32 31,ov 33 .mov 5 32 0,ot 34 (.anU 1) [.t 33,kI 2] 32 1,ov 35 ld 34 32 1,ov 36 (.anD 157) 35 32 0,pf 37 32 36,mv 4 37] 0 [4] []) .ret) (sr [oi 39 pE 9 3,mv 38 39] 0 [2,5,9,38] (cd 38 (sw (r1 [ou 40 (.load true 17) 2 1,mv 41 5,of 42 (.anU 1) [.t 41,kI 0] 1,lv 43 42,ob 44 (.anD 135) 40 43,mv 45 44,ov 46 .mov 5 45 0,ot 47 (.anU 1) [.t 46,kI 2] 45 1,ov 48 ld 47 45 1,ot 49 pG [.t 48,kI 0] 45 0,pf 50 45 49,mv 4 50] 0 [4] []) .ret) (sr [oi 52 pE 9 4,mv 51 52] 0 [2,5,51] (cd 51 (sw (r1 [ou 53 (.load true 17) 2 1,mv 54 5,of 55 (.anU 1) [.t 54,kI 0] 1,lv 56 55,ob 57 (.anD 135) 53 56,mv 4 57] 0 [4] []) .ret) .skip)))))))))) (sw (r1 [ou 58 (.load true 17) 2 1,mv 59 5,of 60 (.anU 1) [.t 59,kI 0] 1,lv 61 60,ob 62 (.anD 139) 58 61,mv 4 62] 0 [4] []) .ret))))
def aEy:anH:=(s0 [ba 3 0 0,ba 5 1 2,mf 6 false] 2 [1,3,5] [3,5] (sr [fa 23 1 5,lo 24 23,mv 7 24] 0 [1,3,5,7] (s0 [lw 25 17 3,mv 26 1,ob 27 (.anD 137) 25 26,al 8 0 [zs,zs],sk 2 8 27 0] 1 [1,3,5,7,8] [8] (sw (sr [fa 28 0 5,lo 29 28] 0 [1,3,5,7,8,29] (.block 0 (sr [oi 31 pE 29 1,mv 30 31] 0 [1,3,5,7,8,29,30] (cd 30 (sw (r1 [fu 33 4 3 1,ou 34 (.load true 2) 33 1,mv 35 7,of 36 (.anU 1) [.t 35,kI 0] 1,lv 37 36,ob 38 (.anD 146) 34 37,mv 32 38,xa 39 0 32,xa 40 1 32,al 9 0 [z0,z0,z0],sk 3 9 39 4,mv 10 40] 1 [1,3,10] []) (sr [mv 41 10,mv 42 41,ov 43 (.load true 17) 3 42 0,ov 44 .mov 1 42 0,obT 45 (.anD 222) 43 44 42 0,ov 46 .len 45 42 0,ot 47 pL [.t 46,kI 8] 42 0,pf 48 42 47,mv 6 48] 0 [6] .ret)) (sr [oi 50 pE 29 2,mv 49 50] 0 [1,3,5,7,8,29,49] (cd 49 (sw (r1 [mv 51 7,of 52 (.anU 1) [.t 51,kI 0] 1,lv 53 52,ou 54 (.load true 2) 5 1,oa 55 (.anD 223) 54,ob 56 (.build [z0,z0,z0] [(0,1),(1,2)]) 53 55,al 11 0 [z0,z0,z0],sk 3 11 56 4] 1 [1,3,7,8,11] [11]) (sw (sw (r1 [fu 57 0 8 1,lv 58 57,mv 59 7,of 60 (.anU 1) [.t 59,kI 0] 1,lv 61 60,ob1 62 (.anU 3) 58 61 1,fu 63 1 62 1,ou 64 (.load true 2) 63 1,fu 65 1 11 1,ou 66 (.load true 2) 65 1,ob 67 (.awZ false [1,1]) 64 66] 0 [1,3,7,8,11,67] []) (cd 67 (sr [mf 6 false] 0 [6] .ret) .skip)) (sw (sw (r1 [ou 69 (.load true 17) 3 1,mv 70 1,ob 71 (.anD 222) 69 70,fu 72 0 8 1,lv 73 72,mv 74 7,of 75 (.anU 1) [.t 74,kI 0] 1,lv 76 75,ob1 77 (.anU 3) 73 76 1,fu 78 1 77 1,ou 79 (.load true 2) 78 1,fu 80 1 11 1,ou 81 (.load true 2) 80 1,on 82 (.anD 224) [.t 71,.t 79,.t 81],mv 68 82,xa 83 0 68,xa 84 1 68,mv 12 83,mv 13 84] 0 [1,8,11,13] []) (sr [mv 85 13,oa 86 pN 85] 0 [1,8,11,86] (cd 86 (sr [mf 6 false] 0 [6] .ret) .skip))) (sr [lw 87 2 8,lw 88 3 11,ob 89 (.anD 225) 87 88,mv 14 89] 0 [1,14] (sw (sr [mi 15 0] 0 [1,14,15] (b1 (.loop (sw (sr [mv 90 15,mv 91 14,oa 92 .len 91,ob 93 pL 90 92] 0 [1,14,15,93] (cx 93 1)) (sw (.block 2 (sr [mv 97 1,mv 98 14,mv 99 15,ix 100 1 98 99,lo 101 100,ob 102 (.anD 226) 97 101,mv 96 102,xa 103 0 96,xa 104 1 96,al 16 0 [z0,z0],sk 2 16 103 0,mv 17 104] 1 [1,14,15,17] (sr [mv 105 17,oa 106 pN 105] 0 [1,14,15,106] (cd 106 (sr [mf 6 false] 0 [6] .ret) .skip)))) (rg [mv 94 15,oi 95 pA 94 1,mv 15 95] 0 [1,14,15])))))) (sr [mf 6 true] 0 [6] .ret)))))) (sr [oi 108 pE 29 3,mv 107 108] 0 [1,3,7,8,29,107] (cd 107 (sr [mv 110 1,mv 111 7,oi 112 (.anU 1) 111 0,lo 113 112,ob 114 (.anD 226) 110 113,mv 109 114,xa 115 0 109,xa 116 1 109,al 18 0 [z0,z0],sk 2 18 115 0,mv 19 116] 1 [19] (sr [mv 117 19,oa 118 pN 117,mv 6 118] 0 [6] .ret)) (sr [oi 120 pE 29 4,mv 119 120] 0 [1,3,7,8,119] (cd 119 (s0 [mv 122 1,mv 123 7,oi 124 (.anU 1) 123 0,lo 125 124,ob 126 (.anD 226) 122 125,mv 121 126,xa 127 0 121,xa 128 1 121,al 20 0 [z0,z0],sk 2 20 127 0,mv 21 128] 1 [3,7,8,20,21] [20] (sw (r1 [mv 129 21,mv 130 129,ov 131 (.load true 2) 8 130 1,ov 132 .mov 7 130 0,ot 133 (.anU 1) [.t 132,kI 0] 130 1,ov 134 ld 133 130 1,ov 135 (.load true 2) 20 130 1,ot 136 (.anD 227) [.t 131,.t 134,.t 135,kI 100] 130 0,ov 137 (.fld 3) 3 130 1,ov 138 ld 137 130 1,ov 139 (.un .neg) 138 130 0,ov 140 (.fld 3) 3 130 1,ov 141 ld 140 130 1,ot 142 (.anD 124) [.t 136,.t 139,.t 141] 130 0,pf 143 130 142,mv 144 143,ov 145 .mov 7 144 0,ot 146 (.anU 1) [.t 145,kI 1] 144 1,ov 147 ld 146 144 1,ov 148 (.load true 17) 3 144 1,ov 149 (.load true 2) 8 144 1,ov 150 .mov 7 144 0,ot 151 (.anU 1) [.t 150,kI 0] 144 1,ov 152 ld 151 144 1,ot 153 (.anD 136) [.t 148,.t 149,.t 152] 144 0,obT 154 (.bin .geq) 147 153 144 0,pf 155 144 154,mv 6 155] 0 [6] []) .ret)) .skip)))))))))) (sw (sr [mi 22 0] 0 [1,3,7,22] (.block 3 (.loop (sw (sr [mv 156 22,mv 157 1,oa 158 .len 157,ob 159 pL 156 158] 0 [1,3,7,22,159] (cx 159 3)) (sw (.block 4 (sw (r1 [mv 162 1,mv 163 22,ob1 164 (.anU 2) 162 163 1,fu 165 0 164 1,lv 166 165,oi 167 pE 166 5,mv 168 167,ov 169 .mov 1 168 0,ov 170 .mov 22 168 0,obT 171 (.anU 2) 169 170 168 1,ov 172 (.fld 1) 171 168 1,ov 173 ld 172 168 1,ot 174 (.anU 1) [.t 173,kI 0] 168 1,ov 175 ld 174 168 1,ov 176 .mov 7 168 0,ot 177 (.anU 1) [.t 176,kI 0] 168 1,ov 178 ld 177 168 1,obT 179 (.bin .geq) 175 178 168 0,pf 180 168 179] 0 [1,3,7,22,180] []) (cd 180 (sr [mf 6 false] 0 [6] .ret) .skip))) (rg [mv 160 22,oi 161 pA 160 1,mv 22 161] 0 [1,3,7,22])))))) (sw (r1 [ou 181 (.load true 17) 3 1,mv 182 7,of 183 (.anU 1) [.t 182,kI 0] 1,lv 184 183,ob 185 (.anD 142) 181 184,mv 6 185] 0 [6] []) .ret))))))
def aCp:anH:=(sr [mi 2 0] 0 [0] (sw (sr [mv 3 0] 0 [3] (.block 0 (sw (sr [oi 5 pE 3 1,mv 4 5] 0 [3,4] (cd 4 .skip (sr [oi 6 pE 3 2,mv 4 6] 0 [3,4] (cd 4 .skip (sr [oi 7 pE 3 3,mv 4 7] 0 [3,4] (cd 4 .skip (sr [oi 8 pE 3 7,mv 4 8] 0 [3,4] (cd 4 .skip (sr [oi 9 pE 3 11,mv 4 9] 0 [3,4] (cd 4 .skip (rg [oi 10 pE 3 12,mv 4 10] 0 [3,4]))))))))))) (cd 4 (sr [mi 2 0] 0 [2] .ret) (sw (sr [oi 12 pE 3 4,mv 11 12] 0 [3,11] (cd 11 .skip (sr [oi 13 pE 3 8,mv 11 13] 0 [3,11] (cd 11 .skip (sr [oi 14 pE 3 9,mv 11 14] 0 [3,11] (cd 11 .skip (rg [oi 15 pE 3 10,mv 11 15] 0 [3,11]))))))) (cd 11 (sr [mi 2 1] 0 [2] .ret) (sr [oi 17 pE 3 6,mv 16 17] 0 [3,16] (cd 16 (sr [mi 2 2] 0 [2] .ret) (sr [oi 19 pE 3 5,mv 18 19] 0 [18] (cd 18 (sr [mi 2 3] 0 [2] .ret) .skip)))))))))) (sr [mi 2 (-1)] 0 [2] .ret)))
def aEz:anH:=(s0 [ba 2 0 0,mf 4 false] 1 [1,2] [2] (sr [mv 5 1,fa 6 0 2,fa 7 1 6,lo 8 7,oa 9 .len 8,oi 10 pU 9 1,on 11 (.anD 124) [.t 5,kI 0,.t 10],mv 4 11] 0 [4] .ret))
def aCi:anH:=(s0 [ba 3 0 0,ba 4 1 1,mi 6 0] 2 [2,3,4] [3,4] (sr [ag 7 1] 0 [2,3,4,7] (sw (r1 [ou 10 (.load true 2) 4 1,fu 11 1 4 1,lv 12 11,mv 13 2,ob1 14 (.anU 1) 12 13 1,lv 15 14,ob 16 (.anD 152) 10 15,mv 8 16] 0 [3,7,8] []) (sw (sr [mi 9 0] 0 [3,7,8,9] (lp (sw (sr [mv 17 9,mv 18 8,oa 19 .len 18,ob 20 pL 17 19] 0 [3,7,8,9,20] (cx 20 0)) (sw (b1 (r1 [mv 23 7,mv 24 8,mv 25 9,ob1 26 (.anU 2) 24 25 1,fu 27 0 26 1,lv 28 27,mv 29 8,mv 30 9,ob1 31 (.anU 2) 29 30 1,fu 32 1 31 1,lv 33 32,ob1 34 (.aoM 1 [z0,z0] [0,1]) 28 33 1,ob 35 (.app 1 false) 23 34,mv 7 35] 0 [3,7,8,9] [])) (rg [mv 21 9,oi 22 pA 21 1,mv 9 22] 0 [3,7,8,9]))))) (sr [lw 36 17 3,mv 37 7,ob 38 (.atD 67) 36 37,oa 39 (.anD 228) 38,mv 6 39] 0 [6] .ret)))))
def aCh:anH:=(s0 [ba 2 0 0,al 4 1 [zs,zs]] 2 [1,2,4] [2] (sr [fa 7 0 2,lw 8 2 7,al 5 0 [zs,zs],sk 2 5 8 0] 1 [1,4,5] (sw (sr [mi 6 0] 0 [1,4,5,6] (lp (sw (sr [mv 9 6,mv 10 1,oa 11 .len 10,ob 12 pL 9 11] 0 [1,4,5,6,12] (cx 12 0)) (sw (b1 (sr [mv 15 1,mv 16 6,ix 17 2 15 16,fa 18 0 17,lo 19 18,oi 20 pE 19 2] 0 [1,4,5,6,20] (cd 20 (r1 [ou 21 (.load true 2) 5 2,mv 22 1,mv 23 6,ob1 24 (.anU 2) 22 23 1,fu 25 1 24 1,lv 26 25,of 27 (.anU 1) [.t 26,kI 0] 1,lv 28 27,mv 29 1,mv 30 6,ob1 31 (.anU 2) 29 30 1,ou 32 (.load true 2) 31 1,oa 33 (.anD 223) 32,ob 34 (.build [z0,z0,z0] [(0,1),(1,2)]) 28 33,ob 35 (.anD 88) 21 34,sk 2 5 35 0] 0 [1,4,5,6] []) .skip))) (rg [mv 13 6,oi 14 pA 13 1,mv 6 14] 0 [1,4,5,6]))))) (sr [lw 36 2 5,sk 2 4 36 0] 0 [4] .ret))))
def aEC:anH:=(s0 [ba 3 0 0,ag 6 1,mi 7 0] 1 [1,2,3] [3] (sw (sw (r1 [ou 14 (.load true 17) 3 1,mv 15 2,of 16 (.anU 1) [.t 15,kI 0] 1,lv 17 16,ob 18 (.anD 135) 14 17,oa 19 pN 18,mv 20 19,ow 21 .mov 2 20 0,oF 22 (.anU 1) [.t 21,kI 1] 20 1,ow 23 ld 22 20 1,ow 24 .mov 2 20 0,oF 25 (.anU 1) [.t 24,kI 2] 20 1,ow 26 ld 25 20 1,obF 27 (.anD 229) 23 26 20 0,ow 28 pN 27 20 0,pt 29 20 28,mv 30 29,ow 31 .mov 2 30 0,oF 32 (.anU 1) [.t 31,kI 2] 30 1,ow 33 ld 32 30 1,ow 34 .mov 2 30 0,oF 35 (.anU 1) [.t 34,kI 1] 30 1,ow 36 ld 35 30 1,obF 37 pU 33 36 30 0,oF 38 pG [.t 37,kI 10] 30 0,pt 39 30 38] 0 [1,2,3,39] []) (cd 39 (sr [ag 6 1,mi 7 2] 0 [6,7] .ret) .skip)) (s0 [mv 41 1,mv 42 2,oi 43 (.anU 1) 42 0,lo 44 43,ob 45 (.anD 226) 41 44,mv 40 45,xa 46 0 40,xa 47 1 40,al 8 0 [z0,z0],sk 2 8 46 0,mv 9 47] 1 [1,2,3,8,9] [8] (sw (sr [mv 48 9,oa 49 pN 48] 0 [1,2,3,8,49] (cd 49 (sr [ag 6 1,mi 7 7] 0 [6,7] .ret) .skip)) (sw (r1 [ou 51 (.load true 17) 3 1,mv 52 1,ob 53 (.anD 137) 51 52,mv 54 2,of 55 (.anU 1) [.t 54,kI 1] 1,lv 56 55,mv 57 2,of 58 (.anU 1) [.t 57,kI 2] 1,lv 59 58,mv 60 2,of 61 (.anU 1) [.t 60,kI 0] 1,lv 62 61,ou 63 (.load true 2) 8 1,on 64 (.anD 230) [.t 53,.t 56,.t 59,.t 62,.t 63],mv 50 64,xa 65 0 50,xa 66 1 50,mv 10 65,mv 11 66] 0 [10,11] []) (sw (sr [mv 67 11,oa 68 pN 67] 0 [10,68] (cd 68 (sr [ag 6 1,mi 7 5] 0 [6,7] .ret) .skip)) (sr [ag 12 1] 0 [10,12] (sw (sr [mi 13 0] 0 [10,12,13] (lp (sw (sr [mv 69 13,mv 70 10,oa 71 .len 70,ob 72 pL 69 71] 0 [10,12,13,72] (cx 72 0)) (sw (b1 (r1 [mv 75 12,mv 76 10,mv 77 13,ob1 78 (.anU 3) 76 77 1,fu 79 0 78 1,lv 80 79,mv 81 10,mv 82 13,ob1 83 (.anU 3) 81 82 1,fu 84 1 83 1,fu 85 0 84 1,lv 86 85,mv 87 10,mv 88 13,ob1 89 (.anU 3) 87 88 1,fu 90 1 89 1,fu 91 1 90 1,lv 92 91,of 93 (.aoM 1 [z0,z0,z0] [0,1,2]) [.t 80,.t 86,.t 92] 1,ob 94 (.app 1 false) 75 93,mv 12 94] 0 [10,12,13] [])) (rg [mv 73 13,oi 74 pA 73 1,mv 13 74] 0 [10,12,13]))))) (sr [mv 95 12,mv 6 95,mi 7 0] 0 [6,7] .ret)))))))))
def aGr:anH:=(s0 [ba 2 0 0,mf 4 false] 1 [1,2] [2] (sr [mv 5 1,lw 6 17 2,oa 7 (.anD 141) 6,on 8 (.anD 124) [.t 5,kI 1,.t 7],mv 4 8] 0 [4] .ret))
def aGq:anH:=(s0 [ba 4 0 0,mi 8 0] 1 [1,2,3,4] [4] (sr [mi 9 0] 0 [1,2,3,4,9] (sw (sr [mi 10 0] 0 [1,2,3,4,9,10] (lp (sw (sr [mv 11 10,mv 12 1,oa 13 .len 12,ob 14 pL 11 13] 0 [1,2,3,4,9,10,14] (cx 14 0)) (sw (b1 (sr [mv 17 1,mv 18 10,ix 19 2 17 18,fa 20 0 19,lo 21 20,oi 22 pE 21 5,mv 23 22,ov 24 .mov 1 23 0,ov 25 .mov 10 23 0,obT 26 (.anU 2) 24 25 23 0,ov 27 (.fld 1) 26 23 0,ov 28 ld 27 23 0,ot 29 (.anU 1) [.t 28,kI 0] 23 0,ov 30 ld 29 23 0,ov 31 .mov 3 23 0,obT 32 (.bin .leq) 30 31 23 0,pf 33 23 32] 0 [1,2,3,4,9,10,33] (cd 33 (rg [mv 34 9,mv 35 1,mv 36 10,ix 37 2 35 36,fa 38 1 37,lo 39 38,oi 40 (.anU 1) 39 0,lo 41 40,ob 42 (.ax1 true) 34 41,mv 9 42] 0 [1,2,3,4,9,10]) .skip))) (rg [mv 15 10,oi 16 pA 15 1,mv 10 16] 0 [1,2,3,4,9,10]))))) (sw (r1 [ou 43 (.load true 17) 4 1,mv 44 1,ob 45 (.anD 137) 43 44,mv 46 2,ou 47 (.load true 17) 4 1,mv 48 1,mv 49 2,on 50 (.anD 231) [.t 47,.t 48,.t 49],mv 51 3,mv 52 9,ob 53 pU 51 52,on 54 (.anD 227) [.t 45,.t 46,.t 50,.t 53],mv 8 54] 0 [8] []) .ret))))
def aEu:anH:=(s0 [ba 1 0 0,mi 2 0] 1 [1] [1] (sr [fa 3 6 1,lw 4 2 3,fa 5 12 1,lo 6 5,ob 7 (.anD 35) 4 6,mv 2 7] 0 [2] .ret))
def aCn:anH:=(s0 [ba 2 0 0,mf 4 false] 1 [1,2] [2] (sr [fa 8 6 2,lw 9 2 8,fa 10 12 2,lo 11 10,ob 12 (.anD 144) 9 11,mv 13 1,ob 14 pA 12 13,oi 15 pU 14 1,mv 5 15] 0 [2,5] (sr [fa 16 6 2,lw 17 2 16,fa 18 8 2,lw 19 3 18,fa 20 11 2,lo 21 20,fa 22 12 2,lo 23 22,on 24 (.anD 232) [.t 17,.t 19,.t 21,.t 23],mv 6 24] 0 [5,6] (sw (sr [mi 7 0] 0 [5,6,7] (lp (sw (sr [mv 25 7,mv 26 6,oa 27 .len 26,ob 28 pL 25 27] 0 [5,6,7,28] (cx 28 0)) (sw (b1 (sr [mv 31 6,mv 32 7,ix 33 1 31 32,lo 34 33,mv 35 5,ob 36 pE 34 35] 0 [5,6,7,36] (cd 36 (sr [mf 4 false] 0 [4] .ret) .skip))) (rg [mv 29 7,oi 30 pA 29 1,mv 7 30] 0 [5,6,7]))))) (sr [mv 37 5,oa 38 (.anD 33) 37,oi 39 pQ 38 0,mv 4 39] 0 [4] .ret)))))
def ayD:anH:=(s0 [ba 2 0 0,ag 4 1] 1 [1,2] [2] (sw (r1 [fu 20 0 2 1,ou 21 (.load true 17) 20 1,ou 22 (.load true 19) 2 1,oi 23 (.anD 22) 22 (-1),al 5 0 [zs,zs,zs,z0,z0,zs,z0,zs,z0,z0,z0,zs,z0,z0,z0,z0,z0],sk 17 5 21 4,mv 6 23] 1 [1,2,5,6] [5]) (s0 [lw 24 17 5,mv 25 6,ob 26 (.anD 137) 24 25,al 7 0 [zs,zs],sk 2 7 26 0] 1 [1,2,5,6,7] [7] (sr [ag 8 1] 0 [1,2,5,6,7,8] (sw (sr [mv 27 1] 0 [2,5,6,7,8,27] (.block 0 (sr [oi 29 pE 27 1,mv 28 29] 0 [2,5,6,7,8,27,28] (cd 28 (sw (sr [mi 9 0] 0 [7,8,9] (b1 (.loop (sw (sr [mv 30 9,fa 31 1 7,lo 32 31,oa 33 .len 32,ob 34 pL 30 33] 0 [7,8,9,34] (cx 34 1)) (sw (.block 2 (sw (r1 [ou 37 (.load true 2) 7 1,fu 38 1 7 1,lv 39 38,mv 40 9,ob1 41 (.anU 1) 39 40 1,lv 42 41,ob 43 (.anD 235) 37 42,al 10 0 [z0,z0],sk 2 10 43 4] 1 [7,8,9,10] [10]) (rg [mv 44 8,fa 45 0 10,lo 46 45,fa 47 1 10,lo 48 47,ob 49 (.aoM 1 [z0,z0] [0,1]) 46 48,ob 50 (.app 1 false) 44 49,mv 8 50] 0 [7,8,9]))) (rg [mv 35 9,oi 36 pA 35 1,mv 9 36] 0 [7,8,9])))))) (sr [mv 51 8,mv 4 51] 0 [4] .ret)) (sr [oi 53 pE 27 2,mv 52 53] 0 [2,5,6,7,8,27,52] (cd 52 (sr [lw 54 17 5,mv 55 6,ob 56 (.anD 222) 54 55,mv 4 56] 0 [4] .ret) (sr [oi 58 pE 27 3,mv 57 58] 0 [2,5,6,7,8,27,57] (cd 57 (sw (sr [mi 11 0] 0 [6,7,8,11] (.block 3 (.loop (sw (sr [mv 59 11,fa 60 1 7,lo 61 60,oa 62 .len 61,ob 63 pL 59 62] 0 [6,7,8,11,63] (cx 63 3)) (sw (.block 4 (s0 [mv 67 6,mv 68 11,ob 69 (.anD 226) 67 68,mv 66 69,xa 70 0 66,xa 71 1 66,al 12 0 [z0,z0],sk 2 12 70 0,mv 13 71] 1 [6,7,8,11,12,13] [12] (sr [mv 72 13] 0 [6,7,8,11,12,72] (cd 72 (rg [mv 73 8,mv 74 11,fa 75 0 12,lo 76 75,fa 77 1 12,lo 78 77,on 79 (.aoM 1 [z0,z0,z0] [0,1,2]) [.t 74,.t 76,.t 78],ob 80 (.app 1 false) 73 79,mv 8 80] 0 [6,7,8,11]) .skip)))) (rg [mv 64 11,oi 65 pA 64 1,mv 11 65] 0 [6,7,8,11])))))) (sr [mv 81 8,mv 4 81] 0 [4] .ret)) (sr [oi 83 pE 27 7,mv 82 83] 0 [2,5,6,7,27,82] (cd 82 (sr [mi 14 0] 0 [5,6,7,14] (sw (sr [mi 15 1] 0 [5,6,7,14,15] (.block 5 (.loop (sw (sr [mv 84 15,lw 85 17 5,oa 86 (.anD 141) 85,ob 87 (.bin .leq) 84 86] 0 [5,6,7,14,15,87] (cx 87 5)) (sw (.block 6 (sr [mf 16 false] 0 [5,6,7,14,15,16] (sw (sr [mi 17 0] 0 [5,6,7,14,15,16,17] (.block 7 (.loop (sw (sr [mv 90 17,fa 91 1 7,lo 92 91,oa 93 .len 92,ob 94 pL 90 93] 0 [5,6,7,14,15,16,17,94] (cx 94 7)) (sw (.block 8 (r1 [mv 97 16,mv 98 97,ow 99 (.load true 17) 5 98 1,ow 100 .mov 6 98 0,ow 101 .mov 17 98 0,ow 102 .mov 15 98 0,oF 103 (.anD 140) [.t 99,.t 100,.t 101,.t 102] 98 0,ow 104 (.fld 3) 5 98 1,ow 105 ld 104 98 1,ow 106 (.un .neg) 105 98 0,ow 107 (.fld 3) 5 98 1,ow 108 ld 107 98 1,oF 109 (.anD 124) [.t 103,.t 106,.t 108] 98 0,ow 110 pN 109 98 0,pt 111 98 110,mv 16 111] 0 [5,6,7,14,15,16,17] [])) (rg [mv 95 17,oi 96 pA 95 1,mv 17 96] 0 [5,6,7,14,15,16,17])))))) (sr [mv 112 16] 0 [5,6,7,14,15,112] (cd 112 (rg [mv 113 14,oi 114 pA 113 1,mv 14 114] 0 [5,6,7,14,15]) .skip))))) (rg [mv 88 15,oi 89 pA 88 1,mv 15 89] 0 [5,6,7,14,15])))))) (sr [mv 115 14,oa 116 (.aoM 1 [z0] [0]) 115,mv 4 116] 0 [4] .ret))) (sr [oi 118 pE 27 11,mv 117 118] 0 [2,6,117] (cd 117 (sr [mi 18 0] 0 [6,18] (sw (sr [mi 19 0] 0 [6,18,19] (.block 9 (.loop (sw (sr [mv 119 19,mv 120 6,oa 121 .len 120,ob 122 pL 119 121] 0 [6,18,19,122] (cx 122 9)) (sw (.block 10 (sr [mv 125 6,mv 126 19,ix 127 2 125 126,fa 128 0 127,lo 129 128,oi 130 pE 129 4] 0 [6,18,19,130] (cd 130 (rg [mv 131 18,mv 132 6,mv 133 19,ix 134 2 132 133,fa 135 1 134,lo 136 135,oi 137 (.anU 1) 136 1,lo 138 137,ob 139 pA 131 138,mv 18 139] 0 [6,18,19]) .skip))) (rg [mv 123 19,oi 124 pA 123 1,mv 19 124] 0 [6,18,19])))))) (sr [mv 140 18,oa 141 (.aoM 1 [z0] [0]) 140,mv 4 141] 0 [4] .ret))) .skip)))))))))))) (sr [lw 142 19 2,oa 143 (.anD 37) 142,mv 4 143] 0 [4] .ret))))))
def azq:anH:=(sr [mk 2 (.c ze)] 0 [0] (sr [mv 4 0,oi 5 (.bin .rem) 4 10,on 6 pA [kI 48,.t 5],oa 7 (.conv .u8) 6,oa 8 (.aoM 1 [.int .u8 0] [0]) 7,oa 9 .b2s 8,mv 3 9] 0 [0,3] (sw (lp (sw (sr [mv 10 0,oi 11 (.bin .geq) 10 10] 0 [0,3,11] (cx 11 0)) (b1 (sr [mv 12 0,oi 13 (.bin .quo) 12 10,mv 0 13] 0 [0,3] (rg [mv 14 0,oi 15 (.bin .rem) 14 10,on 16 pA [kI 48,.t 15],oa 17 (.conv .u8) 16,oa 18 (.aoM 1 [.int .u8 0] [0]) 17,oa 19 .b2s 18,mv 20 3,ob 21 pA 19 20,mv 3 21] 0 [0,3]))))) (sr [mv 22 3,mv 2 22] 0 [2] .ret))))
def aCk:anH:=(s0 [ba 2 0 0,mk 4 cS] 1 [1,2] [2] (sr [mk 5 cS] 0 [1,2,5] (sw (sr [mi 6 0] 0 [1,2,5,6] (lp (sw (sr [mv 7 6,mv 8 1,oa 9 .len 8,ob 10 pL 7 9] 0 [1,2,5,6,10] (cx 10 0)) (sw (b1 (sw (sr [mv 13 1,mv 14 6,ix 15 2 13 14,fa 16 0 15,lo 17 16,oi 18 pE 17 1] 0 [1,2,5,6,18] (cd 18 (rg [mv 19 5,mv 20 1,mv 21 6,ix 22 2 20 21,fa 23 1 22,lo 24 23,oi 25 (.anU 1) 24 0,lo 26 25,ob 27 (.anD 280) 19 26,mv 5 27] 0 [1,2,5,6]) .skip)) (sr [mv 28 1,mv 29 6,ix 30 2 28 29,fa 31 0 30,lo 32 31,oi 33 pE 32 2] 0 [1,2,5,6,33] (cd 33 (r1 [mv 35 5,ou 36 (.load true 17) 2 1,mv 37 1,mv 38 6,ob1 39 (.axG 2 false true false) 37 38 1,ob 40 (.anD 137) 36 39,oa 41 (.aEX false 0 1) 40,mv 42 1,mv 43 6,ob1 44 (.anU 2) 42 43 1,fu 45 1 44 1,lv 46 45,of 47 (.anU 1) [.t 46,kI 0] 1,lv 48 47,ob1 49 (.anU 3) 41 48 1,fu 50 1 49 1,ou 51 (.load true 2) 50 1,mv 52 1,mv 53 6,ob1 54 (.anU 2) 52 53 1,ou 55 (.load true 2) 54 1,oa 56 (.anD 223) 55,on 57 (.anD 224) [.t 35,.t 51,.t 56],mv 34 57,xa 58 0 34,xa 59 1 34,mv 5 58] 0 [1,2,5,6] []) .skip)))) (rg [mv 11 6,oi 12 pA 11 1,mv 6 12] 0 [1,2,5,6]))))) (sr [mv 60 5,mv 4 60] 0 [4] .ret))))
def aED:anH:=(s0 [ba 1 0 0,al 2 1 [z0,z0]] 2 [1,2] [1] (sw (r1 [fu 3 1 1 1,lv 4 3,of 5 (.anU 1) [.t 4,kI 1] 1,lv 6 5,fu 7 1 1 1,lv 8 7,of 9 (.anU 1) [.t 8,kI 2] 1,lv 10 9,ob 11 (.build [z0,z0] [(0,1),(1,1)]) 6 10,sk 2 2 11 0] 0 [2] []) .ret))
def azr:anH:=(s0 [ba 4 0 1,ba 5 1 2,mk 6 cS,mf 7 false] 2 [0,4,5] [4,5] (sw (r1 [fu 11 0 4 1,lv 12 11,fu 13 0 5 1,lv 14 13,ob 15 pQ 12 14,fu 16 1 4 1,lv 17 16,fu 18 1 5 1,lv 19 18,ob 20 pQ 17 19,mv 8 15,mv 9 20] 0 [0,4,5,8,9] []) (sr [mf 10 true] 0 [0,4,5,8,9,10] (sw (sr [mv 21 8] 0 [0,4,5,8,9,10,21] (cd 21 (rg [mv 23 0,fa 24 0 5,lo 25 24,ob 26 (.anD 281) 23 25,mv 22 26,xa 27 0 22,xa 28 1 22,mv 0 27,mv 10 28] 0 [0,4,5,8,9,10]) .skip)) (sw (sr [mv 29 10,mv 30 29,ov 31 .mov 9 30 0,pf 32 30 31] 0 [0,4,5,8,9,10,32] (cd 32 (rg [mv 34 0,fa 35 1 5,lo 36 35,ob 37 (.anD 281) 34 36,mv 33 37,xa 38 0 33,xa 39 1 33,mv 0 38,mv 10 39] 0 [0,4,8,9,10]) .skip)) (sw (sr [mv 40 8] 0 [0,4,9,10,40] (cd 40 (rg [mv 41 0,fa 42 0 4,lo 43 42,ob 44 (.anD 280) 41 43,mv 0 44] 0 [0,4,9,10]) .skip)) (sw (sr [mv 45 9] 0 [0,4,10,45] (cd 45 (rg [mv 46 0,fa 47 1 4,lo 48 47,ob 49 (.anD 280) 46 48,mv 0 49] 0 [0,10]) .skip)) (sr [mv 50 0,mv 51 10,mv 6 50,mv 7 51] 0 [6,7] .ret))))))))
def aCg:anH:=(sr [al 4 0 [z0,z0],mf 5 false] 1 [0,1,4] (sr [on 10 (.build [z0,z0] []) [],al 6 0 [z0,z0],sk 2 6 10 0,mf 7 false] 1 [0,1,4,6,7] (sw (sr [mi 8 0] 0 [0,1,4,6,7,8] (lp (sw (sr [mv 11 8,mv 12 0,oa 13 .len 12,ob 14 pL 11 13] 0 [0,1,4,6,7,8,14] (cx 14 0)) (sw (b1 (sr [mv 17 0,mv 18 8,ix 19 2 17 18,fa 20 1 19,lo 21 20,mv 9 21] 0 [0,1,4,6,7,8,9] (sw (sr [mv 22 0,mv 23 8,ix 24 2 22 23,fa 25 0 24,lo 26 25,oi 27 pE 26 3,mv 28 27,ov 29 .mov 9 28 0,ot 30 (.anU 1) [.t 29,kI 0] 28 0,ov 31 ld 30 28 0,ov 32 .mov 1 28 0,obT 33 pE 31 32 28 0,pf 34 28 33] 0 [0,1,4,6,7,8,9,34] (cd 34 (r1 [mv 35 9,of 36 (.anU 1) [.t 35,kI 1] 1,lv 37 36,mv 38 9,of 39 (.anU 1) [.t 38,kI 2] 1,lv 40 39,ob 41 (.build [z0,z0] [(0,1),(1,1)]) 37 40,sk 2 6 41 0,mf 7 true] 0 [0,1,4,6,7,8,9] []) .skip)) (sr [mv 42 0,mv 43 8,ix 44 2 42 43,fa 45 0 44,lo 46 45,oi 47 pE 46 4,mv 48 47,ov 49 .mov 9 48 0,ot 50 (.anU 1) [.t 49,kI 0] 48 0,ov 51 ld 50 48 0,ov 52 .mov 1 48 0,obT 53 pE 51 52 48 0,pf 54 48 53] 0 [0,1,4,6,7,8,54] (cd 54 (rg [mf 7 false] 0 [0,1,4,6,7,8]) .skip))))) (rg [mv 15 8,oi 16 pA 15 1,mv 8 16] 0 [0,1,4,6,7,8]))))) (sr [lw 55 2 6,mv 56 7,sk 2 4 55 0,mv 5 56] 0 [4,5] .ret))))
def aCr:anH:=(s0 [ba 4 0 0,ba 6 1 2,mi 8 0] 2 [1,3,4,6] [4,6] (sw (r1 [ou 9 (.load true 2) 4 1,fu 10 1 4 1,lv 11 10,mv 12 1,ob1 13 (.anU 1) 11 12 1,lv 14 13,ob 15 (.anD 152) 9 14,ou 16 (.load true 2) 6 1,mv 17 3,on 18 (.anD 282) [.t 15,.t 16,.t 17],mv 8 18] 0 [8] []) .ret))
def aAw:anH:=(s0 [ba 3 0 0,al 6 1 [z0,z0]] 2 [1,2,3,6] [3] (sr [fa 9 2 3,lo 10 9,mv 11 2,ix 12 2 10 11,lw 13 2 12,al 7 0 [z0,z0],sk 2 7 13 0] 1 [1,2,6,7] (sw (sr [mi 8 0] 0 [1,2,6,7,8] (lp (sw (sr [mv 14 8,mv 15 1,oa 16 .len 15,ob 17 pL 14 16] 0 [1,2,6,7,8,17] (cx 17 0)) (sw (b1 (sr [mv 20 1,mv 21 8,ix 22 2 20 21,fa 23 0 22,lo 24 23,oi 25 pE 24 4,mv 26 25,ov 27 .mov 1 26 0,ov 28 .mov 8 26 0,obT 29 (.anU 2) 27 28 26 0,ov 30 (.fld 1) 29 26 0,ov 31 ld 30 26 0,ot 32 (.anU 1) [.t 31,kI 0] 26 0,ov 33 ld 32 26 0,ov 34 .mov 2 26 0,obT 35 pE 33 34 26 0,pf 36 26 35] 0 [1,2,6,7,8,36] (cd 36 (rg [mv 38 1,mv 39 8,ob 40 (.axG 2 false true false) 38 39,mv 41 2,ob 42 (.anD 226) 40 41,mv 37 42,xa 43 0 37,xa 44 1 37,sk 2 7 43 0] 0 [1,2,6,7,8]) .skip))) (rg [mv 18 8,oi 19 pA 18 1,mv 8 19] 0 [1,2,6,7,8]))))) (sr [lw 45 2 7,sk 2 6 45 0] 0 [6] .ret))))
def aGs:anH:=(sr [ag 4 1] 0 [0,1] (sr [ag 5 1] 0 [0,1,5] (sr [mi 6 0] 0 [0,1,5,6] (sw (lp (sw (sr [mv 7 6,mv 8 0,oa 9 .len 8,ob 10 pL 7 9,mv 11 10,ov 12 .mov 0 11 0,ov 13 .mov 6 11 0,obT 14 (.anU 1) 12 13 11 0,ov 15 ld 14 11 0,ov 16 .mov 1 11 0,obT 17 (.bin .leq) 15 16 11 0,pf 18 11 17] 0 [0,1,5,6,18] (cx 18 0)) (b1 (sr [mv 19 5,mv 20 0,mv 21 6,ix 22 1 20 21,lo 23 22,oa 24 (.aoM 1 [z0] [0]) 23,ob 25 (.app 1 false) 19 24,mv 5 25] 0 [0,1,5,6] (rg [mv 26 6,oi 27 pA 26 1,mv 6 27] 0 [0,1,5,6]))))) (sw (r1 [mv 28 5,mv 29 1,ou 30 (.aoM 1 [z0] [0]) 29 1,ob 31 (.app 1 false) 28 30,mv 32 0,mv 33 6,ob1 34 (.axG 1 true false false) 32 33 1,ob 35 (.app 1 false) 31 34,mv 4 35] 0 [4] []) .ret)))))
def aCm:anH:=(sr [ag 4 1,mf 5 false] 0 [0,1] (sw (sr [mi 6 0] 0 [0,1,6] (lp (sw (sr [mv 7 6,mv 8 0,oa 9 .len 8,ob 10 pL 7 9] 0 [0,1,6,10] (cx 10 0)) (sw (b1 (sr [mv 13 0,mv 14 6,ix 15 1 13 14,lo 16 15,mv 17 1,ob 18 pE 16 17] 0 [0,1,6,18] (cd 18 (sw (r1 [mv 19 0,mv 20 6,ob1 21 (.axG 1 false true false) 19 20 1,on 22 (.app 1 false) [cS,.t 21],mv 23 0,mv 24 6,oi 25 pA 24 1,ob1 26 (.axG 1 true false false) 23 25 1,ob 27 (.app 1 false) 22 26,mv 4 27,mf 5 true] 0 [4,5] []) .ret) .skip))) (rg [mv 11 6,oi 12 pA 11 1,mv 6 12] 0 [0,1,6]))))) (sr [mv 28 0,mv 4 28,mf 5 false] 0 [4,5] .ret)))
def aB5:anH:=(sr [mf 2 false] 0 [0] (sr [mv 3 0,on 4 (.anD 154) [.t 3,kI 0,kI 10800],mv 2 4] 0 [2] .ret))
def ayz:anH:=(s0 [ba 1 0 0,mf 2 false] 1 [1] [1] (sr [fa 3 0 1,lo 4 3,on 5 (.anD 154) [.t 4,kI 0,kI 50000],mv 6 5,ov 7 (.fld 1) 1 6 0,ov 8 ld 7 6 0,ot 9 (.anD 154) [.t 8,kI 1,kI 50000] 6 0,pf 10 6 9,mv 2 10] 0 [2] .ret))
def aEj:anH:=(sr [mf 4 false] 0 [0,1] (sw (sr [mv 6 0,oa 7 .len 6,mv 8 1,oa 9 .len 8,ob 10 pQ 7 9] 0 [0,1,10] (cd 10 (sr [mf 4 false] 0 [4] .ret) .skip)) (sw (sr [mi 5 0] 0 [0,1,5] (lp (sw (sr [mv 11 5,mv 12 0,oa 13 .len 12,ob 14 pL 11 13] 0 [0,1,5,14] (cx 14 0)) (sw (b1 (sw (r1 [mv 17 0,mv 18 5,ob1 19 (.anU 1) 17 18 1,lv 20 19,mv 21 1,mv 22 5,ob1 23 (.anU 1) 21 22 1,lv 24 23,ob 25 pQ 20 24] 0 [0,1,5,25] []) (cd 25 (sr [mf 4 false] 0 [4] .ret) .skip))) (rg [mv 15 5,oi 16 pA 15 1,mv 5 16] 0 [0,1,5]))))) (sr [mf 4 true] 0 [4] .ret))))
def aB6:anH:=(sr [mf 2 false] 0 [0] (sr [mv 3 0,on 4 (.anD 154) [.t 3,kI 4,kI 60],mv 2 4] 0 [2] .ret))
def aGl:anH:=(s0 [ba 4 0 1,mi 6 0] 1 [0,2,4] [4] (sr [mv 10 0,lw 11 2 4,mv 12 2,on 13 (.anD 306) [.t 10,.t 11,.t 12],mv 9 13,xa 14 0 9,xa 15 1 9,mv 7 14,mv 8 15] 0 [7,8] (sw (sr [mv 16 7,oi 17 pL 16 0] 0 [7,8,17] (cd 17 (sr [mv 18 7,oa 19 (.un .neg) 18,mv 20 8,ob 21 (.bin .quo) 19 20,oa 22 (.un .neg) 21,mv 6 22] 0 [6] .ret) .skip)) (sr [mv 23 7,mv 24 8,ob 25 (.bin .quo) 23 24,mv 6 25] 0 [6] .ret))))
def aB7:anH:=(sr [al 2 0 [z0,z0]] 1 [0,2] (sr [on 5 (.build [z0,z0] [(0,1),(1,1)]) [kI 1,kI 1],al 3 0 [z0,z0],sk 2 3 5 0] 1 [0,2,3] (sw (sr [mi 4 0] 0 [0,2,3,4] (lp (sw (sr [mv 6 4,mv 7 0,oa 8 .len 7,ob 9 pL 6 8] 0 [0,2,3,4,9] (cx 9 0)) (sw (b1 (r1 [fu 12 0 3 2,ou 13 ld 12 2,mv 14 0,mv 15 4,ob1 16 (.anU 2) 14 15 1,fu 17 0 16 1,lv 18 17,ob 19 pM 13 18,fu 20 1 3 2,ou 21 ld 20 2,mv 22 0,mv 23 4,ob1 24 (.anU 2) 22 23 1,fu 25 1 24 1,lv 26 25,ob 27 pM 21 26,ob 28 (.build [z0,z0] [(0,1),(1,1)]) 19 27,sk 2 3 28 0] 0 [0,2,3,4] [])) (rg [mv 10 4,oi 11 pA 10 1,mv 4 11] 0 [0,2,3,4]))))) (sr [lw 29 2 3,oa 30 (.anD 307) 29,sk 2 2 30 0] 0 [2] .ret))))
def aGm:anH:=(s0 [ba 4 0 1,mi 6 0,mi 7 0] 1 [0,2,4] [4] (s0 [mv 9 0,oa 10 (.anD 287) 9,al 8 0 [z0,z0],sk 2 8 10 0] 1 [2,4,8] [8] (sw (r1 [fu 11 0 8 1,lv 12 11,fu 13 1 4 1,lv 14 13,ob 15 pM 12 14,fu 16 0 4 1,lv 17 16,fu 18 1 8 1,lv 19 18,ob 20 pM 17 19,ob 21 pU 15 20,mv 22 2,ob 23 pM 21 22,oi 24 pM 23 21600,fu 25 1 8 1,lv 26 25,fu 27 1 4 1,lv 28 27,ob 29 pM 26 28,mv 6 24,mv 7 29] 0 [6,7] []) .ret)))
def azm:anH:=(s0 [ba 1 0 0,al 2 1 [z0,z0]] 2 [1,2] [1] (sr [fa 4 0 1,lo 5 4,fa 6 1 1,lo 7 6,ob 8 (.anD 334) 5 7,mv 3 8] 0 [1,2,3] (sw (r1 [fu 9 0 1 1,lv 10 9,mv 11 3,ob 12 (.bin .quo) 10 11,fu 13 1 1 1,lv 14 13,mv 15 3,ob 16 (.bin .quo) 14 15,ob 17 (.build [z0,z0] [(0,1),(1,1)]) 12 16,sk 2 2 17 0] 0 [2] []) .ret)))
end Go.Tel
namespace Go.Am
def aRW {C:Ctx}{base:Nat}{M:Mem}{K:PV->Mem->Prop}{KP:DV->Mem->Prop}{xs:List DV}{l:List UInt8}{ex:Bool}(h:bytesOf xs=some l)(a:K (.d (.str ⟨l.toArray⟩)) M):anG C base .b2s [.d (.slice ex xs)] M K KP:=by
 simp only[anG,auD,h];exact a
end Go.Am
namespace Go.Tel
open Go.Am Go.Lib
def aLx (n l h:Int):Pure C 124 [dI n,dI l,dI h] (.d (.bool (inR n l h))) []:=aw4 n l h
def aBP (k:Int):Int:=if k=1\/k=5\/k=6 then 1 else if k=4 then 2 else if k=2\/k=3 then 3 else -1
def aVU (k:Int):Pure C 123 [dI k] (pI (aBP k)) []:=by
 refine am6 aEA anN ?_;simp only[aEA,anN,RN,r];unfold aBP
 by_cases h1:k=1
 ·have b1:(k==1)=true:=by simp[h1]
  simp only[b1,RN,r];simp[h1]
 have b1:(k==1)=false:=beq_false_of_ne h1;simp only[b1,RN,r]
 by_cases h2:k=5
 ·have e:(k==5)=true:=by simp[h2]
  simp only[e,RN,r];simp[h2]
 have e:(k==5)=false:=beq_false_of_ne h2;simp only[e,RN,r]
 by_cases a:k=6
 ·have f:(k==6)=true:=by simp[a]
  simp only[f,RN,r];simp[a]
 have f:(k==6)=false:=beq_false_of_ne a;simp only[f,RN,r]
 by_cases b:k=4
 ·have g:(k==4)=true:=by simp[b]
  simp only[g,RN,r];simp[b]
 have g:(k==4)=false:=beq_false_of_ne b;simp only[g,RN,r]
 by_cases c:k=2
 ·have h:(k==2)=true:=by simp[c]
  simp only[h,RN,r];simp[c]
 have h:(k==2)=false:=beq_false_of_ne c;simp only[h,RN,r]
 by_cases d:k=3
 ·have i:(k==3)=true:=by simp[d]
  simp only[i,RN];simp[d]
 have i:(k==3)=false:=beq_false_of_ne d;simp only[i,RN];simp[h1,h2,a,b,c,d]
def aMR (x:En):x.formed=(decide ((x.ns.length:Int)=aBP x.kind)&&x.ns.all fun n=>inR n 0 9999):=by
 unfold En.formed
 congr 1
 by_cases h:1<=x.kind/\x.kind<=6
 ·rw[show inR x.kind 1 6=true by simp[inR,h],W]
  have:aBP x.kind=(apG x.kind:Int):=by
   rcases aMo h with e|e|e|e|e|e<;>rw[e]<;>rfl
  rw[this]
  by_cases a:x.ns.length=apG x.kind
  ·rw[decide_eq_true a,decide_eq_true (by omega)]
  ·rw[decide_eq_false a,decide_eq_false (by omega)]
 ·rw[show inR x.kind 1 6=false by simp only[inR,an,decide_eq_false_iff_not];omega,Q]
  have:aBP x.kind= -1:=by
   unfold aBP;rw[if_neg (by omega),if_neg (by omega),if_neg (by omega)]
  rw[this,decide_eq_false (by omega)]
def aQv (x:En)(hx:x.ns.length<=1000000):Pure C 43 [x.dv] (.d (.bool x.formed)) []:=by
 refine am6 aAv anN ?_;rw[aon,aMR];simp only[aAv,anN,J,RN,r,A,I];refine anE (aVU _) ?_
 by_cases e:(x.ns.length:Int)=aBP x.kind
 case neg=>
  have b:((x.ns.length:Int) !=aBP x.kind)=true:=by simp[e]
  simp only[b,RN,r];simp[e]
 have b:((x.ns.length:Int) !=aBP x.kind)=false:=by simp[e]
 simp only[b,RN,r];rw[decide_eq_true e,W];refine anL x.ns.length (fun i (_:Unit)=>⟨[(1, .d (.anY [dI x.kind,sF (x.ns.map anF)])),(3,pI i)],⟨[some [pI x.kind, .d (sF (x.ns.map anF))]],[0],[]⟩⟩)
  (fun i _=>(x.ns.all fun n=>inR n 0 9999)=((x.ns.drop i).all fun n=>inR n 0 9999)) 0 () (U _) rfl rfl (fun i _ c a=> ?_) (fun _ a=> ?_)
 ·obtain⟨g,h,j⟩:=rng c hx
  rw[drop_cons c,aE]at a;simp only[g,h,c,getD_map,anM,O,J,RN,r,A,I];refine anE (aLx _ _ _) ?_;cases f:inR (x.ns.getD i default) 0 9999
  ·rw[f,Q]at a
   simp only[a,RN,r]
  ·rw[f,W]at a
   simp only[j,RN,r];exact anT () c rfl a
 ·rw[X,aM]at a
  simp only[V,J,a,RN,r,A,I]
def aHq (d:Nat):ByteArray:=⟨#[UInt8.ofNat (48+d)]⟩
def aAe:Nat->Nat->ByteArray->ByteArray
 |0,_,s=>s
 |k+1,n,s=>if 10<=n then aAe k (n / 10) (aHq (n / 10 % 10)++s)else s
def aKg:∀(k n:Nat) (s:ByteArray),n<=k->(aAe k n s).data.toList=(if 10<=n then decDigits (n / 10)else[])++s.data.toList
 |0,n,s,h=>by rw[aAe,if_neg (by omega),aO]
 |k+1,n,s,h=>by
  rw[aAe]
  by_cases h1:10<=n
  ·have hd:(aHq (n / 10 % 10)).data.toList=[UInt8.ofNat (48+n / 10 % 10)]:=rfl
   rw[if_pos h1,if_pos h1,aKg k (n / 10) _ (by omega),avT,hd]
   by_cases h2:10<=n / 10
   ·rw[if_pos h2,aXe (show¬n / 10<10 by omega)];simp
   ·rw[if_neg h2,aUD (show n / 10<10 by omega),a8 (show n / 10<10 by omega)];simp
  ·rw[if_neg h1,if_neg h1,aO]
def aUE (n:Nat):aAe n n (aHq (n % 10))=apC n:=by
 refine aW4 ?_;rw[aM6,aKg n n _ (ai _)];have hd:(aHq (n % 10)).data.toList=[UInt8.ofNat (48+n % 10)]:=rfl;rw[hd]
 by_cases h:10<=n
 ·rw[if_pos h,aXe (show¬n<10 by omega)]
 ·rw[if_neg h,aUD (show n<10 by omega),a8 (show n<10 by omega)];rfl
def aHT {d:Nat}(h:d<10):bytesOf [.int .u8 ((48+d:Nat):Int)]=some [UInt8.ofNat (48+d)]:=by
 exact(by decide:∀d<10,bytesOf [.int .u8 ((48+d:Nat):Int)]=some [UInt8.ofNat (48+d)]) d h
def aT4 {n:Nat}:IntKind.u8.wrap (bo .i64 (48+((n % 10:Nat):Int)))=((48+n % 10:Nat):Int):=by
 have h:n % 10<10:=aW _ (by decide);generalize n % 10=d at h;exact(by decide:∀d<10,IntKind.u8.wrap (bo .i64 (48+((d:Nat):Int)))=((48+d:Nat):Int)) d h
def aNy (n:Nat)(o:n<=4611686018427387904):Pure C 217 [dI n] (.d (.str (apC n))) []:=by
 have t1:∀m:Nat,(m:Int).tmod 10=((m % 10:Nat):Int):=fun m=>(bh m 10).symm
 have t2:∀m:Nat,(m:Int).tdiv 10=((m / 10:Nat):Int):=fun m=>(aQ m 10).symm
 have z:(10:Int)≠0:=by decide
 refine am6 azq anN ?_;rw[<-aUE];simp only[azq,anN,t1,z,aT4,ao8,DV.strip,aqi,RN,r];refine aRW (aHT (aW _ (by decide))) ?_;refine apW (fun(q:Nat×Nat×ByteArray)=>⟨[(0,pI q.2.1),(3, .d (.str q.2.2))],⟨[],[],[]⟩⟩)
  (fun q=>aAe n n (aHq (n % 10))=aAe q.1 q.2.1 q.2.2/\q.2.1<=q.1/\q.2.2.size+q.1<=n+1) (fun q=>q.1) (n,n,aHq (n % 10)) rfl ⟨rfl,ai _,by simp[aHq,ByteArray.size];omega⟩ (fun q g=> ?_)
 obtain⟨k,m,t⟩:=q;obtain⟨b,i,j⟩:=g;simp only at b i j
 by_cases c:10<=m
 ·obtain⟨k,rfl⟩:∃h,k=h+1:=⟨k - 1,by omega⟩
  rw[aAe,if_pos c]at b;have b1:(m:Int)>=10:=by omega
  have l:bo .i64 ((m / 10:Nat):Int)=((m / 10:Nat):Int):=anI (by omega);simp only[b1,t1,t2,l,z,aT4,ao8,DV.strip,aqi,RN,r];refine aRW (aHT (aW _ (by decide))) ?_;have hd:(⟨[UInt8.ofNat (48+m / 10 % 10)].toArray⟩:ByteArray)=aHq (m / 10 % 10):=rfl;have e:(aHq (m / 10 % 10)).size=1:=rfl;rw[hd];simp only[apu,aqQ];refine⟨by omega,?_⟩;exact aC0 (a:=(k+1,m,t)) (μ:=fun q=>q.1) (k,m / 10,aHq (m / 10 % 10)++t) (a7 _) rfl ⟨b,by simp only;omega,by simp only[ah];omega⟩ (by simp) (by simp) rfl rfl
 ·have b1:¬(m:Int)>=10:=by omega
  have f:aAe k m t=t:=by cases k with
   |zero=>rfl
   |succ k=>rw[aAe,if_neg c]
  simp only[b1,RN,r];rw[b,f]
def aGz {n:Int}(h:0<=n/\n<=4611686018427387904):Pure C 217 [dI n] (.d (.str (apC n))) []:=by
 obtain⟨m,rfl⟩:=aJ h.1;exact aNy m (by omega)
def aHh (out:ByteArray):List Int->ByteArray
 | []=>out
 |n::l=>aHh (out++⟨#[32]⟩++apC n) l
def aHF:∀(ns:List Int) (out:ByteArray),(aHh out ns).data.toList=out.data.toList++(ns.map fun n=>32::(apC n).data.toList).flatten
 | [],out=>by simp[aHh]
 |n::ns,out=>by
  rw[aHh,aHF ns,avT,avT];simp
def itoa_neg {n:Int}(h:n<0)(s:ByteArray):s++⟨#[32,45]⟩++apC (0 - n)=s++⟨#[32]⟩++apC n:=by
 refine aW4 ?_;have a:(apC n).data.toList=45::decDigits n.natAbs:=by rw[apC,itoa,if_pos h]
 have b:(apC (0 - n)).data.toList=decDigits n.natAbs:=by
  have:0 - n=((n.natAbs:Nat):Int):=by omega
  rw[this,aM6]
 simp only[avT,a,b,ao]
 rfl
def aTF (l:List Int)(hl:l.length<=1000)(hb:∀n∈l, -4611686018427387904<=n/\n<=4611686018427387904):Pure C 128 [sF (l.map anF)] (.d (.str (aHh ⟨#[]⟩ l))) []:=by
 refine am6 aCq anN ?_;simp only[aCq,anN,RN,r];refine anL l.length (fun i (out:ByteArray)=>⟨[(0, .d (sF (l.map anF))),(3, .d (.str out)),(4,pI i)],⟨[],[],[]⟩⟩)
  (fun i out=>aHh ⟨#[]⟩ l=aHh out (l.drop i)/\out.size<=30*i) 0 ⟨#[]⟩ (U _) rfl ⟨rfl,ai _⟩ (fun i out a b=> ?_) (fun out b=> ?_)
 ·obtain⟨r1,r2⟩:=b
  obtain⟨f,g,h⟩:=rng a (by omega);rw[drop_cons a,aHh]at r1;have m:=hb _ (getD_mem a);have j:(⟨#[32]⟩:ByteArray).size=1:=rfl;have k:(⟨#[32,45]⟩:ByteArray).size=2:=rfl;obtain⟨n,c⟩:∃n,n=l.getD i default:=⟨_,rfl⟩
  rw[<-c]at r1 m;have q:=av3 (n:=n) ⟨by omega,by omega⟩;have s:=av3 (n:=0 - n) ⟨by omega,by omega⟩;have p:out.size+1+(apC n).size<=30*(i+1):=by omega
  by_cases e:n<0
  ·have o:bo .i64 (0 - n)=0 - n:=anI (by omega)
   simp only[J,f,g,a,O,getD_map,anM,<-c,e,apu,aqQ,o,RN,r,I];refine⟨by omega,?_⟩;refine aoQ rfl rfl (aGz ⟨by omega,by omega⟩) ?_;simp only[apu,aqQ,h,itoa_neg e];refine⟨by rw[ah];omega,?_⟩;exact aoD (out++⟨#[32]⟩++apC n) a rfl ⟨r1,by simp only[ah];omega⟩ (by simp) (by simp) rfl rfl
  ·simp only[J,f,g,a,O,getD_map,anM,<-c,e,apu,aqQ,RN,r,I]
   refine⟨by omega,?_⟩;refine aoQ rfl rfl (aGz ⟨by omega,by omega⟩) ?_;simp only[apu,aqQ,h];refine⟨by rw[ah];omega,?_⟩;exact aoD (out++⟨#[32]⟩++apC n) a rfl ⟨r1,by simp only[ah];omega⟩ (by simp) (by simp) rfl rfl
 ·obtain⟨r1,r2⟩:=b
  rw[X,aHh]at r1;simp only[V,J,RN,r];rw[r1]
def aV6 {k:Int}(hk:1<=k/\k<=6):Pure C 127 [dI k] (.d (.str (fwE k))) []:=by
 refine am6 aEB anN ?_;simp only[aEB,anN,RN,r];refine azb rfl rfl rfl ?_
 rcases aMo hk with rfl|rfl|rfl|rfl|rfl|rfl
 all_goals((try simp only[RN,A]);exact⟨by decide,by decide,rfl,ai 1,rfl⟩)
def aVJ (x:En)(hx:x.formed=true):Pure C 45 [x.dv] (.d (.str x.line)) []:=by
 obtain⟨h1,h2,b⟩:=aFQ hx;have f:=aDg hx;have h:=avY hx;have a:=azY hx;have c:x.line=fwE x.kind++aHh ⟨#[]⟩ x.ns:=by
  refine aW4 ?_;rw[aIa (by intro e;rw[e]at b;simp at b),avT,aHF];simp
 rw[c,ah]at a;refine am6 aEv anN ?_;rw[aon,c];simp only[aEv,anN,RN,r,A,I];refine anE (aV6 h1) ?_;(try simp only[RN,r,A,B,F,H,I]);refine aoQ rfl rfl (aTF x.ns (by omega) (fun n g=>by have:=f n g;omega)) ?_;simp only[apu,aqQ,RN];omega
def aWa (a b:List Int)(p:a.length<=1000000)(hb:b.length<=1000000):Pure C 87 [sF (a.map anF),sF (b.map anF)] (.d (.bool (decide (a=b)))) []:=by
 refine am6 aEj anO ?_;simp only[aEj,anO,J,RN,r,A]
 by_cases k:a.length=b.length
 case neg=>
  have e:((a.length:Int) !=(b.length:Int))=true:=by simp;omega
  simp only[e,RN,r];have:a≠b:=fun e=>k (by rw[e])
  simp[this]
 have e:((a.length:Int) !=(b.length:Int))=false:=by simp[k]
 simp only[e,RN,r];refine anL a.length (fun i (_:Unit)=>⟨[(0, .d (sF (a.map anF))),(1, .d (sF (b.map anF))),(5,pI i)],⟨[],[],[]⟩⟩)
  (fun i _=>decide (a=b)=decide (a.drop i=b.drop i)) 0 () (U _) rfl (by simp) (fun i _ g c=> ?_) (fun _ c=> ?_)
 ·obtain⟨l,m,o⟩:=rng g p
  have f:i<b.length:=by omega
  have n:(i:Int)<(b.length:Int):=by omega
  rw[drop_cons g,drop_cons f]at c;simp only[J,l,m,g,f,O,getD_map,anM,RN,r,I]
  by_cases h:a.getD i default=b.getD i default
  ·have j:(a.getD i default !=b.getD i default)=false:=bne_eq_false_iff_eq.2 h
   rw[h]at c;simp only[j,o,RN,r];exact anT () g rfl (by rw[c];simp)
  ·have j:(a.getD i default !=b.getD i default)=true:=bne_iff_ne.2 h
   simp only[j,RN,r];rw[c,decide_eq_false (by intro e;exact h (List.cons.inj e).1)]
 ·rw[X,List.drop_of_length_le (by omega)]at c
  simp only[V,J,c,RN,r]
def aTG (a b:List Int)(c:a.length<=1000000)(hb:b.length<=1000000):Pure C 23 [sF (a.map anF),sF (b.map anF)] (.d (.bool (decide (a=b)))) []:=by
 refine am6 aEw anO ?_;simp only[aEw,anO,RN,r,A];refine anE (aWa a b c hb) ?_;(try simp only[])
def aEn:anH:=(s0 [ba 2 0 0,mi 4 0] 1 [1,2] [2] (sw (sr [lw 5 2 2,mv 6 1,ob 7 (.anD 106) 5 6] 0 [7] (cd 7 (sr [mi 4 366] 0 [4] .ret) .skip)) (sr [mi 4 365] 0 [4] .ret)))
def ayA:anH:=(s0 [ba 1 0 0,mf 2 false] 1 [1] [1] (sw (sr [mi 3 0] 0 [1,3] (lp (sw (sr [mv 4 3,fa 5 1 1,lo 6 5,oa 7 .len 6,ob 8 pL 4 7] 0 [1,3,8] (cx 8 0)) (sw (b1 (sw (r1 [fu 11 1 1 1,lv 12 11,mv 13 3,ob1 14 (.anU 1) 12 13 1,lv 15 14,on 16 (.anD 105) [.t 15,kI 2,kI 1000],oa 17 pN 16,mv 18 17,ow 19 .mov 3 18 0,oF 20 pG [.t 19,kI 0] 18 0,ow 21 .mov 20 18 0,ov 22 (.fld 1) 1 21 1,ov 23 ld 22 21 1,ov 24 .mov 3 21 0,obT 25 (.anU 1) 23 24 21 1,ov 26 ld 25 21 1,ov 27 (.fld 1) 1 21 1,ov 28 ld 27 21 1,ov 29 .mov 3 21 0,ot 30 pU [.t 29,kI 1] 21 0,obT 31 (.anU 1) 28 30 21 1,ov 32 ld 31 21 1,obT 33 (.bin .leq) 26 32 21 0,oF 34 .pick [.t 21,.t 33,.c (.bool false)] 18 0,pt 35 18 34] 0 [1,3,35] []) (cd 35 (sr [mf 2 false] 0 [2] .ret) .skip))) (rg [mv 9 3,oi 10 pA 9 1,mv 3 10] 0 [1,3]))))) (sr [fa 36 0 1,lo 37 36,on 38 (.anD 105) [.t 37,kI 0,kI 1000],mv 39 38,ov 40 (.fld 1) 1 39 0,ov 41 ld 40 39 0,ov 42 .len 41 39 0,ot 43 (.anD 105) [.t 42,kI 1,kI 3] 39 0,pf 44 39 43,mv 2 44] 0 [2] .ret)))
def aEo:anH:=(s0 [ba 1 0 0,mf 2 false] 1 [1] [1] (sr [fa 3 1 1,lo 4 3,on 5 (.anD 105) [.t 4,kI 1,kI 1000],mv 6 5,ov 7 (.fld 0) 1 6 0,ov 8 ld 7 6 0,ov 9 (.fld 1) 1 6 0,ov 10 ld 9 6 0,ot 11 pM [kI 29,.t 10] 6 0,ov 12 (.fld 1) 1 6 0,ov 13 ld 12 6 0,ot 14 pM [kI 30,.t 13] 6 0,ot 15 (.anD 105) [.t 8,.t 11,.t 14] 6 0,pf 16 6 15,mv 17 16,ov 18 (.fld 2) 1 17 0,ov 19 ld 18 17 0,ov 20 (.fld 0) 1 17 0,ov 21 ld 20 17 0,ot 22 pU [.t 21,kI 1] 17 0,ot 23 (.anD 105) [.t 19,kI 0,.t 22] 17 0,pf 24 17 23,mv 2 24] 0 [2] .ret))
def aAr:anH:=(sr [mf 2 false] 0 [0] (sw (sr [mi 3 0] 0 [0,3] (lp (sw (sr [mv 4 3,mv 5 0,oa 6 .len 5,ob 7 pL 4 6] 0 [0,3,7] (cx 7 0)) (sw (b1 (sr [mv 10 0,mv 11 3,ix 12 4 10 11,lw 13 4 12,oa 14 (.anD 156) 13,oa 15 pN 14] 0 [0,3,15] (cd 15 (sr [mf 2 false] 0 [2] .ret) .skip))) (rg [mv 8 3,oi 9 pA 8 1,mv 3 9] 0 [0,3]))))) (sr [mv 16 0,oa 17 .len 16,oi 18 (.bin .leq) 17 6,mv 2 18] 0 [2] .ret)))
def aEq:anH:=(sr [mf 2 false] 0 [0] (sr [mv 3 0,on 4 (.anD 105) [.t 3,kI 0,kI 4000],mv 2 4] 0 [2] .ret))
def aEm:anH:=(s0 [ba 2 0 0,mf 4 false] 1 [1,2] [2] (sr [mi 5 0] 0 [1,2,5] (sw (sr [mi 6 0] 0 [1,2,5,6] (lp (sw (sr [mv 7 6,fa 8 1 2,lo 9 8,oa 10 .len 9,ob 11 pL 7 10] 0 [1,2,5,6,11] (cx 11 0)) (sw (b1 (sr [mv 14 1,fa 15 1 2,lo 16 15,mv 17 6,ix 18 1 16 17,lo 19 18,ob 20 (.bin .rem) 14 19,oi 21 pE 20 0] 0 [1,2,5,6,21] (cd 21 (rg [mv 22 5,oi 23 pA 22 1,mv 5 23] 0 [1,2,5,6]) .skip))) (rg [mv 12 6,oi 13 pA 12 1,mv 6 13] 0 [1,2,5,6]))))) (sr [mv 24 5,oi 25 (.bin .rem) 24 2,oi 26 pE 25 1,mv 4 26] 0 [4] .ret))))
def aEk:anH:=(s0 [ba 2 0 0,al 4 1 [z0,z0,z0],mf 5 false] 2 [1,2,4] [2] (sr [mv 11 1,fa 12 0 2,lo 13 12,ob 14 pU 11 13,mv 6 14] 0 [2,4,6] (sw (sr [mv 15 6,oi 16 pL 15 0] 0 [2,4,6,16] (cd 16 (sr [on 17 (.build [z0,z0,z0] []) [],sk 3 4 17 0,mf 5 false] 0 [4,5] .ret) .skip)) (sw (sr [mi 7 0] 0 [2,4,6,7] (lp (sw (sr [mv 18 7,oi 19 (.bin .leq) 18 4000] 0 [2,4,6,7,19] (cx 19 0)) (sw (b1 (sw (sr [lw 22 2 2,mv 23 7,ob 24 (.anD 35) 22 23,mv 8 24] 0 [2,4,6,7,8] (sr [mv 25 6,mv 26 8,ob 27 (.bin .geq) 25 26] 0 [2,4,6,7,8,27] (cd 27 (sr [mv 28 6,mv 29 8,ob 30 pU 28 29,mv 6 30] 0 [2,4,6,7] (.exit 1)) .skip))) (sr [mi 9 1] 0 [2,4,6,7,9] (.block 2 (.loop (sw (sr [mv 31 9,oi 32 (.bin .leq) 31 12] 0 [2,4,6,7,9,32] (cx 32 2)) (sw (.block 3 (sr [mv 35 9,lw 36 2 2,mv 37 7,ob 38 (.anD 106) 36 37,ob 39 (.anD 233) 35 38,mv 10 39] 0 [2,4,6,7,9,10] (sw (sr [mv 40 6,mv 41 10,ob 42 pL 40 41] 0 [2,4,6,7,9,10,42] (cd 42 (sr [mv 43 7,mv 44 9,mv 45 6,oi 46 pA 45 1,on 47 (.build [z0,z0,z0] [(0,1),(1,1),(2,1)]) [.t 43,.t 44,.t 46],sk 3 4 47 0,mf 5 true] 0 [4,5] .ret) .skip)) (rg [mv 48 6,mv 49 10,ob 50 pU 48 49,mv 6 50] 0 [2,4,6,7,9])))) (rg [mv 33 9,oi 34 pA 33 1,mv 9 34] 0 [2,4,6,7,9])))))))) (rg [mv 20 7,oi 21 pA 20 1,mv 7 21] 0 [2,4,6,7]))))) (sr [on 51 (.build [z0,z0,z0] []) [],sk 3 4 51 0,mf 5 false] 0 [4,5] .ret)))))
def aB9:anH:=(s0 [ba 2 0 0,mi 4 0] 1 [1,2] [2] (sr [fa 7 0 2,lo 8 7,mv 9 1,on 10 pM [kI 365,.t 9],ob 11 pA 8 10,mv 5 11] 0 [1,2,5] (sw (sr [mi 6 0] 0 [1,2,5,6] (lp (sw (sr [mv 12 6,mv 13 1,ob 14 pL 12 13] 0 [1,2,5,6,14] (cx 14 0)) (sw (b1 (sr [lw 17 2 2,mv 18 6,ob 19 (.anD 106) 17 18] 0 [1,2,5,6,19] (cd 19 (rg [mv 20 5,oi 21 pA 20 1,mv 5 21] 0 [1,2,5,6]) .skip))) (rg [mv 15 6,oi 16 pA 15 1,mv 6 16] 0 [1,2,5,6]))))) (sr [mv 22 5,mv 4 22] 0 [4] .ret))))
def aB8:anH:=(s0 [ba 1 0 0,mf 2 false] 1 [1] [1] (sw (sr [fa 3 0 1,lo 4 3] 0 [1,4] (cd 4 (sr [fa 5 1 1,lo 6 5,oi 7 pE 6 0,mv 8 7,ov 9 (.fld 2) 1 8 0,ov 10 ld 9 8 0,ot 11 pE [.t 10,kI 0] 8 0,pf 12 8 11,mv 13 12,ov 14 (.fld 3) 1 13 0,ov 15 ld 14 13 0,ot 16 (.anD 105) [.t 15,kI (-60),kI 60] 13 0,pf 17 13 16,mv 2 17] 0 [2] .ret) .skip)) (sr [fa 18 1 1,lo 19 18,on 20 (.anD 105) [.t 19,kI 1,kI 12],mv 21 20,ov 22 (.fld 2) 1 21 0,ov 23 ld 22 21 0,ot 24 (.anD 105) [.t 23,kI 1,kI 31] 21 0,pf 25 21 24,mv 26 25,ov 27 (.fld 3) 1 26 0,ov 28 ld 27 26 0,ot 29 pE [.t 28,kI 0] 26 0,pf 30 26 29,mv 2 30] 0 [2] .ret)))
def axq:anH:=(s0 [ba 4 0 0,ba 5 1 1,ag 8 1] 2 [2,3,4,5] [4,5] (sr [ag 9 1] 0 [2,3,4,5,9] (sw (sr [mi 10 0] 0 [2,3,4,5,9,10] (lp (sw (sr [mv 11 10,mv 12 2,oa 13 .len 12,ob 14 pL 11 13] 0 [2,3,4,5,9,10,14] (cx 14 0)) (sw (b1 (r1 [mv 17 9,ou 18 (.load true 2) 4 1,ou 19 (.load true 3) 5 1,mv 20 2,mv 21 10,ob1 22 (.anU 4) 20 21 1,ou 23 (.load true 4) 22 1,mv 24 3,on 25 (.anD 286) [.t 18,.t 19,.t 23,.t 24],ou 26 (.aoM 1 [z0] [0]) 25 1,ob 27 (.app 1 false) 17 26,mv 9 27] 0 [2,3,4,5,9,10] [])) (rg [mv 15 10,oi 16 pA 15 1,mv 10 16] 0 [2,3,4,5,9,10]))))) (sr [mv 28 9,mv 8 28] 0 [8] .ret))))
def aAs:anH:=(sr [mi 4 0] 0 [0,1] (sw (sr [mv 5 0,oi 6 pE 5 2,mv 7 6,ov 8 .mov 1 7 0,pf 9 7 8] 0 [0,9] (cd 9 (sr [mi 4 29] 0 [4] .ret) .skip)) (sr [on 10 (.aoM 1 [z0,z0,z0,z0,z0,z0,z0,z0,z0,z0,z0,z0] [0,1,2,3,4,5,6,7,8,9,10,11]) [kI 31,kI 28,kI 31,kI 30,kI 31,kI 30,kI 31,kI 31,kI 30,kI 31,kI 30,kI 31],mv 11 0,oi 12 pU 11 1,ix 13 1 10 12,lo 14 13,mv 4 14] 0 [4] .ret)))
def ayB:anH:=(s0 [ba 4 0 0,ba 5 1 1,ba 6 2 2,mi 8 0] 3 [3,4,5,6] [4,5,6] (sw (sr [fa 10 0 6,lo 11 10] 0 [3,4,5,6,11] (cd 11 (sw (r1 [ou 12 (.load true 2) 4 1,ou 13 (.load true 3) 5 1,mv 14 3,on 15 (.anD 309) [.t 12,.t 13,.t 14],fu 16 3 6 1,lv 17 16,ob 18 pA 15 17,mv 8 18] 0 [8] []) .ret) .skip)) (s0 [mv 19 3,fa 20 1 6,lo 21 20,fa 22 2 6,lo 23 22,on 24 (.build [z0,z0,z0] [(0,1),(1,1),(2,1)]) [.t 19,.t 21,.t 23],al 9 0 [z0,z0,z0],sk 3 9 24 0] 1 [4,9] [9] (sw (sr [lw 25 2 4,lw 26 3 9,ob 27 (.anD 310) 25 26,oa 28 pN 27] 0 [4,9,28] (cd 28 (sr [mi 8 (-1)] 0 [8] .ret) .skip)) (sr [lw 29 2 4,lw 30 3 9,ob 31 (.anD 311) 29 30,mv 8 31] 0 [8] .ret)))))
def axp:anH:=(s0 [ba 3 0 0,ba 4 1 1,mi 6 0] 2 [2,3,4] [3,4] (sr [lw 8 2 3,mv 9 2,on 10 (.build [z0,z0,z0] [(0,1),(1,1),(2,1)]) [.t 9,kI 3,kI 21],ob 11 (.anD 311) 8 10,mv 7 11] 0 [4,7] (sw (lp (sw (sr [lw 12 3 4,mv 13 7,ob 14 (.anD 335) 12 13,oi 15 pQ 14 13] 0 [4,7,15] (cx 15 0)) (b1 (rg [mv 16 7,oi 17 pA 16 1,mv 7 17] 0 [4,7])))) (sr [mv 18 7,oi 19 pA 18 1,mv 7 19] 0 [7] (sw (.block 2 (.loop (sw (sr [mv 20 7,oa 21 (.anD 33) 20,oi 22 pQ 21 0] 0 [7,22] (cx 22 2)) (.block 3 (rg [mv 23 7,oi 24 pA 23 1,mv 7 24] 0 [7]))))) (sr [mv 25 7,mv 6 25] 0 [6] .ret))))))
def aEp:anH:=(s0 [ba 2 0 0,ba 3 1 1,mf 4 false] 2 [2,3] [2,3] (sw (r1 [ou 5 (.load true 3) 3 1,oa 6 (.anD 336) 5,mv 7 6,ov 8 (.fld 2) 3 7 1,ov 9 ld 8 7 1,ov 10 (.fld 1) 3 7 1,ov 11 ld 10 7 1,ov 12 (.load true 2) 2 7 1,ov 13 (.fld 0) 3 7 1,ov 14 ld 13 7 1,obT 15 (.anD 106) 12 14 7 0,obT 16 (.anD 233) 11 15 7 0,obT 17 (.bin .leq) 9 16 7 0,pf 18 7 17,mv 4 18] 0 [4] []) .ret))
def aGo:anH:=(s0 [ba 2 0 0,ba 3 1 1,mi 4 0] 2 [2,3] [2,3] (sw (r1 [ou 5 (.load true 2) 2 1,fu 6 0 3 1,lv 7 6,ob 8 (.anD 144) 5 7,ou 9 (.load true 2) 2 1,ou 10 (.load true 3) 3 1,ob 11 (.anD 337) 9 10,ob 12 pA 8 11,mv 4 12] 0 [4] []) .ret))
def aGn:anH:=(s0 [ba 2 0 0,mi 4 0] 1 [1,2] [2] (sr [mi 5 0] 0 [1,2,5] (sw (lp (sw (sr [lw 6 3 2,mv 7 1,mv 8 5,ob 9 pU 7 8,ob 10 (.anD 352) 6 9,oa 11 pN 10] 0 [1,2,5,11] (cx 11 0)) (b1 (rg [mv 12 5,oi 13 pA 12 1,mv 5 13] 0 [1,2,5])))) (sr [mv 14 5,mv 4 14] 0 [4] .ret))))
def azn:anH:=(s0 [ba 1 0 0,mf 2 false] 1 [1] [1] (sr [fa 3 0 1,lo 4 3,oa 5 (.anD 65) 4,mv 6 5,ov 7 (.fld 1) 1 6 0,ov 8 ld 7 6 0,ot 9 (.anD 105) [.t 8,kI 1,kI 12] 6 0,pf 10 6 9,mv 11 10,ov 12 (.fld 2) 1 11 0,ov 13 ld 12 11 0,ot 14 (.anD 105) [.t 13,kI 1,kI 31] 11 0,pf 15 11 14,mv 2 15] 0 [2] .ret))
def aEl:anH:=(s0 [ba 2 0 0,ba 3 1 1,mi 4 0] 2 [2,3] [2,3] (sr [fa 7 2 3,lo 8 7,oi 9 pU 8 1,mv 5 9] 0 [2,3,5] (sw (sr [mi 6 1] 0 [2,3,5,6] (lp (sw (sr [mv 10 6,fa 11 1 3,lo 12 11,ob 13 pL 10 12] 0 [2,3,5,6,13] (cx 13 0)) (sw (b1 (rg [mv 16 5,mv 17 6,lw 18 2 2,fa 19 0 3,lo 20 19,ob 21 (.anD 106) 18 20,ob 22 (.anD 233) 17 21,ob 23 pA 16 22,mv 5 23] 0 [2,3,5,6])) (rg [mv 14 6,oi 15 pA 14 1,mv 6 15] 0 [2,3,5,6]))))) (sr [mv 24 5,mv 4 24] 0 [4] .ret))))
def aGp:anH:=(s0 [ba 2 0 0,mf 4 false] 1 [1,2] [2] (sr [mv 6 1,fa 7 1 2,lo 8 7,ob 9 pM 6 8,fa 10 2 2,lo 11 10,ob 12 pU 9 11,fa 13 0 2,lo 14 13,ob 15 (.anD 357) 12 14,mv 5 15] 0 [1,2,5] (sw (lp (sw (sr [mv 16 5,fa 17 0 2,lo 18 17,ob 19 pM 16 18,fa 20 2 2,lo 21 20,ob 22 pA 19 21,fa 23 1 2,lo 24 23,ob 25 (.anD 357) 22 24,mv 26 1,ob 27 pL 25 26] 0 [1,2,5,27] (cx 27 0)) (b1 (rg [mv 28 5,oi 29 pA 28 1,mv 5 29] 0 [1,2,5])))) (sr [mv 30 5,fa 31 0 2,lo 32 31,ob 33 pM 30 32,fa 34 2 2,lo 35 34,ob 36 pA 33 35,fa 37 1 2,lo 38 37,ob 39 (.anD 357) 36 38,mv 40 1,ob 41 pE 39 40,mv 4 41] 0 [4] .ret))))
def aCb:anH:=(s0 [ba 1 0 0,mf 2 false] 1 [1] [1] (sw (sr [fa 5 0 1,lo 6 5,oa 7 .len 6,on 8 (.anD 150) [.t 7,kI 1,kI 5],oa 9 pN 8,mv 10 9,ow 11 (.fld 1) 1 10 0,lq 12 11 10,ow 13 .len 12 10 0,oF 14 (.anD 150) [.t 13,kI 1,kI 4] 10 0,ow 15 pN 14 10 0,pt 16 10 15] 0 [1,16] (cd 16 (sr [mf 2 false] 0 [2] .ret) .skip)) (sw (sr [mi 3 0] 0 [1,3] (lp (sw (sr [mv 17 3,fa 18 0 1,lo 19 18,oa 20 .len 19,ob 21 pL 17 20] 0 [1,3,21] (cx 21 0)) (sw (b1 (sr [fa 24 0 1,lo 25 24,mv 26 3,ix 27 3 25 26,fa 28 0 27,lo 29 28,mv 30 3,on 31 (.anD 150) [.t 29,kI 0,.t 30],oa 32 pN 31,mv 33 32,ow 34 (.fld 0) 1 33 0,lq 35 34 33,ow 36 .mov 3 33 0,obF 37 (.anU 3) 35 36 33 0,ow 38 (.fld 1) 37 33 0,ow 39 (.load true 2) 38 33 0,ow 40 (.anD 151) 39 33 0,ow 41 pN 40 33 0,pt 42 33 41,mv 43 42,ow 44 (.load true 2) 1 43 0,ow 45 .mov 3 43 0,oF 46 pA [.t 45,kI 1] 43 0,obF 47 (.anD 152) 44 46 43 0,ow 48 .len 47 43 0,oF 49 pG [.t 48,kI 3] 43 0,pt 50 43 49] 0 [1,3,50] (cd 50 (sr [mf 2 false] 0 [2] .ret) .skip))) (rg [mv 22 3,oi 23 pA 22 1,mv 3 23] 0 [1,3]))))) (sw (sr [mi 4 0] 0 [1,4] (.block 2 (.loop (sw (sr [mv 51 4,fa 52 1 1,lo 53 52,oa 54 .len 53,ob 55 pL 51 54] 0 [1,4,55] (cx 55 2)) (sw (.block 3 (sw (r1 [ou 58 (.load true 2) 1 1,fu 59 1 1 1,lv 60 59,mv 61 4,ob1 62 (.anU 1) 60 61 1,lv 63 62,ob 64 (.anD 153) 58 63,oa 65 pN 64] 0 [1,4,65] []) (cd 65 (sr [mf 2 false] 0 [2] .ret) .skip))) (rg [mv 56 4,oi 57 pA 56 1,mv 4 57] 0 [1,4])))))) (sr [mf 2 true] 0 [2] .ret)))))
def aEr:anH:=(s0 [ba 1 0 0,mf 2 false] 1 [1] [1] (sw (sr [mi 3 0] 0 [1,3] (lp (sw (sr [mv 4 3,fa 5 0 1,lo 6 5,oa 7 .len 6,ob 8 pL 4 7] 0 [1,3,8] (cx 8 0)) (sw (b1 (sr [fa 11 0 1,lo 12 11,mv 13 3,ix 14 1 12 13,lo 15 14,oa 16 (.anD 157) 15,oa 17 pN 16] 0 [1,3,17] (cd 17 (sr [mf 2 false] 0 [2] .ret) .skip))) (rg [mv 9 3,oi 10 pA 9 1,mv 3 10] 0 [1,3]))))) (sr [fa 18 0 1,lo 19 18,oa 20 .len 19,oi 21 (.bin .leq) 20 8,mv 22 21,ov 23 (.fld 1) 1 22 0,ov 24 ld 23 22 0,ot 25 (.anD 150) [.t 24,kI 0,kI 1000] 22 0,pf 26 22 25,mv 27 26,ov 28 (.fld 2) 1 27 0,ov 29 ld 28 27 0,ot 30 (.anD 150) [.t 29,kI 0,kI 40] 27 0,pf 31 27 30,mv 32 31,ov 33 (.fld 3) 1 32 0,ov 34 ld 33 32 0,ot 35 (.anD 150) [.t 34,kI 0,kI 100] 32 0,pf 36 32 35,mv 37 36,ov 38 (.fld 4) 1 37 0,ov 39 ld 38 37 0,ot 40 (.anD 150) [.t 39,kI 0,kI 100] 37 0,pf 41 37 40,mv 42 41,ov 43 (.fld 5) 1 42 0,ov 44 ld 43 42 0,ot 45 (.anD 150) [.t 44,kI 0,kI 1000000] 42 0,pf 46 42 45,mv 2 46] 0 [2] .ret)))
def azo:anH:=(s0 [ba 2 0 0,ba 3 1 1,al 4 2 [zs,zs]] 3 [2,3,4] [2,3] (sr [lw 6 2 2,al 5 0 [zs,zs],sk 2 5 6 0] 1 [2,3,4,5] (sr [fa 7 0 2,lo 8 7,on 9 (.app 3 true) [cS,.t 8],fa 10 0 5,sk 1 10 9 0] 0 [3,4,5] (sr [fa 11 0 5,lo 12 11,fa 13 0 3,lo 14 13,fa 15 1 3,lw 16 2 15,ix 17 3 12 14,fa 18 1 17,sk 2 18 16 0] 0 [4,5] (sr [lw 19 2 5,sk 2 4 19 0] 0 [4] .ret)))))
def aEs:anH:=(s0 [ba 1 0 0,mf 2 false] 1 [1] [1] (sr [fa 3 0 1,lo 4 3,oa 5 (.anD 157) 4,mv 6 5,ov 7 (.fld 1) 1 6 0,ov 8 ld 7 6 0,ov 9 (.anD 157) 8 6 0,pf 10 6 9,mv 2 10] 0 [2] .ret))
def ax9:anH:=(s0 [ba 2 0 0,ag 4 2] 1 [1,2] [2] (sw (sr [mv 6 1,oi 7 pE 6 0] 0 [1,2,7] (cd 7 (sr [ag 4 2] 0 [4] .ret) .skip)) (s0 [fa 8 0 2,lo 9 8,mv 10 1,oi 11 pU 10 1,ix 12 3 9 11,lw 13 3 12,al 5 0 [z0,z0,z0],sk 3 5 13 0] 1 [2,5] [5] (sw (r1 [ou 14 (.load true 2) 2 1,fu 15 0 5 1,lv 16 15,ob 17 (.anD 152) 14 16,on 18 (.app 2 false) [cS,.t 17],fu 19 1 5 1,ou 20 (.load true 2) 19 1,ou 21 (.aoM 2 [.agg [z0,z0]] [0]) 20 1,ob 22 (.app 2 false) 18 21,mv 4 22] 0 [4] []) .ret))))
def aCa:anH:=(s0 [ba 2 0 0,mf 4 false] 1 [1,2] [2] (sr [mv 5 1,fa 6 0 2,lo 7 6,oa 8 .len 7,on 9 (.anD 150) [.t 5,kI 1,.t 8],mv 4 9] 0 [4] .ret))
def aAu:anH:=(s0 [ba 2 0 0,ba 3 1 1,ag 4 1] 2 [2,3] [2,3] (sr [ag 5 1] 0 [2,3,5] (s0 [lw 8 2 2,lw 9 3 3,ob 10 (.anD 88) 8 9,al 6 0 [zs,zs],sk 2 6 10 0] 1 [2,5,6] [6] (sw (sr [mi 7 0] 0 [2,5,6,7] (lp (sw (sr [mv 11 7,fa 12 1 2,lo 13 12,oa 14 .len 13,ob 15 pL 11 14] 0 [2,5,6,7,15] (cx 15 0)) (sw (b1 (sw (r1 [ou 18 (.load true 2) 2 1,fu 19 1 2 1,lv 20 19,mv 21 7,ob1 22 (.anU 1) 20 21 1,lv 23 22,ob 24 (.anD 235) 18 23,ou 25 (.load true 2) 6 1,fu 26 1 2 1,lv 27 26,mv 28 7,ob1 29 (.anU 1) 27 28 1,lv 30 29,ob 31 (.anD 235) 25 30,ob 32 (.awZ true [1,1]) 24 31] 0 [2,5,6,7,32] []) (cd 32 (rg [mv 33 5,mv 34 7,oa 35 (.aoM 1 [z0] [0]) 34,ob 36 (.app 1 false) 33 35,mv 5 36] 0 [2,5,6,7]) .skip))) (rg [mv 16 7,oi 17 pA 16 1,mv 7 17] 0 [2,5,6,7]))))) (sr [mv 37 5,mv 4 37] 0 [4] .ret)))))
def aCc:anH:=(s0 [ba 1 0 0,mi 2 0] 1 [1] [1] (sr [mi 3 0] 0 [1,3] (sw (sr [mi 4 0] 0 [1,3,4] (lp (sw (sr [mv 6 4,fa 7 0 1,lo 8 7,oa 9 .len 8,ob 10 pL 6 9] 0 [1,3,4,10] (cx 10 0)) (sw (b1 (r1 [mv 13 3,fu 14 0 1 1,lv 15 14,mv 16 4,ob1 17 (.anU 1) 15 16 1,lv 18 17,fu 19 0 1 1,lv 20 19,mv 21 4,ob1 22 (.anU 1) 20 21 1,lv 23 22,ob 24 pM 18 23,ob 25 pA 13 24,mv 3 25] 0 [1,3,4] [])) (rg [mv 11 4,oi 12 pA 11 1,mv 4 12] 0 [1,3,4]))))) (sw (r1 [mv 26 3,fu 27 1 1 1,lv 28 27,ob 29 pM 26 28,oa 30 (.anD 283) 29,fu 31 2 1 1,lv 32 31,fu 33 3 1 1,lv 34 33,ob 35 pM 32 34,ob 36 pA 30 35,mv 5 36] 0 [1,5] []) (sr [mv 37 5,mv 38 5,fa 39 4 1,lo 40 39,ob 41 pM 38 40,oa 42 (.anD 283) 41,ob 43 pA 37 42,mv 2 43] 0 [2] .ret)))))
def aCd:anH:=(sr [mf 4 false] 0 [0,1] (sr [mv 5 0,oa 6 (.anD 157) 5,mv 7 6,ov 8 .mov 1 7 0,ov 9 (.anD 157) 8 7 0,pf 10 7 9,mv 11 10,ov 12 .mov 0 11 0,ov 13 .mov 1 11 0,obT 14 (.bin .leq) 12 13 11 0,pf 15 11 14,mv 4 15] 0 [4] .ret))
def azp:anH:=(s0 [ba 5 0 0,ba 9 1 4,mk 10 cS,mf 11 false] 2 [1,2,3,5,9] [5,9] (sw (sr [lw 17 2 5,lw 18 2 5,mv 19 3,lw 20 2 9,on 21 (.anD 284) [.t 17,.t 18,.t 19,.t 20]] 0 [1,2,3,5,9,21] (cd 21 (sr [mk 10 cS,mf 11 true] 0 [10,11] .ret) .skip)) (sr [lw 22 2 5,mv 23 1,mv 24 2,on 25 (.anD 285) [.t 22,kI 0,.t 23,.t 24],mv 12 25] 0 [3,5,9,12] (sw (sr [mi 13 0] 0 [3,5,9,12,13] (lp (sw (sr [mv 26 13,mv 27 12,oa 28 .len 27,ob 29 pL 26 28] 0 [3,5,9,12,13,29] (cx 29 0)) (sw (b1 (sw (r1 [ou 32 (.load true 2) 5 1,ou 33 (.load true 2) 5 1,mv 34 12,mv 35 13,ob1 36 (.anU 3) 34 35 1,ou 37 (.load true 3) 36 1,ob 38 (.anD 88) 33 37,mv 39 3,ou 40 (.load true 2) 9 1,on 41 (.anD 284) [.t 32,.t 38,.t 39,.t 40]] 0 [3,5,9,12,13,41] []) (cd 41 (sr [mv 42 12,mv 43 13,ix 44 3 42 43,lw 45 3 44,oa 46 (.aoM 3 [.agg [z0,z0,z0]] [0]) 45,mv 10 46,mf 11 true] 0 [10,11] .ret) .skip))) (rg [mv 30 13,oi 31 pA 30 1,mv 13 31] 0 [3,5,9,12,13]))))) (sw (sr [mi 14 0] 0 [3,5,9,12,14] (.block 2 (.loop (sw (sr [mv 47 14,mv 48 12,oa 49 .len 48,ob 50 pL 47 49] 0 [3,5,9,12,14,50] (cx 50 2)) (sw (.block 3 (sw (r1 [ou 53 (.load true 2) 5 1,mv 54 12,mv 55 14,ob1 56 (.anU 3) 54 55 1,ou 57 (.load true 3) 56 1,ob 58 (.anD 88) 53 57,al 15 0 [zs,zs],sk 2 15 58 4] 1 [3,5,9,12,14,15] [15]) (sr [mv 59 14,oi 60 pA 59 1,mv 16 60] 0 [3,5,9,12,14,15,16] (.block 4 (.loop (sw (sr [mv 61 16,mv 62 12,oa 63 .len 62,ob 64 pL 61 63] 0 [3,5,9,12,14,15,16,64] (cx 64 4)) (sw (.block 5 (sw (r1 [mv 67 12,mv 68 16,ob1 69 (.anU 3) 67 68 1,fu 70 0 69 1,lv 71 70,mv 72 12,mv 73 14,ob1 74 (.anU 3) 72 73 1,fu 75 0 74 1,lv 76 75,ob 77 pG 71 76,mv 78 77,ov 79 (.load true 2) 5 78 1,ov 80 (.load true 2) 15 78 1,ov 81 .mov 12 78 0,ov 82 .mov 16 78 0,obT 83 (.anU 3) 81 82 78 1,ov 84 (.load true 3) 83 78 1,obT 85 (.anD 88) 80 84 78 0,ov 86 .mov 3 78 0,ov 87 (.load true 2) 9 78 1,ot 88 (.anD 284) [.t 79,.t 85,.t 86,.t 87] 78 0,pf 89 78 88] 0 [3,5,9,12,14,15,16,89] []) (cd 89 (sw (r1 [mv 90 12,mv 91 14,ob1 92 (.anU 3) 90 91 1,ou 93 (.load true 3) 92 1,mv 94 12,mv 95 16,ob1 96 (.anU 3) 94 95 1,ou 97 (.load true 3) 96 1,ob1 98 (.aoM 3 [.agg [z0,z0,z0],.agg [z0,z0,z0]] [0,1]) 93 97 1,mv 10 98,mf 11 true] 0 [10,11] []) .ret) .skip))) (rg [mv 65 16,oi 66 pA 65 1,mv 16 66] 0 [3,5,9,12,14,15,16])))))))) (rg [mv 51 14,oi 52 pA 51 1,mv 14 52] 0 [3,5,9,12,14])))))) (sr [mk 10 cS,mf 11 false] 0 [10,11] .ret))))))
def aEt:anH:=(s0 [ba 2 0 0,al 4 1 [z0,z0]] 2 [1,2,4] [2] (sr [lw 5 2 2,mv 6 1,ob 7 (.anD 152) 5 6,oa 8 (.anD 287) 7,sk 2 4 8 0] 0 [4] .ret))
def aIl:anH:=(sr [mi 2 0] 0 [0] (sr [mv 3 0,oi 4 pA 3 99,oi 5 (.bin .quo) 4 100,mv 2 5] 0 [2] .ret))
def aCe:anH:=(s0 [ba 4 0 0,ba 5 1 1,ba 7 2 3,mf 8 false] 3 [2,4,5,7] [4,5,7] (sw (sw (r1 [ou 10 (.load true 2) 5 1,fu 11 1 4 1,lv 12 11,mv 13 2,ob1 14 (.anU 1) 12 13 1,lv 15 14,ob 16 (.anD 235) 10 15,ou 17 (.load true 2) 7 1,oa 18 (.anD 307) 17,ob 19 (.awZ true [1,1]) 16 18] 0 [2,4,5,19] []) (cd 19 (sr [mf 8 false] 0 [8] .ret) .skip)) (sw (sr [mi 9 0] 0 [2,4,5,9] (lp (sw (sr [mv 20 9,fa 21 1 4,lo 22 21,oa 23 .len 22,ob 24 pL 20 23] 0 [2,4,5,9,24] (cx 24 0)) (sw (b1 (sw (r1 [mv 27 9,mv 28 2,ob 29 pQ 27 28,mv 30 29,ov 31 (.load true 2) 4 30 1,ov 32 (.fld 1) 4 30 1,ov 33 ld 32 30 1,ov 34 .mov 9 30 0,obT 35 (.anU 1) 33 34 30 1,ov 36 ld 35 30 1,obT 37 (.anD 235) 31 36 30 0,ov 38 (.load true 2) 5 30 1,ov 39 (.fld 1) 4 30 1,ov 40 ld 39 30 1,ov 41 .mov 9 30 0,obT 42 (.anU 1) 40 41 30 1,ov 43 ld 42 30 1,obT 44 (.anD 235) 38 43 30 0,obT 45 (.awZ true [1,1]) 37 44 30 0,pf 46 30 45] 0 [2,4,5,9,46] []) (cd 46 (sr [mf 8 false] 0 [8] .ret) .skip))) (rg [mv 25 9,oi 26 pA 25 1,mv 9 26] 0 [2,4,5,9]))))) (sr [mf 8 true] 0 [8] .ret))))
def aCf:anH:=(s0 [ba 4 0 0,ag 8 3] 1 [1,2,3,4] [4] (sr [ag 9 3] 0 [1,2,3,4,9] (sw (sr [mv 14 1,mv 10 14] 0 [2,3,4,9,10] (lp (sw (sr [mv 15 10,fa 16 0 4,lo 17 16,oa 18 .len 17,ob 19 pL 15 18] 0 [2,3,4,9,10,19] (cx 19 0)) (sw (b1 (sr [mv 22 2,mv 11 22] 0 [2,3,4,9,10,11] (.block 2 (.loop (sw (sr [mv 23 11,mv 24 3,ob 25 (.bin .leq) 23 24] 0 [2,3,4,9,10,11,25] (cx 25 2)) (sw (.block 3 (sr [mv 28 2,mv 12 28] 0 [2,3,4,9,10,11,12] (.block 4 (.loop (sw (sr [mv 29 12,mv 30 3,ob 31 (.bin .leq) 29 30] 0 [2,3,4,9,10,11,12,31] (cx 31 4)) (sw (.block 5 (s0 [mv 34 10,mv 35 11,mv 36 12,ob 37 (.build [z0,z0] [(0,1),(1,1)]) 35 36,ob 38 (.build [z0,z0,z0] [(0,1),(1,2)]) 34 37,al 13 0 [z0,z0,z0],sk 3 13 38 0] 1 [2,3,4,9,10,11,12,13] [13] (sr [lw 39 2 4,lw 40 3 13,ob 41 (.anD 308) 39 40] 0 [2,3,4,9,10,11,12,13,41] (cd 41 (rg [mv 42 9,lw 43 3 13,oa 44 (.aoM 3 [.agg [z0,z0,z0]] [0]) 43,ob 45 (.app 3 false) 42 44,mv 9 45] 0 [2,3,4,9,10,11,12]) .skip)))) (rg [mv 32 12,oi 33 pA 32 1,mv 12 33] 0 [2,3,4,9,10,11,12]))))))) (rg [mv 26 11,oi 27 pA 26 1,mv 11 27] 0 [2,3,4,9,10,11]))))))) (rg [mv 20 10,oi 21 pA 20 1,mv 10 21] 0 [2,3,4,9,10]))))) (sr [mv 46 9,mv 8 46] 0 [8] .ret))))
def aAt:anH:=(s0 [ba 2 0 0,ba 3 1 1,mf 4 false] 2 [2,3] [2,3] (sw (r1 [fu 5 0 3 1,lv 6 5,fu 7 0 2 1,lv 8 7,ou 9 .len 8 1,oi 10 pU 9 1,on 11 (.anD 150) [.t 6,kI 0,.t 10],mv 12 11,ov 13 (.fld 1) 3 12 1,ov 14 (.load true 2) 13 12 1,ov 15 (.anD 151) 14 12 0,pf 16 12 15,mv 17 16,ov 18 (.fld 0) 2 17 1,ov 19 ld 18 17 1,ov 20 (.fld 0) 3 17 1,ov 21 ld 20 17 1,obT 22 (.anU 3) 19 21 17 1,ov 23 (.fld 1) 22 17 1,ov 24 (.load true 2) 23 17 1,ov 25 (.fld 1) 3 17 1,ov 26 (.load true 2) 25 17 1,obT 27 (.awZ true [1,1]) 24 26 17 0,pf 28 17 27,mv 4 28] 0 [4] []) .ret))
def azs:anH:=(s0 [ba 1 0 0,mf 2 false] 1 [1] [1] (sw (sr [mi 3 0] 0 [1,3] (lp (sw (sr [mv 4 3,fa 5 1 1,lo 6 5,oa 7 .len 6,ob 8 pL 4 7] 0 [1,3,8] (cx 8 0)) (sw (b1 (sr [fa 11 1 1,lo 12 11,mv 13 3,ix 14 1 12 13,lo 15 14,on 16 (.anD 155) [.t 15,kI 1,kI 120],oa 17 pN 16] 0 [1,3,17] (cd 17 (sr [mf 2 false] 0 [2] .ret) .skip))) (rg [mv 9 3,oi 10 pA 9 1,mv 3 10] 0 [1,3]))))) (sr [fa 18 0 1,lo 19 18,on 20 (.anD 155) [.t 19,kI 1,kI 60],mv 21 20,ov 22 (.fld 1) 1 21 0,ov 23 ld 22 21 0,ov 24 .len 23 21 0,ot 25 (.anD 155) [.t 24,kI 1,kI 6] 21 0,pf 26 21 25,mv 2 26] 0 [2] .ret)))
def aCs:anH:=(sr [mf 2 false] 0 [0] (sr [mv 3 0,on 4 (.anD 155) [.t 3,kI 1,kI 400],mv 2 4] 0 [2] .ret))
def aEE:anH:=(s0 [ba 2 0 0,al 4 1 [z0,z0,z0],mf 5 false] 2 [1,2,4] [2] (sw (sr [mi 6 0] 0 [1,2,4,6] (lp (sw (sr [mv 8 6,fa 9 1 2,lo 10 9,oa 11 .len 10,ob 12 pL 8 11] 0 [1,2,4,6,12] (cx 12 0)) (sw (b1 (sr [lw 15 2 2,mv 16 6,mv 17 1,on 18 (.anD 234) [.t 15,.t 16,.t 17]] 0 [1,2,4,6,18] (cd 18 (sw (r1 [fu 19 0 2 1,lv 20 19,fu 21 1 2 1,lv 22 21,mv 23 6,ob1 24 (.anU 1) 22 23 1,lv 25 24,ob 26 pM 20 25,mv 27 1,ob 28 (.bin .quo) 26 27,mv 7 28] 0 [2,4,6,7] []) (sw (r1 [mv 29 6,mv 30 7,fu 31 1 2 1,lv 32 31,mv 33 6,ob1 34 (.anU 1) 32 33 1,lv 35 34,ob 36 (.bin .quo) 30 35,mv 37 7,fu 38 1 2 1,lv 39 38,mv 40 6,ob1 41 (.anU 1) 39 40 1,lv 42 41,ob 43 (.bin .rem) 37 42,on 44 (.build [z0,z0,z0] [(0,1),(1,1),(2,1)]) [.t 29,.t 36,.t 43],sk 3 4 44 0,mf 5 true] 0 [4,5] []) .ret)) .skip))) (rg [mv 13 6,oi 14 pA 13 1,mv 6 14] 0 [1,2,4,6]))))) (sr [on 45 (.build [z0,z0,z0] []) [],sk 3 4 45 0,mf 5 false] 0 [4,5] .ret)))
def aGt:anH:=(s0 [ba 3 0 0,mf 6 false] 1 [1,2,3] [3] (sw (r1 [fu 7 0 3 1,lv 8 7,fu 9 1 3 1,lv 10 9,mv 11 1,ob1 12 (.anU 1) 10 11 1,lv 13 12,ob 14 pM 8 13,mv 15 2,ob 16 (.bin .rem) 14 15,oi 17 pE 16 0,mv 6 17] 0 [6] []) .ret))
def aDA (n l h:Int):Pure C 150 [dI n,dI l,dI h] (.d (.bool (inR n l h))) []:=aw4 n l h
def aw6 (n l h:Int):Pure C 105 [dI n,dI l,dI h] (.d (.bool (inR n l h))) []:=aw4 n l h
def aNG (n l h:Int):Pure C 154 [dI n,dI l,dI h] (.d (.bool (inR n l h))) []:=aw4 n l h
def aJs (n l h:Int):Pure C 155 [dI n,dI l,dI h] (.d (.bool (inR n l h))) []:=aw4 n l h
def awr (n:Int):Pure C 157 [dI n] (.d (.bool (anP n))) []:=by
 refine am6 aB6 anN ?_;simp only[aB6,anN,RN,r]
 repeat' first
  |(refine anE (aNG _ _ _) ?_;try simp only[RN,r,A,B,F,H,I])
  |(refine an7 (by rfl) (fun a=> ?_) (fun a=> ?_)<;>simp only[a,RN,r,A,B,F,H,I])
  |(refine aob (by rfl) (fun a=> ?_) (fun a=> ?_)<;>simp only[a,RN,r,A,B,F,H,I])
 all_goals(first|(simp only[anP, *,BSN];done)|(simp_all[anP];done)|(simp_all[anP];omega))
def aTl (n:Int):Pure C 59 [dI n] (.d (.bool (inR n 0 10800))) []:=by
 refine am6 aB5 anN ?_;simp only[aB5,anN,RN,r]
 repeat' first
  |(refine anE (aNG _ _ _) ?_;try simp only[])
  |(refine an7 (by rfl) (fun a=> ?_) (fun a=> ?_)<;>simp only[a,RN,r,A,B,F,H,I])
  |(refine aob (by rfl) (fun a=> ?_) (fun a=> ?_)<;>simp only[a,RN,r,A,B,F,H,I])
 all_goals(first|(simp only[inR, *,BSN];done)|(simp_all[inR];done)|(simp_all[inR];omega))
def aVS (f:Fr):Pure C 61 [f.dv] (.d (.bool f.ok)) []:=by
 refine am6 ayz anN ?_;simp only[ayz,anN,aoa,RN,r,A,I]
 repeat' first
  |(refine anE (aNG _ _ _) ?_;try simp only[aoa,RN,r,A,B,F,H,I])
  |(refine an7 (by rfl) (fun a=> ?_) (fun a=> ?_)<;>simp only[a,RN,r,A,I])
  |(refine aob (by rfl) (fun a=> ?_) (fun a=> ?_)<;>simp only[a,aoa,RN,r,A,B,F,H,I])
 all_goals(first|(simp only[Fr.ok, *,BSN];done)|(simp_all[Fr.ok];done)|(simp_all[Fr.ok];omega))
def aOI (p:Pr):Pure C 151 [p.dv] (.d (.bool p.ok)) []:=by
 refine am6 aEs anN ?_;simp only[aEs,anN,aqA,RN,r,A,I]
 repeat' first
  |(refine anE (awr _) ?_;try simp only[aqA,RN,r,A,B,F,H,I])
  |(refine an7 (by rfl) (fun a=> ?_) (fun a=> ?_)<;>simp only[a,RN,r,A,I])
  |(refine aob (by rfl) (fun a=> ?_) (fun a=> ?_)<;>simp only[a,aqA,RN,r,A,B,F,H,I])
 all_goals(first|(simp only[Pr.ok, *,BSN];done)|(simp_all[Pr.ok];done)|(simp_all[Pr.ok];omega))
def aOK (n:Int):Pure C 65 [dI n] (.d (.bool (inR n 0 4000))) []:=by
 refine am6 aEq anN ?_;simp only[aEq,anN,RN,r]
 repeat' first
  |(refine anE (aw6 _ _ _) ?_;try simp only[])
  |(refine an7 (by rfl) (fun a=> ?_) (fun a=> ?_)<;>simp only[a,RN,r,A,B,F,H,I])
  |(refine aob (by rfl) (fun a=> ?_) (fun a=> ?_)<;>simp only[a,RN,r,A,B,F,H,I])
 all_goals(first|(simp only[inR, *,BSN];done)|(simp_all[inR];done)|(simp_all[inR];omega))
def aVV (m:apn):Pure C 63 [m.dv] (.d (.bool m.ok)) []:=by
 refine am6 aEo anN ?_;simp only[aEo,anN,apz,RN,r,A,I];refine anE (aw6 _ _ _) ?_;cases h1:inR m.d 1 1000
 ·(try simp only[RN,r])
  simp[apn.ok,h1]
 have a:1<=m.d/\m.d<=1000:=by simpa[inR]using h1
 have c:bo .i64 (29*m.d)=29*m.d:=anI (by omega);have e:bo .i64 (30*m.d)=30*m.d:=anI (by omega);simp only[c,e,RN,r,A,I];refine anE (aw6 _ _ _) ?_;cases h2:inR m.n (29*m.d) (30*m.d)
 ·(try simp only[RN,r])
  simp[apn.ok,h1,h2]
 have b:29*m.d<=m.n/\m.n<=30*m.d:=by simpa[inR]using h2
 have f:bo .i64 (m.n - 1)=m.n - 1:=anI (by omega);simp only[f,RN,r,A,I];refine anE (aw6 _ _ _) ?_;(try simp only[RN,r,A,B,F,H,I]);simp[apn.ok,h1,h2]
def aTk (f:Fs):Pure C 156 [f.dv] (.d (.bool (!f.bad))) []:=by
 refine am6 aB8 anN ?_;simp only[aB8,anN,ayW,RN,r,A,I]
 repeat' first
  |(refine anE (aw6 _ _ _) ?_;try simp only[ayW,RN,r,A,B,F,H,I])
  |(refine an7 (by rfl) (fun a=> ?_) (fun a=> ?_)<;>simp only[a,RN,r,A,I])
  |(refine aob (by rfl) (fun a=> ?_) (fun a=> ?_)<;>simp only[a,RN,r,A,I])
 all_goals first|(simp_all[Fs.bad];done)|(simp_all[Fs.bad,bne];done)
def aQC (l:List Fs)(hl:l.length<=1000000):Pure C 64 [sF (l.map Fs.dv)] (.d (.bool (aqb l))) []:=by
 refine am6 aAr anN ?_;simp only[aAr,anN,RN,r];refine anL l.length (fun i (_:Unit)=>⟨[(0, .d (sF (l.map Fs.dv))),(3,pI i)],⟨[],[],[]⟩⟩)
  (fun i _=>l.any Fs.bad=(l.drop i).any Fs.bad) 0 () (U _) rfl rfl (fun i _ b a=> ?_) (fun _ a=> ?_)
 ·obtain⟨f,g,h⟩:=rng b hl
  rw[drop_cons b,List.any_cons]at a;have e:=aTk (l.getD i default);rw[ayW]at e;simp only[f,g,b,getD_map,ayW,O,J,RN,r,A,I];refine anE e ?_;cases c:(l.getD i default).bad
  ·rw[c,aT]at a
   simp only[h,RN,r];exact anT () b rfl a
  ·rw[c,aX]at a
   (try simp only[RN,r]);simp[aqb,a]
 ·rw[X,List.any_nil]at a
  simp only[V,J,RN,r];simp[aqb,a];omega
def aYx (d:Dvd)(hl:d.cir.length<=1000000):Pure C 60 [d.dv] (.d (.bool d.ok)) []:=by
 refine am6 azs anN ?_;rw[atm];simp only[azs,anN,RN,r];refine anL d.cir.length (fun i (_:Unit)=>⟨[(1, .d (.anY [dI d.aoG,sF (d.cir.map anF)])),(3,pI i)],⟨[some [pI d.aoG, .d (sF (d.cir.map anF))]],[0],[]⟩⟩)
  (fun i _=>(d.cir.all fun n=>inR n 1 120)=((d.cir.drop i).all fun n=>inR n 1 120)) 0 () (U _) rfl rfl (fun i _ b a=> ?_) (fun _ a=> ?_)
 ·obtain⟨e,f,g⟩:=rng b hl
  rw[drop_cons b,aE]at a;simp only[e,f,b,getD_map,anM,O,J,RN,r,A,I];refine anE (aJs _ _ _) ?_;cases c:inR (d.cir.getD i default) 1 120
  ·rw[c,Q]at a
   (try simp only[RN,r]);simp only[Dvd.ok,a,aj]
  ·rw[c,W]at a
   simp only[g,RN,r];exact anT () b rfl a
 ·rw[X,aM]at a
  simp only[V,J,RN,r,A,I];refine anE (aJs _ _ _) ?_;cases h1:inR d.aoG 1 60
  ·(try simp only[RN,r])
   simp only[Dvd.ok,h1,Q]
  simp only[J,RN,r,A,I];refine anE (aJs _ _ _) ?_;(try simp only[RN,r,A,B,F,H,I]);simp only[Dvd.ok,h1,a,W,aS]
def aYw (c:Cal)(hl:c.cy.length<=1000000):Pure C 62 [c.dv] (.d (.bool c.ok)) []:=by
 refine am6 ayA anN ?_;rw[aoJ];simp only[ayA,anN,RN,r];refine anL c.cy.length (fun i (_:Unit)=>⟨[(1, .d (.anY [dI c.ep,sF (c.cy.map anF)])),(3,pI i)],⟨[some [pI c.ep, .d (sF (c.cy.map anF))]],[0],[]⟩⟩)
  (fun i _=>aAU c.cy 1=aAU (c.cy.drop i) (if i=0 then 1 else c.cy.getD (i - 1) default)/\(i≠0->2<=c.cy.getD (i - 1) default)) 0 () (U _) rfl ⟨rfl,fun h=>absurd rfl h⟩ (fun i _ g e=> ?_) (fun _ e=> ?_)
 ·obtain⟨q,o,p⟩:=rng g hl
  obtain⟨e,n⟩:=e;rw[drop_cons g,aAU]at e;simp only[q,o,g,getD_map,anM,O,J,RN,r,A,I];refine anE (aw6 _ _ _) ?_;have a:∀b,inR (c.cy.getD i default) ((if i=0 then 1 else c.cy.getD (i - 1) default)+1) 1000=b->aAU c.cy 1=(b&&aAU (c.cy.drop (i+1)) (c.cy.getD i default)):=fun b m=>by rw[e,m]
  cases m:inR (c.cy.getD i default) 2 1000
  ·have f:=a false (by
    simp only[inR,an,decide_eq_false_iff_not]at m⊢
    split
    ·omega
    ·rename_i h;have:=n h;omega)
   (try simp only[RN,r]);simp only[Cal.ok,f,Q,aj]
  have j:2<=c.cy.getD i default/\c.cy.getD i default<=1000:=by simpa[inR]using m
  by_cases k:i=0
  ·subst k
   have f:=a true (by simp only[inR,if_true,Z,decide_eq_true_eq];omega);have z:¬((0:Nat):Int)>0:=by decide
   simp only[z,p,RN,r];exact anT () g rfl ⟨by rw[f];rfl,fun _=>j.1⟩
  ·have z:(i:Int)>0:=by omega
   have t:bo .i64 ((i:Int) - 1)=((i - 1:Nat):Int):=by rw[anI (by omega)];omega
   have j0:(0:Int)<=((i - 1:Nat):Int):=by omega
   have s:i - 1<c.cy.length:=by omega
   rw[if_neg k]at a;simp only[z,t,j0,s,o,g,getD_map,anM,O,J,RN,r,A,I]
   by_cases l:c.cy.getD i default<=c.cy.getD (i - 1) default
   ·have f:=a false (by simp only[inR,an,decide_eq_false_iff_not];omega)
    simp only[l,RN,r];simp only[Cal.ok,f,Q,aj]
   ·have f:=a true (by simp only[inR,Z,decide_eq_true_eq];omega)
    simp only[l,p,RN,r];exact anT () g rfl ⟨by rw[f,if_neg (by omega)];rfl,fun _=>j.1⟩
 ·rw[X]at e
  have f:=e.1;rw[aAU]at f;simp only[V,J,RN,r,A,I];refine anE (aw6 _ _ _) ?_;cases h1:inR c.ep 0 1000
  ·(try simp only[RN,r])
   simp only[Cal.ok,h1,Q]
  simp only[J,RN,r,A,I];refine anE (aw6 _ _ _) ?_;(try simp only[RN,r,A,B,F,H,I]);simp only[Cal.ok,h1,f,W,aS]
def aQz (b:Bil)(hl:b.aow.length<=1000000):Pure C 66 [b.dv] (.d (.bool b.ok)) []:=by
 refine am6 aEr anN ?_;rw[aAY];simp only[aEr,anN,RN,r];refine anL b.aow.length (fun i (_:Unit)=>⟨[(1, .d (.anY [sF (b.aow.map anF),dI b.ao2,dI b.hours,dI b.aqJ,dI b.pct,dI b.adv])),(3,pI i)],⟨[some [.d (sF (b.aow.map anF)),pI b.ao2,pI b.hours,pI b.aqJ,pI b.pct,pI b.adv]],[0],[]⟩⟩)
  (fun i _=>b.aow.all anP=(b.aow.drop i).all anP) 0 () (U _) rfl rfl (fun i _ f a=> ?_) (fun _ a=> ?_)
 ·obtain⟨h,j,k⟩:=rng f hl
  rw[drop_cons f,aE]at a;simp only[h,j,f,getD_map,anM,O,J,RN,r,A,I];refine anE (awr _) ?_;cases g:anP (b.aow.getD i default)
  ·rw[g,Q]at a
   (try simp only[RN,r]);simp only[Bil.ok,ati,a,aj,Q]
  ·rw[g,W]at a
   simp only[k,RN,r];exact anT () f rfl a
 ·rw[X,aM]at a
  simp only[V,J,RN,r,A,I]
  by_cases c:(b.aow.length:Int)<=8
  case neg=>
   simp only[c,RN,r];have:¬b.aow.length<=8:=by omega
   simp[Bil.ok,ati,c]
  have l:b.aow.length<=8:=by omega
  simp only[c,RN,r,A,I]
  repeat' first
   |(refine anE (aDA _ _ _) ?_;try simp only[c,RN,r,A,B,F,H,I])
   |(refine an7 (by rfl) (fun e=> ?_) (fun e=> ?_)<;>simp only[e,RN,r,A,I])
   |(refine aob (by rfl) (fun e=> ?_) (fun e=> ?_)<;>simp only[e,c,RN,r,A,B,F,H,I])
  all_goals(simp_all[Bil.ok,ati];done)
def aOE (s:Su)(ts:List Int)(ex:Bool):Pure C 67 [s.dv, .slice ex (ts.map anF)] (.d (.agg [.slice ex (ts.map anF),dI s.ao2,dI s.hours,dI s.aqJ,dI s.pct,dI 0])) []:=by
 refine am6 aEx aTw ?_;rw[aoB];simp only[aEx,aTw,arw,RN,r,A,F,I]
variable{ls:List Lk}
def ax8 {n:Nat}(c:n<=ls.length)(h:linked (ls.take n)){a:Nat}(b:a<=n):ao1 ls a=ao1 (ls.take n) a:=by
 have:=az3 (ms:=ls.drop n) h a a (by rw[aw];omega);rw[List.take_append_drop]at this;exact this
def aQT {n a:Nat}(b:a<n):(ls.take n).getD a default=ls.getD a default:=by
 rw[am,am,List.getElem?_take,if_pos b]
def aEf {n a:Nat}(b:n<=ls.length)(h:linked (ls.take n))(c:a<n):(0<=(ls.getD a default).fr/\(ls.getD a default).fr<=a)/\ao1 ls (a+1)=ao1 ls (ls.getD a default).fr.toNat++ [a]:=by
 have d:(ls.take n).length=n:=by rw[aw];omega
 have h1:=h a (by omega);have h2:=ar4 h (a:=a) (by omega);rw[aQT c]at h1 h2;refine⟨h1,?_⟩;rw[ax8 b h (show a+1<=n by omega),h2,ax8 b h (show(ls.getD a default).fr.toNat<=n by omega)]
def aNt {n a:Nat}(c:n<=ls.length)(h:linked (ls.take n))(b:a<=n):(ao1 ls a).length<=a:=by
 rw[ax8 c h b];exact aDs h (by rw[aw];omega)
def aLq (p:Pc)(n:Nat)(k:n<=p.links.length)(b:linked (p.links.take n))(hl:p.links.length<=1000):∀a,a<=n->Pure C 152 [p.dv,dI (a:Nat)] (.d (sF ((anX p.links a).map Pr.dv))) []:=by
 intro a
 induction a using Nat.strongRecOn with
 |ind a h=>
  intro j;refine an9 (anJ ax9 anO ?_);rw[aot]at*
  match a,h,j with
  |0,_,_=>
   have z:(((0:Nat):Int)==0)=true:=rfl;simp only[ax9,anO,z,RN,r,A,H];simp[datum,Mem.row,anX,ao1,aur]
  |a+1,h,j=>
   have z:(((a+1:Nat):Int)==0)=false:=by simp;omega
   have t:bo .i64 (((a+1:Nat):Int) - 1)=(a:Int):=by rw[anI (by omega)];omega
   obtain⟨u,e⟩:=aEf k b (show a<n by omega);have l:(p.links.getD a default).fr.toNat<=a:=by omega
   have i:=h (p.links.getD a default).fr.toNat (by omega) (by omega);have c:(((p.links.getD a default).fr.toNat:Nat):Int)=(p.links.getD a default).fr:=by omega
   rw[c]at i;have j0:(0:Int)<=(a:Int):=by omega
   have s:a<p.links.length:=by omega
   have m:(anX p.links (p.links.getD a default).fr.toNat).length<=1000:=by
    rw[anX,J];have:=aNt k b (show(p.links.getD a default).fr.toNat<=n by omega);omega
   have f:∀x∈(anX p.links (p.links.getD a default).fr.toNat).map Pr.dv,x.fits 2=true:=by
    intro x o;obtain⟨y,_,rfl⟩:=ax.1 o;rw[aqA];exact aBC
   simp only[ax9,anO,z,t,j0,s,getD_map,asA,O,J,RN,r,A,F,H,I];refine anE i ?_;(try simp only[RN,F,H,I]);have g:anX p.links (a+1)=anX p.links (p.links.getD a default).fr.toNat++ [(p.links.getD a default).pr]:=by rw[anX,e,au];rfl
   refine⟨f,by simp,by simp,by rw[J];omega,rfl,by intro y q;subst q;rfl,by simp,by rw[J];omega,?_⟩;rw[g];simp[datum,Mem.row,aqA,DV.strip]
def aGD (p:Pc)(b:linked p.links)(hl:p.links.length<=1000){a:Nat}(c:a<=p.links.length):Pure C 152 [p.dv,dI (a:Nat)] (.d (sF ((anX p.links a).map Pr.dv))) []:=
 aLq p p.links.length (ai _) (by rw[aD];exact b) hl a c
def aS4 (p:Pc)(n:Int):Pure C 153 [p.dv,dI n] (.d (.bool (inR n 1 p.links.length))) []:=by
 refine am6 aCa anO ?_;rw[aot];simp only[aCa,anO,J,RN,r,A,I];refine anE (aDA _ _ _) ?_;(try simp only[])
def aS8 (p:Pc)(hl:p.links.length<=1000)(hh:p.hands.length<=1000):Pure C 58 [p.dv] (.d (.bool p.ok)) []:=by
 have B:∀q:Pr,Pure C 151 [.agg [dI q.a,dI q.b]] (.d (.bool q.ok)) []:=fun q=>by have:=aOI q;rwa [aqA]at this
 have w:∀n:Int,Pure C 153 [.agg [sF (p.links.map Lk.dv),sF (p.hands.map anF)],dI n] (.d (.bool (inR n 1 p.links.length))) []:=fun n=>by have:=aS4 p n;rwa [aot]at this
 refine am6 aCb anN ?_;have y:=aot (p:=p);rw[aot];simp only[aCb,anN,J,RN,r,A,I];refine anE (aDA _ _ _) ?_;cases u:inR p.links.length 1 5
 ·(try simp only[RN,r])
  simp only[Pc.ok,u,Q]
 simp only[J,RN,r,A,I];refine anE (aDA _ _ _) ?_;cases E:inR p.hands.length 1 4
 ·(try simp only[RN,r])
  simp only[Pc.ok,u,E,Q,W]
 have H:p.links.length<=5:=by simp only[inR,Z,decide_eq_true_eq]at u;omega
 have x:p.ok=(aqo [] p.links&&p.hands.all (fun n=>inR n 1 p.links.length)):=by simp[Pc.ok,u,E]
 rw[x];(try simp only[RN,r]);refine anL p.links.length (fun i (_:Unit)=>⟨[(1, .d (.anY [sF (p.links.map Lk.dv),sF (p.hands.map anF)])),(3,pI i)],⟨[some [.d (sF (p.links.map Lk.dv)), .d (sF (p.hands.map anF))]],[0],[]⟩⟩)
  (fun i _=>aqo [] p.links=aqo (p.links.take i) (p.links.drop i)/\linked (p.links.take i)) 0 () (U _) rfl ⟨by simp,fun i L=>by simp at L⟩ (fun i _ e c=> ?_) (fun _ c=> ?_)
 ·obtain⟨v,s,t⟩:=rng e (by omega)
  obtain⟨c,j⟩:=c;have l:(p.links.take i).length=i:=by simp;omega
  rw[drop_cons e,aqo]at c;have k:arF (p.links.take i) (p.links.getD i default)=false->aqo [] p.links=false:=fun h=>by rw[c,h,Q]
  simp only[v,s,e,getD_map,asA,O,J,RN,r,A,I];refine anE (aDA _ _ _) ?_;cases g:inR (p.links.getD i default).fr 0 (i:Int)
  ·(try simp only[RN,r])
   rw[k (by simp only[arF,l,g,Q])];rfl
  simp only[s,e,getD_map,asA,O,J,RN,r,A,I];refine anE (B _) ?_;cases o:(p.links.getD i default).pr.ok
  ·(try simp only[RN,r])
   rw[k (by simp only[arF,o,aj,Q])];rfl
  have G:0<=(p.links.getD i default).fr/\(p.links.getD i default).fr<=(i:Int):=by simpa[inR]using g
  have f:linked (p.links.take (i+1)):=by rw[anR e];exact aA4 j G.1 (by rw[l];exact G.2)
  obtain⟨_,D⟩:=aEf (show i+1<=p.links.length by omega) f (a7 i);have z:=ax8 (show i<=p.links.length by omega) j (show(p.links.getD i default).fr.toNat<=i by omega);have m:=aLq p (i+1) (by omega) f hl (i+1) (ai _);have M:(anX p.links (i+1)).length=(ao1 (p.links.take i) (p.links.getD i default).fr.toNat).length+1:=by rw[anX,J,D,ab,z];rfl
  rw[y]at m;simp only[t,RN,r,A,I];refine anE m ?_;simp only[J,RN]
  by_cases K:(((anX p.links (i+1)).length:Nat):Int)>3
  ·simp only[K,RN,r]
   rw[k (by simp only[arF,an,aP,bf,decide_eq_true_eq];right;omega)];rfl
  ·simp only[K,t,RN,r]
   have N:arF (p.links.take i) (p.links.getD i default)=true:=by
    simp only[arF,l,g,o,W,aP,bi,decide_eq_false_iff_not];omega
   rw[N,W,<-anR e]at c;exact anT () e rfl ⟨c,f⟩
 ·obtain⟨c,j⟩:=c
  rw[X,aqo]at c;rw[c,W];simp only[V,J,RN,r,A,I];refine anL p.hands.length (fun i (_:Unit)=>⟨[(1, .d (.anY [sF (p.links.map Lk.dv),sF (p.hands.map anF)])),(4,pI i)],⟨[some [.d (sF (p.links.map Lk.dv)), .d (sF (p.hands.map anF))]],[0],[]⟩⟩)
   (fun i _=>(p.hands.all (fun n=>inR n 1 p.links.length))=((p.hands.drop i).all (fun n=>inR n 1 p.links.length))) 0 () (U _) rfl rfl (fun i _ e c=> ?_) (fun _ c=> ?_)
  ·obtain⟨v,s,t⟩:=rng e (by omega)
   rw[drop_cons e,aE]at c;simp only[v,s,e,getD_map,anM,O,J,RN,r,A,I];refine anE (w _) ?_;cases F:inR (p.hands.getD i default) 1 p.links.length
   ·rw[F,Q]at c
    simp only[c,RN,r]
   ·rw[F,W]at c
    simp only[t,RN,r];exact anT () e rfl c
  ·rw[X,aM]at c
   simp only[V,J,c,RN,r,A,I]
def aNk (m:apn)(d:Int):Bool:=
 let k:=aoE (d*m.d - m.ad) m.n
 if aoE (k*m.n+m.ad) m.d<d then aoE ((k+1)*m.n+m.ad) m.d==d else aoE (k*m.n+m.ad) m.d==d
variable{a b c:Int}
def axd (hc:0<c)(h:a<=b):aoE a c<=aoE b c:=by
 obtain⟨d,e⟩:=asj a c hc;obtain⟨f,g⟩:=asj b c hc;have:aoE a c<aoE b c+1:=ak (a:=c) (by omega) (by omega);omega
variable{m:apn}
def aGb (a:m.ok=true)(d:Int):aoE (aoE (d*m.d - m.ad) m.n*m.n+m.ad) m.d<=d/\d<=aoE ((aoE (d*m.d - m.ad) m.n+1)*m.n+m.ad) m.d:=by
 obtain⟨hd,h,g⟩:=m.facts a;obtain⟨e,f⟩:=asj (d*m.d - m.ad) m.n (by omega);have b:aoE (d*m.d) m.d=d:=aHV (by omega) (bc _) (by rw[aH];omega);refine⟨?_,?_⟩
 ·have:=axd (c:=m.d) (by omega) (show aoE (d*m.d - m.ad) m.n*m.n+m.ad<=d*m.d by omega)
  omega
 ·have:=axd (c:=m.d) (by omega) (show d*m.d<=(aoE (d*m.d - m.ad) m.n+1)*m.n+m.ad by omega)
  omega
def aKU (g:m.ok=true)(d:Int):aNk m d=true↔∃k,aoE (k*m.n+m.ad) m.d=d:=by
 obtain⟨hd,p,j⟩:=m.facts g;obtain⟨r1,r2⟩:=aGb g d;have e:∀{a b:Int},a<=b->a*m.n+m.ad<=b*m.n+m.ad:=fun h=>by
  have:=ap h (show 0<=m.n by omega);omega
 unfold aNk;simp only;generalize aoE (d*m.d - m.ad) m.n=K at r1 r2;constructor
 ·intro h
  split at h
  ·exact⟨_,beq_iff_eq.1 h⟩
  ·exact⟨_,beq_iff_eq.1 h⟩
 ·rintro⟨k,o⟩
  split
  ·rename_i i
   have f:K+1<=k:=by
    apply Classical.byContradiction;intro l;have:=axd (c:=m.d) (by omega) (e (show k<=K by omega));omega
   have:=axd (c:=m.d) (by omega) (e f);exact beq_iff_eq.2 (by omega)
  ·exact beq_iff_eq.2 (by omega)
def aUp (b:m.ok=true)(n:Int):(0<=avD m n/\avD m n<=30)/\aNk m (n - avD m n)=true/\∀j,0<=j->j<avD m n->aNk m (n - j)=false:=by
 obtain⟨hd,E,C⟩:=m.facts b;obtain⟨K,f⟩:∃K,K=aoE ((n+1)*m.d - 1 - m.ad) m.n:=⟨_,rfl⟩
 obtain⟨i,l⟩:=asj ((n+1)*m.d - 1 - m.ad) m.n (by omega);rw[<-f]at i l;obtain⟨s,e⟩:∃s,s=aoE (K*m.n+m.ad) m.d:=⟨_,rfl⟩
 obtain⟨o,p⟩:=asj (K*m.n+m.ad) m.d (by omega);rw[<-e]at o p;have w:(K+1)*m.n=K*m.n+m.n:=by rw[aH];omega
 have x:(n+1)*m.d=n*m.d+m.d:=by rw[aH];omega
 have y:(s+1)*m.d=s*m.d+m.d:=by rw[aH];omega
 have z:(n - 30)*m.d=n*m.d - 30*m.d:=by rw[Int.sub_mul]
 have b1:s<n+1:=ak (a:=m.d) (by omega) (by omega);have v:n - 30<s+1:=ak (a:=m.d) (by omega) (by omega);have g:avD m n=n - s:=by unfold avD;rw[<-f,<-e]
 rw[g];refine⟨by omega,?_,fun j B D=> ?_⟩
 ·rw[show n - (n - s)=s by omega]
  exact(aKU b s).2 ⟨K,e.symm⟩
 ·cases h:aNk m (n - j)
  ·rfl
  obtain⟨k,t⟩:=(aKU b _).1 h;obtain⟨q,r⟩:=asj (k*m.n+m.ad) m.d (by omega);rw[t]at q r;have A:(n - j+1)*m.d<=(n+1)*m.d:=ap (by omega) (by omega);have u:k<K+1:=ak (a:=m.n) (by omega) (by omega);have:=axd (c:=m.d) (by omega) (show k*m.n+m.ad<=K*m.n+m.ad by
   have:=ap (show k<=K by omega) (show 0<=m.n by omega);omega)
  omega
def aWr (n:Int)(h:0<=n):wd (n+(7 - wd n))=0/\(1<=7 - wd n/\7 - wd n<=7)/\∀j,1<=j->j<7 - wd n->wd (n+j)≠0:=by
 unfold wd;rw[ae (show 0<=n+4 by omega)];refine⟨?_,by omega,fun j h1 h2=> ?_⟩
 ·rw[ae (by omega)];omega
 ·rw[ae (by omega)];omega
def aGE (n:Int)(h:0<=n/\n<=1000000000):Pure C 33 [dI n] (pI (wd n)) []:=by
 have a:bo .i64 (n+4)=n+4:=anI (by omega);have b1:0<=(n+4).tmod 7:=Int.tmod_nonneg 7 (by omega);have b:(n+4).tmod 7<7:=Int.tmod_lt_of_pos _ (by decide);have c:bo .i64 ((n+4).tmod 7)=(n+4).tmod 7:=anI (by omega);refine am6 atg anN ?_;simp only[atg,anN,a,wd,RN,r];simp
def aGN (n b:Int)(h:n.natAbs<=1000000000000000000)(hb:b≠0):Pure C 357 [dI n,dI b] (pI (aoE n b)) []:=by
 have b1:=arO n b;have f:=azM n b;have c:bo .i64 (n.tdiv b)=n.tdiv b:=anI (by omega);have d:bo .i64 (n.tdiv b*b)=n.tdiv b*b:=anI (by omega);have e:bo .i64 (n.tdiv b - 1)=n.tdiv b - 1:=anI (by omega);refine am6 avJ anO ?_;simp only[avJ,anO,c,d,hb,RN,r,A]
 by_cases a:n.tdiv b*b>n
 ·simp only[a,e,aoE,if_true,RN,r]
 ·simp only[a,aoE,if_false,RN,r]
def aCz (c:Cal)(y:Int)(hl:c.cy.length<=1000000)(q:∀n∈c.cy,n≠0):Pure C 106 [c.dv,dI y] (.d (.bool (c.leap y))) []:=by
 refine am6 aEm anO ?_;rw[aoJ];simp only[aEm,anO,RN,r,A];refine anL c.cy.length (fun i (n:Nat)=>⟨[(1,pI y),(2, .d (.anY [dI c.ep,sF (c.cy.map anF)])),(5,pI (n:Int)),(6,pI i)],⟨[some [pI c.ep, .d (sF (c.cy.map anF))]],[0],[]⟩⟩)
  (fun i n=>n<=i/\c.leap y=aza (c.cy.drop i) y (decide (n % 2=1))) 0 0 (U _) rfl ⟨ai _,rfl⟩ (fun i n b a=> ?_) (fun n a=> ?_)
 ·obtain⟨o,p,g⟩:=rng b hl
  obtain⟨f,a⟩:=a;rw[drop_cons b,aza]at a;have e:=q _ (getD_mem b);have k:bo .i64 ((n:Int)+1)=((n+1:Nat):Int):=by rw[anI (by omega)];omega
  simp only[o,p,b,anM,getD_map,O,J,e,RN,r,A,I];cases j:(y.tmod (c.cy.getD i default)==0)
  ·rw[j]at a
   simp only[g,RN,r];exact anT n b rfl ⟨by omega,a⟩
  ·rw[j]at a
   simp only[k,g,RN,r];refine anT (n+1) b rfl ⟨by omega,?_⟩;rw[a]
   congr 1
   by_cases h:n % 2=1
   ·simp[h];omega
   ·simp[h];omega
 ·obtain⟨f,a⟩:=a
  rw[X,aza]at a;have t:bo .i64 ((n:Int).tmod 2)=((n % 2:Nat):Int):=by
   rw[ae (by omega),anI (by omega)];omega
  have l:(n:Int).tmod 2=((n % 2:Nat):Int):=by rw[ae (by omega)];omega
  have s:¬(2:Int)=0:=by decide
  have m:(((n % 2:Nat):Int)==1)=decide (n % 2=1):=by
   by_cases h:n % 2=1
   ·rw[h];rfl
   ·rw[decide_eq_false h];exact beq_false_of_ne (by omega)
  simp only[V,J,l,a,s,m,RN,r,A,I]
def aUz {k:Int}(h:1<=k/\k<=12):k=1\/k=2\/k=3\/k=4\/k=5\/k=6\/k=7\/k=8\/k=9\/k=10\/k=11\/k=12:=by omega
def aDv {m:Int}(a:1<=m/\m<=12)(leap:Bool):Pure C 233 [dI m, .bool leap] (.d (dI ((anV leap).getD (m - 1).toNat default))) []:=by
 refine am6 aAs anO ?_;simp only[aAs,anO,RN,r,A]
 by_cases h2:m=2
 ·subst h2
  have z:((2:Int)==2)=true:=rfl;cases leap
  ·simp only[z,RN,r]
   refine azb rfl rfl rfl ?_;(try simp only[RN,A]);exact⟨by decide,by decide,rfl,ai 1,rfl⟩
  ·simp only[z,RN,r]
   rfl
 ·have z:(m==2)=false:=beq_false_of_ne h2
  simp only[z,RN,r];refine azb rfl rfl rfl ?_
  rcases aUz a with rfl|rfl|rfl|rfl|rfl|rfl|rfl|rfl|rfl|rfl|rfl|rfl
  all_goals first|exact absurd rfl h2|(cases leap<;>((try simp only[RN,A]);exact⟨by decide,by decide,rfl,ai 1,rfl⟩))
def aOC (c:Cal)(y:Int)(hl:c.cy.length<=1000000)(a:∀n∈c.cy,n≠0):Pure C 35 [c.dv,dI y] (.d (dI (asl (c.leap y)))) []:=by
 refine am6 aEn anO ?_;have h:=aCz c y hl a;rw[aoJ]at h⊢;simp only[aEn,anO,RN,r,A,I];refine anE h ?_;cases c.leap y
 ·(try simp only[RN])
  rfl
 ·(try simp only[RN])
  rfl
def asn (c:Cal):Nat->Int
 |0=>0
 |y+1=>asn c y+(if c.leap y then 1 else 0)
def aKO (c:Cal):∀n,0<=asn c n/\asn c n<=n
 |0=>⟨bc _,bc _⟩
 |n+1=>by
  have:=aKO c n;rw[asn];split<;>omega
def aD1 (c:Cal):∀n:Nat,c.first n=c.ep+365*n+asn c n
 |0=>by simp[Cal.first,asn]
 |n+1=>by
  rw[Cal.first,aD1 c n,asn,aq7]
  split<;>omega
def aGA (c:Cal)(hc:c.ok=true)(n:Nat)(u:n<=4000):Pure C 144 [c.dv,dI (n:Int)] (pI (c.first n)) []:=by
 obtain⟨s,t,p⟩:=Cal.facts hc;refine am6 aB9 anO ?_;rw[aoJ];have g:bo .i64 (365*(n:Int))=365*n:=anI (by omega);have j:bo .i64 (c.ep+365*(n:Int))=c.ep+365*n:=anI (by omega);simp only[aB9,anO,g,j,RN,r,A,I];refine anL n (fun i (_:Unit)=>⟨[(1,pI n),(2, .d (.anY [dI c.ep,sF (c.cy.map anF)])),(5,pI (c.ep+365*n+asn c i)),(6,pI i)],⟨[some [pI c.ep, .d (sF (c.cy.map anF))]],[0],[]⟩⟩)
  (fun i _=>True) 0 () (U _) (by simp[asn]) trivial (fun i _ b e=> ?_) (fun _ e=> ?_)
 ·obtain⟨m,q,f⟩:=rng b (by omega)
  have a:=aKO c i;have h:=aCz c i (by omega) (fun k o=>by have:=p k o;omega);rw[aoJ]at h;have l:bo .i64 (c.ep+365*(n:Int)+asn c i+1)=c.ep+365*n+asn c i+1:=anI (by omega);simp only[m,RN,r,A,I];refine anE h ?_;cases a:c.leap i
  ·simp only[f,RN,r]
   exact anT () b (by simp[asn,a]) trivial
  ·simp only[l,f,RN,r]
   exact anT () b (by simp[asn,a,bj]) trivial
 ·simp only[V,RN,r]
  rw[aD1]
def aAJ:∀(l:List Int) (p:Int) (i:Nat),i<l.length->aoA (l.take (i+1)) p=aoA (l.take i) p+l.getD i default
 | [],_,_,h=>by simp at h
 |x::l,p,0,_=>by simp[aoA]
 |x::l,p,i+1,h=>by
  rw[aG,aG,aoA,aoA,ay];exact aAJ l _ i (by simpa using h)
def aVI (c:Cal)(hc:c.ok=true)(d:Dt)(E:1<=d.m/\d.m<=12)(hd:1<=d.d/\d.d<=31):Pure C 337 [c.dv,d.dv] (.d (dI (d.d - 1+aoA ((anV (c.leap d.y)).take (d.m - 1).toNat) 0))) []:=by
 obtain⟨w,D,t⟩:=Cal.facts hc;refine am6 aEl anO ?_;rw[aoJ,arU];have n:bo .i64 (d.d - 1)=d.d - 1:=anI (by omega);simp only[aEl,anO,n,RN,r,A,I];refine anL (d.m - 1).toNat (fun i (_:Unit)=>⟨[(2, .d (.anY [dI c.ep,sF (c.cy.map anF)])),(3, .d (.anY [dI d.y,dI d.m,dI d.d])),(5, .d (dI (d.d - 1+aoA ((anV (c.leap d.y)).take i) 0))),(6, .d (dI ((i:Int)+1)))],⟨[some [pI c.ep, .d (sF (c.cy.map anF))],some [pI d.y,pI d.m,pI d.d]],[1,0],[]⟩⟩)
  (fun i _=>True) 0 () (U _) (by simp[aoA]) trivial (fun i _ p f=> ?_) (fun _ f=> ?_)
 ·have g:(i:Int)+1<d.m:=by omega
  have q:bo .i64 ((i:Int)+1+1)=(((i+1:Nat):Int)+1):=by rw[anI (by omega)];omega
  have h:=aCz c d.y (by omega) (fun k s=>by have:=t k s;omega);rw[aoJ]at h;have l:=aDv (m:=(i:Int)+1) (by omega) (c.leap d.y);have b:i<(anV (c.leap d.y)).length:=by rw[arZ];omega
  have a:=aqW (c.leap d.y);have G:=axJ (anV (c.leap d.y)) i 0 fun x e=>by have:=a x e;omega
  have u:=atG ((anV (c.leap d.y)).take i) 0 fun x e=>by have:=a x (av e);omega
  have v:aoA (anV (c.leap d.y)) 0<=366:=by have:=aq7 (c.leap d.y);unfold asl at this;rw[this];split<;>decide
  have z:=a _ (getD_mem b);have j:=aAJ (anV (c.leap d.y)) 0 i b;rw[show((i:Int)+1 - 1).toNat=i by omega]at l;have o:bo .i64 (d.d - 1+aoA ((anV (c.leap d.y)).take i) 0+(anV (c.leap d.y)).getD i default)=d.d - 1+aoA ((anV (c.leap d.y)).take i) 0+(anV (c.leap d.y)).getD i default:=anI (by omega);simp only[g,RN,r,A,I];refine anE h ?_;(try simp only[RN,r,A,B,F,H,I]);refine anE l ?_;simp only[o,q,RN];exact anT () p (by rw[j,bj]) trivial
 ·have e:¬(((d.m - 1).toNat:Int)+1<d.m):=by omega
  simp only[e,RN,r,A,I]
def aS7 (c:Cal)(hc:c.ok=true)(d:Dt)(p:0<=d.y/\d.y<=4000)(g:1<=d.m/\d.m<=12)(hd:1<=d.d/\d.d<=31):Pure C 311 [c.dv,d.dv] (.d (dI (aw3 c (c.firsts 4002) d))) []:=by
 obtain⟨k,l,n⟩:=Cal.facts hc;have h1:=aGA c hc d.y.toNat (by omega);have h2:=aVI c hc d g hd;rw[show((d.y.toNat:Nat):Int)=d.y by omega]at h1;have f:(c.firsts 4002).getD d.y.toNat default=c.first d.y.toNat:=by
  rw[Cal.firsts,am,aZ,aR (by omega)];rfl
 have j:=c.ap5 d.y.toNat;have a:=aqW (c.leap d.y);have o:=axJ (anV (c.leap d.y)) (d.m - 1).toNat 0 fun x b=>by have:=a x b;omega
 have h:=atG ((anV (c.leap d.y)).take (d.m - 1).toNat) 0 fun x b=>by have:=a x (av b);omega
 have i:aoA (anV (c.leap d.y)) 0<=366:=by have:=aq7 (c.leap d.y);unfold asl at this;rw[this];split<;>decide
 have e:bo .i64 (c.first d.y.toNat+(d.d - 1+aoA ((anV (c.leap d.y)).take (d.m - 1).toNat) 0))=aw3 c (c.firsts 4002) d:=by
  rw[aw3,f,anI (by omega)];omega
 refine am6 aGo anO ?_;rw[aoJ]at h1 h2⊢;rw[arU]at h2⊢;simp only[aGo,anO,RN,r,A,I];refine anE h1 ?_;(try simp only[RN,r,A,B,F,H,I]);refine anE h2 ?_;simp only[e,RN]
def aNB (d:Dt):Pure C 336 [d.dv] (.d (.bool (inR d.y 0 4000&&inR d.m 1 12&&inR d.d 1 31))) []:=by
 refine am6 azn anN ?_;rw[arU];simp only[azn,anN,RN,r,A,I];refine anE (aOK _) ?_;cases h1:inR d.y 0 4000
 ·simp only[Q,RN,r]
 (try simp only[RN,r,A,I]);refine anE (aw6 _ _ _) ?_;cases h2:inR d.m 1 12
 ·simp only[Q,RN,r]
 (try simp only[RN,r,A,I]);refine anE (aw6 _ _ _) ?_;(try simp only[])
def aVL (c:Cal)(hc:c.ok=true)(d:Dt):Pure C 310 [c.dv,d.dv] (.d (.bool (aqt c d))) []:=by
 obtain⟨l,o,j⟩:=Cal.facts hc;have h1:=aNB d;have h2:=aCz c d.y (by omega) (fun k h=>by have:=j k h;omega);refine am6 aEp anO ?_;rw[aoJ]at h2⊢;rw[arU]at h1⊢;simp only[aEp,anO,RN,r,A,I];refine anE h1 ?_;cases e:inR d.y 0 4000
 ·simp only[Q,RN,r]
  simp[aqt,e]
 cases a:inR d.m 1 12
 ·simp only[Q,aj,RN,r]
  simp[aqt,a]
 have i:1<=d.m/\d.m<=12:=by simpa[inR]using a
 have g:=aDv i (c.leap d.y);have b:(d.m - 1).toNat<(anV (c.leap d.y)).length:=by rw[arZ];omega
 have n:=aqW (c.leap d.y) _ (getD_mem b);cases f:inR d.d 1 31
 ·(try simp only[RN,r])
  have:inR d.d 1 ((anV (c.leap d.y)).getD (d.m - 1).toNat default)=false:=by
   simp only[inR,an,decide_eq_false_iff_not]at f⊢;omega
  simp only[aqt,e,a,this,aj]
 have hd:1<=d.d/\d.d<=31:=by simpa[inR]using f
 (try simp only[RN,r,A,I]);refine anE h2 ?_;(try simp only[RN,r,A,B,F,H,I]);refine anE g ?_;(try simp only[RN]);have:aqt c d=decide (d.d<=(anV (c.leap d.y)).getD (d.m - 1).toNat default):=by
  rw[aqt,e,a,W,W];simp only[inR];rw[decide_eq_true (show d.d>=1 by omega),W]
 rw[this]
def aYu (m:apn)(n:Int)(q:m.ok=true)(h:0<=n/\n<=100000000):Pure C 352 [m.dv,dI n] (.d (.bool (aNk m n))) []:=by
 obtain⟨hd,D,y⟩:=m.facts q;have E:0<=n*m.d/\n*m.d<=100000000*1000:=⟨aq (by omega) (by omega),Y (by omega) hd.2 (by omega) (by omega)⟩
 have v:=aIX (n*m.d - m.ad) m.n (by omega);have w:=aKi (n*m.d - m.ad) m.n;obtain⟨r1,r2⟩:=aGb q n;have s:bo .i64 (n*m.d)=n*m.d:=anI (by omega);have t:bo .i64 (n*m.d - m.ad)=n*m.d - m.ad:=anI (by omega);obtain⟨K,o⟩:∃K,K=aoE (n*m.d - m.ad) m.n:=⟨_,rfl⟩
 have b:aNk m n=if aoE (K*m.n+m.ad) m.d<n then aoE ((K+1)*m.n+m.ad) m.d==n else aoE (K*m.n+m.ad) m.d==n:=by rw[o];rfl
 have p:=aGN (n*m.d - m.ad) m.n (by omega) (by omega);rw[<-o]at v w r1 r2 p;have x:(K+1)*m.n=K*m.n+m.n:=by rw[aH];omega
 have e:bo .i64 (K*m.n)=K*m.n:=anI (by omega);have f:bo .i64 (K*m.n+m.ad)=K*m.n+m.ad:=anI (by omega);have u:bo .i64 (K+1)=K+1:=anI (by omega);have g:bo .i64 ((K+1)*m.n)=(K+1)*m.n:=anI (by omega);have j:bo .i64 ((K+1)*m.n+m.ad)=(K+1)*m.n+m.ad:=anI (by omega);have k:=aGN (K*m.n+m.ad) m.d (by omega) (by omega);have l:=aGN ((K+1)*m.n+m.ad) m.d (by omega) (by omega);refine am6 aGp anO ?_;rw[apz];simp only[aGp,anO,s,t,RN,r,A,I];refine anE p ?_;(try simp only[RN,r,A,B,F,H,I]);refine apW (fun i:Nat=>⟨[(1,pI n),(2, .d (.anY [dI m.n,dI m.d,dI m.ad])),(5,pI (K+i))],⟨[some [pI m.n,pI m.d,pI m.ad]],[0],[]⟩⟩)
  (fun i=>i=0\/(i=1/\aoE (K*m.n+m.ad) m.d<n)) (fun i=>1 - i) 0 (by simp) (.inl rfl) ?_
 rintro i (rfl|⟨rfl,a⟩)
 ·have z:K+((0:Nat):Int)=K:=by omega
  simp only[z,e,f,RN,r,A,B,I];refine anE k ?_
  by_cases a:aoE (K*m.n+m.ad) m.d<n
  ·simp only[a,u,RN,r]
   refine⟨0,_,by omega, .inl rfl,?_⟩;exact⟨(1:Nat),rfl,rfl,Or.inr rfl⟩
  ·simp only[a,e,f,RN,r,A,I]
   refine anE k ?_;(try simp only[RN]);rw[b,if_neg a]
 ·have z:K+((1:Nat):Int)=K+1:=by omega
  have c:¬aoE ((K+1)*m.n+m.ad) m.d<n:=by omega
  simp only[z,g,j,RN,r,A,B,I];refine anE l ?_;simp only[c,g,j,RN,r,A,I];refine anE l ?_;(try simp only[RN]);rw[b,if_pos a]
def aYs (m:apn)(n:Int)(f:m.ok=true)(h:30<=n/\n<=100000000):Pure C 335 [m.dv,dI n] (pI (avD m n)) []:=by
 obtain⟨j,b,c⟩:=aUp f n;obtain⟨g,p⟩:∃g:Nat,avD m n=(g:Int):=⟨(avD m n).toNat,by omega⟩
 rw[p]at j b c⊢;refine am6 aGn anO ?_;rw[apz];simp only[aGn,anO,RN,r,A];refine apW (fun i:Nat=>⟨[(1,pI n),(2, .d (.anY [dI m.n,dI m.d,dI m.ad])),(5,pI (i:Int))],⟨[some [pI m.n,pI m.d,pI m.ad]],[0],[]⟩⟩)
  (fun i=>i<=g) (fun i=>g - i) 0 rfl (U _) ?_
 intro i q;have k:bo .i64 (n - (i:Int))=n - i:=anI (by omega);have e:=aYu m (n - i) f (by omega);rw[apz]at e;simp only[k,RN,r,A,I];refine anE e ?_
 by_cases o:i=g
 ·subst o
  rw[b];(try simp only[RN,r])
 ·have l:bo .i64 ((i:Int)+1)=((i+1:Nat):Int):=by rw[anI (by omega)];omega
  rw[c i (by omega) (by omega)];simp only[l,RN,r];exact aun (μ:=fun i=>g - i) (a:=i) (E:=fun i:Nat=>⟨[(1,pI n),(2, .d (.anY [dI m.n,dI m.d,dI m.ad])),(5,pI (i:Int))],⟨[some [pI m.n,pI m.d,pI m.ad]],[0],[]⟩⟩) (P:=fun i=>i<=g) (i+1) (by omega) rfl (by omega)
def aPV (g:m.ok=true)(n:Int):avD m (m.full n)=13/\(n<=m.full n/\m.full n<=n+44)/\∀j,n<=j->j<m.full n->avD m j≠13:=by
 have go:∀(k:Nat) (n:Int),(∃j:Nat,j<k/\avD m (n+j)=13)->avD m (asN m k n)=13/\(n<=asN m k n/\asN m k n<n+k)/\∀j,n<=j->j<asN m k n->avD m j≠13:=by
  intro k
  induction k with
  |zero=>rintro n ⟨j,d,_⟩;omega
  |succ k l=>
   rintro n ⟨j,d,a⟩;rw[asN]
   split
   ·rename_i h;exact⟨h,by omega,fun j h1 h2=>by omega⟩
   ·rename_i h
    have f:j≠0:=by rintro rfl;simp at a;exact h a
    obtain⟨b,i,c⟩:=l (n+1) ⟨j - 1,by omega,by rw[show n+1+((j - 1:Nat):Int)=n+j by omega];exact a⟩;refine⟨b,by omega,fun q h1 h2=> ?_⟩
    by_cases e:q=n
    ·rw[e];exact h
    ·exact c q (by omega) h2
 obtain⟨j,d,a⟩:=aH5 m g n;obtain⟨b,i,c⟩:=go 45 n ⟨j,by omega,a⟩;exact⟨b,by unfold apn.full;omega,c⟩
def aQu (c:Cal)(m:apn)(y:Int)(hc:c.ok=true)(t:m.ok=true)(K:0<=y/\y<=4000):Pure C 309 [c.dv,m.dv,dI y] (pI (sunday c m y)) []:=by
 obtain⟨Q,T,U⟩:=Cal.facts hc;have l:=aS7 c hc ⟨y,3,21⟩ K (by simp only;omega) (by simp only;omega);have e:(c.firsts 4002).length=4002:=auH c 4002;have x:=aMx c (c.firsts 4002) ⟨y,3,21⟩ (avQ c hc) (by rw[e];simp only;omega) (by simp only;omega);have g:79<=aw3 c (c.firsts 4002) ⟨y,3,21⟩:=by
  have G:(c.firsts 4002).getD y.toNat default=c.first y.toNat:=by
   rw[Cal.firsts,am,aZ,aR (by omega)];rfl
  have h1:=c.ap5 y.toNat;have h2:59<=aoA ((anV (c.leap y)).take 2) 0:=by cases c.leap y<;>decide
  simp only[aw3,G,show((3:Int) - 1).toNat=2 from rfl];omega
 obtain⟨b,h⟩:∃b,b=aw3 c (c.firsts 4002) ⟨y,3,21⟩:=⟨_,rfl⟩
 obtain⟨v,N,w⟩:=aPV t b;have p:sunday c m y=m.full b+(7 - wd (m.full b)):=by rw[h];rfl
 rw[<-h]at l x g;obtain⟨L,V,M⟩:=aWr (m.full b) (by omega);rw[p];generalize m.full b=f at*;generalize O:7 - wd f=E at*;rw[aoJ,arU]at l;refine am6 axp atF ?_;rw[aoJ,apz];simp only[axp,atF,RN,r,A,I];refine anE l ?_;(try simp only[RN,r,A,B,F,H,I]);refine apW (fun i:Nat=>⟨[(4, .d (.anY [dI m.n,dI m.d,dI m.ad])),(7,pI (b+i))],⟨[some [pI c.ep, .d (sF (c.cy.map anF))],some [pI m.n,pI m.d,pI m.ad]],[1,0],[]⟩⟩)
  (fun i=>b+(i:Int)<=f) (fun i=>(f - b - i).toNat) 0 (by simp) (by omega) ?_
 intro i R;have s:=aYs m (b+i) t (by omega);rw[apz]at s;(try simp only[RN,r,A,I]);refine anE s ?_
 by_cases o:b+(i:Int)=f
 ·have z:(avD m (b+(i:Int)) !=13)=false:=by rw[o,v];rfl
  have k:bo .i64 (b+(i:Int)+1)=f+1:=by rw[anI (by omega)];omega
  simp only[z,k,RN,r,A];refine apW (fun j:Nat=>⟨[(7,pI (f+1+j))],⟨[some [pI c.ep, .d (sF (c.cy.map anF))],some [pI m.n,pI m.d,pI m.ad]],[1,0],[]⟩⟩)
   (fun j=>(j:Int)+1<=E) (fun j=>(E - j).toNat) 0 (by simp) (by omega) ?_
  intro j S;have J:=aGE (f+1+j) (by omega);(try simp only[RN,r,A]);refine anE J ?_
  by_cases D:(j:Int)+1=E
  ·have q:(wd (f+1+(j:Int)) !=0)=false:=by rw[show f+1+(j:Int)=f+E by omega,L];rfl
   simp only[q,RN,r,A];rw[show f+1+(j:Int)=f+E by omega]
  ·have q:(wd (f+1+(j:Int)) !=0)=true:=by
    have:=M ((j:Int)+1) (by omega) (by omega);rw[show f+((j:Int)+1)=f+1+j by omega]at this;exact bne_iff_ne.2 this
   have u:bo .i64 (f+1+(j:Int)+1)=f+1+((j+1:Nat):Int):=by rw[anI (by omega)];omega
   simp only[q,u,RN,r,A];exact aun (μ:=fun j:Nat=>(E - j).toNat) (a:=j) (E:=fun j:Nat=>⟨[(7,pI (f+1+j))],⟨[some [pI c.ep, .d (sF (c.cy.map anF))],some [pI m.n,pI m.d,pI m.ad]],[1,0],[]⟩⟩) (P:=fun j:Nat=>(j:Int)+1<=E) (j+1) (by omega) rfl (by omega)
 ·have z:(avD m (b+(i:Int)) !=13)=true:=bne_iff_ne.2 (w _ (by omega) (by omega))
  have k:bo .i64 (b+(i:Int)+1)=b+((i+1:Nat):Int):=by rw[anI (by omega)];omega
  simp only[z,k,RN,r,A];exact aun (μ:=fun i:Nat=>(f - b - i).toNat) (a:=i) (E:=fun i:Nat=>⟨[(4, .d (.anY [dI m.n,dI m.d,dI m.ad])),(7,pI (b+i))],⟨[some [pI c.ep, .d (sF (c.cy.map anF))],some [pI m.n,pI m.d,pI m.ad]],[1,0],[]⟩⟩) (P:=fun i:Nat=>b+(i:Int)<=f) (i+1) (by omega) rfl (by omega)
def aLm (c:Cal)(m:apn)(f:Fs)(y:Int)(hc:c.ok=true)(k:m.ok=true)(d:0<=y/\y<=4000)(hf:f.bad=false):Pure C 286 [c.dv,m.dv,f.dv,dI y] (pI (aqT c m y f)) []:=by
 obtain⟨n,i⟩:=Fs.facts hf;have g:=aQu c m y hc k d;have l:=aIC c m y hc d;have h:=aVL c hc ⟨y,f.mo,f.da⟩;refine am6 ayB asQ ?_;rw[aoJ,apz]at g;rw[aoJ,arU]at h;rw[aoJ,apz,ayW];simp only[ayB,asQ,RN,r,A,I];cases a:f.mv
 ·have e:=aS7 c hc ⟨y,f.mo,f.da⟩ d (i a).1 (i a).2
  rw[aoJ,arU]at e;(try simp only[RN,r,A,F,I]);refine anE h ?_;cases b:aqt c ⟨y,f.mo,f.da⟩
  ·(try simp only[RN,r,A])
   simp[aqT,a,b]
  ·(try simp only[RN,r,A,I])
   refine anE e ?_;(try simp only[RN,r,A,B,F,H,I]);simp[aqT,a,b]
 ·have:=n a
  have j:bo .i64 (sunday c m y+f.af)=sunday c m y+f.af:=anI (by omega);(try simp only[RN,r,A,I]);refine anE g ?_;simp only[j,RN];simp[aqT,a]
def aJo (c:Cal)(m:apn)(l:List Fs)(y:Int)(hc:c.ok=true)(o:m.ok=true)(p:0<=y/\y<=4000)(hl:l.length<=6)(hf:∀f∈l,f.bad=false):
  Pure C 232 [c.dv,m.dv,sF (l.map Fs.dv),dI y] (.d (sF ((l.map (aqT c m y)).map anF))) []:=by
 refine an9 (anJ axq asQ ?_);have e:=fun f hf=>aLm c m f y hc o p hf
 rw[aoJ,apz]at e⊢;simp only[axq,asQ,RN,r,A,H];refine anL l.length (fun i (_:Unit)=>⟨[(2, .d (sF (l.map Fs.dv))),(3,pI y),(4, .d (.anY [dI c.ep,sF (c.cy.map anF)])),(5, .d (.anY [dI m.n,dI m.d,dI m.ad])),(9, .tsl 1 i 0),(10,pI i)],
  ⟨[some [pI c.ep, .d (sF (c.cy.map anF))],some [pI m.n,pI m.d,pI m.ad]],[1,0],[some ⟨1,[],0,0⟩,some ⟨1,((l.take i).map (aqT c m y)).map anF,i,0⟩]⟩⟩)
  (fun i _=>True) 0 () (U _) rfl trivial (fun i _ a _=> ?_) (fun _ _=> ?_)
 ·obtain⟨g,j,k⟩:=rng a (by omega)
  have h:=e _ (hf _ (getD_mem a));have b:((l.take i).map (aqT c m y)).map anF++ [dI (aqT c m y (l.getD i default))]=((l.take (i+1)).map (aqT c m y)).map anF:=by
   rw[anR a];simp[anF]
  rw[ayW]at h;simp only[g,j,a,ayW,getD_map,O,J,RN,r,A,I];refine anE h ?_;simp only[DV.strip,fits_int,forall_eq,J,RN,F,H,I];refine⟨by simp,by simp;omega,?_⟩;rw[b,k];exact aoD () a rfl trivial (by simp) (by simp) rfl rfl
 ·simp only[V,J,RN,r,A]
  simp[datum,Mem.row]
def aWO (n:Int)(h:0<=n/\n<=1000000000000):Pure C 283 [dI n] (pI (upI n 100)) []:=by
 have a:bo .i64 (n+99)=n+99:=anI (by omega);have b1:=arO (n+99) 100;have b:bo .i64 ((n+99).tdiv 100)=(n+99).tdiv 100:=anI (by omega);have z:¬(100:Int)=0:=by decide
 refine am6 aIl anN ?_;simp only[aIl,anN,a,b,z,RN,r];rw[upI,show n+100 - 1=n+99 by omega]
def aG7:∀(l:List Int) (p:Int),aoA l p=p+aoA l 0
 | [],p=>by simp[aoA]
 |x::l,p=>by rw[aoA,aoA,aG7 l (p+x),aG7 l (0+x)];omega
def aZQ {ts:List Int}(h:∀n∈ts,anP n=true):∀x∈ts.map (fun n=>n*n),0<=x/\x<=3600:=by
 intro x b;obtain⟨n,a,rfl⟩:=ax.1 b;have:=h n a;simp only[anP,inR,Z,decide_eq_true_eq]at this;have h1:=aq (show 0<=n by omega) (show 0<=n by omega);have h2:=Y (show n<=60 by omega) (show n<=60 by omega) (by omega) (by omega);omega
def aNY:∀(l:List Int) (b:Int),(∀x∈l,0<=x/\x<=b)->0<=aoA l 0/\aoA l 0<=b*l.length
 | [],b,_=>by simp[aoA]
 |x::l,b,h=>by
  have h1:=h x (by simp);have h2:=aNY l b fun y a=>h y (by simp[a])
  rw[aoA,aG7,aL];have:b*((l.length+1:Nat):Int)=b*l.length+b:=by
   rw[Int.natCast_add,Int.mul_add];simp
  omega
def aQw (b:Bil)(hb:b.ok=true):Pure C 228 [b.dv] (pI b.price) []:=by
 have e:=hb;simp only[Bil.ok,ati,inR,Z,decide_eq_true_eq,List.all_eq_true]at e;obtain⟨⟨⟨⟨⟨⟨M,H⟩,N⟩,P⟩,Q⟩,k6⟩,R⟩:=e;have a:=aZQ H;obtain⟨j,k⟩:=aNY _ 3600 a;rw[J]at k;obtain⟨S,g⟩:∃S,S=aoA (b.aow.map fun n=>n*n) 0:=⟨_,rfl⟩
 rw[<-g]at j k;have T:0<=S*b.ao2/\S*b.ao2<=28800*1000:=⟨aq j (by omega),Y (by omega) (by omega) (by omega) (by omega)⟩
 have W:0<=b.hours*b.aqJ/\b.hours*b.aqJ<=40*100:=⟨aq (by omega) (by omega),Y (by omega) (by omega) (by omega) (by omega)⟩
 have u1:=arO (S*b.ao2+100 - 1) 100;have K:0<=(S*b.ao2+100 - 1).tdiv 100:=Int.tdiv_nonneg (by omega) (by decide);have h:b.cost=upI (S*b.ao2) 100+b.hours*b.aqJ:=by rw[Bil.cost,<-g]
 have f:0<=b.cost/\b.cost<=30000000:=by rw[h,upI];omega
 have X:0<=b.cost*b.pct/\b.cost*b.pct<=30000000*100:=⟨aq f.1 (by omega),Y f.2 (by omega) (by omega) (by omega)⟩
 have u2:=arO (b.cost*b.pct+100 - 1) 100;have m:bo .i64 (S*b.ao2)=S*b.ao2:=anI (by omega);have o:bo .i64 (b.hours*b.aqJ)=b.hours*b.aqJ:=anI (by omega);have q:bo .i64 (upI (S*b.ao2) 100+b.hours*b.aqJ)=b.cost:=by rw[h,anI (by rw[upI];omega)]
 have s:bo .i64 (b.cost*b.pct)=b.cost*b.pct:=anI (by omega);have t:bo .i64 (b.cost+upI (b.cost*b.pct) 100)=b.price:=by rw[Bil.price,anI (by rw[upI];omega)]
 have r1:=aWO (S*b.ao2) (by omega);have r2:=aWO (b.cost*b.pct) (by omega);refine am6 aCc anN ?_;rw[aAY];simp only[aCc,anN,RN,r];refine anL b.aow.length (fun i (_:Unit)=>⟨[(1, .d (.anY [sF (b.aow.map anF),dI b.ao2,dI b.hours,dI b.aqJ,dI b.pct,dI b.adv])),(3, .d (dI (aoA ((b.aow.take i).map fun n=>n*n) 0))),(4,pI i)],
   ⟨[some [.d (sF (b.aow.map anF)),pI b.ao2,pI b.hours,pI b.aqJ,pI b.pct,pI b.adv]],[0],[]⟩⟩)
  (fun i _=>True) 0 () (U _) rfl trivial (fun i _ c _=> ?_) (fun _ _=> ?_)
 ·obtain⟨w,z,B⟩:=rng c (by omega)
  have L:=a _ (ax.2 ⟨_,getD_mem c,rfl⟩);have E:=aNY ((b.aow.take i).map fun n=>n*n) 3600 (fun x F=>a x (by
   obtain⟨n,D,rfl⟩:=ax.1 F;exact ax.2 ⟨n,av D,rfl⟩))
  rw[J,aw]at E;have u:bo .i64 (b.aow.getD i default*b.aow.getD i default)=b.aow.getD i default*b.aow.getD i default:=anI (by omega);have v:bo .i64 (aoA ((b.aow.take i).map fun n=>n*n) 0+b.aow.getD i default*b.aow.getD i default)=aoA ((b.aow.take (i+1)).map fun n=>n*n) 0:=by
   rw[anR c,au,aI,List.map_nil];have:∀(l:List Int) (x p:Int),aoA (l++ [x]) p=aoA l p+x:=by
    intro l x
    induction l with
    |nil=>intro p;simp[aoA]
    |cons y l G=>intro p;rw[a6,aoA,aoA,G]
   rw[this,anI (by omega)]
  simp only[w,z,c,getD_map,anM,O,J,u,v,B,RN,r,A,I];exact anT () c rfl trivial
 ·rw[aD,<-g]
  simp only[V,J,m,RN,r,A,I];refine anE r1 ?_;simp only[o,q,s,RN];refine anE r2 ?_;simp only[t,RN]
def aVT (a b:Nat):Pure C 334 [dI a,dI b] (pI (aA a b:Nat)) []:=by
 refine am6 avL anO ?_;simp only[avL,anO,RN,r,A];refine apW (fun(q:Nat×Nat)=>⟨[(0,pI q.1),(1,pI q.2)],⟨[],[],[]⟩⟩) (fun q=>aA q.1 q.2=aA a b) (fun q=>q.2) (a,b) rfl rfl (fun q e=> ?_)
 by_cases g:q.2=0
 ·have c:¬((q.2:Int)>0):=by omega
  simp only[c,RN,r];rw[<-e,g,Nat.gcd_zero_right]
 ·have c:((q.2:Int)>0):=by omega
  have d:((q.2:Int)≠0):=by omega
  have f:(q.1:Int).tmod (q.2:Int)=((q.1 % q.2:Nat):Int):=(bh q.1 q.2).symm;simp only[c,d,f,RN,r];exact aC0 (q.2,q.1 % q.2) (aW _ (by omega)) rfl (by simp only;rw[bl,<-Nat.gcd_rec,bl];exact e) (by simp) (by simp) rfl rfl
def aGC (a b:Nat)(j:a<=4611686018427387904)(hb:b<=4611686018427387904)(h:0<b):Pure C 307 [.agg [dI a,dI b]] (.d (awE a b).dv) []:=by
 refine am6 azm aEN ?_;have i:((aA a b:Nat):Int)≠0:=by
  have:0<aA a b:=Nat.gcd_pos_of_pos_right _ h;omega
 have c:(a:Int).tdiv (aA a b:Nat)=((a / aA a b:Nat):Int):=(aQ a _).symm;have e:(b:Int).tdiv (aA a b:Nat)=((b / aA a b:Nat):Int):=(aQ b _).symm;have f:bo .i64 ((a:Int).tdiv (aA a b:Nat))=((a / aA a b:Nat):Int):=by
  rw[c];exact aFb (aB (be _ _) (by omega))
 have g:bo .i64 ((b:Int).tdiv (aA a b:Nat))=((b / aA a b:Nat):Int):=by
  rw[e];exact aFb (aB (be _ _) (by omega))
 simp only[azm,aEN,RN,r,A,I];refine anE (aVT a b) ?_;simp only[i,f,g,aoa,awE,RN,r,A,F,I]
def aCX {l:List Pr}(h:∀p∈l,p.ok=true):∀p∈l,(4<=p.a/\p.a<=60)/\4<=p.b/\p.b<=60:=by
 intro p c;have:=h p c;simp only[Pr.ok,anP,inR,Z,decide_eq_true_eq]at this;omega
def aLr (l:List Pr)(hl:l.length<=3)(j:∀p∈l,p.ok=true):Pure C 287 [sF (l.map Pr.dv)] (.d (aod l).dv) []:=by
 have k:=fun i=>aCW (l:=l.take i) (by rw[aw];omega) (aCX fun p h=>j p (av h))
 have g:=aCW hl (aCX j);refine am6 aB7 aEN ?_;simp only[aB7,aEN,RN,r,A,I];refine anL l.length (fun i (_:Unit)=>⟨[(0, .d (sF (l.map Pr.dv))),(2, .ptr 0 0),(3, .ptr 1 0),(4,pI i)],
   ⟨[some [pI 0,pI 0],some [.d (dI (apa (l.take i)).n), .d (dI (apa (l.take i)).d)]],[],[]⟩⟩)
  (fun i _=>True) 0 () (U _) rfl trivial (fun i _ c _=> ?_) (fun _ _=> ?_)
 ·obtain⟨s,t,u⟩:=rng c (by omega)
  have w:=aCX j _ (getD_mem c);have h1:=k i;have h2:=k (i+1);have m:apa (l.take (i+1))=mulR (apa (l.take i)) (l.getD i default):=by rw[anR c,aGv]
  have e:(1<=(apa (l.take (i+1))).n/\(apa (l.take (i+1))).n<=216000)/\1<=(apa (l.take (i+1))).d/\(apa (l.take (i+1))).d<=216000:=h2;rw[m]at e;simp only[mulR]at e;have o:bo .i64 ((apa (l.take i)).n*(l.getD i default).a)=(apa (l.take i)).n*(l.getD i default).a:=anI (by omega);have q:bo .i64 ((apa (l.take i)).d*(l.getD i default).b)=(apa (l.take i)).d*(l.getD i default).b:=anI (by omega);simp only[s,t,c,getD_map,aqA,O,J,o,q,u,RN,r,A,H,I];exact anT () c (by rw[m];rfl) trivial
 ·rw[aD]
  have aY2:(1<=(apa l).n/\(apa l).n<=216000)/\1<=(apa l).d/\(apa l).d<=216000:=g;have f:=aGC (apa l).n.natAbs (apa l).d.natAbs (by omega) (by omega) (by omega);rw[show(((apa l).n.natAbs:Nat):Int)=(apa l).n by omega,show(((apa l).d.natAbs:Nat):Int)=(apa l).d by omega]at f;have v:awE (apa l).n.natAbs (apa l).d.natAbs=aod l:=rfl;rw[v,aoa]at f;rw[aoa];simp only[V,J,RN,r,A,I];refine anE f ?_;(try simp only[RN,A,I])
def aYv (l:List Pr)(f:Fr)(turns:Int)(hl:l.length<=3)(j:∀p∈l,p.ok=true)(hf:f.ok=true)(J:0<=turns/\turns<=10000):Pure C 282 [sF (l.map Pr.dv),f.dv,dI turns] (pI (aQe l f turns)) []:=by
 obtain⟨b1,m⟩:=aDH hl (aCX j);have E:(0<=f.n/\f.n<=50000)/\1<=f.d/\f.d<=50000:=by simp only[Fr.ok,inR,Z,decide_eq_true_eq]at hf;omega
 have e:=aLr l hl j;rw[aoa]at e;obtain⟨x,k⟩:∃x,x=aod l:=⟨_,rfl⟩
 rw[<-k]at e b1 m;have K:0<=x.n*f.d/\x.n*f.d<=216000*50000:=⟨aq (by omega) (by omega),Y (by omega) (by omega) (by omega) (by omega)⟩
 have L:0<=f.n*x.d/\f.n*x.d<=50000*216000:=⟨aq (by omega) (by omega),Y (by omega) (by omega) (by omega) (by omega)⟩
 have G:((x.n*f.d - f.n*x.d)*turns).natAbs<=10800000000*10000:=by
  rw[bg];exact aC (by omega) (by omega)
 have H:1<=x.d*f.d/\x.d*f.d<=216000*50000:=by
  have h1:=Y (show 1<=x.d by omega) (show 1<=f.d by omega) (by omega) (by omega);have h2:=Y (show x.d<=216000 by omega) (show f.d<=50000 by omega) (by omega) (by omega);omega
 have o:bo .i64 (x.n*f.d)=x.n*f.d:=anI (by omega);have q:bo .i64 (f.n*x.d)=f.n*x.d:=anI (by omega);have s:bo .i64 (x.n*f.d - f.n*x.d)=x.n*f.d - f.n*x.d:=anI (by omega);have t:bo .i64 ((x.n*f.d - f.n*x.d)*turns)=(x.n*f.d - f.n*x.d)*turns:=anI (by omega);have u:bo .i64 ((x.n*f.d - f.n*x.d)*turns*21600)=(x.n*f.d - f.n*x.d)*turns*21600:=anI (by omega);have v:bo .i64 (x.d*f.d)=x.d*f.d:=anI (by omega);have i:Pure C 306 [sF (l.map Pr.dv), .agg [dI f.n,dI f.d],dI turns] (.d (.tup [dI ((x.n*f.d - f.n*x.d)*turns*21600),dI (x.d*f.d)])) []:=by
  refine am6 aGm aAF ?_;simp only[aGm,aAF,RN,r,A];refine anE e ?_;simp only[o,q,s,t,u,v,RN,r,A,F,I]
 have b:aQe l f turns=((x.n*f.d - f.n*x.d)*turns*21600).tdiv (x.d*f.d):=by
  rw[aQe,ark,<-k];simp only[aKa];rw[bk,bk,Int.mul_comm 21600 turns]
 obtain⟨N,g⟩:∃N,N=(x.n*f.d - f.n*x.d)*turns*21600:=⟨_,rfl⟩
 obtain⟨a,c⟩:∃a,a=x.d*f.d:=⟨_,rfl⟩
 have nb:N.natAbs<=10800000000*10000*21600:=by
  rw[g,bg];exact aC G (by decide)
 rw[<-g,<-c]at i b;rw[<-c]at H;have M:=arO N a;have O:=arO (-N) a;have z:a≠0:=by omega
 have w:bo .i64 (0 - N)= -N:=by rw[anI (by omega)];omega
 have y:bo .i64 ((-N).tdiv a)=(-N).tdiv a:=anI (by omega);have B:bo .i64 (0 - (-N).tdiv a)=N.tdiv a:=by rw[anI (by omega),Int.neg_tdiv];omega
 have D:bo .i64 (N.tdiv a)=N.tdiv a:=anI (by omega);refine am6 aGl atF ?_;rw[aoa];simp only[aGl,atF,RN,r,A,I];refine anE i ?_;(try simp only[RN])
 by_cases h:N<0
 ·simp only[h,w,y,B,z,b,RN,r]
 ·simp only[h,D,z,b,RN,r]
def aCB (p:Pc)(f:p.ok=true){a:Nat}(b:a<=p.links.length):Pure C 235 [p.dv,dI (a:Nat)] (.d (aod (anX p.links a)).dv) []:=by
 have g:=Pc.good f;have c:=aGD p g.lk (by have:=g.l2;omega) b;have e:=aLr (anX p.links a) (by rw[anX,J];exact g.short a b) (asx g.lk g.pr b);refine am6 aEt awU ?_;rw[aot]at c⊢;rw[aoa]at e⊢;simp only[aEt,awU,RN,r,A,I];refine anE c ?_;(try simp only[RN,r,A,B,F,H,I]);refine anE e ?_;(try simp only[RN,A,F,I])
def aA9 (p:Pc)(c:Chg)(hl:p.links.length<=1000)(a:0<=c.link)(h1:c.link.toNat<p.links.length):Pure C 88 [p.dv,c.dv] (.d (p.changed c).dv) []:=by
 refine an9 (anJ azo awU ?_);have b:p.links.map Lk.dv≠[]:=by intro h;simp at h;rw[h]at h1;simp at h1
 simp only[azo,awU,aot,ap9,RN,r,A,F,H,I];refine⟨aOr _,b,by simp,by simp;omega,?_⟩;simp only[aor,aox,a,h1,J,RN,A,I];refine awx rfl rfl (by decide) rfl rfl (by rw[getD_map h1,asA];exact ai 3) ?_;simp only[getD_map h1,asA,setCells,an6,aoq,aoI,aox,RN,A,F,I];simp only[datum,aoi,aoO,Mem.row,Pc.changed,List.map_set,asA];simp
def aHz (p:Pc)(c:Chg)(i:Nat):(((aN (i+1)).filter fun i=>decide (aod (anX p.links (p.hands.getD i default).toNat)≠aod (anX (p.changed c).links (p.hands.getD i default).toNat))).map fun(i:Nat)=>(i:Int))=
  (((aN i).filter fun i=>decide (aod (anX p.links (p.hands.getD i default).toNat)≠aod (anX (p.changed c).links (p.hands.getD i default).toNat))).map fun(i:Nat)=>(i:Int))++if aod (anX p.links (p.hands.getD i default).toNat)≠aod (anX (p.changed c).links (p.hands.getD i default).toNat)then[(i:Int)]else[]:=by
 rw[List.range_succ,List.filter_append,au]
 congr 1
 rw[List.filter_cons,List.filter_nil]
 by_cases h:aod (anX p.links (p.hands.getD i default).toNat)≠aod (anX (p.changed c).links (p.hands.getD i default).toNat)
 ·rw[if_pos (decide_eq_true h),if_pos h];rfl
 ·rw[if_neg (by rw[decide_eq_true_iff];exact h),if_neg h];rfl
def awv (p:Pc)(c:Chg)(n:Nat):List Int:=((aN n).filter fun i=>decide (aod (anX p.links (p.hands.getD i default).toNat)≠aod (anX (p.changed c).links (p.hands.getD i default).toNat))).map fun(i:Nat)=>(i:Int)
def aJH (p:Pc)(c:Chg)(n:Nat):(awv p c n).length<=n:=by
 rw[awv,J];exact aB (List.length_filter_le _ _) (by simp)
def aIZ {C:Ctx}{base:Nat}{M:Mem}{K:PV->Mem->Prop}{KP:DV->Mem->Prop}{d:Int}:anG C base (.awZ true [1,1]) [.d (.agg [dI a,dI b]), .d (.agg [dI c,dI d])] M K KP=K (.d (.bool (!((a==c)&&(b==d))))) M:=by
 simp[anG,aoR]
def aQx (p:Pc)(c:Chg)(t:p.ok=true)(hc:c.pr.ok=true)(E:0<=c.link)(h1:c.link.toNat<p.links.length):Pure C 225 [p.dv,c.dv] (.d (sF ((arM p c).map anF))) []:=by
 have g:=Pc.good t;have K:=atj t hc;have l:=aA9 p c (by have:=g.l2;omega) E h1;have y:=fun{a:Nat} (s:a<=p.links.length)=>aCB p t s
 have e:=fun{a:Nat} (s:a<=(p.changed c).links.length)=>aCB (p.changed c) K s
 have G:(p.changed c).links.length=p.links.length:=by simp[Pc.changed]
 rw[G]at e;obtain⟨q,f⟩:∃q,q=p.changed c:=⟨_,rfl⟩
 have L:q.hands=p.hands:=by rw[f];rfl
 rw[<-f]at l e;rw[aot (p:=q)]at l e;rw[aot]at l y;rw[ap9]at l;have M:∀n,awv p c n=((aN n).filter fun i=>decide (aod (anX p.links (p.hands.getD i default).toNat)≠aod (anX q.links (p.hands.getD i default).toNat))).map fun(i:Nat)=>(i:Int):=fun n=>by rw[f];rfl
 refine an9 (anJ aAu anO ?_);rw[aot,ap9];simp only[aAu,anO,RN,r,A,H,I];refine anE l ?_;(try simp only[RN,r,A,F,I]);refine anL p.hands.length (fun i (v:Nat)=>⟨[(2, .d (.anY [sF (p.links.map Lk.dv),sF (p.hands.map anF)])),(5, .tsl 1 v 0),(6, .d (.anY [sF (q.links.map Lk.dv),sF (q.hands.map anF)])),(7,pI i)],
   ⟨[some [.d (sF (p.links.map Lk.dv)), .d (sF (p.hands.map anF))],some [pI c.link,pI c.pr.a,pI c.pr.b],some [.d (sF (q.links.map Lk.dv)), .d (sF (q.hands.map anF))]],[2,1,0],[some ⟨1,[],0,0⟩,some ⟨1,(awv p c i).map anF,v,0⟩]⟩⟩)
  (fun i _=>True) 0 0 (U _) rfl trivial (fun i v k _=> ?_) (fun v _=> ?_)
 ·obtain⟨u,w,x⟩:=rng k (by have:=g.h2;omega)
  have N:=g.hd _ (getD_mem k);have j:awv p c (i+1)=awv p c i++if aod (anX p.links (p.hands.getD i default).toNat)≠aod (anX q.links (p.hands.getD i default).toNat)then[(i:Int)]else[]:=by rw[f];exact aHz p c i
  have D:=aJH p c i;have r1:=y (a:=(p.hands.getD i default).toNat) (by omega);have r2:=e (a:=(p.hands.getD i default).toNat) (by omega);rw[show(((p.hands.getD i default).toNat:Nat):Int)=p.hands.getD i default by omega,aoa]at r1 r2;generalize aod (anX p.links (p.hands.getD i default).toNat)=u1 at*;generalize aod (anX q.links (p.hands.getD i default).toNat)=u2 at*;simp only[u,w,k,getD_map,anM,O,J,RN,r,A,I];refine anE r1 ?_
  try simp only[u,w,k,getD_map,anM,O,J,RN,r,A,B,F,H,I]
  refine anE r2 ?_;simp only[aIZ]
  by_cases o:u1=u2
  ·have z:((u1.n==u2.n)&&(u1.d==u2.d))=true:=by rw[o];simp
   rw[if_neg (by simp[o]),az]at j;simp only[z,x,RN,r,A];rw[<-j];exact aoD v k rfl trivial (by simp) (by simp) rfl rfl
  ·have z:((u1.n==u2.n)&&(u1.d==u2.d))=false:=by
    rw[Bool.eq_false_iff];intro h;simp only[Z,beq_iff_eq]at h;apply o;cases u1;cases u2;simp only at h;rw[h.1,h.2]
   rw[if_pos o]at j;simp only[z,DV.strip,fits_int,forall_eq,J,x,RN,r,A,F,H,I];refine⟨by simp,by have:=g.h2;omega,?_⟩;refine aoD (v+1) k ?_ trivial (by simp) (by simp) rfl rfl;rw[j,au];rfl
 ·have m:awv p c p.hands.length=arM p c:=rfl
  simp only[V,J,RN,r,A,I];rw[m];simp[datum,Mem.row]
def aND (n:Int):Pure C 145 [dI n] (.d (.bool (inR n 1 400))) []:=by
 refine am6 aCs anN ?_;simp only[aCs,anN,RN,r]
 repeat' first
  |(refine anE (aJs _ _ _) ?_;try simp only[])
  |(refine an7 (by rfl) (fun a=> ?_) (fun a=> ?_)<;>simp only[a,RN,r,A,B,F,H,I])
  |(refine aob (by rfl) (fun a=> ?_) (fun a=> ?_)<;>simp only[a,RN,r,A,B,F,H,I])
 all_goals(first|(simp only[inR, *,BSN];done)|(simp_all[inR];done)|(simp_all[inR];omega))
def aTh (d:Dvd)(i:Nat)(t:Int)(b:1<=d.aoG/\d.aoG<=60)(hi:i<d.cir.length)(hc:1<=d.cir.getD i default/\d.cir.getD i default<=120)(g:1<=t):Pure C 234 [d.dv,dI i,dI t] (.d (.bool (aAS d.aoG (d.cir.getD i default) t))) []:=by
 have a:(0:Int)<=(i:Int):=by omega
 have f:1<=d.aoG*d.cir.getD i default/\d.aoG*d.cir.getD i default<=7200:=by
  have h1:=Y b.2 hc.2 (by omega) (by omega);have h2:=Y b.1 hc.1 (by omega) (by omega);omega
 have c:bo .i64 (d.aoG*d.cir.getD i default)=d.aoG*d.cir.getD i default:=anI (by omega);have e:t≠0:=by omega
 refine am6 aGt atF ?_;simp only[aGt,atF,atm,hi,a,getD_map,O,J,anM,c,e,aAS,RN,r,A,I]
def aIt (d:Dvd)(t:Int)(hd:d.ok=true)(p:1<=t):Pure C 146 [d.dv,dI t] (.d (.tup [(aSt (d.first t)).dv, .bool (d.first t).isSome])) []:=by
 obtain⟨f,v,e⟩:=Dvd.aGe hd;refine am6 aEE azF ?_;have aYX:=fun(i:Nat) (h:i<d.cir.length)=>aTh d i t f h (e _ (getD_mem h)) p
 rw[atm]at aYX⊢;simp only[aEE,azF,RN,r,A];refine anL d.cir.length (fun i (_:Unit)=>⟨[(1,pI t),(2, .d (.anY [dI d.aoG,sF (d.cir.map anF)])),(4, .ptr 1 0),(6,pI i)],⟨[some [pI d.aoG, .d (sF (d.cir.map anF))],some [pI 0,pI 0,pI 0]],[0],[]⟩⟩)
  (fun i _=>d.first t=axc d.aoG t i (d.cir.drop i)) 0 () (U _) rfl rfl (fun i _ b a=> ?_) (fun _ a=> ?_)
 ·obtain⟨m,n,o⟩:=rng b (by omega)
  rw[drop_cons b,axc]at a;have c:=e _ (getD_mem b);have w:1<=d.aoG*d.cir.getD i default/\d.aoG*d.cir.getD i default<=7200:=by
   have h1:=Y f.2 c.2 (by omega) (by omega);have h2:=Y f.1 c.1 (by omega) (by omega);omega
  have j:bo .i64 (d.aoG*d.cir.getD i default)=d.aoG*d.cir.getD i default:=anI (by omega);have b1:((d.aoG*d.cir.getD i default).tdiv t).natAbs<=7200:=by
   have:=arO (d.aoG*d.cir.getD i default) t;omega
  have k:bo .i64 ((d.aoG*d.cir.getD i default).tdiv t)=(d.aoG*d.cir.getD i default).tdiv t:=anI (by omega);have u:(((d.aoG*d.cir.getD i default).tdiv t).tdiv (d.cir.getD i default)).natAbs<=7200:=by
   have:=arO ((d.aoG*d.cir.getD i default).tdiv t) (d.cir.getD i default);omega
  have l:bo .i64 (((d.aoG*d.cir.getD i default).tdiv t).tdiv (d.cir.getD i default))=((d.aoG*d.cir.getD i default).tdiv t).tdiv (d.cir.getD i default):=anI (by omega);have q:t≠0:=by omega
  have s:d.cir.getD i default≠0:=by omega
  simp only[m,J,RN,r,A,I];refine anE (aYX i b) ?_;cases g:aAS d.aoG (d.cir.getD i default) t
  ·rw[g]at a
   simp only[o,RN,r,A];exact anT () b rfl a
  ·rw[g,if_pos rfl]at a
   simp only[n,b,getD_map,anM,O,J,j,k,l,q,s,RN,r,A,F,I];rw[a]
   rfl
 ·rw[X,axc]at a
  simp only[V,J,RN,r,A,F,I];rw[a]
  rfl
def aTa (a b:Int):Pure C 229 [dI a,dI b] (.d (.bool (anP a&&anP b&&decide (a<=b)))) []:=by
 refine am6 aCd anO ?_;simp only[aCd,anO,RN,r,A];refine anE (awr a) ?_;cases h1:anP a
 ·simp only[Q,RN,r]
 (try simp only[RN,r]);refine anE (awr b) ?_;cases h2:anP b
 ·simp only[Q,RN,r]
 (try simp only[RN,r])
def aZL (a b:Pr):(!((a.a==b.a)&&(a.b==b.b)))= !decide (a=b):=by
 cases a;cases b;simp only[Pr.mk.injEq];rw[bd];simp
def aQt (p:Pc)(c:Chg)(hl:p.links.length<=1000)(e:0<=c.link)(h1:c.link.toNat<p.links.length)(hc:c.pr.ok=true):Pure C 308 [p.dv,c.dv] (.d (.bool (!decide ((p.links.getD c.link.toNat default).pr=c.pr)))) []:=by
 have w:bo .i64 ((p.links.length:Int) - 1)=(p.links.length:Int) - 1:=anI (by omega);have a:=aDA c.link 0 ((p.links.length:Int) - 1);rw[aA2 (show 0<=c.link/\c.link<=(p.links.length:Int) - 1 by omega)]at a;have b:=aOI c.pr;rw[hc,aqA]at b;refine am6 aAt anO ?_;rw[aot,ap9];simp only[aAt,anO,J,w,RN,r,A,I];refine anE a ?_;(try simp only[RN,r,A,I]);refine anE b ?_;simp only[e,h1,J,getD_map,asA,aIZ,aZL,RN,r,A,I]
def aWB (a b:Fr):(!((a.n==b.n)&&(a.d==b.d)))= !decide (a=b):=by
 cases a;cases b;simp only[Fr.mk.injEq];rw[bd];simp
def aLp (p q:Pc)(w:p.ok=true)(x:q.ok=true)(hl:q.links.length=p.links.length)(hand:Int)(G:0<=hand)(h1:hand.toNat<p.hands.length)(f:Fr)(hf:f.ok=true):Pure C 284 [p.dv,q.dv,dI hand,f.dv] (.d (.bool (aqw p q hand f))) []:=by
 have g:=Pc.good w;have M:=Pc.good x;have K:0<=f.n/\1<=f.d/\f.n<=50000/\f.d<=50000:=by
  have:(0<=f.n/\f.n<=50000)/\1<=f.d/\f.d<=50000:=by simpa[Fr.ok,inR]using hf
  omega
 have h:=aGC f.n.natAbs f.d.natAbs (by omega) (by omega) (by omega);rw[show((f.n.natAbs:Nat):Int)=f.n by omega,show((f.d.natAbs:Nat):Int)=f.d by omega,aoa]at h;have v:=fun(i:Nat) (l:i<p.hands.length)=>aCB p w (a:=(p.hands.getD i default).toNat) (by have:=g.hd _ (getD_mem l);omega)
 have j:=fun(i:Nat) (l:i<p.hands.length)=>aCB q x (a:=(p.hands.getD i default).toNat) (by have:=g.hd _ (getD_mem l);omega)
 have c:∀i,i<p.hands.length->(((p.hands.getD i default).toNat:Nat):Int)=p.hands.getD i default:=fun i l=>by have:=g.hd _ (getD_mem l);omega
 have o:=j hand.toNat h1;rw[c _ h1,aoa,aot]at o;refine am6 aCe asQ ?_;rw[aot,aot,aoa,aQQ w x hl h1 hf,aNX];simp only[aCe,asQ,G,h1,getD_map,anM,J,RN,r,A,I];refine anE o ?_;(try simp only[RN,r,A,B,F,H,I]);refine anE h ?_;simp only[aIZ,aWB];cases N:decide (aod (anX q.links (p.hands.getD hand.toNat default).toNat)=awE f.n.natAbs f.d.natAbs)
 ·simp only[Q,RN,r,A]
 (try simp only[RN,r,A]);refine anL p.hands.length (fun i (_:Unit)=>⟨[(2,pI hand),(4, .d (.anY [sF (p.links.map Lk.dv),sF (p.hands.map anF)])),(5, .d (.anY [sF (q.links.map Lk.dv),sF (q.hands.map anF)])),(9,pI i)],
   ⟨[some [.d (sF (p.links.map Lk.dv)), .d (sF (p.hands.map anF))],some [.d (sF (q.links.map Lk.dv)), .d (sF (q.hands.map anF))],some [pI f.n,pI f.d]],[2,1,0],[]⟩⟩)
  (fun i _=>((aN p.hands.length).all fun(i:Nat)=>decide ((i:Int)=hand)||decide (aod (anX p.links (p.hands.getD i default).toNat)=aod (anX q.links (p.hands.getD i default).toNat)))=((List.range' i (p.hands.length - i)).all fun(i:Nat)=>decide ((i:Int)=hand)||decide (aod (anX p.links (p.hands.getD i default).toNat)=aod (anX q.links (p.hands.getD i default).toNat)))) 0 () (U _) rfl (by rw[List.range_eq_range',Nat.sub_zero]) (fun i _ e b=> ?_) (fun _ b=> ?_)
 ·obtain⟨y,D,E⟩:=rng e (by have:=g.h2;omega)
  have s:=v i e;have t:=j i e;rw[c _ e,aoa,aot]at s t;obtain⟨k,L⟩:∃k,p.hands.length - i=k+1:=⟨p.hands.length - i - 1,by omega⟩
  rw[L,List.range'_succ,aE]at b;have m:p.hands.length - (i+1)=k:=by omega
  simp only[y,J,RN,r,A,I]
  by_cases u:(i:Int)=hand
  ·have z:((i:Int) !=hand)=false:=by simp[u]
   rw[decide_eq_true u,aX,W]at b;simp only[z,E,RN,r,A];exact anT () e rfl (by rw[m];exact b)
  ·have z:((i:Int) !=hand)=true:=by simp[u]
   rw[decide_eq_false u,aT]at b;simp only[z,D,e,getD_map,anM,O,J,RN,r,A,I];refine anE s ?_
   try simp only[y,D,e,getD_map,anM,O,J,RN,r,A,B,F,H,I]
   refine anE t ?_;simp only[aIZ,aWB];cases hd:decide (aod (anX p.links (p.hands.getD i default).toNat)=aod (anX q.links (p.hands.getD i default).toNat))
   ·rw[hd,Q]at b
    simp only[b,RN,r,A]
   ·rw[hd,W]at b
    simp only[E,RN,r,A];exact anT () e rfl (by rw[m];exact b)
 ·rw[Nat.sub_self]at b
  simp only[V,J,RN,r,A,I];rw[b]
  rfl
def aFy (p:Pc)(link:Nat)(a:Int):∀(k:Nat) (b:Int),auo p link a (k+1) b=auo p link a k b++if(p.links.getD link default).pr=⟨a,b+k⟩then[]else[⟨link,⟨a,b+k⟩⟩]
 |0,b=>by
  simp only[auo,az,aO,aK,aY]
  by_cases h:(p.links.getD link default).pr=⟨a,b⟩
  ·rw[if_pos h,if_pos h.symm]
  ·rw[if_neg h,if_neg fun e=>h e.symm]
 |k+1,b=>by
  rw[auo,aFy p link a k (b+1),auo,ao,show b+1+(k:Int)=b+((k+1:Nat):Int) by omega]
def aFw (p:Pc)(b:Int)(w link:Nat):∀(k:Nat) (a:Int),atu p b w link (k+1) a=atu p b w link k a++auo p link (a+k) w b
 |0,a=>by simp[atu]
 |k+1,a=>by
  rw[atu,aFw p b w link k (a+1),atu,ao,show a+1+(k:Int)=a+((k+1:Nat):Int) by omega]
def aFx (p:Pc)(a:Int)(w:Nat):∀(k link:Nat),apN p a w (k+1) link=apN p a w k link++atu p a w (link+k) w a
 |0,link=>by simp[apN]
 |k+1,link=>by
  rw[apN,aFx p a w k (link+1),apN,ao,show link+1+k=link+(k+1) by omega]
def aC8 (p:Pc)(link:Nat)(a:Int):∀(k:Nat) (b:Int),(auo p link a k b).length<=k
 |0,_=>ai _
 |k+1,b=>by
  have:=aC8 p link a k (b+1);rw[auo,ab]
  split<;>simp<;>omega
def aC4 (p:Pc)(b:Int)(w link:Nat):∀(k:Nat) (a:Int),(atu p b w link k a).length<=k*w
 |0,_=>U _
 |k+1,a=>by
  have:=aC4 p b w link k (a+1);have:=aC8 p link a w b;rw[atu,ab,bn];omega
def aC6 (p:Pc)(a:Int)(w:Nat):∀(k link:Nat),(apN p a w k link).length<=k*(w*w)
 |0,_=>U _
 |k+1,link=>by
  have:=aC6 p a w k (link+1);have:=aC4 p a w link w a;rw[apN,ab,bn];omega
def aAO (p:Pc):List (Option (List PV)):=[some [.d (sF (p.links.map Lk.dv)), .d (sF (p.hands.map anF))]]
def axM (L:List Chg)(v:Nat):List (Option Arr):=[some ⟨3,[],0,0⟩,some ⟨3,L.map Chg.dv,v,0⟩]
def aS3 (p:Pc)(M:p.ok=true)(c e:Int)(hl:anP c=true)(L:anP e=true)(K:c<=e)(X:e - c<=10):Pure C 285 [p.dv,dI 0,dI c,dI e] (.d (sF ((apN p c (e - c+1).toNat p.links.length 0).map Chg.dv))) []:=by
 have g:=Pc.good M;have u:4<=c/\c<=60:=by simpa[anP,inR]using hl
 have aZg:4<=e/\e<=60:=by simpa[anP,inR]using L
 obtain⟨w,o⟩:∃w:Nat,e - c+1=w:=⟨(e - c+1).toNat,by omega⟩
 have aYa:w<=11:=by omega
 rw[o,O];have t:=fun(i:Nat) (a b:Int) (n:i<p.links.length) (T:4<=a/\a<=60) (W:4<=b/\b<=60)=>aQt p ⟨i,⟨a,b⟩⟩ (by have:=g.l2;omega) (by simp only;omega) (by simpa using n) (by simp[Pr.ok,anP,inR];omega)
 simp only[aot,ap9,O]at t;refine an9 (anJ aCf asQ ?_);rw[aot];simp only[aCf,asQ,RN,r,A,H];have h:∀i,i<=p.links.length->(apN p c w i 0).length<=605:=fun i n=>aB (aC6 p c w i 0) (aB (aC (aB n g.l2) (aC aYa aYa)) (by decide))
 refine anL p.links.length (fun i (v:Nat)=>⟨[(2,pI c),(3,pI e),(4, .d (.anY [sF (p.links.map Lk.dv),sF (p.hands.map anF)])),(9, .tsl 1 v 0),(10,pI i)],⟨aAO p,[0],axM (apN p c w i 0) v⟩⟩)
  (fun i _=>True) 0 0 (U _) rfl trivial (fun i v l _=> ?_) (fun v _=> ?_)
 ·obtain⟨D,P,E⟩:=rng l (by have:=g.l2;omega)
  simp only[D,J,RN,r,A,I];refine anL w (fun k (v:Nat)=>⟨[(2,pI c),(3,pI e),(4, .d (.anY [sF (p.links.map Lk.dv),sF (p.hands.map anF)])),(9, .tsl 1 v 0),(10,pI i),(11,pI (c+k))],⟨aAO p,[0],axM (apN p c w i 0++atu p c w i k c) v⟩⟩)
   (fun i _=>True) 0 v (U _) (by rw[aK,aY,atu,az]) trivial (fun k v N _=> ?_) (fun v _=> ?_)
  ·have q:c+(k:Int)<=e:=by omega
   have k6:bo .i64 (c+(k:Int)+1)=c+((k+1:Nat):Int):=by rw[anI (by omega)];omega
   simp only[q,RN,r];refine anL w (fun m (v:Nat)=>⟨[(2,pI c),(3,pI e),(4, .d (.anY [sF (p.links.map Lk.dv),sF (p.hands.map anF)])),(9, .tsl 1 v 0),(10,pI i),(11,pI (c+k)),(12,pI (c+m))],⟨aAO p,[0],axM (apN p c w i 0++atu p c w i k c++auo p i (c+k) m c) v⟩⟩)
    (fun i _=>True) 0 v (U _) (by rw[aK,aY,auo,az]) trivial (fun m v x _=> ?_) (fun v _=> ?_)
   ·have s:c+(m:Int)<=e:=by omega
    have B:bo .i64 (c+(m:Int)+1)=c+((m+1:Nat):Int):=by rw[anI (by omega)];omega
    have G:=t i (c+k) (c+m) l (by omega) (by omega);have f:=aFy p i (c+k) m c;have S:(apN p c w i 0++atu p c w i k c++auo p i (c+k) m c).length<=1000:=by
     have h1:=h i (by omega);have h2:=aC4 p c w i k c;have Q:=aC8 p i (c+k) m c;have R:k*w<=11*11:=aC (by omega) aYa;simp only[ab];omega
    simp only[s,aAO,axM,RN,r,A,F,I];refine anE G ?_
    by_cases j:(p.links.getD i default).pr=⟨c+k,c+m⟩
    ·have z:(!decide ((p.links.getD i default).pr=⟨c+k,c+m⟩))=false:=by rw[decide_eq_true j];rfl
     rw[if_pos j,az]at f;simp only[z,B,RN,r,A];refine ao7 1 2 v x (by rw[f];rfl) trivial (by simp) (by simp) rfl rfl
    ·have z:(!decide ((p.links.getD i default).pr=⟨c+k,c+m⟩))=true:=by rw[decide_eq_false j];rfl
     rw[if_neg j]at f;simp only[z,B,DV.strip,J,RN,r,A,F,H,I];refine⟨by rintro y rfl;rfl,by simp,by omega,?_⟩;refine ao7 1 2 (v+1) x ?_ trivial (by simp) (by simp) rfl rfl;simp only[f,<-ao,au (l₂:=[_])]
     rfl
   ·have s:¬c+(w:Int)<=e:=by omega
    have f:=aFw p c w i k c;simp only[s,k6,RN,r];refine aoD v N (by rw[f,ao];rfl) trivial (by simp[aAO]) (by simp[axM]) rfl rfl
  ·have q:¬c+(w:Int)<=e:=by omega
   have f:=aFx p c w i 0;rw[Nat.zero_add]at f;simp only[q,E,RN,r];refine aoD v l (by rw[f];rfl) trivial (by simp[aAO]) (by simp[axM]) rfl rfl
 ·simp only[V,J,aAO,axM,RN,r,A,I]
  simp[datum,Mem.row]
def aMB (xs:List En):∀y∈xs.map En.dv,y.cells.length=2:=by
 intro y a;obtain⟨z,_,rfl⟩:=ax.1 a;rw[aon];rfl
def aFc (xs:List Int):∀y∈xs.map anF,y.cells.length=1:=by
 intro y a;obtain⟨z,_,rfl⟩:=ax.1 a
 rfl
def aJp (s:Su)(hh:s.pc.hands.length<=1000)(n:Int):Pure C 135 [s.dv,dI n] (.d (.bool (inR n 0 ((s.pc.hands.length:Int) - 1)))) []:=by
 have a:bo .i64 ((s.pc.hands.length:Int) - 1)=(s.pc.hands.length:Int) - 1:=anI (by omega);refine am6 aEz anO ?_;rw[aoB];simp only[aEz,anO,J,a,RN,r,A,I];refine anE (aLx _ _ _) ?_;(try simp only[])
def aJq (s:Su)(hs:s.ok=true):Pure C 141 [s.dv] (.d (dI (asl (s.cal.leap s.year)))) []:=by
 obtain⟨_,_,_,_,a,_⟩:=Su.facts hs;obtain⟨c,e,b⟩:=Cal.facts a;have h:=aOC s.cal s.year (by omega) (fun n h=>by have:=b n h;omega);refine am6 aEu anN ?_;rw[aoJ]at h;rw[aoB];simp only[aEu,anN,RN,r,A,I];refine anE h ?_;(try simp only[])
def aLl (s:Su)(hs:s.ok=true)(n:Int):Pure C 139 [s.dv,dI n] (.d (.bool (inR n 1 (asl (s.cal.leap s.year))))) []:=by
 have h:=aJq s hs;refine am6 aGr anO ?_;rw[aoB]at h⊢;simp only[aGr,anO,RN,r,A,I];refine anE h ?_;(try simp only[RN,r,A,B,F,H,I]);refine anE (aLx _ _ _) ?_;(try simp only[])
def aLs (s:Su)(hs:s.ok=true)(n:Int)(D:1<=n/\n<=1000):Pure C 142 [s.dv,dI n] (.d (.bool (s.works (s.first+n - 1)))) []:=by
 obtain⟨_,_,_,_,g,y,x,B,_⟩:=Su.facts hs;obtain⟨e,h⟩:=atQ x;obtain⟨c,_,_⟩:=Cal.facts g;have h1:=aGA s.cal g s.year.toNat (by omega);rw[show((s.year.toNat:Nat):Int)=s.year by omega]at h1;have h2:=aJo s.cal s.apM s.fs s.year g y B e h;have v:=s.cal.ap5 s.year.toNat;have j:s.first=s.cal.first s.year.toNat:=rfl;have b:s.dates=s.fs.map (aqT s.cal s.apM s.year):=rfl;rw[<-j]at h1 v;rw[<-b]at h2;have p:bo .i64 (s.first+n)=s.first+n:=anI (by omega);have l:bo .i64 (s.first+n - 1)=s.first+n - 1:=anI (by omega);have m:=aGE (s.first+n - 1) (by omega);obtain⟨N,o⟩:∃N,N=s.first+n - 1:=⟨_,rfl⟩
 rw[<-o]at l m;refine am6 aCn anO ?_;rw[aoJ]at h1;rw[aoJ,apz]at h2;rw[aoB];simp only[aCn,anO,RN,r,A,I];refine anE h1 ?_;simp only[p,<-o,l,RN];refine anE h2 ?_;simp only[];have w:s.dates.length<=6:=by rw[b,J];exact e
 refine anL s.dates.length (fun i (_:Unit)=>⟨[(5,pI N),(6, .d (sF (s.dates.map anF))),(7,pI i)],⟨[some (s.cs.map .d)],[0],[]⟩⟩)
  (fun i _=>s.dates.contains N=(s.dates.drop i).contains N) 0 () (U _) rfl rfl (fun i _ f a=> ?_) (fun _ a=> ?_)
 ·obtain⟨q,t,u⟩:=rng f (by omega)
  rw[drop_cons f,List.contains_cons]at a;simp only[q,t,f,getD_map,anM,O,J,RN,r,I]
  by_cases c:s.dates.getD i default=N
  ·have z:(s.dates.getD i default==N)=true:=by rw[c];exact beq_self_eq_true _
   have k:(N==s.dates.getD i default)=true:=by rw[c];exact beq_self_eq_true _
   rw[k,aX]at a;simp only[z,RN,r];simp only[Su.works,a,bi,aj]
  ·have z:(s.dates.getD i default==N)=false:=beq_false_of_ne c
   have k:(N==s.dates.getD i default)=false:=beq_false_of_ne (Ne.symm c);rw[k,aT]at a;simp only[z,u,RN,r];exact anT () f rfl a
 ·rw[X]at a
  simp only[V,J,RN,r];refine anE m ?_;(try simp only[RN]);have:s.dates.contains N=false:=by rw[a];rfl
  simp only[Su.works,this,bf,aS,wd]
def aS9 (x:En)(h:3<=x.ns.length):Pure C 223 [x.dv] (.d (.agg [dI (x.n 1),dI (x.n 2)])) []:=by
 have a:(0:Int)<=1:=by omega
 have l1:1<x.ns.length:=by omega
 have b:(0:Int)<=2:=by omega
 have l2:2<x.ns.length:=by omega
 refine am6 aED aEN ?_;rw[aon];simp only[aED,aEN,a,t1,l1,b,t2,l2,J,getD_map,anM,RN,r,A,F,I]
 rfl
def avM (s:Su)(l:List En):(aog s l).links.length=s.pc.links.length/\(aog s l).hands=s.pc.hands:=by
 induction l using ate with
 |h0=>exact⟨rfl,rfl⟩
 |h1 l x a=>
  rw[aqE,atV]
  split
  ·exact⟨by simp[Pc.changed,a.1],a.2⟩
  ·exact a
variable{s:Su}
def axD (hs:s.ok=true)(l:List En)(hl:∀x∈l,x.Fit s):(aog s l).ok=true:=by
 induction l using ate with
 |h0=>exact(Su.facts hs).1
 |h1 l x a=>
  rw[aqE,atV];have a:=a fun y b=>hl y (by simp[b])
  split
  ·rename_i k
   have hd:=(hl x (by simp)).df;rw[En.deed2 k]at hd;exact atj a hd.2
  ·exact a
variable{x:En}
def auU (h:x.Fit s):x.ns.length=apG x.kind:=by
 have:=h.fm;simp only[En.formed,Z,decide_eq_true_eq]at this;exact this.1.2
def aBB (h:x.Fit s)(k:x.kind=2):(0<=x.n 0/\(x.n 0).toNat<s.pc.links.length)/\x.chg.pr.ok=true:=by
 have hd:=h.df;rw[En.deed2 k]at hd;obtain⟨h1,h2⟩:=hd;have h1:inR (x.n 0) 0 ((s.pc.links.length:Int) - 1)=true:=h1;simp only[inR,Z,decide_eq_true_eq]at h1;exact⟨by omega,h2⟩
def auP (s:Su)(hs:s.ok=true)(l:List En)(hl:∀x∈l,x.Fit s)(o:l.length<=1000):Pure C 137 [s.dv,sF (l.map En.dv)] (.d (aog s l).dv) []:=by
 have p:=(Pc.good (Su.facts hs).1).l2;have b:=fun i (x:En) (f:x.Fit s) (k:x.kind=2)=>aA9 (aog s (l.take i)) x.chg (by rw[(avM _ _).1];omega) (aBB f k).1.1 (by rw[(avM _ _).1];exact(aBB f k).1.2)
 simp only[aot,ap9]at b;refine am6 aCh awU ?_;rw[aoB];simp only[aCh,awU,RN,r,A,F,I];refine anL l.length (fun i (_:Unit)=>⟨[(1, .d (sF (l.map En.dv))),(4, .ptr 1 0),(5, .ptr 2 0),(6,pI i)],
   ⟨[some (s.cs.map .d),some [.d (.slice true []), .d (.slice true [])],some [.d (sF ((aog s (l.take i)).links.map Lk.dv)), .d (sF ((aog s (l.take i)).hands.map anF))]],[0],[]⟩⟩)
  (fun i _=>True) 0 () (U _) rfl trivial (fun i _ a _=> ?_) (fun _ _=> ?_)
 ·obtain⟨m,g,h⟩:=rng a (by omega)
  have f:=hl _ (getD_mem a);have c:=auU f;have e:aog s (l.take (i+1))=atV (aog s (l.take i)) (l.getD i default):=by rw[anR a,aqE]
  simp only[m,g,a,getD_map,aon,O,J,RN,r,A,I]
  by_cases k:(l.getD i default).kind=2
  ·have z:((l.getD i default).kind==2)=true:=beq_iff_eq.2 k
   have t:(l.getD i default).ns.length=3:=by rw[c,k];rfl
   have j:=aS9 (l.getD i default) (by omega);have n:=b i _ f k;rw[aon]at j;have q:0<(l.getD i default).ns.length:=by omega
   simp only[z,g,a,getD_map,aon,O,J,j0,t0,q,anM,RN,r,A,H,I];refine anE j ?_;(try simp only[RN,r,A,I]);refine anE n ?_;simp only[h,RN,A,F,I];exact anT () a (by rw[e,atV,if_pos k]) trivial
  ·have z:((l.getD i default).kind==2)=false:=beq_false_of_ne k
   simp only[z,h,RN,r,A];exact anT () a (by rw[e,atV,if_neg k]) trivial
 ·simp only[V,J,RN,r,A,F,I]
  rw[aD,aot]
def azy (l:List Int)(n:Int):(auO l n).length=l.length+1:=by rw[(atE l n).length_eq];rfl
def aOB (n:Int):∀(l:List Int) (i:Nat),i<=l.length->(∀j,j<i->l.getD j default<=n)->auO l n=l.take i++auO (l.drop i) n
 |l,0,_,_=>by simp
 | [],i+1,h,_=>by simp at h
 |x::l,i+1,h,b=>by
  have a:=b 0 (by omega);simp only[aF]at a;rw[auO,if_pos a,aG,List.drop_succ_cons,a6,aOB n l i (by simpa using h) fun j c=>by
   have:=b (j+1) (by omega)
   rwa [ay]at this]
def azA (l:List Int)(n:Int)(u:l.length<=1000):Pure C 280 [sF (l.map anF),dI n] (.d (sF ((auO l n).map anF))) []:=by
 refine an9 (anJ aGs anO ?_);simp only[aGs,anO,RN,r,A,H];refine apW (fun i:Nat=>⟨[(0, .d (sF (l.map anF))),(1,pI n),(5, .tsl 1 i 0),(6,pI i)],⟨[],[],[some ⟨1,[],0,0⟩,some ⟨1,(l.take i).map anF,i,0⟩]⟩⟩)
  (fun i=>i<=l.length/\∀j,j<i->l.getD j default<=n) (fun i=>l.length - i) 0 rfl ⟨U _,fun j h=>by omega⟩ ?_
 rintro i ⟨t,o⟩;have g:=aOB n l i t o;have f:(i=l.length\/(∃h:i<l.length,¬l.getD i default<=n))->(l.take i).map anF++(dI n::(l.drop i).map anF)=(auO l n).map anF:=by
  intro h;rw[g]
  rcases h with rfl|⟨h,v⟩
  ·simp[auO,anF]
  ·rw[drop_cons h,auO,if_neg v];simp[anF]
 have p:(0:Int)<=(i:Int):=by omega
 have q:(i:Int)<=((l.map anF).length:Int):=by rw[J];omega
 have c:(i=l.length\/(∃h:i<l.length,¬l.getD i default<=n))->datum ⟨[],[],[some ⟨1,[],0,0⟩,some ⟨1,(l.take i).map anF++ [dI n]++(l.drop i).map anF,i+1+1,0⟩]⟩ (.tsl 1 (i+1+1) 0)=some (sF ((auO l n).map anF)):=by
  intro h;rw[<-f h];simp[datum,Mem.row]
 by_cases a:i<l.length
 ·obtain⟨k,m,s⟩:=rng a (by omega)
  by_cases b:l.getD i default<=n
  ·simp only[k,m,a,getD_map,anM,O,J,b,ao8,DV.strip,fits_int,forall_eq,RN,r,F,H,I]
   refine⟨by simp,by simp;omega,?_⟩;simp only[s];refine aC0 (i+1) (by omega) ?_ ⟨by omega,fun j h=> ?_⟩ (by simp) (by simp) rfl rfl
   ·rw[anR a,au];rfl
   ·by_cases e:j=i
    ·rw[e];exact b
    ·exact o j (by omega)
  ·simp only[k,m,a,getD_map,anM,O,J,b,ao8,DV.strip,fits_int,forall_eq,RN,r,F,H,I]
   refine⟨by simp,by simp;omega,?_⟩;rw[axU (aFc l) p q,<-aU,O];simp only[J,RN,F,H];refine⟨ay6 _,by simp,by simp;omega,?_⟩;exact c (.inr ⟨a,b⟩)
 ·have w:¬(i:Int)<(l.length:Int):=by omega
  simp only[w,J,ao8,DV.strip,fits_int,forall_eq,RN,r,F,H,I];refine⟨by simp,by simp;omega,?_⟩;rw[axU (aFc l) p q,<-aU,O];simp only[J,RN,F,H];refine⟨ay6 _,by simp,by simp;omega,?_⟩;exact c (.inl (by omega))
def aG9 (n:Int):∀(l:List Int) (i:Nat),i<=l.length->(∀j,j<i->l.getD j default≠n)->(n∈l↔n∈l.drop i)/\(∀_:i<l.length,l.getD i default=n->l.erase n=l.take i++l.drop (i+1))
 |l,0,_,_=>⟨by simp,fun h e=>by
  cases l with
  |nil=>simp at h
  |cons x l=>simp only[aF]at e;subst e;simp⟩
 | [],i+1,h,_=>by simp at h
 |x::l,i+1,h,b=>by
  have a:=b 0 (by omega);simp only[aF]at a;obtain⟨f,g⟩:=aG9 n l i (by simpa using h) fun j d=>by
   have:=b (j+1) (by omega)
   rwa [ay]at this
  refine⟨by simp[Ne.symm a,f],fun h1 e=> ?_⟩;rw[ay]at e;have c:¬(x==n)=true:=by simp[a]
  rw[List.erase_cons_tail c,g (by simpa using h1) e];simp
def aCC (l:List Int)(n:Int)(p:l.length<=1000):Pure C 281 [sF (l.map anF),dI n] (.d (.tup [sF ((apb l n).1.map anF), .bool (apb l n).2])) []:=by
 refine an9 (anJ aCm aoj ?_);simp only[aCm,aoj,RN,r,A,H];refine anL l.length (fun i (_:Unit)=>⟨[(0, .d (sF (l.map anF))),(1,pI n),(6,pI i)],⟨[],[],[some ⟨1,[],0,0⟩]⟩⟩)
  (fun i _=>∀j,j<i->l.getD j default≠n) 0 () (U _) rfl (fun j h=>by omega) (fun i _ b a=> ?_) (fun _ a=> ?_)
 ·obtain⟨m,o,k⟩:=rng b (by omega)
  obtain⟨t1,t2⟩:=aG9 n l i (by omega) a;simp only[m,o,b,getD_map,anM,O,J,RN,r,I]
  by_cases c:l.getD i default=n
  ·have z:(l.getD i default==n)=true:=by rw[c];exact beq_self_eq_true _
   have q:(0:Int)<=(i:Int):=by omega
   have s:(i:Int)<=((l.map anF).length:Int):=by rw[J];omega
   have t:(0:Int)<=((i+1:Nat):Int):=by omega
   have u:((i+1:Nat):Int)<=((l.map anF).length:Int):=by rw[J];omega
   have f:n∈l:=by rw[<-c];exact getD_mem b
   have g:apb l n=(l.take i++l.drop (i+1),true):=by rw[apb,if_pos f,t2 b c]
   simp only[z,RN,r];rw[auG (aFc l) q s,<-List.map_take,O];simp only[J,RN,H];refine⟨ay6 _,by simp,by simp,by simp;omega,?_⟩;simp only[k];rw[axU (aFc l) t u,<-aU,O];simp only[J,RN,F,H];refine⟨ay6 _,by simp,by simp;omega,?_⟩;rw[g];simp[datum,aoi,aoO,Mem.row,aN0,apx]
  ·have z:(l.getD i default==n)=false:=beq_false_of_ne c
   simp only[z,k,RN,r];refine anT () b rfl fun j v=> ?_
   by_cases e:j=i
   ·rw[e];exact c
   ·exact a j (by omega)
 ·obtain⟨t1,_⟩:=aG9 n l l.length (ai _) a
  rw[X]at t1;have f:n∉l:=fun e=>by simpa using t1.1 e
  have g:apb l n=(l,false):=by rw[apb,if_neg f]
  simp only[V,J,RN,r];rw[g];rfl
end Go.Tel
