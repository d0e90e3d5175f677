/-
  Part 8 of a law of desks.
  Conditions: none.
-/
import Derived.Test.YtkbhljmmnbgloaaGreatDoorTopIdleM04
import Derived.Test.YtkbhljmmnbgloaaGreatDoorTopIdleM05
import Derived.Test.YtkbhljmmnbgloaaGreatDoorTopIdleM07
set_option linter.all false
set_option maxRecDepth 10000
set_option maxHeartbeats 4000000
open Nat renaming reduceBEq->H,reduceAdd->O,reduceSub->U,reduceEqDiff->V,reduceLT->qE,reduceLeDiff->qF,zero_le->ap,gcd->aR,zero_add->br,mul_le_mul->bN,reduceMul->bX,pow_le_pow_right->b5,le_trans->cb,zero_mul->ce,one_mul->cl,gcd_pos_of_pos_right->cm,le_mul_of_pos_right->cp,gcd_comm->cq,Coprime->cB,dvd_mul_left->cS,one_le_pow->c8,sub_self->dd,le_refl->df,mod_lt->dg
open List renaming length_map->ab,not_mem_nil->ai,replicate->am,getD_eq_getElem?_getD->ao,drop_length->aw,length_append->ax,map_cons->aD,length_singleton->aE,getElem?_eq_getElem->aL,getElem?_eq_some_iff->a7,length_replicate->a8,length_cons->bc,mem_singleton->be,length_nil->bi,mem_append->bj,map_take->bk,contains_cons->bo,map_nil->bq,nil_append->bz,getElem?_replicate->bE,drop_eq_nil_of_le->bL,contains_iff_mem->bO,mem_cons->bS,append_nil->b6,length_set->b7,mem_map->ca,drop_zero->cg,getElem?_append_left->ch,mem_take_iff_getElem->cj,all_eq_true->cn,map_append->cr,countP_replicate->ct,findSome?_cons->cD,all_cons->cG,findSome?_nil->cJ,ext_getElem?->cL,flatMap_cons->cM,getElem?_set->cN,flatMap_nil->cQ,getElem_mem->cR,foldl_cons->cV,foldl_nil->c6,take_zero->c7,all_nil->dc
open Int renaming toNat_natCast->ae,lt_irrefl->av,eq_of_mul_eq_mul_right->a6,natAbs_mul->bl,toNat_zero->bt,reduceToNat->bw,eq_ofNat_of_zero_le->bB,toNat_one->bR,reduceLE->b8,reduceLT->b9,le_refl->ck,mul_le_mul->cz,mul_tdiv_cancel'->cA,toNat->cC,natAbs_natCast->cH,ofNat_dvd_left->cI,mul_ne_zero->cU,natAbs->cX,natAbs_neg->cY,fdiv->de
open Bool renaming and_eq_true->aq,false_eq_true->az,or_eq_true->aM,true_and->bh,eq_iff_iff->bv,false_and->cf,not_false->cv,or_eq_false_iff->cw,and_self->cE,false_or->cF,not_eq_true'->cK,not_eq_true->cP,decide_and->cT,and_false->cW,and_true->c9,or_false->db
open Option renaming map_none->bp,map_some->bA
open Classical renaming byContradiction->bu
open Go.IntKind renaming wrap->di
namespace Go.Tel
open Go.Am
def vS:Su:=⟨⟨[⟨0,⟨10,20⟩⟩,⟨1,⟨12,18⟩⟩,⟨1,⟨15,10⟩⟩],[2,3]⟩,[⟨1,3⟩,⟨1499,2000⟩],100,⟨40,[15,21,27]⟩,⟨0,[4]⟩,⟨59,2,0⟩,[⟨true,0,0,0⟩,⟨false,1,6,0⟩],1,3,6,4,10⟩
def SL:ByteArray:=⟨#[104,97,110,100,115,10,99,117,116,115,32,51,54,10,119,111,114,107,115,32,57,10]⟩
def Hw:ByteArray:=⟨#[49,32,51,32,51,32,52,10,50,32,49,32,51,10,49,48,10]⟩
def Gy {D b:Dk}{l a out:ByteArray}{ls:List ByteArray}{r:Option (Dk×ByteArray)}(h:D.said (vJ l)=some (b,a))(c:yR b ls (out++(a++nlB))=r):yR D (l::ls) out=r:=by
 rw[yR,h];exact c
def lsK:List ByteArray:=[⟨#[104,97,110,100,115,10]⟩,⟨#[99,117,116,115,32,51,54,10]⟩,⟨#[119,111,114,107,115,32,57,10]⟩]
def agn:iQ SL=lsK:=by kernel_rfl
def kd0:Dk:=⟨vS,[],[]⟩
def k_1:kd0.said (vJ (lsK.getD 0 default))=some (kd0,⟨#[49,32,51,32,51,32,52]⟩):=by kernel_rfl
def k_2:kd0.said (vJ (lsK.getD 1 default))=some (kd0,⟨#[50,32,49,32,51]⟩):=by kernel_rfl
def k_3:kd0.said (vJ (lsK.getD 2 default))=some (kd0,⟨#[49,48]⟩):=by kernel_rfl
def ako:yR ⟨vS,[],[]⟩ (iQ SL) ⟨#[]⟩=some (kd0,Hw):=by
 rw[agn];refine Gy k_1 ?_;refine Gy k_2 ?_;refine Gy k_3 ?_
 kernel_rfl
def GZ {base sz:Nat}{zs:List DV}{is:List Nat}{args:List PV}{ds xs:List DV}{M:Mem}{K:PV->Mem->Prop}{KP:DV->Mem->Prop}(h1:cZ M args=some ds)(h2:qy sz zs is (ds.map DV.strip)=some xs)(a:M.frz args=M)(b:K (.d (.slice true xs)) M):ak C base (.dA sz zs is) args M K KP:=by
 simp only[ak,h1,h2,a];exact b
def Yi (a b:Int):Pure C 160 [dI a,dI b] (.d (.agg [dI a,dI b])) []:=by
 refine ah KU Ll ?_;simp only[KU,Ll,lJ,RN,H,O,U,V,qE,qF]
def P_k:Pure C 87 [] (.d (.agg [.slice true (vS.pc.links.map Lk.dv), .slice true (vS.pc.hands.map ay)])) []:=by
 refine ah Vz JW ?_;simp only[Vz,JW,lJ,RN,H,O,U,V,qE,qF];refine au (Yi 10 20) ?_;(try simp only[RN,H,O,U,V,qE,qF]);refine au (Yi 12 18) ?_;(try simp only[RN,H,O,U,V,qE,qF]);refine au (Yi 15 10) ?_;(try simp only[RN,H,O,U,V,qE,qF]);refine GZ rfl rfl rfl ?_;(try simp only[RN,H,O,U,V,qE,qF]);refine GZ rfl rfl rfl ?_;simp only[lJ,RN,H,O,U,V,qE,qF]
 rfl
def O_k:Pure C 89 [] (.d (.agg [dI 0, .slice true [dI 4]])) []:=by
 refine ah Vy JW ?_;simp only[Vy,JW,lJ,RN,H,O,U,V,qE,qF];exact⟨rfl,rfl⟩
def M_k:Pure C 90 [] (.d (.agg [dI 59,dI 2,dI 0])) []:=by
 refine ah Vx aez ?_;simp only[Vx,aez,lJ,RN,H,O,U,V,qE,qF]
def D_k:Pure C 88 [] (.d (.agg [dI 40, .slice true [dI 15,dI 21,dI 27]])) []:=by
 refine ah VA JW ?_;simp only[VA,JW,RN,H,O,U,V,qE,qF];refine GZ rfl rfl rfl ?_;simp only[lJ,RN,H,O,U,V,qE,qF]
 rfl
def ag4:DV:= .agg [.slice true (vS.pc.links.map Lk.dv), .slice true (vS.pc.hands.map ay), .slice true (vS.tg.map Fr.dv),dI 100,dI 40, .slice true (vS.dvd.cir.map ay),dI 0, .slice true (vS.cal.cy.map ay),dI 59,dI 2,dI 0, .slice true (vS.fs.map Fs.dv),dI 1,dI 3,dI 6,dI 4,dI 10]
def afl:Pure C 34 [] (.d ag4) []:=by
 refine ah IL aey ?_;simp only[IL,aey,RN,H,O,U,V,qE,qF];refine au P_k ?_;(try simp only[RN,H,O,U,V,qE,qF]);refine GZ rfl rfl rfl ?_;(try simp only[RN,H,O,U,V,qE,qF]);refine au D_k ?_;(try simp only[RN,H,O,U,V,qE,qF]);refine au O_k ?_;(try simp only[RN,H,O,U,V,qE,qF]);refine au M_k ?_;(try simp only[RN,H,O,U,V,qE,qF]);refine GZ rfl rfl rfl ?_;simp only[lJ,RN,H,O,U,V,qE,qF]
 rfl
def Tf:vS.Small:=⟨by decide,by decide,by decide,by decide,by decide⟩
def FX:aA:=(sr [mi 4 0,mi 5 0] 0 [0,1] (.scope (sw (sr [mv 9 0,mv 10 1,ob 11 (.aj 81) 9 10,oa 12 pN 11] 0 [0,1,12] (cd 12 (sr [mi 4 0,mi 5 2] 0 [4,5] .ret) .skip)) (sw (.label 0) (sw (sr [mv 13 0,oa 14 .len 13,mi 15 0] 0 [0,1,14,15] (.block 0 (.loop (sr [ob 16 pL 15 14] 0 [0,1,14,15,16] (sw (cx 16 0) (sw (.block 1 (sr [mv 17 15,mv 6 17] 0 [0,1,6,14,15] (sw (sr [mv 18 0,oa 19 .len 18,mi 20 0] 0 [0,1,6,14,15,18,19,20] (.block 2 (.loop (sr [ob 21 pL 20 19] 0 [0,1,6,14,15,18,19,20,21] (sw (cx 21 2) (sw (.block 3 (sr [mv 22 20,ix 23 1 18 20,lo 24 23,mv 7 22,mv 8 24] 0 [0,1,6,7,8,14,15,18,19,20] (sr [mv 25 8,mv 26 1,mv 27 7,mv 28 6,ob 29 pA 27 28,mv 30 1,oa 31 .len 30,ob 32 (.bin .rem) 29 31,ix 33 1 26 32,lo 34 33,ob 35 pQ 25 34] 0 [0,1,6,14,15,18,19,20,35] (cd 35 (.exit 1) .skip)))) (rg [oi 36 pA 20 1,mv 20 36] 0 [0,1,6,14,15,18,19,20]))))))) (sr [mv 37 6,mv 4 37,mi 5 0] 0 [4,5] .ret)))) (rg [oi 38 pA 15 1,mv 15 38] 0 [0,1,14,15]))))))) (sr [mi 4 0,mi 5 5] 0 [4,5] .ret))))))
def D5:aA:=(sr [mf 4 false] 0 [0,1] (sr [mv 5 0,oa 6 (.aj 146) 5,mv 7 6,ov 8 .mov 1 7 0,ov 9 (.aj 146) 8 7 0,pf 10 7 9,mv 11 10,ov 12 .mov 0 11 0,ov 13 .len 12 11 0,ov 14 .mov 1 11 0,ov 15 .len 14 11 0,obT 16 pE 13 15 11 0,pf 17 11 16,mv 4 17] 0 [4] .ret))
def II:aA:=(sr [mf 2 false] 0 [0] (sr [mv 3 0,oa 4 .len 3,on 5 (.aj 203) [.t 4,kI 3,kI 24],mv 6 5,ov 7 .mov 0 6 0,ot 8 (.aj 127) [.t 7,.c (.func (.func 204) [] [])] 6 0,ov 9 pN 8 6 0,pf 10 6 9,mv 2 10] 0 [2] .ret))
def D6:aA:=(sr [mf 2 false] 0 [0] (sr [mv 3 0,oa 4 (.aj 205) 3,oa 5 pN 4,mv 2 5] 0 [2] .ret))
def CP:aA:=(sr [mf 2 false] 0 [0] (sr [mv 3 0,on 4 (.aj 203) [.t 3,kI 0,kI 30],mv 2 4] 0 [2] .ret))
def ZT (n:Int):Pure C 205 [dI n] (.d (.bool (inR n 0 30))) []:=by
 refine ah CP aS ?_;simp only[CP,aS,RN,H,O,U,V,qE,qF];refine au (xM _ _ _) ?_;(try simp only[RN,H,O,U,V,qE,qF])
def aa4 (n:Int):Pure C 204 [dI n] (.d (.bool (!inR n 0 30))) []:=by
 refine ah D6 aS ?_;simp only[D6,aS,RN,H,O,U,V,qE,qF];refine au (ZT _) ?_;(try simp only[RN,H,O,U,V,qE,qF])
def HY (l:List Int):Bool:=inR l.length 3 24&& !l.any fun n=> !inR n 0 30
def Za (l:List Int)(hl:l.length<=1000000):Pure C 146 [sF (l.map ay)] (.d (.bool (HY l))) []:=by
 refine ah II aS ?_;simp only[II,aS,ab,RN,H,O,U,V,qE,qF]
 repeat' first
  |(refine au (xM _ _ _) ?_;try simp only[ab,RN,H,O,U,V,qE,qF])
  |(refine fG rfl rfl (mD l _ [] (fun n=> !inR n 0 30) hl (by kernel_rfl) (fun n _=>aa4 n)) ?_;try simp only[ab,RN,H,O,U,V,qE,qF])
  |(refine aH (by rfl) (fun a=> ?_) (fun a=> ?_)<;>simp only[a,ab,RN,H,O,U,V,qE,qF])
  |(refine aP (by rfl) (fun a=> ?_) (fun a=> ?_)<;>simp only[a,ab,RN,H,O,U,V,qE,qF])
 all_goals(first|(simp only[HY, *,BSN];done)|(simp_all[HY];done)|(simp_all[HY];omega))
def ZQ (a b:List Int)(hl:a.length<=1000000)(e:b.length<=1000000):Pure C 81 [sF (a.map ay),sF (b.map ay)] (.d (.bool (HY a&&HY b&&((a.length:Int)==b.length)))) []:=by
 refine ah D5 aQ ?_;simp only[D5,aQ,ab,RN,H,O,U,V,qE,qF]
 repeat' first
  |(refine au (Za a hl) ?_;try simp only[ab,RN,H,O,U,V,qE,qF])
  |(refine au (Za b e) ?_;try simp only[ab,RN,H,O,U,V,qE,qF])
  |(refine aH (by rfl) (fun c=> ?_) (fun c=> ?_)<;>simp only[c,ab,RN,H,O,U,V,qE,qF])
  |(refine aP (by rfl) (fun c=> ?_) (fun c=> ?_)<;>simp only[c,ab,RN,H,O,U,V,qE,qF])
 all_goals simp_all
def Fz (b:List Int)(k:Nat):Nat->List Int->Bool
 | _,[]=>true
 |i,n::l=>(n==b.getD ((i+k) % b.length) default)&&Fz b k (i+1) l
def yN (a b:List Int):Nat->Nat->Option Nat
 | _,0=>none
 |k,n+1=>if Fz b k 0 a then some k else yN a b (k+1) n
def acd (a b:List Int)(ha:HY a=true)(hb:HY b=true)(hab:a.length=b.length):
  Pure C 32 [sF (a.map ay),sF (b.map ay)] (.d (.tup (match yN a b 0 a.length with|some k=>[dI k,dI 0]|none=>[dI 0,dI 5]))) []:=by
 have t:3<=a.length/\a.length<=24:=by simp only[HY,inR,aq,decide_eq_true_eq]at ha;omega
 have j:=ZQ a b (by omega) (by omega);have e:((a.length:Int)==b.length)=true:=beq_iff_eq.2 (by omega);rw[ha,hb,e]at j;refine ah FX bQ ?_;simp only[FX,bQ,RN,H,O,U,V,qE,qF];refine au j ?_;simp only[ab,RN,H,O,U,V,qE,qF];refine aG a.length (fun i (_:Unit)=>⟨[(0, .d (sF (a.map ay))),(1, .d (sF (b.map ay))),(14,pI a.length),(15,pI i)],bg⟩)
  (fun i _=>yN a b 0 a.length=yN a b i (a.length - i)) 0 () (ap _) rfl (by simp) (fun i _ p c=> ?_) (fun _ c=> ?_)
 ·obtain⟨q,r,s⟩:=rng p (by omega)
  obtain⟨n,u⟩:∃n,a.length - i=n+1:=⟨a.length - i - 1,by omega⟩
  have o:a.length - (i+1)=n:=by omega
  rw[u,yN]at c;simp only[q,r,ab,RN,H,O,U,V,qE,qF];refine aG a.length (fun k (_:Unit)=>⟨[(0, .d (sF (a.map ay))),(1, .d (sF (b.map ay))),(6,pI i),(14,pI a.length),(15,pI i),(18, .d (sF (a.map ay))),(19,pI a.length),(20,pI k)],bg⟩)
   (fun k _=>Fz b i 0 a=Fz b i k (a.drop k)) 0 () (ap _) rfl (by simp) (fun k _ m f=> ?_) (fun _ f=> ?_)
  ·obtain⟨v,w,x⟩:=rng m (by omega)
   rw[drop_cons m,Fz]at f;have y:di .i64 ((k:Int)+(i:Int))=((k+i:Nat):Int):=by rw[aF (by omega)];omega
   have A:(k+i) % b.length<b.length:=dg _ (by omega);have z:((k+i:Nat):Int).tmod (b.length:Int)=(((k+i) % b.length:Nat):Int):=rfl;have B:(0:Int)<=(((k+i) % b.length:Nat):Int):=Int.natCast_nonneg _;have D:((b.length:Int)=0)=False:=eq_false (by omega);simp only[v,w,m,y,z,A,B,D,getD_map,aZ,ae,ab,RN,H,O,U,V,qE,qF]
   by_cases l:a.getD k default=b.getD ((k+i) % b.length) default
   ·have g:(a.getD k default !=b.getD ((k+i) % b.length) default)=false:=bne_eq_false_iff_eq.2 l
    have h:(a.getD k default==b.getD ((k+i) % b.length) default)=true:=beq_iff_eq.2 l;rw[h,bh]at f;simp only[g,x,RN,H,O,U,V,qE,qF];exact dX () m rfl f (by simp) (by simp) rfl rfl
   ·have g:(a.getD k default !=b.getD ((k+i) % b.length) default)=true:=bne_iff_ne.2 l
    have h:(a.getD k default==b.getD ((k+i) % b.length) default)=false:=beq_eq_false_iff_ne.2 l;rw[h,cf]at f;rw[f,if_neg (by decide)]at c;simp only[g,s,RN,H,O,U,V,qE,qF];exact dX () p rfl (by rw[o];exact c) (by simp) (by simp) rfl rfl
  ·rw[aw,Fz]at f
   rw[f,if_pos rfl]at c;simp only[av,c,RN,H,O,U,V,qE,qF]
 ·rw[dd,yN]at c
  simp only[av,c,RN,H,O,U,V,qE,qF]
def IU:aA:=(sw (r0 [ba 1 0 0,mf 2 false] 1 [1] [1]) (sw (sr [fa 11 0 1,lo 12 11,on 13 (.aj 29) [.t 12,kI 1,kI 120],oa 14 pN 13,mv 15 14,ow 16 (.fld 1) 1 15 0,lq 17 16 15,oF 18 (.aj 29) [.t 17,kI 1,kI 120] 15 0,ow 19 pN 18 15 0,pt 20 15 19,mv 21 20,ow 22 (.fld 2) 1 21 0,lq 23 22 21,oF 24 (.aj 29) [.t 23,kI 0,kI 4] 21 0,ow 25 pN 24 21 0,pt 26 21 25,mv 27 26,ow 28 (.fld 3) 1 27 0,lq 29 28 27,oF 30 (.aj 29) [.t 29,kI 0,kI 4] 27 0,ow 31 pN 30 27 0,pt 32 27 31,mv 33 32,ow 34 (.fld 4) 1 33 0,lq 35 34 33,oF 36 (.aj 29) [.t 35,kI 0,kI 3] 33 0,ow 37 pN 36 33 0,pt 38 33 37] 0 [1,38] (cd 38 (sr [mf 2 false] 0 [2] .ret) .skip)) (sw (sr [fa 39 5 1,lo 40 39,oa 41 .len 40,on 42 (.aj 29) [.t 41,kI 1,kI 6],oa 43 pN 42,mv 44 43,ow 45 (.fld 6) 1 44 0,lq 46 45 44,ow 47 .len 46 44 0,oF 48 pG [.t 47,kI 8] 44 0,pt 49 44 48,mv 50 49,ow 51 (.fld 7) 1 50 0,lq 52 51 50,ow 53 .len 52 50 0,oF 54 pG [.t 53,kI 10] 50 0,pt 55 50 54] 0 [1,55] (cd 55 (sr [mf 2 false] 0 [2] .ret) .skip)) (sw (sr [mi 3 0] 0 [1,3] (.block 0 (.loop (sw (sr [mv 56 3,fa 57 5 1,lo 58 57,oa 59 .len 58,ob 60 pL 56 59] 0 [1,3,60] (cx 60 0)) (sw (.block 1 (sw (r0 [fa 63 5 1,lo 64 63,mv 65 3,ix 66 2 64 65,lw 67 2 66,al 4 0 [z0,z0],sk 2 4 67 0] 1 [1,3,4] [4]) (sw (sr [fa 68 0 4,lo 69 68,fa 70 0 1,lo 71 70,on 72 (.aj 29) [.t 69,kI 0,.t 71],oa 73 pN 72,mv 74 73,ow 75 (.fld 1) 4 74 0,lq 76 75 74,ow 77 (.fld 1) 1 74 0,lq 78 77 74,oF 79 (.aj 29) [.t 76,kI 0,.t 78] 74 0,ow 80 pN 79 74 0,pt 81 74 80] 0 [1,3,4,81] (cd 81 (sr [mf 2 false] 0 [2] .ret) .skip)) (sr [mi 5 0] 0 [1,3,4,5] (.block 2 (.loop (sw (sr [mv 82 5,mv 83 3,ob 84 pL 82 83] 0 [1,3,4,5,84] (cx 84 2)) (sw (.block 3 (sw (r1 [fu 87 5 1 1,lv 88 87,mv 89 5,ob1 90 (.bU 2) 88 89 1,ou 91 (.load true 2) 90 1,ou 92 (.load true 2) 4 1,ob 93 (.A8 false [1,1]) 91 92] 0 [1,3,4,5,93] []) (cd 93 (sr [mf 2 false] 0 [2] .ret) .skip))) (rg [mv 85 5,oi 86 pA 85 1,mv 5 86] 0 [1,3,4,5]))))))))) (rg [mv 61 3,oi 62 pA 61 1,mv 3 62] 0 [1,3])))))) (sw (sr [mi 6 0] 0 [1,6] (.block 4 (.loop (sw (sr [mv 94 6,fa 95 6 1,lo 96 95,oa 97 .len 96,ob 98 pL 94 97] 0 [1,6,98] (cx 98 4)) (sw (.block 5 (sw (r0 [fa 101 6 1,lo 102 101,mv 103 6,ix 104 4 102 103,lw 105 4 104,al 7 0 [z0,z0,z0,z0],sk 4 7 105 0] 1 [1,6,7] [7]) (sr [fa 106 0 7,lo 107 106,fa 108 5 1,lo 109 108,oa 110 .len 109,oi 111 pU 110 1,on 112 (.aj 29) [.t 107,kI 0,.t 111],oa 113 pN 112,mv 114 113,ow 115 (.fld 1) 7 114 0,lq 116 115 114,oF 117 (.aj 29) [.t 116,kI 0,kI 2] 114 0,ow 118 pN 117 114 0,pt 119 114 118,mv 120 119,ow 121 (.fld 2) 7 120 0,lq 122 121 120,oF 123 (.aj 29) [.t 122,kI 0,kI 5] 120 0,ow 124 pN 123 120 0,pt 125 120 124,mv 126 125,ow 127 (.fld 3) 7 126 0,lq 128 127 126,oF 129 (.aj 29) [.t 128,kI 4,kI 50] 126 0,ow 130 pN 129 126 0,pt 131 126 130] 0 [1,6,131] (cd 131 (sr [mf 2 false] 0 [2] .ret) .skip)))) (rg [mv 99 6,oi 100 pA 99 1,mv 6 100] 0 [1,6])))))) (sw (sr [mi 8 0] 0 [1,8] (.block 6 (.loop (sw (sr [mv 132 8,fa 133 7 1,lo 134 133,oa 135 .len 134,ob 136 pL 132 135] 0 [1,8,136] (cx 136 6)) (sw (.block 7 (sw (r0 [fa 139 7 1,lo 140 139,mv 141 8,ix 142 2 140 141,lw 143 2 142,al 9 0 [z0,z0],sk 2 9 143 0] 1 [1,8,9] [9]) (sw (sr [lw 144 8 1,fa 145 0 9,lo 146 145,ob 147 (.aj 13) 144 146,oa 148 pN 147,mv 149 148,ow 150 (.load true 8) 1 149 0,ow 151 (.fld 1) 9 149 0,lq 152 151 149,obF 153 (.aj 13) 150 152 149 0,ow 154 pN 153 149 0,pt 155 149 154,mv 156 155,ow 157 (.fld 0) 9 156 0,lq 158 157 156,ow 159 (.fld 1) 9 156 0,lq 160 159 156,obF 161 (.bin .geq) 158 160 156 0,pt 162 156 161] 0 [1,8,9,162] (cd 162 (sr [mf 2 false] 0 [2] .ret) .skip)) (sr [mi 10 0] 0 [1,8,9,10] (.block 8 (.loop (sw (sr [mv 163 10,mv 164 8,ob 165 pL 163 164] 0 [1,8,9,10,165] (cx 165 8)) (sw (.block 9 (sw (r1 [fu 168 7 1 1,lv 169 168,mv 170 10,ob1 171 (.bU 2) 169 170 1,ou 172 (.load true 2) 171 1,ou 173 (.load true 2) 9 1,ob 174 (.A8 false [1,1]) 172 173] 0 [1,8,9,10,174] []) (cd 174 (sr [mf 2 false] 0 [2] .ret) .skip))) (rg [mv 166 10,oi 167 pA 166 1,mv 10 167] 0 [1,8,9,10]))))))))) (rg [mv 137 8,oi 138 pA 137 1,mv 8 138] 0 [1,8])))))) (sr [mf 2 true] 0 [2] .ret)))))))
def IV:aA:=(sw (r0 [ba 2 0 0,mf 4 false] 1 [1,2] [2]) (sr [mv 5 1,fa 6 6 2,lo 7 6,oa 8 .len 7,oi 9 pU 8 1,on 10 (.aj 29) [.t 5,kI 0,.t 9],mv 4 10] 0 [4] .ret))
def ame:aA:=(sw (r0 [ba 2 0 0,mf 4 false] 1 [1,2] [2]) (sr [mi 5 1] 0 [1,2,5] (sw (sr [mv 6 1,oi 7 (.bin .geq) 6 0] 0 [2,5,7] (cd 7 (rg [mi 5 2] 0 [2,5]) .skip)) (sr [fa 8 5 2,lo 9 8,oa 10 .len 9,oi 11 pL 10 6,mv 12 11,ov 13 (.fld 6) 2 12 0,ov 14 (.load false 1) 13 12 0,ov 15 .len 14 12 0,ot 16 pL [.t 15,kI 8] 12 0,pf 17 12 16,mv 18 17,ov 19 (.fld 7) 2 18 0,ov 20 (.load false 1) 19 18 0,ov 21 .len 20 18 0,ov 22 .mov 5 18 0,obT 23 pA 21 22 18 0,ot 24 (.bin .leq) [.t 23,kI 10] 18 0,pf 25 18 24,mv 4 25] 0 [4] .ret))))
def amf:aA:=(sw (r0 [ba 5 0 0,ba 6 1 1,al 10 2 [z0,z0,z0,z0,z0,zs,zs,zs]] 3 [2,3,4,5,6,10] [5,6]) (sr [lw 13 8 5,al 11 0 [z0,z0,z0,z0,z0,zs,zs,zs],sk 8 11 13 0] 1 [2,3,4,5,6,10,11] (sr [fa 14 6 5,lo 15 14,oa 16 .len 15,mv 12 16] 0 [2,3,4,5,6,10,11,12] (sw (r1 [fu 17 5 5 1,lv 18 17,on 19 (.app 2 false) [.c (.slice true []),.t 18],ou 20 (.load true 2) 6 1,ou 21 (.dA 2 [.agg [z0,z0]] [0]) 20 1,ob 22 (.app 2 false) 19 21,fu 23 5 11 2,sk 1 23 22 0] 0 [2,3,4,5,10,11,12] []) (sw (r1 [fu 24 6 5 1,lv 25 24,on 26 (.app 4 false) [.c (.slice true []),.t 25],fu 27 5 5 1,lv 28 27,ou 29 .len 28 1,fu 30 6 5 1,lv 31 30,mv 32 3,ob1 33 (.bU 4) 31 32 1,fu 34 2 33 1,lv 35 34,mv 36 2,on 37 (.build [z0,z0,z0,z0] [(0,1),(2,1),(3,1)]) [.t 29,.t 35,.t 36],ou 38 (.dA 4 [.agg [z0,z0,z0,z0]] [0]) 37 1,ob 39 (.app 4 false) 26 38,fu 40 6 11 2,sk 1 40 39 0] 0 [3,4,5,10,11,12] []) (sr [fa 41 7 5,lo 42 41,on 43 (.app 2 false) [.c (.slice true []),.t 42],mv 44 3,mv 45 12,ob 46 (.build [z0,z0] [(0,1),(1,1)]) 44 45,oa 47 (.dA 2 [.agg [z0,z0]] [0]) 46,ob 48 (.app 2 false) 43 47,fa 49 7 11,sk 1 49 48 0] 0 [4,10,11,12] (sw (sr [mv 50 4,oi 51 (.bin .geq) 50 0] 0 [4,10,11,12,51] (cd 51 (rg [fa 52 7 11,lo 53 52,mv 54 4,mv 55 12,ob 56 (.build [z0,z0] [(0,1),(1,1)]) 54 55,oa 57 (.dA 2 [.agg [z0,z0]] [0]) 56,ob 58 (.app 2 false) 53 57,fa 59 7 11,sk 1 59 58 0] 0 [10,11]) .skip)) (sr [lw 60 8 11,sk 8 10 60 0] 0 [10] .ret))))))))
def amB:zL C.P 15 5 amf aes=true:=by kernel_rfl
def Qj:aA:=(sr [mf 6 false] 0 [0,1,2] (sr [mv 7 0,mv 8 1,ob 9 (.bin .geq) 7 8,mv 10 9,ov 11 .mov 0 10 0,ov 12 .mov 2 10 0,obT 13 (.bin .leq) 11 12 10 0,pf 14 10 13,mv 6 14] 0 [6] .ret))
def ahz {v x:Pt}:((v.x==x.x)&&(v.y==x.y))=decide (v=x):=by
 cases v;cases x;simp only[Pt.mk.injEq,cT];rfl
def adR {v x:Ms}:((v.a==x.a)&&(v.b==x.b))=decide (v=x):=by
 cases v;cases x;simp only[Ms.mk.injEq,cT];rfl
def zn (n l h:Int):Pure C 29 [dI n,dI l,dI h] (.d (.bool (inR n l h))) []:=by
 refine ah Qj iH ?_
 by_cases h1:n>=l<;>simp only[h1,inR,Qj,iH,cf,RN,H,O,U,V,qE,qF]
def aa3 (xs:List Pt)(v:Pt)(hl:xs.length<=1000000):Pure C 142 [sF (xs.map Pt.dv),v.dv] (pI (idx v xs 0)) []:=by
 refine ah kE aQ ?_;simp only[kE,aQ,sK,ab,RN,H,O,U,V,qE,qF];refine aG xs.length (fun i (_:Unit)=>⟨[(0, .d (sF (xs.map Pt.dv))),(3, .d (.aV [dI v.x,dI v.y])),(7,pI xs.length),(8,pI i)],⟨[some [pI v.x,pI v.y]],[0],[]⟩⟩) (fun i _=>idx v xs 0=idx v (xs.drop i) i) 0 () (ap _) rfl rfl (fun i _ h1 a=> ?_) (fun _ a=> ?_)
 ·obtain⟨h2,c,e⟩:=rng h1 hl
  rw[drop_cons h1,idx]at a;cases b:decide (v=xs.getD i default)
  ·simp only[h2,c,h1,e,b,sK,xC,ahz,J8,getD_map,ae,ab,RN,H,O,U,V,qE,qF]
   exact dX () h1 rfl (by rw[if_neg (by simpa using b)]at a;exact a) (by simp) (by simp) rfl rfl
  ·simp only[h2,c,h1,b,sK,xC,ahz,J8,getD_map,ae,ab,RN,H,O,U,V,qE,qF]
   rw[a,if_pos (by simpa using b)]
 ·rw[aw,idx]at a
  simp only[av,a,RN,H,O,U,V,qE,qF]
def H7 (xs:List Pt)(v:Pt)(hl:xs.length<=1000000):Pure C 79 [sF (xs.map Pt.dv),v.dv] (.d (.bool (xs.contains v))) []:=by
 have a:=aa3 xs v hl;refine ah jB aQ ?_;simp only[sK]at a⊢;simp only[jB,aQ,RN,H,O,U,V,qE,qF];refine au a ?_;simp only[Ru,RN,H,O,U,V,qE,qF]
def aa2 (xs:List Ms)(v:Ms)(hl:xs.length<=1000000):Pure C 161 [sF (xs.map Ms.dv),v.dv] (pI (idx v xs 0)) []:=by
 refine ah kP aQ ?_;simp only[kP,aQ,Cm,ab,RN,H,O,U,V,qE,qF];refine aG xs.length (fun i (_:Unit)=>⟨[(0, .d (sF (xs.map Ms.dv))),(3, .d (.aV [dI v.a,dI v.b])),(7,pI xs.length),(8,pI i)],⟨[some [pI v.a,pI v.b]],[0],[]⟩⟩) (fun i _=>idx v xs 0=idx v (xs.drop i) i) 0 () (ap _) rfl rfl (fun i _ h1 c=> ?_) (fun _ c=> ?_)
 ·obtain⟨h2,f,g⟩:=rng h1 hl
  rw[drop_cons h1,idx]at c;cases e:decide (v=xs.getD i default)
  ·simp only[h2,f,h1,g,e,Cm,xC,adR,J8,getD_map,ae,ab,RN,H,O,U,V,qE,qF]
   exact dX () h1 rfl (by rw[if_neg (by simpa using e)]at c;exact c) (by simp) (by simp) rfl rfl
  ·simp only[h2,f,h1,e,Cm,xC,adR,J8,getD_map,ae,ab,RN,H,O,U,V,qE,qF]
   rw[c,if_pos (by simpa using e)]
 ·rw[aw,idx]at c
  simp only[av,c,RN,H,O,U,V,qE,qF]
def Q7 (xs:List Ms)(v:Ms)(hl:xs.length<=1000000):Pure C 91 [sF (xs.map Ms.dv),v.dv] (.d (.bool (xs.contains v))) []:=by
 have a:=aa2 xs v hl;refine ah jJ aQ ?_;simp only[Cm]at a⊢;simp only[jJ,aQ,RN,H,O,U,V,qE,qF];refine au a ?_;simp only[Ru,RN,H,O,U,V,qE,qF]
def zV (p:Piece)(n:Int)(hl:p.ws.length<=1000000):Pure C 36 [p.dv,dI n] (.d (.bool (inR n 0 (p.ws.length - 1)))) []:=by
 refine ah Ah aQ ?_;have h:di .i64 ((p.ws.length:Int) - 1)=p.ws.length - 1:=aF (by omega);simp only[Ah,aQ,fD,ab,h,RN,H,O,U,V,qE,qF];refine au (Ns _ _ _) ?_;(try simp only[RN,H,O,U,V,qE,qF])
def UY (p:Piece)(w:Wh)(hl:p.cs.length<=1000000):Pure C 93 [w.dv, .aV [dI p.w,dI p.h,dI p.pl,dI p.ga,dI p.po,sF (p.cs.map Pt.dv),sF (p.ws.map Wh.dv),sF (p.ms.map Ms.dv)]] (.d (.bool (!FH p.cs.length w))) []:=by
 refine ah yA JU ?_;have h:di .i64 ((p.cs.length:Int) - 1)=p.cs.length - 1:=aF (by omega);simp only[yA,JU,jX,ab,h,RN,H,O,U,V,qE,qF]
 repeat' first
  |(refine au (Ns _ _ _) ?_;try simp only[RN,H,O,U,V,qE,qF])
  |(refine aH (by rfl) (fun a=> ?_) (fun a=> ?_)<;>simp only[a,RN,H,O,U,V,qE,qF])
  |(refine aP (by rfl) (fun a=> ?_) (fun a=> ?_)<;>simp only[a,RN,H,O,U,V,qE,qF])
 all_goals simp_all[FH]
def XR (xs:List Wh)(fn:FuncId)(b:List DV)(p:Wh->Bool)(hl:xs.length<=1000000)(hc:callable C.P fn=true)(g:∀x∈xs,Pure C fn ([(Wh.dv x).strip]++b.map DV.strip) (.d (.bool (p x))) []):
  Pure C 162 [sF (xs.map Wh.dv), .func (.func fn) [] b] (pI (jM p xs 0)) []:=by
 refine ah jr aQ ?_;simp only[jr,aQ,ab,RN,H,O,U,V,qE,qF];refine aG xs.length (fun i (_:Unit)=>⟨[(0, .d (sF (xs.map Wh.dv))),(1, .d (.func (.func fn) [] b)),(7,pI xs.length),(8,pI i)],⟨[],[],[]⟩⟩)
  (fun i _=>jM p xs 0=jM p (xs.drop i) i) 0 () (ap _) rfl rfl (fun i _ h1 a=> ?_) (fun _ a=> ?_)
 ·obtain⟨h2,e,f⟩:=rng h1 hl
  rw[drop_cons h1,jM]at a;have j:=g (xs.getD i default) (by rw[ao,aL h1];exact cR h1);simp only[h2,e,h1,getD_map,ae,ab,jX,RN,H,O,U,V,qE,qF];refine nG rfl hc (by simp only[bz,cr,aD,bq,jX]) j ?_;cases c:p (xs.getD i default)
  ·simp only[f,RN,H,O,U,V,qE,qF]
   exact dX () h1 rfl (by rw[if_neg (fun h=>by rw[c]at h;cases h)]at a;exact a) (by simp) (by simp) rfl rfl
  ·(try simp only[RN,H,O,U,V,qE,qF])
   rw[a,if_pos c]
 ·rw[aw,jM]at a
  simp only[av,a,RN,H,O,U,V,qE,qF]
def OQ (xs:List Wh)(fn:FuncId)(a:List DV)(p:Wh->Bool)(hl:xs.length<=1000000)(hc:callable C.P fn=true)(c:∀x∈xs,Pure C fn ([(Wh.dv x).strip]++a.map DV.strip) (.d (.bool (p x))) []):
  Pure C 92 [sF (xs.map Wh.dv), .func (.func fn) [] a] (.d (.bool (xs.any p))) []:=by
 have b:=XR xs fn a p hl hc c;refine ah iL aQ ?_;simp only[iL,aQ,RN,H,O,U,V,qE,qF];refine au b ?_;simp only[ES,RN,H,O,U,V,qE,qF]
def mZ (p:Piece):List DV:=[dI p.w,dI p.h,dI p.pl,dI p.ga,dI p.po,sF (p.cs.map Pt.dv),sF (p.ws.map Wh.dv),sF (p.ms.map Ms.dv)]
def Sr (xs:List Pt):∀x∈xs.map Pt.dv,x.cells.length=2:=by
 intro x a;simp only[ca]at a;obtain⟨y,_,rfl⟩:=a;rfl
def NK (xs:List Ms):∀x∈xs.map Ms.dv,x.cells.length=2:=by
 intro x a;simp only[ca]at a;obtain⟨y,_,rfl⟩:=a;rfl
def KF (p:Piece)(hc:p.cs.length<=1000)(hw:p.ws.length<=1000)(m:p.ms.length<=1000):Pure C 35 [p.dv] (.d (.bool p.ok)) []:=by
 refine ah Af aS ?_;simp only[Af,aS,fD,RN,H,O,U,V,qE,qF]
 repeat' first
  |(refine au (Ns _ _ _) ?_;try simp only[ab,RN,H,O,U,V,qE,qF])
  |(refine aH (by rfl) (fun b=> ?_) (fun b=> ?_)<;>simp only[b,ab,RN,H,O,U,V,qE,qF])
  |(refine aP (by rfl) (fun b=> ?_) (fun b=> ?_)<;>simp only[b,ab,RN,H,O,U,V,qE,qF])
 any_goals (simp_all[Piece.ok,Piece.DL,Piece.Bq];done)
 refine aG p.cs.length (fun i (_:Unit)=>⟨[(1, .d (.aV (mZ p))),(53, .d (sF (p.cs.map Pt.dv))),(54,pI p.cs.length),(55,pI i)],⟨[some ((mZ p).map .d)],[0],[]⟩⟩)
  (fun i _=>AA p.w p.h [] p.cs=AA p.w p.h (p.cs.take i) (p.cs.drop i)) 0 () (ap _) rfl (by simp) (fun i _ h1 g=> ?_) (fun _ g=> ?_)
 ·obtain⟨h2,f,j⟩:=rng h1 (by omega)
  rw[drop_cons h1,AA]at g;have a:((i:Nat):Int)<=((p.cs.map Pt.dv).length:Int):=by simp;omega
  have ht:(p.cs.take i).length<=1000000:=by simp;omega
  simp only[h2,f,h1,getD_map,ae,ab,sK,mZ,RN,H,O,U,V,qE,qF]
  repeat' first
   |(refine au (Ns _ _ _) ?_;try simp only[j,ab,iP (Sr p.cs) f a,ae,<-bk,RN,H,O,U,V,qE,qF])
   |(refine au (H7 _ _ ht) ?_;try simp only[j,ab,iP (Sr p.cs) f a,ae,<-bk,RN,H,O,U,V,qE,qF])
   |(refine aH (by rfl) (fun b=> ?_) (fun b=> ?_)<;>simp only[b,j,ab,iP (Sr p.cs) f a,ae,<-bk,RN,H,O,U,V,qE,qF])
   |(refine aP (by rfl) (fun b=> ?_) (fun b=> ?_)<;>simp only[b,j,ab,iP (Sr p.cs) f a,ae,<-bk,RN,H,O,U,V,qE,qF])
  any_goals (simp_all[Piece.ok];done)
  all_goals
   refine bK 1 0 () h1 rfl ?_ (by simp) (by simp) rfl rfl;rw[g]
   simp_all
 ·rw[aw]at g
  simp only[av,mZ,ab,RN,H,O,U,V,qE,qF];refine aG p.ms.length (fun i (_:Unit)=>⟨[(1, .d (.aV (mZ p))),(84, .d (sF (p.ms.map Ms.dv))),(85,pI p.ms.length),(86,pI i)],⟨[some ((mZ p).map .d)],[0],[]⟩⟩)
   (fun i _=>zY p.ws.length [] p.ms=zY p.ws.length (p.ms.take i) (p.ms.drop i)) 0 () (ap _) rfl (by simp) (fun i _ h1 c=> ?_) (fun _ c=> ?_)
  ·obtain⟨h2,f,j⟩:=rng h1 (by omega)
   rw[drop_cons h1,zY]at c;have a:((i:Nat):Int)<=((p.ms.map Ms.dv).length:Int):=by simp;omega
   have ht:(p.ms.take i).length<=1000000:=by simp;omega
   simp only[h2,f,h1,getD_map,ae,ab,Cm,mZ,RN,H,O,U,V,qE,qF]
   repeat' first
    |(refine au (Ns _ _ _) ?_;try simp only[j,ab,iP (NK p.ms) f a,ae,<-bk,RN,H,O,U,V,qE,qF])
    |(refine au (Q7 _ _ ht) ?_;try simp only[j,ab,iP (NK p.ms) f a,ae,<-bk,RN,H,O,U,V,qE,qF])
    |(refine fG rfl rfl (zV p _ (by omega)) ?_;try simp only[j,ab,iP (NK p.ms) f a,ae,<-bk,RN,H,O,U,V,qE,qF])
    |(refine aH (by rfl) (fun b=> ?_) (fun b=> ?_)<;>simp only[b,j,ab,iP (NK p.ms) f a,ae,<-bk,RN,H,O,U,V,qE,qF])
    |(refine aP (by rfl) (fun b=> ?_) (fun b=> ?_)<;>simp only[b,j,ab,iP (NK p.ms) f a,ae,<-bk,RN,H,O,U,V,qE,qF])
   any_goals (simp_all[Piece.ok];done)
   all_goals
    refine bK 1 0 () h1 rfl ?_ (by simp) (by simp) rfl rfl;rw[c]
    simp_all
  ·rw[aw]at c
   simp only[av,mZ,ab,ac3,RN,H,O,U,V,qE,qF];refine fG rfl rfl (OQ p.ws _ _ (fun w=> !FH p.cs.length w) (by omega) (by kernel_rfl) (fun w _=>UY p w (by omega))) ?_;(try simp only[RN,H,O,U,V,qE,qF]);simp only[AA,zY]at g c;have e:∀l:List Wh,(l.any fun w=> !FH p.cs.length w)= !l.all (FH p.cs.length):=by
    intro l;induction l with
    |nil=>rfl
    |cons x l k=>simp only[List.any_cons,cG,k,Bool.not_and]
   rw[e,Bool.not_not]
   simp_all[Piece.ok,Piece.DL,Piece.Bq]
structure Piece.good (p:Piece):Prop where
 cs:∀c∈p.cs,0<=c.x/\c.x<=1000/\0<=c.y/\c.y<=1000
 ws:∀w∈p.ws,(0<=w.iY/\w.iY.toNat<p.cs.length)/\0<=w.aO/\w.aO<=1000/\0<=w.layer/\w.layer<=1000
 w:0<=p.w/\p.w<=1000
 h:0<=p.h/\p.h<=1000
 pl:0<=p.pl/\p.pl<=1000
 ga:0<=p.ga/\p.ga<=1000
 po:0<=p.po/\p.po<=1000
 lw:p.ws.length<=1000
def Piece.isW (p:Piece)(a:Int):Prop:=0<=a/\a.toNat<p.ws.length
def Gs {n:Int}{k:Nat}(h: -(k:Int)<=n/\n<=k):0<=n*n/\n*n<=((k*k:Nat):Int):=by
 have e:n*n=((n.natAbs*n.natAbs:Nat):Int):=by
  rw[Int.natCast_mul];exact(Int.natAbs_mul_self' n).symm
 have h1:n.natAbs<=k:=by omega
 have h2:=bN h1 h1;rw[e];omega
section
variable {p:Piece}(hg:p.good){a b:Int}(ha:p.isW a)(hb:p.isW b)
include hg ha
theorem pz:((0<=(p.ws.getD a.toNat default).iY/\(p.ws.getD a.toNat default).iY.toNat<p.cs.length)/\0<=(p.ws.getD a.toNat default).aO/\(p.ws.getD a.toNat default).aO<=1000/\0<=(p.ws.getD a.toNat default).layer/\(p.ws.getD a.toNat default).layer<=1000):=
 hg.ws _ (getD_mem ha.2)
theorem ER:0<=(p.cs.getD (p.ws.getD a.toNat default).iY.toNat default).x/\(p.cs.getD (p.ws.getD a.toNat default).iY.toNat default).x<=1000/\0<=(p.cs.getD (p.ws.getD a.toNat default).iY.toNat default).y/\(p.cs.getD (p.ws.getD a.toNat default).iY.toNat default).y<=1000:=
 hg.cs _ (getD_mem (pz hg ha).1.2)
include hb
theorem aic:0<=p.far a b/\p.far a b<=2000000:=by
 have h1:=ER hg ha;have h2:=ER hg hb;have x:=Gs (n:=(p.pt a).x - (p.pt b).x) (k:=1000) (by simp only[Piece.pt,Piece.wh];omega);have y:=Gs (n:=(p.pt a).y - (p.pt b).y) (k:=1000) (by simp only[Piece.pt,Piece.wh];omega);simp only[Piece.far,sq];omega
end
def AP (n:Int)(h: -10000<=n/\n<=10000):Pure C 167 [dI n] (pI (sq n)) []:=by
 have hb:=Gs (n:=n) (k:=10000) (by omega);have hw:di .i64 (n*n)=n*n:=aF (by omega);refine ah CW aS ?_;simp only[CW,aS,hw,sq,RN,H,O,U,V,qE,qF]
def GV (l:Laid)(hg:l.p.good)(a b:Int)(ha:l.p.isW a)(hb:l.p.isW b):Pure C 166 [l.dv,dI a,dI b] (pI (l.p.far a b)) []:=by
 have k:=aic hg ha hb;have xa:=ER hg ha;have m:=ER hg hb;obtain⟨⟨e,f⟩,_⟩:=pz hg ha;obtain⟨⟨i,j⟩,_⟩:=pz hg hb;obtain⟨c,d⟩:=ha;obtain⟨g,h⟩:=hb;refine ah zh iH ?_;simp only[zh,iH,iZ,sK,jX,getD_map,c,d,e,f,g,h,i,j,ab,RN,H,O,U,V,qE,qF];rw[aF (by omega)];refine fG rfl rfl (AP _ (by omega)) ?_;rw[aF (by omega)];refine fG rfl rfl (AP _ (by omega)) ?_;simp only[Piece.far,Piece.pt,Piece.wh]at k;simp only[Piece.far,Piece.pt,Piece.wh,RN,H,O,U,V,qE,qF];rw[aF (by omega)]
def wU (l:Laid)(a b:Int)(ha:l.p.isW a)(hb:l.p.isW b):Pure C 164 [l.dv,dI a,dI b] (.d (.bool (l.p.level a b))) []:=by
 obtain⟨c,e⟩:=ha;obtain⟨f,g⟩:=hb;refine ah wG iH ?_;simp only[wG,iH,iZ,jX,getD_map,c,e,f,g,ab,Piece.level,Piece.wh,RN,H,O,U,V,qE,qF]
def ku (l:Laid)(a b:Int)(ha:l.p.isW a)(hb:l.p.isW b):Pure C 165 [l.dv,dI a,dI b] (.d (.bool (l.p.o9 a b))) []:=by
 obtain⟨c,e⟩:=ha;obtain⟨f,g⟩:=hb;refine ah tu iH ?_;simp only[tu,iH,iZ,jX,getD_map,c,e,f,g,ab,Piece.o9,Piece.wh,RN,H,O,U,V,qE,qF]
def Nz (l:Laid)(hg:l.p.good)(a b:Int)(ha:l.p.isW a)(hb:l.p.isW b):Pure C 163 [l.dv,dI a,dI b] (pI (l.p.sum a b)) []:=by
 have ga:=pz hg ha;have g:=pz hg hb;obtain⟨c,d⟩:=ha;obtain⟨e,f⟩:=hb;refine ah zi iH ?_;simp only[zi,iH,iZ,jX,getD_map,c,d,e,f,ab,Piece.sum,Piece.wh,RN,H,O,U,V,qE,qF];rw[aF (by omega)]
def xP (l:Laid)(a b:Int)(ha:l.p.isW a)(hb:l.p.isW b):Pure C 106 [l.dv,dI a,dI b] (.d (.bool (l.p.Fh a b))) []:=by
 have i:=ku l a b ha hb;obtain⟨c,e⟩:=ha;obtain⟨f,g⟩:=hb;refine ah tC iH ?_;simp only[tC,iH,iZ,RN,H,O,U,V,qE,qF];refine au i ?_;cases h:l.p.o9 a b
 ·simp only[Piece.Fh,h,cf,RN,H,O,U,V,qE,qF]
 ·simp only[jX,getD_map,c,e,f,g,ab,Piece.Fh,h,Piece.wh,RN,H,O,U,V,qE,qF]
def Va (k:Ms):∀mm:List Ms,xU [1,1] (mm.map fun m=>(m.dv,DV.bool true)) [dI k.a,dI k.b]=some (if mm.contains k then some (.bool true)else none)
 | []=>rfl
 |m::mm=>by
  simp only[aD,Cm,xU,bG,if_true,bA,c9,adR,bo]
  by_cases h:k=m
  ·subst h;simp
  ·have hb:(k==m)=false:=by simp[h]
   have hd:decide (k=m)=false:=by simp[h]
   have:=Va k mm;simp only[Cm]at this;simp only[hd,hb,cF,this]
variable{base:Nat}{M:Mem}{K:PV->Mem->Prop}{KP:DV->Mem->Prop}
def Uu {C:Ctx}{mm:List Ms}{x y:Int}:
  ak C base (.Iw [1,1] (.bool false)) [.d (.map (some (mm.map fun m=>(m.dv, .bool true)))), .d (.agg [dI x,dI y])] M K KP=K (.d (.bool (mm.contains ⟨x,y⟩))) M:=by
 have h:=Va ⟨x,y⟩ mm;simp only at h;have a:bG [1,1] [dI x,dI y] [dI x,dI y]=some true:=by simp[bG]
 simp only[ak,a,h];cases mm.contains ⟨x,y⟩<;>rfl
def Laid.fine (l:Laid):Prop:=∀m,l.mm.contains m=l.p.ms.contains m
def KH (l:Laid)(hf:l.fine)(a b:Int):Pure C 105 [l.dv,dI a,dI b] (.d (.bool (l.p.mesh a b))) []:=by
 refine ah yB iH ?_;simp only[yB,iH,iZ,Uu,hf _,Piece.mesh,RN,H,O,U,V,qE,qF];have c:(if b<a then b else a)=min a b:=by split<;>omega
 have e:(if b>a then b else a)=max a b:=by split<;>omega
 rw[c,e]
variable{p:Piece}
def aeY (hg:p.good){a b:Int}(ha:p.isW a)(hb:p.isW b):0<=p.sum a b/\p.sum a b<=2000:=by
 have h1:=pz hg ha;have h2:=pz hg hb;simp only[Piece.sum,Piece.wh];omega
def RD (l:Laid)(hg:l.p.good)(hf:l.fine)(a b:Int)(ha:l.p.isW a)(hb:l.p.isW b):Pure C 95 [l.dv,dI a,dI b] (.d (.bool (l.p.apart a b))) []:=by
 have f:=aeY hg ha hb;have e:=hg.pl;have hw:di .i64 (l.p.sum a b+l.p.pl)=l.p.sum a b+l.p.pl:=aF (by omega);refine ah wE iH ?_;simp only[wE,iH,iZ,RN,H,O,U,V,qE,qF]
 repeat' first
  |(refine au (Nz l hg a b ha hb) ?_;try simp only[hw,RN,H,O,U,V,qE,qF])
  |(refine au (KH l hf a b) ?_;try simp only[hw,RN,H,O,U,V,qE,qF])
  |(refine au (wU l a b ha hb) ?_;try simp only[hw,RN,H,O,U,V,qE,qF])
  |(refine au (ku l a b ha hb) ?_;try simp only[hw,RN,H,O,U,V,qE,qF])
  |(refine au (GV l hg a b ha hb) ?_;try simp only[hw,RN,H,O,U,V,qE,qF])
  |(refine fG rfl rfl (AP _ (by omega)) ?_;try simp only[hw,RN,H,O,U,V,qE,qF])
  |(refine aH (by rfl) (fun c=> ?_) (fun c=> ?_)<;>simp only[c,hw,RN,H,O,U,V,qE,qF])
  |(refine aP (by rfl) (fun c=> ?_) (fun c=> ?_)<;>simp only[c,hw,RN,H,O,U,V,qE,qF])
 all_goals(first|(simp only[Piece.apart, *,BSN];done)|(simp_all[Piece.apart];done)|(simp_all[Piece.apart];omega))
def RH (l:Laid)(hg:l.p.good)(hf:l.fine)(a b:Int)(ha:l.p.isW a)(hb:l.p.isW b):Pure C 96 [l.dv,dI a,dI b] (.d (.bool (l.p.touch a b))) []:=by
 have f:=aeY hg ha hb;have e:=hg.ga;have hw:di .i64 (l.p.sum a b+l.p.ga)=l.p.sum a b+l.p.ga:=aF (by omega);refine ah wH iH ?_;simp only[wH,iH,iZ,RN,H,O,U,V,qE,qF]
 repeat' first
  |(refine au (Nz l hg a b ha hb) ?_;try simp only[hw,RN,H,O,U,V,qE,qF])
  |(refine au (KH l hf a b) ?_;try simp only[hw,RN,H,O,U,V,qE,qF])
  |(refine au (wU l a b ha hb) ?_;try simp only[hw,RN,H,O,U,V,qE,qF])
  |(refine au (ku l a b ha hb) ?_;try simp only[hw,RN,H,O,U,V,qE,qF])
  |(refine au (GV l hg a b ha hb) ?_;try simp only[hw,RN,H,O,U,V,qE,qF])
  |(refine fG rfl rfl (AP _ (by omega)) ?_;try simp only[hw,RN,H,O,U,V,qE,qF])
  |(refine aH (by rfl) (fun c=> ?_) (fun c=> ?_)<;>simp only[c,hw,RN,H,O,U,V,qE,qF])
  |(refine aP (by rfl) (fun c=> ?_) (fun c=> ?_)<;>simp only[c,hw,RN,H,O,U,V,qE,qF])
 all_goals(first|(simp only[Piece.touch, *,BSN];done)|(simp_all[Piece.touch];done)|(simp_all[Piece.touch];omega))
def U3 (l:Laid)(a b:Int)(ha:l.p.isW a)(hb:l.p.isW b):Pure C 97 [l.dv,dI a,dI b] (.d (.bool (l.p.same a b))) []:=by
 refine ah yC iH ?_;simp only[yC,iH,iZ,RN,H,O,U,V,qE,qF]
 repeat' first
  |(refine au (wU l a b ha hb) ?_;try simp only[RN,H,O,U,V,qE,qF])
  |(refine au (ku l a b ha hb) ?_;try simp only[RN,H,O,U,V,qE,qF])
  |(refine aH (by rfl) (fun c=> ?_) (fun c=> ?_)<;>simp only[c,RN,H,O,U,V,qE,qF])
  |(refine aP (by rfl) (fun c=> ?_) (fun c=> ?_)<;>simp only[c,RN,H,O,U,V,qE,qF])
 all_goals(first|(simp only[Piece.same, *,BSN];done)|(simp_all[Piece.same];done)|(simp_all[Piece.same];omega))
def RG (l:Laid)(hg:l.p.good)(a:Int)(ha:l.p.isW a):Pure C 94 [l.dv,dI a] (.d (.bool (l.p.Um a))) []:=by
 have xa:=ER hg ha;obtain⟨⟨h,i⟩,t1,t2,_⟩:=pz hg ha;obtain⟨f,g⟩:=ha;have c:di .i64 ((l.p.cs.getD (l.p.ws.getD a.toNat default).iY.toNat default).x+(l.p.ws.getD a.toNat default).aO)=(l.p.cs.getD (l.p.ws.getD a.toNat default).iY.toNat default).x+(l.p.ws.getD a.toNat default).aO:=aF (by omega);have e:di .i64 ((l.p.cs.getD (l.p.ws.getD a.toNat default).iY.toNat default).y+(l.p.ws.getD a.toNat default).aO)=(l.p.cs.getD (l.p.ws.getD a.toNat default).iY.toNat default).y+(l.p.ws.getD a.toNat default).aO:=aF (by omega);refine ah wF aQ ?_;simp only[wF,aQ,iZ,sK,jX,getD_map,f,g,h,i,ab,RN,H,O,U,V,qE,qF]
 repeat' first
  |(refine fG rfl rfl (AP _ (by omega)) ?_;try simp only[c,e,RN,H,O,U,V,qE,qF])
  |(refine aH (by rfl) (fun b=> ?_) (fun b=> ?_)<;>simp only[b,c,e,RN,H,O,U,V,qE,qF])
  |(refine aP (by rfl) (fun b=> ?_) (fun b=> ?_)<;>simp only[b,c,e,RN,H,O,U,V,qE,qF])
 all_goals(first|(simp only[Piece.Um,Piece.pt,Piece.wh, *,BSN];done)|(simp_all[Piece.Um,Piece.pt,Piece.wh];done)|(simp_all[Piece.Um,Piece.pt,Piece.wh];omega))
def CG (l:Laid)(hg:l.p.good)(a b:Int)(ha:l.p.isW a)(hb:l.p.isW b):Pure C 168 [dI a,dI b, .aV [dI l.p.w,dI l.p.h,dI l.p.pl,dI l.p.ga,dI l.p.po,sF (l.p.cs.map Pt.dv),sF (l.p.ws.map Wh.dv),sF (l.p.ms.map Ms.dv),
  .map (some (l.mm.map fun m=>(m.dv, .bool true))),sF (l.gone.map ay)]] (.d (.bool (l.p.post a b))) []:=by
 have k:=hg.po;have af5:=GV l hg a b ha hb;obtain⟨_,t1,t2,_⟩:=pz hg ha;obtain⟨c,e⟩:=ha;obtain⟨f,g⟩:=hb;have j:di .i64 ((l.p.ws.getD a.toNat default).aO+l.p.po)=(l.p.ws.getD a.toNat default).aO+l.p.po:=aF (by omega);refine ah rE Oh ?_;simp only[rE,Oh,jX,getD_map,c,e,f,g,ab,RN,H,O,U,V,qE,qF]
 repeat' first
  |(refine au (af5) ?_;try simp only[j,jX,getD_map,c,e,f,g,ab,RN,H,O,U,V,qE,qF])
  |(refine fG rfl rfl (AP _ (by omega)) ?_;try simp only[j,jX,getD_map,c,e,f,g,ab,RN,H,O,U,V,qE,qF])
  |(refine aH (by rfl) (fun i=> ?_) (fun i=> ?_)<;>simp only[i,j,jX,getD_map,c,e,f,g,ab,RN,H,O,U,V,qE,qF])
  |(refine aP (by rfl) (fun i=> ?_) (fun i=> ?_)<;>simp only[i,j,jX,getD_map,c,e,f,g,ab,RN,H,O,U,V,qE,qF])
 all_goals(first|(simp only[Piece.post,Piece.wh, *,BSN];done)|(simp_all[Piece.post,Piece.wh];done)|(simp_all[Piece.post,Piece.wh];omega))
def OX (l:Laid)(hg:l.p.good)(a b:Int)(ha:l.p.isW a)(hb:l.p.isW b):Pure C 99 [l.dv,dI a,dI b] (.d (.bool (l.p.JM a b))) []:=by
 refine ah uX iH ?_;simp only[uX,iH,iZ,RN,H,O,U,V,qE,qF]
 repeat' first
  |(refine au (ku l a b ha hb) ?_;try simp only[RN,H,O,U,V,qE,qF])
  |(refine nG rfl (by kernel_rfl) rfl (CG l hg a b ha hb) ?_;try simp only[RN,H,O,U,V,qE,qF])
  |(refine nG rfl (by kernel_rfl) rfl (CG l hg b a hb ha) ?_;try simp only[RN,H,O,U,V,qE,qF])
  |(refine aH (by rfl) (fun c=> ?_) (fun c=> ?_)<;>simp only[c,RN,H,O,U,V,qE,qF])
  |(refine aP (by rfl) (fun c=> ?_) (fun c=> ?_)<;>simp only[c,RN,H,O,U,V,qE,qF])
 all_goals(first|(simp only[Piece.JM, *,BSN];done)|(simp_all[Piece.JM];done)|(simp_all[Piece.JM];omega))
def iq (l:Laid):List DV:=[dI l.p.w,dI l.p.h,dI l.p.pl,dI l.p.ga,dI l.p.po,sF (l.p.cs.map Pt.dv),sF (l.p.ws.map Wh.dv),sF (l.p.ms.map Ms.dv),
  .map (some (l.mm.map fun m=>(m.dv, .bool true))),sF (l.gone.map ay)]
variable{a b:Int}
def aht:(if b<a then b else a)=min a b:=by split<;>omega
def ahs:(if b>a then b else a)=max a b:=by split<;>omega
def P9 (p:Piece)(gone:List Int){a b i o:Int}(h1:p.o9 a b=true)(h2:p.Fh a b=false)(c:p.level a b=false)(hi:(if(p.wh a).nD>(p.wh b).nD then b else a)=i)(ho:(if(p.wh a).nD>(p.wh b).nD then a else b)=o):
  p.nested gone a b=inR (p.wh i).layer ((p.bounds gone o 0 p.ws ((p.wh o).layer,(p.wh o).layer)).1+1) ((p.bounds gone o 0 p.ws ((p.wh o).layer,(p.wh o).layer)).2 - 1):=by
 simp only[Piece.nested,h1,h2,c,hi,ho,Bool.not_true,Bool.or_self,az,if_false]
def OW (l:Laid)(hg:l.p.good)(t:l.gone.length<=1000000)(a b:Int)(ha:l.p.isW a)(hb:l.p.isW b):Pure C 98 [l.dv,dI a,dI b] (.d (.bool (l.p.nested l.gone a b))) []:=by
 have y:=hg.lw;have ga:=pz hg ha;have z:=pz hg hb;obtain⟨k,m⟩:=id ha;obtain⟨n,q⟩:=id hb;refine ah uV iH ?_;simp only[uV,iH,iZ,RN,H,O,U,V,qE,qF]
 repeat' first
  |(refine au (ku l a b ha hb) ?_;try simp only[jX,getD_map,k,m,n,q,ab,RN,H,O,U,V,qE,qF])
  |(refine au (xP l a b ha hb) ?_;try simp only[jX,getD_map,k,m,n,q,ab,RN,H,O,U,V,qE,qF])
  |(refine au (wU l a b ha hb) ?_;try simp only[jX,getD_map,k,m,n,q,ab,RN,H,O,U,V,qE,qF])
  |(refine aH (by rfl) (fun e=> ?_) (fun e=> ?_)<;>simp only[e,jX,getD_map,k,m,n,q,ab,RN,H,O,U,V,qE,qF])
  |(refine aP (by rfl) (fun e=> ?_) (fun e=> ?_)<;>simp only[e,jX,getD_map,k,m,n,q,ab,RN,H,O,U,V,qE,qF])
 any_goals (simp_all[Piece.nested];done)
 all_goals have j:=e
 ·
  refine aG l.p.ws.length (fun i (r:Int×Int)=>⟨[(3, .d (.aV (iq l))),(7,pI b),(8,pI a),(9,pI r.1),(10,pI r.2),(65, .d (sF (l.p.ws.map Wh.dv))),(66,pI l.p.ws.length),(67,pI i)],⟨[some ((iq l).map .d)],[0],[]⟩⟩)
   (fun i r=>l.p.bounds l.gone a 0 l.p.ws ((l.p.wh a).layer,(l.p.wh a).layer)=l.p.bounds l.gone a i (l.p.ws.drop i) r/\(0<=r.1/\r.1<=1000)/\0<=r.2/\r.2<=1000) 0 ((l.p.wh a).layer,(l.p.wh a).layer) (ap _) rfl ⟨rfl,by simp only[Piece.wh];omega,by simp only[Piece.wh];omega⟩ (fun i r h1 c=> ?_) (fun r c=> ?_)
  ·obtain⟨h2,s,h⟩:=rng h1 (by omega)
   obtain⟨c,f,g⟩:=c;rw[drop_cons h1,Piece.bounds]at c;have v:=hg.ws _ (getD_mem h1);have u:l.p.isW (i:Int):=⟨s,by simpa using h1⟩
   simp only[h2,s,h1,getD_map,ae,ab,jX,iq,RN,H,O,U,V,qE,qF]
   repeat' first
    |(refine au (xP l i a u ha) ?_;try simp only[h,RN,H,O,U,V,qE,qF])
    |(refine au (zC _ _ t) ?_;try simp only[h,RN,H,O,U,V,qE,qF])
    |(refine aH (by rfl) (fun e=> ?_) (fun e=> ?_)<;>simp only[e,h,RN,H,O,U,V,qE,qF])
    |(refine aP (by rfl) (fun e=> ?_) (fun e=> ?_)<;>simp only[e,h,RN,H,O,U,V,qE,qF])
   ·refine bK 1 0 (min r.1 (l.p.ws.getD i default).layer,max r.2 (l.p.ws.getD i default).layer) h1 ?_ ⟨?_,by simp only;omega,by simp only;omega⟩ (by simp) (by simp) rfl rfl
    ·simp only[aht,ahs];rfl
    ·rw[c,if_pos (by simp only[*,cE])]
   ·refine bK 1 0 r h1 rfl ⟨?_,f,g⟩ (by simp) (by simp) rfl rfl
    rw[c,if_neg (by simp_all)]
   ·refine bK 1 0 r h1 rfl ⟨?_,f,g⟩ (by simp) (by simp) rfl rfl
    rw[c,if_neg (by simp_all)]
  ·obtain⟨c,f,g⟩:=c
   rw[aw,Piece.bounds]at c;have w:di .i64 (r.1+1)=r.1+1:=aF (by omega);have x:di .i64 (r.2 - 1)=r.2 - 1:=aF (by omega);simp only[av,iq,getD_map,n,q,jX,ab,w,x,RN,H,O,U,V,qE,qF];refine au (Ns _ _ _) ?_;rw[P9 l.p l.gone (by simp_all) (by simp_all) (by simp_all) (i:=b) (o:=a) (by rw[if_pos];simpa[Piece.wh]using j) (by rw[if_pos];simpa[Piece.wh]using j),c]
   rfl
 ·
  refine aG l.p.ws.length (fun i (r:Int×Int)=>⟨[(3, .d (.aV (iq l))),(7,pI a),(8,pI b),(9,pI r.1),(10,pI r.2),(65, .d (sF (l.p.ws.map Wh.dv))),(66,pI l.p.ws.length),(67,pI i)],⟨[some ((iq l).map .d)],[0],[]⟩⟩)
   (fun i r=>l.p.bounds l.gone b 0 l.p.ws ((l.p.wh b).layer,(l.p.wh b).layer)=l.p.bounds l.gone b i (l.p.ws.drop i) r/\(0<=r.1/\r.1<=1000)/\0<=r.2/\r.2<=1000) 0 ((l.p.wh b).layer,(l.p.wh b).layer) (ap _) rfl ⟨rfl,by simp only[Piece.wh];omega,by simp only[Piece.wh];omega⟩ (fun i r h1 c=> ?_) (fun r c=> ?_)
  ·obtain⟨h2,s,h⟩:=rng h1 (by omega)
   obtain⟨c,f,g⟩:=c;rw[drop_cons h1,Piece.bounds]at c;have v:=hg.ws _ (getD_mem h1);have u:l.p.isW (i:Int):=⟨s,by simpa using h1⟩
   simp only[h2,s,h1,getD_map,ae,ab,jX,iq,RN,H,O,U,V,qE,qF]
   repeat' first
    |(refine au (xP l i b u hb) ?_;try simp only[h,RN,H,O,U,V,qE,qF])
    |(refine au (zC _ _ t) ?_;try simp only[h,RN,H,O,U,V,qE,qF])
    |(refine aH (by rfl) (fun e=> ?_) (fun e=> ?_)<;>simp only[e,h,RN,H,O,U,V,qE,qF])
    |(refine aP (by rfl) (fun e=> ?_) (fun e=> ?_)<;>simp only[e,h,RN,H,O,U,V,qE,qF])
   ·refine bK 1 0 (min r.1 (l.p.ws.getD i default).layer,max r.2 (l.p.ws.getD i default).layer) h1 ?_ ⟨?_,by simp only;omega,by simp only;omega⟩ (by simp) (by simp) rfl rfl
    ·simp only[aht,ahs];rfl
    ·rw[c,if_pos (by simp only[*,cE])]
   ·refine bK 1 0 r h1 rfl ⟨?_,f,g⟩ (by simp) (by simp) rfl rfl
    rw[c,if_neg (by simp_all)]
   ·refine bK 1 0 r h1 rfl ⟨?_,f,g⟩ (by simp) (by simp) rfl rfl
    rw[c,if_neg (by simp_all)]
  ·obtain⟨c,f,g⟩:=c
   rw[aw,Piece.bounds]at c;have w:di .i64 (r.1+1)=r.1+1:=aF (by omega);have x:di .i64 (r.2 - 1)=r.2 - 1:=aF (by omega);simp only[av,iq,getD_map,k,m,jX,ab,w,x,RN,H,O,U,V,qE,qF];refine au (Ns _ _ _) ?_;rw[P9 l.p l.gone (by simp_all) (by simp_all) (by simp_all) (i:=a) (o:=b) (by rw[if_neg];simpa[Piece.wh]using j) (by rw[if_neg];simpa[Piece.wh]using j),c]
   rfl
def Io (l:Laid)(hg:l.p.good)(hf:l.fine)(v:l.gone.length<=1000000)(a b:Int)(ha:l.p.isW a)(hb:l.p.isW b):Pure C 38 [l.dv,dI a,dI b] (pI (l.p.wrong l.gone a b)) []:=by
 refine ah oq iH ?_
 by_cases hab:a=b
 ·subst hab
  simp only[oq,iH,iZ,beq_self_eq_true,RN,H,O,U,V,qE,qF]
  repeat' first
   |(refine au (RG l hg a ha) ?_;try simp only[RN,H,O,U,V,qE,qF])
   |(refine aH (by rfl) (fun c=> ?_) (fun c=> ?_)<;>simp only[c,RN,H,O,U,V,qE,qF])
   |(refine aP (by rfl) (fun c=> ?_) (fun c=> ?_)<;>simp only[c,RN,H,O,U,V,qE,qF])
  all_goals(first|(simp only[Piece.wrong, *,BSN];done)|(simp_all[Piece.wrong];done)|(simp_all[Piece.wrong];omega))
 ·have w:(a==b)=false:=by simpa using hab
  simp only[oq,iH,iZ,w,RN,H,O,U,V,qE,qF];refine aG 5 (fun i (_:Unit)=>⟨[(1,pI a),(2,pI b),(25, .d (.agg [.func (.func 95) [l.dv] [], .func (.func 96) [l.dv] [], .func (.func 97) [l.dv] [], .func (.func 98) [l.dv] [], .func (.func 99) [l.dv] []])),(26,pI i)],⟨[some ((iq l).map .d)],[0],[]⟩⟩)
   (fun i _=>(0<i->l.p.apart a b=false)/\(1<i->l.p.touch a b=false)/\(2<i->l.p.same a b=false)/\(3<i->l.p.nested l.gone a b=false)/\(4<i->l.p.JM a b=false)) 0 () (by decide) rfl ⟨by omega,by omega,by omega,by omega,by omega⟩ (fun i _ h1 u=> ?_) (fun _ u=> ?_)
  ·obtain⟨g,h,j,m,t⟩:=u
   have n:((0:Nat):Int)=0:=rfl;have o:((1:Nat):Int)=1:=rfl;have q:((2:Nat):Int)=2:=rfl;have r:((3:Nat):Int)=3:=rfl;have s:((4:Nat):Int)=4:=rfl;have k:((5:Nat):Int)=5:=rfl
   rcases i with _| _| _| _| _|i
   ·have e:di .i64 ((0:Int)+1)=1:=by decide
    have f:di .i64 (2+(0:Int))=2:=by decide
    simp only[iq,O,br,n,o,q,r,s,k,b9,b8,ck,bw,bt,bR,ce,cl,bX,RN,H,O,U,V,qE,qF]
    repeat' first
     |(refine nG rfl (by kernel_rfl) rfl (RD l hg hf a b ha hb) ?_;try simp only[e,f,RN,H,O,U,V,qE,qF])
     |(refine aH (by rfl) (fun c=> ?_) (fun c=> ?_)<;>simp only[c,e,f,RN,H,O,U,V,qE,qF])
     |(refine aP (by rfl) (fun c=> ?_) (fun c=> ?_)<;>simp only[c,e,f,RN,H,O,U,V,qE,qF])
    ·simp only[Piece.wrong,if_neg hab,c,if_true,if_false,az]
    ·exact dX () h1 rfl ⟨by first|exact fun _=>trivial|exact fun _=>c|(intro _;trivial),by omega,by omega,by omega,by omega⟩ (by simp) (by simp) rfl rfl
   ·have e:di .i64 ((1:Int)+1)=2:=by decide
    have f:di .i64 (2+(1:Int))=3:=by decide
    simp only[iq,O,br,n,o,q,r,s,k,b9,b8,ck,bw,bt,bR,ce,cl,bX,RN,H,O,U,V,qE,qF]
    repeat' first
     |(refine nG rfl (by kernel_rfl) rfl (RH l hg hf a b ha hb) ?_;try simp only[e,f,RN,H,O,U,V,qE,qF])
     |(refine aH (by rfl) (fun c=> ?_) (fun c=> ?_)<;>simp only[c,e,f,RN,H,O,U,V,qE,qF])
     |(refine aP (by rfl) (fun c=> ?_) (fun c=> ?_)<;>simp only[c,e,f,RN,H,O,U,V,qE,qF])
    ·simp only[Piece.wrong,if_neg hab,g (by omega),c,if_true,if_false,az]
    ·exact dX () h1 rfl ⟨fun _=>g (by omega),by first|exact fun _=>trivial|exact fun _=>c|(intro _;trivial),by omega,by omega,by omega⟩ (by simp) (by simp) rfl rfl
   ·have e:di .i64 ((2:Int)+1)=3:=by decide
    have f:di .i64 (2+(2:Int))=4:=by decide
    simp only[iq,O,br,n,o,q,r,s,k,b9,b8,ck,bw,bt,bR,ce,cl,bX,RN,H,O,U,V,qE,qF]
    repeat' first
     |(refine nG rfl (by kernel_rfl) rfl (U3 l a b ha hb) ?_;try simp only[e,f,RN,H,O,U,V,qE,qF])
     |(refine aH (by rfl) (fun c=> ?_) (fun c=> ?_)<;>simp only[c,e,f,RN,H,O,U,V,qE,qF])
     |(refine aP (by rfl) (fun c=> ?_) (fun c=> ?_)<;>simp only[c,e,f,RN,H,O,U,V,qE,qF])
    ·simp only[Piece.wrong,if_neg hab,g (by omega),h (by omega),c,if_true,if_false,az]
    ·exact dX () h1 rfl ⟨fun _=>g (by omega),fun _=>h (by omega),by first|exact fun _=>trivial|exact fun _=>c|(intro _;trivial),by omega,by omega⟩ (by simp) (by simp) rfl rfl
   ·have e:di .i64 ((3:Int)+1)=4:=by decide
    have f:di .i64 (2+(3:Int))=5:=by decide
    simp only[iq,O,br,n,o,q,r,s,k,b9,b8,ck,bw,bt,bR,ce,cl,bX,RN,H,O,U,V,qE,qF]
    repeat' first
     |(refine nG rfl (by kernel_rfl) rfl (OW l hg v a b ha hb) ?_;try simp only[e,f,RN,H,O,U,V,qE,qF])
     |(refine aH (by rfl) (fun c=> ?_) (fun c=> ?_)<;>simp only[c,e,f,RN,H,O,U,V,qE,qF])
     |(refine aP (by rfl) (fun c=> ?_) (fun c=> ?_)<;>simp only[c,e,f,RN,H,O,U,V,qE,qF])
    ·simp only[Piece.wrong,if_neg hab,g (by omega),h (by omega),j (by omega),c,if_true,if_false,az]
    ·exact dX () h1 rfl ⟨fun _=>g (by omega),fun _=>h (by omega),fun _=>j (by omega),by first|exact fun _=>trivial|exact fun _=>c|(intro _;trivial),by omega⟩ (by simp) (by simp) rfl rfl
   ·have e:di .i64 ((4:Int)+1)=5:=by decide
    have f:di .i64 (2+(4:Int))=6:=by decide
    simp only[iq,O,br,n,o,q,r,s,k,b9,b8,ck,bw,bt,bR,ce,cl,bX,RN,H,O,U,V,qE,qF]
    repeat' first
     |(refine nG rfl (by kernel_rfl) rfl (OX l hg a b ha hb) ?_;try simp only[e,f,RN,H,O,U,V,qE,qF])
     |(refine aH (by rfl) (fun c=> ?_) (fun c=> ?_)<;>simp only[c,e,f,RN,H,O,U,V,qE,qF])
     |(refine aP (by rfl) (fun c=> ?_) (fun c=> ?_)<;>simp only[c,e,f,RN,H,O,U,V,qE,qF])
    ·simp only[Piece.wrong,if_neg hab,g (by omega),h (by omega),j (by omega),m (by omega),c,if_true,if_false,az]
    ·exact dX () h1 rfl ⟨fun _=>g (by omega),fun _=>h (by omega),fun _=>j (by omega),fun _=>m (by omega),by first|exact fun _=>trivial|exact fun _=>c|(intro _;trivial)⟩ (by simp) (by simp) rfl rfl
   ·omega
  ·obtain⟨g,h,j,m,t⟩:=u
   have g:=g (by omega);have h:=h (by omega);have j:=j (by omega);have m:=m (by omega);have t:=t (by omega);have k:((5:Nat):Int)=5:=rfl;simp only[iq,k,av,RN,H,O,U,V,qE,qF];simp only[Piece.wrong,if_neg hab,g,h,j,m,t,if_false,az]
def Piece.Zj (h:p.ok=true):(1<=p.cs.length/\p.cs.length<=6)/\p.ws.length<=8/\p.ms.length<=10:=by
 simp only[Piece.ok,Piece.Bq,inR,aq,decide_eq_true_eq,cK,decide_eq_false_iff_not,ge_iff_le,gt_iff_lt]at h;omega
def Qm {w h:Int}:∀{pre cs:List Pt},AA w h pre cs=true->∀c∈cs,0<=c.x/\c.x<=w/\0<=c.y/\c.y<=h
 | _,[],_,c,a=>by cases a
 |pre,d::cs,b,c,a=>by
  simp only[AA,inR,aq,decide_eq_true_eq,ge_iff_le]at b
  rcases bS.1 a with rfl|a
  ·omega
  ·exact Qm b.2 c a
def Piece.IB (h:p.ok=true):p.good:=by
 have e:=Piece.Zj h;simp only[Piece.ok,Piece.DL,aq]at h;obtain⟨⟨⟨⟨hh,_⟩,d⟩,f⟩,hw⟩:=h;simp only[inR,aq,decide_eq_true_eq,ge_iff_le]at hh;refine⟨fun c b=> ?_,fun w a=> ?_,by omega,by omega,by omega,by omega,by omega,by omega⟩
 ·have:=Qm d c b
  omega
 ·have:=cn.1 hw w a
  simp only[FH,inR,aq,decide_eq_true_eq,ge_iff_le]at this;omega
def Piece.NP (h:p.ok=true):∀w∈p.ws,4<=w.aO/\w.aO<=50/\0<=w.layer/\w.layer<=5/\0<=w.nD/\w.nD<=2:=by
 simp only[Piece.ok,aq]at h;intro w hw;have:=cn.1 h.2 w hw;simp only[FH,inR,aq,decide_eq_true_eq,ge_iff_le]at this;omega
def Piece.ctr (p:Piece)(w:Wh):Pt:=p.cs.getD w.iY.toNat default
def Piece.xs (p:Piece):List Wh->List Int
 | []=>[]
 |w::ws=>((p.ctr w).x - w.aO)::((p.ctr w).x+w.aO)::Piece.xs p ws
def Piece.ys (p:Piece):List Wh->List Int
 | []=>[]
 |w::ws=>((p.ctr w).y - w.aO)::((p.ctr w).y+w.aO)::Piece.ys p ws
def maxL (l:List Int):Int:=(l.drop 1).foldl max (l.getD 0 default)
def minL (l:List Int):Int:=(l.drop 1).foldl min (l.getD 0 default)
def Piece.frame (p:Piece):Int×Int×Int:=
 if p.ok then(if p.ws.length=0 then(0,0,5)else(maxL (p.xs p.ws) - minL (p.xs p.ws),maxL (p.ys p.ws) - minL (p.ys p.ws),0))else(0,0,2)
def take_snoc {α:Type}[Inhabited α]{l:List α}{i:Nat}(h:i<l.length):l.take (i+1)=l.take i++ [l.getD i default]:=by
 rw[List.take_add_one,aL h,ao,aL h];rfl
variable{k v s:Nat}
def aci {l:List PV}:gU (.tsl k v s::l)=none:=rfl
def aau (xs:List DV)(hf:∀y∈xs,y.fits 2=true)(hl:xs.length<=1000000):Pure C 143 [.slice false xs] (.tsl 0 0 0) [⟨2,xs,0,0⟩]:=by
 refine iF kC aS ?_;simp only[kC,aS,RN,H,O,U,V,qE,qF];refine⟨fun a=> ?_,fun a b=> ?_⟩
 ·exact⟨hf,by simp,by simp,by omega,jL (k:=1) (A:=⟨2,xs,0,0⟩) rfl rfl (ap _) rfl⟩
 ·subst a
  cases b
  ·(try simp only[RN,H,O,U,V,qE,qF])
   refine⟨?_,?_,?_,jL (k:=1) (A:=⟨2,[],0,0⟩) rfl rfl (ap _) rfl⟩<;>simp
  ·(try simp only[RN,H,O,U,V,qE,qF])
   exact jL (k:=1) (A:=⟨2,[],0,0⟩) rfl rfl (ap _) rfl
def aav (xs:List DV)(hf:∀y∈xs,y.fits 4=true)(hl:xs.length<=1000000):Pure C 144 [.slice false xs] (.tsl 0 0 0) [⟨4,xs,0,0⟩]:=by
 refine iF kD aS ?_;simp only[kD,aS,RN,H,O,U,V,qE,qF];refine⟨fun a=> ?_,fun a b=> ?_⟩
 ·exact⟨hf,by simp,by simp,by omega,jL (k:=1) (A:=⟨4,xs,0,0⟩) rfl rfl (ap _) rfl⟩
 ·subst a
  cases b
  ·(try simp only[RN,H,O,U,V,qE,qF])
   refine⟨?_,?_,?_,jL (k:=1) (A:=⟨4,[],0,0⟩) rfl rfl (ap _) rfl⟩<;>simp
  ·(try simp only[RN,H,O,U,V,qE,qF])
   exact jL (k:=1) (A:=⟨4,[],0,0⟩) rfl rfl (ap _) rfl
def aat (xs:List DV)(hf:∀y∈xs,y.fits 2=true)(hl:xs.length<=1000000):Pure C 145 [.slice false xs] (.tsl 0 0 0) [⟨2,xs,0,0⟩]:=by
 refine iF kN aS ?_;simp only[kN,aS,RN,H,O,U,V,qE,qF];refine⟨fun a=> ?_,fun a b=> ?_⟩
 ·exact⟨hf,by simp,by simp,by omega,jL (k:=1) (A:=⟨2,xs,0,0⟩) rfl rfl (ap _) rfl⟩
 ·subst a
  cases b
  ·(try simp only[RN,H,O,U,V,qE,qF])
   refine⟨?_,?_,?_,jL (k:=1) (A:=⟨2,[],0,0⟩) rfl rfl (ap _) rfl⟩<;>simp
  ·(try simp only[RN,H,O,U,V,qE,qF])
   exact jL (k:=1) (A:=⟨2,[],0,0⟩) rfl rfl (ap _) rfl
def agI (xs:List Pt):∀y∈xs.map Pt.dv,y.fits 2=true:=by
 intro y a;obtain⟨n,_,rfl⟩:=ca.1 a;rfl
def ahe (xs:List Wh):∀y∈xs.map Wh.dv,y.fits 4=true:=by
 intro y a;obtain⟨n,_,rfl⟩:=ca.1 a;rfl
def agz (xs:List Ms):∀y∈xs.map Ms.dv,y.fits 2=true:=by
 intro y a;obtain⟨n,_,rfl⟩:=ca.1 a;rfl
def Piece.with (p:Piece)(at_:Pt)(layer aO:Int)(a:List Int):Piece:=
 {p with cs:=p.cs++ [at_],ws:=p.ws++ [⟨p.cs.length,0,layer,aO⟩],ms:=p.ms++a.map fun m=>⟨m,p.ws.length⟩}
def SQ {n k v s:Nat}:PV.shift n (.tsl k v s)= .tsl (n+k) v s:=rfl
def YW:PV.cells (.tsl k v s)=[.tsl k v s]:=rfl
def Zk:PV.one (.tsl k v s)=true:=rfl
variable{sz:Nat}
def aaM {C:Ctx}{z:DV}:ak C base (.dA sz [z] [0]) [.d (.agg [dI a,dI b])] M K KP=(2=sz/\K (.d (.slice true [.agg [dI a,dI b]])) M):=by
 rw[dV];rfl
def NJ {α:Type}{f:α->α}{a:α}:∀{l:List α} {k:Nat},(l.set k a).modify k f=l.set k (f a)
 | [],k=>by simp
 |x::l,0=>by simp
 |x::l,k+1=>by simp only[List.set_cons_succ,List.modify_succ_cons,NJ]
variable{ar:List (Option Arr)}
def YZ {C:Ctx}{bs:List (Option (List PV))}{fz:List Nat}{ver skip st:Nat}{xs ys:List DV}{ex:Bool}(h:ar[k]?=some (some ⟨sz,xs,ver,st⟩))(a:st≠2)(b:0<sz)(hf:∀y∈ys,y.fits sz=true)
  (hl:xs.length+ys.length<=1073741824)(c:K (.d (sF (xs.drop skip++ys))) ⟨bs,fz,ar.set k (some ⟨sz,xs.drop skip++ys,ver+1,2⟩)⟩):ak C base (.QN sz) [.tsl k ver skip, .d (.slice ex ys)] ⟨bs,fz,ar⟩ K KP:=by
 have f:k<ar.length:=(a7.1 h).1;simp only[ak,acp,h,TG];refine⟨b,hf,fun hh=>(by cases hh),trivial,trivial,a,hl,DV.slice false (xs.drop skip++ys),?_,?_⟩
 ·simp[datum,Lh,f]
 ·have e:(⟨bs,fz,ar.set k (some ⟨sz,xs.drop skip++ys,ver+1,bif false then 1 else st⟩)⟩:Mem).frz [.tsl k (ver+1) 0]=⟨bs,fz,ar.set k (some ⟨sz,xs.drop skip++ys,ver+1,2⟩)⟩:=by
   simp only[Mem.frz,kG,kF,cM,cQ,b6,bz,FB,cV,c6,NJ,bA]
  rw[e];exact c
def ae8 (p:Piece)(at_:Pt)(layer aO:Int)(a:List Int)(hc:p.cs.length<=1000)(hw:p.ws.length<=1000)(f:p.ms.length<=1000)(ho:a.length<=1000):
  Pure C 80 [p.dv,at_.dv,dI layer,dI aO,sF (a.map ay)] (.d (p.with at_ layer aO a).dv) []:=by
 refine O4 mixed rfl OZ ?_;have b:di .i64 (((p.cs.length+1:Nat):Int) - 1)=p.cs.length:=by rw[aF (by omega)];omega
 simp only[F8,aes,fD,sK,ab,RN,H,O,U,V,qE,qF];refine pR rfl rfl (aau _ (agI p.cs) (by simp;omega)) (by simp) ?_;simp only[SQ,bi,br,aD,bq,bz];refine⟨rfl,YZ rfl (by decide) (by decide) (by simp[DV.strip,DV.fits,DV.cells,DV.one]) (by simp;omega) ?_⟩;simp only[ab,DV.strip,ax,RN,H,O,U,V,qE,qF];refine pR rfl rfl (aav _ (ahe p.ws) (by simp;omega)) (by simp) ?_;simp only[SQ,b,ax,ab,RN,H,O,U,V,qE,qF];refine YZ rfl (by decide) (by decide) (by simp[DV.fits,DV.cells,DV.one]) (by simp;omega) ?_;simp only[ab,DV.strip,ax,RN,H,O,U,V,qE,qF];refine pR rfl rfl (aat _ (agz p.ms) (by simp;omega)) (by simp) ?_;simp only[SQ,ab,YW,Zk,RN,H,O,U,V,qE,qF];refine aG a.length (fun i (_:Unit)=>⟨[(5, .ptr 0 0),(10, .ptr 2 0),(11,pI p.ws.length),(41, .d (sF (a.map ay))),(42,pI a.length),(43,pI i)],
   ⟨[some [pI p.w,pI p.h,pI p.pl,pI p.ga,pI p.po, .d (sF (p.cs.map Pt.dv++ [.agg [dI at_.x,dI at_.y]])), .d (sF (p.ws.map Wh.dv++ [.agg [dI p.cs.length,dI 0,dI layer,dI aO]])), .tsl 2 i 0],
    some [pI at_.x,pI at_.y],some [pI 0,pI 0,pI 0,pI 0,pI 0, .d (.slice true []), .d (.slice true []), .d (.slice true [])]],[1],
    [some ⟨2,p.cs.map Pt.dv++ [.agg [dI at_.x,dI at_.y]],1,2⟩,some ⟨4,p.ws.map Wh.dv++ [.agg [dI p.cs.length,dI 0,dI layer,dI aO]],1,2⟩,some ⟨2,p.ms.map Ms.dv++(a.take i).map (fun m=>Ms.dv ⟨m,p.ws.length⟩),i,0⟩]⟩⟩)
  (fun _ _=>True) 0 () (ap _) (by simp) trivial (fun i _ h1 _=> ?_) (fun _ _=> ?_)
 ·obtain⟨h2,c,e⟩:=rng h1 (by omega)
  simp only[h2,c,h1,e,getD_map,ae,ab,aZ,aaM,forall_eq,ax,YW,Zk,RN,H,O,U,V,qE,qF];refine⟨rfl,rfl,fun hh=>(by cases hh),(by simp;omega),?_⟩;refine dX () h1 ?_ trivial (by simp) (by simp) rfl rfl;rw[take_snoc h1,cr,<-List.append_assoc]
  rfl
 ·simp only[av,List.take_length,ab,aci,bp,dB,PV.cells,Zk,RN,H,O,U,V,qE,qF]
  simp[datum,bW,dS,Lh,fD,Piece.with,sK,jX]
def dvL (l:List Int):DV:=sF (l.map ay)
def FI (o:PV)(ar:List (Option Arr))(a:List (List Int)):Prop:=
 (o= .d (.slice true [])/\a=[])\/∃k ver,o= .tsl k ver 0/\ar[k]?=some (some ⟨1,a.map dvL,ver,0⟩)
def FI.upto {o:PV}{ar:List (Option Arr)}{a:List (List Int)}(h:FI o ar a)(n:Nat):o.upto n ar.length=true:=by
 rcases h with⟨rfl,_⟩|⟨k,ver,rfl,h⟩
 ·rfl
 ·simpa[PV.upto]using(a7.1 h).1
def FI.one {o:PV}{ar:List (Option Arr)}{a:List (List Int)}(h:FI o ar a):o.cells=[o]/\o.one=true:=by
 rcases h with⟨rfl,_⟩|⟨k,ver,rfl,_⟩<;>exact⟨rfl,rfl⟩
def FI.more {o:PV}{a:List (List Int)}(h:FI o ar a)(x:List (Option Arr)):FI o (ar++x) a:=by
 rcases h with h|⟨k,ver,rfl,h⟩
 ·exact .inl h
 ·exact .inr ⟨k,ver,rfl,by rw[ch (a7.1 h).1];exact h⟩
def FI.set {o:PV}{ar:List (Option Arr)}{a:List (List Int)}(h:FI o ar a){x y:Option Arr}:FI o ((ar++ [x]).set ar.length y) a:=by
 have:=h.more [y]
 simpa using this
end Go.Tel
namespace Go.Am
def Em {C:Ctx}(u:C.P.follows .mixedOrders=true){f:FuncId}{ds:List DV}{x:DV}{pc:aA}{m:List iw}{a:Nat}(z:(ds.map PV.d).length=a)(hc:zL C.P f a pc m=true)
  (h:pwp C 0 0 pc (LG m (fun p M=>∃y,datum M p=some y/\y.strip=x) (fun _ _=>False)) ⟨qw 0 (ds.map .d),bg⟩):Pure C f ds (.d x) []:=by
 have j:SC C f (ds.map .d) bg (fun p M=>∃y,datum M p=some y/\y.strip=x) (fun _ _=>False):=AL u z hc h;intro X w g s t D B;refine(j X w ⟨[],[]⟩ g (AO s t D) (aK.ofD (B.weaken ql))).mono fun e E i=> ?_
 cases e with
 |returned v=>
  obtain⟨p,k,n,⟨y,hd,rfl⟩,h2,o,r⟩:=i;have l:uP k []:=⟨fun q A=>(by cases A),List.nodup_nil⟩
  exact⟨v,_,rfl,Jh h2 l,DI o l, .d (((je (ps:=[p]) h2 r hd (by simp)).weaken fun b hb=> .inl (ql b hb)).strip)⟩
 |panicked c=>
  obtain⟨v,d,k,n,_,hh,_⟩:=i;exact hh.elim
 |outgrown=>exact i.elim
end Go.Am
namespace Go.Tel
open Go.Am
def upTo (n:Nat):List Int:=(List.range n).map Int.ofNat
def AQ (n:Nat):(upTo n).length=n:=by simp[upTo]
def Laid.cells (l:Laid):List DV:=[dI l.p.w,dI l.p.h,dI l.p.pl,dI l.p.ga,dI l.p.po,sF (l.p.cs.map Pt.dv),sF (l.p.ws.map Wh.dv),sF (l.p.ms.map Ms.dv),
  .map (some (l.mm.map fun m=>(m.dv, .bool true))),sF (l.gone.map ay)]
def J5 {n i:Nat}(h:i<n):(upTo n).getD i default=i:=by
 simp[upTo,ao,h]
def ahd {n:Nat}(h:n<=1000000):di .i64 ((n:Int)+1)=((n+1:Nat):Int):=by rw[aF (by omega)];omega
def Ip:List Ms->List Ms->List Ms
 |mm,[]=>mm
 |mm,m::l=>Ip (if mm.contains m then mm else mm++ [m]) l
def DT (x:Ms):∀(l mm:List Ms),(Ip mm l).contains x=(mm.contains x||l.contains x)
 | [],mm=>by simp[Ip]
 |m::l,mm=>by
  rw[Ip,DT x l]
  by_cases h:mm.contains m=true
  ·rw[if_pos h,bo]
   by_cases a:x=m
   ·subst a;rw[h];simp
   ·have:(x==m)=false:=by simp[a]
    rw[this,cF]
  ·rw[if_neg h,bo,List.contains_append,bo,List.contains_nil,db,Bool.or_assoc]
def Piece.laid (p:Piece)(gone:List Int):Laid:=⟨p,Ip [] p.ms,gone⟩
def Piece.PY (p:Piece)(gone:List Int):(p.laid gone).fine:=fun m=>by rw[Piece.laid,DT];rfl
def ajv:Prop:=∀(p:Piece) (gone:List Int),p.ms.length<=1000->gone.length<=1000->Pure C 37 [p.dv,sF (gone.map ay)] (.d (p.laid gone).dv) []
structure Flt where
 a:Int
 b:Int
 kind:Int
 deriving DecidableEq,Inhabited
def Flt.dv (f:Flt):DV:= .agg [dI f.a,dI f.b,dI f.kind]
end Go.Tel
namespace Go.Am
variable{K:St->Prop}{t:Nat}{ts:List Nat}{env:List (Nat×PV)}
def adf {x:DV}{M:Mem}:Ii (.d x) t ts K env M=qW ts K ⟨(t, .d x)::env,M⟩:=by
 simp only[Ii,datum];rw[show M.frz [PV.d x]=M from zT (ds:=[x])]
def adg {k ver skip sz st:Nat}{xs:List DV}{bs:List (Option (List PV))}{fz:List Nat}{ar:List (Option Arr)}(h:ar[k]?=some (some ⟨sz,xs,ver,st⟩))
  (b:qW ts K ⟨(t, .d (sF (xs.drop skip)))::env,⟨bs,fz,ar.set k (some ⟨sz,xs,ver,2⟩)⟩⟩):Ii (.tsl k ver skip) t ts K env ⟨bs,fz,ar⟩:=by
 have c:=(a7.1 h).1;simp only[Ii,aaB h rfl];have e:(⟨bs,fz,ar⟩:Mem).frz [.tsl k ver skip]=⟨bs,fz,ar.set k (some ⟨sz,xs,ver,2⟩)⟩:=by
  simp only[Mem.frz,kG,kF,cM,cQ,b6,bz,FB,cV,c6]
  congr 1
  apply cL;intro i;rw[List.getElem?_modify,cN]
  by_cases a:k=i
  ·subst a
   simp[h,c];exact⟨_,(a7.1 h).2,rfl,rfl,rfl⟩
  ·simp[a]
 rw[e];exact b
end Go.Am
namespace Go.Tel
open Go.Am
def Qk:aA:=(.loop (.seq (.region false [⟨some 82, .bin .lss,[.t 81, .t 80],none,0⟩] 0 [1,2,4,8,10,11,80,81,82] []) (.seq (.cond (.t 82) .skip (.exit 0)) (.seq (.block 1 (.seq (.region false [⟨some 83, .mov,[.t 81],none,0⟩,⟨some 12, .mov,[.t 83],none,0⟩] 0 [1,2,4,8,10,11,12,80,81] []) (.scope (.seq (.label 0) (.seq (.region false [⟨some 84, .fld 1,[.t 4],none,0⟩,⟨some 85, .load false 1,[.t 84],none,0⟩,⟨some 86, .bin .add,[.t 85, .c (dI 1)],none,0⟩,⟨some 87, .mov,[.c (dI 0)],none,0⟩] 0 [1,2,4,8,10,11,12,80,81,86,87] []) (.block 2 (.loop (.seq (.region false [⟨some 88, .bin .lss,[.t 87, .t 86],none,0⟩] 0 [1,2,4,8,10,11,12,80,81,86,87,88] []) (.seq (.cond (.t 88) .skip (.exit 2)) (.seq (.block 3 (.seq (.region false [⟨some 89, .mov,[.t 87],none,0⟩,⟨some 13, .mov,[.t 89],none,0⟩] 0 [1,2,4,8,10,11,12,13,80,81,86,87] []) (.seq (.region false [⟨some 90, .mov,[.t 12],none,0⟩,⟨some 91, .mov,[.t 13],none,0⟩,⟨some 92, .build [dI 0,dI 0] [(0,1),(1,1)],[.t 90, .t 91],none,0⟩,⟨some 14, .alloc 0 [dI 0,dI 0],[],none,0⟩,⟨none, .store 2,[.t 14, .t 92],none,0⟩] 1 [1,2,4,8,10,11,12,14,80,81,86,87] [14]) (.seq (.seq (.region false [⟨some 93, .fld 5,[.t 4],none,0⟩,⟨some 94, .load false 1,[.t 93],none,0⟩,⟨some 95, .load true 2,[.t 14],none,0⟩,⟨some 96, .aj 79,[.t 94, .t 95],none,0⟩] 0 [1,2,4,8,10,11,12,14,80,81,86,87,96] []) (.cond (.t 96) (.exit 3) .skip)) (.seq (.region true [⟨some 97, .load true 8,[.t 4],none,1⟩,⟨some 98, .load true 2,[.t 14],none,1⟩,⟨some 99, .fld 6,[.t 4],none,1⟩,⟨some 100, .load false 1,[.t 99],none,1⟩,⟨some 101, .mov,[.t 2],none,0⟩,⟨some 102, .bU 4,[.t 100, .t 101],none,1⟩,⟨some 103, .fld 2,[.t 102],none,1⟩,⟨some 104, .load false 1,[.t 103],none,1⟩,⟨some 105, .mov,[.t 1],none,0⟩,⟨some 106, .mov,[.t 10],none,0⟩,⟨some 107, .nZ 80,[.t 97, .t 98, .t 104, .t 105, .t 106],none,1⟩,⟨some 108, .aj 37,[.t 107, .c (.slice true [])],none,0⟩,⟨some 15, .alloc 0 [dI 0,dI 0,dI 0,dI 0,dI 0, .slice true [], .slice true [], .slice true [], .map none, .slice true []],[],none,0⟩,⟨none, .store 10,[.t 15, .t 108],none,4⟩] 1 [1,2,4,8,10,11,12,14,15,80,81,86,87] [15]) (.seq (.seq (.region false [⟨some 109, .mov,[.t 11],none,0⟩,⟨some 110, .bin .add,[.t 109, .c (dI 1)],none,0⟩,⟨some 111, .mov,[.c (dI 0)],none,0⟩] 0 [1,2,4,8,10,11,12,14,15,80,81,86,87,110,111] []) (.block 4 (.loop (.seq (.region false [⟨some 112, .bin .lss,[.t 111, .t 110],none,0⟩] 0 [1,2,4,8,10,11,12,14,15,80,81,86,87,110,111,112] []) (.seq (.cond (.t 112) .skip (.exit 4)) (.seq (.block 5 (.seq (.region false [⟨some 113, .mov,[.t 111],none,0⟩,⟨some 16, .mov,[.t 113],none,0⟩] 0 [1,2,4,8,10,11,12,14,15,16,80,81,86,87,110,111] []) (.seq (.region false [⟨some 114, .load true 10,[.t 15],none,0⟩,⟨some 115, .mov,[.t 16],none,0⟩,⟨some 116, .mov,[.t 11],none,0⟩,⟨some 117, .aj 38,[.t 114, .t 115, .t 116],none,0⟩,⟨some 118, .bin .neq,[.t 117, .c (dI 0)],none,0⟩] 0 [1,2,4,8,10,11,12,14,15,80,81,86,87,110,111,118] []) (.cond (.t 118) (.exit 3) .skip)))) (.region false [⟨some 119, .bin .add,[.t 111, .c (dI 1)],none,0⟩,⟨some 111, .mov,[.t 119],none,0⟩] 0 [1,2,4,8,10,11,12,14,15,80,81,86,87,110,111] []))))))) (.seq (.region false [⟨some 120, .load true 2,[.t 14],none,0⟩,⟨none, .store 2,[.t 8, .t 120],none,0⟩,⟨some 9, .mov,[.c (dI 0)],none,0⟩] 0 [8,9] []) .ret))))))) (.region false [⟨some 121, .bin .add,[.t 87, .c (dI 1)],none,0⟩,⟨some 87, .mov,[.t 121],none,0⟩] 0 [1,2,4,8,10,11,12,80,81,86,87] []))))))))))) (.region false [⟨some 122, .bin .add,[.t 81, .c (dI 1)],none,0⟩,⟨some 81, .mov,[.t 122],none,0⟩] 0 [1,2,4,8,10,11,80,81] [])))))
def Piece.Yh (p:Piece)(aO a:Int)(b:List Int)(x y:Int):Bool:=
 !p.cs.contains ⟨x,y⟩&&(upTo (p.ws.length+1)).all fun i=>(p.with ⟨x,y⟩ (p.ws.getD a.toNat default).layer aO b).wrong [] i p.ws.length==0
def Piece.Yl (p:Piece)(aO a:Int)(b:List Int)(x:Int):Option Pt:=
 (upTo (p.h.toNat+1)).findSome? fun y=>if p.Yh aO a b x y then some ⟨x,y⟩else none
def Piece.Sl (p:Piece)(aO a:Int)(b:List Int):Option Pt:=(upTo (p.w.toNat+1)).findSome? fun x=>p.Yl aO a b x
def abU {p:Piece}(hg:p.good){x y layer aO:Int}{a:List Int}(hx:0<=x/\x<=1000)(d:0<=y/\y<=1000)(ht:0<=aO/\aO<=1000)(hl:0<=layer/\layer<=1000)(f:p.ws.length<=999):(p.with ⟨x,y⟩ layer aO a).good:={
 cs:=by
  intro c b;simp only[Piece.with,bj,be]at b
  rcases b with b|rfl
  ·exact hg.cs c b
  ·exact⟨hx.1,hx.2,d.1,d.2⟩
 ws:=by
  intro w hw;simp only[Piece.with,bj,be]at hw
  rcases hw with hw|rfl
  ·obtain⟨⟨h1,h2⟩,e⟩:=hg.ws w hw
   exact⟨⟨h1,by simp only[Piece.with,ax,aE];omega⟩,e⟩
  ·exact⟨⟨by simp only;omega,by simp[Piece.with]⟩,ht.1,ht.2,hl.1,hl.2⟩
 w:=hg.w
 h:=hg.h
 pl:=hg.pl
 ga:=hg.ga
 po:=hg.po
 lw:=by simp only[Piece.with,ax,aE];omega}
section
variable (adq:ajv)
include adq in
def Gj (p:Piece)(hg:p.good)(hc:p.cs.length<=900)(Z:p.ws.length<=900)(Y:p.ms.length<=900)(aO a:Int)(ht:0<=aO/\aO<=1000)(ha:p.isW a)(b:List Int)(ho:b.length<=100)(ex:Bool)(ar:List (Option Arr))(Q:Ex->St->Prop)
  (J:p.Sl aO a b=none->Q (.exit 0) ⟨[(1,pI aO),(2,pI a),(4, .d (.aV [dI p.w,dI p.h,dI p.pl,dI p.ga,dI p.po,sF (p.cs.map Pt.dv),sF (p.ws.map Wh.dv),sF (p.ms.map Ms.dv)])),(8, .ptr 1 0),(10, .d (.slice ex (b.map ay))),(11,pI p.ws.length),(80,pI (p.w.toNat+1:Nat)),(81,pI (p.w.toNat+1:Nat)),(82, .d (.bool false))],⟨[some [pI p.w,pI p.h,pI p.pl,pI p.ga,pI p.po, .d (sF (p.cs.map Pt.dv)), .d (sF (p.ws.map Wh.dv)), .d (sF (p.ms.map Ms.dv))],some [pI 0,pI 0]],[0],ar⟩⟩)
  (hs:∀pt bs fz,p.Sl aO a b=some pt->Q .ret ⟨[(8, .ptr 1 0),(9,pI 0)],⟨some [pI p.w,pI p.h,pI p.pl,pI p.ga,pI p.po, .d (sF (p.cs.map Pt.dv)), .d (sF (p.ws.map Wh.dv)), .d (sF (p.ms.map Ms.dv))]::some [pI pt.x,pI pt.y]::bs,fz,ar⟩⟩):
  pwp C 0 0 Qk Q
   ⟨[(1,pI aO),(2,pI a),(4, .d (.aV [dI p.w,dI p.h,dI p.pl,dI p.ga,dI p.po,sF (p.cs.map Pt.dv),sF (p.ws.map Wh.dv),sF (p.ms.map Ms.dv)])),(8, .ptr 1 0),(10, .d (.slice ex (b.map ay))),(11,pI p.ws.length),(80,pI (p.w.toNat+1:Nat)),(81,pI 0)],
    ⟨[some [pI p.w,pI p.h,pI p.pl,pI p.ga,pI p.po, .d (sF (p.cs.map Pt.dv)), .d (sF (p.ws.map Wh.dv)), .d (sF (p.ms.map Ms.dv))],some [pI 0,pI 0]],[0],ar⟩⟩:=by
 rw[Qk];have M:=hg.w;have K:=hg.h;have X:((p.h.toNat:Nat):Int)=p.h:=by omega
 have G:di .i64 (p.h+1)=((p.h.toNat+1:Nat):Int):=by rw[aF (by omega)];omega
 refine aG (p.w.toNat+1) (fun x (_:Unit)=>⟨[(1,pI aO),(2,pI a),(4, .d (.aV [dI p.w,dI p.h,dI p.pl,dI p.ga,dI p.po,sF (p.cs.map Pt.dv),sF (p.ws.map Wh.dv),sF (p.ms.map Ms.dv)])),(8, .ptr 1 0),(10, .d (.slice ex (b.map ay))),(11,pI p.ws.length),(80,pI (p.w.toNat+1:Nat)),(81,pI x)],
   ⟨[some [pI p.w,pI p.h,pI p.pl,pI p.ga,pI p.po, .d (sF (p.cs.map Pt.dv)), .d (sF (p.ws.map Wh.dv)), .d (sF (p.ms.map Ms.dv))],some [pI 0,pI 0]],[0],ar⟩⟩)
  (fun x _=>p.Sl aO a b=((upTo (p.w.toNat+1)).drop x).findSome? fun x=>p.Yl aO a b x) 0 () (ap _) rfl rfl (fun x _ s f=> ?_) (fun _ f=> ?_)
 ·obtain⟨S,x3,T⟩:=rng s (by omega)
  rw[drop_cons (by rw[AQ];exact s),J5 s,cD]at f;simp only[S,G,RN,H,O,U,V,qE,qF];refine aG (p.h.toNat+1) (fun y (_:Unit)=>⟨[(1,pI aO),(2,pI a),(4, .d (.aV [dI p.w,dI p.h,dI p.pl,dI p.ga,dI p.po,sF (p.cs.map Pt.dv),sF (p.ws.map Wh.dv),sF (p.ms.map Ms.dv)])),(8, .ptr 1 0),(10, .d (.slice ex (b.map ay))),(11,pI p.ws.length),(12,pI x),(80,pI (p.w.toNat+1:Nat)),(81,pI x),(86,pI (p.h.toNat+1:Nat)),(87,pI y)],⟨[some [pI p.w,pI p.h,pI p.pl,pI p.ga,pI p.po, .d (sF (p.cs.map Pt.dv)), .d (sF (p.ws.map Wh.dv)), .d (sF (p.ms.map Ms.dv))],some [pI 0,pI 0]],[0],ar⟩⟩)
   (fun y _=>p.Yl aO a b x=((upTo (p.h.toNat+1)).drop y).findSome? fun y=>if p.Yh aO a b x y then some ⟨x,y⟩else none) 0 () (ap _) rfl rfl (fun y _ o c=> ?_) (fun _ c=> ?_)
  ·obtain⟨W,y3,E⟩:=rng o (by omega)
   rw[drop_cons (by rw[AQ];exact o),J5 o,cD]at c;have l:=H7 p.cs ⟨x,y⟩ (by omega);rw[sK]at l;simp only[W,RN,H,O,U,V,qE,qF];refine au l ?_;cases B:p.cs.contains ⟨x,y⟩
   ·obtain⟨F,A⟩:=ha
    have N:=hg.ws _ (getD_mem A);have g:=ae8 p ⟨x,y⟩ (p.ws.getD a.toNat default).layer aO b (by omega) (by omega) (by omega) (by omega);obtain⟨q,m⟩:∃q,q=p.with ⟨x,y⟩ (p.ws.getD a.toNat default).layer aO b:=⟨_,rfl⟩
    have v:q.good:=by rw[m];exact abU hg (by omega) (by omega) ht (by omega) (by omega)
    have L:q.ws.length=p.ws.length+1:=by rw[m];simp[Piece.with]
    have z:q.ms.length<=1000:=by rw[m];simp only[Piece.with,ax,ab];omega
    have alg:p.Yh aO a b x y=(upTo (p.ws.length+1)).all fun i=>q.wrong [] i p.ws.length==0:=by rw[Piece.Yh,B,m];rfl
    rw[<-m]at g;have D:=adq q [] z (by simp);have I:di .i64 ((p.ws.length:Int)+1)=((p.ws.length+1:Nat):Int):=ahd (by omega);simp only[fD,sK]at g;simp only[fD]at D;simp only[getD_map,F,A,ab,jX,ai,RN,H,O,U,V,qE,qF];refine pR rfl rfl g (by simp) ?_;simp only[PV.shift,jE,bq,b6];refine au D ?_;simp only[iZ];simp only[ai,I,RN,H,O,U,V,qE,qF];refine aG (p.ws.length+1) (fun i (_:Unit)=>⟨[(1,pI aO),(2,pI a),(4, .d (.aV [dI p.w,dI p.h,dI p.pl,dI p.ga,dI p.po,sF (p.cs.map Pt.dv),sF (p.ws.map Wh.dv),sF (p.ms.map Ms.dv)])),(8, .ptr 1 0),(10, .d (.slice ex (b.map ay))),(11,pI p.ws.length),(12,pI x),(14, .d (.aV [dI x,dI y])),(15, .d (.aV (q.laid []).cells)),(80,pI (p.w.toNat+1:Nat)),(81,pI x),(86,pI (p.h.toNat+1:Nat)),(87,pI y),(110,pI (p.ws.length+1:Nat)),(111,pI i)],
      ⟨[some [pI p.w,pI p.h,pI p.pl,pI p.ga,pI p.po, .d (sF (p.cs.map Pt.dv)), .d (sF (p.ws.map Wh.dv)), .d (sF (p.ms.map Ms.dv))],some [pI 0,pI 0],some [pI x,pI y],some ((q.laid []).cells.map .d)],[3,2,0],ar⟩⟩)
     (fun i _=>p.Yh aO a b x y=((upTo (p.ws.length+1)).drop i).all fun i=>q.wrong [] i p.ws.length==0) 0 () (ap _) rfl alg (fun i _ r e=> ?_) (fun _ e=> ?_)
    ·obtain⟨P,i3,R⟩:=rng r (by omega)
     rw[drop_cons (by rw[AQ];exact r),J5 r,cG]at e;have n:Pure C 38 [(q.laid []).dv,dI i,dI p.ws.length] (pI (q.wrong [] i p.ws.length)) []:=Io (q.laid []) v (Piece.PY q []) (by simp[Piece.laid]) i p.ws.length ⟨by omega,by show _<q.ws.length;omega⟩ ⟨by omega,by show _<q.ws.length;omega⟩;rw[iZ]at n;simp only[P,Laid.cells,RN,H,O,U,V,qE,qF];refine au n ?_
     by_cases t:q.wrong [] i p.ws.length=0
     ·have j:(q.wrong [] i p.ws.length !=0)=false:=by rw[t];rfl
      have k:(q.wrong [] i p.ws.length==0)=true:=by rw[t];rfl
      rw[k,bh]at e;simp only[j,R,RN,H,O,U,V,qE,qF];exact dX () r rfl e (by simp) (by simp) (by simp[PV.upto]) (by simp[PV.upto])
     ·have j:(q.wrong [] i p.ws.length !=0)=true:=bne_iff_ne.2 t
      have k:(q.wrong [] i p.ws.length==0)=false:=beq_eq_false_iff_ne.2 t;rw[k,cf]at e;simp only[e,az,if_false]at c;simp only[j,E,RN,H,O,U,V,qE,qF];exact bK 2 ar.length () o (by simp) c (by simp) (by simp) (by simp[PV.upto]) (by simp[PV.upto])
    ·rw[bL (by rw[AQ];omega),dc]at e
     simp only[e,if_true]at c;rw[c]at f;simp only[av,ai,RN,H,O,U,V,qE,qF];exact hs ⟨x,y⟩ _ _ f
   ·have u:p.Yh aO a b x y=false:=by rw[Piece.Yh,B];rfl
    simp only[u,az,if_false]at c;simp only[E,RN,H,O,U,V,qE,qF];exact bK 2 ar.length () o (by simp) c (by simp) (by simp) (by simp[PV.upto]) (by simp[PV.upto])
  ·rw[bL (by rw[AQ];omega),cJ]at c
   rw[c]at f;simp only[av,T,RN,H,O,U,V,qE,qF];exact dX () s rfl f (by simp) (by simp) (by simp[PV.upto]) (by simp[PV.upto])
 ·rw[bL (by rw[AQ];omega),cJ]at f
  simp only[av,RN,H,O,U,V,qE,qF];exact J f
def Piece.oZ (p:Piece)(aO a b:Int):Bool:= !p.ok|| !inR aO 4 50|| !inR a 0 (p.ws.length - 1)||(b != -1&&(!inR b 0 (p.ws.length - 1)||a==b))
def jI (a b:Int):List Int:=if b>=0 then[a,b]else[a]
def Piece.place (p:Piece)(aO a b:Int):Pt×Int:=
 if p.oZ aO a b then(default,2)
 else if p.cs.length==6||p.ws.length==8||decide (p.ms.length+(jI a b).length>10)then(default,3)
 else match p.Sl aO a (jI a b)with|some pt=>(pt,0)|none=>(default,5)
include adq in
def afh (p:Piece)(hc:p.cs.length<=1000)(hw:p.ws.length<=1000)(B:p.ms.length<=1000)(aO a b:Int):Pure C 30 [p.dv,dI aO,dI a,dI b] (.d (.tup [(p.place aO a b).1.dv,dI (p.place aO a b).2])) []:=by
 refine ah Ed aep ?_;have z:=KF p hc hw B;have u:=zV p a (by omega);have v:=zV p b (by omega);simp only[fD]at z u v;simp only[Ed,aep,fD,ai,RN,H,O,U,V,qE,qF];refine au z ?_;cases g:p.ok
 ·simp only[ai,RN,H,O,U,V,qE,qF]
  rw[Piece.place,if_pos (by rw[Piece.oZ,g];rfl)]
  rfl
 have y:=Piece.Zj g;(try simp only[RN,H,O,U,V,qE,qF]);refine au (Ns _ _ _) ?_;cases i:inR aO 4 50
 ·simp only[ai,RN,H,O,U,V,qE,qF]
  rw[Piece.place,if_pos (by rw[Piece.oZ,g,i];rfl)]
  rfl
 (try simp only[RN,H,O,U,V,qE,qF]);refine au u ?_;cases j:inR a 0 (p.ws.length - 1)
 ·simp only[ai,RN,H,O,U,V,qE,qF]
  rw[Piece.place,if_pos (by rw[Piece.oZ,g,i,j];rfl)]
  rfl
 (try simp only[RN,H,O,U,V,qE,qF]);have akj:0<=aO/\aO<=1000:=by simp only[inR,aq,decide_eq_true_eq]at i;omega
 have ajY:p.isW a:=by simp only[inR,aq,decide_eq_true_eq]at j;exact⟨by omega,by omega⟩
 have A:=(Piece.IB g).w;have l:di .i64 (p.w+1)=((p.w.toNat+1:Nat):Int):=by rw[aF (by omega)];omega
 cases m:(b != -1)
 ·have x:b= -1:=by simpa using m
  subst x;have e:p.oZ aO a (-1)=false:=by rw[Piece.oZ,g,i,j];rfl
  have f:jI a (-1)=[a]:=by rw[jI,if_neg (by omega)]
  have q:di .i64 ((p.ms.length:Int)+((1:Nat):Int))=(p.ms.length:Int)+1:=by rw[aF (by omega)];rfl
  have n:¬((-1:Int)>=0):=by omega
  simp only[n,dV,ai,DV.strip,gZ,ab,RN,H,O,U,V,qE,qF];cases s:(((p.cs.length:Nat):Int)==6)
  ·simp only[ab,RN,H,O,U,V,qE,qF]
   cases t:(((p.ws.length:Nat):Int)==8)
   ·simp only[ab,q,RN,H,O,U,V,qE,qF]
    cases k:decide (((p.ms.length:Nat):Int)+1>10)
    ·simp only[ab,l,RN,H,O,U,V,qE,qF]
     simp only[adf];have c:(p.cs.length==6||p.ws.length==8||decide (p.ms.length+(jI a (-1)).length>10))=false:=by
      rw[beq_eq_false_iff_ne]at s t;rw[decide_eq_false_iff_not]at k;simp only[cw,beq_eq_false_iff_ne,decide_eq_false_iff_not,f,bc,bi];omega
     simp only[ab,l,ai,RN,H,O,U,V,qE,qF];refine Gj adq p (Piece.IB g) (by omega) (by omega) (by omega) aO a akj ajY [a] (by simp) _ _ _ (fun r=> ?_) (fun pt bs fz r=> ?_)
     ·simp only[ai,RN,H,O,U,V,qE,qF]
      rw[Piece.place,e,c,f,r]
      rfl
     ·simp only[ai,RN,H,O,U,V,qE,qF]
      rw[Piece.place,e,c,f,r,sK]
      rfl
    ·have c:(p.cs.length==6||p.ws.length==8||decide (p.ms.length+(jI a (-1)).length>10))=true:=by
      rw[decide_eq_true_eq]at k;simp only[aM,decide_eq_true_eq,f,bc,bi]
      right;omega
     simp only[ai,RN,H,O,U,V,qE,qF];rw[Piece.place,e,c]
     rfl
   ·have c:(p.cs.length==6||p.ws.length==8||decide (p.ms.length+(jI a (-1)).length>10))=true:=by
     rw[beq_iff_eq]at t;simp only[aM,beq_iff_eq]
     left;right;omega
    simp only[ai,RN,H,O,U,V,qE,qF];rw[Piece.place,e,c]
    rfl
  ·have c:(p.cs.length==6||p.ws.length==8||decide (p.ms.length+(jI a (-1)).length>10))=true:=by
    rw[beq_iff_eq]at s;simp only[aM,beq_iff_eq]
    left;left;omega
   simp only[ai,RN,H,O,U,V,qE,qF];rw[Piece.place,e,c]
   rfl
 ·(try simp only[RN,H,O,U,V,qE,qF])
  refine au v ?_;cases o:inR b 0 (p.ws.length - 1)
  ·simp only[ai,RN,H,O,U,V,qE,qF]
   rw[Piece.place,if_pos (by rw[Piece.oZ,g,i,j,m,o];rfl)]
   rfl
  (try simp only[RN,H,O,U,V,qE,qF]);cases hab:(a==b)
  ·have e:p.oZ aO a b=false:=by rw[Piece.oZ,g,i,j,m,o,hab];rfl
   have n:(b>=0):=by simp only[inR,aq,decide_eq_true_eq]at o;omega
   have f:jI a b=[a,b]:=by rw[jI,if_pos n]
   have q:di .i64 ((p.ms.length:Int)+((2:Nat):Int))=(p.ms.length:Int)+2:=by rw[aF (by omega)];rfl
   simp only[n,dV,ai,DV.strip,gZ,ab,fits_int,forall_eq,RN,H,O,U,V,qE,qF];refine⟨(fun h=>by cases h),?_⟩;cases s:(((p.cs.length:Nat):Int)==6)
   ·simp only[ab,RN,H,O,U,V,qE,qF]
    cases t:(((p.ws.length:Nat):Int)==8)
    ·simp only[ab,q,RN,H,O,U,V,qE,qF]
     cases k:decide (((p.ms.length:Nat):Int)+2>10)
     ·simp only[ab,l,RN,H,O,U,V,qE,qF]
      refine adg rfl ?_;have c:(p.cs.length==6||p.ws.length==8||decide (p.ms.length+(jI a b).length>10))=false:=by
       rw[beq_eq_false_iff_ne]at s t;rw[decide_eq_false_iff_not]at k;simp only[cw,beq_eq_false_iff_ne,decide_eq_false_iff_not,f,bc,bi];omega
      simp only[ab,l,ai,RN,H,O,U,V,qE,qF];refine Gj adq p (Piece.IB g) (by omega) (by omega) (by omega) aO a akj ajY [a,b] (by simp) _ _ _ (fun r=> ?_) (fun pt bs fz r=> ?_)
      ·simp only[ai,RN,H,O,U,V,qE,qF]
       rw[Piece.place,e,c,f,r]
       rfl
      ·simp only[ai,RN,H,O,U,V,qE,qF]
       rw[Piece.place,e,c,f,r,sK]
       rfl
     ·have c:(p.cs.length==6||p.ws.length==8||decide (p.ms.length+(jI a b).length>10))=true:=by
       rw[decide_eq_true_eq]at k;simp only[aM,decide_eq_true_eq,f,bc,bi]
       right;omega
      simp only[ai,RN,H,O,U,V,qE,qF];rw[Piece.place,e,c]
      rfl
    ·have c:(p.cs.length==6||p.ws.length==8||decide (p.ms.length+(jI a b).length>10))=true:=by
      rw[beq_iff_eq]at t;simp only[aM,beq_iff_eq]
      left;right;omega
     simp only[ai,RN,H,O,U,V,qE,qF];rw[Piece.place,e,c]
     rfl
   ·have c:(p.cs.length==6||p.ws.length==8||decide (p.ms.length+(jI a b).length>10))=true:=by
     rw[beq_iff_eq]at s;simp only[aM,beq_iff_eq]
     left;left;omega
    simp only[ai,RN,H,O,U,V,qE,qF];rw[Piece.place,e,c]
    rfl
  ·simp only[ai,RN,H,O,U,V,qE,qF]
   rw[Piece.place,if_pos (by rw[Piece.oZ,g,i,j,m,o,hab];rfl)]
   rfl
end
end Go.Tel
namespace Go.Am
section
variable {C:Ctx}{base nb na:Nat}{K:St->Prop}{KP:DV->Mem->Prop}{L:PV->Mem->Prop}{Q:Ex->St->Prop}{bs:List (Option (List PV))}{fz:List Nat}{ar:List (Option Arr)}
def MV {i:Nat}:ak C base (.mkMap i) [] ⟨bs,fz,ar⟩ L KP=(bs[base+i]?=some none/\L (.mref (base+i)) ⟨bs.set (base+i) (some [.gI []]),fz,ar⟩):=px
variable{b:Nat}
def afM {ks:List Nat}{k:List DV}{v:DV}{l a:List (DV×DV)}(h1:bs[b]?=some (some [.gI l]))(h2:b∉fz)(c:bG ks k k=some true)(e:zX ks l k v=some a)(h:L .dead ⟨bs.set b (some [.gI a]),fz,ar⟩):
  ak C base (.RY ks) [.mref b, .d (.agg k), .d v] ⟨bs,fz,ar⟩ L KP:=by
 simp only[ak,Mem.box,h1,c,e];exact⟨h2,h⟩
def acg {l:List PV}:gU (.mref b::l)=none:=rfl
def ahy:PV.one (.mref b)=true:=rfl
def UQ:PV.mP (.mref b)=false:=rfl
def YV:PV.cells (.mref b)=[.mref b]:=rfl
def Ju {cs:List PV}:PV.cells (.agg cs)=cs:=rfl
def Y0 {cs:List PV}{off:Nat}{ps:List (Nat×Nat)}{vs:List PV}:jm cs ((off,1)::ps) (.mref b::vs)=bif decide (off+1<=cs.length)then jm (splice cs off [.mref b]) ps vs else none:=by
 simp only[jm,PV.mP,PV.cells,aE,true_and]
 by_cases h2:off+1<=cs.length
 ·rw[if_pos h2];simp[h2]
 ·rw[if_neg h2];simp[h2]
end
end Go.Am
namespace Go.Tel
open Go.Am
def abl (l:List Ms):List (DV×DV):=l.map fun m=>(m.dv, .bool true)
def Zf (a b:Int):∀(mm:List Ms),zX [1,1] (abl mm) [dI a,dI b] (.bool true)=some (abl (if mm.contains ⟨a,b⟩then mm else mm++ [⟨a,b⟩]))
 | []=>rfl
 |m::mm=>by
  have g:=Zf a b mm;simp only[abl,aD,Cm]at g⊢;have d:bG [1,1] [dI a,dI b] [dI m.a,dI m.b]=some (decide (a=m.a)&&decide (b=m.b)):=by
   by_cases h1:a=m.a<;>by_cases h2:b=m.b<;>simp[bG,h1,h2]
  by_cases h:a=m.a/\b=m.b
  ·obtain⟨rfl,rfl⟩:=h
   have e:(⟨m.a,m.b⟩:Ms)=m:=by cases m;rfl
   simp only[decide_true,cE]at d;simp only[zX,d,e,bo,BEq.rfl,Bool.true_or,if_true,aD]
  ·have i:(decide (a=m.a)&&decide (b=m.b))=false:=by
    by_cases h1:a=m.a
    ·have h2:¬b=m.b:=fun h2=>h ⟨h1,h2⟩
     simp[h2]
    ·simp[h1]
   have f:((⟨a,b⟩:Ms)==m)=false:=by
    rw[beq_eq_false_iff_ne];rintro rfl;exact h ⟨rfl,rfl⟩
   simp only[zX,d,i,g,bA];rw[bo,f,cF]
   by_cases c:mm.contains ⟨a,b⟩=true
   ·rw[if_pos c,if_pos c];rfl
   ·rw[if_neg c,if_neg c];rfl
def ahv:ajv:=by
 intro p gone e hg;refine Em mixed rfl Sj ?_;simp only[IQ,aer,fD,ai,MV,acg,bp,ahy,UQ,YV,dB,Ju,pW,Y0,ab,RN,H,O,U,V,qE,qF];refine aG p.ms.length (fun i (mm:List Ms)=>⟨[(4, .ptr 1 0),(5, .ptr 3 0),(13, .d (sF (p.ms.map Ms.dv))),(14,pI p.ms.length),(15,pI i)],
  ⟨[some [pI p.w,pI p.h,pI p.pl,pI p.ga,pI p.po, .d (sF (p.cs.map Pt.dv)), .d (sF (p.ws.map Wh.dv)), .d (sF (p.ms.map Ms.dv))],
   some [pI 0,pI 0,pI 0,pI 0,pI 0, .d (.slice true []), .d (.slice true []), .d (.slice true []), .d (.map none), .d (.slice true [])],
   some [.gI (abl mm)],
   some [pI p.w,pI p.h,pI p.pl,pI p.ga,pI p.po, .d (sF (p.cs.map Pt.dv)), .d (sF (p.ws.map Wh.dv)), .d (sF (p.ms.map Ms.dv)), .mref 2, .d (sF (gone.map ay))]],[0],[]⟩⟩)
  (fun i mm=>Ip [] p.ms=Ip mm (p.ms.drop i)) 0 [] (ap _) rfl rfl (fun i mm h1 a=> ?_) (fun mm a=> ?_)
 ·obtain⟨h2,b,c⟩:=rng h1 (by omega)
  rw[drop_cons h1,Ip]at a;simp only[h2,b,h1,getD_map,ae,ab,Cm,ai,RN,H,O,U,V,qE,qF];refine afM (l:=abl mm) rfl (by decide) (by simp[bG]) (Zf _ _ mm) ?_;simp only[c,RN,H,O,U,V,qE,qF];refine bK 4 0 _ h1 rfl a (by simp) (by simp) rfl ?_;simp[PV.upto]
 ·rw[aw,Ip]at a
  simp only[av,ab,ai,MV,acg,bp,ahy,UQ,YV,dB,Ju,pW,Y0,RN,H,O,U,V,qE,qF];refine⟨_,rfl,?_⟩;rw[iZ];simp only[Piece.laid,a,DV.strip,abl]
  rfl
structure ajy where
 low:Int
 high:Int
 deriving DecidableEq,Inhabited
def ajy.dv (s:ajy):DV:= .agg [dI s.low,dI s.high]
def Piece.nums (p:Piece):List Int:=[p.w,p.h,p.pl,p.ga,p.po]
def Pt.nums (p:Pt):List Int:=[p.x,p.y]
def Wh.nums (p:Wh):List Int:=[p.iY,p.nD,p.layer,p.aO]
def Ms.nums (p:Ms):List Int:=[p.a,p.b]
structure Piece.small (p:Piece):Prop where
 w: -1000000<=p.w/\p.w<=1000000
 h: -1000000<=p.h/\p.h<=1000000
 pl: -1000000<=p.pl/\p.pl<=1000000
 ga: -1000000<=p.ga/\p.ga<=1000000
 po: -1000000<=p.po/\p.po<=1000000
 cs:∀c∈p.cs,∀n∈c.nums, -1000000<=n/\n<=1000000
 ws:∀c∈p.ws,∀n∈c.nums, -1000000<=n/\n<=1000000
 ms:∀c∈p.ms,∀n∈c.nums, -1000000<=n/\n<=1000000
 lc:p.cs.length<=1000
 lw:p.ws.length<=1000
 lm:p.ms.length<=1000
def Piece.cells (p:Piece):List DV:=[dI p.w,dI p.h,dI p.pl,dI p.ga,dI p.po,sF (p.cs.map Pt.dv),sF (p.ws.map Wh.dv),sF (p.ms.map Ms.dv)]
end Go.Tel
namespace Go.Am
variable{base sz:Nat}{K:PV->Mem->Prop}{KP:DV->Mem->Prop}{is:List Nat}
def adQ {C:Ctx}{M:Mem}{zs ds xs:List DV}(h:qy sz zs is (ds.map DV.strip)=some xs)(a:K (.d (.slice true xs)) M):ak C base (.dA sz zs is) (ds.map .d) M K KP:=by
 have h1:cZ M (ds.map .d)=some ds:=by
  clear h a
  induction ds with
  |nil=>rfl
  |cons d ds b=>simp only[aD,cZ,datum,b]
 rw[afL h1 h,zT];exact a
def afP {cs:List PV}{off n k ver s:Nat}{ps:List (Nat×Nat)}{vs:List PV}:jm cs ((off,n)::ps) (.tsl k ver s::vs)=bif (1==n)&&decide (off+n<=cs.length)then jm (splice cs off [.tsl k ver s]) ps vs else none:=by
 have a:PV.cells (.tsl k ver s)=[.tsl k ver s]:=rfl;simp only[jm,PV.mP,true_and,a,bc,bi,br]
 by_cases h1:1=n
 ·by_cases h2:off+n<=cs.length
  ·rw[if_pos ⟨h1,h2⟩];simp[h1,h2]
  ·rw[if_neg (fun h=>h2 h.2)];simp[h2]
 ·rw[if_neg (fun h=>h1 h.1)]
  have:((1:Nat)==n)=false:=by simpa using h1
  rw[this];rfl
def agw {C:Ctx}{bs:List (Option (List PV))}{fz:List Nat}{ar:List (Option Arr)}{zs ds xs:List DV}(h:qy sz zs is (ds.map DV.strip)=some xs)(h1:0<sz)(h2:∀x∈xs,x.fits sz=true)
  (a:K (.tsl ar.length 0 0) ⟨bs,fz,ar++ [some ⟨sz,xs,0,1⟩]⟩):ak C base (.lG sz zs is) (ds.map .d) ⟨bs,fz,ar⟩ K KP:=by
 have ha:gU (ds.map PV.d)=some ds:=by
  clear h a
  induction ds with
  |nil=>rfl
  |cons d ds b=>simp only[aD,gU,b,bA]
 simp only[ak,ha,h];exact⟨h1,h2,a⟩
end Go.Am
namespace Go.Tel
open Go.Am
def ai1:Piece:=⟨60,50,1,1,2,[⟨15,20⟩,⟨35,20⟩,⟨35,36⟩],[⟨0,0,0,12⟩,⟨1,0,0,8⟩,⟨1,0,1,10⟩,⟨2,0,1,6⟩],[⟨0,1⟩,⟨2,3⟩]⟩
def P_c:Pure C 31 [] (.d ai1.dv) []:=by
 refine Em mixed rfl adZ ?_;simp only[VB,aeA,RN,H,O,U,V,qE,qF];refine adQ (ds:=[_,_,_]) rfl ?_;(try simp only[RN,H,O,U,V,qE,qF]);refine agw (ds:=[_,_,_,_]) rfl (by decide) (by decide) ?_;(try simp only[RN,H,O,U,V,qE,qF]);refine adQ (ds:=[_,_]) rfl ?_;simp only[afP,aci,bp,dB,Ju,pW,Zk,DV.strip,RN,H,O,U,V,qE,qF];exact⟨_,rfl,by rw[fD];rfl⟩
def aef (p:Piece)(n:Int)(hl:p.ws.length<=1000000):Pure C 13 [p.dv,dI n] (.d (.bool (inR n 0 (p.ws.length - 1)))) []:=by
 have a:di .i64 ((p.ws.length:Int) - 1)=(p.ws.length:Int) - 1:=aF (by omega);refine ah IV aQ ?_;simp only[IV,aQ,fD,ab,a,RN,H,O,U,V,qE,qF];refine au (zn _ _ _) ?_;(try simp only[RN,H,O,U,V,qE,qF])
def Xb (x y:Pt):bG [1,1] [dI x.x,dI x.y] [dI y.x,dI y.y]=some (decide (x=y)):=by
 obtain⟨a,b⟩:=x;obtain⟨c,d⟩:=y
 by_cases h1:a=c<;>by_cases h2:b=d<;>simp[bG,h1,h2]
def Xa (x y:Ms):bG [1,1] [dI x.a,dI x.b] [dI y.a,dI y.b]=some (decide (x=y)):=by
 obtain⟨a,b⟩:=x;obtain⟨c,d⟩:=y
 by_cases h1:a=c<;>by_cases h2:b=d<;>simp[bG,h1,h2]
def aee (p:Piece)(hc:p.cs.length<=1000)(hw:p.ws.length<=1000)(hm:p.ms.length<=1000):Pure C 7 [p.dv] (.d (.bool p.ok)) []:=by
 refine ah IU aS ?_;simp only[IU,aS,fD,RN,H,O,U,V,qE,qF]
 by_cases hh:p.DL=true
 case neg=>
  have B:p.ok=false:=by simp[Piece.ok,hh]
  rw[B]
  repeat' first
   |(refine au (zn _ _ _) ?_;try simp only[RN,H,O,U,V,qE,qF])
   |(refine aH (by rfl) (fun K=> ?_) (fun K=> ?_)<;>simp only[K,RN,H,O,U,V,qE,qF])
   |(refine aP (by rfl) (fun K=> ?_) (fun K=> ?_)<;>simp only[K,RN,H,O,U,V,qE,qF])
  all_goals(first|rfl|(exfalso;simp_all[Piece.DL];done))
 have L:=hh;simp only[Piece.DL,aq]at L;obtain⟨⟨⟨⟨X,Y⟩,Z⟩,a4⟩,a5⟩:=L;refine au (zn _ _ _) ?_;simp only[X,RN,H,O,U,V,qE,qF];refine au (zn _ _ _) ?_;simp only[Y,RN,H,O,U,V,qE,qF];refine au (zn _ _ _) ?_;simp only[Z,RN,H,O,U,V,qE,qF];refine au (zn _ _ _) ?_;simp only[a4,RN,H,O,U,V,qE,qF];refine au (zn _ _ _) ?_;simp only[a5,ab,RN,H,O,U,V,qE,qF];refine au (zn _ _ _) ?_
 by_cases l1:inR p.cs.length 1 6=true
 case neg=>
  have N:inR p.cs.length 1 6=false:=by simpa using l1
  simp only[N,RN,H,O,U,V,qE,qF];simp[Piece.ok,Piece.Bq,N]
 by_cases l2:p.ws.length<=8
 case neg=>
  have v:(p.ws.length:Int)>8:=by omega
  simp only[l1,v,ab,RN,H,O,U,V,qE,qF];simp[Piece.ok,Piece.Bq,l1,v]
 have v:¬(p.ws.length:Int)>8:=by omega
 by_cases l3:p.ms.length<=10
 case neg=>
  have E:(p.ms.length:Int)>10:=by omega
  simp only[l1,v,E,ab,RN,H,O,U,V,qE,qF];simp[Piece.ok,Piece.Bq,l1,v,E]
 have E:¬(p.ms.length:Int)>10:=by omega
 simp only[l1,v,E,ab,RN,H,O,U,V,qE,qF];have ajZ:p.Bq=true:=by simp[Piece.Bq,l1,v,E]
 have B:p.ok=(AA p.w p.h [] p.cs&&zY p.ws.length [] p.ms&&p.ws.all (FH p.cs.length)):=by simp[Piece.ok,hh,ajZ]
 rw[B];refine aG p.cs.length (fun i (_:Unit)=>⟨[(1, .d (.aV p.cells)),(3,pI i)],⟨[some (p.cells.map .d)],[0],[]⟩⟩)
  (fun i _=>AA p.w p.h [] p.cs=AA p.w p.h (p.cs.take i) (p.cs.drop i)) 0 () (ap _) rfl (by simp) (fun i _ m f=> ?_) (fun _ f=> ?_)
 ·obtain⟨G,I,J⟩:=rng m (by omega)
  rw[drop_cons m,AA,<-take_snoc m]at f;simp only[Piece.cells,G,I,m,getD_map,ae,ab,sK,ai,RN,H,O,U,V,qE,qF];have am:p.cs.getD i default=p.cs.getD i default:=rfl;generalize ac:p.cs.getD i default=c at*;refine au (zn _ _ _) ?_
  by_cases s:inR c.x 0 p.w=true
  case neg=>
   have j:inR c.x 0 p.w=false:=by simpa using s
   simp only[j,RN,H,O,U,V,qE,qF];simp[f,j]
  simp only[s,RN,H,O,U,V,qE,qF];refine au (zn _ _ _) ?_
  by_cases q:inR c.y 0 p.h=true
  case neg=>
   have l:inR c.y 0 p.h=false:=by simpa using q
   simp only[l,RN,H,O,U,V,qE,qF];simp[f,l]
  simp only[q,RN,H,O,U,V,qE,qF];rw[s,q,bh,bh]at f;refine aG i (fun k (_:Unit)=>⟨[(1, .d (.aV p.cells)),(3,pI i),(4, .d (.aV [dI c.x,dI c.y])),(5,pI k)],⟨[some (p.cells.map .d),some [pI c.x,pI c.y]],[1,0],[]⟩⟩)
   (fun k _=>c∉p.cs.take k) 0 () (ap _) rfl (by simp) (fun k _ F A=> ?_) (fun _ A=> ?_)
  ·obtain⟨R,S,T⟩:=rng F (by omega)
   have o:k<p.cs.length:=by omega
   simp only[Piece.cells,R,S,o,getD_map,ae,ab,sK,RN,H,O,U,V,qE,qF];rw[Ib (Xb _ _)]
   by_cases t:p.cs.getD k default=c
   ·rw[decide_eq_true t]
    have D:(true !=false)=true:=rfl;have r:c∈p.cs.take i:=by
     rw[<-t,ao,aL o];exact cj.2 ⟨k,by omega,rfl⟩
    simp only[D,RN,H,O,U,V,qE,qF];simp[f,r]
   ·rw[decide_eq_false t]
    have D:(false !=false)=false:=rfl;simp only[D,T,RN,H,O,U,V,qE,qF];exact dX () F rfl (by rw[take_snoc o];simp only[bj,be,not_or];exact⟨A,fun h=>t h.symm⟩) (by simp) (by simp) rfl rfl
  ·have z:(p.cs.take i).contains c=false:=by simpa using A
   rw[z,cv,bh]at f;simp only[av,J,RN,H,O,U,V,qE,qF];exact bK 1 0 () m rfl f (by simp) (by simp) rfl rfl
 ·rw[aw,AA]at f
  simp only[Piece.cells,av,ab,RN,H,O,U,V,qE,qF];rw[f,bh];refine aG p.ws.length (fun i (_:Unit)=>⟨[(1, .d (.aV p.cells)),(6,pI i)],⟨[some (p.cells.map .d)],[0],[]⟩⟩)
   (fun i _=>p.ws.all (FH p.cs.length)=(p.ws.drop i).all (FH p.cs.length)) 0 () (ap _) rfl (by simp) (fun i _ m g=> ?_) (fun _ g=> ?_)
  ·obtain⟨G,I,J⟩:=rng m (by omega)
   have wl:di .i64 ((p.cs.length:Int) - 1)=(p.cs.length:Int) - 1:=aF (by omega);rw[drop_cons m,cG]at g;simp only[Piece.cells,G,I,m,getD_map,ae,ab,jX,ai,wl,RN,H,O,U,V,qE,qF];generalize p.ws.getD i default=w at*;refine au (zn _ _ _) ?_
   by_cases s:inR w.iY 0 ((p.cs.length:Int) - 1)=true
   case neg=>
    have j:=eq_false_of_ne_true s;simp only[j,RN,H,O,U,V,qE,qF];simp[g,FH,j]
   simp only[s,RN,H,O,U,V,qE,qF];refine au (zn _ _ _) ?_
   by_cases q:inR w.nD 0 2=true
   case neg=>
    have l:=eq_false_of_ne_true q;simp only[l,RN,H,O,U,V,qE,qF];simp[g,FH,l]
   simp only[q,RN,H,O,U,V,qE,qF];refine au (zn _ _ _) ?_
   by_cases u:inR w.layer 0 5=true
   case neg=>
    have P:=eq_false_of_ne_true u;simp only[P,RN,H,O,U,V,qE,qF];simp[g,FH,P]
   simp only[u,RN,H,O,U,V,qE,qF];refine au (zn _ _ _) ?_
   by_cases W:inR w.aO 4 50=true
   case neg=>
    have Q:=eq_false_of_ne_true W;simp only[Q,RN,H,O,U,V,qE,qF];simp[g,FH,Q]
   simp only[W,J,RN,H,O,U,V,qE,qF];exact bK 1 0 () m rfl (by rw[g];simp[FH,s,q,u,W]) (by simp) (by simp) rfl rfl
  rw[aw,dc]at g;rw[g,c9];simp only[Piece.cells,av,ab,RN,H,O,U,V,qE,qF];refine aG p.ms.length (fun i (_:Unit)=>⟨[(1, .d (.aV p.cells)),(8,pI i)],⟨[some (p.cells.map .d)],[0],[]⟩⟩)
   (fun i _=>zY p.ws.length [] p.ms=zY p.ws.length (p.ms.take i) (p.ms.drop i)) 0 () (ap _) rfl (by simp) (fun i _ m e=> ?_) (fun _ e=> ?_)
  ·obtain⟨G,I,J⟩:=rng m (by omega)
   have M:∀n,Pure C 13 [.agg p.cells,dI n] (.d (.bool (inR n 0 (p.ws.length - 1)))) []:=fun n=>by
    have:=aef p n (by omega);rw[fD]at this;exact this
   rw[drop_cons m,zY,<-take_snoc m]at e;simp only[Piece.cells,G,I,m,getD_map,ae,ab,Cm,ai,RN,H,O,U,V,qE,qF];generalize p.ms.getD i default=c at*;refine au (M _) ?_
   by_cases s:inR c.a 0 ((p.ws.length:Int) - 1)=true
   case neg=>
    have j:=eq_false_of_ne_true s;simp only[j,RN,H,O,U,V,qE,qF];simp[e,j]
   simp only[s,RN,H,O,U,V,qE,qF];refine au (M _) ?_
   by_cases q:inR c.b 0 ((p.ws.length:Int) - 1)=true
   case neg=>
    have l:=eq_false_of_ne_true q;simp only[l,RN,H,O,U,V,qE,qF];simp[e,l]
   by_cases u:c.a>=c.b
   case pos=>
    simp only[q,u,RN,H,O,U,V,qE,qF];rw[e,decide_eq_true u];simp
   simp only[q,u,RN,H,O,U,V,qE,qF];rw[s,q,decide_eq_false u,cv,bh,bh,bh]at e;refine aG i (fun k (_:Unit)=>⟨[(1, .d (.aV p.cells)),(8,pI i),(9, .d (.aV [dI c.a,dI c.b])),(10,pI k)],⟨[some (p.cells.map .d),some [pI c.a,pI c.b]],[1,0],[]⟩⟩)
    (fun k _=>c∉p.ms.take k) 0 () (ap _) rfl (by simp) (fun k _ F A=> ?_) (fun _ A=> ?_)
   ·obtain⟨R,S,T⟩:=rng F (by omega)
    have o:k<p.ms.length:=by omega
    simp only[Piece.cells,R,S,o,getD_map,ae,ab,Cm,RN,H,O,U,V,qE,qF];rw[Ib (Xa _ _)]
    by_cases t:p.ms.getD k default=c
    ·rw[decide_eq_true t]
     have D:(true !=false)=true:=rfl;have r:c∈p.ms.take i:=by
      rw[<-t,ao,aL o];exact cj.2 ⟨k,by omega,rfl⟩
     simp only[D,RN,H,O,U,V,qE,qF];simp[e,r]
    ·rw[decide_eq_false t]
     have D:(false !=false)=false:=rfl;simp only[D,T,RN,H,O,U,V,qE,qF];exact dX () F rfl (by rw[take_snoc o];simp only[bj,be,not_or];exact⟨A,fun h=>t h.symm⟩) (by simp) (by simp) rfl rfl
   ·have z:(p.ms.take i).contains c=false:=by simpa using A
    rw[z,cv,bh]at e;simp only[av,J,RN,H,O,U,V,qE,qF];exact bK 1 0 () m rfl e (by simp) (by simp) rfl rfl
  ·rw[aw,zY]at e
   simp only[Piece.cells,av,ab,RN,H,O,U,V,qE,qF];rw[e]
def Vd {n:Int}:∀{pre ms:List Ms},zY n pre ms=true->∀m∈ms,0<=m.a/\m.a<m.b/\m.b<=n - 1
 | _,[],_,m,h=>by cases h
 |pre,x::ms,h,m,c=>by
  simp only[zY,inR,aq,decide_eq_true_eq,cK,decide_eq_false_iff_not,ge_iff_le]at h
  rcases bS.1 c with rfl|c
  ·omega
  ·exact Vd h.2 m c
def ajb {p:Piece}(h:p.ok=true):∀m∈p.ms,0<=m.a/\m.a<m.b/\m.b<=p.ws.length - 1:=by
 simp only[Piece.ok,aq]at h;exact Vd h.1.2
def alL:aA:=(sw (r0 [ba 5 0 0,ba 6 1 1,mf 10 false] 2 [2,3,4,5,6] [5,6]) (sw (sr [lw 31 8 5,oa 32 (.aj 6) 31,oa 33 pN 32,mv 34 33,ow 35 (.load true 8) 5 34 0,ow 36 (.aj 7) 35 34 0,ow 37 pN 36 34 0,pt 38 34 37,mv 39 38,ow 40 (.load true 8) 5 39 0,ow 41 .mov 3 39 0,obF 42 (.aj 13) 40 41 39 0,ow 43 pN 42 39 0,pt 44 39 43,mv 45 44,ow 46 (.load true 8) 5 45 0,ow 47 .mov 4 45 0,obF 48 (.aj 13) 46 47 45 0,ow 49 pN 48 45 0,pt 50 45 49,mv 51 50,ow 52 .mov 3 51 0,ow 53 .mov 4 51 0,obF 54 pE 52 53 51 0,pt 55 51 54,mv 56 55,ow 57 (.load true 8) 5 56 0,ow 58 .mov 4 56 0,obF 59 (.aj 14) 57 58 56 0,ow 60 pN 59 56 0,pt 61 56 60] 0 [2,3,4,5,6,61] (cd 61 (sr [on 62 (.aj 8) [],mv 10 62] 0 [10] .ret) .skip)) (sw (r0 [lw 63 8 5,lw 64 2 6,mv 65 2,mv 66 3,mv 67 4,on 68 (.aj 15) [.t 63,.t 64,.t 65,.t 66,.t 67],al 11 0 [z0,z0,z0,z0,z0,zs,zs,zs],sk 8 11 68 0] 1 [2,3,4,5,11] [11]) (sw (sr [lw 69 8 11,oa 70 (.aj 7) 69,oa 71 pN 70] 0 [2,3,4,5,11,71] (cd 71 (sr [on 72 (.aj 8) [],mv 10 72] 0 [10] .ret) .skip)) (sr [lw 74 8 5,mv 75 3,ob 76 (.aj 16) 74 75,mv 73 76,xa 77 0 73,xa 78 1 73,mv 12 77,mv 13 78] 0 [2,3,4,5,11,12,13] (sr [lw 80 8 5,mv 81 4,ob 82 (.aj 16) 80 81,mv 79 82,xa 83 0 79,xa 84 1 79,mv 14 83,mv 15 84] 0 [2,3,4,5,11,12,13,14,15] (sw (sr [mv 85 13,oi 86 pQ 85 0,mv 87 86,ow 88 .mov 15 87 0,oF 89 pQ [.t 88,kI 0] 87 0,pt 90 87 89] 0 [2,3,4,5,11,12,13,14,15,90] (cd 90 (sr [mv 91 13,oi 92 pQ 91 2,mv 93 92,ov 94 .mov 15 93 0,ot 95 pQ [.t 94,kI 2] 93 0,pf 96 93 95,mv 97 96,ot 98 (.aj 8) [] 97 0,pf 99 97 98,mv 10 99] 0 [10] .ret) .skip)) (sr [fa 100 6 5,lo 101 100,oa 102 .len 101,mv 16 102] 0 [2,3,4,5,11,12,14,16] (sw (sr [mv 103 12,oa 104 .len 103,mv 105 16,ob 106 pQ 104 105,mv 107 106,ow 108 .mov 14 107 0,ow 109 .len 108 107 0,ow 110 .mov 16 107 0,obF 111 pQ 109 110 107 0,pt 112 107 111] 0 [2,3,4,5,11,12,14,16,112] (cd 112 (sr [mf 10 false] 0 [10] .ret) .skip)) (sw (sr [mv 113 12,mv 114 4,ix 115 2 113 114,fa 116 0 115,lo 117 116,oi 118 pQ 117 0,mv 119 118,ow 120 .mov 14 119 0,ow 121 .mov 3 119 0,obF 122 (.bU 2) 120 121 119 0,ow 123 (.fld 0) 122 119 0,lq 124 123 119,oF 125 pQ [.t 124,kI 0] 119 0,pt 126 119 125] 0 [2,3,4,5,11,12,14,16,126] (cd 126 (sr [mv 127 12,mv 128 4,ix 129 2 127 128,fa 130 0 129,lo 131 130,oi 132 pQ 131 0,mv 133 132,ov 134 .mov 14 133 0,ov 135 .mov 3 133 0,obT 136 (.bU 2) 134 135 133 0,ov 137 (.fld 0) 136 133 0,ov 138 (.load false 1) 137 133 0,ot 139 pQ [.t 138,kI 0] 133 0,pf 140 133 139,mv 141 140,ot 142 (.aj 8) [] 141 0,pf 143 141 142,mv 10 143] 0 [10] .ret) .skip)) (sr [lw 145 8 11,mv 146 3,ob 147 (.aj 16) 145 146,mv 144 147,xa 148 0 144,xa 149 1 144,mv 17 148,mv 18 149] 0 [2,3,4,5,12,16,17,18] (sw (r1 [fu 150 6 5 1,lv 151 150,mv 152 3,ob1 153 (.bU 4) 151 152 1,fu 154 3 153 1,lv 155 154,fu 156 6 5 1,lv 157 156,mv 158 4,ob1 159 (.bU 4) 157 158 1,fu 160 3 159 1,lv 161 160,mv 19 155,mv 20 161] 0 [2,4,12,16,17,18,19,20] []) (sw (r0 [mv 163 19,mv 164 2,ob 165 (.build [z0,z0] [(0,1),(1,1)]) 163 164,mv 166 2,mv 167 20,ob 168 (.build [z0,z0] [(0,1),(1,1)]) 166 167,ob 169 (.dA 2 [.agg [z0,z0],.agg [z0,z0]] [0,1]) 165 168,oa 170 (.aj 17) 169,mv 162 170,xa 171 0 162,xa 172 1 162,xa 173 2 162,al 21 0 [z0,z0],sk 2 21 171 0,mv 22 172,mv 23 173] 1 [2,4,12,16,17,18,19,20,21,22,23] [21]) (sw (r0 [mv 175 19,mv 176 20,ob 177 (.build [z0,z0] [(0,1),(1,1)]) 175 176,oa 178 (.dA 2 [.agg [z0,z0]] [0]) 177,oa 179 (.aj 17) 178,mv 174 179,xa 180 0 174,xa 181 1 174,xa 182 2 174,al 24 0 [z0,z0],sk 2 24 180 0,mv 25 181,mv 26 182] 1 [2,4,12,16,17,18,19,21,22,23,24,26] [24]) (sw (r0 [mv 184 19,mv 185 2,ob 186 (.build [z0,z0] [(0,1),(1,1)]) 184 185,oa 187 (.dA 2 [.agg [z0,z0]] [0]) 186,oa 188 (.aj 17) 187,mv 183 188,xa 189 0 183,xa 190 1 183,xa 191 2 183,al 27 0 [z0,z0],sk 2 27 189 0,mv 28 190,mv 29 191] 1 [4,12,16,17,18,21,22,23,24,26,27,28,29] [27]) (sw (sr [mv 192 18,oi 193 pQ 192 0,mv 194 193,ow 195 .mov 17 194 0,ow 196 .len 195 194 0,ow 197 .mov 16 194 0,oF 198 pA [.t 197,kI 1] 194 0,obF 199 pQ 196 198 194 0,pt 200 194 199,mv 201 200,ow 202 .mov 23 201 0,oF 203 pQ [.t 202,kI 0] 201 0,pt 204 201 203,mv 205 204,ow 206 .mov 26 205 0,oF 207 pQ [.t 206,kI 0] 205 0,pt 208 205 207,mv 209 208,ow 210 .mov 29 209 0,oF 211 pQ [.t 210,kI 0] 209 0,pt 212 209 211,mv 213 212,ow 214 .mov 22 213 0,ow 215 pN 214 213 0,pt 216 213 215,mv 217 216,ow 218 .mov 28 217 0,pt 219 217 218,mv 220 219,ow 221 (.load true 2) 21 220 0,ow 222 (.load true 2) 24 220 0,obF 223 (.A8 true [1,1]) 221 222 220 0,pt 224 220 223] 0 [4,12,16,17,21,27,224] (cd 224 (sr [mf 10 false] 0 [10] .ret) .skip)) (sw (sw (r1 [mv 225 17,mv 226 4,ob1 227 (.bU 2) 225 226 1,ou 228 (.load true 2) 227 1,fu 229 0 21 1,lv 230 229,fu 231 1 21 1,lv 232 231,ob 233 (.build [z0,z0] [(0,1),(1,1)]) 230 232,ob 234 (.A8 true [1,1]) 228 233,mv 235 234,ow 236 .mov 17 235 0,ow 237 .mov 16 235 0,obF 238 (.bU 2) 236 237 235 1,ow 239 (.load true 2) 238 235 1,ow 240 (.fld 0) 27 235 1,ow 241 (.load false 1) 240 235 1,ow 242 (.un .neg) 241 235 0,ow 243 (.fld 1) 27 235 1,ow 244 (.load false 1) 243 235 1,obF 245 (.build [z0,z0] [(0,1),(1,1)]) 242 244 235 0,obF 246 (.A8 true [1,1]) 239 245 235 0,pt 247 235 246] 0 [12,16,17,247] []) (cd 247 (sr [mf 10 false] 0 [10] .ret) .skip)) (sw (sr [mi 30 0] 0 [12,16,17,30] (.block 0 (.loop (sw (sr [mv 248 30,mv 249 16,ob 250 pL 248 249] 0 [12,16,17,30,250] (cx 250 0)) (sw (.block 1 (sw (r1 [mv 253 12,mv 254 30,ob1 255 (.bU 2) 253 254 1,fu 256 0 255 1,lv 257 256,oi 258 pQ 257 0,mv 259 258,ov 260 .mov 17 259 0,ov 261 .mov 30 259 0,obT 262 (.bU 2) 260 261 259 1,ov 263 (.load true 2) 262 259 1,ov 264 .mov 12 259 0,ov 265 .mov 30 259 0,obT 266 (.bU 2) 264 265 259 1,ov 267 (.load true 2) 266 259 1,obT 268 (.A8 true [1,1]) 263 267 259 0,pf 269 259 268] 0 [12,16,17,30,269] []) (cd 269 (sr [mf 10 false] 0 [10] .ret) .skip))) (rg [mv 251 30,oi 252 pA 251 1,mv 30 252] 0 [12,16,17,30])))))) (sr [on 270 (.aj 8) [],mv 10 270] 0 [10] .ret)))))))))))))))))))
def rH:aA:=(sw (r0 [ba 1 0 0,mf 2 false] 1 [1] [1]) (sr [fa 3 5 1,lo 4 3,oa 5 .len 4,oi 6 (.bin .leq) 5 8,mv 7 6,ov 8 (.fld 6) 1 7 0,ov 9 (.load false 1) 8 7 0,ov 10 .len 9 7 0,ot 11 (.bin .leq) [.t 10,kI 10] 7 0,pf 12 7 11,mv 13 12,ov 14 (.fld 7) 1 13 0,ov 15 (.load false 1) 14 13 0,ov 16 .len 15 13 0,ot 17 (.bin .leq) [.t 16,kI 13] 13 0,pf 18 13 17,mv 2 18] 0 [2] .ret))
def qL:aA:=(sr [mf 0 false] 0 [] (sw (r0 [on 8 (.aj 31) [],on 9 (.aj 30) [.t 8,kI 5,kI 0,kI 1],mv 7 9,xa 10 0 7,xa 11 1 7,al 1 0 [z0,z0],sk 2 1 10 0,mv 2 11] 1 [1,2] [1]) (sr [on 13 (.dA 1 [z0,z0,z0,z0] [0,1,2,3]) [kI 1,kI 2,kI 8,kI 9],on 14 (.dA 1 [z0,z0,z0,z0] [0,1,2,3]) [kI 8,kI 9,kI 1,kI 2],ob 15 (.aj 32) 13 14,mv 12 15,xa 16 0 12,xa 17 1 12,mv 3 16,mv 4 17] 0 [1,2,3,4] (sr [on 19 (.aj 34) [],oc 20 (.aj 33) 19 (.c (.str ⟨#[104,97,110,100,115,10,99,117,116,115,32,51,54,10,119,111,114,107,115,32,57,10]⟩)),mv 18 20,xa 21 0 18,xa 22 1 18,mv 5 21,mv 6 22] 0 [1,2,3,4,5,6] (sr [mv 23 2,oi 24 pE 23 0,mv 25 24,ov 26 (.load true 2) 1 25 0,ot 27 (.build [z0,z0] [(0,1),(1,1)]) [kI 28,kI 8] 25 0,obT 28 (.A8 false [1,1]) 26 27 25 0,pf 29 25 28,mv 30 29,ov 31 .mov 4 30 0,ot 32 pE [.t 31,kI 0] 30 0,pf 33 30 32,mv 34 33,ov 35 .mov 3 34 0,ot 36 pE [.t 35,kI 2] 34 0,pf 37 34 36,mv 38 37,ov 39 .mov 6 38 0,ot 40 pE [.t 39,kI 0] 38 0,pf 41 38 40,mv 42 41,ov 43 .mov 5 42 0,ot 44 pE [.t 43,.c (.str ⟨#[49,32,51,32,51,32,52,10,50,32,49,32,51,10,49,48,10]⟩)] 42 0,pf 45 42 44,mv 0 45] 0 [0] .ret)))))
def Piece.short (p:Piece):Bool:=decide (p.cs.length<=8)&&decide (p.ws.length<=10)&&decide (p.ms.length<=13)
def aeO (p:Piece):Pure C 6 [p.dv] (.d (.bool p.short)) []:=by
 refine ah rH aS ?_;simp only[rH,aS,fD,ab,RN,H,O,U,V,qE,qF]
 by_cases h1:p.cs.length<=8
 case neg=>
  have a:¬(p.cs.length:Int)<=8:=by omega
  simp only[a,RN,H,O,U,V,qE,qF];simp[Piece.short,h1]
 have a:(p.cs.length:Int)<=8:=by omega
 by_cases h2:p.ws.length<=10
 case neg=>
  have b:¬(p.ws.length:Int)<=10:=by omega
  simp only[a,b,ab,RN,H,O,U,V,qE,qF];simp[Piece.short,h1,h2]
 have b:(p.ws.length:Int)<=10:=by omega
 by_cases e:p.ms.length<=13
 case neg=>
  have c:¬(p.ms.length:Int)<=13:=by omega
  simp only[a,b,c,ab,RN,H,O,U,V,qE,qF];simp[Piece.short,h1,h2,e]
 have c:(p.ms.length:Int)<=13:=by omega
 simp only[a,b,c,ab,RN,H,O,U,V,qE,qF];simp[Piece.short,h1,h2,e]
def adG:ai1.place 5 0 1=(⟨28,8⟩,0):=by decide+kernel
def jG:Pure C 8 [] (.d (.bool true)) []:=by
 have a:=afh ahv ai1 (by decide) (by decide) (by decide) 5 0 1;rw[adG]at a;have ht:=acd [1,2,8,9] [8,9,1,2] (by decide) (by decide) rfl;have e:yN [1,2,8,9] [8,9,1,2] 0 4=some 2:=by decide
 rw[show([1,2,8,9]:List Int).length=4 from rfl,e]at ht;refine ah qL am5 ?_;simp only[qL,am5,RN,H,O,U,V,qE,qF];refine au P_c ?_;(try simp only[RN,H,O,U,V,qE,qF]);refine au a ?_;simp only[sK,RN,H,O,U,V,qE,qF];refine GZ rfl rfl rfl ?_;(try simp only[RN,H,O,U,V,qE,qF]);refine GZ rfl rfl rfl ?_;(try simp only[RN,H,O,U,V,qE,qF]);refine au ht ?_;(try simp only[RN,H,O,U,V,qE,qF]);refine au afl ?_;(try simp only[RN,H,O,U,V,qE,qF]);refine fG rfl rfl (ZI vS Tf (by kernel_rfl) (by decide:SL.size<=1500) (by kernel_rfl) ako) ?_;have b:(Hw.toList==Hw.toList)=true:=beq_self_eq_true _;have c:(((2:Nat):Int)==2)=true:=rfl;have ha:(.str ⟨#[49,32,51,32,51,32,52,10,50,32,49,32,51,10,49,48,10]⟩:DV)= .str Hw:=rfl;simp only[z1,c,lU,Jl,ha,b,RN,H,O,U,V,qE,qF];rw[Ib (t:=true) rfl];have f:(true !=false)=true:=rfl;simp only[z1,c,f,lU,Jl,ha,b,RN,H,O,U,V,qE,qF]
def amJ:List Int->Nat->Nat
 | [],g=>g
 |n::xs,g=>amJ xs (aR g n.natAbs)
def amS (xs:List Int)(hl:xs.length<=1000000)(hx:∀x∈xs,x.natAbs<=4611686018427387904):Pure C 249 [.slice false (xs.map ay)] (.d (.int .i64 (amJ xs 0))) []:=by
 refine ah alU aS ?_;simp only[alU,aS,ab,RN,H,O,U,V,qE,qF];refine aG xs.length (fun i (g:Nat)=>⟨[(3, .d (.int .i64 g)),(8, .d (.slice false (xs.map ay))),(9, .d (.int .i64 xs.length)),(10, .d (.int .i64 i))],⟨[],[],[]⟩⟩)
  (fun i g=>amJ xs 0=amJ (xs.drop i) g) 0 0 (ap _) rfl rfl (fun i g h1 a=> ?_) (fun g a=> ?_)
 ·obtain⟨h2,e,f⟩:=rng h1 hl
  have k:=hx _ (getD_mem h1);rw[drop_cons h1,amJ]at a;have j:di .i64 (0 - xs.getD i default)= - xs.getD i default:=by rw[aF (by omega)];omega
  have h:(if - xs.getD i default>xs.getD i default then - xs.getD i default else xs.getD i default)=((xs.getD i default).natAbs:Int):=by split<;>omega
  simp only[h2,e,h1,getD_map,ae,ab,aZ,j,h,RN,H,O,U,V,qE,qF];refine qM (fun(q:Nat×Nat)=>⟨[(6, .d (.int .i64 q.1)),(7, .d (.int .i64 q.2)),(8, .d (.slice false (xs.map ay))),(9, .d (.int .i64 xs.length)),(10, .d (.int .i64 i))],⟨[],[],[]⟩⟩)
   (fun q=>aR q.1 q.2=aR g (xs.getD i default).natAbs) (fun q=>q.2) (g,(xs.getD i default).natAbs) (by simp only[aZ]) rfl (fun q c=> ?_)
  by_cases l:q.2=0
  ·have hb:¬((q.2:Int)>0):=by omega
   simp only[hb,f,RN,H,O,U,V,qE,qF];exact dX q.1 h1 rfl (by rw[l,Nat.gcd_zero_right]at c;rw[c];exact a) (by simp) (by simp) rfl rfl
  ·have hb:((q.2:Int)>0):=by omega
   have b:((q.2:Int)≠0):=by omega
   have ht:(q.1:Int).tmod (q.2:Int)=((q.1 % q.2:Nat):Int):=(Int.ofNat_tmod q.1 q.2).symm;simp only[hb,b,ht,RN,H,O,U,V,qE,qF];exact ZF (q.2,q.1 % q.2) (dg _ (by omega)) rfl (by simp only;rw[cq,<-Nat.gcd_rec,cq];exact c) (by simp) (by simp) rfl rfl
 ·rw[aw,amJ]at a
  simp only[av,a,RN,H,O,U,V,qE,qF]
def alD (num den:Int):Tn:=⟨num.tdiv (aR num.natAbs den.natAbs),den.tdiv (aR num.natAbs den.natAbs)⟩
def anq (num den:Int)(h1:num.natAbs<=4611686018427387904)(h2:den.natAbs<=4611686018427387904)(c:den≠0):Pure C 170 [.int .i64 num, .int .i64 den] (.d (alD num den).dv) []:=by
 have hd:=amS [num,den] (by simp) (by simp;omega);simp only[aD,bq,aZ,amJ,Nat.gcd_zero_left]at hd;have hg:((aR num.natAbs den.natAbs:Nat):Int)≠0:=by
  have:0<aR num.natAbs den.natAbs:=cm _ (by omega);omega
 have e:=Fq num (aR num.natAbs den.natAbs);have f:=Fq den (aR num.natAbs den.natAbs);have a:di .i64 (num.tdiv (aR num.natAbs den.natAbs))=num.tdiv (aR num.natAbs den.natAbs):=aF (by omega);have b:di .i64 (den.tdiv (aR num.natAbs den.natAbs))=den.tdiv (aR num.natAbs den.natAbs):=aF (by omega);refine ah al6 Ll ?_;simp only[al6,Ll,oC,RN,H,O,U,V,qE,qF];refine au hd ?_;simp only[hg,a,b,alM,alD,RN,H,O,U,V,qE,qF]
def Piece.joined (p:Piece)(a b:Int)(c:Tn):Tn×Bool:=
 if p.mesh a b then(alD (-c.num*(p.wh a).aO) (c.den*(p.wh b).aO),true)else(c,p.Fh a b)
def amk (l:Laid)(hg:l.p.good)(hf:l.fine)(a b:Int)(ha:l.p.isW a)(hb:l.p.isW b)(ht:1<=(l.p.wh b).aO)(q:Tn)(o:q.num.natAbs<=1000000000000000)(hd:1<=q.den/\q.den<=1000000000000000):
  Pure C 107 [l.dv, .int .i64 a, .int .i64 b,q.dv] (.d (.tup [(l.p.joined a b q).1.dv, .bool (l.p.joined a b q).2])) []:=by
 obtain⟨_,t1,t2,_⟩:=pz hg ha;obtain⟨_,t,u,_⟩:=pz hg hb;simp only[Piece.wh]at ht;have r:(-q.num*(l.p.ws.getD a.toNat default).aO).natAbs<=1000000000000000000:=by
  rw[bl,cY];have:(l.p.ws.getD a.toNat default).aO.natAbs<=1000:=by omega
  exact bN o this
 have s:(q.den*(l.p.ws.getD b.toNat default).aO).natAbs<=1000000000000000000:=by
  rw[bl];have h1:(l.p.ws.getD b.toNat default).aO.natAbs<=1000:=by omega
  have h2:q.den.natAbs<=1000000000000000:=by omega
  exact bN h2 h1
 have j:q.den*(l.p.ws.getD b.toNat default).aO≠0:=cU (by omega) (by omega);have k:di .i64 (0 - q.num)= -q.num:=by rw[aF (by omega)];omega
 have m:di .i64 (-q.num*(l.p.ws.getD a.toNat default).aO)= -q.num*(l.p.ws.getD a.toNat default).aO:=aF (by omega);have n:di .i64 (q.den*(l.p.ws.getD b.toNat default).aO)=q.den*(l.p.ws.getD b.toNat default).aO:=aF (by omega);have f:=xP l a b ha hb;obtain⟨h,i⟩:=ha;obtain⟨c,e⟩:=hb;refine ah alP aep ?_;simp only[alP,aep,iZ,alM,RN,H,O,U,V,qE,qF];refine au (KH l hf a b) ?_;cases g:l.p.mesh a b
 ·(try simp only[RN,H,O,U,V,qE,qF])
  refine au f ?_;simp only[Piece.joined,g,RN,H,O,U,V,qE,qF];simp
 ·simp only[getD_map,h,i,c,e,jX,ab,k,m,n,RN,H,O,U,V,qE,qF]
  refine fG rfl rfl (anq _ _ (by omega) (by omega) j) ?_;simp only[Piece.joined,g,if_true,alM,Piece.wh,RN,H,O,U,V,qE,qF]
end Go.Tel
namespace Go.Am
def ank {b o:Nat}{l:List PV}:gU (.ptr b o::l)=none:=rfl
section
variable {C:Ctx}{base nb na:Nat}{K:DV->Prop}{KP:DV->Mem->Prop}{L:PV->Mem->Prop}{bs:List (Option (List PV))}{fz:List Nat}{ar:List (Option Arr)}
def am9 {k:IntKind}{a b:Int}:lM .and k a b K=K (.int k (k.wrap ((BitVec.ofInt k.bits a&&&BitVec.ofInt k.bits b).toNat:Int))):=px
variable{sz:Nat}
def amZ {z:DV}{k k':IntKind}{n:Int}:ak C base (.mkRow sz z) [.d (.int k n), .d (.int k' n)] ⟨bs,fz,ar⟩ L KP=(0<=n/\n<=1048576/\0<sz/\z.fits sz=true/\L (.tsl ar.length 0 0) ⟨bs,fz,ar++ [some ⟨sz,am n.toNat z,0,1⟩]⟩):=
 propext ⟨fun h=>h.2,fun h=>⟨rfl,h⟩⟩
variable{k ver skip st:Nat}
def amR {xs:List DV}{kd:IntKind}{n:Int}(h:ar[k]?=some (some ⟨sz,xs,ver,st⟩))(a:0<=n)(c:n<=(xs.length - skip:Nat))(b:L (.tsl k ver (skip+n.toNat)) ⟨bs,fz,ar⟩):
  ak C base (.VW sz) [.tsl k ver skip, .d (.int kd n)] ⟨bs,fz,ar⟩ L KP:=by
 simp only[ak,Lh,h,if_true];exact⟨trivial,a,c,b⟩
def am7 {xs:List DV}{kd:IntKind}{n:Int}(h:ar[k]?=some (some ⟨sz,xs,ver,st⟩))(a:0<=n)(c:n<=(xs.length - skip:Nat))(b:L (.psl k ver skip n.toNat) ⟨bs,fz,ar⟩):
  ak C base (.VX sz) [.tsl k ver skip, .d (.int kd n)] ⟨bs,fz,ar⟩ L KP:=by
 simp only[ak,Lh,h,if_true];exact⟨trivial,a,c,b⟩
def amX {xs ys:List DV}{ex:Bool}(h:ar[k]?=some (some ⟨sz,xs,ver,1⟩))(hf:∀y∈ys,y.fits sz=true)
  (a:L (.d (.int .i64 (min ys.length (xs.length - skip):Nat))) ⟨bs,fz,ar.set k (some ⟨sz,xs.take skip++(ys.take (xs.length - skip)++xs.drop (skip+ys.length)),ver,1⟩)⟩):
  ak C base (.copy sz) [.tsl k ver skip, .d (.slice ex ys)] ⟨bs,fz,ar⟩ L KP:=by
 simp only[ak,Lh,h,if_true,Oz];exact⟨trivial,trivial,hf,a⟩
def amY {amE len:Nat}{xs:List DV}(h:ar[k]?=some (some ⟨sz,xs,ver,1⟩))(hf:∀y∈(xs.drop amE).take len,y.fits sz=true)
  (a:L (.d (.int .i64 (min ((xs.drop amE).take len).length (xs.length - skip):Nat))) ⟨bs,fz,ar.set k (some ⟨sz,xs.take skip++(((xs.drop amE).take len).take (xs.length - skip)++xs.drop (skip+((xs.drop amE).take len).length)),ver,1⟩)⟩):
  ak C base (.copy sz) [.tsl k ver skip, .psl k ver amE len] ⟨bs,fz,ar⟩ L KP:=by
 simp only[ak,Lh,h,if_true,Oz,bA];exact⟨trivial,trivial,hf,a⟩
end
end Go.Am
namespace Go.Tel
open Go.Am
def amh {n:Nat}(h:n<4294967296):IntKind.u64.wrap ((BitVec.ofInt IntKind.u64.bits (n:Int)&&&BitVec.ofInt IntKind.u64.bits 4294967295).toNat:Int)=n:=by
 have e:(BitVec.ofInt IntKind.u64.bits (n:Int)&&&BitVec.ofInt IntKind.u64.bits 4294967295).toNat=n:=by
  show(BitVec.ofInt 64 (n:Int)&&&BitVec.ofInt 64 4294967295).toNat=n
  rw[BitVec.toNat_and];have h1:(BitVec.ofInt 64 (n:Int)).toNat=n:=by
   rw[BitVec.toNat_ofInt];omega
  have h2:(BitVec.ofInt 64 4294967295).toNat=2 ^ 32 - 1:=by decide
  rw[h1,h2,Nat.and_two_pow_sub_one_eq_mod];omega
 rw[e];exact ahb (by omega)
def amN {n:Nat}(h:n<4294967296):de (n:Int) (2 ^ min (cC 32) IntKind.u64.bits)=0:=by
 have e:(2:Int) ^ min (cC 32) IntKind.u64.bits=4294967296:=by decide
 rw[e,Int.fdiv_eq_ediv_of_nonneg _ (by omega)];omega
def amr (n:Nat)(h:n<=1000000):Pure C 248 [.int .u64 1, .int .u64 n] (.d (.tup [.int .u64 0, .int .u64 n])) []:=by
 have b:IntKind.u64.wrap ((BitVec.ofInt IntKind.u64.bits 1&&&BitVec.ofInt IntKind.u64.bits 4294967295).toNat:Int)=1:=amh (n:=1) (by omega);have a:IntKind.u64.wrap ((BitVec.ofInt IntKind.u64.bits 0&&&BitVec.ofInt IntKind.u64.bits 4294967295).toNat:Int)=0:=amh (n:=0) (by omega);have c:=amh (n:=n) (by omega);have j:de 1 (2 ^ min (cC 32) IntKind.u64.bits)=0:=amN (n:=1) (by omega);have i:de 0 (2 ^ min (cC 32) IntKind.u64.bits)=0:=amN (n:=0) (by omega);have k:=amN (n:=n) (by omega);have f:IntKind.u64.wrap (1*(n:Int))=n:=by rw[Int.one_mul];exact ahb (by omega)
 have e:IntKind.u64.wrap (0*(n:Int))=0:=by rw[Int.zero_mul];rfl
 have z1:IntKind.u64.wrap (0+0)=0:=rfl;have l:IntKind.u64.wrap (1*0)=0:=rfl;have m:IntKind.u64.wrap (0*0)=0:=rfl;have g:(0:Int)<=32:=by decide
 refine ah al5 bQ ?_;simp only[al5,bQ,am9,aib,b,a,c,j,i,k,f,e,z1,l,m,g,RN,H,O,U,V,qE,qF]
def amH (n:Nat)(h:n<=1000000):Pure C 169 [.int .u64 1, .int .u64 n] (.d (.tup [.int .u64 0, .int .u64 n])) []:=by
 refine ah amd bQ ?_;simp only[amd,bQ,RN,H,O,U,V,qE,qF];refine au (amr n h) ?_;(try simp only[RN,H,O,U,V,qE,qF])
def am4 {α:Type}(T Z:α){q N:Nat}(h:q<=N):(am q T++am (N - q) Z).take q++((am q T).take (N - q)++(am q T++am (N - q) Z).drop (q+q))=am (q+min q (N - q)) T++am (N - (q+min q (N - q))) Z:=by
 apply cL;intro i;simp only[List.getElem?_append,List.getElem?_take,List.getElem?_drop,bE,ax,List.length_take,a8,List.length_drop]
 repeat' split
 all_goals(first|rfl|omega|(simp;omega))
def amW (t:Tn)(N:Nat)(h:N<=1000):Pure C 104 [.slice false [t.dv], .int .i64 N] (.tsl 0 0 0) [⟨2,am N t.dv,0,1⟩]:=by
 have s:¬((N:Int)<0):=by omega
 have m:IntKind.u64.wrap ((0+1:Nat):Int)=1:=by decide
 have j:IntKind.u64.wrap (N:Int)=N:=ahb (by omega);have n:di .i64 (N:Int)=N:=aF (by omega);have p:¬((0:Int)>0):=by decide
 have r:¬((N:Int)>9223372036854775807):=by omega
 refine iF alG aQ ?_;simp only[alG,aQ,s,m,RN,H,O,U,V,qE,qF];refine fG rfl rfl (by simp only[aD,bq,DV.strip,j];exact amH N (by omega)) ?_;have x:(0:Int)<=(N:Int):=by omega
 have z:(N:Int)<=1048576:=by omega
 have w:DV.fits 2 (.agg [.int .i64 0, .int .i64 0])=true:=rfl;simp only[j,n,p,r,amZ,x,z,w,ae,RN,H,O,U,V,qE,qF];refine amX (xs:=am N (.agg [.int .i64 0, .int .i64 0])) rfl (by simp[alM];rfl) ?_;(try simp only[RN,H,O,U,V,qE,qF]);have o:[t.dv].take N++(am N (DV.agg [.int .i64 0, .int .i64 0])).drop 1=am (min 1 N) t.dv++am (N - min 1 N) (.agg [.int .i64 0, .int .i64 0]):=by
  rcases N with _|N
  ·rfl
  ·rw[show min 1 (N+1)=1 by omega];simp
 refine qM (fun(q:Nat)=>⟨[(7, .tsl 1 0 0),(8, .d (.int .i64 q))],⟨[],[],[some ⟨2,[],0,0⟩,some ⟨2,am q t.dv++am (N - q) (.agg [.int .i64 0, .int .i64 0]),0,1⟩]⟩⟩)
  (fun q=>q<=N/\(0<N->0<q)) (fun q=>N - q) (min 1 N) (by simp only[a8,Nat.sub_zero,o]) ⟨by omega,by omega⟩ (fun q e=> ?_)
 have b:(((am q t.dv++am (N - q) (DV.agg [.int .i64 0, .int .i64 0])).length - 0:Nat):Int)=N:=by simp;omega
 by_cases u:q<N
 ·have a:(q:Int)<N:=by omega
  have g:(0:Int)<=(q:Int):=by omega
  have i:(q:Int)<=(((am q t.dv++am (N - q) (DV.agg [.int .i64 0, .int .i64 0])).length - 0:Nat):Int):=by rw[b];omega
  have l:=am4 t.dv (DV.agg [.int .i64 0, .int .i64 0]) e.1;have f:(am q t.dv++am (N - q) (DV.agg [.int .i64 0, .int .i64 0])).take q=am q t.dv:=by
   rw[List.take_append_of_le_length (by simp),List.take_of_length_le (by simp)]
  have c:(am q t.dv++am (N - q) (DV.agg [.int .i64 0, .int .i64 0])).length=N:=by simp;omega
  simp only[b,a,RN,H,O,U,V,qE,qF];refine amR rfl g i ?_;(try simp only[RN,H,O,U,V,qE,qF]);refine am7 rfl g i ?_;simp only[ae,RN,H,O,U,V,qE,qF];refine amY rfl (by rw[cg,f];intro y v;rw[List.eq_of_mem_replicate v];rfl) ?_;rw[cg,f,c,a8];rw[f]at l;have B:di .i64 ((q:Int)+((min q (N - q):Nat):Int))=((q+min q (N - q):Nat):Int):=by rw[aF (by omega)];omega
  simp only[B,l,RN,H,O,U,V,qE,qF];refine ZF (q+min q (N - q)) (by have:=e.2 (by omega);omega) rfl ⟨by omega,fun _=>by have:=e.2 (by omega);omega⟩ (by simp) (by simp) (by rfl) (by rfl)
 ·obtain rfl:q=N:=by omega
  have a:¬((q:Int)<q):=by omega
  simp only[b,a,RN,H,O,U,V,qE,qF];exact jL (k:=1) (A:=⟨2,_,0,1⟩) rfl rfl (ap _) (by simp)
end Go.Tel
namespace Go.Am
section
variable {C:Ctx}{base:Nat}{KP:DV->Mem->Prop}{L:PV->Mem->Prop}{M:Mem}
variable{x:DV}
def amw {t:TypeId}:ak C base (.mkI t) [.d x] M L KP=L (.d (.iface t x)) M:=by
 rw[anl (d:=x) rfl,show M.frz [PV.d x]=M from zT (ds:=[x])]
def al9 {t:TypeId}:ak C base .panic [.d (.iface t x)] M L KP=KP (.iface t x) M:=by
 simp only[ak,datum];rw[show M.frz [PV.d (.iface t x)]=M from zT (ds:=[.iface t x])]
end
variable{nb na:Nat}{env:List (Nat×PV)}{bs:List (Option (List PV))}{fz:List Nat}{ar:List (Option Arr)}
def Weak.keep {ks:List Nat}(h1:nb<=bs.length)(h2:na<=ar.length)(e:(env.all fun p=>p.2.upto bs.length ar.length)=true)
  (d:(bs.all fun c=>(c.getD []).all fun p=>p.upto bs.length ar.length)=true):Weak nb na ⟨env,⟨bs,fz,ar⟩⟩ ⟨gW env ks,⟨bs,fz.filter (fun b=>decide (b<bs.length)),ar⟩⟩:=by
 refine .inr ⟨bs.length,ar.length,h1,h2,by simp,fun t=> ?_,fun cs a c f=> ?_⟩
 ·rcases Iq (l:=env) (ks:=ks) t with h|h
  ·exact .inr ⟨h,by rw[h];exact U7 e t⟩
  ·exact .inl h
 ·simp only[cn]at d
  exact d cs a c f
def anj {α:Type}{a:α}{E:α->St}{P:α->Prop}{μ:α->Nat}(ks:List Nat)(d:α)(j:μ d<μ a)(hs:(⟨gW env ks,⟨bs,fz.filter (fun b=>decide (b<bs.length)),ar⟩⟩:St)=E d)(i:P d)
  (h1:nb<=bs.length)(h2:na<=ar.length)(g:(env.all fun p=>p.2.upto bs.length ar.length)=true)(h:(bs.all fun c=>(c.getD []).all fun p=>p.upto bs.length ar.length)=true):
  ∃f e,f<μ a/\Weak nb na ⟨env,⟨bs,fz,ar⟩⟩ e/\whJ E P μ f e:=⟨μ d,_,j,Weak.keep h1 h2 g h,d,rfl,hs,i⟩
def amF {K:Mem->Prop}{k ver i:Nat}{xs:List Go.Tel.Tn}{g:Go.Tel.Tn}(h:ar[k]?=some (some ⟨2,xs.map Go.Tel.Tn.dv,ver,1⟩))(hi:i<xs.length)
  (a:K ⟨bs,fz,ar.set k (some ⟨2,(xs.set i g).map Go.Tel.Tn.dv,ver,1⟩)⟩):iV 2 (.ji k ver i 0) (.d (.agg [.int .i64 g.num, .int .i64 g.den])) ⟨bs,fz,ar⟩ K:=by
 simp only[iV,Lh,h];have hd:(xs.map Go.Tel.Tn.dv).getD i default=Go.Tel.Tn.dv (xs.getD i default):=Go.Tel.getD_map hi;have ha:gU [PV.d (.int .i64 g.num),PV.d (.int .i64 g.den)]=some [.int .i64 g.num, .int .i64 g.den]:=rfl;have b:(xs.map Go.Tel.Tn.dv).set i (.agg [.int .i64 g.num, .int .i64 g.den])=(xs.set i g).map Go.Tel.Tn.dv:=by rw[List.map_set,Go.Tel.alM]
 simp only[if_true,PV.cells,aD,bq,ha,hd,Go.Tel.alM,setCells,b,DV.cells,splice,c7,bz,bc,bi,br,List.drop_succ_cons,cg,b6];exact⟨trivial,by decide,trivial,rfl,df _,a⟩
end Go.Am
namespace Go.Tel
open Go.Am
def amI (x y:Tn):bG [1,1] [.int .i64 x.num, .int .i64 x.den] [.int .i64 y.num, .int .i64 y.den]=some (decide (x=y)):=by
 obtain⟨a,b⟩:=x;obtain⟨c,d⟩:=y
 by_cases h1:a=c<;>by_cases h2:b=d<;>simp[bG,h1,h2]
def amT (q:Tn):Bool:=decide (q.num.natAbs<=1000000000000000)&&decide (1<=q.den)&&decide (q.den<=1000000000000000)
inductive RtR where
 |go (out:List Tn) (left:List Int)
 |locked (a b:Int)
 |none
 deriving DecidableEq,Inhabited
def Piece.al4 (p:Piece)(a:Int):Nat->Nat->List Tn->List Int->RtR
 |0,_,out,left=> .go out left
 |k+1,b,out,left=>
  if(b:Int)=a then p.al4 a k (b+1) out left
  else if p.mesh a b&&p.Fh a b then .locked a b
  else if amT (out.getD a.toNat default)&&decide (left.length<=1000)then
   if(p.joined a b (out.getD a.toNat default)).2=false then p.al4 a k (b+1) out left
   else if(out.getD b default).num=0 then p.al4 a k (b+1) (out.set b (p.joined a b (out.getD a.toNat default)).1) (left++ [(b:Int)])
   else if out.getD b default=(p.joined a b (out.getD a.toNat default)).1 then p.al4 a k (b+1) out left else .locked a b
  else .none
def Piece.rtF (p:Piece):Nat->List Tn->List Int->RtR
 | _,out,[]=> .go out []
 |0,_,_::_=> .none
 |k+1,out,a::l=>match p.al4 a p.ws.length 0 out l with
  | .go b c=>p.rtF k b c
  | .locked x y=> .locked x y
  | .none=> .none
def Piece.rt (p:Piece)(w:Int):RtR:=p.rtF (p.ws.length+1) ((am p.ws.length ⟨0,1⟩).set w.toNat ⟨1,1⟩) [w]
def rtB (p:Piece)(w:Int):List (Option (List PV)):=[some [.d (.int .i64 p.w), .d (.int .i64 p.h), .d (.int .i64 p.pl), .d (.int .i64 p.ga), .d (.int .i64 p.po), .d (.slice false (p.cs.map Pt.dv)), .d (.slice false (p.ws.map Wh.dv)), .d (.slice false (p.ms.map Ms.dv))],
 some [.d (.int .i64 w)],some [.d (.slice true [])],some [.d (.int .i64 0)]]
def rtM (p:Piece)(w:Int):Mem:=⟨rtB p w,[1,0],[]⟩
def ami (l:Laid)(hg:l.p.good)(hf:l.fine)(ht:∀w∈l.p.ws,1<=w.aO)(hl:l.p.ws.length<=1000)(w:Int)(hw:l.p.isW w)(p:Piece){K:PV->Mem->Prop}{KP:DV->Mem->Prop}
  (hn:l.p.rt w≠ .none)
  (hK:∀out left r2,l.p.rt w= .go out left->K (.tsl 0 0 0) ⟨rtB p w++ [some (l.cells.map .d)],[4,1,0],[some ⟨2,out.map Tn.dv,0,1⟩,r2]⟩)
  (hP:∀a b r1 r2,l.p.rt w= .locked a b->KP (.iface T.alN (.agg [.int .i64 a, .int .i64 b])) ⟨rtB p w++ [some (l.cells.map .d)],[4,1,0],[r1,r2]⟩)
  (R:∀a b x r1 r2,l.p.rt w= .locked a b->KP (.iface T.alN (.agg [.int .i64 a, .int .i64 b])) ⟨rtB p w++ [some (l.cells.map .d),some x],[5,4,1,0],[r1,r2]⟩):
  SC Go.Tel.C 44 [.d l.dv, .d (.int .i64 w)] (rtM p w) K KP:=by
 obtain⟨w1,N⟩:=hw;obtain⟨E,rfl⟩:=bB w1;rw[ae]at N;refine aC alQ aQ ?_;simp only[alQ,aQ,iZ,rtM,rtB,ab,RN,H,O,U,V,qE,qF];have hR:=amW ⟨0,1⟩ l.p.ws.length hl;simp only[alM]at hR;refine⟨rfl,pR rfl rfl hR (by simp) ?_⟩;simp only[SQ,w1,ae,a8,N,ab,RN,H,O,U,V,qE,qF];have G:am l.p.ws.length (DV.agg [.int .i64 0, .int .i64 1])=(am l.p.ws.length (⟨0,1⟩:Tn)).map Tn.dv:=by rw[List.map_replicate,alM]
 rw[G];refine amF (g:=⟨1,1⟩) rfl (by simpa using N) ?_;(try simp only[RN,H,O,U,V,qE,qF]);refine⟨rfl,?_⟩;simp only[aaI];refine⟨by decide,by simp[DV.strip,fits_int],?_⟩;(try simp only[RN,H,O,U,V,qE,qF]);refine qM (fun(q:Nat×List Tn×List Int×Nat×Nat)=>⟨[(2, .d (.aV l.cells)),(5, .tsl 0 0 0),(6, .tsl 1 q.2.2.2.2 q.2.2.2.1)],
   ⟨rtB p E++ [some (l.cells.map .d)],[4,1,0],[some ⟨2,q.2.1.map Tn.dv,0,1⟩,some ⟨1,q.2.2.1.map ay,q.2.2.2.2,0⟩]⟩⟩)
  (fun q=>q.2.2.2.1<=q.2.2.1.length/\q.2.1.length=l.p.ws.length/\q.2.2.1.length<=2000/\(∀x∈q.2.2.1,l.p.isW x)/\l.p.rt E=l.p.rtF q.1 q.2.1 (q.2.2.1.drop q.2.2.2.1)) (fun q=>q.1)
  (l.p.ws.length+1,(am l.p.ws.length ⟨0,1⟩).set E ⟨1,1⟩,[(E:Int)],0,0) rfl ⟨by simp,by simp,by simp,by simp[Piece.isW,N],rfl⟩ (fun q D=> ?_)
 obtain⟨k,out,f,s,ver⟩:=q;obtain⟨q1,q2,q3,q4,n⟩:=D;simp only at q1 q2 q3 q4 n
 by_cases L:s<f.length
 ·have P:((f.length - s:Nat):Int)>0:=by omega
  have b0:(0:Int)<=0:=by decide
  have b2:s+cC 0<f.length:=L;simp only[ab,P,b0,rtB,L,bt,getD_map,aZ,Laid.cells,RN,H,O,U,V,qE,qF];refine amR rfl (by decide) (by simp;omega) ?_;simp only[ab,RN,H,O,U,V,qE,qF];rw[drop_cons L]at n;cases k with
  |zero=>exact absurd (by rw[n,Piece.rtF]) hn
  |succ k=>
  rw[Piece.rtF]at n;have ac:l.p.al4 (f.getD s default) l.p.ws.length 0 out (f.drop (s+1))≠ .none:=fun h=>hn (by rw[n,h])
  have j:l.p.isW (f.getD s default):=q4 _ (getD_mem L);generalize f.getD s default=a at*;refine aG l.p.ws.length (fun i (r:List Tn×List Int×Nat×Nat)=>⟨[(2, .d (.aV l.cells)),(5, .tsl 0 0 0),(6, .tsl 1 r.2.2.2 r.2.2.1),(7, .d (.int .i64 a)),(35, .d (.int .i64 l.p.ws.length)),(36, .d (.int .i64 i))],
   ⟨rtB p E++ [some (l.cells.map .d)],[4,1,0],[some ⟨2,r.1.map Tn.dv,0,1⟩,some ⟨1,r.2.1.map ay,r.2.2.2,0⟩]⟩⟩)
   (fun i r=>r.2.2.1<=r.2.1.length/\r.1.length=l.p.ws.length/\r.2.1.length<=2000/\(∀x∈r.2.1,l.p.isW x)/\l.p.al4 a l.p.ws.length 0 out (f.drop (s+1))=l.p.al4 a (l.p.ws.length - i) i r.1 (r.2.1.drop r.2.2.1))
   0 (out,f,s+1,ver) (ap _) rfl ⟨by simp only;omega,q2,q3,q4,rfl⟩ (fun i r h1 z=> ?_) (fun r z=> ?_)
  ·obtain⟨c,e,t,alC⟩:=r
   obtain⟨r1,r2,r3,r4,r5⟩:=z;simp only at r1 r2 r3 r4 r5;obtain⟨h2,Q,I⟩:=rng h1 (by omega);rw[show l.p.ws.length - i=(l.p.ws.length - (i+1))+1 by omega,Piece.al4]at r5
   by_cases J:(i:Int)=a
   ·have hb:((i:Int)==a)=true:=by simp[J]
    rw[if_pos J]at r5;simp only[h2,hb,I,RN,H,O,U,V,qE,qF];exact dX (c,e,t,alC) h1 rfl ⟨r1,r2,r3,r4,r5⟩ (by simp[rtB]) (by simp) rfl rfl
   ·have hb:((i:Int)==a)=false:=by simp[J]
    rw[if_neg J]at r5;have m:l.p.isW (i:Int):=⟨Q,by simpa using h1⟩
    simp only[h2,hb,rtB,Laid.cells,RN,H,O,U,V,qE,qF];refine au (KH l hf a i) ?_;have F:l.p.al4 a l.p.ws.length 0 out (f.drop (s+1))= .locked a i->l.p.rt E= .locked a i:=fun h=>by rw[n,h]
    have A:a.toNat<c.length:=by rw[r2];exact j.2
    have y:i<c.length:=by rw[r2];exact h1
    have S:(0:Int)<=a:=j.1
    by_cases o:(l.p.mesh a i&&l.p.Fh a i)=true
    ·rw[if_pos o]at r5
     obtain⟨Y,aE⟩:l.p.mesh a i=true/\l.p.Fh a i=true:=by simpa using o
     rw[Y];(try simp only[RN,H,O,U,V,qE,qF]);refine au (xP l a i j m) ?_;rw[aE];simp only[amw,al9,RN,H,O,U,V,qE,qF];exact hP a i _ _ (F r5)
    rw[if_neg o]at r5
    by_cases B:(amT (c.getD a.toNat default)&&decide ((e.drop t).length<=1000))=true
    case neg=>rw[if_neg B]at r5;exact absurd r5 ac
    rw[if_pos B]at r5;obtain⟨ai,aL⟩:amT (c.getD a.toNat default)=true/\(e.drop t).length<=1000:=by simpa using B
    obtain⟨⟨an,ao⟩,aq⟩:((c.getD a.toNat default).num.natAbs<=1000000000000000/\1<=(c.getD a.toNat default).den)/\(c.getD a.toNat default).den<=1000000000000000:=by simpa[amT]using ai
    have hj:=amk l hg hf a i j m (ht _ (getD_mem m.2)) (c.getD a.toNat default) an ⟨ao,aq⟩;have W:2<=((c.map Tn.dv).getD a.toNat default).cells.length:=by rw[getD_map A,alM];exact df _
    have X:DV.agg (List.take 2 ((c.map Tn.dv).getD a.toNat default).cells)=(c.getD a.toNat default).dv:=by rw[getD_map A,alM];rfl
    have Z:l.p.mesh a i=true->l.p.Fh a i=false:=fun h=>by simpa[h]using o
    generalize l.p.joined a i (c.getD a.toNat default)=jn at*;obtain⟨u,is⟩:=jn;simp only at r5;cases Y:l.p.mesh a i
    case' true=>
     (try simp only[RN,H,O,U,V,qE,qF]);refine au (xP l a i j m) ?_;rw[Z Y]
    all_goals
     simp only[ab,S,A,W,X,RN,H,O,U,V,qE,qF];refine au hj ?_;cases is
     ·rw[if_pos rfl]at r5
      simp only[alM,I,RN,H,O,U,V,qE,qF];exact bK 5 2 (c,e,t,alC) h1 rfl ⟨r1,r2,r3,r4,r5⟩ (by simp) (by simp) rfl rfl
     ·rw[if_neg (by decide)]at r5
      by_cases M:(c.getD i default).num=0
      ·have v:((c.getD i default).num==0)=true:=beq_iff_eq.2 M
       rw[if_pos M]at r5;simp only[alM,Q,ae,ab,getD_map,y,v,RN,H,O,U,V,qE,qF];refine amF (g:=u) rfl y ?_;simp only[dV,fits_int,forall_eq,DV.strip,gZ,ab,RN,H,O,U,V,qE,qF];refine⟨by simp,by omega,?_⟩;simp only[I,RN,H,O,U,V,qE,qF];refine bK 5 2 (c.set i u,e.drop t++ [(i:Int)],0,alC+1) h1 ?_ ⟨ap _,by simp[r2],by simp only[ax,bc,bi];omega,?_,r5⟩ (by simp) (by simp) rfl rfl
       ·simp only[cr,List.map_drop,aD,bq,aZ];rfl
       ·intro x hx
        rcases bj.1 hx with hx|hx
        ·exact r4 x (List.mem_of_mem_drop hx)
        ·rw[be.1 hx];exact m
      ·have v:((c.getD i default).num==0)=false:=beq_eq_false_iff_ne.2 M
       rw[if_neg M]at r5;simp only[alM,Q,ae,ab,getD_map,y,v,RN,H,O,U,V,qE,qF];rw[Ib (amI _ _)]
       by_cases D:c.getD i default=u
       ·rw[if_pos D]at r5
        rw[decide_eq_true D];have hx:(true !=true)=false:=rfl;simp only[I,hx,RN,H,O,U,V,qE,qF];exact bK 5 2 (c,e,t,alC) h1 rfl ⟨r1,r2,r3,r4,r5⟩ (by simp) (by simp) rfl rfl
       ·rw[if_neg D]at r5
        rw[decide_eq_false D];have hx:(false !=true)=true:=rfl;simp only[amw,al9,hx,RN,H,O,U,V,qE,qF];exact R a i _ _ _ (F r5)
  ·obtain⟨c,e,t,alC⟩:=r
   obtain⟨r1,r2,r3,r4,r5⟩:=z;simp only at r1 r2 r3 r4 r5;rw[dd,Piece.al4]at r5;rw[r5]at n;simp only[av,RN,H,O,U,V,qE,qF];exact anj (a:=(k+1,out,f,s,ver)) (μ:=fun q=>q.1) [2,5,6] (k,c,e,t,alC) (Nat.lt_succ_self _) rfl ⟨r1,r2,r3,r4,n⟩ (by simp[rtB]) (by simp) rfl rfl
 ·have az:s=f.length:=by omega
  have P:¬((f.length - s:Nat):Int)>0:=by omega
  simp only[ab,P,RN,H,O,U,V,qE,qF];rw[az,aw,Piece.rtF]at n;exact hK out [] _ n
def slD (l:Option (List Tn)):DV:=match l with|some l=> .slice false (l.map Tn.dv)|none=> .slice true []
def Piece.alR (p:Piece)(w:Int):Option (List Tn)×Int:=
 if p.ok&&inR w 0 (p.ws.length - 1)then(match p.rt w with| .go out _=>(some out,0)| _=>(none,7))else(none,2)
def amg (p:Piece)(hc:p.cs.length<=1000)(hw:p.ws.length<=1000)(j:p.ms.length<=1000)(w:Int)(l:p.ok=true->p.isW w->p.rt w≠ .none):
  Pure C 16 [p.dv, .int .i64 w] (.d (.tup [slD (p.alR w).1, .int .i64 (p.alR w).2])) []:=by
 refine ah alW bQ ?_;simp only[alW,bQ,fD,RN,H,O,U,V,qE,qF];refine au (KF p hc hw j) ?_;cases c:p.ok
 ·(try simp only[RN,H,O,U,V,qE,qF])
  rw[Piece.alR,c];rfl
 (try simp only[RN,H,O,U,V,qE,qF]);refine fG rfl rfl (zV p w (by omega)) ?_;cases e:inR w 0 (p.ws.length - 1)
 ·(try simp only[RN,H,O,U,V,qE,qF])
  rw[Piece.alR,c,e];rfl
 have i:p.isW w:=by simp only[inR,aq,decide_eq_true_eq]at e;exact⟨by omega,by omega⟩
 simp only[ank,bp,c7,cg,RN,H,O,U,V,qE,qF];refine YE mixed ams ?_;simp only[alY,RN,H,O,U,V,qE,qF];refine⟨3,rfl,?_⟩;simp only[alZ,PG,RN,H,O,U,V,qE,qF];refine⟨by kernel_rfl,aC alT fB ?_⟩;simp only[alT,fB,RN,H,O,U,V,qE,qF];refine fG rfl rfl (ahv p [] j (by simp)) ?_;have f:=Piece.IB c;have k:((0:Int) !=0)=false:=rfl;have h:((7:Int) !=0)=true:=rfl;refine ami (p.laid []) f (Piece.PY p []) (fun x m=>by have:=(Piece.NP c x m).1;omega) hw w i p (l c i) (fun out left r2 g=> ?_) (fun a b r1 r2 g=> ?_) (fun a b x r1 r2 g=> ?_)
 ·simp only[rtB,YW,Zk,RN,H,O,U,V,qE,qF]
  refine⟨trivial,?_⟩;simp only[OG,alJ,Dz,lK,k,RN,H,O,U,V,qE,qF];refine adg rfl ?_;(try simp only[RN,H,O,U,V,qE,qF]);rw[Piece.alR,c,e,show p.rt w= .go out left from g]
  rfl
 ·simp only[rtB,Hr,alJ,Dy,jY,lK,h,RN,H,O,U,V,qE,qF]
  rw[Piece.alR,c,e,show p.rt w= .locked a b from g]
  rfl
 ·simp only[rtB,Hr,alJ,Dy,jY,lK,h,RN,H,O,U,V,qE,qF]
  rw[Piece.alR,c,e,show p.rt w= .locked a b from g]
  rfl
def anb (p:Piece)(hc:p.cs.length<=1000)(hw:p.ws.length<=1000)(i:p.ms.length<=1000)(at_:Pt)(aO a b:Int)(ha:p.isW a):
  Pure C 15 [p.dv,at_.dv, .int .i64 aO, .int .i64 a, .int .i64 b] (.d (p.with at_ (p.wh a).layer aO (jI a b)).dv) []:=by
 obtain⟨e,f⟩:=ha;refine O4 mixed rfl amB ?_;simp only[amf,aes,fD,sK,ab,ai,getD_map,e,f,jX,YW,Zk,RN,H,O,U,V,qE,qF];have c:∀{d:DV} {n:Nat},d.fits n=true->∀y:DV,y=d->y.fits n=true:=fun h y g=>by rw[g];exact h
 refine⟨agI p.cs,by simp,by simp,by omega,rfl,c rfl,by simp,by omega,ahe p.ws,by simp,by simp,by omega,rfl,c rfl,by simp,by omega,agz p.ms,by simp,by simp,by omega,rfl,c rfl,by simp,by omega,?_⟩
 by_cases hb:b>=0
 ·simp only[hb,YW,Zk,ax,ab,RN,H,O,U,V,qE,qF]
  refine⟨rfl,c rfl,by simp,by omega,?_⟩;simp only[YW,Zk,aci,bp,dB,Ju,pW,RN,H,O,U,V,qE,qF];rw[jI,if_pos hb];simp[datum,bW,dS,Lh,fD,Piece.with,sK,jX,Cm,DV.strip,Piece.wh]
 ·simp only[hb,YW,Zk,aci,bp,dB,Ju,pW,RN,H,O,U,V,qE,qF]
  rw[jI,if_neg hb];simp[datum,bW,dS,Lh,fD,Piece.with,sK,jX,Cm,DV.strip,Piece.wh]
def Piece.room (p:Piece)(b:Int):Bool:=decide (p.cs.length<6)&&decide (p.ws.length<8)&&decide (p.ms.length+(if b>=0 then 2 else 1)<=10)
def ana (p:Piece)(b:Int)(f:p.ms.length<=1000):Pure C 14 [p.dv, .int .i64 b] (.d (.bool (p.room b))) []:=by
 have c:di .i64 ((p.ms.length:Int)+1)=((p.ms.length+1:Nat):Int):=by rw[aF (by omega)];omega
 have e:di .i64 ((p.ms.length:Int)+2)=((p.ms.length+2:Nat):Int):=by rw[aF (by omega)];omega
 refine ah ame aQ ?_;simp only[ame,aQ,fD,ai,RN,H,O,U,V,qE,qF]
 by_cases hb:b>=0
 ·simp only[hb,ab,ai,RN,H,O,U,V,qE,qF]
  repeat' first
   |(refine aH (by rfl) (fun a=> ?_) (fun a=> ?_)<;>simp only[a,ab,e,ai,RN,H,O,U,V,qE,qF])
   |(refine aP (by rfl) (fun a=> ?_) (fun a=> ?_)<;>simp only[a,ab,e,ai,RN,H,O,U,V,qE,qF])
  all_goals(rw[Piece.room,if_pos hb];simp_all<;>(intros;first|omega|(apply decide_eq_decide.2;omega)|(rw[bv];simp;omega)))
 ·simp only[hb,ab,ai,RN,H,O,U,V,qE,qF]
  repeat' first
   |(refine aH (by rfl) (fun a=> ?_) (fun a=> ?_)<;>simp only[a,ab,c,ai,RN,H,O,U,V,qE,qF])
   |(refine aP (by rfl) (fun a=> ?_) (fun a=> ?_)<;>simp only[a,ab,c,ai,RN,H,O,U,V,qE,qF])
  all_goals(rw[Piece.room,if_neg hb];simp_all<;>(intros;first|omega|(apply decide_eq_decide.2;omega)|(rw[bv];simp;omega)))
structure Tn.low (q:Tn):Prop where
 den:1<=q.den
 gcd:aR q.num.natAbs q.den.natAbs=1
def al7 (n d:Int):n=(aR n.natAbs d.natAbs:Nat)*(alD n d).num/\d=(aR n.natAbs d.natAbs:Nat)*(alD n d).den:=by
 have h1:((aR n.natAbs d.natAbs:Nat):Int)∣n:=cI.2 (Nat.gcd_dvd_left _ _);have h2:((aR n.natAbs d.natAbs:Nat):Int)∣d:=cI.2 (Nat.gcd_dvd_right _ _);exact⟨(cA h1).symm,(cA h2).symm⟩
def alH {n d:Int}(h:1<=d):(alD n d).low:=by
 obtain⟨h1,h2⟩:=al7 n d;have hg:0<aR n.natAbs d.natAbs:=cm _ (by omega);have e:=alD n d;constructor
 ·refine bu fun hh=> ?_
  have:((aR n.natAbs d.natAbs:Nat):Int)*(alD n d).den<=0:=Int.mul_nonpos_of_nonneg_of_nonpos (by omega) (by omega);omega
 ·have a:n.natAbs=aR n.natAbs d.natAbs*(alD n d).num.natAbs:=by
   have:=congrArg cX h1
   rwa [bl,cH]at this
  have b:d.natAbs=aR n.natAbs d.natAbs*(alD n d).den.natAbs:=by
   have:=congrArg cX h2
   rwa [bl,cH]at this
  have c:aR n.natAbs d.natAbs*aR (alD n d).num.natAbs (alD n d).den.natAbs=aR n.natAbs d.natAbs:=by
   rw[<-Nat.gcd_mul_left,<-a,<-b]
  exact Nat.eq_of_mul_eq_mul_left hg (by rw[c,Nat.mul_one])
def alI {n d:Int}:(alD n d).num*d=n*(alD n d).den:=by
 obtain⟨h1,h2⟩:=al7 n d;generalize (aR n.natAbs d.natAbs:Nat)=g at*;generalize alD n d=q at*;rw[h1,h2,<-Int.mul_assoc,Int.mul_comm q.num]
def amb {q r:Tn}(j:q.low)(g:r.low)(h:q.num*r.den=r.num*q.den):q=r:=by
 have i:q.num.natAbs*r.den.natAbs=r.num.natAbs*q.den.natAbs:=by
  have:=congrArg cX h
  rwa [bl,bl]at this
 have k:q.den.natAbs∣r.den.natAbs:=by
  have f:cB q.den.natAbs q.num.natAbs:=by rw[cB,cq];exact j.gcd
  exact f.dvd_of_dvd_mul_left (i▸cS _ _)
 have l:r.den.natAbs∣q.den.natAbs:=by
  have f:cB r.den.natAbs r.num.natAbs:=by rw[cB,cq];exact g.gcd
  exact f.dvd_of_dvd_mul_left (i▸cS _ _)
 have hd:q.den=r.den:=by
  have:=Nat.dvd_antisymm k l;have:=j.den;have:=g.den;omega
 have m:r.den≠0:=by have:=g.den;omega
 rw[hd]at h;have e:=a6 m h;obtain⟨a,b⟩:=q;obtain⟨c,d⟩:=r;simp only at hd e;rw[hd,e]
def ani {n d:Int}(h:n≠0):(alD n d).num≠0:=by
 intro hh;have:=(al7 n d).1;rw[hh,Int.mul_zero]at this;exact h this
def anh {n d:Int}:(alD n d).num.natAbs<=n.natAbs/\(alD n d).den.natAbs<=d.natAbs:=⟨Fq _ _,Fq _ _⟩
def Piece.tied (p:Piece)(a b:Int):Bool:=p.mesh a b||p.Fh a b
def Piece.stp (p:Piece)(a b:Int)(q:Tn):Tn:=(p.joined a b q).1
def am2 (p:Piece)(a b:Int)(q:Tn):(p.joined a b q).2=p.tied a b:=by
 rw[Piece.joined,Piece.tied];cases p.mesh a b<;>rfl
def amn (p:Piece)(a b:Int):p.mesh a b=p.mesh b a:=by
 rw[Piece.mesh,Piece.mesh,Int.min_comm,Int.max_comm]
def ama (p:Piece)(a b:Int):p.Fh a b=p.Fh b a:=by
 simp only[Piece.Fh,Piece.o9];rw[bv];simp only[aq,beq_iff_eq];omega
def al2 (p:Piece)(a b:Int):p.tied a b=p.tied b a:=by rw[Piece.tied,amn,ama];rfl
inductive Piece.Re (p:Piece) (w:Nat):Nat->Prop
 |refl:p.Re w w
 |step {a b:Nat}:p.Re w a->b<p.ws.length->b≠a->p.tied a b=true->p.Re w b
variable{p:Piece}{w:Nat}
def alS (hw:w<p.ws.length){a:Nat}(h:p.Re w a):a<p.ws.length:=by
 cases h with
 |refl=>exact hw
 |step _ h _ _=>exact h
def amv {a b:Nat}(h1:p.Re w a)(h2:p.Re a b):p.Re w b:=by
 induction h2 with
 |refl=>exact h1
 |step _ c d e f=>exact .step f c d e
def amq (hw:w<p.ws.length){a:Nat}(h:p.Re w a):p.Re a w:=by
 induction h with
 |refl=>exact .refl
 |step h1 h2 d e f=>
  rename_i c b
  exact amv (.step .refl (alS hw h1) (Ne.symm d) (by rw[al2];exact e)) f
def Piece.Agr (p:Piece)(T:Nat->Tn)(a b:Nat):Prop:=(p.mesh a b&&p.Fh a b)=false/\(p.tied a b=true->T b=p.stp a b (T a))
structure Piece.Lab (p:Piece) (w:Nat) (T:Nat->Tn):Prop where
 one:T w=⟨1,1⟩
 agr:∀a b:Nat,p.Re w a->b<p.ws.length->b≠a->p.Agr T a b
def amV {T S:Nat->Tn}(h1:p.Lab w T)(h2:p.Lab w S){a:Nat}(h:p.Re w a):T a=S a:=by
 induction h with
 |refl=>rw[h1.one,h2.one]
 |step b c d e f=>
  rw[(h1.agr _ _ b c d).2 e,(h2.agr _ _ b c d).2 e,f]
section
variable {p:Piece}{M:Nat}(hM:∀w∈p.ws,1<=w.aO/\w.aO<=M)
include hM
variable{a:Nat}
theorem alK (ha:a<p.ws.length):1<=(p.wh a).aO/\(p.wh a).aO<=M:=hM _ (getD_mem (by simpa using ha))
variable{b:Nat}
theorem ane (hb:b<p.ws.length){q:Tn}(c:q.low):(p.stp a b q).low:=by
 have:=(alK hM hb).1;rw[Piece.stp,Piece.joined]
 split
 ·refine alH ?_
  have:=cz c.den this (by omega) (by have:=c.den;omega);omega
 ·exact c
theorem amO (ha:a<p.ws.length){q:Tn}(c:q.num≠0):(p.stp a b q).num≠0:=by
 have:=(alK hM ha).1;rw[Piece.stp,Piece.joined]
 split
 ·exact ani (cU (by omega) (by omega))
 ·exact c
theorem anp (ha:a<p.ws.length)(hb:b<p.ws.length)(h1:1<=M){q:Tn}{B:Nat}(e:q.num.natAbs<=B/\q.den.natAbs<=B):(p.stp a b q).num.natAbs<=B*M/\(p.stp a b q).den.natAbs<=B*M:=by
 have h:=alK hM ha;have i:=alK hM hb;have c:B<=B*M:=cp _ h1;rw[Piece.stp,Piece.joined]
 split
 ·obtain⟨l1,l2⟩:=anh (n:= -q.num*(p.wh a).aO) (d:=q.den*(p.wh b).aO)
  rw[bl,cY]at l1;rw[bl]at l2;have f:=bN e.1 (show(p.wh a).aO.natAbs<=M by omega);have g:=bN e.2 (show(p.wh b).aO.natAbs<=M by omega);exact⟨cb l1 f,cb l2 g⟩
 ·exact⟨cb e.1 c,cb e.2 c⟩
end
def unk (out:List Tn):Nat:=out.countP fun q=>q.num==0
variable{b:Nat}
def amu {out:List Tn}{v:Tn}(hb:b<out.length)(c:(out.getD b default).num=0)(hv:v.num≠0):unk (out.set b v)+1=unk out:=by
 have hg:out.getD b default=out[b]:=by rw[ao,aL hb];rfl
 rw[hg]at c;rw[unk,List.countP_set hb,<-unk];have a:(out[b].num==0)=true:=beq_iff_eq.2 c;have d:(v.num==0)=false:=beq_eq_false_iff_ne.2 hv;have:0<unk out:=List.countP_pos_iff.2 ⟨out[b],cR hb,a⟩;simp only[a,d,if_true,az,if_false];omega
def alE {α:Type}[Inhabited α]{l:List α}{v:α}(hb:b<l.length)(c:Nat):(l.set b v).getD c default=if c=b then v else l.getD c default:=by
 rw[ao,cN]
 by_cases h:c=b
 ·subst h;simp[hb]
 ·rw[if_neg (fun e=>h e.symm),if_neg h,ao]
structure anB (p:Piece) (w M:Nat) (out:List Tn) (left:List Int) (done:Nat->Prop) (cur:Nat->Prop):Prop where
 len:out.length=p.ws.length
 one:out.getD w default=⟨1,1⟩
 zer:∀b,b<p.ws.length->(out.getD b default).num=0->out.getD b default=⟨0,1⟩
 re:∀b,b<p.ws.length->(out.getD b default).num≠0->p.Re w b
 low:∀b,b<p.ws.length->(out.getD b default).num≠0->(out.getD b default).low
 bd:∀b,b<p.ws.length->(out.getD b default).num≠0->(out.getD b default).num.natAbs<=M ^ (p.ws.length - 1 - unk out)/\(out.getD b default).den.natAbs<=M ^ (p.ws.length - 1 - unk out)
 lft:∀x∈left,p.isW x/\(out.getD x.toNat default).num≠0
 cov:∀b:Nat,b<p.ws.length->(out.getD b default).num≠0->(b:Int)∈left\/done b\/cur b
 lab:∀T,p.Lab w T->∀b,b<p.ws.length->(out.getD b default).num≠0->out.getD b default=T b
 dn:∀a,done a->a<p.ws.length/\(out.getD a default).num≠0/\∀b,b<p.ws.length->b≠a->p.Agr (fun i=>out.getD i default) a b
section
variable {p:Piece}{w M:Nat}(hM:∀w∈p.ws,1<=w.aO/\w.aO<=M)(h1M:1<=M)(hw:w<p.ws.length)
include hM h1M hw
theorem amQ {out:List Tn}{b:Nat}{v:Tn}(hb:b<out.length)(j:(out.getD b default).num=0){a c:Nat}(ha:a<p.ws.length)(hc:c<p.ws.length)(d:(out.getD a default).num≠0)(h:p.Agr (fun i=>out.getD i default) a c):
  p.Agr (fun i=>(out.set b v).getD i default) a c:=by
 refine⟨h.1,fun ht=> ?_⟩;have hh:=h.2 ht;have hab:a≠b:=fun e=>d (by rw[e];exact j)
 have g:(out.getD c default).num≠0:=by rw[show out.getD c default=_ from hh];exact amO hM ha d
 have f:c≠b:=fun e=>g (by rw[e];exact j)
 simp only[alE hb,if_neg hab,if_neg f];exact hh
theorem anB.set {out:List Tn}{left:List Int}{done cur:Nat->Prop}(I:anB p w M out left done cur){a b:Nat}(ha:a<p.ws.length)(g:(out.getD a default).num≠0)(hb:b<p.ws.length)(l:b≠a)(ht:p.tied a b=true)(n:(out.getD b default).num=0):
  anB p w M (out.set b (p.stp a b (out.getD a default))) (left++ [(b:Int)]) done cur/\unk (out.set b (p.stp a b (out.getD a default)))+1=unk out:=by
 have d:b<out.length:=by rw[I.len];exact hb
 have k:=amO hM ha (b:=b) g;have C:=amu d n k;have D:unk out<=p.ws.length - 1:=by
  have t:unk out<out.length:=by
   refine Nat.lt_of_le_of_ne List.countP_le_length fun e=> ?_
   have:=List.countP_eq_length.1 e (out.getD a default) (getD_mem (by rw[I.len];exact ha));exact g (beq_iff_eq.1 this)
  rw[I.len]at t;omega
 have m:=I.low a ha g;have r:=I.bd a ha g;have s:=anp hM ha hb h1M r;have anz:M ^ (p.ws.length - 1 - unk (out.set b (p.stp a b (out.getD a default))))=M ^ (p.ws.length - 1 - unk out)*M:=by
  rw[<-Nat.pow_succ];congr 1;omega
 have v:p.Re w b:= .step (I.re a ha g) hb l ht;refine⟨{len:=by rw[b7];exact I.len,one:= ?_,zer:=fun c j o=> ?_,re:=fun c j f=> ?_,low:=fun c j f=> ?_,bd:=fun c j f=> ?_,lft:=fun x hx=> ?_,cov:=fun c j f=> ?_,lab:=fun T q c j f=> ?_,dn:=fun c j=> ?_},C⟩
 ·have:w≠b:=fun e=>by rw[<-e,I.one]at n;cases n
  rw[alE d,if_neg this];exact I.one
 ·rw[alE d]at o⊢
  split at o
  ·exact absurd o k
  ·rename_i i
   rw[if_neg i];exact I.zer c j o
 ·rw[alE d]at f
  split at f
  ·rename_i e;rw[e];exact v
  ·exact I.re c j f
 ·rw[alE d]at f⊢
  split
  ·exact ane hM hb m
  ·rename_i i
   rw[if_neg i]at f;exact I.low c j f
 ·rw[anz]
  rw[alE d]at f⊢
  split
  ·exact s
  ·rename_i i
   rw[if_neg i]at f;have:=I.bd c j f;have G:M ^ (p.ws.length - 1 - unk out)<=M ^ (p.ws.length - 1 - unk out)*M:=cp _ h1M;omega
 ·rcases bj.1 hx with hx|hx
  ·obtain⟨E,F⟩:=I.lft x hx
   refine⟨E,?_⟩;rw[alE d]
   split
   ·exact k
   ·exact F
  ·rw[be.1 hx]
   refine⟨⟨by omega,by simpa using hb⟩,?_⟩;rw[alE d,ae,if_pos rfl];exact k
 ·rw[alE d]at f
  split at f
  ·rename_i e;left;rw[e];simp
  ·rcases I.cov c j f with h|h
   ·left;simp[h]
   ·right;exact h
 ·rw[alE d]at f⊢
  split
  ·rename_i e
   rw[e,(q.agr a b (I.re a ha g) hb l).2 ht,<-I.lab T q a ha g]
  ·rename_i i
   rw[if_neg i]at f;exact I.lab T q c j f
 ·obtain⟨y,z,B⟩:=I.dn c j
  refine⟨y,?_,fun e A u=>amQ hM h1M hw d n y A z (B e A u)⟩;rw[alE d]
  split
  ·exact k
  ·exact z
theorem alV {done:Nat->Prop}{a:Nat}(ha:a<p.ws.length)(B:M ^ (p.ws.length - 1)<=1000000000000000)(q:p.ws.length<=1000):
  ∀(k b:Nat) (out:List Tn) (left:List Int),b+k=p.ws.length->anB p w M out left done (fun c=>c=a)->(out.getD a default).num≠0->(∀c,c<b->c≠a->p.Agr (fun i=>out.getD i default) a c)->left.length+unk out<=p.ws.length->
  match p.al4 a k b out left with
  | .go g n=>anB p w M g n done (fun c=>c=a)/\(g.getD a default).num≠0/\(∀c,c<p.ws.length->c≠a->p.Agr (fun i=>g.getD i default) a c)/\n.length+unk g=left.length+unk out
  | .locked _ _=>¬∃T,p.Lab w T
  | .none=>False
 |0,b,out,left,D,I,d,s,_=>by
  rw[Piece.al4];exact⟨I,d,fun c K E=>s c (by omega) E,rfl⟩
 |k+1,b,out,left,D,I,d,s,G=>by
  have hb:b<p.ws.length:=by omega
  have z:=I.re a ha d;rw[Piece.al4]
  by_cases e:(b:Int)=(a:Int)
  ·rw[if_pos e]
   exact alV ha B q k (b+1) out left (by omega) I d (fun c h1 h2=>s c (by omega) h2) G
  rw[if_neg e];have j:b≠a:=by omega
  by_cases f:(p.mesh a b&&p.Fh a b)=true
  ·rw[if_pos f]
   rintro⟨T,u⟩;have:=(u.agr a b z hb j).1;rw[f]at this;cases this
  rw[if_neg f];rw[cP]at f;have v:=I.low a ha d;have J:=I.bd a ha d;have L:M ^ (p.ws.length - 1 - unk out)<=M ^ (p.ws.length - 1):=b5 h1M (by omega);have F:(amT (out.getD (a:Int).toNat default)&&decide (left.length<=1000))=true:=by
   rw[ae,amT];have:=v.den;simp only[aq,decide_eq_true_eq];omega
  rw[if_pos F,am2];have A:(p.joined a b (out.getD (a:Int).toNat default)).1=p.stp a b (out.getD a default):=by rw[Piece.stp,ae]
  rw[A]
  by_cases ht:p.tied a b=true
  case neg=>
   rw[cP]at ht;rw[if_pos ht];refine alV ha B q k (b+1) out left (by omega) I d (fun c h1 h2=> ?_) G
   by_cases m:c=b
   ·subst m
    exact⟨f,fun h=>by rw[ht]at h;cases h⟩
   ·exact s c (by omega) h2
  rw[if_neg (by rw[ht];decide)]
  by_cases t:(out.getD b default).num=0
  ·rw[if_pos t]
   obtain⟨H,N⟩:=I.set hM h1M hw ha d hb j ht t;have r:b<out.length:=by rw[I.len];exact hb
   have anx:((out.set b (p.stp a b (out.getD a default))).getD a default).num≠0:=by rw[alE r,if_neg (Ne.symm j)];exact d
   have:=alV ha B q k (b+1) _ _ (by omega) H anx (fun c h1 h2=>by
    by_cases m:c=b
    ·subst m
     refine⟨f,fun _=> ?_⟩;simp only[alE r,if_neg (Ne.symm j),if_true]
    ·exact amQ hM h1M hw r t ha (by omega) d (s c (by omega) h2)) (by rw[ax,aE];omega)
   revert this
   generalize p.al4 a k (b+1) _ _=R;intro this;cases R with
   |go o l=>
    obtain⟨t1,t2,O,P⟩:=this;exact⟨t1,t2,O,by rw[P,ax,aE];omega⟩
   |locked x y=>exact this
   |none=>exact this
  rw[if_neg t]
  by_cases C:out.getD b default=p.stp a b (out.getD a default)
  ·rw[if_pos C]
   refine alV ha B q k (b+1) out left (by omega) I d (fun c h1 h2=> ?_) G
   by_cases m:c=b
   ·subst m
    exact⟨f,fun _=>C⟩
   ·exact s c (by omega) h2
  ·rw[if_neg C]
   rintro⟨T,u⟩;exact C (by rw[I.lab T u b hb t,(u.agr a b z hb j).2 ht,<-I.lab T u a ha d])
theorem amC (q:M ^ (p.ws.length - 1)<=1000000000000000)(g:p.ws.length<=1000):
  ∀(k:Nat) (out:List Tn) (left:List Int) (done:Nat->Prop),anB p w M out left done (fun _=>False)->left.length+unk out<k->left.length+unk out<=p.ws.length->
  match p.rtF k out left with
  | .go i f=>f=[]/\∃d,anB p w M i [] d (fun _=>False)
  | .locked _ _=>¬∃T,p.Lab w T
  | .none=>False
 |k,out,[],done,I,_,_=>by
  have e:p.rtF k out []= .go out []:=by cases k<;>rfl
  rw[e];exact⟨rfl,done,I⟩
 |0,out,x::l,done,I,h,_=>by omega
 |k+1,out,x::l,done,I,h,t=>by
  obtain⟨⟨A,n⟩,r⟩:=I.lft x List.mem_cons_self;obtain⟨a,rfl⟩:=bB A;rw[ae]at n r;rw[Piece.rtF];simp only[bc]at h t;have s:anB p w M out l done (fun c=>c=a):={I with
   lft:=fun y u=>I.lft y (List.mem_cons_of_mem _ u)
   cov:=fun b hb m=>by
    rcases I.cov b hb m with h|h|h
    ·rcases bS.1 h with h|h
     ·exact .inr (.inr (by omega))
     ·exact .inl h
    ·exact .inr (.inl h)
    ·exact h.elim}
  have:=alV hM h1M hw n q g p.ws.length 0 out l (by omega) s r (fun c h=>by omega) (by omega)
  revert this
  generalize p.al4 a p.ws.length 0 out l=R;intro this;cases R with
  |go o v=>
   obtain⟨t1,t2,z,B⟩:=this;refine amC q g k o v (fun c=>done c\/c=a) {t1 with
    cov:=fun b hb m=>by
     rcases t1.cov b hb m with h|h
     ·exact .inl h
     ·exact .inr (.inl h)
    dn:=fun c j=>by
     rcases j with j|rfl
     ·exact t1.dn c j
     ·exact⟨n,t2,z⟩} (by omega) (by omega)
  |locked x y=>exact this
  |none=>exact this
theorem anC:anB p w M ((am p.ws.length (⟨0,1⟩:Tn)).set w ⟨1,1⟩) [(w:Int)] (fun _=>False) (fun _=>False):=by
 have e:(am p.ws.length (⟨0,1⟩:Tn)).length=p.ws.length:=a8;have i:∀c,c<p.ws.length->(am p.ws.length (⟨0,1⟩:Tn)).getD c default=⟨0,1⟩:=fun c g=>by
  rw[ao,bE,if_pos g];rfl
 have hg:∀c,c<p.ws.length->((am p.ws.length (⟨0,1⟩:Tn)).set w ⟨1,1⟩).getD c default=if c=w then⟨1,1⟩else⟨0,1⟩:=fun c g=>by
  rw[alE (by rw[e];exact hw),i c g]
 have _hu:unk ((am p.ws.length (⟨0,1⟩:Tn)).set w ⟨1,1⟩)+1=p.ws.length:=by
  rw[amu (by rw[e];exact hw) (by rw[i w hw]) (by decide),unk,ct];rfl
 have f:∀c,c<p.ws.length->(((am p.ws.length (⟨0,1⟩:Tn)).set w ⟨1,1⟩).getD c default).num≠0->c=w:=fun c g d=>by
  rw[hg c g]at d
  split at d
  ·rename_i h;exact h
  ·exact absurd rfl d
 exact{
  len:=by rw[b7,e]
  one:=by rw[hg w hw,if_pos rfl]
  zer:=fun b hb j=>by
   rw[hg b hb]at j⊢
   split at j
   ·cases j
   ·rename_i h;rw[if_neg h]
  re:=fun b hb d=>by rw[f b hb d];exact .refl
  low:=fun b hb d=>by
   rw[hg b hb,if_pos (f b hb d)];exact⟨by decide,by decide⟩
  bd:=fun b hb d=>by
   rw[hg b hb,if_pos (f b hb d)];exact⟨c8 _ _ h1M,c8 _ _ h1M⟩
  lft:=fun x l=>by
   rw[be.1 l];refine⟨⟨by omega,by simpa using hw⟩,?_⟩;rw[ae,hg w hw,if_pos rfl];decide
  cov:=fun b hb d=>by left;rw[f b hb d];simp
  lab:=fun T k b hb d=>by rw[hg b hb,if_pos (f b hb d),f b hb d,k.one]
  dn:=fun a h=>h.elim}
structure Piece.Found (p:Piece) (w M:Nat) (out:List Tn):Prop where
 len:out.length=p.ws.length
 zer:∀b,b<p.ws.length->¬p.Re w b->out.getD b default=⟨0,1⟩
 ne:∀b,p.Re w b->(out.getD b default).num≠0
 low:∀b,p.Re w b->(out.getD b default).low
 bd:∀b,p.Re w b->(out.getD b default).num.natAbs<=M ^ (p.ws.length - 1)/\(out.getD b default).den.natAbs<=M ^ (p.ws.length - 1)
 lab:p.Lab w fun i=>out.getD i default
theorem anc (t:M ^ (p.ws.length - 1)<=1000000000000000)(k:p.ws.length<=1000):
  (∃out,p.rt w= .go out []/\p.Found w M out)\/(∃a b,p.rt w= .locked a b)/\¬∃T,p.Lab w T:=by
 have n:(am p.ws.length (⟨0,1⟩:Tn)).length=p.ws.length:=a8;have m:∀c,c<p.ws.length->(am p.ws.length (⟨0,1⟩:Tn)).getD c default=⟨0,1⟩:=fun c u=>by
  rw[ao,bE,if_pos u];rfl
 have A:unk ((am p.ws.length (⟨0,1⟩:Tn)).set w ⟨1,1⟩)+1=p.ws.length:=by
  rw[amu (by rw[n];exact hw) (by rw[m w hw]) (by decide),unk,ct];rfl
 have I:=anC hM h1M hw;have:=amC hM h1M hw t k (p.ws.length+1) _ _ _ I (by rw[aE];omega) (by rw[aE];omega);have f:p.rt w=p.rtF (p.ws.length+1) ((am p.ws.length ⟨0,1⟩).set w ⟨1,1⟩) [(w:Int)]:=by rw[Piece.rt,ae]
 rw[<-f]at this;cases i:p.rt w with
 |go out l=>
  rw[i]at this;obtain⟨rfl,done,J⟩:=this
  left
  have e:∀b,b<p.ws.length->(out.getD b default).num≠0->done b:=fun b hb j=>by
   rcases J.cov b hb j with h|h|h
   ·cases h
   ·exact h
   ·exact h.elim
  have d:∀b,p.Re w b->(out.getD b default).num≠0:=fun b hb=>by
   induction hb with
   |refl=>rw[J.one];decide
   |step h1 h2 g s z=>
    rename_i a b
    obtain⟨o,q,r⟩:=J.dn a (e a (alS hw h1) z);rw[show out.getD b default=_ from(r b h2 g).2 s];exact amO hM o q
  have v:M ^ (p.ws.length - 1 - unk out)<=M ^ (p.ws.length - 1):=b5 h1M (by omega);exact⟨out,rfl,{
   len:=J.len
   zer:=fun b hb j=>J.zer b hb (by
    refine bu fun h=>j (J.re b hb h))
   ne:=d
   low:=fun b hb=>J.low b (alS hw hb) (d b hb)
   bd:=fun b hb=>by
    have:=J.bd b (alS hw hb) (d b hb);omega
   lab:=⟨J.one,fun a b h1 h2 g=>(J.dn a (e a (alS hw h1) (d a h1))).2.2 b h2 g⟩}⟩
 |locked x y=>
  rw[i]at this;exact .inr ⟨⟨x,y,rfl⟩,this⟩
 |none=>rw[i]at this;exact this.elim
end
def al8 {c n d:Int}(hc:1<=c)(hd:1<=d):alD (c*n) (c*d)=alD n d:=by
 have h1:1<=c*d:=by have:=cz hc hd (by omega) (by omega);omega
 refine amb (alH h1) (alH hd) ?_;have b:=alI (n:=c*n) (d:=c*d);have e:=alI (n:=n) (d:=d);generalize alD (c*n) (c*d)=q at*;generalize alD n d=r at*;have a:c*d≠0:=by omega
 refine a6 a ?_
 calc q.num*r.den*(c*d)=q.num*(c*d)*r.den:=by ac_rfl
  _=c*n*q.den*r.den:=by rw[b]
  _=n*r.den*(c*q.den):=by ac_rfl
  _=r.num*d*(c*q.den):=by rw[e]
  _=r.num*q.den*(c*d):=by ac_rfl
structure Rel (n:Nat) (out out':List Tn):Prop where
 l1:out.length=n
 l2:out'.length=n
 eq:∀b,b<n->((out.getD b default).num=0/\out'.getD b default=⟨0,0⟩/\out.getD b default=⟨0,1⟩)\/((out.getD b default).num≠0/\1<=(out.getD b default).den/\out'.getD b default=out.getD b default)
def Rel.set {n:Nat}{out out':List Tn}(h:Rel n out out'){b:Nat}(hb:b<n){v:Tn}(hv:v.num≠0)(hd:1<=v.den):Rel n (out.set b v) (out'.set b v):={
 l1:=by rw[b7];exact h.l1
 l2:=by rw[b7];exact h.l2
 eq:=fun c a=>by
  rw[alE (by rw[h.l1];exact hb),alE (by rw[h.l2];exact hb)]
  split
  ·exact .inr ⟨hv,hd,rfl⟩
  ·exact h.eq c a}
variable{a b:Int}
def alF (ha:1<=a)(hb:1<=b):1<=a*b:=by have:=cz ha hb (by omega) (by omega);omega
variable{p:Piece}
def Piece.am3 (h:p.ok=true):∀w∈p.ws,1<=w.aO/\w.aO<=(50:Nat):=fun w hw=>by
 have:=Piece.NP h w hw;omega
def anm (h:p.ok=true):50 ^ (p.ws.length - 1)<=1000000000000000:=by
 have:=(Piece.Zj h).2.1;exact cb (b5 (by decide) (show p.ws.length - 1<=7 by omega)) (by decide)
def amD (h:p.ok=true){w:Nat}(hw:w<p.ws.length):(∃out,p.rt w= .go out []/\p.Found w 50 out)\/(∃a b,p.rt w= .locked a b)/\¬∃T,p.Lab w T:=
 anc (Piece.am3 h) (by decide) hw (anm h) (by have:=(Piece.Zj h).2.1;omega)
def amM (h:p.ok=true){w:Int}(hw:p.isW w):p.rt w≠ .none:=by
 obtain⟨d,c⟩:=hw;obtain⟨n,rfl⟩:=bB d;rw[ae]at c
 rcases amD h c with⟨out,h1,_⟩|⟨⟨a,b,h1⟩,_⟩<;>(rw[h1];intro hh;cases hh)
def amm (b:p.ok=true){a:Nat}(ha:a<p.ws.length):p.alR a=(match p.rt a with| .go out _=>(some out,0)| _=>(none,7)):=by
 have h1:inR (a:Int) 0 (p.ws.length - 1)=true:=by simp only[inR,aq,decide_eq_true_eq];omega
 rw[Piece.alR,b,h1];rfl
def al0 (b:p.ok=true){a:Nat}(ha:a<p.ws.length){t:List Tn}{l:List Int}(h:p.rt a= .go t l):p.alR a=(some t,0):=by rw[amm b ha,h]
def alX (b:p.ok=true){a:Nat}(ha:a<p.ws.length){x y:Int}(h:p.rt a= .locked x y):p.alR a=(none,7):=by rw[amm b ha,h]
structure Idle (p q:Piece) (a b:Nat) (t:Int):Prop where
 len:q.ws.length=p.ws.length+1
 wh:∀i:Nat,i<p.ws.length->q.wh i=p.wh i
 te:(q.wh p.ws.length).aO=t
 mesh:∀i j:Nat,i<p.ws.length->j<p.ws.length->q.mesh i j=p.mesh i j
 amy:∀i:Nat,i<p.ws.length->q.mesh i p.ws.length=(i==a||i==b)
 sl:∀i:Nat,i<p.ws.length->q.Fh i p.ws.length=false
def amx {α:Type}[Inhabited α]{l:List α}{x:α}{i:Nat}(h:i<l.length):(l++ [x]).getD i default=l.getD i default:=by
 rw[ao,ao,ch h]
def am8 (d:p.ok=true){a b:Nat}(ha:a<p.ws.length)(hb:b<p.ws.length)(o:Pt)(L t:Int):Idle p (p.with o L t [(a:Int),(b:Int)]) a b t:={
 len:=by simp[Piece.with]
 wh:=fun i c=>by simp only[Piece.wh,Piece.with,ae];exact amx c
 te:=by simp[Piece.wh,Piece.with]
 mesh:=fun i j c e=>by
  rw[bv,Piece.mesh,Piece.mesh,bO,bO];simp only[Piece.with,bj,aD,bq,bS,ai,or_false,Ms.mk.injEq];exact⟨fun h=>h.elim id fun h=>by omega, .inl⟩
 amy:=fun i c=>by
  rw[bv,Piece.mesh,bO];simp only[Piece.with,bj,aD,bq,bS,ai,or_false,Ms.mk.injEq,aM,beq_iff_eq];constructor
  ·rintro(h|h|h)
   ·have:=ajb d _ h
    simp only at this;omega
   ·omega
   ·omega
  ·rintro(rfl|rfl)
   ·right;left;omega
   ·right;right;omega
 sl:=fun i c=>by
  have h1:0<=(p.wh i).iY/\(p.wh i).iY.toNat<p.cs.length:=(pz (Piece.IB d) (show p.isW i from⟨by omega,by simpa using c⟩)).1;have e1:(p.with o L t [(a:Int),(b:Int)]).wh i=p.wh i:=by simp only[Piece.wh,Piece.with,ae];exact amx c
  have e2:((p.with o L t [(a:Int),(b:Int)]).wh p.ws.length).iY=p.cs.length:=by simp[Piece.wh,Piece.with]
  rw[Piece.Fh,Piece.o9,e1,e2,show((p.wh i).iY==(p.cs.length:Int))=false from beq_eq_false_iff_ne.2 (by omega)]
  rfl}
def al3 (q s:Tn):Tn:=alD (q.num*s.num) (q.den*s.den)
variable{q s:Tn}
def amA (a:q.low)(hs:s.low):(al3 q s).low:=alH (alF a.den hs.den)
def al1 (p:Piece)(a b:Int)(q:Tn):p.stp a b q=if p.mesh a b then alD (-q.num*(p.wh a).aO) (q.den*(p.wh b).aO)else q:=by
 rw[Piece.stp,Piece.joined];split<;>rfl
def anf (w:1<=(p.wh a).aO)(tb:1<=(p.wh b).aO)(c:q.low)(hs:s.low):p.stp a b (al3 q s)=al3 (p.stp a b q) s:=by
 rw[al1,al1];cases p.mesh a b
 ·rfl
 rw[if_pos rfl,if_pos rfl];have e:=alF c.den hs.den;have f:=amA c hs;have h1:(alD (-(al3 q s).num*(p.wh a).aO) ((al3 q s).den*(p.wh b).aO)).low:=alH (alF f.den tb);have h2:(alD (-q.num*(p.wh a).aO) (q.den*(p.wh b).aO)).low:=alH (alF c.den tb);have i:=amA h2 hs;refine amb h1 i ?_;have g:=alI (n:=q.num*s.num) (d:=q.den*s.den);have r:=alI (n:= -(al3 q s).num*(p.wh a).aO) (d:=(al3 q s).den*(p.wh b).aO);have t:=alI (n:= -q.num*(p.wh a).aO) (d:=q.den*(p.wh b).aO);have h:=alI (n:=(alD (-q.num*(p.wh a).aO) (q.den*(p.wh b).aO)).num*s.num) (d:=(alD (-q.num*(p.wh a).aO) (q.den*(p.wh b).aO)).den*s.den);have k:=f.den;have l:=h2.den;have m:=c.den;have o:=hs.den;rw[<-al3]at g h;generalize al3 (alD (-q.num*(p.wh a).aO) (q.den*(p.wh b).aO)) s=W at*;generalize alD (-q.num*(p.wh a).aO) (q.den*(p.wh b).aO)=Z at*;generalize alD (-(al3 q s).num*(p.wh a).aO) ((al3 q s).den*(p.wh b).aO)=Y at*;generalize al3 q s=X at*;generalize (p.wh a).aO=u at*;generalize (p.wh b).aO=v at*;have j:X.den*v*(Z.den*s.den)*(q.den*v)*(q.den*s.den)≠0:=by
  have:=alF (alF (alF (alF k tb) (alF l o)) (alF m tb)) e;omega
 refine a6 j ?_
 grind
def alO (x y:List Tn)(n:Nat)(W S:Tn)(c:Nat):Tn:=if c=n then W else if(x.getD c default).num≠0 then x.getD c default else al3 (y.getD c default) S
section
variable {p q:Piece}{a b:Nat}{t:Int}{x y:List Tn}(I:Idle p q a b t)(hM:∀w∈p.ws,1<=w.aO/\w.aO<=(50:Nat))(ht:1<=t)(ha:a<p.ws.length)(hb:b<p.ws.length)(Fx:p.Found a 50 x)(Fy:p.Found b 50 y)(hab:¬p.Re a b)
include I hM ht ha hb Fx Fy hab
theorem am0:q.Lab a (alO x y p.ws.length (alD (-(p.wh a).aO) t) (alD (p.wh a).aO (p.wh b).aO)):=by
 obtain⟨W,F⟩:∃W,W=alD (-(p.wh a).aO) t:=⟨_,rfl⟩
 obtain⟨S,E⟩:∃S,S=alD (p.wh a).aO (p.wh b).aO:=⟨_,rfl⟩
 rw[<-F,<-E];have Y:=(alK hM ha).1;have R:=(alK hM hb).1;have lW:W.low:=by rw[F];exact alH ht
 have lS:S.low:=by rw[E];exact alH R
 have vW:W.num*t= -(p.wh a).aO*W.den:=by rw[F];exact alI
 have vS:S.num*(p.wh b).aO=(p.wh a).aO*S.den:=by rw[E];exact alI
 have xa:x.getD a default=⟨1,1⟩:=Fx.lab.one;have U:y.getD b default=⟨1,1⟩:=Fy.lab.one;have m:∀c,p.Re a c->c<p.ws.length/\alO x y p.ws.length W S c=x.getD c default:=fun c e=>by
  have:=alS ha e;exact⟨this,by rw[alO,if_neg (by omega),if_pos (Fx.ne c e)]⟩
 have l:∀c,p.Re b c->c<p.ws.length/\alO x y p.ws.length W S c=al3 (y.getD c default) S:=fun c e=>by
  have h1:=alS hb e;have h2:¬p.Re a c:=fun h=>hab (amv h (amq hb e))
  exact⟨h1,by rw[alO,if_neg (by omega),if_neg (by rw[Fx.zer c h1 h2];decide)]⟩
 have A:alO x y p.ws.length W S a=⟨1,1⟩:=by rw[(m a .refl).2,xa]
 have K:alO x y p.ws.length W S b=S:=by
  rw[(l b .refl).2,U,al3];have:=al8 (c:=1) (n:=S.num) (d:=S.den) (by omega) lS.den;simp only at this⊢;rw[this];refine amb (alH lS.den) lS alI
 have P:alO x y p.ws.length W S p.ws.length=W:=by rw[alO,if_pos rfl]
 have k:∀c d:Nat,c<p.ws.length->d<p.ws.length->∀u,q.stp c d u=p.stp c d u:=fun c d e hd u=>by
  rw[al1,al1,I.mesh c d e hd,I.wh c e,I.wh d hd]
 have o:∀c d:Nat,c<p.ws.length->d<p.ws.length->q.Fh c d=p.Fh c d:=fun c d e hd=>by
  simp only[Piece.Fh,Piece.o9,I.wh c e,I.wh d hd]
 have i:∀c d:Nat,c<p.ws.length->d<p.ws.length->q.tied c d=p.tied c d:=fun c d e hd=>by
  rw[Piece.tied,Piece.tied,I.mesh c d e hd,o c d e hd]
 have r:∀c:Nat,c<p.ws.length->q.tied c p.ws.length=(c==a||c==b):=fun c e=>by
  rw[Piece.tied,I.amy c e,I.sl c e,db]
 have w:∀c,q.Re a c->c=p.ws.length\/p.Re a c\/p.Re b c:=fun c e=>by
  induction e with
  |refl=>exact .inr (.inl .refl)
  |step h1 h2 L s Q=>
   rename_i c d
   by_cases hd:d=p.ws.length
   ·exact .inl hd
   have hd:d<p.ws.length:=by have:=I.len;omega
   rcases Q with rfl|e|e
   ·rw[al2,r d hd]at s
    simp only[aM,beq_iff_eq]at s
    rcases s with rfl|rfl
    ·exact .inr (.inl .refl)
    ·exact .inr (.inr .refl)
   ·exact .inr (.inl (.step e hd L (by rw[<-i c d (alS ha e) hd];exact s)))
   ·exact .inr (.inr (.step e hd L (by rw[<-i c d (alS hb e) hd];exact s)))
 have z:∀c,(c=a\/c=b)->alO x y p.ws.length W S p.ws.length=q.stp c p.ws.length (alO x y p.ws.length W S c)/\alO x y p.ws.length W S c=q.stp p.ws.length c (alO x y p.ws.length W S p.ws.length):=fun c e=>by
  have g:c<p.ws.length:=by rcases e with rfl|rfl<;>assumption
  have M:q.mesh c p.ws.length=true:=by
   rw[I.amy c g]
   rcases e with rfl|rfl<;>simp
  have H:q.mesh p.ws.length c=true:=by rw[amn];exact M
  rw[al1,al1,M,H,if_pos rfl,if_pos rfl,P,I.wh c g,I.te];have N:=(alK hM g).1;obtain⟨C,v⟩:∃C,C=alO x y p.ws.length W S c:=⟨_,rfl⟩
  have lC:C.low:=by
   rcases e with rfl|rfl
   ·rw[v,A];exact⟨by decide,by decide⟩
   ·rw[v,K];exact lS
  have vC:C.num*(p.wh c).aO=(p.wh a).aO*C.den:=by
   rcases e with rfl|rfl
   ·rw[v,A];simp
   ·rw[v,K];exact vS
  rw[<-v];have l1:(alD (-C.num*(p.wh c).aO) (C.den*t)).low:=alH (alF lC.den ht);have l2:(alD (-W.num*t) (W.den*(p.wh c).aO)).low:=alH (alF lW.den N);have V:=alI (n:= -C.num*(p.wh c).aO) (d:=C.den*t);have X:=alI (n:= -W.num*t) (d:=W.den*(p.wh c).aO);have O:=lC.den;have T:=lW.den;constructor
  ·refine amb lW l1 ?_
   generalize alD (-C.num*(p.wh c).aO) (C.den*t)=Z at*;have J:C.den*t≠0:=by have:=alF O ht;omega
   refine a6 J ?_
   grind
  ·refine amb lC l2 ?_
   generalize alD (-W.num*t) (W.den*(p.wh c).aO)=Z at*;have J:W.den*(p.wh c).aO≠0:=by have:=alF T N;omega
   refine a6 J ?_
   grind
 refine⟨A,fun c d e hd j=> ?_⟩;rw[I.len]at hd
 by_cases g:c=p.ws.length
 ·subst g
  have hd:d<p.ws.length:=by omega
  refine⟨by rw[ama,I.sl d hd,cW],fun h=> ?_⟩;rw[al2,r d hd]at h;simp only[aM,beq_iff_eq]at h;exact(z d h).2
 by_cases G:d=p.ws.length
 ·subst G
  have f:c<p.ws.length:=by
   rcases w c e with h|h|h
   ·exact absurd h g
   ·exact alS ha h
   ·exact alS hb h
  refine⟨by rw[I.sl c f,cW],fun h=> ?_⟩;rw[r c f]at h;simp only[aM,beq_iff_eq]at h;exact(z c h).1
 have hd:d<p.ws.length:=by omega
 rcases w c e with h|h|h
 ·exact absurd h g
 ·have f:=alS ha h
  obtain⟨B,D⟩:=Fx.lab.agr c d h hd j;refine⟨by rw[I.mesh c d f hd,o c d f hd];exact B,fun ht=> ?_⟩;rw[i c d f hd]at ht;rw[(m d (.step h hd j ht)).2,(m c h).2,k c d f hd];exact D ht
 ·have f:=alS hb h
  obtain⟨B,D⟩:=Fy.lab.agr c d h hd j;refine⟨by rw[I.mesh c d f hd,o c d f hd];exact B,fun ht=> ?_⟩;rw[i c d f hd]at ht;rw[(l d (.step h hd j ht)).2,(l c h).2,k c d f hd,anf (alK hM f).1 (alK hM hd).1 (Fy.low c h) lS,<-D ht]
end
def am1 {p:Piece}(j:p.ok=true){a b:Nat}(ha:a<p.ws.length)(hb:b<p.ws.length){o:Pt}{L t:Int}(m:(p.with o L t [(a:Int),(b:Int)]).ok=true){x y:List Tn}(Fx:p.Found a 50 x)(Fy:p.Found b 50 y)(hab:¬p.Re a b):
  ∃r,(p.with o L t [(a:Int),(b:Int)]).rt a= .go r []/\r.length=p.ws.length+1/\r.getD b default=alD (p.wh a).aO (p.wh b).aO/\r.getD p.ws.length default=alD (-(p.wh a).aO) t/\
   ∀k,k<p.ws.length->(x.getD k default).num≠0->r.getD k default=x.getD k default:=by
 have I:=am8 j ha hb o L t;obtain⟨q,s⟩:∃q,q=p.with o L t [(a:Int),(b:Int)]:=⟨_,rfl⟩
 rw[<-s]at m I⊢;have E:=I.len;have ht:1<=t:=by
  have:=(Piece.am3 m _ (getD_mem (show p.ws.length<q.ws.length by omega))).1;have e:=I.te;rw[Piece.wh,ae]at e;omega
 have hM:=Piece.am3 j;have f:=am0 I hM ht ha hb Fx Fy hab
 rcases amD m (show a<q.ws.length by omega)with⟨r,h1,F⟩|⟨_,h⟩
 ·have l:q.Re a p.ws.length:= .step .refl (by omega) (by omega) (by rw[Piece.tied,I.amy a ha];simp)
  have g:b=a\/q.Re a b:=by
   by_cases e:b=a
   ·exact .inl e
   ·exact .inr (.step l (by omega) (by omega) (by rw[al2,Piece.tied,I.amy b hb];simp))
  have g:q.Re a b:=g.elim (fun e=>absurd (e▸Piece.Re.refl) hab) id;have u:∀k,p.Re a k->q.Re a k:=fun k i=>by
   induction i with
   |refl=>exact .refl
   |step C w D z H=>
    rename_i c d
    have A:=alS ha C;refine .step H (by omega) D ?_;simp only[Piece.tied,Piece.Fh,Piece.o9]at z⊢;rw[I.mesh c d A w,I.wh c A,I.wh d w];exact z
  have v:=fun k (i:q.Re a k)=>amV F.lab f i
  have J:=(alK hM hb).1;have lS:(alD (p.wh a).aO (p.wh b).aO).low:=alH J;refine⟨r,h1,by rw[F.len,E],?_,?_,fun k i B=> ?_⟩
  ·have:=v b g
   rw[this,alO,if_neg (by omega),if_neg (by rw[Fx.zer b hb hab];decide),show y.getD b default=⟨1,1⟩ from Fy.lab.one,al3];have e:=al8 (c:=1) (n:=(alD (p.wh a).aO (p.wh b).aO).num) (d:=(alD (p.wh a).aO (p.wh b).aO).den) (by omega) lS.den;simp only at e⊢;rw[e];exact amb (alH lS.den) lS alI
  ·have:=v _ l
   rw[this,alO,if_pos rfl]
  ·have G:p.Re a k:=bu fun h=>B (by rw[Fx.zer k i h])
   have:=v k (u k G);rw[this,alO,if_neg (by omega),if_pos B]
 ·exact absurd ⟨_,f⟩ h
end Go.Tel
