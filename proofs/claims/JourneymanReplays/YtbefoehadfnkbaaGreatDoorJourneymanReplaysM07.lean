/-
  Part 7 of a law of desks.
  Conditions: none.
-/
import Derived.Test.YtbefoehadfnkbaaGreatDoorJourneymanReplaysM04
import Derived.Test.YtbefoehadfnkbaaGreatDoorJourneymanReplaysM06
import Derived.Ground.NamesProg
import Derived.Shelf.Strings.Split
import Derived.Shelf.Strings.OnBuilder
import Derived.Shelf.Strconv.Itoa3
import Derived.Lib.ItoaLen
import Derived.Laws.RangeString
import Derived.Laws.RangeAny
import Derived.Shelf.Small.Strs
set_option linter.all false
set_option maxRecDepth 10000
set_option maxHeartbeats 4000000
open Nat renaming reduceBEq->z,reduceAdd->F,reduceSub->H,reduceEqDiff->I,reduceLT->J,reduceLeDiff->N,le_refl->aL,lt_irrefl->bl,zero_le->br,div_mul_cancel->bN,add_sub_cancel->cl,sub_self->cB,mul_div_mul_right->cG,gcd_dvd_right->c6,sub_zero->c7,gcd_dvd_left->dc,mul_one->dg,mod_lt->dm,le_trans->dt,mul_comm->du,succ_mul->dx
open List renaming getD_eq_getElem?_getD->Q,length_append->V,length_cons->W,map_cons->Y,length_map->ae,getElem?_eq_some_iff->ai,getElem?_append_left->am,mem_cons->ao,length_nil->ap,getElem?_set_ne->av,mem_cons_of_mem->aw,mem_cons_self->ax,mem_singleton->az,drop_zero->aD,all_eq_true->aE,cons_append->aM,mem_map->aR,map_append->a7,mem_append->a8,getD_cons_zero->bc,length_singleton->bh,append_assoc->bi,filter_congr->bj,range'->bq,map_nil->bt,foldl_cons->bv,getElem?_concat_length->bz,perm_append_singleton->bA,not_mem_nil->bB,append_nil->bE,nil_append->bL,getElem?_set_self->bO,mem_range->bR,mem_range'_1->bS,filter_cons->bX,range_eq_range'->b0,take_append_of_le_length->b3,mem_filter->b4,getD_cons_succ->b7,map_eq_nil_iff->b8,map_map->ca,foldl_nil->cj,pairwise_cons->ck,foldl_append->cm,length->cn,getElem?_eq_getElem->cq,append_cancel_left->ct,range->cz,take_of_length_le->cA,find?_cons->cC,length_set->cD,nodup_cons->cE,pairwise_append->cI,drop_succ_cons->cJ,findSome?_cons->cK,map_congr_left->cL,all_cons->cP,count_eq_zero->cQ,filter_append->cR,filter_filter->cT,zip_cons_cons->cU,any_eq_false->cX,flatten_cons->cY,getElem?_map->c2,map->c3,size_toArray->c4,zip_nil_left->c5,drop_length->c8,range'_succ->c9,take_length->db,filter_nil->di,range_succ->dj,all_nil->dq,toArray->dr,drop->dy,take->dz
open Bool renaming and_eq_true->U,false_eq_true->be,true_and->bk,eq_iff_iff->bu,false_and->cb,and_self->cM,and_true->cN,not_eq_true'->cV
open Int renaming toNat_natCast->aq,eq_ofNat_of_zero_le->bp,mul_nonneg->cf,natAbs_mul->cg,lt_irrefl->cp,le_refl->cH,pow_succ->dp
open Option renaming getD_some->bd,map_none->b5,isSome_iff_exists->cr,getD_none->cv,bind_some->de,map_some->dk
open Array renaming length_toList->bo,getD_eq_getD_getElem?->b9,getElem?_toList->cF
open ByteArray renaming size_append->bw,data_extract->cw,size->dl
open Function renaming comp_def->cW
open Go.IntKind renaming wrap->dC
namespace Go.Tel
open Go.Am
def af4 (ex:Bool):Pure C 240 [.slice ex []] (.d (.tup [])) []:=by
 refine rH fun X w g l j i=> ?_
 cases i with|cons h1 t1=>
 cases t1;have b:∀a cap,Calls C.P 240 #[.slice a 0 cap] w fun e c=>∃v,e= .returned v/\Later w c/\bW c X v (.tup []):=by
  intro a cap;refine(Go.Proofs.Any.slices_Sort_int_none Go.Proofs.Tryz.laysSort a cap w).mono ?_;rintro e c ⟨rfl,rfl⟩;exact⟨_,rfl,Later.refl _, .tup .nil⟩
 cases h1 with
 |empty j=>exact b _ _
 |slice m o f p n k h=>
  simp only[ap]at f;subst f;exact b _ _
def QJ (xs:List Int)(ex:Bool)(hl:xs.length<=1000000){bs:List (Option (List PV))}{fz:List Nat}{ar:List (Option Arr)}(a:FzB ⟨bs,fz,ar⟩){KP:DV->Mem->Prop}:
  SC C 239 [.d (CG ex xs)] ⟨bs,fz,ar⟩ (fun p M'=>slN 1 true p (xs.map au) M'.aF/\Frm ⟨bs,fz,ar⟩ M'/\(∀k,kOf p=some k->ar.length<=k)/\(xs=[]->p= .d (.slice true []))) KP:=by
 refine aC vP aJ ?_;simp only[vP,aJ,RN,z];refine SC.jG (SC.mono (ad2 xs ex hl a (KP:=fun _ _=>False)) ?_) (fun _ _ h=>h.elim);rintro p ⟨c,e,b⟩ h;(try simp only[]);exact h
def Iy (xs:List Int):List Int:=xs.mergeSort fun x y=>decide (x<=y)
def afG:Iy []=[]:=by simp[Iy]
def aiX {xs:List Int}(h:xs≠[]):Iy xs≠[]:=fun e=>h (by
 have:=congrArg cn e;simp only[Iy,List.length_mergeSort,ap]at this;exact List.eq_nil_of_length_eq_zero this)
def PK {α:Type}{l:List α}(h:l≠[]):xM l=1:=by cases l with|nil=>exact absurd rfl h|cons _ _=>rfl
def aiY (xs:List Int)(ex:Bool)(hl:xs.length<=1000000)(hx:xs≠[]):Pure C 164 [CG ex xs] (.tsl 0 0 0) [⟨1,(Iy xs).map au,0,1⟩]:=by
 refine Pv (aC kK aJ ?_);simp only[kK,aJ,RN,z];refine SC.jG (SC.mono (QJ xs ex hl (bs:=[]) (fz:=[]) (ar:=[]) (by intro i f;simp at f) (KP:=fun _ _=>False)) ?_) (fun _ _ h=>h.elim);rintro p ⟨d,e,c⟩ ⟨h1,h2,g,j⟩;obtain⟨k,ver,st,rfl,b,_,a⟩:=DU h1 (by simpa using hx);have a:=a rfl;subst a;simp only at b;(try simp only[]);refine ajq (zs:=xs) b hx (by omega) ?_;(try simp only[]);exact⟨k,ver,rfl,by simp only;rw[bO (ai.1 b).1];rfl⟩
def acy (ex:Bool):Pure C 164 [CG ex []] (.d (.slice true [])) []:=by
 refine bF (aC kK aJ ?_);simp only[kK,aJ,RN,z];refine SC.jG (SC.mono (QJ [] ex (by simp) (bs:=[]) (fz:=[]) (ar:=[]) (by intro i f;simp at f) (KP:=fun _ _=>False)) ?_) (fun _ _ h=>h.elim);rintro p ⟨b,c,a⟩ ⟨h1,h2,j,e⟩;have g:=e rfl;subst g;(try simp only[]);refine adA (af4 false) rfl (ds:=[.slice true []]) rfl rfl ?_;(try simp only[])
 rfl
def ajf (xs:List Int)(ex:Bool):Pure C 165 [.slice ex (xs.map au)] (.d (CG ex xs)) []:=by
 refine ah xu aJ ?_;simp only[xu,aJ,RN,z]
 rfl
section
variable (f1 f2 e1 e2:Bool){D:Dk}{t:Sp}(ns:List Int)
def aji (e:zV D.su 24 t):Ans 76 [xP f1 f2 e1 e2 D t,sF (ns.map au)] (Iy t.eG) 0:=by
 have d:=e.st;have c:=ajf t.eG false
 by_cases a:t.eG=[]
 ·have b:=acy false
  rw[a]at c⊢;refine zY afG (ah iM bZ ?_);simp only[iM,bZ,iY,dw,a,RN,z,F,N];refine ak c ?_;(try simp only[RN,z,F,H,I,J,N]);refine yQ rfl rfl b (by simp) ?_;simp only[PV.shift,kS,RN]
 ·have b:=aiY t.eG false (by omega) a
  refine iw (aC iM bZ ?_);simp only[iM,bZ,iY,dw,RN,z,F,N];refine ak c ?_;(try simp only[RN,z,F,H,I,J,N]);refine yQ rfl rfl b (by simp) ?_;simp only[PV.shift,kS,bI,dP,RN];exact⟨_,rfl,0,0,rfl,by rw[PK (aiX a)];rfl⟩
def L8 {D:Dk}(hl:D.es.length=D.st.length)(ab:D.es.length<=1000)(hf:∀x∈D.es,gG x.kind<=x.ns.length):
  UY C 163 [.d (.aV (Hf e1 e2 D))] [] (dH D 0) no no no (fun _=>True):=by
 rintro⟨bs,fz,ar⟩ b n R stop K KP ac ai hn y am Q lZ h0 u w;simp only at hn y;refine aC jc gW ?_;simp only[jc,gW,Hf,ae,RN,z,F,N];refine zH (fun m s=>∃(i:Nat) (f:List (List DV)) (E:Mem),m=D.es.length - i/\i<=D.es.length/\s=⟨[(0, .d (.aV (Hf e1 e2 D))),(1, .pV b),(9, .d (.slice e1 (D.es.map En.dv))),(10,pI D.es.length),(11,pI i)],E⟩/\n<=E.boxes.length/\FzB E/\dH D 0=f++dH D i/\R f E)
  D.es.length ⟨0,[],_,rfl,br _,rfl,hn,y,rfl,h0⟩ ?_
 rintro m s ⟨i,f,⟨g,q,v⟩,rfl,hi,rfl,h,l,c,Z⟩;simp only at h;have S:g.length∉q:=fun e=>bl _ (l _ e)
 by_cases t:i<D.es.length
 case neg=>
  have O:i=D.es.length:=by omega
  subst O;simp only[cp,RN,z];refine w _ _ h ?_;rw[c];have:dH D D.es.length=[]:=by simp[dH,kM]
  rw[this,bE];exact Z
 have B:(i:Int)<(D.es.length:Int):=by omega
 have o:i<D.st.length:=by omega
 have j0:(0:Int)<=(i:Int):=by omega
 have Y:dC .i64 ((i:Int)+1)=((i+1:Nat):Int):=by rw[aB (by omega)];omega
 have a:=Gq hl t;obtain⟨x,U⟩:∃x,x=D.es.getD i default:=⟨_,rfl⟩
 have X:x∈D.es:=by rw[U];exact getD_mem t
 have YM:=QM x (hf x X);rw[<-U]at a;rw[dA]at YM;have r:R f ⟨g++ [some [pI x.kind, .d (sF (x.ns.map au))]],g.length::q,v⟩:=
  Q f _ _ (Moved.ext (xf:=[g.length]) (xb:=[_]) h (by simpa using h)) Z
 have abx:FzB ⟨g++ [some [pI x.kind, .d (sF (x.ns.map au))]],g.length::q,v⟩:=by
  intro j hj;simp only[ao]at hj;simp only[V,W,ap]
  rcases hj with rfl|hj
  ·omega
  ·have:=l j hj;simp only at this;omega
 simp only[B,t,j0,aq,ae,getD_map,<-U,dA,S,aY,bQ,V,RN,z,F,N]
 by_cases L:x.kind=6
 ·have G:(x.kind !=6)=false:=by simp[L]
  rw[if_neg (by simp[L])]at a;simp only[G,Y,RN,z];refine⟨D.es.length - (i+1),_,by omega, .inl rfl,i+1,f,_,rfl,by omega,rfl,by simp;omega,abx,by rw[c,a],r⟩
 have G:(x.kind !=6)=true:=by simp[L]
 cases k:D.st.getD i default
 case true=>
  rw[if_neg (fun e=>by rw[k]at e;cases e.2)]at a;simp only[Hf,G,o,j0,aq,ae,getD_map,kG,k,Y,RN,z,F,N];refine⟨D.es.length - (i+1),_,by omega, .inl rfl,i+1,f,_,rfl,by omega,rfl,by simp;omega,abx,by rw[c,a],r⟩
 rw[if_pos ⟨L,k⟩]at a;simp only[Hf,G,o,j0,aq,ae,getD_map,kG,k,RN,z,F,N];refine ak YM ?_;(try simp only[RN,z,F,H,I,J,N]);refine Bv ?_;refine SY.mono (lZ f (pF (i,x.deed)) (dH D (i+1)) _ (by rw[c,a]) (by simp;omega) r) ?_;rintro p M3 ⟨A,hp⟩
 rcases hp with⟨rfl,M⟩|⟨rfl,T⟩
 ·simp only[Y,RN,z]
  have P:=A.len;simp only[V,W,ap]at P;refine⟨D.es.length - (i+1),_,by omega, .inl rfl,i+1,_,M3,rfl,by omega,rfl,by omega,A.fzb abx,by rw[c,a,bi];rfl,M⟩
 ·(try simp only[RN,z])
  exact u _ _ T
def acD (b:D.Ok):Ans 86 [xP f1 f2 e1 e2 D t,sF (ns.map au)] (D.stands.map fun p=>(p.1:Int)) 0:=by
 have Z:D.stands.length<=24:=dt (xG _ _ _) b.few
 by_cases u:D.stands=[]
 ·refine zY (by rw[u];rfl) (bF (aC gU bZ ?_))
  simp only[gU,bZ,iY,RN,z,F,N];refine oP (L8 e1 e2 b.len (by have:=b.few;omega) (fun x a=>Af (b.formed x a))) (fun _ h=>h) rfl (by kernel_rfl) (fun i C=>by simp at C;simp[C]) (fun x a=>by simp only[dH,aR]at a;obtain⟨p,_,rfl⟩:=a;rfl) (fun _ h=>h.elim) (fun _ _=>trivial)
   (fun f o=>o.boxes[1]?=some (some [.d (.slice true [])])) ?_ rfl ?_ ?_
  ·intro f o R E h
   exact(E.box 1 (by simp) id).trans h
  ·intro L cells f x H o a
   rw[dH,aD,aD,<-Dk.stands,u]at a;simp at a
  ·rintro⟨m,A,w⟩ h n
   simp only at h;simp only[h,RN,z,N]
   rfl
 ·refine iw (aC gU bZ ?_)
  simp only[gU,bZ,iY,RN,z,F,N];refine oP (L8 e1 e2 b.len (by have:=b.few;omega) (fun x a=>Af (b.formed x a))) (fun _ h=>h) rfl (by kernel_rfl) (fun i C=>by simp at C;simp[C]) (fun x a=>by simp only[dH,aR]at a;obtain⟨p,_,rfl⟩:=a;rfl) (fun _ h=>h.elim) (fun _ _=>trivial)
   (fun f o=>∃l r c,D.stands=l++r/\f=l.map pF/\o.boxes[1]?=some (some [c])/\1∉o.fz/\slN 1 true c (l.map fun p=>dI (p.1:Int)) o.aF) ?_ ⟨[],D.stands,_,rfl,rfl,rfl,by simp, .inl ⟨rfl,rfl⟩⟩ ?_ ?_
  ·rintro f o R E ⟨l,r,c,g,v,s,I,J⟩
   exact⟨l,r,c,g,v,(E.box 1 (by simp) id).trans s,fun e=>I ((E.fz 1 (by simp) id).1 e),by rw[E.aF];exact J⟩
  ·rintro L cells f x H ⟨m,A,w⟩ a n q G ⟨l,r,c,g,v,s,I,J⟩ M0
   simp only[W,ap]at n q G s I⊢;obtain⟨p,K,rfl⟩:∃p K,r=p::K:=by
    cases r with
    |nil=>
     rw[dH,aD,aD,<-Dk.stands,g,v]at a;have:=congrArg cn a;simp at this
    |cons p K=>exact⟨p,K,rfl⟩
   have M:x=pF p:=by
    rw[dH,aD,aD,<-Dk.stands,g,v,a7,Y]at a;exact(List.cons.inj (ct a)).1.symm
   subst M;have B:1<m.length:=by omega
   have P:l.length<=24:=by have:=congrArg cn g;simp at this;omega
   simp only[pF,cU,c5,Y,bt,s,eX,DV.strip,RN,z,F,N];refine LW J (by decide) (by intro y Q;simp only[az]at Q;subst Q;rfl) (by simp) (by simp;omega) fun k ver st V a1 S a3 T a5 U=> ?_
   have j:=U rfl;subst j;simp only[s,I,dN,eF,uP,RN,F,N];exact⟨by rw[av (by omega)];exact q,G,Kept.Gj (by omega) id T (fun _ h=>h.elim),l++ [p],K, .tsl k ver 0,by rw[g];simp,by rw[v];simp[pF],by simp[B], .inr ⟨k,ver,1,rfl,by rw[S];simp,by decide,fun _=> .inl rfl⟩⟩
  ·rintro⟨m,A,w⟩ ⟨l,r,c,g,v,s,I,J⟩ n
   simp only[W,ap]at n s;have X:r=[]:=by
    have:=congrArg cn v;rw[dH,aD,aD,<-Dk.stands,g]at this;simp at this;exact this
   subst X;rw[bE]at g;have aoy:l≠[]:=by rw[<-g];exact u
   obtain⟨k,ver,st,rfl,O,_,j⟩:=DU J (by simpa using aoy);have j:=j rfl;subst j;simp only at O;have B:1<m.length:=by omega
   simp only[s,bI,dP,RN,z,N];refine⟨_,rfl,k,ver,rfl,?_⟩;rw[PK (by rw[g];simpa using aoy)];simp only[O,g,ca]
   rfl
end
end Go.Tel
namespace Go.Am
section
variable {C:Ctx}
def Wu (C:Ctx)(M:Mem)(args qs:List PV)(ds:List DV):Prop:=∀X w E a,Sim C X w M E->aT w (away X M E) M E a args->bg w (away X (M.frz qs) E) a ds
variable{M:Mem}
def aaF {a b:PV}{e f y:DV}(h:dL M [a,b, .d y]=some [e,f,y]):Wu C M [.agg [a,b], .d y] [a,b, .d y] [.agg [e,f],y]:=by
 intro X w E g m k;cases k with|cons h1 t1=>
 cases t1 with|cons h2 t2=>
 cases t2;cases h1 with|agg hh=>
 rename_i z
 generalize c:z.toList=l at hh;cases hh with|cons i s=>
 cases s with|cons j t=>
 cases t;have hd:=vW (ps:=[a,b, .d y]) m (.cons i (.cons j (.cons h2 .nil))) h (fun q n=>n);cases hd with|cons o u=>
 cases u with|cons p v=>
 cases v with|cons r x=>
 cases x;exact .cons (.agg (by rw[c];exact .cons o (.cons p .nil))) (.cons r .nil)
def afA {f:FuncId}{args qs:List PV}{ds ds':List DV}{r:PV}{k:List Arr}(h:Pure C f ds' r k)(u:YG r=true)(d:k.all lY=true){K:PV->Mem->Prop}{KP:DV->Mem->Prop}
  (m:Wu C M args qs ds)(n:ds.map DV.strip=ds')(s:K (r.shift M.aF.length) {M with aF:=M.aF++k.map some}):SC C f args M K KP:=by
 subst n;intro X w E a c q;have l:=nO c qs;have hd:=(m X w E a c q).strip;refine(h (away X (M.frz qs) E) w a c.glob (fun b i=> .inl (c.iT b i)) (fun b i=>l.yx i) hd).mono fun e F n=> ?_
 obtain⟨v,D,rfl,g,p,x⟩:=n;have o:∀A∈k,A.st≠2:=fun A t e=>by
  have j:=aE.1 d A t;simp only[lY,U]at j
  rcases Bool.or_eq_true_iff.1 j.1 with h|h
  ·rw[e]at h;simp at h
  ·rw[e]at h;simp at h
 obtain⟨y,z,B⟩:=Gm c (G8 c g p d) p o;exact⟨_,_,_,s,y,z,NC c.bH (fun b i=>(B b).1 i) (VZ g d u x)⟩
end
end Go.Am
namespace Go.Tel
open Go.Am
variable{f:FuncId}{args qs:List PV}{M:Mem}{ds ds':List DV}{K:PV->Mem->Prop}{KP:DV->Mem->Prop}
def alo {n:Int}(h:Pure C f ds' (.d (y9 n)) [])(k:Wu C M args qs ds)(l:ds.map DV.strip=ds')(p:K (.d (y9 n)) M):SC C f args M K KP:=by
 subst l;intro X w E a c o;have i:=nO c qs;have hd:=(k X w E a c o).strip;refine(h (away X (M.frz qs) E) w a c.glob (fun b j=> .inl (c.iT b j)) (fun b j=>i.yx j) hd).mono fun e x l=> ?_
 obtain⟨v,t,rfl,g,m,q⟩:=l;obtain⟨r,s,u⟩:=Gm c (G8 c g m rfl) m (by simp);exact⟨_,_,_,(by simpa using p),r,s, .d (adg q.toD)⟩
variable{l:List Int}
def amc {e:Int}(h:Ans f ds' l e)(a:Wu C M args qs ds)(i:ds.map DV.strip=ds')
  (g:∀p c xa,(p= .tup [c,pI e]\/(p= .d (.tup [.slice true [],dI e])/\c= .d (.slice true [])))->slN 1 true c (l.map au) (M.aF++xa)->(∀k,kOf c=some k->M.aF.length<=k)->K p ⟨M.boxes,M.fz,M.aF++xa⟩):SC C f args M K KP:=by
 rcases h with h|⟨rfl,h⟩
 ·refine afA h rfl ?_ a i ?_
  ·simp only[cP,dq,cN];exact JK l
  ·refine g _ (.tsl M.aF.length 0 0) [some ⟨1,l.map au,0,xM l⟩] (.inl ?_) (.inr ⟨_,0,xM l,rfl,by simp,G9,fun _=> ?_⟩) (fun k b=>by cases b;exact aL _)
   ·simp[PV.shift,kS,Ua]
   ·cases l with
    |nil=>exact .inr rfl
    |cons x l=>exact .inl rfl
 ·refine alo h a i ?_
  have:=g (.d (y9 e)) (.d (.slice true [])) [] (.inr ⟨rfl,rfl⟩) (.inl ⟨rfl,rfl⟩) (fun k b=>by cases b)
  simpa using this
structure Qn where
 kind:Int
 ns:List Int
 deriving DecidableEq,Inhabited
def Qn.dv (x:Qn):DV:= .agg [dI x.kind,sF (x.ns.map au)]
def QO {x:Qn}:x.dv= .agg [dI x.kind,sF (x.ns.map au)]:=by rw[Qn.dv]
def Qn.n (x:Qn)(i:Nat):Int:=x.ns.getD i default
def amL:List (ByteArray×Nat):=[(⟨#[104,97,110,100,115]⟩,0),(⟨#[115,116,111,99,107]⟩,0),(⟨#[111,112,101,110]⟩,0),(⟨#[112,114,105,99,101]⟩,1),(⟨#[110,101,101,100]⟩,3),(⟨#[111,102,102]⟩,2),(⟨#[119,114,111,110,103]⟩,0),(⟨#[119,111,114,107,115]⟩,1),(⟨#[100,97,116,101]⟩,1),(⟨#[99,117,116,115]⟩,1),(⟨#[99,111,105,110,115]⟩,0),(⟨#[115,116,97,110,100,115]⟩,0)]
def fwQ (k:Int):ByteArray:=(amL.getD (k - 1).toNat default).1
def JZ (k:Int):Nat:=(amL.getD (k - 1).toNat default).2
def Qb {k:Int}(h:1<=k/\k<=12):k=1\/k=2\/k=3\/k=4\/k=5\/k=6\/k=7\/k=8\/k=9\/k=10\/k=11\/k=12:=by omega
def an4 {k:Int}(h:1<=k/\k<=12):af7 (je (dz 2 (dy ((k - 1).toNat*2) (c3 PV.d (UH amL))))) (dz 2 (dy ((k - 1).toNat*2) (c3 PV.d (UH amL))))= .d (.agg [.str (fwQ k),dI (JZ k)])/\(k - 1).toNat*2+2<=(c3 PV.d (UH amL)).length/\dC .i64 (k - 1)=k - 1:=by
 rcases Qb h with rfl|rfl|rfl|rfl|rfl|rfl|rfl|rfl|rfl|rfl|rfl|rfl<;>exact⟨rfl,by decide,by decide⟩
def ac3:UH amL=[.str ⟨#[104,97,110,100,115]⟩,dI 0, .str ⟨#[115,116,111,99,107]⟩,dI 0, .str ⟨#[111,112,101,110]⟩,dI 0, .str ⟨#[112,114,105,99,101]⟩,dI 1, .str ⟨#[110,101,101,100]⟩,dI 3, .str ⟨#[111,102,102]⟩,dI 2, .str ⟨#[119,114,111,110,103]⟩,dI 0, .str ⟨#[119,111,114,107,115]⟩,dI 1, .str ⟨#[100,97,116,101]⟩,dI 1, .str ⟨#[99,117,116,115]⟩,dI 1, .str ⟨#[99,111,105,110,115]⟩,dI 0, .str ⟨#[115,116,97,110,100,115]⟩,dI 0]:=rfl
def agl:Pure C 71 [] (.d (.agg (UH amL))) []:=by
 refine ah zq aiy ?_;simp only[zq,aiy,ac3,GI,RN,z,F,N]
def ame (k:Int):FuncId:=([75,76,77,78,79,80,81,82,83,84,85,86]:List FuncId).getD (k - 1).toNat default
def Dk.answer (D:Dk)(t:Sp)(q:Qn):List Int×Int:=
 if q.kind=1 then(Nb t.pc,0)else if q.kind=2 then(Iy t.eG,0)else if q.kind=3 then(lH t.op t.pc.hands.length,0)
 else if q.kind=4 then(if inR (q.n 0) 0 (D.su.pc.hands.length - 1)then[Dy D.su t (q.n 0).toNat]else[],if inR (q.n 0) 0 (D.su.pc.hands.length - 1)then 0 else 2)
 else if q.kind=5 then nK D t (q.n 0) (q.n 1) (q.n 2)
 else if q.kind=6 then(if inR (q.n 0) 0 (D.su.pc.hands.length - 1)&&inR (q.n 1) 1 D.su.days.length then[(sK t.pc (q.n 0) (t.tg.getD (q.n 0).toNat default) (t.turns (q.n 1))).1]else[],
  if inR (q.n 0) 0 (D.su.pc.hands.length - 1)&&inR (q.n 1) 1 D.su.days.length then(sK t.pc (q.n 0) (t.tg.getD (q.n 0).toNat default) (t.turns (q.n 1))).2 else 2)
 else if q.kind=7 then([nI D.su t D.su.days.length],0)
 else if q.kind=8 then(if inR (q.n 0) 1 D.su.days.length then(match lX D.pR ((D.su.days.length:Int)+1 - q.n 0).toNat (q.n 0)with|some d=>[d]|none=>[])else[],
  if inR (q.n 0) 1 D.su.days.length then(match lX D.pR ((D.su.days.length:Int)+1 - q.n 0).toNat (q.n 0)with|some _=>0|none=>5)else 2)
 else if q.kind=9 then(if inR (q.n 0) 1 D.su.days.length then[(EM D.su.cal D.su.year.toNat (D.su.first+(q.n 0 - 1))).m,(EM D.su.cal D.su.year.toNat (D.su.first+(q.n 0 - 1))).d]else[],if inR (q.n 0) 1 D.su.days.length then 0 else 2)
 else if q.kind=10 then([(D.su.dvd.cuts (q.n 0)).1.circle,(D.su.dvd.cuts (q.n 0)).1.turns,(D.su.dvd.cuts (q.n 0)).1.holes],(D.su.dvd.cuts (q.n 0)).2)
 else if q.kind=11 then([t.kF],0)
 else(D.stands.map fun p=>(p.1:Int),0)
def agb (f1 f2 e1 e2:Bool){D:Dk}{t:Sp}(a:D.Ok)(c:zV D.su 24 t)(q:Qn)(hk:1<=q.kind/\q.kind<=12)(b:q.ns.length=JZ q.kind):
  Ans (ame q.kind) [xP f1 f2 e1 e2 D t,sF (q.ns.map au)] (D.answer t q).1 (D.answer t q).2:=by
 obtain⟨k,ns⟩:=q;simp only at hk b⊢
 rcases Qb hk with rfl|rfl|rfl|rfl|rfl|rfl|rfl|rfl|rfl|rfl|rfl|rfl
 ·exact akd _ _ _ _ _ c
 ·exact aji _ _ _ _ _ c
 ·exact ahU _ _ _ _ _ c
 ·exact amk _ _ _ _ _ a c b
 ·exact anB _ _ _ _ _ a c b
 ·exact ao2 _ _ _ _ _ a c b
 ·exact alJ _ _ _ _ _ a c
 ·exact alG _ _ _ _ _ a b
 ·exact amn _ _ _ _ _ a b
 ·exact aml _ _ _ _ _ a b
 ·exact anG _ _ _ _ _
 ·exact acD _ _ _ _ _ a
def Dk.ask (D:Dk)(q:Qn):List Int×Int:=
 if inR q.kind 1 12=false then([],2)else if q.ns.length≠JZ q.kind then([],2)else
  match D.state (-1)with
  |none=>([],7)
  |some t=>if(D.answer t q).2=0 then D.answer t q else([],(D.answer t q).2)
variable{s:Su}{a b:Nat}
def gJ.same {mb:Nat}{cst cse:PV}{t:Sp}{M':Mem}(h:gJ s a b mb cst cse t M)(hb:M'.boxes[b]?=M.boxes[b]?)(g:M'.boxes[mb]?=M.boxes[mb]?)(c:M'.aF=M.aF)(d:b∉M'.fz)(e:mb∉M'.fz)(f:FzB M'):gJ s a b mb cst cse t M':=
 {box:=hb.trans h.box
  map:=g.trans h.map
  r0:=by rw[c];exact h.r0
  r1:=by rw[c];exact h.r1
  r2:=by rw[c];exact h.r2
  r3:=by rw[c];exact h.r3
  r4:=by rw[c];exact h.r4
  r5:=by rw[c];exact h.r5
  stk:=by rw[c];exact h.stk
  set:=by rw[c];exact h.set
  kst:=h.kst,kse:=h.kse,dif:=h.dif,nb:=d,nm:=e,bm:=h.bm,fzb:=f}
def Frm.aiS {a:List (Option (List PV))}{b:List Nat}{ar':List (Option Arr)}{y:Option (List PV)}{i:Nat}(h:Frm M ⟨a,b,ar'⟩)(hi:M.boxes.length<=i):Frm M ⟨a.set i y,b,ar'⟩:=
 {len:=by have:=h.len;simp only[cD]at this⊢;omega
  bH:=h.bH
  box:=fun j c=>by
   have h2:=h.box j c;simp only at h2⊢;rw[av (by omega)];exact h2
  fz:=h.fz
  row:=h.row
  fzb:=fun e j c=>by have:=h.fzb e j c;simp only[cD]at this⊢;exact this}
variable{D:Dk}{d:Nat}
def ajy {ce cs:PV}(h:lQ D d ce cs M)(n:D.Ok){pb ab:Nat}(o:M.boxes[pb]?=some (some [.ptr d 0]))(m:M.boxes[ab]?=some (some [.d .nilPtr, .ptr d 0]))(j:ab∉M.fz):
  SC C 73 [.ptr pb 0, .ptr ab 0] M
   (fun _ M'=>∃t b mb a cst cse c f g,D.state (-1)=some t/\gJ D.su a b mb cst cse t ⟨c,f,g⟩/\Frm M ⟨c,f,g⟩/\M.boxes.length<=b/\M.boxes.length<=mb/\M'=⟨c.set ab (some [.ptr b 0, .ptr d 0]),f,g⟩)
   (fun p M'=>D.state (-1)=none/\II p/\Frm M M'):=by
 have w:=h;obtain⟨bs,fz,ar⟩:=M;simp only at o m j;have x:pb<bs.length:=(ai.1 o).1;have k:ab<bs.length:=(ai.1 m).1;refine aC qO gW ?_;simp only[qO,gW,o,RN,z,F,N];refine SC.mono (MW w n (-1)) ?_;rintro v ⟨c,f,g⟩ ⟨t,b,mb,a,cst,cse,rfl,q,r,l,s,u,y⟩;have i:c[ab]?=some (some [.d .nilPtr, .ptr d 0]):=(l.box ab k).trans m;have apu:ab<c.length:=(ai.1 i).1;have apt:ab∉f:=fun e=>j ((l.fz ab k).1 e)
 simp only[i,apt,Bj,Ql,RN,F,N];exact⟨t,b,mb,a,cst,cse,c,f,g,q,r,l,s,u,rfl⟩
def amf {k:Int}(h:1<=k/\k<=12):(c3 PV.d [DV.func (.func 75) [] [], .func (.func 76) [] [], .func (.func 77) [] [], .func (.func 78) [] [], .func (.func 79) [] [], .func (.func 80) [] [], .func (.func 81) [] [], .func (.func 82) [] [], .func (.func 83) [] [], .func (.func 84) [] [], .func (.func 85) [] [], .func (.func 86) [] []]).getD (k - 1).toNat .dead= .d (.func (.func (ame k)) [] [])/\callable C.P (ame k)=true:=by
 rcases Qb h with rfl|rfl|rfl|rfl|rfl|rfl|rfl|rfl|rfl|rfl|rfl|rfl<;>exact⟨rfl,by kernel_rfl⟩
def afY {ce cs:PV}(h:lQ D d ce cs M)(S:D.Ok)(q:Qn){KP:DV->Mem->Prop}:
  SC C 21 [.ptr d 0, .d q.dv] M (fun p M'=>∃c,(p= .tup [c,pI ((D.ask q).2)]\/(p= .d (.tup [.slice true [],dI (D.ask q).2])/\c= .d (.slice true [])))/\slN 1 true c ((D.ask q).1.map au) M'.aF/\(∀k,kOf c=some k->M.aF.length<=k)/\Frm M M') KP:=by
 obtain⟨bs,fz,ar⟩:=M;have u:=h.box;rw[iH]at u;simp only at u;have bq:d<bs.length:=(ai.1 u).1;have E8:∀i∈fz,i<bs.length:=h.fzb
 have br:bs.length∉fz:=fun e=>bl _ (E8 _ e)
 have aq:∀k,bs.length+k∉fz:=fun k e=>by have:=E8 _ e;omega
 have bj:¬d=bs.length:=by omega
 have bk:∀k,¬d=bs.length+k:=fun k=>by omega
 have bo:∀k,d<bs.length+k:=fun k=>by omega
 have bu:¬bs.length+1=bs.length:=by omega
 have bv:¬bs.length+2=bs.length:=by omega
 have bc:¬bs.length+2=bs.length+1:=by omega
 have K:Frm ⟨bs,fz,ar⟩ ⟨bs++ [some [.ptr d 0],some [pI q.kind, .d (sF (q.ns.map au))]],(bs.length+1)::fz,ar⟩:=Frm.new (xf:=[bs.length+1]) (by simp);obtain⟨e1,e2,a4⟩:=EO (h.frm K);refine aC uw bZ ?_;simp only[uw,bZ,QO,jL,aY,mD,bQ,V,Bj,Rw,RN,z,F,N];refine kE (EN a4) rfl (Rz e1 e2 D) rfl ?_;(try simp only[RN,z,F,N]);refine ak (Aj _ _ _) ?_;cases g:inR q.kind 1 12
 ·(try simp only[RN,z])
  have he:D.ask q=([],2):=by simp[Dk.ask,g]
  rw[he];exact⟨_, .inr ⟨rfl,rfl⟩, .inl ⟨rfl,rfl⟩,(fun k g=>by cases g),K⟩
 have P:1<=q.kind/\q.kind<=12:=by simpa[inR]using g
 simp only[ae,RN,z,F,N];refine ak agl ?_;obtain⟨a1,a2,a3⟩:=an4 P;simp only[a3,a1,RN,F,N];refine⟨by omega,by omega,a2,?_⟩
 by_cases hn:q.ns.length=JZ q.kind
 case neg=>
  have hb:((q.ns.length:Int) !=(JZ q.kind:Int))=true:=by simp;omega
  simp only[hb,RN,z];have he:D.ask q=([],2):=by simp[Dk.ask,g,hn]
  rw[he];exact⟨_, .inr ⟨rfl,rfl⟩, .inl ⟨rfl,rfl⟩,(fun k g=>by cases g),K⟩
 have hb:((q.ns.length:Int) !=(JZ q.kind:Int))=false:=by simp[hn]
 simp only[hb,jL,aY,mD,bi,V,aq,bc,Ql,aeN,nU,b5,fA,gY,RN,z,F,N];refine⟨rfl,?_⟩;obtain⟨B,T⟩:∃B,B=bs++ [some [.ptr d 0],some [pI q.kind, .d (sF (q.ns.map au))],some [.d .nilPtr, .ptr d 0]]:=⟨_,rfl⟩
 obtain⟨Z,hZ⟩:∃Z,Z=(bs.length+1)::fz:=⟨_,rfl⟩
 have bh:B.length=bs.length+3:=by rw[T];simp
 have aE:B[bs.length]?=some (some [.ptr d 0]):=by rw[T,aY rfl];rfl
 have aD:B[bs.length+2]?=some (some [.d .nilPtr, .ptr d 0]):=by rw[T,jL rfl];rfl
 have x:Frm ⟨bs,fz,ar⟩ ⟨B,Z,ar⟩:=by rw[T,hZ];exact Frm.new (xf:=[bs.length+1]) (by simp)
 have aM:bs.length+2∉Z:=by
  rw[hZ];intro e
  rcases ao.1 e with e|e
  ·omega
  ·exact aq _ e
 simp only[<-T,<-hZ];have aL:Frm ⟨B,Z,ar⟩ ⟨B++ [some [pI 0]],Z,ar⟩:=Frm.new (xf:=[]) (by simp);have abu:=x.trans aL;have z0:((0:Int) !=0)=false:=rfl;have z7:((7:Int) !=0)=true:=rfl;refine Qk (fs:=[]) (cs:=[.ptr bs.length 0, .ptr (bs.length+2) 0]) (x.fzb h.fzb) (by kernel_rfl) ?_;refine SC.jG (SC.mono (ajy (h.frm abu) S (pb:=bs.length) (ab:=bs.length+2) ?_ ?_ aM) ?_) ?_
 ·simp only;rw[am (by omega)];exact aE
 ·simp only;rw[am (by omega)];exact aD
 ·rintro v M' ⟨t,b,mb,a,az,ax,o,f,j,g1,J,w,g4,g5,rfl⟩
  simp only[V,W,ap]at g4 g5;have A:=abu.trans w;have a8:=w.len;simp only[V,W,ap]at a8;have L:o[B.length]?=some (some [pI 0]):=by
   have:=w.box B.length (by simp);simp only at this;rw[this,aY rfl];rfl
  have O:B.length∉f:=fun e=>by
   have:=(w.fz B.length (by simp)).1 e;simp only at this;have h5:=x.fzb h.fzb _ this;simp only at h5;omega
  obtain⟨n,m⟩:∃n,n=o.set (bs.length+2) (some [.ptr b 0, .ptr d 0]):=⟨_,rfl⟩
  have aqA:n.length=o.length:=by rw[m];simp
  have apo:n[bs.length+2]?=some (some [.ptr b 0, .ptr d 0]):=by rw[m,bO (by omega)]
  have apq:n[B.length]?=some (some [pI 0]):=by rw[m,av (by omega)];exact L
  have E:Frm ⟨bs,fz,ar⟩ ⟨n,f,j⟩:=by rw[m];exact A.aiS (by simp only;omega)
  have an:FzB ⟨n,f,j⟩:=E.fzb h.fzb;have R:n.length∉f:=fun e=>bl _ (an _ e)
  rw[<-m];refine⟨apq,O,?_⟩;have aR:bs.length+2<n.length:=by omega
  have jk:0<=q.kind - 1:=by omega
  have bw:q.kind - 1<12:=by omega
  have bz:(q.kind - 1).toNat+1<=12:=by omega
  obtain⟨ac,a5⟩:=amf P;simp only[Y,bt]at ac;simp only[z0,GI,cZ,aY,bQ,R,apo,aR,V,a3,Nat.zero_add,dg,RN,z,F,N];refine⟨rfl,by omega,by omega,by omega,by omega,by omega,?_⟩;rw[ac];simp only[nU,fA,fQ,RN];refine⟨a5,?_⟩;obtain⟨X,hX⟩:∃X,X=[some [PV.d (DV.func (Fn.func 75) [] []),PV.d (DV.func (Fn.func 76) [] []),PV.d (DV.func (Fn.func 77) [] []),PV.d (DV.func (Fn.func 78) [] []),PV.d (DV.func (Fn.func 79) [] []),PV.d (DV.func (Fn.func 80) [] []),PV.d (DV.func (Fn.func 81) [] []),PV.d (DV.func (Fn.func 82) [] []),PV.d (DV.func (Fn.func 83) [] []),PV.d (DV.func (Fn.func 84) [] []),PV.d (DV.func (Fn.func 85) [] []),PV.d (DV.func (Fn.func 86) [] [])]]:=⟨_,rfl⟩
  simp only[<-hX];have G:Frm ⟨bs,fz,ar⟩ ⟨n++X,f,j⟩:=E.trans (Frm.new (xf:=[]) (by simp));have bp:b<o.length/\mb<o.length:=⟨(ai.1 J.box).1,(ai.1 J.map).1⟩
  have bd:gJ D.su a b mb az ax t ⟨n++X,f,j⟩:=J.same (by
    simp only;rw[am (by omega),m,av (by omega)]) (by
    simp only;rw[am (by omega),m,av (by omega)]) rfl J.nb J.nm (G.fzb h.fzb)
  obtain⟨f1,f2,be⟩:=aaj bd;obtain⟨d1,d2,a0⟩:=EO (h.frm G);have a6:=S.L9 g1;have hA:=agb f1 f2 d1 d2 S a6 q P hn;have hL:dL ⟨n++X,f,j⟩ [.ptr b 0, .ptr d 0, .d (sF (q.ns.map au))]=some [.aV (t.cells f1 f2 D.su),tN d1 d2 D,sF (q.ns.map au)]:=by
   simp only[dL,be,a0];rfl
  have U:D.ask q=if(D.answer t q).2=0 then D.answer t q else([],(D.answer t q).2):=by
   simp only[Dk.ask,g,hn,g1];simp
  rw[U];generalize D.answer t q=r at*;obtain⟨l,e⟩:=r;simp only at hA⊢;refine amc (ds:=[xP f1 f2 d1 d2 D t,sF (q.ns.map au)]) hA (aaF hL) rfl fun p c xa hp hs a7=> ?_
  have s:Frm ⟨bs,fz,ar⟩ ⟨n++X,f,j++xa⟩:=G.trans (by have:=Frm.ext (bs:=n++X) (xb:=[]) (fz:=f) (xf:=[]) (ar:=j) (xa:=xa) (by simp);simpa using this);have Q:∀k,kOf c=some k->ar.length<=k:=fun k g=>dt G.bH (a7 k g)
  by_cases hr:e=0
  ·subst hr
   simp only[if_true]
   rcases hp with rfl|⟨rfl,rfl⟩
   ·rcases hs with⟨rfl,hl⟩|⟨k,ver,st,rfl,hl⟩
    ·simp only[qL,qM,z0,RN,z]
     exact⟨_, .inr rfl, .inl ⟨rfl,hl⟩,Q,s⟩
    ·simp only[qL,qM,z0,bI,dP,RN,z]
     exact⟨_, .inl rfl, .inr ⟨k,ver,st,rfl,hl⟩,Q,s⟩
   ·simp only[z0,RN,z]
    exact⟨_, .inr rfl,hs,Q,s⟩
  ·have hz:(e !=0)=true:=by simp[hr]
   rw[if_neg hr]
   rcases hp with rfl|⟨rfl,rfl⟩
   ·simp only[qL,qM,hz,RN,z]
    exact⟨_, .inr rfl, .inl ⟨rfl,rfl⟩,(fun k g=>by cases g),s⟩
   ·simp only[hz,RN,z]
    exact⟨_, .inr rfl, .inl ⟨rfl,rfl⟩,(fun k g=>by cases g),s⟩
 ·rintro dd ⟨H,I,aw⟩ ⟨g1,J,w⟩
  have A:=abu.trans w;have a9:=w.len;simp only[V,W,ap]at a9;have L:H[B.length]?=some (some [pI 0]):=by
   have:=w.box B.length (by simp);simp only at this;rw[this,aY rfl];rfl
  have O:B.length∉I:=fun e=>by
   have:=(w.fz B.length (by simp)).1 e;simp only at this;have h5:=x.fzb h.fzb _ this;simp only at h5;omega
  have ahh:=A.fzb h.fzb;have R:H.length∉I:=fun e=>bl _ (ahh _ e)
  have he:D.ask q=([],7):=by simp[Dk.ask,g,hn,g1]
  refine⟨L,O,R, .inl ⟨J,fun y=> ?_⟩⟩;rw[he];simp only[z7,RN,z];have E:Frm ⟨bs,fz,ar⟩ ⟨(H++ [y]).set B.length (some [pI 7]),I,aw⟩:=A.aiT (by simp only;omega);exact⟨_, .inr rfl, .inl ⟨rfl,rfl⟩,(fun k g=>by cases g),E⟩
def En.chg (x:En):Chg:=⟨x.n 0,⟨x.n 1,x.n 2⟩⟩
def uq (p:Pc)(x:En):Pc:=if x.kind=2 then p.changed x.chg else p
def bV (s:Su)(l:List En):Pc:=l.foldl uq s.pc
def wF:List Int->Int->List Int
 | [],n=>[n]
 |x::l,n=>if x<=n then x::wF l n else n::x::l
def gy (l:List Int)(n:Int):List Int×Bool:=if n∈l then(l.erase n,true)else(l,false)
def mZ (st:List Int)(c d:Pr):List Int×Bool:=
 let r1:=if c.a≠d.a then gy st d.a else(st,true)
 let r2:=if r1.2=true/\c.b≠d.b then gy r1.1 d.b else r1
 let e:=if c.a≠d.a then wF r2.1 c.a else r2.1
 (if c.b≠d.b then wF e c.b else e,r2.2)
def kC (p:Pc)(x:En):Pr:=(p.links.getD (x.n 0).toNat default).pr
def NM (r:Pc×List Int)(x:En):Pc×List Int:=
 (uq r.1 x,if x.kind=1 then wF r.2 (x.n 0)else if x.kind=2 then(mZ r.2 (kC r.1 x) x.chg.pr).1 else r.2)
def jV (s:Su)(l:List En):List Int:=(l.foldl NM (s.pc,[])).2
def l9 (h:Int)(r:Fr×Bool)(x:En):Fr×Bool:=
 if x.kind=3/\x.n 0=h then(⟨x.n 1,x.n 2⟩,true)else if x.kind=4/\x.n 0=h then(r.1,false)else r
def bn (l:List En)(h:Int):Fr×Bool:=l.foldl (l9 h) (⟨0,0⟩,false)
def Ul (h:Int)(r:Fr×(Fr×Bool))(x:En):Fr×(Fr×Bool):=
 (if x.kind=4/\x.n 0=h then r.2.1 else r.1,l9 h r.2 x)
def pK (s:Su)(l:List En)(h:Int):Fr:=(l.foldl (Ul h) (s.tg.getD h.toNat default,(⟨0,0⟩,false))).1
def tY (l:List En):Int:=l.foldl (fun n x=>if x.kind=4 then n+x.n 1 else n) 0
def rJ (l:List En):List Int:=(l.filter fun x=>x.kind==5).map fun x=>x.n 0
def kL (s:Su)(l:List En)(x:En):bV s (l++ [x])=uq (bV s l) x:=by simp[bV]
def afI (s:Su)(l:List En):(l.foldl NM (s.pc,[])).1=bV s l:=by
 unfold bV;generalize s.pc=p;generalize ([]:List Int)=st
 induction l generalizing p st with
 |nil=>rfl
 |cons x l a=>simp only[bv];rw[<-a];rfl
def iW (s:Su)(l:List En)(x:En):jV s (l++ [x])=if x.kind=1 then wF (jV s l) (x.n 0)else if x.kind=2 then(mZ (jV s l) (kC (bV s l) x) x.chg.pr).1 else jV s l:=by
 unfold jV;simp only[cm,bv,cj,NM,afI]
def oH (l:List En)(h:Int)(x:En):bn (l++ [x]) h=l9 h (bn l h) x:=by simp[bn]
def aja (s:Su)(l:List En)(h:Int)(f:Fr):(l.foldl (Ul h) (f,(⟨0,0⟩,false))).2=bn l h:=by
 unfold bn;generalize ((⟨0,0⟩,false):Fr×Bool)=o
 induction l generalizing f o with
 |nil=>rfl
 |cons x l a=>simp only[bv];rw[<-a];rfl
def mJ (s:Su)(l:List En)(h:Int)(x:En):pK s (l++ [x]) h=if x.kind=4/\x.n 0=h then(bn l h).1 else pK s l h:=by
 unfold pK;simp only[cm,bv,cj,Ul,aja s]
def nY (l:List En)(x:En):tY (l++ [x])=if x.kind=4 then tY l+x.n 1 else tY l:=by simp[tY]
def wI (l:List En)(x:En):rJ (l++ [x])=if x.kind=5 then rJ l++ [x.n 0]else rJ l:=by
 unfold rJ
 by_cases h:x.kind=5<;>simp[h]
def nP (p:Pc)(c:Chg):List Int:=((cz p.hands.length).filter fun i=>decide (bM (aU p.links (p.hands.getD i default).toNat)≠bM (aU (p.changed c).links (p.hands.getD i default).toNat))).map fun(i:Nat)=>(i:Int)
def Jh (s:Su)(p:Pc)(h:Int):Int:=(s.bil (dG (aU p.links (p.hands.getD h.toNat default).toNat))).price
def RZ (p:Pc)(h:Int)(f:Fr)(turns:Int):Int:=afa (aU p.links (p.hands.getD h.toNat default).toNat) f turns
def nJ (s:Su)(l:List En)(x:En):Bool:=
 if x.kind=1 then(s.dvd.first (x.n 0)).isSome&&decide ((jV s l).length<8)
 else if x.kind=2 then !decide (kC (bV s l) x=x.chg.pr)&&(mZ (jV s l) (kC (bV s l) x) x.chg.pr).2&&(nP (bV s l) x.chg).all fun h=>(bn l h).2
 else if x.kind=3 then !(bn l (x.n 0)).2
 else if x.kind=4 then(bn l (x.n 0)).2&&inR (RZ (bV s l) (x.n 0) (bn l (x.n 0)).1 100) (-s.lim) s.lim&&decide (x.n 1>=Jh s (bV s l) (x.n 0))
 else !((l.any fun y=>y.kind==5&&decide (y.n 0>=x.n 0)))&&s.works (s.first+x.n 0 - 1)
def lg (s:Su)(l:List En):Bool:=(cz l.length).all fun i=>nJ s (l.take i) (l.getD i default)
def NU (s:Su)(l:List En)(x:En):lg s (l++ [x])=(lg s l&&nJ s l x):=by
 unfold lg;rw[V,bh,dj,List.all_append,cP,dq,cN]
 congr 1
 ·rw[bu]
  simp only[aE,bR];constructor
  ·intro h i a
   have:=h i a
   rwa [b3 (by omega),Q,am a,<-Q]at this
  ·intro h i a
   have:=h i a
   rwa [b3 (by omega),Q,am a,<-Q]
 ·simp[Q]
def tu:∀(l:List Int) (n:Int),(wF l n).Perm (n::l)
 | [],n=>List.Perm.refl _
 |x::l,n=>by
  unfold wF
  split
  ·exact((tu l n).cons x).trans (List.Perm.swap n x l)
  ·exact List.Perm.refl _
def Up (l:List Int):Prop:=l.Pairwise (·<=·)
def Xw {n:Int}(h:Up l):Up (wF l n):=by
 induction l with
 |nil=>simp[wF,Up]
 |cons x l d=>
  simp only[Up,ck]at h;unfold wF
  split
  ·rename_i c
   simp only[Up,ck];refine⟨fun a b=> ?_,d h.2⟩
   rcases ao.1 ((tu l n).mem_iff.1 b)with rfl|b
   ·exact c
   ·exact h.1 a b
  ·rename_i c
   simp only[Up,ck];refine⟨fun a b=> ?_,h.1,h.2⟩
   rcases ao.1 b with rfl|b
   ·omega
   ·have:=h.1 a b;omega
def Wq {n:Int}(h:Up l):Up (gy l n).1:=by
 unfold gy
 split
 ·exact List.Pairwise.sublist List.erase_sublist h
 ·exact h
def ai5 {a b:Pr}(h:Up l):Up (mZ l a b).1:=by
 have h1:Up (if a.a≠b.a then gy l b.a else(l,true)).1:=by split;exact Wq h;exact h
 unfold mZ;simp only;generalize (if a.a≠b.a then gy l b.a else(l,true))=r1 at h1;have h2:Up (if r1.2=true/\a.b≠b.b then gy r1.1 b.b else r1).1:=by split;exact Wq h1;exact h1
 generalize (if r1.2=true/\a.b≠b.b then gy r1.1 b.b else r1)=r2 at h2;have c:Up (if a.a≠b.a then wF r2.1 a.a else r2.1):=by split;exact Xw h2;exact h2
 split
 ·exact Xw c
 ·exact c
def aan {st:List Int}(h:l.Perm st)(c d:Pr):match oV st [] c.a d.a with
  |none=>(mZ l c d).2=false
  |some (o,m)=>match oV o m c.b d.b with
   |none=>(mZ l c d).2=false
   |some (p,n)=>(mZ l c d).2=true/\(mZ l c d).1.Perm (p++n):=by
 unfold oV mZ gy
 by_cases k:c.a=d.a
 ·simp only[k,ne_eq,not_true_eq_false,if_true,if_false,true_and]
  by_cases j:c.b=d.b
  ·simp only[j,not_true_eq_false,if_true,if_false]
   exact⟨trivial,by simpa using h⟩
  ·simp only[j,not_false_eq_true,if_true,if_false]
   by_cases g:d.b∈st
   ·have f:d.b∈l:=h.mem_iff.2 g
    simp only[g,f,if_true,bL];refine⟨trivial,(tu _ _).trans ?_⟩;exact((h.erase d.b).cons c.b).trans (bA c.b _).symm
   ·have f:d.b∉l:=fun e=>g (h.mem_iff.1 e)
    simp only[g,f,if_false]
 ·simp only[k,ne_eq,not_false_eq_true,if_true,if_false]
  by_cases g:d.a∈st
  ·have f:d.a∈l:=h.mem_iff.2 g
   have h1:=h.erase d.a;simp only[g,f,if_true,bL,true_and]
   by_cases j:c.b=d.b
   ·simp only[j,not_true_eq_false,if_true,if_false]
    exact⟨trivial,(tu _ _).trans ((h1.cons c.a).trans (bA c.a _).symm)⟩
   ·simp only[j,not_false_eq_true,if_true,if_false]
    by_cases i:d.b∈st.erase d.a
    ·have anf:d.b∈l.erase d.a:=h1.mem_iff.2 i
     simp only[i,anf,if_true];refine⟨trivial,(tu _ _).trans ?_⟩;refine((tu _ _).cons c.b).trans ?_;refine(((h1.erase d.b).cons c.a).cons c.b).trans ?_;have:(c.b::c.a::(st.erase d.a).erase d.b).Perm ([c.a,c.b]++(st.erase d.a).erase d.b):=List.Perm.swap _ _ _;exact this.trans List.perm_append_comm
    ·have anf:d.b∉l.erase d.a:=fun e=>i (h1.mem_iff.1 e)
     simp only[i,anf,if_false]
  ·have f:d.a∉l:=fun e=>g (h.mem_iff.1 e)
   simp only[g,f,if_false,be,false_and]
def ZT {a b k:Nat}(hk:0<k):zW (a*k) (b*k)=zW a b:=by
 unfold zW;rw[Nat.gcd_mul_right,cG _ _ hk,cG _ _ hk]
def adt {c:Nat}(hb:0<b)(hd:0<d):zW a b=zW c d↔a*d=c*b:=by
 constructor
 ·intro h
  unfold zW at h;simp only[Fr.mk.injEq,Int.natCast_inj]at h;have e1:=bN (dc a b);have e2:=bN (c6 a b);have e:=bN (dc c d);have f:=bN (c6 c d);rw[<-f]
  conv=>lhs;lhs;rw[<-e1]
  conv=>rhs;rw[<-e];rhs;rw[<-e2]
  rw[h.1,h.2];simp only[du,Nat.mul_left_comm]
 ·intro h
  rw[<-ZT (a:=a) (b:=b) hd,h,du b d,ZT hb]
def Tc:∀(l:List Int) (x p:Int),jT (l++ [x]) p=jT l p*x
 | [],_,_=>rfl
 |y::l,x,p=>by simp only[aM,jT];exact Tc l x (p*y)
def gu (l:List Pr):Fr:=⟨jT (l.map (·.a)) 1,jT (l.map (·.b)) 1⟩
def SX (l:List Pr)(x:Pr):gu (l++ [x])=mulR (gu l) x:=by simp[gu,mulR,Tc]
variable{ls:List Lk}
def PL (h:linked ls){a:Nat}(b:a<ls.length):aU ls (a+1)=aU ls (ls.getD a default).fr.toNat++ [(ls.getD a default).pr]:=by
 rw[aU,oI h b,a7];rfl
def Tz {ls:List Lk}(h:linked ls):∀(k i:Nat) (a:List Fr),i+k=ls.length->a.length=i+1->(∀j,j<=i->a.getD j default=gu (aU ls j))->∀j,j<=ls.length->(rU (ls.drop i) a).getD j default=gu (aU ls j)
 |0,i,a,g,c,b,j,f=>by
  rw[List.drop_eq_nil_of_le (by omega),rU];exact b j (by omega)
 |k+1,i,a,g,c,b,j,f=>by
  have d:i<ls.length:=by omega
  have l:=h i d;rw[drop_cons d,rU];refine Tz h k (i+1) _ (by omega) (by simp[c]) (fun m n=> ?_) j f
  by_cases e:m<=i
  ·rw[Q,am (by omega),<-Q];exact b m e
  ·have:m=i+1:=by omega
   subst this;rw[Q,<-c,bz,bd,b _ (by omega),c,PL h d,SX]
def Gf (h:linked ls){a:Nat}(b:a<=ls.length):(fJ ls).getD a default=gu (aU ls a):=by
 have:=Tz h ls.length 0 [⟨1,1⟩] (by omega) rfl (fun j c=>by
  have:j=0:=by omega
  subst this;simp[gu,aU,fP,vG,jT]) a b
 simpa[fJ]using this
def Nv {l:List Pr}(h:∀p∈l,p.ok=true):1<=(gu l).n/\1<=(gu l).d:=by
 have f:∀p∈l,1<=p.a/\1<=p.b:=fun p c=>by
  have:=h p c;simp only[Pr.ok,aK,inR,U,decide_eq_true_eq,ge_iff_le]at this;omega
 exact⟨Dz _ 1 (fun x e=>by obtain⟨p,c,rfl⟩:=aR.1 e;exact(f p c).1) (by omega),Dz _ 1 (fun x e=>by obtain⟨p,c,rfl⟩:=aR.1 e;exact(f p c).2) (by omega)⟩
def Ur {l m:List Pr}(hl:∀p∈l,p.ok=true)(b:∀p∈m,p.ok=true):AA (gu l) (gu m)=decide (bM l=bM m):=by
 obtain⟨c,e⟩:=Nv hl;obtain⟨b1,f⟩:=Nv b;have a:∀l,bM l=zW (gu l).n.natAbs (gu l).d.natAbs:=fun _=>rfl
 rw[a,a,bu,decide_eq_true_iff,adt (by omega) (by omega)];simp only[AA,beq_iff_eq];rw[<-cg,<-cg];have g:0<=(gu l).n*(gu m).d:=cf (by omega) (by omega);have h:0<=(gu m).n*(gu l).d:=cf (by omega) (by omega);omega
def pO (h:linked ls)(e:∀l∈ls,l.pr.ok=true){a:Nat}(b:a<=ls.length):∀p∈aU ls a,p.ok=true:=by
 intro p c;simp only[aU,aR]at c;obtain⟨i,d,rfl⟩:=c;exact e _ (getD_mem (Nat.lt_of_lt_of_le (SA h b i d) b))
def Gp (a b:List Fr):∀(hs:List Int) (i:Nat),uX a b hs i=((bq i hs.length).filter fun j=> !AA (a.getD (hs.getD (j - i) default).toNat default) (b.getD (hs.getD (j - i) default).toNat default)).map fun(j:Nat)=>(j:Int)
 | [],i=>rfl
 |h::hs,i=>by
  rw[uX,Gp a b hs (i+1),W,c9,bX];have e:(bq (i+1) hs.length).filter (fun j=> !AA (a.getD ((h::hs).getD (j - i) default).toNat default) (b.getD ((h::hs).getD (j - i) default).toNat default))=(bq (i+1) hs.length).filter (fun j=> !AA (a.getD (hs.getD (j - (i+1)) default).toNat default) (b.getD (hs.getD (j - (i+1)) default).toNat default)):=by
   refine bj fun j c=> ?_
   have:=(bS.1 c).1;rw[show j - i=(j - (i+1))+1 by omega,b7]
  simp only[cB,bc];rw[e];cases AA (a.getD h.toNat default) (b.getD h.toNat default)<;>simp
variable{p:Pc}
def acB {c:Chg}(a:p.ok=true)(hc:c.pr.ok=true):p.lM (p.changed c)=nP p c:=by
 have i:=rX a hc;have g:=Pc.good a;have b:=Pc.good i;rw[Pc.lM,Gp,nP,b0]
 congr 1
 refine bj fun j h=> ?_
 have d:j<p.hands.length:=by simpa using(bS.1 h)
 have e:inR (p.hands.getD j default) 1 p.links.length=true:=by
  simp only[Pc.ok,U,aE]at a;exact a.2 _ (getD_mem d)
 have f:1<=p.hands.getD j default/\p.hands.getD j default<=p.links.length:=by simpa[inR]using e
 have k:(p.changed c).links.length=p.links.length:=by simp[Pc.changed]
 rw[c7,Gf g.lk (by omega),Gf b.lk (by omega),Ur (pO g.lk g.pr (by omega)) (pO b.lk b.pr (by omega))];simp
structure Rel (s:Su) (l:List En) (t:Sp):Prop where
 pc:t.pc=bV s l
 op:∀h,gq t.op h=if(bn l h).2 then some (bn l h).1 else none
 nd:(t.op.map (·.1)).Nodup
 tl:t.tg.length=s.tg.length
 tg:∀h:Int,0<=h->h.toNat<s.tg.length->t.tg.getD h.toNat default=pK s l h
 st:(jV s l).Perm t.eG
 up:Up (jV s l)
 co:t.kF=tY l
 se:t.sets=rJ l
 inc:t.sets.Pairwise (·<·)
def ak3 (s:Su):Rel s [] s.sp0:=
 {pc:=rfl,op:=fun _=>rfl,nd:=List.nodup_nil,tl:=rfl,tg:=fun _ _ _=>rfl,st:=List.Perm.refl _,up:=List.Pairwise.nil,co:=rfl,se:=rfl,inc:=List.Pairwise.nil}
variable{x:En}
def En.deed1 (h:x.kind=1):x.deed= .cut (x.n 0):=by simp[En.deed,h]
def En.deed2 (h:x.kind=2):x.deed= .change x.chg:=by simp[En.deed,h,En.chg]
def En.deed3 (h:x.kind=3):x.deed= .order (x.n 0) ⟨x.n 1,x.n 2⟩:=by simp[En.deed,h]
def En.deed4 (h:x.kind=4):x.deed= .serve (x.n 0) (x.n 1):=by simp[En.deed,h]
def En.Hq (h:x.kind=5):x.deed= .set (x.n 0):=by simp[En.deed,h]
structure En.Fit (s:Su) (x:En):Prop where
 fm:x.formed=true
 k6:x.kind≠6
 te:x.kind=1->aK (x.n 0)=true
 hd:x.kind=3\/x.kind=4->0<=x.n 0/\(x.n 0).toNat<s.pc.hands.length
 fr:x.kind=3->(⟨x.n 1,x.n 2⟩:Fr).ok=true
 df:kN s s.sp0 x.deed
def En.BF (h:x.formed=true):1<=x.kind/\x.kind<=6:=by
 simp only[En.formed,U,decide_eq_true_eq]at h
 simpa[inR]using h.1.1
def uh (h:x.formed=true){i:Nat}(hi:i<gG x.kind):0<=x.n i/\x.n i<=9999:=by
 simp only[En.formed,U,decide_eq_true_eq,aE]at h;have:=h.2 _ (getD_mem (show i<x.ns.length by omega))
 simpa[inR,En.n]using this
def En.Fit.k (h:x.Fit s):x.kind=1\/x.kind=2\/x.kind=3\/x.kind=4\/x.kind=5:=by
 have:=En.BF h.fm;have:=h.k6;omega
variable{h:Int}
def ahy {l:List (Int×Fr)}(b:(l.map (·.1)).Nodup):((BI l h).map (·.1)).Nodup/\(∀h',gq (BI l h) h'=if h'=h then none else gq l h')/\∀k∈(BI l h).map (·.1),k∈l.map (·.1):=by
 induction l with
 |nil=>exact⟨b,fun h'=>by simp[BI,gq],fun k a=>a⟩
 |cons p l f=>
  simp only[Y,cE]at b;obtain⟨i,j,g⟩:=f b.2;have d:∀(l:List (Int×Fr)) (k:Int),k∉l.map (·.1)->gq l k=none:=by
   intro l k a
   induction l with
   |nil=>rfl
   |cons q l f=>simp only[Y,ao,not_or]at a;rw[gq,if_neg a.1];exact f a.2
  unfold BI
  by_cases c:h=p.1
  ·rw[if_pos c]
   refine⟨b.2,fun h'=> ?_,fun k a=>by simp only[Y,ao];exact .inr a⟩
   by_cases e:h'=h
   ·rw[if_pos e,e,c];exact d l _ b.1
   ·rw[if_neg e,gq,if_neg (by rw[<-c];exact e)]
  ·rw[if_neg c]
   refine⟨?_,fun h'=> ?_,fun k a=> ?_⟩
   ·simp only[Y,cE];exact⟨fun e=>b.1 (g _ e),i⟩
   ·rw[gq,gq,j h']
    by_cases e:h'=p.1
    ·rw[if_pos e,if_pos e,if_neg (by rw[e];exact Ne.symm c)]
    ·rw[if_neg e,if_neg e]
   ·simp only[Y,ao]at a⊢;exact a.imp id (g k)
def abZ {l:List (Int×Fr)}{f:Fr}(a:gq l h=none)(h':Int):gq (l++ [(h,f)]) h'=if h'=h then some f else gq l h':=by
 induction l with
 |nil=>simp[gq]
 |cons p l c=>
  rw[gq]at a
  by_cases b:h=p.1
  ·rw[if_pos b]at a;cases a
  ·rw[if_neg b]at a
   rw[aM,gq,gq,c a]
   by_cases e:h'=p.1
   ·rw[if_pos e,if_pos e,if_neg (by rw[e];exact Ne.symm b)]
   ·rw[if_neg e,if_neg e]
def afc {l:List (Int×Fr)}(a:gq l h=none):h∉l.map (·.1):=by
 induction l with
 |nil=>simp
 |cons p l c=>
  rw[gq]at a
  by_cases b:h=p.1
  ·rw[if_pos b]at a;cases a
  ·rw[if_neg b]at a
   simp only[Y,ao,not_or];exact⟨b,c a⟩
def aa2 {d:Dvd}(hd:d.ok=true){n:Int}(a:aK n=true):(d.cuts n).2=0↔(d.first n).isSome=true:=by
 have h1:inR n 1 400=true:=by simp only[aK,inR,U,decide_eq_true_eq]at a⊢;omega
 unfold Dvd.cuts Dvd.first;rw[hd,h1];simp only[cM,if_true];cases Bo d.eu n 0 d.cir<;>simp
def Um (f:p.ok=true){h:Int}(j:0<=h)(h1:h.toNat<p.hands.length):mM (aU p.links (p.hands.getD h.toNat default).toNat)=true:=by
 have g:=Pc.good f;have k:=g.hd _ (getD_mem h1);have c:(p.hands.getD h.toNat default).toNat<=p.links.length:=by omega
 have i:=g.short _ c;have b:=pO g.lk g.pr c;have l:1<=(aU p.links (p.hands.getD h.toNat default).toNat).length:=by
  obtain⟨a,e⟩:∃a,(p.hands.getD h.toNat default).toNat=a+1:=⟨(p.hands.getD h.toNat default).toNat - 1,by omega⟩
  rw[e,PL g.lk (by omega)];simp
 have d:(aU p.links (p.hands.getD h.toNat default).toNat).length<=3:=by rw[aU,ae];exact i
 simp only[mM,inR,U,decide_eq_true_eq,aE,ge_iff_le];exact⟨⟨by omega,by omega⟩,b⟩
def Ja {n a b:Int}(h:a<=n/\n<=b):inR n a b=true:=by
 simp only[inR,U,decide_eq_true_eq];omega
def NR (a:p.ok=true){h:Int}(b:0<=h)(h1:h.toNat<p.hands.length){f:Fr}(hf:f.ok=true){t:Int}(e:0<=t/\t<=10000):sK p h f t=(RZ p h f t,0):=by
 have h2:inR h 0 ((p.hands.length:Int) - 1)=true:=Ja (by omega);have c:=Um a b h1;have d:=Ja e;simp only[sK,abY,RZ,a,h2,c,d,hf,cM,if_true]
def VJ (hs:s.ok=true){t:Sp}(g:t.pc.ok=true){h:Int}(d:0<=h)(h1:h.toNat<t.pc.hands.length):Dy s t h.toNat=Jh s t.pc h:=by
 have a:=(Su.facts hs).2.2.2.2.2.2.2.2.1;have c:=Um g d h1;simp only[mM,inR,U,decide_eq_true_eq,aE]at c;obtain⟨⟨_,j⟩,e⟩:=c;have f:(s.bil (dG (aU t.pc.links (t.pc.hands.getD h.toNat default).toNat))).ok=true:=by
  simp only[Bil.ok,Su.bil,U]at a⊢;refine⟨⟨⟨⟨⟨?_,a.1.1.1.1.2⟩,a.1.1.1.2⟩,a.1.1.2⟩,a.1.2⟩,a.2⟩;simp only[rW,U,decide_eq_true_eq,aE];refine⟨by rw[qN];omega,fun x b=> ?_⟩;simp only[dG,List.mem_flatMap]at b;obtain⟨q,i,b⟩:=b;have:=e q i;simp only[Pr.ok,U]at this;simp only[ao,bB,or_false]at b
  rcases b with rfl|rfl
  ·exact this.1
  ·exact this.2
 simp only[Dy,Jh,Bil.Ux,f,if_true]
def acZ {d:Int}(b:1<=d)(h1:d.toNat<=s.days.length):s.days.getD (d - 1).toNat default=(s.first+d - 1,s.works (s.first+d - 1)):=by
 have c:s.days.length=s.dur:=by simp[Su.days,Su.qw]
 have a:(d - 1).toNat<s.dur:=by omega
 rw[Su.days,Su.qw,Q,c2,List.getElem?_range a];simp only[dk,bd];rw[show(((d - 1).toNat:Nat):Int)=d - 1 by omega,show s.first+(d - 1)=s.first+d - 1 by omega]
def Y4 (h:l.Pairwise (·<·))(d:Int):(l.isEmpty||decide (d>l.getD (l.length - 1) default))= !(l.any fun y=>decide (y>=d)):=by
 rcases List.eq_nil_or_concat l with rfl|⟨m,x,rfl⟩
 ·rfl
 ·have e:(m++ [x]).getD ((m++ [x]).length - 1) default=x:=by simp[Q]
  rw[List.concat_eq_append]at h⊢;rw[e];have b:∀y∈m,y<x:=fun y a=>(cI.1 h).2.2 y a x (by simp)
  rw[bu];simp only[Bool.or_eq_true,List.isEmpty_iff,List.append_eq_nil_iff,List.cons_ne_self,and_false,false_or,decide_eq_true_eq,cV,cX,a8,az];constructor
  ·rintro h1 y (a|rfl)
   ·have:=b y a;omega
   ·omega
  ·intro hh
   have:=hh x (.inr rfl);omega
def agc (l:List En)(d:Int):((rJ l).any fun y=>decide (y>=d))=l.any fun y=>y.kind==5&&decide (y.n 0>=d):=by
 unfold rJ;rw[List.any_map,List.any_filter]
 rfl
def TB (hs:s.ok=true){n:Nat}{l:List En}{t:Sp}(d:Rel s l t)(hi:zV s n t)(o:∀h,(bn l h).2=true->(bn l h).1.ok=true){x:En}(hx:x.Fit s):nJ s l x=(doS s t x.deed).isSome:=by
 obtain⟨w,y,u,j,_⟩:=Su.facts hs;have f:t.eG.length=(jV s l).length:=d.st.length_eq.symm
 rcases hx.k with k|k|k|k|k
 ·rw[En.deed1 k]
  unfold nJ;rw[if_pos k];simp only[doS,aa2 j (hx.te k),f]
  by_cases h1:(s.dvd.first (x.n 0)).isSome=true<;>by_cases h2:(jV s l).length<8<;>simp[h1,h2]
 ·rw[En.deed2 k]
  have hd:=hx.df;rw[En.deed2 k]at hd;obtain⟨i,g⟩:=hd;unfold nJ;rw[if_neg (by omega),if_pos k,<-d.pc];have e1:t.pc.EL x.chg= !decide (kC t.pc x=x.chg.pr):=by
   have:inR x.chg.link 0 ((t.pc.links.length:Int) - 1)=true:=by rw[hi.ll];exact i
   simp only[Pc.EL,hi.pc,g,this,cM,bk]
   congr 1
   exact decide_eq_decide.2 ⟨fun h=>h.symm,fun h=>h.symm⟩
  have e2:((t.pc.lM (t.pc.changed x.chg)).all fun h=>(gq t.op h).isSome)=((nP t.pc x.chg).all fun h=>(bn l h).2):=by
   rw[acB hi.pc g]
   congr 1
   funext h
   rw[d.op];cases(bn l h).2<;>rfl
  simp only[doS,e1,e2];have c:=aan d.st (kC t.pc x) x.chg.pr;have m:(t.pc.links.getD x.chg.link.toNat default).pr=kC t.pc x:=rfl;rw[m];cases h1:(!decide (kC t.pc x=x.chg.pr))<;>cases h2:((nP t.pc x.chg).all fun h=>(bn l h).2)<;>simp only[cb,Bool.and_false,bk,cN,be,if_false,if_true,Option.isSome_none]
  revert c
  generalize oV t.eG [] (kC t.pc x).a x.chg.pr.a=p;cases p with
  |none=>intro c;simp only at c⊢;rw[c];rfl
  |some p=>
   obtain⟨A,z⟩:=p;simp only;generalize oV A z (kC t.pc x).b x.chg.pr.b=q;cases q with
   |none=>intro c;simp only at c⊢;rw[c];rfl
   |some q=>intro c;obtain⟨C,B⟩:=q;simp only at c⊢;rw[c.1];rfl
 ·rw[En.deed3 k]
  unfold nJ;rw[if_neg (by omega),if_neg (by omega),if_pos k];simp only[doS,d.op];cases(bn l (x.n 0)).2<;>rfl
 ·rw[En.deed4 k]
  obtain⟨r,h1⟩:=hx.hd (.inr k);have e:(x.n 0).toNat<t.pc.hands.length:=by rw[hi.hh];exact h1
  unfold nJ;rw[if_neg (by omega),if_neg (by omega),if_neg (by omega),if_pos k,<-d.pc];simp only[doS,d.op];cases v:(bn l (x.n 0)).2
  ·rfl
  ·simp only[if_true,bk,Hu,NR hi.pc r e (o _ v) (show(0:Int)<=100/\(100:Int)<=10000 by omega),VJ hs hi.pc r e]
   split<;>simp_all
 ·rw[En.Hq k]
  have hd:=hx.df;rw[En.Hq k]at hd;obtain⟨i,g⟩:=hd;unfold nJ;rw[if_neg (by omega),if_neg (by omega),if_neg (by omega),if_neg (by omega)];simp only[doS,acZ i g,Y4 d.inc];rw[d.se,agc,Bool.and_comm]
  split<;>simp_all
def Sl {l:List En}(a:x.kind≠3)(b:x.kind≠4):bn (l++ [x]) h=bn l h:=by
 rw[oH,l9,if_neg (fun e=>a e.1),if_neg (fun e=>b e.1)]
def rel_step (hs:s.ok=true){n:Nat}{l:List En}{t t':Sp}(c:Rel s l t)(hi:zV s n t){x:En}(hx:x.Fit s)(hd:doS s t x.deed=some t'):Rel s (l++ [x]) t':=by
 obtain⟨E,y,B,D,_⟩:=Su.facts hs
 rcases hx.k with k|k|k|k|k
 ·rw[En.deed1 k]at hd
  simp only[doS]at hd
  split at hd
  ·cases hd
   exact
   {pc:=by rw[kL,uq,if_neg (by omega)];exact c.pc
    op:=fun h=>by rw[Sl (by omega) (by omega)];exact c.op h
    nd:=c.nd,tl:=c.tl
    tg:=fun h g h1=>by rw[mJ,if_neg (by omega)];exact c.tg h g h1
    st:=by rw[iW,if_pos k];exact(tu _ _).trans ((c.st.cons _).trans (bA _ _).symm)
    up:=by rw[iW,if_pos k];exact Xw c.up
    co:=by rw[nY,if_neg (by omega)];exact c.co
    se:=by rw[wI,if_neg (by omega)];exact c.se
    inc:=c.inc}
  ·cases hd
 ·rw[En.deed2 k]at hd
  simp only[doS]at hd
  split at hd
  ·have j:=aan c.st (kC t.pc x) x.chg.pr
   have u:(t.pc.links.getD x.chg.link.toNat default).pr=kC t.pc x:=rfl;rw[u]at hd
   revert j hd
   generalize oV t.eG [] (kC t.pc x).a x.chg.pr.a=z;cases z with
   |none=>intro hd _;cases hd
   |some z=>
    obtain⟨I,H⟩:=z;simp only;generalize oV I H (kC t.pc x).b x.chg.pr.b=A;cases A with
    |none=>intro hd _;cases hd
    |some A=>
     obtain⟨M,L⟩:=A;intro hd j;simp only at j hd;cases hd;exact
     {pc:=by rw[kL,uq,if_pos k,c.pc]
      op:=fun h=>by rw[Sl (by omega) (by omega)];exact c.op h
      nd:=c.nd,tl:=c.tl
      tg:=fun h g h1=>by rw[mJ,if_neg (by omega)];exact c.tg h g h1
      st:=by rw[iW,if_neg (by omega),if_pos k,<-c.pc];exact j.2
      up:=by rw[iW,if_neg (by omega),if_pos k];exact ai5 c.up
      co:=by rw[nY,if_neg (by omega)];exact c.co
      se:=by rw[wI,if_neg (by omega)];exact c.se
      inc:=c.inc}
  ·cases hd
 ·rw[En.deed3 k]at hd
  simp only[doS]at hd
  split at hd
  ·cases hd
  ·rename_i i
   have i:gq t.op (x.n 0)=none:=by simpa using i
   cases hd;exact
   {pc:=by rw[kL,uq,if_neg (by omega)];exact c.pc
    op:=fun h=>by
     rw[abZ i]
     by_cases e:x.n 0=h
     ·have e2:bn (l++ [x]) h=(⟨x.n 1,x.n 2⟩,true):=by rw[oH,l9,if_pos ⟨k,e⟩]
      rw[if_pos e.symm,e2];rfl
     ·have e2:bn (l++ [x]) h=bn l h:=by rw[oH,l9,if_neg (fun q=>e q.2),if_neg (by omega)]
      rw[if_neg (Ne.symm e),e2];exact c.op h
    nd:=by
     simp only[a7,Y,bt];rw[List.nodup_append];exact⟨c.nd,by simp,fun a p b m=>by simp only[az]at m;subst m;rintro rfl;exact afc i p⟩
    tl:=c.tl
    tg:=fun h g h1=>by rw[mJ,if_neg (by omega)];exact c.tg h g h1
    st:=by rw[iW,if_neg (by omega),if_neg (by omega)];exact c.st
    up:=by rw[iW,if_neg (by omega),if_neg (by omega)];exact c.up
    co:=by rw[nY,if_neg (by omega)];exact c.co
    se:=by rw[wI,if_neg (by omega)];exact c.se
    inc:=c.inc}
 ·rw[En.deed4 k]at hd
  obtain⟨J,C⟩:=hx.hd (.inr k);simp only[doS]at hd;have d:=c.op (x.n 0)
  revert hd d
  generalize gq t.op (x.n 0)=o;cases o with
  |none=>intro hd;cases hd
  |some f=>
   intro hd d;simp only at hd
   split at hd
   ·cases hd
    have v:(bn l (x.n 0)).2=true:=by
     cases h:(bn l (x.n 0)).2 with
     |true=>rfl
     |false=>rw[h]at d;simp at d
    rw[v,if_pos rfl]at d;have w:f=(bn l (x.n 0)).1:=Option.some.inj d;obtain⟨F,G,K⟩:=ahy (h:=x.n 0) c.nd;exact
    {pc:=by rw[kL,uq,if_neg (by omega)];exact c.pc
     op:=fun h=>by
      rw[G]
      by_cases e:x.n 0=h
      ·have e2:bn (l++ [x]) h=((bn l h).1,false):=by rw[oH,l9,if_neg (by omega),if_pos ⟨k,e⟩]
       rw[if_pos e.symm,e2];rfl
      ·have e2:bn (l++ [x]) h=bn l h:=by rw[oH,l9,if_neg (by omega),if_neg (fun q=>e q.2)]
       rw[if_neg (Ne.symm e),e2];exact c.op h
     nd:=F
     tl:=by simp[c.tl]
     tg:=fun h g h1=>by
      rw[mJ]
      by_cases e:x.n 0=h
      ·rw[if_pos ⟨k,e⟩,<-e,<-w]
       simp only[Q,bO (show(x.n 0).toNat<t.tg.length by rw[c.tl,y];exact C),bd]
      ·rw[if_neg (fun q=>e q.2),<-c.tg h g h1]
       have:(x.n 0).toNat≠h.toNat:=by omega
       simp only[Q,av this]
     st:=by rw[iW,if_neg (by omega),if_neg (by omega)];exact c.st
     up:=by rw[iW,if_neg (by omega),if_neg (by omega)];exact c.up
     co:=by rw[nY,if_pos k,<-c.co]
     se:=by rw[wI,if_neg (by omega)];exact c.se
     inc:=c.inc}
   ·cases hd
 ·rw[En.Hq k]at hd
  simp only[doS]at hd
  split at hd
  ·rename_i r
   cases hd;rw[Y4 c.inc]at r;simp only[U,cV,cX,decide_eq_true_eq]at r;exact
   {pc:=by rw[kL,uq,if_neg (by omega)];exact c.pc
    op:=fun h=>by rw[Sl (by omega) (by omega)];exact c.op h
    nd:=c.nd,tl:=c.tl
    tg:=fun h g h1=>by rw[mJ,if_neg (by omega)];exact c.tg h g h1
    st:=by rw[iW,if_neg (by omega),if_neg (by omega)];exact c.st
    up:=by rw[iW,if_neg (by omega),if_neg (by omega)];exact c.up
    co:=by rw[nY,if_neg (by omega)];exact c.co
    se:=by rw[wI,if_pos k,c.se]
    inc:=by
     rw[cI];exact⟨c.inc,List.pairwise_singleton _ _,fun a p b m=>by simp only[az]at m;have:=r.2 a p;omega⟩}
  ·cases hd
def rO {α:Type}{P:List α->Prop}(h0:P [])(h1:∀l x,P l->P (l++ [x]))(l:List α):P l:=by
 have:∀m:List α,P m.reverse:=by
  intro m
  induction m with
  |nil=>exact h0
  |cons x m ih=>rw[List.reverse_cons];exact h1 _ _ ih
 have h:=this l.reverse
 rwa [List.reverse_reverse]at h
def zk (l:List En)(h:Int):(∀x∈l,x.Fit s)->(bn l h).2=true->(bn l h).1.ok=true:=by
 induction l using rO with
 |h0=>intro _ e;simp[bn]at e
 |h1 l x a=>
  intro b;rw[oH,l9];have c:=b x (by simp);have a:=a fun y d=>b y (by simp[d])
  split
  ·rename_i e;intro _;exact c.fr e.1
  ·split
   ·intro e;cases e
   ·exact a
def IX (s:Su):∀(l:List De) (x:De) (t:Sp),qK s (l++ [x]) t=(qK s l t).bind fun t=>doS s t x
 | [],x,t=>by simp[qK]
 |y::l,x,t=>by
  simp only[aM,qK];cases doS s t y with
  |none=>rfl
  |some t1=>exact IX s l x t1
def ak2 (hs:s.ok=true)(l:List En):(∀x∈l,x.Fit s)->lg s l=(qK s (l.map En.deed) s.sp0).isSome/\∀t,qK s (l.map En.deed) s.sp0=some t->Rel s l t/\zV s l.length t:=by
 induction l using rO with
 |h0=>exact fun _=>⟨rfl,fun t e=>by cases e;exact⟨ak3 s,acz hs⟩⟩
 |h1 l x p=>
  intro g;have a:∀y∈l,y.Fit s:=fun y k=>g y (by simp[k])
  have f:=g x (by simp);obtain⟨m,o⟩:=p a;rw[NU,a7,Y,bt,IX,m];cases hd:qK s (l.map En.deed) s.sp0 with
  |none=>exact⟨by simp,fun t e=>by cases e⟩
  |some t=>
   obtain⟨i,b⟩:=o t hd;have j:=TB hs i b (fun h=>zk l h a) f;simp only[Option.isSome_some,bk,de];refine⟨j,fun q c=> ?_⟩;have d:=kN.same (n:=l.length) (t:=s.sp0) (t':=t) b.ll.symm b.hh.symm f.df;exact⟨rel_step hs i b f c,by rw[V,bh];exact agL b d c⟩
def nR (D:Dk)(i:Nat):Bool:=decide ((D.es.getD i default).kind≠6)&& !D.st.getD i default
def fZ (D:Dk):List Nat:=(cz D.es.length).filter (nR D)
def aN (D:Dk)(w:Int):List En:=((fZ D).filter fun(i:Nat)=>decide ((i:Int)≠w)).map fun i=>D.es.getD i default
def Ue:∀(es:List En) (st:List Bool) (i:Nat),es.length=st.length->kM es st i=((bq i es.length).filter fun j=>decide ((es.getD (j - i) default).kind≠6)&& !st.getD (j - i) default).map fun j=>(j,(es.getD (j - i) default).deed)
 | [],[],_,_=>rfl
 | [],_::_,_,h=>by simp at h
 | _::_,[],_,h=>by simp at h
 |x::es,b::st,i,h=>by
  have d:=Ue es st (i+1) (by simpa using h);rw[kM,d,W,c9,bX];have e:∀j∈bq (i+1) es.length,(decide (((x::es).getD (j - i) default).kind≠6)&& !(b::st).getD (j - i) default)=(decide ((es.getD (j - (i+1)) default).kind≠6)&& !st.getD (j - (i+1)) default)/\(x::es).getD (j - i) default=es.getD (j - (i+1)) default:=fun j a=>by
   have:=(bS.1 a).1;rw[show j - i=(j - (i+1))+1 by omega,b7,b7];exact⟨rfl,rfl⟩
  have e1:(bq (i+1) es.length).filter (fun j=>decide (((x::es).getD (j - i) default).kind≠6)&& !(b::st).getD (j - i) default)=(bq (i+1) es.length).filter (fun j=>decide ((es.getD (j - (i+1)) default).kind≠6)&& !st.getD (j - (i+1)) default):=bj fun j a=>(e j a).1
  have e2:((bq (i+1) es.length).filter (fun j=>decide ((es.getD (j - (i+1)) default).kind≠6)&& !st.getD (j - (i+1)) default)).map (fun j=>(j,((x::es).getD (j - i) default).deed))=((bq (i+1) es.length).filter (fun j=>decide ((es.getD (j - (i+1)) default).kind≠6)&& !st.getD (j - (i+1)) default)).map (fun j=>(j,(es.getD (j - (i+1)) default).deed)):=cL fun j a=>by rw[(e j (b4.1 a).1).2]
  rw[e1,cB,bc,bc]
  by_cases c:x.kind=6
  ·simp only[c,ne_eq,not_true_eq_false,false_and,if_false,decide_false,cb,be]
   exact e2.symm
  ·cases b
   ·simp only[c,ne_eq,not_false_eq_true,and_self,if_true,decide_true,bk,Bool.not_false,Y,e2,cB,bc]
   ·simp only[c,ne_eq,not_false_eq_true,Bool.true_eq_false,and_false,if_false,decide_true,bk,Bool.not_true,be]
    exact e2.symm
def V9 (h:D.es.length=D.st.length):D.stands=(fZ D).map fun i=>(i,(D.es.getD i default).deed):=by
 rw[Dk.stands,Ue _ _ _ h,fZ,b0]
 rfl
def zU (h:D.es.length=D.st.length)(w:Int):D.without w=(aN D w).map En.deed:=by
 rw[Dk.without,V9 h,aN,List.filter_map,ca,ca]
 rfl
def Jp (s:Su)(x:En):Bool:=
 if x.kind=1 then aK (x.n 0)
 else if x.kind=2 then decide (x.n 0<(s.pc.links.length:Int))&&aK (x.n 1)&&aK (x.n 2)
 else if x.kind=3 then inR (x.n 0) 0 ((s.pc.hands.length:Int) - 1)&&decide (x.n 2>0)
 else if x.kind=4 then inR (x.n 0) 0 ((s.pc.hands.length:Int) - 1)
 else inR (x.n 0) 1 (o7 (s.cal.leap s.year))
def Ai (D:Dk)(x:En):Int:=
 if x.formed=false then 2 else if D.es.length>=24 then 3
 else if x.kind=6 then(if x.n 0>=(D.es.length:Int)\/(D.es.getD (x.n 0).toNat default).kind=6 then 2 else if D.st.getD (x.n 0).toNat default=true\/lg D.su (aN D (x.n 0))=false then 7 else 0)
 else if Jp D.su x=false then 2 else if nJ D.su (aN D (-1)) x=false then 7 else 0
structure Dk.Live (D:Dk):Prop where
 ok:D.Ok
 fit:∀x∈D.es,x.kind≠6->x.Fit D.su
 live:(D.state (-1)).isSome=true
variable{w:Int}
def aam:D.state w=qK D.su (D.without w) D.su.sp0:=rfl
def QL (s:Su):(s.days.length:Int)=o7 (s.cal.leap s.year):=by
 have:=lW (s.cal.leap s.year);have e:s.days.length=s.dur:=by simp[Su.days,Su.qw]
 rw[e,Su.dur,this]
 split<;>rfl
def En.alN (h:x.kind=6):x.deed= .strike (x.n 0):=by simp[En.deed,h]
def DL (hf:x.formed=true)(k:x.kind≠6):Jp D.su x=D.gV x.deed:=by
 have l:=En.BF hf;have c:=fun h=>uh hf (i:=0) h
 have f:0<gG x.kind:=by unfold gG;split;omega;split<;>omega
 have c:=c f;unfold Jp
 by_cases a:x.kind=1
 ·rw[if_pos a,En.deed1 a];rfl
 by_cases d:x.kind=2
 ·rw[if_neg a,if_pos d,En.deed2 d]
  simp only[Dk.gV,Pr.ok,En.chg,Bool.and_assoc]
  congr 1
  rw[bu];simp only[inR,U,decide_eq_true_eq];omega
 by_cases b:x.kind=3
 ·have g:=uh hf (i:=1) (by simp[gG,b])
  have j:=uh hf (i:=2) (by simp[gG,b]);rw[if_neg a,if_neg d,if_pos b,En.deed3 b];simp only[Dk.gV,Fr.ok]
  congr 1
  rw[bu];simp only[inR,U,decide_eq_true_eq];omega
 by_cases e:x.kind=4
 ·rw[if_neg a,if_neg d,if_neg b,if_pos e,En.deed4 e];rfl
 ·rw[if_neg a,if_neg d,if_neg b,if_neg e,En.Hq (by omega)]
  simp only[Dk.gV,QL]
def WZ (hf:x.formed=true)(a:x.kind≠6)(hb:D.gV x.deed=true):x.Fit D.su:=
 {fm:=hf,k6:=a
  te:=fun k=>by rw[En.deed1 k]at hb;exact hb
  hd:=fun k=>by
   have:inR (x.n 0) 0 ((D.su.pc.hands.length:Int) - 1)=true:=by
    rcases k with k|k
    ·rw[En.deed3 k]at hb;simp only[Dk.gV,U]at hb;exact hb.1
    ·rw[En.deed4 k]at hb;exact hb
   simp only[inR,U,decide_eq_true_eq]at this;omega
  fr:=fun k=>by rw[En.deed3 k]at hb;simp only[Dk.gV,U]at hb;exact hb.2
  df:=WY hf hb}
def jw (h:x∈aN D w):x∈D.es/\x.kind≠6:=by
 simp only[aN,aR,b4,fZ,bR,nR,U,decide_eq_true_eq]at h;obtain⟨i,⟨⟨a,h1,_⟩,_⟩,rfl⟩:=h;exact⟨getD_mem a,h1⟩
def Dk.Live.all (h:D.Live)(w:Int):lg D.su (aN D w)=(D.state w).isSome/\∀t,D.state w=some t->Rel D.su (aN D w) t/\zV D.su (aN D w).length t:=by
 have:=ak2 h.ok.su (aN D w) fun x a=>h.fit x (jw a).1 (jw a).2
 rwa [<-zU h.ok.len]at this
def aal (h:D.es.length=D.st.length)(x:En):fZ {D with es:=D.es++ [x],st:=D.st++ [false]}=fZ D++if x.kind=6 then[]else[D.es.length]:=by
 have e:(nR {D with es:=D.es++ [x],st:=D.st++ [false]} D.es.length)=decide (x.kind≠6):=by
  simp only[nR,Q,bz,bd];rw[h,bz];simp
 simp only[fZ,V,bh,dj,cR]
 congr 1
 ·refine bj fun i a=> ?_
  have a:=bR.1 a;simp only[nR,Q,am a,am (show i<D.st.length by omega)]
 ·rw[bX,e,di]
  by_cases b:x.kind=6<;>simp[b]
def Iz (h:D.es.length=D.st.length)(x:En):aN {D with es:=D.es++ [x],st:=D.st++ [false]} (-1)=aN D (-1)++if x.kind=6 then[]else[x]:=by
 unfold aN;rw[aal h,cR,a7]
 congr 1
 ·refine cL fun i a=> ?_
  have a:=(b4.1 a).1;have a:=bR.1 (b4.1 a).1;simp only[Q,am a]
 ·by_cases b:x.kind=6
  ·simp[b]
  ·rw[if_neg b,if_neg b,bX,if_pos (by simp),di]
   simp[Q]
def UU (h:D.es.length=D.st.length){n:Nat}:fZ {D with st:=D.st.set n true}=(fZ D).filter fun(i:Nat)=>decide ((i:Int)≠(n:Int)):=by
 simp only[fZ,cT];refine bj fun i a=> ?_
 have a:=bR.1 a;simp only[nR,Q,List.getElem?_set]
 by_cases e:n=i
 ·subst e
  simp[show n<D.st.length by omega]
 ·have b:¬(i:Int)=(n:Int):=by omega
  simp[e,b]
def P8 (h:D.es.length=D.st.length){n:Nat}:aN {D with st:=D.st.set n true} (-1)=aN D n:=by
 unfold aN;rw[UU h,cT]
 congr 1
def ajj (hf:x.formed=true)(a:x.kind≠6):D.with x={D with es:=D.es++ [x],st:=D.st++ [false]}:=by
 have b:=En.BF hf
 rcases(show x.kind=1\/x.kind=2\/x.kind=3\/x.kind=4\/x.kind=5 by omega)with k|k|k|k|k
 ·unfold Dk.with;rw[En.deed1 k];rfl
 ·unfold Dk.with;rw[En.deed2 k];rfl
 ·unfold Dk.with;rw[En.deed3 k];rfl
 ·unfold Dk.with;rw[En.deed4 k];rfl
 ·unfold Dk.with;rw[En.Hq k];rfl
def PS (a:x.kind=6):D.with x={D with es:=D.es++ [x],st:=D.st.set (x.n 0).toNat true++ [false]}:=by
 unfold Dk.with;rw[En.alN a];rfl
def Vu (h:D.Live)(hf:x.formed=true)(c:x.kind≠6)(hb:D.gV x.deed=true):D.goes x.deed=nJ D.su (aN D (-1)) x:=by
 obtain⟨t,a⟩:=cr.1 h.live;obtain⟨e,d⟩:=(h.all (-1)).2 t a;have f:=WZ hf c hb;have:=TB h.ok.su e d (fun k=>zk _ k fun y b=>h.fit y (jw b).1 (jw b).2) f;have g:=En.BF hf;rw[this]
 rcases(show x.kind=1\/x.kind=2\/x.kind=3\/x.kind=4\/x.kind=5 by omega)with k|k|k|k|k
 ·rw[En.deed1 k];simp only[Dk.goes,a]
 ·rw[En.deed2 k];simp only[Dk.goes,a]
 ·rw[En.deed3 k];simp only[Dk.goes,a]
 ·rw[En.deed4 k];simp only[Dk.goes,a]
 ·rw[En.Hq k];simp only[Dk.goes,a]
def MX (h:D.Live)(x:En):D.enter x=(if Ai D x=0 then D.with x else D,Ai D x):=by
 have k:=h.ok.len;have j:=h.ok.few;unfold Dk.enter Ai
 by_cases f:x.formed=false
 ·simp[f]
 by_cases c:D.es.length=24
 ·simp[f,c]
 have apl:¬D.es.length>=24:=by omega
 have a:x.formed=true:=by simpa using f
 rw[if_neg f,if_neg c,if_neg f,if_neg apl]
 by_cases b:x.kind=6
 ·rw[if_pos b,En.alN b]
  have l:=uh a (i:=0) (by rw[b];decide)
  by_cases hc:x.n 0>=(D.es.length:Int)\/(D.es.getD (x.n 0).toNat default).kind=6
  ·have d:D.gV (.strike (x.n 0))=false:=by
    rw[<-Bool.not_eq_true];simp only[Dk.gV,inR,U,decide_eq_true_eq];rintro⟨h1,h2⟩
    rcases hc with hc|hc
    ·omega
    ·exact h2 hc
   rw[if_pos d,if_pos hc];rfl
  ·have d:¬D.gV (.strike (x.n 0))=false:=by
    rw[Bool.not_eq_false];simp only[Dk.gV,inR,U,decide_eq_true_eq];refine⟨by omega,fun e=>hc (.inr e)⟩
   rw[if_neg d,if_neg hc];have g:=(h.all (x.n 0)).1;simp only[Dk.goes,<-g];cases D.st.getD (x.n 0).toNat default<;>cases lg D.su (aN D (x.n 0))<;>simp
 ·rw[if_neg b,DL a b]
  cases d:D.gV x.deed
  ·rfl
  ·rw[Vu h a b d]
   cases nJ D.su (aN D (-1)) x<;>rfl
def IZ (h:D.Live)(x:En):(D.enter x).1.Live:=by
 have b:=QS h.ok x;have j:=h.ok.len;rw[MX h]at b⊢;simp only at b⊢
 split
 ·rename_i a
  rw[if_pos a]at b;have d:x.formed=true:=by cases e:x.formed with
   |true=>rfl
   |false=>unfold Ai at a;rw[if_pos e]at a;cases a
  have m:¬D.es.length>=24:=fun e=>by unfold Ai at a;rw[if_neg (by simp[d]),if_pos e]at a;cases a
  unfold Ai at a;rw[if_neg (by simp[d]),if_neg m]at a
  by_cases c:x.kind=6
  ·rw[if_pos c]at a
   rw[PS c]at b⊢
   by_cases p:x.n 0>=(D.es.length:Int)\/(D.es.getD (x.n 0).toNat default).kind=6
   ·rw[if_pos p]at a;cases a
   rw[if_neg p]at a;have v:=uh d (i:=0) (by rw[c];decide);have g:lg D.su (aN D (x.n 0))=true:=by
    cases e:lg D.su (aN D (x.n 0))with
    |true=>rfl
    |false=>rw[if_pos (.inr e)]at a;cases a
   refine⟨b,fun y hy f=> ?_,?_⟩
   ·rcases a8.1 hy with hy|hy
    ·exact h.fit y hy f
    ·simp only[az]at hy;subst hy;exact absurd c f
   ·have e:aN {D with es:=D.es++ [x],st:=D.st.set (x.n 0).toNat true++ [false]} (-1)=aN D (x.n 0):=by
     have e1:=Iz (D:={D with st:=D.st.set (x.n 0).toNat true}) (by simpa using j) x;rw[if_pos c,bE,P8 j]at e1;rw[e1]
     congr 1;omega
    rw[aam,zU b.len,e,<-zU j];have:=(h.all (x.n 0)).1;rw[g]at this;exact this.symm
  ·rw[if_neg c]at a
   rw[ajj d c]at b⊢;have l:D.gV x.deed=true:=by
    rw[<-DL d c];cases e:Jp D.su x with
    |true=>rfl
    |false=>rw[if_pos e]at a;cases a
   have g:nJ D.su (aN D (-1)) x=true:=by
    cases e:nJ D.su (aN D (-1)) x with
    |true=>rfl
    |false=>rw[DL d c,if_neg (by simp[l]),if_pos e]at a;cases a
   refine⟨b,fun y hy f=> ?_,?_⟩
   ·rcases a8.1 hy with hy|hy
    ·exact h.fit y hy f
    ·simp only[az]at hy;subst hy;exact WZ (D:=D) d c l
   ·have e:=Iz j x
    rw[if_neg c]at e;obtain⟨t,q⟩:=cr.1 h.live;have hd:=Vu h d c l;have o:qK D.su (D.without (-1)) D.su.sp0=some t:=q;rw[aam,zU b.len,e,a7,<-zU j,Y,bt,IX];simp only[o,de];obtain⟨s,r⟩:=(h.all (-1)).2 t q;have u:=WZ d c l;rw[<-TB h.ok.su s r (fun k=>zk _ k fun y hy=>h.fit y (jw hy).1 (jw hy).2) u];exact g
 ·exact h
def ahF (hs:s.ok=true):Dk.Live ⟨s,[],[]⟩:=
 ⟨⟨hs,rfl,by simp,by simp,by simp⟩,by simp,rfl⟩
def ahR (h:Int):∀l:List Int,(match l with| []=>true| [x]=>x==h| _=>false)=(l.all fun x=>x==h)\/¬l.Nodup
 | []=> .inl rfl
 | [x]=> .inl (by simp)
 |x::y::l=>by
  by_cases a:(x::y::l).Nodup
  case neg=>exact .inr a
  refine .inl ?_;rw[cE]at a;have b:x≠y:=fun e=>a.1 (by rw[e];simp)
  simp only[cP]
  by_cases c:x=h
  ·by_cases d:y=h
   ·exact absurd (c.trans d.symm) b
   ·simp[d]
  ·simp[c]
def acG (p q:Pc)(hand:Int)(f:Fr):Bool:=decide (bM (aU q.links (p.hands.getD hand.toNat default).toNat)=zW f.n.natAbs f.d.natAbs)&&(cz p.hands.length).all fun(i:Nat)=>decide ((i:Int)=hand)||decide (bM (aU p.links (p.hands.getD i default).toNat)=bM (aU q.links (p.hands.getD i default).toNat))
def afJ {q:Pc}(t:p.ok=true)(u:q.ok=true)(hl:q.links.length=p.links.length){hand:Int}(h1:hand.toNat<p.hands.length){f:Fr}(hf:f.ok=true):kD p q hand f=acG p q hand f:=by
 have g:=Pc.good t;have a:=Pc.good u;have m:∀j,j<p.hands.length->1<=p.hands.getD j default/\p.hands.getD j default<=p.links.length:=fun j b=>g.hd _ (getD_mem b)
 have s:0<=f.n/\1<=f.d:=by
  have:(0<=f.n/\f.n<=50000)/\1<=f.d/\f.d<=50000:=by simpa[Fr.ok,inR]using hf
  omega
 have e1:AA ((fJ q.links).getD (p.hands.getD hand.toNat default).toNat default) f=decide (bM (aU q.links (p.hands.getD hand.toNat default).toNat)=zW f.n.natAbs f.d.natAbs):=by
  obtain⟨b1,o⟩:=m _ h1;rw[Gf a.lk (by omega)];obtain⟨w,y⟩:=Nv (pO a.lk a.pr (show(p.hands.getD hand.toNat default).toNat<=q.links.length by omega));have v:∀l,bM l=zW (gu l).n.natAbs (gu l).d.natAbs:=fun _=>rfl
  rw[v,bu,decide_eq_true_iff,adt (by omega) (by omega)];simp only[AA,beq_iff_eq];rw[<-cg,<-cg];have z:0<=(gu (aU q.links (p.hands.getD hand.toNat default).toNat)).n*f.d:=cf (by omega) (by omega);have A:0<=f.n*(gu (aU q.links (p.hands.getD hand.toNat default).toNat)).d:=cf (by omega) (by omega);omega
 have e2:p.lM q=((cz p.hands.length).filter fun(j:Nat)=> !decide (bM (aU p.links (p.hands.getD j default).toNat)=bM (aU q.links (p.hands.getD j default).toNat))).map fun(j:Nat)=>(j:Int):=by
  rw[Pc.lM,Gp,b0]
  congr 1
  refine bj fun j b=> ?_
  have c:j<p.hands.length:=by simpa using(bS.1 b)
  obtain⟨b1,o⟩:=m j c;rw[c7,Gf g.lk (by omega),Gf a.lk (by omega),Ur (pO g.lk g.pr (by omega)) (pO a.lk a.pr (by omega))]
 have k:(p.lM q).Nodup:=by
  rw[e2];rw[List.Nodup,List.pairwise_map];exact(List.Pairwise.filter _ List.nodup_range).imp fun h e=>h (by omega)
 have r:=(ahR hand (p.lM q)).resolve_right (fun h=>h k);refine(show kD p q hand f=(decide (bM (aU q.links (p.hands.getD hand.toNat default).toNat)=zW f.n.natAbs f.d.natAbs)&&(p.lM q).all fun x=>x==hand) from congr (congrArg and e1) r).trans ?_;rw[acG,e2,List.all_map,List.all_filter]
 congr 1
 congr 1
 funext i
 simp only[Function.comp_apply]
 by_cases h:(i:Int)=hand<;>simp[h]
def zZ (p:Pc)(c:Chg):(p.changed c).links.length=p.links.length:=by simp[Pc.changed]
def U6 {p:Pc}{link:Nat}{a:Int}{c:Chg}:∀{k:Nat} {b:Int},c∈vk p link a k b->c.link=(link:Int)/\c.pr.a=a/\b<=c.pr.b/\c.pr.b<b+k
 |0,b,h=>by cases h
 |k+1,b,h=>by
  rw[vk]at h
  rcases a8.1 h with h|h
  ·split at h
   ·cases h
   ·cases az.1 h
    exact⟨rfl,rfl,cH _,by simp only;omega⟩
  ·have:=U6 h
   omega
def ML {p:Pc}{d:Int}{w link:Nat}{c:Chg}:∀{k:Nat} {a:Int},c∈sN p d w link k a->c.link=(link:Int)/\(a<=c.pr.a/\c.pr.a<a+k)/\d<=c.pr.b/\c.pr.b<d+w
 |0,a,h=>by cases h
 |k+1,a,h=>by
  rw[sN]at h
  rcases a8.1 h with h|h
  ·have:=U6 h;omega
  ·have:=ML h;omega
def MO {p:Pc}{d:Int}{w:Nat}{c:Chg}:∀{k link:Nat},c∈iU p d w k link->((link:Int)<=c.link/\c.link<link+k)/\(d<=c.pr.a/\c.pr.a<d+w)/\d<=c.pr.b/\c.pr.b<d+w
 |0,link,h=>by cases h
 |k+1,link,h=>by
  rw[iU]at h
  rcases a8.1 h with h|h
  ·have:=ML h;omega
  ·have:=MO h;omega
def Fz (S:Chg->Chg->Bool):List Chg->Option (List Chg)
 | []=>none
 |c::cs=>match cs.find? fun k=>decide (k.link>c.link)&&S c k with
  |some k=>some [c,k]
  |none=>Fz S cs
def find_none_of {α:Type}{p:α->Bool}{l:List α}(h:∀x∈l,p x=false):l.find? p=none:=by
 rw[List.find?_eq_none];intro x a;rw[h x a];decide
def find_congr {α:Type}{p q:α->Bool}:∀{l:List α},(∀x∈l,p x=q x)->l.find? p=l.find? q
 | [],_=>rfl
 |x::l,h=>by
  rw[cC,cC,h x (by simp),find_congr fun y a=>h y (by simp[a])]
def Zt {S:Chg->Chg->Bool}{R:List Chg}{i:Int}{g:Chg->Option (List Chg)}(d:∀k∈R,k.link>i)(f:∀c,c.link=i->g c=(R.find? (S c)).map fun k=>[c,k])(j:Fz S R=R.findSome? g):∀A:List Chg,(∀c∈A,c.link=i)->Fz S (A++R)=(A++R).findSome? g
 | [],_=>j
 |c::A,h=>by
  have b:=h c (by simp);have e:(A++R).find? (fun k=>decide (k.link>c.link)&&S c k)=R.find? (S c):=by
   rw[List.find?_append,find_none_of (l:=A) (fun x a=>by rw[b,h x (by simp[a])];simp),Option.none_or];exact find_congr fun x a=>by rw[b,decide_eq_true (d x a),bk]
  rw[aM,Fz,e,cK,f c b];cases R.find? (S c)with
  |some k=>rfl
  |none=>exact Zt d f j A fun x a=>h x (by simp[a])
def YF {α β:Type}(p:α->Bool)(f:α->β):∀l:List α,(l.findSome? fun x=>if p x then some (f x)else none)=(l.find? p).map f
 | []=>rfl
 |x::l=>by
  rw[cK,cC,YF p f l];cases p x<;>simp
def Uz (p:Pc)(hand:Int)(f:Fr)(all:List Chg):Option (List Chg):=
 if kD p p hand f then some []else match all.find? fun c=>kD p (p.changed c) hand f with
  |some c=>some [c]
  |none=>Fz (fun c k=>kD p ((p.changed c).changed k) hand f) all
def adB (p:Pc)(hand:Int)(f:Fr)(a:Int)(w:Nat)(now:Pc)(fr:Nat):gI p hand f a w 1 now fr=((iU p a w (p.links.length - fr) fr).find? fun c=>kD p (now.changed c) hand f).map fun c=>[c]:=by
 rw[gI,<-YF]
 congr 1
 funext c
 simp only[gI]
 split<;>rfl
def adC (p:Pc)(hand:Int)(f:Fr)(a:Int)(w:Nat):∀(k i:Nat),i+k=p.links.length->Fz (fun c k=>kD p ((p.changed c).changed k) hand f) (iU p a w k i)=(iU p a w k i).findSome? fun c=>(gI p hand f a w 1 (p.changed c) (c.link.toNat+1)).map (c::·)
 |0,i,_=>rfl
 |k+1,i,h=>by
  rw[iU];refine Zt (i:=(i:Int)) (fun c b=> ?_) (fun c b=> ?_) (adC p hand f a w k (i+1) (by omega)) _ fun c b=>(ML b).1
  ·have:=(MO b).1.1;omega
  ·rw[b,adB,aq,show p.links.length - (i+1)=k by omega,Option.map_map]
   rfl
def N8 (i:p.ok=true){a b hand:Int}(hl:aK a=true)(h:aK b=true)(d:a<=b)(j:b - a<=10)(e:inR hand 0 (p.hands.length - 1)=true){f:Fr}(hf:f.ok=true):
  p.changes a b hand f=match Uz p hand f (iU p a (b - a+1).toNat p.links.length 0)with|some l=>(l,0)|none=>([],5):=by
 have g:(p.ok&&(aK a&&aK b&&decide (a<=b))&&decide (b - a<=10)&&inR hand 0 (p.hands.length - 1)&&f.ok)=true:=by simp[i,hl,h,d,j,e,hf]
 rw[Pc.changes,if_pos g,adB,gI,Uz];rw[show gI p hand f a (b - a+1).toNat 2 p 0=Fz (fun c k=>kD p ((p.changed c).changed k) hand f) (iU p a (b - a+1).toNat p.links.length 0) from by rw[adC _ _ _ _ _ _ _ (by omega),gI];rfl];rw[c7];cases m:kD p p hand f
 ·simp only[be,if_false]
  cases((iU p a (b - a+1).toNat p.links.length 0).find? fun c=>kD p (p.changed c) hand f)with
  |some c=>rfl
  |none=>rfl
 ·simp
end Go.Tel
namespace Go.Proofs
open Go.Shelf Go.RowKit Go.Lib
def Tryz.joinExtra:Builder.Extra Tryz.prog Tryz.laysJoin_ren:={
 sizeBuilder:=by kernel_rfl
 liesBuilder:=by kernel_rfl
 t5:=by kernel_rfl
 a5:=Tryz.isAgg5
 z5:=Tryz.sizeOf5
 v5:=Tryz.zeroValue5
 infoByte:=by kernel_rfl
 cellsByte:=by kernel_rfl
 sizeByte:=by kernel_rfl
 neB5:=by decide}
section
variable {P:Program}{ρ:Ren}
def afH (L:Lays.n146 P ρ)(h:(P.info? (ρ.t 9)).map (fun i=>(i.zero,i.size,i.bytes))=some (some (.string ByteArray.empty),1,16))(s:ByteArray)(a:UInt8)(w:World)(hs:s.size<4294967281):
  Calls P (ρ.f 146) #[.string s, .string ⟨#[a]⟩] w fun e w'=>
   e= .returned (.slice (some ⟨w.heap.size,0,none⟩) (Lib.countB s ⟨#[a]⟩+1) (Lib.countB s ⟨#[a]⟩+1))/\w'=w.alloc (.cells ((Lib.splitB ⟨#[a]⟩ 0 (Lib.countB s ⟨#[a]⟩) s).map Value.string).toArray (ρ.t 9)):=by
 have h1:1<=(⟨#[a]⟩:ByteArray).size:=aL _;have l:=Lib.countB_le ⟨#[a]⟩ h1 s.size s (aL _);have b:=Lib.splitB_all ⟨#[a]⟩ h1 0 _ s rfl;have c:=Any.strings_genSplit_core {L with} h s ⟨#[a]⟩ 0 (-1) (Lib.countB s ⟨#[a]⟩+1) w hs h1 (br _)
  (fun x cs _=>(Any.strings_Index_one {L with} x a _).mono fun e w' ⟨g,d⟩=>⟨by rw[g];show _=Ending.returned (Value.int .i64 (Lib.index x.data.toList [a]));rw[Lib.index_one],d⟩)
  ((Any.strings_Count_one {L with} s a w).mono fun e w' ⟨g,d⟩=>⟨by rw[g];show _=Ending.returned (Value.int .i64 ((Lib.count s.data.toList [a]:Nat):Int));rw[Lib.count_one];rfl,d⟩)
  (by decide) (by decide) (by rw[if_pos (by decide)];omega)
 rw[cl,b]at c;have e2:Lib.cellsOf (Lib.splitB ⟨#[a]⟩ 0 (Lib.countB s ⟨#[a]⟩) s) (Lib.countB s ⟨#[a]⟩+1)=((Lib.splitB ⟨#[a]⟩ 0 (Lib.countB s ⟨#[a]⟩) s).map Value.string).toArray:=by rw[<-b];exact Lib.cellsOf_full _
 rw[e2]at c;have r:=L.t3;have u:=L.t9;have m:=L.t31;have p:=L.a3;have q:=L.a9;have k:=L.a31;have z:=L.z3;have v:=L.v3;have A:=L.z9;have y:=L.v9;have o:=L.z31;have n:=L.v31;have j:∀args w,(callFunc (ρ.f 221) args).run P w= .ok (.enter (ρ.f 221) args) w:=enters_of L.f221 (by kernel_rfl) rfl
 go_enter L.f146,Body.n146_ntmps ρ
 go_wp2_with (go_at_fn (ρ.f 221);refine c.mono ?_;rintro e w' ⟨rfl,d⟩;rw[d])
 go_ret
 exact⟨rfl,rfl⟩
end
end Go.Proofs
namespace Go.Tel
open Go.Am
def dJ (s:ByteArray)(c:UInt8):List ByteArray:=Go.Lib.splitB ⟨#[c]⟩ 0 (Go.Lib.countB s ⟨#[c]⟩) s
def zM (s:ByteArray)(c:UInt8):(dJ s c).length=Go.Lib.countB s ⟨#[c]⟩+1:=Go.Lib.splitB_all ⟨#[c]⟩ (aL _) 0 _ s rfl
def VY {w:World}{O:Nat->Prop}:∀xs:List ByteArray,bg w O (xs.map Value.string) (xs.map DV.str)
 | []=> .nil
 |x::xs=> .cons (.str _) (VY xs)
def Na:∀xs:List ByteArray,flat (xs.map DV.str)=xs.map DV.str
 | []=>rfl
 |x::xs=>by
  have:=Na xs;simp only[flat]at this⊢;simp only[Y,List.flatMap_cons,this]
  rfl
def ajr (s:ByteArray)(c:UInt8)(hs:s.size<=1000000):Am.Pure Go.Tel.C 219 [.str s, .str ⟨#[c]⟩] (.d (.slice false ((dJ s c).map .str))) []:=by
 refine rH fun X w b g a f=> ?_
 cases f with|cons h1 t1=>
 cases t1 with|cons h2 t2=>
 cases t2;cases h1;cases h2;refine(Go.Proofs.afH Go.Proofs.Tryz.laysSplit (by kernel_rfl) s c w (by omega)).mono ?_;rintro e i ⟨rfl,rfl⟩;refine⟨_,rfl,Later.alloc w _,?_⟩;refine .slice (sz:=1) (T:=Go.Proofs.Tryz.laysSplit_ren.t 9) (fz:=(0,0)) (cs:=((dJ s c).map Value.string).toArray) ?_ (fun h=>bl _ (a _ h)) (by simp[zM]) (by intro x a;obtain⟨y,_,rfl⟩:=aR.1 a;rfl) (aL _) (fun h=>by cases h) ?_
 ·show(w.heap.push _)[w.heap.size]?=_
  rw[Array.getElem?_push_size];rfl
 ·rw[Na]
  simp only[aD,dg];rw[cA (by simp[zM])];exact VY _
def al7 (n:Int)(c: -9223372036854775808<=n)(h1:n<=9223372036854775807):Am.Pure Go.Tel.C 213 [.int .i64 n] (.d (.str ⟨(Go.Lib.itoa n).toArray⟩)) []:=by
 refine rH fun X w a f i h=> ?_
 cases h with|cons h2 t2=>
 cases t2;cases h2;refine(Go.Proofs.Any.strconv_Itoa Go.Proofs.Tryz.laysItoa n c h1 w f).mono ?_;rintro e j ⟨rfl,k,os,rfl⟩;exact⟨_,rfl,⟨rfl,rfl,rfl,by simp[Go.Sort.grow],fun b g=>by simp only[Go.Sort.grow];rw[Array.getElem?_append_left (by exact g)];rfl⟩, .str _⟩
def ac9 (xs:List ByteArray)(a:ByteArray):ByteArray:=⟨(Go.Lib.join (xs.map (·.data.toList)) a.data.toList).toArray⟩
def Iq {w:World}{O:Nat->Prop}:∀{vs:List Value} {xs:List ByteArray},bg w O vs (xs.map DV.str)->vs=xs.map Value.string
 | _,[], .nil=>rfl
 | _,x::xs, .cons h t=>by
  cases h;rw[Iq t]
  rfl
end Go.Tel
namespace Go.Am
section
variable {C:Ctx}{base:Nat}{M:Mem}{K:PV->Mem->Prop}{KP:DV->Mem->Prop}
variable{a b:ByteArray}
def fE {op:BinOp}{K:DV->Prop}:NW op (.d (.str a)) (.d (.str b)) K=AP op a b K:=px
def kZ {K:DV->Prop}:AP .add a b K=(a.size+b.size<=9223372036854775807/\K (.str (a++b))):=px
def yI {K:DV->Prop}:AP .eql a b K=K (.bool (a.toList==b.toList)):=px
def Mc {K:DV->Prop}:AP .neq a b K=K (.bool (!(a.toList==b.toList))):=px
end
end Go.Am
namespace Go.Tel
open Go.Am
def size_data (b:ByteArray):b.data.toList.length=b.size:=bo
def al8 (xs:List ByteArray)(b:ByteArray)(F:xs.length<=1000000)(hl:(Go.Lib.join (xs.map (·.data.toList)) b.data.toList).length<=1000000000):
  Am.Pure Go.Tel.C 218 [sF (xs.map .str), .str b] (.d (.str (ac9 xs b))) []:=by
 refine rH fun X w u E H A=> ?_
 cases A with|cons h1 t1=>
 cases t1 with|cons y t2=>
 cases t2;cases y;generalize h:xs.map DV.str=ys at h1;cases h1 with
 |empty=>
  rw[b8]at h;subst h;refine(Go.Proofs.Any.strings_Join_none Go.Proofs.Tryz.laysJoin Go.Proofs.Tryz.joinExtra _ _ b w).mono ?_;rintro e v ⟨rfl,rfl⟩;exact⟨_,rfl,Later.refl _, .str _⟩
 |slice q G f B z D g=>
 rename_i i k len cap sz cs T fz
 subst h;rw[ae]at f;subst f
 by_cases s:xs=[]
 ·subst s
  refine(Go.Proofs.Any.strings_Join_none Go.Proofs.Tryz.laysJoin Go.Proofs.Tryz.joinExtra _ _ b w).mono ?_;rintro e v ⟨rfl,rfl⟩;exact⟨_,rfl,Later.refl _, .str _⟩
 have o:sz=1:=by
  obtain⟨p,l,rfl⟩:∃p l,xs=p::l:=by
   cases xs with
   |nil=>exact absurd rfl s
   |cons a t=>exact⟨a,t,rfl⟩
  rw[<-B (.str p) (by simp)];rfl
 subst o;rw[Na,dg]at g;have n:=Iq g;refine(Go.Proofs.Any.strings_Join Go.Proofs.Tryz.laysJoin Go.Proofs.Tryz.joinExtra i k cap xs b w (fun j x r=> ?_) (dB q) (by omega) z (by omega)).mono ?_
 ·have m:j<xs.length:=(ai.1 r).1
  rw[cell_of_row w i (k+j) cs T fz q];have:=congrArg (fun l=>l[j]?) n;simp only[List.getElem?_take,m,if_true,List.getElem?_drop,cF,c2,r,dk]at this;exact this
 ·rintro e v ⟨rfl,c⟩
  exact⟨_,rfl,⟨c.os,c.tape,c.output,c.size,c.block⟩, .str _⟩
def dS (n:Int):ByteArray:=⟨(Go.Lib.itoa n).toArray⟩
def I64 (n:Int):Prop:= -9223372036854775808<=n/\n<=9223372036854775807
def IE {n:Int}(h:I64 n):Pure C 213 [dI n] (.d (.str (dS n))) []:=al7 n h.1 h.2
def yZ {n:Int}(h:I64 n):(dS n).size<=21:=by
 have:=Go.Lib.itoa_length_le n h.1 h.2
 simpa[dS,dl]using this
def Ov {B:Nat}(a:UInt8):∀(r:List (List UInt8)),(∀x∈r,x.length<=B)->(Go.Lib.joinTail [a] r).length<=r.length*(B+1)
 | [],_=>by simp[Go.Lib.joinTail]
 |x::r,h=>by
  have c:=Ov a r (fun y b=>h y (aw _ b));have d:=h x ax;simp only[Go.Lib.joinTail,Y,cY,V,W,ap]at c⊢;rw[dx];omega
def join_le {B:Nat}(a:UInt8)(xs:List (List UInt8))(h:∀x∈xs,x.length<=B):(Go.Lib.join xs [a]).length<=xs.length*(B+1):=by
 cases xs with
 |nil=>simp[Go.Lib.join_nil]
 |cons x r=>
  rw[Go.Lib.join_cons,V,W,dx];have:=Ov a r (fun y b=>h y (aw _ b));have:=h x ax;omega
def abH (xs:List ByteArray)(c:UInt8):(ac9 xs ⟨#[c]⟩).size=(Go.Lib.join (xs.map (·.data.toList)) [c]).length:=by
 unfold ac9
 show(dr _).size=_
 rw[c4]
def GL (ns:List Int):ByteArray:=ac9 (ns.map dS) ⟨#[32]⟩
variable{ns:List Int}
def RG (h:∀n∈ns,I64 n):(Go.Lib.join ((ns.map dS).map (·.data.toList)) [32]).length<=ns.length*22:=by
 have:=join_le (B:=21) 32 ((ns.map dS).map (·.data.toList)) (fun x a=>by
  simp only[aR]at a;obtain⟨y,⟨n,b,rfl⟩,rfl⟩:=a;rw[size_data];exact yZ (h n b))
 simpa using this
def JU (h:∀n∈ns,I64 n):(GL ns).size<=ns.length*22:=by
 rw[GL,abH];exact RG h
variable{s:ByteArray}
def dX:DV.cells (.str s)=[.str s]:=rfl
def Q5:DV.fits 1 (.str s)=true:=rfl
def YX (ns:List Int)(hl:ns.length<=1000)(h:∀n∈ns,I64 n):Pure C 122 [sF (ns.map au)] (.d (.str (GL ns))) []:=by
 refine ah wZ aJ ?_;simp only[wZ,aJ,ae,RN,z,J];refine aG ns.length (fun i (v:Nat)=>⟨[(3, .tsl 0 v 0),(6, .d (sF (ns.map au))),(7,pI ns.length),(8,pI i)],⟨[],[],[some ⟨1,((ns.take i).map dS).map .str,v,0⟩]⟩⟩)
  (fun _ _=>True) 0 0 (br _) rfl trivial (fun i v a _=> ?_) (fun v _=> ?_)
 ·obtain⟨b,c,e⟩:=rng a (by omega)
  simp only[b,c,a,getD_map,aH,aq,ae,RN,z,N];refine ak (IE (h _ (getD_mem a))) ?_;simp only[eX,DV.strip,dX,Q5,forall_eq,ae,RN,I,J,N];refine⟨by simp,by simp;omega,?_⟩;simp only[e];refine aW (v+1) a ?_ trivial;rw[aP a];simp
 ·simp only[cp,RN,z]
  rw[db];refine kE (uf (d:=sF ((ns.map dS).map .str)) (by simp[datum,Mem.row])) rfl (al8 (ns.map dS) ⟨#[32]⟩ (by simp;omega) (by have:=RG h;simp only at this⊢;omega)) rfl ?_;(try simp only[RN,z,F,H,I,J,N])
  rfl
def En.line (x:En):ByteArray:=fwE x.kind++⟨#[32]⟩++GL x.ns
def BD {x:En}(h:x.formed=true):∀n∈x.ns,0<=n/\n<=9999:=by
 simp only[En.formed,U,decide_eq_true_eq,aE]at h;intro n a
 simpa[inR]using h.2 n a
def YJ (k:Int):(fwE k).size<=6:=by
 unfold fwE;have:∀p∈fmL,p.1.size<=6:=by decide
 by_cases h:(k - 1).toNat<fmL.length
 ·exact this _ (getD_mem h)
 ·rw[Q,List.getElem?_eq_none (by omega)];decide
def ajv (x:En):Pure C 42 [x.dv] (.d (.tup [.str (if x.formed then x.line else⟨#[]⟩),dI (if x.formed then 0 else 2)])) []:=by
 have e:=Ry x;rw[dA]at e;refine ah xZ Bd ?_;simp only[xZ,Bd,dA,RN,z,F,N];refine ak e ?_;cases a:x.formed
 ·(try simp only[RN,z])
  rfl
 have k:1<=x.kind/\x.kind<=6:=by
  simp only[En.formed,U,inR,decide_eq_true_eq]at a;omega
 have b:=BD a;have f:=wu a;obtain⟨g,h,i⟩:=alP k;have c:∀n∈x.ns,I64 n:=fun n l=>by have:=b n l;exact⟨by omega,by omega⟩
 have j:=JU c;have p:=YJ x.kind;have m:(⟨#[32]⟩:ByteArray).size=1:=rfl;have o:(fwE x.kind++(⟨#[32]⟩:ByteArray)).size<=7:=by rw[bw];omega
 (try simp only[RN,z,F,N]);refine ak W9 ?_;simp only[i,g,RN,F,N];refine⟨by omega,by omega,h,?_⟩;simp only[fE,kZ];refine⟨by omega,?_⟩;refine eH rfl rfl (YX x.ns (by omega) c) ?_;simp only[fE,kZ];refine⟨by omega,?_⟩
 rfl
end Go.Tel
namespace Go.Am
section
variable {C:Ctx}{base:Nat}{L:PV->Mem->Prop}{KP:DV->Mem->Prop}{bs:List (Option (List PV))}{fz:List Nat}{ar:List (Option Arr)}
variable{s:ByteArray}
def ajZ {i:Nat}:ay C base (.rngS i) [.d (.str s)] ⟨bs,fz,ar⟩ L KP=(bs[base+i]?=some none/\L (.yY (base+i)) ⟨bs.set (base+i) (some [.EF s 0]),fz,ar⟩):=px
def abj {b pos c n:Nat}(h:bs[b]?=some (some [.EF s pos]))(hf:b∉fz)(e:pos<s.size)(hd:Utf8.decode s pos=(c,n))(a:L (.d (.tup [.bool true,dI pos, .int .i32 c])) ⟨bs.set b (some [.EF s (pos+n)]),fz,ar⟩):
  ay C base .Zj [.yY b] ⟨bs,fz,ar⟩ L KP:=by
 simp only[ay,Mem.box,h,hd];exact⟨hf,by rw[if_pos e];exact a⟩
def YE {b pos:Nat}(h:bs[b]?=some (some [.EF s pos]))(hf:b∉fz)(c:¬pos<s.size)(a:L (.d (.tup [.bool false])) ⟨bs,fz,ar⟩):
  ay C base .Zj [.yY b] ⟨bs,fz,ar⟩ L KP:=by
 simp only[ay,Mem.box,h];exact⟨hf,by rw[if_neg c];exact a⟩
variable{M:Mem}{K:PV->Mem->Prop}
def yV {sz:Nat}{xs:List DV}{k:IntKind}{n:Int}(hs:∀x∈xs,x.cells.length=sz)(a:0<=n)(h1:n<=xs.length):
  ay C base (.Bf sz true false false) [.d (.slice false xs), .d (.int k n)] M K KP=K (.d (sF (xs.drop n.toNat))) M:=by
 simp only[ay,Az,eU,bd,cv,aq,db,cb,Bool.or_false];refine propext ⟨fun h=>h.2.2.2.2.2.2,fun h=>⟨trivial,hs,a,h1,cH _,fun c b=>b,h⟩⟩
def agV {neq:Bool}{a c:ByteArray}{b d:Int}:ay C base (.AO neq [2,1]) [.d (.agg [.str a,dI b]), .d (.agg [.str c,dI d])] M K KP=K (.d (.bool (((a.toList==c.toList)&&(b==d)) !=neq))) M:=by
 rw[ac1 (t:=(a.toList==c.toList)&&(b==d))];simp[fC]
end
end Go.Am
namespace Go.Tel
open Go.Am
def adG (xs:List ByteArray):∀y∈xs.map DV.str,y.cells.length=1:=by
 intro y a;obtain⟨n,_,rfl⟩:=aR.1 a;rfl
def an5 {p:ByteArray×Nat}:abp p= .agg [.str p.1,dI (p.2:Int)]:=rfl
def jQ (s:ByteArray)(n:Nat)(p:ByteArray×Nat):Bool:=(s.toList==p.1.toList)&&((n:Int)==(p.2:Int))
def YQ (l:List (ByteArray×Nat))(hl:l.length<=1000)(s:ByteArray)(n:Nat):Pure C 220 [sF (l.map abp), .agg [.str s,dI (n:Int)]] (.d (dI (kP (jQ s n) l 0))) []:=by
 refine ah kU aI ?_;simp only[kU,aI,ae,RN,z,F];refine aG l.length (fun i (_:Unit)=>⟨[(0, .d (sF (l.map abp))),(3, .d (.aV [.str s,dI (n:Int)])),(7,pI l.length),(8,pI i)],⟨[some [.d (.str s),pI (n:Int)]],[0],[]⟩⟩)
  (fun i _=>kP (jQ s n) l 0=kP (jQ s n) (l.drop i) i) 0 () (br _) rfl rfl (fun i _ h1 a=> ?_) (fun _ a=> ?_)
 ·obtain⟨h2,c,e⟩:=rng h1 (by omega)
  rw[drop_cons h1,kP]at a;simp only[h2,c,h1,getD_map,aq,ae,an5,agV,acW,RN,z,F,N];cases b:jQ s n (l.getD i default)
  ·rw[if_neg (fun h=>by rw[b]at h;cases h)]at a
   rw[jQ]at b;simp only[b,e,RN,z];exact aW () h1 rfl a
  ·rw[if_pos b]at a
   rw[jQ]at b;simp only[b,RN,z];rw[a]
 ·rw[c8,kP]at a
  simp only[cp,a,RN,z]
variable{M:Mem}
def wR {b:Bool}{s:ByteArray}{K:PV->Mem->Prop}{KP:DV->Mem->Prop}(c:b=true->K (.d (.tup [])) M)(e:b=false->∀d,Qv d->KP d M):SC C 221 [.d (.bool b), .d (.str s)] M K KP:=by
 refine Go.Am.TW (ds:=[.bool b, .str s]) (Kr:=fun x=>b=true/\x= .tup []) (Kp:=fun d=>b=false/\Qv d) ?_ (fun x a=>by rw[a.2];exact c a.1) (fun d hd=>e hd.1 d hd.2);refine aC sD gW ?_;cases b
 ·simp only[sD,gW,OB,QW,RN,z,F,N]
  exact⟨s,rfl⟩
 ·simp only[sD,gW,RN,z,F]
  exact⟨_,rfl,rfl⟩
def wV (w:ByteArray):Nat->Nat->Int->Option Int
 |0,_,n=>some n
 |k+1,pos,n=>if 48<=(w.data.getD pos 0).toNat/\(w.data.getD pos 0).toNat<=57/\w.size<=4 then wV w k (pos+1) (10*n+(((w.data.getD pos 0).toNat:Int) - 48))else none
def iL (w:ByteArray):Option Int:=match wV w w.size 0 0 with
 |some n=>if w.size≠0/\(dS n).data.toList=w.data.toList then some n else none
 |none=>none
def jg:List ByteArray->List Int->Option (List Int)
 | [],a=>some a
 |x::l,a=>match iL x with
  |some n=>jg l (a++ [n])
  |none=>none
def kV (line:ByteArray)(fm:List (ByteArray×Nat)):Option (Int×List Int):=
 if kP (jQ ((dJ line 32).getD 0 default) ((dJ line 32).length - 1)) fm 0>=0 then
  (match jg ((dJ line 32).drop 1) []with
  |some l=>some (kP (jQ ((dJ line 32).getD 0 default) ((dJ line 32).length - 1)) fm 0,l)
  |none=>none)
 else none
def Xd {α:Type}(p:α->Bool):∀(l:List α) (i:Nat), -1<=kP p l i/\kP p l i<=(i+l.length:Nat)
 | [],i=>by simp only[kP];omega
 |x::l,i=>by
  simp only[kP]
  split
  ·simp;omega
  ·have:=Xd p l (i+1);simp only[W];omega
def adL {line:ByteArray}(hr:line.size<=1000000)(fm:List (ByteArray×Nat))(D:fm.length<=1000)(ex:Bool){M:Mem}{K:PV->Mem->Prop}{KP:DV->Mem->Prop}
  (Z:∀o ns,kV line fm=some (o,ns)->K (.d (.tup [dI o,sF (ns.map au)])) M)(hP:kV line fm=none->∀d,Qv d->KP d M):SC C 126 [.d (.str line), .d (.slice ex (fm.map abp))] M K KP:=by
 refine Go.Am.TW (ds:=[.str line, .slice ex (fm.map abp)]) (Kr:=fun x=>∃a ns,kV line fm=some (a,ns)/\x= .tup [dI a,sF (ns.map au)]) (Kp:=fun d=>kV line fm=none/\Qv d) ?_ (fun x hx=>by obtain⟨a,ns,h1,rfl⟩:=hx;exact Z a ns h1) (fun d hd=>hP hd.1 d hd.2);have hl:=zM line 32;have ab:=Go.Lib.countB_le ⟨#[32]⟩ (aL _) line.size line (aL _);have YN:=ajr line 32 hr;refine aC zu bZ ?_;simp only[zu,bZ,RN,z,F,J];refine ak YN ?_;have adK:kV line fm=if kP (jQ ((dJ line 32).getD 0 default) ((dJ line 32).length - 1)) fm 0>=0 then(match jg ((dJ line 32).drop 1) []with|some l=>some (kP (jQ ((dJ line 32).getD 0 default) ((dJ line 32).length - 1)) fm 0,l)|none=>none)else none:=rfl
 have ai:(dJ line 32).length<=1000001:=by omega
 have ac:1<=(dJ line 32).length:=by omega
 generalize dJ line 32=ws at*;have i0:(0:Int)<=0:=by decide
 have l0:0<ws.length:=by omega
 have R:dC .i64 ((ws.length:Int) - 1)=((ws.length - 1:Nat):Int):=by rw[aB (by omega)];omega
 have E:=YQ fm D (ws.getD 0 default) (ws.length - 1);have aqD:=Xd (jQ (ws.getD 0 default) (ws.length - 1)) fm 0;simp only[ae,i0,l0,Int.toNat_zero,getD_map,dX,R,RN,z,F,N];refine ak E ?_;(try simp only[RN]);generalize kP (jQ (ws.getD 0 default) (ws.length - 1)) fm 0=ix at*;refine wR (fun e2=> ?_) (fun e2 d b=>⟨by rw[adK,if_neg (of_decide_eq_false e2)],b⟩);rw[if_pos (of_decide_eq_true e2)]at adK;(try simp only[RN]);rw[yV (adG ws) (by decide) (by rw[ae];omega)];have B:(ws.map DV.str).drop (Int.toNat 1)=(ws.drop 1).map DV.str:=by rw[List.map_drop];rfl
 rw[B];have P:(ws.drop 1).length<=1000000:=by simp;omega
 generalize ws.drop 1=xs at*;simp only[ae,RN];refine aG xs.length (fun i (q:List Int×Nat)=>⟨[(0, .d (.str line)),(7,pI ix),(8, .tsl 1 q.2 0),(30, .d (sF (xs.map .str))),(31,pI xs.length),(32,pI i)],⟨[],[],[some ⟨1,[],0,0⟩,some ⟨1,q.1.map au,q.2,0⟩]⟩⟩)
  (fun i q=>jg xs []=jg (xs.drop i) q.1/\q.1.length=i) 0 ([],0) (br _) rfl ⟨rfl,rfl⟩ (fun i q s p=> ?_) (fun q p=> ?_)
 ·obtain⟨f,ver⟩:=q
  obtain⟨r1,r2⟩:=p;simp only at r1 r2;obtain⟨V,W,X⟩:=rng s P;rw[drop_cons s,jg]at r1;obtain⟨w,S⟩:∃w,w=xs.getD i default:=⟨_,rfl⟩
  rw[<-S]at r1;have e:iL w=none->kV line fm=none:=fun h=>by rw[adK,r1,h]
  simp only[V,W,s,getD_map,aq,ae,dX,<-S,ajZ,RN,z,N];refine iR (fun(q:Nat×Int)=>⟨[(0, .d (.str line)),(7,pI ix),(8, .tsl 1 ver 0),(10, .d (.str w)),(11,pI q.2),(30, .d (sF (xs.map .str))),(31,pI xs.length),(32,pI i),(37, .yY 0)],⟨[some [.EF w q.1]],[],[some ⟨1,[],0,0⟩,some ⟨1,f.map au,ver,0⟩]⟩⟩)
   (fun q=>q.1<=w.size/\wV w w.size 0 0=wV w (w.size - q.1) q.1 q.2/\0<=q.2/\q.2<10 ^ q.1/\(0<q.1->w.size<=4)) (fun q=>w.size - q.1) (0,0) rfl ⟨br _,rfl,by decide,by decide,by simp⟩ (fun q p=> ?_)
  obtain⟨pos,n⟩:=q;obtain⟨q1,g,q3,q4,U⟩:=p;simp only at q1 g q3 q4 U
  by_cases j:pos<w.size
  ·obtain⟨c,y,hd⟩:∃c y,Utf8.decode w pos=(c,y):=⟨_,_,rfl⟩
   have hg:w.data.getD pos 0=w[pos]'j:=by
    rw[b9,Array.getElem?_eq_getElem (show pos<w.data.size from j)];rfl
   have A:(48<=(w.data.getD pos 0).toNat/\(w.data.getD pos 0).toNat<=57↔48<=c/\c<=57)/\(c<=57->c=(w.data.getD pos 0).toNat/\y=1):=by
    rw[hg]
    by_cases ha:(w[pos]'j).toNat<128
    ·have:=decode_ascii w pos j ha
     rw[hd]at this;cases this;exact⟨Iff.rfl,fun _=>⟨rfl,rfl⟩⟩
    ·have:=(decode_high w pos j (by omega)).1
     rw[hd]at this;simp only at this;exact⟨by omega,by omega⟩
   obtain⟨k,hk⟩:∃k,w.size - pos=k+1:=⟨w.size - pos - 1,by omega⟩
   rw[hk,wV]at g;have bad:¬(48<=c/\c<=57/\w.size<=4)->iL w=none:=by
    intro H;rw[if_neg (by intro hh;exact H ⟨(A.1.1 ⟨hh.1,hh.2.1⟩).1,(A.1.1 ⟨hh.1,hh.2.1⟩).2,hh.2.2⟩)]at g;rw[iL,g]
   (try simp only[RN,z]);refine abj rfl (by simp) j hd ?_
   by_cases v:(c:Int)>=48
   case neg=>
    simp only[v,RN,z];exact wR (fun h=>by cases h) (fun _ d b=>⟨e (bad (by omega)),b⟩)
   by_cases Q:(c:Int)<=57
   case neg=>
    simp only[v,Q,RN,z];exact wR (fun h=>by cases h) (fun _ d b=>⟨e (bad (by omega)),b⟩)
   by_cases T:(w.size:Int)<=4
   case neg=>
    simp only[v,Q,T,RN,z];exact wR (fun h=>by cases h) (fun _ d b=>⟨e (bad (by omega)),b⟩)
   simp only[v,Q,T,RN,z];refine wR (fun _=> ?_) (fun h=>by cases h);obtain⟨hc,rfl⟩:=A.2 (by omega);rw[if_pos ⟨by omega,by omega,by omega⟩,<-hc]at g;have O:(10:Int) ^ pos<=1000:=by
    rcases pos with _| _| _| _|pos
    ·decide
    ·decide
    ·decide
    ·decide
    ·omega
   have R:dC .i64 (10*n)=10*n:=aB (by omega);have w2:IntKind.i32.wrap ((c:Int) - 48)=(c:Int) - 48:=by
    obtain⟨m,hm⟩:∃m:Nat,(c:Int) - 48=m:=bp (by omega)
    have G:m<10:=by omega
    rw[hm];exact(by decide:∀m<10,IntKind.i32.wrap ((m:Nat):Int)=m) m G
   have w3:dC .i64 ((c:Int) - 48)=(c:Int) - 48:=aB (by omega);have w4:dC .i64 (10*n+((c:Int) - 48))=10*n+((c:Int) - 48):=aB (by omega);simp only[R,w2,w3,w4];refine MG (a:=(pos,n)) (μ:=fun q=>w.size - q.1) (pos+1,10*n+((c:Int) - 48)) (by simp only;omega) rfl ⟨by simp only;omega,?_,by simp only;omega,?_,fun _=>by omega⟩ (by simp) (by simp) rfl rfl
   ·simp only
    rw[g,show w.size - (pos+1)=k by omega]
   ·simp only[dp];omega
  ·have L:pos=w.size:=by omega
   rw[L,cB,wV]at g;(try simp only[RN,z]);refine YE rfl (by simp) j ?_;have r:(w.toList==(⟨#[]⟩:ByteArray).toList)=decide (w.size=0):=by
    rw[Go.Lib.toList_data,Go.Lib.toList_data,<-size_data];cases w.data.toList<;>simp
   by_cases u:w.size=0
   ·rw[decide_eq_true u]at r
    simp only[fE,Mc,r,RN,z,J];exact wR (fun h=>by cases h) (fun _ d b=>⟨e (by rw[iL,g];simp[u]),b⟩)
   ·rw[decide_eq_false u]at r
    have am:w.size<=4:=U (by omega);have O:(10:Int) ^ pos<=10000:=by
     rcases pos with _| _| _| _| _|pos
     ·decide
     ·decide
     ·decide
     ·decide
     ·decide
     ·omega
    simp only[fE,Mc,r,RN,z,J];refine eH rfl rfl (IE ⟨by omega,by omega⟩) ?_
    by_cases t:(dS n).data.toList=w.data.toList
    ·have e1:((dS n).toList==w.toList)=true:=by rw[Go.Lib.toList_data,Go.Lib.toList_data];exact beq_iff_eq.2 t
     have H:iL w=some n:=by rw[iL,g];simp only;rw[if_pos ⟨u,t⟩]
     rw[H]at r1;simp only[fE,yI,e1];refine wR (fun _=> ?_) (fun h=>by cases h);simp only[fits_int,forall_eq,DV.strip,jC,ae,RN,I,N];refine⟨by simp,by omega,?_⟩;simp only[X];refine fF 0 2 (f++ [n],ver+1) s ?_ ⟨r1,by simp[r2]⟩ (by simp) (by simp) rfl rfl;simp only[a7,Y,bt,aH];rfl
    ·have e1:((dS n).toList==w.toList)=false:=by rw[Go.Lib.toList_data,Go.Lib.toList_data];exact beq_eq_false_iff_ne.2 t
     simp only[fE,yI,e1];exact wR (fun h=>by cases h) (fun _ d b=>⟨e (by rw[iL,g];simp only;rw[if_neg (fun hh=>t hh.2)]),b⟩)
 ·obtain⟨f,ver⟩:=q
  obtain⟨r1,r2⟩:=p;simp only at r1 r2;rw[c8,jg]at r1;simp only[cp,bI,dP,b5,RN,z];exact⟨.tup [dI ix,sF (f.map au)],by simp[datum,cu,dW,Mem.row],ix,f,by rw[adK,r1],rfl⟩
def bU (line:ByteArray):En×Int:=
 if line.size>60 then(⟨0,[]⟩,3)else match kV line fmL with
  |some (a,ns)=>(⟨1+a,ns⟩,0)
  |none=>(⟨0,[]⟩,4)
def iO (line:ByteArray):Qn×Int:=match kV line amL with
 |some (a,ns)=>(⟨1+a,ns⟩,0)
 |none=>(⟨0,[]⟩,4)
def A8 (k:Int)(ns:List Int)(e:Int):DV:= .tup [.agg [dI k, .slice (decide (e≠0)) (ns.map au)],dI e]
variable{fm:List (ByteArray×Nat)}{a:Int}{ns:List Int}
def aap {line:ByteArray}(h:kV line fm=some (a,ns)):0<=a/\a<=fm.length:=by
 unfold kV at h
 split at h
 ·rename_i b
  have c:=(Xd (jQ ((dJ line 32).getD 0 default) ((dJ line 32).length - 1)) fm 0).2
  split at h
  ·cases h;omega
  ·cases h
 ·cases h
def afg {line:ByteArray}(n:line.size<=1000000){bs:List (Option (List PV))}{fz:List Nat}{ar:List (Option Arr)}(b:FzB ⟨bs,fz,ar⟩){xb:Nat}{j l:PV}(hx:bs[xb]?=some (some [j,l]))(f:xb∉fz):
  SC C 125 [.d (.aV [.str line]), .ptr xb 0] ⟨bs,fz,ar⟩
   (fun _ M'=>∃a ns y,kV line fmL=some (a,ns)/\M'=⟨bs.set xb (some [pI (1+a), .d (sF (ns.map au))])++ [y],bs.length::fz,ar⟩)
   (fun d M'=>kV line fmL=none/\Qv d/\∃y,M'=⟨bs++ [y],bs.length::fz,ar⟩):=by
 have c:bs.length∉fz:=fun e=>bl _ (b _ e)
 have g:xb<bs.length:=(ai.1 hx).1;have apZ:∀k,xb<bs.length+k:=fun k=>by omega
 have i:¬xb=bs.length:=by omega
 refine aC vM gW ?_;simp only[vM,gW,RN,z,F];refine ak W9 ?_;rw[ac4];simp only[aY,bQ,c,V,WU,RN,z,F,I,N];refine⟨(fun h=>by cases h),?_⟩
 show SC C 126 [.d (.str line), .d (.slice true (fmL.map abp))] _ _ _
 refine adL n fmL (by decide) true (fun a ns h=> ?_) (fun h d hd=> ?_)
 ·have p:=aap h
  have m:(fmL:List (ByteArray×Nat)).length<=12:=by decide
  have o:dC .i64 (1+a)=1+a:=aB (by omega);simp only[o,cZ,g,hx,rV,f,i,ao,GI,RN,z,F,N];exact⟨a,ns,_,h,rfl⟩
 ·exact⟨h,hd,_,rfl⟩
def afm {line:ByteArray}(n:line.size<=1000000){bs:List (Option (List PV))}{fz:List Nat}{ar:List (Option Arr)}(b:FzB ⟨bs,fz,ar⟩){xb:Nat}{j l:PV}(hx:bs[xb]?=some (some [j,l]))(f:xb∉fz):
  SC C 274 [.d (.aV [.str line]), .ptr xb 0] ⟨bs,fz,ar⟩
   (fun _ M'=>∃a ns y,kV line amL=some (a,ns)/\M'=⟨bs.set xb (some [pI (1+a), .d (sF (ns.map au))])++ [y],bs.length::fz,ar⟩)
   (fun d M'=>kV line amL=none/\Qv d/\∃y,M'=⟨bs++ [y],bs.length::fz,ar⟩):=by
 have c:bs.length∉fz:=fun e=>bl _ (b _ e)
 have g:xb<bs.length:=(ai.1 hx).1;have apZ:∀k,xb<bs.length+k:=fun k=>by omega
 have i:¬xb=bs.length:=by omega
 refine aC qZ gW ?_;simp only[qZ,gW,RN,z,F];refine ak agl ?_;rw[ac3];simp only[aY,bQ,c,V,WU,RN,z,F,I,N];refine⟨(fun h=>by cases h),?_⟩
 show SC C 126 [.d (.str line), .d (.slice true (amL.map abp))] _ _ _
 refine adL n amL (by decide) true (fun a ns h=> ?_) (fun h d hd=> ?_)
 ·have p:=aap h
  have m:(amL:List (ByteArray×Nat)).length<=12:=by decide
  have o:dC .i64 (1+a)=1+a:=aB (by omega);simp only[o,cZ,g,hx,rV,f,i,ao,GI,RN,z,F,N];exact⟨a,ns,_,h,rfl⟩
 ·exact⟨h,hd,_,rfl⟩
def acP (line:ByteArray):Pure C 44 [.str line] (.d (A8 (bU line).1.kind (bU line).1.ns (bU line).2)) []:=by
 refine ah xY NH ?_;simp only[xY,NH,RN,z,F,N]
 by_cases f:line.size>60
 ·have e:decide ((line.size:Int)>60)=true:=by simp;omega
  have c:bU line=(⟨0,[]⟩,3):=by rw[bU,if_pos f]
  simp only[e,c,A8,RN,z,F,I,N]
  rfl
 ·have e:decide ((line.size:Int)>60)=false:=by simp;omega
  simp only[e,nU,b5,RN,z,F];have z0:((0:Int) !=0)=false:=rfl;have j:((4:Int) !=0)=true:=rfl;refine Qk (fs:=[]) (cs:=[.d (.aV [.str line]), .ptr 2 0]) (fun i b=>by simp at b;simp[b]) (by kernel_rfl) ?_;refine SC.jG (SC.mono (afg (line:=line) (by omega) (fun i b=>by simp at b;simp[b]) (xb:=2) rfl (by simp)) ?_) ?_
  ·rintro v g ⟨a,ns,y,h,rfl⟩
   have c:bU line=(⟨1+a,ns⟩,0):=by rw[bU,if_neg f,h]
   refine⟨rfl,by simp,?_⟩;simp only[z0,c,A8,ao,bB,RN,z,F,I,N];simp
  ·rintro d g ⟨h,hd,y,rfl⟩
   have c:bU line=(⟨0,[]⟩,4):=by rw[bU,if_neg f,h]
   refine⟨rfl,by simp,by simp, .inr ⟨hd,fun x=> ?_⟩⟩;simp only[j,c,A8,ao,bB,RN,z,F,I,N]
   rfl
def ab7 (line:ByteArray)(hl:line.size<=1000000):Pure C 214 [.str line] (.d (A8 (iO line).1.kind (iO line).1.ns (iO line).2)) []:=by
 refine ah uD NH ?_;simp only[uD,NH,nU,b5,RN,z,F];refine Qk (fs:=[]) (cs:=[.d (.aV [.str line]), .ptr 2 0]) (fun i b=>by simp at b;simp[b]) (by kernel_rfl) ?_;refine SC.jG (SC.mono (afm (line:=line) hl (fun i b=>by simp at b;simp[b]) (xb:=2) rfl (by simp)) ?_) ?_
 ·rintro v e ⟨a,ns,y,h,rfl⟩
  have c:iO line=(⟨1+a,ns⟩,0):=by rw[iO,h]
  refine⟨rfl,by simp,?_⟩;simp only[c,A8,ao,bB,RN,F,I,N];simp
 ·rintro d e ⟨h,hd,y,rfl⟩
  have c:iO line=(⟨0,[]⟩,4):=by rw[iO,h]
  refine⟨rfl,by simp,by simp, .inr ⟨hd,fun x=> ?_⟩⟩;simp only[c,A8,ao,bB,RN,F,I,N]
  rfl
def Zg (w:ByteArray):∀(k pos:Nat) (n m:Int),wV w k pos n=some m->0<=n->n<10 ^ pos->(0<=m/\m<10 ^ (pos+k))/\(0<k->w.size<=4)
 |0,pos,n,m,h,a,h1=>by cases h;exact⟨⟨a,h1⟩,fun h=>by omega⟩
 |k+1,pos,n,m,h,a,h1=>by
  rw[wV]at h
  split at h
  ·rename_i b
   have c:(10:Int) ^ (pos+1)=10*10 ^ pos:=by rw[dp];omega
   have:=Zg w k (pos+1) _ m h (by omega) (by rw[c];omega);exact⟨by rw[show pos+(k+1)=pos+1+k by omega];exact this.1,fun _=>b.2.2⟩
  ·cases h
def abV {w:ByteArray}{n:Int}(h:iL w=some n):0<=n/\n<=9999:=by
 unfold iL at h;cases h1:wV w w.size 0 0 with
 |none=>rw[h1]at h;cases h
 |some m=>
  rw[h1]at h;simp only at h
  split at h
  ·rename_i a
   cases h;obtain⟨⟨d,e⟩,b⟩:=Zg w w.size 0 0 _ h1 (by decide) (by decide);have c:=b (by have:=a.1;omega);have:(10:Int) ^ (0+w.size)<=10000:=by
    obtain h|h|h|h|h:w.size=0\/w.size=1\/w.size=2\/w.size=3\/w.size=4:=by omega
    all_goals rw[h];decide
   omega
  ·cases h
def VA:∀(l:List ByteArray) (a ns:List Int),jg l a=some ns->(∀n∈a,0<=n/\n<=9999)->∀n∈ns,0<=n/\n<=9999
 | [],a,ns,h,c=>by cases h;exact c
 |x::l,a,ns,h,c=>by
  rw[jg]at h;cases d:iL x with
  |none=>rw[d]at h;cases h
  |some m=>
   rw[d]at h;refine VA l _ ns h fun n b=> ?_
   rcases a8.1 b with b|b
   ·exact c n b
   ·simp only[az]at b;rw[b];exact abV d
def ajb {line:ByteArray}(h:kV line fm=some (a,ns)):∀n∈ns,0<=n/\n<=9999:=by
 unfold kV at h
 split at h
 ·split at h
  ·rename_i l b
   cases h;exact VA _ _ _ b (by simp)
  ·cases h
 ·cases h
def aeF:ByteArray:=⟨#[101,114,114,111,114,32]⟩
def ahN:ByteArray:=⟨#[110,111,116,101,100]⟩
def Zf:ByteArray:=⟨#[110,111,116,104,105,110,103]⟩
def anp (n:Int):Bool:=decide (-9223372036854775808<=n)&&decide (n<=9223372036854775807)
def Dk.said (D:Dk)(line:ByteArray):Option (Dk×ByteArray):=
 if(bU line).2=0 then(if(D.enter (bU line).1).2=0 then some ((D.enter (bU line).1).1,ahN)else some ((D.enter (bU line).1).1,aeF++dS (D.enter (bU line).1).2))
 else if(bU line).2=3 then some (D,aeF++dS 3)
 else if(iO line).2=0 then
  (if(D.ask (iO line).1).2≠0 then some (D,aeF++dS (D.ask (iO line).1).2)
  else if(D.ask (iO line).1).1=[]then some (D,Zf)
  else if(D.ask (iO line).1).1.all anp&&decide ((D.ask (iO line).1).1.length<=1000)then some (D,GL (D.ask (iO line).1).1)else none)
 else some (D,aeF++dS (iO line).2)
def Vg (D:Dk)(x:En):0<=(D.enter x).2/\(D.enter x).2<=7:=by
 unfold Dk.enter
 repeat' split
 all_goals simp
def agG (d:Dvd)(n:Int):0<=(d.cuts n).2/\(d.cuts n).2<=7:=by
 unfold Dvd.cuts
 split
 ·split<;>simp
 ·simp
def VN (line:ByteArray):0<=(iO line).2/\(iO line).2<=7:=by
 unfold iO;split<;>simp
def afh (line:ByteArray):0<=(bU line).2/\(bU line).2<=7:=by
 unfold bU;split
 ·simp
 ·split<;>simp
def afX (p:Pc)(h:Int)(f:Fr)(n:Int):0<=(sK p h f n).2/\(sK p h f n).2<=7:=by
 unfold sK abY
 repeat' split
 all_goals simp
def Yo (p:Pc)(a b h:Int)(f:Fr):0<=(p.changes a b h f).2/\(p.changes a b h f).2<=7:=by
 have pr:∀(l:List Chg) (n:Int),0<=n/\n<=7->0<=(l,n).2/\(l,n).2<=7:=fun _ _ h=>h
 unfold Pc.changes
 split
 ·split
  ·exact pr _ 0 (by decide)
  split
  ·exact pr _ 0 (by decide)
  split
  ·exact pr _ 0 (by decide)
  ·exact pr _ 5 (by decide)
 ·exact pr _ 2 (by decide)
def ahJ (D:Dk)(t:Sp)(a b c:Int):0<=(nK D t a b c).2/\(nK D t a b c).2<=7:=by
 unfold nK
 split
 ·split
  ·simp
  ·exact Yo _ _ _ _ _
 ·simp
def af2 (r:List Int×Int):Prop:=0<=r.2/\r.2<=7
variable{c:Prop}
def oq [Decidable c]{a b:List Int×Int}(d:af2 a)(hb:af2 b):af2 (if c then a else b):=by
 by_cases h:c
 ·rw[if_pos h];exact d
 ·rw[if_neg h];exact hb
def yT (l:List Int){n:Int}(h:0<=n/\n<=7):af2 (l,n):=h
def ajO [Decidable c]{b:Int}(d:0<=a/\a<=7)(hb:0<=b/\b<=7):0<=(if c then a else b)/\(if c then a else b)<=7:=by
 by_cases h:c
 ·rw[if_pos h];exact d
 ·rw[if_neg h];exact hb
def Qx (D:Dk)(t:Sp)(q:Qn):0<=(D.answer t q).2/\(D.answer t q).2<=7:=by
 refine(?_:af2 (D.answer t q));unfold Dk.answer;refine oq (yT _ (by decide)) ?_;refine oq (yT _ (by decide)) ?_;refine oq (yT _ (by decide)) ?_;refine oq (yT _ (ajO (by decide) (by decide))) ?_;refine oq (ahJ _ _ _ _ _) ?_;refine oq (yT _ (ajO (afX _ _ _ _) (by decide))) ?_;refine oq (yT _ (by decide)) ?_;refine oq (yT _ (ajO ?_ (by decide))) ?_
 ·generalize lX _ _ _=o
  cases o with
  |none=>exact(by decide:(0:Int)<=5/\(5:Int)<=7)
  |some x=>exact(by decide:(0:Int)<=0/\(0:Int)<=7)
 refine oq (yT _ (ajO (by decide) (by decide))) ?_;refine oq (yT _ (agG _ _)) ?_;exact oq (yT _ (by decide)) (yT _ (by decide))
def acT (D:Dk)(q:Qn):0<=(D.ask q).2/\(D.ask q).2<=7:=by
 unfold Dk.ask
 split
 ·simp
 split
 ·simp
 split
 ·simp
 ·split
  ·exact Qx _ _ _
  ·exact Qx _ _ _
variable{D D':Dk}
def alm {line s:ByteArray}(a:D.Ok)(h:D.said line=some (D',s)):D'.Ok:=by
 unfold Dk.said at h
 repeat' split at h
 all_goals first|(cases h;done)|(cases h;first|exact QS a _|exact a)
def afz {line s:ByteArray}(h:D.said line=some (D',s)):s.size<=30000:=by
 have e1:aeF.size=6:=rfl;have e2:ahN.size=5:=rfl;have d:Zf.size=7:=rfl;have a:∀n:Int,0<=n/\n<=7->(aeF++dS n).size<=30000:=fun n c=>by
  have:=yZ (n:=n) ⟨by omega,by omega⟩;rw[bw];omega
 unfold Dk.said at h
 split at h
 ·split at h
  ·cases h;omega
  ·cases h;exact a _ (Vg _ _)
 split at h
 ·cases h;exact a 3 (by decide)
 split at h
 ·split at h
  ·cases h;exact a _ (acT _ _)
  split at h
  ·cases h;omega
  split at h
  ·rename_i b
   cases h;simp only[U,aE,decide_eq_true_eq,anp]at b;have:=JU (ns:=(D.ask (iO line).1).1) (fun n c=>b.1 n c);omega
  ·cases h
 ·cases h;exact a _ (VN _)
def adZ {d:Nat}{ce cs:PV}(h:lQ D d ce cs M)(I:D.Ok){line s:ByteArray}(hl:line.size<=1000000)(hs:D.said line=some (D',s)){KP:DV->Mem->Prop}:
  SC C 117 [.ptr d 0, .d (.str line)] M (fun p M'=>p= .d (.str s)/\∃ce' cs',lQ D' d ce' cs' M'/\FrD d ce cs ce' cs' M M'/\FzB M') KP:=by
 obtain⟨bs,fz,ar⟩:=M;have E8:∀i∈fz,i<bs.length:=h.fzb
 have Y:bs.length∉fz:=fun e=>bl _ (E8 _ e)
 have Z:∀k,bs.length+k∉fz:=fun k e=>by have:=E8 _ e;omega
 have ai:¬bs.length+1=bs.length:=by omega
 have J:=afh line;have K:=VN line;have g:∀n:Int,0<=n/\n<=7->I64 n:=fun n hn=>⟨by omega,by omega⟩
 have q:∀n:Int,0<=n/\n<=7->(dS n).size<=21:=fun n hn=>yZ (g n hn)
 have e1:(⟨#[101,114,114,111,114,32]⟩:ByteArray).size=6:=rfl;refine aC pX aI ?_;simp only[pX,aI,RN,z,F];refine ak (acP line) ?_;simp only[A8,aY,bQ,Y,V,RN,z,F,N];unfold Dk.said at hs
 by_cases E:(bU line).2=0
 ·rw[if_pos E]at hs
  have L:((bU line).2==0)=true:=by simp[E]
  have hd:decide ((bU line).2≠0)=false:=by simp[E]
  have A:Frm ⟨bs,fz,ar⟩ ⟨bs++ [some [pI ((bU line).1.kind), .d (sF ((bU line).1.ns.map au))]],bs.length::fz,ar⟩:=Frm.new (xf:=[bs.length]) (by simp);have H:=Vg D (bU line).1;have hE:=XZ (h.frm A) I (bU line).1 (KP:=KP);rw[dA]at hE;simp only[L,hd,RN,z,F,N];refine SC.jG (SC.mono hE ?_) (fun _ _ h=>h);rintro p ⟨R,S,Q⟩ ⟨rfl,ce',cs',P,q2⟩;have b:=A.frD (d:=d) (ce:=ce) (cs:=cs)|>.trans q2
  by_cases t:(D.enter (bU line).1).2=0
  ·rw[if_pos t]at hs
   have u:((D.enter (bU line).1).2==0)=true:=by simp[t]
   cases hs;simp only[u,RN,z];exact⟨rfl,ce',cs',P,b,P.fzb⟩
  ·rw[if_neg t]at hs
   have u:((D.enter (bU line).1).2==0)=false:=by simp[t]
   have:=q _ H;cases hs;simp only[u,RN,z];refine ak (IE (g _ H)) ?_;simp only[fE,kZ];exact⟨by omega,rfl,ce',cs',P,b,P.fzb⟩
 rw[if_neg E]at hs;have L:((bU line).2==0)=false:=by simp[E]
 have hd:decide ((bU line).2≠0)=true:=by simp[E]
 have A:∀x,Frm ⟨bs,fz,ar⟩ ⟨bs++ [x],bs.length::fz,ar⟩:=fun x=>Frm.new (xf:=[bs.length]) (by simp)
 by_cases G:(bU line).2=3
 ·rw[if_pos G]at hs
  have v:((bU line).2==3)=true:=by simp[G]
  have:=q _ J;rw[<-G]at hs;cases hs;simp only[L,v,RN,z];refine ak (IE (g _ J)) ?_;simp only[fE,kZ];exact⟨by omega,rfl,ce,cs,h.frm (A _),(A _).frD,(A _).fzb h.fzb⟩
 rw[if_neg G]at hs;have v:((bU line).2==3)=false:=by simp[G]
 simp only[L,v,RN,z];refine ak (ab7 line hl) ?_;simp only[A8,jL,mD,Z,ai,bi,V,RN,z,F,N];have j:∀x y,Frm ⟨bs,fz,ar⟩ ⟨bs++ [x,y],(bs.length+1)::bs.length::fz,ar⟩:=fun x y=>Frm.new (xf:=[bs.length+1,bs.length]) (by simp)
 by_cases B:(iO line).2=0
 case neg=>
  rw[if_neg B]at hs;have w:((iO line).2==0)=false:=by simp[B]
  have ac:((iO line).2 !=0)=true:=by simp[B]
  have:=q _ K;cases hs;simp only[w,ac,RN,z];refine ak (IE (g _ K)) ?_;simp only[fE,kZ];exact⟨by omega,rfl,ce,cs,h.frm (j _ _),(j _ _).frD,(j _ _).fzb h.fzb⟩
 rw[if_pos B]at hs;have w:((iO line).2==0)=true:=by simp[B]
 have ab:decide ((iO line).2≠0)=false:=by simp[B]
 have o:=acT D (iO line).1;have hA:=afY (h.frm (j (some [pI ((bU line).1.kind), .d (.slice (decide ((bU line).2≠0)) ((bU line).1.ns.map au))]) (some [pI ((iO line).1.kind), .d (sF ((iO line).1.ns.map au))]))) I (iO line).1 (KP:=KP);rw[QO]at hA;simp only[w,ab,RN,z,F,N];refine SC.jG (SC.mono hA ?_) (fun _ _ h=>h);rintro p ⟨R,S,Q⟩ ⟨c,hp,O,am,q2⟩;have b:=(j _ _).trans q2;generalize D.ask (iO line).1=r at*;obtain⟨l,e⟩:=r;simp only at hs hp O o
 by_cases T:e=0
 case neg=>
  rw[if_pos T]at hs;have m:(e !=0)=true:=by simp[T]
  have:=q _ o;cases hs
  rcases hp with rfl|⟨rfl,rfl⟩
  ·simp only[qL,qM,m,RN,z]
   refine ak (IE (g _ o)) ?_;simp only[fE,kZ];exact⟨by omega,rfl,ce,cs,h.frm b,b.frD,b.fzb h.fzb⟩
  ·simp only[m,RN,z]
   refine ak (IE (g _ o)) ?_;simp only[fE,kZ];exact⟨by omega,rfl,ce,cs,h.frm b,b.frD,b.fzb h.fzb⟩
 subst T;have m:((0:Int) !=0)=false:=rfl;rw[if_neg (by simp)]at hs;have aoF:(((0:Nat):Int)==0)=true:=rfl
 rcases hp with rfl|⟨rfl,rfl⟩
 case inr=>
  have f:l=[]:=by
   rcases O with⟨_,h1⟩|⟨k,ver,st,h1,_⟩
   ·exact b8.1 h1
   ·cases h1
  subst f;rw[if_pos rfl]at hs;cases hs;simp only[m,aoF,RN,z];exact⟨rfl,ce,cs,h.frm b,b.frD,b.fzb h.fzb⟩
 simp only[qL,qM,m,Qp O,ae,RN,z]
 by_cases f:l=[]
 ·rw[if_pos f]at hs
  cases hs;simp only[f,ap,aoF,RN,z];exact⟨rfl,ce,cs,h.frm b,b.frD,b.fzb h.fzb⟩
 rw[if_neg f]at hs;have X:((l.length:Int)==0)=false:=by cases l with|nil=>exact absurd rfl f|cons a l=>simp;omega
 split at hs
 case isFalse=>cases hs
 rename_i W
 simp only[U,aE,decide_eq_true_eq,anp]at W;cases hs
 rcases O with⟨_,h1⟩|⟨k,ver,st,rfl,h1,_⟩
 ·exact absurd (b8.1 h1) f
 simp only[X,RN,z];refine Qa h1 (by simpa only[aD]using YX l W.2 W.1) rfl ?_;(try simp only[RN]);exact⟨ce,cs,h.frm b,b.frD,b.fzb h.fzb⟩
end Go.Tel
namespace Go.Am
section
variable {C:Ctx}{base:Nat}{M:Mem}{K:PV->Mem->Prop}{KP:DV->Mem->Prop}
variable{s:ByteArray}
def I4 {k:IntKind}{n:Int}(a:0<=n)(h1:n<=s.size):ay C base (.EG false true) [.d (.str s), .d (.int k n)] M K KP=K (.d (.str (s.extract 0 n.toNat))) M:=by
 simp only[ay,wM,eU,bd,cv];exact propext ⟨fun h=>h.2.2.2.2.2,fun h=>⟨trivial,trivial,cH _,a,h1,h⟩⟩
def I5 {k:IntKind}{n:Int}(a:0<=n)(h1:n<=s.size):ay C base (.EG true false) [.d (.str s), .d (.int k n)] M K KP=K (.d (.str (s.extract n.toNat s.size))) M:=by
 simp only[ay,wM,eU,bd,cv,aq];exact propext ⟨fun h=>h.2.2.2.2.2,fun h=>⟨trivial,trivial,a,h1,cH _,h⟩⟩
end
end Go.Am
namespace Go.Tel
open Go.Am
def X6 (s:ByteArray):Pure C 212 [.str s, .int .u8 10] (pI (Go.Lib.indexByte s.data.toList 10)) []:=by
 refine rH fun X w a d f c=> ?_
 cases c with|cons h1 t1=>
 cases t1 with|cons b t2=>
 cases t2;cases h1;cases b;refine(Go.Proofs.Any.strings_IndexByte Go.Proofs.Tryz.laysIndexB s 10 w).mono ?_;rintro e g ⟨rfl,rfl⟩;exact⟨_,rfl,Later.refl _, .int _ _⟩
def lC (s:ByteArray):Bool:=decide (1<=s.size)&&((s.extract (s.size - 1) s.size).toList==(⟨#[10]⟩:ByteArray).toList)
def bT (s:ByteArray):ByteArray:=if lC s then s.extract 0 (s.size - 1)else s
def Qo:(⟨#[10]⟩:ByteArray).size=1:=rfl
variable{s:ByteArray}
def Rk (hs:s.size<=1000000):Pure C 210 [.str s, .str ⟨#[10]⟩] (.d (.bool (lC s))) []:=by
 refine ah kR aI ?_;have b:dC .i64 ((s.size:Int) - ((1:Nat):Int))=(s.size:Int) - 1:=by rw[aB (by omega)];omega
 unfold lC
 by_cases h:1<=s.size
 ·have a:decide (((1:Nat):Int)<=(s.size:Int))=true:=by simp;omega
  have hd:decide (1<=s.size)=true:=by simp[h]
  have c:(0:Int)<=(s.size:Int) - 1:=by omega
  have e:(s.size:Int) - 1<=(s.size:Int):=by omega
  have f:((s.size:Int) - 1).toNat=s.size - 1:=by omega
  simp only[kR,aI,Qo,a,hd,b,I5 c e,f,fE,yI,bk,RN,z,F]
 ·have a:decide (((1:Nat):Int)<=(s.size:Int))=false:=by simp;omega
  have hd:decide (1<=s.size)=false:=by simp[h]
  simp only[kR,aI,Qo,a,hd,cb,RN,z,F]
def ahb (hs:s.size<=1000000):Pure C 115 [.str s, .str ⟨#[10]⟩] (.d (.bool (lC s))) []:=by
 refine ah xA aI ?_;simp only[xA,aI,RN,z,F];refine ak (Rk hs) ?_;(try simp only[])
def afP (hs:s.size<=1000000):Pure C 215 [.str s, .str ⟨#[10]⟩] (.d (.str (bT s))) []:=by
 refine ah qp aI ?_;simp only[qp,aI,RN,z,F];refine ak (Rk hs) ?_;have a:dC .i64 ((s.size:Int) - ((1:Nat):Int))=(s.size:Int) - 1:=by rw[aB (by omega)];omega
 unfold bT;cases h:lC s
 ·(try simp only[RN,z])
  simp
 ·have:1<=s.size:=by unfold lC at h;simp only[U,decide_eq_true_eq]at h;exact h.1
  have b:(0:Int)<=(s.size:Int) - 1:=by omega
  have c:(s.size:Int) - 1<=(s.size:Int):=by omega
  have e:((s.size:Int) - 1).toNat=s.size - 1:=by omega
  simp only[Qo,a,I4 b c,e,RN,z];simp
def afO (hs:s.size<=1000000):Pure C 118 [.str s, .str ⟨#[10]⟩] (.d (.str (bT s))) []:=by
 refine ah vS aI ?_;simp only[vS,aI,RN,z,F];refine ak (afP hs) ?_;(try simp only[])
def uo:List UInt8->List (List UInt8)
 | []=>[]
 |b::l=>if b==10 then[b]::uo l else match uo l with| []=>[[b]]|x::a=>(b::x)::a
def RJ:∀(l:List UInt8),(Go.Lib.indexByte l 10= -1/\(l=[]\/uo l=[l]))\/∃i:Nat,Go.Lib.indexByte l 10=(i:Int)/\i<l.length/\uo l=l.take (i+1)::uo (l.drop (i+1))
 | []=> .inl ⟨rfl, .inl rfl⟩
 |b::l=>by
  rw[Go.Lib.indexByte,uo]
  by_cases a:(b==10)=true
  ·rw[if_pos a,if_pos a]
   exact .inr ⟨0,rfl,by simp,rfl⟩
  rw[if_neg a,if_neg a]
  rcases RJ l with⟨h1,h2⟩|⟨i,h1,h2,c⟩
  ·refine .inl ⟨by simp[h1], .inr ?_⟩
   rcases h2 with rfl|h2
   ·rfl
   ·rw[h2]
  ·refine .inr ⟨i+1,?_,by simpa using h2,by rw[c];simp⟩
   rw[if_neg (by rw[h1];simp),h1];omega
def eP (s:ByteArray):List ByteArray:=(uo s.data.toList).map fun l=>⟨l.toArray⟩
def l7 (s:ByteArray):List DV:=[.str s]
def abK (s:ByteArray)(hs:0<s.size):(Go.Lib.indexByte s.data.toList 10= -1/\eP s=[s])\/∃i:Nat,Go.Lib.indexByte s.data.toList 10=(i:Int)/\i<s.size/\eP s=s.extract 0 (i+1)::eP (s.extract (i+1) s.size):=by
 have a:s.data.toList.length=s.size:=bo
 rcases RJ s.data.toList with⟨h1,h2⟩|⟨i,h1,h2,b⟩
 ·refine .inl ⟨h1,?_⟩
  rcases h2 with h2|h2
  ·rw[h2]at a;simp at a;omega
  ·unfold eP;rw[h2];simp
 ·refine .inr ⟨i,h1,by omega,?_⟩
  unfold eP;rw[b,Y];have e1:(s.extract 0 (i+1)).data.toList=s.data.toList.take (i+1):=by simp[cw]
  have e2:(s.extract (i+1) s.size).data.toList=s.data.toList.drop (i+1):=by
   simp only[cw,Array.toList_extract,List.extract_eq_take_drop,<-a];rw[cA (by simp)]
  rw[e2,<-e1]
def al9 (s:ByteArray)(c:Nat)(M:Mem):Prop:=M.boxes[c]?=some (some [.d (.str s)])/\c∉M.fz
def Qu (s:ByteArray)(c:Nat)(hs:s.size<=1000000):UY C 211 [] [.ptr c 0] ((eP s).map l7) (·=c) (·=c) no (al9 s c):=by
 rintro⟨bs,fz,ar⟩ b n R stop K KP ab ac Z D O M lZ y f B;simp only at Z D;obtain⟨Y,A⟩:=O;simp only at Y A;refine aC zF gW ?_;simp only[zF,gW,RN,F];refine zH (fun m st=>∃(t:ByteArray) (a:List (List DV)) (x:Mem) (U:List (Nat×PV)),m=t.size/\t.size<=s.size/\st=⟨(0, .pV b)::(1, .ptr c 0)::U,x⟩/\n<=x.boxes.length/\FzB x/\al9 t c x/\(eP s).map l7=a++(eP t).map l7/\R a x)
  s.size ⟨s,[],_,[],rfl,aL _,rfl,Z,D,⟨Y,A⟩,rfl,y⟩ ?_
 rintro m st ⟨t,a,⟨g,r,q⟩,U,rfl,ht,rfl,u,E,⟨e,akh⟩,k,X⟩;simp only at u e akh;have j:c<g.length:=(ai.1 e).1
 by_cases y:0<t.size
 case neg=>
  have I:decide ((t.size:Int)>0)=false:=decide_eq_false (by omega);simp only[e,I,RN,z,N];refine B _ _ u ?_;have:t.data.toList=[]:=List.length_eq_zero_iff.1 (by have:t.data.toList.length=t.size:=bo;omega);have e0:eP t=[]:=by unfold eP;rw[this];rfl
  rw[k,e0,bt,bE];exact X
 have I:decide ((t.size:Int)>0)=true:=decide_eq_true (by omega);have ac6:∀(l o:ByteArray),eP t=l::eP o->o.size<t.size->SY C b [.d (.str l)] ⟨g.set c (some [.d (.str o)]),r,q⟩
   (fun p w=>n<=w.boxes.length/\FzB w/\al9 o c w/\((p= .d (.bool true)/\(eP s).map l7=(a++ [l7 l])++(eP o).map l7/\R (a++ [l7 l]) w)\/(p= .d (.bool false)/\stop w))) KP:=by
  intro l o hl ae;have apM:Moved n (·=c) ⟨g,r,q⟩ ⟨g.set c (some [.d (.str o)]),r,q⟩:=Moved.set (.inr rfl);have alV:(eP s).map l7=a++l7 l::(eP o).map l7:=by rw[k,hl];rfl
  refine SY.mono (lZ a (l7 l) _ _ alV (by simpa using u) (M a _ _ apM X)) ?_;rintro p G ⟨H,hp⟩;have L:=H.len;simp only[cD]at L;refine⟨by omega,H.fzb E.set,⟨?_,?_⟩,?_⟩
  ·rw[H.box c (.inr rfl) (by simpa using j)];simp[j]
  ·exact fun h=>akh ((H.fz c (.inr rfl) (by simpa using j)).1 h)
  ·rcases hp with⟨rfl,h⟩|h
   ·exact .inl ⟨rfl,by rw[alV,bi];rfl,h⟩
   ·exact .inr h
 simp only[e,I,RN,z,N];refine ak (X6 t) ?_
 rcases abK t y with⟨V,W⟩|⟨i,V,W,g3⟩
 ·have J:decide (Go.Lib.indexByte t.data.toList 10>=0)=false:=decide_eq_false (by omega)
  simp only[e,J,akh,RN,z,N];refine Bv ?_;refine SY.mono (ac6 t ⟨#[]⟩ (by rw[W];rfl) y) ?_;rintro p G ⟨P,Q,S,⟨rfl,v,T⟩|⟨rfl,v⟩⟩
  ·(try simp only[RN,z])
   exact⟨0,_,y, .inl rfl,⟨#[]⟩,_,G,_,rfl,br _,rfl,P,Q,S,v,T⟩
  ·(try simp only[RN,z])
   exact f _ _ v
 ·have J:decide ((i:Int)>=0)=true:=decide_eq_true (by omega)
  have w1:dC .i64 ((i:Int)+1)=(i:Int)+1:=by rw[aB (by omega)]
  have x1:(0:Int)<=(i:Int)+1:=by omega
  have x2:(i:Int)+1<=(t.size:Int):=by omega
  have x3:((i:Int)+1).toNat=i+1:=by omega
  have x4:(t.extract (i+1) t.size).size<t.size:=by simp;omega
  rw[V];simp only[e,j,J,akh,w1,I4 x1 x2,I5 x1 x2,x3,RN,z,N];refine Bv ?_;refine SY.mono (ac6 _ _ g3 x4) ?_;rintro p G ⟨P,Q,S,⟨rfl,v,T⟩|⟨rfl,v⟩⟩
  ·(try simp only[RN,z])
   exact⟨_,_,x4, .inl rfl,_,_,G,_,rfl,by omega,rfl,P,Q,S,v,T⟩
  ·(try simp only[RN,z])
   exact f _ _ v
def X7 (s:ByteArray){bs:List (Option (List PV))}{fz:List Nat}{ar:List (Option Arr)}{KP:DV->Mem->Prop}:
  SC C 116 [.d (.str s)] ⟨bs,fz,ar⟩ (fun p M'=>p= .func (.func 211) [] [.ptr bs.length 0]/\M'=⟨bs++ [some [.d (.str s)]],fz,ar⟩) KP:=by
 refine aC BU aJ ?_;simp only[BU,aJ,aY,bQ,nU,RN,z]
def nlB:ByteArray:=⟨#[10]⟩
def Aa:Dk->List ByteArray->ByteArray->Option (Dk×ByteArray)
 |D,[],out=>some (D,out)
 |D,l::ls,out=>match D.said (bT l)with|none=>none|some q=>Aa q.1 ls (out++(q.2++nlB))
def MS:∀(l1 l2:List ByteArray) (D:Dk) (out:ByteArray),Aa D (l1++l2) out=match Aa D l1 out with|none=>none|some q=>Aa q.1 l2 q.2
 | [],l2,D,out=>rfl
 |l::ls,l2,D,out=>by
  rw[aM,Aa,Aa];cases D.said (bT l)with
  |none=>rfl
  |some q=>exact MS ls l2 _ _
variable{M:Mem}
def FrD.kept {d n c:Nat}{ce cs ce' cs':PV}{M':Mem}(h:FrD d ce cs ce' cs' M M')(hf:FzB M->FzB M')(hd:d<n)(hc:d≠c):Kept n (·=c) no M M':=
 ⟨h.len,h.bH,fun i a b=>h.box i b (fun e=>a.elim (fun a=>by omega) fun a=>hc (by rw[<-e];exact a)),fun i _ b=>h.fz i b,fun _ h=>h.elim,hf⟩
def Jd (s:ByteArray):(eP s).length<=s.size:=by
 have:∀l:List UInt8,(uo l).length<=l.length:=by
  intro l
  induction l with
  |nil=>exact aL _
  |cons b l a=>
   rw[uo]
   split
   ·simpa using a
   ·split
    ·simp
    ·rename_i h;rw[h]at a;simp at a⊢;omega
 unfold eP;rw[ae];have h1:=this s.data.toList;have:s.data.toList.length=s.size:=bo;omega
def Dc:∀(l:List UInt8) (x:List UInt8),x∈uo l->x.length<=l.length
 | [],x,h=>by cases h
 |b::l,x,h=>by
  rw[uo]at h
  split at h
  ·rcases ao.1 h with rfl|h
   ·simp
   ·have:=Dc l x h;simp;omega
  ·split at h
   ·simp at h;subst h;simp
   ·rename_i y c a
    rcases ao.1 h with rfl|h
    ·have:=Dc l y (by rw[a];simp);simp;omega
    ·have:=Dc l x (by rw[a];simp[h]);simp;omega
def RP {x:ByteArray}(h:x∈eP s):x.size<=s.size:=by
 simp only[eP,aR]at h;obtain⟨l,a,rfl⟩:=h;have:=Dc _ _ a;have e:s.data.toList.length=s.size:=bo;simp only[dl,c4]at e⊢;rw[<-e];exact this
def Oa (s:ByteArray):(bT s).size<=s.size:=by
 unfold bT
 split
 ·simp
 ·exact aL _
def ajo (s:Su)(a:ByteArray)(pre:List (List DV))(b:Mem):Prop:=
 ∃ls e D c cs o,eP a=ls++e/\pre=ls.map l7/\Aa ⟨s,[],[]⟩ ls ⟨#[]⟩=some (D,o)/\lQ D 4 c cs b/\D.Ok/\b.boxes[1]?=some (some [.ptr 4 0])/\b.boxes[5]?=some (some [.d (.str o)])/\5∉b.fz/\o.size<=30001*ls.length
def ajo.moved {s:Su}{a:ByteArray}{pre:List (List DV)}{d f:Mem}{n:Nat}(h:ajo s a pre d)(r:6<=n)(b:Moved n (·=6) d f):ajo s a pre f:=by
 obtain⟨ls,q,D,g,cs,o,h1,h2,i,c,j,k,l,m,p⟩:=h;refine⟨ls,q,D,g,cs,o,h1,h2,i,?_,j,(b.box 1 (by omega) (by simp)).trans k,(b.box 5 (by omega) (by simp)).trans l,fun e=>m ((b.fz 5 (by omega) (by simp)).1 e),p⟩;exact⟨⟨(b.box 4 (by omega) (by simp)).trans c.box,by rw[b.aF];exact c.ent,by rw[b.aF];exact c.str⟩,c.dif,fun e=>c.nb ((b.fz 4 (by omega) (by simp)).1 e),b.fzb c.fzb⟩
def adR (s:Su)(hs:s.Small)(M:s.ok=true){a out:ByteArray}(hl:a.size<=1500)(K:(a.toList==(⟨#[]⟩:ByteArray).toList||lC a)=true){D':Dk}(b:Aa ⟨s,[],[]⟩ (eP a) ⟨#[]⟩=some (D',out)):
  Pure C 40 [s.dv, .str a] (.d (.tup [.str out,dI 0])) []:=by
 refine ah vK bZ ?_;rw[dR];simp only[vK,bZ,RN,z,F,N];have hO:=fun X KP=>acO s hs [X,none] [0] [] KP (by simp)
 rw[dR]at hO;refine SC.jG (SC.mono (hO _ (fun _ _=>False)) ?_) (fun _ _ h=>h);rintro p M' (⟨h,_⟩|⟨_,rfl,x1,x2,rfl⟩)
 ·rw[M]at h;cases h
 have z1:((0:Int) !=0)=false:=rfl;have z2:decide ((a.size:Int)>1500)=false:=decide_eq_false (by omega);simp only[qL,qM,jK,z1,z2,fE,Mc,Bj,Ql,RN,z,F,I,N];have apR:(a.toList==(⟨#[]⟩:ByteArray).toList)=false->lC a=true:=fun h=>by rw[h]at K;exact K
 cases ax:(a.toList==(⟨#[]⟩:ByteArray).toList)
 all_goals first
  |(simp only[RN,z,F,I,N];refine eH rfl rfl (ahb (by omega)) ?_;rw[apR ax])
  |skip
 all_goals simp only[jK,RN,z,F,I,N]
 all_goals refine SC.jG (SC.mono (X7 a (KP:=fun _ _=>False)) ?_) (fun _ _ h=>h)
 all_goals rintro p M' ⟨rfl,rfl⟩
 all_goals(try simp only[RN,F])
 all_goals(
  refine oP (Qu a 6 (by omega)) (fun _ h=>h) rfl (by kernel_rfl) (fun i B=>by simp at B;simp;omega) (fun x t=>by obtain⟨y,_,rfl⟩:=aR.1 t;rfl) (fun i B=>by subst B;simp) (fun M' T=>⟨(T.box 6 (by simp) id).trans rfl,fun e=>by have:=(T.fz 6 (by simp) id).1 e;simp at this⟩)
   (ajo s a) (fun az M1 M2 T h=>h.moved (by simp) T) ⟨[],eP a,⟨s,[],[]⟩,_,_,_,rfl,rfl,rfl,⟨⟨rfl, .inl ⟨rfl,rfl⟩, .inl ⟨rfl,rfl⟩⟩,(by intro k hk;cases hk),by simp,by intro i B;simp at B;simp;omega⟩,⟨M,rfl,br _,fun x h=>(by cases h),fun x h=>(by cases h)⟩,rfl,rfl,by simp,br _⟩ ?_ ?_
  ·rintro L cells az x aD ⟨g,ai,ab⟩ t r l G ⟨ls,U,D,ce,cs,o,h1,h2,R,h4,h5,w,n,S,h9⟩ M0
   simp only[W,ap]at r l G w n S⊢;obtain⟨y,f,rfl,rfl⟩:∃y f,U=y::f/\x=l7 y:=by
    rw[h1,h2,a7]at t;have t:=ct t;cases U with
    |nil=>cases t
    |cons y f=>exact⟨y,f,rfl,(List.cons.inj t).1.symm⟩
   rw[h1,MS,R]at b;simp only[Aa]at b;cases c:D.said (bT y)with
   |none=>rw[c]at b;cases b
   |some q=>
   obtain⟨D2,Z⟩:=q;have hy:y.size<=a.size:=RP (by rw[h1];simp);have E:=Jd a;rw[h1]at E;simp only[V,W]at E;have aM:=Oa y;have aL:=afz c;have j:5<g.length:=by omega
   have v:1<g.length:=by omega
   simp only[l7,cU,c5,Y,bt,w,n,v,RN,z,F,N];refine eH rfl rfl (afO (by omega)) ?_;(try simp only[RN,z,F,H,I,J,N]);refine ajD n (by simp) ?_;refine SC.jG (SC.mono (adZ h4 h5 (by omega) c (KP:=fun _ _=>False)) ?_) (fun _ _ h=>h.elim);rintro p ⟨u,am,aE⟩ ⟨rfl,ac,ae,Q,m,q3⟩;have ao:u[5]?=some (some [.d (.str o)]):=(m.box 5 j (by decide)).trans n;have aq:=m.len;simp only at aq;have apm:5<u.length:=by omega
   have A:¬5∈am:=fun e=>S ((m.fz 5 j).1 e)
   refine⟨m.box 5 j (by decide),?_⟩;have O:Z.size+nlB.size<=9223372036854775807:=by have:nlB.size=1:=rfl;omega
   have P:o.size+(Z++nlB).size<=9223372036854775807:=by have:nlB.size=1:=rfl;rw[bw];omega
   rw[nlB]at O P;simp only[fE,kZ,O,P,ao,A,uP,RN,F,N];refine⟨by rw[av (by decide)];exact(m.box 7 (by simp only;omega) (by decide)).trans l,fun e=>G ((m.fz 7 (by simp only;omega)).1 e),(FrD.kept m (fun _=>q3) (by decide) (by decide)).set2 (by decide) (by decide),ls++ [y],f,D2,ac,ae,o++(Z++nlB),by rw[h1];simp,by rw[h2];simp[l7],?_,
    ⟨⟨by simp only;rw[av (by decide)];exact Q.box,Q.ent,Q.str⟩,Q.dif,Q.nb,q3.set⟩,alm h5 c,?_,by simp[apm];rfl,A,?_⟩
   ·rw[MS,R]
    simp only[Aa,c]
   ·simp only;rw[av (by decide)];exact(m.box 1 v (by decide)).trans w
   ·have:nlB.size=1:=rfl
    simp only[bw,V,W,ap];omega
  ·rintro⟨g,ai,ab⟩ ⟨ls,U,D,ce,cs,o,h1,h2,R,h4,h5,w,n,S,h9⟩ r
   simp only[W,ap]at r w n S;have aw:U=[]:=by
    have:=congrArg cn h2;rw[h1]at this;simp at this;exact this
   subst aw;rw[h1,bE,R]at b;cases b;have j:5<g.length:=by omega
   simp only[n,RN,z,N])
def mG:Su:=⟨⟨[⟨0,⟨10,20⟩⟩,⟨1,⟨12,18⟩⟩,⟨1,⟨15,10⟩⟩],[2,3]⟩,[⟨1,3⟩,⟨1499,2000⟩],100,⟨40,[15,21,27]⟩,⟨0,[4]⟩,⟨59,2,0⟩,[⟨true,0,0,0⟩,⟨false,1,6,0⟩],1,3,6,4,10⟩
def XK:ByteArray:=⟨#[104,97,110,100,115,10,111,114,100,101,114,32,48,32,50,32,53,10,111,114,100,101,114,32,48,32,49,32,50,10,110,101,101,100,32,48,32,49,48,32,50,48,10,110,101,101,100,32,49,32,49,48,32,50,48,10,99,104,97,110,103,101,32,49,32,49,50,32,49,53,10,99,117,116,32,51,55,10,99,117,116,32,49,53,10,115,116,111,99,107,10,99,104,97,110,103,101,32,49,32,49,50,32,49,53,10,115,116,111,99,107,10,112,114,105,99,101,32,48,10,115,101,114,118,101,32,48,32,53,54,10,115,101,114,118,101,32,48,32,53,55,10,111,112,101,110,10,99,111,105,110,115,10,111,102,102,32,49,32,57,10,111,102,102,32,49,32,49,48,10,119,114,111,110,103,10,115,101,116,32,54,10,115,101,116,32,57,10,115,101,116,32,56,10,115,101,116,32,56,10,119,111,114,107,115,32,57,10,100,97,116,101,32,52,48,10,119,114,111,110,103,10,99,117,116,115,32,51,54,10,115,116,114,105,107,101,32,49,10,115,116,114,105,107,101,32,52,10,115,116,114,105,107,101,32,51,10,99,111,105,110,115,10,111,112,101,110,10,115,116,97,110,100,115,10,115,116,114,105,107,101,32,48,10,115,116,114,105,107,101,32,57,10,115,101,114,118,101,32,48,10]⟩
def Jy:ByteArray:=⟨#[49,32,51,32,51,32,52,10,110,111,116,101,100,10,101,114,114,111,114,32,55,10,49,32,49,50,32,49,53,10,101,114,114,111,114,32,55,10,101,114,114,111,114,32,55,10,101,114,114,111,114,32,55,10,110,111,116,101,100,10,49,53,10,110,111,116,101,100,10,49,56,10,53,55,10,101,114,114,111,114,32,55,10,110,111,116,101,100,10,110,111,116,104,105,110,103,10,53,55,10,57,55,10,49,48,56,10,51,53,54,10,101,114,114,111,114,32,55,10,101,114,114,111,114,32,55,10,110,111,116,101,100,10,101,114,114,111,114,32,55,10,49,48,10,50,32,57,10,51,52,56,10,50,32,49,32,51,10,101,114,114,111,114,32,55,10,110,111,116,101,100,10,110,111,116,101,100,10,48,10,48,32,50,32,53,10,48,32,49,32,50,10,101,114,114,111,114,32,55,10,101,114,114,111,114,32,50,10,101,114,114,111,114,32,52,10]⟩
def bf {D D':Dk}{l a out:ByteArray}{ls:List ByteArray}{r:Option (Dk×ByteArray)}(h:D.said (bT l)=some (D',a))(b:Aa D' ls (out++(a++nlB))=r):Aa D (l::ls) out=r:=by
 rw[Aa,h];exact b
def lsK:List ByteArray:=[⟨#[104,97,110,100,115,10]⟩,⟨#[111,114,100,101,114,32,48,32,50,32,53,10]⟩,⟨#[111,114,100,101,114,32,48,32,49,32,50,10]⟩,⟨#[110,101,101,100,32,48,32,49,48,32,50,48,10]⟩,⟨#[110,101,101,100,32,49,32,49,48,32,50,48,10]⟩,⟨#[99,104,97,110,103,101,32,49,32,49,50,32,49,53,10]⟩,⟨#[99,117,116,32,51,55,10]⟩,⟨#[99,117,116,32,49,53,10]⟩,⟨#[115,116,111,99,107,10]⟩,⟨#[99,104,97,110,103,101,32,49,32,49,50,32,49,53,10]⟩,⟨#[115,116,111,99,107,10]⟩,⟨#[112,114,105,99,101,32,48,10]⟩,⟨#[115,101,114,118,101,32,48,32,53,54,10]⟩,⟨#[115,101,114,118,101,32,48,32,53,55,10]⟩,⟨#[111,112,101,110,10]⟩,⟨#[99,111,105,110,115,10]⟩,⟨#[111,102,102,32,49,32,57,10]⟩,⟨#[111,102,102,32,49,32,49,48,10]⟩,⟨#[119,114,111,110,103,10]⟩,⟨#[115,101,116,32,54,10]⟩,⟨#[115,101,116,32,57,10]⟩,⟨#[115,101,116,32,56,10]⟩,⟨#[115,101,116,32,56,10]⟩,⟨#[119,111,114,107,115,32,57,10]⟩,⟨#[100,97,116,101,32,52,48,10]⟩,⟨#[119,114,111,110,103,10]⟩,⟨#[99,117,116,115,32,51,54,10]⟩,⟨#[115,116,114,105,107,101,32,49,10]⟩,⟨#[115,116,114,105,107,101,32,52,10]⟩,⟨#[115,116,114,105,107,101,32,51,10]⟩,⟨#[99,111,105,110,115,10]⟩,⟨#[111,112,101,110,10]⟩,⟨#[115,116,97,110,100,115,10]⟩,⟨#[115,116,114,105,107,101,32,48,10]⟩,⟨#[115,116,114,105,107,101,32,57,10]⟩,⟨#[115,101,114,118,101,32,48,10]⟩]
def aky:eP XK=lsK:=by kernel_rfl
def kd0:Dk:=⟨mG,[],[]⟩
def kd1:Dk:=⟨mG,[⟨3,[0,2,5]⟩],[false]⟩
def kd2:Dk:=⟨mG,[⟨3,[0,2,5]⟩,⟨1,[15]⟩],[false,false]⟩
def kd3:Dk:=⟨mG,[⟨3,[0,2,5]⟩,⟨1,[15]⟩,⟨2,[1,12,15]⟩],[false,false,false]⟩
def kd4:Dk:=⟨mG,[⟨3,[0,2,5]⟩,⟨1,[15]⟩,⟨2,[1,12,15]⟩,⟨4,[0,57]⟩],[false,false,false,false]⟩
def kd5:Dk:=⟨mG,[⟨3,[0,2,5]⟩,⟨1,[15]⟩,⟨2,[1,12,15]⟩,⟨4,[0,57]⟩,⟨5,[8]⟩],[false,false,false,false,false]⟩
def kd6:Dk:=⟨mG,[⟨3,[0,2,5]⟩,⟨1,[15]⟩,⟨2,[1,12,15]⟩,⟨4,[0,57]⟩,⟨5,[8]⟩,⟨6,[4]⟩],[false,false,false,false,true,false]⟩
def kd7:Dk:=⟨mG,[⟨3,[0,2,5]⟩,⟨1,[15]⟩,⟨2,[1,12,15]⟩,⟨4,[0,57]⟩,⟨5,[8]⟩,⟨6,[4]⟩,⟨6,[3]⟩],[false,false,false,true,true,false,false]⟩
def k_1:kd0.said (bT (lsK.getD 0 default))=some (kd0,⟨#[49,32,51,32,51,32,52]⟩):=by kernel_rfl
def k_2:kd0.said (bT (lsK.getD 1 default))=some (kd1,⟨#[110,111,116,101,100]⟩):=by kernel_rfl
def k_3:kd1.said (bT (lsK.getD 2 default))=some (kd1,⟨#[101,114,114,111,114,32,55]⟩):=by kernel_rfl
def k_4:kd1.said (bT (lsK.getD 3 default))=some (kd1,⟨#[49,32,49,50,32,49,53]⟩):=by kernel_rfl
def k_5:kd1.said (bT (lsK.getD 4 default))=some (kd1,⟨#[101,114,114,111,114,32,55]⟩):=by kernel_rfl
def k_6:kd1.said (bT (lsK.getD 5 default))=some (kd1,⟨#[101,114,114,111,114,32,55]⟩):=by kernel_rfl
def k_7:kd1.said (bT (lsK.getD 6 default))=some (kd1,⟨#[101,114,114,111,114,32,55]⟩):=by kernel_rfl
def k_8:kd1.said (bT (lsK.getD 7 default))=some (kd2,⟨#[110,111,116,101,100]⟩):=by kernel_rfl
def k_9:kd2.said (bT (lsK.getD 8 default))=some (kd2,⟨#[49,53]⟩):=by kernel_rfl
def ap0:kd2.said (bT (lsK.getD 9 default))=some (kd3,⟨#[110,111,116,101,100]⟩):=by kernel_rfl
def ap1:kd3.said (bT (lsK.getD 10 default))=some (kd3,⟨#[49,56]⟩):=by kernel_rfl
def ap2:kd3.said (bT (lsK.getD 11 default))=some (kd3,⟨#[53,55]⟩):=by kernel_rfl
def ap3:kd3.said (bT (lsK.getD 12 default))=some (kd3,⟨#[101,114,114,111,114,32,55]⟩):=by kernel_rfl
def ap4:kd3.said (bT (lsK.getD 13 default))=some (kd4,⟨#[110,111,116,101,100]⟩):=by kernel_rfl
def ap5:kd4.said (bT (lsK.getD 14 default))=some (kd4,⟨#[110,111,116,104,105,110,103]⟩):=by kernel_rfl
def ap6:kd4.said (bT (lsK.getD 15 default))=some (kd4,⟨#[53,55]⟩):=by kernel_rfl
def ap7:kd4.said (bT (lsK.getD 16 default))=some (kd4,⟨#[57,55]⟩):=by kernel_rfl
def ap8:kd4.said (bT (lsK.getD 17 default))=some (kd4,⟨#[49,48,56]⟩):=by kernel_rfl
def ap9:kd4.said (bT (lsK.getD 18 default))=some (kd4,⟨#[51,53,54]⟩):=by kernel_rfl
def aqa:kd4.said (bT (lsK.getD 19 default))=some (kd4,⟨#[101,114,114,111,114,32,55]⟩):=by kernel_rfl
def aqb:kd4.said (bT (lsK.getD 20 default))=some (kd4,⟨#[101,114,114,111,114,32,55]⟩):=by kernel_rfl
def aqc:kd4.said (bT (lsK.getD 21 default))=some (kd5,⟨#[110,111,116,101,100]⟩):=by kernel_rfl
def aqd:kd5.said (bT (lsK.getD 22 default))=some (kd5,⟨#[101,114,114,111,114,32,55]⟩):=by kernel_rfl
def aqe:kd5.said (bT (lsK.getD 23 default))=some (kd5,⟨#[49,48]⟩):=by kernel_rfl
def aqf:kd5.said (bT (lsK.getD 24 default))=some (kd5,⟨#[50,32,57]⟩):=by kernel_rfl
def aqg:kd5.said (bT (lsK.getD 25 default))=some (kd5,⟨#[51,52,56]⟩):=by kernel_rfl
def aqh:kd5.said (bT (lsK.getD 26 default))=some (kd5,⟨#[50,32,49,32,51]⟩):=by kernel_rfl
def aqi:kd5.said (bT (lsK.getD 27 default))=some (kd5,⟨#[101,114,114,111,114,32,55]⟩):=by kernel_rfl
def aqj:kd5.said (bT (lsK.getD 28 default))=some (kd6,⟨#[110,111,116,101,100]⟩):=by kernel_rfl
def aqk:kd6.said (bT (lsK.getD 29 default))=some (kd7,⟨#[110,111,116,101,100]⟩):=by kernel_rfl
def aql:kd7.said (bT (lsK.getD 30 default))=some (kd7,⟨#[48]⟩):=by kernel_rfl
def aqm:kd7.said (bT (lsK.getD 31 default))=some (kd7,⟨#[48,32,50,32,53]⟩):=by kernel_rfl
def aqn:kd7.said (bT (lsK.getD 32 default))=some (kd7,⟨#[48,32,49,32,50]⟩):=by kernel_rfl
def aqo:kd7.said (bT (lsK.getD 33 default))=some (kd7,⟨#[101,114,114,111,114,32,55]⟩):=by kernel_rfl
def aqp:kd7.said (bT (lsK.getD 34 default))=some (kd7,⟨#[101,114,114,111,114,32,50]⟩):=by kernel_rfl
def aqr:kd7.said (bT (lsK.getD 35 default))=some (kd7,⟨#[101,114,114,111,114,32,52]⟩):=by kernel_rfl
def aoS:Aa ⟨mG,[],[]⟩ (eP XK) ⟨#[]⟩=some (kd7,Jy):=by
 rw[aky];refine bf k_1 ?_;refine bf k_2 ?_;refine bf k_3 ?_;refine bf k_4 ?_;refine bf k_5 ?_;refine bf k_6 ?_;refine bf k_7 ?_;refine bf k_8 ?_;refine bf k_9 ?_;refine bf ap0 ?_;refine bf ap1 ?_;refine bf ap2 ?_;refine bf ap3 ?_;refine bf ap4 ?_;refine bf ap5 ?_;refine bf ap6 ?_;refine bf ap7 ?_;refine bf ap8 ?_;refine bf ap9 ?_;refine bf aqa ?_;refine bf aqb ?_;refine bf aqc ?_;refine bf aqd ?_;refine bf aqe ?_;refine bf aqf ?_;refine bf aqg ?_;refine bf aqh ?_;refine bf aqi ?_;refine bf aqj ?_;refine bf aqk ?_;refine bf aql ?_;refine bf aqm ?_;refine bf aqn ?_;refine bf aqo ?_;refine bf aqp ?_;refine bf aqr ?_
 kernel_rfl
def rE:aA:=(s0 [ba 3 0 0,mf 6 false] 1 [1,2,3] [3] (sw (sr [lw 13 17 3,mv 14 2,on 15 (.aj 17) [.t 13,cS,.t 14],oa 16 pN 15,mv 17 16,ow 18 .mov 1 17 0,ow 19 .vg 18 17 0,oF 20 pG [.t 19,kI 500] 17 0,ow 21 .mov 20 17 0,ov 22 .mov 1 21 0,ov 23 .vg 22 21 0,ot 24 (.bin .leq) [.t 23,kI 1500] 21 0,oF 25 .pick [.t 21,.t 24,.c (.bool false)] 17 0,pt 26 17 25,mv 27 26,ow 28 .mov 1 27 0,ow 29 .vg 28 27 0,oF 30 pG [.t 29,kI 1600] 27 0,pt 31 27 30] 0 [1,2,3,31] (cd 31 (sr [on 32 (.aj 19) [],mv 6 32] 0 [6] .ret) .skip)) (sr [lw 34 17 3,mv 35 1,ob 36 (.call 56) 34 35,mv 33 36,xa 37 0 33,xa 38 1 33,xa 39 2 33,mv 7 37,mv 8 38,mv 9 39] 0 [1,2,3,7,8,9] (sw (sr [lw 40 17 3,oa 41 (.aj 18) 40,oa 42 pN 41] 0 [1,2,3,7,8,9,42] (cd 42 (sr [mv 43 9,oi 44 pE 43 2,mv 45 44,ov 46 .mov 7 45 0,ot 47 (.qy false) [.t 46,.c (.nilPtr)] 45 0,pf 48 45 47,mv 49 48,ov 50 .mov 8 49 0,ot 51 pE [.t 50,kI 0] 49 0,pf 52 49 51,mv 53 52,ot 54 (.aj 19) [] 53 0,pf 55 53 54,mv 6 55] 0 [6] .ret) .skip)) (sw (sr [mv 56 1,oa 57 .vg 56,oi 58 pG 57 1500] 0 [1,2,3,7,8,9,58] (cd 58 (sr [mv 59 9,oi 60 pE 59 3,mv 61 60,ov 62 .mov 7 61 0,ot 63 (.qy false) [.t 62,.c (.nilPtr)] 61 0,pf 64 61 63,mv 65 64,ov 66 .mov 8 65 0,ot 67 pE [.t 66,kI 0] 65 0,pf 68 65 67,mv 69 68,ot 70 (.aj 19) [] 69 0,pf 71 69 70,mv 6 71] 0 [6] .ret) .skip)) (s0 [lw 73 17 3,mv 74 1,ob 75 (.aj 57) 73 74,mv 72 75,xa 76 0 72,xa 77 1 72,xa 78 2 72,al 10 0 zd,sk 19 10 76 0,mv 11 77,mv 12 78] 1 [2,7,8,9,10,11,12] [10] (sw (sr [mv 79 12,oi 80 pQ 79 0] 0 [2,7,8,9,10,11,12,80] (cd 80 (sr [mv 81 9,mv 82 12,ob 83 pE 81 82,mv 84 83,ov 85 .mov 7 84 0,ot 86 (.qy false) [.t 85,.c (.nilPtr)] 84 0,pf 87 84 86,mv 88 87,ov 89 .mov 8 88 0,ov 90 .mov 11 88 0,obT 91 pE 89 90 88 0,pf 92 88 91,mv 93 92,ot 94 (.aj 19) [] 93 0,pf 95 93 94,mv 6 95] 0 [6] .ret) .skip)) (sr [mv 96 9,oi 97 pE 96 0,mv 98 97,ov 99 .mov 8 98 0,ot 100 pE [.t 99,kI (-1)] 98 0,pf 101 98 100,mv 102 101,ov 103 .mov 7 102 0,ot 104 (.qy true) [.t 103,.c (.nilPtr)] 102 0,pf 105 102 104,mv 106 105,ov 107 .mov 7 106 0,ov 108 (.load true 19) 10 106 0,ov 109 .mov 2 106 0,ot 110 (.call 49) [.t 107,.t 108,.t 109] 106 0,pf 111 106 110,mv 112 111,ot 113 (.aj 19) [] 112 0,pf 114 112 113,mv 6 114] 0 [6] .ret))))))))
def Kt:aA:=(s0 [ba 3 0 0,mf 6 false] 1 [1,2,3] [3] (sw (sr [mi 7 0] 0 [1,2,3,7] (lp (sw (sr [mv 9 7,mv 10 1,oa 11 .len 10,ob 12 pL 9 11,mv 13 12,ov 14 .mov 7 13 0,ot 15 pL [.t 14,kI 27] 13 0,pf 16 13 15] 0 [1,2,3,7,16] (cx 16 0)) (sw (b1 (sr [mv 19 1,mv 20 7,ix 21 2 19 20,fa 22 1 21,lo 23 22,oa 24 .len 23,oi 25 pG 24 6] 0 [1,2,3,7,25] (cd 25 (sr [mf 6 false] 0 [6] .ret) .skip))) (rg [mv 17 7,oi 18 pA 17 1,mv 7 18] 0 [1,2,3,7]))))) (sw (sr [mi 8 0] 0 [1,2,3,8] (.block 2 (.loop (sw (sr [mv 26 8,mv 27 2,oa 28 .len 27,ob 29 pL 26 28,mv 30 29,ov 31 .mov 8 30 0,ot 32 pL [.t 31,kI 11] 30 0,pf 33 30 32] 0 [1,2,3,8,33] (cx 33 2)) (sw (.block 3 (sr [mv 36 2,mv 37 8,ix 38 2 36 37,fa 39 1 38,lo 40 39,oa 41 .len 40,oi 42 pG 41 6] 0 [1,2,3,8,42] (cd 42 (sr [mf 6 false] 0 [6] .ret) .skip))) (rg [mv 34 8,oi 35 pA 34 1,mv 8 35] 0 [1,2,3,8])))))) (sr [lw 43 17 3,oa 44 (.aj 39) 43,mv 45 44,ov 46 .mov 1 45 0,ov 47 .len 46 45 0,ot 48 (.bin .leq) [.t 47,kI 26] 45 0,pf 49 45 48,mv 50 49,ov 51 .mov 2 50 0,ov 52 .len 51 50 0,ot 53 (.bin .leq) [.t 52,kI 10] 50 0,pf 54 50 53,mv 6 54] 0 [6] .ret))))
def Ku:aA:=(sr [mf 0 false] 0 [] (sr [on 4 (.aj 68) [],oc 5 (.aj 40) 4 (.c (.str ⟨#[104,97,110,100,115,10,111,114,100,101,114,32,48,32,50,32,53,10,111,114,100,101,114,32,48,32,49,32,50,10,110,101,101,100,32,48,32,49,48,32,50,48,10,110,101,101,100,32,49,32,49,48,32,50,48,10,99,104,97,110,103,101,32,49,32,49,50,32,49,53,10,99,117,116,32,51,55,10,99,117,116,32,49,53,10,115,116,111,99,107,10,99,104,97,110,103,101,32,49,32,49,50,32,49,53,10,115,116,111,99,107,10,112,114,105,99,101,32,48,10,115,101,114,118,101,32,48,32,53,54,10,115,101,114,118,101,32,48,32,53,55,10,111,112,101,110,10,99,111,105,110,115,10,111,102,102,32,49,32,57,10,111,102,102,32,49,32,49,48,10,119,114,111,110,103,10,115,101,116,32,54,10,115,101,116,32,57,10,115,101,116,32,56,10,115,101,116,32,56,10,119,111,114,107,115,32,57,10,100,97,116,101,32,52,48,10,119,114,111,110,103,10,99,117,116,115,32,51,54,10,115,116,114,105,107,101,32,49,10,115,116,114,105,107,101,32,52,10,115,116,114,105,107,101,32,51,10,99,111,105,110,115,10,111,112,101,110,10,115,116,97,110,100,115,10,115,116,114,105,107,101,32,48,10,115,116,114,105,107,101,32,57,10,115,101,114,118,101,32,48,10]⟩)),mv 3 5,xa 6 0 3,xa 7 1 3,mv 1 6,mv 2 7] 0 [1,2] (sr [mv 8 2,oi 9 pE 8 0,mv 10 9,ov 11 .mov 1 10 0,ot 12 pE [.t 11,.c (.str ⟨#[49,32,51,32,51,32,52,10,110,111,116,101,100,10,101,114,114,111,114,32,55,10,49,32,49,50,32,49,53,10,101,114,114,111,114,32,55,10,101,114,114,111,114,32,55,10,101,114,114,111,114,32,55,10,110,111,116,101,100,10,49,53,10,110,111,116,101,100,10,49,56,10,53,55,10,101,114,114,111,114,32,55,10,110,111,116,101,100,10,110,111,116,104,105,110,103,10,53,55,10,57,55,10,49,48,56,10,51,53,54,10,101,114,114,111,114,32,55,10,101,114,114,111,114,32,55,10,110,111,116,101,100,10,101,114,114,111,114,32,55,10,49,48,10,50,32,57,10,51,52,56,10,50,32,49,32,51,10,101,114,114,111,114,32,55,10,110,111,116,101,100,10,110,111,116,101,100,10,48,10,48,32,50,32,53,10,48,32,49,32,50,10,101,114,114,111,114,32,55,10,101,114,114,111,114,32,50,10,101,114,114,111,114,32,52,10]⟩)] 10 0,pf 13 10 12,mv 0 13] 0 [0] .ret)))
def Kv:aA:=(s0 [ba 1 0 0,mf 2 false] 1 [1] [1] (sr [fa 3 0 1,fa 4 0 3,lo 5 4,oa 6 .len 5,oi 7 (.bin .leq) 6 7,mv 8 7,ov 9 (.fld 0) 1 8 0,ov 10 (.fld 1) 9 8 0,ov 11 ld 10 8 0,ov 12 .len 11 8 0,ot 13 (.bin .leq) [.t 12,kI 6] 8 0,pf 14 8 13,mv 15 14,ov 16 (.fld 2) 1 15 0,ov 17 ld 16 15 0,ov 18 .len 17 15 0,ot 19 (.bin .leq) [.t 18,kI 6] 15 0,pf 20 15 19,mv 21 20,ov 22 (.fld 4) 1 21 0,ov 23 (.fld 1) 22 21 0,ov 24 ld 23 21 0,ov 25 .len 24 21 0,ot 26 (.bin .leq) [.t 25,kI 8] 21 0,pf 27 21 26,mv 28 27,ov 29 (.fld 6) 1 28 0,ov 30 (.fld 1) 29 28 0,ov 31 ld 30 28 0,ov 32 .len 31 28 0,ot 33 (.bin .leq) [.t 32,kI 5] 28 0,pf 34 28 33,mv 35 34,ov 36 (.fld 11) 1 35 0,ov 37 ld 36 35 0,ov 38 .len 37 35 0,ot 39 (.bin .leq) [.t 38,kI 8] 35 0,pf 40 35 39,mv 2 40] 0 [2] .ret))
def H6:aA:=(s0 [ba 4 0 1,mf 6 false] 1 [0,2,4] [4] (sw (sr [mi 7 0] 0 [0,2,4,7] (lp (sw (sr [mv 14 7,mv 15 2,oa 16 .len 15,ob 17 pL 14 16] 0 [0,2,4,7,17] (cx 17 0)) (sw (b1 (s0 [mv 21 0,mv 22 2,mv 23 7,ix 24 2 22 23,lw 25 2 24,ob 26 (.call 21) 21 25,mv 20 26,xa 27 0 20,xa 28 1 20,mv 8 27,mv 9 28] 0 [0,2,4,7,8,9] [8] (sw (r1 [ou 30 (.load true 19) 4 1,mv 31 2,mv 32 7,ob1 33 (.aQ 2) 31 32 1,ou 34 (.load true 2) 33 1,ob 35 (.aj 54) 30 34,mv 29 35,xa 36 0 29,xa 37 1 29,mv 10 36,mv 11 37] 0 [0,2,4,7,8,9,10,11] []) (sr [mv 38 9,mv 39 11,ob 40 pQ 38 39,mv 41 40,ow 42 .mov 8 41 0,ow 43 .mov 10 41 0,obF 44 (.aj 23) 42 43 41 0,ow 45 pN 44 41 0,pt 46 41 45] 0 [0,2,4,7,46] (cd 46 (sr [mf 6 false] 0 [6] .ret) .skip))))) (rg [mv 18 7,oi 19 pA 18 1,mv 7 19] 0 [0,2,4,7]))))) (sr [mv 48 0,oa 49 (.jh 48) 48,mv 47 49,xa 50 0 47,xa 51 1 47,mv 12 50,mv 13 51] 0 [4,12,13] (sr [mv 52 13,oi 53 pE 52 0,mv 54 53,ov 55 .mov 12 54 0,ov 56 (.load true 19) 4 54 0,ov 57 (.aj 130) 56 54 0,obT 58 pE 55 57 54 0,pf 59 54 58,mv 6 59] 0 [6] .ret))))
def Kq:aA:=(sr [al 0 0 [zs,zs,zs,z0,z0,zs,z0,zs,z0,z0,z0,zs,z0,z0,z0,z0,z0]] 1 [0] (sr [on 1 (.aj 158) [],on 2 (.build [z0,z0] [(0,1),(1,1)]) [kI 1,kI 3],on 3 (.build [z0,z0] [(0,1),(1,1)]) [kI 1499,kI 2000],ob 4 (.dU 2 [.agg [z0,z0],.agg [z0,z0]] [0,1]) 2 3,on 5 (.aj 159) [],on 6 (.aj 160) [],on 7 (.aj 161) [],on 8 (.build [.bool false,z0,z0,z0] [(0,1)]) [.c (.bool true)],on 9 (.build [.bool false,z0,z0,z0] [(1,1),(2,1)]) [kI 1,kI 6],ob 10 (.dU 4 [.agg [.bool false,z0,z0,z0],.agg [.bool false,z0,z0,z0]] [0,1]) 8 9,on 11 (.build [zs,zs,zs,z0,z0,zs,z0,zs,z0,z0,z0,zs,z0,z0,z0,z0,z0] [(0,2),(2,1),(3,1),(4,2),(6,2),(8,3),(11,1),(12,1),(13,1),(14,1),(15,1),(16,1)]) [.t 1,.t 4,kI 100,.t 5,.t 6,.t 7,.t 10,kI 1,kI 3,kI 6,kI 4,kI 10],sk 17 0 11 0] 0 [0] .ret))
def Zz:aA:=(sr [al 0 0 [zs,zs]] 1 [0] (sr [on 1 (.aj 238) [kI 10,kI 20],oa 2 (.build [z0,z0,z0] [(1,2)]) 1,on 3 (.aj 238) [kI 12,kI 18],on 4 (.build [z0,z0,z0] [(0,1),(1,2)]) [kI 1,.t 3],on 5 (.aj 238) [kI 15,kI 10],on 6 (.build [z0,z0,z0] [(0,1),(1,2)]) [kI 1,.t 5],on 7 (.dU 3 [.agg [z0,z0,z0],.agg [z0,z0,z0],.agg [z0,z0,z0]] [0,1,2]) [.t 2,.t 4,.t 6],on 8 (.dU 1 [z0,z0] [0,1]) [kI 2,kI 3],ob 9 (.build [zs,zs] [(0,1),(1,1)]) 7 8,sk 2 0 9 0] 0 [0] .ret))
def Zy:aA:=(sr [al 0 0 [z0,zs]] 1 [0] (sr [on 1 (.dU 1 [z0] [0]) [kI 4],oa 2 (.build [z0,zs] [(1,1)]) 1,sk 2 0 2 0] 0 [0] .ret))
def Zx:aA:=(sr [al 0 0 [z0,z0,z0]] 1 [0] (sr [on 1 (.build [z0,z0,z0] [(0,1),(1,1)]) [kI 59,kI 2],sk 3 0 1 0] 0 [0] .ret))
def OJ:aA:=(sr [al 4 0 [z0,z0]] 1 [0,1,4] (sr [mv 5 0,mv 6 1,ob 7 (.build [z0,z0] [(0,1),(1,1)]) 5 6,sk 2 4 7 0] 0 [4] .ret))
def ZA:aA:=(sr [al 0 0 [z0,zs]] 1 [0] (sr [on 1 (.dU 1 [z0,z0,z0] [0,1,2]) [kI 15,kI 21,kI 27],on 2 (.build [z0,zs] [(0,1),(1,1)]) [kI 40,.t 1],sk 2 0 2 0] 0 [0] .ret))
def Fj {base sz:Nat}{zs:List DV}{a:List Nat}{args:List PV}{ds xs:List DV}{K:PV->Mem->Prop}{KP:DV->Mem->Prop}(h1:dL M args=some ds)(h2:vF sz zs a (ds.map DV.strip)=some xs)(b:M.frz args=M)(c:K (.d (.slice true xs)) M):ay C base (.dU sz zs a) args M K KP:=by
 simp only[ay,h1,h2,b];exact c
def ab1 (a b:Int):Pure C 238 [dI a,dI b] (.d (.agg [dI a,dI b])) []:=by
 refine ah OJ Aw ?_;simp only[OJ,Aw,jK,RN,z,F,N]
def P_k:Pure C 158 [] (.d (.agg [.slice true (mG.pc.links.map Lk.dv), .slice true (mG.pc.hands.map au)])) []:=by
 refine ah Zz NI ?_;simp only[Zz,NI,RN,z,F,N];refine ak (ab1 10 20) ?_;(try simp only[RN,z,F,N]);refine ak (ab1 12 18) ?_;(try simp only[RN,z,F,N]);refine ak (ab1 15 10) ?_;(try simp only[RN,z,F,N]);refine Fj rfl rfl rfl ?_;(try simp only[RN,z,F,N]);refine Fj rfl rfl rfl ?_;simp only[jK,RN,z,F,N]
 rfl
def O_k:Pure C 160 [] (.d (.agg [dI 0, .slice true [dI 4]])) []:=by
 refine ah Zy NI ?_;simp only[Zy,NI,jK,RN,z,F,N];exact⟨rfl,rfl⟩
def M_k:Pure C 161 [] (.d (.agg [dI 59,dI 2,dI 0])) []:=by
 refine ah Zx aiD ?_;simp only[Zx,aiD,jK,RN,z,F,N]
def D_k:Pure C 159 [] (.d (.agg [dI 40, .slice true [dI 15,dI 21,dI 27]])) []:=by
 refine ah ZA NI ?_;simp only[ZA,NI,RN,z,F,N];refine Fj rfl rfl rfl ?_;simp only[jK,RN,z,F,N]
 rfl
def alv:DV:= .agg [.slice true (mG.pc.links.map Lk.dv), .slice true (mG.pc.hands.map au), .slice true (mG.tg.map Fr.dv),dI 100,dI 40, .slice true (mG.dvd.cir.map au),dI 0, .slice true (mG.cal.cy.map au),dI 59,dI 2,dI 0, .slice true (mG.fs.map Fs.dv),dI 1,dI 3,dI 6,dI 4,dI 10]
def ajs:Pure C 68 [] (.d alv) []:=by
 refine ah Kq aiC ?_;simp only[Kq,aiC,RN,z,F,N];refine ak P_k ?_;(try simp only[RN,z,F,N]);refine Fj rfl rfl rfl ?_;(try simp only[RN,z,F,N]);refine ak D_k ?_;(try simp only[RN,z,F,N]);refine ak O_k ?_;(try simp only[RN,z,F,N]);refine ak M_k ?_;(try simp only[RN,z,F,N]);refine Fj rfl rfl rfl ?_;simp only[jK,RN,z,F,N]
 rfl
def XR:mG.Small:=⟨by decide,by decide,by decide,by decide,by decide⟩
def C9:Pure C 19 [] (.d (.bool true)) []:=by
 refine ah Ku aiB ?_;simp only[Ku,aiB,RN,z];refine ak ajs ?_;(try simp only[RN,z,F,H,I,J,N]);refine eH rfl rfl (adR mG XR (by kernel_rfl) (by decide:XK.size<=1500) (by kernel_rfl) aoS) ?_;have b:(Jy.toList==Jy.toList)=true:=beq_self_eq_true _;have a:(.str ⟨#[49,32,51,32,51,32,52,10,110,111,116,101,100,10,101,114,114,111,114,32,55,10,49,32,49,50,32,49,53,10,101,114,114,111,114,32,55,10,101,114,114,111,114,32,55,10,101,114,114,111,114,32,55,10,110,111,116,101,100,10,49,53,10,110,111,116,101,100,10,49,56,10,53,55,10,101,114,114,111,114,32,55,10,110,111,116,101,100,10,110,111,116,104,105,110,103,10,53,55,10,57,55,10,49,48,56,10,51,53,54,10,101,114,114,111,114,32,55,10,101,114,114,111,114,32,55,10,110,111,116,101,100,10,101,114,114,111,114,32,55,10,49,48,10,50,32,57,10,51,52,56,10,50,32,49,32,51,10,101,114,114,111,114,32,55,10,110,111,116,101,100,10,110,111,116,101,100,10,48,10,48,32,50,32,53,10,48,32,49,32,50,10,101,114,114,111,114,32,55,10,101,114,114,111,114,32,50,10,101,114,114,111,114,32,52,10]⟩:DV)= .str Jy:=rfl;simp only[z1,fE,yI,a,b,RN,z]
end Go.Tel
namespace Go.Tel
open Go.Am Go.Lib
variable{a b:ByteArray}
def QB (h:a.data.toList=b.data.toList):a=b:=by
 cases a with|mk x=>cases b with|mk y=>
 simp only at h;rw[Array.toList_inj.1 h]
def qJ (a b:ByteArray):(a++b).data.toList=a.data.toList++b.data.toList:=by
 rw[ByteArray.data_append,Array.toList_append]
def Dh {xs ys:List ByteArray}(h:xs.map (·.data.toList)=ys.map (·.data.toList)):xs=ys:=by
 induction xs generalizing ys with
 |nil=>cases ys with
  |nil=>rfl
  |cons y ys=>cases h
 |cons x xs a=>cases ys with
  |nil=>cases h
  |cons y ys=>
   simp only[Y,List.cons.injEq]at h;rw[QB h.1,a h.2]
def yR:(a.toList==b.toList)=decide (a=b):=by
 rw[toList_data,toList_data]
 by_cases h:a=b
 ·rw[h,decide_eq_true rfl,beq_self_eq_true]
 ·rw[decide_eq_false h];exact beq_eq_false_iff_ne.2 fun e=>h (QB e)
def spl (c:UInt8):List UInt8->List (List UInt8)
 | []=>[[]]
 |b::l=>if b=c then[]::spl c l else match spl c l with
  |x::r=>(b::x)::r
  | []=>[[b]]
def Qs {c:UInt8}:∀{x:List UInt8} {l:List UInt8},c∉x->spl c (x++c::l)=x::spl c l
 | [],l,_=>by rw[bL,spl,if_pos rfl]
 |b::x,l,h=>by
  have h1:b≠c:=fun e=>h (by rw[e];exact ax)
  rw[aM,spl,if_neg h1,Qs fun hh=>h (aw _ hh)]
def LX {c:UInt8}:∀{x:List UInt8},c∉x->spl c x=[x]
 | [],_=>rfl
 |b::x,h=>by
  have h1:b≠c:=fun e=>h (by rw[e];exact ax)
  rw[spl,if_neg h1,LX fun hh=>h (aw _ hh)]
def Vm (c:UInt8):∀l:List UInt8,c∉l\/∃x r,l=x++c::r/\c∉x
 | []=> .inl (by simp)
 |b::l=>by
  by_cases h:b=c
  ·right;exact⟨[],l,by rw[h];rfl,by simp⟩
  ·rcases Vm c l with h1|⟨x,r,rfl,h2⟩
   ·left;simp only[ao,not_or];exact⟨fun e=>h e.symm,h1⟩
   ·right;exact⟨b::x,r,rfl,by simp only[ao,not_or];exact⟨fun e=>h e.symm,h2⟩⟩
def aho {c:UInt8}:∀{x r:List UInt8},c∉x->indexByte (x++c::r) c=x.length
 | [],r,_=>by rw[bL,indexByte,beq_self_eq_true,if_pos rfl];rfl
 |b::x,r,h=>by
  have h1:(b==c)=false:=beq_eq_false_iff_ne.2 fun e=>h (by rw[e];exact ax)
  have a:=aho (r:=r) fun hh=>h (aw b hh)
  have h2:(((x.length:Nat):Int)== -1)=false:=beq_eq_false_iff_ne.2 (by omega);rw[aM,indexByte,h1,a,h2];simp only[be,if_false,W];omega
def Uc (c:UInt8):∀(n:Nat) (l:List UInt8),l.length<=n->splitK [c] 0 (l.count c) l=spl c l
 |n,l,b=>by
  rcases Vm c l with h|⟨x,r,rfl,h⟩
  ·rw[cQ.2 h,splitK,LX h]
  ·have d:(x++c::r).count c=r.count c+1:=by rw[List.count_append,cQ.2 h,List.count_cons_self];omega
   have a:index (x++c::r) [c]=(x.length:Int):=by rw[index_one,aho h]
   have e:¬(index (x++c::r) [c]== -1)=true:=by rw[a,beq_iff_eq];omega
   rw[d,splitK,if_neg e,a,Qs h,aq,Nat.add_zero];have e1:(x++c::r).take x.length=x:=by rw[List.take_left]
   have e2:(x++c::r).drop (x.length+ [c].length)=r:=by
    rw[bh,<-List.drop_drop,List.drop_left];rfl
   rw[e1,e2];cases n with
   |zero=>simp at b
   |succ n=>rw[Uc c n r (by simp at b;omega)]
def tH (s:ByteArray)(c:UInt8):(dJ s c).map (·.data.toList)=spl c s.data.toList:=by
 rw[dJ,splitB_data];have h:countB s ⟨#[c]⟩=s.data.toList.count c:=count_one c _;rw[h];exact Uc c _ _ (aL _)
def V7 {α:Type}{c:UInt8}{f:α->List UInt8}:∀{ns:List α} {w:List UInt8},c∉w->(∀n∈ns,c∉f n)->spl c (w++(ns.map fun n=>c::f n).flatten)=w::ns.map f
 | [],w,a,_=>by simp[LX a]
 |n::ns,w,a,h=>by
  have e:w++((n::ns).map fun n=>c::f n).flatten=w++c::(f n++(ns.map fun n=>c::f n).flatten):=by simp
  rw[e,Qs a,V7 (h n ax) fun m b=>h m (aw _ b)];rfl
def RD (c:UInt8):∀l:List UInt8,∃x r,spl c l=x::r/\l=x++(r.map fun y=>c::y).flatten
 | []=>⟨[],[],rfl,rfl⟩
 |b::l=>by
  obtain⟨x,r,h1,h2⟩:=RD c l;rw[spl,h1]
  by_cases h:b=c
  ·rw[if_pos h]
   exact⟨[],x::r,rfl,by rw[h2,h];simp⟩
  ·rw[if_neg h]
   exact⟨b::x,r,rfl,by rw[aM,<-h2]⟩
def Jc (n:Nat):(dS (n:Int)).data.toList=decDigits n:=by
 rw[dS,itoa,if_neg (by omega),aq]
def Qe {d:Nat}(h:d<10):(UInt8.ofNat (48+d)).toNat=48+d:=by
 have:48+d<256:=by omega
 simp[UInt8.toNat_ofNat];omega
def aeA {n:Nat}(h:n<10):decDigits n=[UInt8.ofNat (48+n)]:=by rw[decDigits,dif_pos h]
def agI {n:Nat}(h:¬n<10):decDigits n=decDigits (n / 10)++ [UInt8.ofNat (48+n % 10)]:=by rw[decDigits,dif_neg h]
def WO:∀(k n:Nat),n<=k->∀b∈decDigits n,48<=b.toNat/\b.toNat<=57
 |k,n,c,b,a=>by
  by_cases h:n<10
  ·rw[aeA h,az]at a
   rw[a,Qe h];omega
  ·rw[agI h]at a
   rcases a8.1 a with a|a
   ·cases k with
    |zero=>omega
    |succ k=>exact WO k (n / 10) (by omega) b a
   ·rw[az.1 a,Qe (dm _ (by decide))]
    have:n % 10<10:=dm _ (by decide);omega
def akx {n:Int}(h:0<=n){c:UInt8}(hc:c.toNat<48):c∉(dS n).data.toList:=fun hh=>by
 obtain⟨m,rfl⟩:=bp h;rw[Jc]at hh;have:=WO m m (aL _) c hh;omega
def JD:∀(k n:Nat),n<10 ^ (k+1)->(decDigits n).length<=k+1/\1<=(decDigits n).length
 |0,n,h=>by rw[aeA (by omega)];simp
 |k+1,n,h=>by
  by_cases h1:n<10
  ·rw[aeA h1];simp
  ·have:=JD k (n / 10) (by rw[Nat.pow_succ]at h;omega)
   rw[agI h1,V,bh];omega
def Vt (w:ByteArray)(i:Nat):w.data.getD i 0=w.data.toList.getD i 0:=by
 rw[b9,<-cF,Q]
def RX (w:ByteArray)(hs:w.size<=4):∀(l:List UInt8) (pos:Nat) (n:Int),w.data.toList.drop pos=l->(∀b∈l,48<=b.toNat/\b.toNat<=57)->wV w l.length pos n=some (l.foldl (fun n b=>10*n+((b.toNat:Int) - 48)) n)
 | [],_,_,_,_=>rfl
 |b::l,pos,n,h,hd=>by
  have c:pos<w.data.toList.length:=by
   refine Nat.lt_of_not_le fun hh=> ?_
   rw[List.drop_of_length_le hh]at h;cases h
  have h2:=List.drop_eq_getElem_cons c;rw[h]at h2;obtain⟨d,f⟩:=List.cons.inj h2;have e:w.data.getD pos 0=b:=by rw[Vt,Q,cq c,d];rfl
  have a:=hd b ax;rw[W,wV,e,if_pos ⟨a.1,a.2,hs⟩,RX w hs l (pos+1) _ f.symm fun x g=>hd x (aw _ g)]
  rfl
def ac0:∀(k n:Nat),n<=k->(decDigits n).foldl (fun n b=>10*n+((b.toNat:Int) - 48)) 0=(n:Int)
 |k,n,a=>by
  by_cases h:n<10
  ·rw[aeA h]
   simp only[bv,cj,Qe h];omega
  ·cases k with
   |zero=>omega
   |succ k=>
    rw[agI h,cm,ac0 k (n / 10) (by omega)];have:n % 10<10:=dm _ (by decide);simp only[bv,cj,Qe this];omega
def Zh {n:Int}(h:0<=n/\n<=9999):iL (dS n)=some n:=by
 obtain⟨m,rfl⟩:=bp h.1;have hd:=Jc m;have c:=JD 3 m (by omega);have a:(dS (m:Int)).size=(decDigits m).length:=by rw[<-size_data,hd]
 have b:=RX (dS (m:Int)) (by omega) (decDigits m) 0 0 (by rw[aD,hd]) (WO m m (aL _));rw[ac0 m m (aL _)]at b;rw[iL,a,b];simp only;rw[if_pos ⟨by omega,trivial⟩]
def abW {w:ByteArray}{n:Int}(h:iL w=some n):dS n=w:=by
 unfold iL at h
 split at h
 ·split at h
  ·rename_i h1
   cases h;exact QB h1.2
  ·cases h
 ·cases h
def OA:∀(ns a:List Int),(∀n∈ns,0<=n/\n<=9999)->jg (ns.map dS) a=some (a++ns)
 | [],a,_=>by simp[jg]
 |n::ns,a,h=>by
  rw[Y,jg,Zh (h n ax)];simp only;rw[OA ns _ fun m b=>h m (aw _ b),bi];rfl
def Df:∀(ws:List ByteArray) (a l:List Int),jg ws a=some l->∃ns,l=a++ns/\ns.map dS=ws
 | [],a,l,h=>by cases h;exact⟨[],by simp,rfl⟩
 |w::ws,a,l,h=>by
  rw[jg]at h;cases b:iL w with
  |none=>rw[b]at h;cases h
  |some n=>
   rw[b]at h;obtain⟨ns,h1,h2⟩:=Df ws _ l h;exact⟨n::ns,by rw[h1,bi];rfl,by rw[Y,abW b,h2]⟩
def YZ (n:Int)(ns:List Int):(GL (n::ns)).data.toList=(dS n).data.toList++(ns.map fun n=>32::(dS n).data.toList).flatten:=by
 show(dr (join ((c3 dS (n::ns)).map (·.data.toList)) [32])).toList=_
 rw[Y,Y,join_cons,joinTail];simp[ca,cW]
variable{x:En}
def GR (h:x.ns≠[]):x.line.data.toList=(fwE x.kind).data.toList++(x.ns.map fun n=>32::(dS n).data.toList).flatten:=by
 obtain⟨n,ns,e⟩:∃n ns,x.ns=n::ns:=by
  cases a:x.ns with
  |nil=>exact absurd a h
  |cons n ns=>exact⟨n,ns,rfl⟩
 rw[En.line,qJ,qJ,e,YZ];simp
def aod {k:Int}(hk:1<=k/\k<=6):(32:UInt8)∉(fwE k).data.toList:=by
 obtain rfl|rfl|rfl|rfl|rfl|rfl:=MQ hk
 all_goals decide
def ag9 {k:Int}(hk:1<=k/\k<=6):kP (jQ (fwE k) (gG k)) fmL 0=k - 1:=by
 obtain rfl|rfl|rfl|rfl|rfl|rfl:=MQ hk
 all_goals kernel_rfl
def wz (h:x.formed=true):(1<=x.kind/\x.kind<=6)/\x.ns.length=gG x.kind/\1<=x.ns.length:=by
 have a:∀k,1<=gG k:=by
  intro k;unfold gG;split
  ·omega
  ·split<;>omega
 simp only[En.formed,U,inR,decide_eq_true_eq]at h;have:=a x.kind;exact⟨by omega,h.1.2,by omega⟩
def acA (h:x.formed=true):dJ x.line 32=fwE x.kind::x.ns.map dS:=by
 obtain⟨h1,h2,a⟩:=wz h;have b:=BD h;refine Dh ?_;rw[tH,GR (by intro e;rw[e]at a;simp at a),V7 (aod h1) fun n c=>akx (b n c).1 (by decide)];simp
def GU (h:x.formed=true):x.line.size<=30:=by
 obtain⟨h1,h2,b⟩:=wz h;have g:=BD h;have c:=Xq x.kind;have a:∀ns:List Int,(∀n∈ns,0<=n/\n<=9999)->(ns.map fun n=>32::(dS n).data.toList).flatten.length<=5*ns.length:=by
  intro ns
  induction ns with
  |nil=>intro _;simp
  |cons n ns j=>
   intro hh;obtain⟨m,c⟩:=bp (hh n ax).1;have d:=(hh n ax).2;have f:=JD 3 m (by omega);have:=j fun y i=>hh y (aw _ i)
   rw[Y,cY,V,W,c,Jc,W];omega
 have d:=a x.ns g;have f:=YJ x.kind;rw[<-size_data,GR (by intro e;rw[e]at b;simp at b),V,size_data];omega
def aaq {line:ByteArray}{a:Int}{ns:List Int}(h:kV line fmL=some (a,ns)):(⟨1+a,ns⟩:En).formed=true/\(⟨1+a,ns⟩:En).line=line:=by
 obtain⟨x,r,h1,h2⟩:=RD 32 line.data.toList;rw[<-tH]at h1;have y:∃w ws,dJ line 32=w::ws/\w.data.toList=x/\ws.map (·.data.toList)=r:=by
  cases o:dJ line 32 with
  |nil=>rw[o]at h1;cases h1
  |cons w ws=>rw[o]at h1;cases h1;exact⟨w,ws,rfl,rfl,rfl⟩
 obtain⟨w,ws,o,rfl,rfl⟩:=y;unfold kV at h;rw[o]at h;simp only[bc,W,cl,cJ,aD]at h
 split at h
 ·rename_i f
  cases q:jg ws []with
  |none=>rw[q]at h;cases h
  |some l=>
   rw[q]at h;simp only[Option.some.injEq,Prod.mk.injEq]at h;obtain⟨rfl,rfl⟩:=h;obtain⟨ns,e1,rfl⟩:=Df ws [] l q;rw[bL]at e1;subst e1;have m:∀n∈l,0<=n/\n<=9999:=by
    have:=ajb (line:=line) (fm:=fmL) (a:=kP (jQ w (l.map dS).length) fmL 0) (ns:=l) (by
     unfold kV;rw[o];simp only[bc,W,cl,cJ,aD];rw[if_pos f,q])
    exact this
   obtain⟨k,c,J,H⟩:∃k:Int,(1<=k/\k<=6)/\w=fwE k/\l.length=gG k/\kP (jQ w (l.map dS).length) fmL 0=k - 1:=by
    have z:∀(n:Nat) (p:ByteArray×Nat),jQ w n p=true->w=p.1/\n=p.2:=by
     intro n p g;rw[jQ,yR,U,decide_eq_true_eq,beq_iff_eq]at g;exact⟨g.1,by omega⟩
    rw[ae]at f⊢;have d:∀k:Int,1<=k/\k<=6->jQ w l.length (fmL.getD (k - 1).toNat default)=true->w=fwE k/\l.length=gG k:=by
     intro k c g;obtain⟨a,b⟩:=z _ _ g;refine⟨a,b.trans ?_⟩;obtain rfl|rfl|rfl|rfl|rfl|rfl:=MQ c
     all_goals rfl
    have s:∀k:Int,1<=k/\k<=6->jQ w l.length (fmL.getD (k - 1).toNat default)=true->∃k:Int,(1<=k/\k<=6)/\w=fwE k/\l.length=gG k/\kP (jQ w l.length) fmL 0=k - 1:=by
     intro k c g;obtain⟨a,b⟩:=d k c g;exact⟨k,c,a,b,by rw[a,b];exact ag9 c⟩
    have j:fmL.any (jQ w l.length)=true:=by rw[<-GK _ fmL 0];exact decide_eq_true f
    obtain⟨p,u,v⟩:=List.any_eq_true.1 j;obtain⟨i,C,rfl⟩:=List.mem_iff_getElem.1 u;have G:i<6:=C;have F:fmL.getD (((i:Int)+1) - 1).toNat default=fmL[i]:=by
     rw[show(((i:Int)+1) - 1).toNat=i by omega,Q,cq C];rfl
    exact s ((i:Int)+1) ⟨by omega,by omega⟩ (by rw[F];exact v)
   obtain⟨t,I⟩:=H;have e:1+kP (jQ w (l.map dS).length) fmL 0=k:=by omega
   rw[e];have B:(⟨k,l⟩:En).formed=true:=by
    simp only[En.formed,U,inR,decide_eq_true_eq,aE];exact⟨⟨⟨c.1,c.2⟩,t⟩,fun n D=>⟨(m n D).1,(m n D).2⟩⟩
   refine⟨B,QB ?_⟩;obtain⟨_,_,A⟩:=wz B;rw[GR (by intro E;rw[E]at A;simp at A),h2,J];simp[ca,cW]
 ·cases h
def KT:aA:=(s0 [ba 1 0 0,mf 2 false] 1 [1] [1] (sw (sr [fa 4 0 1,lw 5 2 4,oa 6 (.aj 58) 5,oa 7 pN 6,mv 8 7,ow 9 (.fld 2) 1 8 0,lq 10 9 8,ow 11 .len 10 8 0,ow 12 (.fld 0) 1 8 0,ow 13 (.fld 1) 12 8 0,lq 14 13 8,ow 15 .len 14 8 0,obF 16 pQ 11 15 8 0,pt 17 8 16,mv 18 17,ow 19 (.fld 3) 1 18 0,lq 20 19 18,ow 21 (.aj 59) 20 18 0,ow 22 pN 21 18 0,pt 23 18 22,mv 24 23,ow 25 (.fld 4) 1 24 0,ow 26 (.load true 2) 25 24 0,ow 27 (.aj 60) 26 24 0,ow 28 pN 27 24 0,pt 29 24 28] 0 [1,29] (cd 29 (sr [mf 2 false] 0 [2] .ret) .skip)) (sw (sr [mi 3 0] 0 [1,3] (lp (sw (sr [mv 30 3,fa 31 2 1,lo 32 31,oa 33 .len 32,ob 34 pL 30 33] 0 [1,3,34] (cx 34 0)) (sw (b1 (sr [fa 37 2 1,lo 38 37,mv 39 3,ix 40 2 38 39,lw 41 2 40,oa 42 (.aj 61) 41,oa 43 pN 42] 0 [1,3,43] (cd 43 (sr [mf 2 false] 0 [2] .ret) .skip))) (rg [mv 35 3,oi 36 pA 35 1,mv 3 36] 0 [1,3]))))) (sr [fa 44 6 1,lw 45 2 44,oa 46 (.aj 62) 45,mv 47 46,ov 48 (.fld 8) 1 47 0,ov 49 (.load true 3) 48 47 0,ov 50 (.aj 63) 49 47 0,pf 51 47 50,mv 52 51,ov 53 (.fld 11) 1 52 0,ov 54 ld 53 52 0,ov 55 (.aj 64) 54 52 0,pf 56 52 55,mv 57 56,ov 58 (.fld 12) 1 57 0,ov 59 ld 58 57 0,ov 60 (.aj 65) 59 57 0,pf 61 57 60,mv 62 61,ov 63 (.load true 17) 1 62 0,ot 64 (.aj 67) [.t 63,cS] 62 0,ov 65 (.aj 66) 64 62 0,pf 66 62 65,mv 2 66] 0 [2] .ret))))
def xk:aA:=(s0 [ba 2 0 0,ag 4 2] 1 [1,2] [2] (sr [ag 5 2] 0 [1,2,5] (sr [lw 8 19 2,oa 9 (.aj 37) 8,mv 6 9] 0 [1,2,5,6] (sw (sr [mi 7 0] 0 [1,2,5,6,7] (lp (sw (sr [mv 10 7,mv 11 6,oa 12 .len 11,ob 13 pL 10 12] 0 [1,2,5,6,7,13] (cx 13 0)) (sw (b1 (sr [mv 16 6,mv 17 7,ix 18 1 16 17,lo 19 18,mv 20 1,ob 21 pQ 19 20] 0 [1,2,5,6,7,21] (cd 21 (r1 [mv 22 5,fu 23 17 2 1,lv 24 23,mv 25 6,mv 26 7,ob1 27 (.aQ 1) 25 26 1,lv 28 27,ob1 29 (.aQ 2) 24 28 1,ou 30 (.load true 2) 29 1,ou 31 (.dU 2 [.agg [z0,zs]] [0]) 30 1,ob 32 (.app 2 false) 22 31,mv 5 32] 0 [1,2,5,6,7] []) .skip))) (rg [mv 14 7,oi 15 pA 14 1,mv 7 15] 0 [1,2,5,6,7]))))) (sr [mv 33 5,mv 4 33] 0 [4] .ret)))))
def O5:aA:=(sr [mf 4 false] 0 [0,1] (sr [mv 5 0,mv 6 1,ob 7 (.aj 87) 5 6,mv 4 7] 0 [4] .ret))
def zB:aA:=(s0 [ba 1 0 0,ag 2 1] 1 [1] [1] (sr [ag 3 1] 0 [1,3] (sw (sr [mi 4 0] 0 [1,3,4] (lp (sw (sr [mv 5 4,fa 6 17 1,lo 7 6,oa 8 .len 7,ob 9 pL 5 8] 0 [1,3,4,9] (cx 9 0)) (sw (b1 (sr [fa 12 17 1,lo 13 12,mv 14 4,ix 15 2 13 14,fa 16 0 15,lo 17 16,oi 18 pQ 17 6,mv 19 18,ov 20 (.fld 18) 1 19 0,ov 21 ld 20 19 0,ov 22 .mov 4 19 0,obT 23 (.aQ 1) 21 22 19 0,ov 24 ld 23 19 0,ov 25 pN 24 19 0,pf 26 19 25] 0 [1,3,4,26] (cd 26 (rg [mv 27 3,mv 28 4,oa 29 (.dU 1 [z0] [0]) 28,ob 30 (.app 1 false) 27 29,mv 3 30] 0 [1,3,4]) .skip))) (rg [mv 10 4,oi 11 pA 10 1,mv 4 11] 0 [1,3,4]))))) (sr [mv 31 3,mv 2 31] 0 [2] .ret))))
def Ie:aA:=(s0 [ba 1 0 0,mf 2 false] 1 [1] [1] (sw (sw (r1 [fu 4 1 1 1,lv 5 4,ou 6 .len 5 1,fu 7 0 1 1,lv 8 7,oa 9 (.aj 123) 8,ob 10 pQ 6 9] 0 [1,10] []) (cd 10 (sr [mf 2 false] 0 [2] .ret) .skip)) (sw (sr [mi 3 0] 0 [1,3] (lp (sw (sr [mv 11 3,fa 12 1 1,lo 13 12,oa 14 .len 13,ob 15 pL 11 14] 0 [1,3,15] (cx 15 0)) (sw (b1 (sr [fa 18 1 1,lo 19 18,mv 20 3,ix 21 1 19 20,lo 22 21,on 23 (.aj 124) [.t 22,kI 0,kI 9999],oa 24 pN 23] 0 [1,3,24] (cd 24 (sr [mf 2 false] 0 [2] .ret) .skip))) (rg [mv 16 3,oi 17 pA 16 1,mv 3 17] 0 [1,3]))))) (sr [mf 2 true] 0 [2] .ret))))
def O4:aA:=(s0 [ba 1 0 0,mk 2 (.c ze)] 1 [1] [1] (sw (r1 [fu 3 0 1 1,lv 4 3,oa 5 (.aj 127) 4,fu 6 1 1 1,lv 7 6,oa 8 (.aj 128) 7,ob 9 pA 5 8,mv 2 9] 0 [2] []) .ret))
def KL:aA:=(sr [al 2 0 [z0,zs],mf 3 false] 1 [0,2] (sr [mv 9 0,oc 10 (.aj 119) 9 (.c (.int .u8 32)),mv 4 10] 0 [2,4] (sr [mv 12 4,oi 13 (.Bf 1 true false false) 12 1,oa 14 (.aj 129) 13,mv 11 14,xa 15 0 11,xa 16 1 11,mv 5 15,mv 6 16] 0 [2,4,5,6] (sw (sr [mi 7 1] 0 [2,4,5,6,7] (lp (sw (sr [mv 17 6,mv 18 17,ov 19 .mov 7 18 0,ot 20 (.bin .leq) [.t 19,kI 6] 18 0,pf 21 18 20] 0 [2,4,5,6,7,21] (cx 21 0)) (sw (b1 (s0 [mv 24 7,mv 25 5,ob 26 (.build [z0,zs] [(0,1),(1,1)]) 24 25,al 8 0 [z0,zs],sk 2 8 26 0] 1 [2,4,5,6,7,8] [8] (sw (r1 [mv 27 4,of 28 (.aQ 1) [.t 27,kI 0] 1,lv 29 28,mv 30 7,oa 31 (.aj 127) 30,ob 32 pE 29 31,mv 33 32,ov 34 (.load true 2) 8 33 1,ov 35 (.aj 43) 34 33 0,pf 36 33 35] 0 [2,4,5,6,7,8,36] []) (cd 36 (sr [lw 37 2 8,sk 2 2 37 0,mf 3 true] 0 [2,3] .ret) .skip)))) (rg [mv 22 7,oi 23 pA 22 1,mv 7 23] 0 [2,4,5,6,7]))))) (sr [on 38 (.build [z0,zs] []) [],sk 2 2 38 0,mf 3 false] 0 [2,3] .ret)))))
def BO:aA:=(s0 [ba 2 0 0,ba 3 1 1,mi 4 0] 2 [2,3] [2,3] (sw (sr [lw 6 2 3,oa 7 (.aj 43) 6,oa 8 pN 7] 0 [2,3,8] (cd 8 (sr [mi 4 2] 0 [4] .ret) .skip)) (sw (sr [fa 9 17 2,lo 10 9,oa 11 .len 10,oi 12 (.bin .geq) 11 24] 0 [2,3,12] (cd 12 (sr [mi 4 3] 0 [4] .ret) .skip)) (sw (sr [fa 13 0 3,lo 14 13,oi 15 pE 14 6] 0 [2,3,15] (cd 15 (sr [fa 16 1 3,lo 17 16,oi 18 (.aQ 1) 17 0,lo 19 18,mv 5 19] 0 [2,5] (sw (sr [mv 20 5,fa 21 17 2,lo 22 21,oa 23 .len 22,ob 24 (.bin .geq) 20 23,mv 25 24,ow 26 (.fld 17) 2 25 0,lq 27 26 25,ow 28 .mov 5 25 0,obF 29 (.aQ 2) 27 28 25 0,ow 30 (.fld 0) 29 25 0,lq 31 30 25,oF 32 pE [.t 31,kI 6] 25 0,pt 33 25 32] 0 [2,5,33] (cd 33 (sr [mi 4 2] 0 [4] .ret) .skip)) (sw (sw (r1 [fu 34 18 2 1,lv 35 34,mv 36 5,ob1 37 (.aQ 1) 35 36 1,lv 38 37,mv 39 38,ow 40 (.fld 0) 2 39 1,ow 41 (.load true 17) 40 39 1,ow 42 (.load true 19) 2 39 1,ow 43 .mov 5 39 0,obF 44 (.aj 22) 42 43 39 0,obF 45 (.aj 131) 41 44 39 0,ow 46 pN 45 39 0,pt 47 39 46] 0 [47] []) (cd 47 (sr [mi 4 7] 0 [4] .ret) .skip)) (sr [mi 4 0] 0 [4] .ret)))) .skip)) (sw (sr [fa 48 0 2,lw 49 17 48,lw 50 2 3,ob 51 (.aj 132) 49 50,oa 52 pN 51] 0 [2,3,52] (cd 52 (sr [mi 4 2] 0 [4] .ret) .skip)) (sw (sw (r1 [fu 53 0 2 1,ou 54 (.load true 17) 53 1,ou 55 (.load true 19) 2 1,oi 56 (.aj 22) 55 (-1),ou 57 (.load true 2) 3 1,on 58 (.aj 133) [.t 54,.t 56,.t 57],oa 59 pN 58] 0 [59] []) (cd 59 (sr [mi 4 7] 0 [4] .ret) .skip)) (sr [mi 4 0] 0 [4] .ret)))))))
def BP:aA:=(s0 [ba 2 0 0,ba 3 1 1,al 4 2 zd] 3 [2,3,4] [2,3] (sr [fa 6 0 2,lw 7 17 6,oa 8 (.build zd [(0,17)]) 7,al 5 0 zd,sk 19 5 8 0] 1 [2,3,4,5] (sw (r1 [fu 9 17 2 1,lv 10 9,on 11 (.app 2 false) [cS,.t 10],fu 12 0 3 1,lv 13 12,fu 14 1 3 1,lv 15 14,on 16 (.X9 1) [cS,.t 15],ob 17 (.build [z0,zs] [(0,1),(1,1)]) 13 16,ou 18 (.dU 2 [.agg [z0,zs]] [0]) 17 1,ob 19 (.app 2 false) 11 18,fu 20 17 5 2,sk 1 20 19 0] 0 [2,3,4,5] []) (sr [fa 21 18 2,lo 22 21,on 23 (.app 1 false) [cS,.t 22],on 24 (.dU 1 [.bool false] [0]) [.c (.bool false)],ob 25 (.app 1 true) 23 24,fa 26 18 5,sk 1 26 25 0] 0 [3,4,5] (sw (sr [fa 27 0 3,lo 28 27,oi 29 pE 28 6] 0 [3,4,5,29] (cd 29 (r1 [fu 30 18 5 2,ou 31 ld 30 2,fu 32 1 3 1,lv 33 32,of 34 (.aQ 1) [.t 33,kI 0] 1,lv 35 34,ix 36 1 31 35,os (.store 1) [.t 36,.c (.bool true)] 3] 0 [4,5] []) .skip)) (sr [lw 37 19 5,sk 19 4 37 0] 0 [4] .ret))))))
end Go.Tel
