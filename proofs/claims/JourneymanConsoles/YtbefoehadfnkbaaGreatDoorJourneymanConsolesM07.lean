/-
  Part 7 of a law of desks.
  Conditions: none.
-/
import Derived.Test.YtbefoehadfnkbaaGreatDoorJourneymanConsolesM04
import Derived.Test.YtbefoehadfnkbaaGreatDoorJourneymanConsolesM06
import Derived.Ground.NamesProg
import Derived.Shelf.Strings.Split
import Derived.Shelf.Strings.OnBuilder
import Derived.Shelf.Strconv.Itoa3
import Derived.Lib.ItoaLen
import Derived.Laws.RangeString
import Derived.Laws.RangeAny
import Derived.Shelf.Small.Strs
set_option linter.all false
set_option maxRecDepth 10000
set_option maxHeartbeats 4000000
open Nat renaming reduceBEq->z,reduceAdd->F,reduceSub->H,reduceEqDiff->I,reduceLT->J,reduceLeDiff->N,le_refl->aL,lt_irrefl->bl,zero_le->bq,div_mul_cancel->bE,add_sub_cancel->cl,sub_self->cB,mul_div_mul_right->cG,gcd_dvd_right->c5,sub_zero->c6,gcd_dvd_left->db,mul_one->de,mod_lt->dl,le_trans->dr,mul_comm->dt,succ_mul->du
open List renaming getD_eq_getElem?_getD->Q,length_append->V,length_cons->W,length_map->Y,getElem?_eq_some_iff->ae,map_cons->ai,getElem?_append_left->am,mem_cons->ao,length_nil->ap,getElem?_set_ne->av,mem_singleton->aw,drop_zero->ax,all_eq_true->az,mem_cons_of_mem->aD,mem_cons_self->aE,cons_append->aM,mem_map->aR,map_append->a7,mem_append->a8,getD_cons_zero->bc,length_singleton->bh,append_assoc->bi,filter_congr->bj,range'->bp,map_nil->br,foldl_cons->bu,getElem?_concat_length->bv,perm_append_singleton->bw,not_mem_nil->bz,append_nil->bA,nil_append->bB,getElem?_set_self->bN,mem_range->bO,mem_range'_1->bR,filter_cons->bX,range_eq_range'->b0,take_append_of_le_length->b3,mem_filter->b4,getD_cons_succ->b7,map_eq_nil_iff->b8,map_map->ca,foldl_nil->cj,pairwise_cons->ck,foldl_append->cm,length->cn,getElem?_eq_getElem->cq,append_cancel_left->ct,range->cz,take_of_length_le->cA,find?_cons->cC,length_set->cD,nodup_cons->cE,pairwise_append->cI,drop_succ_cons->cJ,findSome?_cons->cK,map_congr_left->cL,all_cons->cP,count_eq_zero->cQ,filter_append->cR,filter_filter->cT,zip_cons_cons->cU,any_eq_false->cX,getElem?_map->cY,map->c2,size_toArray->c3,zip_nil_left->c4,drop_length->c7,range'_succ->c8,take_length->c9,filter_nil->dg,range_succ->di,all_nil->dp,toArray->dq,drop->dx,take->dy
open Bool renaming and_eq_true->U,false_eq_true->be,true_and->bk,eq_iff_iff->bt,false_and->cb,and_self->cM,and_true->cN,not_eq_true'->cV
open Int renaming toNat_natCast->aq,eq_ofNat_of_zero_le->bL,mul_nonneg->cf,natAbs_mul->cg,lt_irrefl->cp,le_refl->cH,pow_succ->dm
open Option renaming getD_some->bd,map_none->b5,isSome_iff_exists->cr,getD_none->cv,bind_some->dc,map_some->dj
open Array renaming length_toList->bo,getD_eq_getD_getElem?->b9,getElem?_toList->cF
open ByteArray renaming size_append->bS,data_extract->cw,size->dk
open Function renaming comp_def->cW
open Go.IntKind renaming wrap->dz
namespace Go.Tel
open Go.Am
def agf (ex:Bool):Pure C 240 [.slice ex []] (.d (.tup [])) []:=by
 refine rJ fun X w g l j i=> ?_
 cases i with|cons h1 t1=>
 cases t1;have b:∀a cap,Calls C.P 240 #[.slice a 0 cap] w fun e c=>∃v,e= .returned v/\Later w c/\bU c X v (.tup []):=by
  intro a cap;refine(Go.Proofs.Any.slices_Sort_int_none Go.Proofs.Tryz.laysSort a cap w).mono ?_;rintro e c ⟨rfl,rfl⟩;exact⟨_,rfl,Later.refl _, .tup .nil⟩
 cases h1 with
 |empty j=>exact b _ _
 |slice m o f p n k h=>
  simp only[ap]at f;subst f;exact b _ _
def QE (xs:List Int)(ex:Bool)(hl:xs.length<=1000000){bs:List (Option (List PV))}{fz:List Nat}{ar:List (Option Arr)}(a:FzB ⟨bs,fz,ar⟩){KP:DV->Mem->Prop}:
  SC C 239 [.d (Cb ex xs)] ⟨bs,fz,ar⟩ (fun p M'=>slN 1 true p (xs.map au) M'.aF/\Frm ⟨bs,fz,ar⟩ M'/\(∀k,kOf p=some k->ar.length<=k)/\(xs=[]->p= .d (.slice true []))) KP:=by
 refine aC vU aN ?_;simp only[vU,aN,RN,z];refine SC.kZ (SC.mono (aeb xs ex hl a (KP:=fun _ _=>False)) ?_) (fun _ _ h=>h.elim);rintro p ⟨c,e,b⟩ h;(try simp only[]);exact h
def PI (xs:List Int):List Int:=xs.mergeSort fun x y=>decide (x<=y)
def afQ:PI []=[]:=by simp[PI]
def aiZ {xs:List Int}(h:xs≠[]):PI xs≠[]:=fun e=>h (by
 have:=congrArg cn e;simp only[PI,List.length_mergeSort,ap]at this;exact List.eq_nil_of_length_eq_zero this)
def PK {α:Type}{l:List α}(h:l≠[]):xQ l=1:=by cases l with|nil=>exact absurd rfl h|cons _ _=>rfl
def ai0 (xs:List Int)(ex:Bool)(hl:xs.length<=1000000)(hx:xs≠[]):Pure C 164 [Cb ex xs] (.tsl 0 0 0) [⟨1,(PI xs).map au,0,1⟩]:=by
 refine Po (aC kR aN ?_);simp only[kR,aN,RN,z];refine SC.kZ (SC.mono (QE xs ex hl (bs:=[]) (fz:=[]) (ar:=[]) (by intro i f;simp at f) (KP:=fun _ _=>False)) ?_) (fun _ _ h=>h.elim);rintro p ⟨d,e,c⟩ ⟨h1,h2,g,j⟩;obtain⟨k,ver,st,rfl,b,_,a⟩:=G9 h1 (by simpa using hx);have a:=a rfl;subst a;simp only at b;(try simp only[]);refine ajy (zs:=xs) b hx (by omega) ?_;(try simp only[]);exact⟨k,ver,rfl,by simp only;rw[bN (ae.1 b).1];rfl⟩
def acG (ex:Bool):Pure C 164 [Cb ex []] (.d (.slice true [])) []:=by
 refine bG (aC kR aN ?_);simp only[kR,aN,RN,z];refine SC.kZ (SC.mono (QE [] ex (by simp) (bs:=[]) (fz:=[]) (ar:=[]) (by intro i f;simp at f) (KP:=fun _ _=>False)) ?_) (fun _ _ h=>h.elim);rintro p ⟨b,c,a⟩ ⟨h1,h2,j,e⟩;have g:=e rfl;subst g;(try simp only[]);refine adK (agf false) rfl (ds:=[.slice true []]) rfl rfl ?_;(try simp only[])
 rfl
def ajl (xs:List Int)(ex:Bool):Pure C 165 [.slice ex (xs.map au)] (.d (Cb ex xs)) []:=by
 refine ah xE aN ?_;simp only[xE,aN,RN,z]
 rfl
section
variable (f1 f2 e1 e2:Bool){D:Dk}{t:Sp}(ns:List Int)
def ajo (e:zS D.su 24 t):Ans 76 [xW f1 f2 e1 e2 D t,sF (ns.map au)] (PI t.eP) 0:=by
 have d:=e.st;have c:=ajl t.eP false
 by_cases a:t.eP=[]
 ·have b:=acG false
  rw[a]at c⊢;refine zX afQ (ah iT bW ?_);simp only[iT,bW,jc,cZ,a,RN,z,F,N];refine ak c ?_;(try simp only[RN,z,F,H,I,J,N]);refine yR rfl rfl b (by simp) ?_;simp only[PV.shift,kY,RN]
 ·have b:=ai0 t.eP false (by omega) a
  refine iC (aC iT bW ?_);simp only[iT,bW,jc,cZ,RN,z,F,N];refine ak c ?_;(try simp only[RN,z,F,H,I,J,N]);refine yR rfl rfl b (by simp) ?_;simp only[PV.shift,kY,bI,dS,RN];exact⟨_,rfl,0,0,rfl,by rw[PK (aiZ a)];rfl⟩
def L8 {D:Dk}(hl:D.es.length=D.st.length)(ab:D.es.length<=1000)(hf:∀x∈D.es,gI x.kind<=x.ns.length):
  UF C 163 [.d (.aV (IZ e1 e2 D))] [] (dG D 0) no no no (fun _=>True):=by
 rintro⟨bs,fz,ar⟩ b n R stop K KP ac ae hn y ai Q mD h0 u w;simp only at hn y;refine aC jg gY ?_;simp only[jg,gY,IZ,Y,RN,z,F,N];refine BX (fun m s=>∃(i:Nat) (f:List (List DV)) (E:Mem),m=D.es.length - i/\i<=D.es.length/\s=⟨[(0, .d (.aV (IZ e1 e2 D))),(1, .qg b),(9, .d (.slice e1 (D.es.map En.dv))),(10,pI D.es.length),(11,pI i)],E⟩/\n<=E.boxes.length/\FzB E/\dG D 0=f++dG D i/\R f E)
  D.es.length ⟨0,[],_,rfl,bq _,rfl,hn,y,rfl,h0⟩ ?_
 rintro m s ⟨i,f,⟨g,q,v⟩,rfl,hi,rfl,h,l,c,hR⟩;simp only at h;have S:g.length∉q:=fun e=>bl _ (l _ e)
 by_cases t:i<D.es.length
 case neg=>
  have O:i=D.es.length:=by omega
  subst O;simp only[cp,RN,z];refine w _ _ h ?_;rw[c];have:dG D D.es.length=[]:=by simp[dG,kS]
  rw[this,bA];exact hR
 have B:(i:Int)<(D.es.length:Int):=by omega
 have o:i<D.st.length:=by omega
 have j0:(0:Int)<=(i:Int):=by omega
 have Z:dz .i64 ((i:Int)+1)=((i+1:Nat):Int):=by rw[aB (by omega)];omega
 have a:=Gs hl t;obtain⟨x,U⟩:∃x,x=D.es.getD i default:=⟨_,rfl⟩
 have X:x∈D.es:=by rw[U];exact getD_mem t
 have YK:=QI x (hf x X);rw[<-U]at a;rw[dO]at YK;have r:R f ⟨g++ [some [pI x.kind, .d (sF (x.ns.map au))]],g.length::q,v⟩:=
  Q f _ _ (Moved.ext (xf:=[g.length]) (xb:=[_]) h (by simpa using h)) hR
 have abz:FzB ⟨g++ [some [pI x.kind, .d (sF (x.ns.map au))]],g.length::q,v⟩:=by
  intro j hj;simp only[ao]at hj;simp only[V,W,ap]
  rcases hj with rfl|hj
  ·omega
  ·have:=l j hj;simp only at this;omega
 simp only[B,t,j0,aq,Y,getD_map,<-U,dO,S,bJ,dB,V,RN,z,F,N]
 by_cases L:x.kind=6
 ·have G:(x.kind !=6)=false:=by simp[L]
  rw[if_neg (by simp[L])]at a;simp only[G,Z,RN,z];refine⟨D.es.length - (i+1),_,by omega, .inl rfl,i+1,f,_,rfl,by omega,rfl,by simp;omega,abz,by rw[c,a],r⟩
 have G:(x.kind !=6)=true:=by simp[L]
 cases k:D.st.getD i default
 case true=>
  rw[if_neg (fun e=>by rw[k]at e;cases e.2)]at a;simp only[IZ,G,o,j0,aq,Y,getD_map,kN,k,Z,RN,z,F,N];refine⟨D.es.length - (i+1),_,by omega, .inl rfl,i+1,f,_,rfl,by omega,rfl,by simp;omega,abz,by rw[c,a],r⟩
 rw[if_pos ⟨L,k⟩]at a;simp only[IZ,G,o,j0,aq,Y,getD_map,kN,k,RN,z,F,N];refine ak YK ?_;(try simp only[RN,z,F,H,I,J,N]);refine Bf ?_;refine SY.mono (mD f (pR (i,x.deed)) (dG D (i+1)) _ (by rw[c,a]) (by simp;omega) r) ?_;rintro p M3 ⟨A,hp⟩
 rcases hp with⟨rfl,M⟩|⟨rfl,T⟩
 ·simp only[Z,RN,z]
  have P:=A.len;simp only[V,W,ap]at P;refine⟨D.es.length - (i+1),_,by omega, .inl rfl,i+1,_,M3,rfl,by omega,rfl,by omega,A.fzb abz,by rw[c,a,bi];rfl,M⟩
 ·(try simp only[RN,z])
  exact u _ _ T
def acL (b:D.Ok):Ans 86 [xW f1 f2 e1 e2 D t,sF (ns.map au)] (D.stands.map fun p=>(p.1:Int)) 0:=by
 have Y:D.stands.length<=24:=dr (AA _ _ _) b.few
 by_cases u:D.stands=[]
 ·refine zX (by rw[u];rfl) (bG (aC gW bW ?_))
  simp only[gW,bW,jc,RN,z,F,N];refine sG (L8 e1 e2 b.len (by have:=b.few;omega) (fun x a=>Ac (b.formed x a))) (fun _ h=>h) rfl (by kernel_rfl) (fun i C=>by simp at C;simp[C]) (fun x a=>by simp only[dG,aR]at a;obtain⟨p,_,rfl⟩:=a;rfl) (fun _ h=>h.elim) (fun _ _=>trivial)
   (fun f o=>o.boxes[1]?=some (some [.d (.slice true [])])) ?_ rfl ?_ ?_
  ·intro f o R E h
   exact(E.box 1 (by simp) id).trans h
  ·intro L cells f x H o a
   rw[dG,ax,ax,<-Dk.stands,u]at a;simp at a
  ·rintro⟨m,A,w⟩ h n
   simp only at h;simp only[h,RN,z,N]
   rfl
 ·refine iC (aC gW bW ?_)
  simp only[gW,bW,jc,RN,z,F,N];refine sG (L8 e1 e2 b.len (by have:=b.few;omega) (fun x a=>Ac (b.formed x a))) (fun _ h=>h) rfl (by kernel_rfl) (fun i C=>by simp at C;simp[C]) (fun x a=>by simp only[dG,aR]at a;obtain⟨p,_,rfl⟩:=a;rfl) (fun _ h=>h.elim) (fun _ _=>trivial)
   (fun f o=>∃l r c,D.stands=l++r/\f=l.map pR/\o.boxes[1]?=some (some [c])/\1∉o.fz/\slN 1 true c (l.map fun p=>dI (p.1:Int)) o.aF) ?_ ⟨[],D.stands,_,rfl,rfl,rfl,by simp, .inl ⟨rfl,rfl⟩⟩ ?_ ?_
  ·rintro f o R E ⟨l,r,c,g,v,s,I,J⟩
   exact⟨l,r,c,g,v,(E.box 1 (by simp) id).trans s,fun e=>I ((E.fz 1 (by simp) id).1 e),by rw[E.aF];exact J⟩
  ·rintro L cells f x H ⟨m,A,w⟩ a n q G ⟨l,r,c,g,v,s,I,J⟩ Z
   simp only[W,ap]at n q G s I⊢;obtain⟨p,K,rfl⟩:∃p K,r=p::K:=by
    cases r with
    |nil=>
     rw[dG,ax,ax,<-Dk.stands,g,v]at a;have:=congrArg cn a;simp at this
    |cons p K=>exact⟨p,K,rfl⟩
   have M:x=pR p:=by
    rw[dG,ax,ax,<-Dk.stands,g,v,a7,ai]at a;exact(List.cons.inj (ct a)).1.symm
   subst M;have B:1<m.length:=by omega
   have P:l.length<=24:=by have:=congrArg cn g;simp at this;omega
   simp only[pR,cU,c4,ai,br,s,fD,DV.strip,RN,z,F,N];refine Qj J (by decide) (by intro y Q;simp only[aw]at Q;subst Q;rfl) (by simp) (by simp;omega) fun k ver st V a1 S a3 T a5 U=> ?_
   have j:=U rfl;subst j;simp only[s,I,dX,fB,wS,RN,F,N];exact⟨by rw[av (by omega)];exact q,G,Kept.LQ (by omega) id T (fun _ h=>h.elim),l++ [p],K, .tsl k ver 0,by rw[g];simp,by rw[v];simp[pR],by simp[B], .inr ⟨k,ver,1,rfl,by rw[S];simp,by decide,fun _=> .inl rfl⟩⟩
  ·rintro⟨m,A,w⟩ ⟨l,r,c,g,v,s,I,J⟩ n
   simp only[W,ap]at n s;have X:r=[]:=by
    have:=congrArg cn v;rw[dG,ax,ax,<-Dk.stands,g]at this;simp at this;exact this
   subst X;rw[bA]at g;have aot:l≠[]:=by rw[<-g];exact u
   obtain⟨k,ver,st,rfl,O,_,j⟩:=G9 J (by simpa using aot);have j:=j rfl;subst j;simp only at O;have B:1<m.length:=by omega
   simp only[s,bI,dS,RN,z,N];refine⟨_,rfl,k,ver,rfl,?_⟩;rw[PK (by rw[g];simpa using aot)];simp only[O,g,ca]
   rfl
end
end Go.Tel
namespace Go.Am
section
variable {C:Ctx}
def V9 (C:Ctx)(M:Mem)(args qs:List PV)(ds:List DV):Prop:=∀X w E a,Sim C X w M E->aT w (away X M E) M E a args->bn w (away X (M.frz qs) E) a ds
variable{M:Mem}
def aaF {a b:PV}{e f y:DV}(h:dL M [a,b, .d y]=some [e,f,y]):V9 C M [.agg [a,b], .d y] [a,b, .d y] [.agg [e,f],y]:=by
 intro X w E g m k;cases k with|cons h1 t1=>
 cases t1 with|cons h2 t2=>
 cases t2;cases h1 with|agg hh=>
 rename_i z
 generalize c:z.toList=l at hh;cases hh with|cons i s=>
 cases s with|cons j t=>
 cases t;have hd:=wu (ps:=[a,b, .d y]) m (.cons i (.cons j (.cons h2 .nil))) h (fun q n=>n);cases hd with|cons o u=>
 cases u with|cons p v=>
 cases v with|cons r x=>
 cases x;exact .cons (.agg (by rw[c];exact .cons o (.cons p .nil))) (.cons r .nil)
def afK {f:FuncId}{args qs:List PV}{ds ds':List DV}{r:PV}{k:List Arr}(h:Pure C f ds' r k)(u:YD r=true)(d:k.all mg=true){K:PV->Mem->Prop}{KP:DV->Mem->Prop}
  (m:V9 C M args qs ds)(n:ds.map DV.strip=ds')(s:K (r.shift M.aF.length) {M with aF:=M.aF++k.map some}):SC C f args M K KP:=by
 subst n;intro X w E a c q;have l:=nT c qs;have hd:=(m X w E a c q).strip;refine(h (away X (M.frz qs) E) w a c.glob (fun b i=> .inl (c.iW b i)) (fun b i=>l.yB i) hd).mono fun e F n=> ?_
 obtain⟨v,D,rfl,g,p,x⟩:=n;have o:∀A∈k,A.st≠2:=fun A t e=>by
  have j:=az.1 d A t;simp only[mg,U]at j
  rcases Bool.or_eq_true_iff.1 j.1 with h|h
  ·rw[e]at h;simp at h
  ·rw[e]at h;simp at h
 obtain⟨y,z,B⟩:=Gn c (G8 c g p d) p o;exact⟨_,_,_,s,y,z,NI c.bP (fun b i=>(B b).1 i) (VP g d u x)⟩
end
end Go.Am
namespace Go.Tel
open Go.Am
variable{f:FuncId}{args qs:List PV}{M:Mem}{ds ds':List DV}{K:PV->Mem->Prop}{KP:DV->Mem->Prop}
def als {n:Int}(h:Pure C f ds' (.d (yZ n)) [])(k:V9 C M args qs ds)(l:ds.map DV.strip=ds')(p:K (.d (yZ n)) M):SC C f args M K KP:=by
 subst l;intro X w E a c o;have i:=nT c qs;have hd:=(k X w E a c o).strip;refine(h (away X (M.frz qs) E) w a c.glob (fun b j=> .inl (c.iW b j)) (fun b j=>i.yB j) hd).mono fun e x l=> ?_
 obtain⟨v,t,rfl,g,m,q⟩:=l;obtain⟨r,s,u⟩:=Gn c (G8 c g m rfl) m (by simp);exact⟨_,_,_,(by simpa using p),r,s, .d (adt q.toD)⟩
variable{l:List Int}
def amd {e:Int}(h:Ans f ds' l e)(a:V9 C M args qs ds)(i:ds.map DV.strip=ds')
  (g:∀p c xa,(p= .tup [c,pI e]\/(p= .d (.tup [.slice true [],dI e])/\c= .d (.slice true [])))->slN 1 true c (l.map au) (M.aF++xa)->(∀k,kOf c=some k->M.aF.length<=k)->K p ⟨M.boxes,M.fz,M.aF++xa⟩):SC C f args M K KP:=by
 rcases h with h|⟨rfl,h⟩
 ·refine afK h rfl ?_ a i ?_
  ·simp only[cP,dp,cN];exact JM l
  ·refine g _ (.tsl M.aF.length 0 0) [some ⟨1,l.map au,0,xQ l⟩] (.inl ?_) (.inr ⟨_,0,xQ l,rfl,by simp,He,fun _=> ?_⟩) (fun k b=>by cases b;exact aL _)
   ·simp[PV.shift,kY,TI]
   ·cases l with
    |nil=>exact .inr rfl
    |cons x l=>exact .inl rfl
 ·refine als h a i ?_
  have:=g (.d (yZ e)) (.d (.slice true [])) [] (.inr ⟨rfl,rfl⟩) (.inl ⟨rfl,rfl⟩) (fun k b=>by cases b)
  simpa using this
structure Qn where
 kind:Int
 ns:List Int
 deriving DecidableEq,Inhabited
def Qn.dv (x:Qn):DV:= .agg [dI x.kind,sF (x.ns.map au)]
def ac7 {x:Qn}:x.dv= .agg [dI x.kind,sF (x.ns.map au)]:=by rw[Qn.dv]
def Qn.n (x:Qn)(i:Nat):Int:=x.ns.getD i default
def amL:List (ByteArray×Nat):=[(⟨#[104,97,110,100,115]⟩,0),(⟨#[115,116,111,99,107]⟩,0),(⟨#[111,112,101,110]⟩,0),(⟨#[112,114,105,99,101]⟩,1),(⟨#[110,101,101,100]⟩,3),(⟨#[111,102,102]⟩,2),(⟨#[119,114,111,110,103]⟩,0),(⟨#[119,111,114,107,115]⟩,1),(⟨#[100,97,116,101]⟩,1),(⟨#[99,117,116,115]⟩,1),(⟨#[99,111,105,110,115]⟩,0),(⟨#[115,116,97,110,100,115]⟩,0)]
def fwQ (k:Int):ByteArray:=(amL.getD (k - 1).toNat default).1
def xg (k:Int):Nat:=(amL.getD (k - 1).toNat default).2
def JB {k:Int}(h:1<=k/\k<=12):k=1\/k=2\/k=3\/k=4\/k=5\/k=6\/k=7\/k=8\/k=9\/k=10\/k=11\/k=12:=by omega
def an3 {k:Int}(h:1<=k/\k<=12):agj (ji (dy 2 (dx ((k - 1).toNat*2) (c2 PV.d (Um amL))))) (dy 2 (dx ((k - 1).toNat*2) (c2 PV.d (Um amL))))= .d (.agg [.str (fwQ k),dI (xg k)])/\(k - 1).toNat*2+2<=(c2 PV.d (Um amL)).length/\dz .i64 (k - 1)=k - 1:=by
 rcases JB h with rfl|rfl|rfl|rfl|rfl|rfl|rfl|rfl|rfl|rfl|rfl|rfl<;>exact⟨rfl,by decide,by decide⟩
def ada:Um amL=[.str ⟨#[104,97,110,100,115]⟩,dI 0, .str ⟨#[115,116,111,99,107]⟩,dI 0, .str ⟨#[111,112,101,110]⟩,dI 0, .str ⟨#[112,114,105,99,101]⟩,dI 1, .str ⟨#[110,101,101,100]⟩,dI 3, .str ⟨#[111,102,102]⟩,dI 2, .str ⟨#[119,114,111,110,103]⟩,dI 0, .str ⟨#[119,111,114,107,115]⟩,dI 1, .str ⟨#[100,97,116,101]⟩,dI 1, .str ⟨#[99,117,116,115]⟩,dI 1, .str ⟨#[99,111,105,110,115]⟩,dI 0, .str ⟨#[115,116,97,110,100,115]⟩,dI 0]:=rfl
def agt:Pure C 71 [] (.d (.agg (Um amL))) []:=by
 refine ah zl aiA ?_;simp only[zl,aiA,ada,GL,RN,z,F,N]
def amf (k:Int):FuncId:=([75,76,77,78,79,80,81,82,83,84,85,86]:List FuncId).getD (k - 1).toNat default
def Dk.answer (D:Dk)(t:Sp)(q:Qn):List Int×Int:=
 if q.kind=1 then(Jb t.pc,0)else if q.kind=2 then(PI t.eP,0)else if q.kind=3 then(mZ t.op t.pc.hands.length,0)
 else if q.kind=4 then(if inR (q.n 0) 0 (D.su.pc.hands.length - 1)then[Dx D.su t (q.n 0).toNat]else[],if inR (q.n 0) 0 (D.su.pc.hands.length - 1)then 0 else 2)
 else if q.kind=5 then oL D t (q.n 0) (q.n 1) (q.n 2)
 else if q.kind=6 then(if inR (q.n 0) 0 (D.su.pc.hands.length - 1)&&inR (q.n 1) 1 D.su.days.length then[(sN t.pc (q.n 0) (t.tg.getD (q.n 0).toNat default) (t.turns (q.n 1))).1]else[],
  if inR (q.n 0) 0 (D.su.pc.hands.length - 1)&&inR (q.n 1) 1 D.su.days.length then(sN t.pc (q.n 0) (t.tg.getD (q.n 0).toNat default) (t.turns (q.n 1))).2 else 2)
 else if q.kind=7 then([nN D.su t D.su.days.length],0)
 else if q.kind=8 then(if inR (q.n 0) 1 D.su.days.length then(match kH D.nX ((D.su.days.length:Int)+1 - q.n 0).toNat (q.n 0)with|some d=>[d]|none=>[])else[],
  if inR (q.n 0) 1 D.su.days.length then(match kH D.nX ((D.su.days.length:Int)+1 - q.n 0).toNat (q.n 0)with|some _=>0|none=>5)else 2)
 else if q.kind=9 then(if inR (q.n 0) 1 D.su.days.length then[(Ea D.su.cal D.su.year.toNat (D.su.first+(q.n 0 - 1))).m,(Ea D.su.cal D.su.year.toNat (D.su.first+(q.n 0 - 1))).d]else[],if inR (q.n 0) 1 D.su.days.length then 0 else 2)
 else if q.kind=10 then([(D.su.dvd.cuts (q.n 0)).1.circle,(D.su.dvd.cuts (q.n 0)).1.turns,(D.su.dvd.cuts (q.n 0)).1.holes],(D.su.dvd.cuts (q.n 0)).2)
 else if q.kind=11 then([t.kM],0)
 else(D.stands.map fun p=>(p.1:Int),0)
def agn (f1 f2 e1 e2:Bool){D:Dk}{t:Sp}(a:D.Ok)(c:zS D.su 24 t)(q:Qn)(hk:1<=q.kind/\q.kind<=12)(b:q.ns.length=xg q.kind):
  Ans (amf q.kind) [xW f1 f2 e1 e2 D t,sF (q.ns.map au)] (D.answer t q).1 (D.answer t q).2:=by
 obtain⟨k,ns⟩:=q;simp only at hk b⊢
 rcases JB hk with rfl|rfl|rfl|rfl|rfl|rfl|rfl|rfl|rfl|rfl|rfl|rfl
 ·exact aki _ _ _ _ _ c
 ·exact ajo _ _ _ _ _ c
 ·exact ah2 _ _ _ _ _ c
 ·exact amk _ _ _ _ _ a c b
 ·exact anB _ _ _ _ _ a c b
 ·exact aoX _ _ _ _ _ a c b
 ·exact alM _ _ _ _ _ a c
 ·exact alJ _ _ _ _ _ a b
 ·exact amn _ _ _ _ _ a b
 ·exact aml _ _ _ _ _ a b
 ·exact anG _ _ _ _ _
 ·exact acL _ _ _ _ _ a
def Dk.ask (D:Dk)(q:Qn):List Int×Int:=
 if inR q.kind 1 12=false then([],2)else if q.ns.length≠xg q.kind then([],2)else
  match D.state (-1)with
  |none=>([],7)
  |some t=>if(D.answer t q).2=0 then D.answer t q else([],(D.answer t q).2)
variable{s:Su}{a b:Nat}
def gK.same {mb:Nat}{cst cse:PV}{t:Sp}{M':Mem}(h:gK s a b mb cst cse t M)(hb:M'.boxes[b]?=M.boxes[b]?)(g:M'.boxes[mb]?=M.boxes[mb]?)(c:M'.aF=M.aF)(d:b∉M'.fz)(e:mb∉M'.fz)(f:FzB M'):gK s a b mb cst cse t M':=
 {box:=hb.trans h.box
  map:=g.trans h.map
  r0:=by rw[c];exact h.r0
  r1:=by rw[c];exact h.r1
  r2:=by rw[c];exact h.r2
  r3:=by rw[c];exact h.r3
  r4:=by rw[c];exact h.r4
  r5:=by rw[c];exact h.r5
  stk:=by rw[c];exact h.stk
  set:=by rw[c];exact h.set
  kst:=h.kst,kse:=h.kse,dif:=h.dif,nb:=d,nm:=e,bm:=h.bm,fzb:=f}
def Frm.aiU {a:List (Option (List PV))}{b:List Nat}{ar':List (Option Arr)}{y:Option (List PV)}{i:Nat}(h:Frm M ⟨a,b,ar'⟩)(hi:M.boxes.length<=i):Frm M ⟨a.set i y,b,ar'⟩:=
 {len:=by have:=h.len;simp only[cD]at this⊢;omega
  bP:=h.bP
  box:=fun j c=>by
   have h2:=h.box j c;simp only at h2⊢;rw[av (by omega)];exact h2
  fz:=h.fz
  row:=h.row
  fzb:=fun e j c=>by have:=h.fzb e j c;simp only[cD]at this⊢;exact this}
variable{D:Dk}{d:Nat}
def ajF {ce cs:PV}(h:nZ D d ce cs M)(n:D.Ok){pb ab:Nat}(o:M.boxes[pb]?=some (some [.ptr d 0]))(m:M.boxes[ab]?=some (some [.d .nilPtr, .ptr d 0]))(j:ab∉M.fz):
  SC C 73 [.ptr pb 0, .ptr ab 0] M
   (fun _ M'=>∃t b mb a cst cse c f g,D.state (-1)=some t/\gK D.su a b mb cst cse t ⟨c,f,g⟩/\Frm M ⟨c,f,g⟩/\M.boxes.length<=b/\M.boxes.length<=mb/\M'=⟨c.set ab (some [.ptr b 0, .ptr d 0]),f,g⟩)
   (fun p M'=>D.state (-1)=none/\IJ p/\Frm M M'):=by
 have w:=h;obtain⟨bs,fz,ar⟩:=M;simp only at o m j;have x:pb<bs.length:=(ae.1 o).1;have k:ab<bs.length:=(ae.1 m).1;refine aC qU gY ?_;simp only[qU,gY,o,RN,z,F,N];refine SC.mono (MZ w n (-1)) ?_;rintro v ⟨c,f,g⟩ ⟨t,b,mb,a,cst,cse,rfl,q,r,l,s,u,y⟩;have i:c[ab]?=some (some [.d .nilPtr, .ptr d 0]):=(l.box ab k).trans m;have apm:ab<c.length:=(ae.1 i).1;have apl:ab∉f:=fun e=>j ((l.fz ab k).1 e)
 simp only[i,apl,vY,GX,RN,F,N];exact⟨t,b,mb,a,cst,cse,c,f,g,q,r,l,s,u,rfl⟩
def amg {k:Int}(h:1<=k/\k<=12):(c2 PV.d [DV.func (.func 75) [] [], .func (.func 76) [] [], .func (.func 77) [] [], .func (.func 78) [] [], .func (.func 79) [] [], .func (.func 80) [] [], .func (.func 81) [] [], .func (.func 82) [] [], .func (.func 83) [] [], .func (.func 84) [] [], .func (.func 85) [] [], .func (.func 86) [] []]).getD (k - 1).toNat .dead= .d (.func (.func (amf k)) [] [])/\callable C.P (amf k)=true:=by
 rcases JB h with rfl|rfl|rfl|rfl|rfl|rfl|rfl|rfl|rfl|rfl|rfl|rfl<;>exact⟨rfl,by kernel_rfl⟩
def al7 {ce cs:PV}(h:nZ D d ce cs M)(S:D.Ok)(q:Qn){KP:DV->Mem->Prop}:
  SC C 21 [.ptr d 0, .d q.dv] M (fun p M'=>∃c,(p= .tup [c,pI ((D.ask q).2)]\/(p= .d (.tup [.slice true [],dI (D.ask q).2])/\c= .d (.slice true [])))/\slN 1 true c ((D.ask q).1.map au) M'.aF/\(∀k,kOf c=some k->M.aF.length<=k)/\Frm M M') KP:=by
 obtain⟨bs,fz,ar⟩:=M;have u:=h.box;rw[je]at u;simp only at u;have bq:d<bs.length:=(ae.1 u).1;have E8:∀i∈fz,i<bs.length:=h.fzb
 have bt:bs.length∉fz:=fun e=>bl _ (E8 _ e)
 have aq:∀k,bs.length+k∉fz:=fun k e=>by have:=E8 _ e;omega
 have bj:¬d=bs.length:=by omega
 have bk:∀k,¬d=bs.length+k:=fun k=>by omega
 have bo:∀k,d<bs.length+k:=fun k=>by omega
 have bu:¬bs.length+1=bs.length:=by omega
 have bv:¬bs.length+2=bs.length:=by omega
 have bc:¬bs.length+2=bs.length+1:=by omega
 have K:Frm ⟨bs,fz,ar⟩ ⟨bs++ [some [.ptr d 0],some [pI q.kind, .d (sF (q.ns.map au))]],(bs.length+1)::fz,ar⟩:=Frm.new (xf:=[bs.length+1]) (by simp);obtain⟨e1,e2,a4⟩:=JF (h.frm K);refine aC uG bW ?_;simp only[uG,bW,ac7,jY,bJ,nS,dB,V,vY,Rl,RN,z,F,N];refine lu (JE a4) rfl (YT e1 e2 D) rfl ?_;(try simp only[RN,z,F,N]);refine ak (Af _ _ _) ?_;cases g:inR q.kind 1 12
 ·(try simp only[RN,z])
  have he:D.ask q=([],2):=by simp[Dk.ask,g]
  rw[he];exact⟨_, .inr ⟨rfl,rfl⟩, .inl ⟨rfl,rfl⟩,(fun k g=>by cases g),K⟩
 have P:1<=q.kind/\q.kind<=12:=by simpa[inR]using g
 simp only[Y,RN,z,F,N];refine ak agt ?_;obtain⟨a1,a2,a3⟩:=an3 P;simp only[a3,a1,RN,F,N];refine⟨by omega,by omega,a2,?_⟩
 by_cases hn:q.ns.length=xg q.kind
 case neg=>
  have hb:((q.ns.length:Int) !=(xg q.kind:Int))=true:=by simp;omega
  simp only[hb,RN,z];have he:D.ask q=([],2):=by simp[Dk.ask,g,hn]
  rw[he];exact⟨_, .inr ⟨rfl,rfl⟩, .inl ⟨rfl,rfl⟩,(fun k g=>by cases g),K⟩
 have hb:((q.ns.length:Int) !=(xg q.kind:Int))=false:=by simp[hn]
 simp only[hb,jY,bJ,nS,bi,V,aq,bc,GX,aeW,oh,b5,eU,ig,RN,z,F,N];refine⟨rfl,?_⟩;obtain⟨B,T⟩:∃B,B=bs++ [some [.ptr d 0],some [pI q.kind, .d (sF (q.ns.map au))],some [.d .nilPtr, .ptr d 0]]:=⟨_,rfl⟩
 obtain⟨Z,hZ⟩:∃Z,Z=(bs.length+1)::fz:=⟨_,rfl⟩
 have bh:B.length=bs.length+3:=by rw[T];simp
 have aE:B[bs.length]?=some (some [.ptr d 0]):=by rw[T,bJ rfl];rfl
 have aD:B[bs.length+2]?=some (some [.d .nilPtr, .ptr d 0]):=by rw[T,jY rfl];rfl
 have x:Frm ⟨bs,fz,ar⟩ ⟨B,Z,ar⟩:=by rw[T,hZ];exact Frm.new (xf:=[bs.length+1]) (by simp)
 have aM:bs.length+2∉Z:=by
  rw[hZ];intro e
  rcases ao.1 e with e|e
  ·omega
  ·exact aq _ e
 simp only[<-T,<-hZ];have aL:Frm ⟨B,Z,ar⟩ ⟨B++ [some [pI 0]],Z,ar⟩:=Frm.new (xf:=[]) (by simp);have abv:=x.trans aL;have z0:((0:Int) !=0)=false:=rfl;have z7:((7:Int) !=0)=true:=rfl;refine Qh (fs:=[]) (cs:=[.ptr bs.length 0, .ptr (bs.length+2) 0]) (x.fzb h.fzb) (by kernel_rfl) ?_;refine SC.kZ (SC.mono (ajF (h.frm abv) S (pb:=bs.length) (ab:=bs.length+2) ?_ ?_ aM) ?_) ?_
 ·simp only;rw[am (by omega)];exact aE
 ·simp only;rw[am (by omega)];exact aD
 ·rintro v M' ⟨t,b,mb,a,az,ax,o,f,j,g1,J,w,g4,g5,rfl⟩
  simp only[V,W,ap]at g4 g5;have A:=abv.trans w;have a8:=w.len;simp only[V,W,ap]at a8;have L:o[B.length]?=some (some [pI 0]):=by
   have:=w.box B.length (by simp);simp only at this;rw[this,bJ rfl];rfl
  have O:B.length∉f:=fun e=>by
   have:=(w.fz B.length (by simp)).1 e;simp only at this;have h5:=x.fzb h.fzb _ this;simp only at h5;omega
  obtain⟨n,m⟩:∃n,n=o.set (bs.length+2) (some [.ptr b 0, .ptr d 0]):=⟨_,rfl⟩
  have aqs:n.length=o.length:=by rw[m];simp
  have apg:n[bs.length+2]?=some (some [.ptr b 0, .ptr d 0]):=by rw[m,bN (by omega)]
  have aph:n[B.length]?=some (some [pI 0]):=by rw[m,av (by omega)];exact L
  have E:Frm ⟨bs,fz,ar⟩ ⟨n,f,j⟩:=by rw[m];exact A.aiU (by simp only;omega)
  have an:FzB ⟨n,f,j⟩:=E.fzb h.fzb;have R:n.length∉f:=fun e=>bl _ (an _ e)
  rw[<-m];refine⟨aph,O,?_⟩;have aR:bs.length+2<n.length:=by omega
  have jk:0<=q.kind - 1:=by omega
  have bw:q.kind - 1<12:=by omega
  have bz:(q.kind - 1).toNat+1<=12:=by omega
  obtain⟨ac,a5⟩:=amg P;simp only[ai,br]at ac;simp only[z0,GL,dQ,bJ,dB,R,apg,aR,V,a3,Nat.zero_add,de,RN,z,F,N];refine⟨rfl,by omega,by omega,by omega,by omega,by omega,?_⟩;rw[ac];simp only[oh,eU,fQ,RN];refine⟨a5,?_⟩;obtain⟨X,hX⟩:∃X,X=[some [PV.d (DV.func (Fn.func 75) [] []),PV.d (DV.func (Fn.func 76) [] []),PV.d (DV.func (Fn.func 77) [] []),PV.d (DV.func (Fn.func 78) [] []),PV.d (DV.func (Fn.func 79) [] []),PV.d (DV.func (Fn.func 80) [] []),PV.d (DV.func (Fn.func 81) [] []),PV.d (DV.func (Fn.func 82) [] []),PV.d (DV.func (Fn.func 83) [] []),PV.d (DV.func (Fn.func 84) [] []),PV.d (DV.func (Fn.func 85) [] []),PV.d (DV.func (Fn.func 86) [] [])]]:=⟨_,rfl⟩
  simp only[<-hX];have G:Frm ⟨bs,fz,ar⟩ ⟨n++X,f,j⟩:=E.trans (Frm.new (xf:=[]) (by simp));have bp:b<o.length/\mb<o.length:=⟨(ae.1 J.box).1,(ae.1 J.map).1⟩
  have bd:gK D.su a b mb az ax t ⟨n++X,f,j⟩:=J.same (by
    simp only;rw[am (by omega),m,av (by omega)]) (by
    simp only;rw[am (by omega),m,av (by omega)]) rfl J.nb J.nm (G.fzb h.fzb)
  obtain⟨f1,f2,be⟩:=aai bd;obtain⟨d1,d2,a0⟩:=JF (h.frm G);have a6:=S.TQ g1;have hA:=agn f1 f2 d1 d2 S a6 q P hn;have hL:dL ⟨n++X,f,j⟩ [.ptr b 0, .ptr d 0, .d (sF (q.ns.map au))]=some [.aV (t.cells f1 f2 D.su),vG d1 d2 D,sF (q.ns.map au)]:=by
   simp only[dL,be,a0];rfl
  have U:D.ask q=if(D.answer t q).2=0 then D.answer t q else([],(D.answer t q).2):=by
   simp only[Dk.ask,g,hn,g1];simp
  rw[U];generalize D.answer t q=r at*;obtain⟨l,e⟩:=r;simp only at hA⊢;refine amd (ds:=[xW f1 f2 d1 d2 D t,sF (q.ns.map au)]) hA (aaF hL) rfl fun p c xa hp hs a7=> ?_
  have s:Frm ⟨bs,fz,ar⟩ ⟨n++X,f,j++xa⟩:=G.trans (by have:=Frm.ext (bs:=n++X) (xb:=[]) (fz:=f) (xf:=[]) (ar:=j) (xa:=xa) (by simp);simpa using this);have Q:∀k,kOf c=some k->ar.length<=k:=fun k g=>dr G.bP (a7 k g)
  by_cases hr:e=0
  ·subst hr
   simp only[if_true]
   rcases hp with rfl|⟨rfl,rfl⟩
   ·rcases hs with⟨rfl,hl⟩|⟨k,ver,st,rfl,hl⟩
    ·simp only[uj,um,z0,RN,z]
     exact⟨_, .inr rfl, .inl ⟨rfl,hl⟩,Q,s⟩
    ·simp only[uj,um,z0,bI,dS,RN,z]
     exact⟨_, .inl rfl, .inr ⟨k,ver,st,rfl,hl⟩,Q,s⟩
   ·simp only[z0,RN,z]
    exact⟨_, .inr rfl,hs,Q,s⟩
  ·have hz:(e !=0)=true:=by simp[hr]
   rw[if_neg hr]
   rcases hp with rfl|⟨rfl,rfl⟩
   ·simp only[uj,um,hz,RN,z]
    exact⟨_, .inr rfl, .inl ⟨rfl,rfl⟩,(fun k g=>by cases g),s⟩
   ·simp only[hz,RN,z]
    exact⟨_, .inr rfl, .inl ⟨rfl,rfl⟩,(fun k g=>by cases g),s⟩
 ·rintro dd ⟨H,I,aw⟩ ⟨g1,J,w⟩
  have A:=abv.trans w;have a9:=w.len;simp only[V,W,ap]at a9;have L:H[B.length]?=some (some [pI 0]):=by
   have:=w.box B.length (by simp);simp only at this;rw[this,bJ rfl];rfl
  have O:B.length∉I:=fun e=>by
   have:=(w.fz B.length (by simp)).1 e;simp only at this;have h5:=x.fzb h.fzb _ this;simp only at h5;omega
  have ahm:=A.fzb h.fzb;have R:H.length∉I:=fun e=>bl _ (ahm _ e)
  have he:D.ask q=([],7):=by simp[Dk.ask,g,hn,g1]
  refine⟨L,O,R, .inl ⟨J,fun y=> ?_⟩⟩;rw[he];simp only[z7,RN,z];have E:Frm ⟨bs,fz,ar⟩ ⟨(H++ [y]).set B.length (some [pI 7]),I,aw⟩:=A.aiV (by simp only;omega);exact⟨_, .inr rfl, .inl ⟨rfl,rfl⟩,(fun k g=>by cases g),E⟩
def En.chg (x:En):Chg:=⟨x.n 0,⟨x.n 1,x.n 2⟩⟩
def qN (p:Pc)(x:En):Pc:=if x.kind=2 then p.changed x.chg else p
def bD (s:Su)(l:List En):Pc:=l.foldl qN s.pc
def pK:List Int->Int->List Int
 | [],n=>[n]
 |x::l,n=>if x<=n then x::pK l n else n::x::l
def dH (l:List Int)(n:Int):List Int×Bool:=if n∈l then(l.erase n,true)else(l,false)
def iG (st:List Int)(c d:Pr):List Int×Bool:=
 let r1:=if c.a≠d.a then dH st d.a else(st,true)
 let r2:=if r1.2=true/\c.b≠d.b then dH r1.1 d.b else r1
 let e:=if c.a≠d.a then pK r2.1 c.a else r2.1
 (if c.b≠d.b then pK e c.b else e,r2.2)
def jQ (p:Pc)(x:En):Pr:=(p.links.getD (x.n 0).toNat default).pr
def NS (r:Pc×List Int)(x:En):Pc×List Int:=
 (qN r.1 x,if x.kind=1 then pK r.2 (x.n 0)else if x.kind=2 then(iG r.2 (jQ r.1 x) x.chg.pr).1 else r.2)
def jd (s:Su)(l:List En):List Int:=(l.foldl NS (s.pc,[])).2
def lC (h:Int)(r:Fr×Bool)(x:En):Fr×Bool:=
 if x.kind=3/\x.n 0=h then(⟨x.n 1,x.n 2⟩,true)else if x.kind=4/\x.n 0=h then(r.1,false)else r
def bg (l:List En)(h:Int):Fr×Bool:=l.foldl (lC h) (⟨0,0⟩,false)
def TW (h:Int)(r:Fr×(Fr×Bool))(x:En):Fr×(Fr×Bool):=
 (if x.kind=4/\x.n 0=h then r.2.1 else r.1,lC h r.2 x)
def pX (s:Su)(l:List En)(h:Int):Fr:=(l.foldl (TW h) (s.tg.getD h.toNat default,(⟨0,0⟩,false))).1
def tY (l:List En):Int:=l.foldl (fun n x=>if x.kind=4 then n+x.n 1 else n) 0
def qJ (l:List En):List Int:=(l.filter fun x=>x.kind==5).map fun x=>x.n 0
def jF (s:Su)(l:List En)(x:En):bD s (l++ [x])=qN (bD s l) x:=by simp[bD]
def afS (s:Su)(l:List En):(l.foldl NS (s.pc,[])).1=bD s l:=by
 unfold bD;generalize s.pc=p;generalize ([]:List Int)=st
 induction l generalizing p st with
 |nil=>rfl
 |cons x l a=>simp only[bu];rw[<-a];rfl
def iF (s:Su)(l:List En)(x:En):jd s (l++ [x])=if x.kind=1 then pK (jd s l) (x.n 0)else if x.kind=2 then(iG (jd s l) (jQ (bD s l) x) x.chg.pr).1 else jd s l:=by
 unfold jd;simp only[cm,bu,cj,NS,afS]
def lX (l:List En)(h:Int)(x:En):bg (l++ [x]) h=lC h (bg l h) x:=by simp[bg]
def ajf (s:Su)(l:List En)(h:Int)(f:Fr):(l.foldl (TW h) (f,(⟨0,0⟩,false))).2=bg l h:=by
 unfold bg;generalize ((⟨0,0⟩,false):Fr×Bool)=o
 induction l generalizing f o with
 |nil=>rfl
 |cons x l a=>simp only[bu];rw[<-a];rfl
def mP (s:Su)(l:List En)(h:Int)(x:En):pX s (l++ [x]) h=if x.kind=4/\x.n 0=h then(bg l h).1 else pX s l h:=by
 unfold pX;simp only[cm,bu,cj,TW,ajf s]
def oC (l:List En)(x:En):tY (l++ [x])=if x.kind=4 then tY l+x.n 1 else tY l:=by simp[tY]
def wP (l:List En)(x:En):qJ (l++ [x])=if x.kind=5 then qJ l++ [x.n 0]else qJ l:=by
 unfold qJ
 by_cases h:x.kind=5<;>simp[h]
def nU (p:Pc)(c:Chg):List Int:=((cz p.hands.length).filter fun i=>decide (bQ (aP p.links (p.hands.getD i default).toNat)≠bQ (aP (p.changed c).links (p.hands.getD i default).toNat))).map fun(i:Nat)=>(i:Int)
def Dy (s:Su)(p:Pc)(h:Int):Int:=(s.bil (bZ (aP p.links (p.hands.getD h.toNat default).toNat))).price
def Nu (p:Pc)(h:Int)(f:Fr)(turns:Int):Int:=ab5 (aP p.links (p.hands.getD h.toNat default).toNat) f turns
def lN (s:Su)(l:List En)(x:En):Bool:=
 if x.kind=1 then(s.dvd.first (x.n 0)).isSome&&decide ((jd s l).length<8)
 else if x.kind=2 then !decide (jQ (bD s l) x=x.chg.pr)&&(iG (jd s l) (jQ (bD s l) x) x.chg.pr).2&&(nU (bD s l) x.chg).all fun h=>(bg l h).2
 else if x.kind=3 then !(bg l (x.n 0)).2
 else if x.kind=4 then(bg l (x.n 0)).2&&inR (Nu (bD s l) (x.n 0) (bg l (x.n 0)).1 100) (-s.lim) s.lim&&decide (x.n 1>=Dy s (bD s l) (x.n 0))
 else !((l.any fun y=>y.kind==5&&decide (y.n 0>=x.n 0)))&&s.works (s.first+x.n 0 - 1)
def kF (s:Su)(l:List En):Bool:=(cz l.length).all fun i=>lN s (l.take i) (l.getD i default)
def EK (s:Su)(l:List En)(x:En):kF s (l++ [x])=(kF s l&&lN s l x):=by
 unfold kF;rw[V,bh,di,List.all_append,cP,dp,cN]
 congr 1
 ·rw[bt]
  simp only[az,bO];constructor
  ·intro h i a
   have:=h i a
   rwa [b3 (by omega),Q,am a,<-Q]at this
  ·intro h i a
   have:=h i a
   rwa [b3 (by omega),Q,am a,<-Q]
 ·simp[Q]
def nJ:∀(l:List Int) (n:Int),(pK l n).Perm (n::l)
 | [],n=>List.Perm.refl _
 |x::l,n=>by
  unfold pK
  split
  ·exact((nJ l n).cons x).trans (List.Perm.swap n x l)
  ·exact List.Perm.refl _
def Up (l:List Int):Prop:=l.Pairwise (·<=·)
def Xm {n:Int}(h:Up l):Up (pK l n):=by
 induction l with
 |nil=>simp[pK,Up]
 |cons x l d=>
  simp only[Up,ck]at h;unfold pK
  split
  ·rename_i c
   simp only[Up,ck];refine⟨fun a b=> ?_,d h.2⟩
   rcases ao.1 ((nJ l n).mem_iff.1 b)with rfl|b
   ·exact c
   ·exact h.1 a b
  ·rename_i c
   simp only[Up,ck];refine⟨fun a b=> ?_,h.1,h.2⟩
   rcases ao.1 b with rfl|b
   ·omega
   ·have:=h.1 a b;omega
def V7 {n:Int}(h:Up l):Up (dH l n).1:=by
 unfold dH
 split
 ·exact List.Pairwise.sublist List.erase_sublist h
 ·exact h
def ai8 {a b:Pr}(h:Up l):Up (iG l a b).1:=by
 have h1:Up (if a.a≠b.a then dH l b.a else(l,true)).1:=by split;exact V7 h;exact h
 unfold iG;simp only;generalize (if a.a≠b.a then dH l b.a else(l,true))=r1 at h1;have h2:Up (if r1.2=true/\a.b≠b.b then dH r1.1 b.b else r1).1:=by split;exact V7 h1;exact h1
 generalize (if r1.2=true/\a.b≠b.b then dH r1.1 b.b else r1)=r2 at h2;have c:Up (if a.a≠b.a then pK r2.1 a.a else r2.1):=by split;exact Xm h2;exact h2
 split
 ·exact Xm c
 ·exact c
def aao {st:List Int}(h:l.Perm st)(c d:Pr):match oW st [] c.a d.a with
  |none=>(iG l c d).2=false
  |some (o,m)=>match oW o m c.b d.b with
   |none=>(iG l c d).2=false
   |some (p,n)=>(iG l c d).2=true/\(iG l c d).1.Perm (p++n):=by
 unfold oW iG dH
 by_cases k:c.a=d.a
 ·simp only[k,ne_eq,not_true_eq_false,if_true,if_false,true_and]
  by_cases j:c.b=d.b
  ·simp only[j,not_true_eq_false,if_true,if_false]
   exact⟨trivial,by simpa using h⟩
  ·simp only[j,not_false_eq_true,if_true,if_false]
   by_cases g:d.b∈st
   ·have f:d.b∈l:=h.mem_iff.2 g
    simp only[g,f,if_true,bB];refine⟨trivial,(nJ _ _).trans ?_⟩;exact((h.erase d.b).cons c.b).trans (bw c.b _).symm
   ·have f:d.b∉l:=fun e=>g (h.mem_iff.1 e)
    simp only[g,f,if_false]
 ·simp only[k,ne_eq,not_false_eq_true,if_true,if_false]
  by_cases g:d.a∈st
  ·have f:d.a∈l:=h.mem_iff.2 g
   have h1:=h.erase d.a;simp only[g,f,if_true,bB,true_and]
   by_cases j:c.b=d.b
   ·simp only[j,not_true_eq_false,if_true,if_false]
    exact⟨trivial,(nJ _ _).trans ((h1.cons c.a).trans (bw c.a _).symm)⟩
   ·simp only[j,not_false_eq_true,if_true,if_false]
    by_cases i:d.b∈st.erase d.a
    ·have ang:d.b∈l.erase d.a:=h1.mem_iff.2 i
     simp only[i,ang,if_true];refine⟨trivial,(nJ _ _).trans ?_⟩;refine((nJ _ _).cons c.b).trans ?_;refine(((h1.erase d.b).cons c.a).cons c.b).trans ?_;have:(c.b::c.a::(st.erase d.a).erase d.b).Perm ([c.a,c.b]++(st.erase d.a).erase d.b):=List.Perm.swap _ _ _;exact this.trans List.perm_append_comm
    ·have ang:d.b∉l.erase d.a:=fun e=>i (h1.mem_iff.1 e)
     simp only[i,ang,if_false]
  ·have f:d.a∉l:=fun e=>g (h.mem_iff.1 e)
   simp only[g,f,if_false,be,false_and]
def ZU {a b k:Nat}(hk:0<k):zU (a*k) (b*k)=zU a b:=by
 unfold zU;rw[Nat.gcd_mul_right,cG _ _ hk,cG _ _ hk]
def adF {c:Nat}(hb:0<b)(hd:0<d):zU a b=zU c d↔a*d=c*b:=by
 constructor
 ·intro h
  unfold zU at h;simp only[Fr.mk.injEq,Int.natCast_inj]at h;have e1:=bE (db a b);have e2:=bE (c5 a b);have e:=bE (db c d);have f:=bE (c5 c d);rw[<-f]
  conv=>lhs;lhs;rw[<-e1]
  conv=>rhs;rw[<-e];rhs;rw[<-e2]
  rw[h.1,h.2];simp only[dt,Nat.mul_left_comm]
 ·intro h
  rw[<-ZU (a:=a) (b:=b) hd,h,dt b d,ZU hb]
def Sz:∀(l:List Int) (x p:Int),jX (l++ [x]) p=jX l p*x
 | [],_,_=>rfl
 |y::l,x,p=>by simp only[aM,jX];exact Sz l x (p*y)
def gu (l:List Pr):Fr:=⟨jX (l.map (·.a)) 1,jX (l.map (·.b)) 1⟩
def Sr (l:List Pr)(x:Pr):gu (l++ [x])=mulR (gu l) x:=by simp[gu,mulR,Sz]
variable{ls:List Lk}
def PL (h:linked ls){a:Nat}(b:a<ls.length):aP ls (a+1)=aP ls (ls.getD a default).fr.toNat++ [(ls.getD a default).pr]:=by
 rw[aP,oM h b,a7];rfl
def SL {ls:List Lk}(h:linked ls):∀(k i:Nat) (a:List Fr),i+k=ls.length->a.length=i+1->(∀j,j<=i->a.getD j default=gu (aP ls j))->∀j,j<=ls.length->(rU (ls.drop i) a).getD j default=gu (aP ls j)
 |0,i,a,g,c,b,j,f=>by
  rw[List.drop_eq_nil_of_le (by omega),rU];exact b j (by omega)
 |k+1,i,a,g,c,b,j,f=>by
  have d:i<ls.length:=by omega
  have l:=h i d;rw[drop_cons d,rU];refine SL h k (i+1) _ (by omega) (by simp[c]) (fun m n=> ?_) j f
  by_cases e:m<=i
  ·rw[Q,am (by omega),<-Q];exact b m e
  ·have:m=i+1:=by omega
   subst this;rw[Q,<-c,bv,bd,b _ (by omega),c,PL h d,Sr]
def Gf (h:linked ls){a:Nat}(b:a<=ls.length):(fJ ls).getD a default=gu (aP ls a):=by
 have:=SL h ls.length 0 [⟨1,1⟩] (by omega) rfl (fun j c=>by
  have:j=0:=by omega
  subst this;simp[gu,aP,fP,vK,jX]) a b
 simpa[fJ]using this
def NC {l:List Pr}(h:∀p∈l,p.ok=true):1<=(gu l).n/\1<=(gu l).d:=by
 have f:∀p∈l,1<=p.a/\1<=p.b:=fun p c=>by
  have:=h p c;simp only[Pr.ok,aI,inR,U,decide_eq_true_eq,ge_iff_le]at this;omega
 exact⟨Dz _ 1 (fun x e=>by obtain⟨p,c,rfl⟩:=aR.1 e;exact(f p c).1) (by omega),Dz _ 1 (fun x e=>by obtain⟨p,c,rfl⟩:=aR.1 e;exact(f p c).2) (by omega)⟩
def Ub {l m:List Pr}(hl:∀p∈l,p.ok=true)(b:∀p∈m,p.ok=true):Aw (gu l) (gu m)=decide (bQ l=bQ m):=by
 obtain⟨c,e⟩:=NC hl;obtain⟨b1,f⟩:=NC b;have a:∀l,bQ l=zU (gu l).n.natAbs (gu l).d.natAbs:=fun _=>rfl
 rw[a,a,bt,decide_eq_true_iff,adF (by omega) (by omega)];simp only[Aw,beq_iff_eq];rw[<-cg,<-cg];have g:0<=(gu l).n*(gu m).d:=cf (by omega) (by omega);have h:0<=(gu m).n*(gu l).d:=cf (by omega) (by omega);omega
def qc (h:linked ls)(e:∀l∈ls,l.pr.ok=true){a:Nat}(b:a<=ls.length):∀p∈aP ls a,p.ok=true:=by
 intro p c;simp only[aP,aR]at c;obtain⟨i,d,rfl⟩:=c;exact e _ (getD_mem (Nat.lt_of_lt_of_le (RP h b i d) b))
def Gq (a b:List Fr):∀(hs:List Int) (i:Nat),vw a b hs i=((bp i hs.length).filter fun j=> !Aw (a.getD (hs.getD (j - i) default).toNat default) (b.getD (hs.getD (j - i) default).toNat default)).map fun(j:Nat)=>(j:Int)
 | [],i=>rfl
 |h::hs,i=>by
  rw[vw,Gq a b hs (i+1),W,c8,bX];have e:(bp (i+1) hs.length).filter (fun j=> !Aw (a.getD ((h::hs).getD (j - i) default).toNat default) (b.getD ((h::hs).getD (j - i) default).toNat default))=(bp (i+1) hs.length).filter (fun j=> !Aw (a.getD (hs.getD (j - (i+1)) default).toNat default) (b.getD (hs.getD (j - (i+1)) default).toNat default)):=by
   refine bj fun j c=> ?_
   have:=(bR.1 c).1;rw[show j - i=(j - (i+1))+1 by omega,b7]
  simp only[cB,bc];rw[e];cases Aw (a.getD h.toNat default) (b.getD h.toNat default)<;>simp
variable{p:Pc}
def acJ {c:Chg}(a:p.ok=true)(hc:c.pr.ok=true):p.lV (p.changed c)=nU p c:=by
 have i:=rV a hc;have g:=Pc.good a;have b:=Pc.good i;rw[Pc.lV,Gq,nU,b0]
 congr 1
 refine bj fun j h=> ?_
 have d:j<p.hands.length:=by simpa using(bR.1 h)
 have e:inR (p.hands.getD j default) 1 p.links.length=true:=by
  simp only[Pc.ok,U,az]at a;exact a.2 _ (getD_mem d)
 have f:1<=p.hands.getD j default/\p.hands.getD j default<=p.links.length:=by simpa[inR]using e
 have k:(p.changed c).links.length=p.links.length:=by simp[Pc.changed]
 rw[c6,Gf g.lk (by omega),Gf b.lk (by omega),Ub (qc g.lk g.pr (by omega)) (qc b.lk b.pr (by omega))];simp
structure Rel (s:Su) (l:List En) (t:Sp):Prop where
 pc:t.pc=bD s l
 op:∀h,gq t.op h=if(bg l h).2 then some (bg l h).1 else none
 nd:(t.op.map (·.1)).Nodup
 tl:t.tg.length=s.tg.length
 tg:∀h:Int,0<=h->h.toNat<s.tg.length->t.tg.getD h.toNat default=pX s l h
 st:(jd s l).Perm t.eP
 up:Up (jd s l)
 co:t.kM=tY l
 se:t.sets=qJ l
 inc:t.sets.Pairwise (·<·)
def ak7 (s:Su):Rel s [] s.sp0:=
 {pc:=rfl,op:=fun _=>rfl,nd:=List.nodup_nil,tl:=rfl,tg:=fun _ _ _=>rfl,st:=List.Perm.refl _,up:=List.Pairwise.nil,co:=rfl,se:=rfl,inc:=List.Pairwise.nil}
variable{x:En}
def En.deed1 (h:x.kind=1):x.deed= .cut (x.n 0):=by simp[En.deed,h]
def En.deed2 (h:x.kind=2):x.deed= .change x.chg:=by simp[En.deed,h,En.chg]
def En.deed3 (h:x.kind=3):x.deed= .order (x.n 0) ⟨x.n 1,x.n 2⟩:=by simp[En.deed,h]
def En.deed4 (h:x.kind=4):x.deed= .serve (x.n 0) (x.n 1):=by simp[En.deed,h]
def En.Hu (h:x.kind=5):x.deed= .set (x.n 0):=by simp[En.deed,h]
structure En.Fit (s:Su) (x:En):Prop where
 fm:x.formed=true
 k6:x.kind≠6
 te:x.kind=1->aI (x.n 0)=true
 hd:x.kind=3\/x.kind=4->0<=x.n 0/\(x.n 0).toNat<s.pc.hands.length
 fr:x.kind=3->(⟨x.n 1,x.n 2⟩:Fr).ok=true
 df:kV s s.sp0 x.deed
def En.Bl (h:x.formed=true):1<=x.kind/\x.kind<=6:=by
 simp only[En.formed,U,decide_eq_true_eq]at h
 simpa[inR]using h.1.1
def uw (h:x.formed=true){i:Nat}(hi:i<gI x.kind):0<=x.n i/\x.n i<=9999:=by
 simp only[En.formed,U,decide_eq_true_eq,az]at h;have:=h.2 _ (getD_mem (show i<x.ns.length by omega))
 simpa[inR,En.n]using this
def En.Fit.k (h:x.Fit s):x.kind=1\/x.kind=2\/x.kind=3\/x.kind=4\/x.kind=5:=by
 have:=En.Bl h.fm;have:=h.k6;omega
variable{h:Int}
def ahE {l:List (Int×Fr)}(b:(l.map (·.1)).Nodup):((Bq l h).map (·.1)).Nodup/\(∀h',gq (Bq l h) h'=if h'=h then none else gq l h')/\∀k∈(Bq l h).map (·.1),k∈l.map (·.1):=by
 induction l with
 |nil=>exact⟨b,fun h'=>by simp[Bq,gq],fun k a=>a⟩
 |cons p l f=>
  simp only[ai,cE]at b;obtain⟨i,j,g⟩:=f b.2;have d:∀(l:List (Int×Fr)) (k:Int),k∉l.map (·.1)->gq l k=none:=by
   intro l k a
   induction l with
   |nil=>rfl
   |cons q l f=>simp only[ai,ao,not_or]at a;rw[gq,if_neg a.1];exact f a.2
  unfold Bq
  by_cases c:h=p.1
  ·rw[if_pos c]
   refine⟨b.2,fun h'=> ?_,fun k a=>by simp only[ai,ao];exact .inr a⟩
   by_cases e:h'=h
   ·rw[if_pos e,e,c];exact d l _ b.1
   ·rw[if_neg e,gq,if_neg (by rw[<-c];exact e)]
  ·rw[if_neg c]
   refine⟨?_,fun h'=> ?_,fun k a=> ?_⟩
   ·simp only[ai,cE];exact⟨fun e=>b.1 (g _ e),i⟩
   ·rw[gq,gq,j h']
    by_cases e:h'=p.1
    ·rw[if_pos e,if_pos e,if_neg (by rw[e];exact Ne.symm c)]
    ·rw[if_neg e,if_neg e]
   ·simp only[ai,ao]at a⊢;exact a.imp id (g k)
def ab6 {l:List (Int×Fr)}{f:Fr}(a:gq l h=none)(h':Int):gq (l++ [(h,f)]) h'=if h'=h then some f else gq l h':=by
 induction l with
 |nil=>simp[gq]
 |cons p l c=>
  rw[gq]at a
  by_cases b:h=p.1
  ·rw[if_pos b]at a;cases a
  ·rw[if_neg b]at a
   rw[aM,gq,gq,c a]
   by_cases e:h'=p.1
   ·rw[if_pos e,if_pos e,if_neg (by rw[e];exact Ne.symm b)]
   ·rw[if_neg e,if_neg e]
def afm {l:List (Int×Fr)}(a:gq l h=none):h∉l.map (·.1):=by
 induction l with
 |nil=>simp
 |cons p l c=>
  rw[gq]at a
  by_cases b:h=p.1
  ·rw[if_pos b]at a;cases a
  ·rw[if_neg b]at a
   simp only[ai,ao,not_or];exact⟨b,c a⟩
def aa2 {d:Dvd}(hd:d.ok=true){n:Int}(a:aI n=true):(d.cuts n).2=0↔(d.first n).isSome=true:=by
 have h1:inR n 1 400=true:=by simp only[aI,inR,U,decide_eq_true_eq]at a⊢;omega
 unfold Dvd.cuts Dvd.first;rw[hd,h1];simp only[cM,if_true];cases xX d.dK n 0 d.cir<;>simp
def D5 (f:p.ok=true){h:Int}(j:0<=h)(h1:h.toNat<p.hands.length):lI (aP p.links (p.hands.getD h.toNat default).toNat)=true:=by
 have g:=Pc.good f;have k:=g.hd _ (getD_mem h1);have c:(p.hands.getD h.toNat default).toNat<=p.links.length:=by omega
 have i:=g.short _ c;have b:=qc g.lk g.pr c;have l:1<=(aP p.links (p.hands.getD h.toNat default).toNat).length:=by
  obtain⟨a,e⟩:∃a,(p.hands.getD h.toNat default).toNat=a+1:=⟨(p.hands.getD h.toNat default).toNat - 1,by omega⟩
  rw[e,PL g.lk (by omega)];simp
 have d:(aP p.links (p.hands.getD h.toNat default).toNat).length<=3:=by rw[aP,Y];exact i
 simp only[lI,inR,U,decide_eq_true_eq,az,ge_iff_le];exact⟨⟨by omega,by omega⟩,b⟩
def Jc {n a b:Int}(h:a<=n/\n<=b):inR n a b=true:=by
 simp only[inR,U,decide_eq_true_eq];omega
def NV (a:p.ok=true){h:Int}(b:0<=h)(h1:h.toNat<p.hands.length){f:Fr}(hf:f.ok=true){t:Int}(e:0<=t/\t<=10000):sN p h f t=(Nu p h f t,0):=by
 have h2:inR h 0 ((p.hands.length:Int) - 1)=true:=Jc (by omega);have c:=D5 a b h1;have d:=Jc e;simp only[sN,ab4,Nu,a,h2,c,d,hf,cM,if_true]
def VA (hs:s.ok=true){t:Sp}(g:t.pc.ok=true){h:Int}(d:0<=h)(h1:h.toNat<t.pc.hands.length):Dx s t h.toNat=Dy s t.pc h:=by
 have a:=(Su.facts hs).2.2.2.2.2.2.2.2.1;have c:=D5 g d h1;simp only[lI,inR,U,decide_eq_true_eq,az]at c;obtain⟨⟨_,j⟩,e⟩:=c;have f:(s.bil (bZ (aP t.pc.links (t.pc.hands.getD h.toNat default).toNat))).ok=true:=by
  simp only[Bil.ok,Su.bil,U]at a⊢;refine⟨⟨⟨⟨⟨?_,a.1.1.1.1.2⟩,a.1.1.1.2⟩,a.1.1.2⟩,a.1.2⟩,a.2⟩;simp only[pY,U,decide_eq_true_eq,az];refine⟨by rw[nH];omega,fun x b=> ?_⟩;simp only[bZ,List.mem_flatMap]at b;obtain⟨q,i,b⟩:=b;have:=e q i;simp only[Pr.ok,U]at this;simp only[ao,bz,or_false]at b
  rcases b with rfl|rfl
  ·exact this.1
  ·exact this.2
 simp only[Dx,Dy,Bil.Ue,f,if_true]
def ac5 {d:Int}(b:1<=d)(h1:d.toNat<=s.days.length):s.days.getD (d - 1).toNat default=(s.first+d - 1,s.works (s.first+d - 1)):=by
 have c:s.days.length=s.dur:=by simp[Su.days,Su.qK]
 have a:(d - 1).toNat<s.dur:=by omega
 rw[Su.days,Su.qK,Q,cY,List.getElem?_range a];simp only[dj,bd];rw[show(((d - 1).toNat:Nat):Int)=d - 1 by omega,show s.first+(d - 1)=s.first+d - 1 by omega]
def Y1 (h:l.Pairwise (·<·))(d:Int):(l.isEmpty||decide (d>l.getD (l.length - 1) default))= !(l.any fun y=>decide (y>=d)):=by
 rcases List.eq_nil_or_concat l with rfl|⟨m,x,rfl⟩
 ·rfl
 ·have e:(m++ [x]).getD ((m++ [x]).length - 1) default=x:=by simp[Q]
  rw[List.concat_eq_append]at h⊢;rw[e];have b:∀y∈m,y<x:=fun y a=>(cI.1 h).2.2 y a x (by simp)
  rw[bt];simp only[Bool.or_eq_true,List.isEmpty_iff,List.append_eq_nil_iff,List.cons_ne_self,and_false,false_or,decide_eq_true_eq,cV,cX,a8,aw];constructor
  ·rintro h1 y (a|rfl)
   ·have:=b y a;omega
   ·omega
  ·intro hh
   have:=hh x (.inr rfl);omega
def agp (l:List En)(d:Int):((qJ l).any fun y=>decide (y>=d))=l.any fun y=>y.kind==5&&decide (y.n 0>=d):=by
 unfold qJ;rw[List.any_map,List.any_filter]
 rfl
def SQ (hs:s.ok=true){n:Nat}{l:List En}{t:Sp}(d:Rel s l t)(hi:zS s n t)(o:∀h,(bg l h).2=true->(bg l h).1.ok=true){x:En}(hx:x.Fit s):lN s l x=(doS s t x.deed).isSome:=by
 obtain⟨w,y,u,j,_⟩:=Su.facts hs;have f:t.eP.length=(jd s l).length:=d.st.length_eq.symm
 rcases hx.k with k|k|k|k|k
 ·rw[En.deed1 k]
  unfold lN;rw[if_pos k];simp only[doS,aa2 j (hx.te k),f]
  by_cases h1:(s.dvd.first (x.n 0)).isSome=true<;>by_cases h2:(jd s l).length<8<;>simp[h1,h2]
 ·rw[En.deed2 k]
  have hd:=hx.df;rw[En.deed2 k]at hd;obtain⟨i,g⟩:=hd;unfold lN;rw[if_neg (by omega),if_pos k,<-d.pc];have e1:t.pc.EO x.chg= !decide (jQ t.pc x=x.chg.pr):=by
   have:inR x.chg.link 0 ((t.pc.links.length:Int) - 1)=true:=by rw[hi.ll];exact i
   simp only[Pc.EO,hi.pc,g,this,cM,bk]
   congr 1
   exact decide_eq_decide.2 ⟨fun h=>h.symm,fun h=>h.symm⟩
  have e2:((t.pc.lV (t.pc.changed x.chg)).all fun h=>(gq t.op h).isSome)=((nU t.pc x.chg).all fun h=>(bg l h).2):=by
   rw[acJ hi.pc g]
   congr 1
   funext h
   rw[d.op];cases(bg l h).2<;>rfl
  simp only[doS,e1,e2];have c:=aao d.st (jQ t.pc x) x.chg.pr;have m:(t.pc.links.getD x.chg.link.toNat default).pr=jQ t.pc x:=rfl;rw[m];cases h1:(!decide (jQ t.pc x=x.chg.pr))<;>cases h2:((nU t.pc x.chg).all fun h=>(bg l h).2)<;>simp only[cb,Bool.and_false,bk,cN,be,if_false,if_true,Option.isSome_none]
  revert c
  generalize oW t.eP [] (jQ t.pc x).a x.chg.pr.a=p;cases p with
  |none=>intro c;simp only at c⊢;rw[c];rfl
  |some p=>
   obtain⟨A,z⟩:=p;simp only;generalize oW A z (jQ t.pc x).b x.chg.pr.b=q;cases q with
   |none=>intro c;simp only at c⊢;rw[c];rfl
   |some q=>intro c;obtain⟨C,B⟩:=q;simp only at c⊢;rw[c.1];rfl
 ·rw[En.deed3 k]
  unfold lN;rw[if_neg (by omega),if_neg (by omega),if_pos k];simp only[doS,d.op];cases(bg l (x.n 0)).2<;>rfl
 ·rw[En.deed4 k]
  obtain⟨r,h1⟩:=hx.hd (.inr k);have e:(x.n 0).toNat<t.pc.hands.length:=by rw[hi.hh];exact h1
  unfold lN;rw[if_neg (by omega),if_neg (by omega),if_neg (by omega),if_pos k,<-d.pc];simp only[doS,d.op];cases v:(bg l (x.n 0)).2
  ·rfl
  ·simp only[if_true,bk,HY,NV hi.pc r e (o _ v) (show(0:Int)<=100/\(100:Int)<=10000 by omega),VA hs hi.pc r e]
   split<;>simp_all
 ·rw[En.Hu k]
  have hd:=hx.df;rw[En.Hu k]at hd;obtain⟨i,g⟩:=hd;unfold lN;rw[if_neg (by omega),if_neg (by omega),if_neg (by omega),if_neg (by omega)];simp only[doS,ac5 i g,Y1 d.inc];rw[d.se,agp,Bool.and_comm]
  split<;>simp_all
def RG {l:List En}(a:x.kind≠3)(b:x.kind≠4):bg (l++ [x]) h=bg l h:=by
 rw[lX,lC,if_neg (fun e=>a e.1),if_neg (fun e=>b e.1)]
def rel_step (hs:s.ok=true){n:Nat}{l:List En}{t t':Sp}(c:Rel s l t)(hi:zS s n t){x:En}(hx:x.Fit s)(hd:doS s t x.deed=some t'):Rel s (l++ [x]) t':=by
 obtain⟨E,y,B,D,_⟩:=Su.facts hs
 rcases hx.k with k|k|k|k|k
 ·rw[En.deed1 k]at hd
  simp only[doS]at hd
  split at hd
  ·cases hd
   exact
   {pc:=by rw[jF,qN,if_neg (by omega)];exact c.pc
    op:=fun h=>by rw[RG (by omega) (by omega)];exact c.op h
    nd:=c.nd,tl:=c.tl
    tg:=fun h g h1=>by rw[mP,if_neg (by omega)];exact c.tg h g h1
    st:=by rw[iF,if_pos k];exact(nJ _ _).trans ((c.st.cons _).trans (bw _ _).symm)
    up:=by rw[iF,if_pos k];exact Xm c.up
    co:=by rw[oC,if_neg (by omega)];exact c.co
    se:=by rw[wP,if_neg (by omega)];exact c.se
    inc:=c.inc}
  ·cases hd
 ·rw[En.deed2 k]at hd
  simp only[doS]at hd
  split at hd
  ·have j:=aao c.st (jQ t.pc x) x.chg.pr
   have u:(t.pc.links.getD x.chg.link.toNat default).pr=jQ t.pc x:=rfl;rw[u]at hd
   revert j hd
   generalize oW t.eP [] (jQ t.pc x).a x.chg.pr.a=z;cases z with
   |none=>intro hd _;cases hd
   |some z=>
    obtain⟨I,H⟩:=z;simp only;generalize oW I H (jQ t.pc x).b x.chg.pr.b=A;cases A with
    |none=>intro hd _;cases hd
    |some A=>
     obtain⟨M,L⟩:=A;intro hd j;simp only at j hd;cases hd;exact
     {pc:=by rw[jF,qN,if_pos k,c.pc]
      op:=fun h=>by rw[RG (by omega) (by omega)];exact c.op h
      nd:=c.nd,tl:=c.tl
      tg:=fun h g h1=>by rw[mP,if_neg (by omega)];exact c.tg h g h1
      st:=by rw[iF,if_neg (by omega),if_pos k,<-c.pc];exact j.2
      up:=by rw[iF,if_neg (by omega),if_pos k];exact ai8 c.up
      co:=by rw[oC,if_neg (by omega)];exact c.co
      se:=by rw[wP,if_neg (by omega)];exact c.se
      inc:=c.inc}
  ·cases hd
 ·rw[En.deed3 k]at hd
  simp only[doS]at hd
  split at hd
  ·cases hd
  ·rename_i i
   have i:gq t.op (x.n 0)=none:=by simpa using i
   cases hd;exact
   {pc:=by rw[jF,qN,if_neg (by omega)];exact c.pc
    op:=fun h=>by
     rw[ab6 i]
     by_cases e:x.n 0=h
     ·have e2:bg (l++ [x]) h=(⟨x.n 1,x.n 2⟩,true):=by rw[lX,lC,if_pos ⟨k,e⟩]
      rw[if_pos e.symm,e2];rfl
     ·have e2:bg (l++ [x]) h=bg l h:=by rw[lX,lC,if_neg (fun q=>e q.2),if_neg (by omega)]
      rw[if_neg (Ne.symm e),e2];exact c.op h
    nd:=by
     simp only[a7,ai,br];rw[List.nodup_append];exact⟨c.nd,by simp,fun a p b m=>by simp only[aw]at m;subst m;rintro rfl;exact afm i p⟩
    tl:=c.tl
    tg:=fun h g h1=>by rw[mP,if_neg (by omega)];exact c.tg h g h1
    st:=by rw[iF,if_neg (by omega),if_neg (by omega)];exact c.st
    up:=by rw[iF,if_neg (by omega),if_neg (by omega)];exact c.up
    co:=by rw[oC,if_neg (by omega)];exact c.co
    se:=by rw[wP,if_neg (by omega)];exact c.se
    inc:=c.inc}
 ·rw[En.deed4 k]at hd
  obtain⟨J,C⟩:=hx.hd (.inr k);simp only[doS]at hd;have d:=c.op (x.n 0)
  revert hd d
  generalize gq t.op (x.n 0)=o;cases o with
  |none=>intro hd;cases hd
  |some f=>
   intro hd d;simp only at hd
   split at hd
   ·cases hd
    have v:(bg l (x.n 0)).2=true:=by
     cases h:(bg l (x.n 0)).2 with
     |true=>rfl
     |false=>rw[h]at d;simp at d
    rw[v,if_pos rfl]at d;have w:f=(bg l (x.n 0)).1:=Option.some.inj d;obtain⟨F,G,K⟩:=ahE (h:=x.n 0) c.nd;exact
    {pc:=by rw[jF,qN,if_neg (by omega)];exact c.pc
     op:=fun h=>by
      rw[G]
      by_cases e:x.n 0=h
      ·have e2:bg (l++ [x]) h=((bg l h).1,false):=by rw[lX,lC,if_neg (by omega),if_pos ⟨k,e⟩]
       rw[if_pos e.symm,e2];rfl
      ·have e2:bg (l++ [x]) h=bg l h:=by rw[lX,lC,if_neg (by omega),if_neg (fun q=>e q.2)]
       rw[if_neg (Ne.symm e),e2];exact c.op h
     nd:=F
     tl:=by simp[c.tl]
     tg:=fun h g h1=>by
      rw[mP]
      by_cases e:x.n 0=h
      ·rw[if_pos ⟨k,e⟩,<-e,<-w]
       simp only[Q,bN (show(x.n 0).toNat<t.tg.length by rw[c.tl,y];exact C),bd]
      ·rw[if_neg (fun q=>e q.2),<-c.tg h g h1]
       have:(x.n 0).toNat≠h.toNat:=by omega
       simp only[Q,av this]
     st:=by rw[iF,if_neg (by omega),if_neg (by omega)];exact c.st
     up:=by rw[iF,if_neg (by omega),if_neg (by omega)];exact c.up
     co:=by rw[oC,if_pos k,<-c.co]
     se:=by rw[wP,if_neg (by omega)];exact c.se
     inc:=c.inc}
   ·cases hd
 ·rw[En.Hu k]at hd
  simp only[doS]at hd
  split at hd
  ·rename_i r
   cases hd;rw[Y1 c.inc]at r;simp only[U,cV,cX,decide_eq_true_eq]at r;exact
   {pc:=by rw[jF,qN,if_neg (by omega)];exact c.pc
    op:=fun h=>by rw[RG (by omega) (by omega)];exact c.op h
    nd:=c.nd,tl:=c.tl
    tg:=fun h g h1=>by rw[mP,if_neg (by omega)];exact c.tg h g h1
    st:=by rw[iF,if_neg (by omega),if_neg (by omega)];exact c.st
    up:=by rw[iF,if_neg (by omega),if_neg (by omega)];exact c.up
    co:=by rw[oC,if_neg (by omega)];exact c.co
    se:=by rw[wP,if_pos k,c.se]
    inc:=by
     rw[cI];exact⟨c.inc,List.pairwise_singleton _ _,fun a p b m=>by simp only[aw]at m;have:=r.2 a p;omega⟩}
  ·cases hd
def ni {α:Type}{P:List α->Prop}(h0:P [])(h1:∀l x,P l->P (l++ [x]))(l:List α):P l:=by
 have:∀m:List α,P m.reverse:=by
  intro m
  induction m with
  |nil=>exact h0
  |cons x m ih=>rw[List.reverse_cons];exact h1 _ _ ih
 have h:=this l.reverse
 rwa [List.reverse_reverse]at h
def zh (l:List En)(h:Int):(∀x∈l,x.Fit s)->(bg l h).2=true->(bg l h).1.ok=true:=by
 induction l using ni with
 |h0=>intro _ e;simp[bg]at e
 |h1 l x a=>
  intro b;rw[lX,lC];have c:=b x (by simp);have a:=a fun y d=>b y (by simp[d])
  split
  ·rename_i e;intro _;exact c.fr e.1
  ·split
   ·intro e;cases e
   ·exact a
def I4 (s:Su):∀(l:List De) (x:De) (t:Sp),qR s (l++ [x]) t=(qR s l t).bind fun t=>doS s t x
 | [],x,t=>by simp[qR]
 |y::l,x,t=>by
  simp only[aM,qR];cases doS s t y with
  |none=>rfl
  |some t1=>exact I4 s l x t1
def ak6 (hs:s.ok=true)(l:List En):(∀x∈l,x.Fit s)->kF s l=(qR s (l.map En.deed) s.sp0).isSome/\∀t,qR s (l.map En.deed) s.sp0=some t->Rel s l t/\zS s l.length t:=by
 induction l using ni with
 |h0=>exact fun _=>⟨rfl,fun t e=>by cases e;exact⟨ak7 s,acH hs⟩⟩
 |h1 l x p=>
  intro g;have a:∀y∈l,y.Fit s:=fun y k=>g y (by simp[k])
  have f:=g x (by simp);obtain⟨m,o⟩:=p a;rw[EK,a7,ai,br,I4,m];cases hd:qR s (l.map En.deed) s.sp0 with
  |none=>exact⟨by simp,fun t e=>by cases e⟩
  |some t=>
   obtain⟨i,b⟩:=o t hd;have j:=SQ hs i b (fun h=>zh l h a) f;simp only[Option.isSome_some,bk,dc];refine⟨j,fun q c=> ?_⟩;have d:=kV.same (n:=l.length) (t:=s.sp0) (t':=t) b.ll.symm b.hh.symm f.df;exact⟨rel_step hs i b f c,by rw[V,bh];exact agU b d c⟩
def nV (D:Dk)(i:Nat):Bool:=decide ((D.es.getD i default).kind≠6)&& !D.st.getD i default
def fH (D:Dk):List Nat:=(cz D.es.length).filter (nV D)
def aJ (D:Dk)(w:Int):List En:=((fH D).filter fun(i:Nat)=>decide ((i:Int)≠w)).map fun i=>D.es.getD i default
def TN:∀(es:List En) (st:List Bool) (i:Nat),es.length=st.length->kS es st i=((bp i es.length).filter fun j=>decide ((es.getD (j - i) default).kind≠6)&& !st.getD (j - i) default).map fun j=>(j,(es.getD (j - i) default).deed)
 | [],[],_,_=>rfl
 | [],_::_,_,h=>by simp at h
 | _::_,[],_,h=>by simp at h
 |x::es,b::st,i,h=>by
  have d:=TN es st (i+1) (by simpa using h);rw[kS,d,W,c8,bX];have e:∀j∈bp (i+1) es.length,(decide (((x::es).getD (j - i) default).kind≠6)&& !(b::st).getD (j - i) default)=(decide ((es.getD (j - (i+1)) default).kind≠6)&& !st.getD (j - (i+1)) default)/\(x::es).getD (j - i) default=es.getD (j - (i+1)) default:=fun j a=>by
   have:=(bR.1 a).1;rw[show j - i=(j - (i+1))+1 by omega,b7,b7];exact⟨rfl,rfl⟩
  have e1:(bp (i+1) es.length).filter (fun j=>decide (((x::es).getD (j - i) default).kind≠6)&& !(b::st).getD (j - i) default)=(bp (i+1) es.length).filter (fun j=>decide ((es.getD (j - (i+1)) default).kind≠6)&& !st.getD (j - (i+1)) default):=bj fun j a=>(e j a).1
  have e2:((bp (i+1) es.length).filter (fun j=>decide ((es.getD (j - (i+1)) default).kind≠6)&& !st.getD (j - (i+1)) default)).map (fun j=>(j,((x::es).getD (j - i) default).deed))=((bp (i+1) es.length).filter (fun j=>decide ((es.getD (j - (i+1)) default).kind≠6)&& !st.getD (j - (i+1)) default)).map (fun j=>(j,(es.getD (j - (i+1)) default).deed)):=cL fun j a=>by rw[(e j (b4.1 a).1).2]
  rw[e1,cB,bc,bc]
  by_cases c:x.kind=6
  ·simp only[c,ne_eq,not_true_eq_false,false_and,if_false,decide_false,cb,be]
   exact e2.symm
  ·cases b
   ·simp only[c,ne_eq,not_false_eq_true,and_self,if_true,decide_true,bk,Bool.not_false,ai,e2,cB,bc]
   ·simp only[c,ne_eq,not_false_eq_true,Bool.true_eq_false,and_false,if_false,decide_true,bk,Bool.not_true,be]
    exact e2.symm
def VZ (h:D.es.length=D.st.length):D.stands=(fH D).map fun i=>(i,(D.es.getD i default).deed):=by
 rw[Dk.stands,TN _ _ _ h,fH,b0]
 rfl
def zQ (h:D.es.length=D.st.length)(w:Int):D.without w=(aJ D w).map En.deed:=by
 rw[Dk.without,VZ h,aJ,List.filter_map,ca,ca]
 rfl
def Jo (s:Su)(x:En):Bool:=
 if x.kind=1 then aI (x.n 0)
 else if x.kind=2 then decide (x.n 0<(s.pc.links.length:Int))&&aI (x.n 1)&&aI (x.n 2)
 else if x.kind=3 then inR (x.n 0) 0 ((s.pc.hands.length:Int) - 1)&&decide (x.n 2>0)
 else if x.kind=4 then inR (x.n 0) 0 ((s.pc.hands.length:Int) - 1)
 else inR (x.n 0) 1 (o8 (s.cal.leap s.year))
def Ae (D:Dk)(x:En):Int:=
 if x.formed=false then 2 else if D.es.length>=24 then 3
 else if x.kind=6 then(if x.n 0>=(D.es.length:Int)\/(D.es.getD (x.n 0).toNat default).kind=6 then 2 else if D.st.getD (x.n 0).toNat default=true\/kF D.su (aJ D (x.n 0))=false then 7 else 0)
 else if Jo D.su x=false then 2 else if lN D.su (aJ D (-1)) x=false then 7 else 0
structure Dk.Live (D:Dk):Prop where
 ok:D.Ok
 fit:∀x∈D.es,x.kind≠6->x.Fit D.su
 live:(D.state (-1)).isSome=true
variable{w:Int}
def aal:D.state w=qR D.su (D.without w) D.su.sp0:=rfl
def QH (s:Su):(s.days.length:Int)=o8 (s.cal.leap s.year):=by
 have:=l9 (s.cal.leap s.year);have e:s.days.length=s.dur:=by simp[Su.days,Su.qK]
 rw[e,Su.dur,this]
 split<;>rfl
def En.alP (h:x.kind=6):x.deed= .strike (x.n 0):=by simp[En.deed,h]
def DN (hf:x.formed=true)(k:x.kind≠6):Jo D.su x=D.gX x.deed:=by
 have l:=En.Bl hf;have c:=fun h=>uw hf (i:=0) h
 have f:0<gI x.kind:=by unfold gI;split;omega;split<;>omega
 have c:=c f;unfold Jo
 by_cases a:x.kind=1
 ·rw[if_pos a,En.deed1 a];rfl
 by_cases d:x.kind=2
 ·rw[if_neg a,if_pos d,En.deed2 d]
  simp only[Dk.gX,Pr.ok,En.chg,Bool.and_assoc]
  congr 1
  rw[bt];simp only[inR,U,decide_eq_true_eq];omega
 by_cases b:x.kind=3
 ·have g:=uw hf (i:=1) (by simp[gI,b])
  have j:=uw hf (i:=2) (by simp[gI,b]);rw[if_neg a,if_neg d,if_pos b,En.deed3 b];simp only[Dk.gX,Fr.ok]
  congr 1
  rw[bt];simp only[inR,U,decide_eq_true_eq];omega
 by_cases e:x.kind=4
 ·rw[if_neg a,if_neg d,if_neg b,if_pos e,En.deed4 e];rfl
 ·rw[if_neg a,if_neg d,if_neg b,if_neg e,En.Hu (by omega)]
  simp only[Dk.gX,QH]
def WS (hf:x.formed=true)(a:x.kind≠6)(hb:D.gX x.deed=true):x.Fit D.su:=
 {fm:=hf,k6:=a
  te:=fun k=>by rw[En.deed1 k]at hb;exact hb
  hd:=fun k=>by
   have:inR (x.n 0) 0 ((D.su.pc.hands.length:Int) - 1)=true:=by
    rcases k with k|k
    ·rw[En.deed3 k]at hb;simp only[Dk.gX,U]at hb;exact hb.1
    ·rw[En.deed4 k]at hb;exact hb
   simp only[inR,U,decide_eq_true_eq]at this;omega
  fr:=fun k=>by rw[En.deed3 k]at hb;simp only[Dk.gX,U]at hb;exact hb.2
  df:=WR hf hb}
def jA (h:x∈aJ D w):x∈D.es/\x.kind≠6:=by
 simp only[aJ,aR,b4,fH,bO,nV,U,decide_eq_true_eq]at h;obtain⟨i,⟨⟨a,h1,_⟩,_⟩,rfl⟩:=h;exact⟨getD_mem a,h1⟩
def Dk.Live.all (h:D.Live)(w:Int):kF D.su (aJ D w)=(D.state w).isSome/\∀t,D.state w=some t->Rel D.su (aJ D w) t/\zS D.su (aJ D w).length t:=by
 have:=ak6 h.ok.su (aJ D w) fun x a=>h.fit x (jA a).1 (jA a).2
 rwa [<-zQ h.ok.len]at this
def aak (h:D.es.length=D.st.length)(x:En):fH {D with es:=D.es++ [x],st:=D.st++ [false]}=fH D++if x.kind=6 then[]else[D.es.length]:=by
 have e:(nV {D with es:=D.es++ [x],st:=D.st++ [false]} D.es.length)=decide (x.kind≠6):=by
  simp only[nV,Q,bv,bd];rw[h,bv];simp
 simp only[fH,V,bh,di,cR]
 congr 1
 ·refine bj fun i a=> ?_
  have a:=bO.1 a;simp only[nV,Q,am a,am (show i<D.st.length by omega)]
 ·rw[bX,e,dg]
  by_cases b:x.kind=6<;>simp[b]
def IB (h:D.es.length=D.st.length)(x:En):aJ {D with es:=D.es++ [x],st:=D.st++ [false]} (-1)=aJ D (-1)++if x.kind=6 then[]else[x]:=by
 unfold aJ;rw[aak h,cR,a7]
 congr 1
 ·refine cL fun i a=> ?_
  have a:=(b4.1 a).1;have a:=bO.1 (b4.1 a).1;simp only[Q,am a]
 ·by_cases b:x.kind=6
  ·simp[b]
  ·rw[if_neg b,if_neg b,bX,if_pos (by simp),dg]
   simp[Q]
def UC (h:D.es.length=D.st.length){n:Nat}:fH {D with st:=D.st.set n true}=(fH D).filter fun(i:Nat)=>decide ((i:Int)≠(n:Int)):=by
 simp only[fH,cT];refine bj fun i a=> ?_
 have a:=bO.1 a;simp only[nV,Q,List.getElem?_set]
 by_cases e:n=i
 ·subst e
  simp[show n<D.st.length by omega]
 ·have b:¬(i:Int)=(n:Int):=by omega
  simp[e,b]
def P6 (h:D.es.length=D.st.length){n:Nat}:aJ {D with st:=D.st.set n true} (-1)=aJ D n:=by
 unfold aJ;rw[UC h,cT]
 congr 1
def ajp (hf:x.formed=true)(a:x.kind≠6):D.with x={D with es:=D.es++ [x],st:=D.st++ [false]}:=by
 have b:=En.Bl hf
 rcases(show x.kind=1\/x.kind=2\/x.kind=3\/x.kind=4\/x.kind=5 by omega)with k|k|k|k|k
 ·unfold Dk.with;rw[En.deed1 k];rfl
 ·unfold Dk.with;rw[En.deed2 k];rfl
 ·unfold Dk.with;rw[En.deed3 k];rfl
 ·unfold Dk.with;rw[En.deed4 k];rfl
 ·unfold Dk.with;rw[En.Hu k];rfl
def PS (a:x.kind=6):D.with x={D with es:=D.es++ [x],st:=D.st.set (x.n 0).toNat true++ [false]}:=by
 unfold Dk.with;rw[En.alP a];rfl
def Vf (h:D.Live)(hf:x.formed=true)(c:x.kind≠6)(hb:D.gX x.deed=true):D.goes x.deed=lN D.su (aJ D (-1)) x:=by
 obtain⟨t,a⟩:=cr.1 h.live;obtain⟨e,d⟩:=(h.all (-1)).2 t a;have f:=WS hf c hb;have:=SQ h.ok.su e d (fun k=>zh _ k fun y b=>h.fit y (jA b).1 (jA b).2) f;have g:=En.Bl hf;rw[this]
 rcases(show x.kind=1\/x.kind=2\/x.kind=3\/x.kind=4\/x.kind=5 by omega)with k|k|k|k|k
 ·rw[En.deed1 k];simp only[Dk.goes,a]
 ·rw[En.deed2 k];simp only[Dk.goes,a]
 ·rw[En.deed3 k];simp only[Dk.goes,a]
 ·rw[En.deed4 k];simp only[Dk.goes,a]
 ·rw[En.Hu k];simp only[Dk.goes,a]
def Nb (h:D.Live)(x:En):D.enter x=(if Ae D x=0 then D.with x else D,Ae D x):=by
 have k:=h.ok.len;have j:=h.ok.few;unfold Dk.enter Ae
 by_cases f:x.formed=false
 ·simp[f]
 by_cases c:D.es.length=24
 ·simp[f,c]
 have apd:¬D.es.length>=24:=by omega
 have a:x.formed=true:=by simpa using f
 rw[if_neg f,if_neg c,if_neg f,if_neg apd]
 by_cases b:x.kind=6
 ·rw[if_pos b,En.alP b]
  have l:=uw a (i:=0) (by rw[b];decide)
  by_cases hc:x.n 0>=(D.es.length:Int)\/(D.es.getD (x.n 0).toNat default).kind=6
  ·have d:D.gX (.strike (x.n 0))=false:=by
    rw[<-Bool.not_eq_true];simp only[Dk.gX,inR,U,decide_eq_true_eq];rintro⟨h1,h2⟩
    rcases hc with hc|hc
    ·omega
    ·exact h2 hc
   rw[if_pos d,if_pos hc];rfl
  ·have d:¬D.gX (.strike (x.n 0))=false:=by
    rw[Bool.not_eq_false];simp only[Dk.gX,inR,U,decide_eq_true_eq];refine⟨by omega,fun e=>hc (.inr e)⟩
   rw[if_neg d,if_neg hc];have g:=(h.all (x.n 0)).1;simp only[Dk.goes,<-g];cases D.st.getD (x.n 0).toNat default<;>cases kF D.su (aJ D (x.n 0))<;>simp
 ·rw[if_neg b,DN a b]
  cases d:D.gX x.deed
  ·rfl
  ·rw[Vf h a b d]
   cases lN D.su (aJ D (-1)) x<;>rfl
def I7 (h:D.Live)(x:En):(D.enter x).1.Live:=by
 have b:=Yw h.ok x;have j:=h.ok.len;rw[Nb h]at b⊢;simp only at b⊢
 split
 ·rename_i a
  rw[if_pos a]at b;have d:x.formed=true:=by cases e:x.formed with
   |true=>rfl
   |false=>unfold Ae at a;rw[if_pos e]at a;cases a
  have m:¬D.es.length>=24:=fun e=>by unfold Ae at a;rw[if_neg (by simp[d]),if_pos e]at a;cases a
  unfold Ae at a;rw[if_neg (by simp[d]),if_neg m]at a
  by_cases c:x.kind=6
  ·rw[if_pos c]at a
   rw[PS c]at b⊢
   by_cases p:x.n 0>=(D.es.length:Int)\/(D.es.getD (x.n 0).toNat default).kind=6
   ·rw[if_pos p]at a;cases a
   rw[if_neg p]at a;have v:=uw d (i:=0) (by rw[c];decide);have g:kF D.su (aJ D (x.n 0))=true:=by
    cases e:kF D.su (aJ D (x.n 0))with
    |true=>rfl
    |false=>rw[if_pos (.inr e)]at a;cases a
   refine⟨b,fun y hy f=> ?_,?_⟩
   ·rcases a8.1 hy with hy|hy
    ·exact h.fit y hy f
    ·simp only[aw]at hy;subst hy;exact absurd c f
   ·have e:aJ {D with es:=D.es++ [x],st:=D.st.set (x.n 0).toNat true++ [false]} (-1)=aJ D (x.n 0):=by
     have e1:=IB (D:={D with st:=D.st.set (x.n 0).toNat true}) (by simpa using j) x;rw[if_pos c,bA,P6 j]at e1;rw[e1]
     congr 1;omega
    rw[aal,zQ b.len,e,<-zQ j];have:=(h.all (x.n 0)).1;rw[g]at this;exact this.symm
  ·rw[if_neg c]at a
   rw[ajp d c]at b⊢;have l:D.gX x.deed=true:=by
    rw[<-DN d c];cases e:Jo D.su x with
    |true=>rfl
    |false=>rw[if_pos e]at a;cases a
   have g:lN D.su (aJ D (-1)) x=true:=by
    cases e:lN D.su (aJ D (-1)) x with
    |true=>rfl
    |false=>rw[DN d c,if_neg (by simp[l]),if_pos e]at a;cases a
   refine⟨b,fun y hy f=> ?_,?_⟩
   ·rcases a8.1 hy with hy|hy
    ·exact h.fit y hy f
    ·simp only[aw]at hy;subst hy;exact WS (D:=D) d c l
   ·have e:=IB j x
    rw[if_neg c]at e;obtain⟨t,q⟩:=cr.1 h.live;have hd:=Vf h d c l;have o:qR D.su (D.without (-1)) D.su.sp0=some t:=q;rw[aal,zQ b.len,e,a7,<-zQ j,ai,br,I4];simp only[o,dc];obtain⟨s,r⟩:=(h.all (-1)).2 t q;have u:=WS d c l;rw[<-SQ h.ok.su s r (fun k=>zh _ k fun y hy=>h.fit y (jA hy).1 (jA hy).2) u];exact g
 ·exact h
def ahL (hs:s.ok=true):Dk.Live ⟨s,[],[]⟩:=
 ⟨⟨hs,rfl,by simp,by simp,by simp⟩,by simp,rfl⟩
def ahY (h:Int):∀l:List Int,(match l with| []=>true| [x]=>x==h| _=>false)=(l.all fun x=>x==h)\/¬l.Nodup
 | []=> .inl rfl
 | [x]=> .inl (by simp)
 |x::y::l=>by
  by_cases a:(x::y::l).Nodup
  case neg=>exact .inr a
  refine .inl ?_;rw[cE]at a;have b:x≠y:=fun e=>a.1 (by rw[e];simp)
  simp only[cP]
  by_cases c:x=h
  ·by_cases d:y=h
   ·exact absurd (c.trans d.symm) b
   ·simp[d]
  ·simp[c]
def acO (p q:Pc)(hand:Int)(f:Fr):Bool:=decide (bQ (aP q.links (p.hands.getD hand.toNat default).toNat)=zU f.n.natAbs f.d.natAbs)&&(cz p.hands.length).all fun(i:Nat)=>decide ((i:Int)=hand)||decide (bQ (aP p.links (p.hands.getD i default).toNat)=bQ (aP q.links (p.hands.getD i default).toNat))
def afT {q:Pc}(t:p.ok=true)(u:q.ok=true)(hl:q.links.length=p.links.length){hand:Int}(h1:hand.toNat<p.hands.length){f:Fr}(hf:f.ok=true):kJ p q hand f=acO p q hand f:=by
 have g:=Pc.good t;have a:=Pc.good u;have m:∀j,j<p.hands.length->1<=p.hands.getD j default/\p.hands.getD j default<=p.links.length:=fun j b=>g.hd _ (getD_mem b)
 have s:0<=f.n/\1<=f.d:=by
  have:(0<=f.n/\f.n<=50000)/\1<=f.d/\f.d<=50000:=by simpa[Fr.ok,inR]using hf
  omega
 have e1:Aw ((fJ q.links).getD (p.hands.getD hand.toNat default).toNat default) f=decide (bQ (aP q.links (p.hands.getD hand.toNat default).toNat)=zU f.n.natAbs f.d.natAbs):=by
  obtain⟨b1,o⟩:=m _ h1;rw[Gf a.lk (by omega)];obtain⟨w,y⟩:=NC (qc a.lk a.pr (show(p.hands.getD hand.toNat default).toNat<=q.links.length by omega));have v:∀l,bQ l=zU (gu l).n.natAbs (gu l).d.natAbs:=fun _=>rfl
  rw[v,bt,decide_eq_true_iff,adF (by omega) (by omega)];simp only[Aw,beq_iff_eq];rw[<-cg,<-cg];have z:0<=(gu (aP q.links (p.hands.getD hand.toNat default).toNat)).n*f.d:=cf (by omega) (by omega);have A:0<=f.n*(gu (aP q.links (p.hands.getD hand.toNat default).toNat)).d:=cf (by omega) (by omega);omega
 have e2:p.lV q=((cz p.hands.length).filter fun(j:Nat)=> !decide (bQ (aP p.links (p.hands.getD j default).toNat)=bQ (aP q.links (p.hands.getD j default).toNat))).map fun(j:Nat)=>(j:Int):=by
  rw[Pc.lV,Gq,b0]
  congr 1
  refine bj fun j b=> ?_
  have c:j<p.hands.length:=by simpa using(bR.1 b)
  obtain⟨b1,o⟩:=m j c;rw[c6,Gf g.lk (by omega),Gf a.lk (by omega),Ub (qc g.lk g.pr (by omega)) (qc a.lk a.pr (by omega))]
 have k:(p.lV q).Nodup:=by
  rw[e2];rw[List.Nodup,List.pairwise_map];exact(List.Pairwise.filter _ List.nodup_range).imp fun h e=>h (by omega)
 have r:=(ahY hand (p.lV q)).resolve_right (fun h=>h k);refine(show kJ p q hand f=(decide (bQ (aP q.links (p.hands.getD hand.toNat default).toNat)=zU f.n.natAbs f.d.natAbs)&&(p.lV q).all fun x=>x==hand) from congr (congrArg and e1) r).trans ?_;rw[acO,e2,List.all_map,List.all_filter]
 congr 1
 congr 1
 funext i
 simp only[Function.comp_apply]
 by_cases h:(i:Int)=hand<;>simp[h]
def zY (p:Pc)(c:Chg):(p.changed c).links.length=p.links.length:=by simp[Pc.changed]
def UL {p:Pc}{link:Nat}{a:Int}{c:Chg}:∀{k:Nat} {b:Int},c∈vH p link a k b->c.link=(link:Int)/\c.pr.a=a/\b<=c.pr.b/\c.pr.b<b+k
 |0,b,h=>by cases h
 |k+1,b,h=>by
  rw[vH]at h
  rcases a8.1 h with h|h
  ·split at h
   ·cases h
   ·cases aw.1 h
    exact⟨rfl,rfl,cH _,by simp only;omega⟩
  ·have:=UL h
   omega
def MQ {p:Pc}{d:Int}{w link:Nat}{c:Chg}:∀{k:Nat} {a:Int},c∈sO p d w link k a->c.link=(link:Int)/\(a<=c.pr.a/\c.pr.a<a+k)/\d<=c.pr.b/\c.pr.b<d+w
 |0,a,h=>by cases h
 |k+1,a,h=>by
  rw[sO]at h
  rcases a8.1 h with h|h
  ·have:=UL h;omega
  ·have:=MQ h;omega
def GI {p:Pc}{d:Int}{w:Nat}{c:Chg}:∀{k link:Nat},c∈iM p d w k link->((link:Int)<=c.link/\c.link<link+k)/\(d<=c.pr.a/\c.pr.a<d+w)/\d<=c.pr.b/\c.pr.b<d+w
 |0,link,h=>by cases h
 |k+1,link,h=>by
  rw[iM]at h
  rcases a8.1 h with h|h
  ·have:=MQ h;omega
  ·have:=GI h;omega
def Bz (S:Chg->Chg->Bool):List Chg->Option (List Chg)
 | []=>none
 |c::cs=>match cs.find? fun k=>decide (k.link>c.link)&&S c k with
  |some k=>some [c,k]
  |none=>Bz S cs
def find_none_of {α:Type}{p:α->Bool}{l:List α}(h:∀x∈l,p x=false):l.find? p=none:=by
 rw[List.find?_eq_none];intro x a;rw[h x a];decide
def find_congr {α:Type}{p q:α->Bool}:∀{l:List α},(∀x∈l,p x=q x)->l.find? p=l.find? q
 | [],_=>rfl
 |x::l,h=>by
  rw[cC,cC,h x (by simp),find_congr fun y a=>h y (by simp[a])]
def Zp {S:Chg->Chg->Bool}{R:List Chg}{i:Int}{g:Chg->Option (List Chg)}(d:∀k∈R,k.link>i)(f:∀c,c.link=i->g c=(R.find? (S c)).map fun k=>[c,k])(j:Bz S R=R.findSome? g):∀A:List Chg,(∀c∈A,c.link=i)->Bz S (A++R)=(A++R).findSome? g
 | [],_=>j
 |c::A,h=>by
  have b:=h c (by simp);have e:(A++R).find? (fun k=>decide (k.link>c.link)&&S c k)=R.find? (S c):=by
   rw[List.find?_append,find_none_of (l:=A) (fun x a=>by rw[b,h x (by simp[a])];simp),Option.none_or];exact find_congr fun x a=>by rw[b,decide_eq_true (d x a),bk]
  rw[aM,Bz,e,cK,f c b];cases R.find? (S c)with
  |some k=>rfl
  |none=>exact Zp d f j A fun x a=>h x (by simp[a])
def YC {α β:Type}(p:α->Bool)(f:α->β):∀l:List α,(l.findSome? fun x=>if p x then some (f x)else none)=(l.find? p).map f
 | []=>rfl
 |x::l=>by
  rw[cK,cC,YC p f l];cases p x<;>simp
def PX (p:Pc)(hand:Int)(f:Fr)(all:List Chg):Option (List Chg):=
 if kJ p p hand f then some []else match all.find? fun c=>kJ p (p.changed c) hand f with
  |some c=>some [c]
  |none=>Bz (fun c k=>kJ p ((p.changed c).changed k) hand f) all
def adL (p:Pc)(hand:Int)(f:Fr)(a:Int)(w:Nat)(now:Pc)(fr:Nat):gJ p hand f a w 1 now fr=((iM p a w (p.links.length - fr) fr).find? fun c=>kJ p (now.changed c) hand f).map fun c=>[c]:=by
 rw[gJ,<-YC]
 congr 1
 funext c
 simp only[gJ]
 split<;>rfl
def adM (p:Pc)(hand:Int)(f:Fr)(a:Int)(w:Nat):∀(k i:Nat),i+k=p.links.length->Bz (fun c k=>kJ p ((p.changed c).changed k) hand f) (iM p a w k i)=(iM p a w k i).findSome? fun c=>(gJ p hand f a w 1 (p.changed c) (c.link.toNat+1)).map (c::·)
 |0,i,_=>rfl
 |k+1,i,h=>by
  rw[iM];refine Zp (i:=(i:Int)) (fun c b=> ?_) (fun c b=> ?_) (adM p hand f a w k (i+1) (by omega)) _ fun c b=>(MQ b).1
  ·have:=(GI b).1.1;omega
  ·rw[b,adL,aq,show p.links.length - (i+1)=k by omega,Option.map_map]
   rfl
def Oa (i:p.ok=true){a b hand:Int}(hl:aI a=true)(h:aI b=true)(d:a<=b)(j:b - a<=10)(e:inR hand 0 (p.hands.length - 1)=true){f:Fr}(hf:f.ok=true):
  p.changes a b hand f=match PX p hand f (iM p a (b - a+1).toNat p.links.length 0)with|some l=>(l,0)|none=>([],5):=by
 have g:(p.ok&&(aI a&&aI b&&decide (a<=b))&&decide (b - a<=10)&&inR hand 0 (p.hands.length - 1)&&f.ok)=true:=by simp[i,hl,h,d,j,e,hf]
 rw[Pc.changes,if_pos g,adL,gJ,PX];rw[show gJ p hand f a (b - a+1).toNat 2 p 0=Bz (fun c k=>kJ p ((p.changed c).changed k) hand f) (iM p a (b - a+1).toNat p.links.length 0) from by rw[adM _ _ _ _ _ _ _ (by omega),gJ];rfl];rw[c6];cases m:kJ p p hand f
 ·simp only[be,if_false]
  cases((iM p a (b - a+1).toNat p.links.length 0).find? fun c=>kJ p (p.changed c) hand f)with
  |some c=>rfl
  |none=>rfl
 ·simp
end Go.Tel
namespace Go.Proofs
open Go.Shelf Go.RowKit Go.Lib
def Tryz.joinExtra:Builder.Extra Tryz.prog Tryz.laysJoin_ren:={
 sizeBuilder:=by kernel_rfl
 liesBuilder:=by kernel_rfl
 t5:=by kernel_rfl
 a5:=Tryz.isAgg5
 z5:=Tryz.sizeOf5
 v5:=Tryz.zeroValue5
 infoByte:=by kernel_rfl
 cellsByte:=by kernel_rfl
 sizeByte:=by kernel_rfl
 neB5:=by decide}
section
variable {P:Program}{ρ:Ren}
def afR (L:Lays.n146 P ρ)(h:(P.info? (ρ.t 9)).map (fun i=>(i.zero,i.size,i.bytes))=some (some (.string ByteArray.empty),1,16))(s:ByteArray)(a:UInt8)(w:World)(hs:s.size<4294967281):
  Calls P (ρ.f 146) #[.string s, .string ⟨#[a]⟩] w fun e w'=>
   e= .returned (.slice (some ⟨w.heap.size,0,none⟩) (Lib.countB s ⟨#[a]⟩+1) (Lib.countB s ⟨#[a]⟩+1))/\w'=w.alloc (.cells ((Lib.splitB ⟨#[a]⟩ 0 (Lib.countB s ⟨#[a]⟩) s).map Value.string).toArray (ρ.t 9)):=by
 have h1:1<=(⟨#[a]⟩:ByteArray).size:=aL _;have l:=Lib.countB_le ⟨#[a]⟩ h1 s.size s (aL _);have b:=Lib.splitB_all ⟨#[a]⟩ h1 0 _ s rfl;have c:=Any.strings_genSplit_core {L with} h s ⟨#[a]⟩ 0 (-1) (Lib.countB s ⟨#[a]⟩+1) w hs h1 (bq _)
  (fun x cs _=>(Any.strings_Index_one {L with} x a _).mono fun e w' ⟨g,d⟩=>⟨by rw[g];show _=Ending.returned (Value.int .i64 (Lib.index x.data.toList [a]));rw[Lib.index_one],d⟩)
  ((Any.strings_Count_one {L with} s a w).mono fun e w' ⟨g,d⟩=>⟨by rw[g];show _=Ending.returned (Value.int .i64 ((Lib.count s.data.toList [a]:Nat):Int));rw[Lib.count_one];rfl,d⟩)
  (by decide) (by decide) (by rw[if_pos (by decide)];omega)
 rw[cl,b]at c;have e2:Lib.cellsOf (Lib.splitB ⟨#[a]⟩ 0 (Lib.countB s ⟨#[a]⟩) s) (Lib.countB s ⟨#[a]⟩+1)=((Lib.splitB ⟨#[a]⟩ 0 (Lib.countB s ⟨#[a]⟩) s).map Value.string).toArray:=by rw[<-b];exact Lib.cellsOf_full _
 rw[e2]at c;have r:=L.t3;have u:=L.t9;have m:=L.t31;have p:=L.a3;have q:=L.a9;have k:=L.a31;have z:=L.z3;have v:=L.v3;have A:=L.z9;have y:=L.v9;have o:=L.z31;have n:=L.v31;have j:∀args w,(callFunc (ρ.f 221) args).run P w= .ok (.enter (ρ.f 221) args) w:=enters_of L.f221 (by kernel_rfl) rfl
 go_enter L.f146,Body.n146_ntmps ρ
 go_wp2_with (go_at_fn (ρ.f 221);refine c.mono ?_;rintro e w' ⟨rfl,d⟩;rw[d])
 go_ret
 exact⟨rfl,rfl⟩
end
end Go.Proofs
namespace Go.Tel
open Go.Am
def aY (s:ByteArray)(c:UInt8):List ByteArray:=Go.Lib.splitB ⟨#[c]⟩ 0 (Go.Lib.countB s ⟨#[c]⟩) s
def sK (s:ByteArray)(c:UInt8):(aY s c).length=Go.Lib.countB s ⟨#[c]⟩+1:=Go.Lib.splitB_all ⟨#[c]⟩ (aL _) 0 _ s rfl
def VO {w:World}{O:Nat->Prop}:∀xs:List ByteArray,bn w O (xs.map Value.string) (xs.map DV.str)
 | []=> .nil
 |x::xs=> .cons (.str _) (VO xs)
def Nh:∀xs:List ByteArray,flat (xs.map DV.str)=xs.map DV.str
 | []=>rfl
 |x::xs=>by
  have:=Nh xs;simp only[flat]at this⊢;simp only[ai,List.flatMap_cons,this]
  rfl
def ajz (s:ByteArray)(c:UInt8)(hs:s.size<=1000000):Am.Pure Go.Tel.C 219 [.str s, .str ⟨#[c]⟩] (.d (.slice false ((aY s c).map .str))) []:=by
 refine rJ fun X w b g a f=> ?_
 cases f with|cons h1 t1=>
 cases t1 with|cons h2 t2=>
 cases t2;cases h1;cases h2;refine(Go.Proofs.afR Go.Proofs.Tryz.laysSplit (by kernel_rfl) s c w (by omega)).mono ?_;rintro e i ⟨rfl,rfl⟩;refine⟨_,rfl,Later.alloc w _,?_⟩;refine .slice (sz:=1) (T:=Go.Proofs.Tryz.laysSplit_ren.t 9) (fz:=(0,0)) (cs:=((aY s c).map Value.string).toArray) ?_ (fun h=>bl _ (a _ h)) (by simp[sK]) (by intro x a;obtain⟨y,_,rfl⟩:=aR.1 a;rfl) (aL _) (fun h=>by cases h) ?_
 ·show(w.heap.push _)[w.heap.size]?=_
  rw[Array.getElem?_push_size];rfl
 ·rw[Nh]
  simp only[ax,de];rw[cA (by simp[sK])];exact VO _
def al9 (n:Int)(c: -9223372036854775808<=n)(h1:n<=9223372036854775807):Am.Pure Go.Tel.C 213 [.int .i64 n] (.d (.str ⟨(Go.Lib.itoa n).toArray⟩)) []:=by
 refine rJ fun X w a f i h=> ?_
 cases h with|cons h2 t2=>
 cases t2;cases h2;refine(Go.Proofs.Any.strconv_Itoa Go.Proofs.Tryz.laysItoa n c h1 w f).mono ?_;rintro e j ⟨rfl,k,os,rfl⟩;exact⟨_,rfl,⟨rfl,rfl,rfl,by simp[Go.Sort.grow],fun b g=>by simp only[Go.Sort.grow];rw[Array.getElem?_append_left (by exact g)];rfl⟩, .str _⟩
def adk (xs:List ByteArray)(a:ByteArray):ByteArray:=⟨(Go.Lib.join (xs.map (·.data.toList)) a.data.toList).toArray⟩
def Iu {w:World}{O:Nat->Prop}:∀{vs:List Value} {xs:List ByteArray},bn w O vs (xs.map DV.str)->vs=xs.map Value.string
 | _,[], .nil=>rfl
 | _,x::xs, .cons h t=>by
  cases h;rw[Iu t]
  rfl
end Go.Tel
namespace Go.Am
section
variable {C:Ctx}{base:Nat}{M:Mem}{K:PV->Mem->Prop}{KP:DV->Mem->Prop}
variable{a b:ByteArray}
def dM {op:BinOp}{K:DV->Prop}:NZ op (.d (.str a)) (.d (.str b)) K=AO op a b K:=px
def lH {K:DV->Prop}:AO .add a b K=(a.size+b.size<=9223372036854775807/\K (.str (a++b))):=px
def pW {K:DV->Prop}:AO .eql a b K=K (.bool (a.toList==b.toList)):=px
def Hf {K:DV->Prop}:AO .neq a b K=K (.bool (!(a.toList==b.toList))):=px
end
end Go.Am
namespace Go.Tel
open Go.Am
def size_data (b:ByteArray):b.data.toList.length=b.size:=bo
def ama (xs:List ByteArray)(b:ByteArray)(F:xs.length<=1000000)(hl:(Go.Lib.join (xs.map (·.data.toList)) b.data.toList).length<=1000000000):
  Am.Pure Go.Tel.C 218 [sF (xs.map .str), .str b] (.d (.str (adk xs b))) []:=by
 refine rJ fun X w u E H A=> ?_
 cases A with|cons h1 t1=>
 cases t1 with|cons y t2=>
 cases t2;cases y;generalize h:xs.map DV.str=ys at h1;cases h1 with
 |empty=>
  rw[b8]at h;subst h;refine(Go.Proofs.Any.strings_Join_none Go.Proofs.Tryz.laysJoin Go.Proofs.Tryz.joinExtra _ _ b w).mono ?_;rintro e v ⟨rfl,rfl⟩;exact⟨_,rfl,Later.refl _, .str _⟩
 |slice q G f B z D g=>
 rename_i i k len cap sz cs T fz
 subst h;rw[Y]at f;subst f
 by_cases s:xs=[]
 ·subst s
  refine(Go.Proofs.Any.strings_Join_none Go.Proofs.Tryz.laysJoin Go.Proofs.Tryz.joinExtra _ _ b w).mono ?_;rintro e v ⟨rfl,rfl⟩;exact⟨_,rfl,Later.refl _, .str _⟩
 have o:sz=1:=by
  obtain⟨p,l,rfl⟩:∃p l,xs=p::l:=by
   cases xs with
   |nil=>exact absurd rfl s
   |cons a t=>exact⟨a,t,rfl⟩
  rw[<-B (.str p) (by simp)];rfl
 subst o;rw[Nh,de]at g;have n:=Iu g;refine(Go.Proofs.Any.strings_Join Go.Proofs.Tryz.laysJoin Go.Proofs.Tryz.joinExtra i k cap xs b w (fun j x r=> ?_) (dh q) (by omega) z (by omega)).mono ?_
 ·have m:j<xs.length:=(ae.1 r).1
  rw[cell_of_row w i (k+j) cs T fz q];have:=congrArg (fun l=>l[j]?) n;simp only[List.getElem?_take,m,if_true,List.getElem?_drop,cF,cY,r,dj]at this;exact this
 ·rintro e v ⟨rfl,c⟩
  exact⟨_,rfl,⟨c.os,c.tape,c.output,c.size,c.block⟩, .str _⟩
def eu (n:Int):ByteArray:=⟨(Go.Lib.itoa n).toArray⟩
def I64 (n:Int):Prop:= -9223372036854775808<=n/\n<=9223372036854775807
def IG {n:Int}(h:I64 n):Pure C 213 [dI n] (.d (.str (eu n))) []:=al9 n h.1 h.2
def wG {n:Int}(h:I64 n):(eu n).size<=21:=by
 have:=Go.Lib.itoa_length_le n h.1 h.2
 simpa[eu,dk]using this
def Ox {B:Nat}(a:UInt8):∀(r:List (List UInt8)),(∀x∈r,x.length<=B)->(Go.Lib.joinTail [a] r).length<=r.length*(B+1)
 | [],_=>by simp[Go.Lib.joinTail]
 |x::r,h=>by
  have c:=Ox a r (fun y b=>h y (aD _ b));have d:=h x aE;simp only[Go.Lib.joinTail,ai,List.flatten_cons,V,W,ap]at c⊢;rw[du];omega
def join_le {B:Nat}(a:UInt8)(xs:List (List UInt8))(h:∀x∈xs,x.length<=B):(Go.Lib.join xs [a]).length<=xs.length*(B+1):=by
 cases xs with
 |nil=>simp[Go.Lib.join_nil]
 |cons x r=>
  rw[Go.Lib.join_cons,V,W,du];have:=Ox a r (fun y b=>h y (aD _ b));have:=h x aE;omega
def abK (xs:List ByteArray)(c:UInt8):(adk xs ⟨#[c]⟩).size=(Go.Lib.join (xs.map (·.data.toList)) [c]).length:=by
 unfold adk
 show(dq _).size=_
 rw[c3]
def CX (ns:List Int):ByteArray:=adk (ns.map eu) ⟨#[32]⟩
variable{ns:List Int}
def Ro (h:∀n∈ns,I64 n):(Go.Lib.join ((ns.map eu).map (·.data.toList)) [32]).length<=ns.length*22:=by
 have:=join_le (B:=21) 32 ((ns.map eu).map (·.data.toList)) (fun x a=>by
  simp only[aR]at a;obtain⟨y,⟨n,b,rfl⟩,rfl⟩:=a;rw[size_data];exact wG (h n b))
 simpa using this
def WX (h:∀n∈ns,I64 n):(CX ns).size<=ns.length*22:=by
 rw[CX,abK];exact Ro h
variable{s:ByteArray}
def gy:DV.cells (.str s)=[.str s]:=rfl
def QV:DV.fits 1 (.str s)=true:=rfl
def ahB (ns:List Int)(hl:ns.length<=1000)(h:∀n∈ns,I64 n):Pure C 122 [sF (ns.map au)] (.d (.str (CX ns))) []:=by
 refine ah xw aN ?_;simp only[xw,aN,Y,RN,z,J];refine aG ns.length (fun i (v:Nat)=>⟨[(3, .tsl 0 v 0),(6, .d (sF (ns.map au))),(7,pI ns.length),(8,pI i)],⟨[],[],[some ⟨1,((ns.take i).map eu).map .str,v,0⟩]⟩⟩)
  (fun _ _=>True) 0 0 (bq _) rfl trivial (fun i v a _=> ?_) (fun v _=> ?_)
 ·obtain⟨b,c,e⟩:=rng a (by omega)
  simp only[b,c,a,getD_map,aH,aq,Y,RN,z,N];refine ak (IG (h _ (getD_mem a))) ?_;simp only[fD,DV.strip,gy,QV,forall_eq,Y,RN,I,J,N];refine⟨by simp,by simp;omega,?_⟩;simp only[e];refine aX (v+1) a ?_ trivial;rw[aU a];simp
 ·simp only[cp,RN,z]
  rw[c9];refine lu (uf (d:=sF ((ns.map eu).map .str)) (by simp[datum,Mem.row])) rfl (ama (ns.map eu) ⟨#[32]⟩ (by simp;omega) (by have:=Ro h;simp only at this⊢;omega)) rfl ?_;(try simp only[RN,z,F,H,I,J,N])
  rfl
def En.line (x:En):ByteArray:=fwE x.kind++⟨#[32]⟩++CX x.ns
def Va {x:En}(h:x.formed=true):∀n∈x.ns,0<=n/\n<=9999:=by
 simp only[En.formed,U,decide_eq_true_eq,az]at h;intro n a
 simpa[inR]using h.2 n a
end Go.Tel
namespace Go.Am
section
variable {C:Ctx}{base:Nat}{L:PV->Mem->Prop}{KP:DV->Mem->Prop}{bs:List (Option (List PV))}{fz:List Nat}{ar:List (Option Arr)}
variable{s:ByteArray}
def aj6 {i:Nat}:ay C base (.rngS i) [.d (.str s)] ⟨bs,fz,ar⟩ L KP=(bs[base+i]?=some none/\L (.yX (base+i)) ⟨bs.set (base+i) (some [.EI s 0]),fz,ar⟩):=px
def abj {b pos c n:Nat}(h:bs[b]?=some (some [.EI s pos]))(hf:b∉fz)(e:pos<s.size)(hd:Utf8.decode s pos=(c,n))(a:L (.d (.tup [.bool true,dI pos, .int .i32 c])) ⟨bs.set b (some [.EI s (pos+n)]),fz,ar⟩):
  ay C base .Zg [.yX b] ⟨bs,fz,ar⟩ L KP:=by
 simp only[ay,Mem.box,h,hd];exact⟨hf,by rw[if_pos e];exact a⟩
def YB {b pos:Nat}(h:bs[b]?=some (some [.EI s pos]))(hf:b∉fz)(c:¬pos<s.size)(a:L (.d (.tup [.bool false])) ⟨bs,fz,ar⟩):
  ay C base .Zg [.yX b] ⟨bs,fz,ar⟩ L KP:=by
 simp only[ay,Mem.box,h];exact⟨hf,by rw[if_neg c];exact a⟩
variable{M:Mem}{K:PV->Mem->Prop}
def wB {sz:Nat}{xs:List DV}{k:IntKind}{n:Int}(hs:∀x∈xs,x.cells.length=sz)(a:0<=n)(h1:n<=xs.length):
  ay C base (.zV sz true false false) [.d (.slice false xs), .d (.int k n)] M K KP=K (.d (sF (xs.drop n.toNat))) M:=by
 simp only[ay,Au,eH,bd,cv,aq,c9,cb,Bool.or_false];refine propext ⟨fun h=>h.2.2.2.2.2.2,fun h=>⟨trivial,hs,a,h1,cH _,fun c b=>b,h⟩⟩
def ag4 {neq:Bool}{a c:ByteArray}{b d:Int}:ay C base (.AL neq [2,1]) [.d (.agg [.str a,dI b]), .d (.agg [.str c,dI d])] M K KP=K (.d (.bool (((a.toList==c.toList)&&(b==d)) !=neq))) M:=by
 rw[ac8 (t:=(a.toList==c.toList)&&(b==d))];simp[fA]
end
end Go.Am
namespace Go.Tel
open Go.Am
def XJ (xs:List ByteArray):∀y∈xs.map DV.str,y.cells.length=1:=by
 intro y a;obtain⟨n,_,rfl⟩:=aR.1 a;rfl
def an4 {p:ByteArray×Nat}:abp p= .agg [.str p.1,dI (p.2:Int)]:=rfl
def jJ (s:ByteArray)(n:Nat)(p:ByteArray×Nat):Bool:=(s.toList==p.1.toList)&&((n:Int)==(p.2:Int))
def YO (l:List (ByteArray×Nat))(hl:l.length<=1000)(s:ByteArray)(n:Nat):Pure C 220 [sF (l.map abp), .agg [.str s,dI (n:Int)]] (.d (dI (jS (jJ s n) l 0))) []:=by
 refine ah lg aK ?_;simp only[lg,aK,Y,RN,z,F];refine aG l.length (fun i (_:Unit)=>⟨[(0, .d (sF (l.map abp))),(3, .d (.aV [.str s,dI (n:Int)])),(7,pI l.length),(8,pI i)],⟨[some [.d (.str s),pI (n:Int)]],[0],[]⟩⟩)
  (fun i _=>jS (jJ s n) l 0=jS (jJ s n) (l.drop i) i) 0 () (bq _) rfl rfl (fun i _ h1 a=> ?_) (fun _ a=> ?_)
 ·obtain⟨h2,c,e⟩:=rng h1 (by omega)
  rw[drop_cons h1,jS]at a;simp only[h2,c,h1,getD_map,aq,Y,an4,ag4,ac1,RN,z,F,N];cases b:jJ s n (l.getD i default)
  ·rw[if_neg (fun h=>by rw[b]at h;cases h)]at a
   rw[jJ]at b;simp only[b,e,RN,z];exact aX () h1 rfl a
  ·rw[if_pos b]at a
   rw[jJ]at b;simp only[b,RN,z];rw[a]
 ·rw[c7,jS]at a
  simp only[cp,a,RN,z]
variable{M:Mem}
def wY {b:Bool}{s:ByteArray}{K:PV->Mem->Prop}{KP:DV->Mem->Prop}(c:b=true->K (.d (.tup [])) M)(e:b=false->∀d,Qp d->KP d M):SC C 221 [.d (.bool b), .d (.str s)] M K KP:=by
 refine Go.Am.TF (ds:=[.bool b, .str s]) (Kr:=fun x=>b=true/\x= .tup []) (Kp:=fun d=>b=false/\Qp d) ?_ (fun x a=>by rw[a.2];exact c a.1) (fun d hd=>e hd.1 d hd.2);refine aC sD gY ?_;cases b
 ·simp only[sD,gY,OD,QN,RN,z,F,N]
  exact⟨s,rfl⟩
 ·simp only[sD,gY,RN,z,F]
  exact⟨_,rfl,rfl⟩
def xk (w:ByteArray):Nat->Nat->Int->Option Int
 |0,_,n=>some n
 |k+1,pos,n=>if 48<=(w.data.getD pos 0).toNat/\(w.data.getD pos 0).toNat<=57/\w.size<=4 then xk w k (pos+1) (10*n+(((w.data.getD pos 0).toNat:Int) - 48))else none
def iR (w:ByteArray):Option Int:=match xk w w.size 0 0 with
 |some n=>if w.size≠0/\(eu n).data.toList=w.data.toList then some n else none
 |none=>none
def fV:List ByteArray->List Int->Option (List Int)
 | [],a=>some a
 |x::l,a=>match iR x with
  |some n=>fV l (a++ [n])
  |none=>none
def iZ (line:ByteArray)(fm:List (ByteArray×Nat)):Option (Int×List Int):=
 if jS (jJ ((aY line 32).getD 0 default) ((aY line 32).length - 1)) fm 0>=0 then
  (match fV ((aY line 32).drop 1) []with
  |some l=>some (jS (jJ ((aY line 32).getD 0 default) ((aY line 32).length - 1)) fm 0,l)
  |none=>none)
 else none
def WU {α:Type}(p:α->Bool):∀(l:List α) (i:Nat), -1<=jS p l i/\jS p l i<=(i+l.length:Nat)
 | [],i=>by simp only[jS];omega
 |x::l,i=>by
  simp only[jS]
  split
  ·simp;omega
  ·have:=WU p l (i+1);simp only[W];omega
def adV {line:ByteArray}(hr:line.size<=1000000)(fm:List (ByteArray×Nat))(D:fm.length<=1000)(ex:Bool){M:Mem}{K:PV->Mem->Prop}{KP:DV->Mem->Prop}
  (Z:∀o ns,iZ line fm=some (o,ns)->K (.d (.tup [dI o,sF (ns.map au)])) M)(hP:iZ line fm=none->∀d,Qp d->KP d M):SC C 126 [.d (.str line), .d (.slice ex (fm.map abp))] M K KP:=by
 refine Go.Am.TF (ds:=[.str line, .slice ex (fm.map abp)]) (Kr:=fun x=>∃a ns,iZ line fm=some (a,ns)/\x= .tup [dI a,sF (ns.map au)]) (Kp:=fun d=>iZ line fm=none/\Qp d) ?_ (fun x hx=>by obtain⟨a,ns,h1,rfl⟩:=hx;exact Z a ns h1) (fun d hd=>hP hd.1 d hd.2);have hl:=sK line 32;have ab:=Go.Lib.countB_le ⟨#[32]⟩ (aL _) line.size line (aL _);have Q9:=ajz line 32 hr;refine aC zn bW ?_;simp only[zn,bW,RN,z,F,J];refine ak Q9 ?_;have adU:iZ line fm=if jS (jJ ((aY line 32).getD 0 default) ((aY line 32).length - 1)) fm 0>=0 then(match fV ((aY line 32).drop 1) []with|some l=>some (jS (jJ ((aY line 32).getD 0 default) ((aY line 32).length - 1)) fm 0,l)|none=>none)else none:=rfl
 have ae:(aY line 32).length<=1000001:=by omega
 have ac:1<=(aY line 32).length:=by omega
 generalize aY line 32=ws at*;have i0:(0:Int)<=0:=by decide
 have l0:0<ws.length:=by omega
 have R:dz .i64 ((ws.length:Int) - 1)=((ws.length - 1:Nat):Int):=by rw[aB (by omega)];omega
 have E:=YO fm D (ws.getD 0 default) (ws.length - 1);have aqv:=WU (jJ (ws.getD 0 default) (ws.length - 1)) fm 0;simp only[Y,i0,l0,Int.toNat_zero,getD_map,gy,R,RN,z,F,N];refine ak E ?_;(try simp only[RN]);generalize jS (jJ (ws.getD 0 default) (ws.length - 1)) fm 0=ix at*;refine wY (fun e2=> ?_) (fun e2 d b=>⟨by rw[adU,if_neg (of_decide_eq_false e2)],b⟩);rw[if_pos (of_decide_eq_true e2)]at adU;(try simp only[RN]);rw[wB (XJ ws) (by decide) (by rw[Y];omega)];have B:(ws.map DV.str).drop (Int.toNat 1)=(ws.drop 1).map DV.str:=by rw[List.map_drop];rfl
 rw[B];have P:(ws.drop 1).length<=1000000:=by simp;omega
 generalize ws.drop 1=xs at*;simp only[Y,RN];refine aG xs.length (fun i (q:List Int×Nat)=>⟨[(0, .d (.str line)),(7,pI ix),(8, .tsl 1 q.2 0),(30, .d (sF (xs.map .str))),(31,pI xs.length),(32,pI i)],⟨[],[],[some ⟨1,[],0,0⟩,some ⟨1,q.1.map au,q.2,0⟩]⟩⟩)
  (fun i q=>fV xs []=fV (xs.drop i) q.1/\q.1.length=i) 0 ([],0) (bq _) rfl ⟨rfl,rfl⟩ (fun i q s p=> ?_) (fun q p=> ?_)
 ·obtain⟨f,ver⟩:=q
  obtain⟨r1,r2⟩:=p;simp only at r1 r2;obtain⟨V,W,X⟩:=rng s P;rw[drop_cons s,fV]at r1;obtain⟨w,S⟩:∃w,w=xs.getD i default:=⟨_,rfl⟩
  rw[<-S]at r1;have e:iR w=none->iZ line fm=none:=fun h=>by rw[adU,r1,h]
  simp only[V,W,s,getD_map,aq,Y,gy,<-S,aj6,RN,z,N];refine iE (fun(q:Nat×Int)=>⟨[(0, .d (.str line)),(7,pI ix),(8, .tsl 1 ver 0),(10, .d (.str w)),(11,pI q.2),(30, .d (sF (xs.map .str))),(31,pI xs.length),(32,pI i),(37, .yX 0)],⟨[some [.EI w q.1]],[],[some ⟨1,[],0,0⟩,some ⟨1,f.map au,ver,0⟩]⟩⟩)
   (fun q=>q.1<=w.size/\xk w w.size 0 0=xk w (w.size - q.1) q.1 q.2/\0<=q.2/\q.2<10 ^ q.1/\(0<q.1->w.size<=4)) (fun q=>w.size - q.1) (0,0) rfl ⟨bq _,rfl,by decide,by decide,by simp⟩ (fun q p=> ?_)
  obtain⟨pos,n⟩:=q;obtain⟨q1,g,q3,q4,U⟩:=p;simp only at q1 g q3 q4 U
  by_cases j:pos<w.size
  ·obtain⟨c,y,hd⟩:∃c y,Utf8.decode w pos=(c,y):=⟨_,_,rfl⟩
   have hg:w.data.getD pos 0=w[pos]'j:=by
    rw[b9,Array.getElem?_eq_getElem (show pos<w.data.size from j)];rfl
   have A:(48<=(w.data.getD pos 0).toNat/\(w.data.getD pos 0).toNat<=57↔48<=c/\c<=57)/\(c<=57->c=(w.data.getD pos 0).toNat/\y=1):=by
    rw[hg]
    by_cases ha:(w[pos]'j).toNat<128
    ·have:=decode_ascii w pos j ha
     rw[hd]at this;cases this;exact⟨Iff.rfl,fun _=>⟨rfl,rfl⟩⟩
    ·have:=(decode_high w pos j (by omega)).1
     rw[hd]at this;simp only at this;exact⟨by omega,by omega⟩
   obtain⟨k,hk⟩:∃k,w.size - pos=k+1:=⟨w.size - pos - 1,by omega⟩
   rw[hk,xk]at g;have bad:¬(48<=c/\c<=57/\w.size<=4)->iR w=none:=by
    intro H;rw[if_neg (by intro hh;exact H ⟨(A.1.1 ⟨hh.1,hh.2.1⟩).1,(A.1.1 ⟨hh.1,hh.2.1⟩).2,hh.2.2⟩)]at g;rw[iR,g]
   (try simp only[RN,z]);refine abj rfl (by simp) j hd ?_
   by_cases v:(c:Int)>=48
   case neg=>
    simp only[v,RN,z];exact wY (fun h=>by cases h) (fun _ d b=>⟨e (bad (by omega)),b⟩)
   by_cases Q:(c:Int)<=57
   case neg=>
    simp only[v,Q,RN,z];exact wY (fun h=>by cases h) (fun _ d b=>⟨e (bad (by omega)),b⟩)
   by_cases T:(w.size:Int)<=4
   case neg=>
    simp only[v,Q,T,RN,z];exact wY (fun h=>by cases h) (fun _ d b=>⟨e (bad (by omega)),b⟩)
   simp only[v,Q,T,RN,z];refine wY (fun _=> ?_) (fun h=>by cases h);obtain⟨hc,rfl⟩:=A.2 (by omega);rw[if_pos ⟨by omega,by omega,by omega⟩,<-hc]at g;have O:(10:Int) ^ pos<=1000:=by
    rcases pos with _| _| _| _|pos
    ·decide
    ·decide
    ·decide
    ·decide
    ·omega
   have R:dz .i64 (10*n)=10*n:=aB (by omega);have w2:IntKind.i32.wrap ((c:Int) - 48)=(c:Int) - 48:=by
    obtain⟨m,hm⟩:∃m:Nat,(c:Int) - 48=m:=bL (by omega)
    have G:m<10:=by omega
    rw[hm];exact(by decide:∀m<10,IntKind.i32.wrap ((m:Nat):Int)=m) m G
   have w3:dz .i64 ((c:Int) - 48)=(c:Int) - 48:=aB (by omega);have w4:dz .i64 (10*n+((c:Int) - 48))=10*n+((c:Int) - 48):=aB (by omega);simp only[R,w2,w3,w4];refine MC (a:=(pos,n)) (μ:=fun q=>w.size - q.1) (pos+1,10*n+((c:Int) - 48)) (by simp only;omega) rfl ⟨by simp only;omega,?_,by simp only;omega,?_,fun _=>by omega⟩ (by simp) (by simp) rfl rfl
   ·simp only
    rw[g,show w.size - (pos+1)=k by omega]
   ·simp only[dm];omega
  ·have L:pos=w.size:=by omega
   rw[L,cB,xk]at g;(try simp only[RN,z]);refine YB rfl (by simp) j ?_;have r:(w.toList==(⟨#[]⟩:ByteArray).toList)=decide (w.size=0):=by
    rw[Go.Lib.toList_data,Go.Lib.toList_data,<-size_data];cases w.data.toList<;>simp
   by_cases u:w.size=0
   ·rw[decide_eq_true u]at r
    simp only[dM,Hf,r,RN,z,J];exact wY (fun h=>by cases h) (fun _ d b=>⟨e (by rw[iR,g];simp[u]),b⟩)
   ·rw[decide_eq_false u]at r
    have am:w.size<=4:=U (by omega);have O:(10:Int) ^ pos<=10000:=by
     rcases pos with _| _| _| _| _|pos
     ·decide
     ·decide
     ·decide
     ·decide
     ·decide
     ·omega
    simp only[dM,Hf,r,RN,z,J];refine eG rfl rfl (IG ⟨by omega,by omega⟩) ?_
    by_cases t:(eu n).data.toList=w.data.toList
    ·have e1:((eu n).toList==w.toList)=true:=by rw[Go.Lib.toList_data,Go.Lib.toList_data];exact beq_iff_eq.2 t
     have H:iR w=some n:=by rw[iR,g];simp only;rw[if_pos ⟨u,t⟩]
     rw[H]at r1;simp only[dM,pW,e1];refine wY (fun _=> ?_) (fun h=>by cases h);simp only[fits_int,forall_eq,DV.strip,jH,Y,RN,I,N];refine⟨by simp,by omega,?_⟩;simp only[X];refine fC 0 2 (f++ [n],ver+1) s ?_ ⟨r1,by simp[r2]⟩ (by simp) (by simp) rfl rfl;simp only[a7,ai,br,aH];rfl
    ·have e1:((eu n).toList==w.toList)=false:=by rw[Go.Lib.toList_data,Go.Lib.toList_data];exact beq_eq_false_iff_ne.2 t
     simp only[dM,pW,e1];exact wY (fun h=>by cases h) (fun _ d b=>⟨e (by rw[iR,g];simp only;rw[if_neg (fun hh=>t hh.2)]),b⟩)
 ·obtain⟨f,ver⟩:=q
  obtain⟨r1,r2⟩:=p;simp only at r1 r2;rw[c7,fV]at r1;simp only[cp,bI,dS,b5,RN,z];exact⟨.tup [dI ix,sF (f.map au)],by simp[datum,bY,dY,Mem.row],ix,f,by rw[adU,r1],rfl⟩
def dP (line:ByteArray):En×Int:=
 if line.size>60 then(⟨0,[]⟩,3)else match iZ line fmL with
  |some (a,ns)=>(⟨1+a,ns⟩,0)
  |none=>(⟨0,[]⟩,4)
def gB (line:ByteArray):Qn×Int:=match iZ line amL with
 |some (a,ns)=>(⟨1+a,ns⟩,0)
 |none=>(⟨0,[]⟩,4)
def C9 (k:Int)(ns:List Int)(e:Int):DV:= .tup [.agg [dI k, .slice (decide (e≠0)) (ns.map au)],dI e]
variable{fm:List (ByteArray×Nat)}{a:Int}{ns:List Int}
def aaq {line:ByteArray}(h:iZ line fm=some (a,ns)):0<=a/\a<=fm.length:=by
 unfold iZ at h
 split at h
 ·rename_i b
  have c:=(WU (jJ ((aY line 32).getD 0 default) ((aY line 32).length - 1)) fm 0).2
  split at h
  ·cases h;omega
  ·cases h
 ·cases h
def afq {line:ByteArray}(n:line.size<=1000000){bs:List (Option (List PV))}{fz:List Nat}{ar:List (Option Arr)}(b:FzB ⟨bs,fz,ar⟩){xb:Nat}{j l:PV}(hx:bs[xb]?=some (some [j,l]))(f:xb∉fz):
  SC C 125 [.d (.aV [.str line]), .ptr xb 0] ⟨bs,fz,ar⟩
   (fun _ M'=>∃a ns y,iZ line fmL=some (a,ns)/\M'=⟨bs.set xb (some [pI (1+a), .d (sF (ns.map au))])++ [y],bs.length::fz,ar⟩)
   (fun d M'=>iZ line fmL=none/\Qp d/\∃y,M'=⟨bs++ [y],bs.length::fz,ar⟩):=by
 have c:bs.length∉fz:=fun e=>bl _ (b _ e)
 have g:xb<bs.length:=(ae.1 hx).1;have apR:∀k,xb<bs.length+k:=fun k=>by omega
 have i:¬xb=bs.length:=by omega
 refine aC vP gY ?_;simp only[vP,gY,RN,z,F];refine ak ade ?_;rw[adb];simp only[bJ,dB,c,V,WL,RN,z,F,I,N];refine⟨(fun h=>by cases h),?_⟩
 show SC C 126 [.d (.str line), .d (.slice true (fmL.map abp))] _ _ _
 refine adV n fmL (by decide) true (fun a ns h=> ?_) (fun h d hd=> ?_)
 ·have p:=aaq h
  have m:(fmL:List (ByteArray×Nat)).length<=12:=by decide
  have o:dz .i64 (1+a)=1+a:=aB (by omega);simp only[o,dQ,g,hx,DU,f,i,ao,GL,RN,z,F,N];exact⟨a,ns,_,h,rfl⟩
 ·exact⟨h,hd,_,rfl⟩
def afx {line:ByteArray}(n:line.size<=1000000){bs:List (Option (List PV))}{fz:List Nat}{ar:List (Option Arr)}(b:FzB ⟨bs,fz,ar⟩){xb:Nat}{j l:PV}(hx:bs[xb]?=some (some [j,l]))(f:xb∉fz):
  SC C 274 [.d (.aV [.str line]), .ptr xb 0] ⟨bs,fz,ar⟩
   (fun _ M'=>∃a ns y,iZ line amL=some (a,ns)/\M'=⟨bs.set xb (some [pI (1+a), .d (sF (ns.map au))])++ [y],bs.length::fz,ar⟩)
   (fun d M'=>iZ line amL=none/\Qp d/\∃y,M'=⟨bs++ [y],bs.length::fz,ar⟩):=by
 have c:bs.length∉fz:=fun e=>bl _ (b _ e)
 have g:xb<bs.length:=(ae.1 hx).1;have apR:∀k,xb<bs.length+k:=fun k=>by omega
 have i:¬xb=bs.length:=by omega
 refine aC rE gY ?_;simp only[rE,gY,RN,z,F];refine ak agt ?_;rw[ada];simp only[bJ,dB,c,V,WL,RN,z,F,I,N];refine⟨(fun h=>by cases h),?_⟩
 show SC C 126 [.d (.str line), .d (.slice true (amL.map abp))] _ _ _
 refine adV n amL (by decide) true (fun a ns h=> ?_) (fun h d hd=> ?_)
 ·have p:=aaq h
  have m:(amL:List (ByteArray×Nat)).length<=12:=by decide
  have o:dz .i64 (1+a)=1+a:=aB (by omega);simp only[o,dQ,g,hx,DU,f,i,ao,GL,RN,z,F,N];exact⟨a,ns,_,h,rfl⟩
 ·exact⟨h,hd,_,rfl⟩
def ajw (line:ByteArray):Pure C 44 [.str line] (.d (C9 (dP line).1.kind (dP line).1.ns (dP line).2)) []:=by
 refine ah yh Gl ?_;simp only[yh,Gl,RN,z,F,N]
 by_cases f:line.size>60
 ·have e:decide ((line.size:Int)>60)=true:=by simp;omega
  have c:dP line=(⟨0,[]⟩,3):=by rw[dP,if_pos f]
  simp only[e,c,C9,RN,z,F,I,N]
  rfl
 ·have e:decide ((line.size:Int)>60)=false:=by simp;omega
  simp only[e,oh,b5,RN,z,F];have z0:((0:Int) !=0)=false:=rfl;have j:((4:Int) !=0)=true:=rfl;refine Qh (fs:=[]) (cs:=[.d (.aV [.str line]), .ptr 2 0]) (fun i b=>by simp at b;simp[b]) (by kernel_rfl) ?_;refine SC.kZ (SC.mono (afq (line:=line) (by omega) (fun i b=>by simp at b;simp[b]) (xb:=2) rfl (by simp)) ?_) ?_
  ·rintro v g ⟨a,ns,y,h,rfl⟩
   have c:dP line=(⟨1+a,ns⟩,0):=by rw[dP,if_neg f,h]
   refine⟨rfl,by simp,?_⟩;simp only[z0,c,C9,ao,bz,RN,z,F,I,N];simp
  ·rintro d g ⟨h,hd,y,rfl⟩
   have c:dP line=(⟨0,[]⟩,4):=by rw[dP,if_neg f,h]
   refine⟨rfl,by simp,by simp, .inr ⟨hd,fun x=> ?_⟩⟩;simp only[j,c,C9,ao,bz,RN,z,F,I,N]
   rfl
def ach (line:ByteArray)(hl:line.size<=1000000):Pure C 214 [.str line] (.d (C9 (gB line).1.kind (gB line).1.ns (gB line).2)) []:=by
 refine ah uJ Gl ?_;simp only[uJ,Gl,oh,b5,RN,z,F];refine Qh (fs:=[]) (cs:=[.d (.aV [.str line]), .ptr 2 0]) (fun i b=>by simp at b;simp[b]) (by kernel_rfl) ?_;refine SC.kZ (SC.mono (afx (line:=line) hl (fun i b=>by simp at b;simp[b]) (xb:=2) rfl (by simp)) ?_) ?_
 ·rintro v e ⟨a,ns,y,h,rfl⟩
  have c:gB line=(⟨1+a,ns⟩,0):=by rw[gB,h]
  refine⟨rfl,by simp,?_⟩;simp only[c,C9,ao,bz,RN,F,I,N];simp
 ·rintro d e ⟨h,hd,y,rfl⟩
  have c:gB line=(⟨0,[]⟩,4):=by rw[gB,h]
  refine⟨rfl,by simp,by simp, .inr ⟨hd,fun x=> ?_⟩⟩;simp only[c,C9,ao,bz,RN,F,I,N]
  rfl
def Zd (w:ByteArray):∀(k pos:Nat) (n m:Int),xk w k pos n=some m->0<=n->n<10 ^ pos->(0<=m/\m<10 ^ (pos+k))/\(0<k->w.size<=4)
 |0,pos,n,m,h,a,h1=>by cases h;exact⟨⟨a,h1⟩,fun h=>by omega⟩
 |k+1,pos,n,m,h,a,h1=>by
  rw[xk]at h
  split at h
  ·rename_i b
   have c:(10:Int) ^ (pos+1)=10*10 ^ pos:=by rw[dm];omega
   have:=Zd w k (pos+1) _ m h (by omega) (by rw[c];omega);exact⟨by rw[show pos+(k+1)=pos+1+k by omega];exact this.1,fun _=>b.2.2⟩
  ·cases h
def ab1 {w:ByteArray}{n:Int}(h:iR w=some n):0<=n/\n<=9999:=by
 unfold iR at h;cases h1:xk w w.size 0 0 with
 |none=>rw[h1]at h;cases h
 |some m=>
  rw[h1]at h;simp only at h
  split at h
  ·rename_i a
   cases h;obtain⟨⟨d,e⟩,b⟩:=Zd w w.size 0 0 _ h1 (by decide) (by decide);have c:=b (by have:=a.1;omega);have:(10:Int) ^ (0+w.size)<=10000:=by
    obtain h|h|h|h|h:w.size=0\/w.size=1\/w.size=2\/w.size=3\/w.size=4:=by omega
    all_goals rw[h];decide
   omega
  ·cases h
def Vq:∀(l:List ByteArray) (a ns:List Int),fV l a=some ns->(∀n∈a,0<=n/\n<=9999)->∀n∈ns,0<=n/\n<=9999
 | [],a,ns,h,c=>by cases h;exact c
 |x::l,a,ns,h,c=>by
  rw[fV]at h;cases d:iR x with
  |none=>rw[d]at h;cases h
  |some m=>
   rw[d]at h;refine Vq l _ ns h fun n b=> ?_
   rcases a8.1 b with b|b
   ·exact c n b
   ·simp only[aw]at b;rw[b];exact ab1 d
def ajg {line:ByteArray}(h:iZ line fm=some (a,ns)):∀n∈ns,0<=n/\n<=9999:=by
 unfold iZ at h
 split at h
 ·split at h
  ·rename_i l b
   cases h;exact Vq _ _ _ b (by simp)
  ·cases h
 ·cases h
def aeO:ByteArray:=⟨#[101,114,114,111,114,32]⟩
def ahU:ByteArray:=⟨#[110,111,116,101,100]⟩
def Zc:ByteArray:=⟨#[110,111,116,104,105,110,103]⟩
def aht (n:Int):Bool:=decide (-9223372036854775808<=n)&&decide (n<=9223372036854775807)
def Dk.said (D:Dk)(line:ByteArray):Option (Dk×ByteArray):=
 if(dP line).2=0 then(if(D.enter (dP line).1).2=0 then some ((D.enter (dP line).1).1,ahU)else some ((D.enter (dP line).1).1,aeO++eu (D.enter (dP line).1).2))
 else if(dP line).2=3 then some (D,aeO++eu 3)
 else if(gB line).2=0 then
  (if(D.ask (gB line).1).2≠0 then some (D,aeO++eu (D.ask (gB line).1).2)
  else if(D.ask (gB line).1).1=[]then some (D,Zc)
  else if(D.ask (gB line).1).1.all aht&&decide ((D.ask (gB line).1).1.length<=1000)then some (D,CX (D.ask (gB line).1).1)else none)
 else some (D,aeO++eu (gB line).2)
def Na (D:Dk)(x:En):0<=(D.enter x).2/\(D.enter x).2<=7:=by
 unfold Dk.enter
 repeat' split
 all_goals simp
def agP (d:Dvd)(n:Int):0<=(d.cuts n).2/\(d.cuts n).2<=7:=by
 unfold Dvd.cuts
 split
 ·split<;>simp
 ·simp
def VE (line:ByteArray):0<=(gB line).2/\(gB line).2<=7:=by
 unfold gB;split<;>simp
def afr (line:ByteArray):0<=(dP line).2/\(dP line).2<=7:=by
 unfold dP;split
 ·simp
 ·split<;>simp
def af8 (p:Pc)(h:Int)(f:Fr)(n:Int):0<=(sN p h f n).2/\(sN p h f n).2<=7:=by
 unfold sN ab4
 repeat' split
 all_goals simp
def Yk (p:Pc)(a b h:Int)(f:Fr):0<=(p.changes a b h f).2/\(p.changes a b h f).2<=7:=by
 have pr:∀(l:List Chg) (n:Int),0<=n/\n<=7->0<=(l,n).2/\(l,n).2<=7:=fun _ _ h=>h
 unfold Pc.changes
 split
 ·split
  ·exact pr _ 0 (by decide)
  split
  ·exact pr _ 0 (by decide)
  split
  ·exact pr _ 0 (by decide)
  ·exact pr _ 5 (by decide)
 ·exact pr _ 2 (by decide)
def ahP (D:Dk)(t:Sp)(a b c:Int):0<=(oL D t a b c).2/\(oL D t a b c).2<=7:=by
 unfold oL
 split
 ·split
  ·simp
  ·exact Yk _ _ _ _ _
 ·simp
def agc (r:List Int×Int):Prop:=0<=r.2/\r.2<=7
variable{c:Prop}
def oH [Decidable c]{a b:List Int×Int}(d:agc a)(hb:agc b):agc (if c then a else b):=by
 by_cases h:c
 ·rw[if_pos h];exact d
 ·rw[if_neg h];exact hb
def yT (l:List Int){n:Int}(h:0<=n/\n<=7):agc (l,n):=h
def ajT [Decidable c]{b:Int}(d:0<=a/\a<=7)(hb:0<=b/\b<=7):0<=(if c then a else b)/\(if c then a else b)<=7:=by
 by_cases h:c
 ·rw[if_pos h];exact d
 ·rw[if_neg h];exact hb
def Qr (D:Dk)(t:Sp)(q:Qn):0<=(D.answer t q).2/\(D.answer t q).2<=7:=by
 refine(?_:agc (D.answer t q));unfold Dk.answer;refine oH (yT _ (by decide)) ?_;refine oH (yT _ (by decide)) ?_;refine oH (yT _ (by decide)) ?_;refine oH (yT _ (ajT (by decide) (by decide))) ?_;refine oH (ahP _ _ _ _ _) ?_;refine oH (yT _ (ajT (af8 _ _ _ _) (by decide))) ?_;refine oH (yT _ (by decide)) ?_;refine oH (yT _ (ajT ?_ (by decide))) ?_
 ·generalize kH _ _ _=o
  cases o with
  |none=>exact(by decide:(0:Int)<=5/\(5:Int)<=7)
  |some x=>exact(by decide:(0:Int)<=0/\(0:Int)<=7)
 refine oH (yT _ (ajT (by decide) (by decide))) ?_;refine oH (yT _ (agP _ _)) ?_;exact oH (yT _ (by decide)) (yT _ (by decide))
def Wp (D:Dk)(q:Qn):0<=(D.ask q).2/\(D.ask q).2<=7:=by
 unfold Dk.ask
 split
 ·simp
 split
 ·simp
 split
 ·simp
 ·split
  ·exact Qr _ _ _
  ·exact Qr _ _ _
variable{D D':Dk}
def alr {line s:ByteArray}(a:D.Ok)(h:D.said line=some (D',s)):D'.Ok:=by
 unfold Dk.said at h
 repeat' split at h
 all_goals first|(cases h;done)|(cases h;first|exact Yw a _|exact a)
def VT {line s:ByteArray}(h:D.said line=some (D',s)):s.size<=30000:=by
 have e1:aeO.size=6:=rfl;have e2:ahU.size=5:=rfl;have d:Zc.size=7:=rfl;have a:∀n:Int,0<=n/\n<=7->(aeO++eu n).size<=30000:=fun n c=>by
  have:=wG (n:=n) ⟨by omega,by omega⟩;rw[bS];omega
 unfold Dk.said at h
 split at h
 ·split at h
  ·cases h;omega
  ·cases h;exact a _ (Na _ _)
 split at h
 ·cases h;exact a 3 (by decide)
 split at h
 ·split at h
  ·cases h;exact a _ (Wp _ _)
  split at h
  ·cases h;omega
  split at h
  ·rename_i b
   cases h;simp only[U,az,decide_eq_true_eq,aht]at b;have:=WX (ns:=(D.ask (gB line).1).1) (fun n c=>b.1 n c);omega
  ·cases h
 ·cases h;exact a _ (VE _)
def ad9 {d:Nat}{ce cs:PV}(h:nZ D d ce cs M)(I:D.Ok){line s:ByteArray}(hl:line.size<=1000000)(hs:D.said line=some (D',s)){KP:DV->Mem->Prop}:
  SC C 117 [.ptr d 0, .d (.str line)] M (fun p M'=>p= .d (.str s)/\∃ce' cs',nZ D' d ce' cs' M'/\FrD d ce cs ce' cs' M M'/\FzB M') KP:=by
 obtain⟨bs,fz,ar⟩:=M;have E8:∀i∈fz,i<bs.length:=h.fzb
 have Z:bs.length∉fz:=fun e=>bl _ (E8 _ e)
 have ab:∀k,bs.length+k∉fz:=fun k e=>by have:=E8 _ e;omega
 have ai:¬bs.length+1=bs.length:=by omega
 have J:=afr line;have K:=VE line;have g:∀n:Int,0<=n/\n<=7->I64 n:=fun n hn=>⟨by omega,by omega⟩
 have q:∀n:Int,0<=n/\n<=7->(eu n).size<=21:=fun n hn=>wG (g n hn)
 have e1:(⟨#[101,114,114,111,114,32]⟩:ByteArray).size=6:=rfl;refine aC qj aK ?_;simp only[qj,aK,RN,z,F];refine ak (ajw line) ?_;simp only[C9,bJ,dB,Z,V,RN,z,F,N];unfold Dk.said at hs
 by_cases E:(dP line).2=0
 ·rw[if_pos E]at hs
  have L:((dP line).2==0)=true:=by simp[E]
  have hd:decide ((dP line).2≠0)=false:=by simp[E]
  have A:Frm ⟨bs,fz,ar⟩ ⟨bs++ [some [pI ((dP line).1.kind), .d (sF ((dP line).1.ns.map au))]],bs.length::fz,ar⟩:=Frm.new (xf:=[bs.length]) (by simp);have H:=Na D (dP line).1;have hE:=agb (h.frm A) I (dP line).1 (KP:=KP);rw[dO]at hE;simp only[L,hd,RN,z,F,N];refine SC.kZ (SC.mono hE ?_) (fun _ _ h=>h);rintro p ⟨R,S,Q⟩ ⟨rfl,ce',cs',P,q2⟩;have b:=A.frD (d:=d) (ce:=ce) (cs:=cs)|>.trans q2
  by_cases t:(D.enter (dP line).1).2=0
  ·rw[if_pos t]at hs
   have u:((D.enter (dP line).1).2==0)=true:=by simp[t]
   cases hs;simp only[u,RN,z];exact⟨rfl,ce',cs',P,b,P.fzb⟩
  ·rw[if_neg t]at hs
   have u:((D.enter (dP line).1).2==0)=false:=by simp[t]
   have:=q _ H;cases hs;simp only[u,RN,z];refine ak (IG (g _ H)) ?_;simp only[dM,lH];exact⟨by omega,rfl,ce',cs',P,b,P.fzb⟩
 rw[if_neg E]at hs;have L:((dP line).2==0)=false:=by simp[E]
 have hd:decide ((dP line).2≠0)=true:=by simp[E]
 have A:∀x,Frm ⟨bs,fz,ar⟩ ⟨bs++ [x],bs.length::fz,ar⟩:=fun x=>Frm.new (xf:=[bs.length]) (by simp)
 by_cases G:(dP line).2=3
 ·rw[if_pos G]at hs
  have v:((dP line).2==3)=true:=by simp[G]
  have:=q _ J;rw[<-G]at hs;cases hs;simp only[L,v,RN,z];refine ak (IG (g _ J)) ?_;simp only[dM,lH];exact⟨by omega,rfl,ce,cs,h.frm (A _),(A _).frD,(A _).fzb h.fzb⟩
 rw[if_neg G]at hs;have v:((dP line).2==3)=false:=by simp[G]
 simp only[L,v,RN,z];refine ak (ach line hl) ?_;simp only[C9,jY,nS,ab,ai,bi,V,RN,z,F,N];have j:∀x y,Frm ⟨bs,fz,ar⟩ ⟨bs++ [x,y],(bs.length+1)::bs.length::fz,ar⟩:=fun x y=>Frm.new (xf:=[bs.length+1,bs.length]) (by simp)
 by_cases B:(gB line).2=0
 case neg=>
  rw[if_neg B]at hs;have w:((gB line).2==0)=false:=by simp[B]
  have ae:((gB line).2 !=0)=true:=by simp[B]
  have:=q _ K;cases hs;simp only[w,ae,RN,z];refine ak (IG (g _ K)) ?_;simp only[dM,lH];exact⟨by omega,rfl,ce,cs,h.frm (j _ _),(j _ _).frD,(j _ _).fzb h.fzb⟩
 rw[if_pos B]at hs;have w:((gB line).2==0)=true:=by simp[B]
 have ac:decide ((gB line).2≠0)=false:=by simp[B]
 have o:=Wp D (gB line).1;have hA:=al7 (h.frm (j (some [pI ((dP line).1.kind), .d (.slice (decide ((dP line).2≠0)) ((dP line).1.ns.map au))]) (some [pI ((gB line).1.kind), .d (sF ((gB line).1.ns.map au))]))) I (gB line).1 (KP:=KP);rw[ac7]at hA;simp only[w,ac,RN,z,F,N];refine SC.kZ (SC.mono hA ?_) (fun _ _ h=>h);rintro p ⟨R,S,Q⟩ ⟨c,hp,O,am,q2⟩;have b:=(j _ _).trans q2;generalize D.ask (gB line).1=r at*;obtain⟨l,e⟩:=r;simp only at hs hp O o
 by_cases T:e=0
 case neg=>
  rw[if_pos T]at hs;have m:(e !=0)=true:=by simp[T]
  have:=q _ o;cases hs
  rcases hp with rfl|⟨rfl,rfl⟩
  ·simp only[uj,um,m,RN,z]
   refine ak (IG (g _ o)) ?_;simp only[dM,lH];exact⟨by omega,rfl,ce,cs,h.frm b,b.frD,b.fzb h.fzb⟩
  ·simp only[m,RN,z]
   refine ak (IG (g _ o)) ?_;simp only[dM,lH];exact⟨by omega,rfl,ce,cs,h.frm b,b.frD,b.fzb h.fzb⟩
 subst T;have m:((0:Int) !=0)=false:=rfl;rw[if_neg (by simp)]at hs;have aoA:(((0:Nat):Int)==0)=true:=rfl
 rcases hp with rfl|⟨rfl,rfl⟩
 case inr=>
  have f:l=[]:=by
   rcases O with⟨_,h1⟩|⟨k,ver,st,h1,_⟩
   ·exact b8.1 h1
   ·cases h1
  subst f;rw[if_pos rfl]at hs;cases hs;simp only[m,aoA,RN,z];exact⟨rfl,ce,cs,h.frm b,b.frD,b.fzb h.fzb⟩
 simp only[uj,um,m,XF O,Y,RN,z]
 by_cases f:l=[]
 ·rw[if_pos f]at hs
  cases hs;simp only[f,ap,aoA,RN,z];exact⟨rfl,ce,cs,h.frm b,b.frD,b.fzb h.fzb⟩
 rw[if_neg f]at hs;have X:((l.length:Int)==0)=false:=by cases l with|nil=>exact absurd rfl f|cons a l=>simp;omega
 split at hs
 case isFalse=>cases hs
 rename_i W
 simp only[U,az,decide_eq_true_eq,aht]at W;cases hs
 rcases O with⟨_,h1⟩|⟨k,ver,st,rfl,h1,_⟩
 ·exact absurd (b8.1 h1) f
 simp only[X,RN,z];refine P8 h1 (by simpa only[ax]using ahB l W.2 W.1) rfl ?_;(try simp only[RN]);exact⟨ce,cs,h.frm b,b.frD,b.fzb h.fzb⟩
end Go.Tel
namespace Go.Am
section
variable {C:Ctx}{base:Nat}{M:Mem}{K:PV->Mem->Prop}{KP:DV->Mem->Prop}
variable{s:ByteArray}
def QO {k:IntKind}{n:Int}(a:0<=n)(h1:n<=s.size):ay C base (.EJ false true) [.d (.str s), .d (.int k n)] M K KP=K (.d (.str (s.extract 0 n.toNat))) M:=by
 simp only[ay,wU,eH,bd,cv];exact propext ⟨fun h=>h.2.2.2.2.2,fun h=>⟨trivial,trivial,cH _,a,h1,h⟩⟩
def CP {k:IntKind}{n:Int}(a:0<=n)(h1:n<=s.size):ay C base (.EJ true false) [.d (.str s), .d (.int k n)] M K KP=K (.d (.str (s.extract n.toNat s.size))) M:=by
 simp only[ay,wU,eH,bd,cv,aq];exact propext ⟨fun h=>h.2.2.2.2.2,fun h=>⟨trivial,trivial,a,h1,cH _,h⟩⟩
end
end Go.Am
namespace Go.Tel
open Go.Am
def XT (s:ByteArray):Pure C 212 [.str s, .int .u8 10] (pI (Go.Lib.indexByte s.data.toList 10)) []:=by
 refine rJ fun X w a d f c=> ?_
 cases c with|cons h1 t1=>
 cases t1 with|cons b t2=>
 cases t2;cases h1;cases b;refine(Go.Proofs.Any.strings_IndexByte Go.Proofs.Tryz.laysIndexB s 10 w).mono ?_;rintro e g ⟨rfl,rfl⟩;exact⟨_,rfl,Later.refl _, .int _ _⟩
def uh (s:ByteArray):Bool:=decide (1<=s.size)&&((s.extract (s.size - 1) s.size).toList==(⟨#[10]⟩:ByteArray).toList)
def dw (s:ByteArray):ByteArray:=if uh s then s.extract 0 (s.size - 1)else s
def XE:(⟨#[10]⟩:ByteArray).size=1:=rfl
variable{s:ByteArray}
def YH (hs:s.size<=1000000):Pure C 210 [.str s, .str ⟨#[10]⟩] (.d (.bool (uh s))) []:=by
 refine ah kX aK ?_;have b:dz .i64 ((s.size:Int) - ((1:Nat):Int))=(s.size:Int) - 1:=by rw[aB (by omega)];omega
 unfold uh
 by_cases h:1<=s.size
 ·have a:decide (((1:Nat):Int)<=(s.size:Int))=true:=by simp;omega
  have hd:decide (1<=s.size)=true:=by simp[h]
  have c:(0:Int)<=(s.size:Int) - 1:=by omega
  have e:(s.size:Int) - 1<=(s.size:Int):=by omega
  have f:((s.size:Int) - 1).toNat=s.size - 1:=by omega
  simp only[kX,aK,XE,a,hd,b,CP c e,f,dM,pW,bk,RN,z,F]
 ·have a:decide (((1:Nat):Int)<=(s.size:Int))=false:=by simp;omega
  have hd:decide (1<=s.size)=false:=by simp[h]
  simp only[kX,aK,XE,a,hd,cb,RN,z,F]
def YG (hs:s.size<=1000000):Pure C 115 [.str s, .str ⟨#[10]⟩] (.d (.bool (uh s))) []:=by
 refine ah xG aK ?_;simp only[xG,aK,RN,z,F];refine ak (YH hs) ?_;(try simp only[])
def afZ (hs:s.size<=1000000):Pure C 215 [.str s, .str ⟨#[10]⟩] (.d (.str (dw s))) []:=by
 refine ah qI aK ?_;simp only[qI,aK,RN,z,F];refine ak (YH hs) ?_;have a:dz .i64 ((s.size:Int) - ((1:Nat):Int))=(s.size:Int) - 1:=by rw[aB (by omega)];omega
 unfold dw;cases h:uh s
 ·(try simp only[RN,z])
  simp
 ·have:1<=s.size:=by unfold uh at h;simp only[U,decide_eq_true_eq]at h;exact h.1
  have b:(0:Int)<=(s.size:Int) - 1:=by omega
  have c:(s.size:Int) - 1<=(s.size:Int):=by omega
  have e:((s.size:Int) - 1).toNat=s.size - 1:=by omega
  simp only[XE,a,QO b c,e,RN,z];simp
def afY (hs:s.size<=1000000):Pure C 118 [.str s, .str ⟨#[10]⟩] (.d (.str (dw s))) []:=by
 refine ah vV aK ?_;simp only[vV,aK,RN,z,F];refine ak (afZ hs) ?_;(try simp only[])
def uD:List UInt8->List (List UInt8)
 | []=>[]
 |b::l=>if b==10 then[b]::uD l else match uD l with| []=>[[b]]|x::a=>(b::x)::a
def Ru:∀(l:List UInt8),(Go.Lib.indexByte l 10= -1/\(l=[]\/uD l=[l]))\/∃i:Nat,Go.Lib.indexByte l 10=(i:Int)/\i<l.length/\uD l=l.take (i+1)::uD (l.drop (i+1))
 | []=> .inl ⟨rfl, .inl rfl⟩
 |b::l=>by
  rw[Go.Lib.indexByte,uD]
  by_cases a:(b==10)=true
  ·rw[if_pos a,if_pos a]
   exact .inr ⟨0,rfl,by simp,rfl⟩
  rw[if_neg a,if_neg a]
  rcases Ru l with⟨h1,h2⟩|⟨i,h1,h2,c⟩
  ·refine .inl ⟨by simp[h1], .inr ?_⟩
   rcases h2 with rfl|h2
   ·rfl
   ·rw[h2]
  ·refine .inr ⟨i+1,?_,by simpa using h2,by rw[c];simp⟩
   rw[if_neg (by rw[h1];simp),h1];omega
def jo (s:ByteArray):List ByteArray:=(uD s.data.toList).map fun l=>⟨l.toArray⟩
def rY (s:ByteArray):List DV:=[.str s]
def abN (s:ByteArray)(hs:0<s.size):(Go.Lib.indexByte s.data.toList 10= -1/\jo s=[s])\/∃i:Nat,Go.Lib.indexByte s.data.toList 10=(i:Int)/\i<s.size/\jo s=s.extract 0 (i+1)::jo (s.extract (i+1) s.size):=by
 have a:s.data.toList.length=s.size:=bo
 rcases Ru s.data.toList with⟨h1,h2⟩|⟨i,h1,h2,b⟩
 ·refine .inl ⟨h1,?_⟩
  rcases h2 with h2|h2
  ·rw[h2]at a;simp at a;omega
  ·unfold jo;rw[h2];simp
 ·refine .inr ⟨i,h1,by omega,?_⟩
  unfold jo;rw[b,ai];have e1:(s.extract 0 (i+1)).data.toList=s.data.toList.take (i+1):=by simp[cw]
  have e2:(s.extract (i+1) s.size).data.toList=s.data.toList.drop (i+1):=by
   simp only[cw,Array.toList_extract,List.extract_eq_take_drop,<-a];rw[cA (by simp)]
  rw[e2,<-e1]
def amb (s:ByteArray)(c:Nat)(M:Mem):Prop:=M.boxes[c]?=some (some [.d (.str s)])/\c∉M.fz
def aaD (s:ByteArray)(c:Nat)(hs:s.size<=1000000):UF C 211 [] [.ptr c 0] ((jo s).map rY) (·=c) (·=c) no (amb s c):=by
 rintro⟨bs,fz,ar⟩ b n R stop K KP ab ac Z D O M mD y f B;simp only at Z D;obtain⟨Y,A⟩:=O;simp only at Y A;refine aC zD gY ?_;simp only[zD,gY,RN,F];refine BX (fun m st=>∃(t:ByteArray) (a:List (List DV)) (x:Mem) (U:List (Nat×PV)),m=t.size/\t.size<=s.size/\st=⟨(0, .qg b)::(1, .ptr c 0)::U,x⟩/\n<=x.boxes.length/\FzB x/\amb t c x/\(jo s).map rY=a++(jo t).map rY/\R a x)
  s.size ⟨s,[],_,[],rfl,aL _,rfl,Z,D,⟨Y,A⟩,rfl,y⟩ ?_
 rintro m st ⟨t,a,⟨g,r,q⟩,U,rfl,ht,rfl,u,E,⟨e,akm⟩,k,X⟩;simp only at u e akm;have j:c<g.length:=(ae.1 e).1
 by_cases y:0<t.size
 case neg=>
  have I:decide ((t.size:Int)>0)=false:=decide_eq_false (by omega);simp only[e,I,RN,z,N];refine B _ _ u ?_;have:t.data.toList=[]:=List.length_eq_zero_iff.1 (by have:t.data.toList.length=t.size:=bo;omega);have e0:jo t=[]:=by unfold jo;rw[this];rfl
  rw[k,e0,br,bA];exact X
 have I:decide ((t.size:Int)>0)=true:=decide_eq_true (by omega);have adg:∀(l o:ByteArray),jo t=l::jo o->o.size<t.size->SY C b [.d (.str l)] ⟨g.set c (some [.d (.str o)]),r,q⟩
   (fun p w=>n<=w.boxes.length/\FzB w/\amb o c w/\((p= .d (.bool true)/\(jo s).map rY=(a++ [rY l])++(jo o).map rY/\R (a++ [rY l]) w)\/(p= .d (.bool false)/\stop w))) KP:=by
  intro l o hl ai;have apF:Moved n (·=c) ⟨g,r,q⟩ ⟨g.set c (some [.d (.str o)]),r,q⟩:=Moved.set (.inr rfl);have alW:(jo s).map rY=a++rY l::(jo o).map rY:=by rw[k,hl];rfl
  refine SY.mono (mD a (rY l) _ _ alW (by simpa using u) (M a _ _ apF X)) ?_;rintro p G ⟨H,hp⟩;have L:=H.len;simp only[cD]at L;refine⟨by omega,H.fzb E.set,⟨?_,?_⟩,?_⟩
  ·rw[H.box c (.inr rfl) (by simpa using j)];simp[j]
  ·exact fun h=>akm ((H.fz c (.inr rfl) (by simpa using j)).1 h)
  ·rcases hp with⟨rfl,h⟩|h
   ·exact .inl ⟨rfl,by rw[alW,bi];rfl,h⟩
   ·exact .inr h
 simp only[e,I,RN,z,N];refine ak (XT t) ?_
 rcases abN t y with⟨V,W⟩|⟨i,V,W,g3⟩
 ·have J:decide (Go.Lib.indexByte t.data.toList 10>=0)=false:=decide_eq_false (by omega)
  simp only[e,J,akm,RN,z,N];refine Bf ?_;refine SY.mono (adg t ⟨#[]⟩ (by rw[W];rfl) y) ?_;rintro p G ⟨P,Q,S,⟨rfl,v,T⟩|⟨rfl,v⟩⟩
  ·(try simp only[RN,z])
   exact⟨0,_,y, .inl rfl,⟨#[]⟩,_,G,_,rfl,bq _,rfl,P,Q,S,v,T⟩
  ·(try simp only[RN,z])
   exact f _ _ v
 ·have J:decide ((i:Int)>=0)=true:=decide_eq_true (by omega)
  have w1:dz .i64 ((i:Int)+1)=(i:Int)+1:=by rw[aB (by omega)]
  have x1:(0:Int)<=(i:Int)+1:=by omega
  have x2:(i:Int)+1<=(t.size:Int):=by omega
  have x3:((i:Int)+1).toNat=i+1:=by omega
  have x4:(t.extract (i+1) t.size).size<t.size:=by simp;omega
  rw[V];simp only[e,j,J,akm,w1,QO x1 x2,CP x1 x2,x3,RN,z,N];refine Bf ?_;refine SY.mono (adg _ _ g3 x4) ?_;rintro p G ⟨P,Q,S,⟨rfl,v,T⟩|⟨rfl,v⟩⟩
  ·(try simp only[RN,z])
   exact⟨_,_,x4, .inl rfl,_,_,G,_,rfl,by omega,rfl,P,Q,S,v,T⟩
  ·(try simp only[RN,z])
   exact f _ _ v
def agd (s:ByteArray){bs:List (Option (List PV))}{fz:List Nat}{ar:List (Option Arr)}{KP:DV->Mem->Prop}:
  SC C 116 [.d (.str s)] ⟨bs,fz,ar⟩ (fun p M'=>p= .func (.func 211) [] [.ptr bs.length 0]/\M'=⟨bs++ [some [.d (.str s)]],fz,ar⟩) KP:=by
 refine aC BL aN ?_;simp only[BL,aN,bJ,dB,oh,RN,z]
def nlB:ByteArray:=⟨#[10]⟩
def sS:Dk->List ByteArray->ByteArray->Option (Dk×ByteArray)
 |D,[],out=>some (D,out)
 |D,l::ls,out=>match D.said (dw l)with|none=>none|some q=>sS q.1 ls (out++(q.2++nlB))
def MW:∀(l1 l2:List ByteArray) (D:Dk) (out:ByteArray),sS D (l1++l2) out=match sS D l1 out with|none=>none|some q=>sS q.1 l2 q.2
 | [],l2,D,out=>rfl
 |l::ls,l2,D,out=>by
  rw[aM,sS,sS];cases D.said (dw l)with
  |none=>rfl
  |some q=>exact MW ls l2 _ _
variable{M:Mem}
def FrD.kept {d n c:Nat}{ce cs ce' cs':PV}{M':Mem}(h:FrD d ce cs ce' cs' M M')(hf:FzB M->FzB M')(hd:d<n)(hc:d≠c):Kept n (·=c) no M M':=
 ⟨h.len,h.bP,fun i a b=>h.box i b (fun e=>a.elim (fun a=>by omega) fun a=>hc (by rw[<-e];exact a)),fun i _ b=>h.fz i b,fun _ h=>h.elim,hf⟩
def abO (s:ByteArray):(jo s).length<=s.size:=by
 have:∀l:List UInt8,(uD l).length<=l.length:=by
  intro l
  induction l with
  |nil=>exact aL _
  |cons b l a=>
   rw[uD]
   split
   ·simpa using a
   ·split
    ·simp
    ·rename_i h;rw[h]at a;simp at a⊢;omega
 unfold jo;rw[Y];have h1:=this s.data.toList;have:s.data.toList.length=s.size:=bo;omega
def Dc:∀(l:List UInt8) (x:List UInt8),x∈uD l->x.length<=l.length
 | [],x,h=>by cases h
 |b::l,x,h=>by
  rw[uD]at h
  split at h
  ·rcases ao.1 h with rfl|h
   ·simp
   ·have:=Dc l x h;simp;omega
  ·split at h
   ·simp at h;subst h;simp
   ·rename_i y c a
    rcases ao.1 h with rfl|h
    ·have:=Dc l y (by rw[a];simp);simp;omega
    ·have:=Dc l x (by rw[a];simp[h]);simp;omega
def abP {x:ByteArray}(h:x∈jo s):x.size<=s.size:=by
 simp only[jo,aR]at h;obtain⟨l,a,rfl⟩:=h;have:=Dc _ _ a;have e:s.data.toList.length=s.size:=bo;simp only[dk,c3]at e⊢;rw[<-e];exact this
def Yl (s:ByteArray):(dw s).size<=s.size:=by
 unfold dw
 split
 ·simp
 ·exact aL _
def aju (s:Su)(script:ByteArray)(pre:List (List DV))(a:Mem):Prop:=
 ∃ls c D b cs o,jo script=ls++c/\pre=ls.map rY/\sS ⟨s,[],[]⟩ ls ⟨#[]⟩=some (D,o)/\nZ D 4 b cs a/\D.Ok/\a.boxes[1]?=some (some [.ptr 4 0])/\a.boxes[5]?=some (some [.d (.str o)])/\5∉a.fz/\o.size<=30001*ls.length
def aju.moved {s:Su}{script:ByteArray}{pre:List (List DV)}{c d:Mem}{n:Nat}(h:aju s script pre c)(q:6<=n)(a:Moved n (·=6) c d):aju s script pre d:=by
 obtain⟨ls,p,D,f,cs,o,h1,h2,g,b,i,j,k,l,m⟩:=h;refine⟨ls,p,D,f,cs,o,h1,h2,g,?_,i,(a.box 1 (by omega) (by simp)).trans j,(a.box 5 (by omega) (by simp)).trans k,fun e=>l ((a.fz 5 (by omega) (by simp)).1 e),m⟩;exact⟨⟨(a.box 4 (by omega) (by simp)).trans b.box,by rw[a.aF];exact b.ent,by rw[a.aF];exact b.str⟩,b.dif,fun e=>b.nb ((a.fz 4 (by omega) (by simp)).1 e),a.fzb b.fzb⟩
def UE (s:Su)(hs:s.Small)(K:s.ok=true){script out:ByteArray}(hl:script.size<=1500)(G:(script.toList==(⟨#[]⟩:ByteArray).toList||uh script)=true){D':Dk}(a:sS ⟨s,[],[]⟩ (jo script) ⟨#[]⟩=some (D',out)):
  Pure C 40 [s.dv, .str script] (.d (.tup [.str out,dI 0])) []:=by
 refine ah ku bW ?_;rw[dF];simp only[ku,bW,RN,z,F,N];have hO:=fun X KP=>acW s hs [X,none] [0] [] KP (by simp)
 rw[dF]at hO;refine SC.kZ (SC.mono (hO _ (fun _ _=>False)) ?_) (fun _ _ h=>h);rintro p M' (⟨h,_⟩|⟨_,rfl,x1,x2,rfl⟩)
 ·rw[K]at h;cases h
 have z1:((0:Int) !=0)=false:=rfl;have z2:decide ((script.size:Int)>1500)=false:=decide_eq_false (by omega);simp only[uj,um,gV,z1,z2,dM,Hf,vY,GX,RN,z,F,I,N];have apJ:(script.toList==(⟨#[]⟩:ByteArray).toList)=false->uh script=true:=fun h=>by rw[h]at G;exact G
 cases aw:(script.toList==(⟨#[]⟩:ByteArray).toList)
 all_goals first
  |(simp only[RN,z,F,I,N];refine eG rfl rfl (YG (by omega)) ?_;rw[apJ aw])
  |skip
 all_goals simp only[gV,RN,z,F,I,N]
 all_goals refine SC.kZ (SC.mono (agd script (KP:=fun _ _=>False)) ?_) (fun _ _ h=>h)
 all_goals rintro p M' ⟨rfl,rfl⟩
 all_goals(try simp only[RN,F])
 all_goals(
  refine sG (aaD script 6 (by omega)) (fun _ h=>h) rfl (by kernel_rfl) (fun i A=>by simp at A;simp;omega) (fun x r=>by obtain⟨y,_,rfl⟩:=aR.1 r;rfl) (fun i A=>by subst A;simp) (fun M' S=>⟨(S.box 6 (by simp) id).trans rfl,fun e=>by have:=(S.fz 6 (by simp) id).1 e;simp at this⟩)
   (aju s script) (fun ax M1 M2 S h=>h.moved (by simp) S) ⟨[],jo script,⟨s,[],[]⟩,_,_,_,rfl,rfl,rfl,⟨⟨rfl, .inl ⟨rfl,rfl⟩, .inl ⟨rfl,rfl⟩⟩,(by intro k hk;cases hk),by simp,by intro i A;simp at A;simp;omega⟩,⟨K,rfl,bq _,fun x h=>(by cases h),fun x h=>(by cases h)⟩,rfl,rfl,by simp,bq _⟩ ?_ ?_
  ·rintro L cells ax x az ⟨f,ac,Y⟩ r n j E ⟨ls,T,D,ce,cs,o,h1,h2,Q,h4,h5,v,m,R,h9⟩ M0
   simp only[W,ap]at n j E v m R⊢;obtain⟨y,c,rfl,rfl⟩:∃y c,T=y::c/\x=rY y:=by
    rw[h1,h2,a7]at r;have r:=ct r;cases T with
    |nil=>cases r
    |cons y c=>exact⟨y,c,rfl,(List.cons.inj r).1.symm⟩
   rw[h1,MW,Q]at a;simp only[sS]at a;cases b:D.said (dw y)with
   |none=>rw[b]at a;cases a
   |some q=>
   obtain⟨D2,U⟩:=q;have hy:y.size<=script.size:=abP (by rw[h1];simp);have B:=abO script;rw[h1]at B;simp only[V,W]at B;have aL:=Yl y;have aE:=VT b;have g:5<f.length:=by omega
   have u:1<f.length:=by omega
   simp only[rY,cU,c4,ai,br,v,m,u,RN,z,F,N];refine eG rfl rfl (afY (by omega)) ?_;(try simp only[RN,z,F,H,I,J,N]);refine ajI m (by simp) ?_;refine SC.kZ (SC.mono (ad9 h4 h5 (by omega) b (KP:=fun _ _=>False)) ?_) (fun _ _ h=>h.elim);rintro p ⟨t,ae,aD⟩ ⟨rfl,Z,ab,P,l,q3⟩;have am:t[5]?=some (some [.d (.str o)]):=(l.box 5 g (by decide)).trans m;have ao:=l.len;simp only at ao;have ape:5<t.length:=by omega
   have w:¬5∈ae:=fun e=>R ((l.fz 5 g).1 e)
   refine⟨l.box 5 g (by decide),?_⟩;have M:U.size+nlB.size<=9223372036854775807:=by have:nlB.size=1:=rfl;omega
   have O:o.size+(U++nlB).size<=9223372036854775807:=by have:nlB.size=1:=rfl;rw[bS];omega
   rw[nlB]at M O;simp only[dM,lH,M,O,am,w,wS,RN,F,N];refine⟨by rw[av (by decide)];exact(l.box 7 (by simp only;omega) (by decide)).trans j,fun e=>E ((l.fz 7 (by simp only;omega)).1 e),(FrD.kept l (fun _=>q3) (by decide) (by decide)).set2 (by decide) (by decide),ls++ [y],c,D2,Z,ab,o++(U++nlB),by rw[h1];simp,by rw[h2];simp[rY],?_,
    ⟨⟨by simp only;rw[av (by decide)];exact P.box,P.ent,P.str⟩,P.dif,P.nb,q3.set⟩,alr h5 b,?_,by simp[ape];rfl,w,?_⟩
   ·rw[MW,Q]
    simp only[sS,b]
   ·simp only;rw[av (by decide)];exact(l.box 1 u (by decide)).trans v
   ·have:nlB.size=1:=rfl
    simp only[bS,V,W,ap];omega
  ·rintro⟨f,ac,Y⟩ ⟨ls,T,D,ce,cs,o,h1,h2,Q,h4,h5,v,m,R,h9⟩ n
   simp only[W,ap]at n v m R;have aq:T=[]:=by
    have:=congrArg cn h2;rw[h1]at this;simp at this;exact this
   subst aq;rw[h1,bA,Q]at a;cases a;have g:5<f.length:=by omega
   simp only[m,RN,z,N])
def mO:Su:=⟨⟨[⟨0,⟨10,20⟩⟩,⟨1,⟨12,18⟩⟩,⟨1,⟨15,10⟩⟩],[2,3]⟩,[⟨1,3⟩,⟨1499,2000⟩],100,⟨40,[15,21,27]⟩,⟨0,[4]⟩,⟨59,2,0⟩,[⟨true,0,0,0⟩,⟨false,1,6,0⟩],1,3,6,4,10⟩
def XB:ByteArray:=⟨#[104,97,110,100,115,10,111,114,100,101,114,32,48,32,50,32,53,10,111,114,100,101,114,32,48,32,49,32,50,10,110,101,101,100,32,48,32,49,48,32,50,48,10,110,101,101,100,32,49,32,49,48,32,50,48,10,99,104,97,110,103,101,32,49,32,49,50,32,49,53,10,99,117,116,32,51,55,10,99,117,116,32,49,53,10,115,116,111,99,107,10,99,104,97,110,103,101,32,49,32,49,50,32,49,53,10,115,116,111,99,107,10,112,114,105,99,101,32,48,10,115,101,114,118,101,32,48,32,53,54,10,115,101,114,118,101,32,48,32,53,55,10,111,112,101,110,10,99,111,105,110,115,10,111,102,102,32,49,32,57,10,111,102,102,32,49,32,49,48,10,119,114,111,110,103,10,115,101,116,32,54,10,115,101,116,32,57,10,115,101,116,32,56,10,115,101,116,32,56,10,119,111,114,107,115,32,57,10,100,97,116,101,32,52,48,10,119,114,111,110,103,10,99,117,116,115,32,51,54,10,115,116,114,105,107,101,32,49,10,115,116,114,105,107,101,32,52,10,115,116,114,105,107,101,32,51,10,99,111,105,110,115,10,111,112,101,110,10,115,116,97,110,100,115,10,115,116,114,105,107,101,32,48,10,115,116,114,105,107,101,32,57,10,115,101,114,118,101,32,48,10]⟩
def Jw:ByteArray:=⟨#[49,32,51,32,51,32,52,10,110,111,116,101,100,10,101,114,114,111,114,32,55,10,49,32,49,50,32,49,53,10,101,114,114,111,114,32,55,10,101,114,114,111,114,32,55,10,101,114,114,111,114,32,55,10,110,111,116,101,100,10,49,53,10,110,111,116,101,100,10,49,56,10,53,55,10,101,114,114,111,114,32,55,10,110,111,116,101,100,10,110,111,116,104,105,110,103,10,53,55,10,57,55,10,49,48,56,10,51,53,54,10,101,114,114,111,114,32,55,10,101,114,114,111,114,32,55,10,110,111,116,101,100,10,101,114,114,111,114,32,55,10,49,48,10,50,32,57,10,51,52,56,10,50,32,49,32,51,10,101,114,114,111,114,32,55,10,110,111,116,101,100,10,110,111,116,101,100,10,48,10,48,32,50,32,53,10,48,32,49,32,50,10,101,114,114,111,114,32,55,10,101,114,114,111,114,32,50,10,101,114,114,111,114,32,52,10]⟩
def bf {D D':Dk}{l a out:ByteArray}{ls:List ByteArray}{r:Option (Dk×ByteArray)}(h:D.said (dw l)=some (D',a))(b:sS D' ls (out++(a++nlB))=r):sS D (l::ls) out=r:=by
 rw[sS,h];exact b
def lsK:List ByteArray:=[⟨#[104,97,110,100,115,10]⟩,⟨#[111,114,100,101,114,32,48,32,50,32,53,10]⟩,⟨#[111,114,100,101,114,32,48,32,49,32,50,10]⟩,⟨#[110,101,101,100,32,48,32,49,48,32,50,48,10]⟩,⟨#[110,101,101,100,32,49,32,49,48,32,50,48,10]⟩,⟨#[99,104,97,110,103,101,32,49,32,49,50,32,49,53,10]⟩,⟨#[99,117,116,32,51,55,10]⟩,⟨#[99,117,116,32,49,53,10]⟩,⟨#[115,116,111,99,107,10]⟩,⟨#[99,104,97,110,103,101,32,49,32,49,50,32,49,53,10]⟩,⟨#[115,116,111,99,107,10]⟩,⟨#[112,114,105,99,101,32,48,10]⟩,⟨#[115,101,114,118,101,32,48,32,53,54,10]⟩,⟨#[115,101,114,118,101,32,48,32,53,55,10]⟩,⟨#[111,112,101,110,10]⟩,⟨#[99,111,105,110,115,10]⟩,⟨#[111,102,102,32,49,32,57,10]⟩,⟨#[111,102,102,32,49,32,49,48,10]⟩,⟨#[119,114,111,110,103,10]⟩,⟨#[115,101,116,32,54,10]⟩,⟨#[115,101,116,32,57,10]⟩,⟨#[115,101,116,32,56,10]⟩,⟨#[115,101,116,32,56,10]⟩,⟨#[119,111,114,107,115,32,57,10]⟩,⟨#[100,97,116,101,32,52,48,10]⟩,⟨#[119,114,111,110,103,10]⟩,⟨#[99,117,116,115,32,51,54,10]⟩,⟨#[115,116,114,105,107,101,32,49,10]⟩,⟨#[115,116,114,105,107,101,32,52,10]⟩,⟨#[115,116,114,105,107,101,32,51,10]⟩,⟨#[99,111,105,110,115,10]⟩,⟨#[111,112,101,110,10]⟩,⟨#[115,116,97,110,100,115,10]⟩,⟨#[115,116,114,105,107,101,32,48,10]⟩,⟨#[115,116,114,105,107,101,32,57,10]⟩,⟨#[115,101,114,118,101,32,48,10]⟩]
def akD:jo XB=lsK:=by kernel_rfl
def kd0:Dk:=⟨mO,[],[]⟩
def kd1:Dk:=⟨mO,[⟨3,[0,2,5]⟩],[false]⟩
def kd2:Dk:=⟨mO,[⟨3,[0,2,5]⟩,⟨1,[15]⟩],[false,false]⟩
def kd3:Dk:=⟨mO,[⟨3,[0,2,5]⟩,⟨1,[15]⟩,⟨2,[1,12,15]⟩],[false,false,false]⟩
def kd4:Dk:=⟨mO,[⟨3,[0,2,5]⟩,⟨1,[15]⟩,⟨2,[1,12,15]⟩,⟨4,[0,57]⟩],[false,false,false,false]⟩
def kd5:Dk:=⟨mO,[⟨3,[0,2,5]⟩,⟨1,[15]⟩,⟨2,[1,12,15]⟩,⟨4,[0,57]⟩,⟨5,[8]⟩],[false,false,false,false,false]⟩
def kd6:Dk:=⟨mO,[⟨3,[0,2,5]⟩,⟨1,[15]⟩,⟨2,[1,12,15]⟩,⟨4,[0,57]⟩,⟨5,[8]⟩,⟨6,[4]⟩],[false,false,false,false,true,false]⟩
def kd7:Dk:=⟨mO,[⟨3,[0,2,5]⟩,⟨1,[15]⟩,⟨2,[1,12,15]⟩,⟨4,[0,57]⟩,⟨5,[8]⟩,⟨6,[4]⟩,⟨6,[3]⟩],[false,false,false,true,true,false,false]⟩
def k_1:kd0.said (dw (lsK.getD 0 default))=some (kd0,⟨#[49,32,51,32,51,32,52]⟩):=by kernel_rfl
def k_2:kd0.said (dw (lsK.getD 1 default))=some (kd1,⟨#[110,111,116,101,100]⟩):=by kernel_rfl
def k_3:kd1.said (dw (lsK.getD 2 default))=some (kd1,⟨#[101,114,114,111,114,32,55]⟩):=by kernel_rfl
def k_4:kd1.said (dw (lsK.getD 3 default))=some (kd1,⟨#[49,32,49,50,32,49,53]⟩):=by kernel_rfl
def k_5:kd1.said (dw (lsK.getD 4 default))=some (kd1,⟨#[101,114,114,111,114,32,55]⟩):=by kernel_rfl
def k_6:kd1.said (dw (lsK.getD 5 default))=some (kd1,⟨#[101,114,114,111,114,32,55]⟩):=by kernel_rfl
def k_7:kd1.said (dw (lsK.getD 6 default))=some (kd1,⟨#[101,114,114,111,114,32,55]⟩):=by kernel_rfl
def k_8:kd1.said (dw (lsK.getD 7 default))=some (kd2,⟨#[110,111,116,101,100]⟩):=by kernel_rfl
def k_9:kd2.said (dw (lsK.getD 8 default))=some (kd2,⟨#[49,53]⟩):=by kernel_rfl
def apS:kd2.said (dw (lsK.getD 9 default))=some (kd3,⟨#[110,111,116,101,100]⟩):=by kernel_rfl
def apT:kd3.said (dw (lsK.getD 10 default))=some (kd3,⟨#[49,56]⟩):=by kernel_rfl
def apU:kd3.said (dw (lsK.getD 11 default))=some (kd3,⟨#[53,55]⟩):=by kernel_rfl
def apV:kd3.said (dw (lsK.getD 12 default))=some (kd3,⟨#[101,114,114,111,114,32,55]⟩):=by kernel_rfl
def apW:kd3.said (dw (lsK.getD 13 default))=some (kd4,⟨#[110,111,116,101,100]⟩):=by kernel_rfl
def apX:kd4.said (dw (lsK.getD 14 default))=some (kd4,⟨#[110,111,116,104,105,110,103]⟩):=by kernel_rfl
def apY:kd4.said (dw (lsK.getD 15 default))=some (kd4,⟨#[53,55]⟩):=by kernel_rfl
def apZ:kd4.said (dw (lsK.getD 16 default))=some (kd4,⟨#[57,55]⟩):=by kernel_rfl
def ap0:kd4.said (dw (lsK.getD 17 default))=some (kd4,⟨#[49,48,56]⟩):=by kernel_rfl
def ap1:kd4.said (dw (lsK.getD 18 default))=some (kd4,⟨#[51,53,54]⟩):=by kernel_rfl
def ap2:kd4.said (dw (lsK.getD 19 default))=some (kd4,⟨#[101,114,114,111,114,32,55]⟩):=by kernel_rfl
def ap3:kd4.said (dw (lsK.getD 20 default))=some (kd4,⟨#[101,114,114,111,114,32,55]⟩):=by kernel_rfl
def ap4:kd4.said (dw (lsK.getD 21 default))=some (kd5,⟨#[110,111,116,101,100]⟩):=by kernel_rfl
def ap5:kd5.said (dw (lsK.getD 22 default))=some (kd5,⟨#[101,114,114,111,114,32,55]⟩):=by kernel_rfl
def ap6:kd5.said (dw (lsK.getD 23 default))=some (kd5,⟨#[49,48]⟩):=by kernel_rfl
def ap7:kd5.said (dw (lsK.getD 24 default))=some (kd5,⟨#[50,32,57]⟩):=by kernel_rfl
def ap8:kd5.said (dw (lsK.getD 25 default))=some (kd5,⟨#[51,52,56]⟩):=by kernel_rfl
def ap9:kd5.said (dw (lsK.getD 26 default))=some (kd5,⟨#[50,32,49,32,51]⟩):=by kernel_rfl
def aqa:kd5.said (dw (lsK.getD 27 default))=some (kd5,⟨#[101,114,114,111,114,32,55]⟩):=by kernel_rfl
def aqb:kd5.said (dw (lsK.getD 28 default))=some (kd6,⟨#[110,111,116,101,100]⟩):=by kernel_rfl
def aqc:kd6.said (dw (lsK.getD 29 default))=some (kd7,⟨#[110,111,116,101,100]⟩):=by kernel_rfl
def aqd:kd7.said (dw (lsK.getD 30 default))=some (kd7,⟨#[48]⟩):=by kernel_rfl
def aqe:kd7.said (dw (lsK.getD 31 default))=some (kd7,⟨#[48,32,50,32,53]⟩):=by kernel_rfl
def aqf:kd7.said (dw (lsK.getD 32 default))=some (kd7,⟨#[48,32,49,32,50]⟩):=by kernel_rfl
def aqg:kd7.said (dw (lsK.getD 33 default))=some (kd7,⟨#[101,114,114,111,114,32,55]⟩):=by kernel_rfl
def aqh:kd7.said (dw (lsK.getD 34 default))=some (kd7,⟨#[101,114,114,111,114,32,50]⟩):=by kernel_rfl
def aqi:kd7.said (dw (lsK.getD 35 default))=some (kd7,⟨#[101,114,114,111,114,32,52]⟩):=by kernel_rfl
def aoN:sS ⟨mO,[],[]⟩ (jo XB) ⟨#[]⟩=some (kd7,Jw):=by
 rw[akD];refine bf k_1 ?_;refine bf k_2 ?_;refine bf k_3 ?_;refine bf k_4 ?_;refine bf k_5 ?_;refine bf k_6 ?_;refine bf k_7 ?_;refine bf k_8 ?_;refine bf k_9 ?_;refine bf apS ?_;refine bf apT ?_;refine bf apU ?_;refine bf apV ?_;refine bf apW ?_;refine bf apX ?_;refine bf apY ?_;refine bf apZ ?_;refine bf ap0 ?_;refine bf ap1 ?_;refine bf ap2 ?_;refine bf ap3 ?_;refine bf ap4 ?_;refine bf ap5 ?_;refine bf ap6 ?_;refine bf ap7 ?_;refine bf ap8 ?_;refine bf ap9 ?_;refine bf aqa ?_;refine bf aqb ?_;refine bf aqc ?_;refine bf aqd ?_;refine bf aqe ?_;refine bf aqf ?_;refine bf aqg ?_;refine bf aqh ?_;refine bf aqi ?_
 kernel_rfl
def qH:aA:=(s0 [ba 2 0 0,mf 4 false] 1 [1,2] [2] (sw (sr [lw 9 17 2,oa 10 (.aj 39) 9,oa 11 pN 10,mv 12 11,ow 13 .mov 1 12 0,ow 14 .xP 13 12 0,oF 15 pG [.t 14,kI 500] 12 0,ow 16 .mov 15 12 0,ov 17 .mov 1 16 0,ov 18 .xP 17 16 0,ot 19 (.bin .leq) [.t 18,kI 1500] 16 0,oF 20 .pick [.t 16,.t 19,.c (.bool false)] 12 0,pt 21 12 20,mv 22 21,ow 23 .mov 1 22 0,ow 24 .xP 23 22 0,oF 25 pG [.t 24,kI 1600] 22 0,pt 26 22 25] 0 [1,2,26] (cd 26 (sr [on 27 (.aj 19) [],mv 4 27] 0 [4] .ret) .skip)) (sr [lw 29 17 2,mv 30 1,ob 31 (.aj 40) 29 30,mv 28 31,xa 32 0 28,xa 33 1 28,mv 5 32,mv 6 33] 0 [1,2,5,6] (sw (sr [lw 34 17 2,oa 35 (.aj 18) 34,oa 36 pN 35] 0 [1,2,5,6,36] (cd 36 (sr [mv 37 6,oi 38 pE 37 2,mv 39 38,ov 40 .mov 5 39 0,ot 41 pE [.t 40,.c ze] 39 0,pf 42 39 41,mv 43 42,ot 44 (.aj 19) [] 43 0,pf 45 43 44,mv 4 45] 0 [4] .ret) .skip)) (sw (sr [mv 46 1,oa 47 .xP 46,oi 48 pG 47 1500] 0 [1,2,5,6,48] (cd 48 (sr [mv 49 6,oi 50 pE 49 3,mv 51 50,ov 52 .mov 5 51 0,ot 53 pE [.t 52,.c ze] 51 0,pf 54 51 53,mv 55 54,ot 56 (.aj 19) [] 55 0,pf 57 55 56,mv 4 57] 0 [4] .ret) .skip)) (sr [lw 59 17 2,mv 60 1,ob 61 (.aj 41) 59 60,mv 58 61,xa 62 0 58,xa 63 1 58,mv 7 62,mv 8 63] 0 [5,6,7,8] (sw (sr [mv 64 8,oa 65 pN 64] 0 [5,6,7,65] (cd 65 (sr [mv 66 6,oi 67 pE 66 4,mv 68 67,ov 69 .mov 5 68 0,ot 70 pE [.t 69,.c ze] 68 0,pf 71 68 70,mv 72 71,ot 73 (.aj 19) [] 72 0,pf 74 72 73,mv 4 74] 0 [4] .ret) .skip)) (sr [mv 75 6,oi 76 pE 75 0,mv 77 76,ov 78 .mov 5 77 0,ov 79 .mov 7 77 0,obT 80 pE 78 79 77 0,pf 81 77 80,mv 82 81,ot 83 (.aj 19) [] 82 0,pf 84 82 83,mv 4 84] 0 [4] .ret))))))))
def Kv:aA:=(sr [mf 0 false] 0 [] (sr [on 4 (.aj 68) [],oc 5 (.aj 40) 4 (.c (.str ⟨#[104,97,110,100,115,10,111,114,100,101,114,32,48,32,50,32,53,10,111,114,100,101,114,32,48,32,49,32,50,10,110,101,101,100,32,48,32,49,48,32,50,48,10,110,101,101,100,32,49,32,49,48,32,50,48,10,99,104,97,110,103,101,32,49,32,49,50,32,49,53,10,99,117,116,32,51,55,10,99,117,116,32,49,53,10,115,116,111,99,107,10,99,104,97,110,103,101,32,49,32,49,50,32,49,53,10,115,116,111,99,107,10,112,114,105,99,101,32,48,10,115,101,114,118,101,32,48,32,53,54,10,115,101,114,118,101,32,48,32,53,55,10,111,112,101,110,10,99,111,105,110,115,10,111,102,102,32,49,32,57,10,111,102,102,32,49,32,49,48,10,119,114,111,110,103,10,115,101,116,32,54,10,115,101,116,32,57,10,115,101,116,32,56,10,115,101,116,32,56,10,119,111,114,107,115,32,57,10,100,97,116,101,32,52,48,10,119,114,111,110,103,10,99,117,116,115,32,51,54,10,115,116,114,105,107,101,32,49,10,115,116,114,105,107,101,32,52,10,115,116,114,105,107,101,32,51,10,99,111,105,110,115,10,111,112,101,110,10,115,116,97,110,100,115,10,115,116,114,105,107,101,32,48,10,115,116,114,105,107,101,32,57,10,115,101,114,118,101,32,48,10]⟩)),mv 3 5,xa 6 0 3,xa 7 1 3,mv 1 6,mv 2 7] 0 [1,2] (sr [mv 8 2,oi 9 pE 8 0,mv 10 9,ov 11 .mov 1 10 0,ot 12 pE [.t 11,.c (.str ⟨#[49,32,51,32,51,32,52,10,110,111,116,101,100,10,101,114,114,111,114,32,55,10,49,32,49,50,32,49,53,10,101,114,114,111,114,32,55,10,101,114,114,111,114,32,55,10,101,114,114,111,114,32,55,10,110,111,116,101,100,10,49,53,10,110,111,116,101,100,10,49,56,10,53,55,10,101,114,114,111,114,32,55,10,110,111,116,101,100,10,110,111,116,104,105,110,103,10,53,55,10,57,55,10,49,48,56,10,51,53,54,10,101,114,114,111,114,32,55,10,101,114,114,111,114,32,55,10,110,111,116,101,100,10,101,114,114,111,114,32,55,10,49,48,10,50,32,57,10,51,52,56,10,50,32,49,32,51,10,101,114,114,111,114,32,55,10,110,111,116,101,100,10,110,111,116,101,100,10,48,10,48,32,50,32,53,10,48,32,49,32,50,10,101,114,114,111,114,32,55,10,101,114,114,111,114,32,50,10,101,114,114,111,114,32,52,10]⟩)] 10 0,pf 13 10 12,mv 0 13] 0 [0] .ret)))
def Kw:aA:=(s0 [ba 1 0 0,mf 2 false] 1 [1] [1] (sr [fa 3 0 1,fa 4 0 3,lo 5 4,oa 6 .len 5,oi 7 (.bin .leq) 6 7,mv 8 7,ov 9 (.fld 0) 1 8 0,ov 10 (.fld 1) 9 8 0,ov 11 ld 10 8 0,ov 12 .len 11 8 0,ot 13 (.bin .leq) [.t 12,kI 6] 8 0,pf 14 8 13,mv 15 14,ov 16 (.fld 2) 1 15 0,ov 17 ld 16 15 0,ov 18 .len 17 15 0,ot 19 (.bin .leq) [.t 18,kI 6] 15 0,pf 20 15 19,mv 21 20,ov 22 (.fld 4) 1 21 0,ov 23 (.fld 1) 22 21 0,ov 24 ld 23 21 0,ov 25 .len 24 21 0,ot 26 (.bin .leq) [.t 25,kI 8] 21 0,pf 27 21 26,mv 28 27,ov 29 (.fld 6) 1 28 0,ov 30 (.fld 1) 29 28 0,ov 31 ld 30 28 0,ov 32 .len 31 28 0,ot 33 (.bin .leq) [.t 32,kI 5] 28 0,pf 34 28 33,mv 35 34,ov 36 (.fld 11) 1 35 0,ov 37 ld 36 35 0,ov 38 .len 37 35 0,ot 39 (.bin .leq) [.t 38,kI 8] 35 0,pf 40 35 39,mv 2 40] 0 [2] .ret))
def Ku:aA:=(sr [al 0 0 [zs,zs,zs,z0,z0,zs,z0,zs,z0,z0,z0,zs,z0,z0,z0,z0,z0]] 1 [0] (sr [on 1 (.aj 158) [],on 2 (.build [z0,z0] [(0,1),(1,1)]) [kI 1,kI 3],on 3 (.build [z0,z0] [(0,1),(1,1)]) [kI 1499,kI 2000],ob 4 (.dV 2 [.agg [z0,z0],.agg [z0,z0]] [0,1]) 2 3,on 5 (.aj 159) [],on 6 (.aj 160) [],on 7 (.aj 161) [],on 8 (.build [.bool false,z0,z0,z0] [(0,1)]) [.c (.bool true)],on 9 (.build [.bool false,z0,z0,z0] [(1,1),(2,1)]) [kI 1,kI 6],ob 10 (.dV 4 [.agg [.bool false,z0,z0,z0],.agg [.bool false,z0,z0,z0]] [0,1]) 8 9,on 11 (.build [zs,zs,zs,z0,z0,zs,z0,zs,z0,z0,z0,zs,z0,z0,z0,z0,z0] [(0,2),(2,1),(3,1),(4,2),(6,2),(8,3),(11,1),(12,1),(13,1),(14,1),(15,1),(16,1)]) [.t 1,.t 4,kI 100,.t 5,.t 6,.t 7,.t 10,kI 1,kI 3,kI 6,kI 4,kI 10],sk 17 0 11 0] 0 [0] .ret))
def Zw:aA:=(sr [al 0 0 [zs,zs]] 1 [0] (sr [on 1 (.aj 238) [kI 10,kI 20],oa 2 (.build [z0,z0,z0] [(1,2)]) 1,on 3 (.aj 238) [kI 12,kI 18],on 4 (.build [z0,z0,z0] [(0,1),(1,2)]) [kI 1,.t 3],on 5 (.aj 238) [kI 15,kI 10],on 6 (.build [z0,z0,z0] [(0,1),(1,2)]) [kI 1,.t 5],on 7 (.dV 3 [.agg [z0,z0,z0],.agg [z0,z0,z0],.agg [z0,z0,z0]] [0,1,2]) [.t 2,.t 4,.t 6],on 8 (.dV 1 [z0,z0] [0,1]) [kI 2,kI 3],ob 9 (.build [zs,zs] [(0,1),(1,1)]) 7 8,sk 2 0 9 0] 0 [0] .ret))
def Zv:aA:=(sr [al 0 0 [z0,zs]] 1 [0] (sr [on 1 (.dV 1 [z0] [0]) [kI 4],oa 2 (.build [z0,zs] [(1,1)]) 1,sk 2 0 2 0] 0 [0] .ret))
def Zu:aA:=(sr [al 0 0 [z0,z0,z0]] 1 [0] (sr [on 1 (.build [z0,z0,z0] [(0,1),(1,1)]) [kI 59,kI 2],sk 3 0 1 0] 0 [0] .ret))
def OL:aA:=(sr [al 4 0 [z0,z0]] 1 [0,1,4] (sr [mv 5 0,mv 6 1,ob 7 (.build [z0,z0] [(0,1),(1,1)]) 5 6,sk 2 4 7 0] 0 [4] .ret))
def Zx:aA:=(sr [al 0 0 [z0,zs]] 1 [0] (sr [on 1 (.dV 1 [z0,z0,z0] [0,1,2]) [kI 15,kI 21,kI 27],on 2 (.build [z0,zs] [(0,1),(1,1)]) [kI 40,.t 1],sk 2 0 2 0] 0 [0] .ret))
def Di {base sz:Nat}{zs:List DV}{a:List Nat}{args:List PV}{ds xs:List DV}{K:PV->Mem->Prop}{KP:DV->Mem->Prop}(h1:dL M args=some ds)(h2:vJ sz zs a (ds.map DV.strip)=some xs)(b:M.frz args=M)(c:K (.d (.slice true xs)) M):ay C base (.dV sz zs a) args M K KP:=by
 simp only[ay,h1,h2,b];exact c
def ab7 (a b:Int):Pure C 238 [dI a,dI b] (.d (.agg [dI a,dI b])) []:=by
 refine ah OL Aq ?_;simp only[OL,Aq,gV,RN,z,F,N]
def P_k:Pure C 158 [] (.d (.agg [.slice true (mO.pc.links.map Lk.dv), .slice true (mO.pc.hands.map au)])) []:=by
 refine ah Zw NM ?_;simp only[Zw,NM,RN,z,F,N];refine ak (ab7 10 20) ?_;(try simp only[RN,z,F,N]);refine ak (ab7 12 18) ?_;(try simp only[RN,z,F,N]);refine ak (ab7 15 10) ?_;(try simp only[RN,z,F,N]);refine Di rfl rfl rfl ?_;(try simp only[RN,z,F,N]);refine Di rfl rfl rfl ?_;simp only[gV,RN,z,F,N]
 rfl
def O_k:Pure C 160 [] (.d (.agg [dI 0, .slice true [dI 4]])) []:=by
 refine ah Zv NM ?_;simp only[Zv,NM,gV,RN,z,F,N];exact⟨rfl,rfl⟩
def M_k:Pure C 161 [] (.d (.agg [dI 59,dI 2,dI 0])) []:=by
 refine ah Zu aiF ?_;simp only[Zu,aiF,gV,RN,z,F,N]
def D_k:Pure C 159 [] (.d (.agg [dI 40, .slice true [dI 15,dI 21,dI 27]])) []:=by
 refine ah Zx NM ?_;simp only[Zx,NM,RN,z,F,N];refine Di rfl rfl rfl ?_;simp only[gV,RN,z,F,N]
 rfl
def alz:DV:= .agg [.slice true (mO.pc.links.map Lk.dv), .slice true (mO.pc.hands.map au), .slice true (mO.tg.map Fr.dv),dI 100,dI 40, .slice true (mO.dvd.cir.map au),dI 0, .slice true (mO.cal.cy.map au),dI 59,dI 2,dI 0, .slice true (mO.fs.map Fs.dv),dI 1,dI 3,dI 6,dI 4,dI 10]
def ajA:Pure C 68 [] (.d alz) []:=by
 refine ah Ku aiE ?_;simp only[Ku,aiE,RN,z,F,N];refine ak P_k ?_;(try simp only[RN,z,F,N]);refine Di rfl rfl rfl ?_;(try simp only[RN,z,F,N]);refine ak D_k ?_;(try simp only[RN,z,F,N]);refine ak O_k ?_;(try simp only[RN,z,F,N]);refine ak M_k ?_;(try simp only[RN,z,F,N]);refine Di rfl rfl rfl ?_;simp only[gV,RN,z,F,N]
 rfl
def XK:mO.Small:=⟨by decide,by decide,by decide,by decide,by decide⟩
def CZ:Pure C 19 [] (.d (.bool true)) []:=by
 refine ah Kv aiD ?_;simp only[Kv,aiD,RN,z];refine ak ajA ?_;(try simp only[RN,z,F,H,I,J,N]);refine eG rfl rfl (UE mO XK (by kernel_rfl) (by decide:XB.size<=1500) (by kernel_rfl) aoN) ?_;have b:(Jw.toList==Jw.toList)=true:=beq_self_eq_true _;have a:(.str ⟨#[49,32,51,32,51,32,52,10,110,111,116,101,100,10,101,114,114,111,114,32,55,10,49,32,49,50,32,49,53,10,101,114,114,111,114,32,55,10,101,114,114,111,114,32,55,10,101,114,114,111,114,32,55,10,110,111,116,101,100,10,49,53,10,110,111,116,101,100,10,49,56,10,53,55,10,101,114,114,111,114,32,55,10,110,111,116,101,100,10,110,111,116,104,105,110,103,10,53,55,10,57,55,10,49,48,56,10,51,53,54,10,101,114,114,111,114,32,55,10,101,114,114,111,114,32,55,10,110,111,116,101,100,10,101,114,114,111,114,32,55,10,49,48,10,50,32,57,10,51,52,56,10,50,32,49,32,51,10,101,114,114,111,114,32,55,10,110,111,116,101,100,10,110,111,116,101,100,10,48,10,48,32,50,32,53,10,48,32,49,32,50,10,101,114,114,111,114,32,55,10,101,114,114,111,114,32,50,10,101,114,114,111,114,32,52,10]⟩:DV)= .str Jw:=rfl;simp only[z1,dM,pW,a,b,RN,z]
end Go.Tel
namespace Go.Tel
open Go.Am Go.Lib
variable{a b:ByteArray}
def ML (h:a.data.toList=b.data.toList):a=b:=by
 cases a with|mk x=>cases b with|mk y=>
 simp only at h;rw[Array.toList_inj.1 h]
def tV (a b:ByteArray):(a++b).data.toList=a.data.toList++b.data.toList:=by
 rw[ByteArray.data_append,Array.toList_append]
def Df {xs ys:List ByteArray}(h:xs.map (·.data.toList)=ys.map (·.data.toList)):xs=ys:=by
 induction xs generalizing ys with
 |nil=>cases ys with
  |nil=>rfl
  |cons y ys=>cases h
 |cons x xs a=>cases ys with
  |nil=>cases h
  |cons y ys=>
   simp only[ai,List.cons.injEq]at h;rw[ML h.1,a h.2]
def qQ:(a.toList==b.toList)=decide (a=b):=by
 rw[toList_data,toList_data]
 by_cases h:a=b
 ·rw[h,decide_eq_true rfl,beq_self_eq_true]
 ·rw[decide_eq_false h];exact beq_eq_false_iff_ne.2 fun e=>h (ML e)
def spl (c:UInt8):List UInt8->List (List UInt8)
 | []=>[[]]
 |b::l=>if b=c then[]::spl c l else match spl c l with
  |x::r=>(b::x)::r
  | []=>[[b]]
def Qm {c:UInt8}:∀{x:List UInt8} {l:List UInt8},c∉x->spl c (x++c::l)=x::spl c l
 | [],l,_=>by rw[bB,spl,if_pos rfl]
 |b::x,l,h=>by
  have h1:b≠c:=fun e=>h (by rw[e];exact aE)
  rw[aM,spl,if_neg h1,Qm fun hh=>h (aD _ hh)]
def LX {c:UInt8}:∀{x:List UInt8},c∉x->spl c x=[x]
 | [],_=>rfl
 |b::x,h=>by
  have h1:b≠c:=fun e=>h (by rw[e];exact aE)
  rw[spl,if_neg h1,LX fun hh=>h (aD _ hh)]
def U6 (c:UInt8):∀l:List UInt8,c∉l\/∃x r,l=x++c::r/\c∉x
 | []=> .inl (by simp)
 |b::l=>by
  by_cases h:b=c
  ·right;exact⟨[],l,by rw[h];rfl,by simp⟩
  ·rcases U6 c l with h1|⟨x,r,rfl,h2⟩
   ·left;simp only[ao,not_or];exact⟨fun e=>h e.symm,h1⟩
   ·right;exact⟨b::x,r,rfl,by simp only[ao,not_or];exact⟨fun e=>h e.symm,h2⟩⟩
def ahu {c:UInt8}:∀{x r:List UInt8},c∉x->indexByte (x++c::r) c=x.length
 | [],r,_=>by rw[bB,indexByte,beq_self_eq_true,if_pos rfl];rfl
 |b::x,r,h=>by
  have h1:(b==c)=false:=beq_eq_false_iff_ne.2 fun e=>h (by rw[e];exact aE)
  have a:=ahu (r:=r) fun hh=>h (aD b hh)
  have h2:(((x.length:Nat):Int)== -1)=false:=beq_eq_false_iff_ne.2 (by omega);rw[aM,indexByte,h1,a,h2];simp only[be,if_false,W];omega
def TK (c:UInt8):∀(n:Nat) (l:List UInt8),l.length<=n->splitK [c] 0 (l.count c) l=spl c l
 |n,l,b=>by
  rcases U6 c l with h|⟨x,r,rfl,h⟩
  ·rw[cQ.2 h,splitK,LX h]
  ·have d:(x++c::r).count c=r.count c+1:=by rw[List.count_append,cQ.2 h,List.count_cons_self];omega
   have a:index (x++c::r) [c]=(x.length:Int):=by rw[index_one,ahu h]
   have e:¬(index (x++c::r) [c]== -1)=true:=by rw[a,beq_iff_eq];omega
   rw[d,splitK,if_neg e,a,Qm h,aq,Nat.add_zero];have e1:(x++c::r).take x.length=x:=by rw[List.take_left]
   have e2:(x++c::r).drop (x.length+ [c].length)=r:=by
    rw[bh,<-List.drop_drop,List.drop_left];rfl
   rw[e1,e2];cases n with
   |zero=>simp at b
   |succ n=>rw[TK c n r (by simp at b;omega)]
def tH (s:ByteArray)(c:UInt8):(aY s c).map (·.data.toList)=spl c s.data.toList:=by
 rw[aY,splitB_data];have h:countB s ⟨#[c]⟩=s.data.toList.count c:=count_one c _;rw[h];exact TK c _ _ (aL _)
def VY {α:Type}{c:UInt8}{f:α->List UInt8}:∀{ns:List α} {w:List UInt8},c∉w->(∀n∈ns,c∉f n)->spl c (w++(ns.map fun n=>c::f n).flatten)=w::ns.map f
 | [],w,a,_=>by simp[LX a]
 |n::ns,w,a,h=>by
  have e:w++((n::ns).map fun n=>c::f n).flatten=w++c::(f n++(ns.map fun n=>c::f n).flatten):=by simp
  rw[e,Qm a,VY (h n aE) fun m b=>h m (aD _ b)];rfl
def JW (c:UInt8):∀l:List UInt8,∃x r,spl c l=x::r/\l=x++(r.map fun y=>c::y).flatten
 | []=>⟨[],[],rfl,rfl⟩
 |b::l=>by
  obtain⟨x,r,h1,h2⟩:=JW c l;rw[spl,h1]
  by_cases h:b=c
  ·rw[if_pos h]
   exact⟨[],x::r,rfl,by rw[h2,h];simp⟩
  ·rw[if_neg h]
   exact⟨b::x,r,rfl,by rw[aM,<-h2]⟩
def Nk (n:Nat):(eu (n:Int)).data.toList=decDigits n:=by
 rw[eu,itoa,if_neg (by omega),aq]
def Qb {d:Nat}(h:d<10):(UInt8.ofNat (48+d)).toNat=48+d:=by
 have:48+d<256:=by omega
 simp[UInt8.toNat_ofNat];omega
def aeJ {n:Nat}(h:n<10):decDigits n=[UInt8.ofNat (48+n)]:=by rw[decDigits,dif_pos h]
def agR {n:Nat}(h:¬n<10):decDigits n=decDigits (n / 10)++ [UInt8.ofNat (48+n % 10)]:=by rw[decDigits,dif_neg h]
def WE:∀(k n:Nat),n<=k->∀b∈decDigits n,48<=b.toNat/\b.toNat<=57
 |k,n,c,b,a=>by
  by_cases h:n<10
  ·rw[aeJ h,aw]at a
   rw[a,Qb h];omega
  ·rw[agR h]at a
   rcases a8.1 a with a|a
   ·cases k with
    |zero=>omega
    |succ k=>exact WE k (n / 10) (by omega) b a
   ·rw[aw.1 a,Qb (dl _ (by decide))]
    have:n % 10<10:=dl _ (by decide);omega
def akC {n:Int}(h:0<=n){c:UInt8}(hc:c.toNat<48):c∉(eu n).data.toList:=fun hh=>by
 obtain⟨m,rfl⟩:=bL h;rw[Nk]at hh;have:=WE m m (aL _) c hh;omega
def Qa:∀(k n:Nat),n<10 ^ (k+1)->(decDigits n).length<=k+1/\1<=(decDigits n).length
 |0,n,h=>by rw[aeJ (by omega)];simp
 |k+1,n,h=>by
  by_cases h1:n<10
  ·rw[aeJ h1];simp
  ·have:=Qa k (n / 10) (by rw[Nat.pow_succ]at h;omega)
   rw[agR h1,V,bh];omega
def Ve (w:ByteArray)(i:Nat):w.data.getD i 0=w.data.toList.getD i 0:=by
 rw[b9,<-cF,Q]
def RD (w:ByteArray)(hs:w.size<=4):∀(l:List UInt8) (pos:Nat) (n:Int),w.data.toList.drop pos=l->(∀b∈l,48<=b.toNat/\b.toNat<=57)->xk w l.length pos n=some (l.foldl (fun n b=>10*n+((b.toNat:Int) - 48)) n)
 | [],_,_,_,_=>rfl
 |b::l,pos,n,h,hd=>by
  have c:pos<w.data.toList.length:=by
   refine Nat.lt_of_not_le fun hh=> ?_
   rw[List.drop_of_length_le hh]at h;cases h
  have h2:=List.drop_eq_getElem_cons c;rw[h]at h2;obtain⟨d,f⟩:=List.cons.inj h2;have e:w.data.getD pos 0=b:=by rw[Ve,Q,cq c,d];rfl
  have a:=hd b aE;rw[W,xk,e,if_pos ⟨a.1,a.2,hs⟩,RD w hs l (pos+1) _ f.symm fun x g=>hd x (aD _ g)]
  rfl
def ac6:∀(k n:Nat),n<=k->(decDigits n).foldl (fun n b=>10*n+((b.toNat:Int) - 48)) 0=(n:Int)
 |k,n,a=>by
  by_cases h:n<10
  ·rw[aeJ h]
   simp only[bu,cj,Qb h];omega
  ·cases k with
   |zero=>omega
   |succ k=>
    rw[agR h,cm,ac6 k (n / 10) (by omega)];have:n % 10<10:=dl _ (by decide);simp only[bu,cj,Qb this];omega
def Ze {n:Int}(h:0<=n/\n<=9999):iR (eu n)=some n:=by
 obtain⟨m,rfl⟩:=bL h.1;have hd:=Nk m;have c:=Qa 3 m (by omega);have a:(eu (m:Int)).size=(decDigits m).length:=by rw[<-size_data,hd]
 have b:=RD (eu (m:Int)) (by omega) (decDigits m) 0 0 (by rw[ax,hd]) (WE m m (aL _));rw[ac6 m m (aL _)]at b;rw[iR,a,b];simp only;rw[if_pos ⟨by omega,trivial⟩]
def ab2 {w:ByteArray}{n:Int}(h:iR w=some n):eu n=w:=by
 unfold iR at h
 split at h
 ·split at h
  ·rename_i h1
   cases h;exact ML h1.2
  ·cases h
 ·cases h
def OC:∀(ns a:List Int),(∀n∈ns,0<=n/\n<=9999)->fV (ns.map eu) a=some (a++ns)
 | [],a,_=>by simp[fV]
 |n::ns,a,h=>by
  rw[ai,fV,Ze (h n aE)];simp only;rw[OC ns _ fun m b=>h m (aD _ b),bi];rfl
def rZ:∀(ws:List ByteArray) (a l:List Int),fV ws a=some l->∃ns,l=a++ns/\ns.map eu=ws
 | [],a,l,h=>by cases h;exact⟨[],by simp,rfl⟩
 |w::ws,a,l,h=>by
  rw[fV]at h;cases b:iR w with
  |none=>rw[b]at h;cases h
  |some n=>
   rw[b]at h;obtain⟨ns,h1,h2⟩:=rZ ws _ l h;exact⟨n::ns,by rw[h1,bi];rfl,by rw[ai,ab2 b,h2]⟩
def Oy (n:Int)(ns:List Int):(CX (n::ns)).data.toList=(eu n).data.toList++(ns.map fun n=>32::(eu n).data.toList).flatten:=by
 show(dq (join ((c2 eu (n::ns)).map (·.data.toList)) [32])).toList=_
 rw[ai,ai,join_cons,joinTail];simp[ca,cW]
variable{x:En}
def Vm (h:x.ns≠[]):x.line.data.toList=(fwE x.kind).data.toList++(x.ns.map fun n=>32::(eu n).data.toList).flatten:=by
 obtain⟨n,ns,e⟩:∃n ns,x.ns=n::ns:=by
  cases a:x.ns with
  |nil=>exact absurd a h
  |cons n ns=>exact⟨n,ns,rfl⟩
 rw[En.line,tV,tV,e,Oy];simp
def aod {k:Int}(hk:1<=k/\k<=6):(32:UInt8)∉(fwE k).data.toList:=by
 obtain rfl|rfl|rfl|rfl|rfl|rfl:=MV hk
 all_goals decide
def ahg {k:Int}(hk:1<=k/\k<=6):jS (jJ (fwE k) (gI k)) fmL 0=k - 1:=by
 obtain rfl|rfl|rfl|rfl|rfl|rfl:=MV hk
 all_goals kernel_rfl
def CU (h:x.formed=true):(1<=x.kind/\x.kind<=6)/\x.ns.length=gI x.kind/\1<=x.ns.length:=by
 have a:∀k,1<=gI k:=by
  intro k;unfold gI;split
  ·omega
  ·split<;>omega
 simp only[En.formed,U,inR,decide_eq_true_eq]at h;have:=a x.kind;exact⟨by omega,h.1.2,by omega⟩
def acI (h:x.formed=true):aY x.line 32=fwE x.kind::x.ns.map eu:=by
 obtain⟨h1,h2,a⟩:=CU h;have b:=Va h;refine Df ?_;rw[tH,Vm (by intro e;rw[e]at a;simp at a),VY (aod h1) fun n c=>akC (b n c).1 (by decide)];simp
def aar {line:ByteArray}{a:Int}{ns:List Int}(h:iZ line fmL=some (a,ns)):(⟨1+a,ns⟩:En).formed=true/\(⟨1+a,ns⟩:En).line=line:=by
 obtain⟨x,r,h1,h2⟩:=JW 32 line.data.toList;rw[<-tH]at h1;have y:∃w ws,aY line 32=w::ws/\w.data.toList=x/\ws.map (·.data.toList)=r:=by
  cases o:aY line 32 with
  |nil=>rw[o]at h1;cases h1
  |cons w ws=>rw[o]at h1;cases h1;exact⟨w,ws,rfl,rfl,rfl⟩
 obtain⟨w,ws,o,rfl,rfl⟩:=y;unfold iZ at h;rw[o]at h;simp only[bc,W,cl,cJ,ax]at h
 split at h
 ·rename_i f
  cases q:fV ws []with
  |none=>rw[q]at h;cases h
  |some l=>
   rw[q]at h;simp only[Option.some.injEq,Prod.mk.injEq]at h;obtain⟨rfl,rfl⟩:=h;obtain⟨ns,e1,rfl⟩:=rZ ws [] l q;rw[bB]at e1;subst e1;have m:∀n∈l,0<=n/\n<=9999:=by
    have:=ajg (line:=line) (fm:=fmL) (a:=jS (jJ w (l.map eu).length) fmL 0) (ns:=l) (by
     unfold iZ;rw[o];simp only[bc,W,cl,cJ,ax];rw[if_pos f,q])
    exact this
   obtain⟨k,c,J,H⟩:∃k:Int,(1<=k/\k<=6)/\w=fwE k/\l.length=gI k/\jS (jJ w (l.map eu).length) fmL 0=k - 1:=by
    have z:∀(n:Nat) (p:ByteArray×Nat),jJ w n p=true->w=p.1/\n=p.2:=by
     intro n p g;rw[jJ,qQ,U,decide_eq_true_eq,beq_iff_eq]at g;exact⟨g.1,by omega⟩
    rw[Y]at f⊢;have d:∀k:Int,1<=k/\k<=6->jJ w l.length (fmL.getD (k - 1).toNat default)=true->w=fwE k/\l.length=gI k:=by
     intro k c g;obtain⟨a,b⟩:=z _ _ g;refine⟨a,b.trans ?_⟩;obtain rfl|rfl|rfl|rfl|rfl|rfl:=MV c
     all_goals rfl
    have s:∀k:Int,1<=k/\k<=6->jJ w l.length (fmL.getD (k - 1).toNat default)=true->∃k:Int,(1<=k/\k<=6)/\w=fwE k/\l.length=gI k/\jS (jJ w l.length) fmL 0=k - 1:=by
     intro k c g;obtain⟨a,b⟩:=d k c g;exact⟨k,c,a,b,by rw[a,b];exact ahg c⟩
    have j:fmL.any (jJ w l.length)=true:=by rw[<-GN _ fmL 0];exact decide_eq_true f
    obtain⟨p,u,v⟩:=List.any_eq_true.1 j;obtain⟨i,C,rfl⟩:=List.mem_iff_getElem.1 u;have G:i<6:=C;have F:fmL.getD (((i:Int)+1) - 1).toNat default=fmL[i]:=by
     rw[show(((i:Int)+1) - 1).toNat=i by omega,Q,cq C];rfl
    exact s ((i:Int)+1) ⟨by omega,by omega⟩ (by rw[F];exact v)
   obtain⟨t,I⟩:=H;have e:1+jS (jJ w (l.map eu).length) fmL 0=k:=by omega
   rw[e];have B:(⟨k,l⟩:En).formed=true:=by
    simp only[En.formed,U,inR,decide_eq_true_eq,az];exact⟨⟨⟨c.1,c.2⟩,t⟩,fun n D=>⟨(m n D).1,(m n D).2⟩⟩
   refine⟨B,ML ?_⟩;obtain⟨_,_,A⟩:=CU B;rw[Vm (by intro E;rw[E]at A;simp at A),h2,J];simp[ca,cW]
 ·cases h
def KU:aA:=(s0 [ba 1 0 0,mf 2 false] 1 [1] [1] (sw (sr [fa 4 0 1,lw 5 2 4,oa 6 (.aj 58) 5,oa 7 pN 6,mv 8 7,ow 9 (.fld 2) 1 8 0,lq 10 9 8,ow 11 .len 10 8 0,ow 12 (.fld 0) 1 8 0,ow 13 (.fld 1) 12 8 0,lq 14 13 8,ow 15 .len 14 8 0,obF 16 pQ 11 15 8 0,pt 17 8 16,mv 18 17,ow 19 (.fld 3) 1 18 0,lq 20 19 18,ow 21 (.aj 59) 20 18 0,ow 22 pN 21 18 0,pt 23 18 22,mv 24 23,ow 25 (.fld 4) 1 24 0,ow 26 (.load true 2) 25 24 0,ow 27 (.aj 60) 26 24 0,ow 28 pN 27 24 0,pt 29 24 28] 0 [1,29] (cd 29 (sr [mf 2 false] 0 [2] .ret) .skip)) (sw (sr [mi 3 0] 0 [1,3] (lp (sw (sr [mv 30 3,fa 31 2 1,lo 32 31,oa 33 .len 32,ob 34 pL 30 33] 0 [1,3,34] (cx 34 0)) (sw (b1 (sr [fa 37 2 1,lo 38 37,mv 39 3,ix 40 2 38 39,lw 41 2 40,oa 42 (.aj 61) 41,oa 43 pN 42] 0 [1,3,43] (cd 43 (sr [mf 2 false] 0 [2] .ret) .skip))) (rg [mv 35 3,oi 36 pA 35 1,mv 3 36] 0 [1,3]))))) (sr [fa 44 6 1,lw 45 2 44,oa 46 (.aj 62) 45,mv 47 46,ov 48 (.fld 8) 1 47 0,ov 49 (.load true 3) 48 47 0,ov 50 (.aj 63) 49 47 0,pf 51 47 50,mv 52 51,ov 53 (.fld 11) 1 52 0,ov 54 ld 53 52 0,ov 55 (.aj 64) 54 52 0,pf 56 52 55,mv 57 56,ov 58 (.fld 12) 1 57 0,ov 59 ld 58 57 0,ov 60 (.aj 65) 59 57 0,pf 61 57 60,mv 62 61,ov 63 (.load true 17) 1 62 0,ot 64 (.aj 67) [.t 63,cS] 62 0,ov 65 (.aj 66) 64 62 0,pf 66 62 65,mv 2 66] 0 [2] .ret))))
def xB:aA:=(s0 [ba 2 0 0,ag 4 2] 1 [1,2] [2] (sr [ag 5 2] 0 [1,2,5] (sr [lw 8 19 2,oa 9 (.aj 37) 8,mv 6 9] 0 [1,2,5,6] (sw (sr [mi 7 0] 0 [1,2,5,6,7] (lp (sw (sr [mv 10 7,mv 11 6,oa 12 .len 11,ob 13 pL 10 12] 0 [1,2,5,6,7,13] (cx 13 0)) (sw (b1 (sr [mv 16 6,mv 17 7,ix 18 1 16 17,lo 19 18,mv 20 1,ob 21 pQ 19 20] 0 [1,2,5,6,7,21] (cd 21 (r1 [mv 22 5,fu 23 17 2 1,lv 24 23,mv 25 6,mv 26 7,ob1 27 (.aS 1) 25 26 1,lv 28 27,ob1 29 (.aS 2) 24 28 1,ou 30 (.load true 2) 29 1,ou 31 (.dV 2 [.agg [z0,zs]] [0]) 30 1,ob 32 (.app 2 false) 22 31,mv 5 32] 0 [1,2,5,6,7] []) .skip))) (rg [mv 14 7,oi 15 pA 14 1,mv 7 15] 0 [1,2,5,6,7]))))) (sr [mv 33 5,mv 4 33] 0 [4] .ret)))))
def zA:aA:=(s0 [ba 1 0 0,ag 2 1] 1 [1] [1] (sr [ag 3 1] 0 [1,3] (sw (sr [mi 4 0] 0 [1,3,4] (lp (sw (sr [mv 5 4,fa 6 17 1,lo 7 6,oa 8 .len 7,ob 9 pL 5 8] 0 [1,3,4,9] (cx 9 0)) (sw (b1 (sr [fa 12 17 1,lo 13 12,mv 14 4,ix 15 2 13 14,fa 16 0 15,lo 17 16,oi 18 pQ 17 6,mv 19 18,ov 20 (.fld 18) 1 19 0,ov 21 ld 20 19 0,ov 22 .mov 4 19 0,obT 23 (.aS 1) 21 22 19 0,ov 24 ld 23 19 0,ov 25 pN 24 19 0,pf 26 19 25] 0 [1,3,4,26] (cd 26 (rg [mv 27 3,mv 28 4,oa 29 (.dV 1 [z0] [0]) 28,ob 30 (.app 1 false) 27 29,mv 3 30] 0 [1,3,4]) .skip))) (rg [mv 10 4,oi 11 pA 10 1,mv 4 11] 0 [1,3,4]))))) (sr [mv 31 3,mv 2 31] 0 [2] .ret))))
def FP:aA:=(s0 [ba 2 0 0,mk 4 (.c ze),mf 5 false] 1 [1,2] [2] (sr [lw 12 17 2,oa 13 (.build zd [(0,17)]) 12,al 6 0 zd,sk 19 6 13 0] 1 [1,6] (sr [mv 14 1,oc 15 (.aj 119) 14 (.c (.int .u8 10)),mv 7 15] 0 [6,7] (sr [mk 8 (.c ze)] 0 [6,7,8] (sw (sr [mi 9 0] 0 [6,7,8,9] (lp (sw (sr [mv 16 9,oi 17 pA 16 1,mv 18 7,oa 19 .len 18,ob 20 pL 17 19] 0 [6,7,8,9,20] (cx 20 0)) (sw (b1 (sw (r1 [ou 24 (.load true 19) 6 2,mv 25 7,mv 26 9,ob1 27 (.aS 1) 25 26 1,lv 28 27,ob 29 (.aj 120) 24 28,mv 23 29,xa 30 0 23,xa 31 1 23,al 10 0 zd,sk 19 10 30 4,mv 11 31] 1 [6,7,8,9,10,11] [10]) (rg [lw 32 19 10,mv 33 8,mv 34 11,ob 35 pA 33 34,oc 36 pA 35 (.c (.str ⟨#[10]⟩)),sk 19 6 32 0,mv 8 36] 0 [6,7,8,9]))) (rg [mv 21 9,oi 22 pA 21 1,mv 9 22] 0 [6,7,8,9]))))) (sw (r1 [mv 37 8,mv 38 7,mv 39 7,ou 40 .len 39 1,oi 41 pU 40 1,ob1 42 (.aS 1) 38 41 1,lv 43 42,oc 44 pE 43 (.c ze),mv 4 37,mv 5 44] 0 [4,5] []) .ret))))))
def Ii:aA:=(s0 [ba 1 0 0,mf 2 false] 1 [1] [1] (sw (sw (r1 [fu 4 1 1 1,lv 5 4,ou 6 .len 5 1,fu 7 0 1 1,lv 8 7,oa 9 (.aj 123) 8,ob 10 pQ 6 9] 0 [1,10] []) (cd 10 (sr [mf 2 false] 0 [2] .ret) .skip)) (sw (sr [mi 3 0] 0 [1,3] (lp (sw (sr [mv 11 3,fa 12 1 1,lo 13 12,oa 14 .len 13,ob 15 pL 11 14] 0 [1,3,15] (cx 15 0)) (sw (b1 (sr [fa 18 1 1,lo 19 18,mv 20 3,ix 21 1 19 20,lo 22 21,on 23 (.aj 124) [.t 22,kI 0,kI 9999],oa 24 pN 23] 0 [1,3,24] (cd 24 (sr [mf 2 false] 0 [2] .ret) .skip))) (rg [mv 16 3,oi 17 pA 16 1,mv 3 17] 0 [1,3]))))) (sr [mf 2 true] 0 [2] .ret))))
def KN:aA:=(sr [al 2 0 [z0,zs],mf 3 false] 1 [0,2] (sr [mv 9 0,oc 10 (.aj 119) 9 (.c (.int .u8 32)),mv 4 10] 0 [2,4] (sr [mv 12 4,oi 13 (.zV 1 true false false) 12 1,oa 14 (.aj 129) 13,mv 11 14,xa 15 0 11,xa 16 1 11,mv 5 15,mv 6 16] 0 [2,4,5,6] (sw (sr [mi 7 1] 0 [2,4,5,6,7] (lp (sw (sr [mv 17 6,mv 18 17,ov 19 .mov 7 18 0,ot 20 (.bin .leq) [.t 19,kI 6] 18 0,pf 21 18 20] 0 [2,4,5,6,7,21] (cx 21 0)) (sw (b1 (s0 [mv 24 7,mv 25 5,ob 26 (.build [z0,zs] [(0,1),(1,1)]) 24 25,al 8 0 [z0,zs],sk 2 8 26 0] 1 [2,4,5,6,7,8] [8] (sw (r1 [mv 27 4,of 28 (.aS 1) [.t 27,kI 0] 1,lv 29 28,mv 30 7,oa 31 (.aj 127) 30,ob 32 pE 29 31,mv 33 32,ov 34 (.load true 2) 8 33 1,ov 35 (.aj 43) 34 33 0,pf 36 33 35] 0 [2,4,5,6,7,8,36] []) (cd 36 (sr [lw 37 2 8,sk 2 2 37 0,mf 3 true] 0 [2,3] .ret) .skip)))) (rg [mv 22 7,oi 23 pA 22 1,mv 7 23] 0 [2,4,5,6,7]))))) (sr [on 38 (.build [z0,zs] []) [],sk 2 2 38 0,mf 3 false] 0 [2,3] .ret)))))
def BH:aA:=(s0 [ba 2 0 0,ba 3 1 1,mi 4 0] 2 [2,3] [2,3] (sw (sr [lw 6 2 3,oa 7 (.aj 43) 6,oa 8 pN 7] 0 [2,3,8] (cd 8 (sr [mi 4 2] 0 [4] .ret) .skip)) (sw (sr [fa 9 17 2,lo 10 9,oa 11 .len 10,oi 12 (.bin .geq) 11 24] 0 [2,3,12] (cd 12 (sr [mi 4 3] 0 [4] .ret) .skip)) (sw (sr [fa 13 0 3,lo 14 13,oi 15 pE 14 6] 0 [2,3,15] (cd 15 (sr [fa 16 1 3,lo 17 16,oi 18 (.aS 1) 17 0,lo 19 18,mv 5 19] 0 [2,5] (sw (sr [mv 20 5,fa 21 17 2,lo 22 21,oa 23 .len 22,ob 24 (.bin .geq) 20 23,mv 25 24,ow 26 (.fld 17) 2 25 0,lq 27 26 25,ow 28 .mov 5 25 0,obF 29 (.aS 2) 27 28 25 0,ow 30 (.fld 0) 29 25 0,lq 31 30 25,oF 32 pE [.t 31,kI 6] 25 0,pt 33 25 32] 0 [2,5,33] (cd 33 (sr [mi 4 2] 0 [4] .ret) .skip)) (sw (sw (r1 [fu 34 18 2 1,lv 35 34,mv 36 5,ob1 37 (.aS 1) 35 36 1,lv 38 37,mv 39 38,ow 40 (.fld 0) 2 39 1,ow 41 (.load true 17) 40 39 1,ow 42 (.load true 19) 2 39 1,ow 43 .mov 5 39 0,obF 44 (.aj 22) 42 43 39 0,obF 45 (.aj 131) 41 44 39 0,ow 46 pN 45 39 0,pt 47 39 46] 0 [47] []) (cd 47 (sr [mi 4 7] 0 [4] .ret) .skip)) (sr [mi 4 0] 0 [4] .ret)))) .skip)) (sw (sr [fa 48 0 2,lw 49 17 48,lw 50 2 3,ob 51 (.aj 132) 49 50,oa 52 pN 51] 0 [2,3,52] (cd 52 (sr [mi 4 2] 0 [4] .ret) .skip)) (sw (sw (r1 [fu 53 0 2 1,ou 54 (.load true 17) 53 1,ou 55 (.load true 19) 2 1,oi 56 (.aj 22) 55 (-1),ou 57 (.load true 2) 3 1,on 58 (.aj 133) [.t 54,.t 56,.t 57],oa 59 pN 58] 0 [59] []) (cd 59 (sr [mi 4 7] 0 [4] .ret) .skip)) (sr [mi 4 0] 0 [4] .ret)))))))
def BI:aA:=(s0 [ba 2 0 0,ba 3 1 1,al 4 2 zd] 3 [2,3,4] [2,3] (sr [fa 6 0 2,lw 7 17 6,oa 8 (.build zd [(0,17)]) 7,al 5 0 zd,sk 19 5 8 0] 1 [2,3,4,5] (sw (r1 [fu 9 17 2 1,lv 10 9,on 11 (.app 2 false) [cS,.t 10],fu 12 0 3 1,lv 13 12,fu 14 1 3 1,lv 15 14,on 16 (.XV 1) [cS,.t 15],ob 17 (.build [z0,zs] [(0,1),(1,1)]) 13 16,ou 18 (.dV 2 [.agg [z0,zs]] [0]) 17 1,ob 19 (.app 2 false) 11 18,fu 20 17 5 2,sk 1 20 19 0] 0 [2,3,4,5] []) (sr [fa 21 18 2,lo 22 21,on 23 (.app 1 false) [cS,.t 22],on 24 (.dV 1 [.bool false] [0]) [.c (.bool false)],ob 25 (.app 1 true) 23 24,fa 26 18 5,sk 1 26 25 0] 0 [3,4,5] (sw (sr [fa 27 0 3,lo 28 27,oi 29 pE 28 6] 0 [3,4,5,29] (cd 29 (r1 [fu 30 18 5 2,ou 31 ld 30 2,fu 32 1 3 1,lv 33 32,of 34 (.aS 1) [.t 33,kI 0] 1,lv 35 34,ix 36 1 31 35,os (.store 1) [.t 36,.c (.bool true)] 3] 0 [4,5] []) .skip)) (sr [lw 37 19 5,sk 19 4 37 0] 0 [4] .ret))))))
def Em:aA:=(s0 [ba 2 0 0,ba 3 1 1,mk 4 cS,mi 5 0] 2 [2,3] [2,3] (sw (sw (r1 [fu 14 1 3 1,lv 15 14,ou 16 .len 15 1,fu 17 0 3 1,lv 18 17,oa 19 (.aj 134) 18,ob 20 pQ 16 19] 0 [2,3,20] []) (cd 20 (sr [mk 4 cS,mi 5 2] 0 [4,5] .ret) .skip)) (sw (r1 [fu 21 0 2 1,ou 22 (.load true 17) 21 1,fu 23 1 3 1,lv 24 23,ou 25 (.load true 19) 2 1,oi 26 (.aj 22) 25 (-1),al 6 0 [zs,zs,zs,z0,z0,zs,z0,zs,z0,z0,z0,zs,z0,z0,z0,z0,z0],sk 17 6 22 4,mv 7 24,mv 8 26] 1 [2,3,6,7,8] [6]) (sw (sr [fa 27 0 3,lo 28 27] 0 [2,3,6,7,8,28] (.block 0 (sr [oi 30 pE 28 4,mv 29 30] 0 [2,3,6,7,8,28,29] (cd 29 (sw (sw (r1 [ou 31 (.load true 17) 6 1,mv 32 7,of 33 (.aS 1) [.t 32,kI 0] 1,lv 34 33,ob 35 (.aj 135) 31 34,oa 36 pN 35] 0 [6,7,8,36] []) (cd 36 (sr [mk 4 cS,mi 5 2] 0 [4,5] .ret) .skip)) (sw (r1 [ou 37 (.load true 17) 6 1,ou 38 (.load true 17) 6 1,mv 39 8,ob 40 (.aj 137) 38 39,mv 41 7,of 42 (.aS 1) [.t 41,kI 0] 1,lv 43 42,on 44 (.aj 136) [.t 37,.t 40,.t 43],ou 45 (.dV 1 [z0] [0]) 44 1,mv 4 45,mi 5 0] 0 [4,5] []) .ret)) (sr [oi 47 pE 28 5,mv 46 47] 0 [2,3,6,7,8,28,46] (cd 46 (sr [lw 48 17 6,mv 49 8,mv 50 7,on 51 (.aj 138) [.t 48,.t 49,.t 50],xa 52 0 51,xa 53 1 51,mv 4 52,mv 5 53] 0 [4,5] .ret) (sr [oi 55 pE 28 6,mv 54 55] 0 [2,3,6,7,8,28,54] (cd 54 (sw (sw (r1 [ou 56 (.load true 17) 6 1,mv 57 7,of 58 (.aS 1) [.t 57,kI 0] 1,lv 59 58,ob 60 (.aj 135) 56 59,oa 61 pN 60,mv 62 61,ow 63 (.load true 17) 6 62 1,ow 64 .mov 7 62 0,oF 65 (.aS 1) [.t 64,kI 1] 62 1,ow 66 ld 65 62 1,obF 67 (.aj 139) 63 66 62 0,ow 68 pN 67 62 0,pt 69 62 68] 0 [6,7,8,69] []) (cd 69 (sr [mk 4 cS,mi 5 2] 0 [4,5] .ret) .skip)) (sw (r1 [ou 70 (.load true 17) 6 1,mv 71 8,mv 72 7,of 73 (.aS 1) [.t 72,kI 0] 1,lv 74 73,mv 75 7,of 76 (.aS 1) [.t 75,kI 1] 1,lv 77 76,on 78 (.aj 140) [.t 70,.t 71,.t 74,.t 77],ou 79 (.dV 1 [z0] [0]) 78 1,mv 4 79,mi 5 0] 0 [4,5] []) .ret)) (sr [oi 81 pE 28 8,mv 80 81] 0 [2,3,6,7,28,80] (cd 80 (sw (sw (r1 [ou 82 (.load true 17) 6 1,mv 83 7,of 84 (.aS 1) [.t 83,kI 0] 1,lv 85 84,ob 86 (.aj 139) 82 85,oa 87 pN 86] 0 [6,7,87] []) (cd 87 (sr [mk 4 cS,mi 5 2] 0 [4,5] .ret) .skip)) (sw (sr [mv 88 7,oi 89 (.aS 1) 88 0,lo 90 89,mv 9 90] 0 [6,9] (b1 (.loop (sw (sr [mv 91 9,lw 92 17 6,oa 93 (.aj 141) 92,ob 94 (.bin .leq) 91 93] 0 [6,9,94] (cx 94 1)) (sw (.block 2 (sr [lw 97 17 6,mv 98 9,ob 99 (.aj 142) 97 98] 0 [6,9,99] (cd 99 (sr [mv 100 9,oa 101 (.dV 1 [z0] [0]) 100,mv 4 101,mi 5 0] 0 [4,5] .ret) .skip))) (rg [mv 95 9,oi 96 pA 95 1,mv 9 96] 0 [6,9])))))) (sr [mk 4 cS,mi 5 5] 0 [4,5] .ret))) (sr [oi 103 pE 28 9,mv 102 103] 0 [2,3,6,7,28,102] (cd 102 (sw (sw (r1 [ou 104 (.load true 17) 6 1,mv 105 7,of 106 (.aS 1) [.t 105,kI 0] 1,lv 107 106,ob 108 (.aj 139) 104 107,oa 109 pN 108] 0 [6,7,109] []) (cd 109 (sr [mk 4 cS,mi 5 2] 0 [4,5] .ret) .skip)) (sw (r1 [fu 111 6 6 1,ou 112 (.load true 2) 111 1,fu 113 6 6 1,ou 114 (.load true 2) 113 1,fu 115 12 6 1,lv 116 115,ob 117 (.aj 144) 114 116,mv 118 7,of 119 (.aS 1) [.t 118,kI 0] 1,lv 120 119,ob 121 pA 117 120,oi 122 pU 121 1,ob 123 (.aj 143) 112 122,mv 110 123,xa 124 0 110,xa 125 1 110,al 10 0 [z0,z0,z0],sk 3 10 124 4,mv 11 125] 1 [10] [10]) (sr [fa 126 1 10,lo 127 126,fa 128 2 10,lo 129 128,ob 130 (.dV 1 [z0,z0] [0,1]) 127 129,mv 4 130,mi 5 0] 0 [4,5] .ret))) (sr [oi 132 pE 28 10,mv 131 132] 0 [2,3,6,7,131] (cd 131 (sw (sr [mv 133 7,oi 134 (.aS 1) 133 0,lo 135 134,oa 136 (.aj 145) 135,oa 137 pN 136] 0 [6,7,137] (cd 137 (sr [mk 4 cS,mi 5 2] 0 [4,5] .ret) .skip)) (sw (r1 [fu 139 4 6 1,ou 140 (.load true 2) 139 1,mv 141 7,of 142 (.aS 1) [.t 141,kI 0] 1,lv 143 142,ob 144 (.aj 146) 140 143,mv 138 144,xa 145 0 138,xa 146 1 138,al 12 0 [z0,z0,z0],sk 3 12 145 4,mv 13 146] 1 [12,13] [12]) (sw (sr [mv 147 13,oa 148 pN 147] 0 [12,148] (cd 148 (sr [mk 4 cS,mi 5 5] 0 [4,5] .ret) .skip)) (sr [fa 149 0 12,lo 150 149,fa 151 1 12,lo 152 151,fa 153 2 12,lo 154 153,on 155 (.dV 1 [z0,z0,z0] [0,1,2]) [.t 150,.t 152,.t 154],mv 4 155,mi 5 0] 0 [4,5] .ret)))) .skip)))))))))))))) (sr [lw 156 19 2,fa 157 0 3,lo 158 157,ob 159 (.aj 147) 156 158,mv 4 159,mi 5 0] 0 [4,5] .ret)))))
def O4:aA:=(s0 [ba 2 0 0,al 4 1 [zs,z0,z0,z0,z0,z0]] 2 [1,2,4] [2] (sr [mv 5 1,fa 6 13 2,lo 7 6,fa 8 14 2,lo 9 8,fa 10 15 2,lo 11 10,fa 12 16 2,lo 13 12,on 14 (.build [zs,z0,z0,z0,z0,z0] [(0,1),(1,1),(2,1),(3,1),(4,1)]) [.t 5,.t 7,.t 9,.t 11,.t 13],sk 6 4 14 0] 0 [4] .ret))
end Go.Tel
