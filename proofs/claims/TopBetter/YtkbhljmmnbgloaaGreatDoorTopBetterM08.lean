/-
  Part 8 of a law of desks.
  Conditions: none.
-/
import Derived.Test.YtkbhljmmnbgloaaGreatDoorTopBetterM04
import Derived.Test.YtkbhljmmnbgloaaGreatDoorTopBetterM05
import Derived.Test.YtkbhljmmnbgloaaGreatDoorTopBetterM06
import Derived.Test.YtkbhljmmnbgloaaGreatDoorTopBetterM07
import Derived.Ground.NamesProg
import Derived.Shelf.Strings.Split
import Derived.Shelf.Strings.OnBuilder
import Derived.Shelf.Strconv.Itoa3
import Derived.Lib.ItoaLen
import Derived.Laws.RangeString
import Derived.Laws.RangeAny
import Derived.Shelf.Small.Strs
set_option linter.all false
set_option maxRecDepth 10000
set_option maxHeartbeats 4000000
open Nat renaming reduceBEq->z,reduceAdd->F,reduceSub->H,reduceEqDiff->I,reduceLT->J,reduceLeDiff->N,zero_le->ae,le_refl->a8,lt_irrefl->bc,zero_add->bi,reduceMul->cq,mul_one->cB,le_trans->cM,sub_self->cN,succ_mul->cP
open List renaming length_map->S,getElem?_eq_some_iff->V,length_append->W,not_mem_nil->Y,length_cons->ai,length_nil->am,map_cons->aq,drop_length->av,getElem?_set_ne->aw,mem_cons->az,drop_zero->aD,mem_map->aE,getElem?_append_left->aL,contains_cons->aR,append_nil->a7,map_nil->bh,append_assoc->bk,getD_eq_getElem?_getD->bl,getElem?_eq_getElem->bo,map_append->bp,drop_eq_nil_of_le->bt,length_singleton->bv,all_eq_true->bw,map_take->bz,nil_append->bA,map_eq_nil_iff->bB,mem_singleton->bL,flatMap_cons->bN,length->bO,append_cancel_left->bR,take_length->bS,getElem?_set_self->b8,take_of_length_le->b9,length_set->cb,mem_cons_of_mem->cj,findSome?_cons->ck,all_cons->cp,findSome?_nil->cr,mem_cons_self->ct,zip_cons_cons->cv,size_toArray->cw,zip_nil_left->cz,flatMap_nil->cA,foldl_cons->cD,mem_append->cE,foldl_nil->cH,map->cI,all_nil->cL,drop->cQ,take->cR
open Int renaming toNat_natCast->U,lt_irrefl->ao,reduceLT->bE,reduceLE->b7,reduceToNat->ca,le_refl->cg,toNat_zero->cG
open Bool renaming and_eq_true->ap,false_eq_true->ax,or_eq_true->bj,false_and->br,or_eq_false_iff->cf,and_self->cl,false_or->cm,true_and->cn,decide_and->cC,and_true->cJ,or_false->cK
open Option renaming map_none->aM,map_some->bq,getD_none->bX,getD_some->b0
open Array renaming length_toList->be
open ByteArray renaming size_append->bu,data_extract->b5,size->cF
open Go.IntKind renaming wrap->cT
namespace Go.Tel
open Go.Am
def agJ (ex:Bool):Pure C 331 [.slice ex []] (.d (.tup [])) []:=by
 refine rD fun X w g l j i=> ?_
 cases i with|cons h1 t1=>
 cases t1;have b:∀a cap,Calls C.P 331 #[.slice a 0 cap] w fun e c=>∃v,e= .returned v/\Later w c/\bK c X v (.tup []):=by
  intro a cap;refine(Go.Proofs.Any.slices_Sort_int_none Go.Proofs.Tryz.laysSort a cap w).mono ?_;rintro e c ⟨rfl,rfl⟩;exact⟨_,rfl,Later.refl _, .tup .nil⟩
 cases h1 with
 |empty j=>exact b _ _
 |slice hb n f o m k h=>
  simp only[am]at f;subst f;exact b _ _
def QV (xs:List Int)(ex:Bool)(hl:xs.length<=1000000){bs:List (Option (List PV))}{fz:List Nat}{ar:List (Option Arr)}(a:FzB ⟨bs,fz,ar⟩){KP:DV->Mem->Prop}:
  SC C 330 [.d (Eb ex xs)] ⟨bs,fz,ar⟩ (fun p M'=>slN 1 true p (xs.map ay) M'.aC/\Frm ⟨bs,fz,ar⟩ M'/\(∀k,kOf p=some k->ar.length<=k)/\(xs=[]->p= .d (.slice true []))) KP:=by
 refine aB vU aI ?_;simp only[vU,aI,RN,z];refine SC.kU (SC.mono (aef xs ex hl a (KP:=fun _ _=>False)) ?_) (fun _ _ h=>h.elim);rintro p ⟨c,e,b⟩ h;(try simp only[]);exact h
def TT (xs:List Int):List Int:=xs.mergeSort fun x y=>decide (x<=y)
def agf:TT []=[]:=by simp[TT]
def ajB {xs:List Int}(h:xs≠[]):TT xs≠[]:=fun e=>h (by
 have:=congrArg bO e;simp only[TT,List.length_mergeSort,am]at this;exact List.eq_nil_of_length_eq_zero this)
def Qb {α:Type}{l:List α}(h:l≠[]):yE l=1:=by cases l with|nil=>exact absurd rfl h|cons _ _=>rfl
def ajC (xs:List Int)(ex:Bool)(hl:xs.length<=1000000)(hx:xs≠[]):Pure C 288 [Eb ex xs] (.tsl 0 0 0) [⟨1,(TT xs).map ay,0,1⟩]:=by
 refine Ic (aB kY aI ?_);simp only[kY,aI,RN,z];refine SC.kU (SC.mono (QV xs ex hl (bs:=[]) (fz:=[]) (ar:=[]) (by intro i hi;simp at hi) (KP:=fun _ _=>False)) ?_) (fun _ _ h=>h.elim);rintro p ⟨d,e,c⟩ ⟨h1,h2,f,g⟩;obtain⟨k,ver,st,rfl,b,_,a⟩:=uX h1 (by simpa using hx);have a:=a rfl;subst a;simp only at b;(try simp only[]);refine aj9 (zs:=xs) b hx (by omega) ?_;(try simp only[]);exact⟨k,ver,rfl,by simp only;rw[b8 (V.1 b).1];rfl⟩
def acL (ex:Bool):Pure C 288 [Eb ex []] (.d (.slice true [])) []:=by
 refine bM (aB kY aI ?_);simp only[kY,aI,RN,z];refine SC.kU (SC.mono (QV [] ex (by simp) (bs:=[]) (fz:=[]) (ar:=[]) (by intro i hi;simp at hi) (KP:=fun _ _=>False)) ?_) (fun _ _ h=>h.elim);rintro p ⟨b,c,a⟩ ⟨h1,h2,g,e⟩;have f:=e rfl;subst f;(try simp only[]);refine adP (agJ false) rfl (ds:=[.slice true []]) rfl rfl ?_;(try simp only[])
 rfl
def ajR (xs:List Int)(ex:Bool):Pure C 289 [.slice ex (xs.map ay)] (.d (Eb ex xs)) []:=by
 refine ah xQ aI ?_;simp only[xQ,aI,RN,z]
 rfl
section
variable (f1 f2 e1 e2:Bool){D:Dk}{t:Sp}(ns:List Int)
def ajU (e:Gn D.su 24 t):Ans 235 [yH f1 f2 e1 e2 D t,sF (ns.map ay)] (TT t.fA) 0:=by
 have d:=e.st;have c:=ajR t.fA false
 by_cases a:t.fA=[]
 ·have b:=acL false
  rw[a]at c⊢;refine Bo agf (ah iH bn ?_);simp only[iH,bn,iQ,cu,a,RN,z,F,N];refine ak c ?_;(try simp only[RN,z,F,H,I,J,N]);refine mF rfl rfl b (by simp) ?_;simp only[PV.shift,jw,RN]
 ·have b:=ajC t.fA false (by omega) a
  refine gW (aB iH bn ?_);simp only[iH,bn,iQ,cu,RN,z,F,N];refine ak c ?_;(try simp only[RN,z,F,H,I,J,N]);refine mF rfl rfl b (by simp) ?_;simp only[PV.shift,jw,bD,dV,RN];exact⟨_,rfl,0,0,rfl,by rw[Qb (ajB a)];rfl⟩
def Ny {D:Dk}(hl:D.es.length=D.st.length)(ab:D.es.length<=1000)(hf:∀x∈D.es,xu x.kind<=x.ns.length):
  QF C 280 [.d (.aP (J8 e1 e2 D))] [] (dF D 0) no no no (fun _=>True):=by
 rintro⟨bs,fz,ar⟩ b n R stop K KP ac an hn y ap Q fV h0 u w;simp only at hn y;refine aB iT dX ?_;simp only[iT,dX,J8,S,RN,z,F,N];refine D5 (fun m s=>∃(i:Nat) (f:List (List DV)) (E:Mem),m=D.es.length - i/\i<=D.es.length/\s=⟨[(0, .d (.aP (J8 e1 e2 D))),(1, .mV b),(9, .d (.slice e1 (D.es.map En.dv))),(10,pI D.es.length),(11,pI i)],E⟩/\n<=E.boxes.length/\FzB E/\dF D 0=f++dF D i/\R f E)
  D.es.length ⟨0,[],_,rfl,ae _,rfl,hn,y,rfl,h0⟩ ?_
 rintro m s ⟨i,f,⟨g,q,v⟩,rfl,hi,rfl,h,l,c,Z⟩;simp only at h;have T:g.length∉q:=fun e=>bc _ (l _ e)
 by_cases t:i<D.es.length
 case neg=>
  have O:i=D.es.length:=by omega
  subst O;simp only[ao,RN,z];refine w _ _ h ?_;rw[c];have:dF D D.es.length=[]:=by simp[dF,mQ]
  rw[this,a7];exact Z
 have B:(i:Int)<(D.es.length:Int):=by omega
 have o:i<D.st.length:=by omega
 have j0:(0:Int)<=(i:Int):=by omega
 have w1:cT .i64 ((i:Int)+1)=((i+1:Nat):Int):=by rw[aF (by omega)];omega
 have a:=Iq hl t;obtain⟨x,X⟩:∃x,x=D.es.getD i default:=⟨_,rfl⟩
 have Y:x∈D.es:=by rw[X];exact getD_mem t
 have YZ:=QY x (hf x Y);rw[<-X]at a;rw[Fv]at YZ;have r:R f ⟨g++ [some [pI x.kind, .d (sF (x.ns.map ay))]],g.length::q,v⟩:=
  Q f _ _ (Moved.ext (xf:=[g.length]) (xb:=[_]) h (by simpa using h)) Z
 have WJ:FzB ⟨g++ [some [pI x.kind, .d (sF (x.ns.map ay))]],g.length::q,v⟩:=by
  intro j hj;simp only[az]at hj;simp only[W,ai,am]
  rcases hj with rfl|hj
  ·omega
  ·have:=l j hj;simp only at this;omega
 simp only[B,t,j0,U,S,getD_map,<-X,Fv,T,aX,bJ,W,RN,z,F,N]
 by_cases L:x.kind=6
 ·have G:(x.kind !=6)=false:=by simp[L]
  rw[if_neg (by simp[L])]at a;simp only[G,w1,RN,z];refine⟨D.es.length - (i+1),_,by omega, .inl rfl,i+1,f,_,rfl,by omega,rfl,by simp;omega,WJ,by rw[c,a],r⟩
 have G:(x.kind !=6)=true:=by simp[L]
 cases k:D.st.getD i default
 case true=>
  rw[if_neg (fun e=>by rw[k]at e;cases e.2)]at a;simp only[J8,G,o,j0,U,S,getD_map,jm,k,w1,RN,z,F,N];refine⟨D.es.length - (i+1),_,by omega, .inl rfl,i+1,f,_,rfl,by omega,rfl,by simp;omega,WJ,by rw[c,a],r⟩
 rw[if_pos ⟨L,k⟩]at a;simp only[J8,G,o,j0,U,S,getD_map,jm,k,RN,z,F,N];refine ak YZ ?_;(try simp only[RN,z,F,H,I,J,N]);refine um ?_;refine SY.mono (fV f (oZ (i,x.deed)) (dF D (i+1)) _ (by rw[c,a]) (by simp;omega) r) ?_;rintro p M3 ⟨A,hp⟩
 rcases hp with⟨rfl,M⟩|⟨rfl,V⟩
 ·simp only[w1,RN,z]
  have P:=A.len;simp only[W,ai,am]at P;refine⟨D.es.length - (i+1),_,by omega, .inl rfl,i+1,_,M3,rfl,by omega,rfl,by omega,A.fzb WJ,by rw[c,a,bk];rfl,M⟩
 ·(try simp only[RN,z])
  exact u _ _ V
def acN (b:D.Ok):Ans 245 [yH f1 f2 e1 e2 D t,sF (ns.map ay)] (D.stands.map fun p=>(p.1:Int)) 0:=by
 have V:D.stands.length<=24:=cM (CG _ _ _) b.few
 by_cases u:D.stands=[]
 ·refine Bo (by rw[u];rfl) (bM (aB gI bn ?_))
  simp only[gI,bn,iQ,RN,z,F,N];refine oI (Ny e1 e2 b.len (by have:=b.few;omega) (fun x a=>BD (b.formed x a))) (fun _ h=>h) rfl (by kernel_rfl) (fun i hi=>by simp at hi;simp[hi]) (fun x a=>by simp only[dF,aE]at a;obtain⟨p,_,rfl⟩:=a;rfl) (fun _ h=>h.elim) (fun _ _=>trivial)
   (fun f o=>o.boxes[1]?=some (some [.d (.slice true [])])) ?_ rfl ?_ ?_
  ·intro f o P C h
   exact(C.box 1 (by simp) id).trans h
  ·intro L cells f x post o a
   rw[dF,aD,aD,<-Dk.stands,u]at a;simp at a
  ·rintro⟨m,A,w⟩ h n
   simp only at h;simp only[h,RN,z,N]
   rfl
 ·refine gW (aB gI bn ?_)
  simp only[gI,bn,iQ,RN,z,F,N];refine oI (Ny e1 e2 b.len (by have:=b.few;omega) (fun x a=>BD (b.formed x a))) (fun _ h=>h) rfl (by kernel_rfl) (fun i hi=>by simp at hi;simp[hi]) (fun x a=>by simp only[dF,aE]at a;obtain⟨p,_,rfl⟩:=a;rfl) (fun _ h=>h.elim) (fun _ _=>trivial)
   (fun f o=>∃l r c,D.stands=l++r/\f=l.map oZ/\o.boxes[1]?=some (some [c])/\1∉o.fz/\slN 1 true c (l.map fun p=>dI (p.1:Int)) o.aC) ?_ ⟨[],D.stands,_,rfl,rfl,rfl,by simp, .inl ⟨rfl,rfl⟩⟩ ?_ ?_
  ·rintro f o P C ⟨l,r,c,g,v,s,G,H⟩
   exact⟨l,r,c,g,v,(C.box 1 (by simp) id).trans s,fun e=>G ((C.fz 1 (by simp) id).1 e),by rw[C.aC];exact H⟩
  ·rintro L cells f x post ⟨m,A,w⟩ a n q E ⟨l,r,c,g,v,s,G,H⟩ W
   simp only[ai,am]at n q E s G⊢;obtain⟨p,I,rfl⟩:∃p I,r=p::I:=by
    cases r with
    |nil=>
     rw[dF,aD,aD,<-Dk.stands,g,v]at a;have:=congrArg bO a;simp at this
    |cons p I=>exact⟨p,I,rfl⟩
   have J:x=oZ p:=by
    rw[dF,aD,aD,<-Dk.stands,g,v,bp,aq]at a;exact(List.cons.inj (bR a)).1.symm
   subst J;have B:1<m.length:=by omega
   have M:l.length<=24:=by have:=congrArg bO g;simp at this;omega
   simp only[oZ,cv,cz,aq,bh,s,gB,DV.strip,RN,z,F,N];refine wY H (by decide) (by intro y O;simp only[bL]at O;subst O;rfl) (by simp) (by simp;omega) fun k ver st T X Q Y R Z S=> ?_
   have j:=S rfl;subst j;simp only[s,G,dJ,dO,kE,RN,F,N];exact⟨by rw[aw (by omega)];exact q,E,Kept.Ik (by omega) id R (fun _ h=>h.elim),l++ [p],I, .tsl k ver 0,by rw[g];simp,by rw[v];simp[oZ],by simp[B], .inr ⟨k,ver,1,rfl,by rw[Q];simp,by decide,fun _=> .inl rfl⟩⟩
  ·rintro⟨m,A,w⟩ ⟨l,r,c,g,v,s,G,H⟩ n
   simp only[ai,am]at n s;have U:r=[]:=by
    have:=congrArg bO v;rw[dF,aD,aD,<-Dk.stands,g]at this;simp at this;exact this
   subst U;rw[a7]at g;have aph:l≠[]:=by rw[<-g];exact u
   obtain⟨k,ver,st,rfl,K,_,j⟩:=uX H (by simpa using aph);have j:=j rfl;subst j;simp only at K;have B:1<m.length:=by omega
   simp only[s,bD,dV,RN,z,N];refine⟨_,rfl,k,ver,rfl,?_⟩;rw[Qb (by rw[g];simpa using aph)];simp only[K,g,List.map_map]
   rfl
end
end Go.Tel
namespace Go.Am
section
variable {C:Ctx}
def VR (C:Ctx)(M:Mem)(args qs:List PV)(ds:List DV):Prop:=∀X w E a,Sim C X w M E->aQ w (away X M E) M E a args->aV w (away X (M.frz qs) E) a ds
variable{M:Mem}
def aaH {a b:PV}{e f y:DV}(h:bV M [a,b, .d y]=some [e,f,y]):VR C M [.agg [a,b], .d y] [a,b, .d y] [.agg [e,f],y]:=by
 intro X w E g m k;cases k with|cons h1 t1=>
 cases t1 with|cons h2 t2=>
 cases t2;cases h1 with|agg hh=>
 rename_i z
 generalize c:z.toList=l at hh;cases hh with|cons i s=>
 cases s with|cons j t=>
 cases t;have hd:=rQ (ps:=[a,b, .d y]) m (.cons i (.cons j (.cons h2 .nil))) h (fun q n=>n);cases hd with|cons o u=>
 cases u with|cons p v=>
 cases v with|cons r x=>
 cases x;exact .cons (.agg (by rw[c];exact .cons o (.cons p .nil))) (.cons r .nil)
def af7 {f:FuncId}{args qs:List PV}{ds ds':List DV}{r:PV}{j:List Arr}(h:Pure C f ds' r j)(t:Rw r=true)(d:j.all jP=true){K:PV->Mem->Prop}{KP:DV->Mem->Prop}
  (l:VR C M args qs ds)(m:ds.map DV.strip=ds')(q:K (r.shift M.aC.length) {M with aC:=M.aC++j.map some}):SC C f args M K KP:=by
 subst m;intro X w E a c p;have k:=mP c qs;have hd:=(l X w E a c p).strip;refine(h (away X (M.frz qs) E) w a c.glob (fun b hb=> .inl (c.iF b hb)) (fun b hb=>k.wQ hb) hd).mono fun e D m=> ?_
 obtain⟨v,B,rfl,g,o,u⟩:=m;have n:∀A∈j,A.st≠2:=fun A s e=>by
  have i:=bw.1 d A s;simp only[jP,ap]at i
  rcases Bool.or_eq_true_iff.1 i.1 with h|h
  ·rw[e]at h;simp at h
  ·rw[e]at h;simp at h
 obtain⟨x,y,z⟩:=Io c (D7 c g o d) o n;exact⟨_,_,_,q,x,y,Oz c.bC (fun b hb=>(z b).1 hb) (Ox g d t u)⟩
end
end Go.Am
namespace Go.Tel
open Go.Am
variable{f:FuncId}{args qs:List PV}{M:Mem}{ds ds':List DV}{K:PV->Mem->Prop}{KP:DV->Mem->Prop}
def ama {n:Int}(h:Pure C f ds' (.d (Ac n)) [])(j:VR C M args qs ds)(k:ds.map DV.strip=ds')(o:K (.d (Ac n)) M):SC C f args M K KP:=by
 subst k;intro X w E a c m;have i:=mP c qs;have hd:=(j X w E a c m).strip;refine(h (away X (M.frz qs) E) w a c.glob (fun b hb=> .inl (c.iF b hb)) (fun b hb=>i.wQ hb) hd).mono fun e u k=> ?_
 obtain⟨v,s,rfl,g,l,p⟩:=k;obtain⟨q,r,t⟩:=Io c (D7 c g l rfl) l (by simp);exact⟨_,_,_,(by simpa using o),q,r, .d (adC p.toD)⟩
def am1 {l:List Int}{e:Int}(h:Ans f ds' l e)(a:VR C M args qs ds)(i:ds.map DV.strip=ds')
  (g:∀p c xa,(p= .tup [c,pI e]\/(p= .d (.tup [.slice true [],dI e])/\c= .d (.slice true [])))->slN 1 true c (l.map ay) (M.aC++xa)->(∀k,kOf c=some k->M.aC.length<=k)->K p ⟨M.boxes,M.fz,M.aC++xa⟩):SC C f args M K KP:=by
 rcases h with h|⟨rfl,h⟩
 ·refine af7 h rfl ?_ a i ?_
  ·simp only[cp,cL,cJ];exact LD l
  ·refine g _ (.tsl M.aC.length 0 0) [some ⟨1,l.map ay,0,yE l⟩] (.inl ?_) (.inr ⟨_,0,yE l,rfl,by simp,I8,fun _=> ?_⟩) (fun k b=>by cases b;exact a8 _)
   ·simp[PV.shift,jw,TR]
   ·cases l with
    |nil=>exact .inr rfl
    |cons x l=>exact .inl rfl
 ·refine ama h a i ?_
  have:=g (.d (Ac e)) (.d (.slice true [])) [] (.inr ⟨rfl,rfl⟩) (.inl ⟨rfl,rfl⟩) (fun k b=>by cases b)
  simpa using this
structure Qn where
 kind:Int
 ns:List Int
 deriving DecidableEq,Inhabited
def Qn.dv (x:Qn):DV:= .agg [dI x.kind,sF (x.ns.map ay)]
def amw {x:Qn}:x.dv= .agg [dI x.kind,sF (x.ns.map ay)]:=by rw[Qn.dv]
def Qn.n (x:Qn)(i:Nat):Int:=x.ns.getD i default
def amL:List (ByteArray×Nat):=[(⟨#[104,97,110,100,115]⟩,0),(⟨#[115,116,111,99,107]⟩,0),(⟨#[111,112,101,110]⟩,0),(⟨#[112,114,105,99,101]⟩,1),(⟨#[110,101,101,100]⟩,3),(⟨#[111,102,102]⟩,2),(⟨#[119,114,111,110,103]⟩,0),(⟨#[119,111,114,107,115]⟩,1),(⟨#[100,97,116,101]⟩,1),(⟨#[99,117,116,115]⟩,1),(⟨#[99,111,105,110,115]⟩,0),(⟨#[115,116,97,110,100,115]⟩,0)]
def fwQ (k:Int):ByteArray:=(amL.getD (k - 1).toNat default).1
def Vf (k:Int):Nat:=(amL.getD (k - 1).toNat default).2
variable{k:Int}
def Wi (h:1<=k/\k<=12):k=1\/k=2\/k=3\/k=4\/k=5\/k=6\/k=7\/k=8\/k=9\/k=10\/k=11\/k=12:=by omega
def aoU (h:1<=k/\k<=12):VX (gV (cR 2 (cQ ((k - 1).toNat*2) (cI PV.d (Un amL))))) (cR 2 (cQ ((k - 1).toNat*2) (cI PV.d (Un amL))))= .d (.agg [.str (fwQ k),dI (Vf k)])/\(k - 1).toNat*2+2<=(cI PV.d (Un amL)).length/\cT .i64 (k - 1)=k - 1:=by
 rcases Wi h with rfl|rfl|rfl|rfl|rfl|rfl|rfl|rfl|rfl|rfl|rfl|rfl<;>exact⟨rfl,by decide,by decide⟩
def adh:Un amL=[.str ⟨#[104,97,110,100,115]⟩,dI 0, .str ⟨#[115,116,111,99,107]⟩,dI 0, .str ⟨#[111,112,101,110]⟩,dI 0, .str ⟨#[112,114,105,99,101]⟩,dI 1, .str ⟨#[110,101,101,100]⟩,dI 3, .str ⟨#[111,102,102]⟩,dI 2, .str ⟨#[119,114,111,110,103]⟩,dI 0, .str ⟨#[119,111,114,107,115]⟩,dI 1, .str ⟨#[100,97,116,101]⟩,dI 1, .str ⟨#[99,117,116,115]⟩,dI 1, .str ⟨#[99,111,105,110,115]⟩,dI 0, .str ⟨#[115,116,97,110,100,115]⟩,dI 0]:=rfl
def agU:Pure C 232 [] (.d (.agg (Un amL))) []:=by
 refine ah Aq ajg ?_;simp only[Aq,ajg,adh,IJ,RN,z,F,N]
def am3 (k:Int):FuncId:=([234,235,236,237,238,239,240,241,242,243,244,245]:List FuncId).getD (k - 1).toNat default
def Dk.answer (D:Dk)(t:Sp)(q:Qn):List Int×Int:=
 if q.kind=1 then(ahT t.pc,0)else if q.kind=2 then(TT t.fA,0)else if q.kind=3 then(qK t.op t.pc.hands.length,0)
 else if q.kind=4 then(if inR (q.n 0) 0 (D.su.pc.hands.length - 1)then[KC D.su t (q.n 0).toNat]else[],if inR (q.n 0) 0 (D.su.pc.hands.length - 1)then 0 else 2)
 else if q.kind=5 then vF D t (q.n 0) (q.n 1) (q.n 2)
 else if q.kind=6 then(if inR (q.n 0) 0 (D.su.pc.hands.length - 1)&&inR (q.n 1) 1 D.su.days.length then[(wM t.pc (q.n 0) (t.tg.getD (q.n 0).toNat default) (t.turns (q.n 1))).1]else[],
  if inR (q.n 0) 0 (D.su.pc.hands.length - 1)&&inR (q.n 1) 1 D.su.days.length then(wM t.pc (q.n 0) (t.tg.getD (q.n 0).toNat default) (t.turns (q.n 1))).2 else 2)
 else if q.kind=7 then([wO D.su t D.su.days.length],0)
 else if q.kind=8 then(if inR (q.n 0) 1 D.su.days.length then(match wz D.Fh ((D.su.days.length:Int)+1 - q.n 0).toNat (q.n 0)with|some d=>[d]|none=>[])else[],
  if inR (q.n 0) 1 D.su.days.length then(match wz D.Fh ((D.su.days.length:Int)+1 - q.n 0).toNat (q.n 0)with|some _=>0|none=>5)else 2)
 else if q.kind=9 then(if inR (q.n 0) 1 D.su.days.length then[(QX D.su.cal D.su.year.toNat (D.su.first+(q.n 0 - 1))).m,(QX D.su.cal D.su.year.toNat (D.su.first+(q.n 0 - 1))).d]else[],if inR (q.n 0) 1 D.su.days.length then 0 else 2)
 else if q.kind=10 then([(D.su.dvd.cuts (q.n 0)).1.circle,(D.su.dvd.cuts (q.n 0)).1.turns,(D.su.dvd.cuts (q.n 0)).1.holes],(D.su.dvd.cuts (q.n 0)).2)
 else if q.kind=11 then([t.lF],0)
 else(D.stands.map fun p=>(p.1:Int),0)
def agS (f1 f2 e1 e2:Bool){D:Dk}{t:Sp}(a:D.Ok)(c:Gn D.su 24 t)(q:Qn)(hk:1<=q.kind/\q.kind<=12)(b:q.ns.length=Vf q.kind):
  Ans (am3 q.kind) [yH f1 f2 e1 e2 D t,sF (q.ns.map ay)] (D.answer t q).1 (D.answer t q).2:=by
 obtain⟨k,ns⟩:=q;simp only at hk b⊢
 rcases Wi hk with rfl|rfl|rfl|rfl|rfl|rfl|rfl|rfl|rfl|rfl|rfl|rfl
 ·exact ak3 _ _ _ _ _ c
 ·exact ajU _ _ _ _ _ c
 ·exact aiL _ _ _ _ _ c
 ·exact anb _ _ _ _ _ a c b
 ·exact aoq _ _ _ _ _ a c b
 ·exact apQ _ _ _ _ _ a c b
 ·exact amr _ _ _ _ _ a c
 ·exact amn _ _ _ _ _ a b
 ·exact anf _ _ _ _ _ a b
 ·exact anc _ _ _ _ _ a b
 ·exact aow _ _ _ _ _
 ·exact acN _ _ _ _ _ a
def Dk.ask (D:Dk)(q:Qn):List Int×Int:=
 if inR q.kind 1 12=false then([],2)else if q.ns.length≠Vf q.kind then([],2)else
  match D.state (-1)with
  |none=>([],7)
  |some t=>if(D.answer t q).2=0 then D.answer t q else([],(D.answer t q).2)
def gy.same {s:Su}{a b mb:Nat}{cst cse:PV}{t:Sp}{M':Mem}(h:gy s a b mb cst cse t M)(hb:M'.boxes[b]?=M.boxes[b]?)(f:M'.boxes[mb]?=M.boxes[mb]?)(ha:M'.aC=M.aC)(c:b∉M'.fz)(d:mb∉M'.fz)(e:FzB M'):gy s a b mb cst cse t M':=
 {box:=hb.trans h.box
  map:=f.trans h.map
  r0:=by rw[ha];exact h.r0
  r1:=by rw[ha];exact h.r1
  r2:=by rw[ha];exact h.r2
  r3:=by rw[ha];exact h.r3
  r4:=by rw[ha];exact h.r4
  r5:=by rw[ha];exact h.r5
  stk:=by rw[ha];exact h.stk
  set:=by rw[ha];exact h.set
  kst:=h.kst,kse:=h.kse,dif:=h.dif,nb:=c,nm:=d,bm:=h.bm,fzb:=e}
def Frm.aoB {a:List (Option (List PV))}{b:List Nat}{ar':List (Option Arr)}{y:Option (List PV)}{i:Nat}(h:Frm M ⟨a,b,ar'⟩)(hi:M.boxes.length<=i):Frm M ⟨a.set i y,b,ar'⟩:=
 {len:=by have:=h.len;simp only[cb]at this⊢;omega
  bC:=h.bC
  box:=fun j c=>by
   have h2:=h.box j c;simp only at h2⊢;rw[aw (by omega)];exact h2
  fz:=h.fz
  row:=h.row
  fzb:=fun e j c=>by have:=h.fzb e j c;simp only[cb]at this⊢;exact this}
variable{D:Dk}{d:Nat}
def akg {ce cs:PV}(h:vX D d ce cs M)(m:D.Ok){pb ab:Nat}(n:M.boxes[pb]?=some (some [.ptr d 0]))(ha:M.boxes[ab]?=some (some [.d .nilPtr, .ptr d 0]))(j:ab∉M.fz):
  SC C 233 [.ptr pb 0, .ptr ab 0] M
   (fun _ M'=>∃t b mb a cst cse c f g,D.state (-1)=some t/\gy D.su a b mb cst cse t ⟨c,f,g⟩/\Frm M ⟨c,f,g⟩/\M.boxes.length<=b/\M.boxes.length<=mb/\M'=⟨c.set ab (some [.ptr b 0, .ptr d 0]),f,g⟩)
   (fun o M'=>D.state (-1)=none/\JY o/\Frm M M'):=by
 have u:=h;obtain⟨bs,fz,ar⟩:=M;simp only at n ha j;have w:pb<bs.length:=(V.1 n).1;have k:ab<bs.length:=(V.1 ha).1;refine aB qM dX ?_;simp only[qM,dX,n,RN,z,F,N];refine SC.mono (NU u m (-1)) ?_;rintro v ⟨c,f,g⟩ ⟨t,b,mb,a,cst,cse,rfl,p,q,l,r,s,x⟩;have i:c[ab]?=some (some [.d .nilPtr, .ptr d 0]):=(l.box ab k).trans ha;have aqe:ab<c.length:=(V.1 i).1;have aqd:ab∉f:=fun e=>j ((l.fz ab k).1 e)
 simp only[i,aqd,C9,Qx,RN,F,N];exact⟨t,b,mb,a,cst,cse,c,f,g,p,q,l,r,s,rfl⟩
def am4 (h:1<=k/\k<=12):(cI PV.d [DV.func (.func 234) [] [], .func (.func 235) [] [], .func (.func 236) [] [], .func (.func 237) [] [], .func (.func 238) [] [], .func (.func 239) [] [], .func (.func 240) [] [], .func (.func 241) [] [], .func (.func 242) [] [], .func (.func 243) [] [], .func (.func 244) [] [], .func (.func 245) [] []]).getD (k - 1).toNat .dead= .d (.func (.func (am3 k)) [] [])/\callable C.P (am3 k)=true:=by
 rcases Wi h with rfl|rfl|rfl|rfl|rfl|rfl|rfl|rfl|rfl|rfl|rfl|rfl<;>exact⟨rfl,by kernel_rfl⟩
def amU {ce cs:PV}(h:vX D d ce cs M)(T:D.Ok)(q:Qn){KP:DV->Mem->Prop}:
  SC C 157 [.ptr d 0, .d q.dv] M (fun p M'=>∃c,(p= .tup [c,pI ((D.ask q).2)]\/(p= .d (.tup [.slice true [],dI (D.ask q).2])/\c= .d (.slice true [])))/\slN 1 true c ((D.ask q).1.map ay) M'.aC/\(∀k,kOf c=some k->M.aC.length<=k)/\Frm M M') KP:=by
 obtain⟨bs,fz,ar⟩:=M;have u:=h.box;rw[jC]at u;simp only at u;have bv:d<bs.length:=(V.1 u).1;have Dp:∀i∈fz,i<bs.length:=h.fzb
 have bw:bs.length∉fz:=fun e=>bc _ (Dp _ e)
 have an:∀k,bs.length+k∉fz:=fun k e=>by have:=Dp _ e;omega
 have bq:¬d=bs.length:=by omega
 have br:∀k,¬d=bs.length+k:=fun k=>by omega
 have bt:∀k,d<bs.length+k:=fun k=>by omega
 have bz:¬bs.length+1=bs.length:=by omega
 have bA:¬bs.length+2=bs.length:=by omega
 have bj:¬bs.length+2=bs.length+1:=by omega
 have K:Frm ⟨bs,fz,ar⟩ ⟨bs++ [some [.ptr d 0],some [pI q.kind, .d (sF (q.ns.map ay))]],(bs.length+1)::fz,ar⟩:=Frm.new (xf:=[bs.length+1]) (by simp);obtain⟨e1,e2,a5⟩:=Lm (h.frm K);refine aB uz bn ?_;simp only[uz,bn,amw,iR,aX,mO,bJ,W,C9,RX,RN,z,F,N];refine kR (zH a5) rfl (Y7 e1 e2 D) rfl ?_;(try simp only[RN,z,F,N]);refine ak (BI _ _ _) ?_;cases g:inR q.kind 1 12
 ·(try simp only[RN,z])
  have he:D.ask q=([],2):=by simp[Dk.ask,g]
  rw[he];exact⟨_, .inr ⟨rfl,rfl⟩, .inl ⟨rfl,rfl⟩,(fun k g=>by cases g),K⟩
 have P:1<=q.kind/\q.kind<=12:=by simpa[inR]using g
 simp only[S,RN,z,F,N];refine ak agU ?_;obtain⟨a1,a2,a3⟩:=aoU P;simp only[a3,a1,RN,F,N];refine⟨by omega,by omega,a2,?_⟩
 by_cases hn:q.ns.length=Vf q.kind
 case neg=>
  have hb:((q.ns.length:Int) !=(Vf q.kind:Int))=true:=by simp;omega
  simp only[hb,RN,z];have he:D.ask q=([],2):=by simp[Dk.ask,g,hn]
  rw[he];exact⟨_, .inr ⟨rfl,rfl⟩, .inl ⟨rfl,rfl⟩,(fun k g=>by cases g),K⟩
 have hb:((q.ns.length:Int) !=(Vf q.kind:Int))=false:=by simp[hn]
 simp only[hb,iR,aX,mO,bk,W,an,bj,Qx,afb,kQ,aM,dD,gQ,RN,z,F,N];refine⟨rfl,?_⟩;obtain⟨B,U⟩:∃B,B=bs++ [some [.ptr d 0],some [pI q.kind, .d (sF (q.ns.map ay))],some [.d .nilPtr, .ptr d 0]]:=⟨_,rfl⟩
 obtain⟨Z,hZ⟩:∃Z,Z=(bs.length+1)::fz:=⟨_,rfl⟩
 have bp:B.length=bs.length+3:=by rw[U];simp
 have aD:B[bs.length]?=some (some [.ptr d 0]):=by rw[U,aX rfl];rfl
 have ax:B[bs.length+2]?=some (some [.d .nilPtr, .ptr d 0]):=by rw[U,iR rfl];rfl
 have x:Frm ⟨bs,fz,ar⟩ ⟨B,Z,ar⟩:=by rw[U,hZ];exact Frm.new (xf:=[bs.length+1]) (by simp)
 have aR:bs.length+2∉Z:=by
  rw[hZ];intro e
  rcases az.1 e with e|e
  ·omega
  ·exact an _ e
 simp only[<-U,<-hZ];have aE:Frm ⟨B,Z,ar⟩ ⟨B++ [some [pI 0]],Z,ar⟩:=Frm.new (xf:=[]) (by simp);have abG:=x.trans aE;have z0:((0:Int) !=0)=false:=rfl;have z7:((7:Int) !=0)=true:=rfl;refine Qw (fs:=[]) (cs:=[.ptr bs.length 0, .ptr (bs.length+2) 0]) (x.fzb h.fzb) (by kernel_rfl) ?_;refine SC.kU (SC.mono (akg (h.frm abG) T (pb:=bs.length) (ab:=bs.length+2) ?_ ?_ aR) ?_) ?_
 ·simp only;rw[aL (by omega)];exact aD
 ·simp only;rw[aL (by omega)];exact ax
 ·rintro v M' ⟨t,b,mb,a,av,ap,o,f,j,g1,J,w,g4,g5,rfl⟩
  simp only[W,ai,am]at g4 g5;have A:=abG.trans w;have a9:=w.len;simp only[W,ai,am]at a9;have L:o[B.length]?=some (some [pI 0]):=by
   have:=w.box B.length (by simp);simp only at this;rw[this,aX rfl];rfl
  have O:B.length∉f:=fun e=>by
   have:=(w.fz B.length (by simp)).1 e;simp only at this;have h5:=x.fzb h.fzb _ this;simp only at h5;omega
  obtain⟨n,m⟩:∃n,n=o.set (bs.length+2) (some [.ptr b 0, .ptr d 0]):=⟨_,rfl⟩
  have aqW:n.length=o.length:=by rw[m];simp
  have ap9:n[bs.length+2]?=some (some [.ptr b 0, .ptr d 0]):=by rw[m,b8 (by omega)]
  have aqa:n[B.length]?=some (some [pI 0]):=by rw[m,aw (by omega)];exact L
  have E:Frm ⟨bs,fz,ar⟩ ⟨n,f,j⟩:=by rw[m];exact A.aoB (by simp only;omega)
  have ae:FzB ⟨n,f,j⟩:=E.fzb h.fzb;have R:n.length∉f:=fun e=>bc _ (ae _ e)
  rw[<-m];refine⟨aqa,O,?_⟩;have a0:bs.length+2<n.length:=by omega
  have jk:0<=q.kind - 1:=by omega
  have bB:q.kind - 1<12:=by omega
  have bE:(q.kind - 1).toNat+1<=12:=by omega
  obtain⟨ac,a6⟩:=am4 P;simp only[aq,bh]at ac;simp only[z0,IJ,dG,aX,bJ,R,ap9,a0,W,a3,bi,cB,RN,z,F,N];refine⟨rfl,by omega,by omega,by omega,by omega,by omega,?_⟩;rw[ac];simp only[kQ,dD,fK,RN];refine⟨a6,?_⟩;obtain⟨X,hX⟩:∃X,X=[some [PV.d (DV.func (Fn.func 234) [] []),PV.d (DV.func (Fn.func 235) [] []),PV.d (DV.func (Fn.func 236) [] []),PV.d (DV.func (Fn.func 237) [] []),PV.d (DV.func (Fn.func 238) [] []),PV.d (DV.func (Fn.func 239) [] []),PV.d (DV.func (Fn.func 240) [] []),PV.d (DV.func (Fn.func 241) [] []),PV.d (DV.func (Fn.func 242) [] []),PV.d (DV.func (Fn.func 243) [] []),PV.d (DV.func (Fn.func 244) [] []),PV.d (DV.func (Fn.func 245) [] [])]]:=⟨_,rfl⟩
  simp only[<-hX];have G:Frm ⟨bs,fz,ar⟩ ⟨n++X,f,j⟩:=E.trans (Frm.new (xf:=[]) (by simp));have bu:b<o.length/\mb<o.length:=⟨(V.1 J.box).1,(V.1 J.map).1⟩
  have bl:gy D.su a b mb av ap t ⟨n++X,f,j⟩:=J.same (by
    simp only;rw[aL (by omega),m,aw (by omega)]) (by
    simp only;rw[aL (by omega),m,aw (by omega)]) rfl J.nb J.nm (G.fzb h.fzb)
  obtain⟨f1,f2,bo⟩:=aaj bl;obtain⟨d1,d2,a4⟩:=Lm (h.frm G);have a7:=T.aam g1;have hA:=agS f1 f2 d1 d2 T a7 q P hn;have hL:bV ⟨n++X,f,j⟩ [.ptr b 0, .ptr d 0, .d (sF (q.ns.map ay))]=some [.aP (t.cells f1 f2 D.su),vw d1 d2 D,sF (q.ns.map ay)]:=by
   simp only[bV,bo,a4];rfl
  have Y:D.ask q=if(D.answer t q).2=0 then D.answer t q else([],(D.answer t q).2):=by
   simp only[Dk.ask,g,hn,g1];simp
  rw[Y];generalize D.answer t q=r at*;obtain⟨l,e⟩:=r;simp only at hA⊢;refine am1 (ds:=[yH f1 f2 d1 d2 D t,sF (q.ns.map ay)]) hA (aaH hL) rfl fun p c xa hp hs a8=> ?_
  have s:Frm ⟨bs,fz,ar⟩ ⟨n++X,f,j++xa⟩:=G.trans (by have:=Frm.ext (bs:=n++X) (xb:=[]) (fz:=f) (xf:=[]) (ar:=j) (xa:=xa) (by simp);simpa using this);have Q:∀k,kOf c=some k->ar.length<=k:=fun k g=>cM G.bC (a8 k g)
  by_cases hr:e=0
  ·subst hr
   simp only[if_true]
   rcases hp with rfl|⟨rfl,rfl⟩
   ·rcases hs with⟨rfl,hl⟩|⟨k,ver,st,rfl,hl⟩
    ·simp only[zK,zL,z0,RN,z]
     exact⟨_, .inr rfl, .inl ⟨rfl,hl⟩,Q,s⟩
    ·simp only[zK,zL,z0,bD,dV,RN,z]
     exact⟨_, .inl rfl, .inr ⟨k,ver,st,rfl,hl⟩,Q,s⟩
   ·simp only[z0,RN,z]
    exact⟨_, .inr rfl,hs,Q,s⟩
  ·have hz:(e !=0)=true:=by simp[hr]
   rw[if_neg hr]
   rcases hp with rfl|⟨rfl,rfl⟩
   ·simp only[zK,zL,hz,RN,z]
    exact⟨_, .inr rfl, .inl ⟨rfl,rfl⟩,(fun k g=>by cases g),s⟩
   ·simp only[hz,RN,z]
    exact⟨_, .inr rfl, .inl ⟨rfl,rfl⟩,(fun k g=>by cases g),s⟩
 ·rintro dd ⟨H,I,ao⟩ ⟨g1,J,w⟩
  have A:=abG.trans w;have be:=w.len;simp only[W,ai,am]at be;have L:H[B.length]?=some (some [pI 0]):=by
   have:=w.box B.length (by simp);simp only at this;rw[this,aX rfl];rfl
  have O:B.length∉I:=fun e=>by
   have:=(w.fz B.length (by simp)).1 e;simp only at this;have h5:=x.fzb h.fzb _ this;simp only at h5;omega
  have ahZ:=A.fzb h.fzb;have R:H.length∉I:=fun e=>bc _ (ahZ _ e)
  have he:D.ask q=([],7):=by simp[Dk.ask,g,hn,g1]
  refine⟨L,O,R, .inl ⟨J,fun y=> ?_⟩⟩;rw[he];simp only[z7,RN,z];have E:Frm ⟨bs,fz,ar⟩ ⟨(H++ [y]).set B.length (some [pI 7]),I,ao⟩:=A.ajy (by simp only;omega);exact⟨_, .inr rfl, .inl ⟨rfl,rfl⟩,(fun k g=>by cases g),E⟩
end Go.Tel
namespace Go.Proofs
open Go.Shelf Go.RowKit Go.Lib
def Tryz.joinExtra:Builder.Extra Tryz.prog Tryz.laysJoin_ren:={
 sizeBuilder:=by kernel_rfl
 liesBuilder:=by kernel_rfl
 t5:=by kernel_rfl
 a5:=Tryz.isAgg5
 z5:=Tryz.sizeOf5
 v5:=Tryz.zeroValue5
 infoByte:=by kernel_rfl
 cellsByte:=by kernel_rfl
 sizeByte:=by kernel_rfl
 neB5:=by decide}
section
variable {P:Program}{ρ:Ren}
def agh (L:Lays.n146 P ρ)(h:(P.info? (ρ.t 9)).map (fun i=>(i.zero,i.size,i.bytes))=some (some (.string ByteArray.empty),1,16))(s:ByteArray)(a:UInt8)(w:World)(hs:s.size<4294967281):
  Calls P (ρ.f 146) #[.string s, .string ⟨#[a]⟩] w fun e w'=>
   e= .returned (.slice (some ⟨w.heap.size,0,none⟩) (Lib.countB s ⟨#[a]⟩+1) (Lib.countB s ⟨#[a]⟩+1))/\w'=w.alloc (.cells ((Lib.splitB ⟨#[a]⟩ 0 (Lib.countB s ⟨#[a]⟩) s).map Value.string).toArray (ρ.t 9)):=by
 have h1:1<=(⟨#[a]⟩:ByteArray).size:=a8 _;have l:=Lib.countB_le ⟨#[a]⟩ h1 s.size s (a8 _);have b:=Lib.splitB_all ⟨#[a]⟩ h1 0 _ s rfl;have c:=Any.strings_genSplit_core {L with} h s ⟨#[a]⟩ 0 (-1) (Lib.countB s ⟨#[a]⟩+1) w hs h1 (ae _)
  (fun x cs _=>(Any.strings_Index_one {L with} x a _).mono fun e w' ⟨g,d⟩=>⟨by rw[g];show _=Ending.returned (Value.int .i64 (Lib.index x.data.toList [a]));rw[Lib.index_one],d⟩)
  ((Any.strings_Count_one {L with} s a w).mono fun e w' ⟨g,d⟩=>⟨by rw[g];show _=Ending.returned (Value.int .i64 ((Lib.count s.data.toList [a]:Nat):Int));rw[Lib.count_one];rfl,d⟩)
  (by decide) (by decide) (by rw[if_pos (by decide)];omega)
 rw[Nat.add_sub_cancel,b]at c;have e2:Lib.cellsOf (Lib.splitB ⟨#[a]⟩ 0 (Lib.countB s ⟨#[a]⟩) s) (Lib.countB s ⟨#[a]⟩+1)=((Lib.splitB ⟨#[a]⟩ 0 (Lib.countB s ⟨#[a]⟩) s).map Value.string).toArray:=by rw[<-b];exact Lib.cellsOf_full _
 rw[e2]at c;have r:=L.t3;have u:=L.t9;have m:=L.t31;have p:=L.a3;have q:=L.a9;have k:=L.a31;have z:=L.z3;have v:=L.v3;have A:=L.z9;have y:=L.v9;have o:=L.z31;have n:=L.v31;have j:∀args w,(callFunc (ρ.f 221) args).run P w= .ok (.enter (ρ.f 221) args) w:=enters_of L.f221 (by kernel_rfl) rfl
 go_enter L.f146,Body.n146_ntmps ρ
 go_wp2_with (go_at_fn (ρ.f 221);refine c.mono ?_;rintro e w' ⟨rfl,d⟩;rw[d])
 go_ret
 exact⟨rfl,rfl⟩
end
end Go.Proofs
namespace Go.Tel
open Go.Am
def nH (s:ByteArray)(c:UInt8):List ByteArray:=Go.Lib.splitB ⟨#[c]⟩ 0 (Go.Lib.countB s ⟨#[c]⟩) s
def KQ (s:ByteArray)(c:UInt8):(nH s c).length=Go.Lib.countB s ⟨#[c]⟩+1:=Go.Lib.splitB_all ⟨#[c]⟩ (a8 _) 0 _ s rfl
def VF {w:World}{O:Nat->Prop}:∀xs:List ByteArray,aV w O (xs.map Value.string) (xs.map DV.str)
 | []=> .nil
 |x::xs=> .cons (.str _) (VF xs)
def NY:∀xs:List ByteArray,flat (xs.map DV.str)=xs.map DV.str
 | []=>rfl
 |x::xs=>by
  have:=NY xs;simp only[flat]at this⊢;simp only[aq,bN,this]
  rfl
def akb (s:ByteArray)(c:UInt8)(hs:s.size<=1000000):Am.Pure Go.Tel.C 276 [.str s, .str ⟨#[c]⟩] (.d (.slice false ((nH s c).map .str))) []:=by
 refine rD fun X w b g a f=> ?_
 cases f with|cons h1 t1=>
 cases t1 with|cons h2 t2=>
 cases t2;cases h1;cases h2;refine(Go.Proofs.agh Go.Proofs.Tryz.laysSplit (by kernel_rfl) s c w (by omega)).mono ?_;rintro e i ⟨rfl,rfl⟩;refine⟨_,rfl,Later.alloc w _,?_⟩;refine .slice (sz:=1) (T:=Go.Proofs.Tryz.laysSplit_ren.t 9) (fz:=(0,0)) (cs:=((nH s c).map Value.string).toArray) ?_ (fun h=>bc _ (a _ h)) (by simp[KQ]) (by intro x a;obtain⟨y,_,rfl⟩:=aE.1 a;rfl) (a8 _) (fun h=>by cases h) ?_
 ·show(w.heap.push _)[w.heap.size]?=_
  rw[Array.getElem?_push_size];rfl
 ·rw[NY]
  simp only[aD,cB];rw[b9 (by simp[KQ])];exact VF _
def amX (n:Int)(c: -9223372036854775808<=n)(h1:n<=9223372036854775807):Am.Pure Go.Tel.C 155 [.int .i64 n] (.d (.str ⟨(Go.Lib.itoa n).toArray⟩)) []:=by
 refine rD fun X w a f h g=> ?_
 cases g with|cons h2 t2=>
 cases t2;cases h2;refine(Go.Proofs.Any.strconv_Itoa Go.Proofs.Tryz.laysItoa n c h1 w f).mono ?_;rintro e i ⟨rfl,k,os,rfl⟩;exact⟨_,rfl,⟨rfl,rfl,rfl,by simp[Go.Sort.grow],fun b hb=>by simp only[Go.Sort.grow];rw[Array.getElem?_append_left (by exact hb)];rfl⟩, .str _⟩
def adt (xs:List ByteArray)(a:ByteArray):ByteArray:=⟨(Go.Lib.join (xs.map (·.data.toList)) a.data.toList).toArray⟩
def JL {w:World}{O:Nat->Prop}:∀{vs:List Value} {xs:List ByteArray},aV w O vs (xs.map DV.str)->vs=xs.map Value.string
 | _,[], .nil=>rfl
 | _,x::xs, .cons h t=>by
  cases h;rw[JL t]
  rfl
end Go.Tel
namespace Go.Am
section
variable {C:Ctx}{base:Nat}{M:Mem}{K:PV->Mem->Prop}{KP:DV->Mem->Prop}
variable{a b:ByteArray}
def oN {op:BinOp}{K:DV->Prop}:OM op (.d (.str a)) (.d (.str b)) K=CS op a b K:=px
def I9 {K:DV->Prop}:CS .add a b K=(a.size+b.size<=9223372036854775807/\K (.str (a++b))):=px
def QD {K:DV->Prop}:CS .eql a b K=K (.bool (a.toList==b.toList)):=px
def XL {K:DV->Prop}:CS .neq a b K=K (.bool (!(a.toList==b.toList))):=px
end
end Go.Am
namespace Go.Tel
open Go.Am
def size_data (b:ByteArray):b.data.toList.length=b.size:=be
def amY (xs:List ByteArray)(b:ByteArray)(E:xs.length<=1000000)(hl:(Go.Lib.join (xs.map (·.data.toList)) b.data.toList).length<=1000000000):
  Am.Pure Go.Tel.C 246 [sF (xs.map .str), .str b] (.d (.str (adt xs b))) []:=by
 refine rD fun X w s D G z=> ?_
 cases z with|cons h1 t1=>
 cases t1 with|cons v t2=>
 cases t2;cases v;generalize h:xs.map DV.str=ys at h1;cases h1 with
 |empty=>
  rw[bB]at h;subst h;refine(Go.Proofs.Any.strings_Join_none Go.Proofs.Tryz.laysJoin Go.Proofs.Tryz.joinExtra _ _ b w).mono ?_;rintro e u ⟨rfl,rfl⟩;exact⟨_,rfl,Later.refl _, .str _⟩
 |slice hb F f A y B g=>
 rename_i i k len cap sz cs T fz
 subst h;rw[S]at f;subst f
 by_cases r:xs=[]
 ·subst r
  refine(Go.Proofs.Any.strings_Join_none Go.Proofs.Tryz.laysJoin Go.Proofs.Tryz.joinExtra _ _ b w).mono ?_;rintro e u ⟨rfl,rfl⟩;exact⟨_,rfl,Later.refl _, .str _⟩
 have o:sz=1:=by
  obtain⟨p,l,rfl⟩:∃p l,xs=p::l:=by
   cases xs with
   |nil=>exact absurd rfl r
   |cons a t=>exact⟨a,t,rfl⟩
  rw[<-A (.str p) (by simp)];rfl
 subst o;rw[NY,cB]at g;have n:=JL g;refine(Go.Proofs.Any.strings_Join Go.Proofs.Tryz.laysJoin Go.Proofs.Tryz.joinExtra i k cap xs b w (fun j x q=> ?_) (dw hb) (by omega) y (by omega)).mono ?_
 ·have m:j<xs.length:=(V.1 q).1
  rw[cell_of_row w i (k+j) cs T fz hb];have:=congrArg (fun l=>l[j]?) n;simp only[List.getElem?_take,m,if_true,List.getElem?_drop,Array.getElem?_toList,List.getElem?_map,q,bq]at this;exact this
 ·rintro e u ⟨rfl,c⟩
  exact⟨_,rfl,⟨c.os,c.tape,c.output,c.size,c.block⟩, .str _⟩
def uq (n:Int):ByteArray:=⟨(Go.Lib.itoa n).toArray⟩
def I64 (n:Int):Prop:= -9223372036854775808<=n/\n<=9223372036854775807
def JV {n:Int}(h:I64 n):Pure C 155 [dI n] (.d (.str (uq n))) []:=amX n h.1 h.2
def Ku {n:Int}(h:I64 n):(uq n).size<=21:=by
 have:=Go.Lib.itoa_length_le n h.1 h.2
 simpa[uq,cF]using this
def Pg {B:Nat}(a:UInt8):∀(r:List (List UInt8)),(∀x∈r,x.length<=B)->(Go.Lib.joinTail [a] r).length<=r.length*(B+1)
 | [],_=>by simp[Go.Lib.joinTail]
 |x::r,h=>by
  have c:=Pg a r (fun y b=>h y (cj _ b));have d:=h x ct;simp only[Go.Lib.joinTail,aq,List.flatten_cons,W,ai,am]at c⊢;rw[cP];omega
def join_le {B:Nat}(a:UInt8)(xs:List (List UInt8))(h:∀x∈xs,x.length<=B):(Go.Lib.join xs [a]).length<=xs.length*(B+1):=by
 cases xs with
 |nil=>simp[Go.Lib.join_nil]
 |cons x r=>
  rw[Go.Lib.join_cons,W,ai,cP];have:=Pg a r (fun y b=>h y (cj _ b));have:=h x ct;omega
def ab1 (xs:List ByteArray)(c:UInt8):(adt xs ⟨#[c]⟩).size=(Go.Lib.join (xs.map (·.data.toList)) [c]).length:=by
 unfold adt
 show(List.toArray _).size=_
 rw[cw]
def LV (ns:List Int):ByteArray:=adt (ns.map uq) ⟨#[32]⟩
variable{ns:List Int}
def Si (h:∀n∈ns,I64 n):(Go.Lib.join ((ns.map uq).map (·.data.toList)) [32]).length<=ns.length*22:=by
 have:=join_le (B:=21) 32 ((ns.map uq).map (·.data.toList)) (fun x a=>by
  simp only[aE]at a;obtain⟨y,⟨n,b,rfl⟩,rfl⟩:=a;rw[size_data];exact Ku (h n b))
 simpa using this
def WT (h:∀n∈ns,I64 n):(LV ns).size<=ns.length*22:=by
 rw[LV,ab1];exact Si h
variable{s:ByteArray}
def J6:DV.cells (.str s)=[.str s]:=rfl
def ahG:DV.fits 1 (.str s)=true:=rfl
def aie (ns:List Int)(hl:ns.length<=1000)(h:∀n∈ns,I64 n):Pure C 158 [sF (ns.map ay)] (.d (.str (LV ns))) []:=by
 refine ah xH aI ?_;simp only[xH,aI,S,RN,z,F,H,I,J,N];refine aG ns.length (fun i (v:Nat)=>⟨[(3, .tsl 0 v 0),(6, .d (sF (ns.map ay))),(7,pI ns.length),(8,pI i)],⟨[],[],[some ⟨1,((ns.take i).map uq).map .str,v,0⟩]⟩⟩)
  (fun _ _=>True) 0 0 (ae _) rfl trivial (fun i v a _=> ?_) (fun v _=> ?_)
 ·obtain⟨b,c,e⟩:=rng a (by omega)
  simp only[b,c,a,getD_map,aW,U,S,RN,z,F,H,I,J,N];refine ak (JV (h _ (getD_mem a))) ?_;simp only[gB,DV.strip,J6,ahG,forall_eq,S,RN,z,F,H,I,J,N];refine⟨by simp,by simp;omega,?_⟩;simp only[e,RN,z,F,H,I,J,N];refine dH (v+1) a ?_ trivial;rw[bf a];simp
 ·simp only[ao,RN,z,F,H,I,J,N]
  rw[bS];refine kR (tY (d:=sF ((ns.map uq).map .str)) (by simp[datum,Mem.row])) rfl (amY (ns.map uq) ⟨#[32]⟩ (by simp;omega) (by have:=Si h;simp only at this⊢;omega)) rfl ?_;(try simp only[RN,z,F,H,I,J,N])
  rfl
def En.line (x:En):ByteArray:=fwE x.kind++⟨#[32]⟩++LV x.ns
end Go.Tel
namespace Go.Am
section
variable {C:Ctx}{base:Nat}{L:PV->Mem->Prop}{KP:DV->Mem->Prop}{bs:List (Option (List PV))}{fz:List Nat}{ar:List (Option Arr)}
variable{s:ByteArray}
def akL {i:Nat}:au C base (.rngS i) [.d (.str s)] ⟨bs,fz,ar⟩ L KP=(bs[base+i]?=some none/\L (.zT (base+i)) ⟨bs.set (base+i) (some [.Gj s 0]),fz,ar⟩):=px
def abp {b pos c n:Nat}(h:bs[b]?=some (some [.Gj s pos]))(hf:b∉fz)(e:pos<s.size)(hd:Utf8.decode s pos=(c,n))(a:L (.d (.tup [.bool true,dI pos, .int .i32 c])) ⟨bs.set b (some [.Gj s (pos+n)]),fz,ar⟩):
  au C base .Zu [.zT b] ⟨bs,fz,ar⟩ L KP:=by
 simp only[au,Mem.box,h,hd];exact⟨hf,by rw[if_pos e];exact a⟩
def YO {b pos:Nat}(h:bs[b]?=some (some [.Gj s pos]))(hf:b∉fz)(c:¬pos<s.size)(a:L (.d (.tup [.bool false])) ⟨bs,fz,ar⟩):
  au C base .Zu [.zT b] ⟨bs,fz,ar⟩ L KP:=by
 simp only[au,Mem.box,h];exact⟨hf,by rw[if_neg c];exact a⟩
variable{M:Mem}{K:PV->Mem->Prop}
def abr {sz:Nat}{xs:List DV}{k:IntKind}{n:Int}(hs:∀x∈xs,x.cells.length=sz)(a:0<=n)(h1:n<=xs.length):
  au C base (.Jh sz true false false) [.d (.slice false xs), .d (.int k n)] M K KP=K (.d (sF (xs.drop n.toNat))) M:=by
 simp only[au,zu,dY,b0,bX,U,bS,br,cK];refine propext ⟨fun h=>h.2.2.2.2.2.2,fun h=>⟨trivial,hs,a,h1,cg _,fun c b=>b,h⟩⟩
def aht {neq:Bool}{a c:ByteArray}{b d:Int}:au C base (.CZ neq [2,1]) [.d (.agg [.str a,dI b]), .d (.agg [.str c,dI d])] M K KP=K (.d (.bool (((a.toList==c.toList)&&(b==d)) !=neq))) M:=by
 rw[WA (t:=(a.toList==c.toList)&&(b==d))];simp[bW]
end
end Go.Am
namespace Go.Tel
open Go.Am
def amd (xs:List ByteArray):∀y∈xs.map DV.str,y.cells.length=1:=by
 intro y a;obtain⟨n,_,rfl⟩:=aE.1 a;rfl
def aoX {p:ByteArray×Nat}:abz p= .agg [.str p.1,dI (p.2:Int)]:=rfl
def wC (s:ByteArray)(n:Nat)(p:ByteArray×Nat):Bool:=(s.toList==p.1.toList)&&((n:Int)==(p.2:Int))
def Y3 (l:List (ByteArray×Nat))(hl:l.length<=1000)(s:ByteArray)(n:Nat):Pure C 277 [sF (l.map abz), .agg [.str s,dI (n:Int)]] (.d (dI (jq (wC s n) l 0))) []:=by
 refine ah lI aH ?_;simp only[lI,aH,S,RN,z,F];refine aG l.length (fun i (_:Unit)=>⟨[(0, .d (sF (l.map abz))),(3, .d (.aP [.str s,dI (n:Int)])),(7,pI l.length),(8,pI i)],⟨[some [.d (.str s),pI (n:Int)]],[0],[]⟩⟩)
  (fun i _=>jq (wC s n) l 0=jq (wC s n) (l.drop i) i) 0 () (ae _) rfl rfl (fun i _ h1 a=> ?_) (fun _ a=> ?_)
 ·obtain⟨h2,c,e⟩:=rng h1 (by omega)
  rw[drop_cons h1,jq]at a;simp only[h2,c,h1,getD_map,U,S,aoX,aht,KW,RN,z,F,N];cases b:wC s n (l.getD i default)
  ·rw[if_neg (fun h=>by rw[b]at h;cases h)]at a
   rw[wC]at b;simp only[b,e,RN,z];exact dH () h1 rfl a
  ·rw[if_pos b]at a
   rw[wC]at b;simp only[b,RN,z];rw[a]
 ·rw[av,jq]at a
  simp only[ao,a,RN,z]
variable{M:Mem}
def xk {b:Bool}{s:ByteArray}{K:PV->Mem->Prop}{KP:DV->Mem->Prop}(c:b=true->K (.d (.tup [])) M)(e:b=false->∀d,QH d->KP d M):SC C 278 [.d (.bool b), .d (.str s)] M K KP:=by
 refine Go.Am.TN (ds:=[.bool b, .str s]) (Kr:=fun x=>b=true/\x= .tup []) (Kp:=fun d=>b=false/\QH d) ?_ (fun x a=>by rw[a.2];exact c a.1) (fun d hd=>e hd.1 d hd.2);refine aB rX dX ?_;cases b
 ·simp only[rX,dX,Po,Q9,RN,z,F,N]
  exact⟨s,rfl⟩
 ·simp only[rX,dX,RN,z,F]
  exact⟨_,rfl,rfl⟩
def Vl (w:ByteArray):Nat->Nat->Int->Option Int
 |0,_,n=>some n
 |k+1,pos,n=>if 48<=(w.data.getD pos 0).toNat/\(w.data.getD pos 0).toNat<=57/\w.size<=4 then Vl w k (pos+1) (10*n+(((w.data.getD pos 0).toNat:Int) - 48))else none
def BL (w:ByteArray):Option Int:=match Vl w w.size 0 0 with
 |some n=>if w.size≠0/\(uq n).data.toList=w.data.toList then some n else none
 |none=>none
def Ky:List ByteArray->List Int->Option (List Int)
 | [],a=>some a
 |x::l,a=>match BL x with
  |some n=>Ky l (a++ [n])
  |none=>none
def CO (line:ByteArray)(a:List (ByteArray×Nat)):Option (Int×List Int):=
 if jq (wC ((nH line 32).getD 0 default) ((nH line 32).length - 1)) a 0>=0 then
  (match Ky ((nH line 32).drop 1) []with
  |some l=>some (jq (wC ((nH line 32).getD 0 default) ((nH line 32).length - 1)) a 0,l)
  |none=>none)
 else none
def WO {α:Type}(p:α->Bool):∀(l:List α) (i:Nat), -1<=jq p l i/\jq p l i<=(i+l.length:Nat)
 | [],i=>by simp only[jq];omega
 |x::l,i=>by
  simp only[jq]
  split
  ·simp;omega
  ·have:=WO p l (i+1);simp only[ai];omega
def adW {line:ByteArray}(hr:line.size<=1000000)(f:List (ByteArray×Nat))(D:f.length<=1000)(ex:Bool){M:Mem}{K:PV->Mem->Prop}{KP:DV->Mem->Prop}
  (Z:∀p ns,CO line f=some (p,ns)->K (.d (.tup [dI p,sF (ns.map ay)])) M)(hP:CO line f=none->∀d,QH d->KP d M):SC C 223 [.d (.str line), .d (.slice ex (f.map abz))] M K KP:=by
 refine Go.Am.TN (ds:=[.str line, .slice ex (f.map abz)]) (Kr:=fun x=>∃a ns,CO line f=some (a,ns)/\x= .tup [dI a,sF (ns.map ay)]) (Kp:=fun d=>CO line f=none/\QH d) ?_ (fun x hx=>by obtain⟨a,ns,h1,rfl⟩:=hx;exact Z a ns h1) (fun d hd=>hP hd.1 d hd.2);have hl:=KQ line 32;have ab:=Go.Lib.countB_le ⟨#[32]⟩ (a8 _) line.size line (a8 _);have apw:=akb line 32 hr;refine aB Ar bn ?_;simp only[Ar,bn,RN,z,F,J];refine ak apw ?_;have adV:CO line f=if jq (wC ((nH line 32).getD 0 default) ((nH line 32).length - 1)) f 0>=0 then(match Ky ((nH line 32).drop 1) []with|some l=>some (jq (wC ((nH line 32).getD 0 default) ((nH line 32).length - 1)) f 0,l)|none=>none)else none:=rfl
 have ai:(nH line 32).length<=1000001:=by omega
 have ac:1<=(nH line 32).length:=by omega
 generalize nH line 32=ws at*;have i0:(0:Int)<=0:=by decide
 have l0:0<ws.length:=by omega
 have w1:cT .i64 ((ws.length:Int) - 1)=((ws.length - 1:Nat):Int):=by rw[aF (by omega)];omega
 have E:=Y3 f D (ws.getD 0 default) (ws.length - 1);have aqZ:=WO (wC (ws.getD 0 default) (ws.length - 1)) f 0;simp only[S,i0,l0,cG,getD_map,J6,w1,RN,z,F,N];refine ak E ?_;(try simp only[RN]);generalize jq (wC (ws.getD 0 default) (ws.length - 1)) f 0=ix at*;refine xk (fun e2=> ?_) (fun e2 d b=>⟨by rw[adV,if_neg (of_decide_eq_false e2)],b⟩);rw[if_pos (of_decide_eq_true e2)]at adV;(try simp only[RN]);rw[abr (amd ws) (by decide) (by rw[S];omega)];have B:(ws.map DV.str).drop (Int.toNat 1)=(ws.drop 1).map DV.str:=by rw[List.map_drop];rfl
 rw[B];have P:(ws.drop 1).length<=1000000:=by simp;omega
 generalize ws.drop 1=xs at*;simp only[S,RN];refine aG xs.length (fun i (q:List Int×Nat)=>⟨[(0, .d (.str line)),(7,pI ix),(8, .tsl 1 q.2 0),(30, .d (sF (xs.map .str))),(31,pI xs.length),(32,pI i)],⟨[],[],[some ⟨1,[],0,0⟩,some ⟨1,q.1.map ay,q.2,0⟩]⟩⟩)
  (fun i q=>Ky xs []=Ky (xs.drop i) q.1/\q.1.length=i) 0 ([],0) (ae _) rfl ⟨rfl,rfl⟩ (fun i q t r=> ?_) (fun q r=> ?_)
 ·obtain⟨g,ver⟩:=q
  obtain⟨r1,r2⟩:=r;simp only at r1 r2;obtain⟨W,X,Y⟩:=rng t P;rw[drop_cons t,Ky]at r1;obtain⟨w,R⟩:∃w,w=xs.getD i default:=⟨_,rfl⟩
  rw[<-R]at r1;have e:BL w=none->CO line f=none:=fun h=>by rw[adV,r1,h]
  simp only[W,X,t,getD_map,U,S,J6,<-R,akL,RN,z,N];refine kN (fun(q:Nat×Int)=>⟨[(0, .d (.str line)),(7,pI ix),(8, .tsl 1 ver 0),(10, .d (.str w)),(11,pI q.2),(30, .d (sF (xs.map .str))),(31,pI xs.length),(32,pI i),(37, .zT 0)],⟨[some [.Gj w q.1]],[],[some ⟨1,[],0,0⟩,some ⟨1,g.map ay,ver,0⟩]⟩⟩)
   (fun q=>q.1<=w.size/\Vl w w.size 0 0=Vl w (w.size - q.1) q.1 q.2/\0<=q.2/\q.2<10 ^ q.1/\(0<q.1->w.size<=4)) (fun q=>w.size - q.1) (0,0) rfl ⟨ae _,rfl,by decide,by decide,by simp⟩ (fun q r=> ?_)
  obtain⟨pos,n⟩:=q;obtain⟨q1,j,q3,q4,V⟩:=r;simp only at q1 j q3 q4 V
  by_cases o:pos<w.size
  ·obtain⟨c,A,hd⟩:∃c A,Utf8.decode w pos=(c,A):=⟨_,_,rfl⟩
   have hg:w.data.getD pos 0=w[pos]'o:=by
    rw[Array.getD_eq_getD_getElem?,Array.getElem?_eq_getElem (show pos<w.data.size from o)];rfl
   have hb:(48<=(w.data.getD pos 0).toNat/\(w.data.getD pos 0).toNat<=57↔48<=c/\c<=57)/\(c<=57->c=(w.data.getD pos 0).toNat/\A=1):=by
    rw[hg]
    by_cases ha:(w[pos]'o).toNat<128
    ·have:=decode_ascii w pos o ha
     rw[hd]at this;cases this;exact⟨Iff.rfl,fun _=>⟨rfl,rfl⟩⟩
    ·have:=(decode_high w pos o (by omega)).1
     rw[hd]at this;simp only at this;exact⟨by omega,by omega⟩
   obtain⟨k,hk⟩:∃k,w.size - pos=k+1:=⟨w.size - pos - 1,by omega⟩
   rw[hk,Vl]at j;have bad:¬(48<=c/\c<=57/\w.size<=4)->BL w=none:=by
    intro H;rw[if_neg (by intro hh;exact H ⟨(hb.1.1 ⟨hh.1,hh.2.1⟩).1,(hb.1.1 ⟨hh.1,hh.2.1⟩).2,hh.2.2⟩)]at j;rw[BL,j]
   (try simp only[RN,z]);refine abp rfl (by simp) o hd ?_
   by_cases y:(c:Int)>=48
   case neg=>
    simp only[y,RN,z];exact xk (fun h=>by cases h) (fun _ d b=>⟨e (bad (by omega)),b⟩)
   by_cases Q:(c:Int)<=57
   case neg=>
    simp only[y,Q,RN,z];exact xk (fun h=>by cases h) (fun _ d b=>⟨e (bad (by omega)),b⟩)
   by_cases T:(w.size:Int)<=4
   case neg=>
    simp only[y,Q,T,RN,z];exact xk (fun h=>by cases h) (fun _ d b=>⟨e (bad (by omega)),b⟩)
   simp only[y,Q,T,RN,z];refine xk (fun _=> ?_) (fun h=>by cases h);obtain⟨hc,rfl⟩:=hb.2 (by omega);rw[if_pos ⟨by omega,by omega,by omega⟩,<-hc]at j;have O:(10:Int) ^ pos<=1000:=by
    rcases pos with _| _| _| _|pos
    ·decide
    ·decide
    ·decide
    ·decide
    ·omega
   have w1:cT .i64 (10*n)=10*n:=aF (by omega);have w2:IntKind.i32.wrap ((c:Int) - 48)=(c:Int) - 48:=by
    obtain⟨m,hm⟩:∃m:Nat,(c:Int) - 48=m:=Int.eq_ofNat_of_zero_le (by omega)
    have G:m<10:=by omega
    rw[hm];exact(by decide:∀m<10,IntKind.i32.wrap ((m:Nat):Int)=m) m G
   have w3:cT .i64 ((c:Int) - 48)=(c:Int) - 48:=aF (by omega);have w4:cT .i64 (10*n+((c:Int) - 48))=10*n+((c:Int) - 48):=aF (by omega);simp only[w1,w2,w3,w4];refine XT (a:=(pos,n)) (μ:=fun q=>w.size - q.1) (pos+1,10*n+((c:Int) - 48)) (by simp only;omega) rfl ⟨by simp only;omega,?_,by simp only;omega,?_,fun _=>by omega⟩ (by simp) (by simp) rfl rfl
   ·simp only
    rw[j,show w.size - (pos+1)=k by omega]
   ·simp only[Int.pow_succ];omega
  ·have L:pos=w.size:=by omega
   rw[L,cN,Vl]at j;(try simp only[RN,z]);refine YO rfl (by simp) o ?_;have s:(w.toList==(⟨#[]⟩:ByteArray).toList)=decide (w.size=0):=by
    rw[Go.Lib.toList_data,Go.Lib.toList_data,<-size_data];cases w.data.toList<;>simp
   by_cases v:w.size=0
   ·rw[decide_eq_true v]at s
    simp only[oN,XL,s,RN,z,J];exact xk (fun h=>by cases h) (fun _ d b=>⟨e (by rw[BL,j];simp[v]),b⟩)
   ·rw[decide_eq_false v]at s
    have am:w.size<=4:=V (by omega);have O:(10:Int) ^ pos<=10000:=by
     rcases pos with _| _| _| _| _|pos
     ·decide
     ·decide
     ·decide
     ·decide
     ·decide
     ·omega
    simp only[oN,XL,s,RN,z,J];refine cO rfl rfl (JV ⟨by omega,by omega⟩) ?_
    by_cases u:(uq n).data.toList=w.data.toList
    ·have e1:((uq n).toList==w.toList)=true:=by rw[Go.Lib.toList_data,Go.Lib.toList_data];exact beq_iff_eq.2 u
     have H:BL w=some n:=by rw[BL,j];simp only;rw[if_pos ⟨v,u⟩]
     rw[H]at r1;simp only[oN,QD,e1];refine xk (fun _=> ?_) (fun h=>by cases h);simp only[fits_int,forall_eq,DV.strip,fU,S,RN,I,N];refine⟨by simp,by omega,?_⟩;simp only[Y];refine bQ 0 2 (g++ [n],ver+1) t ?_ ⟨r1,by simp[r2]⟩ (by simp) (by simp) rfl rfl;simp only[bp,aq,bh,aW];rfl
    ·have e1:((uq n).toList==w.toList)=false:=by rw[Go.Lib.toList_data,Go.Lib.toList_data];exact beq_eq_false_iff_ne.2 u
     simp only[oN,QD,e1];exact xk (fun h=>by cases h) (fun _ d b=>⟨e (by rw[BL,j];simp only;rw[if_neg (fun hh=>u hh.2)]),b⟩)
 ·obtain⟨g,ver⟩:=q
  obtain⟨r1,r2⟩:=r;simp only at r1 r2;rw[av,Ky]at r1;simp only[ao,bD,dV,aM,RN,z];exact⟨.tup [dI ix,sF (g.map ay)],by simp[datum,bT,dR,Mem.row],ix,g,by rw[adV,r1],rfl⟩
def fD (line:ByteArray):En×Int:=
 if line.size>60 then(⟨0,[]⟩,3)else match CO line fmL with
  |some (a,ns)=>(⟨1+a,ns⟩,0)
  |none=>(⟨0,[]⟩,4)
def iJ (line:ByteArray):Qn×Int:=match CO line amL with
 |some (a,ns)=>(⟨1+a,ns⟩,0)
 |none=>(⟨0,[]⟩,4)
def EF (k:Int)(ns:List Int)(e:Int):DV:= .tup [.agg [dI k, .slice (decide (e≠0)) (ns.map ay)],dI e]
def aao {line:ByteArray}{b:List (ByteArray×Nat)}{a:Int}{ns:List Int}(h:CO line b=some (a,ns)):0<=a/\a<=b.length:=by
 unfold CO at h
 split at h
 ·rename_i c
  have d:=(WO (wC ((nH line 32).getD 0 default) ((nH line 32).length - 1)) b 0).2
  split at h
  ·cases h;omega
  ·cases h
 ·cases h
def afR {line:ByteArray}(n:line.size<=1000000){bs:List (Option (List PV))}{fz:List Nat}{ar:List (Option Arr)}(b:FzB ⟨bs,fz,ar⟩){xb:Nat}{j l:PV}(hx:bs[xb]?=some (some [j,l]))(f:xb∉fz):
  SC C 221 [.d (.aP [.str line]), .ptr xb 0] ⟨bs,fz,ar⟩
   (fun _ M'=>∃a ns y,CO line fmL=some (a,ns)/\M'=⟨bs.set xb (some [pI (1+a), .d (sF (ns.map ay))])++ [y],bs.length::fz,ar⟩)
   (fun d M'=>CO line fmL=none/\QH d/\∃y,M'=⟨bs++ [y],bs.length::fz,ar⟩):=by
 have c:bs.length∉fz:=fun e=>bc _ (b _ e)
 have g:xb<bs.length:=(V.1 hx).1;have aqO:∀k,xb<bs.length+k:=fun k=>by omega
 have i:¬xb=bs.length:=by omega
 refine aB vN dX ?_;simp only[vN,dX,RN,z,F];refine ak adk ?_;rw[adi];simp only[aX,bJ,c,W,WB,RN,z,F,I,N];refine⟨(fun h=>by cases h),?_⟩
 show SC C 223 [.d (.str line), .d (.slice true (fmL.map abz))] _ _ _
 refine adW n fmL (by decide) true (fun a ns h=> ?_) (fun h d hd=> ?_)
 ·have hb:=aao h
  have m:(fmL:List (ByteArray×Nat)).length<=12:=by decide
  have w1:cT .i64 (1+a)=1+a:=aF (by omega);simp only[w1,dG,g,hx,Cm,f,i,az,IJ,RN,z,F,N];exact⟨a,ns,_,h,rfl⟩
 ·exact⟨h,hd,_,rfl⟩
def afY {line:ByteArray}(n:line.size<=1000000){bs:List (Option (List PV))}{fz:List Nat}{ar:List (Option Arr)}(b:FzB ⟨bs,fz,ar⟩){xb:Nat}{j l:PV}(hx:bs[xb]?=some (some [j,l]))(f:xb∉fz):
  SC C 231 [.d (.aP [.str line]), .ptr xb 0] ⟨bs,fz,ar⟩
   (fun _ M'=>∃a ns y,CO line amL=some (a,ns)/\M'=⟨bs.set xb (some [pI (1+a), .d (sF (ns.map ay))])++ [y],bs.length::fz,ar⟩)
   (fun d M'=>CO line amL=none/\QH d/\∃y,M'=⟨bs++ [y],bs.length::fz,ar⟩):=by
 have c:bs.length∉fz:=fun e=>bc _ (b _ e)
 have g:xb<bs.length:=(V.1 hx).1;have aqO:∀k,xb<bs.length+k:=fun k=>by omega
 have i:¬xb=bs.length:=by omega
 refine aB qW dX ?_;simp only[qW,dX,RN,z,F];refine ak agU ?_;rw[adh];simp only[aX,bJ,c,W,WB,RN,z,F,I,N];refine⟨(fun h=>by cases h),?_⟩
 show SC C 223 [.d (.str line), .d (.slice true (amL.map abz))] _ _ _
 refine adW n amL (by decide) true (fun a ns h=> ?_) (fun h d hd=> ?_)
 ·have hb:=aao h
  have m:(amL:List (ByteArray×Nat)).length<=12:=by decide
  have w1:cT .i64 (1+a)=1+a:=aF (by omega);simp only[w1,dG,g,hx,Cm,f,i,az,IJ,RN,z,F,N];exact⟨a,ns,_,h,rfl⟩
 ·exact⟨h,hd,_,rfl⟩
def aj3 (line:ByteArray):Pure C 153 [.str line] (.d (EF (fD line).1.kind (fD line).1.ns (fD line).2)) []:=by
 refine ah yR Xz ?_;simp only[yR,Xz,RN,z,F,N]
 by_cases c:line.size>60
 ·have hb:decide ((line.size:Int)>60)=true:=by simp;omega
  have b:fD line=(⟨0,[]⟩,3):=by rw[fD,if_pos c]
  simp only[hb,b,EF,RN,z,F,I,N]
  rfl
 ·have hb:decide ((line.size:Int)>60)=false:=by simp;omega
  simp only[hb,kQ,aM,RN,z,F];have z0:((0:Int) !=0)=false:=rfl;have f:((4:Int) !=0)=true:=rfl;refine Qw (fs:=[]) (cs:=[.d (.aP [.str line]), .ptr 2 0]) (fun i hi=>by simp at hi;simp[hi]) (by kernel_rfl) ?_;refine SC.kU (SC.mono (afR (line:=line) (by omega) (fun i hi=>by simp at hi;simp[hi]) (xb:=2) rfl (by simp)) ?_) ?_
  ·rintro v e ⟨a,ns,y,h,rfl⟩
   have b:fD line=(⟨1+a,ns⟩,0):=by rw[fD,if_neg c,h]
   refine⟨rfl,by simp,?_⟩;simp only[z0,b,EF,az,Y,RN,z,F,I,N];simp
  ·rintro d e ⟨h,hd,y,rfl⟩
   have b:fD line=(⟨0,[]⟩,4):=by rw[fD,if_neg c,h]
   refine⟨rfl,by simp,by simp, .inr ⟨hd,fun x=> ?_⟩⟩;simp only[f,b,EF,az,Y,RN,z,F,I,N]
   rfl
def acz (line:ByteArray)(hl:line.size<=1000000):Pure C 156 [.str line] (.d (EF (iJ line).1.kind (iJ line).1.ns (iJ line).2)) []:=by
 refine ah uG Xz ?_;simp only[uG,Xz,kQ,aM,RN,z,F];refine Qw (fs:=[]) (cs:=[.d (.aP [.str line]), .ptr 2 0]) (fun i hi=>by simp at hi;simp[hi]) (by kernel_rfl) ?_;refine SC.kU (SC.mono (afY (line:=line) hl (fun i hi=>by simp at hi;simp[hi]) (xb:=2) rfl (by simp)) ?_) ?_
 ·rintro v c ⟨a,ns,y,h,rfl⟩
  have b:iJ line=(⟨1+a,ns⟩,0):=by rw[iJ,h]
  refine⟨rfl,by simp,?_⟩;simp only[b,EF,az,Y,RN,F,I,N];simp
 ·rintro d c ⟨h,hd,y,rfl⟩
  have b:iJ line=(⟨0,[]⟩,4):=by rw[iJ,h]
  refine⟨rfl,by simp,by simp, .inr ⟨hd,fun x=> ?_⟩⟩;simp only[b,EF,az,Y,RN,F,I,N]
  rfl
def ae3:ByteArray:=⟨#[101,114,114,111,114,32]⟩
def aiE:ByteArray:=⟨#[110,111,116,101,100]⟩
def Zr:ByteArray:=⟨#[110,111,116,104,105,110,103]⟩
def aoe (n:Int):Bool:=decide (-9223372036854775808<=n)&&decide (n<=9223372036854775807)
def Dk.said (D:Dk)(line:ByteArray):Option (Dk×ByteArray):=
 if(fD line).2=0 then(if(D.enter (fD line).1).2=0 then some ((D.enter (fD line).1).1,aiE)else some ((D.enter (fD line).1).1,ae3++uq (D.enter (fD line).1).2))
 else if(fD line).2=3 then some (D,ae3++uq 3)
 else if(iJ line).2=0 then
  (if(D.ask (iJ line).1).2≠0 then some (D,ae3++uq (D.ask (iJ line).1).2)
  else if(D.ask (iJ line).1).1=[]then some (D,Zr)
  else if(D.ask (iJ line).1).1.all aoe&&decide ((D.ask (iJ line).1).1.length<=1000)then some (D,LV (D.ask (iJ line).1).1)else none)
 else some (D,ae3++uq (iJ line).2)
def UZ (D:Dk)(x:En):0<=(D.enter x).2/\(D.enter x).2<=7:=by
 unfold Dk.enter
 repeat' split
 all_goals simp
def ahf (d:Dvd)(n:Int):0<=(d.cuts n).2/\(d.cuts n).2<=7:=by
 unfold Dvd.cuts
 split
 ·split<;>simp
 ·simp
def Vy (line:ByteArray):0<=(iJ line).2/\(iJ line).2<=7:=by
 unfold iJ;split<;>simp
def afS (line:ByteArray):0<=(fD line).2/\(fD line).2<=7:=by
 unfold fD;split
 ·simp
 ·split<;>simp
def agy (p:Pc)(h:Int)(f:Fr)(n:Int):0<=(wM p h f n).2/\(wM p h f n).2<=7:=by
 unfold wM afN
 repeat' split
 all_goals simp
def Yu (p:Pc)(a b h:Int)(f:Fr):0<=(p.changes a b h f).2/\(p.changes a b h f).2<=7:=by
 have pr:∀(l:List Chg) (n:Int),0<=n/\n<=7->0<=(l,n).2/\(l,n).2<=7:=fun _ _ h=>h
 unfold Pc.changes
 split
 ·split
  ·exact pr _ 0 (by decide)
  split
  ·exact pr _ 0 (by decide)
  split
  ·exact pr _ 0 (by decide)
  ·exact pr _ 5 (by decide)
 ·exact pr _ 2 (by decide)
def aiC (D:Dk)(t:Sp)(a b c:Int):0<=(vF D t a b c).2/\(vF D t a b c).2<=7:=by
 unfold vF
 split
 ·split
  ·simp
  ·exact Yu _ _ _ _ _
 ·simp
def agC (r:List Int×Int):Prop:=0<=r.2/\r.2<=7
variable{c:Prop}
def nV [Decidable c]{a b:List Int×Int}(ha:agC a)(hb:agC b):agC (if c then a else b):=by
 by_cases h:c
 ·rw[if_pos h];exact ha
 ·rw[if_neg h];exact hb
def zJ (l:List Int){n:Int}(h:0<=n/\n<=7):agC (l,n):=h
def akw [Decidable c]{a b:Int}(ha:0<=a/\a<=7)(hb:0<=b/\b<=7):0<=(if c then a else b)/\(if c then a else b)<=7:=by
 by_cases h:c
 ·rw[if_pos h];exact ha
 ·rw[if_neg h];exact hb
def QL (D:Dk)(t:Sp)(q:Qn):0<=(D.answer t q).2/\(D.answer t q).2<=7:=by
 refine(?_:agC (D.answer t q));unfold Dk.answer;refine nV (zJ _ (by decide)) ?_;refine nV (zJ _ (by decide)) ?_;refine nV (zJ _ (by decide)) ?_;refine nV (zJ _ (akw (by decide) (by decide))) ?_;refine nV (aiC _ _ _ _ _) ?_;refine nV (zJ _ (akw (agy _ _ _ _) (by decide))) ?_;refine nV (zJ _ (by decide)) ?_;refine nV (zJ _ (akw ?_ (by decide))) ?_
 ·generalize wz _ _ _=o
  cases o with
  |none=>exact(by decide:(0:Int)<=5/\(5:Int)<=7)
  |some x=>exact(by decide:(0:Int)<=0/\(0:Int)<=7)
 refine nV (zJ _ (akw (by decide) (by decide))) ?_;refine nV (zJ _ (ahf _ _)) ?_;exact nV (zJ _ (by decide)) (zJ _ (by decide))
def ac3 (D:Dk)(q:Qn):0<=(D.ask q).2/\(D.ask q).2<=7:=by
 unfold Dk.ask
 split
 ·simp
 split
 ·simp
 split
 ·simp
 ·split
  ·exact QL _ _ _
  ·exact QL _ _ _
variable{D D':Dk}
def al9 {line s:ByteArray}(a:D.Ok)(h:D.said line=some (D',s)):D'.Ok:=by
 unfold Dk.said at h
 repeat' split at h
 all_goals first|(cases h;done)|(cases h;first|exact ahr a _|exact a)
def af6 {line s:ByteArray}(h:D.said line=some (D',s)):s.size<=30000:=by
 have e1:ae3.size=6:=rfl;have e2:aiE.size=5:=rfl;have d:Zr.size=7:=rfl;have a:∀n:Int,0<=n/\n<=7->(ae3++uq n).size<=30000:=fun n c=>by
  have:=Ku (n:=n) ⟨by omega,by omega⟩;rw[bu];omega
 unfold Dk.said at h
 split at h
 ·split at h
  ·cases h;omega
  ·cases h;exact a _ (UZ _ _)
 split at h
 ·cases h;exact a 3 (by decide)
 split at h
 ·split at h
  ·cases h;exact a _ (ac3 _ _)
  split at h
  ·cases h;omega
  split at h
  ·rename_i b
   cases h;simp only[ap,bw,decide_eq_true_eq,aoe]at b;have:=WT (ns:=(D.ask (iJ line).1).1) (fun n c=>b.1 n c);omega
  ·cases h
 ·cases h;exact a _ (Vy _)
def aed {d:Nat}{ce cs:PV}(h:vX D d ce cs M)(I:D.Ok){line s:ByteArray}(hl:line.size<=1000000)(hs:D.said line=some (D',s)){KP:DV->Mem->Prop}:
  SC C 85 [.ptr d 0, .d (.str line)] M (fun p M'=>p= .d (.str s)/\∃ce' cs',vX D' d ce' cs' M'/\FrD d ce cs ce' cs' M M'/\FzB M') KP:=by
 obtain⟨bs,fz,ar⟩:=M;have Dp:∀i∈fz,i<bs.length:=h.fzb
 have X:bs.length∉fz:=fun e=>bc _ (Dp _ e)
 have Y:∀k,bs.length+k∉fz:=fun k e=>by have:=Dp _ e;omega
 have ae:¬bs.length+1=bs.length:=by omega
 have J:=afS line;have K:=Vy line;have g:∀n:Int,0<=n/\n<=7->I64 n:=fun n hn=>⟨by omega,by omega⟩
 have q:∀n:Int,0<=n/\n<=7->(uq n).size<=21:=fun n hn=>Ku (g n hn)
 have e1:(⟨#[101,114,114,111,114,32]⟩:ByteArray).size=6:=rfl;refine aB pK aH ?_;simp only[pK,aH,RN,z,F];refine ak (aj3 line) ?_;simp only[EF,aX,bJ,X,W,RN,z,F,N];unfold Dk.said at hs
 by_cases E:(fD line).2=0
 ·rw[if_pos E]at hs
  have hb:((fD line).2==0)=true:=by simp[E]
  have hd:decide ((fD line).2≠0)=false:=by simp[E]
  have A:Frm ⟨bs,fz,ar⟩ ⟨bs++ [some [pI ((fD line).1.kind), .d (sF ((fD line).1.ns.map ay))]],bs.length::fz,ar⟩:=Frm.new (xf:=[bs.length]) (by simp);have H:=UZ D (fD line).1;have hE:=agB (h.frm A) I (fD line).1 (KP:=KP);rw[Fv]at hE;simp only[hb,hd,RN,z,F,N];refine SC.kU (SC.mono hE ?_) (fun _ _ h=>h);rintro p ⟨Q,R,P⟩ ⟨rfl,ce',cs',O,q2⟩;have b:=A.frD (d:=d) (ce:=ce) (cs:=cs)|>.trans q2
  by_cases t:(D.enter (fD line).1).2=0
  ·rw[if_pos t]at hs
   have u:((D.enter (fD line).1).2==0)=true:=by simp[t]
   cases hs;simp only[u,RN,z];exact⟨rfl,ce',cs',O,b,O.fzb⟩
  ·rw[if_neg t]at hs
   have u:((D.enter (fD line).1).2==0)=false:=by simp[t]
   have:=q _ H;cases hs;simp only[u,RN,z];refine ak (JV (g _ H)) ?_;simp only[oN,I9];exact⟨by omega,rfl,ce',cs',O,b,O.fzb⟩
 rw[if_neg E]at hs;have hb:((fD line).2==0)=false:=by simp[E]
 have hd:decide ((fD line).2≠0)=true:=by simp[E]
 have A:∀x,Frm ⟨bs,fz,ar⟩ ⟨bs++ [x],bs.length::fz,ar⟩:=fun x=>Frm.new (xf:=[bs.length]) (by simp)
 by_cases G:(fD line).2=3
 ·rw[if_pos G]at hs
  have v:((fD line).2==3)=true:=by simp[G]
  have:=q _ J;rw[<-G]at hs;cases hs;simp only[hb,v,RN,z];refine ak (JV (g _ J)) ?_;simp only[oN,I9];exact⟨by omega,rfl,ce,cs,h.frm (A _),(A _).frD,(A _).fzb h.fzb⟩
 rw[if_neg G]at hs;have v:((fD line).2==3)=false:=by simp[G]
 simp only[hb,v,RN,z];refine ak (acz line hl) ?_;simp only[EF,iR,mO,Y,ae,bk,W,RN,z,F,N];have j:∀x y,Frm ⟨bs,fz,ar⟩ ⟨bs++ [x,y],(bs.length+1)::bs.length::fz,ar⟩:=fun x y=>Frm.new (xf:=[bs.length+1,bs.length]) (by simp)
 by_cases B:(iJ line).2=0
 case neg=>
  rw[if_neg B]at hs;have w:((iJ line).2==0)=false:=by simp[B]
  have ac:((iJ line).2 !=0)=true:=by simp[B]
  have:=q _ K;cases hs;simp only[w,ac,RN,z];refine ak (JV (g _ K)) ?_;simp only[oN,I9];exact⟨by omega,rfl,ce,cs,h.frm (j _ _),(j _ _).frD,(j _ _).fzb h.fzb⟩
 rw[if_pos B]at hs;have w:((iJ line).2==0)=true:=by simp[B]
 have ab:decide ((iJ line).2≠0)=false:=by simp[B]
 have o:=ac3 D (iJ line).1;have hA:=amU (h.frm (j (some [pI ((fD line).1.kind), .d (.slice (decide ((fD line).2≠0)) ((fD line).1.ns.map ay))]) (some [pI ((iJ line).1.kind), .d (sF ((iJ line).1.ns.map ay))]))) I (iJ line).1 (KP:=KP);rw[amw]at hA;simp only[w,ab,RN,z,F,N];refine SC.kU (SC.mono hA ?_) (fun _ _ h=>h);rintro p ⟨Q,R,P⟩ ⟨c,Z,L,ai,q2⟩;have b:=(j _ _).trans q2;generalize D.ask (iJ line).1=r at*;obtain⟨l,e⟩:=r;simp only at hs Z L o
 by_cases T:e=0
 case neg=>
  rw[if_pos T]at hs;have m:(e !=0)=true:=by simp[T]
  have:=q _ o;cases hs
  rcases Z with rfl|⟨rfl,rfl⟩
  ·simp only[zK,zL,m,RN,z]
   refine ak (JV (g _ o)) ?_;simp only[oN,I9];exact⟨by omega,rfl,ce,cs,h.frm b,b.frD,b.fzb h.fzb⟩
  ·simp only[m,RN,z]
   refine ak (JV (g _ o)) ?_;simp only[oN,I9];exact⟨by omega,rfl,ce,cs,h.frm b,b.frD,b.fzb h.fzb⟩
 subst T;have m:((0:Int) !=0)=false:=rfl;rw[if_neg (by simp)]at hs;have apo:(((0:Nat):Int)==0)=true:=rfl
 rcases Z with rfl|⟨rfl,rfl⟩
 case inr=>
  have f:l=[]:=by
   rcases L with⟨_,h1⟩|⟨k,ver,st,h1,_⟩
   ·exact bB.1 h1
   ·cases h1
  subst f;rw[if_pos rfl]at hs;cases hs;simp only[m,apo,RN,z];exact⟨rfl,ce,cs,h.frm b,b.frD,b.fzb h.fzb⟩
 simp only[zK,zL,m,QA L,S,RN,z]
 by_cases f:l=[]
 ·rw[if_pos f]at hs
  cases hs;simp only[f,am,apo,RN,z];exact⟨rfl,ce,cs,h.frm b,b.frD,b.fzb h.fzb⟩
 rw[if_neg f]at hs;have V:((l.length:Int)==0)=false:=by cases l with|nil=>exact absurd rfl f|cons a l=>simp;omega
 split at hs
 case isFalse=>cases hs
 rename_i U
 simp only[ap,bw,decide_eq_true_eq,aoe]at U;cases hs
 rcases L with⟨_,h1⟩|⟨k,ver,st,rfl,h1,_⟩
 ·exact absurd (bB.1 h1) f
 simp only[V,RN,z];refine KZ h1 (by simpa only[aD]using aie l U.2 U.1) rfl ?_;(try simp only[RN]);exact⟨ce,cs,h.frm b,b.frD,b.fzb h.fzb⟩
end Go.Tel
namespace Go.Am
section
variable {C:Ctx}{base:Nat}{M:Mem}{K:PV->Mem->Prop}{KP:DV->Mem->Prop}
variable{s:ByteArray}{k:IntKind}
def Rf {n:Int}(a:0<=n)(h1:n<=s.size):au C base (.Ns false true) [.d (.str s), .d (.int k n)] M K KP=K (.d (.str (s.extract 0 n.toNat))) M:=by
 simp only[au,zx,dY,b0,bX];exact propext ⟨fun h=>h.2.2.2.2.2,fun h=>⟨trivial,trivial,cg _,a,h1,h⟩⟩
def Rh {n:Int}(a:0<=n)(h1:n<=s.size):au C base (.Ns true false) [.d (.str s), .d (.int k n)] M K KP=K (.d (.str (s.extract n.toNat s.size))) M:=by
 simp only[au,zx,dY,b0,bX,U];exact propext ⟨fun h=>h.2.2.2.2.2,fun h=>⟨trivial,trivial,a,h1,cg _,h⟩⟩
end
end Go.Am
namespace Go.Tel
open Go.Am
def XZ (s:ByteArray):Pure C 152 [.str s, .int .u8 10] (pI (Go.Lib.indexByte s.data.toList 10)) []:=by
 refine rD fun X w a d f c=> ?_
 cases c with|cons h1 t1=>
 cases t1 with|cons b t2=>
 cases t2;cases h1;cases b;refine(Go.Proofs.Any.strings_IndexByte Go.Proofs.Tryz.laysIndexB s 10 w).mono ?_;rintro e g ⟨rfl,rfl⟩;exact⟨_,rfl,Later.refl _, .int _ _⟩
def Gv (s:ByteArray):Bool:=decide (1<=s.size)&&((s.extract (s.size - 1) s.size).toList==(⟨#[10]⟩:ByteArray).toList)
def yj (s:ByteArray):ByteArray:=if Gv s then s.extract 0 (s.size - 1)else s
def XI:(⟨#[10]⟩:ByteArray).size=1:=rfl
variable{s:ByteArray}
def YV (hs:s.size<=1000000):Pure C 150 [.str s, .str ⟨#[10]⟩] (.d (.bool (Gv s))) []:=by
 refine ah lC aH ?_;have w1:cT .i64 ((s.size:Int) - ((1:Nat):Int))=(s.size:Int) - 1:=by rw[aF (by omega)];omega
 unfold Gv
 by_cases h:1<=s.size
 ·have hb:decide (((1:Nat):Int)<=(s.size:Int))=true:=by simp;omega
  have hd:decide (1<=s.size)=true:=by simp[h]
  have a:(0:Int)<=(s.size:Int) - 1:=by omega
  have b:(s.size:Int) - 1<=(s.size:Int):=by omega
  have c:((s.size:Int) - 1).toNat=s.size - 1:=by omega
  simp only[lC,aH,XI,hb,hd,w1,Rh a b,c,oN,QD,cn,RN,z,F]
 ·have hb:decide (((1:Nat):Int)<=(s.size:Int))=false:=by simp;omega
  have hd:decide (1<=s.size)=false:=by simp[h]
  simp only[lC,aH,XI,hb,hd,br,RN,z,F]
def ahU (hs:s.size<=1000000):Pure C 83 [.str s, .str ⟨#[10]⟩] (.d (.bool (Gv s))) []:=by
 refine ah xR aH ?_;simp only[xR,aH,RN,z,F];refine ak (YV hs) ?_;(try simp only[])
def agm (hs:s.size<=1000000):Pure C 159 [.str s, .str ⟨#[10]⟩] (.d (.str (yj s))) []:=by
 refine ah qh aH ?_;simp only[qh,aH,RN,z,F];refine ak (YV hs) ?_;have w1:cT .i64 ((s.size:Int) - ((1:Nat):Int))=(s.size:Int) - 1:=by rw[aF (by omega)];omega
 unfold yj;cases h:Gv s
 ·(try simp only[RN,z])
  simp
 ·have:1<=s.size:=by unfold Gv at h;simp only[ap,decide_eq_true_eq]at h;exact h.1
  have a:(0:Int)<=(s.size:Int) - 1:=by omega
  have b:(s.size:Int) - 1<=(s.size:Int):=by omega
  have c:((s.size:Int) - 1).toNat=s.size - 1:=by omega
  simp only[XI,w1,Rf a b,c,RN,z];simp
def agl (hs:s.size<=1000000):Pure C 86 [.str s, .str ⟨#[10]⟩] (.d (.str (yj s))) []:=by
 refine ah vV aH ?_;simp only[vV,aH,RN,z,F];refine ak (agm hs) ?_;(try simp only[])
def zV:List UInt8->List (List UInt8)
 | []=>[]
 |b::l=>if b==10 then[b]::zV l else match zV l with| []=>[[b]]|x::xs=>(b::x)::xs
def Sm:∀(l:List UInt8),(Go.Lib.indexByte l 10= -1/\(l=[]\/zV l=[l]))\/∃i:Nat,Go.Lib.indexByte l 10=(i:Int)/\i<l.length/\zV l=l.take (i+1)::zV (l.drop (i+1))
 | []=> .inl ⟨rfl, .inl rfl⟩
 |b::l=>by
  rw[Go.Lib.indexByte,zV]
  by_cases hb:(b==10)=true
  ·rw[if_pos hb,if_pos hb]
   exact .inr ⟨0,rfl,by simp,rfl⟩
  rw[if_neg hb,if_neg hb]
  rcases Sm l with⟨h1,h2⟩|⟨i,h1,h2,a⟩
  ·refine .inl ⟨by simp[h1], .inr ?_⟩
   rcases h2 with rfl|h2
   ·rfl
   ·rw[h2]
  ·refine .inr ⟨i+1,?_,by simpa using h2,by rw[a];simp⟩
   rw[if_neg (by rw[h1];simp),h1];omega
def jF (s:ByteArray):List ByteArray:=(zV s.data.toList).map fun l=>⟨l.toArray⟩
def rW (s:ByteArray):List DV:=[.str s]
def ab4 (s:ByteArray)(hs:0<s.size):(Go.Lib.indexByte s.data.toList 10= -1/\jF s=[s])\/∃i:Nat,Go.Lib.indexByte s.data.toList 10=(i:Int)/\i<s.size/\jF s=s.extract 0 (i+1)::jF (s.extract (i+1) s.size):=by
 have a:s.data.toList.length=s.size:=be
 rcases Sm s.data.toList with⟨h1,h2⟩|⟨i,h1,h2,b⟩
 ·refine .inl ⟨h1,?_⟩
  rcases h2 with h2|h2
  ·rw[h2]at a;simp at a;omega
  ·unfold jF;rw[h2];simp
 ·refine .inr ⟨i,h1,by omega,?_⟩
  unfold jF;rw[b,aq];have e1:(s.extract 0 (i+1)).data.toList=s.data.toList.take (i+1):=by simp[b5]
  have e2:(s.extract (i+1) s.size).data.toList=s.data.toList.drop (i+1):=by
   simp only[b5,Array.toList_extract,List.extract_eq_take_drop,<-a];rw[b9 (by simp)]
  rw[e2,<-e1]
def amZ (s:ByteArray)(c:Nat)(M:Mem):Prop:=M.boxes[c]?=some (some [.d (.str s)])/\c∉M.fz
def aaF (s:ByteArray)(c:Nat)(hs:s.size<=1000000):QF C 151 [] [.ptr c 0] ((jF s).map rW) (·=c) (·=c) no (amZ s c):=by
 rintro⟨bs,fz,ar⟩ b n R stop K KP ab ac Y D L J fV y f B;simp only at Y D;obtain⟨X,A⟩:=L;simp only at X A;refine aB AP dX ?_;simp only[AP,dX,RN,F];refine D5 (fun m st=>∃(t:ByteArray) (a:List (List DV)) (x:Mem) (S:List (Nat×PV)),m=t.size/\t.size<=s.size/\st=⟨(0, .mV b)::(1, .ptr c 0)::S,x⟩/\n<=x.boxes.length/\FzB x/\amZ t c x/\(jF s).map rW=a++(jF t).map rW/\R a x)
  s.size ⟨s,[],_,[],rfl,a8 _,rfl,Y,D,⟨X,A⟩,rfl,y⟩ ?_
 rintro m st ⟨t,a,⟨g,r,q⟩,S,rfl,ht,rfl,u,E,⟨e,ak7⟩,k,W⟩;simp only at u e ak7;have j:c<g.length:=(V.1 e).1
 by_cases y:0<t.size
 case neg=>
  have hb:decide ((t.size:Int)>0)=false:=decide_eq_false (by omega);simp only[e,hb,RN,z,N];refine B _ _ u ?_;have:t.data.toList=[]:=List.length_eq_zero_iff.1 (by have:t.data.toList.length=t.size:=be;omega);have e0:jF t=[]:=by unfold jF;rw[this];rfl
  rw[k,e0,bh,a7];exact W
 have hb:decide ((t.size:Int)>0)=true:=decide_eq_true (by omega);have adn:∀(l o:ByteArray),jF t=l::jF o->o.size<t.size->SY C b [.d (.str l)] ⟨g.set c (some [.d (.str o)]),r,q⟩
   (fun p w=>n<=w.boxes.length/\FzB w/\amZ o c w/\((p= .d (.bool true)/\(jF s).map rW=(a++ [rW l])++(jF o).map rW/\R (a++ [rW l]) w)\/(p= .d (.bool false)/\stop w))) KP:=by
  intro l o hl ai;have aqx:Moved n (·=c) ⟨g,r,q⟩ ⟨g.set c (some [.d (.str o)]),r,q⟩:=Moved.set (.inr rfl);have amG:(jF s).map rW=a++rW l::(jF o).map rW:=by rw[k,hl];rfl
  refine SY.mono (fV a (rW l) _ _ amG (by simpa using u) (J a _ _ aqx W)) ?_;rintro p G ⟨H,hp⟩;have I:=H.len;simp only[cb]at I;refine⟨by omega,H.fzb E.set,⟨?_,?_⟩,?_⟩
  ·rw[H.box c (.inr rfl) (by simpa using j)];simp[j]
  ·exact fun h=>ak7 ((H.fz c (.inr rfl) (by simpa using j)).1 h)
  ·rcases hp with⟨rfl,h⟩|h
   ·exact .inl ⟨rfl,by rw[amG,bk];rfl,h⟩
   ·exact .inr h
 simp only[e,hb,RN,z,N];refine ak (XZ t) ?_
 rcases ab4 t y with⟨T,U⟩|⟨i,T,U,g3⟩
 ·have hi:decide (Go.Lib.indexByte t.data.toList 10>=0)=false:=decide_eq_false (by omega)
  simp only[e,hi,ak7,RN,z,N];refine um ?_;refine SY.mono (adn t ⟨#[]⟩ (by rw[U];rfl) y) ?_;rintro p G ⟨M,O,P,⟨rfl,v,Q⟩|⟨rfl,v⟩⟩
  ·(try simp only[RN,z])
   exact⟨0,_,y, .inl rfl,⟨#[]⟩,_,G,_,rfl,ae _,rfl,M,O,P,v,Q⟩
  ·(try simp only[RN,z])
   exact f _ _ v
 ·have hi:decide ((i:Int)>=0)=true:=decide_eq_true (by omega)
  have w1:cT .i64 ((i:Int)+1)=(i:Int)+1:=by rw[aF (by omega)]
  have Z:(0:Int)<=(i:Int)+1:=by omega
  have x2:(i:Int)+1<=(t.size:Int):=by omega
  have x3:((i:Int)+1).toNat=i+1:=by omega
  have x4:(t.extract (i+1) t.size).size<t.size:=by simp;omega
  rw[T];simp only[e,j,hi,ak7,w1,Rf Z x2,Rh Z x2,x3,RN,z,N];refine um ?_;refine SY.mono (adn _ _ g3 x4) ?_;rintro p G ⟨M,O,P,⟨rfl,v,Q⟩|⟨rfl,v⟩⟩
  ·(try simp only[RN,z])
   exact⟨_,_,x4, .inl rfl,_,_,G,_,rfl,by omega,rfl,M,O,P,v,Q⟩
  ·(try simp only[RN,z])
   exact f _ _ v
def agH (s:ByteArray){bs:List (Option (List PV))}{fz:List Nat}{ar:List (Option Arr)}{KP:DV->Mem->Prop}:
  SC C 84 [.d (.str s)] ⟨bs,fz,ar⟩ (fun p M'=>p= .func (.func 151) [] [.ptr bs.length 0]/\M'=⟨bs++ [some [.d (.str s)]],fz,ar⟩) KP:=by
 refine aB DN aI ?_;simp only[DN,aI,aX,bJ,kQ,RN,z]
def nlB:ByteArray:=⟨#[10]⟩
def Bq:Dk->List ByteArray->ByteArray->Option (Dk×ByteArray)
 |D,[],out=>some (D,out)
 |D,l::a,out=>match D.said (yj l)with|none=>none|some q=>Bq q.1 a (out++(q.2++nlB))
def NR:∀(l1 l2:List ByteArray) (D:Dk) (out:ByteArray),Bq D (l1++l2) out=match Bq D l1 out with|none=>none|some q=>Bq q.1 l2 q.2
 | [],l2,D,out=>rfl
 |l::a,l2,D,out=>by
  rw[List.cons_append,Bq,Bq];cases D.said (yj l)with
  |none=>rfl
  |some q=>exact NR a l2 _ _
variable{M:Mem}
def FrD.kept {d n c:Nat}{ce cs ce' cs':PV}{M':Mem}(h:FrD d ce cs ce' cs' M M')(hf:FzB M->FzB M')(hd:d<n)(hc:d≠c):Kept n (·=c) no M M':=
 ⟨h.len,h.bC,fun i hi a=>h.box i a (fun e=>hi.elim (fun hi=>by omega) fun hi=>hc (by rw[<-e];exact hi)),fun i _ a=>h.fz i a,fun _ h=>h.elim,hf⟩
def ab5 (s:ByteArray):(jF s).length<=s.size:=by
 have:∀l:List UInt8,(zV l).length<=l.length:=by
  intro l
  induction l with
  |nil=>exact a8 _
  |cons b l a=>
   rw[zV]
   split
   ·simpa using a
   ·split
    ·simp
    ·rename_i h;rw[h]at a;simp at a⊢;omega
 unfold jF;rw[S];have h1:=this s.data.toList;have:s.data.toList.length=s.size:=be;omega
def EG:∀(l:List UInt8) (x:List UInt8),x∈zV l->x.length<=l.length
 | [],x,h=>by cases h
 |b::l,x,h=>by
  rw[zV]at h
  split at h
  ·rcases az.1 h with rfl|h
   ·simp
   ·have:=EG l x h;simp;omega
  ·split at h
   ·simp at h;subst h;simp
   ·rename_i y ys a
    rcases az.1 h with rfl|h
    ·have:=EG l y (by rw[a];simp);simp;omega
    ·have:=EG l x (by rw[a];simp[h]);simp;omega
def ab6 {x:ByteArray}(h:x∈jF s):x.size<=s.size:=by
 simp only[jF,aE]at h;obtain⟨l,a,rfl⟩:=h;have:=EG _ _ a;have e:s.data.toList.length=s.size:=be;simp only[cF,cw]at e⊢;rw[<-e];exact this
def Yw (s:ByteArray):(yj s).size<=s.size:=by
 unfold yj
 split
 ·simp
 ·exact a8 _
def aj1 (s:Su)(a:ByteArray)(pre:List (List DV))(b:Mem):Prop:=
 ∃c f D e cs o,jF a=c++f/\pre=c.map rW/\Bq ⟨s,[],[]⟩ c ⟨#[]⟩=some (D,o)/\vX D 4 e cs b/\D.Ok/\b.boxes[1]?=some (some [.ptr 4 0])/\b.boxes[5]?=some (some [.d (.str o)])/\5∉b.fz/\o.size<=30001*c.length
def aj1.moved {s:Su}{a:ByteArray}{pre:List (List DV)}{d f:Mem}{n:Nat}(h:aj1 s a pre d)(t:6<=n)(b:Moved n (·=6) d f):aj1 s a pre f:=by
 obtain⟨q,r,D,g,cs,o,h1,h2,i,c,j,k,l,m,p⟩:=h;refine⟨q,r,D,g,cs,o,h1,h2,i,?_,j,(b.box 1 (by omega) (by simp)).trans k,(b.box 5 (by omega) (by simp)).trans l,fun e=>m ((b.fz 5 (by omega) (by simp)).1 e),p⟩;exact⟨⟨(b.box 4 (by omega) (by simp)).trans c.box,by rw[b.aC];exact c.ent,by rw[b.aC];exact c.str⟩,c.dif,fun e=>c.nb ((b.fz 4 (by omega) (by simp)).1 e),b.fzb c.fzb⟩
def ad4 (s:Su)(hs:s.Small)(K:s.ok=true){a out:ByteArray}(hl:a.size<=1500)(G:(a.toList==(⟨#[]⟩:ByteArray).toList||Gv a)=true){D':Dk}(b:Bq ⟨s,[],[]⟩ (jF a) ⟨#[]⟩=some (D',out)):
  Pure C 33 [s.dv, .str a] (.d (.tup [.str out,dI 0])) []:=by
 refine ah vM bn ?_;rw[Jo];simp only[vM,bn,RN,z,F,N];have hO:=fun X KP=>aj2 s hs [X,none] [0] [] KP (by simp)
 rw[Jo]at hO;refine SC.kU (SC.mono (hO _ (fun _ _=>False)) ?_) (fun _ _ h=>h);rintro p M' (⟨h,_⟩|⟨_,rfl,x1,x2,rfl⟩)
 ·rw[K]at h;cases h
 have z1:((0:Int) !=0)=false:=rfl;have z2:decide ((a.size:Int)>1500)=false:=decide_eq_false (by omega);simp only[zK,zL,oM,z1,z2,oN,XL,C9,Qx,RN,z,F,I,N];have an7:(a.toList==(⟨#[]⟩:ByteArray).toList)=false->Gv a=true:=fun h=>by rw[h]at G;exact G
 cases ax:(a.toList==(⟨#[]⟩:ByteArray).toList)
 all_goals first
  |(simp only[RN,z,F,I,N];refine cO rfl rfl (ahU (by omega)) ?_;rw[an7 ax])
  |skip
 all_goals simp only[oM,RN,z,F,I,N]
 all_goals refine SC.kU (SC.mono (agH a (KP:=fun _ _=>False)) ?_) (fun _ _ h=>h)
 all_goals rintro p M' ⟨rfl,rfl⟩
 all_goals(try simp only[RN,F])
 all_goals(
  refine oI (aaF a 6 (by omega)) (fun _ h=>h) rfl (by kernel_rfl) (fun i hi=>by simp at hi;simp;omega) (fun x t=>by obtain⟨y,_,rfl⟩:=aE.1 t;rfl) (fun i hi=>by subst hi;simp) (fun M' S=>⟨(S.box 6 (by simp) id).trans rfl,fun e=>by have:=(S.fz 6 (by simp) id).1 e;simp at this⟩)
   (aj1 s a) (fun az M1 M2 S h=>h.moved (by simp) S) ⟨[],jF a,⟨s,[],[]⟩,_,_,_,rfl,rfl,rfl,⟨⟨rfl, .inl ⟨rfl,rfl⟩, .inl ⟨rfl,rfl⟩⟩,(by intro k hk;cases hk),by simp,by intro i hi;simp at hi;simp;omega⟩,⟨K,rfl,ae _,fun x h=>(by cases h),fun x h=>(by cases h)⟩,rfl,rfl,by simp,ae _⟩ ?_ ?_
  ·rintro L cells az x post ⟨g,ab,V⟩ t r l E ⟨ls,T,D,ce,cs,o,h1,h2,Q,h4,h5,w,n,R,h9⟩ M0
   simp only[ai,am]at r l E w n R⊢;obtain⟨y,f,rfl,rfl⟩:∃y f,T=y::f/\x=rW y:=by
    rw[h1,h2,bp]at t;have t:=bR t;cases T with
    |nil=>cases t
    |cons y f=>exact⟨y,f,rfl,(List.cons.inj t).1.symm⟩
   rw[h1,NR,Q]at b;simp only[Bq]at b;cases c:D.said (yj y)with
   |none=>rw[c]at b;cases b
   |some q=>
   obtain⟨D2,U⟩:=q;have hy:y.size<=a.size:=ab6 (by rw[h1];simp);have B:=ab5 a;rw[h1]at B;simp only[W,ai]at B;have aM:=Yw y;have aL:=af6 c;have j:5<g.length:=by omega
   have v:1<g.length:=by omega
   simp only[rW,cv,cz,aq,bh,w,n,v,RN,z,F,N];refine cO rfl rfl (agl (by omega)) ?_;(try simp only[RN,z,F,H,I,J,N]);refine akn n (by simp) ?_;refine SC.kU (SC.mono (aed h4 h5 (by omega) c (KP:=fun _ _=>False)) ?_) (fun _ _ h=>h.elim);rintro p ⟨u,ac,aD⟩ ⟨rfl,Y,Z,P,m,q3⟩;have ao:u[5]?=some (some [.d (.str o)]):=(m.box 5 j (by decide)).trans n;have ap:=m.len;simp only at ap;have ap8:5<u.length:=by omega
   have A:¬5∈ac:=fun e=>R ((m.fz 5 j).1 e)
   refine⟨m.box 5 j (by decide),?_⟩;have M:U.size+nlB.size<=9223372036854775807:=by have:nlB.size=1:=rfl;omega
   have O:o.size+(U++nlB).size<=9223372036854775807:=by have:nlB.size=1:=rfl;rw[bu];omega
   rw[nlB]at M O;simp only[oN,I9,M,O,ao,A,kE,RN,F,N];refine⟨by rw[aw (by decide)];exact(m.box 7 (by simp only;omega) (by decide)).trans l,fun e=>E ((m.fz 7 (by simp only;omega)).1 e),(FrD.kept m (fun _=>q3) (by decide) (by decide)).set2 (by decide) (by decide),ls++ [y],f,D2,Y,Z,o++(U++nlB),by rw[h1];simp,by rw[h2];simp[rW],?_,
    ⟨⟨by simp only;rw[aw (by decide)];exact P.box,P.ent,P.str⟩,P.dif,P.nb,q3.set⟩,al9 h5 c,?_,by simp[ap8];rfl,A,?_⟩
   ·rw[NR,Q]
    simp only[Bq,c]
   ·simp only;rw[aw (by decide)];exact(m.box 1 v (by decide)).trans w
   ·have:nlB.size=1:=rfl
    simp only[bu,W,ai,am];omega
  ·rintro⟨g,ab,V⟩ ⟨ls,T,D,ce,cs,o,h1,h2,Q,h4,h5,w,n,R,h9⟩ r
   simp only[ai,am]at r w n R;have av:T=[]:=by
    have:=congrArg bO h2;rw[h1]at this;simp at this;exact this
   subst av;rw[h1,a7,Q]at b;cases b;have j:5<g.length:=by omega
   simp only[n,RN,z,N])
def MI:aA:=(sr [al 0 0 [zs,zs,zs,z0,z0,zs,z0,zs,z0,z0,z0,zs,z0,z0,z0,z0,z0]] 1 [0] (sr [on 1 (.aj 87) [],on 2 (.build [z0,z0] [(0,1),(1,1)]) [kI 1,kI 3],on 3 (.build [z0,z0] [(0,1),(1,1)]) [kI 1499,kI 2000],ob 4 (.dU 2 [.agg [z0,z0],.agg [z0,z0]] [0,1]) 2 3,on 5 (.aj 88) [],on 6 (.aj 89) [],on 7 (.aj 90) [],on 8 (.build [.bool false,z0,z0,z0] [(0,1)]) [.c (.bool true)],on 9 (.build [.bool false,z0,z0,z0] [(1,1),(2,1)]) [kI 1,kI 6],ob 10 (.dU 4 [.agg [.bool false,z0,z0,z0],.agg [.bool false,z0,z0,z0]] [0,1]) 8 9,on 11 (.build [zs,zs,zs,z0,z0,zs,z0,zs,z0,z0,z0,zs,z0,z0,z0,z0,z0] [(0,2),(2,1),(3,1),(4,2),(6,2),(8,3),(11,1),(12,1),(13,1),(14,1),(15,1),(16,1)]) [.t 1,.t 4,kI 100,.t 5,.t 6,.t 7,.t 10,kI 1,kI 3,kI 6,kI 4,kI 10],sk 17 0 11 0] 0 [0] .ret))
def ZK:aA:=(sr [al 0 0 [zs,zs]] 1 [0] (sr [on 1 (.aj 160) [kI 10,kI 20],oa 2 (.build [z0,z0,z0] [(1,2)]) 1,on 3 (.aj 160) [kI 12,kI 18],on 4 (.build [z0,z0,z0] [(0,1),(1,2)]) [kI 1,.t 3],on 5 (.aj 160) [kI 15,kI 10],on 6 (.build [z0,z0,z0] [(0,1),(1,2)]) [kI 1,.t 5],on 7 (.dU 3 [.agg [z0,z0,z0],.agg [z0,z0,z0],.agg [z0,z0,z0]] [0,1,2]) [.t 2,.t 4,.t 6],on 8 (.dU 1 [z0,z0] [0,1]) [kI 2,kI 3],ob 9 (.build [zs,zs] [(0,1),(1,1)]) 7 8,sk 2 0 9 0] 0 [0] .ret))
def ZJ:aA:=(sr [al 0 0 [z0,zs]] 1 [0] (sr [on 1 (.dU 1 [z0] [0]) [kI 4],oa 2 (.build [z0,zs] [(1,1)]) 1,sk 2 0 2 0] 0 [0] .ret))
def ZI:aA:=(sr [al 0 0 [z0,z0,z0]] 1 [0] (sr [on 1 (.build [z0,z0,z0] [(0,1),(1,1)]) [kI 59,kI 2],sk 3 0 1 0] 0 [0] .ret))
def PI:aA:=(sr [al 4 0 [z0,z0]] 1 [0,1,4] (sr [mv 5 0,mv 6 1,ob 7 (.build [z0,z0] [(0,1),(1,1)]) 5 6,sk 2 4 7 0] 0 [4] .ret))
def ZM:aA:=(sr [al 0 0 [z0,z0,z0,z0,z0,zs,zs,zs]] 1 [0] (sr [on 1 (.build [z0,z0] [(0,1),(1,1)]) [kI 15,kI 20],on 2 (.build [z0,z0] [(0,1),(1,1)]) [kI 35,kI 20],on 3 (.build [z0,z0] [(0,1),(1,1)]) [kI 35,kI 36],on 4 (.dU 2 [.agg [z0,z0],.agg [z0,z0],.agg [z0,z0]] [0,1,2]) [.t 1,.t 2,.t 3],on 5 (.build [z0,z0,z0,z0] [(3,1)]) [kI 12],on 6 (.build [z0,z0,z0,z0] [(0,1),(3,1)]) [kI 1,kI 8],on 7 (.build [z0,z0,z0,z0] [(0,1),(2,1),(3,1)]) [kI 1,kI 1,kI 10],on 8 (.build [z0,z0,z0,z0] [(0,1),(2,1),(3,1)]) [kI 2,kI 1,kI 6],on 9 (.ng 4 [.agg [z0,z0,z0,z0],.agg [z0,z0,z0,z0],.agg [z0,z0,z0,z0],.agg [z0,z0,z0,z0]] [0,1,2,3]) [.t 5,.t 6,.t 7,.t 8],on 10 (.build [z0,z0] [(0,1),(1,1)]) [kI 0,kI 1],on 11 (.build [z0,z0] [(0,1),(1,1)]) [kI 2,kI 3],ob 12 (.dU 2 [.agg [z0,z0],.agg [z0,z0]] [0,1]) 10 11,on 13 (.build [z0,z0,z0,z0,z0,zs,zs,zs] [(0,1),(1,1),(2,1),(3,1),(4,1),(5,1),(6,1),(7,1)]) [kI 60,kI 50,kI 1,kI 1,kI 2,.t 4,.t 9,.t 12],sk 8 0 13 0] 0 [0] .ret))
def aiH:Dc C.P 31 0 ZM ajn=true:=by kernel_rfl
def ZL:aA:=(sr [al 0 0 [z0,zs]] 1 [0] (sr [on 1 (.dU 1 [z0,z0,z0] [0,1,2]) [kI 15,kI 21,kI 27],on 2 (.build [z0,zs] [(0,1),(1,1)]) [kI 40,.t 1],sk 2 0 2 0] 0 [0] .ret))
def yF:Su:=⟨⟨[⟨0,⟨10,20⟩⟩,⟨1,⟨12,18⟩⟩,⟨1,⟨15,10⟩⟩],[2,3]⟩,[⟨1,3⟩,⟨1499,2000⟩],100,⟨40,[15,21,27]⟩,⟨0,[4]⟩,⟨59,2,0⟩,[⟨true,0,0,0⟩,⟨false,1,6,0⟩],1,3,6,4,10⟩
def XE:ByteArray:=⟨#[104,97,110,100,115,10,99,117,116,115,32,51,54,10,119,111,114,107,115,32,57,10]⟩
def KU:ByteArray:=⟨#[49,32,51,32,51,32,52,10,50,32,49,32,51,10,49,48,10]⟩
def J4 {D D':Dk}{l a out:ByteArray}{ls:List ByteArray}{r:Option (Dk×ByteArray)}(h:D.said (yj l)=some (D',a))(b:Bq D' ls (out++(a++nlB))=r):Bq D (l::ls) out=r:=by
 rw[Bq,h];exact b
def lsK:List ByteArray:=[⟨#[104,97,110,100,115,10]⟩,⟨#[99,117,116,115,32,51,54,10]⟩,⟨#[119,111,114,107,115,32,57,10]⟩]
def alp:jF XE=lsK:=by kernel_rfl
def kd0:Dk:=⟨yF,[],[]⟩
def k_1:kd0.said (yj (lsK.getD 0 default))=some (kd0,⟨#[49,32,51,32,51,32,52]⟩):=by kernel_rfl
def k_2:kd0.said (yj (lsK.getD 1 default))=some (kd0,⟨#[50,32,49,32,51]⟩):=by kernel_rfl
def k_3:kd0.said (yj (lsK.getD 2 default))=some (kd0,⟨#[49,48]⟩):=by kernel_rfl
def apF:Bq ⟨yF,[],[]⟩ (jF XE) ⟨#[]⟩=some (kd0,KU):=by
 rw[alp];refine J4 k_1 ?_;refine J4 k_2 ?_;refine J4 k_3 ?_
 kernel_rfl
def Kz {base sz:Nat}{zs:List DV}{is:List Nat}{args:List PV}{ds xs:List DV}{K:PV->Mem->Prop}{KP:DV->Mem->Prop}(h1:bV M args=some ds)(h2:qJ sz zs is (ds.map DV.strip)=some xs)(a:M.frz args=M)(b:K (.d (.slice true xs)) M):au C base (.dU sz zs is) args M K KP:=by
 simp only[au,h1,h2,a];exact b
def acp (a b:Int):Pure C 160 [dI a,dI b] (.d (.agg [dI a,dI b])) []:=by
 refine ah PI JQ ?_;simp only[PI,JQ,oM,RN,z,F,N]
def P_k:Pure C 87 [] (.d (.agg [.slice true (yF.pc.links.map Lk.dv), .slice true (yF.pc.hands.map ay)])) []:=by
 refine ah ZK OD ?_;simp only[ZK,OD,RN,z,F,N];refine ak (acp 10 20) ?_;(try simp only[RN,z,F,N]);refine ak (acp 12 18) ?_;(try simp only[RN,z,F,N]);refine ak (acp 15 10) ?_;(try simp only[RN,z,F,N]);refine Kz rfl rfl rfl ?_;(try simp only[RN,z,F,N]);refine Kz rfl rfl rfl ?_;simp only[oM,RN,z,F,N]
 rfl
def O_k:Pure C 89 [] (.d (.agg [dI 0, .slice true [dI 4]])) []:=by
 refine ah ZJ OD ?_;simp only[ZJ,OD,oM,RN,z,F,N];exact⟨rfl,rfl⟩
def M_k:Pure C 90 [] (.d (.agg [dI 59,dI 2,dI 0])) []:=by
 refine ah ZI ajm ?_;simp only[ZI,ajm,oM,RN,z,F,N]
def D_k:Pure C 88 [] (.d (.agg [dI 40, .slice true [dI 15,dI 21,dI 27]])) []:=by
 refine ah ZL OD ?_;simp only[ZL,OD,RN,z,F,N];refine Kz rfl rfl rfl ?_;simp only[oM,RN,z,F,N]
 rfl
def ame:DV:= .agg [.slice true (yF.pc.links.map Lk.dv), .slice true (yF.pc.hands.map ay), .slice true (yF.tg.map Fr.dv),dI 100,dI 40, .slice true (yF.dvd.cir.map ay),dI 0, .slice true (yF.cal.cy.map ay),dI 59,dI 2,dI 0, .slice true (yF.fs.map Fs.dv),dI 1,dI 3,dI 6,dI 4,dI 10]
def akc:Pure C 34 [] (.d ame) []:=by
 refine ah MI ajl ?_;simp only[MI,ajl,RN,z,F,N];refine ak P_k ?_;(try simp only[RN,z,F,N]);refine Kz rfl rfl rfl ?_;(try simp only[RN,z,F,N]);refine ak D_k ?_;(try simp only[RN,z,F,N]);refine ak O_k ?_;(try simp only[RN,z,F,N]);refine ak M_k ?_;(try simp only[RN,z,F,N]);refine Kz rfl rfl rfl ?_;simp only[oM,RN,z,F,N]
 rfl
def XO:yF.Small:=⟨by decide,by decide,by decide,by decide,by decide⟩
def Jw:aA:=(sr [mi 4 0,mi 5 0] 0 [0,1] (.scope (sw (sr [mv 9 0,mv 10 1,ob 11 (.aj 81) 9 10,oa 12 pN 11] 0 [0,1,12] (cd 12 (sr [mi 4 0,mi 5 2] 0 [4,5] .ret) .skip)) (sw (.label 0) (sw (sr [mv 13 0,oa 14 .len 13,mi 15 0] 0 [0,1,14,15] (lp (sr [ob 16 pL 15 14] 0 [0,1,14,15,16] (sw (cx 16 0) (sw (b1 (sr [mv 17 15,mv 6 17] 0 [0,1,6,14,15] (sw (sr [mv 18 0,oa 19 .len 18,mi 20 0] 0 [0,1,6,14,15,18,19,20] (.block 2 (.loop (sr [ob 21 pL 20 19] 0 [0,1,6,14,15,18,19,20,21] (sw (cx 21 2) (sw (.block 3 (sr [mv 22 20,ix 23 1 18 20,lo 24 23,mv 7 22,mv 8 24] 0 [0,1,6,7,8,14,15,18,19,20] (sr [mv 25 8,mv 26 1,mv 27 7,mv 28 6,ob 29 pA 27 28,mv 30 1,oa 31 .len 30,ob 32 (.bin .rem) 29 31,ix 33 1 26 32,lo 34 33,ob 35 pQ 25 34] 0 [0,1,6,14,15,18,19,20,35] (cd 35 (.exit 1) .skip)))) (rg [oi 36 pA 20 1,mv 20 36] 0 [0,1,6,14,15,18,19,20]))))))) (sr [mv 37 6,mv 4 37,mi 5 0] 0 [4,5] .ret)))) (rg [oi 38 pA 15 1,mv 15 38] 0 [0,1,14,15])))))) (sr [mi 4 0,mi 5 5] 0 [4,5] .ret))))))
def G7:aA:=(sr [mf 4 false] 0 [0,1] (sr [mv 5 0,oa 6 (.aj 146) 5,mv 7 6,ov 8 .mov 1 7 0,ov 9 (.aj 146) 8 7 0,pf 10 7 9,mv 11 10,ov 12 .mov 0 11 0,ov 13 .len 12 11 0,ov 14 .mov 1 11 0,ov 15 .len 14 11 0,obT 16 pE 13 15 11 0,pf 17 11 16,mv 4 17] 0 [4] .ret))
def MC:aA:=(sr [mf 2 false] 0 [0] (sr [mv 3 0,oa 4 .len 3,on 5 (.aj 203) [.t 4,kI 3,kI 24],mv 6 5,ov 7 .mov 0 6 0,ot 8 (.aj 127) [.t 7,.c (.func (.func 204) [] [])] 6 0,ov 9 pN 8 6 0,pf 10 6 9,mv 2 10] 0 [2] .ret))
def G8:aA:=(sr [mf 2 false] 0 [0] (sr [mv 3 0,oa 4 (.aj 205) 3,oa 5 pN 4,mv 2 5] 0 [2] .ret))
def FI:aA:=(sr [mf 2 false] 0 [0] (sr [mv 3 0,on 4 (.aj 203) [.t 3,kI 0,kI 30],mv 2 4] 0 [2] .ret))
def aej (n:Int):Pure C 205 [dI n] (.d (.bool (inR n 0 30))) []:=by
 refine ah FI aI ?_;simp only[FI,aI,RN,z];refine ak (CW _ _ _) ?_;(try simp only[])
def afv (n:Int):Pure C 204 [dI n] (.d (.bool (!inR n 0 30))) []:=by
 refine ah G8 aI ?_;simp only[G8,aI,RN,z];refine ak (aej _) ?_;(try simp only[RN])
def La (l:List Int):Bool:=inR l.length 3 24&& !l.any fun n=> !inR n 0 30
def adq (l:List Int)(hl:l.length<=1000000):Pure C 146 [sF (l.map ay)] (.d (.bool (La l))) []:=by
 refine ah MC aI ?_;simp only[MC,aI,S,RN,z]
 repeat' first
  |(refine ak (CW _ _ _) ?_;try simp only[S,RN,z,F,H,I,J,N])
  |(refine cO rfl rfl (lQ l _ [] (fun n=> !inR n 0 30) hl (by kernel_rfl) (fun n _=>afv n)) ?_;try simp only[RN])
  |(refine aJ (by rfl) (fun a=> ?_) (fun a=> ?_)<;>simp only[a,RN,z])
  |(refine aK (by rfl) (fun a=> ?_) (fun a=> ?_)<;>simp only[a,S,RN,z,F,H,I,J,N])
 all_goals(first|(simp only[La, *,BSN];done)|(simp_all[La];done)|(simp_all[La];omega))
def aeg (a b:List Int)(hl:a.length<=1000000)(e:b.length<=1000000):Pure C 81 [sF (a.map ay),sF (b.map ay)] (.d (.bool (La a&&La b&&((a.length:Int)==b.length)))) []:=by
 refine ah G7 aH ?_;simp only[G7,aH,RN,z,F]
 repeat' first
  |(refine ak (adq a hl) ?_;try simp only[S,RN,z,F,H,I,J,N])
  |(refine ak (adq b e) ?_;try simp only[S,RN,z,F,H,I,J,N])
  |(refine aJ (by rfl) (fun c=> ?_) (fun c=> ?_)<;>simp only[c,S,RN,z])
  |(refine aK (by rfl) (fun c=> ?_) (fun c=> ?_)<;>simp only[c,S,RN,z,F,H,I,J,N])
 all_goals simp_all
def Jd (b:List Int)(k:Nat):Nat->List Int->Bool
 | _,[]=>true
 |i,n::l=>(n==b.getD ((i+k) % b.length) default)&&Jd b k (i+1) l
def Bh (a b:List Int):Nat->Nat->Option Nat
 | _,0=>none
 |k,n+1=>if Jd b k 0 a then some k else Bh a b (k+1) n
def agL (a b:List Int)(ha:La a=true)(hb:La b=true)(s:a.length=b.length):
  Pure C 32 [sF (a.map ay),sF (b.map ay)] (.d (.tup (match Bh a b 0 a.length with|some k=>[dI k,dI 0]|none=>[dI 0,dI 5]))) []:=by
 have t:3<=a.length/\a.length<=24:=by simp only[La,inR,ap,decide_eq_true_eq]at ha;omega
 have j:=aeg a b (by omega) (by omega);have e:((a.length:Int)==b.length)=true:=beq_iff_eq.2 (by omega);rw[ha,hb,e]at j;refine ah Jw bn ?_;simp only[Jw,bn,RN,z,F];refine ak j ?_;simp only[S,RN,z];refine aG a.length (fun i (_:Unit)=>⟨[(0, .d (sF (a.map ay))),(1, .d (sF (b.map ay))),(14,pI a.length),(15,pI i)],bG⟩)
  (fun i _=>Bh a b 0 a.length=Bh a b i (a.length - i)) 0 () (ae _) rfl (by simp) (fun i _ p c=> ?_) (fun _ c=> ?_)
 ·obtain⟨q,E,r⟩:=rng p (by omega)
  obtain⟨n,u⟩:∃n,a.length - i=n+1:=⟨a.length - i - 1,by omega⟩
  have o:a.length - (i+1)=n:=by omega
  rw[u,Bh]at c;simp only[q,S,RN,z];refine aG a.length (fun k (_:Unit)=>⟨[(0, .d (sF (a.map ay))),(1, .d (sF (b.map ay))),(6,pI i),(14,pI a.length),(15,pI i),(18, .d (sF (a.map ay))),(19,pI a.length),(20,pI k)],bG⟩)
   (fun k _=>Jd b i 0 a=Jd b i k (a.drop k)) 0 () (ae _) rfl (by simp) (fun k _ m f=> ?_) (fun _ f=> ?_)
  ·obtain⟨v,w,x⟩:=rng m (by omega)
   rw[drop_cons m,Jd]at f;have w1:cT .i64 ((k:Int)+(i:Int))=((k+i:Nat):Int):=by rw[aF (by omega)];omega
   have A:(k+i) % b.length<b.length:=Nat.mod_lt _ (by omega);have y:((k+i:Nat):Int).tmod (b.length:Int)=(((k+i) % b.length:Nat):Int):=rfl;have B:(0:Int)<=(((k+i) % b.length:Nat):Int):=Int.natCast_nonneg _;have D:((b.length:Int)=0)=False:=eq_false (by omega);simp only[v,w,m,w1,y,A,B,D,getD_map,aW,U,S,RN,z,N]
   by_cases l:a.getD k default=b.getD ((k+i) % b.length) default
   ·have g:(a.getD k default !=b.getD ((k+i) % b.length) default)=false:=bne_eq_false_iff_eq.2 l
    have h:(a.getD k default==b.getD ((k+i) % b.length) default)=true:=beq_iff_eq.2 l;rw[h,cn]at f;simp only[g,x,RN,z];exact dh () m rfl f (by simp) (by simp) rfl rfl
   ·have g:(a.getD k default !=b.getD ((k+i) % b.length) default)=true:=bne_iff_ne.2 l
    have h:(a.getD k default==b.getD ((k+i) % b.length) default)=false:=beq_eq_false_iff_ne.2 l;rw[h,br]at f;rw[f,if_neg (by decide)]at c;simp only[g,r,RN,z];exact dh () p rfl (by rw[o];exact c) (by simp) (by simp) rfl rfl
  ·rw[av,Jd]at f
   rw[f,if_pos rfl]at c;simp only[ao,c,RN,z]
 ·rw[cN,Bh]at c
  simp only[ao,c,RN,z]
def amO {v x:Pt}:((v.x==x.x)&&(v.y==x.y))=decide (v=x):=by
 cases v;cases x;simp only[Pt.mk.injEq,cC];rfl
def aiw {v x:Ms}:((v.a==x.a)&&(v.b==x.b))=decide (v=x):=by
 cases v;cases x;simp only[Ms.mk.injEq,cC];rfl
def afu (xs:List Pt)(v:Pt)(hl:xs.length<=1000000):Pure C 142 [sF (xs.map Pt.dv),v.dv] (pI (idx v xs 0)) []:=by
 refine ah dB aH ?_;simp only[dB,aH,BA,S,RN,z,F];refine aG xs.length (fun i (_:Unit)=>⟨[(0, .d (sF (xs.map Pt.dv))),(3, .d (.aP [dI v.x,dI v.y])),(7,pI xs.length),(8,pI i)],⟨[some [pI v.x,pI v.y]],[0],[]⟩⟩) (fun i _=>idx v xs 0=idx v (xs.drop i) i) 0 () (ae _) rfl rfl (fun i _ h1 a=> ?_) (fun _ a=> ?_)
 ·obtain⟨h2,c,e⟩:=rng h1 hl
  rw[drop_cons h1,idx]at a;cases b:decide (v=xs.getD i default)
  ·simp only[h2,c,h1,e,b,BA,iD,amO,KW,getD_map,U,S,RN,z,F,N]
   exact dh () h1 rfl (by rw[if_neg (by simpa using b)]at a;exact a) (by simp) (by simp) rfl rfl
  ·simp only[h2,c,h1,b,BA,iD,amO,KW,getD_map,U,S,RN,z,F,N]
   rw[a,if_pos (by simpa using b)]
 ·rw[av,idx]at a
  simp only[ao,a,RN,z]
def Lj (xs:List Pt)(v:Pt)(hl:xs.length<=1000000):Pure C 79 [sF (xs.map Pt.dv),v.dv] (.d (.bool (xs.contains v))) []:=by
 have hi:=afu xs v hl;refine ah kG aH ?_;simp only[BA]at hi⊢;simp only[kG,aH,RN,z,F,N];refine ak hi ?_;simp only[RS,RN]
def aft (xs:List Ms)(v:Ms)(hl:xs.length<=1000000):Pure C 161 [sF (xs.map Ms.dv),v.dv] (pI (idx v xs 0)) []:=by
 refine ah dB aH ?_;simp only[dB,aH,Lr,S,RN,z,F];refine aG xs.length (fun i (_:Unit)=>⟨[(0, .d (sF (xs.map Ms.dv))),(3, .d (.aP [dI v.a,dI v.b])),(7,pI xs.length),(8,pI i)],⟨[some [pI v.a,pI v.b]],[0],[]⟩⟩) (fun i _=>idx v xs 0=idx v (xs.drop i) i) 0 () (ae _) rfl rfl (fun i _ h1 c=> ?_) (fun _ c=> ?_)
 ·obtain⟨h2,f,g⟩:=rng h1 hl
  rw[drop_cons h1,idx]at c;cases e:decide (v=xs.getD i default)
  ·simp only[h2,f,h1,g,e,Lr,iD,aiw,KW,getD_map,U,S,RN,z,F,N]
   exact dh () h1 rfl (by rw[if_neg (by simpa using e)]at c;exact c) (by simp) (by simp) rfl rfl
  ·simp only[h2,f,h1,e,Lr,iD,aiw,KW,getD_map,U,S,RN,z,F,N]
   rw[c,if_pos (by simpa using e)]
 ·rw[av,idx]at c
  simp only[ao,c,RN,z]
def Ws (xs:List Ms)(v:Ms)(hl:xs.length<=1000000):Pure C 91 [sF (xs.map Ms.dv),v.dv] (.d (.bool (xs.contains v))) []:=by
 have hi:=aft xs v hl;refine ah kX aH ?_;simp only[Lr]at hi⊢;simp only[kX,aH,RN,z,F,N];refine ak hi ?_;simp only[RS,RN]
def N8 (p:Piece)(n:Int)(hl:p.ws.length<=1000000):Pure C 36 [p.dv,dI n] (.d (.bool (inR n 0 (p.ws.length - 1)))) []:=by
 refine ah DJ aH ?_;have h:cT .i64 ((p.ws.length:Int) - 1)=p.ws.length - 1:=aF (by omega);simp only[DJ,aH,ug,S,h,RN,z,F,N];refine ak (RU _ _ _) ?_;(try simp only[])
def Y8 (p:Piece)(w:Wh)(hl:p.cs.length<=1000000):Pure C 93 [w.dv, .aP [dI p.w,dI p.h,dI p.pl,dI p.ga,dI p.po,sF (p.cs.map Pt.dv),sF (p.ws.map Wh.dv),sF (p.ms.map Ms.dv)]] (.d (.bool (!acU p.cs.length w))) []:=by
 refine ah Az JO ?_;have h:cT .i64 ((p.cs.length:Int) - 1)=p.cs.length - 1:=aF (by omega);simp only[Az,JO,pq,S,h,RN,z,F,N]
 repeat' first
  |(refine ak (RU _ _ _) ?_;try simp only[RN])
  |(refine aJ (by rfl) (fun a=> ?_) (fun a=> ?_)<;>simp only[a,RN,z,F,N])
  |(refine aK (by rfl) (fun a=> ?_) (fun a=> ?_)<;>simp only[a,RN,z,F,H,I,J,N])
 all_goals simp_all[acU]
def abR (xs:List Wh)(fn:FuncId)(b:List DV)(p:Wh->Bool)(hl:xs.length<=1000000)(hc:callable C.P fn=true)(g:∀x∈xs,Pure C fn ([(Wh.dv x).strip]++b.map DV.strip) (.d (.bool (p x))) []):
  Pure C 162 [sF (xs.map Wh.dv), .func (.func fn) [] b] (pI (jq p xs 0)) []:=by
 refine ah eF aH ?_;simp only[eF,aH,S,RN,z,F];refine aG xs.length (fun i (_:Unit)=>⟨[(0, .d (sF (xs.map Wh.dv))),(1, .d (.func (.func fn) [] b)),(7,pI xs.length),(8,pI i)],⟨[],[],[]⟩⟩)
  (fun i _=>jq p xs 0=jq p (xs.drop i) i) 0 () (ae _) rfl rfl (fun i _ h1 a=> ?_) (fun _ a=> ?_)
 ·obtain⟨h2,e,f⟩:=rng h1 hl
  rw[drop_cons h1,jq]at a;have j:=g (xs.getD i default) (by rw[bl,bo h1];exact List.getElem_mem h1);simp only[h2,e,h1,getD_map,U,S,pq,RN,z,F,N];refine ig rfl hc (by simp only[bA,bp,aq,bh,pq]) j ?_;cases c:p (xs.getD i default)
  ·simp only[f,RN,z]
   exact dh () h1 rfl (by rw[if_neg (fun h=>by rw[c]at h;cases h)]at a;exact a) (by simp) (by simp) rfl rfl
  ·(try simp only[RN,z])
   rw[a,if_pos c]
 ·rw[av,jq]at a
  simp only[ao,a,RN,z]
def Um (xs:List Wh)(fn:FuncId)(a:List DV)(p:Wh->Bool)(hl:xs.length<=1000000)(hc:callable C.P fn=true)(b:∀x∈xs,Pure C fn ([(Wh.dv x).strip]++a.map DV.strip) (.d (.bool (p x))) []):
  Pure C 92 [sF (xs.map Wh.dv), .func (.func fn) [] a] (.d (.bool (xs.any p))) []:=by
 have hi:=abR xs fn a p hl hc b;refine ah jD aH ?_;simp only[jD,aH,RN,z,F];refine ak hi ?_;simp only[BH,RN]
def oH (p:Piece):List DV:=[dI p.w,dI p.h,dI p.pl,dI p.ga,dI p.po,sF (p.cs.map Pt.dv),sF (p.ws.map Wh.dv),sF (p.ms.map Ms.dv)]
def aiT (xs:List Pt):∀x∈xs.map Pt.dv,x.cells.length=2:=by
 intro x a;simp only[aE]at a;obtain⟨y,_,rfl⟩:=a;rfl
def acg (xs:List Ms):∀x∈xs.map Ms.dv,x.cells.length=2:=by
 intro x a;simp only[aE]at a;obtain⟨y,_,rfl⟩:=a;rfl
def Y9 (p:Piece)(hc:p.cs.length<=1000)(o:p.ws.length<=1000)(n:p.ms.length<=1000):Pure C 35 [p.dv] (.d (.bool p.ok)) []:=by
 refine ah DI aI ?_;simp only[DI,aI,ug,RN,z,F,N]
 repeat' first
  |(refine ak (RU _ _ _) ?_;try simp only[RN])
  |(refine aJ (by rfl) (fun a=> ?_) (fun a=> ?_)<;>simp only[a,S,RN,z,F,N])
  |(refine aK (by rfl) (fun a=> ?_) (fun a=> ?_)<;>simp only[a,S,RN,z,F,N])
 any_goals (simp_all[Piece.ok,Piece.WH,Piece.Xa];done)
 refine aG p.cs.length (fun i (_:Unit)=>⟨[(1, .d (.aP (oH p))),(53, .d (sF (p.cs.map Pt.dv))),(54,pI p.cs.length),(55,pI i)],⟨[some ((oH p).map .d)],[0],[]⟩⟩)
  (fun i _=>PW p.w p.h [] p.cs=PW p.w p.h (p.cs.take i) (p.cs.drop i)) 0 () (ae _) rfl (by simp) (fun i _ h1 f=> ?_) (fun _ f=> ?_)
 ·obtain⟨h2,g,j⟩:=rng h1 (by omega)
  rw[drop_cons h1,PW]at f;have c:((i:Nat):Int)<=((p.cs.map Pt.dv).length:Int):=by simp;omega
  have k:(p.cs.take i).length<=1000000:=by simp;omega
  simp only[h2,g,h1,getD_map,U,S,BA,oH,RN,z,F,I,N]
  repeat' first
   |(refine ak (RU _ _ _) ?_;try simp only[RN])
   |(refine ak (Lj _ _ k) ?_;try simp only[j,S,rV (aiT p.cs) g c,U,<-bz,RN,z,F,H,I,J,N])
   |(refine aJ (by rfl) (fun a=> ?_) (fun a=> ?_)<;>simp only[a,rV (aiT p.cs) g c,U,<-bz,RN,z,F,N])
   |(refine aK (by rfl) (fun a=> ?_) (fun a=> ?_)<;>simp only[a,j,RN,z,F])
  any_goals (simp_all[Piece.ok];done)
  all_goals
   refine bQ 1 0 () h1 rfl ?_ (by simp) (by simp) rfl rfl;rw[f]
   simp_all
 ·rw[av]at f
  simp only[ao,oH,S,RN,z,F,N];refine aG p.ms.length (fun i (_:Unit)=>⟨[(1, .d (.aP (oH p))),(84, .d (sF (p.ms.map Ms.dv))),(85,pI p.ms.length),(86,pI i)],⟨[some ((oH p).map .d)],[0],[]⟩⟩)
   (fun i _=>Vg p.ws.length [] p.ms=Vg p.ws.length (p.ms.take i) (p.ms.drop i)) 0 () (ae _) rfl (by simp) (fun i _ h1 b=> ?_) (fun _ b=> ?_)
  ·obtain⟨h2,g,j⟩:=rng h1 (by omega)
   rw[drop_cons h1,Vg]at b;have c:((i:Nat):Int)<=((p.ms.map Ms.dv).length:Int):=by simp;omega
   have k:(p.ms.take i).length<=1000000:=by simp;omega
   simp only[h2,g,h1,getD_map,U,S,Lr,oH,RN,z,F,I,N]
   repeat' first
    |(refine ak (RU _ _ _) ?_;try simp only[j,S,rV (acg p.ms) g c,U,<-bz,RN,z,F,H,I,J,N])
    |(refine ak (Ws _ _ k) ?_;try simp only[j,S,rV (acg p.ms) g c,U,<-bz,RN,z,F,H,I,J,N])
    |(refine cO rfl rfl (N8 p _ (by omega)) ?_;try simp only[RN])
    |(refine aJ (by rfl) (fun a=> ?_) (fun a=> ?_)<;>simp only[a,rV (acg p.ms) g c,U,<-bz,RN,z,F,N])
    |(refine aK (by rfl) (fun a=> ?_) (fun a=> ?_)<;>simp only[a,j,RN,z,F])
   any_goals (simp_all[Piece.ok];done)
   all_goals
    refine bQ 1 0 () h1 rfl ?_ (by simp) (by simp) rfl rfl;rw[b]
    simp_all
  ·rw[av]at b
   simp only[ao,oH,ahz,RN,z,F,N];refine cO rfl rfl (Um p.ws _ _ (fun w=> !acU p.cs.length w) (by omega) (by kernel_rfl) (fun w _=>Y8 p w (by omega))) ?_;(try simp only[RN]);simp only[PW,Vg]at f b;have e:∀l:List Wh,(l.any fun w=> !acU p.cs.length w)= !l.all (acU p.cs.length):=by
    intro l;induction l with
    |nil=>rfl
    |cons x l m=>simp only[List.any_cons,cp,m,Bool.not_and]
   rw[e,Bool.not_not]
   simp_all[Piece.ok,Piece.WH,Piece.Xa]
structure Piece.good (p:Piece):Prop where
 cs:∀c∈p.cs,0<=c.x/\c.x<=1000/\0<=c.y/\c.y<=1000
 ws:∀w∈p.ws,(0<=w.lN/\w.lN.toNat<p.cs.length)/\0<=w.aU/\w.aU<=1000/\0<=w.layer/\w.layer<=1000
 w:0<=p.w/\p.w<=1000
 h:0<=p.h/\p.h<=1000
 pl:0<=p.pl/\p.pl<=1000
 ga:0<=p.ga/\p.ga<=1000
 po:0<=p.po/\p.po<=1000
 lw:p.ws.length<=1000
def Piece.isW (p:Piece)(a:Int):Prop:=0<=a/\a.toNat<p.ws.length
def ajE {n:Int}{k:Nat}(h: -(k:Int)<=n/\n<=k):0<=n*n/\n*n<=((k*k:Nat):Int):=by
 have e:n*n=((n.natAbs*n.natAbs:Nat):Int):=by
  rw[Int.natCast_mul];exact(Int.natAbs_mul_self' n).symm
 have h1:n.natAbs<=k:=by omega
 have h2:=Nat.mul_le_mul h1 h1;rw[e];omega
section
variable {p:Piece}(hg:p.good){a b:Int}(ha:p.isW a)(hb:p.isW b)
include hg ha
theorem uo:((0<=(p.ws.getD a.toNat default).lN/\(p.ws.getD a.toNat default).lN.toNat<p.cs.length)/\0<=(p.ws.getD a.toNat default).aU/\(p.ws.getD a.toNat default).aU<=1000/\0<=(p.ws.getD a.toNat default).layer/\(p.ws.getD a.toNat default).layer<=1000):=
 hg.ws _ (getD_mem ha.2)
theorem LJ:0<=(p.cs.getD (p.ws.getD a.toNat default).lN.toNat default).x/\(p.cs.getD (p.ws.getD a.toNat default).lN.toNat default).x<=1000/\0<=(p.cs.getD (p.ws.getD a.toNat default).lN.toNat default).y/\(p.cs.getD (p.ws.getD a.toNat default).lN.toNat default).y<=1000:=
 hg.cs _ (getD_mem (uo hg ha).1.2)
include hb
theorem anv:0<=p.far a b/\p.far a b<=2000000:=by
 have h1:=LJ hg ha;have h2:=LJ hg hb;have x:=ajE (n:=(p.pt a).x - (p.pt b).x) (k:=1000) (by simp only[Piece.pt,Piece.wh];omega);have y:=ajE (n:=(p.pt a).y - (p.pt b).y) (k:=1000) (by simp only[Piece.pt,Piece.wh];omega);simp only[Piece.far,sq];omega
end
def D9 (n:Int)(h: -10000<=n/\n<=10000):Pure C 167 [dI n] (pI (sq n)) []:=by
 have hb:=ajE (n:=n) (k:=10000) (by omega);have a:cT .i64 (n*n)=n*n:=aF (by omega);refine ah FQ aI ?_;simp only[FQ,aI,a,sq,RN,z]
def Kv (l:Laid)(hg:l.p.good)(a b:Int)(ha:l.p.isW a)(hb:l.p.isW b):Pure C 166 [l.dv,dI a,dI b] (pI (l.p.far a b)) []:=by
 have h:=anv hg ha hb;have xa:=LJ hg ha;have i:=LJ hg hb;obtain⟨⟨e,f⟩,_⟩:=uo hg ha;obtain⟨⟨b3,g⟩,_⟩:=uo hg hb;obtain⟨c,d⟩:=ha;obtain⟨b1,b2⟩:=hb;refine ah BP jv ?_;simp only[BP,jv,kS,BA,pq,getD_map,c,d,e,f,b1,b2,b3,g,S,RN,z,F,H,I,N];rw[aF (by omega)];refine cO rfl rfl (D9 _ (by omega)) ?_;rw[aF (by omega)];refine cO rfl rfl (D9 _ (by omega)) ?_;simp only[Piece.far,Piece.pt,Piece.wh]at h;simp only[Piece.far,Piece.pt,Piece.wh,RN];rw[aF (by omega)]
def zn (l:Laid)(a b:Int)(ha:l.p.isW a)(hb:l.p.isW b):Pure C 164 [l.dv,dI a,dI b] (.d (.bool (l.p.level a b))) []:=by
 obtain⟨c,e⟩:=ha;obtain⟨b1,b2⟩:=hb;refine ah yV jv ?_;simp only[yV,jv,kS,pq,getD_map,c,e,b1,b2,S,Piece.level,Piece.wh,RN,z,F,N]
def lW (l:Laid)(a b:Int)(ha:l.p.isW a)(hb:l.p.isW b):Pure C 165 [l.dv,dI a,dI b] (.d (.bool (l.p.wR a b))) []:=by
 obtain⟨c,e⟩:=ha;obtain⟨b1,b2⟩:=hb;refine ah vS jv ?_;simp only[vS,jv,kS,pq,getD_map,c,e,b1,b2,S,Piece.wR,Piece.wh,RN,z,F,N]
def Sj (l:Laid)(hg:l.p.good)(a b:Int)(ha:l.p.isW a)(hb:l.p.isW b):Pure C 163 [l.dv,dI a,dI b] (pI (l.p.sum a b)) []:=by
 have ga:=uo hg ha;have e:=uo hg hb;obtain⟨c,d⟩:=ha;obtain⟨b1,b2⟩:=hb;refine ah BQ jv ?_;simp only[BQ,jv,kS,pq,getD_map,c,d,b1,b2,S,Piece.sum,Piece.wh,RN,z,F,N];rw[aF (by omega)]
def zU (l:Laid)(a b:Int)(ha:l.p.isW a)(hb:l.p.isW b):Pure C 106 [l.dv,dI a,dI b] (.d (.bool (l.p.I7 a b))) []:=by
 have f:=lW l a b ha hb;obtain⟨c,e⟩:=ha;obtain⟨b1,b2⟩:=hb;refine ah vT jv ?_;simp only[vT,jv,kS,RN,z,F,N];refine ak f ?_;cases h:l.p.wR a b
 ·simp only[Piece.I7,h,br,RN,z]
 ·simp only[pq,getD_map,c,e,b1,b2,S,Piece.I7,h,Piece.wh,RN,z,F,N]
def Zk (k:Ms):∀mm:List Ms,zY [1,1] (mm.map fun m=>(m.dv,DV.bool true)) [dI k.a,dI k.b]=some (if mm.contains k then some (.bool true)else none)
 | []=>rfl
 |m::mm=>by
  simp only[aq,Lr,zY,bW,if_true,bq,cJ,aiw,aR]
  by_cases h:k=m
  ·subst h;simp
  ·have hb:(k==m)=false:=by simp[h]
   have hd:decide (k=m)=false:=by simp[h]
   have:=Zk k mm;simp only[Lr]at this;simp only[hd,hb,cm,this]
variable{base:Nat}{K:PV->Mem->Prop}{KP:DV->Mem->Prop}
def YN {C:Ctx}{M:Mem}{mm:List Ms}{x y:Int}:
  au C base (.L6 [1,1] (.bool false)) [.d (.map (some (mm.map fun m=>(m.dv, .bool true)))), .d (.agg [dI x,dI y])] M K KP=K (.d (.bool (mm.contains ⟨x,y⟩))) M:=by
 have h:=Zk ⟨x,y⟩ mm;simp only at h;have a:bW [1,1] [dI x,dI y] [dI x,dI y]=some true:=by simp[bW]
 simp only[au,a,h];cases mm.contains ⟨x,y⟩<;>rfl
def Laid.fine (l:Laid):Prop:=∀m,l.mm.contains m=l.p.ms.contains m
def Ph (l:Laid)(hf:l.fine)(a b:Int):Pure C 105 [l.dv,dI a,dI b] (.d (.bool (l.p.mesh a b))) []:=by
 refine ah AA jv ?_;simp only[AA,jv,kS,YN,hf _,Piece.mesh,RN,z,F,N];have e1:(if b<a then b else a)=min a b:=by split<;>omega
 have e2:(if b>a then b else a)=max a b:=by split<;>omega
 rw[e1,e2]
variable{p:Piece}
def ajJ (hg:p.good){a b:Int}(ha:p.isW a)(hb:p.isW b):0<=p.sum a b/\p.sum a b<=2000:=by
 have h1:=uo hg ha;have h2:=uo hg hb;simp only[Piece.sum,Piece.wh];omega
def WV (l:Laid)(hg:l.p.good)(hf:l.fine)(a b:Int)(ha:l.p.isW a)(hb:l.p.isW b):Pure C 95 [l.dv,dI a,dI b] (.d (.bool (l.p.apart a b))) []:=by
 have g:=ajJ hg ha hb;have f:=hg.pl;have e:cT .i64 (l.p.sum a b+l.p.pl)=l.p.sum a b+l.p.pl:=aF (by omega);refine ah yT jv ?_;simp only[yT,jv,kS,RN,z,F,N]
 repeat' first
  |(refine ak (Sj l hg a b ha hb) ?_;try simp only[RN])
  |(refine ak (Ph l hf a b) ?_;try simp only[e,RN,z,F,H,I,J,N])
  |(refine ak (zn l a b ha hb) ?_;try simp only[RN])
  |(refine ak (lW l a b ha hb) ?_;try simp only[e,RN,z,F,H,I,J,N])
  |(refine ak (Kv l hg a b ha hb) ?_;try simp only[e,RN,z,F,H,I,J,N])
  |(refine cO rfl rfl (D9 _ (by omega)) ?_;try simp only[RN])
  |(refine aJ (by rfl) (fun c=> ?_) (fun c=> ?_)<;>simp only[c,e,RN,z,F,N])
  |(refine aK (by rfl) (fun c=> ?_) (fun c=> ?_)<;>simp only[c,e,RN,z,F,H,I,J,N])
 all_goals(first|(simp only[Piece.apart, *,BSN];done)|(simp_all[Piece.apart];done)|(simp_all[Piece.apart];omega))
def WX (l:Laid)(hg:l.p.good)(hf:l.fine)(a b:Int)(ha:l.p.isW a)(hb:l.p.isW b):Pure C 96 [l.dv,dI a,dI b] (.d (.bool (l.p.touch a b))) []:=by
 have g:=ajJ hg ha hb;have f:=hg.ga;have e:cT .i64 (l.p.sum a b+l.p.ga)=l.p.sum a b+l.p.ga:=aF (by omega);refine ah yX jv ?_;simp only[yX,jv,kS,RN,z,F,N]
 repeat' first
  |(refine ak (Sj l hg a b ha hb) ?_;try simp only[e,RN])
  |(refine ak (Ph l hf a b) ?_;try simp only[RN])
  |(refine ak (zn l a b ha hb) ?_;try simp only[e,RN,z,F,H,I,J,N])
  |(refine ak (lW l a b ha hb) ?_;try simp only[RN])
  |(refine ak (Kv l hg a b ha hb) ?_;try simp only[e,RN,z,F,H,I,J,N])
  |(refine cO rfl rfl (D9 _ (by omega)) ?_;try simp only[RN])
  |(refine aJ (by rfl) (fun c=> ?_) (fun c=> ?_)<;>simp only[c,RN,z,F,N])
  |(refine aK (by rfl) (fun c=> ?_) (fun c=> ?_)<;>simp only[c,e,RN,z,F,H,I,J,N])
 all_goals(first|(simp only[Piece.touch, *,BSN];done)|(simp_all[Piece.touch];done)|(simp_all[Piece.touch];omega))
def Ze (l:Laid)(a b:Int)(ha:l.p.isW a)(hb:l.p.isW b):Pure C 97 [l.dv,dI a,dI b] (.d (.bool (l.p.same a b))) []:=by
 refine ah AB jv ?_;simp only[AB,jv,kS,RN,z,F,N]
 repeat' first
  |(refine ak (zn l a b ha hb) ?_;try simp only[RN,z,F,H,I,J,N])
  |(refine ak (lW l a b ha hb) ?_;try simp only[RN,z,F,H,I,J,N])
  |(refine aJ (by rfl) (fun c=> ?_) (fun c=> ?_)<;>simp only[c,RN,z,F,N])
  |(refine aK (by rfl) (fun c=> ?_) (fun c=> ?_)<;>simp only[c,RN,z,F,H,I,J,N])
 all_goals(first|(simp only[Piece.same, *,BSN];done)|(simp_all[Piece.same];done)|(simp_all[Piece.same];omega))
def WW (l:Laid)(hg:l.p.good)(a:Int)(ha:l.p.isW a):Pure C 94 [l.dv,dI a] (.d (.bool (l.p.YG a))) []:=by
 have xa:=LJ hg ha;obtain⟨⟨g,h⟩,t1,t2,_⟩:=uo hg ha;obtain⟨e,f⟩:=ha;have w1:cT .i64 ((l.p.cs.getD (l.p.ws.getD a.toNat default).lN.toNat default).x+(l.p.ws.getD a.toNat default).aU)=(l.p.cs.getD (l.p.ws.getD a.toNat default).lN.toNat default).x+(l.p.ws.getD a.toNat default).aU:=aF (by omega);have c:cT .i64 ((l.p.cs.getD (l.p.ws.getD a.toNat default).lN.toNat default).y+(l.p.ws.getD a.toNat default).aU)=(l.p.cs.getD (l.p.ws.getD a.toNat default).lN.toNat default).y+(l.p.ws.getD a.toNat default).aU:=aF (by omega);refine ah yU aH ?_;simp only[yU,aH,kS,BA,pq,getD_map,e,f,g,h,S,RN,z,F,I,N]
 repeat' first
  |(refine cO rfl rfl (D9 _ (by omega)) ?_;try simp only[w1,c,RN,z,F,H,I,J,N])
  |(refine aJ (by rfl) (fun b=> ?_) (fun b=> ?_)<;>simp only[b,w1,c,RN,z,F,N])
  |(refine aK (by rfl) (fun b=> ?_) (fun b=> ?_)<;>simp only[b,w1,c,RN,z,F,H,I,J,N])
 all_goals(first|(simp only[Piece.YG,Piece.pt,Piece.wh, *,BSN];done)|(simp_all[Piece.YG,Piece.pt,Piece.wh];done)|(simp_all[Piece.YG,Piece.pt,Piece.wh];omega))
def FC (l:Laid)(hg:l.p.good)(a b:Int)(ha:l.p.isW a)(hb:l.p.isW b):Pure C 168 [dI a,dI b, .aP [dI l.p.w,dI l.p.h,dI l.p.pl,dI l.p.ga,dI l.p.po,sF (l.p.cs.map Pt.dv),sF (l.p.ws.map Wh.dv),sF (l.p.ms.map Ms.dv),
  .map (some (l.mm.map fun m=>(m.dv, .bool true))),sF (l.gone.map ay)]] (.d (.bool (l.p.post a b))) []:=by
 have g:=hg.po;have ak8:=Kv l hg a b ha hb;obtain⟨_,t1,t2,_⟩:=uo hg ha;obtain⟨e,f⟩:=ha;obtain⟨b1,b2⟩:=hb;have w1:cT .i64 ((l.p.ws.getD a.toNat default).aU+l.p.po)=(l.p.ws.getD a.toNat default).aU+l.p.po:=aF (by omega);refine ah uI wJ ?_;simp only[uI,wJ,pq,getD_map,e,f,b1,b2,S,RN,z,F,N]
 repeat' first
  |(refine ak (ak8) ?_;try simp only[w1,pq,getD_map,e,f,b1,b2,S,RN,z,F,H,I,J,N])
  |(refine cO rfl rfl (D9 _ (by omega)) ?_;try simp only[RN])
  |(refine aJ (by rfl) (fun c=> ?_) (fun c=> ?_)<;>simp only[c,w1,pq,getD_map,e,f,S,RN,z,F,N])
  |(refine aK (by rfl) (fun c=> ?_) (fun c=> ?_)<;>simp only[c,w1,pq,getD_map,e,f,b1,b2,S,RN,z,F,H,I,J,N])
 all_goals(first|(simp only[Piece.post,Piece.wh, *,BSN];done)|(simp_all[Piece.post,Piece.wh];done)|(simp_all[Piece.post,Piece.wh];omega))
def Us (l:Laid)(hg:l.p.good)(a b:Int)(ha:l.p.isW a)(hb:l.p.isW b):Pure C 99 [l.dv,dI a,dI b] (.d (.bool (l.p.Oq a b))) []:=by
 refine ah xK jv ?_;simp only[xK,jv,kS,RN,z,F,N]
 repeat' first
  |(refine ak (lW l a b ha hb) ?_;try simp only[RN])
  |(refine ig rfl (by kernel_rfl) rfl (FC l hg a b ha hb) ?_;try simp only[RN,z,F,H,I,J,N])
  |(refine ig rfl (by kernel_rfl) rfl (FC l hg b a hb ha) ?_;try simp only[RN,z,F,H,I,J,N])
  |(refine aJ (by rfl) (fun c=> ?_) (fun c=> ?_)<;>simp only[c,RN,z])
  |(refine aK (by rfl) (fun c=> ?_) (fun c=> ?_)<;>simp only[c,RN,z,F,H,I,J,N])
 all_goals(first|(simp only[Piece.Oq, *,BSN];done)|(simp_all[Piece.Oq];done)|(simp_all[Piece.Oq];omega))
def jc (l:Laid):List DV:=[dI l.p.w,dI l.p.h,dI l.p.pl,dI l.p.ga,dI l.p.po,sF (l.p.cs.map Pt.dv),sF (l.p.ws.map Wh.dv),sF (l.p.ms.map Ms.dv),
  .map (some (l.mm.map fun m=>(m.dv, .bool true))),sF (l.gone.map ay)]
variable{a b:Int}
def amJ:(if b<a then b else a)=min a b:=by split<;>omega
def amI:(if b>a then b else a)=max a b:=by split<;>omega
def Vk (p:Piece)(gone:List Int){a b i o:Int}(h1:p.wR a b=true)(h2:p.I7 a b=false)(c:p.level a b=false)(hi:(if(p.wh a).uY>(p.wh b).uY then b else a)=i)(ho:(if(p.wh a).uY>(p.wh b).uY then a else b)=o):
  p.nested gone a b=inR (p.wh i).layer ((p.bounds gone o 0 p.ws ((p.wh o).layer,(p.wh o).layer)).1+1) ((p.bounds gone o 0 p.ws ((p.wh o).layer,(p.wh o).layer)).2 - 1):=by
 simp only[Piece.nested,h1,h2,c,hi,ho,Bool.not_true,Bool.or_self,ax,if_false]
def Ur (l:Laid)(hg:l.p.good)(m:l.gone.length<=1000000)(a b:Int)(ha:l.p.isW a)(hb:l.p.isW b):Pure C 98 [l.dv,dI a,dI b] (.d (.bool (l.p.nested l.gone a b))) []:=by
 have u:=hg.lw;have ga:=uo hg ha;have v:=uo hg hb;obtain⟨n,q⟩:=id ha;obtain⟨b1,b2⟩:=id hb;refine ah xJ jv ?_;simp only[xJ,jv,kS,RN,z,F,N]
 repeat' first
  |(refine ak (lW l a b ha hb) ?_;try simp only[RN])
  |(refine ak (zU l a b ha hb) ?_;try simp only[pq,getD_map,n,q,b1,b2,S,RN,z,F,H,I,J,N])
  |(refine ak (zn l a b ha hb) ?_;try simp only[pq,getD_map,n,q,b1,b2,S,RN,z,F,H,I,J,N])
  |(refine aJ (by rfl) (fun e=> ?_) (fun e=> ?_)<;>simp only[e,RN,z,F,N])
  |(refine aK (by rfl) (fun e=> ?_) (fun e=> ?_)<;>simp only[e,pq,getD_map,n,q,b1,b2,S,RN,z,F,N])
 any_goals (simp_all[Piece.nested];done)
 all_goals have h:=e
 ·
  refine aG l.p.ws.length (fun i (r:Int×Int)=>⟨[(3, .d (.aP (jc l))),(7,pI b),(8,pI a),(9,pI r.1),(10,pI r.2),(65, .d (sF (l.p.ws.map Wh.dv))),(66,pI l.p.ws.length),(67,pI i)],⟨[some ((jc l).map .d)],[0],[]⟩⟩)
   (fun i r=>l.p.bounds l.gone a 0 l.p.ws ((l.p.wh a).layer,(l.p.wh a).layer)=l.p.bounds l.gone a i (l.p.ws.drop i) r/\(0<=r.1/\r.1<=1000)/\0<=r.2/\r.2<=1000) 0 ((l.p.wh a).layer,(l.p.wh a).layer) (ae _) rfl ⟨rfl,by simp only[Piece.wh];omega,by simp only[Piece.wh];omega⟩ (fun i r h1 c=> ?_) (fun r c=> ?_)
  ·obtain⟨h2,k,j⟩:=rng h1 (by omega)
   obtain⟨c,f,g⟩:=c;rw[drop_cons h1,Piece.bounds]at c;have s:=hg.ws _ (getD_mem h1);have hi:l.p.isW (i:Int):=⟨k,by simpa using h1⟩
   simp only[h2,k,h1,getD_map,U,S,pq,jc,RN,z,F,I,N]
   repeat' first
    |(refine ak (zU l i a hi ha) ?_;try simp only[j,RN,z,F,H,I,J,N])
    |(refine ak (qH _ _ m) ?_;try simp only[RN])
    |(refine aJ (by rfl) (fun e=> ?_) (fun e=> ?_)<;>simp only[e,j,RN,z,F,N])
    |(refine aK (by rfl) (fun e=> ?_) (fun e=> ?_)<;>simp only[e,j,RN,z,F,N])
   ·refine bQ 1 0 (min r.1 (l.p.ws.getD i default).layer,max r.2 (l.p.ws.getD i default).layer) h1 ?_ ⟨?_,by simp only;omega,by simp only;omega⟩ (by simp) (by simp) rfl rfl
    ·simp only[amJ,amI];rfl
    ·rw[c,if_pos (by simp only[*,cl])]
   ·refine bQ 1 0 r h1 rfl ⟨?_,f,g⟩ (by simp) (by simp) rfl rfl
    rw[c,if_neg (by simp_all)]
   ·refine bQ 1 0 r h1 rfl ⟨?_,f,g⟩ (by simp) (by simp) rfl rfl
    rw[c,if_neg (by simp_all)]
  ·obtain⟨c,f,g⟩:=c
   rw[av,Piece.bounds]at c;have w1:cT .i64 (r.1+1)=r.1+1:=aF (by omega);have t:cT .i64 (r.2 - 1)=r.2 - 1:=aF (by omega);simp only[ao,jc,getD_map,b1,b2,pq,S,w1,t,RN,z,F,N];refine ak (RU _ _ _) ?_;rw[Vk l.p l.gone (by simp_all) (by simp_all) (by simp_all) (i:=b) (o:=a) (by rw[if_pos];simpa[Piece.wh]using h) (by rw[if_pos];simpa[Piece.wh]using h),c]
   rfl
 ·
  refine aG l.p.ws.length (fun i (r:Int×Int)=>⟨[(3, .d (.aP (jc l))),(7,pI a),(8,pI b),(9,pI r.1),(10,pI r.2),(65, .d (sF (l.p.ws.map Wh.dv))),(66,pI l.p.ws.length),(67,pI i)],⟨[some ((jc l).map .d)],[0],[]⟩⟩)
   (fun i r=>l.p.bounds l.gone b 0 l.p.ws ((l.p.wh b).layer,(l.p.wh b).layer)=l.p.bounds l.gone b i (l.p.ws.drop i) r/\(0<=r.1/\r.1<=1000)/\0<=r.2/\r.2<=1000) 0 ((l.p.wh b).layer,(l.p.wh b).layer) (ae _) rfl ⟨rfl,by simp only[Piece.wh];omega,by simp only[Piece.wh];omega⟩ (fun i r h1 c=> ?_) (fun r c=> ?_)
  ·obtain⟨h2,k,j⟩:=rng h1 (by omega)
   obtain⟨c,f,g⟩:=c;rw[drop_cons h1,Piece.bounds]at c;have s:=hg.ws _ (getD_mem h1);have hi:l.p.isW (i:Int):=⟨k,by simpa using h1⟩
   simp only[h2,k,h1,getD_map,U,S,pq,jc,RN,z,F,I,N]
   repeat' first
    |(refine ak (zU l i b hi hb) ?_;try simp only[j,RN,z,F,H,I,J,N])
    |(refine ak (qH _ _ m) ?_;try simp only[RN])
    |(refine aJ (by rfl) (fun e=> ?_) (fun e=> ?_)<;>simp only[e,j,RN,z,F,N])
    |(refine aK (by rfl) (fun e=> ?_) (fun e=> ?_)<;>simp only[e,j,RN,z,F,N])
   ·refine bQ 1 0 (min r.1 (l.p.ws.getD i default).layer,max r.2 (l.p.ws.getD i default).layer) h1 ?_ ⟨?_,by simp only;omega,by simp only;omega⟩ (by simp) (by simp) rfl rfl
    ·simp only[amJ,amI];rfl
    ·rw[c,if_pos (by simp only[*,cl])]
   ·refine bQ 1 0 r h1 rfl ⟨?_,f,g⟩ (by simp) (by simp) rfl rfl
    rw[c,if_neg (by simp_all)]
   ·refine bQ 1 0 r h1 rfl ⟨?_,f,g⟩ (by simp) (by simp) rfl rfl
    rw[c,if_neg (by simp_all)]
  ·obtain⟨c,f,g⟩:=c
   rw[av,Piece.bounds]at c;have w1:cT .i64 (r.1+1)=r.1+1:=aF (by omega);have t:cT .i64 (r.2 - 1)=r.2 - 1:=aF (by omega);simp only[ao,jc,getD_map,n,q,pq,S,w1,t,RN,z,F,N];refine ak (RU _ _ _) ?_;rw[Vk l.p l.gone (by simp_all) (by simp_all) (by simp_all) (i:=a) (o:=b) (by rw[if_neg];simpa[Piece.wh]using h) (by rw[if_neg];simpa[Piece.wh]using h),c]
   rfl
def WY (l:Laid)(hg:l.p.good)(hf:l.fine)(o:l.gone.length<=1000000)(a b:Int)(ha:l.p.isW a)(hb:l.p.isW b):Pure C 38 [l.dv,dI a,dI b] (pI (l.p.wrong l.gone a b)) []:=by
 refine ah qw jv ?_
 by_cases e:a=b
 ·subst e
  simp only[qw,jv,kS,beq_self_eq_true,RN,z,F,N]
  repeat' first
   |(refine ak (WW l hg a ha) ?_;try simp only[RN,z,F,H,I,J,N])
   |(refine aJ (by rfl) (fun c=> ?_) (fun c=> ?_)<;>simp only[c,RN,z,F,H,I,J,N])
   |(refine aK (by rfl) (fun c=> ?_) (fun c=> ?_)<;>simp only[c,RN])
  all_goals(first|(simp only[Piece.wrong, *,BSN];done)|(simp_all[Piece.wrong];done)|(simp_all[Piece.wrong];omega))
 ·have q:(a==b)=false:=by simpa using e
  simp only[qw,jv,kS,q,RN,z,F,N];refine aG 5 (fun i (_:Unit)=>⟨[(1,pI a),(2,pI b),(25, .d (.agg [.func (.func 95) [l.dv] [], .func (.func 96) [l.dv] [], .func (.func 97) [l.dv] [], .func (.func 98) [l.dv] [], .func (.func 99) [l.dv] []])),(26,pI i)],⟨[some ((jc l).map .d)],[0],[]⟩⟩)
   (fun i _=>(0<i->l.p.apart a b=false)/\(1<i->l.p.touch a b=false)/\(2<i->l.p.same a b=false)/\(3<i->l.p.nested l.gone a b=false)/\(4<i->l.p.Oq a b=false)) 0 () (by decide) rfl ⟨by omega,by omega,by omega,by omega,by omega⟩ (fun i _ h1 n=> ?_) (fun _ n=> ?_)
  ·obtain⟨f,g,h,k,m⟩:=n
   have r:((0:Nat):Int)=0:=rfl;have s:((1:Nat):Int)=1:=rfl;have t:((2:Nat):Int)=2:=rfl;have u:((3:Nat):Int)=3:=rfl;have v:((4:Nat):Int)=4:=rfl;have j:((5:Nat):Int)=5:=rfl
   rcases i with _| _| _| _| _|i
   ·have e1:cT .i64 ((0:Int)+1)=1:=by decide
    have e2:cT .i64 (2+(0:Int))=2:=by decide
    simp only[jc,F,bi,r,j,bE,cg,cG,Nat.zero_mul,RN,z,F,H,N]
    repeat' first
     |(refine ig rfl (by kernel_rfl) rfl (WV l hg hf a b ha hb) ?_;try simp only[e1,e2,RN,z,F,H,I,J,N])
     |(refine aJ (by rfl) (fun c=> ?_) (fun c=> ?_)<;>simp only[c,e1,e2,RN,z,F,H,I,J,N])
     |(refine aK (by rfl) (fun c=> ?_) (fun c=> ?_)<;>simp only[c,e1,e2,RN,z])
    ·simp only[Piece.wrong,if_neg e,c,if_true]
    ·exact dh () h1 rfl ⟨by first|exact fun _=>trivial|exact fun _=>c|(intro _;trivial),by omega,by omega,by omega,by omega⟩ (by simp) (by simp) rfl rfl
   ·have e1:cT .i64 ((1:Int)+1)=2:=by decide
    have e2:cT .i64 (2+(1:Int))=3:=by decide
    simp only[jc,F,bi,s,j,bE,b7,Int.toNat_one,Nat.one_mul,RN,z,F,H,N]
    repeat' first
     |(refine ig rfl (by kernel_rfl) rfl (WX l hg hf a b ha hb) ?_;try simp only[e1,e2,RN,z,F,H,I,J,N])
     |(refine aJ (by rfl) (fun c=> ?_) (fun c=> ?_)<;>simp only[c,e1,e2,RN,z,F,H,I,J,N])
     |(refine aK (by rfl) (fun c=> ?_) (fun c=> ?_)<;>simp only[c,e1,e2,RN,z])
    ·simp only[Piece.wrong,if_neg e,f (by omega),c,if_true,if_false,ax]
    ·exact dh () h1 rfl ⟨fun _=>f (by omega),by first|exact fun _=>trivial|exact fun _=>c|(intro _;trivial),by omega,by omega,by omega⟩ (by simp) (by simp) rfl rfl
   ·have e1:cT .i64 ((2:Int)+1)=3:=by decide
    have e2:cT .i64 (2+(2:Int))=4:=by decide
    simp only[jc,F,bi,t,j,bE,b7,ca,cq,RN,z,F,H,N]
    repeat' first
     |(refine ig rfl (by kernel_rfl) rfl (Ze l a b ha hb) ?_;try simp only[e1,e2,RN,z,F,H,I,J,N])
     |(refine aJ (by rfl) (fun c=> ?_) (fun c=> ?_)<;>simp only[c,e1,e2,RN,z,F,H,I,J,N])
     |(refine aK (by rfl) (fun c=> ?_) (fun c=> ?_)<;>simp only[c,e1,e2,RN,z])
    ·simp only[Piece.wrong,if_neg e,f (by omega),g (by omega),c,if_true,if_false,ax]
    ·exact dh () h1 rfl ⟨fun _=>f (by omega),fun _=>g (by omega),by first|exact fun _=>trivial|exact fun _=>c|(intro _;trivial),by omega,by omega⟩ (by simp) (by simp) rfl rfl
   ·have e1:cT .i64 ((3:Int)+1)=4:=by decide
    have e2:cT .i64 (2+(3:Int))=5:=by decide
    simp only[jc,F,bi,u,j,bE,b7,ca,cq,RN,z,F,H,N]
    repeat' first
     |(refine ig rfl (by kernel_rfl) rfl (Ur l hg o a b ha hb) ?_;try simp only[e1,e2,RN,z,F,H,I,J,N])
     |(refine aJ (by rfl) (fun c=> ?_) (fun c=> ?_)<;>simp only[c,e1,e2,RN,z,F,H,I,J,N])
     |(refine aK (by rfl) (fun c=> ?_) (fun c=> ?_)<;>simp only[c,e1,e2,RN,z])
    ·simp only[Piece.wrong,if_neg e,f (by omega),g (by omega),h (by omega),c,if_true,if_false,ax]
    ·exact dh () h1 rfl ⟨fun _=>f (by omega),fun _=>g (by omega),fun _=>h (by omega),by first|exact fun _=>trivial|exact fun _=>c|(intro _;trivial),by omega⟩ (by simp) (by simp) rfl rfl
   ·have e1:cT .i64 ((4:Int)+1)=5:=by decide
    have e2:cT .i64 (2+(4:Int))=6:=by decide
    simp only[jc,F,bi,v,j,bE,b7,ca,cq,RN,z,F,H,N]
    repeat' first
     |(refine ig rfl (by kernel_rfl) rfl (Us l hg a b ha hb) ?_;try simp only[e1,e2,RN,z,F,H,I,J,N])
     |(refine aJ (by rfl) (fun c=> ?_) (fun c=> ?_)<;>simp only[c,e1,e2,RN,z,F,H,I,J,N])
     |(refine aK (by rfl) (fun c=> ?_) (fun c=> ?_)<;>simp only[c,e1,e2,RN,z])
    ·simp only[Piece.wrong,if_neg e,f (by omega),g (by omega),h (by omega),k (by omega),c,if_true,if_false,ax]
    ·exact dh () h1 rfl ⟨fun _=>f (by omega),fun _=>g (by omega),fun _=>h (by omega),fun _=>k (by omega),by first|exact fun _=>trivial|exact fun _=>c|(intro _;trivial)⟩ (by simp) (by simp) rfl rfl
   ·omega
  ·obtain⟨f,g,h,k,m⟩:=n
   have f:=f (by omega);have g:=g (by omega);have h:=h (by omega);have k:=k (by omega);have m:=m (by omega);have j:((5:Nat):Int)=5:=rfl;simp only[jc,j,ao,RN,z];simp only[Piece.wrong,if_neg e,f,g,h,k,m,if_false,ax]
def Piece.adG (h:p.ok=true):(1<=p.cs.length/\p.cs.length<=6)/\p.ws.length<=8/\p.ms.length<=10:=by
 simp only[Piece.ok,Piece.Xa,inR,ap,decide_eq_true_eq,Bool.not_eq_true',decide_eq_false_iff_not,ge_iff_le,gt_iff_lt]at h;omega
def Vx {w h:Int}:∀{pre cs:List Pt},PW w h pre cs=true->∀c∈cs,0<=c.x/\c.x<=w/\0<=c.y/\c.y<=h
 | _,[],_,c,a=>by cases a
 |pre,d::cs,b,c,a=>by
  simp only[PW,inR,ap,decide_eq_true_eq,ge_iff_le]at b
  rcases az.1 a with rfl|a
  ·omega
  ·exact Vx b.2 c a
def Piece.Xk (h:p.ok=true):p.good:=by
 have f:=Piece.adG h;simp only[Piece.ok,Piece.WH,ap]at h;obtain⟨⟨⟨⟨hh,_⟩,d⟩,g⟩,e⟩:=h;simp only[inR,ap,decide_eq_true_eq,ge_iff_le]at hh;refine⟨fun c b=> ?_,fun w a=> ?_,by omega,by omega,by omega,by omega,by omega,by omega⟩
 ·have:=Vx d c b
  omega
 ·have:=bw.1 e w a
  simp only[acU,inR,ap,decide_eq_true_eq,ge_iff_le]at this;omega
def Piece.ctr (p:Piece)(w:Wh):Pt:=p.cs.getD w.lN.toNat default
def Piece.xs (p:Piece):List Wh->List Int
 | []=>[]
 |w::ws=>((p.ctr w).x - w.aU)::((p.ctr w).x+w.aU)::Piece.xs p ws
def Piece.ys (p:Piece):List Wh->List Int
 | []=>[]
 |w::ws=>((p.ctr w).y - w.aU)::((p.ctr w).y+w.aU)::Piece.ys p ws
def maxL (l:List Int):Int:=(l.drop 1).foldl max (l.getD 0 default)
def minL (l:List Int):Int:=(l.drop 1).foldl min (l.getD 0 default)
def Piece.frame (p:Piece):Int×Int×Int:=
 if p.ok then(if p.ws.length=0 then(0,0,5)else(maxL (p.xs p.ws) - minL (p.xs p.ws),maxL (p.ys p.ws) - minL (p.ys p.ws),0))else(0,0,2)
def take_snoc {α:Type}[Inhabited α]{l:List α}{i:Nat}(h:i<l.length):l.take (i+1)=l.take i++ [l.getD i default]:=by
 rw[List.take_add_one,bo h,bl,bo h];rfl
variable{k v s:Nat}
def agP {l:List PV}:gV (.tsl k v s::l)=none:=rfl
def aeQ (xs:List DV)(hf:∀y∈xs,y.fits 2=true)(hl:xs.length<=1000000):Pure C 143 [.slice false xs] (.tsl 0 0 0) [⟨2,xs,0,0⟩]:=by
 refine eU dA aI ?_;simp only[dA,aI,RN,z,J];refine⟨fun a=> ?_,fun a b=> ?_⟩
 ·exact⟨hf,by simp,by simp,by omega,gJ (k:=1) (A:=⟨2,xs,0,0⟩) rfl rfl (ae _) rfl⟩
 ·subst a
  cases b
  ·(try simp only[RN,z,J,N])
   refine⟨?_,?_,?_,gJ (k:=1) (A:=⟨2,[],0,0⟩) rfl rfl (ae _) rfl⟩<;>simp
  ·(try simp only[RN,z,J])
   exact gJ (k:=1) (A:=⟨2,[],0,0⟩) rfl rfl (ae _) rfl
def aeR (xs:List DV)(hf:∀y∈xs,y.fits 4=true)(hl:xs.length<=1000000):Pure C 144 [.slice false xs] (.tsl 0 0 0) [⟨4,xs,0,0⟩]:=by
 refine eU fP aI ?_;simp only[fP,aI,RN,z,J];refine⟨fun a=> ?_,fun a b=> ?_⟩
 ·exact⟨hf,by simp,by simp,by omega,gJ (k:=1) (A:=⟨4,xs,0,0⟩) rfl rfl (ae _) rfl⟩
 ·subst a
  cases b
  ·(try simp only[RN,z,J,N])
   refine⟨?_,?_,?_,gJ (k:=1) (A:=⟨4,[],0,0⟩) rfl rfl (ae _) rfl⟩<;>simp
  ·(try simp only[RN,z,J])
   exact gJ (k:=1) (A:=⟨4,[],0,0⟩) rfl rfl (ae _) rfl
def aeO (xs:List DV)(hf:∀y∈xs,y.fits 2=true)(hl:xs.length<=1000000):Pure C 145 [.slice false xs] (.tsl 0 0 0) [⟨2,xs,0,0⟩]:=by
 refine eU dA aI ?_;simp only[dA,aI,RN,z,J];refine⟨fun a=> ?_,fun a b=> ?_⟩
 ·exact⟨hf,by simp,by simp,by omega,gJ (k:=1) (A:=⟨2,xs,0,0⟩) rfl rfl (ae _) rfl⟩
 ·subst a
  cases b
  ·(try simp only[RN,z,J,N])
   refine⟨?_,?_,?_,gJ (k:=1) (A:=⟨2,[],0,0⟩) rfl rfl (ae _) rfl⟩<;>simp
  ·(try simp only[RN,z,J])
   exact gJ (k:=1) (A:=⟨2,[],0,0⟩) rfl rfl (ae _) rfl
def alP (xs:List Pt):∀y∈xs.map Pt.dv,y.fits 2=true:=by
 intro y a;obtain⟨n,_,rfl⟩:=aE.1 a;rfl
def amm (xs:List Wh):∀y∈xs.map Wh.dv,y.fits 4=true:=by
 intro y a;obtain⟨n,_,rfl⟩:=aE.1 a;rfl
def alE (xs:List Ms):∀y∈xs.map Ms.dv,y.fits 2=true:=by
 intro y a;obtain⟨n,_,rfl⟩:=aE.1 a;rfl
def Piece.with (p:Piece)(at_:Pt)(layer aU:Int)(a:List Int):Piece:=
 {p with cs:=p.cs++ [at_],ws:=p.ws++ [⟨p.cs.length,0,layer,aU⟩],ms:=p.ms++a.map fun m=>⟨m,p.ws.length⟩}
def XG {n k v s:Nat}:PV.shift n (.tsl k v s)= .tsl (n+k) v s:=rfl
def ac8:PV.cells (.tsl k v s)=[.tsl k v s]:=rfl
def adH:PV.one (.tsl k v s)=true:=rfl
def SB {α:Type}{f:α->α}{a:α}:∀{l:List α} {k:Nat},(l.set k a).modify k f=l.set k (f a)
 | [],k=>by simp
 |x::l,0=>by simp
 |x::l,k+1=>by simp only[List.set_cons_succ,List.modify_succ_cons,SB]
variable{ar:List (Option Arr)}
def Qp {C:Ctx}{bs:List (Option (List PV))}{fz:List Nat}{ver skip sz st:Nat}{xs ys:List DV}{ex:Bool}(h:ar[k]?=some (some ⟨sz,xs,ver,st⟩))(a:st≠2)(b:0<sz)(hf:∀y∈ys,y.fits sz=true)
  (hl:xs.length+ys.length<=1073741824)(c:K (.d (sF (xs.drop skip++ys))) ⟨bs,fz,ar.set k (some ⟨sz,xs.drop skip++ys,ver+1,2⟩)⟩):au C base (.QM sz) [.tsl k ver skip, .d (.slice ex ys)] ⟨bs,fz,ar⟩ K KP:=by
 have f:k<ar.length:=(V.1 h).1;simp only[au,agT,h,X9];refine⟨b,hf,fun hh=>(by cases hh),trivial,trivial,a,hl,DV.slice false (xs.drop skip++ys),?_,?_⟩
 ·simp[datum,F9,f]
 ·have e:(⟨bs,fz,ar.set k (some ⟨sz,xs.drop skip++ys,ver+1,bif false then 1 else st⟩)⟩:Mem).frz [.tsl k (ver+1) 0]=⟨bs,fz,ar.set k (some ⟨sz,xs.drop skip++ys,ver+1,2⟩)⟩:=by
   simp only[Mem.frz,kK,lg,bN,cA,a7,bA,Gh,cD,cH,SB,bq]
  rw[e];exact c
def ajV (p:Piece)(at_:Pt)(layer aU:Int)(a:List Int)(hc:p.cs.length<=1000)(g:p.ws.length<=1000)(f:p.ms.length<=1000)(ho:a.length<=1000):
  Pure C 80 [p.dv,at_.dv,dI layer,dI aU,sF (a.map ay)] (.d (p.with at_ layer aU a).dv) []:=by
 refine Ux mixed rfl Uu ?_;have b:cT .i64 (((p.cs.length+1:Nat):Int) - 1)=p.cs.length:=by rw[aF (by omega)];omega
 simp only[JC,ajc,ug,BA,S,RN,z,F,J,N];refine mF rfl rfl (aeQ _ (alP p.cs) (by simp;omega)) (by simp) ?_;simp only[XG,am,bi,aq,bh,bA];refine⟨rfl,Qp rfl (by decide) (by decide) (by simp[DV.strip,DV.fits,DV.cells,DV.one]) (by simp;omega) ?_⟩;simp only[DV.strip,RN,F,I,J,N];refine mF rfl rfl (aeR _ (amm p.ws) (by simp;omega)) (by simp) ?_;simp only[XG,b,W,S,RN,F,N];refine Qp rfl (by decide) (by decide) (by simp[DV.fits,DV.cells,DV.one]) (by simp;omega) ?_;simp only[RN,F,I,N];refine mF rfl rfl (aeO _ (alE p.ms) (by simp;omega)) (by simp) ?_;simp only[XG,ac8,adH,RN,F,I,N];refine aG a.length (fun i (_:Unit)=>⟨[(5, .ptr 0 0),(10, .ptr 2 0),(11,pI p.ws.length),(41, .d (sF (a.map ay))),(42,pI a.length),(43,pI i)],
   ⟨[some [pI p.w,pI p.h,pI p.pl,pI p.ga,pI p.po, .d (sF (p.cs.map Pt.dv++ [.agg [dI at_.x,dI at_.y]])), .d (sF (p.ws.map Wh.dv++ [.agg [dI p.cs.length,dI 0,dI layer,dI aU]])), .tsl 2 i 0],
    some [pI at_.x,pI at_.y],some [pI 0,pI 0,pI 0,pI 0,pI 0, .d (.slice true []), .d (.slice true []), .d (.slice true [])]],[1],
    [some ⟨2,p.cs.map Pt.dv++ [.agg [dI at_.x,dI at_.y]],1,2⟩,some ⟨4,p.ws.map Wh.dv++ [.agg [dI p.cs.length,dI 0,dI layer,dI aU]],1,2⟩,some ⟨2,p.ms.map Ms.dv++(a.take i).map (fun m=>Ms.dv ⟨m,p.ws.length⟩),i,0⟩]⟩⟩)
  (fun _ _=>True) 0 () (ae _) (by simp) trivial (fun i _ h1 _=> ?_) (fun _ _=> ?_)
 ·obtain⟨h2,c,e⟩:=rng h1 (by omega)
  simp only[h2,c,h1,e,getD_map,U,S,aW,forall_eq,W,ac8,adH,RN,z,F,I,J,N];refine⟨rfl,rfl,fun hh=>(by cases hh),(by simp;omega),?_⟩;refine dh () h1 ?_ trivial (by simp) (by simp) rfl rfl;rw[take_snoc h1,bp,<-bk]
  rfl
 ·simp only[ao,bS,agP,aM,dD,PV.cells,adH,RN,z,F,I,N]
  simp[datum,bT,dR,F9,Piece.with,BA,pq]
def dvL (l:List Int):DV:=sF (l.map ay)
def Ji (o:PV)(ar:List (Option Arr))(a:List (List Int)):Prop:=
 (o= .d (.slice true [])/\a=[])\/∃k ver,o= .tsl k ver 0/\ar[k]?=some (some ⟨1,a.map dvL,ver,0⟩)
def Ji.upto {o:PV}{ar:List (Option Arr)}{a:List (List Int)}(h:Ji o ar a)(n:Nat):o.upto n ar.length=true:=by
 rcases h with⟨rfl,_⟩|⟨k,ver,rfl,h⟩
 ·rfl
 ·simpa[PV.upto]using(V.1 h).1
def Ji.one {o:PV}{ar:List (Option Arr)}{a:List (List Int)}(h:Ji o ar a):o.cells=[o]/\o.one=true:=by
 rcases h with⟨rfl,_⟩|⟨k,ver,rfl,_⟩<;>exact⟨rfl,rfl⟩
def Ji.more {o:PV}{a:List (List Int)}(h:Ji o ar a)(x:List (Option Arr)):Ji o (ar++x) a:=by
 rcases h with h|⟨k,ver,rfl,h⟩
 ·exact .inl h
 ·exact .inr ⟨k,ver,rfl,by rw[aL (V.1 h).1];exact h⟩
def Ji.set {o:PV}{ar:List (Option Arr)}{a:List (List Int)}(h:Ji o ar a){x y:Option Arr}:Ji o ((ar++ [x]).set ar.length y) a:=by
 have:=h.more [y]
 simpa using this
end Go.Tel
namespace Go.Am
def Ib {C:Ctx}(u:C.P.follows .mixedOrders=true){f:FuncId}{ds:List DV}{x:DV}{pc:aA}{m:List iy}{a:Nat}(z:(ds.map PV.d).length=a)(hc:Dc C.P f a pc m=true)
  (h:pwp C 0 0 pc (Qg m (fun p M=>∃y,datum M p=some y/\y.strip=x) (fun _ _=>False)) ⟨sN 0 (ds.map .d),bG⟩):Pure C f ds (.d x) []:=by
 have j:SC C f (ds.map .d) bG (fun p M=>∃y,datum M p=some y/\y.strip=x) (fun _ _=>False):=D6 u z hc h;intro X w g s t D B;refine(j X w ⟨[],[]⟩ g (D8 s t D) (aQ.ofD (B.weaken sG))).mono fun e E i=> ?_
 cases e with
 |returned v=>
  obtain⟨p,k,n,⟨y,hd,rfl⟩,h2,o,r⟩:=i;have l:xA k []:=⟨fun q A=>(by cases A),List.nodup_nil⟩
  exact⟨v,_,rfl,Nr h2 l,Gy o l, .d (((jB (ps:=[p]) h2 r hd (by simp)).weaken fun b hb=> .inl (sG b hb)).strip)⟩
 |panicked c=>
  obtain⟨v,d,k,n,_,hh,_⟩:=i;exact hh.elim
 |outgrown=>exact i.elim
end Go.Am
namespace Go.Tel
open Go.Am
def upTo (n:Nat):List Int:=(List.range n).map Int.ofNat
def Ea (n:Nat):(upTo n).length=n:=by simp[upTo]
def Laid.cells (l:Laid):List DV:=[dI l.p.w,dI l.p.h,dI l.p.pl,dI l.p.ga,dI l.p.po,sF (l.p.cs.map Pt.dv),sF (l.p.ws.map Wh.dv),sF (l.p.ms.map Ms.dv),
  .map (some (l.mm.map fun m=>(m.dv, .bool true))),sF (l.gone.map ay)]
def OL {n i:Nat}(h:i<n):(upTo n).getD i default=i:=by
 simp[upTo,bl,h]
def aml {n:Nat}(h:n<=1000000):cT .i64 ((n:Int)+1)=((n+1:Nat):Int):=by rw[aF (by omega)];omega
def LW:List Ms->List Ms->List Ms
 |mm,[]=>mm
 |mm,m::l=>LW (if mm.contains m then mm else mm++ [m]) l
def GU (x:Ms):∀(l mm:List Ms),(LW mm l).contains x=(mm.contains x||l.contains x)
 | [],mm=>by simp[LW]
 |m::l,mm=>by
  rw[LW,GU x l]
  by_cases h:mm.contains m=true
  ·rw[if_pos h,aR]
   by_cases a:x=m
   ·subst a;rw[h];simp
   ·have:(x==m)=false:=by simp[a]
    rw[this,cm]
  ·rw[if_neg h,aR,List.contains_append,aR,List.contains_nil,cK,Bool.or_assoc]
def Piece.laid (p:Piece)(gone:List Int):Laid:=⟨p,LW [] p.ms,gone⟩
def Piece.afz (p:Piece)(gone:List Int):(p.laid gone).fine:=fun m=>by rw[Piece.laid,GU];rfl
def aoN:Prop:=∀(p:Piece) (gone:List Int),p.ms.length<=1000->gone.length<=1000->Pure C 37 [p.dv,sF (gone.map ay)] (.d (p.laid gone).dv) []
structure Flt where
 a:Int
 b:Int
 kind:Int
 deriving DecidableEq,Inhabited
def Flt.dv (f:Flt):DV:= .agg [dI f.a,dI f.b,dI f.kind]
end Go.Tel
namespace Go.Am
variable{K:St->Prop}{t:Nat}{ts:List Nat}{env:List (Nat×PV)}
def ahL {x:DV}{M:Mem}:Ko (.d x) t ts K env M=sQ ts K ⟨(t, .d x)::env,M⟩:=by
 simp only[Ko,datum];rw[show M.frz [PV.d x]=M from BG (ds:=[x])]
def ahM {k ver skip sz st:Nat}{xs:List DV}{bs:List (Option (List PV))}{fz:List Nat}{ar:List (Option Arr)}(h:ar[k]?=some (some ⟨sz,xs,ver,st⟩))
  (a:sQ ts K ⟨(t, .d (sF (xs.drop skip)))::env,⟨bs,fz,ar.set k (some ⟨sz,xs,ver,2⟩)⟩⟩):Ko (.tsl k ver skip) t ts K env ⟨bs,fz,ar⟩:=by
 have b:=(V.1 h).1;simp only[Ko,aeX h rfl];have e:(⟨bs,fz,ar⟩:Mem).frz [.tsl k ver skip]=⟨bs,fz,ar.set k (some ⟨sz,xs,ver,2⟩)⟩:=by
  simp only[Mem.frz,kK,lg,bN,cA,a7,bA,Gh,cD,cH]
  congr 1
  apply List.ext_getElem?;intro i;rw[List.getElem?_modify,List.getElem?_set]
  by_cases hi:k=i
  ·subst hi
   simp[b];exact⟨_,(V.1 h).2,rfl,rfl,rfl⟩
  ·simp[hi]
 rw[e];exact a
end Go.Am
namespace Go.Tel
open Go.Am
def Vw:aA:=(.loop (.seq (.region false [⟨some 82, .bin .lss,[.t 81, .t 80],none,0⟩] 0 [1,2,4,8,10,11,80,81,82] []) (.seq (.cond (.t 82) .skip (.exit 0)) (.seq (.block 1 (.seq (.region false [⟨some 83, .mov,[.t 81],none,0⟩,⟨some 12, .mov,[.t 83],none,0⟩] 0 [1,2,4,8,10,11,12,80,81] []) (.scope (.seq (.label 0) (.seq (.region false [⟨some 84, .fld 1,[.t 4],none,0⟩,⟨some 85, .load false 1,[.t 84],none,0⟩,⟨some 86, .bin .add,[.t 85, .c (dI 1)],none,0⟩,⟨some 87, .mov,[.c (dI 0)],none,0⟩] 0 [1,2,4,8,10,11,12,80,81,86,87] []) (.block 2 (.loop (.seq (.region false [⟨some 88, .bin .lss,[.t 87, .t 86],none,0⟩] 0 [1,2,4,8,10,11,12,80,81,86,87,88] []) (.seq (.cond (.t 88) .skip (.exit 2)) (.seq (.block 3 (.seq (.region false [⟨some 89, .mov,[.t 87],none,0⟩,⟨some 13, .mov,[.t 89],none,0⟩] 0 [1,2,4,8,10,11,12,13,80,81,86,87] []) (.seq (.region false [⟨some 90, .mov,[.t 12],none,0⟩,⟨some 91, .mov,[.t 13],none,0⟩,⟨some 92, .build [dI 0,dI 0] [(0,1),(1,1)],[.t 90, .t 91],none,0⟩,⟨some 14, .alloc 0 [dI 0,dI 0],[],none,0⟩,⟨none, .store 2,[.t 14, .t 92],none,0⟩] 1 [1,2,4,8,10,11,12,14,80,81,86,87] [14]) (.seq (.seq (.region false [⟨some 93, .fld 5,[.t 4],none,0⟩,⟨some 94, .load false 1,[.t 93],none,0⟩,⟨some 95, .load true 2,[.t 14],none,0⟩,⟨some 96, .aj 79,[.t 94, .t 95],none,0⟩] 0 [1,2,4,8,10,11,12,14,80,81,86,87,96] []) (.cond (.t 96) (.exit 3) .skip)) (.seq (.region true [⟨some 97, .load true 8,[.t 4],none,1⟩,⟨some 98, .load true 2,[.t 14],none,1⟩,⟨some 99, .fld 6,[.t 4],none,1⟩,⟨some 100, .load false 1,[.t 99],none,1⟩,⟨some 101, .mov,[.t 2],none,0⟩,⟨some 102, .bH 4,[.t 100, .t 101],none,1⟩,⟨some 103, .fld 2,[.t 102],none,1⟩,⟨some 104, .load false 1,[.t 103],none,1⟩,⟨some 105, .mov,[.t 1],none,0⟩,⟨some 106, .mov,[.t 10],none,0⟩,⟨some 107, .kZ 80,[.t 97, .t 98, .t 104, .t 105, .t 106],none,1⟩,⟨some 108, .aj 37,[.t 107, .c (.slice true [])],none,0⟩,⟨some 15, .alloc 0 [dI 0,dI 0,dI 0,dI 0,dI 0, .slice true [], .slice true [], .slice true [], .map none, .slice true []],[],none,0⟩,⟨none, .store 10,[.t 15, .t 108],none,4⟩] 1 [1,2,4,8,10,11,12,14,15,80,81,86,87] [15]) (.seq (.seq (.region false [⟨some 109, .mov,[.t 11],none,0⟩,⟨some 110, .bin .add,[.t 109, .c (dI 1)],none,0⟩,⟨some 111, .mov,[.c (dI 0)],none,0⟩] 0 [1,2,4,8,10,11,12,14,15,80,81,86,87,110,111] []) (.block 4 (.loop (.seq (.region false [⟨some 112, .bin .lss,[.t 111, .t 110],none,0⟩] 0 [1,2,4,8,10,11,12,14,15,80,81,86,87,110,111,112] []) (.seq (.cond (.t 112) .skip (.exit 4)) (.seq (.block 5 (.seq (.region false [⟨some 113, .mov,[.t 111],none,0⟩,⟨some 16, .mov,[.t 113],none,0⟩] 0 [1,2,4,8,10,11,12,14,15,16,80,81,86,87,110,111] []) (.seq (.region false [⟨some 114, .load true 10,[.t 15],none,0⟩,⟨some 115, .mov,[.t 16],none,0⟩,⟨some 116, .mov,[.t 11],none,0⟩,⟨some 117, .aj 38,[.t 114, .t 115, .t 116],none,0⟩,⟨some 118, .bin .neq,[.t 117, .c (dI 0)],none,0⟩] 0 [1,2,4,8,10,11,12,14,15,80,81,86,87,110,111,118] []) (.cond (.t 118) (.exit 3) .skip)))) (.region false [⟨some 119, .bin .add,[.t 111, .c (dI 1)],none,0⟩,⟨some 111, .mov,[.t 119],none,0⟩] 0 [1,2,4,8,10,11,12,14,15,80,81,86,87,110,111] []))))))) (.seq (.region false [⟨some 120, .load true 2,[.t 14],none,0⟩,⟨none, .store 2,[.t 8, .t 120],none,0⟩,⟨some 9, .mov,[.c (dI 0)],none,0⟩] 0 [8,9] []) .ret))))))) (.region false [⟨some 121, .bin .add,[.t 87, .c (dI 1)],none,0⟩,⟨some 87, .mov,[.t 121],none,0⟩] 0 [1,2,4,8,10,11,12,80,81,86,87] []))))))))))) (.region false [⟨some 122, .bin .add,[.t 81, .c (dI 1)],none,0⟩,⟨some 81, .mov,[.t 122],none,0⟩] 0 [1,2,4,8,10,11,80,81] [])))))
def Piece.aco (p:Piece)(aU a:Int)(b:List Int)(x y:Int):Bool:=
 !p.cs.contains ⟨x,y⟩&&(upTo (p.ws.length+1)).all fun i=>(p.with ⟨x,y⟩ (p.ws.getD a.toNat default).layer aU b).wrong [] i p.ws.length==0
def Piece.acs (p:Piece)(aU a:Int)(b:List Int)(x:Int):Option Pt:=
 (upTo (p.h.toNat+1)).findSome? fun y=>if p.aco aU a b x y then some ⟨x,y⟩else none
def Piece.Xm (p:Piece)(aU a:Int)(b:List Int):Option Pt:=(upTo (p.w.toNat+1)).findSome? fun x=>p.acs aU a b x
def ags {p:Piece}(hg:p.good){x y layer aU:Int}{a:List Int}(hx:0<=x/\x<=1000)(f:0<=y/\y<=1000)(e:0<=aU/\aU<=1000)(hl:0<=layer/\layer<=1000)(i:p.ws.length<=999):(p.with ⟨x,y⟩ layer aU a).good:={
 cs:=by
  intro c b;simp only[Piece.with,cE,bL]at b
  rcases b with b|rfl
  ·exact hg.cs c b
  ·exact⟨hx.1,hx.2,f.1,f.2⟩
 ws:=by
  intro w d;simp only[Piece.with,cE,bL]at d
  rcases d with d|rfl
  ·obtain⟨⟨h1,h2⟩,g⟩:=hg.ws w d
   exact⟨⟨h1,by simp only[Piece.with,W,bv];omega⟩,g⟩
  ·exact⟨⟨by simp only;omega,by simp[Piece.with]⟩,e.1,e.2,hl.1,hl.2⟩
 w:=hg.w
 h:=hg.h
 pl:=hg.pl
 ga:=hg.ga
 po:=hg.po
 lw:=by simp only[Piece.with,W,bv];omega}
section
variable (ah0:aoN)
include ah0 in
def JI (p:Piece)(hg:p.good)(hc:p.cs.length<=900)(hn:p.ws.length<=900)(hm:p.ms.length<=900)(aU a:Int)(P:0<=aU/\aU<=1000)(ha:p.isW a)(b:List Int)(ho:b.length<=100)(ex:Bool)(ar:List (Option Arr))(Q:Ex->St->Prop)
  (L:p.Xm aU a b=none->Q (.exit 0) ⟨[(1,pI aU),(2,pI a),(4, .d (.aP [dI p.w,dI p.h,dI p.pl,dI p.ga,dI p.po,sF (p.cs.map Pt.dv),sF (p.ws.map Wh.dv),sF (p.ms.map Ms.dv)])),(8, .ptr 1 0),(10, .d (.slice ex (b.map ay))),(11,pI p.ws.length),(80,pI (p.w.toNat+1:Nat)),(81,pI (p.w.toNat+1:Nat)),(82, .d (.bool false))],⟨[some [pI p.w,pI p.h,pI p.pl,pI p.ga,pI p.po, .d (sF (p.cs.map Pt.dv)), .d (sF (p.ws.map Wh.dv)), .d (sF (p.ms.map Ms.dv))],some [pI 0,pI 0]],[0],ar⟩⟩)
  (hs:∀pt bs fz,p.Xm aU a b=some pt->Q .ret ⟨[(8, .ptr 1 0),(9,pI 0)],⟨some [pI p.w,pI p.h,pI p.pl,pI p.ga,pI p.po, .d (sF (p.cs.map Pt.dv)), .d (sF (p.ws.map Wh.dv)), .d (sF (p.ms.map Ms.dv))]::some [pI pt.x,pI pt.y]::bs,fz,ar⟩⟩):
  pwp C 0 0 Vw Q
   ⟨[(1,pI aU),(2,pI a),(4, .d (.aP [dI p.w,dI p.h,dI p.pl,dI p.ga,dI p.po,sF (p.cs.map Pt.dv),sF (p.ws.map Wh.dv),sF (p.ms.map Ms.dv)])),(8, .ptr 1 0),(10, .d (.slice ex (b.map ay))),(11,pI p.ws.length),(80,pI (p.w.toNat+1:Nat)),(81,pI 0)],
    ⟨[some [pI p.w,pI p.h,pI p.pl,pI p.ga,pI p.po, .d (sF (p.cs.map Pt.dv)), .d (sF (p.ws.map Wh.dv)), .d (sF (p.ms.map Ms.dv))],some [pI 0,pI 0]],[0],ar⟩⟩:=by
 rw[Vw];have R:=hg.w;have M:=hg.h;have el:((p.h.toNat:Nat):Int)=p.h:=by omega
 have J:cT .i64 (p.h+1)=((p.h.toNat+1:Nat):Int):=by rw[aF (by omega)];omega
 refine aG (p.w.toNat+1) (fun x (_:Unit)=>⟨[(1,pI aU),(2,pI a),(4, .d (.aP [dI p.w,dI p.h,dI p.pl,dI p.ga,dI p.po,sF (p.cs.map Pt.dv),sF (p.ws.map Wh.dv),sF (p.ms.map Ms.dv)])),(8, .ptr 1 0),(10, .d (.slice ex (b.map ay))),(11,pI p.ws.length),(80,pI (p.w.toNat+1:Nat)),(81,pI x)],
   ⟨[some [pI p.w,pI p.h,pI p.pl,pI p.ga,pI p.po, .d (sF (p.cs.map Pt.dv)), .d (sF (p.ws.map Wh.dv)), .d (sF (p.ms.map Ms.dv))],some [pI 0,pI 0]],[0],ar⟩⟩)
  (fun x _=>p.Xm aU a b=((upTo (p.w.toNat+1)).drop x).findSome? fun x=>p.acs aU a b x) 0 () (ae _) rfl rfl (fun x _ r f=> ?_) (fun _ f=> ?_)
 ·obtain⟨X,x3,Z⟩:=rng r (by omega)
  rw[drop_cons (by rw[Ea];exact r),OL r,ck]at f;simp only[X,J,RN,z,F,N];refine aG (p.h.toNat+1) (fun y (_:Unit)=>⟨[(1,pI aU),(2,pI a),(4, .d (.aP [dI p.w,dI p.h,dI p.pl,dI p.ga,dI p.po,sF (p.cs.map Pt.dv),sF (p.ws.map Wh.dv),sF (p.ms.map Ms.dv)])),(8, .ptr 1 0),(10, .d (.slice ex (b.map ay))),(11,pI p.ws.length),(12,pI x),(80,pI (p.w.toNat+1:Nat)),(81,pI x),(86,pI (p.h.toNat+1:Nat)),(87,pI y)],⟨[some [pI p.w,pI p.h,pI p.pl,pI p.ga,pI p.po, .d (sF (p.cs.map Pt.dv)), .d (sF (p.ws.map Wh.dv)), .d (sF (p.ms.map Ms.dv))],some [pI 0,pI 0]],[0],ar⟩⟩)
   (fun y _=>p.acs aU a b x=((upTo (p.h.toNat+1)).drop y).findSome? fun y=>if p.aco aU a b x y then some ⟨x,y⟩else none) 0 () (ae _) rfl rfl (fun y _ o c=> ?_) (fun _ c=> ?_)
  ·obtain⟨y2,y3,E⟩:=rng o (by omega)
   rw[drop_cons (by rw[Ea];exact o),OL o,ck]at c;have l:=Lj p.cs ⟨x,y⟩ (by omega);rw[BA]at l;simp only[y2,RN,z,F,I,N];refine ak l ?_;cases B:p.cs.contains ⟨x,y⟩
   ·obtain⟨G,A⟩:=ha
    have T:=hg.ws _ (getD_mem A);have g:=ajV p ⟨x,y⟩ (p.ws.getD a.toNat default).layer aU b (by omega) (by omega) (by omega) (by omega);obtain⟨q,m⟩:∃q,q=p.with ⟨x,y⟩ (p.ws.getD a.toNat default).layer aU b:=⟨_,rfl⟩
    have u:q.good:=by rw[m];exact ags hg (by omega) (by omega) P (by omega) (by omega)
    have O:q.ws.length=p.ws.length+1:=by rw[m];simp[Piece.with]
    have v:q.ms.length<=1000:=by rw[m];simp only[Piece.with,W,S];omega
    have aqF:p.aco aU a b x y=(upTo (p.ws.length+1)).all fun i=>q.wrong [] i p.ws.length==0:=by rw[Piece.aco,B,m];rfl
    rw[<-m]at g;have D:=ah0 q [] v (by simp);have K:cT .i64 ((p.ws.length:Int)+1)=((p.ws.length+1:Nat):Int):=aml (by omega);simp only[ug,BA]at g;simp only[ug]at D;simp only[getD_map,G,A,S,pq,RN,z,F,H,N];refine mF rfl rfl g (by simp) ?_;simp only[PV.shift,jw,bh,a7];refine ak D ?_;simp only[kS];simp only[Y,K,RN,z,F,I,N];refine aG (p.ws.length+1) (fun i (_:Unit)=>⟨[(1,pI aU),(2,pI a),(4, .d (.aP [dI p.w,dI p.h,dI p.pl,dI p.ga,dI p.po,sF (p.cs.map Pt.dv),sF (p.ws.map Wh.dv),sF (p.ms.map Ms.dv)])),(8, .ptr 1 0),(10, .d (.slice ex (b.map ay))),(11,pI p.ws.length),(12,pI x),(14, .d (.aP [dI x,dI y])),(15, .d (.aP (q.laid []).cells)),(80,pI (p.w.toNat+1:Nat)),(81,pI x),(86,pI (p.h.toNat+1:Nat)),(87,pI y),(110,pI (p.ws.length+1:Nat)),(111,pI i)],
      ⟨[some [pI p.w,pI p.h,pI p.pl,pI p.ga,pI p.po, .d (sF (p.cs.map Pt.dv)), .d (sF (p.ws.map Wh.dv)), .d (sF (p.ms.map Ms.dv))],some [pI 0,pI 0],some [pI x,pI y],some ((q.laid []).cells.map .d)],[3,2,0],ar⟩⟩)
     (fun i _=>p.aco aU a b x y=((upTo (p.ws.length+1)).drop i).all fun i=>q.wrong [] i p.ws.length==0) 0 () (ae _) rfl aqF (fun i _ hi e=> ?_) (fun _ e=> ?_)
    ·obtain⟨U,i3,V⟩:=rng hi (by omega)
     rw[drop_cons (by rw[Ea];exact hi),OL hi,cp]at e;have n:Pure C 38 [(q.laid []).dv,dI i,dI p.ws.length] (pI (q.wrong [] i p.ws.length)) []:=WY (q.laid []) u (Piece.afz q []) (by simp[Piece.laid]) i p.ws.length ⟨by omega,by show _<q.ws.length;omega⟩ ⟨by omega,by show _<q.ws.length;omega⟩;rw[kS]at n;simp only[U,Laid.cells,RN,z,F,N];refine ak n ?_
     by_cases s:q.wrong [] i p.ws.length=0
     ·have j:(q.wrong [] i p.ws.length !=0)=false:=by rw[s];rfl
      have k:(q.wrong [] i p.ws.length==0)=true:=by rw[s];rfl
      rw[k,cn]at e;simp only[j,V,RN,z,F];exact dh () hi rfl e (by simp) (by simp) (by simp[PV.upto]) (by simp[PV.upto])
     ·have j:(q.wrong [] i p.ws.length !=0)=true:=bne_iff_ne.2 s
      have k:(q.wrong [] i p.ws.length==0)=false:=beq_eq_false_iff_ne.2 s;rw[k,br]at e;simp only[e,ax,if_false]at c;simp only[j,E,RN,z,F];exact bQ 2 ar.length () o (by simp) c (by simp) (by simp) (by simp[PV.upto]) (by simp[PV.upto])
    ·rw[bt (by rw[Ea];omega),cL]at e
     simp only[e,if_true]at c;rw[c]at f;simp only[ao,Y,RN,z,F,I,N];exact hs ⟨x,y⟩ _ _ f
   ·have t:p.aco aU a b x y=false:=by rw[Piece.aco,B];rfl
    simp only[t,ax,if_false]at c;simp only[E,RN,z,F];exact bQ 2 ar.length () o (by simp) c (by simp) (by simp) (by simp[PV.upto]) (by simp[PV.upto])
  ·rw[bt (by rw[Ea];omega),cr]at c
   rw[c]at f;simp only[ao,Z,RN,z,F];exact dh () r rfl f (by simp) (by simp) (by simp[PV.upto]) (by simp[PV.upto])
 ·rw[bt (by rw[Ea];omega),cr]at f
  simp only[ao,RN,z,F];exact L f
def Piece.rC (p:Piece)(aU a b:Int):Bool:= !p.ok|| !inR aU 4 50|| !inR a 0 (p.ws.length - 1)||(b != -1&&(!inR b 0 (p.ws.length - 1)||a==b))
def kW (a b:Int):List Int:=if b>=0 then[a,b]else[a]
def Piece.place (p:Piece)(aU a b:Int):Pt×Int:=
 if p.rC aU a b then(default,2)
 else if p.cs.length==6||p.ws.length==8||decide (p.ms.length+(kW a b).length>10)then(default,3)
 else match p.Xm aU a (kW a b)with|some pt=>(pt,0)|none=>(default,5)
include ah0 in
def aj6 (p:Piece)(hc:p.cs.length<=1000)(G:p.ws.length<=1000)(E:p.ms.length<=1000)(aU a b:Int):Pure C 30 [p.dv,dI aU,dI a,dI b] (.d (.tup [(p.place aU a b).1.dv,dI (p.place aU a b).2])) []:=by
 refine ah Hu aja ?_;have B:=Y9 p hc G E;have v:=N8 p a (by omega);have x:=N8 p b (by omega);simp only[ug]at B v x;simp only[Hu,aja,ug,RN,z,F,N];refine ak B ?_;cases g:p.ok
 ·simp only[Y,RN,z,F,I,N]
  rw[Piece.place,if_pos (by rw[Piece.rC,g];rfl)]
  rfl
 have A:=Piece.adG g;(try simp only[RN,z]);refine ak (RU _ _ _) ?_;cases i:inR aU 4 50
 ·simp only[Y,RN,z,F,I,N]
  rw[Piece.place,if_pos (by rw[Piece.rC,g,i];rfl)]
  rfl
 (try simp only[RN,z,F,N]);refine ak v ?_;cases j:inR a 0 (p.ws.length - 1)
 ·simp only[Y,RN,z,F,I,N]
  rw[Piece.place,if_pos (by rw[Piece.rC,g,i,j];rfl)]
  rfl
 (try simp only[RN,z]);have apz:0<=aU/\aU<=1000:=by simp only[inR,ap,decide_eq_true_eq]at i;omega
 have apg:p.isW a:=by simp only[inR,ap,decide_eq_true_eq]at j;exact⟨by omega,by omega⟩
 have D:=(Piece.Xk g).w;have r:cT .i64 (p.w+1)=((p.w.toNat+1:Nat):Int):=by rw[aF (by omega)];omega
 cases l:(b != -1)
 ·have y:b= -1:=by simpa using l
  subst y;have e:p.rC aU a (-1)=false:=by rw[Piece.rC,g,i,j];rfl
  have f:kW a (-1)=[a]:=by rw[kW,if_neg (by omega)]
  have o:cT .i64 ((p.ms.length:Int)+((1:Nat):Int))=(p.ms.length:Int)+1:=by rw[aF (by omega)];rfl
  have m:¬((-1:Int)>=0):=by omega
  simp only[m,gB,DV.strip,fU,S,RN,z,F,N];cases s:(((p.cs.length:Nat):Int)==6)
  ·simp only[S,RN,z,F,N]
   cases t:(((p.ws.length:Nat):Int)==8)
   ·simp only[S,o,RN,z,F,N]
    cases k:decide (((p.ms.length:Nat):Int)+1>10)
    ·simp only[S,RN,z,F,N]
     simp only[ahL];have c:(p.cs.length==6||p.ws.length==8||decide (p.ms.length+(kW a (-1)).length>10))=false:=by
      rw[beq_eq_false_iff_ne]at s t;rw[decide_eq_false_iff_not]at k;simp only[cf,beq_eq_false_iff_ne,decide_eq_false_iff_not,f,ai,am];omega
     simp only[r,RN,z,F,N];refine JI ah0 p (Piece.Xk g) (by omega) (by omega) (by omega) aU a apz apg [a] (by simp) _ _ _ (fun q=> ?_) (fun pt bs fz q=> ?_)
     ·simp only[Y,RN,z,F,I,N]
      rw[Piece.place,e,c,f,q]
      rfl
     ·simp only[RN,z,F,N]
      rw[Piece.place,e,c,f,q,BA]
      rfl
    ·have c:(p.cs.length==6||p.ws.length==8||decide (p.ms.length+(kW a (-1)).length>10))=true:=by
      rw[decide_eq_true_eq]at k;simp only[bj,decide_eq_true_eq,f,ai,am]
      right;omega
     simp only[Y,RN,z,F,I,N];rw[Piece.place,e,c]
     rfl
   ·have c:(p.cs.length==6||p.ws.length==8||decide (p.ms.length+(kW a (-1)).length>10))=true:=by
     rw[beq_iff_eq]at t;simp only[bj,beq_iff_eq]
     left;right;omega
    simp only[Y,RN,z,F,I,N];rw[Piece.place,e,c]
    rfl
  ·have c:(p.cs.length==6||p.ws.length==8||decide (p.ms.length+(kW a (-1)).length>10))=true:=by
    rw[beq_iff_eq]at s;simp only[bj,beq_iff_eq]
    left;left;omega
   simp only[Y,RN,z,F,I,N];rw[Piece.place,e,c]
   rfl
 ·(try simp only[RN,z,F,N])
  refine ak x ?_;cases n:inR b 0 (p.ws.length - 1)
  ·simp only[Y,RN,z,F,I,N]
   rw[Piece.place,if_pos (by rw[Piece.rC,g,i,j,l,n];rfl)]
   rfl
  (try simp only[RN,z]);cases u:(a==b)
  ·have e:p.rC aU a b=false:=by rw[Piece.rC,g,i,j,l,n,u];rfl
   have m:(b>=0):=by simp only[inR,ap,decide_eq_true_eq]at n;omega
   have f:kW a b=[a,b]:=by rw[kW,if_pos m]
   have o:cT .i64 ((p.ms.length:Int)+((2:Nat):Int))=(p.ms.length:Int)+2:=by rw[aF (by omega)];rfl
   simp only[m,gB,Y,DV.strip,fU,S,fits_int,forall_eq,RN,z,F,J,N];refine⟨(fun h=>by cases h),?_⟩;cases s:(((p.cs.length:Nat):Int)==6)
   ·simp only[S,RN,z,F,N]
    cases t:(((p.ws.length:Nat):Int)==8)
    ·simp only[S,o,RN,z,F,H,N]
     cases k:decide (((p.ms.length:Nat):Int)+2>10)
     ·simp only[S,RN,z,F,N]
      refine ahM rfl ?_;have c:(p.cs.length==6||p.ws.length==8||decide (p.ms.length+(kW a b).length>10))=false:=by
       rw[beq_eq_false_iff_ne]at s t;rw[decide_eq_false_iff_not]at k;simp only[cf,beq_eq_false_iff_ne,decide_eq_false_iff_not,f,ai,am];omega
      simp only[r,RN,z,F,N];refine JI ah0 p (Piece.Xk g) (by omega) (by omega) (by omega) aU a apz apg [a,b] (by simp) _ _ _ (fun q=> ?_) (fun pt bs fz q=> ?_)
      ·simp only[Y,RN,z,F,I,N]
       rw[Piece.place,e,c,f,q]
       rfl
      ·simp only[RN,z,F,N]
       rw[Piece.place,e,c,f,q,BA]
       rfl
     ·have c:(p.cs.length==6||p.ws.length==8||decide (p.ms.length+(kW a b).length>10))=true:=by
       rw[decide_eq_true_eq]at k;simp only[bj,decide_eq_true_eq,f,ai,am]
       right;omega
      simp only[Y,RN,z,F,I,N];rw[Piece.place,e,c]
      rfl
    ·have c:(p.cs.length==6||p.ws.length==8||decide (p.ms.length+(kW a b).length>10))=true:=by
      rw[beq_iff_eq]at t;simp only[bj,beq_iff_eq]
      left;right;omega
     simp only[Y,RN,z,F,I,N];rw[Piece.place,e,c]
     rfl
   ·have c:(p.cs.length==6||p.ws.length==8||decide (p.ms.length+(kW a b).length>10))=true:=by
     rw[beq_iff_eq]at s;simp only[bj,beq_iff_eq]
     left;left;omega
    simp only[Y,RN,z,F,I,N];rw[Piece.place,e,c]
    rfl
  ·simp only[Y,RN,z,F,I,N]
   rw[Piece.place,if_pos (by rw[Piece.rC,g,i,j,l,n,u];rfl)]
   rfl
end
end Go.Tel
namespace Go.Am
section
variable {C:Ctx}{base nb na:Nat}{K:St->Prop}{KP:DV->Mem->Prop}{L:PV->Mem->Prop}{Q:Ex->St->Prop}{bs:List (Option (List PV))}{fz:List Nat}{ar:List (Option Arr)}
def abk {i:Nat}:au C base (.mkMap i) [] ⟨bs,fz,ar⟩ L KP=(bs[base+i]?=some none/\L (.mref (base+i)) ⟨bs.set (base+i) (some [.iO []]),fz,ar⟩):=px
variable{b:Nat}
def akJ {ks:List Nat}{k:List DV}{v:DV}{l a:List (DV×DV)}(h1:bs[b]?=some (some [.iO l]))(h2:b∉fz)(c:bW ks k k=some true)(e:Dv ks l k v=some a)(h:L .dead ⟨bs.set b (some [.iO a]),fz,ar⟩):
  au C base (.Qk ks) [.mref b, .d (.agg k), .d v] ⟨bs,fz,ar⟩ L KP:=by
 simp only[au,Mem.box,h1,c,e];exact⟨h2,h⟩
def agN {l:List PV}:gV (.mref b::l)=none:=rfl
def amN:PV.one (.mref b)=true:=rfl
def NP {cs:List PV}:PV.cells (.agg cs)=cs:=rfl
def akO {cs:List PV}{off:Nat}{ps:List (Nat×Nat)}{vs:List PV}:jY cs ((off,1)::ps) (.mref b::vs)=bif decide (off+1<=cs.length)then jY (splice cs off [.mref b]) ps vs else none:=by
 simp only[jY,PV.oh,PV.cells,bv,true_and]
 by_cases h2:off+1<=cs.length
 ·rw[if_pos h2];simp[h2]
 ·rw[if_neg h2];simp[h2]
end
end Go.Am
namespace Go.Tel
open Go.Am
def afL (l:List Ms):List (DV×DV):=l.map fun m=>(m.dv, .bool true)
def adx (a b:Int):∀(mm:List Ms),Dv [1,1] (afL mm) [dI a,dI b] (.bool true)=some (afL (if mm.contains ⟨a,b⟩then mm else mm++ [⟨a,b⟩]))
 | []=>rfl
 |m::mm=>by
  have g:=adx a b mm;simp only[afL,aq,Lr]at g⊢;have d:bW [1,1] [dI a,dI b] [dI m.a,dI m.b]=some (decide (a=m.a)&&decide (b=m.b)):=by
   by_cases h1:a=m.a<;>by_cases h2:b=m.b<;>simp[bW,h1,h2]
  by_cases h:a=m.a/\b=m.b
  ·obtain⟨rfl,rfl⟩:=h
   have e:(⟨m.a,m.b⟩:Ms)=m:=by cases m;rfl
   simp only[decide_true,cl]at d;simp only[Dv,d,e,aR,BEq.rfl,Bool.true_or,if_true,aq]
  ·have i:(decide (a=m.a)&&decide (b=m.b))=false:=by
    by_cases h1:a=m.a
    ·have h2:¬b=m.b:=fun h2=>h ⟨h1,h2⟩
     simp[h2]
    ·simp[h1]
   have f:((⟨a,b⟩:Ms)==m)=false:=by
    rw[beq_eq_false_iff_ne];rintro rfl;exact h ⟨rfl,rfl⟩
   simp only[Dv,d,i,g,bq];rw[aR,f,cm]
   by_cases c:mm.contains ⟨a,b⟩=true
   ·rw[if_pos c,if_pos c];rfl
   ·rw[if_neg c,if_neg c];rfl
def apG:aoN:=by
 intro p gone e hg;refine Ib mixed rfl Xl ?_;simp only[MJ,ajb,ug,Y,abk,agN,aM,amN,dD,NP,akO,S,RN,z,F,I,N];refine aG p.ms.length (fun i (mm:List Ms)=>⟨[(4, .ptr 1 0),(5, .ptr 3 0),(13, .d (sF (p.ms.map Ms.dv))),(14,pI p.ms.length),(15,pI i)],
  ⟨[some [pI p.w,pI p.h,pI p.pl,pI p.ga,pI p.po, .d (sF (p.cs.map Pt.dv)), .d (sF (p.ws.map Wh.dv)), .d (sF (p.ms.map Ms.dv))],
   some [pI 0,pI 0,pI 0,pI 0,pI 0, .d (.slice true []), .d (.slice true []), .d (.slice true []), .d (.map none), .d (.slice true [])],
   some [.iO (afL mm)],
   some [pI p.w,pI p.h,pI p.pl,pI p.ga,pI p.po, .d (sF (p.cs.map Pt.dv)), .d (sF (p.ws.map Wh.dv)), .d (sF (p.ms.map Ms.dv)), .mref 2, .d (sF (gone.map ay))]],[0],[]⟩⟩)
  (fun i mm=>LW [] p.ms=LW mm (p.ms.drop i)) 0 [] (ae _) rfl rfl (fun i mm h1 a=> ?_) (fun mm a=> ?_)
 ·obtain⟨h2,b,c⟩:=rng h1 (by omega)
  rw[drop_cons h1,LW]at a;simp only[h2,b,h1,getD_map,U,S,Lr,Y,RN,z,F,I,N];refine akJ (l:=afL mm) rfl (by decide) (by simp[bW]) (adx _ _ mm) ?_;simp only[c,RN];refine bQ 4 0 _ h1 rfl a (by simp) (by simp) rfl ?_;simp[PV.upto]
 ·rw[av,LW]at a
  simp only[ao,Y,agN,aM,amN,dD,NP,RN,z,F,I,N];refine⟨_,rfl,?_⟩;rw[kS];simp only[Piece.laid,a,DV.strip,afL]
  rfl
structure aoP where
 low:Int
 high:Int
 deriving DecidableEq,Inhabited
def aoP.dv (s:aoP):DV:= .agg [dI s.low,dI s.high]
def Piece.nums (p:Piece):List Int:=[p.w,p.h,p.pl,p.ga,p.po]
def Pt.nums (p:Pt):List Int:=[p.x,p.y]
def Wh.nums (p:Wh):List Int:=[p.lN,p.uY,p.layer,p.aU]
def Ms.nums (p:Ms):List Int:=[p.a,p.b]
structure Piece.small (p:Piece):Prop where
 w: -1000000<=p.w/\p.w<=1000000
 h: -1000000<=p.h/\p.h<=1000000
 pl: -1000000<=p.pl/\p.pl<=1000000
 ga: -1000000<=p.ga/\p.ga<=1000000
 po: -1000000<=p.po/\p.po<=1000000
 cs:∀c∈p.cs,∀n∈c.nums, -1000000<=n/\n<=1000000
 ws:∀c∈p.ws,∀n∈c.nums, -1000000<=n/\n<=1000000
 ms:∀c∈p.ms,∀n∈c.nums, -1000000<=n/\n<=1000000
 lc:p.cs.length<=1000
 lw:p.ws.length<=1000
 lm:p.ms.length<=1000
def Piece.cells (p:Piece):List DV:=[dI p.w,dI p.h,dI p.pl,dI p.ga,dI p.po,sF (p.cs.map Pt.dv),sF (p.ws.map Wh.dv),sF (p.ms.map Ms.dv)]
end Go.Tel
namespace Go.Am
variable{base sz:Nat}{K:PV->Mem->Prop}{KP:DV->Mem->Prop}{is:List Nat}
def aiv {C:Ctx}{M:Mem}{zs ds xs:List DV}(h:qJ sz zs is (ds.map DV.strip)=some xs)(a:K (.d (.slice true xs)) M):au C base (.dU sz zs is) (ds.map .d) M K KP:=by
 have h1:bV M (ds.map .d)=some ds:=by
  clear h a
  induction ds with
  |nil=>rfl
  |cons d ds b=>simp only[aq,bV,datum,b]
 rw[akI h1 h,BG];exact a
def akP {cs:List PV}{off n k ver s:Nat}{ps:List (Nat×Nat)}{vs:List PV}:jY cs ((off,n)::ps) (.tsl k ver s::vs)=bif (1==n)&&decide (off+n<=cs.length)then jY (splice cs off [.tsl k ver s]) ps vs else none:=by
 have a:PV.cells (.tsl k ver s)=[.tsl k ver s]:=rfl;simp only[jY,PV.oh,true_and,a,ai,am,bi]
 by_cases h1:1=n
 ·by_cases h2:off+n<=cs.length
  ·rw[if_pos ⟨h1,h2⟩];simp[h1,h2]
  ·rw[if_neg (fun h=>h2 h.2)];simp[h2]
 ·rw[if_neg (fun h=>h1 h.1)]
  have:((1:Nat)==n)=false:=by simpa using h1
  rw[this];rfl
def alB {C:Ctx}{bs:List (Option (List PV))}{fz:List Nat}{ar:List (Option Arr)}{zs ds xs:List DV}(h:qJ sz zs is (ds.map DV.strip)=some xs)(h1:0<sz)(h2:∀x∈xs,x.fits sz=true)
  (a:K (.tsl ar.length 0 0) ⟨bs,fz,ar++ [some ⟨sz,xs,0,1⟩]⟩):au C base (.ng sz zs is) (ds.map .d) ⟨bs,fz,ar⟩ K KP:=by
 have ha:gV (ds.map PV.d)=some ds:=by
  clear h a
  induction ds with
  |nil=>rfl
  |cons d ds b=>simp only[aq,gV,b,bq]
 simp only[au,ha,h];exact⟨h1,h2,a⟩
end Go.Am
namespace Go.Tel
open Go.Am
def aoh:Piece:=⟨60,50,1,1,2,[⟨15,20⟩,⟨35,20⟩,⟨35,36⟩],[⟨0,0,0,12⟩,⟨1,0,0,8⟩,⟨1,0,1,10⟩,⟨2,0,1,6⟩],[⟨0,1⟩,⟨2,3⟩]⟩
def P_c:Pure C 31 [] (.d aoh.dv) []:=by
 refine Ib mixed rfl aiH ?_;simp only[ZM,ajn,RN,z,F,N];refine aiv (ds:=[_,_,_]) rfl ?_;(try simp only[RN,z,F,N]);refine alB (ds:=[_,_,_,_]) rfl (by decide) (by decide) ?_;(try simp only[RN]);refine aiv (ds:=[_,_]) rfl ?_;simp only[akP,agP,aM,dD,NP,adH,DV.strip,RN,z,F,N];exact⟨_,rfl,by rw[ug];rfl⟩
def iV:aA:=(s0 [ba 2 0 0,ba 3 1 1,mf 4 false] 2 [2,3] [2,3] (sw (sr [fa 21 0 2,lo 22 21,oa 23 .len 22,oi 24 pG 23 8,mv 25 24,ow 26 (.fld 1) 2 25 0,lq 27 26 25,ow 28 .len 27 25 0,oF 29 pG [.t 28,kI 11] 25 0,pt 30 25 29,mv 31 30,ow 32 (.load true 2) 2 31 0,ow 33 (.aj 18) 32 31 0,ow 34 pN 33 31 0,pt 35 31 34,mv 36 35,ow 37 (.load true 2) 3 36 0,ow 38 (.aj 19) 37 36 0,ow 39 pN 38 36 0,pt 40 36 39] 0 [2,3,40] (cd 40 (sr [on 41 (.aj 8) [],mv 4 41] 0 [4] .ret) .skip)) (sr [mi 5 1] 0 [2,3,5] (sr [fa 42 0 2,lo 43 42,oa 44 .len 43,oi 45 (.bin .quo) 44 2,on 46 (.build [z0,z0,z0,z0,zs] [(0,1),(1,1),(2,1),(3,1)]) [kI 60,kI 4,.t 45,kI 1],al 6 0 [z0,z0,z0,z0,zs],sk 5 6 46 0] 1 [2,3,5,6] (sw (sr [mi 7 0] 0 [2,3,5,6,7] (lp (sw (sr [mv 47 7,fa 48 0 2,lo 49 48,oa 50 .len 49,ob 51 pL 47 50] 0 [2,3,5,6,7,51] (cx 51 0)) (sw (b1 (s0 [fa 54 0 2,lo 55 54,mv 56 7,ix 57 2 55 56,lw 58 2 57,al 8 0 [z0,z0],sk 2 8 58 0] 1 [2,3,5,6,7,8] [8] (sr [mv 59 5,fa 60 1 8,lo 61 60,fa 62 0 8,lo 63 62,ob 64 pU 61 63,oi 65 pA 64 1,ob 66 pM 59 65,mv 5 66] 0 [2,3,5,6,7,8] (r1 [fu 67 0 6 2,ou 68 ld 67 2,fu 69 0 8 1,lv 70 69,ob 71 (.qo false) 68 70,fu 72 1 6 2,ou 73 ld 72 2,fu 74 1 8 1,lv 75 74,ob 76 (.qo true) 73 75,fu 77 0 6 2,sk 1 77 71 0,fu 78 1 6 2,sk 1 78 76 0] 0 [2,3,5,6,7] [])))) (rg [mv 52 7,oi 53 pA 52 1,mv 7 53] 0 [2,3,5,6,7]))))) (sw (sr [mv 79 5,oi 80 pG 79 1000] 0 [2,3,6,80] (cd 80 (sr [on 81 (.aj 8) [],mv 4 81] 0 [4] .ret) .skip)) (sr [lw 83 2 2,oa 84 (.aj 20) 83,mv 82 84,xa 85 0 82,xa 86 1 82,mv 9 85,mv 10 86] 0 [2,3,6,9,10] (sr [lw 88 2 2,lw 89 5 6,ob 90 (.aj 21) 88 89,mv 87 90,xa 91 0 87,xa 92 1 87,mv 11 91,mv 12 92] 0 [2,3,6,9,10,11,12] (sr [lw 94 2 2,lw 95 2 3,ob 96 (.aj 22) 94 95,mv 93 96,xa 97 0 93,xa 98 1 93,mv 13 97,mv 14 98] 0 [2,3,6,9,10,11,12,13,14] (sw (sr [mv 99 10,oi 100 pQ 99 0,mv 101 100,ow 102 .mov 12 101 0,oF 103 pQ [.t 102,kI 0] 101 0,pt 104 101 103,mv 105 104,ow 106 .mov 11 105 0,ow 107 .mov 9 105 0,obF 108 pQ 106 107 105 0,pt 109 105 108,mv 110 109,ow 111 .mov 9 110 0,oF 112 pL [.t 111,kI 0] 110 0,pt 113 110 112] 0 [2,3,6,9,13,14,113] (cd 113 (sr [mf 4 false] 0 [4] .ret) .skip)) (sw (sr [mv 114 9,oi 115 pE 114 0] 0 [2,3,6,13,14,115] (cd 115 (sr [mv 116 14,oi 117 pE 116 7,mv 118 117,ot 119 (.aj 8) [] 118 0,pf 120 118 119,mv 4 120] 0 [4] .ret) .skip)) (sw (sr [mv 121 14,oi 122 pQ 121 0,mv 123 122,ow 124 (.load true 2) 2 123 0,ow 125 .mov 13 123 0,obF 126 (.aj 23) 124 125 123 0,ow 127 pN 126 123 0,pt 128 123 127] 0 [3,6,13,128] (cd 128 (sr [mf 4 false] 0 [4] .ret) .skip)) (sr [lw 130 5 6,lw 131 2 3,ob 132 (.aj 24) 130 131,mv 129 132,xa 133 0 129,xa 134 1 129,mv 15 133,mv 16 134] 0 [3,6,13,15,16] (sw (r1 [ou 136 (.load true 5) 6 2,mv 137 13,oa 138 (.aj 26) 137,ob 139 (.aj 25) 136 138,mv 135 139,xa 140 0 135,xa 141 1 135,mv 17 140,mv 18 141] 0 [3,13,15,16,17,18] []) (sw (sr [mv 142 16,oi 143 pQ 142 0,mv 144 143,ow 145 .mov 18 144 0,oF 146 pQ [.t 145,kI 0] 144 0,pt 147 144 146,mv 148 147,ow 149 .mov 17 148 0,ow 150 pN 149 148 0,pt 151 148 150,mv 152 151,ow 153 .mov 15 152 0,ow 154 (.aj 27) 153 152 0,ow 155 pN 154 152 0,pt 156 152 155] 0 [3,13,15,156] (cd 156 (sr [mf 4 false] 0 [4] .ret) .skip)) (sr [lw 158 2 3,mv 159 15,mv 160 13,on 161 (.aj 28) [.t 158,.t 159,.t 160],mv 157 161,xa 162 0 157,xa 163 1 157,mv 19 162,mv 20 163] 0 [19,20] (sr [mv 164 20,oi 165 pE 164 0,mv 166 165,ov 167 .mov 19 166 0,ot 168 (.bin .leq) [.t 167,kI 0] 166 0,pf 169 166 168,mv 170 169,ot 171 (.aj 8) [] 170 0,pf 172 170 171,mv 4 172] 0 [4] .ret)))))))))))))))))
def tu:aA:=(sr [mf 0 false] 0 [] (s0 [on 8 (.aj 31) [],on 9 (.aj 30) [.t 8,kI 5,kI 0,kI 1],mv 7 9,xa 10 0 7,xa 11 1 7,al 1 0 [z0,z0],sk 2 1 10 0,mv 2 11] 1 [1,2] [1] (sr [on 13 (.dU 1 [z0,z0,z0,z0] [0,1,2,3]) [kI 1,kI 2,kI 8,kI 9],on 14 (.dU 1 [z0,z0,z0,z0] [0,1,2,3]) [kI 8,kI 9,kI 1,kI 2],ob 15 (.aj 32) 13 14,mv 12 15,xa 16 0 12,xa 17 1 12,mv 3 16,mv 4 17] 0 [1,2,3,4] (sr [on 19 (.aj 34) [],oc 20 (.aj 33) 19 (.c (.str ⟨#[104,97,110,100,115,10,99,117,116,115,32,51,54,10,119,111,114,107,115,32,57,10]⟩)),mv 18 20,xa 21 0 18,xa 22 1 18,mv 5 21,mv 6 22] 0 [1,2,3,4,5,6] (sr [mv 23 2,oi 24 pE 23 0,mv 25 24,ov 26 (.load true 2) 1 25 0,ot 27 (.build [z0,z0] [(0,1),(1,1)]) [kI 28,kI 8] 25 0,obT 28 (.CZ false [1,1]) 26 27 25 0,pf 29 25 28,mv 30 29,ov 31 .mov 4 30 0,ot 32 pE [.t 31,kI 0] 30 0,pf 33 30 32,mv 34 33,ov 35 .mov 3 34 0,ot 36 pE [.t 35,kI 2] 34 0,pf 37 34 36,mv 38 37,ov 39 .mov 6 38 0,ot 40 pE [.t 39,kI 0] 38 0,pf 41 38 40,mv 42 41,ov 43 .mov 5 42 0,ot 44 pE [.t 43,.c (.str ⟨#[49,32,51,32,51,32,52,10,50,32,49,32,51,10,49,48,10]⟩)] 42 0,pf 45 42 44,mv 0 45] 0 [0] .ret)))))
def Piece.short (p:Piece):Bool:=decide (p.cs.length<=8)&&decide (p.ws.length<=10)&&decide (p.ms.length<=13)
def aij:aoh.place 5 0 1=(⟨28,8⟩,0):=by decide+kernel
def alr:Pure C 8 [] (.d (.bool true)) []:=by
 have a:=aj6 apG aoh (by decide) (by decide) (by decide) 5 0 1;rw[aij]at a;have b:=agL [1,2,8,9] [8,9,1,2] (by decide) (by decide) rfl;have e:Bh [1,2,8,9] [8,9,1,2] 0 4=some 2:=by decide
 rw[show([1,2,8,9]:List Int).length=4 from rfl,e]at b;refine ah tu ajo ?_;simp only[tu,ajo,RN,z];refine ak P_c ?_;(try simp only[RN,z,F,H,I,J,N]);refine ak a ?_;simp only[BA,RN,z,F,N];refine Kz rfl rfl rfl ?_;(try simp only[RN]);refine Kz rfl rfl rfl ?_;(try simp only[RN]);refine ak b ?_;(try simp only[RN]);refine ak akc ?_;(try simp only[RN,z,F,H,I,J,N]);refine cO rfl rfl (ad4 yF XO (by kernel_rfl) (by decide:XE.size<=1500) (by kernel_rfl) apF) ?_;have f:(KU.toList==KU.toList)=true:=beq_self_eq_true _;have g:(((2:Nat):Int)==2)=true:=rfl;have ha:(.str ⟨#[49,32,51,32,51,32,52,10,50,32,49,32,51,10,49,48,10]⟩:DV)= .str KU:=rfl;simp only[z1,ha,RN,z,F,N];rw[WA (t:=true) rfl];have c:(true !=false)=true:=rfl;simp only[z1,g,c,oN,QD,f,RN,z]
end Go.Tel
