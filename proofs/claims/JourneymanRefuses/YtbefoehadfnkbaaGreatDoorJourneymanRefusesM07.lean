/-
  Part 7 of a law of desks.
  Conditions: none.
-/
import Derived.Test.YtbefoehadfnkbaaGreatDoorJourneymanRefusesM04
import Derived.Test.YtbefoehadfnkbaaGreatDoorJourneymanRefusesM06
import Derived.Shelf.Slices.In.SortNone
import Derived.Ground.NamesProg
import Derived.Shelf.Strings.Split
import Derived.Shelf.Strings.OnBuilder
import Derived.Shelf.Strconv.Itoa3
import Derived.Lib.ItoaLen
import Derived.Laws.RangeString
import Derived.Laws.RangeAny
import Derived.Shelf.Small.Strs
set_option linter.all false
set_option maxRecDepth 10000
set_option maxHeartbeats 4000000
open Nat renaming reduceBEq->z,reduceAdd->F,reduceSub->H,reduceEqDiff->I,reduceLT->J,reduceLeDiff->N,lt_irrefl->aL,le_refl->a8,zero_le->bc,div_mul_cancel->bA,sub_self->cw,mul_div_mul_right->cC,gcd_dvd_right->cU,le_trans->cV,sub_zero->cW,gcd_dvd_left->c2,mul_one->c4,mul_comm->dg,succ_mul->di
open List renaming getD_eq_getElem?_getD->Q,length_append->U,length_cons->W,length_map->Y,getElem?_eq_some_iff->ae,map_cons->ai,getElem?_append_left->am,length_nil->ao,getElem?_set_ne->ap,mem_cons->aq,all_eq_true->aw,map_append->ax,mem_singleton->az,drop_zero->aD,mem_map->aE,filter_congr->aR,map_nil->a7,range'->bh,append_nil->bk,mem_append->bl,length_singleton->bp,getElem?_concat_length->bq,length->br,perm_append_singleton->bt,cons_append->bu,not_mem_nil->bv,getD_cons_zero->bw,mem_cons_self->bz,append_cancel_left->bB,append_assoc->bE,getElem?_set_self->bL,mem_range->bN,mem_range'_1->bO,filter_cons->bR,mem_cons_of_mem->bX,range_eq_range'->b0,take_append_of_le_length->b3,foldl_cons->b4,mem_filter->b5,getD_cons_succ->b8,map_eq_nil_iff->b9,pairwise_cons->cg,zip_cons_cons->cj,zip_nil_left->ck,take_length->cn,map_map->cr,range->ct,take_of_length_le->cv,find?_cons->cz,length_set->cA,nodup_cons->cB,pairwise_append->cE,findSome?_cons->cF,map_congr_left->cG,all_cons->cJ,filter_append->cK,filter_filter->cL,any_eq_false->cN,flatten_cons->cP,foldl_append->cQ,getElem?_map->cR,map->cS,size_toArray->cT,drop_length->cX,range'_succ->cY,filter_nil->c5,nil_append->c6,range_succ->c7,foldl_nil->db,all_nil->dc,toArray->de,drop->dj,take->dk
open Bool renaming and_eq_true->V,true_and->bd,false_eq_true->bi,eq_iff_iff->bj,false_and->ca,and_self->cH,and_true->cI,not_eq_true'->cM
open Int renaming toNat_natCast->av,lt_irrefl->bS,mul_nonneg->cb,natAbs_mul->cf,eq_ofNat_of_zero_le->cm,le_refl->cD
open Option renaming getD_some->aM,map_none->b7,isSome_iff_exists->cl,getD_none->cp,bind_some->c3,map_some->c8
open Array renaming length_toList->be
open ByteArray renaming size_append->bo,data_extract->cq,size->c9
open Go.IntKind renaming wrap->dl
namespace Go.Tel
open Go.Am
def LZ (n:Int):List DV:=[dI n]
def acu (xs:List Int)(ex:Bool)(hl:xs.length<=1000000):
  Wp C 241 [] [.d (.aW [.slice ex (xs.map ay)])] (xs.map LZ) no no no (fun _=>True):=by
 rintro⟨bs,fz,ar⟩ b n R stop K KP D E r G _ H lK B e f;simp only at r;refine ayH uh jq ?_;simp only[uh,jq,Y,RN,z,F,N];refine zu (fun m s=>∃(i:Nat) (g:Mem),m=xs.length - i/\i<=xs.length/\s=⟨[(0, .oP b),(5, .d (.slice ex (xs.map ay))),(6,pI xs.length),(7,pI i)],g⟩/\n<=g.boxes.length/\R ((xs.take i).map LZ) g)
  xs.length ⟨0,_,rfl,bc _,rfl,r,B⟩ ?_
 rintro m s ⟨i,⟨v,w,u⟩,rfl,J,rfl,c,h⟩
 by_cases a:i<xs.length
 case neg=>
  have k:i=xs.length:=by omega
  subst k;simp only[bS,RN,z];rw[cn]at h;exact f _ _ c h
 obtain⟨x,y,A⟩:=rng a hl;simp only[x,y,a,getD_map,aI,av,Y,RN,z,N];refine BI ?_;refine SY.mono (lK ((xs.take i).map LZ) (LZ (xs.getD i default)) ((xs.drop (i+1)).map LZ) _ (by
  conv=>lhs;rw[<-List.take_append_drop i xs,drop_cons a]
  simp) c h) ?_
 rintro p t ⟨l,I⟩;have o:=l.len;simp only at o c
 rcases I with⟨rfl,j⟩|⟨rfl,q⟩
 ·simp only[A,RN,z]
  refine⟨xs.length - (i+1),_,by omega, .inl rfl,i+1,t,rfl,by omega,rfl,by omega,?_⟩;rw[aS a,ax];exact j
 ·(try simp only[RN,z])
  exact e _ _ q
def C9 (ex:Bool)(xs:List Int):DV:= .func (.func 241) [] [.aW [.slice ex (xs.map ay)]]
def af2 (xs:List Int)(ex:Bool)(hl:xs.length<=1000000){bs:List (Option (List PV))}{fz:List Nat}{ar:List (Option Arr)}(w:FzB ⟨bs,fz,ar⟩){KP:DV->Mem->Prop}:
  SC C 288 [.d (.slice true []), .d (C9 ex xs)] ⟨bs,fz,ar⟩ (fun p M'=>slN 1 true p (xs.map ay) M'.aB/\Frm ⟨bs,fz,ar⟩ M'/\(∀k,kOf p=some k->ar.length<=k)/\(xs=[]->p= .d (.slice true []))) KP:=by
 have Q:bs.length∉fz:=fun e=>aL _ (w _ e)
 refine ayH rX aJ ?_;simp only[rX,aJ,C9,aQ,aV,RN,z,F];refine rD (acu xs ex hl) (fun _ h=>h) rfl (by kernel_rfl) (fun i s=>by have:=w i s;simp at this⊢;omega) (fun x t=>by obtain⟨i,_,rfl⟩:=aE.1 t;rfl) (fun _ h=>h.elim) (fun _ _=>trivial)
  (fun o u=>∃l r c,xs=l++r/\o=l.map LZ/\u.boxes[bs.length]?=some (some [c])/\bs.length∉u.fz/\slN 1 true c (l.map ay) u.aB/\Frm ⟨bs,fz,ar⟩ u/\(∀k,kOf c=some k->ar.length<=k)/\(l=[]->c= .d (.slice true []))) ?_ ?_ ?_ ?_
 ·rintro o u M2 A ⟨l,r,c,b,q,g,D,E,a,G,I⟩
  simp only[U,W,ao]at A;exact⟨l,r,c,b,q,(A.box _ (by omega) id).trans g,fun e=>D ((A.fz _ (by omega) id).1 e),by rw[A.aB];exact E,a.moved A (by simp),G,I⟩
 ·exact⟨[],xs,_,rfl,rfl,by simp only;rw[aQ rfl];rfl,Q, .inl ⟨rfl,rfl⟩,Frm.new (xf:=[]) (by simp),(fun k hk=>by cases hk),fun _=>rfl⟩
 ·rintro L cells o x Z ⟨m,K,J⟩ t n f B ⟨l,r,c,b,q,g,D,E,a,G,I⟩ M0
  simp only[U,W,ao]at n f B g D⊢;obtain⟨p,H,rfl⟩:∃p H,r=p::H:=by
   cases r with
   |nil=>
    rw[b,q]at t;have:=congrArg br t;simp at this
   |cons p H=>exact⟨p,H,rfl⟩
  have S:x=LZ p:=by
   rw[b,q,ax,ai]at t;have:=bB t;exact(List.cons.inj this).1.symm
  subst S;have v:bs.length<m.length:=by omega
  have X:l.length<=1000000:=by have:=congrArg br b;simp at this;omega
  simp only[LZ,cj,ck,ai,a7,g,iC,DV.strip,RN,z,N];refine RG E (by decide) (by intro y Y;simp only[az]at Y;subst Y;rfl) (by simp) (by simp;omega) fun k ver st ab a1 a2 a3 T a5 a6=> ?_
  have R:=a6 rfl;subst R;simp only[g,D,bM,dB,wz,RN,N];have O:ar.length<=k:=by
   rcases a1 with a1|a1
   ·exact G k a1
   ·have:=a.bH;simp only at this;omega
  refine⟨by rw[ap (by omega)];exact f,B,Kept.ND (by omega) id T (fun _ h=>h.elim),l++ [p],H, .tsl k ver 0,by rw[b];simp,by rw[q];simp[LZ],by simp[v], .inr ⟨k,ver,1,rfl,by rw[a2];simp[ay],by decide,fun _=> .inl rfl⟩,?_,(fun k' M=>by cases M;exact O),fun e=>by simp at e⟩;exact
  {len:=by have:=a.len;simpa using this
   bH:=cV a.bH T
   box:=fun i s=>by
    have:=a.box i s;simp only at s this⊢;rw[ap (by omega)];exact this
   fz:=a.fz
   row:=fun j V=>by
    have:=a.row j V;have P:=a.bH;simp only at V this P⊢;rw[a3 j (by omega) (by omega)];exact this
   fzb:=fun e i s=>by have:=a.fzb e i s;simpa using this}
 ·rintro⟨m,K,J⟩ ⟨l,r,c,b,q,g,D,E,a,G,I⟩ n
  simp only[U,W,ao]at n g;have hr:r=[]:=by
   have:=congrArg br q;rw[b]at this;simp at this;exact this
  subst hr;rw[bk]at b;subst b;have v:bs.length<m.length:=by omega
  simp only[g,RN,N];exact⟨E,a,G,I⟩
end Go.Tel
namespace Go.Proofs
open Go.Shelf
end Go.Proofs
namespace Go.Tel
open Go.Am
def alH {k ver:Nat}{zs:List Int}{bs:List (Option (List PV))}{fz:List Nat}{ar:List (Option Arr)}{K:PV->Mem->Prop}{KP:DV->Mem->Prop}
  (h:ar[k]?=some (some ⟨1,zs.map (DV.int .i64),ver,1⟩))(b:zs≠[])(hl:zs.length<4611686018427387904)
  (a:K (.d (.tup [])) ⟨bs,fz,ar.set k (some ⟨1,(zs.mergeSort fun x y=>decide (x<=y)).map (DV.int .i64),ver,1⟩)⟩):SC Go.Tel.C 240 [.tsl k ver 0] ⟨bs,fz,ar⟩ K KP:=
 anH (C:=Go.Tel.C) Go.Proofs.Tryz.laysSort h b hl a
def aio (ex:Bool):Pure C 240 [.slice ex []] (.d (.tup [])) []:=by
 refine qQ fun X w g l j i=> ?_
 cases i with|cons h1 t1=>
 cases t1;have b:∀a cap,Calls C.P 240 #[.slice a 0 cap] w fun e c=>∃v,e= .returned v/\Later w c/\bP c X v (.tup []):=by
  intro a cap;refine(Go.Proofs.Any.slices_Sort_int_none Go.Proofs.Tryz.laysSort a cap w).mono ?_;rintro e c ⟨rfl,rfl⟩;exact⟨_,rfl,Later.refl _, .tup .nil⟩
 cases h1 with
 |empty j=>exact b _ _
 |slice m o f p n k h=>
  simp only[ao]at f;subst f;exact b _ _
def Sr (xs:List Int)(ex:Bool)(hl:xs.length<=1000000){bs:List (Option (List PV))}{fz:List Nat}{ar:List (Option Arr)}(a:FzB ⟨bs,fz,ar⟩){KP:DV->Mem->Prop}:
  SC C 239 [.d (C9 ex xs)] ⟨bs,fz,ar⟩ (fun p M'=>slN 1 true p (xs.map ay) M'.aB/\Frm ⟨bs,fz,ar⟩ M'/\(∀k,kOf p=some k->ar.length<=k)/\(xs=[]->p= .d (.slice true []))) KP:=by
 refine ayH vF aK ?_;simp only[vF,aK,RN,z];refine SC.jU (SC.mono (af2 xs ex hl a (KP:=fun _ _=>False)) ?_) (fun _ _ h=>h.elim);rintro p ⟨c,e,b⟩ h;(try simp only[]);exact h
def QG (xs:List Int):List Int:=xs.mergeSort fun x y=>decide (x<=y)
def ahW:QG []=[]:=by simp[QG]
def alc {xs:List Int}(h:xs≠[]):QG xs≠[]:=fun e=>h (by
 have:=congrArg br e;simp only[QG,List.length_mergeSort,ao]at this;exact List.eq_nil_of_length_eq_zero this)
def QI {α:Type}{l:List α}(h:l≠[]):xC l=1:=by cases l with|nil=>exact absurd rfl h|cons _ _=>rfl
def ald (xs:List Int)(ex:Bool)(hl:xs.length<=1000000)(hx:xs≠[]):Pure C 164 [C9 ex xs] (.tsl 0 0 0) [⟨1,(QG xs).map ay,0,1⟩]:=by
 refine Qv (ayH nX aK ?_);simp only[nX,aK,RN,z];refine SC.jU (SC.mono (Sr xs ex hl (bs:=[]) (fz:=[]) (ar:=[]) (by intro i f;simp at f) (KP:=fun _ _=>False)) ?_) (fun _ _ h=>h.elim);rintro p ⟨d,e,c⟩ ⟨h1,h2,g,j⟩;obtain⟨k,ver,st,rfl,b,_,a⟩:=Io h1 (by simpa using hx);have a:=a rfl;subst a;simp only at b;(try simp only[]);refine alH (zs:=xs) b hx (by omega) ?_;(try simp only[]);exact⟨k,ver,rfl,by simp only;rw[bL (ae.1 b).1];rfl⟩
def aeK (ex:Bool):Pure C 164 [C9 ex []] (.d (.slice true [])) []:=by
 refine bU (ayH nX aK ?_);simp only[nX,aK,RN,z];refine SC.jU (SC.mono (Sr [] ex (by simp) (bs:=[]) (fz:=[]) (ar:=[]) (by intro i f;simp at f) (KP:=fun _ _=>False)) ?_) (fun _ _ h=>h.elim);rintro p ⟨b,c,a⟩ ⟨h1,h2,j,e⟩;have g:=e rfl;subst g;(try simp only[]);refine afF (aio false) rfl (ds:=[.slice true []]) rfl rfl ?_;(try simp only[])
 rfl
def alu (xs:List Int)(ex:Bool):Pure C 165 [.slice ex (xs.map ay)] (.d (C9 ex xs)) []:=by
 refine ayF wX aK ?_;simp only[wX,aK,RN,z]
 rfl
section
variable (f1 f2 e1 e2:Bool){D:Dk}{t:Sp}(ns:List Int)
def aly (e:zK D.su 24 t):Ans 76 [xG f1 f2 e1 e2 D t,sF (ns.map ay)] (QG t.eH) 0:=by
 have d:=e.st;have c:=alu t.eH false
 by_cases a:t.eH=[]
 ·have b:=aeK false
  rw[a]at c⊢;refine zY ahW (ayF jP dY ?_);simp only[jP,dY,iM,cO,a,RN,z,F,N];refine ayG c ?_;(try simp only[RN,z,F,H,I,J,N]);refine yH rfl rfl b (by simp) ?_;simp only[PV.shift,kC,RN]
 ·have b:=ald t.eH false (by omega) a
  refine gQ (ayH jP dY ?_);simp only[jP,dY,iM,cO,RN,z,F,N];refine ayG c ?_;(try simp only[RN,z,F,H,I,J,N]);refine yH rfl rfl b (by simp) ?_;simp only[PV.shift,kC,bI,dR,RN];exact⟨_,rfl,0,0,rfl,by rw[QI (alc a)];rfl⟩
def NQ {D:Dk}(hl:D.es.length=D.st.length)(ab:D.es.length<=1000)(hf:∀x∈D.es,jc x.kind<=x.ns.length):
  Wp C 163 [.d (.aW (JG e1 e2 D))] [] (dD D 0) no no no (fun _=>True):=by
 rintro⟨bs,fz,ar⟩ b n R stop K KP ac ae hn y ai Q lK h0 u w;simp only at hn y;refine ayH ku jq ?_;simp only[ku,jq,JG,Y,RN,z,F,N];refine zu (fun m s=>∃(i:Nat) (f:List (List DV)) (E:Mem),m=D.es.length - i/\i<=D.es.length/\s=⟨[(0, .d (.aW (JG e1 e2 D))),(1, .oP b),(9, .d (.slice e1 (D.es.map En.dv))),(10,pI D.es.length),(11,pI i)],E⟩/\n<=E.boxes.length/\FzB E/\dD D 0=f++dD D i/\R f E)
  D.es.length ⟨0,[],_,rfl,bc _,rfl,hn,y,rfl,h0⟩ ?_
 rintro m s ⟨i,f,⟨g,q,v⟩,rfl,hi,rfl,h,l,c,hR⟩;simp only at h;have S:g.length∉q:=fun e=>aL _ (l _ e)
 by_cases t:i<D.es.length
 case neg=>
  have O:i=D.es.length:=by omega
  subst O;simp only[bS,RN,z];refine w _ _ h ?_;rw[c];have:dD D D.es.length=[]:=by simp[dD,kJ]
  rw[this,bk];exact hR
 have B:(i:Int)<(D.es.length:Int):=by omega
 have o:i<D.st.length:=by omega
 have j0:(0:Int)<=(i:Int):=by omega
 have Z:dl .i64 ((i:Int)+1)=((i+1:Nat):Int):=by rw[aF (by omega)];omega
 have a:=Ho hl t;obtain⟨x,V⟩:∃x,x=D.es.getD i default:=⟨_,rfl⟩
 have X:x∈D.es:=by rw[V];exact getD_mem t
 have aaq:=SB x (hf x X);rw[<-V]at a;rw[dM]at aaq;have r:R f ⟨g++ [some [pI x.kind, .d (sF (x.ns.map ay))]],g.length::q,v⟩:=
  Q f _ _ (Moved.ext (xf:=[g.length]) (xb:=[_]) h (by simpa using h)) hR
 have adA:FzB ⟨g++ [some [pI x.kind, .d (sF (x.ns.map ay))]],g.length::q,v⟩:=by
  intro j hj;simp only[aq]at hj;simp only[U,W,ao]
  rcases hj with rfl|hj
  ·omega
  ·have:=l j hj;simp only at this;omega
 simp only[B,t,j0,av,Y,getD_map,<-V,dM,S,aQ,aV,U,RN,z,F,N]
 by_cases L:x.kind=6
 ·have G:(x.kind !=6)=false:=by simp[L]
  rw[if_neg (by simp[L])]at a;simp only[G,Z,RN,z];refine⟨D.es.length - (i+1),_,by omega, .inl rfl,i+1,f,_,rfl,by omega,rfl,by simp;omega,adA,by rw[c,a],r⟩
 have G:(x.kind !=6)=true:=by simp[L]
 cases k:D.st.getD i default
 case true=>
  rw[if_neg (fun e=>by rw[k]at e;cases e.2)]at a;simp only[JG,G,o,j0,av,Y,getD_map,kF,k,Z,RN,z,F,N];refine⟨D.es.length - (i+1),_,by omega, .inl rfl,i+1,f,_,rfl,by omega,rfl,by simp;omega,adA,by rw[c,a],r⟩
 rw[if_pos ⟨L,k⟩]at a;simp only[JG,G,o,j0,av,Y,getD_map,kF,k,RN,z,F,N];refine ayG aaq ?_;(try simp only[RN,z,F,H,I,J,N]);refine BI ?_;refine SY.mono (lK f (oN (i,x.deed)) (dD D (i+1)) _ (by rw[c,a]) (by simp;omega) r) ?_;rintro p M3 ⟨A,hp⟩
 rcases hp with⟨rfl,M⟩|⟨rfl,T⟩
 ·simp only[Z,RN,z]
  have P:=A.len;simp only[U,W,ao]at P;refine⟨D.es.length - (i+1),_,by omega, .inl rfl,i+1,_,M3,rfl,by omega,rfl,by omega,A.fzb adA,by rw[c,a,bE];rfl,M⟩
 ·(try simp only[RN,z])
  exact u _ _ T
def aeO (b:D.Ok):Ans 86 [xG f1 f2 e1 e2 D t,sF (ns.map ay)] (D.stands.map fun p=>(p.1:Int)) 0:=by
 have Y:D.stands.length<=24:=cV (Az _ _ _) b.few
 by_cases u:D.stands=[]
 ·refine zY (by rw[u];rfl) (bU (ayH jy dY ?_))
  simp only[jy,dY,iM,RN,z,F,N];refine rD (NQ e1 e2 b.len (by have:=b.few;omega) (fun x a=>Ae (b.formed x a))) (fun _ h=>h) rfl (by kernel_rfl) (fun i C=>by simp at C;simp[C]) (fun x a=>by simp only[dD,aE]at a;obtain⟨p,_,rfl⟩:=a;rfl) (fun _ h=>h.elim) (fun _ _=>trivial)
   (fun f o=>o.boxes[1]?=some (some [.d (.slice true [])])) ?_ rfl ?_ ?_
  ·intro f o R E h
   exact(E.box 1 (by simp) id).trans h
  ·intro L cells f x H o a
   rw[dD,aD,aD,<-Dk.stands,u]at a;simp at a
  ·rintro⟨m,A,w⟩ h n
   simp only at h;simp only[h,RN,z,N]
   rfl
 ·refine gQ (ayH jy dY ?_)
  simp only[jy,dY,iM,RN,z,F,N];refine rD (NQ e1 e2 b.len (by have:=b.few;omega) (fun x a=>Ae (b.formed x a))) (fun _ h=>h) rfl (by kernel_rfl) (fun i C=>by simp at C;simp[C]) (fun x a=>by simp only[dD,aE]at a;obtain⟨p,_,rfl⟩:=a;rfl) (fun _ h=>h.elim) (fun _ _=>trivial)
   (fun f o=>∃l r c,D.stands=l++r/\f=l.map oN/\o.boxes[1]?=some (some [c])/\1∉o.fz/\slN 1 true c (l.map fun p=>dI (p.1:Int)) o.aB) ?_ ⟨[],D.stands,_,rfl,rfl,rfl,by simp, .inl ⟨rfl,rfl⟩⟩ ?_ ?_
  ·rintro f o R E ⟨l,r,c,g,v,s,I,J⟩
   exact⟨l,r,c,g,v,(E.box 1 (by simp) id).trans s,fun e=>I ((E.fz 1 (by simp) id).1 e),by rw[E.aB];exact J⟩
  ·rintro L cells f x H ⟨m,A,w⟩ a n q G ⟨l,r,c,g,v,s,I,J⟩ Z
   simp only[W,ao]at n q G s I⊢;obtain⟨p,K,rfl⟩:∃p K,r=p::K:=by
    cases r with
    |nil=>
     rw[dD,aD,aD,<-Dk.stands,g,v]at a;have:=congrArg br a;simp at this
    |cons p K=>exact⟨p,K,rfl⟩
   have M:x=oN p:=by
    rw[dD,aD,aD,<-Dk.stands,g,v,ax,ai]at a;exact(List.cons.inj (bB a)).1.symm
   subst M;have B:1<m.length:=by omega
   have P:l.length<=24:=by have:=congrArg br g;simp at this;omega
   simp only[oN,cj,ck,ai,a7,s,iC,DV.strip,RN,z,F,N];refine RG J (by decide) (by intro y Q;simp only[az]at Q;subst Q;rfl) (by simp) (by simp;omega) fun k ver st V a1 S a3 T a5 U=> ?_
   have j:=U rfl;subst j;simp only[s,I,bM,dB,wz,RN,F,N];exact⟨by rw[ap (by omega)];exact q,G,Kept.ND (by omega) id T (fun _ h=>h.elim),l++ [p],K, .tsl k ver 0,by rw[g];simp,by rw[v];simp[oN],by simp[B], .inr ⟨k,ver,1,rfl,by rw[S];simp,by decide,fun _=> .inl rfl⟩⟩
  ·rintro⟨m,A,w⟩ ⟨l,r,c,g,v,s,I,J⟩ n
   simp only[W,ao]at n s;have X:r=[]:=by
    have:=congrArg br v;rw[dD,aD,aD,<-Dk.stands,g]at this;simp at this;exact this
   subst X;rw[bk]at g;have aqD:l≠[]:=by rw[<-g];exact u
   obtain⟨k,ver,st,rfl,O,_,j⟩:=Io J (by simpa using aqD);have j:=j rfl;subst j;simp only at O;have B:1<m.length:=by omega
   simp only[s,bI,dR,RN,z,N];refine⟨_,rfl,k,ver,rfl,?_⟩;rw[QI (by rw[g];simpa using aqD)];simp only[O,g,cr]
   rfl
end
end Go.Tel
namespace Go.Am
section
variable {C:Ctx}
def XI (C:Ctx)(M:Mem)(args qs:List PV)(ds:List DV):Prop:=∀X w E a,Sim C X w M E->aP w (away X M E) M E a args->aX w (away X (M.frz qs) E) a ds
variable{M:Mem}
def acE {a b:PV}{e f y:DV}(h:dF M [a,b, .d y]=some [e,f,y]):XI C M [.agg [a,b], .d y] [a,b, .d y] [.agg [e,f],y]:=by
 intro X w E g m k;cases k with|cons h1 t1=>
 cases t1 with|cons h2 t2=>
 cases t2;cases h1 with|agg hh=>
 rename_i z
 generalize c:z.toList=l at hh;cases hh with|cons i s=>
 cases s with|cons j t=>
 cases t;have hd:=vI (ps:=[a,b, .d y]) m (.cons i (.cons j (.cons h2 .nil))) h (fun q n=>n);cases hd with|cons o u=>
 cases u with|cons p v=>
 cases v with|cons r x=>
 cases x;exact .cons (.agg (by rw[c];exact .cons o (.cons p .nil))) (.cons r .nil)
def ahP {f:FuncId}{args qs:List PV}{ds ds':List DV}{r:PV}{k:List Arr}(h:Pure C f ds' r k)(u:aaj r=true)(d:k.all lJ=true){K:PV->Mem->Prop}{KP:DV->Mem->Prop}
  (m:XI C M args qs ds)(n:ds.map DV.strip=ds')(s:K (r.shift M.aB.length) {M with aB:=M.aB++k.map some}):SC C f args M K KP:=by
 subst n;intro X w E a c q;have l:=ng c qs;have hd:=(m X w E a c q).strip;refine(h (away X (M.frz qs) E) w a c.glob (fun b i=> .inl (c.iK b i)) (fun b i=>l.yj i) hd).mono fun e F n=> ?_
 obtain⟨v,D,rfl,g,p,x⟩:=n;have o:∀A∈k,A.st≠2:=fun A t e=>by
  have j:=aw.1 d A t;simp only[lJ,V]at j
  rcases Bool.or_eq_true_iff.1 j.1 with h|h
  ·rw[e]at h;simp at h
  ·rw[e]at h;simp at h
 obtain⟨y,z,B⟩:=Hg c (Il c g p d) p o;exact⟨_,_,_,s,y,z,OQ c.bH (fun b i=>(B b).1 i) (Xw g d u x)⟩
end
end Go.Am
namespace Go.Tel
open Go.Am
variable{f:FuncId}{args qs:List PV}{M:Mem}{ds ds':List DV}{K:PV->Mem->Prop}{KP:DV->Mem->Prop}
def anE {n:Int}(h:Pure C f ds' (.d (yR n)) [])(k:XI C M args qs ds)(l:ds.map DV.strip=ds')(p:K (.d (yR n)) M):SC C f args M K KP:=by
 subst l;intro X w E a c o;have i:=ng c qs;have hd:=(k X w E a c o).strip;refine(h (away X (M.frz qs) E) w a c.glob (fun b j=> .inl (c.iK b j)) (fun b j=>i.yj j) hd).mono fun e x l=> ?_
 obtain⟨v,t,rfl,g,m,q⟩:=l;obtain⟨r,s,u⟩:=Hg c (Il c g m rfl) m (by simp);exact⟨_,_,_,(by simpa using p),r,s, .d (afp q.toD)⟩
variable{l:List Int}
def aol {e:Int}(h:Ans f ds' l e)(a:XI C M args qs ds)(i:ds.map DV.strip=ds')
  (g:∀p c xa,(p= .tup [c,pI e]\/(p= .d (.tup [.slice true [],dI e])/\c= .d (.slice true [])))->slN 1 true c (l.map ay) (M.aB++xa)->(∀k,kOf c=some k->M.aB.length<=k)->K p ⟨M.boxes,M.fz,M.aB++xa⟩):SC C f args M K KP:=by
 rcases h with h|⟨rfl,h⟩
 ·refine ahP h rfl ?_ a i ?_
  ·simp only[cJ,dc,cI];exact Lp l
  ·refine g _ (.tsl M.aB.length 0 0) [some ⟨1,l.map ay,0,xC l⟩] (.inl ?_) (.inr ⟨_,0,xC l,rfl,by simp,Ip,fun _=> ?_⟩) (fun k b=>by cases b;exact a8 _)
   ·simp[PV.shift,kC,Vh]
   ·cases l with
    |nil=>exact .inr rfl
    |cons x l=>exact .inl rfl
 ·refine anE h a i ?_
  have:=g (.d (yR e)) (.d (.slice true [])) [] (.inr ⟨rfl,rfl⟩) (.inl ⟨rfl,rfl⟩) (fun k b=>by cases b)
  simpa using this
structure Qn where
 kind:Int
 ns:List Int
 deriving DecidableEq,Inhabited
def Qn.dv (x:Qn):DV:= .agg [dI x.kind,sF (x.ns.map ay)]
def afa {x:Qn}:x.dv= .agg [dI x.kind,sF (x.ns.map ay)]:=by rw[Qn.dv]
def Qn.n (x:Qn)(i:Nat):Int:=x.ns.getD i default
def amL:List (ByteArray×Nat):=[(⟨#[104,97,110,100,115]⟩,0),(⟨#[115,116,111,99,107]⟩,0),(⟨#[111,112,101,110]⟩,0),(⟨#[112,114,105,99,101]⟩,1),(⟨#[110,101,101,100]⟩,3),(⟨#[111,102,102]⟩,2),(⟨#[119,114,111,110,103]⟩,0),(⟨#[119,111,114,107,115]⟩,1),(⟨#[100,97,116,101]⟩,1),(⟨#[99,117,116,115]⟩,1),(⟨#[99,111,105,110,115]⟩,0),(⟨#[115,116,97,110,100,115]⟩,0)]
def fwQ (k:Int):ByteArray:=(amL.getD (k - 1).toNat default).1
def TK (k:Int):Nat:=(amL.getD (k - 1).toNat default).2
def XR {k:Int}(h:1<=k/\k<=12):k=1\/k=2\/k=3\/k=4\/k=5\/k=6\/k=7\/k=8\/k=9\/k=10\/k=11\/k=12:=by omega
def aqa {k:Int}(h:1<=k/\k<=12):air (iZ (dk 2 (dj ((k - 1).toNat*2) (cS PV.d (VI amL))))) (dk 2 (dj ((k - 1).toNat*2) (cS PV.d (VI amL))))= .d (.agg [.str (fwQ k),dI (TK k)])/\(k - 1).toNat*2+2<=(cS PV.d (VI amL)).length/\dl .i64 (k - 1)=k - 1:=by
 rcases XR h with rfl|rfl|rfl|rfl|rfl|rfl|rfl|rfl|rfl|rfl|rfl|rfl<;>exact⟨rfl,by decide,by decide⟩
def afd:VI amL=[.str ⟨#[104,97,110,100,115]⟩,dI 0, .str ⟨#[115,116,111,99,107]⟩,dI 0, .str ⟨#[111,112,101,110]⟩,dI 0, .str ⟨#[112,114,105,99,101]⟩,dI 1, .str ⟨#[110,101,101,100]⟩,dI 3, .str ⟨#[111,102,102]⟩,dI 2, .str ⟨#[119,114,111,110,103]⟩,dI 0, .str ⟨#[119,111,114,107,115]⟩,dI 1, .str ⟨#[100,97,116,101]⟩,dI 1, .str ⟨#[99,117,116,115]⟩,dI 1, .str ⟨#[99,111,105,110,115]⟩,dI 0, .str ⟨#[115,116,97,110,100,115]⟩,dI 0]:=rfl
def aiy:Pure C 71 [] (.d (.agg (VI amL))) []:=by
 refine ayF y9 akQ ?_;simp only[y9,akQ,afd,H9,RN,z,F,N]
def aon (k:Int):FuncId:=([75,76,77,78,79,80,81,82,83,84,85,86]:List FuncId).getD (k - 1).toNat default
def Dk.answer (D:Dk)(t:Sp)(q:Qn):List Int×Int:=
 if q.kind=1 then(ajr t.pc,0)else if q.kind=2 then(QG t.eH,0)else if q.kind=3 then(qo t.op t.pc.hands.length,0)
 else if q.kind=4 then(if inR (q.n 0) 0 (D.su.pc.hands.length - 1)then[Ec D.su t (q.n 0).toNat]else[],if inR (q.n 0) 0 (D.su.pc.hands.length - 1)then 0 else 2)
 else if q.kind=5 then uU D t (q.n 0) (q.n 1) (q.n 2)
 else if q.kind=6 then(if inR (q.n 0) 0 (D.su.pc.hands.length - 1)&&inR (q.n 1) 1 D.su.days.length then[(rG t.pc (q.n 0) (t.tg.getD (q.n 0).toNat default) (t.turns (q.n 1))).1]else[],
  if inR (q.n 0) 0 (D.su.pc.hands.length - 1)&&inR (q.n 1) 1 D.su.days.length then(rG t.pc (q.n 0) (t.tg.getD (q.n 0).toNat default) (t.turns (q.n 1))).2 else 2)
 else if q.kind=7 then([vW D.su t D.su.days.length],0)
 else if q.kind=8 then(if inR (q.n 0) 1 D.su.days.length then(match vK D.EF ((D.su.days.length:Int)+1 - q.n 0).toNat (q.n 0)with|some d=>[d]|none=>[])else[],
  if inR (q.n 0) 1 D.su.days.length then(match vK D.EF ((D.su.days.length:Int)+1 - q.n 0).toNat (q.n 0)with|some _=>0|none=>5)else 2)
 else if q.kind=9 then(if inR (q.n 0) 1 D.su.days.length then[(SA D.su.cal D.su.year.toNat (D.su.first+(q.n 0 - 1))).m,(SA D.su.cal D.su.year.toNat (D.su.first+(q.n 0 - 1))).d]else[],if inR (q.n 0) 1 D.su.days.length then 0 else 2)
 else if q.kind=10 then([(D.su.dvd.cuts (q.n 0)).1.circle,(D.su.dvd.cuts (q.n 0)).1.turns,(D.su.dvd.cuts (q.n 0)).1.holes],(D.su.dvd.cuts (q.n 0)).2)
 else if q.kind=11 then([t.kE],0)
 else(D.stands.map fun p=>(p.1:Int),0)
def aiu (f1 f2 e1 e2:Bool){D:Dk}{t:Sp}(a:D.Ok)(c:zK D.su 24 t)(q:Qn)(hk:1<=q.kind/\q.kind<=12)(b:q.ns.length=TK q.kind):
  Ans (aon q.kind) [xG f1 f2 e1 e2 D t,sF (q.ns.map ay)] (D.answer t q).1 (D.answer t q).2:=by
 obtain⟨k,ns⟩:=q;simp only at hk b⊢
 rcases XR hk with rfl|rfl|rfl|rfl|rfl|rfl|rfl|rfl|rfl|rfl|rfl|rfl
 ·exact amq _ _ _ _ _ c
 ·exact aly _ _ _ _ _ c
 ·exact aki _ _ _ _ _ c
 ·exact aot _ _ _ _ _ a c b
 ·exact apI _ _ _ _ _ a c b
 ·exact aq6 _ _ _ _ _ a c b
 ·exact anX _ _ _ _ _ a c
 ·exact anU _ _ _ _ _ a b
 ·exact aow _ _ _ _ _ a b
 ·exact aou _ _ _ _ _ a b
 ·exact apO _ _ _ _ _
 ·exact aeO _ _ _ _ _ a
def Dk.ask (D:Dk)(q:Qn):List Int×Int:=
 if inR q.kind 1 12=false then([],2)else if q.ns.length≠TK q.kind then([],2)else
  match D.state (-1)with
  |none=>([],7)
  |some t=>if(D.answer t q).2=0 then D.answer t q else([],(D.answer t q).2)
variable{s:Su}{a b:Nat}
def gy.same {mb:Nat}{cst cse:PV}{t:Sp}{M':Mem}(h:gy s a b mb cst cse t M)(hb:M'.boxes[b]?=M.boxes[b]?)(g:M'.boxes[mb]?=M.boxes[mb]?)(c:M'.aB=M.aB)(d:b∉M'.fz)(e:mb∉M'.fz)(f:FzB M'):gy s a b mb cst cse t M':=
 {box:=hb.trans h.box
  map:=g.trans h.map
  r0:=by rw[c];exact h.r0
  r1:=by rw[c];exact h.r1
  r2:=by rw[c];exact h.r2
  r3:=by rw[c];exact h.r3
  r4:=by rw[c];exact h.r4
  r5:=by rw[c];exact h.r5
  stk:=by rw[c];exact h.stk
  set:=by rw[c];exact h.set
  kst:=h.kst,kse:=h.kse,dif:=h.dif,nb:=d,nm:=e,bm:=h.bm,fzb:=f}
def Frm.KG {a:List (Option (List PV))}{b:List Nat}{ar':List (Option Arr)}{y:Option (List PV)}{i:Nat}(h:Frm M ⟨a,b,ar'⟩)(hi:M.boxes.length<=i):Frm M ⟨a.set i y,b,ar'⟩:=
 {len:=by have:=h.len;simp only[cA]at this⊢;omega
  bH:=h.bH
  box:=fun j c=>by
   have h2:=h.box j c;simp only at h2⊢;rw[ap (by omega)];exact h2
  fz:=h.fz
  row:=h.row
  fzb:=fun e j c=>by have:=h.fzb e j c;simp only[cA]at this⊢;exact this}
variable{D:Dk}{d:Nat}
def alN {ce cs:PV}(h:oC D d ce cs M)(n:D.Ok){pb ab:Nat}(o:M.boxes[pb]?=some (some [.ptr d 0]))(m:M.boxes[ab]?=some (some [.d .nilPtr, .ptr d 0]))(j:ab∉M.fz):
  SC C 73 [.ptr pb 0, .ptr ab 0] M
   (fun _ M'=>∃t b mb a cst cse c f g,D.state (-1)=some t/\gy D.su a b mb cst cse t ⟨c,f,g⟩/\Frm M ⟨c,f,g⟩/\M.boxes.length<=b/\M.boxes.length<=mb/\M'=⟨c.set ab (some [.ptr b 0, .ptr d 0]),f,g⟩)
   (fun p M'=>D.state (-1)=none/\JA p/\Frm M M'):=by
 have w:=h;obtain⟨bs,fz,ar⟩:=M;simp only at o m j;have x:pb<bs.length:=(ae.1 o).1;have k:ab<bs.length:=(ae.1 m).1;refine ayH qw jq ?_;simp only[qw,jq,o,RN,z,F,N];refine SC.mono (N9 w n (-1)) ?_;rintro v ⟨c,f,g⟩ ⟨t,b,mb,a,cst,cse,rfl,q,r,l,s,u,y⟩;have i:c[ab]?=some (some [.d .nilPtr, .ptr d 0]):=(l.box ab k).trans m;have aqo:ab<c.length:=(ae.1 i).1;have arA:ab∉f:=fun e=>j ((l.fz ab k).1 e)
 simp only[i,arA,mD,wu,RN,F,N];exact⟨t,b,mb,a,cst,cse,c,f,g,q,r,l,s,u,rfl⟩
def aoo {k:Int}(h:1<=k/\k<=12):(cS PV.d [DV.func (.func 75) [] [], .func (.func 76) [] [], .func (.func 77) [] [], .func (.func 78) [] [], .func (.func 79) [] [], .func (.func 80) [] [], .func (.func 81) [] [], .func (.func 82) [] [], .func (.func 83) [] [], .func (.func 84) [] [], .func (.func 85) [] [], .func (.func 86) [] []]).getD (k - 1).toNat .dead= .d (.func (.func (aon k)) [] [])/\callable C.P (aon k)=true:=by
 rcases XR h with rfl|rfl|rfl|rfl|rfl|rfl|rfl|rfl|rfl|rfl|rfl|rfl<;>exact⟨rfl,by kernel_rfl⟩
def aii {ce cs:PV}(h:oC D d ce cs M)(S:D.Ok)(q:Qn){KP:DV->Mem->Prop}:
  SC C 21 [.ptr d 0, .d q.dv] M (fun p M'=>∃c,(p= .tup [c,pI ((D.ask q).2)]\/(p= .d (.tup [.slice true [],dI (D.ask q).2])/\c= .d (.slice true [])))/\slN 1 true c ((D.ask q).1.map ay) M'.aB/\(∀k,kOf c=some k->M.aB.length<=k)/\Frm M M') KP:=by
 obtain⟨bs,fz,ar⟩:=M;have u:=h.box;rw[iV]at u;simp only at u;have bq:d<bs.length:=(ae.1 u).1;have FX:∀i∈fz,i<bs.length:=h.fzb
 have br:bs.length∉fz:=fun e=>aL _ (FX _ e)
 have av:∀k,bs.length+k∉fz:=fun k e=>by have:=FX _ e;omega
 have bk:¬d=bs.length:=by omega
 have bl:∀k,¬d=bs.length+k:=fun k=>by omega
 have bo:∀k,d<bs.length+k:=fun k=>by omega
 have bt:¬bs.length+1=bs.length:=by omega
 have bu:¬bs.length+2=bs.length:=by omega
 have be:¬bs.length+2=bs.length+1:=by omega
 have K:Frm ⟨bs,fz,ar⟩ ⟨bs++ [some [.ptr d 0],some [pI q.kind, .d (sF (q.ns.map ay))]],(bs.length+1)::fz,ar⟩:=Frm.new (xf:=[bs.length+1]) (by simp);obtain⟨e1,e2,a5⟩:=Lc (h.frm K);refine ayH tN dY ?_;simp only[tN,dY,afa,bQ,aQ,dh,aV,U,mD,JR,RN,z,F,N];refine kS (La a5) rfl (aaA e1 e2 D) rfl ?_;(try simp only[RN,z,F,N]);refine ayG (Ah _ _ _) ?_;cases g:inR q.kind 1 12
 ·(try simp only[RN,z])
  have he:D.ask q=([],2):=by simp[Dk.ask,g]
  rw[he];exact⟨_, .inr ⟨rfl,rfl⟩, .inl ⟨rfl,rfl⟩,(fun k g=>by cases g),K⟩
 have P:1<=q.kind/\q.kind<=12:=by simpa[inR]using g
 simp only[Y,RN,z,F,N];refine ayG aiy ?_;obtain⟨a1,a2,a3⟩:=aqa P;simp only[a3,a1,RN,F,N];refine⟨by omega,by omega,a2,?_⟩
 by_cases hn:q.ns.length=TK q.kind
 case neg=>
  have hb:((q.ns.length:Int) !=(TK q.kind:Int))=true:=by simp;omega
  simp only[hb,RN,z];have he:D.ask q=([],2):=by simp[Dk.ask,g,hn]
  rw[he];exact⟨_, .inr ⟨rfl,rfl⟩, .inl ⟨rfl,rfl⟩,(fun k g=>by cases g),K⟩
 have hb:((q.ns.length:Int) !=(TK q.kind:Int))=false:=by simp[hn]
 simp only[hb,bQ,aQ,dh,bE,U,av,be,wu,agU,lU,b7,eP,gI,RN,z,F,N];refine⟨rfl,?_⟩;obtain⟨B,T⟩:∃B,B=bs++ [some [.ptr d 0],some [pI q.kind, .d (sF (q.ns.map ay))],some [.d .nilPtr, .ptr d 0]]:=⟨_,rfl⟩
 obtain⟨Z,hZ⟩:∃Z,Z=(bs.length+1)::fz:=⟨_,rfl⟩
 have bj:B.length=bs.length+3:=by rw[T];simp
 have aE:B[bs.length]?=some (some [.ptr d 0]):=by rw[T,aQ rfl];rfl
 have aD:B[bs.length+2]?=some (some [.d .nilPtr, .ptr d 0]):=by rw[T,bQ rfl];rfl
 have x:Frm ⟨bs,fz,ar⟩ ⟨B,Z,ar⟩:=by rw[T,hZ];exact Frm.new (xf:=[bs.length+1]) (by simp)
 have aR:bs.length+2∉Z:=by
  rw[hZ];intro e
  rcases aq.1 e with e|e
  ·omega
  ·exact av _ e
 simp only[<-T,<-hZ];have aM:Frm ⟨B,Z,ar⟩ ⟨B++ [some [pI 0]],Z,ar⟩:=Frm.new (xf:=[]) (by simp);have adx:=x.trans aM;have z0:((0:Int) !=0)=false:=rfl;have z7:((7:Int) !=0)=true:=rfl;refine Rx (fs:=[]) (cs:=[.ptr bs.length 0, .ptr (bs.length+2) 0]) (x.fzb h.fzb) (by kernel_rfl) ?_;refine SC.jU (SC.mono (alN (h.frm adx) S (pb:=bs.length) (ab:=bs.length+2) ?_ ?_ aR) ?_) ?_
 ·simp only;rw[am (by omega)];exact aE
 ·simp only;rw[am (by omega)];exact aD
 ·rintro v M' ⟨t,b,mb,a,az,ax,o,f,j,g1,J,w,g4,g5,rfl⟩
  simp only[U,W,ao]at g4 g5;have A:=adx.trans w;have bc:=w.len;simp only[U,W,ao]at bc;have L:o[B.length]?=some (some [pI 0]):=by
   have:=w.box B.length (by simp);simp only at this;rw[this,aQ rfl];rfl
  have O:B.length∉f:=fun e=>by
   have:=(w.fz B.length (by simp)).1 e;simp only at this;have h5:=x.fzb h.fzb _ this;simp only at h5;omega
  obtain⟨n,m⟩:∃n,n=o.set (bs.length+2) (some [.ptr b 0, .ptr d 0]):=⟨_,rfl⟩
  have asR:n.length=o.length:=by rw[m];simp
  have arv:n[bs.length+2]?=some (some [.ptr b 0, .ptr d 0]):=by rw[m,bL (by omega)]
  have arw:n[B.length]?=some (some [pI 0]):=by rw[m,ap (by omega)];exact L
  have E:Frm ⟨bs,fz,ar⟩ ⟨n,f,j⟩:=by rw[m];exact A.KG (by simp only;omega)
  have an:FzB ⟨n,f,j⟩:=E.fzb h.fzb;have R:n.length∉f:=fun e=>aL _ (an _ e)
  rw[<-m];refine⟨arw,O,?_⟩;have a0:bs.length+2<n.length:=by omega
  have jk:0<=q.kind - 1:=by omega
  have bv:q.kind - 1<12:=by omega
  have bw:(q.kind - 1).toNat+1<=12:=by omega
  obtain⟨ac,a6⟩:=aoo P;simp only[ai,a7]at ac;simp only[z0,H9,bD,aQ,aV,R,arv,a0,U,a3,Nat.zero_add,c4,RN,z,F,N];refine⟨rfl,by omega,by omega,by omega,by omega,by omega,?_⟩;rw[ac];simp only[lU,eP,fH,RN];refine⟨a6,?_⟩;obtain⟨X,hX⟩:∃X,X=[some [PV.d (DV.func (Fn.func 75) [] []),PV.d (DV.func (Fn.func 76) [] []),PV.d (DV.func (Fn.func 77) [] []),PV.d (DV.func (Fn.func 78) [] []),PV.d (DV.func (Fn.func 79) [] []),PV.d (DV.func (Fn.func 80) [] []),PV.d (DV.func (Fn.func 81) [] []),PV.d (DV.func (Fn.func 82) [] []),PV.d (DV.func (Fn.func 83) [] []),PV.d (DV.func (Fn.func 84) [] []),PV.d (DV.func (Fn.func 85) [] []),PV.d (DV.func (Fn.func 86) [] [])]]:=⟨_,rfl⟩
  simp only[<-hX];have G:Frm ⟨bs,fz,ar⟩ ⟨n++X,f,j⟩:=E.trans (Frm.new (xf:=[]) (by simp));have bp:b<o.length/\mb<o.length:=⟨(ae.1 J.box).1,(ae.1 J.map).1⟩
  have bh:gy D.su a b mb az ax t ⟨n++X,f,j⟩:=J.same (by
    simp only;rw[am (by omega),m,ap (by omega)]) (by
    simp only;rw[am (by omega),m,ap (by omega)]) rfl J.nb J.nm (G.fzb h.fzb)
  obtain⟨f1,f2,bi⟩:=ab6 bh;obtain⟨d1,d2,a4⟩:=Lc (h.frm G);have a8:=S.Vp g1;have hA:=aiu f1 f2 d1 d2 S a8 q P hn;have hL:dF ⟨n++X,f,j⟩ [.ptr b 0, .ptr d 0, .d (sF (q.ns.map ay))]=some [.aW (t.cells f1 f2 D.su),uP d1 d2 D,sF (q.ns.map ay)]:=by
   simp only[dF,bi,a4];rfl
  have V:D.ask q=if(D.answer t q).2=0 then D.answer t q else([],(D.answer t q).2):=by
   simp only[Dk.ask,g,hn,g1];simp
  rw[V];generalize D.answer t q=r at*;obtain⟨l,e⟩:=r;simp only at hA⊢;refine aol (ds:=[xG f1 f2 d1 d2 D t,sF (q.ns.map ay)]) hA (acE hL) rfl fun p c xa hp hs a9=> ?_
  have s:Frm ⟨bs,fz,ar⟩ ⟨n++X,f,j++xa⟩:=G.trans (by have:=Frm.ext (bs:=n++X) (xb:=[]) (fz:=f) (xf:=[]) (ar:=j) (xa:=xa) (by simp);simpa using this);have Q:∀k,kOf c=some k->ar.length<=k:=fun k g=>cV G.bH (a9 k g)
  by_cases hr:e=0
  ·subst hr
   simp only[if_true]
   rcases hp with rfl|⟨rfl,rfl⟩
   ·rcases hs with⟨rfl,hl⟩|⟨k,ver,st,rfl,hl⟩
    ·simp only[qc,qg,z0,RN,z]
     exact⟨_, .inr rfl, .inl ⟨rfl,hl⟩,Q,s⟩
    ·simp only[qc,qg,z0,bI,dR,RN,z]
     exact⟨_, .inl rfl, .inr ⟨k,ver,st,rfl,hl⟩,Q,s⟩
   ·simp only[z0,RN,z]
    exact⟨_, .inr rfl,hs,Q,s⟩
  ·have hz:(e !=0)=true:=by simp[hr]
   rw[if_neg hr]
   rcases hp with rfl|⟨rfl,rfl⟩
   ·simp only[qc,qg,hz,RN,z]
    exact⟨_, .inr rfl, .inl ⟨rfl,rfl⟩,(fun k g=>by cases g),s⟩
   ·simp only[hz,RN,z]
    exact⟨_, .inr rfl, .inl ⟨rfl,rfl⟩,(fun k g=>by cases g),s⟩
 ·rintro dd ⟨H,I,aw⟩ ⟨g1,J,w⟩
  have A:=adx.trans w;have bd:=w.len;simp only[U,W,ao]at bd;have L:H[B.length]?=some (some [pI 0]):=by
   have:=w.box B.length (by simp);simp only at this;rw[this,aQ rfl];rfl
  have O:B.length∉I:=fun e=>by
   have:=(w.fz B.length (by simp)).1 e;simp only at this;have h5:=x.fzb h.fzb _ this;simp only at h5;omega
  have ajy:=A.fzb h.fzb;have R:H.length∉I:=fun e=>aL _ (ajy _ e)
  have he:D.ask q=([],7):=by simp[Dk.ask,g,hn,g1]
  refine⟨L,O,R, .inl ⟨J,fun y=> ?_⟩⟩;rw[he];simp only[z7,RN,z];have E:Frm ⟨bs,fz,ar⟩ ⟨(H++ [y]).set B.length (some [pI 7]),I,aw⟩:=A.ak8 (by simp only;omega);exact⟨_, .inr rfl, .inl ⟨rfl,rfl⟩,(fun k g=>by cases g),E⟩
def En.chg (x:En):Chg:=⟨x.n 0,⟨x.n 1,x.n 2⟩⟩
def mV (p:Pc)(x:En):Pc:=if x.kind=2 then p.changed x.chg else p
def dG (s:Su)(l:List En):Pc:=l.foldl mV s.pc
def oM:List Int->Int->List Int
 | [],n=>[n]
 |x::l,n=>if x<=n then x::oM l n else n::x::l
def dH (l:List Int)(n:Int):List Int×Bool:=if n∈l then(l.erase n,true)else(l,false)
def gY (st:List Int)(c d:Pr):List Int×Bool:=
 let r1:=if c.a≠d.a then dH st d.a else(st,true)
 let r2:=if r1.2=true/\c.b≠d.b then dH r1.1 d.b else r1
 let e:=if c.a≠d.a then oM r2.1 c.a else r2.1
 (if c.b≠d.b then oM e c.b else e,r2.2)
def jH (p:Pc)(x:En):Pr:=(p.links.getD (x.n 0).toNat default).pr
def OX (r:Pc×List Int)(x:En):Pc×List Int:=
 (mV r.1 x,if x.kind=1 then oM r.2 (x.n 0)else if x.kind=2 then(gY r.2 (jH r.1 x) x.chg.pr).1 else r.2)
def iI (s:Su)(l:List En):List Int:=(l.foldl OX (s.pc,[])).2
def lM (h:Int)(r:Fr×Bool)(x:En):Fr×Bool:=
 if x.kind=3/\x.n 0=h then(⟨x.n 1,x.n 2⟩,true)else if x.kind=4/\x.n 0=h then(r.1,false)else r
def dA (l:List En)(h:Int):Fr×Bool:=l.foldl (lM h) (⟨0,0⟩,false)
def Vw (h:Int)(r:Fr×(Fr×Bool))(x:En):Fr×(Fr×Bool):=
 (if x.kind=4/\x.n 0=h then r.2.1 else r.1,lM h r.2 x)
def RP (s:Su)(l:List En)(h:Int):Fr:=(l.foldl (Vw h) (s.tg.getD h.toNat default,(⟨0,0⟩,false))).1
def Sm (l:List En):Int:=l.foldl (fun n x=>if x.kind=4 then n+x.n 1 else n) 0
def Vg (l:List En):List Int:=(l.filter fun x=>x.kind==5).map fun x=>x.n 0
def je (s:Su)(l:List En)(x:En):dG s (l++ [x])=mV (dG s l) x:=by simp[dG]
def ahZ (s:Su)(l:List En):(l.foldl OX (s.pc,[])).1=dG s l:=by
 unfold dG;generalize s.pc=p;generalize ([]:List Int)=st
 induction l generalizing p st with
 |nil=>rfl
 |cons x l a=>simp only[b4];rw[<-a];rfl
def gX (s:Su)(l:List En)(x:En):iI s (l++ [x])=if x.kind=1 then oM (iI s l) (x.n 0)else if x.kind=2 then(gY (iI s l) (jH (dG s l) x) x.chg.pr).1 else iI s l:=by
 unfold iI;simp only[cQ,b4,db,OX,ahZ]
def nR (l:List En)(h:Int)(x:En):dA (l++ [x]) h=lM h (dA l h) x:=by simp[dA]
def alq (s:Su)(l:List En)(h:Int)(f:Fr):(l.foldl (Vw h) (f,(⟨0,0⟩,false))).2=dA l h:=by
 unfold dA;generalize ((⟨0,0⟩,false):Fr×Bool)=o
 induction l generalizing f o with
 |nil=>rfl
 |cons x l a=>simp only[b4];rw[<-a];rfl
def uM (s:Su)(l:List En)(h:Int)(x:En):RP s (l++ [x]) h=if x.kind=4/\x.n 0=h then(dA l h).1 else RP s l h:=by
 unfold RP;simp only[cQ,b4,db,Vw,alq s]
def wF (l:List En)(x:En):Sm (l++ [x])=if x.kind=4 then Sm l+x.n 1 else Sm l:=by simp[Sm]
def zC (l:List En)(x:En):Vg (l++ [x])=if x.kind=5 then Vg l++ [x.n 0]else Vg l:=by
 unfold Vg
 by_cases h:x.kind=5<;>simp[h]
def ni (p:Pc)(c:Chg):List Int:=((ct p.hands.length).filter fun i=>decide (dP (bg p.links (p.hands.getD i default).toNat)≠dP (bg (p.changed c).links (p.hands.getD i default).toNat))).map fun(i:Nat)=>(i:Int)
def UG (s:Su)(p:Pc)(h:Int):Int:=(s.bil (cZ (bg p.links (p.hands.getD h.toNat default).toNat))).price
def aj6 (p:Pc)(h:Int)(f:Fr)(turns:Int):Int:=ahi (bg p.links (p.hands.getD h.toNat default).toNat) f turns
def qh (s:Su)(l:List En)(x:En):Bool:=
 if x.kind=1 then(s.dvd.first (x.n 0)).isSome&&decide ((iI s l).length<8)
 else if x.kind=2 then !decide (jH (dG s l) x=x.chg.pr)&&(gY (iI s l) (jH (dG s l) x) x.chg.pr).2&&(ni (dG s l) x.chg).all fun h=>(dA l h).2
 else if x.kind=3 then !(dA l (x.n 0)).2
 else if x.kind=4 then(dA l (x.n 0)).2&&inR (aj6 (dG s l) (x.n 0) (dA l (x.n 0)).1 100) (-s.lim) s.lim&&decide (x.n 1>=UG s (dG s l) (x.n 0))
 else !((l.any fun y=>y.kind==5&&decide (y.n 0>=x.n 0)))&&s.works (s.first+x.n 0 - 1)
def mJ (s:Su)(l:List En):Bool:=(ct l.length).all fun i=>qh s (l.take i) (l.getD i default)
def O4 (s:Su)(l:List En)(x:En):mJ s (l++ [x])=(mJ s l&&qh s l x):=by
 unfold mJ;rw[U,bp,c7,List.all_append,cJ,dc,cI]
 congr 1
 ·rw[bj]
  simp only[aw,bN];constructor
  ·intro h i a
   have:=h i a
   rwa [b3 (by omega),Q,am a,<-Q]at this
  ·intro h i a
   have:=h i a
   rwa [b3 (by omega),Q,am a,<-Q]
 ·simp[Q]
def mG:∀(l:List Int) (n:Int),(oM l n).Perm (n::l)
 | [],n=>List.Perm.refl _
 |x::l,n=>by
  unfold oM
  split
  ·exact((mG l n).cons x).trans (List.Perm.swap n x l)
  ·exact List.Perm.refl _
def Up (l:List Int):Prop:=l.Pairwise (·<=·)
def Y5 {n:Int}(h:Up l):Up (oM l n):=by
 induction l with
 |nil=>simp[oM,Up]
 |cons x l d=>
  simp only[Up,cg]at h;unfold oM
  split
  ·rename_i c
   simp only[Up,cg];refine⟨fun a b=> ?_,d h.2⟩
   rcases aq.1 ((mG l n).mem_iff.1 b)with rfl|b
   ·exact c
   ·exact h.1 a b
  ·rename_i c
   simp only[Up,cg];refine⟨fun a b=> ?_,h.1,h.2⟩
   rcases aq.1 b with rfl|b
   ·omega
   ·have:=h.1 a b;omega
def XG {n:Int}(h:Up l):Up (dH l n).1:=by
 unfold dH
 split
 ·exact List.Pairwise.sublist List.erase_sublist h
 ·exact h
def alj {a b:Pr}(h:Up l):Up (gY l a b).1:=by
 have h1:Up (if a.a≠b.a then dH l b.a else(l,true)).1:=by split;exact XG h;exact h
 unfold gY;simp only;generalize (if a.a≠b.a then dH l b.a else(l,true))=r1 at h1;have h2:Up (if r1.2=true/\a.b≠b.b then dH r1.1 b.b else r1).1:=by split;exact XG h1;exact h1
 generalize (if r1.2=true/\a.b≠b.b then dH r1.1 b.b else r1)=r2 at h2;have c:Up (if a.a≠b.a then oM r2.1 a.a else r2.1):=by split;exact Y5 h2;exact h2
 split
 ·exact Y5 c
 ·exact c
def acg {st:List Int}(h:l.Perm st)(c d:Pr):match oz st [] c.a d.a with
  |none=>(gY l c d).2=false
  |some (o,m)=>match oz o m c.b d.b with
   |none=>(gY l c d).2=false
   |some (p,n)=>(gY l c d).2=true/\(gY l c d).1.Perm (p++n):=by
 unfold oz gY dH
 by_cases k:c.a=d.a
 ·simp only[k,ne_eq,not_true_eq_false,if_true,if_false,true_and]
  by_cases j:c.b=d.b
  ·simp only[j,not_true_eq_false,if_true,if_false]
   exact⟨trivial,by simpa using h⟩
  ·simp only[j,not_false_eq_true,if_true,if_false]
   by_cases g:d.b∈st
   ·have f:d.b∈l:=h.mem_iff.2 g
    simp only[g,f,if_true,c6];refine⟨trivial,(mG _ _).trans ?_⟩;exact((h.erase d.b).cons c.b).trans (bt c.b _).symm
   ·have f:d.b∉l:=fun e=>g (h.mem_iff.1 e)
    simp only[g,f,if_false]
 ·simp only[k,ne_eq,not_false_eq_true,if_true,if_false]
  by_cases g:d.a∈st
  ·have f:d.a∈l:=h.mem_iff.2 g
   have h1:=h.erase d.a;simp only[g,f,if_true,c6,true_and]
   by_cases j:c.b=d.b
   ·simp only[j,not_true_eq_false,if_true,if_false]
    exact⟨trivial,(mG _ _).trans ((h1.cons c.a).trans (bt c.a _).symm)⟩
   ·simp only[j,not_false_eq_true,if_true,if_false]
    by_cases i:d.b∈st.erase d.a
    ·have apm:d.b∈l.erase d.a:=h1.mem_iff.2 i
     simp only[i,apm,if_true];refine⟨trivial,(mG _ _).trans ?_⟩;refine((mG _ _).cons c.b).trans ?_;refine(((h1.erase d.b).cons c.a).cons c.b).trans ?_;have:(c.b::c.a::(st.erase d.a).erase d.b).Perm ([c.a,c.b]++(st.erase d.a).erase d.b):=List.Perm.swap _ _ _;exact this.trans List.perm_append_comm
    ·have apm:d.b∉l.erase d.a:=fun e=>i (h1.mem_iff.1 e)
     simp only[i,apm,if_false]
  ·have f:d.a∉l:=fun e=>g (h.mem_iff.1 e)
   simp only[g,f,if_false,bi,false_and]
def abP {a b k:Nat}(hk:0<k):G7 (a*k) (b*k)=G7 a b:=by
 unfold G7;rw[Nat.gcd_mul_right,cC _ _ hk,cC _ _ hk]
def ane {c:Nat}(hb:0<b)(hd:0<d):G7 a b=G7 c d↔a*d=c*b:=by
 constructor
 ·intro h
  unfold G7 at h;simp only[Fr.mk.injEq,Int.natCast_inj]at h;have e1:=bA (c2 a b);have e2:=bA (cU a b);have e:=bA (c2 c d);have f:=bA (cU c d);rw[<-f]
  conv=>lhs;lhs;rw[<-e1]
  conv=>rhs;rw[<-e];rhs;rw[<-e2]
  rw[h.1,h.2];simp only[dg,Nat.mul_left_comm]
 ·intro h
  rw[<-abP (a:=a) (b:=b) hd,h,dg b d,abP hb]
def UK:∀(l:List Int) (x p:Int),jQ (l++ [x]) p=jQ l p*x
 | [],_,_=>rfl
 |y::l,x,p=>by simp only[bu,jQ];exact UK l x (p*y)
def gW (l:List Pr):Fr:=⟨jQ (l.map (·.a)) 1,jQ (l.map (·.b)) 1⟩
def UH (l:List Pr)(x:Pr):gW (l++ [x])=mulR (gW l) x:=by simp[gW,mulR,UK]
variable{ls:List Lk}
def QJ (h:linked ls){a:Nat}(b:a<ls.length):bg ls (a+1)=bg ls (ls.getD a default).fr.toNat++ [(ls.getD a default).pr]:=by
 rw[bg,nS h b,ax];rfl
def UR {ls:List Lk}(h:linked ls):∀(k i:Nat) (a:List Fr),i+k=ls.length->a.length=i+1->(∀j,j<=i->a.getD j default=gW (bg ls j))->∀j,j<=ls.length->(qW (ls.drop i) a).getD j default=gW (bg ls j)
 |0,i,a,g,c,b,j,f=>by
  rw[List.drop_eq_nil_of_le (by omega),qW];exact b j (by omega)
 |k+1,i,a,g,c,b,j,f=>by
  have d:i<ls.length:=by omega
  have l:=h i d;rw[drop_cons d,qW];refine UR h k (i+1) _ (by omega) (by simp[c]) (fun m n=> ?_) j f
  by_cases e:m<=i
  ·rw[Q,am (by omega),<-Q];exact b m e
  ·have:m=i+1:=by omega
   subst this;rw[Q,<-c,bq,aM,b _ (by omega),c,QJ h d,UH]
def abL (h:linked ls){a:Nat}(b:a<=ls.length):(fP ls).getD a default=gW (bg ls a):=by
 have:=UR h ls.length 0 [⟨1,1⟩] (by omega) rfl (fun j c=>by
  have:j=0:=by omega
  subst this;simp[gW,bg,fO,uV,jQ]) a b
 simpa[fP]using this
def Xk {l:List Pr}(h:∀p∈l,p.ok=true):1<=(gW l).n/\1<=(gW l).d:=by
 have f:∀p∈l,1<=p.a/\1<=p.b:=fun p c=>by
  have:=h p c;simp only[Pr.ok,aT,inR,V,decide_eq_true_eq,ge_iff_le]at this;omega
 exact⟨Ed _ 1 (fun x e=>by obtain⟨p,c,rfl⟩:=aE.1 e;exact(f p c).1) (by omega),Ed _ 1 (fun x e=>by obtain⟨p,c,rfl⟩:=aE.1 e;exact(f p c).2) (by omega)⟩
def aeT {l m:List Pr}(hl:∀p∈l,p.ok=true)(b:∀p∈m,p.ok=true):Fa (gW l) (gW m)=decide (dP l=dP m):=by
 obtain⟨c,e⟩:=Xk hl;obtain⟨f,g⟩:=Xk b;have a:∀l,dP l=G7 (gW l).n.natAbs (gW l).d.natAbs:=fun _=>rfl
 rw[a,a,bj,decide_eq_true_iff,ane (by omega) (by omega)];simp only[Fa,beq_iff_eq];rw[<-cf,<-cf];have h:0<=(gW l).n*(gW m).d:=cb (by omega) (by omega);have i:0<=(gW m).n*(gW l).d:=cb (by omega) (by omega);omega
def yG (h:linked ls)(e:∀l∈ls,l.pr.ok=true){a:Nat}(b:a<=ls.length):∀p∈bg ls a,p.ok=true:=by
 intro p c;simp only[bg,aE]at c;obtain⟨i,d,rfl⟩:=c;exact e _ (getD_mem (Nat.lt_of_lt_of_le (Uo h b i d) b))
def QH (a b:List Fr):∀(hs:List Int) (i:Nat),uK a b hs i=((bh i hs.length).filter fun j=> !Fa (a.getD (hs.getD (j - i) default).toNat default) (b.getD (hs.getD (j - i) default).toNat default)).map fun(j:Nat)=>(j:Int)
 | [],i=>rfl
 |h::hs,i=>by
  rw[uK,QH a b hs (i+1),W,cY,bR];have e:(bh (i+1) hs.length).filter (fun j=> !Fa (a.getD ((h::hs).getD (j - i) default).toNat default) (b.getD ((h::hs).getD (j - i) default).toNat default))=(bh (i+1) hs.length).filter (fun j=> !Fa (a.getD (hs.getD (j - (i+1)) default).toNat default) (b.getD (hs.getD (j - (i+1)) default).toNat default)):=by
   refine aR fun j c=> ?_
   have:=(bO.1 c).1;rw[show j - i=(j - (i+1))+1 by omega,b8]
  simp only[cw,bw];rw[e];cases Fa (a.getD h.toNat default) (b.getD h.toNat default)<;>simp
variable{p:Pc}
def aeM {c:Chg}(a:p.ok=true)(hc:c.pr.ok=true):p.rF (p.changed c)=ni p c:=by
 have i:=Dl a hc;have g:=Pc.good a;have b:=Pc.good i;rw[Pc.rF,QH,ni,b0]
 congr 1
 refine aR fun j h=> ?_
 have d:j<p.hands.length:=by simpa using(bO.1 h)
 have e:inR (p.hands.getD j default) 1 p.links.length=true:=by
  simp only[Pc.ok,V,aw]at a;exact a.2 _ (getD_mem d)
 have f:1<=p.hands.getD j default/\p.hands.getD j default<=p.links.length:=by simpa[inR]using e
 have k:(p.changed c).links.length=p.links.length:=by simp[Pc.changed]
 rw[cW,abL g.lk (by omega),abL b.lk (by omega),aeT (yG g.lk g.pr (by omega)) (yG b.lk b.pr (by omega))];simp
structure Rel (s:Su) (l:List En) (t:Sp):Prop where
 pc:t.pc=dG s l
 op:∀h,fZ t.op h=if(dA l h).2 then some (dA l h).1 else none
 nd:(t.op.map (·.1)).Nodup
 tl:t.tg.length=s.tg.length
 tg:∀h:Int,0<=h->h.toNat<s.tg.length->t.tg.getD h.toNat default=RP s l h
 st:(iI s l).Perm t.eH
 up:Up (iI s l)
 co:t.kE=Sm l
 se:t.sets=Vg l
 inc:t.sets.Pairwise (·<·)
def ang (s:Su):Rel s [] s.sp0:=
 {pc:=rfl,op:=fun _=>rfl,nd:=List.nodup_nil,tl:=rfl,tg:=fun _ _ _=>rfl,st:=List.Perm.refl _,up:=List.Pairwise.nil,co:=rfl,se:=rfl,inc:=List.Pairwise.nil}
variable{x:En}
def En.deed1 (h:x.kind=1):x.deed= .cut (x.n 0):=by simp[En.deed,h]
def En.deed2 (h:x.kind=2):x.deed= .change x.chg:=by simp[En.deed,h,En.chg]
def En.deed3 (h:x.kind=3):x.deed= .order (x.n 0) ⟨x.n 1,x.n 2⟩:=by simp[En.deed,h]
def En.deed4 (h:x.kind=4):x.deed= .serve (x.n 0) (x.n 1):=by simp[En.deed,h]
def En.Pq (h:x.kind=5):x.deed= .set (x.n 0):=by simp[En.deed,h]
structure En.Fit (s:Su) (x:En):Prop where
 fm:x.formed=true
 k6:x.kind≠6
 te:x.kind=1->aT (x.n 0)=true
 hd:x.kind=3\/x.kind=4->0<=x.n 0/\(x.n 0).toNat<s.pc.hands.length
 fr:x.kind=3->(⟨x.n 1,x.n 2⟩:Fr).ok=true
 df:kK s s.sp0 x.deed
def En.BL (h:x.formed=true):1<=x.kind/\x.kind<=6:=by
 simp only[En.formed,V,decide_eq_true_eq]at h
 simpa[inR]using h.1.1
def yO (h:x.formed=true){i:Nat}(hi:i<jc x.kind):0<=x.n i/\x.n i<=9999:=by
 simp only[En.formed,V,decide_eq_true_eq,aw]at h;have:=h.2 _ (getD_mem (show i<x.ns.length by omega))
 simpa[inR,En.n]using this
def En.Fit.k (h:x.Fit s):x.kind=1\/x.kind=2\/x.kind=3\/x.kind=4\/x.kind=5:=by
 have:=En.BL h.fm;have:=h.k6;omega
variable{h:Int}
def ajO {l:List (Int×Fr)}(b:(l.map (·.1)).Nodup):((BX l h).map (·.1)).Nodup/\(∀h',fZ (BX l h) h'=if h'=h then none else fZ l h')/\∀k∈(BX l h).map (·.1),k∈l.map (·.1):=by
 induction l with
 |nil=>exact⟨b,fun h'=>by simp[BX,fZ],fun k a=>a⟩
 |cons p l f=>
  simp only[ai,cB]at b;obtain⟨i,j,g⟩:=f b.2;have d:∀(l:List (Int×Fr)) (k:Int),k∉l.map (·.1)->fZ l k=none:=by
   intro l k a
   induction l with
   |nil=>rfl
   |cons q l f=>simp only[ai,aq,not_or]at a;rw[fZ,if_neg a.1];exact f a.2
  unfold BX
  by_cases c:h=p.1
  ·rw[if_pos c]
   refine⟨b.2,fun h'=> ?_,fun k a=>by simp only[ai,aq];exact .inr a⟩
   by_cases e:h'=h
   ·rw[if_pos e,e,c];exact d l _ b.1
   ·rw[if_neg e,fZ,if_neg (by rw[<-c];exact e)]
  ·rw[if_neg c]
   refine⟨?_,fun h'=> ?_,fun k a=> ?_⟩
   ·simp only[ai,cB];exact⟨fun e=>b.1 (g _ e),i⟩
   ·rw[fZ,fZ,j h']
    by_cases e:h'=p.1
    ·rw[if_pos e,if_pos e,if_neg (by rw[e];exact Ne.symm c)]
    ·rw[if_neg e,if_neg e]
   ·simp only[ai,aq]at a⊢;exact a.imp id (g k)
def aei {l:List (Int×Fr)}{f:Fr}(a:fZ l h=none)(h':Int):fZ (l++ [(h,f)]) h'=if h'=h then some f else fZ l h':=by
 induction l with
 |nil=>simp[fZ]
 |cons p l c=>
  rw[fZ]at a
  by_cases b:h=p.1
  ·rw[if_pos b]at a;cases a
  ·rw[if_neg b]at a
   rw[bu,fZ,fZ,c a]
   by_cases e:h'=p.1
   ·rw[if_pos e,if_pos e,if_neg (by rw[e];exact Ne.symm b)]
   ·rw[if_neg e,if_neg e]
def ahq {l:List (Int×Fr)}(a:fZ l h=none):h∉l.map (·.1):=by
 induction l with
 |nil=>simp
 |cons p l c=>
  rw[fZ]at a
  by_cases b:h=p.1
  ·rw[if_pos b]at a;cases a
  ·rw[if_neg b]at a
   simp only[ai,aq,not_or];exact⟨b,c a⟩
def ac3 {d:Dvd}(hd:d.ok=true){n:Int}(a:aT n=true):(d.cuts n).2=0↔(d.first n).isSome=true:=by
 have h1:inR n 1 400=true:=by simp only[aT,inR,V,decide_eq_true_eq]at a⊢;omega
 unfold Dvd.cuts Dvd.first;rw[hd,h1];simp only[cH,if_true];cases EH d.eF n 0 d.cir<;>simp
def Vx (f:p.ok=true){h:Int}(j:0<=h)(h1:h.toNat<p.hands.length):lS (bg p.links (p.hands.getD h.toNat default).toNat)=true:=by
 have g:=Pc.good f;have k:=g.hd _ (getD_mem h1);have c:(p.hands.getD h.toNat default).toNat<=p.links.length:=by omega
 have i:=g.short _ c;have b:=yG g.lk g.pr c;have l:1<=(bg p.links (p.hands.getD h.toNat default).toNat).length:=by
  obtain⟨a,e⟩:∃a,(p.hands.getD h.toNat default).toNat=a+1:=⟨(p.hands.getD h.toNat default).toNat - 1,by omega⟩
  rw[e,QJ g.lk (by omega)];simp
 have d:(bg p.links (p.hands.getD h.toNat default).toNat).length<=3:=by rw[bg,Y];exact i
 simp only[lS,inR,V,decide_eq_true_eq,aw,ge_iff_le];exact⟨⟨by omega,by omega⟩,b⟩
def adF {n a b:Int}(h:a<=n/\n<=b):inR n a b=true:=by
 simp only[inR,V,decide_eq_true_eq];omega
def aif (a:p.ok=true){h:Int}(b:0<=h)(h1:h.toNat<p.hands.length){f:Fr}(hf:f.ok=true){t:Int}(e:0<=t/\t<=10000):rG p h f t=(aj6 p h f t,0):=by
 have h2:inR h 0 ((p.hands.length:Int) - 1)=true:=adF (by omega);have c:=Vx a b h1;have d:=adF e;simp only[rG,ad5,aj6,a,h2,c,d,hf,cH,if_true]
def ahx (hs:s.ok=true){t:Sp}(g:t.pc.ok=true){h:Int}(d:0<=h)(h1:h.toNat<t.pc.hands.length):Ec s t h.toNat=UG s t.pc h:=by
 have a:=(Su.facts hs).2.2.2.2.2.2.2.2.1;have c:=Vx g d h1;simp only[lS,inR,V,decide_eq_true_eq,aw]at c;obtain⟨⟨_,j⟩,e⟩:=c;have f:(s.bil (cZ (bg t.pc.links (t.pc.hands.getD h.toNat default).toNat))).ok=true:=by
  simp only[Bil.ok,Su.bil,V]at a⊢;refine⟨⟨⟨⟨⟨?_,a.1.1.1.1.2⟩,a.1.1.1.2⟩,a.1.1.2⟩,a.1.2⟩,a.2⟩;simp only[qY,V,decide_eq_true_eq,aw];refine⟨by rw[qp];omega,fun x b=> ?_⟩;simp only[cZ,List.mem_flatMap]at b;obtain⟨q,i,b⟩:=b;have:=e q i;simp only[Pr.ok,V]at this;simp only[aq,bv,or_false]at b
  rcases b with rfl|rfl
  ·exact this.1
  ·exact this.2
 simp only[Ec,UG,Bil.VB,f,if_true]
def alZ {d:Int}(b:1<=d)(h1:d.toNat<=s.days.length):s.days.getD (d - 1).toNat default=(s.first+d - 1,s.works (s.first+d - 1)):=by
 have c:s.days.length=s.dur:=by simp[Su.days,Su.pJ]
 have a:(d - 1).toNat<s.dur:=by omega
 rw[Su.days,Su.pJ,Q,cR,List.getElem?_range a];simp only[c8,aM];rw[show(((d - 1).toNat:Nat):Int)=d - 1 by omega,show s.first+(d - 1)=s.first+d - 1 by omega]
def aaF (h:l.Pairwise (·<·))(d:Int):(l.isEmpty||decide (d>l.getD (l.length - 1) default))= !(l.any fun y=>decide (y>=d)):=by
 rcases List.eq_nil_or_concat l with rfl|⟨m,x,rfl⟩
 ·rfl
 ·have e:(m++ [x]).getD ((m++ [x]).length - 1) default=x:=by simp[Q]
  rw[List.concat_eq_append]at h⊢;rw[e];have b:∀y∈m,y<x:=fun y a=>(cE.1 h).2.2 y a x (by simp)
  rw[bj];simp only[Bool.or_eq_true,List.isEmpty_iff,List.append_eq_nil_iff,List.cons_ne_self,and_false,false_or,decide_eq_true_eq,cM,cN,bl,az];constructor
  ·rintro h1 y (a|rfl)
   ·have:=b y a;omega
   ·omega
  ·intro hh
   have:=hh x (.inr rfl);omega
def aiv (l:List En)(d:Int):((Vg l).any fun y=>decide (y>=d))=l.any fun y=>y.kind==5&&decide (y.n 0>=d):=by
 unfold Vg;rw[List.any_map,List.any_filter]
 rfl
def UW (hs:s.ok=true){n:Nat}{l:List En}{t:Sp}(d:Rel s l t)(hi:zK s n t)(o:∀h,(dA l h).2=true->(dA l h).1.ok=true){x:En}(hx:x.Fit s):qh s l x=(doS s t x.deed).isSome:=by
 obtain⟨w,y,u,j,_⟩:=Su.facts hs;have f:t.eH.length=(iI s l).length:=d.st.length_eq.symm
 rcases hx.k with k|k|k|k|k
 ·rw[En.deed1 k]
  unfold qh;rw[if_pos k];simp only[doS,ac3 j (hx.te k),f]
  by_cases h1:(s.dvd.first (x.n 0)).isSome=true<;>by_cases h2:(iI s l).length<8<;>simp[h1,h2]
 ·rw[En.deed2 k]
  have hd:=hx.df;rw[En.deed2 k]at hd;obtain⟨i,g⟩:=hd;unfold qh;rw[if_neg (by omega),if_pos k,<-d.pc];have e1:t.pc.FN x.chg= !decide (jH t.pc x=x.chg.pr):=by
   have:inR x.chg.link 0 ((t.pc.links.length:Int) - 1)=true:=by rw[hi.ll];exact i
   simp only[Pc.FN,hi.pc,g,this,cH,bd]
   congr 1
   exact decide_eq_decide.2 ⟨fun h=>h.symm,fun h=>h.symm⟩
  have e2:((t.pc.rF (t.pc.changed x.chg)).all fun h=>(fZ t.op h).isSome)=((ni t.pc x.chg).all fun h=>(dA l h).2):=by
   rw[aeM hi.pc g]
   congr 1
   funext h
   rw[d.op];cases(dA l h).2<;>rfl
  simp only[doS,e1,e2];have c:=acg d.st (jH t.pc x) x.chg.pr;have m:(t.pc.links.getD x.chg.link.toNat default).pr=jH t.pc x:=rfl;rw[m];cases h1:(!decide (jH t.pc x=x.chg.pr))<;>cases h2:((ni t.pc x.chg).all fun h=>(dA l h).2)<;>simp only[ca,Bool.and_false,bd,cI,bi,if_false,if_true,Option.isSome_none]
  revert c
  generalize oz t.eH [] (jH t.pc x).a x.chg.pr.a=p;cases p with
  |none=>intro c;simp only at c⊢;rw[c];rfl
  |some p=>
   obtain⟨A,z⟩:=p;simp only;generalize oz A z (jH t.pc x).b x.chg.pr.b=q;cases q with
   |none=>intro c;simp only at c⊢;rw[c];rfl
   |some q=>intro c;obtain⟨C,B⟩:=q;simp only at c⊢;rw[c.1];rfl
 ·rw[En.deed3 k]
  unfold qh;rw[if_neg (by omega),if_neg (by omega),if_pos k];simp only[doS,d.op];cases(dA l (x.n 0)).2<;>rfl
 ·rw[En.deed4 k]
  obtain⟨r,h1⟩:=hx.hd (.inr k);have e:(x.n 0).toNat<t.pc.hands.length:=by rw[hi.hh];exact h1
  unfold qh;rw[if_neg (by omega),if_neg (by omega),if_neg (by omega),if_pos k,<-d.pc];simp only[doS,d.op];cases v:(dA l (x.n 0)).2
  ·rfl
  ·simp only[if_true,bd,TD,aif hi.pc r e (o _ v) (show(0:Int)<=100/\(100:Int)<=10000 by omega),ahx hs hi.pc r e]
   split<;>simp_all
 ·rw[En.Pq k]
  have hd:=hx.df;rw[En.Pq k]at hd;obtain⟨i,g⟩:=hd;unfold qh;rw[if_neg (by omega),if_neg (by omega),if_neg (by omega),if_neg (by omega)];simp only[doS,alZ i g,aaF d.inc];rw[d.se,aiv,Bool.and_comm]
  split<;>simp_all
def Uk {l:List En}(a:x.kind≠3)(b:x.kind≠4):dA (l++ [x]) h=dA l h:=by
 rw[nR,lM,if_neg (fun e=>a e.1),if_neg (fun e=>b e.1)]
def rel_step (hs:s.ok=true){n:Nat}{l:List En}{t t':Sp}(c:Rel s l t)(hi:zK s n t){x:En}(hx:x.Fit s)(hd:doS s t x.deed=some t'):Rel s (l++ [x]) t':=by
 obtain⟨E,y,B,D,_⟩:=Su.facts hs
 rcases hx.k with k|k|k|k|k
 ·rw[En.deed1 k]at hd
  simp only[doS]at hd
  split at hd
  ·cases hd
   exact
   {pc:=by rw[je,mV,if_neg (by omega)];exact c.pc
    op:=fun h=>by rw[Uk (by omega) (by omega)];exact c.op h
    nd:=c.nd,tl:=c.tl
    tg:=fun h g h1=>by rw[uM,if_neg (by omega)];exact c.tg h g h1
    st:=by rw[gX,if_pos k];exact(mG _ _).trans ((c.st.cons _).trans (bt _ _).symm)
    up:=by rw[gX,if_pos k];exact Y5 c.up
    co:=by rw[wF,if_neg (by omega)];exact c.co
    se:=by rw[zC,if_neg (by omega)];exact c.se
    inc:=c.inc}
  ·cases hd
 ·rw[En.deed2 k]at hd
  simp only[doS]at hd
  split at hd
  ·have j:=acg c.st (jH t.pc x) x.chg.pr
   have u:(t.pc.links.getD x.chg.link.toNat default).pr=jH t.pc x:=rfl;rw[u]at hd
   revert j hd
   generalize oz t.eH [] (jH t.pc x).a x.chg.pr.a=z;cases z with
   |none=>intro hd _;cases hd
   |some z=>
    obtain⟨I,H⟩:=z;simp only;generalize oz I H (jH t.pc x).b x.chg.pr.b=A;cases A with
    |none=>intro hd _;cases hd
    |some A=>
     obtain⟨M,L⟩:=A;intro hd j;simp only at j hd;cases hd;exact
     {pc:=by rw[je,mV,if_pos k,c.pc]
      op:=fun h=>by rw[Uk (by omega) (by omega)];exact c.op h
      nd:=c.nd,tl:=c.tl
      tg:=fun h g h1=>by rw[uM,if_neg (by omega)];exact c.tg h g h1
      st:=by rw[gX,if_neg (by omega),if_pos k,<-c.pc];exact j.2
      up:=by rw[gX,if_neg (by omega),if_pos k];exact alj c.up
      co:=by rw[wF,if_neg (by omega)];exact c.co
      se:=by rw[zC,if_neg (by omega)];exact c.se
      inc:=c.inc}
  ·cases hd
 ·rw[En.deed3 k]at hd
  simp only[doS]at hd
  split at hd
  ·cases hd
  ·rename_i i
   have i:fZ t.op (x.n 0)=none:=by simpa using i
   cases hd;exact
   {pc:=by rw[je,mV,if_neg (by omega)];exact c.pc
    op:=fun h=>by
     rw[aei i]
     by_cases e:x.n 0=h
     ·have e2:dA (l++ [x]) h=(⟨x.n 1,x.n 2⟩,true):=by rw[nR,lM,if_pos ⟨k,e⟩]
      rw[if_pos e.symm,e2];rfl
     ·have e2:dA (l++ [x]) h=dA l h:=by rw[nR,lM,if_neg (fun q=>e q.2),if_neg (by omega)]
      rw[if_neg (Ne.symm e),e2];exact c.op h
    nd:=by
     simp only[ax,ai,a7];rw[List.nodup_append];exact⟨c.nd,by simp,fun a p b m=>by simp only[az]at m;subst m;rintro rfl;exact ahq i p⟩
    tl:=c.tl
    tg:=fun h g h1=>by rw[uM,if_neg (by omega)];exact c.tg h g h1
    st:=by rw[gX,if_neg (by omega),if_neg (by omega)];exact c.st
    up:=by rw[gX,if_neg (by omega),if_neg (by omega)];exact c.up
    co:=by rw[wF,if_neg (by omega)];exact c.co
    se:=by rw[zC,if_neg (by omega)];exact c.se
    inc:=c.inc}
 ·rw[En.deed4 k]at hd
  obtain⟨J,C⟩:=hx.hd (.inr k);simp only[doS]at hd;have d:=c.op (x.n 0)
  revert hd d
  generalize fZ t.op (x.n 0)=o;cases o with
  |none=>intro hd;cases hd
  |some f=>
   intro hd d;simp only at hd
   split at hd
   ·cases hd
    have v:(dA l (x.n 0)).2=true:=by
     cases h:(dA l (x.n 0)).2 with
     |true=>rfl
     |false=>rw[h]at d;simp at d
    rw[v,if_pos rfl]at d;have w:f=(dA l (x.n 0)).1:=Option.some.inj d;obtain⟨F,G,K⟩:=ajO (h:=x.n 0) c.nd;exact
    {pc:=by rw[je,mV,if_neg (by omega)];exact c.pc
     op:=fun h=>by
      rw[G]
      by_cases e:x.n 0=h
      ·have e2:dA (l++ [x]) h=((dA l h).1,false):=by rw[nR,lM,if_neg (by omega),if_pos ⟨k,e⟩]
       rw[if_pos e.symm,e2];rfl
      ·have e2:dA (l++ [x]) h=dA l h:=by rw[nR,lM,if_neg (by omega),if_neg (fun q=>e q.2)]
       rw[if_neg (Ne.symm e),e2];exact c.op h
     nd:=F
     tl:=by simp[c.tl]
     tg:=fun h g h1=>by
      rw[uM]
      by_cases e:x.n 0=h
      ·rw[if_pos ⟨k,e⟩,<-e,<-w]
       simp only[Q,bL (show(x.n 0).toNat<t.tg.length by rw[c.tl,y];exact C),aM]
      ·rw[if_neg (fun q=>e q.2),<-c.tg h g h1]
       have:(x.n 0).toNat≠h.toNat:=by omega
       simp only[Q,ap this]
     st:=by rw[gX,if_neg (by omega),if_neg (by omega)];exact c.st
     up:=by rw[gX,if_neg (by omega),if_neg (by omega)];exact c.up
     co:=by rw[wF,if_pos k,<-c.co]
     se:=by rw[zC,if_neg (by omega)];exact c.se
     inc:=c.inc}
   ·cases hd
 ·rw[En.Pq k]at hd
  simp only[doS]at hd
  split at hd
  ·rename_i r
   cases hd;rw[aaF c.inc]at r;simp only[V,cM,cN,decide_eq_true_eq]at r;exact
   {pc:=by rw[je,mV,if_neg (by omega)];exact c.pc
    op:=fun h=>by rw[Uk (by omega) (by omega)];exact c.op h
    nd:=c.nd,tl:=c.tl
    tg:=fun h g h1=>by rw[uM,if_neg (by omega)];exact c.tg h g h1
    st:=by rw[gX,if_neg (by omega),if_neg (by omega)];exact c.st
    up:=by rw[gX,if_neg (by omega),if_neg (by omega)];exact c.up
    co:=by rw[wF,if_neg (by omega)];exact c.co
    se:=by rw[zC,if_pos k,c.se]
    inc:=by
     rw[cE];exact⟨c.inc,List.pairwise_singleton _ _,fun a p b m=>by simp only[az]at m;have:=r.2 a p;omega⟩}
  ·cases hd
def uH {α:Type}{P:List α->Prop}(h0:P [])(h1:∀l x,P l->P (l++ [x]))(l:List α):P l:=by
 have:∀m:List α,P m.reverse:=by
  intro m
  induction m with
  |nil=>exact h0
  |cons x m ih=>rw[List.reverse_cons];exact h1 _ _ ih
 have h:=this l.reverse
 rwa [List.reverse_reverse]at h
def L6 (l:List En)(h:Int):(∀x∈l,x.Fit s)->(dA l h).2=true->(dA l h).1.ok=true:=by
 induction l using uH with
 |h0=>intro _ e;simp[dA]at e
 |h1 l x a=>
  intro b;rw[nR,lM];have c:=b x (by simp);have a:=a fun y d=>b y (by simp[d])
  split
  ·rename_i e;intro _;exact c.fr e.1
  ·split
   ·intro e;cases e
   ·exact a
def JH (s:Su):∀(l:List De) (x:De) (t:Sp),pX s (l++ [x]) t=(pX s l t).bind fun t=>doS s t x
 | [],x,t=>by simp[pX]
 |y::l,x,t=>by
  simp only[bu,pX];cases doS s t y with
  |none=>rfl
  |some t1=>exact JH s l x t1
def anf (hs:s.ok=true)(l:List En):(∀x∈l,x.Fit s)->mJ s l=(pX s (l.map En.deed) s.sp0).isSome/\∀t,pX s (l.map En.deed) s.sp0=some t->Rel s l t/\zK s l.length t:=by
 induction l using uH with
 |h0=>exact fun _=>⟨rfl,fun t e=>by cases e;exact⟨ang s,aeL hs⟩⟩
 |h1 l x p=>
  intro g;have a:∀y∈l,y.Fit s:=fun y k=>g y (by simp[k])
  have f:=g x (by simp);obtain⟨m,o⟩:=p a;rw[O4,ax,ai,a7,JH,m];cases hd:pX s (l.map En.deed) s.sp0 with
  |none=>exact⟨by simp,fun t e=>by cases e⟩
  |some t=>
   obtain⟨i,b⟩:=o t hd;have j:=UW hs i b (fun h=>L6 l h a) f;simp only[Option.isSome_some,bd,c3];refine⟨j,fun q c=> ?_⟩;have d:=kK.same (n:=l.length) (t:=s.sp0) (t':=t) b.ll.symm b.hh.symm f.df;exact⟨rel_step hs i b f c,by rw[U,bp];exact ai0 b d c⟩
def ny (D:Dk)(i:Nat):Bool:=decide ((D.es.getD i default).kind≠6)&& !D.st.getD i default
def iH (D:Dk):List Nat:=(ct D.es.length).filter (ny D)
def bC (D:Dk)(w:Int):List En:=((iH D).filter fun(i:Nat)=>decide ((i:Int)≠w)).map fun i=>D.es.getD i default
def Vm:∀(es:List En) (st:List Bool) (i:Nat),es.length=st.length->kJ es st i=((bh i es.length).filter fun j=>decide ((es.getD (j - i) default).kind≠6)&& !st.getD (j - i) default).map fun j=>(j,(es.getD (j - i) default).deed)
 | [],[],_,_=>rfl
 | [],_::_,_,h=>by simp at h
 | _::_,[],_,h=>by simp at h
 |x::es,b::st,i,h=>by
  have d:=Vm es st (i+1) (by simpa using h);rw[kJ,d,W,cY,bR];have e:∀j∈bh (i+1) es.length,(decide (((x::es).getD (j - i) default).kind≠6)&& !(b::st).getD (j - i) default)=(decide ((es.getD (j - (i+1)) default).kind≠6)&& !st.getD (j - (i+1)) default)/\(x::es).getD (j - i) default=es.getD (j - (i+1)) default:=fun j a=>by
   have:=(bO.1 a).1;rw[show j - i=(j - (i+1))+1 by omega,b8,b8];exact⟨rfl,rfl⟩
  have e1:(bh (i+1) es.length).filter (fun j=>decide (((x::es).getD (j - i) default).kind≠6)&& !(b::st).getD (j - i) default)=(bh (i+1) es.length).filter (fun j=>decide ((es.getD (j - (i+1)) default).kind≠6)&& !st.getD (j - (i+1)) default):=aR fun j a=>(e j a).1
  have e2:((bh (i+1) es.length).filter (fun j=>decide ((es.getD (j - (i+1)) default).kind≠6)&& !st.getD (j - (i+1)) default)).map (fun j=>(j,((x::es).getD (j - i) default).deed))=((bh (i+1) es.length).filter (fun j=>decide ((es.getD (j - (i+1)) default).kind≠6)&& !st.getD (j - (i+1)) default)).map (fun j=>(j,(es.getD (j - (i+1)) default).deed)):=cG fun j a=>by rw[(e j (b5.1 a).1).2]
  rw[e1,cw,bw,bw]
  by_cases c:x.kind=6
  ·simp only[c,ne_eq,not_true_eq_false,false_and,if_false,decide_false,ca,bi]
   exact e2.symm
  ·cases b
   ·simp only[c,ne_eq,not_false_eq_true,and_self,if_true,decide_true,bd,Bool.not_false,ai,e2,cw,bw]
   ·simp only[c,ne_eq,not_false_eq_true,Bool.true_eq_false,and_false,if_false,decide_true,bd,Bool.not_true,bi]
    exact e2.symm
def ahY (h:D.es.length=D.st.length):D.stands=(iH D).map fun i=>(i,(D.es.getD i default).deed):=by
 rw[Dk.stands,Vm _ _ _ h,iH,b0]
 rfl
def zJ (h:D.es.length=D.st.length)(w:Int):D.without w=(bC D w).map En.deed:=by
 rw[Dk.without,ahY h,bC,List.filter_map,cr,cr]
 rfl
def KF (s:Su)(x:En):Bool:=
 if x.kind=1 then aT (x.n 0)
 else if x.kind=2 then decide (x.n 0<(s.pc.links.length:Int))&&aT (x.n 1)&&aT (x.n 2)
 else if x.kind=3 then inR (x.n 0) 0 ((s.pc.hands.length:Int) - 1)&&decide (x.n 2>0)
 else if x.kind=4 then inR (x.n 0) 0 ((s.pc.hands.length:Int) - 1)
 else inR (x.n 0) 1 (wH (s.cal.leap s.year))
def xI (D:Dk)(x:En):Int:=
 if x.formed=false then 2 else if D.es.length>=24 then 3
 else if x.kind=6 then(if x.n 0>=(D.es.length:Int)\/(D.es.getD (x.n 0).toNat default).kind=6 then 2 else if D.st.getD (x.n 0).toNat default=true\/mJ D.su (bC D (x.n 0))=false then 7 else 0)
 else if KF D.su x=false then 2 else if qh D.su (bC D (-1)) x=false then 7 else 0
structure Dk.Live (D:Dk):Prop where
 ok:D.Ok
 fit:∀x∈D.es,x.kind≠6->x.Fit D.su
 live:(D.state (-1)).isSome=true
variable{w:Int}
def acd:D.state w=pX D.su (D.without w) D.su.sp0:=rfl
def aiX (s:Su):(s.days.length:Int)=wH (s.cal.leap s.year):=by
 have:=mY (s.cal.leap s.year);have e:s.days.length=s.dur:=by simp[Su.days,Su.pJ]
 rw[e,Su.dur,this]
 split<;>rfl
def En.anZ (h:x.kind=6):x.deed= .strike (x.n 0):=by simp[En.deed,h]
def Eo (hf:x.formed=true)(k:x.kind≠6):KF D.su x=D.gB x.deed:=by
 have l:=En.BL hf;have c:=fun h=>yO hf (i:=0) h
 have f:0<jc x.kind:=by unfold jc;split;omega;split<;>omega
 have c:=c f;unfold KF
 by_cases a:x.kind=1
 ·rw[if_pos a,En.deed1 a];rfl
 by_cases d:x.kind=2
 ·rw[if_neg a,if_pos d,En.deed2 d]
  simp only[Dk.gB,Pr.ok,En.chg,Bool.and_assoc]
  congr 1
  rw[bj];simp only[inR,V,decide_eq_true_eq];omega
 by_cases b:x.kind=3
 ·have g:=yO hf (i:=1) (by simp[jc,b])
  have j:=yO hf (i:=2) (by simp[jc,b]);rw[if_neg a,if_neg d,if_pos b,En.deed3 b];simp only[Dk.gB,Fr.ok]
  congr 1
  rw[bj];simp only[inR,V,decide_eq_true_eq];omega
 by_cases e:x.kind=4
 ·rw[if_neg a,if_neg d,if_neg b,if_pos e,En.deed4 e];rfl
 ·rw[if_neg a,if_neg d,if_neg b,if_neg e,En.Pq (by omega)]
  simp only[Dk.gB,aiX]
def Yc (hf:x.formed=true)(a:x.kind≠6)(hb:D.gB x.deed=true):x.Fit D.su:=
 {fm:=hf,k6:=a
  te:=fun k=>by rw[En.deed1 k]at hb;exact hb
  hd:=fun k=>by
   have:inR (x.n 0) 0 ((D.su.pc.hands.length:Int) - 1)=true:=by
    rcases k with k|k
    ·rw[En.deed3 k]at hb;simp only[Dk.gB,V]at hb;exact hb.1
    ·rw[En.deed4 k]at hb;exact hb
   simp only[inR,V,decide_eq_true_eq]at this;omega
  fr:=fun k=>by rw[En.deed3 k]at hb;simp only[Dk.gB,V]at hb;exact hb.2
  df:=Yb hf hb}
def iY (h:x∈bC D w):x∈D.es/\x.kind≠6:=by
 simp only[bC,aE,b5,iH,bN,ny,V,decide_eq_true_eq]at h;obtain⟨i,⟨⟨a,h1,_⟩,_⟩,rfl⟩:=h;exact⟨getD_mem a,h1⟩
def Dk.Live.all (h:D.Live)(w:Int):mJ D.su (bC D w)=(D.state w).isSome/\∀t,D.state w=some t->Rel D.su (bC D w) t/\zK D.su (bC D w).length t:=by
 have:=anf h.ok.su (bC D w) fun x a=>h.fit x (iY a).1 (iY a).2
 rwa [<-zJ h.ok.len]at this
def ab9 (h:D.es.length=D.st.length)(x:En):iH {D with es:=D.es++ [x],st:=D.st++ [false]}=iH D++if x.kind=6 then[]else[D.es.length]:=by
 have e:(ny {D with es:=D.es++ [x],st:=D.st++ [false]} D.es.length)=decide (x.kind≠6):=by
  simp only[ny,Q,bq,aM];rw[h,bq];simp
 simp only[iH,U,bp,c7,cK]
 congr 1
 ·refine aR fun i a=> ?_
  have a:=bN.1 a;simp only[ny,Q,am a,am (show i<D.st.length by omega)]
 ·rw[bR,e,c5]
  by_cases b:x.kind=6<;>simp[b]
def Ju (h:D.es.length=D.st.length)(x:En):bC {D with es:=D.es++ [x],st:=D.st++ [false]} (-1)=bC D (-1)++if x.kind=6 then[]else[x]:=by
 unfold bC;rw[ab9 h,cK,ax]
 congr 1
 ·refine cG fun i a=> ?_
  have a:=(b5.1 a).1;have a:=bN.1 (b5.1 a).1;simp only[Q,am a]
 ·by_cases b:x.kind=6
  ·simp[b]
  ·rw[if_neg b,if_neg b,bR,if_pos (by simp),c5]
   simp[Q]
def Wj (h:D.es.length=D.st.length){n:Nat}:iH {D with st:=D.st.set n true}=(iH D).filter fun(i:Nat)=>decide ((i:Int)≠(n:Int)):=by
 simp only[iH,cL];refine aR fun i a=> ?_
 have a:=bN.1 a;simp only[ny,Q,List.getElem?_set]
 by_cases e:n=i
 ·subst e
  simp[show n<D.st.length by omega]
 ·have b:¬(i:Int)=(n:Int):=by omega
  simp[e,b]
def Rh (h:D.es.length=D.st.length){n:Nat}:bC {D with st:=D.st.set n true} (-1)=bC D n:=by
 unfold bC;rw[Wj h,cL]
 congr 1
def alz (hf:x.formed=true)(a:x.kind≠6):D.with x={D with es:=D.es++ [x],st:=D.st++ [false]}:=by
 have b:=En.BL hf
 rcases(show x.kind=1\/x.kind=2\/x.kind=3\/x.kind=4\/x.kind=5 by omega)with k|k|k|k|k
 ·unfold Dk.with;rw[En.deed1 k];rfl
 ·unfold Dk.with;rw[En.deed2 k];rfl
 ·unfold Dk.with;rw[En.deed3 k];rfl
 ·unfold Dk.with;rw[En.deed4 k];rfl
 ·unfold Dk.with;rw[En.Pq k];rfl
def QL (a:x.kind=6):D.with x={D with es:=D.es++ [x],st:=D.st.set (x.n 0).toNat true++ [false]}:=by
 unfold Dk.with;rw[En.anZ a];rfl
def WT (h:D.Live)(hf:x.formed=true)(c:x.kind≠6)(hb:D.gB x.deed=true):D.goes x.deed=qh D.su (bC D (-1)) x:=by
 obtain⟨t,a⟩:=cl.1 h.live;obtain⟨e,d⟩:=(h.all (-1)).2 t a;have f:=Yc hf c hb;have:=UW h.ok.su e d (fun k=>L6 _ k fun y b=>h.fit y (iY b).1 (iY b).2) f;have g:=En.BL hf;rw[this]
 rcases(show x.kind=1\/x.kind=2\/x.kind=3\/x.kind=4\/x.kind=5 by omega)with k|k|k|k|k
 ·rw[En.deed1 k];simp only[Dk.goes,a]
 ·rw[En.deed2 k];simp only[Dk.goes,a]
 ·rw[En.deed3 k];simp only[Dk.goes,a]
 ·rw[En.deed4 k];simp only[Dk.goes,a]
 ·rw[En.Pq k];simp only[Dk.goes,a]
def H7 (h:D.Live)(x:En):D.enter x=(if xI D x=0 then D.with x else D,xI D x):=by
 have k:=h.ok.len;have j:=h.ok.few;unfold Dk.enter xI
 by_cases f:x.formed=false
 ·simp[f]
 by_cases c:D.es.length=24
 ·simp[f,c]
 have ars:¬D.es.length>=24:=by omega
 have a:x.formed=true:=by simpa using f
 rw[if_neg f,if_neg c,if_neg f,if_neg ars]
 by_cases b:x.kind=6
 ·rw[if_pos b,En.anZ b]
  have l:=yO a (i:=0) (by rw[b];decide)
  by_cases hc:x.n 0>=(D.es.length:Int)\/(D.es.getD (x.n 0).toNat default).kind=6
  ·have d:D.gB (.strike (x.n 0))=false:=by
    rw[<-Bool.not_eq_true];simp only[Dk.gB,inR,V,decide_eq_true_eq];rintro⟨h1,h2⟩
    rcases hc with hc|hc
    ·omega
    ·exact h2 hc
   rw[if_pos d,if_pos hc];rfl
  ·have d:¬D.gB (.strike (x.n 0))=false:=by
    rw[Bool.not_eq_false];simp only[Dk.gB,inR,V,decide_eq_true_eq];refine⟨by omega,fun e=>hc (.inr e)⟩
   rw[if_neg d,if_neg hc];have g:=(h.all (x.n 0)).1;simp only[Dk.goes,<-g];cases D.st.getD (x.n 0).toNat default<;>cases mJ D.su (bC D (x.n 0))<;>simp
 ·rw[if_neg b,Eo a b]
  cases d:D.gB x.deed
  ·rfl
  ·rw[WT h a b d]
   cases qh D.su (bC D (-1)) x<;>rfl
def adb (h:D.Live)(x:En):(D.enter x).1.Live:=by
 have b:=aac h.ok x;have j:=h.ok.len;rw[H7 h]at b⊢;simp only at b⊢
 split
 ·rename_i a
  rw[if_pos a]at b;have d:x.formed=true:=by cases e:x.formed with
   |true=>rfl
   |false=>unfold xI at a;rw[if_pos e]at a;cases a
  have m:¬D.es.length>=24:=fun e=>by unfold xI at a;rw[if_neg (by simp[d]),if_pos e]at a;cases a
  unfold xI at a;rw[if_neg (by simp[d]),if_neg m]at a
  by_cases c:x.kind=6
  ·rw[if_pos c]at a
   rw[QL c]at b⊢
   by_cases p:x.n 0>=(D.es.length:Int)\/(D.es.getD (x.n 0).toNat default).kind=6
   ·rw[if_pos p]at a;cases a
   rw[if_neg p]at a;have v:=yO d (i:=0) (by rw[c];decide);have g:mJ D.su (bC D (x.n 0))=true:=by
    cases e:mJ D.su (bC D (x.n 0))with
    |true=>rfl
    |false=>rw[if_pos (.inr e)]at a;cases a
   refine⟨b,fun y hy f=> ?_,?_⟩
   ·rcases bl.1 hy with hy|hy
    ·exact h.fit y hy f
    ·simp only[az]at hy;subst hy;exact absurd c f
   ·have e:bC {D with es:=D.es++ [x],st:=D.st.set (x.n 0).toNat true++ [false]} (-1)=bC D (x.n 0):=by
     have e1:=Ju (D:={D with st:=D.st.set (x.n 0).toNat true}) (by simpa using j) x;rw[if_pos c,bk,Rh j]at e1;rw[e1]
     congr 1;omega
    rw[acd,zJ b.len,e,<-zJ j];have:=(h.all (x.n 0)).1;rw[g]at this;exact this.symm
  ·rw[if_neg c]at a
   rw[alz d c]at b⊢;have l:D.gB x.deed=true:=by
    rw[<-Eo d c];cases e:KF D.su x with
    |true=>rfl
    |false=>rw[if_pos e]at a;cases a
   have g:qh D.su (bC D (-1)) x=true:=by
    cases e:qh D.su (bC D (-1)) x with
    |true=>rfl
    |false=>rw[Eo d c,if_neg (by simp[l]),if_pos e]at a;cases a
   refine⟨b,fun y hy f=> ?_,?_⟩
   ·rcases bl.1 hy with hy|hy
    ·exact h.fit y hy f
    ·simp only[az]at hy;subst hy;exact Yc (D:=D) d c l
   ·have e:=Ju j x
    rw[if_neg c]at e;obtain⟨t,q⟩:=cl.1 h.live;have hd:=WT h d c l;have o:pX D.su (D.without (-1)) D.su.sp0=some t:=q;rw[acd,zJ b.len,e,ax,<-zJ j,ai,a7,JH];simp only[o,c3];obtain⟨s,r⟩:=(h.all (-1)).2 t q;have u:=Yc d c l;rw[<-UW h.ok.su s r (fun k=>L6 _ k fun y hy=>h.fit y (iY hy).1 (iY hy).2) u];exact g
 ·exact h
def ajW (hs:s.ok=true):Dk.Live ⟨s,[],[]⟩:=
 ⟨⟨hs,rfl,by simp,by simp,by simp⟩,by simp,rfl⟩
def ayd (h:Int):∀l:List Int,(match l with| []=>true| [x]=>x==h| _=>false)=(l.all fun x=>x==h)\/¬l.Nodup
 | []=> .inl rfl
 | [x]=> .inl (by simp)
 |x::y::l=>by
  by_cases a:(x::y::l).Nodup
  case neg=>exact .inr a
  refine .inl ?_;rw[cB]at a;have b:x≠y:=fun e=>a.1 (by rw[e];simp)
  simp only[cJ]
  by_cases c:x=h
  ·by_cases d:y=h
   ·exact absurd (c.trans d.symm) b
   ·simp[d]
  ·simp[c]
def axX (p q:Pc)(hand:Int)(f:Fr):Bool:=decide (dP (bg q.links (p.hands.getD hand.toNat default).toNat)=G7 f.n.natAbs f.d.natAbs)&&(ct p.hands.length).all fun(i:Nat)=>decide ((i:Int)=hand)||decide (dP (bg p.links (p.hands.getD i default).toNat)=dP (bg q.links (p.hands.getD i default).toNat))
def ax6 {q:Pc}(u:p.ok=true)(v:q.ok=true)(hl:q.links.length=p.links.length){hand:Int}(h1:hand.toNat<p.hands.length){f:Fr}(hf:f.ok=true):OY p q hand f=axX p q hand f:=by
 have g:=Pc.good u;have a:=Pc.good v;have m:∀j,j<p.hands.length->1<=p.hands.getD j default/\p.hands.getD j default<=p.links.length:=fun j b=>g.hd _ (getD_mem b)
 have t:0<=f.n/\1<=f.d:=by
  have:(0<=f.n/\f.n<=50000)/\1<=f.d/\f.d<=50000:=by simpa[Fr.ok,inR]using hf
  omega
 have e1:Fa ((fP q.links).getD (p.hands.getD hand.toNat default).toNat default) f=decide (dP (bg q.links (p.hands.getD hand.toNat default).toNat)=G7 f.n.natAbs f.d.natAbs):=by
  obtain⟨o,r⟩:=m _ h1;rw[abL a.lk (by omega)];obtain⟨y,z⟩:=Xk (yG a.lk a.pr (show(p.hands.getD hand.toNat default).toNat<=q.links.length by omega));have w:∀l,dP l=G7 (gW l).n.natAbs (gW l).d.natAbs:=fun _=>rfl
  rw[w,bj,decide_eq_true_iff,ane (by omega) (by omega)];simp only[Fa,beq_iff_eq];rw[<-cf,<-cf];have A:0<=(gW (bg q.links (p.hands.getD hand.toNat default).toNat)).n*f.d:=cb (by omega) (by omega);have B:0<=f.n*(gW (bg q.links (p.hands.getD hand.toNat default).toNat)).d:=cb (by omega) (by omega);omega
 have e2:p.rF q=((ct p.hands.length).filter fun(j:Nat)=> !decide (dP (bg p.links (p.hands.getD j default).toNat)=dP (bg q.links (p.hands.getD j default).toNat))).map fun(j:Nat)=>(j:Int):=by
  rw[Pc.rF,QH,b0]
  congr 1
  refine aR fun j b=> ?_
  have c:j<p.hands.length:=by simpa using(bO.1 b)
  obtain⟨o,r⟩:=m j c;rw[cW,abL g.lk (by omega),abL a.lk (by omega),aeT (yG g.lk g.pr (by omega)) (yG a.lk a.pr (by omega))]
 have k:(p.rF q).Nodup:=by
  rw[e2];rw[List.Nodup,List.pairwise_map];exact(List.Pairwise.filter _ List.nodup_range).imp fun h e=>h (by omega)
 have s:=(ayd hand (p.rF q)).resolve_right (fun h=>h k);refine(show OY p q hand f=(decide (dP (bg q.links (p.hands.getD hand.toNat default).toNat)=G7 f.n.natAbs f.d.natAbs)&&(p.rF q).all fun x=>x==hand) from congr (congrArg and e1) s).trans ?_;rw[axX,e2,List.all_map,List.all_filter]
 congr 1
 congr 1
 funext i
 simp only[Function.comp_apply]
 by_cases h:(i:Int)=hand<;>simp[h]
def aww (p:Pc)(c:Chg):(p.changed c).links.length=p.links.length:=by simp[Pc.changed]
def axt {p:Pc}{link:Nat}{a:Int}{c:Chg}:∀{k:Nat} {b:Int},c∈ZK p link a k b->c.link=(link:Int)/\c.pr.a=a/\b<=c.pr.b/\c.pr.b<b+k
 |0,b,h=>by cases h
 |k+1,b,h=>by
  rw[ZK]at h
  rcases bl.1 h with h|h
  ·split at h
   ·cases h
   ·cases az.1 h
    exact⟨rfl,rfl,cD _,by simp only;omega⟩
  ·have:=axt h
   omega
def awZ {p:Pc}{d:Int}{w link:Nat}{c:Chg}:∀{k:Nat} {a:Int},c∈Ws p d w link k a->c.link=(link:Int)/\(a<=c.pr.a/\c.pr.a<a+k)/\d<=c.pr.b/\c.pr.b<d+w
 |0,a,h=>by cases h
 |k+1,a,h=>by
  rw[Ws]at h
  rcases bl.1 h with h|h
  ·have:=axt h;omega
  ·have:=awZ h;omega
def aw1 {p:Pc}{d:Int}{w:Nat}{c:Chg}:∀{k link:Nat},c∈O9 p d w k link->((link:Int)<=c.link/\c.link<link+k)/\(d<=c.pr.a/\c.pr.a<d+w)/\d<=c.pr.b/\c.pr.b<d+w
 |0,link,h=>by cases h
 |k+1,link,h=>by
  rw[O9]at h
  rcases bl.1 h with h|h
  ·have:=awZ h;omega
  ·have:=aw1 h;omega
def awI (S:Chg->Chg->Bool):List Chg->Option (List Chg)
 | []=>none
 |c::cs=>match cs.find? fun k=>decide (k.link>c.link)&&S c k with
  |some k=>some [c,k]
  |none=>awI S cs
def find_none_of {α:Type}{p:α->Bool}{l:List α}(h:∀x∈l,p x=false):l.find? p=none:=by
 rw[List.find?_eq_none];intro x a;rw[h x a];decide
def find_congr {α:Type}{p q:α->Bool}:∀{l:List α},(∀x∈l,p x=q x)->l.find? p=l.find? q
 | [],_=>rfl
 |x::l,h=>by
  rw[cz,cz,h x (by simp),find_congr fun y a=>h y (by simp[a])]
def axN {S:Chg->Chg->Bool}{R:List Chg}{i:Int}{g:Chg->Option (List Chg)}(d:∀k∈R,k.link>i)(f:∀c,c.link=i->g c=(R.find? (S c)).map fun k=>[c,k])(j:awI S R=R.findSome? g):∀A:List Chg,(∀c∈A,c.link=i)->awI S (A++R)=(A++R).findSome? g
 | [],_=>j
 |c::A,h=>by
  have b:=h c (by simp);have e:(A++R).find? (fun k=>decide (k.link>c.link)&&S c k)=R.find? (S c):=by
   rw[List.find?_append,find_none_of (l:=A) (fun x a=>by rw[b,h x (by simp[a])];simp),Option.none_or];exact find_congr fun x a=>by rw[b,decide_eq_true (d x a),bd]
  rw[bu,awI,e,cF,f c b];cases R.find? (S c)with
  |some k=>rfl
  |none=>exact axN d f j A fun x a=>h x (by simp[a])
def axG {α β:Type}(p:α->Bool)(f:α->β):∀l:List α,(l.findSome? fun x=>if p x then some (f x)else none)=(l.find? p).map f
 | []=>rfl
 |x::l=>by
  rw[cF,cz,axG p f l];cases p x<;>simp
def axl (p:Pc)(hand:Int)(f:Fr)(all:List Chg):Option (List Chg):=
 if OY p p hand f then some []else match all.find? fun c=>OY p (p.changed c) hand f with
  |some c=>some [c]
  |none=>awI (fun c k=>OY p ((p.changed c).changed k) hand f) all
def axZ (p:Pc)(hand:Int)(f:Fr)(a:Int)(w:Nat)(now:Pc)(fr:Nat):jI p hand f a w 1 now fr=((O9 p a w (p.links.length - fr) fr).find? fun c=>OY p (now.changed c) hand f).map fun c=>[c]:=by
 rw[jI,<-axG]
 congr 1
 funext c
 simp only[jI]
 split<;>rfl
def ax0 (p:Pc)(hand:Int)(f:Fr)(a:Int)(w:Nat):∀(k i:Nat),i+k=p.links.length->awI (fun c k=>OY p ((p.changed c).changed k) hand f) (O9 p a w k i)=(O9 p a w k i).findSome? fun c=>(jI p hand f a w 1 (p.changed c) (c.link.toNat+1)).map (c::·)
 |0,i,_=>rfl
 |k+1,i,h=>by
  rw[O9];refine axN (i:=(i:Int)) (fun c b=> ?_) (fun c b=> ?_) (ax0 p hand f a w k (i+1) (by omega)) _ fun c b=>(awZ b).1
  ·have:=(aw1 b).1.1;omega
  ·rw[b,axZ,av,show p.links.length - (i+1)=k by omega,Option.map_map]
   rfl
def aw3 (i:p.ok=true){a b hand:Int}(hl:aT a=true)(h:aT b=true)(d:a<=b)(j:b - a<=10)(e:inR hand 0 (p.hands.length - 1)=true){f:Fr}(hf:f.ok=true):
  p.changes a b hand f=match axl p hand f (O9 p a (b - a+1).toNat p.links.length 0)with|some l=>(l,0)|none=>([],5):=by
 have g:(p.ok&&(aT a&&aT b&&decide (a<=b))&&decide (b - a<=10)&&inR hand 0 (p.hands.length - 1)&&f.ok)=true:=by simp[i,hl,h,d,j,e,hf]
 rw[Pc.changes,if_pos g,axZ,jI,axl];rw[show jI p hand f a (b - a+1).toNat 2 p 0=awI (fun c k=>OY p ((p.changed c).changed k) hand f) (O9 p a (b - a+1).toNat p.links.length 0) from by rw[ax0 _ _ _ _ _ _ _ (by omega),jI];rfl];rw[cW];cases m:OY p p hand f
 ·simp only[bi,if_false]
  cases((O9 p a (b - a+1).toNat p.links.length 0).find? fun c=>OY p (p.changed c) hand f)with
  |some c=>rfl
  |none=>rfl
 ·simp
end Go.Tel
namespace Go.Proofs
open Go.Shelf Go.RowKit Go.Lib
def Tryz.joinExtra:Builder.Extra Tryz.prog Tryz.laysJoin_ren:={
 sizeBuilder:=by kernel_rfl
 liesBuilder:=by kernel_rfl
 t5:=by kernel_rfl
 a5:=Tryz.isAgg5
 z5:=Tryz.sizeOf5
 v5:=Tryz.zeroValue5
 infoByte:=by kernel_rfl
 cellsByte:=by kernel_rfl
 sizeByte:=by kernel_rfl
 neB5:=by decide}
section
variable {P:Program}{ρ:Ren}
def ahX (L:Lays.n146 P ρ)(h:(P.info? (ρ.t 9)).map (fun i=>(i.zero,i.size,i.bytes))=some (some (.string ByteArray.empty),1,16))(s:ByteArray)(a:UInt8)(w:World)(hs:s.size<4294967281):
  Calls P (ρ.f 146) #[.string s, .string ⟨#[a]⟩] w fun e w'=>
   e= .returned (.slice (some ⟨w.heap.size,0,none⟩) (Lib.countB s ⟨#[a]⟩+1) (Lib.countB s ⟨#[a]⟩+1))/\w'=w.alloc (.cells ((Lib.splitB ⟨#[a]⟩ 0 (Lib.countB s ⟨#[a]⟩) s).map Value.string).toArray (ρ.t 9)):=by
 have h1:1<=(⟨#[a]⟩:ByteArray).size:=a8 _;have l:=Lib.countB_le ⟨#[a]⟩ h1 s.size s (a8 _);have b:=Lib.splitB_all ⟨#[a]⟩ h1 0 _ s rfl;have c:=Any.strings_genSplit_core {L with} h s ⟨#[a]⟩ 0 (-1) (Lib.countB s ⟨#[a]⟩+1) w hs h1 (bc _)
  (fun x cs _=>(Any.strings_Index_one {L with} x a _).mono fun e w' ⟨g,d⟩=>⟨by rw[g];show _=Ending.returned (Value.int .i64 (Lib.index x.data.toList [a]));rw[Lib.index_one],d⟩)
  ((Any.strings_Count_one {L with} s a w).mono fun e w' ⟨g,d⟩=>⟨by rw[g];show _=Ending.returned (Value.int .i64 ((Lib.count s.data.toList [a]:Nat):Int));rw[Lib.count_one];rfl,d⟩)
  (by decide) (by decide) (by rw[if_pos (by decide)];omega)
 rw[Nat.add_sub_cancel,b]at c;have e2:Lib.cellsOf (Lib.splitB ⟨#[a]⟩ 0 (Lib.countB s ⟨#[a]⟩) s) (Lib.countB s ⟨#[a]⟩+1)=((Lib.splitB ⟨#[a]⟩ 0 (Lib.countB s ⟨#[a]⟩) s).map Value.string).toArray:=by rw[<-b];exact Lib.cellsOf_full _
 rw[e2]at c;have r:=L.t3;have u:=L.t9;have m:=L.t31;have p:=L.a3;have q:=L.a9;have k:=L.a31;have z:=L.z3;have v:=L.v3;have A:=L.z9;have y:=L.v9;have o:=L.z31;have n:=L.v31;have j:∀args w,(callFunc (ρ.f 221) args).run P w= .ok (.enter (ρ.f 221) args) w:=enters_of L.f221 (by kernel_rfl) rfl
 go_enter L.f146,Body.n146_ntmps ρ
 go_wp2_with (go_at_fn (ρ.f 221);refine c.mono ?_;rintro e w' ⟨rfl,d⟩;rw[d])
 go_ret
 exact⟨rfl,rfl⟩
end
end Go.Proofs
namespace Go.Tel
open Go.Am
def mX (s:ByteArray)(c:UInt8):List ByteArray:=Go.Lib.splitB ⟨#[c]⟩ 0 (Go.Lib.countB s ⟨#[c]⟩) s
def KJ (s:ByteArray)(c:UInt8):(mX s c).length=Go.Lib.countB s ⟨#[c]⟩+1:=Go.Lib.splitB_all ⟨#[c]⟩ (a8 _) 0 _ s rfl
def Xv {w:World}{O:Nat->Prop}:∀xs:List ByteArray,aX w O (xs.map Value.string) (xs.map DV.str)
 | []=> .nil
 |x::xs=> .cons (.str _) (Xv xs)
def Ob:∀xs:List ByteArray,flat (xs.map DV.str)=xs.map DV.str
 | []=>rfl
 |x::xs=>by
  have:=Ob xs;simp only[flat]at this⊢;simp only[ai,List.flatMap_cons,this]
  rfl
def alI (s:ByteArray)(c:UInt8)(hs:s.size<=1000000):Am.Pure Go.Tel.C 219 [.str s, .str ⟨#[c]⟩] (.d (.slice false ((mX s c).map .str))) []:=by
 refine qQ fun X w b g a f=> ?_
 cases f with|cons h1 t1=>
 cases t1 with|cons h2 t2=>
 cases t2;cases h1;cases h2;refine(Go.Proofs.ahX Go.Proofs.Tryz.laysSplit (by kernel_rfl) s c w (by omega)).mono ?_;rintro e i ⟨rfl,rfl⟩;refine⟨_,rfl,Later.alloc w _,?_⟩;refine .slice (sz:=1) (T:=Go.Proofs.Tryz.laysSplit_ren.t 9) (fz:=(0,0)) (cs:=((mX s c).map Value.string).toArray) ?_ (fun h=>aL _ (a _ h)) (by simp[KJ]) (by intro x a;obtain⟨y,_,rfl⟩:=aE.1 a;rfl) (a8 _) (fun h=>by cases h) ?_
 ·show(w.heap.push _)[w.heap.size]?=_
  rw[Array.getElem?_push_size];rfl
 ·rw[Ob]
  simp only[aD,c4];rw[cv (by simp[KJ])];exact Xv _
def aog (n:Int)(c: -9223372036854775808<=n)(h1:n<=9223372036854775807):Am.Pure Go.Tel.C 213 [.int .i64 n] (.d (.str ⟨(Go.Lib.itoa n).toArray⟩)) []:=by
 refine qQ fun X w a f i h=> ?_
 cases h with|cons h2 t2=>
 cases t2;cases h2;refine(Go.Proofs.Any.strconv_Itoa Go.Proofs.Tryz.laysItoa n c h1 w f).mono ?_;rintro e j ⟨rfl,k,os,rfl⟩;exact⟨_,rfl,⟨rfl,rfl,rfl,by simp[Go.Sort.grow],fun b g=>by simp only[Go.Sort.grow];rw[Array.getElem?_append_left (by exact g)];rfl⟩, .str _⟩
def afk (xs:List ByteArray)(a:ByteArray):ByteArray:=⟨(Go.Lib.join (xs.map (·.data.toList)) a.data.toList).toArray⟩
def Jr {w:World}{O:Nat->Prop}:∀{vs:List Value} {xs:List ByteArray},aX w O vs (xs.map DV.str)->vs=xs.map Value.string
 | _,[], .nil=>rfl
 | _,x::xs, .cons h t=>by
  cases h;rw[Jr t]
  rfl
end Go.Tel
namespace Go.Am
section
variable {C:Ctx}{base:Nat}{M:Mem}{K:PV->Mem->Prop}{KP:DV->Mem->Prop}
variable{a b:ByteArray}
def oD {op:BinOp}{K:DV->Prop}:O6 op (.d (.str a)) (.d (.str b)) K=AO op a b K:=px
def Iq {K:DV->Prop}:AO .add a b K=(a.size+b.size<=9223372036854775807/\K (.str (a++b))):=px
def RJ {K:DV->Prop}:AO .eql a b K=K (.bool (a.toList==b.toList)):=px
def Zm {K:DV->Prop}:AO .neq a b K=K (.bool (!(a.toList==b.toList))):=px
end
end Go.Am
namespace Go.Tel
open Go.Am
def size_data (b:ByteArray):b.data.toList.length=b.size:=be
def aoh (xs:List ByteArray)(b:ByteArray)(F:xs.length<=1000000)(hl:(Go.Lib.join (xs.map (·.data.toList)) b.data.toList).length<=1000000000):
  Am.Pure Go.Tel.C 218 [sF (xs.map .str), .str b] (.d (.str (afk xs b))) []:=by
 refine qQ fun X w u E H A=> ?_
 cases A with|cons h1 t1=>
 cases t1 with|cons y t2=>
 cases t2;cases y;generalize h:xs.map DV.str=ys at h1;cases h1 with
 |empty=>
  rw[b9]at h;subst h;refine(Go.Proofs.Any.strings_Join_none Go.Proofs.Tryz.laysJoin Go.Proofs.Tryz.joinExtra _ _ b w).mono ?_;rintro e v ⟨rfl,rfl⟩;exact⟨_,rfl,Later.refl _, .str _⟩
 |slice q G f B z D g=>
 rename_i i k len cap sz cs T fz
 subst h;rw[Y]at f;subst f
 by_cases s:xs=[]
 ·subst s
  refine(Go.Proofs.Any.strings_Join_none Go.Proofs.Tryz.laysJoin Go.Proofs.Tryz.joinExtra _ _ b w).mono ?_;rintro e v ⟨rfl,rfl⟩;exact⟨_,rfl,Later.refl _, .str _⟩
 have o:sz=1:=by
  obtain⟨p,l,rfl⟩:∃p l,xs=p::l:=by
   cases xs with
   |nil=>exact absurd rfl s
   |cons a t=>exact⟨a,t,rfl⟩
  rw[<-B (.str p) (by simp)];rfl
 subst o;rw[Ob,c4]at g;have n:=Jr g;refine(Go.Proofs.Any.strings_Join Go.Proofs.Tryz.laysJoin Go.Proofs.Tryz.joinExtra i k cap xs b w (fun j x r=> ?_) (dw q) (by omega) z (by omega)).mono ?_
 ·have m:j<xs.length:=(ae.1 r).1
  rw[cell_of_row w i (k+j) cs T fz q];have:=congrArg (fun l=>l[j]?) n;simp only[List.getElem?_take,m,if_true,List.getElem?_drop,Array.getElem?_toList,cR,r,c8]at this;exact this
 ·rintro e v ⟨rfl,c⟩
  exact⟨_,rfl,⟨c.os,c.tape,c.output,c.size,c.block⟩, .str _⟩
def tK (n:Int):ByteArray:=⟨(Go.Lib.itoa n).toArray⟩
def I64 (n:Int):Prop:= -9223372036854775808<=n/\n<=9223372036854775807
def Jy {n:Int}(h:I64 n):Pure C 213 [dI n] (.d (.str (tK n))) []:=aog n h.1 h.2
def JU {n:Int}(h:I64 n):(tK n).size<=21:=by
 have:=Go.Lib.itoa_length_le n h.1 h.2
 simpa[tK,c9]using this
def PI {B:Nat}(a:UInt8):∀(r:List (List UInt8)),(∀x∈r,x.length<=B)->(Go.Lib.joinTail [a] r).length<=r.length*(B+1)
 | [],_=>by simp[Go.Lib.joinTail]
 |x::r,h=>by
  have c:=PI a r (fun y b=>h y (bX _ b));have d:=h x bz;simp only[Go.Lib.joinTail,ai,cP,U,W,ao]at c⊢;rw[di];omega
def join_le {B:Nat}(a:UInt8)(xs:List (List UInt8))(h:∀x∈xs,x.length<=B):(Go.Lib.join xs [a]).length<=xs.length*(B+1):=by
 cases xs with
 |nil=>simp[Go.Lib.join_nil]
 |cons x r=>
  rw[Go.Lib.join_cons,U,W,di];have:=PI a r (fun y b=>h y (bX _ b));have:=h x bz;omega
def adM (xs:List ByteArray)(c:UInt8):(afk xs ⟨#[c]⟩).size=(Go.Lib.join (xs.map (·.data.toList)) [c]).length:=by
 unfold afk
 show(de _).size=_
 rw[cT]
def Rw (ns:List Int):ByteArray:=afk (ns.map tK) ⟨#[32]⟩
variable{ns:List Int}
def TB (h:∀n∈ns,I64 n):(Go.Lib.join ((ns.map tK).map (·.data.toList)) [32]).length<=ns.length*22:=by
 have:=join_le (B:=21) 32 ((ns.map tK).map (·.data.toList)) (fun x a=>by
  simp only[aE]at a;obtain⟨y,⟨n,b,rfl⟩,rfl⟩:=a;rw[size_data];exact JU (h n b))
 simpa using this
def Yj (h:∀n∈ns,I64 n):(Rw ns).size<=ns.length*22:=by
 rw[Rw,adM];exact TB h
variable{s:ByteArray}
def JF:DV.cells (.str s)=[.str s]:=rfl
def ajl:DV.fits 1 (.str s)=true:=rfl
def ajL (ns:List Int)(hl:ns.length<=1000)(h:∀n∈ns,I64 n):Pure C 122 [sF (ns.map ay)] (.d (.str (Rw ns))) []:=by
 refine ayF wS aK ?_;simp only[wS,aK,Y,RN,z,J];refine aH ns.length (fun i (v:Nat)=>⟨[(3, .tsl 0 v 0),(6, .d (sF (ns.map ay))),(7,pI ns.length),(8,pI i)],⟨[],[],[some ⟨1,((ns.take i).map tK).map .str,v,0⟩]⟩⟩)
  (fun _ _=>True) 0 0 (bc _) rfl trivial (fun i v a _=> ?_) (fun v _=> ?_)
 ·obtain⟨b,c,e⟩:=rng a (by omega)
  simp only[b,c,a,getD_map,aI,av,Y,RN,z,N];refine ayG (Jy (h _ (getD_mem a))) ?_;simp only[iC,DV.strip,JF,ajl,forall_eq,Y,RN,I,J,N];refine⟨by simp,by simp;omega,?_⟩;simp only[e];refine bn (v+1) a ?_ trivial;rw[aS a];simp
 ·simp only[bS,RN,z]
  rw[cn];refine kS (sU (d:=sF ((ns.map tK).map .str)) (by simp[datum,Mem.row])) rfl (aoh (ns.map tK) ⟨#[32]⟩ (by simp;omega) (by have:=TB h;simp only at this⊢;omega)) rfl ?_;(try simp only[RN,z,F,H,I,J,N])
  rfl
def En.line (x:En):ByteArray:=fwE x.kind++⟨#[32]⟩++Rw x.ns
def au1 {x:En}(h:x.formed=true):∀n∈x.ns,0<=n/\n<=9999:=by
 simp only[En.formed,V,decide_eq_true_eq,aw]at h;intro n a
 simpa[inR]using h.2 n a
def avD (k:Int):(fwE k).size<=6:=by
 unfold fwE;have:∀p∈fmL,p.1.size<=6:=by decide
 by_cases h:(k - 1).toNat<fmL.length
 ·exact this _ (getD_mem h)
 ·rw[Q,List.getElem?_eq_none (by omega)];decide
def awc (x:En):Pure C 42 [x.dv] (.d (.tup [.str (if x.formed then x.line else⟨#[]⟩),dI (if x.formed then 0 else 2)])) []:=by
 have e:=adJ x;rw[dM]at e;refine ayF auU Zb ?_;simp only[auU,Zb,dM,RN,z,F,N];refine ayG e ?_;cases a:x.formed
 ·(try simp only[RN,z])
  rfl
 have k:1<=x.kind/\x.kind<=6:=by
  simp only[En.formed,V,inR,decide_eq_true_eq]at a;omega
 have b:=au1 a;have f:=JL a;obtain⟨g,h,i⟩:=aqi k;have c:∀n∈x.ns,I64 n:=fun n l=>by have:=b n l;exact⟨by omega,by omega⟩
 have j:=Yj c;have p:=avD x.kind;have m:(⟨#[32]⟩:ByteArray).size=1:=rfl;have o:(fwE x.kind++(⟨#[32]⟩:ByteArray)).size<=7:=by rw[bo];omega
 (try simp only[RN,z,F,N]);refine ayG aff ?_;simp only[i,g,RN,F,N];refine⟨by omega,by omega,h,?_⟩;simp only[oD,Iq];refine⟨by omega,?_⟩;refine ak rfl rfl (ajL x.ns (by omega) c) ?_;simp only[oD,Iq];refine⟨by omega,?_⟩
 rfl
end Go.Tel
namespace Go.Am
section
variable {C:Ctx}{base:Nat}{L:PV->Mem->Prop}{KP:DV->Mem->Prop}{bs:List (Option (List PV))}{fz:List Nat}{ar:List (Option Arr)}
variable{s:ByteArray}
def amf {i:Nat}:au C base (.rngS i) [.d (.str s)] ⟨bs,fz,ar⟩ L KP=(bs[base+i]?=some none/\L (.yP (base+i)) ⟨bs.set (base+i) (some [.FH s 0]),fz,ar⟩):=px
def adn {b pos c n:Nat}(h:bs[b]?=some (some [.FH s pos]))(hf:b∉fz)(e:pos<s.size)(hd:Utf8.decode s pos=(c,n))(a:L (.d (.tup [.bool true,dI pos, .int .i32 c])) ⟨bs.set b (some [.FH s (pos+n)]),fz,ar⟩):
  au C base .aaS [.yP b] ⟨bs,fz,ar⟩ L KP:=by
 simp only[au,Mem.box,h,hd];exact⟨hf,by rw[if_pos e];exact a⟩
def aai {b pos:Nat}(h:bs[b]?=some (some [.FH s pos]))(hf:b∉fz)(c:¬pos<s.size)(a:L (.d (.tup [.bool false])) ⟨bs,fz,ar⟩):
  au C base .aaS [.yP b] ⟨bs,fz,ar⟩ L KP:=by
 simp only[au,Mem.box,h];exact⟨hf,by rw[if_neg c];exact a⟩
variable{M:Mem}{K:PV->Mem->Prop}
def Dw {sz:Nat}{xs:List DV}{k:IntKind}{n:Int}(hs:∀x∈xs,x.cells.length=sz)(a:0<=n)(h1:n<=xs.length):
  au C base (.Eu sz true false false) [.d (.slice false xs), .d (.int k n)] M K KP=K (.d (sF (xs.drop n.toNat))) M:=by
 simp only[au,yA,eu,aM,cp,av,cn,ca,Bool.or_false];refine propext ⟨fun h=>h.2.2.2.2.2.2,fun h=>⟨trivial,hs,a,h1,cD _,fun c b=>b,h⟩⟩
def ajb {neq:Bool}{a c:ByteArray}{b d:Int}:au C base (.Fe neq [2,1]) [.d (.agg [.str a,dI b]), .d (.agg [.str c,dI d])] M K KP=K (.d (.bool (((a.toList==c.toList)&&(b==d)) !=neq))) M:=by
 rw[afb (t:=(a.toList==c.toList)&&(b==d))];simp[dK]
end
end Go.Am
namespace Go.Tel
open Go.Am
def anI (xs:List ByteArray):∀y∈xs.map DV.str,y.cells.length=1:=by
 intro y a;obtain⟨n,_,rfl⟩:=aE.1 a;rfl
def aqb {p:ByteArray×Nat}:adt p= .agg [.str p.1,dI (p.2:Int)]:=rfl
def vO (s:ByteArray)(n:Nat)(p:ByteArray×Nat):Bool:=(s.toList==p.1.toList)&&((n:Int)==(p.2:Int))
def aav (l:List (ByteArray×Nat))(hl:l.length<=1000)(s:ByteArray)(n:Nat):Pure C 220 [sF (l.map adt), .agg [.str s,dI (n:Int)]] (.d (dI (lY (vO s n) l 0))) []:=by
 refine ayF kR aJ ?_;simp only[kR,aJ,Y,RN,z,F];refine aH l.length (fun i (_:Unit)=>⟨[(0, .d (sF (l.map adt))),(3, .d (.aW [.str s,dI (n:Int)])),(7,pI l.length),(8,pI i)],⟨[some [.d (.str s),pI (n:Int)]],[0],[]⟩⟩)
  (fun i _=>lY (vO s n) l 0=lY (vO s n) (l.drop i) i) 0 () (bc _) rfl rfl (fun i _ h1 a=> ?_) (fun _ a=> ?_)
 ·obtain⟨h2,c,e⟩:=rng h1 (by omega)
  rw[drop_cons h1,lY]at a;simp only[h2,c,h1,getD_map,av,Y,aqb,ajb,ae6,RN,z,F,N];cases b:vO s n (l.getD i default)
  ·rw[if_neg (fun h=>by rw[b]at h;cases h)]at a
   rw[vO]at b;simp only[b,e,RN,z];exact bn () h1 rfl a
  ·rw[if_pos b]at a
   rw[vO]at b;simp only[b,RN,z];rw[a]
 ·rw[cX,lY]at a
  simp only[bS,a,RN,z]
variable{M:Mem}
def wK {b:Bool}{s:ByteArray}{K:PV->Mem->Prop}{KP:DV->Mem->Prop}(c:b=true->K (.d (.tup [])) M)(e:b=false->∀d,RS d->KP d M):SC C 221 [.d (.bool b), .d (.str s)] M K KP:=by
 refine Go.Am.Ve (ds:=[.bool b, .str s]) (Kr:=fun x=>b=true/\x= .tup []) (Kp:=fun d=>b=false/\RS d) ?_ (fun x a=>by rw[a.2];exact c a.1) (fun d hd=>e hd.1 d hd.2);refine ayH rC jq ?_;cases b
 ·simp only[rC,jq,LJ,JJ,RN,z,F,N]
  exact⟨s,rfl⟩
 ·simp only[rC,jq,RN,z,F]
  exact⟨_,rfl,rfl⟩
def WY (w:ByteArray):Nat->Nat->Int->Option Int
 |0,_,n=>some n
 |k+1,pos,n=>if 48<=(w.data.getD pos 0).toNat/\(w.data.getD pos 0).toNat<=57/\w.size<=4 then WY w k (pos+1) (10*n+(((w.data.getD pos 0).toNat:Int) - 48))else none
def Aj (w:ByteArray):Option Int:=match WY w w.size 0 0 with
 |some n=>if w.size≠0/\(tK n).data.toList=w.data.toList then some n else none
 |none=>none
def JX:List ByteArray->List Int->Option (List Int)
 | [],a=>some a
 |x::l,a=>match Aj x with
  |some n=>JX l (a++ [n])
  |none=>none
def AB (line:ByteArray)(fm:List (ByteArray×Nat)):Option (Int×List Int):=
 if lY (vO ((mX line 32).getD 0 default) ((mX line 32).length - 1)) fm 0>=0 then
  (match JX ((mX line 32).drop 1) []with
  |some l=>some (lY (vO ((mX line 32).getD 0 default) ((mX line 32).length - 1)) fm 0,l)
  |none=>none)
 else none
def Yg {α:Type}(p:α->Bool):∀(l:List α) (i:Nat), -1<=lY p l i/\lY p l i<=(i+l.length:Nat)
 | [],i=>by simp only[lY];omega
 |x::l,i=>by
  simp only[lY]
  split
  ·simp;omega
  ·have:=Yg p l (i+1);simp only[W];omega
def afO {line:ByteArray}(hr:line.size<=1000000)(fm:List (ByteArray×Nat))(D:fm.length<=1000)(ex:Bool){M:Mem}{K:PV->Mem->Prop}{KP:DV->Mem->Prop}
  (Z:∀o ns,AB line fm=some (o,ns)->K (.d (.tup [dI o,sF (ns.map ay)])) M)(hP:AB line fm=none->∀d,RS d->KP d M):SC C 126 [.d (.str line), .d (.slice ex (fm.map adt))] M K KP:=by
 refine Go.Am.Ve (ds:=[.str line, .slice ex (fm.map adt)]) (Kr:=fun x=>∃a ns,AB line fm=some (a,ns)/\x= .tup [dI a,sF (ns.map ay)]) (Kp:=fun d=>AB line fm=none/\RS d) ?_ (fun x hx=>by obtain⟨a,ns,h1,rfl⟩:=hx;exact Z a ns h1) (fun d hd=>hP hd.1 d hd.2);have hl:=KJ line 32;have ab:=Go.Lib.countB_le ⟨#[32]⟩ (a8 _) line.size line (a8 _);have apu:=alI line 32 hr;refine ayH zf dY ?_;simp only[zf,dY,RN,z,F,J];refine ayG apu ?_;have afN:AB line fm=if lY (vO ((mX line 32).getD 0 default) ((mX line 32).length - 1)) fm 0>=0 then(match JX ((mX line 32).drop 1) []with|some l=>some (lY (vO ((mX line 32).getD 0 default) ((mX line 32).length - 1)) fm 0,l)|none=>none)else none:=rfl
 have ae:(mX line 32).length<=1000001:=by omega
 have ac:1<=(mX line 32).length:=by omega
 generalize mX line 32=ws at*;have i0:(0:Int)<=0:=by decide
 have l0:0<ws.length:=by omega
 have R:dl .i64 ((ws.length:Int) - 1)=((ws.length - 1:Nat):Int):=by rw[aF (by omega)];omega
 have E:=aav fm D (ws.getD 0 default) (ws.length - 1);have asV:=Yg (vO (ws.getD 0 default) (ws.length - 1)) fm 0;simp only[Y,i0,l0,Int.toNat_zero,getD_map,JF,R,RN,z,F,N];refine ayG E ?_;(try simp only[RN]);generalize lY (vO (ws.getD 0 default) (ws.length - 1)) fm 0=ix at*;refine wK (fun e2=> ?_) (fun e2 d b=>⟨by rw[afN,if_neg (of_decide_eq_false e2)],b⟩);rw[if_pos (of_decide_eq_true e2)]at afN;(try simp only[RN]);rw[Dw (anI ws) (by decide) (by rw[Y];omega)];have B:(ws.map DV.str).drop (Int.toNat 1)=(ws.drop 1).map DV.str:=by rw[List.map_drop];rfl
 rw[B];have P:(ws.drop 1).length<=1000000:=by simp;omega
 generalize ws.drop 1=xs at*;simp only[Y,RN];refine aH xs.length (fun i (q:List Int×Nat)=>⟨[(0, .d (.str line)),(7,pI ix),(8, .tsl 1 q.2 0),(30, .d (sF (xs.map .str))),(31,pI xs.length),(32,pI i)],⟨[],[],[some ⟨1,[],0,0⟩,some ⟨1,q.1.map ay,q.2,0⟩]⟩⟩)
  (fun i q=>JX xs []=JX (xs.drop i) q.1/\q.1.length=i) 0 ([],0) (bc _) rfl ⟨rfl,rfl⟩ (fun i q s p=> ?_) (fun q p=> ?_)
 ·obtain⟨f,ver⟩:=q
  obtain⟨r1,r2⟩:=p;simp only at r1 r2;obtain⟨V,W,X⟩:=rng s P;rw[drop_cons s,JX]at r1;obtain⟨w,S⟩:∃w,w=xs.getD i default:=⟨_,rfl⟩
  rw[<-S]at r1;have e:Aj w=none->AB line fm=none:=fun h=>by rw[afN,r1,h]
  simp only[V,W,s,getD_map,av,Y,JF,<-S,amf,RN,z,N];refine jo (fun(q:Nat×Int)=>⟨[(0, .d (.str line)),(7,pI ix),(8, .tsl 1 ver 0),(10, .d (.str w)),(11,pI q.2),(30, .d (sF (xs.map .str))),(31,pI xs.length),(32,pI i),(37, .yP 0)],⟨[some [.FH w q.1]],[],[some ⟨1,[],0,0⟩,some ⟨1,f.map ay,ver,0⟩]⟩⟩)
   (fun q=>q.1<=w.size/\WY w w.size 0 0=WY w (w.size - q.1) q.1 q.2/\0<=q.2/\q.2<10 ^ q.1/\(0<q.1->w.size<=4)) (fun q=>w.size - q.1) (0,0) rfl ⟨bc _,rfl,by decide,by decide,by simp⟩ (fun q p=> ?_)
  obtain⟨pos,n⟩:=q;obtain⟨q1,g,q3,q4,U⟩:=p;simp only at q1 g q3 q4 U
  by_cases j:pos<w.size
  ·obtain⟨c,y,hd⟩:∃c y,Utf8.decode w pos=(c,y):=⟨_,_,rfl⟩
   have hg:w.data.getD pos 0=w[pos]'j:=by
    rw[Array.getD_eq_getD_getElem?,Array.getElem?_eq_getElem (show pos<w.data.size from j)];rfl
   have A:(48<=(w.data.getD pos 0).toNat/\(w.data.getD pos 0).toNat<=57↔48<=c/\c<=57)/\(c<=57->c=(w.data.getD pos 0).toNat/\y=1):=by
    rw[hg]
    by_cases ha:(w[pos]'j).toNat<128
    ·have:=decode_ascii w pos j ha
     rw[hd]at this;cases this;exact⟨Iff.rfl,fun _=>⟨rfl,rfl⟩⟩
    ·have:=(decode_high w pos j (by omega)).1
     rw[hd]at this;simp only at this;exact⟨by omega,by omega⟩
   obtain⟨k,hk⟩:∃k,w.size - pos=k+1:=⟨w.size - pos - 1,by omega⟩
   rw[hk,WY]at g;have bad:¬(48<=c/\c<=57/\w.size<=4)->Aj w=none:=by
    intro H;rw[if_neg (by intro hh;exact H ⟨(A.1.1 ⟨hh.1,hh.2.1⟩).1,(A.1.1 ⟨hh.1,hh.2.1⟩).2,hh.2.2⟩)]at g;rw[Aj,g]
   (try simp only[RN,z]);refine adn rfl (by simp) j hd ?_
   by_cases v:(c:Int)>=48
   case neg=>
    simp only[v,RN,z];exact wK (fun h=>by cases h) (fun _ d b=>⟨e (bad (by omega)),b⟩)
   by_cases Q:(c:Int)<=57
   case neg=>
    simp only[v,Q,RN,z];exact wK (fun h=>by cases h) (fun _ d b=>⟨e (bad (by omega)),b⟩)
   by_cases T:(w.size:Int)<=4
   case neg=>
    simp only[v,Q,T,RN,z];exact wK (fun h=>by cases h) (fun _ d b=>⟨e (bad (by omega)),b⟩)
   simp only[v,Q,T,RN,z];refine wK (fun _=> ?_) (fun h=>by cases h);obtain⟨hc,rfl⟩:=A.2 (by omega);rw[if_pos ⟨by omega,by omega,by omega⟩,<-hc]at g;have O:(10:Int) ^ pos<=1000:=by
    rcases pos with _| _| _| _|pos
    ·decide
    ·decide
    ·decide
    ·decide
    ·omega
   have R:dl .i64 (10*n)=10*n:=aF (by omega);have w2:IntKind.i32.wrap ((c:Int) - 48)=(c:Int) - 48:=by
    obtain⟨m,hm⟩:∃m:Nat,(c:Int) - 48=m:=cm (by omega)
    have G:m<10:=by omega
    rw[hm];exact(by decide:∀m<10,IntKind.i32.wrap ((m:Nat):Int)=m) m G
   have w3:dl .i64 ((c:Int) - 48)=(c:Int) - 48:=aF (by omega);have w4:dl .i64 (10*n+((c:Int) - 48))=10*n+((c:Int) - 48):=aF (by omega);simp only[R,w2,w3,w4];refine RQ (a:=(pos,n)) (μ:=fun q=>w.size - q.1) (pos+1,10*n+((c:Int) - 48)) (by simp only;omega) rfl ⟨by simp only;omega,?_,by simp only;omega,?_,fun _=>by omega⟩ (by simp) (by simp) rfl rfl
   ·simp only
    rw[g,show w.size - (pos+1)=k by omega]
   ·simp only[Int.pow_succ];omega
  ·have L:pos=w.size:=by omega
   rw[L,cw,WY]at g;(try simp only[RN,z]);refine aai rfl (by simp) j ?_;have r:(w.toList==(⟨#[]⟩:ByteArray).toList)=decide (w.size=0):=by
    rw[Go.Lib.toList_data,Go.Lib.toList_data,<-size_data];cases w.data.toList<;>simp
   by_cases u:w.size=0
   ·rw[decide_eq_true u]at r
    simp only[oD,Zm,r,RN,z,J];exact wK (fun h=>by cases h) (fun _ d b=>⟨e (by rw[Aj,g];simp[u]),b⟩)
   ·rw[decide_eq_false u]at r
    have am:w.size<=4:=U (by omega);have O:(10:Int) ^ pos<=10000:=by
     rcases pos with _| _| _| _| _|pos
     ·decide
     ·decide
     ·decide
     ·decide
     ·decide
     ·omega
    simp only[oD,Zm,r,RN,z,J];refine ak rfl rfl (Jy ⟨by omega,by omega⟩) ?_
    by_cases t:(tK n).data.toList=w.data.toList
    ·have e1:((tK n).toList==w.toList)=true:=by rw[Go.Lib.toList_data,Go.Lib.toList_data];exact beq_iff_eq.2 t
     have H:Aj w=some n:=by rw[Aj,g];simp only;rw[if_pos ⟨u,t⟩]
     rw[H]at r1;simp only[oD,RJ,e1];refine wK (fun _=> ?_) (fun h=>by cases h);simp only[fits_int,forall_eq,DV.strip,lI,Y,RN,I,N];refine⟨by simp,by omega,?_⟩;simp only[X];refine jv 0 2 (f++ [n],ver+1) s ?_ ⟨r1,by simp[r2]⟩ (by simp) (by simp) rfl rfl;simp only[ax,ai,a7,aI];rfl
    ·have e1:((tK n).toList==w.toList)=false:=by rw[Go.Lib.toList_data,Go.Lib.toList_data];exact beq_eq_false_iff_ne.2 t
     simp only[oD,RJ,e1];exact wK (fun h=>by cases h) (fun _ d b=>⟨e (by rw[Aj,g];simp only;rw[if_neg (fun hh=>t hh.2)]),b⟩)
 ·obtain⟨f,ver⟩:=q
  obtain⟨r1,r2⟩:=p;simp only at r1 r2;rw[cX,JX]at r1;simp only[bS,bI,dR,b7,RN,z];exact⟨.tup [dI ix,sF (f.map ay)],by simp[datum,cu,fA,Mem.row],ix,f,by rw[afN,r1],rfl⟩
def fG (line:ByteArray):En×Int:=
 if line.size>60 then(⟨0,[]⟩,3)else match AB line fmL with
  |some (a,ns)=>(⟨1+a,ns⟩,0)
  |none=>(⟨0,[]⟩,4)
def iF (line:ByteArray):Qn×Int:=match AB line amL with
 |some (a,ns)=>(⟨1+a,ns⟩,0)
 |none=>(⟨0,[]⟩,4)
def DK (k:Int)(ns:List Int)(e:Int):DV:= .tup [.agg [dI k, .slice (decide (e≠0)) (ns.map ay)],dI e]
def aci {line:ByteArray}{fm:List (ByteArray×Nat)}{a:Int}{ns:List Int}(h:AB line fm=some (a,ns)):0<=a/\a<=fm.length:=by
 unfold AB at h
 split at h
 ·rename_i b
  have c:=(Yg (vO ((mX line 32).getD 0 default) ((mX line 32).length - 1)) fm 0).2
  split at h
  ·cases h;omega
  ·cases h
 ·cases h
def aht {line:ByteArray}(n:line.size<=1000000){bs:List (Option (List PV))}{fz:List Nat}{ar:List (Option Arr)}(b:FzB ⟨bs,fz,ar⟩){xb:Nat}{j l:PV}(hx:bs[xb]?=some (some [j,l]))(f:xb∉fz):
  SC C 125 [.d (.aW [.str line]), .ptr xb 0] ⟨bs,fz,ar⟩
   (fun _ M'=>∃a ns y,AB line fmL=some (a,ns)/\M'=⟨bs.set xb (some [pI (1+a), .d (sF (ns.map ay))])++ [y],bs.length::fz,ar⟩)
   (fun d M'=>AB line fmL=none/\RS d/\∃y,M'=⟨bs++ [y],bs.length::fz,ar⟩):=by
 have c:bs.length∉fz:=fun e=>aL _ (b _ e)
 have g:xb<bs.length:=(ae.1 hx).1;have apx:∀k,xb<bs.length+k:=fun k=>by omega
 have i:¬xb=bs.length:=by omega
 refine ayH vk jq ?_;simp only[vk,jq,RN,z,F];refine ayG aff ?_;rw[afe];simp only[aQ,aV,c,U,X8,RN,z,F,I,N];refine⟨(fun h=>by cases h),?_⟩
 show SC C 126 [.d (.str line), .d (.slice true (fmL.map adt))] _ _ _
 refine afO n fmL (by decide) true (fun a ns h=> ?_) (fun h d hd=> ?_)
 ·have p:=aci h
  have m:(fmL:List (ByteArray×Nat)).length<=12:=by decide
  have o:dl .i64 (1+a)=1+a:=aF (by omega);simp only[o,bD,g,hx,bV,f,i,aq,H9,RN,z,F,N];exact⟨a,ns,_,h,rfl⟩
 ·exact⟨h,hd,_,rfl⟩
def ahB {line:ByteArray}(n:line.size<=1000000){bs:List (Option (List PV))}{fz:List Nat}{ar:List (Option Arr)}(b:FzB ⟨bs,fz,ar⟩){xb:Nat}{j l:PV}(hx:bs[xb]?=some (some [j,l]))(f:xb∉fz):
  SC C 274 [.d (.aW [.str line]), .ptr xb 0] ⟨bs,fz,ar⟩
   (fun _ M'=>∃a ns y,AB line amL=some (a,ns)/\M'=⟨bs.set xb (some [pI (1+a), .d (sF (ns.map ay))])++ [y],bs.length::fz,ar⟩)
   (fun d M'=>AB line amL=none/\RS d/\∃y,M'=⟨bs++ [y],bs.length::fz,ar⟩):=by
 have c:bs.length∉fz:=fun e=>aL _ (b _ e)
 have g:xb<bs.length:=(ae.1 hx).1;have apx:∀k,xb<bs.length+k:=fun k=>by omega
 have i:¬xb=bs.length:=by omega
 refine ayH qM jq ?_;simp only[qM,jq,RN,z,F];refine ayG aiy ?_;rw[afd];simp only[aQ,aV,c,U,X8,RN,z,F,I,N];refine⟨(fun h=>by cases h),?_⟩
 show SC C 126 [.d (.str line), .d (.slice true (amL.map adt))] _ _ _
 refine afO n amL (by decide) true (fun a ns h=> ?_) (fun h d hd=> ?_)
 ·have p:=aci h
  have m:(amL:List (ByteArray×Nat)).length<=12:=by decide
  have o:dl .i64 (1+a)=1+a:=aF (by omega);simp only[o,bD,g,hx,bV,f,i,aq,H9,RN,z,F,N];exact⟨a,ns,_,h,rfl⟩
 ·exact⟨h,hd,_,rfl⟩
def alF (line:ByteArray):Pure C 44 [.str line] (.d (DK (fG line).1.kind (fG line).1.ns (fG line).2)) []:=by
 refine ayF xP Zc ?_;simp only[xP,Zc,RN,z,F,N]
 by_cases f:line.size>60
 ·have e:decide ((line.size:Int)>60)=true:=by simp;omega
  have c:fG line=(⟨0,[]⟩,3):=by rw[fG,if_pos f]
  simp only[e,c,DK,RN,z,F,I,N]
  rfl
 ·have e:decide ((line.size:Int)>60)=false:=by simp;omega
  simp only[e,lU,b7,RN,z,F];have z0:((0:Int) !=0)=false:=rfl;have j:((4:Int) !=0)=true:=rfl;refine Rx (fs:=[]) (cs:=[.d (.aW [.str line]), .ptr 2 0]) (fun i b=>by simp at b;simp[b]) (by kernel_rfl) ?_;refine SC.jU (SC.mono (aht (line:=line) (by omega) (fun i b=>by simp at b;simp[b]) (xb:=2) rfl (by simp)) ?_) ?_
  ·rintro v g ⟨a,ns,y,h,rfl⟩
   have c:fG line=(⟨1+a,ns⟩,0):=by rw[fG,if_neg f,h]
   refine⟨rfl,by simp,?_⟩;simp only[z0,c,DK,aq,bv,RN,z,F,I,N];simp
  ·rintro d g ⟨h,hd,y,rfl⟩
   have c:fG line=(⟨0,[]⟩,4):=by rw[fG,if_neg f,h]
   refine⟨rfl,by simp,by simp, .inr ⟨hd,fun x=> ?_⟩⟩;simp only[j,c,DK,aq,bv,RN,z,F,I,N]
   rfl
def aep (line:ByteArray)(hl:line.size<=1000000):Pure C 214 [.str line] (.d (DK (iF line).1.kind (iF line).1.ns (iF line).2)) []:=by
 refine ayF tY Zc ?_;simp only[tY,Zc,lU,b7,RN,z,F];refine Rx (fs:=[]) (cs:=[.d (.aW [.str line]), .ptr 2 0]) (fun i b=>by simp at b;simp[b]) (by kernel_rfl) ?_;refine SC.jU (SC.mono (ahB (line:=line) hl (fun i b=>by simp at b;simp[b]) (xb:=2) rfl (by simp)) ?_) ?_
 ·rintro v e ⟨a,ns,y,h,rfl⟩
  have c:iF line=(⟨1+a,ns⟩,0):=by rw[iF,h]
  refine⟨rfl,by simp,?_⟩;simp only[c,DK,aq,bv,RN,F,I,N];simp
 ·rintro d e ⟨h,hd,y,rfl⟩
  have c:iF line=(⟨0,[]⟩,4):=by rw[iF,h]
  refine⟨rfl,by simp,by simp, .inr ⟨hd,fun x=> ?_⟩⟩;simp only[c,DK,aq,bv,RN,F,I,N]
  rfl
def agL:ByteArray:=⟨#[101,114,114,111,114,32]⟩
def aj3:ByteArray:=⟨#[110,111,116,101,100]⟩
def aaQ:ByteArray:=⟨#[110,111,116,104,105,110,103]⟩
def apy (n:Int):Bool:=decide (-9223372036854775808<=n)&&decide (n<=9223372036854775807)
def Dk.said (D:Dk)(line:ByteArray):Option (Dk×ByteArray):=
 if(fG line).2=0 then(if(D.enter (fG line).1).2=0 then some ((D.enter (fG line).1).1,aj3)else some ((D.enter (fG line).1).1,agL++tK (D.enter (fG line).1).2))
 else if(fG line).2=3 then some (D,agL++tK 3)
 else if(iF line).2=0 then
  (if(D.ask (iF line).1).2≠0 then some (D,agL++tK (D.ask (iF line).1).2)
  else if(D.ask (iF line).1).1=[]then some (D,aaQ)
  else if(D.ask (iF line).1).1.all apy&&decide ((D.ask (iF line).1).1.length<=1000)then some (D,Rw (D.ask (iF line).1).1)else none)
 else some (D,agL++tK (iF line).2)
def WH (D:Dk)(x:En):0<=(D.enter x).2/\(D.enter x).2<=7:=by
 unfold Dk.enter
 repeat' split
 all_goals simp
def aiV (d:Dvd)(n:Int):0<=(d.cuts n).2/\(d.cuts n).2<=7:=by
 unfold Dvd.cuts
 split
 ·split<;>simp
 ·simp
def Xn (line:ByteArray):0<=(iF line).2/\(iF line).2<=7:=by
 unfold iF;split<;>simp
def ahu (line:ByteArray):0<=(fG line).2/\(fG line).2<=7:=by
 unfold fG;split
 ·simp
 ·split<;>simp
def aie (p:Pc)(h:Int)(f:Fr)(n:Int):0<=(rG p h f n).2/\(rG p h f n).2<=7:=by
 unfold rG ad5
 repeat' split
 all_goals simp
def ZT (p:Pc)(a b h:Int)(f:Fr):0<=(p.changes a b h f).2/\(p.changes a b h f).2<=7:=by
 have pr:∀(l:List Chg) (n:Int),0<=n/\n<=7->0<=(l,n).2/\(l,n).2<=7:=fun _ _ h=>h
 unfold Pc.changes
 split
 ·split
  ·exact pr _ 0 (by decide)
  split
  ·exact pr _ 0 (by decide)
  split
  ·exact pr _ 0 (by decide)
  ·exact pr _ 5 (by decide)
 ·exact pr _ 2 (by decide)
def aj0 (D:Dk)(t:Sp)(a b c:Int):0<=(uU D t a b c).2/\(uU D t a b c).2<=7:=by
 unfold uU
 split
 ·split
  ·simp
  ·exact ZT _ _ _ _ _
 ·simp
def ail (r:List Int×Int):Prop:=0<=r.2/\r.2<=7
variable{c:Prop}
def nJ [Decidable c]{a b:List Int×Int}(d:ail a)(hb:ail b):ail (if c then a else b):=by
 by_cases h:c
 ·rw[if_pos h];exact d
 ·rw[if_neg h];exact hb
def yL (l:List Int){n:Int}(h:0<=n/\n<=7):ail (l,n):=h
def al2 [Decidable c]{a b:Int}(d:0<=a/\a<=7)(hb:0<=b/\b<=7):0<=(if c then a else b)/\(if c then a else b)<=7:=by
 by_cases h:c
 ·rw[if_pos h];exact d
 ·rw[if_neg h];exact hb
def RV (D:Dk)(t:Sp)(q:Qn):0<=(D.answer t q).2/\(D.answer t q).2<=7:=by
 refine(?_:ail (D.answer t q));unfold Dk.answer;refine nJ (yL _ (by decide)) ?_;refine nJ (yL _ (by decide)) ?_;refine nJ (yL _ (by decide)) ?_;refine nJ (yL _ (al2 (by decide) (by decide))) ?_;refine nJ (aj0 _ _ _ _ _) ?_;refine nJ (yL _ (al2 (aie _ _ _ _) (by decide))) ?_;refine nJ (yL _ (by decide)) ?_;refine nJ (yL _ (al2 ?_ (by decide))) ?_
 ·generalize vK _ _ _=o
  cases o with
  |none=>exact(by decide:(0:Int)<=5/\(5:Int)<=7)
  |some x=>exact(by decide:(0:Int)<=0/\(0:Int)<=7)
 refine nJ (yL _ (al2 (by decide) (by decide))) ?_;refine nJ (yL _ (aiV _ _)) ?_;exact nJ (yL _ (by decide)) (yL _ (by decide))
def ae4 (D:Dk)(q:Qn):0<=(D.ask q).2/\(D.ask q).2<=7:=by
 unfold Dk.ask
 split
 ·simp
 split
 ·simp
 split
 ·simp
 ·split
  ·exact RV _ _ _
  ·exact RV _ _ _
variable{D D':Dk}
def anC {line s:ByteArray}(a:D.Ok)(h:D.said line=some (D',s)):D'.Ok:=by
 unfold Dk.said at h
 repeat' split at h
 all_goals first|(cases h;done)|(cases h;first|exact aac a _|exact a)
def ahO {line s:ByteArray}(h:D.said line=some (D',s)):s.size<=30000:=by
 have e1:agL.size=6:=rfl;have e2:aj3.size=5:=rfl;have d:aaQ.size=7:=rfl;have a:∀n:Int,0<=n/\n<=7->(agL++tK n).size<=30000:=fun n c=>by
  have:=JU (n:=n) ⟨by omega,by omega⟩;rw[bo];omega
 unfold Dk.said at h
 split at h
 ·split at h
  ·cases h;omega
  ·cases h;exact a _ (WH _ _)
 split at h
 ·cases h;exact a 3 (by decide)
 split at h
 ·split at h
  ·cases h;exact a _ (ae4 _ _)
  split at h
  ·cases h;omega
  split at h
  ·rename_i b
   cases h;simp only[V,aw,decide_eq_true_eq,apy]at b;have:=Yj (ns:=(D.ask (iF line).1).1) (fun n c=>b.1 n c);omega
  ·cases h
 ·cases h;exact a _ (Xn _)
def afZ {d:Nat}{ce cs:PV}(h:oC D d ce cs M)(I:D.Ok){line s:ByteArray}(hl:line.size<=1000000)(hs:D.said line=some (D',s)){KP:DV->Mem->Prop}:
  SC C 117 [.ptr d 0, .d (.str line)] M (fun p M'=>p= .d (.str s)/\∃ce' cs',oC D' d ce' cs' M'/\FrD d ce cs ce' cs' M M'/\FzB M') KP:=by
 obtain⟨bs,fz,ar⟩:=M;have FX:∀i∈fz,i<bs.length:=h.fzb
 have Z:bs.length∉fz:=fun e=>aL _ (FX _ e)
 have ab:∀k,bs.length+k∉fz:=fun k e=>by have:=FX _ e;omega
 have ai:¬bs.length+1=bs.length:=by omega
 have J:=ahu line;have K:=Xn line;have g:∀n:Int,0<=n/\n<=7->I64 n:=fun n hn=>⟨by omega,by omega⟩
 have q:∀n:Int,0<=n/\n<=7->(tK n).size<=21:=fun n hn=>JU (g n hn)
 have e1:(⟨#[101,114,114,111,114,32]⟩:ByteArray).size=6:=rfl;refine ayH oU aJ ?_;simp only[oU,aJ,RN,z,F];refine ayG (alF line) ?_;simp only[DK,aQ,aV,Z,U,RN,z,F,N];unfold Dk.said at hs
 by_cases E:(fG line).2=0
 ·rw[if_pos E]at hs
  have L:((fG line).2==0)=true:=by simp[E]
  have hd:decide ((fG line).2≠0)=false:=by simp[E]
  have A:Frm ⟨bs,fz,ar⟩ ⟨bs++ [some [pI ((fG line).1.kind), .d (sF ((fG line).1.ns.map ay))]],bs.length::fz,ar⟩:=Frm.new (xf:=[bs.length]) (by simp);have H:=WH D (fG line).1;have hE:=Zw (h.frm A) I (fG line).1 (KP:=KP);rw[dM]at hE;simp only[L,hd,RN,z,F,N];refine SC.jU (SC.mono hE ?_) (fun _ _ h=>h);rintro p ⟨R,S,Q⟩ ⟨rfl,ce',cs',P,q2⟩;have b:=A.frD (d:=d) (ce:=ce) (cs:=cs)|>.trans q2
  by_cases t:(D.enter (fG line).1).2=0
  ·rw[if_pos t]at hs
   have u:((D.enter (fG line).1).2==0)=true:=by simp[t]
   cases hs;simp only[u,RN,z];exact⟨rfl,ce',cs',P,b,P.fzb⟩
  ·rw[if_neg t]at hs
   have u:((D.enter (fG line).1).2==0)=false:=by simp[t]
   have:=q _ H;cases hs;simp only[u,RN,z];refine ayG (Jy (g _ H)) ?_;simp only[oD,Iq];exact⟨by omega,rfl,ce',cs',P,b,P.fzb⟩
 rw[if_neg E]at hs;have L:((fG line).2==0)=false:=by simp[E]
 have hd:decide ((fG line).2≠0)=true:=by simp[E]
 have A:∀x,Frm ⟨bs,fz,ar⟩ ⟨bs++ [x],bs.length::fz,ar⟩:=fun x=>Frm.new (xf:=[bs.length]) (by simp)
 by_cases G:(fG line).2=3
 ·rw[if_pos G]at hs
  have v:((fG line).2==3)=true:=by simp[G]
  have:=q _ J;rw[<-G]at hs;cases hs;simp only[L,v,RN,z];refine ayG (Jy (g _ J)) ?_;simp only[oD,Iq];exact⟨by omega,rfl,ce,cs,h.frm (A _),(A _).frD,(A _).fzb h.fzb⟩
 rw[if_neg G]at hs;have v:((fG line).2==3)=false:=by simp[G]
 simp only[L,v,RN,z];refine ayG (aep line hl) ?_;simp only[DK,bQ,dh,ab,ai,bE,U,RN,z,F,N];have j:∀x y,Frm ⟨bs,fz,ar⟩ ⟨bs++ [x,y],(bs.length+1)::bs.length::fz,ar⟩:=fun x y=>Frm.new (xf:=[bs.length+1,bs.length]) (by simp)
 by_cases B:(iF line).2=0
 case neg=>
  rw[if_neg B]at hs;have w:((iF line).2==0)=false:=by simp[B]
  have ae:((iF line).2 !=0)=true:=by simp[B]
  have:=q _ K;cases hs;simp only[w,ae,RN,z];refine ayG (Jy (g _ K)) ?_;simp only[oD,Iq];exact⟨by omega,rfl,ce,cs,h.frm (j _ _),(j _ _).frD,(j _ _).fzb h.fzb⟩
 rw[if_pos B]at hs;have w:((iF line).2==0)=true:=by simp[B]
 have ac:decide ((iF line).2≠0)=false:=by simp[B]
 have o:=ae4 D (iF line).1;have hA:=aii (h.frm (j (some [pI ((fG line).1.kind), .d (.slice (decide ((fG line).2≠0)) ((fG line).1.ns.map ay))]) (some [pI ((iF line).1.kind), .d (sF ((iF line).1.ns.map ay))]))) I (iF line).1 (KP:=KP);rw[afa]at hA;simp only[w,ac,RN,z,F,N];refine SC.jU (SC.mono hA ?_) (fun _ _ h=>h);rintro p ⟨R,S,Q⟩ ⟨c,hp,O,am,q2⟩;have b:=(j _ _).trans q2;generalize D.ask (iF line).1=r at*;obtain⟨l,e⟩:=r;simp only at hs hp O o
 by_cases T:e=0
 case neg=>
  rw[if_pos T]at hs;have m:(e !=0)=true:=by simp[T]
  have:=q _ o;cases hs
  rcases hp with rfl|⟨rfl,rfl⟩
  ·simp only[qc,qg,m,RN,z]
   refine ayG (Jy (g _ o)) ?_;simp only[oD,Iq];exact⟨by omega,rfl,ce,cs,h.frm b,b.frD,b.fzb h.fzb⟩
  ·simp only[m,RN,z]
   refine ayG (Jy (g _ o)) ?_;simp only[oD,Iq];exact⟨by omega,rfl,ce,cs,h.frm b,b.frD,b.fzb h.fzb⟩
 subst T;have m:((0:Int) !=0)=false:=rfl;rw[if_neg (by simp)]at hs;have aqJ:(((0:Nat):Int)==0)=true:=rfl
 rcases hp with rfl|⟨rfl,rfl⟩
 case inr=>
  have f:l=[]:=by
   rcases O with⟨_,h1⟩|⟨k,ver,st,h1,_⟩
   ·exact b9.1 h1
   ·cases h1
  subst f;rw[if_pos rfl]at hs;cases hs;simp only[m,aqJ,RN,z];exact⟨rfl,ce,cs,h.frm b,b.frD,b.fzb h.fzb⟩
 simp only[qc,qg,m,Zj O,Y,RN,z]
 by_cases f:l=[]
 ·rw[if_pos f]at hs
  cases hs;simp only[f,ao,aqJ,RN,z];exact⟨rfl,ce,cs,h.frm b,b.frD,b.fzb h.fzb⟩
 rw[if_neg f]at hs;have X:((l.length:Int)==0)=false:=by cases l with|nil=>exact absurd rfl f|cons a l=>simp;omega
 split at hs
 case isFalse=>cases hs
 rename_i W
 simp only[V,aw,decide_eq_true_eq,apy]at W;cases hs
 rcases O with⟨_,h1⟩|⟨k,ver,st,rfl,h1,_⟩
 ·exact absurd (b9.1 h1) f
 simp only[X,RN,z];refine Rl h1 (by simpa only[aD]using ajL l W.2 W.1) rfl ?_;(try simp only[RN]);exact⟨ce,cs,h.frm b,b.frD,b.fzb h.fzb⟩
end Go.Tel
namespace Go.Am
section
variable {C:Ctx}{base:Nat}{M:Mem}{K:PV->Mem->Prop}{KP:DV->Mem->Prop}
variable{s:ByteArray}
def SK {k:IntKind}{n:Int}(a:0<=n)(h1:n<=s.size):au C base (.NJ false true) [.d (.str s), .d (.int k n)] M K KP=K (.d (.str (s.extract 0 n.toNat))) M:=by
 simp only[au,yB,eu,aM,cp];exact propext ⟨fun h=>h.2.2.2.2.2,fun h=>⟨trivial,trivial,cD _,a,h1,h⟩⟩
def SL {k:IntKind}{n:Int}(a:0<=n)(h1:n<=s.size):au C base (.NJ true false) [.d (.str s), .d (.int k n)] M K KP=K (.d (.str (s.extract n.toNat s.size))) M:=by
 simp only[au,yB,eu,aM,cp,av];exact propext ⟨fun h=>h.2.2.2.2.2,fun h=>⟨trivial,trivial,a,h1,cD _,h⟩⟩
end
end Go.Am
namespace Go.Tel
open Go.Am
def Zy (s:ByteArray):Pure C 212 [.str s, .int .u8 10] (pI (Go.Lib.indexByte s.data.toList 10)) []:=by
 refine qQ fun X w a d f c=> ?_
 cases c with|cons h1 t1=>
 cases t1 with|cons b t2=>
 cases t2;cases h1;cases b;refine(Go.Proofs.Any.strings_IndexByte Go.Proofs.Tryz.laysIndexB s 10 w).mono ?_;rintro e g ⟨rfl,rfl⟩;exact⟨_,rfl,Later.refl _, .int _ _⟩
def FP (s:ByteArray):Bool:=decide (1<=s.size)&&((s.extract (s.size - 1) s.size).toList==(⟨#[10]⟩:ByteArray).toList)
def dL (s:ByteArray):ByteArray:=if FP s then s.extract 0 (s.size - 1)else s
def Zi:(⟨#[10]⟩:ByteArray).size=1:=rfl
variable{s:ByteArray}
def aan (hs:s.size<=1000000):Pure C 210 [.str s, .str ⟨#[10]⟩] (.d (.bool (FP s))) []:=by
 refine ayF kQ aJ ?_;have b:dl .i64 ((s.size:Int) - ((1:Nat):Int))=(s.size:Int) - 1:=by rw[aF (by omega)];omega
 unfold FP
 by_cases h:1<=s.size
 ·have a:decide (((1:Nat):Int)<=(s.size:Int))=true:=by simp;omega
  have hd:decide (1<=s.size)=true:=by simp[h]
  have c:(0:Int)<=(s.size:Int) - 1:=by omega
  have e:(s.size:Int) - 1<=(s.size:Int):=by omega
  have f:((s.size:Int) - 1).toNat=s.size - 1:=by omega
  simp only[kQ,aJ,Zi,a,hd,b,SL c e,f,oD,RJ,bd,RN,z,F]
 ·have a:decide (((1:Nat):Int)<=(s.size:Int))=false:=by simp;omega
  have hd:decide (1<=s.size)=false:=by simp[h]
  simp only[kQ,aJ,Zi,a,hd,ca,RN,z,F]
def ajs (hs:s.size<=1000000):Pure C 115 [.str s, .str ⟨#[10]⟩] (.d (.bool (FP s))) []:=by
 refine ayF wY aJ ?_;simp only[wY,aJ,RN,z,F];refine ayG (aan hs) ?_;(try simp only[])
def ah4 (hs:s.size<=1000000):Pure C 215 [.str s, .str ⟨#[10]⟩] (.d (.str (dL s))) []:=by
 refine ayF pF aJ ?_;simp only[pF,aJ,RN,z,F];refine ayG (aan hs) ?_;have a:dl .i64 ((s.size:Int) - ((1:Nat):Int))=(s.size:Int) - 1:=by rw[aF (by omega)];omega
 unfold dL;cases h:FP s
 ·(try simp only[RN,z])
  simp
 ·have:1<=s.size:=by unfold FP at h;simp only[V,decide_eq_true_eq]at h;exact h.1
  have b:(0:Int)<=(s.size:Int) - 1:=by omega
  have c:(s.size:Int) - 1<=(s.size:Int):=by omega
  have e:((s.size:Int) - 1).toNat=s.size - 1:=by omega
  simp only[Zi,a,SK b c,e,RN,z];simp
def ah3 (hs:s.size<=1000000):Pure C 118 [.str s, .str ⟨#[10]⟩] (.d (.str (dL s))) []:=by
 refine ayF vG aJ ?_;simp only[vG,aJ,RN,z,F];refine ayG (ah4 hs) ?_;(try simp only[])
def yQ:List UInt8->List (List UInt8)
 | []=>[]
 |b::l=>if b==10 then[b]::yQ l else match yQ l with| []=>[[b]]|x::a=>(b::x)::a
def TG:∀(l:List UInt8),(Go.Lib.indexByte l 10= -1/\(l=[]\/yQ l=[l]))\/∃i:Nat,Go.Lib.indexByte l 10=(i:Int)/\i<l.length/\yQ l=l.take (i+1)::yQ (l.drop (i+1))
 | []=> .inl ⟨rfl, .inl rfl⟩
 |b::l=>by
  rw[Go.Lib.indexByte,yQ]
  by_cases a:(b==10)=true
  ·rw[if_pos a,if_pos a]
   exact .inr ⟨0,rfl,by simp,rfl⟩
  rw[if_neg a,if_neg a]
  rcases TG l with⟨h1,h2⟩|⟨i,h1,h2,c⟩
  ·refine .inl ⟨by simp[h1], .inr ?_⟩
   rcases h2 with rfl|h2
   ·rfl
   ·rw[h2]
  ·refine .inr ⟨i+1,?_,by simpa using h2,by rw[c];simp⟩
   rw[if_neg (by rw[h1];simp),h1];omega
def jw (s:ByteArray):List ByteArray:=(yQ s.data.toList).map fun l=>⟨l.toArray⟩
def ru (s:ByteArray):List DV:=[.str s]
def adP (s:ByteArray)(hs:0<s.size):(Go.Lib.indexByte s.data.toList 10= -1/\jw s=[s])\/∃i:Nat,Go.Lib.indexByte s.data.toList 10=(i:Int)/\i<s.size/\jw s=s.extract 0 (i+1)::jw (s.extract (i+1) s.size):=by
 have a:s.data.toList.length=s.size:=be
 rcases TG s.data.toList with⟨h1,h2⟩|⟨i,h1,h2,b⟩
 ·refine .inl ⟨h1,?_⟩
  rcases h2 with h2|h2
  ·rw[h2]at a;simp at a;omega
  ·unfold jw;rw[h2];simp
 ·refine .inr ⟨i,h1,by omega,?_⟩
  unfold jw;rw[b,ai];have e1:(s.extract 0 (i+1)).data.toList=s.data.toList.take (i+1):=by simp[cq]
  have e2:(s.extract (i+1) s.size).data.toList=s.data.toList.drop (i+1):=by
   simp only[cq,Array.toList_extract,List.extract_eq_take_drop,<-a];rw[cv (by simp)]
  rw[e2,<-e1]
def aoi (s:ByteArray)(c:Nat)(M:Mem):Prop:=M.boxes[c]?=some (some [.d (.str s)])/\c∉M.fz
def acC (s:ByteArray)(c:Nat)(hs:s.size<=1000000):Wp C 211 [] [.ptr c 0] ((jw s).map ru) (·=c) (·=c) no (aoi s c):=by
 rintro⟨bs,fz,ar⟩ b n R stop K KP ab ac Z D O M lK y f B;simp only at Z D;obtain⟨Y,A⟩:=O;simp only at Y A;refine ayH zo jq ?_;simp only[zo,jq,RN,F];refine zu (fun m st=>∃(t:ByteArray) (a:List (List DV)) (x:Mem) (U:List (Nat×PV)),m=t.size/\t.size<=s.size/\st=⟨(0, .oP b)::(1, .ptr c 0)::U,x⟩/\n<=x.boxes.length/\FzB x/\aoi t c x/\(jw s).map ru=a++(jw t).map ru/\R a x)
  s.size ⟨s,[],_,[],rfl,a8 _,rfl,Z,D,⟨Y,A⟩,rfl,y⟩ ?_
 rintro m st ⟨t,a,⟨g,r,q⟩,U,rfl,ht,rfl,u,E,⟨e,amu⟩,k,X⟩;simp only at u e amu;have j:c<g.length:=(ae.1 e).1
 by_cases y:0<t.size
 case neg=>
  have I:decide ((t.size:Int)>0)=false:=decide_eq_false (by omega);simp only[e,I,RN,z,N];refine B _ _ u ?_;have:t.data.toList=[]:=List.length_eq_zero_iff.1 (by have:t.data.toList.length=t.size:=be;omega);have e0:jw t=[]:=by unfold jw;rw[this];rfl
  rw[k,e0,a7,bk];exact X
 have I:decide ((t.size:Int)>0)=true:=decide_eq_true (by omega);have afh:∀(l o:ByteArray),jw t=l::jw o->o.size<t.size->SY C b [.d (.str l)] ⟨g.set c (some [.d (.str o)]),r,q⟩
   (fun p w=>n<=w.boxes.length/\FzB w/\aoi o c w/\((p= .d (.bool true)/\(jw s).map ru=(a++ [ru l])++(jw o).map ru/\R (a++ [ru l]) w)\/(p= .d (.bool false)/\stop w))) KP:=by
  intro l o hl ai;have arS:Moved n (·=c) ⟨g,r,q⟩ ⟨g.set c (some [.d (.str o)]),r,q⟩:=Moved.set (.inr rfl);have an5:(jw s).map ru=a++ru l::(jw o).map ru:=by rw[k,hl];rfl
  refine SY.mono (lK a (ru l) _ _ an5 (by simpa using u) (M a _ _ arS X)) ?_;rintro p G ⟨H,hp⟩;have L:=H.len;simp only[cA]at L;refine⟨by omega,H.fzb E.set,⟨?_,?_⟩,?_⟩
  ·rw[H.box c (.inr rfl) (by simpa using j)];simp[j]
  ·exact fun h=>amu ((H.fz c (.inr rfl) (by simpa using j)).1 h)
  ·rcases hp with⟨rfl,h⟩|h
   ·exact .inl ⟨rfl,by rw[an5,bE];rfl,h⟩
   ·exact .inr h
 simp only[e,I,RN,z,N];refine ayG (Zy t) ?_
 rcases adP t y with⟨V,W⟩|⟨i,V,W,g3⟩
 ·have J:decide (Go.Lib.indexByte t.data.toList 10>=0)=false:=decide_eq_false (by omega)
  simp only[e,J,amu,RN,z,N];refine BI ?_;refine SY.mono (afh t ⟨#[]⟩ (by rw[W];rfl) y) ?_;rintro p G ⟨P,Q,S,⟨rfl,v,T⟩|⟨rfl,v⟩⟩
  ·(try simp only[RN,z])
   exact⟨0,_,y, .inl rfl,⟨#[]⟩,_,G,_,rfl,bc _,rfl,P,Q,S,v,T⟩
  ·(try simp only[RN,z])
   exact f _ _ v
 ·have J:decide ((i:Int)>=0)=true:=decide_eq_true (by omega)
  have w1:dl .i64 ((i:Int)+1)=(i:Int)+1:=by rw[aF (by omega)]
  have x1:(0:Int)<=(i:Int)+1:=by omega
  have x2:(i:Int)+1<=(t.size:Int):=by omega
  have x3:((i:Int)+1).toNat=i+1:=by omega
  have x4:(t.extract (i+1) t.size).size<t.size:=by simp;omega
  rw[V];simp only[e,j,J,amu,w1,SK x1 x2,SL x1 x2,x3,RN,z,N];refine BI ?_;refine SY.mono (afh _ _ g3 x4) ?_;rintro p G ⟨P,Q,S,⟨rfl,v,T⟩|⟨rfl,v⟩⟩
  ·(try simp only[RN,z])
   exact⟨_,_,x4, .inl rfl,_,_,G,_,rfl,by omega,rfl,P,Q,S,v,T⟩
  ·(try simp only[RN,z])
   exact f _ _ v
def ain (s:ByteArray){bs:List (Option (List PV))}{fz:List Nat}{ar:List (Option Arr)}{KP:DV->Mem->Prop}:
  SC C 116 [.d (.str s)] ⟨bs,fz,ar⟩ (fun p M'=>p= .func (.func 211) [] [.ptr bs.length 0]/\M'=⟨bs++ [some [.d (.str s)]],fz,ar⟩) KP:=by
 refine ayH CQ aK ?_;simp only[CQ,aK,aQ,aV,lU,RN,z]
def nlB:ByteArray:=⟨#[10]⟩
def Aa:Dk->List ByteArray->ByteArray->Option (Dk×ByteArray)
 |D,[],out=>some (D,out)
 |D,l::ls,out=>match D.said (dL l)with|none=>none|some q=>Aa q.1 ls (out++(q.2++nlB))
def N7:∀(l1 l2:List ByteArray) (D:Dk) (out:ByteArray),Aa D (l1++l2) out=match Aa D l1 out with|none=>none|some q=>Aa q.1 l2 q.2
 | [],l2,D,out=>rfl
 |l::ls,l2,D,out=>by
  rw[bu,Aa,Aa];cases D.said (dL l)with
  |none=>rfl
  |some q=>exact N7 ls l2 _ _
variable{M:Mem}
def FrD.kept {d n c:Nat}{ce cs ce' cs':PV}{M':Mem}(h:FrD d ce cs ce' cs' M M')(hf:FzB M->FzB M')(hd:d<n)(hc:d≠c):Kept n (·=c) no M M':=
 ⟨h.len,h.bH,fun i a b=>h.box i b (fun e=>a.elim (fun a=>by omega) fun a=>hc (by rw[<-e];exact a)),fun i _ b=>h.fz i b,fun _ h=>h.elim,hf⟩
def adQ (s:ByteArray):(jw s).length<=s.size:=by
 have:∀l:List UInt8,(yQ l).length<=l.length:=by
  intro l
  induction l with
  |nil=>exact a8 _
  |cons b l a=>
   rw[yQ]
   split
   ·simpa using a
   ·split
    ·simp
    ·rename_i h;rw[h]at a;simp at a⊢;omega
 unfold jw;rw[Y];have h1:=this s.data.toList;have:s.data.toList.length=s.size:=be;omega
def DL:∀(l:List UInt8) (x:List UInt8),x∈yQ l->x.length<=l.length
 | [],x,h=>by cases h
 |b::l,x,h=>by
  rw[yQ]at h
  split at h
  ·rcases aq.1 h with rfl|h
   ·simp
   ·have:=DL l x h;simp;omega
  ·split at h
   ·simp at h;subst h;simp
   ·rename_i y c a
    rcases aq.1 h with rfl|h
    ·have:=DL l y (by rw[a];simp);simp;omega
    ·have:=DL l x (by rw[a];simp[h]);simp;omega
def adR {x:ByteArray}(h:x∈jw s):x.size<=s.size:=by
 simp only[jw,aE]at h;obtain⟨l,a,rfl⟩:=h;have:=DL _ _ a;have e:s.data.toList.length=s.size:=be;simp only[c9,cT]at e⊢;rw[<-e];exact this
def ZV (s:ByteArray):(dL s).size<=s.size:=by
 unfold dL
 split
 ·simp
 ·exact a8 _
def alE (s:Su)(a:ByteArray)(pre:List (List DV))(b:Mem):Prop:=
 ∃ls e D c cs o,jw a=ls++e/\pre=ls.map ru/\Aa ⟨s,[],[]⟩ ls ⟨#[]⟩=some (D,o)/\oC D 4 c cs b/\D.Ok/\b.boxes[1]?=some (some [.ptr 4 0])/\b.boxes[5]?=some (some [.d (.str o)])/\5∉b.fz/\o.size<=30001*ls.length
def alE.moved {s:Su}{a:ByteArray}{pre:List (List DV)}{d f:Mem}{n:Nat}(h:alE s a pre d)(r:6<=n)(b:Moved n (·=6) d f):alE s a pre f:=by
 obtain⟨ls,q,D,g,cs,o,h1,h2,i,c,j,k,l,m,p⟩:=h;refine⟨ls,q,D,g,cs,o,h1,h2,i,?_,j,(b.box 1 (by omega) (by simp)).trans k,(b.box 5 (by omega) (by simp)).trans l,fun e=>m ((b.fz 5 (by omega) (by simp)).1 e),p⟩;exact⟨⟨(b.box 4 (by omega) (by simp)).trans c.box,by rw[b.aB];exact c.ent,by rw[b.aB];exact c.str⟩,c.dif,fun e=>c.nb ((b.fz 4 (by omega) (by simp)).1 e),b.fzb c.fzb⟩
def afU (s:Su)(hs:s.Small)(M:s.ok=true){a out:ByteArray}(hl:a.size<=1500)(K:(a.toList==(⟨#[]⟩:ByteArray).toList||FP a)=true){D':Dk}(b:Aa ⟨s,[],[]⟩ (jw a) ⟨#[]⟩=some (D',out)):
  Pure C 40 [s.dv, .str a] (.d (.tup [.str out,dI 0])) []:=by
 refine ayF vg dY ?_;rw[gU];simp only[vg,dY,RN,z,F,N];have hO:=fun X KP=>ae0 s hs [X,none] [0] [] KP (by simp)
 rw[gU]at hO;refine SC.jU (SC.mono (hO _ (fun _ _=>False)) ?_) (fun _ _ h=>h);rintro p M' (⟨h,_⟩|⟨_,rfl,x1,x2,rfl⟩)
 ·rw[M]at h;cases h
 have z1:((0:Int) !=0)=false:=rfl;have z2:decide ((a.size:Int)>1500)=false:=decide_eq_false (by omega);simp only[qc,qg,lu,z1,z2,oD,Zm,mD,wu,RN,z,F,I,N];have arV:(a.toList==(⟨#[]⟩:ByteArray).toList)=false->FP a=true:=fun h=>by rw[h]at K;exact K
 cases az:(a.toList==(⟨#[]⟩:ByteArray).toList)
 all_goals first
  |(simp only[RN,z,F,I,N];refine ak rfl rfl (ajs (by omega)) ?_;rw[arV az])
  |skip
 all_goals simp only[lu,RN,z,F,I,N]
 all_goals refine SC.jU (SC.mono (ain a (KP:=fun _ _=>False)) ?_) (fun _ _ h=>h)
 all_goals rintro p M' ⟨rfl,rfl⟩
 all_goals(try simp only[RN,F])
 all_goals(
  refine rD (acC a 6 (by omega)) (fun _ h=>h) rfl (by kernel_rfl) (fun i B=>by simp at B;simp;omega) (fun x t=>by obtain⟨y,_,rfl⟩:=aE.1 t;rfl) (fun i B=>by subst B;simp) (fun M' T=>⟨(T.box 6 (by simp) id).trans rfl,fun e=>by have:=(T.fz 6 (by simp) id).1 e;simp at this⟩)
   (alE s a) (fun aD M1 M2 T h=>h.moved (by simp) T) ⟨[],jw a,⟨s,[],[]⟩,_,_,_,rfl,rfl,rfl,⟨⟨rfl, .inl ⟨rfl,rfl⟩, .inl ⟨rfl,rfl⟩⟩,(by intro k hk;cases hk),by simp,by intro i B;simp at B;simp;omega⟩,⟨M,rfl,bc _,fun x h=>(by cases h),fun x h=>(by cases h)⟩,rfl,rfl,by simp,bc _⟩ ?_ ?_
  ·rintro L cells aD x aL ⟨g,ae,Z⟩ t r l G ⟨ls,V,D,ce,cs,o,h1,h2,R,h4,h5,w,n,S,h9⟩ M0
   simp only[W,ao]at r l G w n S⊢;obtain⟨y,f,rfl,rfl⟩:∃y f,V=y::f/\x=ru y:=by
    rw[h1,h2,ax]at t;have t:=bB t;cases V with
    |nil=>cases t
    |cons y f=>exact⟨y,f,rfl,(List.cons.inj t).1.symm⟩
   rw[h1,N7,R]at b;simp only[Aa]at b;cases c:D.said (dL y)with
   |none=>rw[c]at b;cases b
   |some q=>
   obtain⟨D2,Y⟩:=q;have hy:y.size<=a.size:=adR (by rw[h1];simp);have E:=adQ a;rw[h1]at E;simp only[U,W]at E;have a0:=ZV y;have aR:=ahO c;have j:5<g.length:=by omega
   have v:1<g.length:=by omega
   simp only[ru,cj,ck,ai,a7,w,n,v,RN,z,F,N];refine ak rfl rfl (ah3 (by omega)) ?_;(try simp only[RN,z,F,H,I,J,N]);refine alQ n (by simp) ?_;refine SC.jU (SC.mono (afZ h4 h5 (by omega) c (KP:=fun _ _=>False)) ?_) (fun _ _ h=>h.elim);rintro p ⟨u,am,aM⟩ ⟨rfl,ab,ac,Q,m,q3⟩;have aq:u[5]?=some (some [.d (.str o)]):=(m.box 5 j (by decide)).trans n;have av:=m.len;simp only at av;have aqk:5<u.length:=by omega
   have A:¬5∈am:=fun e=>S ((m.fz 5 j).1 e)
   refine⟨m.box 5 j (by decide),?_⟩;have O:Y.size+nlB.size<=9223372036854775807:=by have:nlB.size=1:=rfl;omega
   have P:o.size+(Y++nlB).size<=9223372036854775807:=by have:nlB.size=1:=rfl;rw[bo];omega
   rw[nlB]at O P;simp only[oD,Iq,O,P,aq,A,wz,RN,F,N];refine⟨by rw[ap (by decide)];exact(m.box 7 (by simp only;omega) (by decide)).trans l,fun e=>G ((m.fz 7 (by simp only;omega)).1 e),(FrD.kept m (fun _=>q3) (by decide) (by decide)).set2 (by decide) (by decide),ls++ [y],f,D2,ab,ac,o++(Y++nlB),by rw[h1];simp,by rw[h2];simp[ru],?_,
    ⟨⟨by simp only;rw[ap (by decide)];exact Q.box,Q.ent,Q.str⟩,Q.dif,Q.nb,q3.set⟩,anC h5 c,?_,by simp[aqk];rfl,A,?_⟩
   ·rw[N7,R]
    simp only[Aa,c]
   ·simp only;rw[ap (by decide)];exact(m.box 1 v (by decide)).trans w
   ·have:nlB.size=1:=rfl
    simp only[bo,U,W,ao];omega
  ·rintro⟨g,ae,Z⟩ ⟨ls,V,D,ce,cs,o,h1,h2,R,h4,h5,w,n,S,h9⟩ r
   simp only[W,ao]at r w n S;have aw:V=[]:=by
    have:=congrArg br h2;rw[h1]at this;simp at this;exact this
   subst aw;rw[h1,bk,R]at b;cases b;have j:5<g.length:=by omega
   simp only[n,RN,z,N])
def aU:Su:=⟨⟨[⟨0,⟨10,20⟩⟩,⟨1,⟨12,18⟩⟩,⟨1,⟨15,10⟩⟩],[2,3]⟩,[⟨1,3⟩,⟨1499,2000⟩],100,⟨40,[15,21,27]⟩,⟨0,[4]⟩,⟨59,2,0⟩,[⟨true,0,0,0⟩,⟨false,1,6,0⟩],1,3,6,4,10⟩
def Zf:ByteArray:=⟨#[104,97,110,100,115,10,111,114,100,101,114,32,48,32,50,32,53,10,111,114,100,101,114,32,48,32,49,32,50,10,110,101,101,100,32,48,32,49,48,32,50,48,10,110,101,101,100,32,49,32,49,48,32,50,48,10,99,104,97,110,103,101,32,49,32,49,50,32,49,53,10,99,117,116,32,51,55,10,99,117,116,32,49,53,10,115,116,111,99,107,10,99,104,97,110,103,101,32,49,32,49,50,32,49,53,10,115,116,111,99,107,10,112,114,105,99,101,32,48,10,115,101,114,118,101,32,48,32,53,54,10,115,101,114,118,101,32,48,32,53,55,10,111,112,101,110,10,99,111,105,110,115,10,111,102,102,32,49,32,57,10,111,102,102,32,49,32,49,48,10,119,114,111,110,103,10,115,101,116,32,54,10,115,101,116,32,57,10,115,101,116,32,56,10,115,101,116,32,56,10,119,111,114,107,115,32,57,10,100,97,116,101,32,52,48,10,119,114,111,110,103,10,99,117,116,115,32,51,54,10,115,116,114,105,107,101,32,49,10,115,116,114,105,107,101,32,52,10,115,116,114,105,107,101,32,51,10,99,111,105,110,115,10,111,112,101,110,10,115,116,97,110,100,115,10,115,116,114,105,107,101,32,48,10,115,116,114,105,107,101,32,57,10,115,101,114,118,101,32,48,10]⟩
def KT:ByteArray:=⟨#[49,32,51,32,51,32,52,10,110,111,116,101,100,10,101,114,114,111,114,32,55,10,49,32,49,50,32,49,53,10,101,114,114,111,114,32,55,10,101,114,114,111,114,32,55,10,101,114,114,111,114,32,55,10,110,111,116,101,100,10,49,53,10,110,111,116,101,100,10,49,56,10,53,55,10,101,114,114,111,114,32,55,10,110,111,116,101,100,10,110,111,116,104,105,110,103,10,53,55,10,57,55,10,49,48,56,10,51,53,54,10,101,114,114,111,114,32,55,10,101,114,114,111,114,32,55,10,110,111,116,101,100,10,101,114,114,111,114,32,55,10,49,48,10,50,32,57,10,51,52,56,10,50,32,49,32,51,10,101,114,114,111,114,32,55,10,110,111,116,101,100,10,110,111,116,101,100,10,48,10,48,32,50,32,53,10,48,32,49,32,50,10,101,114,114,111,114,32,55,10,101,114,114,111,114,32,50,10,101,114,114,111,114,32,52,10]⟩
def bf {D D':Dk}{l a out:ByteArray}{ls:List ByteArray}{r:Option (Dk×ByteArray)}(h:D.said (dL l)=some (D',a))(b:Aa D' ls (out++(a++nlB))=r):Aa D (l::ls) out=r:=by
 rw[Aa,h];exact b
def amM:jw Zf=[⟨#[104,97,110,100,115,10]⟩,⟨#[111,114,100,101,114,32,48,32,50,32,53,10]⟩,⟨#[111,114,100,101,114,32,48,32,49,32,50,10]⟩,⟨#[110,101,101,100,32,48,32,49,48,32,50,48,10]⟩,⟨#[110,101,101,100,32,49,32,49,48,32,50,48,10]⟩,⟨#[99,104,97,110,103,101,32,49,32,49,50,32,49,53,10]⟩,⟨#[99,117,116,32,51,55,10]⟩,⟨#[99,117,116,32,49,53,10]⟩,⟨#[115,116,111,99,107,10]⟩,⟨#[99,104,97,110,103,101,32,49,32,49,50,32,49,53,10]⟩,⟨#[115,116,111,99,107,10]⟩,⟨#[112,114,105,99,101,32,48,10]⟩,⟨#[115,101,114,118,101,32,48,32,53,54,10]⟩,⟨#[115,101,114,118,101,32,48,32,53,55,10]⟩,⟨#[111,112,101,110,10]⟩,⟨#[99,111,105,110,115,10]⟩,⟨#[111,102,102,32,49,32,57,10]⟩,⟨#[111,102,102,32,49,32,49,48,10]⟩,⟨#[119,114,111,110,103,10]⟩,⟨#[115,101,116,32,54,10]⟩,⟨#[115,101,116,32,57,10]⟩,⟨#[115,101,116,32,56,10]⟩,⟨#[115,101,116,32,56,10]⟩,⟨#[119,111,114,107,115,32,57,10]⟩,⟨#[100,97,116,101,32,52,48,10]⟩,⟨#[119,114,111,110,103,10]⟩,⟨#[99,117,116,115,32,51,54,10]⟩,⟨#[115,116,114,105,107,101,32,49,10]⟩,⟨#[115,116,114,105,107,101,32,52,10]⟩,⟨#[115,116,114,105,107,101,32,51,10]⟩,⟨#[99,111,105,110,115,10]⟩,⟨#[111,112,101,110,10]⟩,⟨#[115,116,97,110,100,115,10]⟩,⟨#[115,116,114,105,107,101,32,48,10]⟩,⟨#[115,116,114,105,107,101,32,57,10]⟩,⟨#[115,101,114,118,101,32,48,10]⟩]:=by kernel_rfl
def k_1:Dk.said ⟨aU,[],[]⟩ (dL ⟨#[104,97,110,100,115,10]⟩)=some (⟨aU,[],[]⟩,⟨#[49,32,51,32,51,32,52]⟩):=by kernel_rfl
def k_2:Dk.said ⟨aU,[],[]⟩ (dL ⟨#[111,114,100,101,114,32,48,32,50,32,53,10]⟩)=some (⟨aU,[⟨3,[0,2,5]⟩],[false]⟩,⟨#[110,111,116,101,100]⟩):=by kernel_rfl
def k_3:Dk.said ⟨aU,[⟨3,[0,2,5]⟩],[false]⟩ (dL ⟨#[111,114,100,101,114,32,48,32,49,32,50,10]⟩)=some (⟨aU,[⟨3,[0,2,5]⟩],[false]⟩,⟨#[101,114,114,111,114,32,55]⟩):=by kernel_rfl
def k_4:Dk.said ⟨aU,[⟨3,[0,2,5]⟩],[false]⟩ (dL ⟨#[110,101,101,100,32,48,32,49,48,32,50,48,10]⟩)=some (⟨aU,[⟨3,[0,2,5]⟩],[false]⟩,⟨#[49,32,49,50,32,49,53]⟩):=by kernel_rfl
def k_5:Dk.said ⟨aU,[⟨3,[0,2,5]⟩],[false]⟩ (dL ⟨#[110,101,101,100,32,49,32,49,48,32,50,48,10]⟩)=some (⟨aU,[⟨3,[0,2,5]⟩],[false]⟩,⟨#[101,114,114,111,114,32,55]⟩):=by kernel_rfl
def k_6:Dk.said ⟨aU,[⟨3,[0,2,5]⟩],[false]⟩ (dL ⟨#[99,104,97,110,103,101,32,49,32,49,50,32,49,53,10]⟩)=some (⟨aU,[⟨3,[0,2,5]⟩],[false]⟩,⟨#[101,114,114,111,114,32,55]⟩):=by kernel_rfl
def k_7:Dk.said ⟨aU,[⟨3,[0,2,5]⟩],[false]⟩ (dL ⟨#[99,117,116,32,51,55,10]⟩)=some (⟨aU,[⟨3,[0,2,5]⟩],[false]⟩,⟨#[101,114,114,111,114,32,55]⟩):=by kernel_rfl
def k_8:Dk.said ⟨aU,[⟨3,[0,2,5]⟩],[false]⟩ (dL ⟨#[99,117,116,32,49,53,10]⟩)=some (⟨aU,[⟨3,[0,2,5]⟩,⟨1,[15]⟩],[false,false]⟩,⟨#[110,111,116,101,100]⟩):=by kernel_rfl
def k_9:Dk.said ⟨aU,[⟨3,[0,2,5]⟩,⟨1,[15]⟩],[false,false]⟩ (dL ⟨#[115,116,111,99,107,10]⟩)=some (⟨aU,[⟨3,[0,2,5]⟩,⟨1,[15]⟩],[false,false]⟩,⟨#[49,53]⟩):=by kernel_rfl
def asb:Dk.said ⟨aU,[⟨3,[0,2,5]⟩,⟨1,[15]⟩],[false,false]⟩ (dL ⟨#[99,104,97,110,103,101,32,49,32,49,50,32,49,53,10]⟩)=some (⟨aU,[⟨3,[0,2,5]⟩,⟨1,[15]⟩,⟨2,[1,12,15]⟩],[false,false,false]⟩,⟨#[110,111,116,101,100]⟩):=by kernel_rfl
def asc:Dk.said ⟨aU,[⟨3,[0,2,5]⟩,⟨1,[15]⟩,⟨2,[1,12,15]⟩],[false,false,false]⟩ (dL ⟨#[115,116,111,99,107,10]⟩)=some (⟨aU,[⟨3,[0,2,5]⟩,⟨1,[15]⟩,⟨2,[1,12,15]⟩],[false,false,false]⟩,⟨#[49,56]⟩):=by kernel_rfl
def ase:Dk.said ⟨aU,[⟨3,[0,2,5]⟩,⟨1,[15]⟩,⟨2,[1,12,15]⟩],[false,false,false]⟩ (dL ⟨#[112,114,105,99,101,32,48,10]⟩)=some (⟨aU,[⟨3,[0,2,5]⟩,⟨1,[15]⟩,⟨2,[1,12,15]⟩],[false,false,false]⟩,⟨#[53,55]⟩):=by kernel_rfl
def asf:Dk.said ⟨aU,[⟨3,[0,2,5]⟩,⟨1,[15]⟩,⟨2,[1,12,15]⟩],[false,false,false]⟩ (dL ⟨#[115,101,114,118,101,32,48,32,53,54,10]⟩)=some (⟨aU,[⟨3,[0,2,5]⟩,⟨1,[15]⟩,⟨2,[1,12,15]⟩],[false,false,false]⟩,⟨#[101,114,114,111,114,32,55]⟩):=by kernel_rfl
def ash:Dk.said ⟨aU,[⟨3,[0,2,5]⟩,⟨1,[15]⟩,⟨2,[1,12,15]⟩],[false,false,false]⟩ (dL ⟨#[115,101,114,118,101,32,48,32,53,55,10]⟩)=some (⟨aU,[⟨3,[0,2,5]⟩,⟨1,[15]⟩,⟨2,[1,12,15]⟩,⟨4,[0,57]⟩],[false,false,false,false]⟩,⟨#[110,111,116,101,100]⟩):=by kernel_rfl
def asi:Dk.said ⟨aU,[⟨3,[0,2,5]⟩,⟨1,[15]⟩,⟨2,[1,12,15]⟩,⟨4,[0,57]⟩],[false,false,false,false]⟩ (dL ⟨#[111,112,101,110,10]⟩)=some (⟨aU,[⟨3,[0,2,5]⟩,⟨1,[15]⟩,⟨2,[1,12,15]⟩,⟨4,[0,57]⟩],[false,false,false,false]⟩,⟨#[110,111,116,104,105,110,103]⟩):=by kernel_rfl
def asj:Dk.said ⟨aU,[⟨3,[0,2,5]⟩,⟨1,[15]⟩,⟨2,[1,12,15]⟩,⟨4,[0,57]⟩],[false,false,false,false]⟩ (dL ⟨#[99,111,105,110,115,10]⟩)=some (⟨aU,[⟨3,[0,2,5]⟩,⟨1,[15]⟩,⟨2,[1,12,15]⟩,⟨4,[0,57]⟩],[false,false,false,false]⟩,⟨#[53,55]⟩):=by kernel_rfl
def asl:Dk.said ⟨aU,[⟨3,[0,2,5]⟩,⟨1,[15]⟩,⟨2,[1,12,15]⟩,⟨4,[0,57]⟩],[false,false,false,false]⟩ (dL ⟨#[111,102,102,32,49,32,57,10]⟩)=some (⟨aU,[⟨3,[0,2,5]⟩,⟨1,[15]⟩,⟨2,[1,12,15]⟩,⟨4,[0,57]⟩],[false,false,false,false]⟩,⟨#[57,55]⟩):=by kernel_rfl
def asn:Dk.said ⟨aU,[⟨3,[0,2,5]⟩,⟨1,[15]⟩,⟨2,[1,12,15]⟩,⟨4,[0,57]⟩],[false,false,false,false]⟩ (dL ⟨#[111,102,102,32,49,32,49,48,10]⟩)=some (⟨aU,[⟨3,[0,2,5]⟩,⟨1,[15]⟩,⟨2,[1,12,15]⟩,⟨4,[0,57]⟩],[false,false,false,false]⟩,⟨#[49,48,56]⟩):=by kernel_rfl
def aso:Dk.said ⟨aU,[⟨3,[0,2,5]⟩,⟨1,[15]⟩,⟨2,[1,12,15]⟩,⟨4,[0,57]⟩],[false,false,false,false]⟩ (dL ⟨#[119,114,111,110,103,10]⟩)=some (⟨aU,[⟨3,[0,2,5]⟩,⟨1,[15]⟩,⟨2,[1,12,15]⟩,⟨4,[0,57]⟩],[false,false,false,false]⟩,⟨#[51,53,54]⟩):=by kernel_rfl
def asq:Dk.said ⟨aU,[⟨3,[0,2,5]⟩,⟨1,[15]⟩,⟨2,[1,12,15]⟩,⟨4,[0,57]⟩],[false,false,false,false]⟩ (dL ⟨#[115,101,116,32,54,10]⟩)=some (⟨aU,[⟨3,[0,2,5]⟩,⟨1,[15]⟩,⟨2,[1,12,15]⟩,⟨4,[0,57]⟩],[false,false,false,false]⟩,⟨#[101,114,114,111,114,32,55]⟩):=by kernel_rfl
def asr:Dk.said ⟨aU,[⟨3,[0,2,5]⟩,⟨1,[15]⟩,⟨2,[1,12,15]⟩,⟨4,[0,57]⟩],[false,false,false,false]⟩ (dL ⟨#[115,101,116,32,57,10]⟩)=some (⟨aU,[⟨3,[0,2,5]⟩,⟨1,[15]⟩,⟨2,[1,12,15]⟩,⟨4,[0,57]⟩],[false,false,false,false]⟩,⟨#[101,114,114,111,114,32,55]⟩):=by kernel_rfl
def asu:Dk.said ⟨aU,[⟨3,[0,2,5]⟩,⟨1,[15]⟩,⟨2,[1,12,15]⟩,⟨4,[0,57]⟩],[false,false,false,false]⟩ (dL ⟨#[115,101,116,32,56,10]⟩)=some (⟨aU,[⟨3,[0,2,5]⟩,⟨1,[15]⟩,⟨2,[1,12,15]⟩,⟨4,[0,57]⟩,⟨5,[8]⟩],[false,false,false,false,false]⟩,⟨#[110,111,116,101,100]⟩):=by kernel_rfl
def asv:Dk.said ⟨aU,[⟨3,[0,2,5]⟩,⟨1,[15]⟩,⟨2,[1,12,15]⟩,⟨4,[0,57]⟩,⟨5,[8]⟩],[false,false,false,false,false]⟩ (dL ⟨#[115,101,116,32,56,10]⟩)=some (⟨aU,[⟨3,[0,2,5]⟩,⟨1,[15]⟩,⟨2,[1,12,15]⟩,⟨4,[0,57]⟩,⟨5,[8]⟩],[false,false,false,false,false]⟩,⟨#[101,114,114,111,114,32,55]⟩):=by kernel_rfl
def asw:Dk.said ⟨aU,[⟨3,[0,2,5]⟩,⟨1,[15]⟩,⟨2,[1,12,15]⟩,⟨4,[0,57]⟩,⟨5,[8]⟩],[false,false,false,false,false]⟩ (dL ⟨#[119,111,114,107,115,32,57,10]⟩)=some (⟨aU,[⟨3,[0,2,5]⟩,⟨1,[15]⟩,⟨2,[1,12,15]⟩,⟨4,[0,57]⟩,⟨5,[8]⟩],[false,false,false,false,false]⟩,⟨#[49,48]⟩):=by kernel_rfl
def asx:Dk.said ⟨aU,[⟨3,[0,2,5]⟩,⟨1,[15]⟩,⟨2,[1,12,15]⟩,⟨4,[0,57]⟩,⟨5,[8]⟩],[false,false,false,false,false]⟩ (dL ⟨#[100,97,116,101,32,52,48,10]⟩)=some (⟨aU,[⟨3,[0,2,5]⟩,⟨1,[15]⟩,⟨2,[1,12,15]⟩,⟨4,[0,57]⟩,⟨5,[8]⟩],[false,false,false,false,false]⟩,⟨#[50,32,57]⟩):=by kernel_rfl
def asy:Dk.said ⟨aU,[⟨3,[0,2,5]⟩,⟨1,[15]⟩,⟨2,[1,12,15]⟩,⟨4,[0,57]⟩,⟨5,[8]⟩],[false,false,false,false,false]⟩ (dL ⟨#[119,114,111,110,103,10]⟩)=some (⟨aU,[⟨3,[0,2,5]⟩,⟨1,[15]⟩,⟨2,[1,12,15]⟩,⟨4,[0,57]⟩,⟨5,[8]⟩],[false,false,false,false,false]⟩,⟨#[51,52,56]⟩):=by kernel_rfl
def asz:Dk.said ⟨aU,[⟨3,[0,2,5]⟩,⟨1,[15]⟩,⟨2,[1,12,15]⟩,⟨4,[0,57]⟩,⟨5,[8]⟩],[false,false,false,false,false]⟩ (dL ⟨#[99,117,116,115,32,51,54,10]⟩)=some (⟨aU,[⟨3,[0,2,5]⟩,⟨1,[15]⟩,⟨2,[1,12,15]⟩,⟨4,[0,57]⟩,⟨5,[8]⟩],[false,false,false,false,false]⟩,⟨#[50,32,49,32,51]⟩):=by kernel_rfl
def asA:Dk.said ⟨aU,[⟨3,[0,2,5]⟩,⟨1,[15]⟩,⟨2,[1,12,15]⟩,⟨4,[0,57]⟩,⟨5,[8]⟩],[false,false,false,false,false]⟩ (dL ⟨#[115,116,114,105,107,101,32,49,10]⟩)=some (⟨aU,[⟨3,[0,2,5]⟩,⟨1,[15]⟩,⟨2,[1,12,15]⟩,⟨4,[0,57]⟩,⟨5,[8]⟩],[false,false,false,false,false]⟩,⟨#[101,114,114,111,114,32,55]⟩):=by kernel_rfl
def asB:Dk.said ⟨aU,[⟨3,[0,2,5]⟩,⟨1,[15]⟩,⟨2,[1,12,15]⟩,⟨4,[0,57]⟩,⟨5,[8]⟩],[false,false,false,false,false]⟩ (dL ⟨#[115,116,114,105,107,101,32,52,10]⟩)=some (⟨aU,[⟨3,[0,2,5]⟩,⟨1,[15]⟩,⟨2,[1,12,15]⟩,⟨4,[0,57]⟩,⟨5,[8]⟩,⟨6,[4]⟩],[false,false,false,false,true,false]⟩,⟨#[110,111,116,101,100]⟩):=by kernel_rfl
def asC:Dk.said ⟨aU,[⟨3,[0,2,5]⟩,⟨1,[15]⟩,⟨2,[1,12,15]⟩,⟨4,[0,57]⟩,⟨5,[8]⟩,⟨6,[4]⟩],[false,false,false,false,true,false]⟩ (dL ⟨#[115,116,114,105,107,101,32,51,10]⟩)=some (⟨aU,[⟨3,[0,2,5]⟩,⟨1,[15]⟩,⟨2,[1,12,15]⟩,⟨4,[0,57]⟩,⟨5,[8]⟩,⟨6,[4]⟩,⟨6,[3]⟩],[false,false,false,true,true,false,false]⟩,⟨#[110,111,116,101,100]⟩):=by kernel_rfl
def asD:Dk.said ⟨aU,[⟨3,[0,2,5]⟩,⟨1,[15]⟩,⟨2,[1,12,15]⟩,⟨4,[0,57]⟩,⟨5,[8]⟩,⟨6,[4]⟩,⟨6,[3]⟩],[false,false,false,true,true,false,false]⟩ (dL ⟨#[99,111,105,110,115,10]⟩)=some (⟨aU,[⟨3,[0,2,5]⟩,⟨1,[15]⟩,⟨2,[1,12,15]⟩,⟨4,[0,57]⟩,⟨5,[8]⟩,⟨6,[4]⟩,⟨6,[3]⟩],[false,false,false,true,true,false,false]⟩,⟨#[48]⟩):=by kernel_rfl
def asE:Dk.said ⟨aU,[⟨3,[0,2,5]⟩,⟨1,[15]⟩,⟨2,[1,12,15]⟩,⟨4,[0,57]⟩,⟨5,[8]⟩,⟨6,[4]⟩,⟨6,[3]⟩],[false,false,false,true,true,false,false]⟩ (dL ⟨#[111,112,101,110,10]⟩)=some (⟨aU,[⟨3,[0,2,5]⟩,⟨1,[15]⟩,⟨2,[1,12,15]⟩,⟨4,[0,57]⟩,⟨5,[8]⟩,⟨6,[4]⟩,⟨6,[3]⟩],[false,false,false,true,true,false,false]⟩,⟨#[48,32,50,32,53]⟩):=by kernel_rfl
def asF:Dk.said ⟨aU,[⟨3,[0,2,5]⟩,⟨1,[15]⟩,⟨2,[1,12,15]⟩,⟨4,[0,57]⟩,⟨5,[8]⟩,⟨6,[4]⟩,⟨6,[3]⟩],[false,false,false,true,true,false,false]⟩ (dL ⟨#[115,116,97,110,100,115,10]⟩)=some (⟨aU,[⟨3,[0,2,5]⟩,⟨1,[15]⟩,⟨2,[1,12,15]⟩,⟨4,[0,57]⟩,⟨5,[8]⟩,⟨6,[4]⟩,⟨6,[3]⟩],[false,false,false,true,true,false,false]⟩,⟨#[48,32,49,32,50]⟩):=by kernel_rfl
def asG:Dk.said ⟨aU,[⟨3,[0,2,5]⟩,⟨1,[15]⟩,⟨2,[1,12,15]⟩,⟨4,[0,57]⟩,⟨5,[8]⟩,⟨6,[4]⟩,⟨6,[3]⟩],[false,false,false,true,true,false,false]⟩ (dL ⟨#[115,116,114,105,107,101,32,48,10]⟩)=some (⟨aU,[⟨3,[0,2,5]⟩,⟨1,[15]⟩,⟨2,[1,12,15]⟩,⟨4,[0,57]⟩,⟨5,[8]⟩,⟨6,[4]⟩,⟨6,[3]⟩],[false,false,false,true,true,false,false]⟩,⟨#[101,114,114,111,114,32,55]⟩):=by kernel_rfl
def asH:Dk.said ⟨aU,[⟨3,[0,2,5]⟩,⟨1,[15]⟩,⟨2,[1,12,15]⟩,⟨4,[0,57]⟩,⟨5,[8]⟩,⟨6,[4]⟩,⟨6,[3]⟩],[false,false,false,true,true,false,false]⟩ (dL ⟨#[115,116,114,105,107,101,32,57,10]⟩)=some (⟨aU,[⟨3,[0,2,5]⟩,⟨1,[15]⟩,⟨2,[1,12,15]⟩,⟨4,[0,57]⟩,⟨5,[8]⟩,⟨6,[4]⟩,⟨6,[3]⟩],[false,false,false,true,true,false,false]⟩,⟨#[101,114,114,111,114,32,50]⟩):=by kernel_rfl
def asI:Dk.said ⟨aU,[⟨3,[0,2,5]⟩,⟨1,[15]⟩,⟨2,[1,12,15]⟩,⟨4,[0,57]⟩,⟨5,[8]⟩,⟨6,[4]⟩,⟨6,[3]⟩],[false,false,false,true,true,false,false]⟩ (dL ⟨#[115,101,114,118,101,32,48,10]⟩)=some (⟨aU,[⟨3,[0,2,5]⟩,⟨1,[15]⟩,⟨2,[1,12,15]⟩,⟨4,[0,57]⟩,⟨5,[8]⟩,⟨6,[4]⟩,⟨6,[3]⟩],[false,false,false,true,true,false,false]⟩,⟨#[101,114,114,111,114,32,52]⟩):=by kernel_rfl
def aqW:Aa ⟨aU,[],[]⟩ (jw Zf) ⟨#[]⟩=some (⟨aU,[⟨3,[0,2,5]⟩,⟨1,[15]⟩,⟨2,[1,12,15]⟩,⟨4,[0,57]⟩,⟨5,[8]⟩,⟨6,[4]⟩,⟨6,[3]⟩],[false,false,false,true,true,false,false]⟩,KT):=by
 rw[amM];refine bf k_1 ?_;refine bf k_2 ?_;refine bf k_3 ?_;refine bf k_4 ?_;refine bf k_5 ?_;refine bf k_6 ?_;refine bf k_7 ?_;refine bf k_8 ?_;refine bf k_9 ?_;refine bf asb ?_;refine bf asc ?_;refine bf ase ?_;refine bf asf ?_;refine bf ash ?_;refine bf asi ?_;refine bf asj ?_;refine bf asl ?_;refine bf asn ?_;refine bf aso ?_;refine bf asq ?_;refine bf asr ?_;refine bf asu ?_;refine bf asv ?_;refine bf asw ?_;refine bf asx ?_;refine bf asy ?_;refine bf asz ?_;refine bf asA ?_;refine bf asB ?_;refine bf asC ?_;refine bf asD ?_;refine bf asE ?_;refine bf asF ?_;refine bf asG ?_;refine bf asH ?_;refine bf asI ?_
 kernel_rfl
def awp:aA:=(sw (r0 [ba 4 0 0,ba 6 1 2,mf 8 false] 2 [1,3,4,6] [4,6]) (sw (sr [lw 12 17 4,mv 13 1,mv 14 3,on 15 (.aj 17) [.t 12,.t 13,.t 14],oa 16 pN 15,mv 17 16,ow 18 .mov 1 17 0,ow 19 .len 18 17 0,oF 20 pG [.t 19,kI 16] 17 0,pt 21 17 20,mv 22 21,ow 23 (.fld 1) 6 22 0,lq 24 23 22,ow 25 .len 24 22 0,oF 26 pG [.t 25,kI 6] 22 0,pt 27 22 26,mv 28 27,ow 29 (.load true 17) 4 28 0,ow 30 (.aj 18) 29 28 0,ow 31 pN 30 28 0,pt 32 28 31] 0 [1,3,4,6,32] (cd 32 (sr [on 33 (.aj 19) [],mv 8 33] 0 [8] .ret) .skip)) (sr [lw 35 17 4,mv 36 1,ob 37 (.call 20) 35 36,mv 34 37,xa 38 0 34,xa 39 1 34,al 10 0 [zs,zs,zs,z0,z0,zs,z0,zs,z0,z0,z0,zs,z0,z0,z0,z0,z0,zs,zs],mv 9 38,sk 19 10 39 0] 1 [3,6,9,10] (sw (sr [mv 40 9,oc 41 (.tJ false) 40 (.c (.nilPtr)),mv 42 41,ow 43 .mov 9 42 0,ow 44 (.load true 19) 10 42 0,ow 45 .mov 3 42 0,oF 46 (.call 49) [.t 43,.t 44,.t 45] 42 0,ow 47 pN 46 42 0,pt 48 42 47] 0 [3,6,9,10,48] (cd 48 (sr [mf 8 false] 0 [8] .ret) .skip)) (sr [lw 49 19 10,lw 50 2 6,ob 51 (.aj 50) 49 50,mv 11 51] 0 [3,6,9,10,11] (sw (sr [mv 52 9,lw 53 2 6,ob 54 (.call 38) 52 53,mv 55 11,ob 56 pQ 54 55] 0 [3,6,9,10,11,56] (cd 56 (sr [mf 8 false] 0 [8] .ret) .skip)) (sw (sr [mv 57 11,oi 58 pE 57 0] 0 [3,6,9,10,58] (cd 58 (rg [lw 59 19 10,lw 60 2 6,ob 61 (.aj 51) 59 60,sk 19 10 61 0] 0 [3,9,10]) .skip)) (sr [mv 62 9,lw 63 19 10,mv 64 3,on 65 (.call 49) [.t 62,.t 63,.t 64],mv 66 65,ov 67 .mov 9 66 0,ov 68 (.load true 19) 10 66 0,ov 69 .mov 3 66 0,ot 70 (.call 49) [.t 67,.t 68,.t 69] 66 0,pf 71 66 70,mv 72 71,ot 73 (.aj 19) [] 72 0,pf 74 72 73,mv 8 74] 0 [8] .ret))))))))
def Me:aA:=(sw (r0 [ba 3 0 0,mf 6 false] 1 [1,2,3] [3]) (sw (sr [mi 7 0] 0 [1,2,3,7] (.block 0 (.loop (sw (sr [mv 9 7,mv 10 1,oa 11 .len 10,ob 12 pL 9 11,mv 13 12,ov 14 .mov 7 13 0,ot 15 pL [.t 14,kI 27] 13 0,pf 16 13 15] 0 [1,2,3,7,16] (cx 16 0)) (sw (.block 1 (sr [mv 19 1,mv 20 7,ix 21 2 19 20,fa 22 1 21,lo 23 22,oa 24 .len 23,oi 25 pG 24 6] 0 [1,2,3,7,25] (cd 25 (sr [mf 6 false] 0 [6] .ret) .skip))) (rg [mv 17 7,oi 18 pA 17 1,mv 7 18] 0 [1,2,3,7])))))) (sw (sr [mi 8 0] 0 [1,2,3,8] (.block 2 (.loop (sw (sr [mv 26 8,mv 27 2,oa 28 .len 27,ob 29 pL 26 28,mv 30 29,ov 31 .mov 8 30 0,ot 32 pL [.t 31,kI 11] 30 0,pf 33 30 32] 0 [1,2,3,8,33] (cx 33 2)) (sw (.block 3 (sr [mv 36 2,mv 37 8,ix 38 2 36 37,fa 39 1 38,lo 40 39,oa 41 .len 40,oi 42 pG 41 6] 0 [1,2,3,8,42] (cd 42 (sr [mf 6 false] 0 [6] .ret) .skip))) (rg [mv 34 8,oi 35 pA 34 1,mv 8 35] 0 [1,2,3,8])))))) (sr [lw 43 17 3,oa 44 (.aj 39) 43,mv 45 44,ov 46 .mov 1 45 0,ov 47 .len 46 45 0,ot 48 (.bin .leq) [.t 47,kI 26] 45 0,pf 49 45 48,mv 50 49,ov 51 .mov 2 50 0,ov 52 .len 51 50 0,ot 53 (.bin .leq) [.t 52,kI 10] 50 0,pf 54 50 53,mv 6 54] 0 [6] .ret))))
def MB:aA:=(sr [mf 0 false] 0 [] (sr [on 4 (.aj 68) [],oc 5 (.aj 40) 4 (.c (.str ⟨#[104,97,110,100,115,10,111,114,100,101,114,32,48,32,50,32,53,10,111,114,100,101,114,32,48,32,49,32,50,10,110,101,101,100,32,48,32,49,48,32,50,48,10,110,101,101,100,32,49,32,49,48,32,50,48,10,99,104,97,110,103,101,32,49,32,49,50,32,49,53,10,99,117,116,32,51,55,10,99,117,116,32,49,53,10,115,116,111,99,107,10,99,104,97,110,103,101,32,49,32,49,50,32,49,53,10,115,116,111,99,107,10,112,114,105,99,101,32,48,10,115,101,114,118,101,32,48,32,53,54,10,115,101,114,118,101,32,48,32,53,55,10,111,112,101,110,10,99,111,105,110,115,10,111,102,102,32,49,32,57,10,111,102,102,32,49,32,49,48,10,119,114,111,110,103,10,115,101,116,32,54,10,115,101,116,32,57,10,115,101,116,32,56,10,115,101,116,32,56,10,119,111,114,107,115,32,57,10,100,97,116,101,32,52,48,10,119,114,111,110,103,10,99,117,116,115,32,51,54,10,115,116,114,105,107,101,32,49,10,115,116,114,105,107,101,32,52,10,115,116,114,105,107,101,32,51,10,99,111,105,110,115,10,111,112,101,110,10,115,116,97,110,100,115,10,115,116,114,105,107,101,32,48,10,115,116,114,105,107,101,32,57,10,115,101,114,118,101,32,48,10]⟩)),mv 3 5,xa 6 0 3,xa 7 1 3,mv 1 6,mv 2 7] 0 [1,2] (sr [mv 8 2,oi 9 pE 8 0,mv 10 9,ov 11 .mov 1 10 0,ot 12 pE [.t 11,.c (.str ⟨#[49,32,51,32,51,32,52,10,110,111,116,101,100,10,101,114,114,111,114,32,55,10,49,32,49,50,32,49,53,10,101,114,114,111,114,32,55,10,101,114,114,111,114,32,55,10,101,114,114,111,114,32,55,10,110,111,116,101,100,10,49,53,10,110,111,116,101,100,10,49,56,10,53,55,10,101,114,114,111,114,32,55,10,110,111,116,101,100,10,110,111,116,104,105,110,103,10,53,55,10,57,55,10,49,48,56,10,51,53,54,10,101,114,114,111,114,32,55,10,101,114,114,111,114,32,55,10,110,111,116,101,100,10,101,114,114,111,114,32,55,10,49,48,10,50,32,57,10,51,52,56,10,50,32,49,32,51,10,101,114,114,111,114,32,55,10,110,111,116,101,100,10,110,111,116,101,100,10,48,10,48,32,50,32,53,10,48,32,49,32,50,10,101,114,114,111,114,32,55,10,101,114,114,111,114,32,50,10,101,114,114,111,114,32,52,10]⟩)] 10 0,pf 13 10 12,mv 0 13] 0 [0] .ret)))
def Je:aA:=(sw (r0 [ba 2 0 0,mk 4 (.c (.nilPtr)),al 5 1 [zs,zs,zs,z0,z0,zs,z0,zs,z0,z0,z0,zs,z0,z0,z0,z0,z0,zs,zs]] 2 [1,2,5] [2]) (sr [lw 11 17 2,oa 12 (.build [zs,zs,zs,z0,z0,zs,z0,zs,z0,z0,z0,zs,z0,z0,z0,z0,z0,zs,zs] [(0,17)]) 11,al 6 0 [zs,zs,zs,z0,z0,zs,z0,zs,z0,z0,z0,zs,z0,z0,z0,z0,z0,zs,zs],sk 19 6 12 0] 1 [1,2,5,6] (sr [lw 14 17 2,oa 15 (.call 36) 14,mv 13 15,xa 16 0 13,xa 17 1 13,mv 7 16,mv 8 17] 0 [1,5,6,7,8] (sw (sr [mv 18 8,oi 19 pQ 18 0,mv 20 19,ow 21 .mov 7 20 0,oF 22 (.tJ false) [.t 21,.c (.nilPtr)] 20 0,pt 23 20 22] 0 [1,5,6,7,23] (cd 23 (sw (r1 [ou 24 (.load true 19) 6 2,mk 4 (.c (.nilPtr)),sk 19 5 24 0] 0 [4,5] []) .ret) .skip)) (sw (sr [mi 9 0] 0 [1,5,6,7,9] (.block 0 (.loop (sw (sr [mv 25 9,mv 26 1,oa 27 .len 26,ob 28 pL 25 27] 0 [1,5,6,7,9,28] (cx 28 0)) (sw (.block 1 (sw (r1 [ou 31 (.load true 19) 6 2,mv 32 1,mv 33 9,ob1 34 (.aZ 2) 32 33 1,ou 35 (.load true 2) 34 1,ob 36 (.aj 50) 31 35,mv 10 36] 0 [1,5,6,7,9,10] []) (sw (sr [mv 37 7,mv 38 1,mv 39 9,ix 40 2 38 39,lw 41 2 40,ob 42 (.call 38) 37 41,mv 43 10,ob 44 pQ 42 43] 0 [1,5,6,7,9,10,44] (cd 44 (sw (r1 [ou 45 (.load true 19) 6 2,mk 4 (.c (.nilPtr)),sk 19 5 45 0] 0 [4,5] []) .ret) .skip)) (sr [mv 46 10,oi 47 pE 46 0] 0 [1,5,6,7,9,47] (cd 47 (r1 [ou 48 (.load true 19) 6 2,mv 49 1,mv 50 9,ob1 51 (.aZ 2) 49 50 1,ou 52 (.load true 2) 51 1,ob 53 (.aj 51) 48 52,sk 19 6 53 0] 0 [1,5,6,7,9] []) .skip))))) (rg [mv 29 9,oi 30 pA 29 1,mv 9 30] 0 [1,5,6,7,9])))))) (sw (r1 [mv 54 7,ou 55 (.load true 19) 6 2,mv 4 54,sk 19 5 55 0] 0 [4,5] []) .ret))))))
def MF:aA:=(sw (r0 [ba 1 0 0,mf 2 false] 1 [1] [1]) (sr [fa 3 0 1,fa 4 0 3,lo 5 4,oa 6 .len 5,oi 7 (.bin .leq) 6 7,mv 8 7,ov 9 (.fld 0) 1 8 0,ov 10 (.fld 1) 9 8 0,ov 11 (.load false 1) 10 8 0,ov 12 .len 11 8 0,ot 13 (.bin .leq) [.t 12,kI 6] 8 0,pf 14 8 13,mv 15 14,ov 16 (.fld 2) 1 15 0,ov 17 (.load false 1) 16 15 0,ov 18 .len 17 15 0,ot 19 (.bin .leq) [.t 18,kI 6] 15 0,pf 20 15 19,mv 21 20,ov 22 (.fld 4) 1 21 0,ov 23 (.fld 1) 22 21 0,ov 24 (.load false 1) 23 21 0,ov 25 .len 24 21 0,ot 26 (.bin .leq) [.t 25,kI 8] 21 0,pf 27 21 26,mv 28 27,ov 29 (.fld 6) 1 28 0,ov 30 (.fld 1) 29 28 0,ov 31 (.load false 1) 30 28 0,ov 32 .len 31 28 0,ot 33 (.bin .leq) [.t 32,kI 5] 28 0,pf 34 28 33,mv 35 34,ov 36 (.fld 11) 1 35 0,ov 37 (.load false 1) 36 35 0,ov 38 .len 37 35 0,ot 39 (.bin .leq) [.t 38,kI 8] 35 0,pf 40 35 39,mv 2 40] 0 [2] .ret))
def awN:aA:=(sw (r0 [ba 4 0 1,mf 6 false] 1 [0,2,4] [4]) (sw (sr [mi 7 0] 0 [0,2,4,7] (.block 0 (.loop (sw (sr [mv 14 7,mv 15 2,oa 16 .len 15,ob 17 pL 14 16] 0 [0,2,4,7,17] (cx 17 0)) (sw (.block 1 (sw (r0 [mv 21 0,mv 22 2,mv 23 7,ix 24 2 22 23,lw 25 2 24,ob 26 (.call 21) 21 25,mv 20 26,xa 27 0 20,xa 28 1 20,mv 8 27,mv 9 28] 0 [0,2,4,7,8,9] [8]) (sw (r1 [ou 30 (.load true 19) 4 1,mv 31 2,mv 32 7,ob1 33 (.aZ 2) 31 32 1,ou 34 (.load true 2) 33 1,ob 35 (.aj 54) 30 34,mv 29 35,xa 36 0 29,xa 37 1 29,mv 10 36,mv 11 37] 0 [0,2,4,7,8,9,10,11] []) (sr [mv 38 9,mv 39 11,ob 40 pQ 38 39,mv 41 40,ow 42 .mov 8 41 0,ow 43 .mov 10 41 0,obF 44 (.aj 23) 42 43 41 0,ow 45 pN 44 41 0,pt 46 41 45] 0 [0,2,4,7,46] (cd 46 (sr [mf 6 false] 0 [6] .ret) .skip))))) (rg [mv 18 7,oi 19 pA 18 1,mv 7 19] 0 [0,2,4,7])))))) (sr [mv 48 0,oa 49 (.jd 48) 48,mv 47 49,xa 50 0 47,xa 51 1 47,mv 12 50,mv 13 51] 0 [4,12,13] (sr [mv 52 13,oi 53 pE 52 0,mv 54 53,ov 55 .mov 12 54 0,ov 56 (.load true 19) 4 54 0,ov 57 (.aj 130) 56 54 0,obT 58 pE 55 57 54 0,pf 59 54 58,mv 6 59] 0 [6] .ret))))
def Md:aA:=(sr [al 0 0 [zs,zs,zs,z0,z0,zs,z0,zs,z0,z0,z0,zs,z0,z0,z0,z0,z0]] 1 [0] (sr [on 1 (.aj 158) [],on 2 (.build [z0,z0] [(0,1),(1,1)]) [kI 1,kI 3],on 3 (.build [z0,z0] [(0,1),(1,1)]) [kI 1499,kI 2000],ob 4 (.gu 2 [.agg [z0,z0],.agg [z0,z0]] [0,1]) 2 3,on 5 (.aj 159) [],on 6 (.aj 160) [],on 7 (.aj 161) [],on 8 (.build [.bool false,z0,z0,z0] [(0,1)]) [.c (.bool true)],on 9 (.build [.bool false,z0,z0,z0] [(1,1),(2,1)]) [kI 1,kI 6],ob 10 (.gu 4 [.agg [.bool false,z0,z0,z0],.agg [.bool false,z0,z0,z0]] [0,1]) 8 9,on 11 (.build [zs,zs,zs,z0,z0,zs,z0,zs,z0,z0,z0,zs,z0,z0,z0,z0,z0] [(0,2),(2,1),(3,1),(4,2),(6,2),(8,3),(11,1),(12,1),(13,1),(14,1),(15,1),(16,1)]) [.t 1,.t 4,kI 100,.t 5,.t 6,.t 7,.t 10,kI 1,kI 3,kI 6,kI 4,kI 10],sk 17 0 11 0] 0 [0] .ret))
def abz:aA:=(sr [al 0 0 [zs,zs]] 1 [0] (sr [on 1 (.aj 238) [kI 10,kI 20],oa 2 (.build [z0,z0,z0] [(1,2)]) 1,on 3 (.aj 238) [kI 12,kI 18],on 4 (.build [z0,z0,z0] [(0,1),(1,2)]) [kI 1,.t 3],on 5 (.aj 238) [kI 15,kI 10],on 6 (.build [z0,z0,z0] [(0,1),(1,2)]) [kI 1,.t 5],on 7 (.gu 3 [.agg [z0,z0,z0],.agg [z0,z0,z0],.agg [z0,z0,z0]] [0,1,2]) [.t 2,.t 4,.t 6],on 8 (.gu 1 [z0,z0] [0,1]) [kI 2,kI 3],ob 9 (.build [zs,zs] [(0,1),(1,1)]) 7 8,sk 2 0 9 0] 0 [0] .ret))
def aby:aA:=(sr [al 0 0 [z0,zs]] 1 [0] (sr [on 1 (.gu 1 [z0] [0]) [kI 4],oa 2 (.build [z0,zs] [(1,1)]) 1,sk 2 0 2 0] 0 [0] .ret))
def abx:aA:=(sr [al 0 0 [z0,z0,z0]] 1 [0] (sr [on 1 (.build [z0,z0,z0] [(0,1),(1,1)]) [kI 59,kI 2],sk 3 0 1 0] 0 [0] .ret))
def PZ:aA:=(sr [al 4 0 [z0,z0]] 1 [0,1,4] (sr [mv 5 0,mv 6 1,ob 7 (.build [z0,z0] [(0,1),(1,1)]) 5 6,sk 2 4 7 0] 0 [4] .ret))
def abA:aA:=(sr [al 0 0 [z0,zs]] 1 [0] (sr [on 1 (.gu 1 [z0,z0,z0] [0,1,2]) [kI 15,kI 21,kI 27],on 2 (.build [z0,zs] [(0,1),(1,1)]) [kI 40,.t 1],sk 2 0 2 0] 0 [0] .ret))
def JY {base sz:Nat}{zs:List DV}{a:List Nat}{args:List PV}{ds xs:List DV}{K:PV->Mem->Prop}{KP:DV->Mem->Prop}(h1:dF M args=some ds)(h2:wI sz zs a (ds.map DV.strip)=some xs)(b:M.frz args=M)(c:K (.d (.slice true xs)) M):au C base (.gu sz zs a) args M K KP:=by
 simp only[au,h1,h2,b];exact c
def aej (a b:Int):Pure C 238 [dI a,dI b] (.d (.agg [dI a,dI b])) []:=by
 refine ayF PZ yg ?_;simp only[PZ,yg,lu,RN,z,F,N]
def P_k:Pure C 158 [] (.d (.agg [.slice true (aU.pc.links.map Lk.dv), .slice true (aU.pc.hands.map ay)])) []:=by
 refine ayF abz OV ?_;simp only[abz,OV,RN,z,F,N];refine ayG (aej 10 20) ?_;(try simp only[RN,z,F,N]);refine ayG (aej 12 18) ?_;(try simp only[RN,z,F,N]);refine ayG (aej 15 10) ?_;(try simp only[RN,z,F,N]);refine JY rfl rfl rfl ?_;(try simp only[RN,z,F,N]);refine JY rfl rfl rfl ?_;simp only[lu,RN,z,F,N]
 rfl
def O_k:Pure C 160 [] (.d (.agg [dI 0, .slice true [dI 4]])) []:=by
 refine ayF aby OV ?_;simp only[aby,OV,lu,RN,z,F,N];exact⟨rfl,rfl⟩
def M_k:Pure C 161 [] (.d (.agg [dI 59,dI 2,dI 0])) []:=by
 refine ayF abx akW ?_;simp only[abx,akW,lu,RN,z,F,N]
def D_k:Pure C 159 [] (.d (.agg [dI 40, .slice true [dI 15,dI 21,dI 27]])) []:=by
 refine ayF abA OV ?_;simp only[abA,OV,RN,z,F,N];refine JY rfl rfl rfl ?_;simp only[lu,RN,z,F,N]
 rfl
def anJ:DV:= .agg [.slice true (aU.pc.links.map Lk.dv), .slice true (aU.pc.hands.map ay), .slice true (aU.tg.map Fr.dv),dI 100,dI 40, .slice true (aU.dvd.cir.map ay),dI 0, .slice true (aU.cal.cy.map ay),dI 59,dI 2,dI 0, .slice true (aU.fs.map Fs.dv),dI 1,dI 3,dI 6,dI 4,dI 10]
def alJ:Pure C 68 [] (.d anJ) []:=by
 refine ayF Md akV ?_;simp only[Md,akV,RN,z,F,N];refine ayG P_k ?_;(try simp only[RN,z,F,N]);refine JY rfl rfl rfl ?_;(try simp only[RN,z,F,N]);refine ayG D_k ?_;(try simp only[RN,z,F,N]);refine ayG O_k ?_;(try simp only[RN,z,F,N]);refine ayG M_k ?_;(try simp only[RN,z,F,N]);refine JY rfl rfl rfl ?_;simp only[lu,RN,z,F,N]
 rfl
def Zo:aU.Small:=⟨by decide,by decide,by decide,by decide,by decide⟩
def Ry:Pure C 19 [] (.d (.bool true)) []:=by
 refine ayF MB akT ?_;simp only[MB,akT,RN,z];refine ayG alJ ?_;(try simp only[RN,z,F,H,I,J,N]);refine ak rfl rfl (afU aU Zo (by kernel_rfl) (by decide:Zf.size<=1500) (by kernel_rfl) aqW) ?_;have b:(KT.toList==KT.toList)=true:=beq_self_eq_true _;have a:(.str ⟨#[49,32,51,32,51,32,52,10,110,111,116,101,100,10,101,114,114,111,114,32,55,10,49,32,49,50,32,49,53,10,101,114,114,111,114,32,55,10,101,114,114,111,114,32,55,10,101,114,114,111,114,32,55,10,110,111,116,101,100,10,49,53,10,110,111,116,101,100,10,49,56,10,53,55,10,101,114,114,111,114,32,55,10,110,111,116,101,100,10,110,111,116,104,105,110,103,10,53,55,10,57,55,10,49,48,56,10,51,53,54,10,101,114,114,111,114,32,55,10,101,114,114,111,114,32,55,10,110,111,116,101,100,10,101,114,114,111,114,32,55,10,49,48,10,50,32,57,10,51,52,56,10,50,32,49,32,51,10,101,114,114,111,114,32,55,10,110,111,116,101,100,10,110,111,116,101,100,10,48,10,48,32,50,32,53,10,48,32,49,32,50,10,101,114,114,111,114,32,55,10,101,114,114,111,114,32,50,10,101,114,114,111,114,32,52,10]⟩:DV)= .str KT:=rfl;simp only[z1,oD,RJ,a,b,RN,z]
end Go.Tel
namespace Go.Tel
open Go.Am Go.Lib
def avV {a b:ByteArray}(h:a.data.toList=b.data.toList):a=b:=by
 cases a with|mk x=>cases b with|mk y=>
 simp only at h;rw[Array.toList_inj.1 h]
def auV (a b:ByteArray):(a++b).data.toList=a.data.toList++b.data.toList:=by
 rw[ByteArray.data_append,Array.toList_append]
def avL (n:Nat):(tK (n:Int)).data.toList=decDigits n:=by
 rw[tK,itoa,if_neg (by omega),av]
def awd {n:Nat}(h:n<10):decDigits n=[UInt8.ofNat (48+n)]:=by rw[decDigits,dif_pos h]
def awi {n:Nat}(h:¬n<10):decDigits n=decDigits (n / 10)++ [UInt8.ofNat (48+n % 10)]:=by rw[decDigits,dif_neg h]
def avw:∀(k n:Nat),n<10 ^ (k+1)->(decDigits n).length<=k+1/\1<=(decDigits n).length
 |0,n,h=>by rw[awd (by omega)];simp
 |k+1,n,h=>by
  by_cases h1:n<10
  ·rw[awd h1];simp
  ·have:=avw k (n / 10) (by rw[Nat.pow_succ]at h;omega)
   rw[awi h1,U,bp];omega
def avF (n:Int)(ns:List Int):(Rw (n::ns)).data.toList=(tK n).data.toList++(ns.map fun n=>32::(tK n).data.toList).flatten:=by
 show(de (join ((cS tK (n::ns)).map (·.data.toList)) [32])).toList=_
 rw[ai,ai,join_cons,joinTail];simp[cr,Function.comp_def]
variable{x:En}
def au7 (h:x.ns≠[]):x.line.data.toList=(fwE x.kind).data.toList++(x.ns.map fun n=>32::(tK n).data.toList).flatten:=by
 obtain⟨n,ns,e⟩:∃n ns,x.ns=n::ns:=by
  cases a:x.ns with
  |nil=>exact absurd a h
  |cons n ns=>exact⟨n,ns,rfl⟩
 rw[En.line,auV,auV,e,avF];simp
def auW (h:x.formed=true):(1<=x.kind/\x.kind<=6)/\x.ns.length=jc x.kind/\1<=x.ns.length:=by
 have a:∀k,1<=jc k:=by
  intro k;unfold jc;split
  ·omega
  ·split<;>omega
 simp only[En.formed,V,inR,decide_eq_true_eq]at h;have:=a x.kind;exact⟨by omega,h.1.2,by omega⟩
def avg (h:x.formed=true):x.line.size<=30:=by
 obtain⟨h1,h2,b⟩:=auW h;have g:=au1 h;have c:=afm x.kind;have a:∀ns:List Int,(∀n∈ns,0<=n/\n<=9999)->(ns.map fun n=>32::(tK n).data.toList).flatten.length<=5*ns.length:=by
  intro ns
  induction ns with
  |nil=>intro _;simp
  |cons n ns j=>
   intro hh;obtain⟨m,c⟩:=cm (hh n bz).1;have d:=(hh n bz).2;have f:=avw 3 m (by omega);have:=j fun y i=>hh y (bX _ i)
   rw[ai,cP,U,W,c,avL,W];omega
 have d:=a x.ns g;have f:=avD x.kind;rw[<-size_data,au7 (by intro e;rw[e]at b;simp at b),U,size_data];omega
def MX:aA:=(sw (r0 [ba 1 0 0,mf 2 false] 1 [1] [1]) (sw (sr [fa 4 0 1,lw 5 2 4,oa 6 (.aj 58) 5,oa 7 pN 6,mv 8 7,ow 9 (.fld 2) 1 8 0,lq 10 9 8,ow 11 .len 10 8 0,ow 12 (.fld 0) 1 8 0,ow 13 (.fld 1) 12 8 0,lq 14 13 8,ow 15 .len 14 8 0,obF 16 pQ 11 15 8 0,pt 17 8 16,mv 18 17,ow 19 (.fld 3) 1 18 0,lq 20 19 18,ow 21 (.aj 59) 20 18 0,ow 22 pN 21 18 0,pt 23 18 22,mv 24 23,ow 25 (.fld 4) 1 24 0,ow 26 (.load true 2) 25 24 0,ow 27 (.aj 60) 26 24 0,ow 28 pN 27 24 0,pt 29 24 28] 0 [1,29] (cd 29 (sr [mf 2 false] 0 [2] .ret) .skip)) (sw (sr [mi 3 0] 0 [1,3] (.block 0 (.loop (sw (sr [mv 30 3,fa 31 2 1,lo 32 31,oa 33 .len 32,ob 34 pL 30 33] 0 [1,3,34] (cx 34 0)) (sw (.block 1 (sr [fa 37 2 1,lo 38 37,mv 39 3,ix 40 2 38 39,lw 41 2 40,oa 42 (.aj 61) 41,oa 43 pN 42] 0 [1,3,43] (cd 43 (sr [mf 2 false] 0 [2] .ret) .skip))) (rg [mv 35 3,oi 36 pA 35 1,mv 3 36] 0 [1,3])))))) (sr [fa 44 6 1,lw 45 2 44,oa 46 (.aj 62) 45,mv 47 46,ov 48 (.fld 8) 1 47 0,ov 49 (.load true 3) 48 47 0,ov 50 (.aj 63) 49 47 0,pf 51 47 50,mv 52 51,ov 53 (.fld 11) 1 52 0,ov 54 (.load false 1) 53 52 0,ov 55 (.aj 64) 54 52 0,pf 56 52 55,mv 57 56,ov 58 (.fld 12) 1 57 0,ov 59 (.load false 1) 58 57 0,ov 60 (.aj 65) 59 57 0,pf 61 57 60,mv 62 61,ov 63 (.load true 17) 1 62 0,ot 64 (.aj 67) [.t 63,.c (.slice true [])] 62 0,ov 65 (.aj 66) 64 62 0,pf 66 62 65,mv 2 66] 0 [2] .ret))))
def wV:aA:=(sw (r0 [ba 2 0 0,ag 4 2] 1 [1,2] [2]) (sr [ag 5 2] 0 [1,2,5] (sr [lw 8 19 2,oa 9 (.aj 37) 8,mv 6 9] 0 [1,2,5,6] (sw (sr [mi 7 0] 0 [1,2,5,6,7] (.block 0 (.loop (sw (sr [mv 10 7,mv 11 6,oa 12 .len 11,ob 13 pL 10 12] 0 [1,2,5,6,7,13] (cx 13 0)) (sw (.block 1 (sr [mv 16 6,mv 17 7,ix 18 1 16 17,lo 19 18,mv 20 1,ob 21 pQ 19 20] 0 [1,2,5,6,7,21] (cd 21 (r1 [mv 22 5,fu 23 17 2 1,lv 24 23,mv 25 6,mv 26 7,ob1 27 (.aZ 1) 25 26 1,lv 28 27,ob1 29 (.aZ 2) 24 28 1,ou 30 (.load true 2) 29 1,ou 31 (.gu 2 [.agg [z0,zs]] [0]) 30 1,ob 32 (.app 2 false) 22 31,mv 5 32] 0 [1,2,5,6,7] []) .skip))) (rg [mv 14 7,oi 15 pA 14 1,mv 7 15] 0 [1,2,5,6,7])))))) (sr [mv 33 5,mv 4 33] 0 [4] .ret)))))
def Qi:aA:=(sr [mf 4 false] 0 [0,1] (sr [mv 5 0,mv 6 1,ob 7 (.aj 87) 5 6,mv 4 7] 0 [4] .ret))
def zk:aA:=(sw (r0 [ba 1 0 0,ag 2 1] 1 [1] [1]) (sr [ag 3 1] 0 [1,3] (sw (sr [mi 4 0] 0 [1,3,4] (.block 0 (.loop (sw (sr [mv 5 4,fa 6 17 1,lo 7 6,oa 8 .len 7,ob 9 pL 5 8] 0 [1,3,4,9] (cx 9 0)) (sw (.block 1 (sr [fa 12 17 1,lo 13 12,mv 14 4,ix 15 2 13 14,fa 16 0 15,lo 17 16,oi 18 pQ 17 6,mv 19 18,ov 20 (.fld 18) 1 19 0,ov 21 (.load false 1) 20 19 0,ov 22 .mov 4 19 0,obT 23 (.aZ 1) 21 22 19 0,ov 24 (.load false 1) 23 19 0,ov 25 pN 24 19 0,pf 26 19 25] 0 [1,3,4,26] (cd 26 (rg [mv 27 3,mv 28 4,oa 29 (.gu 1 [z0] [0]) 28,ob 30 (.app 1 false) 27 29,mv 3 30] 0 [1,3,4]) .skip))) (rg [mv 10 4,oi 11 pA 10 1,mv 4 11] 0 [1,3,4])))))) (sr [mv 31 3,mv 2 31] 0 [2] .ret))))
def Jk:aA:=(sw (r0 [ba 1 0 0,mf 2 false] 1 [1] [1]) (sw (sw (r1 [fu 4 1 1 1,lv 5 4,ou 6 .len 5 1,fu 7 0 1 1,lv 8 7,oa 9 (.aj 123) 8,ob 10 pQ 6 9] 0 [1,10] []) (cd 10 (sr [mf 2 false] 0 [2] .ret) .skip)) (sw (sr [mi 3 0] 0 [1,3] (.block 0 (.loop (sw (sr [mv 11 3,fa 12 1 1,lo 13 12,oa 14 .len 13,ob 15 pL 11 14] 0 [1,3,15] (cx 15 0)) (sw (.block 1 (sr [fa 18 1 1,lo 19 18,mv 20 3,ix 21 1 19 20,lo 22 21,on 23 (.aj 124) [.t 22,kI 0,kI 9999],oa 24 pN 23] 0 [1,3,24] (cd 24 (sr [mf 2 false] 0 [2] .ret) .skip))) (rg [mv 16 3,oi 17 pA 16 1,mv 3 17] 0 [1,3])))))) (sr [mf 2 true] 0 [2] .ret))))
def aw6:aA:=(sw (r0 [ba 1 0 0,mk 2 (.c (.str ⟨#[]⟩))] 1 [1] [1]) (sw (r1 [fu 3 0 1 1,lv 4 3,oa 5 (.aj 127) 4,fu 6 1 1 1,lv 7 6,oa 8 (.aj 128) 7,ob 9 pA 5 8,mv 2 9] 0 [2] []) .ret))
def CG:aA:=(sw (r0 [ba 2 0 0,ba 3 1 1,mi 4 0] 2 [2,3] [2,3]) (sw (sr [lw 6 2 3,oa 7 (.aj 43) 6,oa 8 pN 7] 0 [2,3,8] (cd 8 (sr [mi 4 2] 0 [4] .ret) .skip)) (sw (sr [fa 9 17 2,lo 10 9,oa 11 .len 10,oi 12 (.bin .geq) 11 24] 0 [2,3,12] (cd 12 (sr [mi 4 3] 0 [4] .ret) .skip)) (sw (sr [fa 13 0 3,lo 14 13,oi 15 pE 14 6] 0 [2,3,15] (cd 15 (sr [fa 16 1 3,lo 17 16,oi 18 (.aZ 1) 17 0,lo 19 18,mv 5 19] 0 [2,5] (sw (sr [mv 20 5,fa 21 17 2,lo 22 21,oa 23 .len 22,ob 24 (.bin .geq) 20 23,mv 25 24,ow 26 (.fld 17) 2 25 0,lq 27 26 25,ow 28 .mov 5 25 0,obF 29 (.aZ 2) 27 28 25 0,ow 30 (.fld 0) 29 25 0,lq 31 30 25,oF 32 pE [.t 31,kI 6] 25 0,pt 33 25 32] 0 [2,5,33] (cd 33 (sr [mi 4 2] 0 [4] .ret) .skip)) (sw (sw (r1 [fu 34 18 2 1,lv 35 34,mv 36 5,ob1 37 (.aZ 1) 35 36 1,lv 38 37,mv 39 38,ow 40 (.fld 0) 2 39 1,ow 41 (.load true 17) 40 39 1,ow 42 (.load true 19) 2 39 1,ow 43 .mov 5 39 0,obF 44 (.aj 22) 42 43 39 0,obF 45 (.aj 131) 41 44 39 0,ow 46 pN 45 39 0,pt 47 39 46] 0 [47] []) (cd 47 (sr [mi 4 7] 0 [4] .ret) .skip)) (sr [mi 4 0] 0 [4] .ret)))) .skip)) (sw (sr [fa 48 0 2,lw 49 17 48,lw 50 2 3,ob 51 (.aj 132) 49 50,oa 52 pN 51] 0 [2,3,52] (cd 52 (sr [mi 4 2] 0 [4] .ret) .skip)) (sw (sw (r1 [fu 53 0 2 1,ou 54 (.load true 17) 53 1,ou 55 (.load true 19) 2 1,oi 56 (.aj 22) 55 (-1),ou 57 (.load true 2) 3 1,on 58 (.aj 133) [.t 54,.t 56,.t 57],oa 59 pN 58] 0 [59] []) (cd 59 (sr [mi 4 7] 0 [4] .ret) .skip)) (sr [mi 4 0] 0 [4] .ret)))))))
end Go.Tel
