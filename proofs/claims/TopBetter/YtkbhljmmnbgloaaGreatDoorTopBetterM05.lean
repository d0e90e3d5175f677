/-
  Part 5 of a law of desks.
  Conditions: none.
-/
import Derived.Test.YtkbhljmmnbgloaaGreatDoorTopBetterM04
set_option linter.all false
set_option maxRecDepth 10000
set_option maxHeartbeats 4000000
open Nat renaming reduceBEq->F,reduceAdd->H,reduceSub->I,reduceEqDiff->J,reduceLT->N,reduceLeDiff->O,zero_le->Z,le_refl->be,strongRecOn->bh,le_trans->ck
open List renaming length_map->Q,getD_eq_getElem?_getD->V,getElem?_eq_some_iff->W,getElem?_append_left->ab,length_singleton->ai,drop_length->ao,length_append->aq,map_append->av,mem_map->aw,all_eq_true->aD,length_cons->aE,map_cons->aL,mem_cons->aM,mem_of_mem_take->bc,take_succ_cons->bi,map_nil->bj,zip_cons_cons->bo,mem_or_eq_of_mem_set->br,append_assoc->bu,getElem?_set->bz,zip_nil_left->bA,take_of_length_le->bL,drop_zero->bR,mem_of_mem_drop->bS,take_zero->bX,all_cons->b4,mem_singleton->b5,range->b7,not_mem_nil->b8,take_length->b9,length_set->ca,mem_append->cb,nil_append->ce,range_succ->cf,drop_nil->ch,map_take->cj,length->cm
open Int renaming toNat_natCast->S,mul_le_mul->X,lt_irrefl->am,mul_nonneg->an,lt_of_mul_lt_mul_right->ap,add_mul->ax,tmod_lt_of_pos->aR,le_refl->a7,natCast_zero->a8,tmod_nonneg->bN,mul_tdiv_add_tmod->bO,sub_mul->cl
open Bool renaming and_eq_true->U,false_and->bk,false_eq_true->bl,not_eq_true'->bt,and_self->bB,true_and->b0,and_false->cg
open Option renaming map_none->ae,isSome_none->bp,isSome_some->bq,getD_some->bE
open And renaming intro->az
open Go.IntKind renaming wrap->cn
namespace Go.Am
def Eh {α:Type}{l:List α}{x:α}:(l++ [x])[l.length]?=some x:=by simp
def Qm {α:Type}{l:List α}{x y:α}:(l++ [x]).set l.length y=l++ [y]:=by simp
def qI {C:Ctx}{base:Nat}{M:Mem}{K:PV->Mem->Prop}{KP:DV->Mem->Prop}{f:FuncId}{fs cs args:List PV}(hc:callable C.P f=true)(h:SC C f (fs++args++cs) M K KP):au C base .dQ (.func (.func f) fs cs::args) M K KP:=⟨hc,h⟩
def no:Nat->Prop:=fun _=>False
def Kept.Ik {n:Nat}{own tN:Nat->Prop}{bs:List (Option (List PV))}{fz:List Nat}{ar ar':List (Option Arr)}{i:Nat}{x:Option (List PV)}(hi:i<n)(ho:¬own i)(hl:ar.length<=ar'.length)(b:∀k,tN k->ar'[k]?=ar[k]?):
  Kept n own tN ⟨bs,fz,ar⟩ ⟨bs.set i x,fz,ar'⟩:=
 ⟨by simp,hl,fun j a _=>by
  have:i≠j:=by rintro rfl;exact a.elim (fun h=>by omega) ho
  simp[this],fun _ _ _=>Iff.rfl,b,fun h j a=>by simpa using h j a⟩
end Go.Am
namespace Go.Tel
open Go.Am
def nDV (n:Nat):List DV:=[dI n]
def yJ (ls:List Lk):Nat->Nat->List Nat
 |0,_=>[]
 | _+1,0=>[]
 |k+1,a+1=>yJ ls k (ls.getD a default).fr.toNat++ [a]
def iG (ls:List Lk)(a:Nat):List Nat:=yJ ls a a
def linked (ls:List Lk):Prop:=∀i,i<ls.length->0<=(ls.getD i default).fr/\(ls.getD i default).fr<=i
variable{ls:List Lk}
def acr (h:linked ls):∀(k a:Nat),a<=k->a<=ls.length->yJ ls k a=yJ ls a a:=by
 intro k a
 induction a using bh generalizing k with
 |ind a c=>
  intro b f
  match a,k,b with
  |0,0,_=>rfl
  |0,k+1,_=>rfl
  |a+1,k+1,b=>
   have e:=h a (by omega);have d:(ls.getD a default).fr.toNat<=a:=by omega
   simp only[yJ];rw[c _ (by omega) k (by omega) (by omega),c _ (by omega) a (by omega) (by omega)]
def wG (h:linked ls){a:Nat}(b:a<ls.length):iG ls (a+1)=iG ls (ls.getD a default).fr.toNat++ [a]:=by
 have d:=h a b;have c:(ls.getD a default).fr.toNat<=a:=by omega
 simp only[iG,yJ];rw[acr h _ _ (by omega) (by omega)]
def ZG (h:linked ls):∀{a:Nat},a<=ls.length->∀i∈iG ls a,i<a:=by
 intro a
 induction a using bh with
 |ind a c=>
  intro b i hi
  match a,b,c with
  |0,_,_=>simp[iG,yJ]at hi
  |a+1,b,c=>
   rw[wG h b]at hi;have d:=h a b
   rcases cb.1 hi with hi|hi
   ·have:=c _ (by omega) (by omega) i hi;omega
   ·simp only[b5]at hi;omega
def Vs (h:linked ls):∀{a:Nat},a<=ls.length->(iG ls a).length<=a:=by
 intro a
 induction a using bh with
 |ind a c=>
  intro b
  match a,b,c with
  |0,_,_=>simp[iG,yJ]
  |a+1,b,c=>
   rw[wG h b,aq,ai];have d:=h a b;have:=c (ls.getD a default).fr.toNat (by omega) (by omega);omega
section
variable {ls:List Lk}{n b bw bv:Nat}{R:List (List DV)->Mem->Prop}{stop:Mem->Prop}{KP:DV->Mem->Prop}{xs:List (List DV)}
def ajS (ls:List Lk)(bw bv:Nat):PV:= .func (.func 365) [] [.ptr bw 0, .d (.aP [sF (ls.map Lk.dv)]), .ptr bv 0]
structure NH (ls:List Lk) (b bw bv:Nat) (M:Mem):Prop where
 w:M.boxes[bw]?=some (some [.func (.func 365) [] [.ptr bw 0, .d (.aP [sF (ls.map Lk.dv)]), .ptr bv 0]])
 v:M.boxes[bv]?=some (some [.mV b])
def NH.kept {M M':Mem}(h:NH ls b bw bv M)(a:n<=bw)(hv:n<=bv)(hk:Kept n no no M M'):NH ls b bw bv M':=
 ⟨(hk.box bw (.inl a) (W.1 h.w).1).trans h.w,(hk.box bv (.inl hv) (W.1 h.v).1).trans h.v⟩
def aiN (j:linked ls)(hl:ls.length<=1000000)(G:n<=bw)(hv:n<=bv)
  (fV:∀pre x post c,xs=pre++x::post->n<=c.boxes.length->R pre c->SY C b (x.map .d) c (fun p M'=>Kept n no no c M'/\((p= .d (.bool true)/\R (pre++ [x]) M')\/(p= .d (.bool false)/\stop M'))) KP):
  ∀(a:Nat) (pre post:List (List DV)) (c:Mem),a<=ls.length->xs=pre++((iG ls a).map nDV++post)->NH ls b bw bv c->R pre c->
   SC C 365 [pI a, .ptr bw 0, .d (.aP [sF (ls.map Lk.dv)]), .ptr bv 0] c
    (fun p M'=>NH ls b bw bv M'/\((p= .d (.bool true)/\R (pre++(iG ls a).map nDV) M')\/(p= .d (.bool false)/\stop M'))) KP:=by
 intro a
 induction a using bh with
 |ind a r=>
  intro pre post c v e N D;refine aB wI wJ ?_;obtain⟨bs,fz,ar⟩:=c;obtain⟨l,s⟩:=N;simp only at l s;have l1:=(W.1 l).1;have l2:=(W.1 s).1
  match a,v,e,r with
  |0,v,e,r=>
   simp only[wI,wJ,a8,BEq.rfl,RN,F,H];exact⟨⟨l,s⟩, .inl (by simpa[iG,yJ]using D)⟩
  |a+1,v,e,r=>
   have y:(((a+1:Nat):Int)==0)=false:=by simp;omega
   have B:cn .i64 (((a+1:Nat):Int) - 1)=(a:Int):=by rw[aF (by omega)];omega
   have U:=j a (by omega);have w:a<ls.length:=by omega
   obtain⟨q,E⟩:∃q:Nat,(ls.getD a default).fr=q:=⟨(ls.getD a default).fr.toNat,by omega⟩
   have k:iG ls (a+1)=iG ls q++ [a]:=by rw[wG j (by omega),E];rfl
   rw[k,av,bu]at e;have L:(0:Int)<=(a:Int):=by omega
   simp only[wI,wJ,y,l,l1,B,L,w,getD_map,S,Q,Fz,E,RN,F,H,O];refine qI (args:=[_]) (cs:=[_,_,_]) (by kernel_rfl) ?_;refine SC.mono (r q (by omega) pre _ _ (by omega) e ⟨l,s⟩ D) ?_;rintro p ⟨g,h,f⟩ ⟨⟨m,o⟩,z⟩;simp only at m o
   rcases z with⟨rfl,t⟩|⟨rfl,A⟩
   ·simp only[o,l2,B,RN,F,O]
    refine um ?_;have T:=fV (pre++(iG ls q).map nDV) (nDV a) post ⟨g,h,f⟩ (by rw[e];simp) (Nat.le_of_lt (Nat.lt_of_le_of_lt G (W.1 m).1)) t;refine SY.mono T ?_;rintro p ⟨J,K,I⟩ ⟨P,z⟩;have i:=NH.kept (M:=⟨g,h,f⟩) ⟨m,o⟩ G hv P
    rcases z with⟨rfl,u⟩|⟨rfl,A⟩
    ·(try simp only[RN])
     exact⟨i, .inl (by rw[k,av,<-bu];exact u)⟩
    ·(try simp only[RN])
     exact⟨i, .inr A⟩
   ·(try simp only[RN,F])
    exact⟨⟨m,o⟩, .inr A⟩
end
variable{ls:List Lk}
def Vt (g:linked ls)(hl:ls.length<=1000000)(a:Nat)(m:a<=ls.length):
  QF C 364 [] [.d (.aP [sF (ls.map Lk.dv)]), .d (.aP [dI a])] ((iG ls a).map nDV) no no no (fun _=>True):=by
 rintro⟨bs,fz,ar⟩ b n R stop K KP o _ i f _ j fV k c e;simp only at i f;refine aB HY dX ?_;have q:(bs++ [some [PV.mV b]]).length∉fz:=fun h=>by have:=f _ h;simp at this;omega
 simp only[HY,dX,Eh,Qm,kQ,cells_func,J3,GN,GY,q,RN,F,H,O];refine qI (args:=[_]) (cs:=[_,_,_]) (by kernel_rfl) ?_;refine SC.mono (aiN (bw:=(bs++ [some [PV.mV b]]).length) (bv:=bs.length) g hl (by simp;omega) i fV a [] [] _ m (by simp) ⟨by simp,by simp⟩ (j _ _ _ ?_ k)) ?_
 ·have:=Moved.ext (own:=no) (fz:=fz) (ar:=ar) (xb:=[some [PV.mV b],some [ajS ls (bs++ [some [PV.mV b]]).length bs.length]]) (xf:=[]) i (by simp)
  simpa[ajS]using this
 ·rintro p u ⟨⟨v,t⟩,r⟩
  have hl:=(W.1 t).1
  rcases r with⟨rfl,l⟩|⟨rfl,s⟩
  ·exact e _ _ (by omega) (by simpa using l)
  ·exact c _ _ s
def aiM (ls:List Lk)(a:Int):Pure C 344 [sF (ls.map Lk.dv),dI a] (.d (.func (.func 364) [] [.aP [sF (ls.map Lk.dv)], .aP [dI a]])) []:=by
 refine ah MR aH ?_;simp only[MR,aH,RN,F,H]
def ao0 (ls:List Lk)(c:linked ls)(hl:ls.length<=1000)(a:Nat)(j:a<=ls.length):Pure C 304 [sF (ls.map Lk.dv),dI a] (pI ((iG ls a).length)) []:=by
 refine ah PN aH ?_;simp only[PN,aH,RN,F,H,O];refine ak (aiM ls a) ?_;have n:=Vs c j;refine oI (Vt c (by omega) a j) (fun _ h=>h) rfl (by kernel_rfl) (by simp) (fun x g=>by obtain⟨i,_,rfl⟩:=aw.1 g;rfl) (fun _ h=>h.elim) (fun _ _=>trivial)
  (fun pre M=>M.boxes[0]?=some (some [pI pre.length])/\0∉M.fz) ?_ ⟨rfl,by simp⟩ ?_ ?_
 ·rintro pre p q k ⟨h1,h2⟩
  exact⟨(k.box 0 (by simp) id).trans h1,fun h=>h2 ((k.fz 0 (by simp) id).1 h)⟩
 ·rintro L cells pre x post ⟨bs,fz,ar⟩ g d b f ⟨h1,h2⟩ o
  simp only[ai]at d b f h1 h2⊢;have l:pre.length<=1000:=by
   have:=congrArg cm g;simp at this;omega
  have e:0<bs.length:=by omega
  obtain⟨i,hi,rfl⟩:∃i,i∈iG ls a/\nDV i=x:=by
   have:x∈(iG ls a).map nDV:=by rw[g];simp
   simpa using this
  have m:cn .i64 ((pre.length:Int)+1)=((pre++ [nDV i]).length:Int):=by rw[aF (by omega)];simp
  simp only[h1,h2,m,kE,nDV,bo,bA,RN,F,H,O];exact⟨by simpa using b,f,Kept.set (M:=⟨bs,fz,ar⟩) (by omega) id,by simp[e]⟩
 ·rintro⟨bs,fz,ar⟩ ⟨h1,h2⟩ d
  simp only at h1;simp only[h1,RN,F,O];simp
def l7 (ls:List Lk)(a:Nat):List Pr:=(iG ls a).map fun i=>(ls.getD i default).pr
def acQ (p:Pc)(f:linked p.links)(hl:p.links.length<=1000)(a:Nat)(u:a<=p.links.length)(V:0<a):SC C 329 ([p.dv,dI a].map .d) bG (fun v M=>Jj M v 2 ((l7 p.links a).map Pr.dv) 1) (fun _ _=>False):=by
 refine aB FZ aH ?_;simp only[FZ,aH,lU,RN,F,H,O];refine ak (aiM p.links a) ?_;have G:=Vs f u;refine oI (Vt f (by omega) a u) (fun _ h=>h) rfl (by kernel_rfl) (by simp) (fun x t=>by obtain⟨i,_,rfl⟩:=aw.1 t;rfl) (fun _ h=>h.elim) (fun _ _=>trivial)
  (fun pre M=>∃(l:List Nat) (v:PV),pre=l.map nDV/\M.boxes[1]?=some (some [v])/\1∉M.fz/\((l=[]/\v= .d (.slice true []))\/(l≠[]/\Jj M v 2 ((l.map fun i=>(p.links.getD i default).pr).map Pr.dv) 1))) ?_ ⟨[],_,rfl,rfl,by simp, .inl ⟨rfl,rfl⟩⟩ ?_ ?_
 ·rintro pre T U A ⟨l,v,h1,h2,m,n⟩
  refine⟨l,v,h1,(A.box 1 (by simp) id).trans h2,fun h=>m ((A.fz 1 (by simp) id).1 h),n.imp id fun⟨I,k,ver,K,P⟩=>⟨I,k,ver,K,by rw[A.aC];exact P⟩⟩
 ·rintro L cells pre x post ⟨bs,fz,ar⟩ t s e j ⟨l,v,rfl,h1,h2,m⟩ R
  simp only[aE,List.length_nil]at s e j h1 h2 m⊢;have D:l.length<=1000:=by
   have:=congrArg cm t;simp at this;omega
  have c:1<bs.length:=by omega
  obtain⟨i,hi,rfl⟩:∃i,i∈iG p.links a/\nDV i=x:=by
   have:x∈(iG p.links a).map nDV:=by rw[t];simp
   simpa using this
  have q:i<p.links.length:=by have:=ZG f u i hi;omega
  have o:(0:Int)<=(i:Int):=by omega
  have amH:∀y,(bs.set 1 y)[2]?=bs[2]?:=fun y=>by simp
  have g:∀y,(bs.set 1 y)[1]?=some y:=fun y=>by simp[c]
  rcases m with⟨rfl,rfl⟩|⟨E,k,ver,rfl,B⟩
  ·simp only[h1,h2,c,o,q,getD_map,S,Q,Fz,DV.strip,kE,nDV,bo,bA,Qq,forall_eq,dJ,dO,RN,F,H,N,O]
   refine⟨by simp,by simp,by rw[amH];exact e,j,Kept.Ik (by omega) id (by simp) (fun _ h=>h.elim),[i],_,rfl,g _, .inr ⟨by simp,ar.length,0,rfl,by simp[dW]⟩⟩
  ·have z:=(W.1 B).1
   have r:l.length<=1073741823:=by omega
   simp only[h1,h2,c,o,q,B,getD_map,S,Q,Fz,DV.strip,kE,nDV,bo,bA,Qq,forall_eq,dJ,dO,RN,F,H,J,N,O];refine⟨by simp,by simpa using r,by rw[amH];exact e,j,Kept.Ik (by omega) id (by simp) (fun _ h=>h.elim),l++ [i],_,by simp[nDV],g _, .inr ⟨by simp,k,ver+1,rfl,by simp[z,dW]⟩⟩
 ·rintro⟨bs,fz,ar⟩ ⟨l,v,h1,h2,m,n⟩ s
  simp only at h2;simp only[h2,RN,F,O];have w:(iG p.links a)=l:=(List.map_inj_right (fun x y h=>by simp only[nDV,List.cons.injEq,DV.int.injEq,true_and,and_true,Int.natCast_inj]at h;exact h)).1 h1
  rcases n with⟨rfl,_⟩|⟨_,n⟩
  ·obtain⟨b,rfl⟩:∃b,a=b+1:=⟨a - 1,by omega⟩
   rw[wG f (by omega)]at w;simp at w
  ·rw[l7,w];exact n
def OJ (p:Pc)(b:linked p.links)(hl:p.links.length<=1000)(a:Nat)(e:a<=p.links.length)(c:0<a):Pure C 329 [p.dv,dI a] (.d (sF ((l7 p.links a).map Pr.dv))) []:=
 bM (SC.mono (acQ p b hl a e c) fun _ _ h=>h.datum)
def yA (pre:List Lk)(l:Lk):Bool:=inR l.fr 0 pre.length&&l.pr.ok&& !decide ((iG pre l.fr.toNat).length>=3)
def rJ:List Lk->List Lk->Bool
 | _,[]=>true
 |pre,l::ls=>yA pre l&&rJ (pre++ [l]) ls
def Pc.ok (p:Pc):Bool:=inR p.links.length 1 5&&inR p.hands.length 1 4&&rJ [] p.links&&p.hands.all (fun n=>inR n 1 p.links.length)
def Ip (n l h:Int):Pure C 268 [dI n,dI l,dI h] (.d (.bool (inR n l h))) []:=CW n l h
def TW (n:Int):Pure C 315 [dI n] (.d (.bool (aT n))) []:=by
 refine ah FY aI ?_;simp only[FY,aI,RN,F]
 repeat' first
  |(refine ak (Ip _ _ _) ?_;try simp only[RN,F,H,I,J,N,O])
  |(refine aJ (by rfl) (fun a=> ?_) (fun a=> ?_)<;>simp only[a,RN,F,H,I,J,N,O])
  |(refine aK (by rfl) (fun a=> ?_) (fun a=> ?_)<;>simp only[a,RN,F,H,I,J,N,O])
 all_goals(first|(simp only[aT, *,BSN];done)|(simp_all[aT];done)|(simp_all[aT];omega))
def amc (f:Fr):Pure C 334 [f.dv] (.d (.bool f.ok)) []:=by
 refine ah AO aI ?_;simp only[AO,aI,aS,RN,F,H,O]
 repeat' first
  |(refine ak (Ip _ _ _) ?_;try simp only[aS,RN,F,H,I,J,N,O])
  |(refine aJ (by rfl) (fun a=> ?_) (fun a=> ?_)<;>simp only[a,RN,F,H,O])
  |(refine aK (by rfl) (fun a=> ?_) (fun a=> ?_)<;>simp only[a,aS,RN,F,H,I,J,N,O])
 all_goals(first|(simp only[Fr.ok, *,BSN];done)|(simp_all[Fr.ok];done)|(simp_all[Fr.ok];omega))
def XK (p:Pr):Pure C 303 [p.dv] (.d (.bool p.ok)) []:=by
 refine ah Hz aI ?_;simp only[Hz,aI,dW,RN,F,H,O]
 repeat' first
  |(refine ak (TW _) ?_;try simp only[dW,RN,F,H,I,J,N,O])
  |(refine aJ (by rfl) (fun a=> ?_) (fun a=> ?_)<;>simp only[a,RN,F,H,O])
  |(refine aK (by rfl) (fun a=> ?_) (fun a=> ?_)<;>simp only[a,dW,RN,F,H,I,J,N,O])
 all_goals(first|(simp only[Pr.ok, *,BSN];done)|(simp_all[Pr.ok];done)|(simp_all[Pr.ok];omega))
def abW (p:Pc)(n:Int):Pure C 305 [dI n, .aP [sF (p.links.map Lk.dv),sF (p.hands.map ay)]] (.d (.bool (!inR n 1 p.links.length))) []:=by
 refine ah BU JO ?_;simp only[BU,JO,Q,RN,F,H,O];refine ak (Ip _ _ _) ?_;(try simp only[RN])
variable{pre:List Lk}{l:Lk}
def Sr (h:linked pre)(h1:0<=l.fr)(h2:l.fr<=pre.length):linked (pre++ [l]):=by
 intro i hi;simp only[aq,ai]at hi
 by_cases a:i<pre.length
 ·have:=h i a
  simpa[V,ab a]using this
 ·have:i=pre.length:=by omega
  subst this;simp[V];omega
def Xb (h:yA pre l=true):(0<=l.fr/\l.fr<=pre.length)/\l.pr.ok=true/\(iG pre l.fr.toNat).length<3:=by
 simp only[yA,inR,U,decide_eq_true_eq,bt,decide_eq_false_iff_not,ge_iff_le]at h;obtain⟨⟨h1,h2⟩,a⟩:=h;exact⟨h1,h2,by omega⟩
def wE (p:Pc)(hl:p.links.length<=1000)(hh:p.hands.length<=1000):Pure C 258 [p.dv] (.d (.bool p.ok)) []:=by
 refine ah FW aI ?_;simp only[FW,aI,lU,Q,RN,F,H,O]
 repeat' first
  |(refine ak (Ip _ _ _) ?_;try simp only[RN])
  |(refine aJ (by rfl) (fun c=> ?_) (fun c=> ?_)<;>simp only[c,Q,RN,F,H,O])
  |(refine aK (by rfl) (fun c=> ?_) (fun c=> ?_)<;>simp only[c,Q,RN,F,H,O])
 any_goals (simp_all[Pc.ok];done)
 have r:inR p.links.length 1 5=true:=by simp_all
 have c:inR p.hands.length 1 4=true:=by simp_all
 have s:p.links.length<=5:=by simp only[inR,U,decide_eq_true_eq]at r;omega
 have m:p.ok=(rJ [] p.links&&p.hands.all (fun n=>inR n 1 p.links.length)):=by simp[Pc.ok,r,c]
 rw[m];refine aG p.links.length (fun i (_:Unit)=>⟨[(1, .d (.aP [sF (p.links.map Lk.dv),sF (p.hands.map ay)])),(18, .d (sF (p.links.map Lk.dv))),(19,pI p.links.length),(20,pI i)],
   ⟨[some [.d (sF (p.links.map Lk.dv)), .d (sF (p.hands.map ay))]],[0],[]⟩⟩)
  (fun i _=>rJ [] p.links=rJ (p.links.take i) (p.links.drop i)/\linked (p.links.take i)) 0 () (Z _) rfl ⟨by simp,fun i hi=>by simp at hi⟩ (fun i _ h1 a=> ?_) (fun _ a=> ?_)
 ·obtain⟨h2,o,t⟩:=rng h1 (by omega)
  obtain⟨a,g⟩:=a;have k:(p.links.take i).length=i:=by simp;omega
  rw[drop_cons h1,rJ]at a;simp only[h2,o,h1,getD_map,S,Q,Fz,RN,F,H,J,O];refine ak (Ip _ _ _) ?_;cases e:inR (p.links.getD i default).fr 0 (i:Int)
  ·(try simp only[RN,F,H])
   have:yA (p.links.take i) (p.links.getD i default)=false:=by simp only[yA,k,e,bk]
   rw[a,this];rfl
  ·have j:=XK (p.links.getD i default).pr
   simp only[dW]at j;(try simp only[RN,F,H,O]);refine ak j ?_;cases f:(p.links.getD i default).pr.ok
   ·(try simp only[RN,F,H])
    have:yA (p.links.take i) (p.links.getD i default)=false:=by simp only[yA,f,cg,bk]
    rw[a,this];rfl
   ·have u:0<=(p.links.getD i default).fr/\(p.links.getD i default).fr<=i:=by simpa[inR]using e
    obtain⟨q,l⟩:∃q:Nat,(p.links.getD i default).fr=q:=⟨(p.links.getD i default).fr.toNat,by omega⟩
    have ak8:=ao0 (p.links.take i) g (by omega) q (by omega);rw[cj]at ak8;simp only[l,RN,F,H,O];rw[rV ais o (by rw[Q];omega),S];refine ak ak8 ?_;cases b:decide (((iG (p.links.take i) q).length:Int)>=3)
    ·have anS:¬((iG (p.links.take i) q).length>=3):=by have:=of_decide_eq_false b;omega
     simp only[b,t,RN,F,H];have aqi:inR (q:Int) 0 (i:Int)=true:=by rw[<-l];exact e
     have h:yA (p.links.take i) (p.links.getD i default)=true:=by simp only[yA,k,aqi,f,l,S,decide_eq_false anS,Bool.not_false,bB]
     rw[h,b0,<-bf h1]at a;exact bQ 1 0 () h1 rfl ⟨a,by rw[bf h1];exact Sr g (by omega) (by omega)⟩ (by simp) (by simp) rfl rfl
    ·have anS:((iG (p.links.take i) q).length>=3):=by have:=of_decide_eq_true b;omega
     simp only[b,RN,F,H];have:yA (p.links.take i) (p.links.getD i default)=false:=by simp only[yA,l,S,decide_eq_true anS,Bool.not_true,cg]
     rw[a,this];rfl
 ·obtain⟨a,_⟩:=a
  rw[ao,rJ]at a;simp only[am,RN,F,H,O];refine cO rfl rfl (lQ p.hands 305 [.aP [sF (p.links.map Lk.dv),sF (p.hands.map ay)]] (fun n=> !inR n 1 p.links.length) (by omega) (by kernel_rfl) fun n _=>abW p n) ?_;simp only[Ef,RN];rw[a];simp
def Om {ls ms:List Lk}(h:linked ls):∀(k a:Nat),a<=ls.length->yJ (ls++ms) k a=yJ ls k a
 |0,_,_=>rfl
 | _+1,0,_=>rfl
 |k+1,a+1,b=>by
  have e:(ls++ms).getD a default=ls.getD a default:=by
   simp[V,ab (show a<ls.length by omega)]
  have c:=h a (by omega);simp only[yJ,e];rw[Om h k _ (by omega)]
def Jq:∀{ls pre:List Lk},linked pre->(∀a,a<=pre.length->(iG pre a).length<=3)->(∀l∈pre,l.pr.ok=true)->rJ pre ls=true->
  linked (pre++ls)/\(∀a,a<=(pre++ls).length->(iG (pre++ls) a).length<=3)/\∀l∈pre++ls,l.pr.ok=true
 | [],pre,h1,h2,c,_=>by simpa using⟨h1,h2,c⟩
 |l::ls,pre,h1,h2,c,h=>by
  simp only[rJ,U]at h;obtain⟨f,j,k⟩:=Xb h.1;have d:=Sr h1 f.1 f.2;have:=Jq (ls:=ls) d (fun a i=> ?_) (fun x hx=> ?_) h.2
  ·simpa using this
  ·simp only[aq,ai]at i
   by_cases b:a<=pre.length
   ·have e:iG (pre++ [l]) a=iG pre a:=by simp only[iG];exact Om h1 a a b
    rw[e];exact h2 a b
   ·have:a=pre.length+1:=by omega
    subst this;rw[wG d (by simp)];have e:(pre++ [l]).getD pre.length default=l:=by simp[V]
    have g:iG (pre++ [l]) l.fr.toNat=iG pre l.fr.toNat:=by simp only[iG];exact Om h1 _ _ (by omega)
    rw[e,g];simp;omega
  ·rcases cb.1 hx with hx|hx
   ·exact c x hx
   ·simp only[b5]at hx;rw[hx];exact j
structure Pc.Good (p:Pc):Prop where
 l1:1<=p.links.length
 l2:p.links.length<=5
 h1:1<=p.hands.length
 h2:p.hands.length<=4
 lk:linked p.links
 short:∀a,a<=p.links.length->(iG p.links a).length<=3
 pr:∀l∈p.links,l.pr.ok=true
 hd:∀n∈p.hands,1<=n/\n<=p.links.length
variable{p:Pc}
def Pc.good (h:p.ok=true):p.Good:=by
 simp only[Pc.ok,inR,U,decide_eq_true_eq,aD,ge_iff_le]at h;obtain⟨⟨⟨h1,h2⟩,f⟩,g⟩:=h;obtain⟨c,d,e⟩:=Jq (ls:=p.links) (pre:=[]) (fun i hi=>by simp at hi) (fun a b=>by simp at b;subst b;simp[iG,yJ]) (by simp) f;simp only[ce]at c d e;exact⟨by omega,by omega,by omega,by omega,c,d,e,g⟩
def Pc.Good.apZ (h:p.Good){a:Nat}(c:a<=p.links.length)(d:0<a):fF (l7 p.links a)=true:=by
 have h1:=h.short a c;obtain⟨b,rfl⟩:∃b,a=b+1:=⟨a - 1,by omega⟩
 have h2:1<=(iG p.links (b+1)).length:=by rw[wG h.lk c];simp
 simp only[fF,l7,inR,U,decide_eq_true_eq,aD,Q,aw,ge_iff_le];refine⟨by omega,?_⟩;rintro x ⟨i,hi,rfl⟩;have:=ZG h.lk c i hi;exact h.pr _ (getD_mem (by omega))
def aj0 (p:Pc)(hl:p.links.length<=1000)(hh:p.hands.length<=1000):Pure C 206 [p.dv] (pI (if p.ok then 0 else 2)) []:=by
 refine ah JD aI ?_;have a:=wE p hl hh;simp only[lU]at a⊢;simp only[JD,aI,RN,F,H,O];refine ak a ?_;cases h:p.ok<;>(try simp only[RN])<;>rfl
variable{bs:List (Option (List PV))}{fz:List Nat}{ar:List (Option Arr)}{K:PV->Mem->Prop}{base:Nat}{KP:DV->Mem->Prop}{ds:List DV}
def mF {C:Ctx}{f:FuncId}{args:List PV}{ds':List DV}{r:PV}{rows:List Arr}(h1:gV args=some ds)(h2:ds.map DV.strip=ds')(c:Pure C f ds' r rows)(hs:∀A∈rows,A.st≠2)
  (b:K (r.shift ar.length) ⟨bs,fz,ar++rows.map some⟩):au C base (.kZ f) args ⟨bs,fz,ar⟩ K KP:=by
 have e:=IB h1;subst e;have a:bV ⟨bs,fz,ar⟩ (ds.map .d)=some ds:=by
  clear h1 h2 c b
  induction ds with
  |nil=>rfl
  |cons d ds g=>simp only[aL,bV,datum,g]
 exact⟨ds,a,r,rows,h2▸c, .inr ⟨hs,by rw[BG];exact b⟩⟩
def akd (p:Pc)(b:p.ok=true)(a:Nat)(f:0<a)(g:a<=p.links.length):Pure C 324 [p.dv,dI a] (.d (.tup [sF ((l7 p.links a).map Pr.dv),dI 0])) []:=by
 have h:=Pc.good b;obtain⟨j,k,l,m,e,_⟩:=h;have hi:=wE p (by omega) (by omega);have c:=OJ p e (by omega) a g f;have i:inR (a:Int) 1 (p.links.length:Int)=true:=by simp[inR];omega
 refine ah JF bn ?_;simp only[lU]at hi c⊢;simp only[JF,bn,RN,F,H,O];refine ak hi ?_;simp only[b,Q,RN,F,H,O];refine ak (Ip _ _ _) ?_;simp only[i,RN,F,H,O];refine ak c ?_;(try simp only[RN])
def wM (p:Pc)(hand:Int)(f:Fr)(turns:Int):Int×Int:=
 if p.ok&&inR hand 0 (p.hands.length - 1)then afN (l7 p.links (p.hands.getD hand.toNat default).toNat) f turns else(0,2)
def ac1 (p:Pc)(hl:p.links.length<=1000)(hh:p.hands.length<=1000)(hand:Int)(f:Fr)(turns:Int):Pure C 294 [p.dv,dI hand,f.dv,dI turns] (.d (.tup [dI (wM p hand f turns).1,dI (wM p hand f turns).2])) []:=by
 have hi:=wE p hl hh;have k:cn .i64 ((p.hands.length:Int) - 1)=(p.hands.length:Int) - 1:=aF (by omega);refine ah JG Xu ?_;simp only[lU,aS]at hi⊢;simp only[JG,Xu,RN,F,H,O];refine ak hi ?_;cases b:p.ok
 ·(try simp only[RN,F,H])
  simp[wM,b]
 ·have c:=Pc.good b
  simp only[Q,k,RN,F,H,O];refine ak (Ip _ _ _) ?_;cases e:inR hand 0 ((p.hands.length:Int) - 1)
  ·(try simp only[RN,F,H])
   simp[wM,b,e]
  ·have g:0<=hand/\hand<=(p.hands.length:Int) - 1:=by simpa[inR]using e
   have a:hand.toNat<p.hands.length:=by omega
   obtain⟨l,m⟩:=c.hd _ (getD_mem a);obtain⟨q,i⟩:∃q:Nat,p.hands.getD hand.toNat default=q:=⟨(p.hands.getD hand.toNat default).toNat,by omega⟩
   have j:=OJ p c.lk hl q (by omega) (by omega);have h:=aoO (l7 p.links q) f turns (by have:=c.short q (by omega);simp[l7];omega);simp only[lU,aS]at j h;simp only[g.1,a,getD_map,aW,Q,i,RN,F,H,O];refine ak j ?_;refine ak h ?_;(try simp only[RN]);simp only[wM,b,e,bB,if_true,i,S]
def alu (xs:List Lk):∀y∈xs.map Lk.dv,y.fits 3=true:=by
 intro y a;obtain⟨n,_,rfl⟩:=aw.1 a;rfl
variable{sz:Nat}{M:Mem}{x:DV}
def II {C:Ctx}{z:DV}(hx:x.strip.fits sz=true)(a:0<sz):au C base (.ng sz [z] [0]) [.d x] M K KP=K (.tsl M.aC.length 0 0) {M with aC:=M.aC++ [some ⟨sz,[x.strip],0,1⟩]}:=by
 have b:x.strip.cells.length=sz:=by simp only[DV.fits,U,beq_iff_eq]at hx;exact hx.1
 simp[au,gV,qJ,b,hx,a]
def mulR (f:Fr)(p:Pr):Fr:=⟨f.n*p.a,f.d*p.b⟩
def zq:List Lk->List Fr->List Fr
 | [],a=>a
 |l::ls,a=>zq ls (a++ [mulR (a.getD l.fr.toNat default) l.pr])
def fZ (ls:List Lk):List Fr:=zq ls [⟨1,1⟩]
def VI (a b:Fr):Bool:=a.n*b.d==b.n*a.d
def EP (l:List Fr):Prop:=∀i,i<l.length->(1<=(l.getD i default).n/\(l.getD i default).n<=60 ^ i)/\1<=(l.getD i default).d/\(l.getD i default).d<=60 ^ i
def aiO {i j:Nat}(h:i<=j):(60:Int) ^ i<=60 ^ j:=by
 have:=Nat.pow_le_pow_right (show 60>0 by decide) h
 exact_mod_cast this
def PX {c:List Fr}(h:EP c)(r:c≠[])(hf:0<=l.fr/\l.fr.toNat<c.length)(f:l.pr.ok=true):EP (c++ [mulR (c.getD l.fr.toNat default) l.pr]):=by
 intro i hi;simp only[aq,ai]at hi
 by_cases d:i<c.length
 ·have:=h i d
  simpa[V,ab d]using this
 ·have:i=c.length:=by omega
  subst this;have e:(c++ [mulR (c.getD l.fr.toNat default) l.pr]).getD c.length default=mulR (c.getD l.fr.toNat default) l.pr:=by simp[V]
  rw[e];obtain⟨⟨k,m⟩,n,o⟩:=h _ hf.2;simp only[Pr.ok,aT,inR,U,decide_eq_true_eq,ge_iff_le]at f;have j:l.fr.toNat+1<=c.length:=by omega
  have g:(60:Int) ^ (l.fr.toNat+1)<=60 ^ c.length:=aiO j;rw[Int.pow_succ]at g;have p:=X m f.1.2 (by omega) (by omega);have q:=X o f.2.2 (by omega) (by omega);have b1:=X k (show 1<=l.pr.a by omega) (by omega) (by omega);have b2:=X n (show 1<=l.pr.b by omega) (by omega) (by omega);simp only[mulR];omega
def JK:∀{ls:List Lk} {a:List Fr},EP a->a≠[]->(∀i,i<ls.length->0<=(ls.getD i default).fr/\(ls.getD i default).fr<(a.length+i:Nat))->(∀l∈ls,l.pr.ok=true)->
  EP (zq ls a)/\(zq ls a).length=a.length+ls.length
 | [],a,h,_,_,_=>by simpa[zq]using h
 |l::ls,a,h,e,b,d=>by
  have c:=b 0 (by simp);simp only[List.getD_cons_zero]at c;obtain⟨g,j⟩:=JK (ls:=ls) (PX h e ⟨c.1,by omega⟩ (d l (by simp))) (by simp) (fun i hi=>by
   have:=b (i+1) (by simp only[aE];omega);rw[List.getD_cons_succ]at this;rw[aq,ai];omega) (fun x f=>d x (by simp[f]))
  refine⟨g,?_⟩;rw[zq,j];simp;omega
def Vz:EP [⟨1,1⟩]:=by
 intro i hi;have:i=0:=by simpa using hi
 subst this;simp
def uQ (h:linked ls)(a:∀l∈ls,l.pr.ok=true):EP (fZ ls)/\(fZ ls).length=ls.length+1:=by
 obtain⟨b,c⟩:=JK (ls:=ls) Vz (by simp) (fun i hi=>by have:=h i hi;rw[ai];omega) a;exact⟨b,by rw[fZ,c];simp;omega⟩
def uP (p:Pc):DV:= .agg [sF (p.links.map Lk.dv),sF (p.hands.map ay),sF ((fZ p.links).map Fr.dv)]
def XU (p:Pc)(hl:p.links.length<=6)(hk:linked p.links)(u:∀l∈p.links,l.pr.ok=true):Pure C 320 [p.dv] (.d (uP p)) []:=by
 refine bM (aB MS Xv ?_);simp only[MS,Xv,lU,afc,bD,ae,dD,gQ,dO,II (x:= .agg [dI 1,dI 1]) (sz:=2) rfl (by decide),DV.strip,Q,RN,F,H,J,O];refine aG p.links.length (fun i (a:List Fr×Nat)=>⟨[(1, .d (.aP [sF (p.links.map Lk.dv),sF (p.hands.map ay)])),(2, .ptr 1 0),(3, .ptr 2 0),(12,pI p.links.length),(13,pI i)],
   ⟨[some [.d (sF (p.links.map Lk.dv)), .d (sF (p.hands.map ay))],some [.d (.slice true []), .d (.slice true []), .d (.slice true [])],some [.d (sF (p.links.map Lk.dv)), .d (sF (p.hands.map ay)), .tsl 0 a.2 0]],[0],[some ⟨2,a.1.map Fr.dv,a.2,1⟩]⟩⟩)
  (fun i a=>fZ p.links=zq (p.links.drop i) a.1/\EP a.1/\a.1.length=i+1) 0 ([⟨1,1⟩],0) (Z _) ?_ ⟨rfl,Vz,rfl⟩ (fun i a h1 e=> ?_) (fun a e=> ?_)
 ·rfl
 ·obtain⟨h2,s,t⟩:=rng h1 (by omega)
  obtain⟨e,g,f⟩:=e;obtain⟨c,v⟩:=a;simp only at e g f;rw[drop_cons h1,zq]at e;obtain⟨o,z⟩:=hk i h1;have h:(p.links.getD i default).fr.toNat<c.length:=by omega
  have j:=u _ (getD_mem h1);obtain⟨⟨A,B⟩,D,E⟩:=g _ h;have m:=aiO (show(p.links.getD i default).fr.toNat<=6 by omega);rw[show(60:Int) ^ 6=46656000000 by decide]at m;have aob:=j;simp only[Pr.ok,aT,inR,U,decide_eq_true_eq,ge_iff_le]at aob;have w:=X (show(c.getD (p.links.getD i default).fr.toNat default).n<=46656000000 by omega) aob.1.2 (by omega) (by omega);have y:=X (show(c.getD (p.links.getD i default).fr.toNat default).d<=46656000000 by omega) aob.2.2 (by omega) (by omega);have b1:=an (show 0<=(c.getD (p.links.getD i default).fr.toNat default).n by omega) (show 0<=(p.links.getD i default).pr.a by omega);have b2:=an (show 0<=(c.getD (p.links.getD i default).fr.toNat default).d by omega) (show 0<=(p.links.getD i default).pr.b by omega);have q:cn .i64 ((c.getD (p.links.getD i default).fr.toNat default).n*(p.links.getD i default).pr.a)=(c.getD (p.links.getD i default).fr.toNat default).n*(p.links.getD i default).pr.a:=aF (by omega);have r:cn .i64 ((c.getD (p.links.getD i default).fr.toNat default).d*(p.links.getD i default).pr.b)=(c.getD (p.links.getD i default).fr.toNat default).d*(p.links.getD i default).pr.b:=aF (by omega);have k:c.length<=1073741823:=by omega
  simp only[h2,h1,s,t,o,h,getD_map,Fz,aS,S,Q,DV.strip,Qq,forall_eq,dJ,dO,q,r,RN,F,H,I,J,N,O];refine⟨by simp,k,?_⟩;refine bQ 3 1 (c++ [mulR (c.getD (p.links.getD i default).fr.toNat default) (p.links.getD i default).pr],v+1) h1 ?_ ⟨e,PX g (by rintro rfl;simp at f) ⟨o,h⟩ j,by simp[f]⟩ (by simp) (by simp) rfl rfl;simp only[av,aL,bj,aS,mulR]
  rfl
 ·obtain⟨e,g,f⟩:=e
  rw[ao,zq]at e;simp only[am,bD,ae,dD,gQ,dO,RN,F,H,J,O];simp[datum,bT,dR,Mem.row,uP,e]
structure Chg where
 link:Int
 pr:Pr
 deriving DecidableEq,Inhabited
def Chg.dv (c:Chg):DV:= .agg [dI c.link,dI c.pr.a,dI c.pr.b]
variable{c:Chg}
def Gu:c.dv= .agg [dI c.link,dI c.pr.a,dI c.pr.b]:=by rw[Chg.dv]
def Pc.changed (p:Pc)(c:Chg):Pc:={p with links:=p.links.set c.link.toNat ⟨(p.links.getD c.link.toNat default).fr,c.pr⟩}
def UR (xs:List DV)(hf:∀y∈xs,y.fits 3=true)(hl:xs.length<=1000000)(a:xs≠[]):Pure C 214 [.slice false xs] (.tsl 0 0 0) [⟨3,xs,0,1⟩]:=by
 refine eU ni aI ?_;simp only[ni,aI,RN,F,N];refine⟨fun _=> ?_,fun b=>absurd b a⟩;exact⟨hf,a,by simp,by omega,gJ (k:=1) (A:=⟨3,xs,0,1⟩) rfl rfl (Z _) rfl⟩
def rF {n k ver i off sz:Nat}{xs:List DV}{v:PV}{K:Mem->Prop}(h:ar[k]?=some (some ⟨sz,xs,ver,1⟩))(hv:gV v.cells=some ds)(a:0<n)(hl:ds.length=n)(h1:ds.all DV.one=true)(ho:off+n<=(xs.getD i default).cells.length)
  (b:K ⟨bs,fz,ar.set k (some ⟨sz,xs.set i (setCells (xs.getD i default) off ds),ver,1⟩)⟩):jM n (.jX k ver i off) v ⟨bs,fz,ar⟩ K:=by
 simp only[jM,Mem.row,h,if_true,hv];exact⟨trivial,a,hl,h1,ho,b⟩
def UQ (p:Pc)(c:Chg)(hl:p.links.length<=1000)(a:0<=c.link)(h1:c.link.toNat<p.links.length):Pure C 322 [p.dv,c.dv] (.d (p.changed c).dv) []:=by
 refine bM (aB FV JQ ?_);have b:p.links.map Lk.dv≠[]:=by intro h;simp at h;rw[h]at h1;simp at h1
 simp only[FV,JQ,lU,Gu,RN,F,H,O];refine mF rfl rfl (UR _ (alu _) (by rw[Q];omega) b) (by simp) ?_;simp only[PV.shift,jw,dJ,dO,b8,a,h1,Q,RN,H,J,O];refine rF rfl rfl (by decide) rfl rfl (by rw[getD_map h1,Fz];exact be 3) ?_;simp only[getD_map h1,Fz,setCells,bD,dD,gQ,dO,RN,H,J,O];simp only[datum,bT,dR,Mem.row,Pc.changed,List.map_set,Fz];simp
def yE {α:Type}(l:List α):Nat:=bif l.isEmpty then 0 else 1
def ajG {α:Type}{l:List α}{x:α}:yE (l++ [x])=1:=by cases l<;>rfl
def I8 {α:Type}{l:List α}:yE l≠2:=by cases l<;>simp[yE]
def ER (l:List Fr):Prop:=∀f∈l,(1<=f.n/\f.n<=777600000)/\1<=f.d/\f.d<=777600000
def Td (a b:Fr)(c:(1<=a.n/\a.n<=777600000)/\1<=a.d/\a.d<=777600000)(hb:(0<=b.n/\b.n<=777600000)/\1<=b.d/\b.d<=777600000):Pure C 351 [a.dv,b.dv] (.d (.bool (VI a b))) []:=by
 have g:=X c.1.2 hb.2.2 (by omega) (by omega);have h:=an (show 0<=a.n by omega) (show 0<=b.d by omega);have i:=X hb.1.2 c.2.2 (by omega) (by omega);have j:=an (show 0<=b.n by omega) (show 0<=a.d by omega);have e:cn .i64 (a.n*b.d)=a.n*b.d:=aF (by omega);have f:cn .i64 (b.n*a.d)=b.n*a.d:=aF (by omega);refine ah BX aH ?_;simp only[BX,aH,aS,e,f,VI,RN,F,H,O]
def ES (h:linked ls)(d:∀l∈ls,l.pr.ok=true)(hl:ls.length<=5):ER (fZ ls):=by
 obtain⟨e,g⟩:=uQ h d;intro f b;obtain⟨i,hi,rfl⟩:=List.mem_iff_getElem.1 b;have c:(fZ ls).getD i default=(fZ ls)[i]:=by simp[V,hi]
 have:=e i hi;rw[c]at this;have a:=aiO (show i<=5 by omega);rw[show(60:Int) ^ 5=777600000 by decide]at a;omega
def Bf (a b:List Fr):List Int->Nat->List Int
 | [],_=>[]
 |h::c,i=>(if VI (a.getD h.toNat default) (b.getD h.toNat default)then[]else[(i:Int)])++Bf a b c (i+1)
def Nv (a b:List Fr):∀(hs:List Int) (i:Nat),(Bf a b hs i).length<=hs.length
 | [],_=>be _
 |h::hs,i=>by
  have:=Nv a b hs (i+1);simp only[Bf,aq,aE]
  split<;>simp<;>omega
def Pc.yD (p q:Pc):List Int:=Bf (fZ p.links) (fZ q.links) p.hands 0
def TA (p q:Pc)(hh:p.hands.length<=1000)(t:ER (fZ p.links))(g:ER (fZ q.links))(s:∀n∈p.hands,1<=n/\n.toNat<(fZ p.links).length/\n.toNat<(fZ q.links).length):
  SC C 321 ([uP p,uP q].map .d) bG (fun v M=>Jj M v 1 ((p.yD q).map ay) (yE (p.yD q))) (fun _ _=>False):=by
 refine aB xM aH ?_;simp only[xM,aH,uP,Q,RN,F,H,N,O];refine aG p.hands.length (fun i (a:List Int×Nat)=>⟨[(2, .d (.aP [sF (p.links.map Lk.dv),sF (p.hands.map ay),sF ((fZ p.links).map Fr.dv)])),(3, .d (.aP [sF (q.links.map Lk.dv),sF (q.hands.map ay),sF ((fZ q.links).map Fr.dv)])),(5, .tsl 1 a.2 0),(10, .d (sF (p.hands.map ay))),(11,pI p.hands.length),(12,pI i)],
   ⟨[some [.d (sF (p.links.map Lk.dv)), .d (sF (p.hands.map ay)), .d (sF ((fZ p.links).map Fr.dv))],some [.d (sF (q.links.map Lk.dv)), .d (sF (q.hands.map ay)), .d (sF ((fZ q.links).map Fr.dv))]],[1,0],[some ⟨1,[],0,0⟩,some ⟨1,a.1.map ay,a.2,yE a.1⟩]⟩⟩)
  (fun i a=>p.yD q=a.1++Bf (fZ p.links) (fZ q.links) (p.hands.drop i) i/\a.1.length<=i) 0 ([],0) (Z _) rfl ⟨rfl,be _⟩ (fun i a h1 b=> ?_) (fun a b=> ?_)
 ·obtain⟨h2,r,k⟩:=rng h1 (by omega)
  obtain⟨b,e⟩:=b;obtain⟨c,v⟩:=a;simp only at b e;rw[drop_cons h1,Bf]at b;obtain⟨u,o,n2⟩:=s _ (getD_mem h1);have j:0<=p.hands.getD i default:=by omega
  have m:=Td _ _ (t _ (getD_mem o)) ⟨⟨by have:=g _ (getD_mem n2);omega,(g _ (getD_mem n2)).1.2⟩,(g _ (getD_mem n2)).2⟩;simp only[aS]at m;simp only[h2,h1,r,j,o,n2,getD_map,aW,aS,S,Q,RN,F,H,O];refine ak m ?_;cases l:VI ((fZ p.links).getD (p.hands.getD i default).toNat default) ((fZ q.links).getD (p.hands.getD i default).toNat default)
  ·have f:c.length<=1073741823:=by omega
   have h:¬yE c=2:=I8;simp only[gB,DV.strip,fits_int,forall_eq,k,Q,h,RN,F,H,N,O];refine⟨by simp,f,?_⟩;rw[l]at b;refine dh (c++ [(i:Int)],v+1) h1 ?_ ⟨by simpa using b,by simp;omega⟩ (by simp) (by simp) rfl rfl;simp[ajG,ay]
  ·simp only[k,RN,F,H]
   rw[l]at b;exact dh (c,v) h1 rfl ⟨by simpa using b,by simp only;omega⟩ (by simp) (by simp) rfl rfl
 ·obtain⟨b,e⟩:=b
  rw[ao,Bf,List.append_nil]at b;simp only[am,RN,F,H];exact⟨1,a.2,rfl,by rw[b];rfl⟩
def Pc.Ld (p:Pc)(c:Chg):Bool:=p.ok&&inR c.link 0 (p.links.length - 1)&&c.pr.ok&& !decide (c.pr=(p.links.getD c.link.toNat default).pr)
def adL {v x:Pr}:((v.a==x.a)&&(v.b==x.b))=decide (v=x):=by
 cases v;cases x;simp only[Pr.mk.injEq,Bool.decide_and];rfl
def Em (b:p.Good)(hc:c.pr.ok=true):(p.changed c).links.length=p.links.length/\linked (p.changed c).links/\(∀l∈(p.changed c).links,l.pr.ok=true):=by
 refine⟨by simp[Pc.changed],fun i hi=> ?_,fun l d=> ?_⟩
 ·simp only[Pc.changed,ca]at hi
  have:=b.lk i hi
  by_cases a:c.link.toNat=i
  ·subst a
   simpa[Pc.changed,V,hi]using this
  ·simpa[Pc.changed,V,bz,a]using this
 ·rcases br d with h|h
  ·exact b.pr l h
  ·rw[h];exact hc
def aai (a:p.Good)(hc:c.pr.ok=true):ER (fZ p.links)/\ER (fZ (p.changed c).links)/\∀n∈p.hands,1<=n/\n.toNat<(fZ p.links).length/\n.toNat<(fZ (p.changed c).links).length:=by
 obtain⟨f,b,d⟩:=Em a hc;refine⟨ES a.lk a.pr a.l2,ES b d (by have:=a.l2;omega),fun n e=> ?_⟩;have h1:=(uQ a.lk a.pr).2;have h2:=(uQ b d).2;have:=a.hd n e;omega
def agK (p:Pc)(c:Chg)(h:p.Ld c=true):Pure C 282 [p.dv,c.dv] (.tup [.tsl 0 0 0,pI 0]) [⟨1,(p.yD (p.changed c)).map ay,0,yE (p.yD (p.changed c))⟩]:=by
 simp only[Pc.Ld,U,bt,decide_eq_false_iff_not]at h;obtain⟨⟨⟨o,q⟩,l⟩,m⟩:=h;have d:=Pc.good o;have j:0<=c.link/\c.link<=(p.links.length:Int) - 1:=by simpa[inR]using q
 have f:c.link.toNat<p.links.length:=by have:=d.l1;omega
 have u:=d.l2;have t:=d.h2;have hi:=wE p (by omega) (by omega);obtain⟨x,v,w⟩:=Em d l;obtain⟨r1,r2,r3⟩:=aai d l;have i:=XK c.pr;have r:=XU p (by omega) d.lk d.pr;have k:=XU (p.changed c) (by omega) v w;have e:=UQ p c (by omega) j.1 f;have n:=Ic (TA p (p.changed c) (by omega) r1 r2 r3);generalize p.yD (p.changed c)=sp at n⊢;have s:cn .i64 ((p.links.length:Int) - 1)=(p.links.length:Int) - 1:=aF (by omega);have g:((c.pr.a==(p.links.getD c.link.toNat default).pr.a)&&(c.pr.b==(p.links.getD c.link.toNat default).pr.b))=false:=by rw[adL];simpa using m
 refine eU DK bn ?_;simp only[lU,Gu,dW,uP,Pc.changed]at hi i r k e n⊢;simp only[DK,bn,RN,F,H,O];refine ak hi ?_;simp only[o,Q,s,RN,F,H,O];refine ak (Ip _ _ _) ?_;simp only[q,RN,F,H,O];refine ak i ?_;simp only[l,j.1,f,getD_map,Fz,Q,iD,g,KW,RN,F,H,O];refine ak r ?_;(try simp only[RN]);refine ak e ?_;(try simp only[RN,F,H,I,J,N,O]);refine ak k ?_;(try simp only[RN]);refine mF rfl rfl n (by simp[I8]) ?_;simp only[PV.shift,jw,RN];refine⟨[(0,0)],⟨by simp[BK],by simp⟩,?_,?_⟩
 ·simp[gV,acR,ren,ai2,Ti,Mem.row,Nb]
 ·simp[mkRow]
def jy:List Int->Int->Int
 | [],p=>p
 |x::xs,p=>jy xs (p+x)
def adT {B:Int}:∀(l:List Int) (p:Int),(∀x∈l,0<=x/\x<=B)->0<=p->0<=jy l p/\jy l p<=p+l.length*B
 | [],p,_,h=>by simp[jy];omega
 |x::l,p,h,e=>by
  obtain⟨a,b⟩:=h x (by simp);obtain⟨d,f⟩:=adT l (p+x) (fun y c=>h y (by simp[c])) (by omega);refine⟨d,?_⟩;have:((l.length+1:Nat):Int)*B=l.length*B+B:=by rw[Int.natCast_add,ax];simp
  rw[aE,this];simp only[jy];omega
def zF:∀(l:List Int) (p:Int),(∀x∈l,0<=x)->p<=jy l p
 | [],_,_=>a7 _
 |x::l,p,h=>by
  have:=zF l (p+x) fun y a=>h y (by simp[a])
  have:=h x (by simp);simp only[jy];omega
def aoD (l:List Int)(hl:l.length<=1000000)(hx:∀x∈l,0<=x)(hb:jy l 0<=9223372036854775807):Pure C 270 [sF (l.map ay)] (pI (jy l 0)) []:=by
 refine ah BZ aI ?_;simp only[BZ,aI,Q,RN,F];refine aG l.length (fun i (p:Int)=>⟨[(3,pI p),(6, .d (sF (l.map ay))),(7,pI l.length),(8,pI i)],⟨[],[],[]⟩⟩)
  (fun i p=>0<=p/\jy l 0=jy (l.drop i) p) 0 0 (Z _) rfl ⟨by omega,rfl⟩ (fun i p h1 a=> ?_) (fun p a=> ?_)
 ·obtain⟨h2,c,e⟩:=rng h1 hl
  obtain⟨f,a⟩:=a;rw[drop_cons h1,jy]at a;have g:=hx _ (getD_mem h1);have j:=zF (l.drop (i+1)) (p+l.getD i default) (fun y h=>hx y (bS h));have b:cn .i64 (p+l.getD i default)=p+l.getD i default:=aF (by omega);simp only[h2,c,h1,e,aW,getD_map,S,Q,b,RN,F,O];exact dh (p+l.getD i default) h1 rfl ⟨by omega,a⟩ (by simp) (by simp) rfl rfl
 ·obtain⟨f,a⟩:=a
  rw[ao,jy]at a;simp only[am,a,RN,F]
def upI (a b:Int):Int:=(a+b - 1).tdiv b
def amR (a b:Int)(g:0<=a/\a<=1000000000000000000)(hb:1<=b/\b<=1000000000000000000):Pure C 269 [dI a,dI b] (pI (upI a b)) []:=by
 have c:cn .i64 (a+b)=a+b:=aF (by omega);have d:cn .i64 (a+b - 1)=a+b - 1:=aF (by omega);have b1:=Ja (a+b - 1) b;have e:cn .i64 ((a+b - 1).tdiv b)=(a+b - 1).tdiv b:=aF (by omega);have f:b≠0:=by omega
 refine ah SV aH ?_;simp only[SV,aH,c,d,e,f,upI,RN,F,H]
def Yc (n:Int):Pure C 314 [dI n] (.d (.bool (!aT n))) []:=by
 refine ah AL aI ?_;simp only[AL,aI,RN,F];refine ak (TW n) ?_;(try simp only[RN])
def Jb (l:List Int):Bool:=decide ((l.length:Int)<=8)&&l.all aT
def aaG (l:List Int)(hl:l.length<=1000000):Pure C 267 [sF (l.map ay)] (.d (.bool (Jb l))) []:=by
 refine ah DL aI ?_;simp only[DL,aI,Q,RN,F]
 repeat' first
  |(refine cO rfl rfl (lQ l _ [] (fun n=> !aT n) hl (by kernel_rfl) (fun n _=>Yc n)) ?_;try simp only[RN])
  |(refine aJ (by rfl) (fun a=> ?_) (fun a=> ?_)<;>simp only[a,RN,F])
  |(refine aK (by rfl) (fun a=> ?_) (fun a=> ?_)<;>simp only[a,Q,RN,F,H,I,J,N,O])
 all_goals(first|(rw[Ef])|skip)
 all_goals(first|(simp only[Jb, *,BSN];done)|(simp_all[Jb];done)|(simp_all[Jb];omega))
structure Bil where
 aU:List Int
 l9:Int
 hours:Int
 xZ:Int
 pct:Int
 adv:Int
 deriving DecidableEq,Inhabited
def Bil.dv (b:Bil):DV:= .agg [sF (b.aU.map ay),dI b.l9,dI b.hours,dI b.xZ,dI b.pct,dI b.adv]
variable{b:Bil}
def abe:b.dv= .agg [sF (b.aU.map ay),dI b.l9,dI b.hours,dI b.xZ,dI b.pct,dI b.adv]:=by rw[Bil.dv]
def Bil.ok (b:Bil):Bool:=Jb b.aU&&inR b.l9 0 1000&&inR b.hours 0 40&&inR b.xZ 0 100&&inR b.pct 0 100&&inR b.adv 0 1000000
def Bil.cost (b:Bil):Int:=upI (jy (b.aU.map fun n=>n*n) 0*b.l9) 100+b.hours*b.xZ
def Bil.price (b:Bil):Int:=b.cost+upI (b.cost*b.pct) 100
def Bil.V3 (b:Bil):Int×Int×Int:=if b.ok then(b.price,b.price - b.adv,0)else(0,0,2)
def Bil.facts (h:b.ok=true):(b.aU.length<=8/\∀n∈b.aU,4<=n/\n<=60)/\(0<=b.l9/\b.l9<=1000)/\(0<=b.hours/\b.hours<=40)/\(0<=b.xZ/\b.xZ<=100)/\(0<=b.pct/\b.pct<=100)/\0<=b.adv/\b.adv<=1000000:=by
 simp only[Bil.ok,Jb,aT,inR,U,decide_eq_true_eq,aD,ge_iff_le]at h;obtain⟨⟨⟨⟨⟨⟨h1,h2⟩,a⟩,c⟩,d⟩,e⟩,f⟩:=h;exact⟨⟨by omega,h2⟩,a,c,d,e,f⟩
def acS {a:Int}(b:0<=a):0<=upI a 100/\upI a 100<=a+99:=by
 have:upI a 100=(a+99) / 100:=by
  rw[upI,Int.tdiv_eq_ediv_of_nonneg (by omega)]
  congr 1
  omega
 rw[this];omega
def Bil.bds (h:b.ok=true):(0<=jy (b.aU.map fun n=>n*n) 0/\jy (b.aU.map fun n=>n*n) 0<=28800)/\(0<=jy (b.aU.map fun n=>n*n) 0*b.l9/\jy (b.aU.map fun n=>n*n) 0*b.l9<=28800000)/\
  (0<=b.hours*b.xZ/\b.hours*b.xZ<=4000)/\(0<=b.cost/\b.cost<=28805000)/\0<=b.cost*b.pct/\b.cost*b.pct<=2880500000:=by
 obtain⟨⟨h1,h2⟩,d,e,f,g,m⟩:=Bil.facts h;have s:=adT (B:=3600) (b.aU.map fun n=>n*n) 0 (fun x k=>by
  obtain⟨n,j,rfl⟩:=aw.1 k;obtain⟨a,c⟩:=h2 n j;have:=X c c (by omega) (by omega);have:=an (show 0<=n by omega) (show 0<=n by omega);omega) (a7 0)
 rw[Q]at s;have m1:=X (show jy (b.aU.map fun n=>n*n) 0<=28800 by omega) d.2 (by omega) (by omega);have l:=an s.1 d.1;have o:=X e.2 f.2 (by omega) (by omega);have p:=an e.1 f.1;have u:=acS l;have i:0<=b.cost/\b.cost<=28805000:=by simp only[Bil.cost];omega
 have q:=X i.2 g.2 (by omega) (by omega);have r:=an i.1 g.1;omega
def agz (b:Bil)(hl:b.aU.length<=1000000):Pure C 210 [b.dv] (.d (.tup [dI b.V3.1,dI b.V3.2.1,dI b.V3.2.2])) []:=by
 refine ah MQ Xt ?_;simp only[MQ,Xt,abe,RN,F,H,O]
 repeat' first
  |(refine ak (aaG b.aU hl) ?_;try simp only[RN])
  |(refine ak (Ip _ _ _) ?_;try simp only[RN])
  |(refine aJ (by rfl) (fun g=> ?_) (fun g=> ?_)<;>simp only[g,RN,F,H,O])
  |(refine aK (by rfl) (fun g=> ?_) (fun g=> ?_)<;>simp only[g,RN,F,H,N,O])
 any_goals (simp_all[Bil.V3,Bil.ok];done)
 have f:b.ok=true:=by simp_all[Bil.ok]
 obtain⟨⟨h1,h2⟩,A,B,D,E,G⟩:=Bil.facts f;obtain⟨K,y,L,M,z⟩:=Bil.bds f;simp only[Q];refine aG b.aU.length (fun i (v:Nat)=>⟨[(1, .d (.aP [sF (b.aU.map ay),dI b.l9,dI b.hours,dI b.xZ,dI b.pct,dI b.adv])),(5, .tsl 0 v 0),(45, .d (sF (b.aU.map ay))),(46,pI b.aU.length),(47,pI i)],
   ⟨[some [.d (sF (b.aU.map ay)),pI b.l9,pI b.hours,pI b.xZ,pI b.pct,pI b.adv]],[0],[some ⟨1,((b.aU.take i).map fun n=>n*n).map ay,v,0⟩]⟩⟩)
  (fun i v=>True) 0 0 (Z _) rfl trivial (fun i v e _=> ?_) (fun v _=> ?_)
 ·obtain⟨t,u,w⟩:=rng e (by omega)
  obtain⟨t1,t2⟩:=h2 _ (getD_mem e);have m1:=X t2 t2 (by omega) (by omega);have I:=an (show 0<=b.aU.getD i default by omega) (show 0<=b.aU.getD i default by omega);have h:cn .i64 (b.aU.getD i default*b.aU.getD i default)=b.aU.getD i default*b.aU.getD i default:=aF (by omega);have j:(b.aU.take i).length<=1073741823:=by simp;omega
  simp only[t,u,e,w,aW,getD_map,S,Q,h,gB,DV.strip,fits_int,forall_eq,RN,F,J,N,O]
  (repeat(refine az (by first|assumption|rfl|(simp;done)|(simp;omega)) ?_))
  refine bQ 1 1 (v+1) e ?_ trivial (by simp) (by simp) rfl rfl;rw[bf e];simp[ay]
 ·rw[b9]
  have r:=aoD (b.aU.map fun n=>n*n) (by simp;omega) (fun x s=>by
   obtain⟨n,q,rfl⟩:=aw.1 s;obtain⟨a,c⟩:=h2 n q;exact an (by omega) (by omega)) (by omega)
  have P:=acS y.1;have R:=acS z.1;have h:cn .i64 (jy (b.aU.map fun n=>n*n) 0*b.l9)=jy (b.aU.map fun n=>n*n) 0*b.l9:=aF (by omega);have k:cn .i64 (b.hours*b.xZ)=b.hours*b.xZ:=aF (by omega);have l:cn .i64 (upI (jy (b.aU.map fun n=>n*n) 0*b.l9) 100+b.hours*b.xZ)=b.cost:=by rw[aF (by omega)];rfl
  have m:cn .i64 (b.cost*b.pct)=b.cost*b.pct:=aF (by omega);have o:cn .i64 (b.cost+upI (b.cost*b.pct) 100)=b.price:=by rw[aF (by omega)];rfl
  have p:cn .i64 (b.price - b.adv)=b.price - b.adv:=aF (by simp only[Bil.price];omega);simp only[am,RN,F,H,O];refine KZ rfl r rfl ?_;simp only[h,RN];refine cO rfl rfl (amR _ _ (by omega) (by omega)) ?_;simp only[k,l,RN];simp only[m];refine cO rfl rfl (amR _ _ (by omega) (by omega)) ?_;simp only[o,p,RN];simp[Bil.V3,f]
def nG (p:Pc):List Fr:=⟨1,1⟩::(b7 p.links.length).map fun i=>gu (l7 p.links (i+1))
def uV (p:Pc):List Bool:=true::(b7 p.links.length).map fun i=>((l7 p.links (i+1)).length:Int).tmod 2==0
def aj7 (p:Pc)(j:p.ok=true):Pure C 287 [p.dv] (.d (.tup [sF ((nG p).map Fr.dv),sF ((uV p).map .bool),dI 0])) []:=by
 have c:=Pc.good j;have q:=c.l2;have o:=c.h2;have hi:=wE p (by omega) (by omega);have k:=fun(a:Nat) m n=>OJ p c.lk (by omega) a n m
 refine bM (aB JE Xt ?_);simp only[lU]at hi k;simp only[JE,Xt,lU,RN,F,H,N,O];refine ak hi ?_;simp only[j,II (x:= .agg [dI 1,dI 1]) (sz:=2) rfl (by decide),II (x:= .bool true) (sz:=1) rfl (by decide),DV.strip,Q,RN,F,H,O];refine aG p.links.length (fun i (v:Nat)=>⟨[(1, .d (.aP [sF (p.links.map Lk.dv),sF (p.hands.map ay)])),(5, .tsl 2 v 0),(6, .tsl 3 v 0),(19,pI p.links.length),(20,pI i)],
   ⟨[some [.d (sF (p.links.map Lk.dv)), .d (sF (p.hands.map ay))]],[0],[some ⟨2,[],0,0⟩,some ⟨1,[],0,0⟩,some ⟨2,((nG p).take (i+1)).map Fr.dv,v,1⟩,some ⟨1,((uV p).take (i+1)).map .bool,v,1⟩]⟩⟩)
  (fun i v=>True) 0 0 (Z _) rfl trivial (fun i v h1 _=> ?_) (fun v _=> ?_)
 ·obtain⟨h2,r,h⟩:=rng h1 (by omega)
  have b:=c.apZ (a:=i+1) (by omega) (by omega);obtain⟨_,t2,s⟩:=lD b;have e:=ake (l7 p.links (i+1)) (by omega);have l:KT (l7 p.links (i+1))=(gu (l7 p.links (i+1)),((l7 p.links (i+1)).length:Int).tmod 2==0,0):=by simp[KT,b]
  rw[l]at e;simp only[aS]at e;have f:(nG p).take (i+1+1)=(nG p).take (i+1)++ [gu (l7 p.links (i+1))]:=by
   rw[bf (by simp[nG];omega)];congr 1;simp[nG,V,h1]
  have g:(uV p).take (i+1+1)=(uV p).take (i+1)++ [((l7 p.links (i+1)).length:Int).tmod 2==0]:=by
   rw[bf (by simp[uV];omega)];congr 1;simp[uV,V,h1]
  have l1:((nG p).take (i+1)).length<=1073741823:=by simp[nG];omega
  have l2:((uV p).take (i+1)).length<=1073741823:=by simp[uV];omega
  simp only[h2,h,RN,F,H,O];refine cO rfl rfl (k (i+1) (by omega) (by omega)) ?_;refine ak e ?_;simp only[gB,DV.strip,Qq,forall_eq,h,Q,rU,RN,F,H,J,N,O]
  (repeat(refine az (by first|assumption|rfl|(simp;done)|(simp;omega)) ?_))
  refine bQ 1 4 (v+1) h1 ?_ trivial (by simp) (by simp) rfl rfl;rw[f,g];simp[aS]
 ·have r1:(nG p).take (p.links.length+1)=nG p:=bL (by simp[nG])
  have r2:(uV p).take (p.links.length+1)=uV p:=bL (by simp[uV]);rw[r1,r2];simp only[am,bD,dV,RN,F];simp[datum,bT,dR,Mem.row]
def OG (p q:Pc)(hand:Int)(to:Fr):Bool:=
 VI ((fZ q.links).getD (p.hands.getD hand.toNat default).toNat default) to&&(match p.yD q with| []=>true| [x]=>x==hand| _=>false)
def amf (p q:Pc)(hand:Int)(to:Fr)(r:0<=hand)(h1:hand.toNat<p.hands.length)(hh:p.hands.length<=1000)(s:ER (fZ p.links))(k:ER (fZ q.links))(j:∀n∈p.hands,1<=n/\n.toNat<(fZ p.links).length/\n.toNat<(fZ q.links).length)(o:to.ok=true):
  Pure C 336 [uP p,uP q,dI hand,to.dv] (.d (.bool (OG p q hand to))) []:=by
 have m:=bM (SC.mono (TA p q hh s k j) fun _ _ h=>h.datum);obtain⟨t,u,n2⟩:=j _ (getD_mem h1);have g:0<=p.hands.getD hand.toNat default:=by omega
 have b:(0<=to.n/\to.n<=50000)/\1<=to.d/\to.d<=50000:=by
  simp only[Fr.ok,inR,U,decide_eq_true_eq,ge_iff_le]at o;exact o
 have a:=Td _ to (k _ (getD_mem n2)) ⟨⟨b.1.1,by omega⟩,b.2.1,by omega⟩;refine ah yY OB ?_;simp only[uP,aS]at m a⊢;simp only[yY,OB,r,h1,g,n2,getD_map,aW,aS,Q,RN,F,H,O];refine ak a ?_;cases i:VI ((fZ q.links).getD (p.hands.getD hand.toNat default).toNat default) to
 ·(try simp only[RN,F,H])
  simp only[OG,i,bk]
 ·(try simp only[RN,F,H,O])
  refine ak m ?_;have f:OG p q hand to=(match p.yD q with| []=>true| [x]=>x==hand| _=>false):=by simp only[OG,i,b0]
  rw[f];generalize p.yD q=sp;simp only[Q,RN,H]
  match sp with
  | []=>simp only[a8,BEq.rfl,RN,F]
  | [x]=>
   have c:((((0+1:Nat):Int))==0)=false:=by decide
   have e:((((0+1:Nat):Int))==1)=true:=by decide
   simp only[c,e,aW,a7,Int.toNat_zero,RN,F,N,O]
  |x::y::l=>
   have c:((((l.length+1+1:Nat):Int))==0)=false:=by simp;omega
   have e:((((l.length+1+1:Nat):Int))==1)=false:=by simp;omega
   simp only[c,e,Q,RN,F]
variable{t:Nat}{ts:List Nat}{env:List (Nat×PV)}
def abA {K:St->Prop}{k ver skip st:Nat}{xs:List DV}(h:ar[k]?=some (some ⟨sz,xs,ver,st⟩)):
  Ko (.tsl k ver skip) t ts K env ⟨bs,fz,ar⟩=sQ ts K ⟨(t, .d (sF (xs.drop skip)))::env,⟨bs,fz,ar.set k (some ⟨sz,xs,ver,2⟩)⟩⟩:=by
 have a:=(W.1 h).1;have e:ar.modify k (Option.map fun A=>{A with st:=2})=ar.set k (some ⟨sz,xs,ver,2⟩):=by
  apply List.ext_getElem?;intro i;rw[List.getElem?_modify,bz]
  by_cases hi:k=i
  ·subst hi;simp only[h,a,if_true];rfl
  ·simp[hi]
 simp[Ko,datum,Mem.row,h,Mem.frz,lg,kK,Gh,e]
def anH {K:St->Prop}:Ko (.d x) t ts K env M=sQ ts K ⟨(t, .d x)::env,M⟩:=by
 have:=BG (M:=M) (ds:=[x]);simp only[aL,bj]at this;simp only[Ko,datum,this]
def rO {nb na:Nat}{α:Type}{a:α}{E:α->St}{P:α->Prop}{μ:α->Nat}{m:Mem}(b:α)(f:μ b<μ a)(hs:(⟨env,m⟩:St)=E b)(e:P b):
  ∃d c,d<μ a/\Weak nb na ⟨env,m⟩ c/\whJ E P μ d c:=⟨μ b,_,f, .inl rfl,b,rfl,hs,e⟩
def Ym (p:Pc)(link:Nat)(a:Int):Nat->Int->List Chg
 |0,_=>[]
 |k+1,b=>(if(⟨a,b⟩:Pr)=(p.links.getD link default).pr then[]else[⟨link,⟨a,b⟩⟩])++Ym p link a k (b+1)
def UL (p:Pc)(least:Int)(w:Nat)(link:Nat):Nat->Int->List Chg
 |0,_=>[]
 |k+1,a=>Ym p link a w least++UL p least w link k (a+1)
def OT (p:Pc)(least:Int)(w:Nat):Nat->Nat->List Chg
 |0,_=>[]
 |k+1,link=>UL p least w link w least++OT p least w k (link+1)
def jQ (p:Pc)(hand:Int)(to:Fr)(least:Int)(w:Nat):Nat->Pc->Nat->Option (List Chg)
 |0,a,_=>if OG p a hand to then some []else none
 |k+1,a,fr=>(OT p least w (p.links.length - fr) fr).findSome? fun c=>(jQ p hand to least w k (a.changed c) (c.link.toNat+1)).map (c::·)
def xX {p:Pc}{hand:Int}{to:Fr}{least:Int}{w:Nat}:∀{k:Nat} {now:Pc} {fr:Nat} {l:List Chg},jQ p hand to least w k now fr=some l->l.length=k
 |0,now,fr,l,h=>by
  simp only[jQ]at h
  split at h
  ·cases h;rfl
  ·cases h
 |k+1,now,fr,l,h=>by
  simp only[jQ]at h;obtain⟨c,_,h⟩:=List.exists_of_findSome?_eq_some h;rw[Option.map_eq_some_iff]at h;obtain⟨m,h1,rfl⟩:=h;rw[aE,xX h1]
def aha (xs:List Chg):∀y∈xs.map Chg.dv,y.fits 3=true:=by
 intro y a;obtain⟨n,_,rfl⟩:=aw.1 a;rfl
def LG (r:Option (List Chg)):DV:= .tup [sF ((r.getD []).map Chg.dv), .bool r.isSome]
def Pc.changes (p:Pc)(least most hand:Int)(f:Fr):List Chg×Int:=
 if p.ok&&(aT least&&aT most&&decide (least<=most))&&decide (most - least<=10)&&inR hand 0 (p.hands.length - 1)&&f.ok then
  (match jQ p hand f least (most - least+1).toNat 0 p 0 with
  |some l=>(l,0)
  |none=>match jQ p hand f least (most - least+1).toNat 1 p 0 with
   |some l=>(l,0)
   |none=>match jQ p hand f least (most - least+1).toNat 2 p 0 with
    |some l=>(l,0)
    |none=>([],5))
 else([],2)
structure Now (p now:Pc):Prop where
 len:now.links.length=p.links.length
 lk:linked now.links
 pr:∀l∈now.links,l.pr.ok=true
def Now.changed {p now:Pc}(h:Now p now){c:Chg}(hc:c.pr.ok=true):Now p (now.changed c):=by
 refine⟨by simp[Pc.changed,h.len],fun i hi=> ?_,fun l b=> ?_⟩
 ·simp only[Pc.changed,ca]at hi
  have:=h.lk i hi
  by_cases a:c.link.toNat=i
  ·subst a
   simpa[Pc.changed,V,hi]using this
  ·simpa[Pc.changed,V,bz,a]using this
 ·rcases br b with h'|h'
  ·exact h.pr l h'
  ·rw[h'];exact hc
section
variable {p:Pc}{hand:Int}{to:Fr}{least most:Int}{bs:Nat}
def V9 (p:Pc):DV:= .aP [sF (p.links.map Lk.dv),sF (p.hands.map ay),sF ((fZ p.links).map Fr.dv)]
def ac7 (p:Pc):DV:= .aP [sF (p.links.map Lk.dv),sF (p.hands.map ay)]
def searchFn (p:Pc)(hand:Int)(to:Fr)(least most:Int)(bs:Nat):PV:=
 .func (.func 335) [] [.d (V9 p), .d (.aP [dI hand]), .d (.aP [dI to.n,dI to.d]), .d (ac7 p), .d (.aP [dI least]), .d (.aP [dI most]), .ptr bs 0]
def SearchM (p:Pc)(hand:Int)(to:Fr)(least most:Int)(bs:Nat)(M M':Mem):Prop:=
 M'.boxes[bs]?=some (some [searchFn p hand to least most bs])/\M.boxes.length<=M'.boxes.length/\M.aC.length<=M'.aC.length/\∀i∈M'.fz,i<M'.boxes.length
def af8 (t:p.Good)(h0:0<=hand)(h1:hand.toNat<p.hands.length)(a4:to.ok=true)(Y:aT least=true)(ae:aT most=true)(bh:least<=most):
  ∀(k:Nat) (now:Pc) (fr:Nat) (M:Mem),k<=2->Now p now->fr<=p.links.length->M.boxes[bs]?=some (some [searchFn p hand to least most bs])->(∀i∈M.fz,i<M.boxes.length)->
   SC C 335 [.d now.dv,pI fr,pI k, .d (V9 p), .d (.aP [dI hand]), .d (.aP [dI to.n,dI to.d]), .d (ac7 p), .d (.aP [dI least]), .d (.aP [dI most]), .ptr bs 0] M
    (fun v M'=>v= .d (LG (jQ p hand to least (most - least+1).toNat k now fr))/\SearchM p hand to least most bs M M') (fun _ _=>False):=by
 intro k
 induction k with
 |zero=>
  intro now fr ⟨bx,fz,ar⟩ hk j T e r;simp only at e r;refine aB nO Xw ?_;have az:=t.l2;have hw:=XU now (by have:=j.len;omega) j.lk j.pr;have am:=amf p now hand to h0 h1 (by have:=t.h2;omega) (ES t.lk t.pr t.l2) (ES j.lk j.pr (by have:=j.len;omega)) (fun n hn=>by
   have a1:=(uQ t.lk t.pr).2;have a2:=(uQ j.lk j.pr).2;have I:=t.hd n hn;have:=j.len;omega) a4
  simp only[lU,uP,aS]at hw am⊢;simp only[nO,Xw,Eh,Qm,a8,BEq.rfl,V9,ac7,RN,F,H,N,O];refine ak hw ?_;refine ak am ?_;simp only[abA (k:=(ar++ [some (⟨3,[],0,0⟩:Arr)]).length) Eh,ch,RN,F,];have A:(bx++ [some [PV.d (sF (now.links.map Lk.dv)), .d (sF (now.hands.map ay))]])[bs]?=some (some [searchFn p hand to least most bs]):=by rw[ab (W.1 e).1];exact e
  refine⟨?_,A,by simp,by simp,fun i hi=> ?_⟩
  rotate_left
  ·rcases aM.1 hi with rfl|hi
   ·simp
   ·have:=r i hi;simp;omega
  cases hc:OG p now hand to<;>simp only[jQ,hc]<;>rfl
 |succ k ih=>
  intro now fr ⟨bx,fz,ar⟩ hk j T e r;simp only at e r;refine aB nO Xw ?_;have az:=t.l2;have a5:4<=least/\least<=60:=by simp only[aT,inR,U,decide_eq_true_eq,ge_iff_le]at Y;exact Y
  have aq0:4<=most/\most<=60:=by simp only[aT,inR,U,decide_eq_true_eq,ge_iff_le]at ae;exact ae
  obtain⟨w,hw⟩:∃w:Nat,most - least+1=w:=⟨(most - least+1).toNat,by omega⟩
  obtain⟨R,hR⟩:∃R,R=jQ p hand to least (most - least+1).toNat (k+1) now fr:=⟨_,rfl⟩
  obtain⟨f,hf⟩:∃f:Chg->Option (List Chg),f=fun c=>(jQ p hand to least (most - least+1).toNat k (now.changed c) (c.link.toNat+1)).map (c::·):=⟨_,rfl⟩
  have ao:R=(OT p least w (p.links.length - fr) fr).findSome? f:=by rw[hR,hf];simp only[jQ,hw,S]
  rw[<-hR];have aR:(((k+1:Nat):Int)==0)=false:=by simp;omega
  have ek:cn .i64 (((k+1:Nat):Int) - 1)=(k:Int):=by rw[aF (by omega)];omega
  have A:(bx++ [some [PV.d (sF (now.links.map Lk.dv)), .d (sF (now.hands.map ay))]])[bs]?=some (some [searchFn p hand to least most bs]):=by rw[ab (W.1 e).1];exact e
  simp only[lU];simp only[nO,Xw,Eh,Qm,aR,V9,ac7,RN,F,H,N];refine kN (fun(q:Nat×Mem)=>⟨[(2, .d (dI ((k+1:Nat):Int))),(6, .d (.aP [sF (p.links.map Lk.dv),sF (p.hands.map ay)])),(7, .d (.aP [dI least])),(8, .d (.aP [dI most])),(9, .ptr bs 0),(10, .d (.aP [sF (now.links.map Lk.dv),sF (now.hands.map ay)])),(15,pI q.1)],q.2⟩)
   (fun q=>q.1<=p.links.length/\SearchM p hand to least most bs ⟨bx,fz,ar⟩ q.2/\R=(OT p least w (p.links.length - q.1) q.1).findSome? f) (fun q=>p.links.length - q.1) (fr,_) rfl ⟨T,⟨A,by simp,by simp,fun i hi=>by
    rcases aM.1 hi with rfl|hi
    ·simp
    ·have:=r i hi;simp;omega⟩,ao⟩ ?_
  rintro⟨link,M1⟩ ⟨g1,G,J⟩;simp only at g1 G J⊢
  by_cases aE:link<p.links.length
  case neg=>
   have s:¬((link:Int)<(p.links.length:Int)):=by omega
   have:p.links.length - link=0:=by omega
   rw[this,OT,List.findSome?_nil]at J;simp only[s,Q,RN,F,H,N,O];obtain⟨b1,f1,a1⟩:=M1;simp only[abA (k:=a1.length) Eh,ch,RN,F];exact⟨by rw[J];rfl,G.1,G.2.1,ck G.2.2.1 (by simp),G.2.2.2⟩
  have s:((link:Int)<(p.links.length:Int)):=by omega
  obtain⟨n1,aL⟩:∃n1,p.links.length - link=n1+1:=⟨p.links.length - link - 1,by omega⟩
  have ai:p.links.length - (link+1)=n1:=by omega
  rw[aL,OT]at J;simp only[s,Q,RN,F,H,O];refine kN (fun(q:Nat×Mem)=>⟨[(2, .d (dI ((k+1:Nat):Int))),(6, .d (.aP [sF (p.links.map Lk.dv),sF (p.hands.map ay)])),(7, .d (.aP [dI least])),(8, .d (.aP [dI most])),(9, .ptr bs 0),(10, .d (.aP [sF (now.links.map Lk.dv),sF (now.hands.map ay)])),(15,pI link),(16, .d (dI (least+(w - q.1:Nat))))],q.2⟩)
   (fun q=>q.1<=w/\SearchM p hand to least most bs ⟨bx,fz,ar⟩ q.2/\R=(UL p least w link q.1 (least+(w - q.1:Nat))++OT p least w n1 (link+1)).findSome? f) (fun q=>q.1) (w,M1) (by simp) ⟨be _,G,by simpa using J⟩ ?_
  rintro⟨m,M2⟩ ⟨k1,k2,z⟩;simp only at k1 k2 z⊢
  match m,k1,z with
  |0,k1,z=>
   have D:¬(least+((w - 0:Nat):Int)<=most):=by omega
   have h6:cn .i64 ((link:Int)+1)=((link+1:Nat):Int):=by rw[aF (by omega)];omega
   simp only[D,h6,RN,F,O];refine rO (μ:=fun q:Nat×Mem=>p.links.length - q.1) (a:=(link,M1)) (link+1,M2) (by simp only;omega) rfl ⟨by simp only;omega,k2,?_⟩;simp only[ai]
   simpa[UL]using z
  |m+1,k1,z=>
   obtain⟨a,ha⟩:∃a:Int,a=least+((w - (m+1):Nat):Int):=⟨_,rfl⟩
   have Z:a<=most:=by omega
   have an:cn .i64 (a+1)=least+((w - m:Nat):Int):=by rw[aF (by omega)];omega
   have ap:a+1=least+((w - m:Nat):Int):=by omega
   simp only[<-ha]at z⊢;rw[UL,ap,bu]at z;simp only[Z,RN,F,O];refine kN (fun(q:Nat×Mem)=>⟨[(2, .d (dI ((k+1:Nat):Int))),(6, .d (.aP [sF (p.links.map Lk.dv),sF (p.hands.map ay)])),(7, .d (.aP [dI least])),(8, .d (.aP [dI most])),(9, .ptr bs 0),(10, .d (.aP [sF (now.links.map Lk.dv),sF (now.hands.map ay)])),(15,pI link),(16,pI a),(17, .d (dI (least+(w - q.1:Nat))))],q.2⟩)
    (fun q=>q.1<=w/\SearchM p hand to least most bs ⟨bx,fz,ar⟩ q.2/\R=(Ym p link a q.1 (least+(w - q.1:Nat))++(UL p least w link m (least+(w - m:Nat))++OT p least w n1 (link+1))).findSome? f) (fun q=>q.1) (w,M2) (by simp) ⟨be _,k2,by simpa using z⟩ ?_
   rintro⟨v,⟨b3,E,I⟩⟩ ⟨q1,q2,g⟩;simp only at q1 q2 g⊢
   match v,q1,g with
   |0,q1,g=>
    have D:¬(least+((w - 0:Nat):Int)<=most):=by omega
    simp only[D,an,RN,F,O];exact rO (μ:=fun q:Nat×Mem=>q.1) (a:=(m+1,M2)) (m,⟨b3,E,I⟩) (by simp only;omega) rfl ⟨by simp only;omega,q2,by simpa[Ym]using g⟩
   |v+1,q1,g=>
    obtain⟨b,hb⟩:∃b:Int,b=least+((w - (v+1):Nat):Int):=⟨_,rfl⟩
    have ac:b<=most:=by omega
    have apA:cn .i64 (b+1)=least+((w - v:Nat):Int):=by rw[aF (by omega)];omega
    have aq:b+1=least+((w - v:Nat):Int):=by omega
    simp only[<-hb]at g⊢;rw[Ym,aq]at g;have X:(0:Int)<=(link:Int):=by omega
    obtain⟨s1,s2,s3,s4⟩:=q2;simp only at s1 s2 s3 s4;have a0:¬b3.length∈E:=fun h=>by have:=s4 _ h;omega
    have L:=(W.1 s1).1;simp only[ac,Eh,Qm,a0,X,aE,getD_map,S,Q,Fz,iD,KW,RN,F,H,O];cases he:((a==(p.links.getD link default).pr.a)&&(b==(p.links.getD link default).pr.b))
    ·(try simp only[RN,F,H,O])
     have B:¬(⟨a,b⟩:Pr)=(p.links.getD link default).pr:=by have:=adL (v:=⟨a,b⟩) (x:=(p.links.getD link default).pr);rw[this]at he;simpa using he
     rw[if_neg B,List.singleton_append,List.cons_append,List.findSome?_cons]at g;have K:∀x,(b3++ [x])[bs]?=some (some [searchFn p hand to least most bs]):=fun x=>by rw[ab L];exact s1
     have aqf:∀x:Option (List PV),bs<(b3++ [x]).length:=fun x=>by simp;omega
     have aD:cn .i64 ((link:Int)+1)=((link+1:Nat):Int):=by rw[aF (by omega)];omega
     have a7:=j.len;have aw:(⟨a,b⟩:Pr).ok=true:=by simp[Pr.ok,aT,inR];omega
     have P:=UQ now ⟨link,⟨a,b⟩⟩ (by omega) X (by simp;omega);simp only[lU,Gu]at P;simp only[K,aqf,searchFn,ek,aD,RN,O];refine ak P ?_;have u:(jQ p hand to least (most - least+1).toNat k (now.changed ⟨link,⟨a,b⟩⟩) (link+1)).map ((⟨link,⟨a,b⟩⟩:Chg)::·)=f ⟨link,⟨a,b⟩⟩:=by rw[hf];rfl
     obtain⟨o,ak6⟩:∃o,o=b3++ [some [PV.d (dI (link:Int)),PV.d (dI a),PV.d (dI b)]]:=⟨_,rfl⟩
     have av:o[bs]?=some (some [searchFn p hand to least most bs]):=by rw[ak6];exact K _
     have ax:∀i∈b3.length::E,i<o.length:=fun i hi=>by
      rw[ak6]
      rcases aM.1 hi with rfl|hi
      ·simp
      ·have:=s4 i hi;simp;omega
     have V:=ih (now.changed ⟨link,⟨a,b⟩⟩) (link+1) ⟨o,b3.length::E,I⟩ (by omega) (j.changed aw) (by omega) av ax;simp only[lU]at V;rw[<-ak6];refine qI (args:=[_,_,_]) (by kernel_rfl) (fs:=[]) ?_;refine SC.mono V ?_;rintro v1 ⟨b6,f6,a6⟩ ⟨rfl,r1,r2,r3,r4⟩;simp only at r1 r2 r3 r4;have a9:b3.length+1<=b6.length:=by rw[ak6]at r2;simpa using r2
     cases hS:jQ p hand to least (most - least+1).toNat k (now.changed ⟨link,⟨a,b⟩⟩) (link+1)with
     |none=>
      rw[hS]at u;rw[<-u]at g;simp only[LG,bp,apA,RN,F];exact rO (μ:=fun q:Nat×Mem=>q.1) (a:=(v+1,⟨b3,E,I⟩)) (v,⟨b6,f6,a6⟩) (by simp only;omega) rfl ⟨by simp only;omega,⟨r1,by simp only;omega,by simp only;omega,r4⟩,g⟩
     |some l=>
      rw[hS]at u;rw[<-u]at g;simp only[LG,bq,bE,DV.strip,rU,RN,F,H,N,O];have bc:=xX hS;refine⟨aha l,(fun h=>by cases h),(fun y hy=>by subst hy;rfl),by rw[Q];omega,?_⟩;simp only[abA (k:=a6.length) Eh,anH,bR,RN,F];exact⟨by rw[g];simp[Gu],r1,by simp only;omega,by simp;omega,r4⟩
    ·have B:(⟨a,b⟩:Pr)=(p.links.getD link default).pr:=by have:=adL (v:=⟨a,b⟩) (x:=(p.links.getD link default).pr);rw[this]at he;simpa using he
     rw[if_pos B,ce]at g;simp only[apA,RN,F];refine rO (μ:=fun q:Nat×Mem=>q.1) (a:=(v+1,⟨b3,E,I⟩)) (v,_) (by simp only;omega) rfl ⟨by simp only;omega,⟨?_,by simp;omega,s3,fun i hi=> ?_⟩,g⟩
     ·rw[ab L];exact s1
     ·rcases aM.1 hi with rfl|hi
      ·simp
      ·have:=s4 i hi;simp;omega
end
def ajF (a b:Int):Pure C 333 [dI a,dI b] (.d (.bool (aT a&&aT b&&decide (a<=b)))) []:=by
 refine ah FX aH ?_;simp only[FX,aH,RN,F,H]
 repeat' first
  |(refine ak (TW _) ?_;try simp only[RN,F,H,I,J,N,O])
  |(refine aJ (by rfl) (fun c=> ?_) (fun c=> ?_)<;>simp only[c,RN,F])
  |(refine aK (by rfl) (fun c=> ?_) (fun c=> ?_)<;>simp only[c,RN,F,H,I,J,N,O])
 all_goals(first|(simp only[aT, *,BSN];done)|(simp_all[aT];done)|(simp_all[aT];omega))
def ad3 (p:Pc)(least most hand:Int)(f:Fr)(hl:p.links.length<=1000)(hh:p.hands.length<=1000)(hb: -1000000<=most/\most<=1000000)(T: -1000000<=least/\least<=1000000):
  Pure C 292 [p.dv,dI least,dI most,dI hand,f.dv] (.d (.tup [.slice ((p.changes least most hand f).2 !=0) ((p.changes least most hand f).1.map Chg.dv),dI (p.changes least most hand f).2])) []:=by
 have hi:=wE p hl hh;have m:=amc f;have D:cn .i64 ((p.hands.length:Int) - 1)=(p.hands.length:Int) - 1:=aF (by omega);have E:cn .i64 (most - least)=most - least:=aF (by omega);refine ah FU ai8 ?_;simp only[lU,aS]at hi m⊢;simp only[FU,ai8,RN,F,H,O]
 repeat' first
  |(refine ak (hi) ?_;try simp only[RN])
  |(refine ak (ajF _ _) ?_;try simp only[RN])
  |(refine ak (Ip _ _ _) ?_;try simp only[RN])
  |(refine ak (m) ?_;try simp only[RN])
  |(refine aJ (by rfl) (fun k=> ?_) (fun k=> ?_)<;>simp only[k,D,E,Q,RN,F,H,O])
  |(refine aK (by rfl) (fun k=> ?_) (fun k=> ?_)<;>simp only[k,RN,F,H,I,O])
 all_goals first
  |(
   have v:p.changes least most hand f=([],2):=by
    rw[Pc.changes,if_neg];intro hh;simp only[U,decide_eq_true_eq]at hh;obtain⟨⟨⟨⟨o,⟨q,a⟩,W⟩,X⟩,Y⟩,Z⟩:=hh;have R:¬most<least:=by omega
    have S:¬10<most - least:=by omega
    simp_all
    done
   rw[v]
   rfl)
  |skip
 have y:p.ok=true:=by simp_all
 have h2:(aT least&&aT most&&decide (least<=most))=true:=by simp_all
 have L:most - least<=10:=by simp_all
 have w:inR hand 0 ((p.hands.length:Int) - 1)=true:=by simp_all
 have x:f.ok=true:=by simp_all
 have g:=Pc.good y;have P:=g.l2;have e:aT least=true/\aT most=true/\least<=most:=by simpa[and_assoc]using h2
 have r:0<=hand/\hand<=(p.hands.length:Int) - 1:=by simpa[inR]using w
 have apa:p.changes least most hand f=(match jQ p hand f least (most - least+1).toNat 0 p 0 with
  |some l=>(l,0)
  |none=>match jQ p hand f least (most - least+1).toNat 1 p 0 with
   |some l=>(l,0)
   |none=>match jQ p hand f least (most - least+1).toNat 2 p 0 with
    |some l=>(l,0)
    |none=>([],5)):=by
  simp only[Pc.changes,y,h2,w,x,decide_eq_true L,bB,if_true]
 have z:=XU p (by omega) g.lk g.pr;simp only[lU,uP]at z;refine ak z ?_;simp only[kQ,cells_func,GY,ae,RN,F,H,J,O];have u:hand.toNat<p.hands.length:=by have:=g.h1;omega
 have N:Now p p:=⟨rfl,g.lk,g.pr⟩
 refine aG 3 (fun i (b:Mem)=>⟨[(5, .d (.aP [sF (p.links.map Lk.dv),sF (p.hands.map ay)])),(14, .ptr 7 0),(55,pI i)],b⟩)
  (fun i b=>b.boxes[7]?=some (some [searchFn p hand f least most 7])/\(∀j∈b.fz,j<b.boxes.length)/\∀j,j<i->jQ p hand f least (most - least+1).toNat j p 0=none) 0 _ (by decide) rfl ⟨rfl,by simp,by simp⟩ (fun i b h1 h=> ?_) (fun b h=> ?_)
 ·obtain⟨b1,G,A⟩:=b
  obtain⟨o,q,a⟩:=h;simp only at o q;have s:((i:Int)<3):=by omega
  have M:cn .i64 ((i:Int)+1)=((i+1:Nat):Int):=by rw[aF (by omega)];omega
  have n:=af8 (bs:=7) g r.1 u x e.1 e.2.1 e.2.2 i p 0 ⟨b1,G,A⟩ (by omega) N (by omega) o q;simp only[lU,a8]at n;simp only[s,o,searchFn,RN,F,H,O];refine qI (args:=[_,_,_]) (by kernel_rfl) (fs:=[]) ?_;refine SC.mono n ?_;rintro v1 ⟨b2,K,B⟩ ⟨rfl,r1,r2,r3,r4⟩;simp only at r1 r2 r3 r4;cases c:jQ p hand f least (most - least+1).toNat i p 0 with
  |none=>
   simp only[LG,bp,M,RN,F];refine dH (len:=3) (i:=i) ⟨b2,K,B⟩ h1 rfl ⟨r1,r4,fun j V=> ?_⟩
   by_cases t:j=i
   ·rw[t];exact c
   ·exact a j (by omega)
  |some l=>
   simp only[LG,bq,bE,RN,F];have:p.changes least most hand f=(l,0):=by
    rw[apa]
    match i,h1,c,a with
    |0,_,c,_=>rw[c]
    |1,_,c,a=>rw[a 0 (by omega),c]
    |2,_,c,a=>rw[a 0 (by omega),a 1 (by omega),c]
   rw[this]
   rfl
 ·obtain⟨o,q,a⟩:=h
  simp only[am,Int.cast_ofNat_Int,RN,F];have:p.changes least most hand f=([],5):=by rw[apa,a 0 (by omega),a 1 (by omega),a 2 (by omega)]
  rw[this]
  rfl
def He:aA:=(s0 [ba 4 0 0,ba 5 1 1,mk 8 cS,mi 9 0] 2 [2,3,4,5] [4,5] (sw (sr [lw 10 2 4,oa 11 (.aj 261) 10,oa 12 pN 11,mv 13 12,ow 14 (.load true 3) 5 13 0,ow 15 (.aj 262) 14 13 0,ow 16 pN 15 13 0,pt 17 13 16,mv 18 17,ow 19 .mov 2 18 0,ow 20 (.aj 263) 19 18 0,ow 21 pN 20 18 0,pt 22 18 21,mv 23 22,ow 24 .mov 3 23 0,ow 25 (.aj 264) 24 23 0,ow 26 pN 25 23 0,pt 27 23 26] 0 [2,3,4,5,27] (cd 27 (sr [mk 8 cS,mi 9 2] 0 [8,9] .ret) .skip)) (sr [lw 28 2 4,lw 29 3 5,ob 30 (.call 265) 28 29,mv 31 2,mv 32 3,on 33 (.call 266) [.t 30,.t 31,.t 32],mv 8 33,mi 9 0] 0 [8,9] .ret)))
def PE:aA:=(s0 [ba 2 0 0,ba 3 1 1,mi 4 0,mi 5 0] 2 [2,3] [2,3] (sw (sr [lw 7 2 2,oa 8 (.aj 261) 7,oa 9 pN 8] 0 [2,3,9] (cd 9 (sr [mi 4 0,mi 5 2] 0 [4,5] .ret) .skip)) (s0 [lw 10 2 2,on 11 (.build [z0,z0,z0] []) [],ob 12 (.aj 265) 10 11,al 6 0 [z0,zs,z0,z0,z0,zs,.map none],sk 7 6 12 0] 1 [3,6] [6] (sw (sr [lw 13 7 6,lw 14 3 3,ob 15 (.aj 272) 13 14,oa 16 pN 15] 0 [3,6,16] (cd 16 (sr [mi 4 0,mi 5 2] 0 [4,5] .ret) .skip)) (sr [lw 17 7 6,lw 18 3 3,ob 19 (.aj 273) 17 18,mv 4 19,mi 5 0] 0 [4,5] .ret)))))
def Ae:aA:=(s0 [ba 1 0 0,mf 2 false] 1 [1] [1] (sw (sr [fa 6 0 1,lo 7 6,on 8 (.aj 309) [.t 7,kI 0,kI 1000],oa 9 pN 8,mv 10 9,ow 11 (.fld 1) 1 10 0,lq 12 11 10,ow 13 .len 12 10 0,oF 14 (.aj 309) [.t 13,kI 1,kI 3] 10 0,ow 15 pN 14 10 0,pt 16 10 15] 0 [1,16] (cd 16 (sr [mf 2 false] 0 [2] .ret) .skip)) (sr [mi 3 1] 0 [1,3] (sw (sr [fa 17 1 1,lo 18 17,oa 19 .len 18,mi 20 0] 0 [3,18,19,20] (lp (sr [ob 21 pL 20 19] 0 [3,18,19,20,21] (sw (cx 21 0) (sw (b1 (sr [ix 22 1 18 20,lo 23 22,mv 5 23] 0 [3,5,18,19,20] (sw (sr [mv 24 5,mv 25 3,oi 26 pA 25 1,on 27 (.aj 309) [.t 24,.t 26,kI 1000],oa 28 pN 27] 0 [5,18,19,20,28] (cd 28 (sr [mf 2 false] 0 [2] .ret) .skip)) (rg [mv 29 5,mv 3 29] 0 [3,18,19,20])))) (rg [oi 30 pA 20 1,mv 20 30] 0 [3,18,19,20])))))) (sr [mf 2 true] 0 [2] .ret)))))
def Hf:aA:=(s0 [ba 1 0 0,mf 2 false] 1 [1] [1] (sr [fa 3 1 1,lo 4 3,on 5 (.aj 309) [.t 4,kI 1,kI 1000],mv 6 5,ov 7 (.fld 0) 1 6 0,ov 8 ld 7 6 0,ov 9 (.fld 1) 1 6 0,ov 10 ld 9 6 0,ot 11 pM [kI 29,.t 10] 6 0,ov 12 (.fld 1) 1 6 0,ov 13 ld 12 6 0,ot 14 pM [kI 30,.t 13] 6 0,ot 15 (.aj 309) [.t 8,.t 11,.t 14] 6 0,pf 16 6 15,mv 17 16,ov 18 (.fld 2) 1 17 0,ov 19 ld 18 17 0,ov 20 (.fld 0) 1 17 0,ov 21 ld 20 17 0,ot 22 pU [.t 21,kI 1] 17 0,ot 23 (.aj 309) [.t 19,kI 0,.t 22] 17 0,pf 24 17 23,mv 2 24] 0 [2] .ret))
def BM:aA:=(sr [mf 2 false] 0 [0] (sr [mv 3 0,oa 4 .len 3,oi 5 (.bin .leq) 4 6,mv 6 5,ov 7 .mov 0 6 0,ot 8 (.aj 310) [.t 7,.c (.func (.func 311) [] [])] 6 0,ov 9 pN 8 6 0,pf 10 6 9,mv 2 10] 0 [2] .ret))
def Hg:aA:=(sr [mf 2 false] 0 [0] (sr [mv 3 0,on 4 (.aj 309) [.t 3,kI 0,kI 4000],mv 2 4] 0 [2] .ret))
def zo:aA:=(s0 [ba 2 0 0,ba 3 1 1,al 4 2 [z0,zs,z0,z0,z0,zs,.map none]] 3 [2,3,4] [2,3] (sr [lw 8 2 2,lw 9 3 3,on 10 (.mkMap 0) [],on 11 (.build [z0,zs,z0,z0,z0,zs,.map none] [(0,2),(2,3),(6,1)]) [.t 8,.t 9,.t 10],al 5 1 [z0,zs,z0,z0,z0,zs,.map none],sk 7 5 11 0] 2 [2,4,5] (sr [fa 12 0 2,lo 13 12,mv 6 13] 0 [4,5,6] (sw (sr [mi 14 0] 0 [4,5,6,14] (lp (sr [oi 15 pL 14 4002] 0 [4,5,6,14,15] (sw (cx 15 0) (sw (b1 (sr [mv 16 14,mv 7 16] 0 [4,5,6,7,14] (sr [fa 17 5 5,lo 18 17,mv 19 6,oa 20 (.dU 1 [z0] [0]) 19,ob 21 (.app 1 false) 18 20,fa 22 5 5,sk 1 22 21 0] 0 [4,5,6,7,14] (rg [mv 23 6,lw 24 7 5,mv 25 7,ob 26 (.gG 312) 24 25,ob 27 pA 23 26,mv 6 27] 0 [4,5,6,14])))) (rg [oi 28 pA 14 1,mv 14 28] 0 [4,5,6,14])))))) (sr [lw 29 7 5,sk 7 4 29 0] 0 [4] .ret)))))
def vG:aA:=(sr [ba 3 0 0,ag 6 1] 1 [1,2,3] (sr [ag 7 1] 0 [1,2,3,7] (sw (sr [mv 12 1,oa 13 .len 12,mi 14 0] 0 [2,3,7,12,13,14] (lp (sr [ob 15 pL 14 13] 0 [2,3,7,12,13,14,15] (sw (cx 15 0) (sw (b1 (sr [ix 16 4 12 14,lw 17 4 16,al 9 0 [.bool false,z0,z0,z0],sk 4 9 17 0] 1 [2,3,7,9,12,13,14] (sr [mi 10 (-1)] 0 [2,3,7,9,10,12,13,14] (sw (sr [mv 18 2,fa 19 1 9,lo 20 19,fa 21 2 9,lo 22 21,on 23 (.build [z0,z0,z0] [(0,1),(1,1),(2,1)]) [.t 18,.t 20,.t 22],al 11 0 [z0,z0,z0],sk 3 11 23 0] 1 [2,3,7,9,10,11,12,13,14] (s0 [fa 24 0 9,lo 25 24] 0 [2,3,7,9,10,11,12,13,14,25] [9] (cd 25 (r1 [ou 26 (.load true 7) 3 2,mv 27 2,ob 28 (.KX 313) 26 27,fu 29 3 9 1,lv 30 29,ob 31 pA 28 30,mv 10 31] 0 [2,3,7,10,12,13,14] []) (sr [lw 32 7 3,lw 33 3 11,ob 34 (.gG 272) 32 33] 0 [2,3,7,10,11,12,13,14,34] (cd 34 (rg [lw 35 7 3,lw 36 3 11,ob 37 (.gG 273) 35 36,mv 10 37] 0 [2,3,7,10,12,13,14]) .skip))))) (rg [mv 38 7,mv 39 10,oa 40 (.dU 1 [z0] [0]) 39,ob 41 (.app 1 false) 38 40,mv 7 41] 0 [2,3,7,12,13,14]))))) (rg [oi 42 pA 14 1,mv 14 42] 0 [2,3,7,12,13,14])))))) (sr [mv 43 7,mv 6 43] 0 [6] .ret))))
def vH:aA:=(s0 [ba 2 0 0,ba 3 1 1,mf 4 false] 2 [2,3] [2,3] (sw (r1 [fu 5 0 3 1,lv 6 5,oa 7 (.aj 264) 6,mv 8 7,ov 9 (.fld 1) 3 8 1,ov 10 ld 9 8 1,ot 11 (.aj 309) [.t 10,kI 1,kI 12] 8 0,pf 12 8 11,mv 13 12,ov 14 (.fld 2) 3 13 1,ov 15 ld 14 13 1,ov 16 (.load true 7) 2 13 1,ov 17 (.fld 0) 3 13 1,ov 18 ld 17 13 1,obT 19 (.aj 317) 16 18 13 0,ov 20 (.aj 316) 19 13 0,ov 21 (.fld 1) 3 13 1,ov 22 ld 21 13 1,ot 23 pU [.t 22,kI 1] 13 0,obT 24 (.bH 1) 20 23 13 1,ov 25 ld 24 13 1,ot 26 (.aj 309) [.t 15,kI 1,.t 25] 13 0,pf 27 13 26,mv 4 27] 0 [4] []) .ret))
def Af:aA:=(s0 [ba 2 0 0,ba 3 1 1,mi 4 0] 2 [2,3] [2,3] (sw (r1 [fu 5 5 2 1,lv 6 5,fu 7 0 3 1,lv 8 7,ob1 9 (.bH 1) 6 8 1,lv 10 9,ou 11 (.load true 7) 2 1,fu 12 0 3 1,lv 13 12,ob 14 (.aj 317) 11 13,oa 15 (.aj 316) 14,fu 16 1 3 1,lv 17 16,oi 18 pU 17 1,ob1 19 (.Jh 1 false true false) 15 18 1,oa 20 (.aj 318) 19,ob 21 pA 10 20,fu 22 2 3 1,lv 23 22,ob 24 pA 21 23,oi 25 pU 24 1,mv 4 25] 0 [4] []) .ret))
def MF:aA:=(s0 [ba 2 0 0,ba 3 1 1,al 4 2 [z0,z0,z0],mi 5 0] 3 [2,3,4] [2,3] (sw (sr [lw 8 2 2,oa 9 (.aj 261) 8,oa 10 pN 9,mv 11 10,lq 12 3 11,ow 13 (.aj 338) 12 11 0,ow 14 pN 13 11 0,pt 15 11 14] 0 [2,3,4,15] (cd 15 (sr [on 16 (.build [z0,z0,z0] []) [],sk 3 4 16 0,mi 5 2] 0 [4,5] .ret) .skip)) (sr [al 6 0 [z0,z0,z0]] 1 [2,3,4,6] (sw (sr [on 17 (.mkF (.func 340) 0) [.t 2,.t 3,.t 6],oa 18 (.call 339) 17,mv 7 18] 0 [4,6,7] (sr [mv 19 7,oi 20 pQ 19 0] 0 [4,6,7,20] (cd 20 (sr [on 21 (.build [z0,z0,z0] []) [],mv 22 7,sk 3 4 21 0,mv 5 22] 0 [4,5] .ret) .skip))) (sr [lw 23 3 6,sk 3 4 23 0,mi 5 0] 0 [4,5] .ret)))))
def yK:aA:=(s0 [ba 1 0 0,mf 2 false] 1 [1] [1] (sw (sr [fa 3 0 1,lo 4 3] 0 [1,4] (cd 4 (sr [fa 5 1 1,lo 6 5,oi 7 pQ 6 0,mv 8 7,ow 9 (.fld 2) 1 8 0,lq 10 9 8,oF 11 pQ [.t 10,kI 0] 8 0,pt 12 8 11,mv 13 12,ow 14 (.fld 3) 1 13 0,lq 15 14 13,oF 16 (.aj 309) [.t 15,kI (-60),kI 60] 13 0,ow 17 pN 16 13 0,pt 18 13 17,mv 2 18] 0 [2] .ret) .skip)) (sr [fa 19 3 1,lo 20 19,oi 21 pQ 20 0,mv 22 21,ow 23 (.fld 1) 1 22 0,lq 24 23 22,oF 25 (.aj 309) [.t 24,kI 1,kI 12] 22 0,ow 26 pN 25 22 0,pt 27 22 26,mv 28 27,ow 29 (.fld 2) 1 28 0,lq 30 29 28,oF 31 (.aj 309) [.t 30,kI 1,kI 31] 28 0,ow 32 pN 31 28 0,pt 33 28 32,mv 2 33] 0 [2] .ret)))
def yM:aA:=(s0 [ba 2 0 0,mi 4 0] 1 [1,2] [2] (sr [lw 5 7 2,mv 6 1,ob 7 (.aj 317) 5 6,oa 8 (.aj 316) 7,oa 9 (.aj 318) 8,mv 4 9] 0 [4] .ret))
def vI:aA:=(sr [ba 2 0 0,mi 4 0] 1 [1,2] (sr [mv 9 1,on 10 (.build [z0,z0,z0] [(0,1),(1,1),(2,1)]) [.t 9,kI 3,kI 21],al 5 0 [z0,z0,z0],sk 3 5 10 0] 1 [2,5] (sw (sr [fa 12 6 2,lo 13 12,lw 14 3 5,ob 15 (.Jg true [1,1,1] (.int .i64 0)) 13 14,mv 11 15,xa 16 0 11,xa 17 1 11,mv 6 16,mv 7 17] 0 [2,5,6,7] (sr [mv 18 7] 0 [2,5,6,18] (cd 18 (sr [mv 19 6,mv 4 19] 0 [4] .ret) .skip))) (sr [lw 20 7 2,lw 21 3 5,ob 22 (.gG 273) 20 21,mv 8 22] 0 [2,5,8] (sw (lp (sw (sr [fa 23 2 2,lw 24 3 23,mv 25 8,ob 26 (.aj 346) 24 25,oi 27 pQ 26 13] 0 [2,5,8,27] (cx 27 0)) (b1 (rg [mv 28 8,oi 29 pA 28 1,mv 8 29] 0 [2,5,8])))) (sr [mv 30 8,mv 31 8,oa 32 (.aj 347) 31,on 33 pU [kI 7,.t 32],ob 34 pA 30 33,mv 8 34] 0 [2,5,8] (sr [fa 35 6 2,lo 36 35,lw 37 3 5,mv 38 8,os (.Qk [1,1,1]) [.t 36,.t 37,.t 38] 0] 0 [8] (sr [mv 39 8,mv 4 39] 0 [4] .ret))))))))
def Hl:aA:=(sr [mk 2 cS] 0 [0] (sr [on 4 (.ng 1 [z0,z0,z0,z0,z0,z0,z0,z0,z0,z0,z0,z0] [0,1,2,3,4,5,6,7,8,9,10,11]) [kI 31,kI 28,kI 31,kI 30,kI 31,kI 30,kI 31,kI 31,kI 30,kI 31,kI 30,kI 31],mv 3 4] 0 [0,3] (sw (sr [mv 5 0] 0 [3,5] (cd 5 (rg [mv 6 3,oi 7 (.bH 1) 6 1,os (.store 1) [.t 7,kI 29] 0] 0 [3]) .skip)) (sr [mv 8 3,mv 2 8] 0 [2] .ret))))
def yN:aA:=(s0 [ba 2 0 0,mf 4 false] 1 [1,2] [2] (sr [mf 5 false] 0 [1,2,5] (sw (sr [fa 8 0 2,fa 9 1 8,lo 10 9,oa 11 .len 10,mi 12 0] 0 [1,5,10,11,12] (lp (sr [ob 13 pL 12 11] 0 [1,5,10,11,12,13] (sw (cx 13 0) (sw (b1 (sr [ix 14 1 10 12,lo 15 14,mv 7 15] 0 [1,5,7,10,11,12] (sr [mv 16 1,mv 17 7,ob 18 (.bin .rem) 16 17,oi 19 pE 18 0] 0 [1,5,10,11,12,19] (cd 19 (rg [mv 20 5,oa 21 pN 20,mv 5 21] 0 [1,5,10,11,12]) .skip)))) (rg [oi 22 pA 12 1,mv 12 22] 0 [1,5,10,11,12])))))) (sr [mv 23 5,mv 4 23] 0 [4] .ret))))
def Jz:aA:=(sr [mf 2 false] 0 [0] (sr [mv 3 0,on 4 (.aj 309) [.t 3,kI 0,kI 2000000],mv 2 4] 0 [2] .ret))
def G9:aA:=(r1 [ou 3 (.load true 2) 0 1,on 4 (.build [z0,z0,z0] []) [],ob 5 (.aj 265) 3 4,lv 6 1,ob 7 (.aj 341) 5 6,sk 3 2 7 0] 0 [] [])
def yL:aA:=(s0 [ba 2 0 0,al 4 1 [z0,z0,z0]] 2 [1,2,4] [2] (sr [fa 11 5 2,lo 12 11,mv 13 1,ob 14 (.aj 361) 12 13,mv 10 14,xa 15 0 10,xa 16 1 10,mv 5 15,mv 6 16] 0 [1,2,4,5,6] (sw (sr [mv 17 6,oa 18 pN 17] 0 [1,2,4,5,18] (cd 18 (rg [mv 19 5,oi 20 pU 19 1,mv 5 20] 0 [1,2,4,5]) .skip)) (sw (sr [mv 21 5,oa 22 (.aj 264) 21,oa 23 pN 22] 0 [1,2,4,5,23] (cd 23 (rg [mv 24 1,oa 25 (.build [z0] [(0,1)]) 24,oa 26 (.mkI T.NS) 25,os .panic [.t 26] 0] 0 [1,2,4,5]) .skip)) (sr [mv 27 1,fa 28 5 2,lo 29 28,mv 30 5,ix 31 1 29 30,lo 32 31,ob 33 pU 27 32,mv 7 33] 0 [1,2,4,5,7] (sw (sr [lw 34 7 2,mv 35 5,ob 36 (.aj 317) 34 35,oa 37 (.aj 316) 36,oa 38 .len 37,mi 39 0] 0 [1,4,5,7,37,38,39] (lp (sr [ob 40 pL 39 38] 0 [1,4,5,7,37,38,39,40] (sw (cx 40 0) (sw (b1 (sr [mv 41 39,ix 42 1 37 39,lo 43 42,mv 8 41,mv 9 43] 0 [1,4,5,7,8,9,37,38,39] (sw (sr [mv 44 7,mv 45 9,ob 46 pL 44 45] 0 [1,4,5,7,8,9,37,38,39,46] (cd 46 (sr [mv 47 5,mv 48 8,oi 49 pA 48 1,mv 50 7,oi 51 pA 50 1,on 52 (.build [z0,z0,z0] [(0,1),(1,1),(2,1)]) [.t 47,.t 49,.t 51],sk 3 4 52 0] 0 [4] .ret) .skip)) (rg [mv 53 7,mv 54 9,ob 55 pU 53 54,mv 7 55] 0 [1,4,5,7,37,38,39])))) (rg [oi 56 pA 39 1,mv 39 56] 0 [1,4,5,7,37,38,39])))))) (rg [mv 57 1,oa 58 (.build [z0] [(0,1)]) 57,oa 59 (.mkI T.NS) 58,os .panic [.t 59] 0] 0 [4])))))))
def PG:aA:=(s0 [ba 2 0 0,mi 4 0] 1 [1,2] [2] (sr [mv 6 1,oi 7 pA 6 1,fa 8 1 2,lo 9 8,ob 10 pM 7 9,oi 11 pU 10 1,fa 12 2 2,lo 13 12,ob 14 pU 11 13,fa 15 0 2,lo 16 15,ob 17 (.aj 366) 14 16,mv 5 17] 0 [1,2,5] (sr [mv 18 1,mv 19 5,fa 20 0 2,lo 21 20,ob 22 pM 19 21,fa 23 2 2,lo 24 23,ob 25 pA 22 24,fa 26 1 2,lo 27 26,ob 28 (.aj 366) 25 27,ob 29 pU 18 28,mv 4 29] 0 [4] .ret)))
def FN:aA:=(sr [mi 2 0] 0 [0] (sr [mv 3 0,oi 4 pA 3 4,oi 5 (.bin .rem) 4 7,mv 2 5] 0 [2] .ret))
def MG:aA:=(sr [mi 4 0] 0 [0,1] (sr [mv 6 0,mv 7 1,ob 8 (.bin .quo) 6 7,mv 5 8] 0 [0,1,5] (sw (sr [mv 9 5,mv 10 1,ob 11 pM 9 10,mv 12 0,ob 13 pG 11 12] 0 [5,13] (cd 13 (rg [mv 14 5,oi 15 pU 14 1,mv 5 15] 0 [5]) .skip)) (sr [mv 16 5,mv 4 16] 0 [4] .ret))))
def Jm (n l h:Int):Pure C 309 [dI n,dI l,dI h] (.d (.bool (inR n l h))) []:=CW n l h
def Wy (n:Int):Pure C 264 [dI n] (.d (.bool (inR n 0 4000))) []:=by
 refine ah Hg aI ?_;simp only[Hg,aI,RN,F]
 repeat' first
  |(refine ak (Jm _ _ _) ?_;try simp only[])
  |(refine aJ (by rfl) (fun a=> ?_) (fun a=> ?_)<;>simp only[a,RN,F,H,I,J,N,O])
  |(refine aK (by rfl) (fun a=> ?_) (fun a=> ?_)<;>simp only[a,RN,F,H,I,J,N,O])
 all_goals(first|(simp only[inR, *,BSN];done)|(simp_all[inR];done)|(simp_all[inR];omega))
def ahj (n:Int):Pure C 338 [dI n] (.d (.bool (inR n 0 2000000))) []:=by
 refine ah Jz aI ?_;simp only[Jz,aI,RN,F]
 repeat' first
  |(refine ak (Jm _ _ _) ?_;try simp only[])
  |(refine aJ (by rfl) (fun a=> ?_) (fun a=> ?_)<;>simp only[a,RN,F,H,I,J,N,O])
  |(refine aK (by rfl) (fun a=> ?_) (fun a=> ?_)<;>simp only[a,RN,F,H,I,J,N,O])
 all_goals(first|(simp only[inR, *,BSN];done)|(simp_all[inR];done)|(simp_all[inR];omega))
def Wv:List Int->Int->Bool
 | [],_=>true
 |n::l,a=>inR n (a+1) 1000&&Wv l n
def Cal.ok (c:Cal):Bool:=inR c.ep 0 1000&&inR c.cy.length 1 3&&Wv c.cy 1
def QW:∀{l:List Int} {last:Int},1<=last->Wv l last=true->∀n∈l,2<=n/\n<=1000
 | [],_,_,_,n,a=>by cases a
 |x::l,last,h1,h,n,a=>by
  simp only[Wv,inR,U,decide_eq_true_eq,ge_iff_le]at h
  rcases aM.1 a with rfl|a
  ·omega
  ·exact QW (last:=x) (by omega) h.2 n a
variable{c:Cal}
def Cal.facts (h:c.ok=true):(0<=c.ep/\c.ep<=1000)/\(1<=c.cy.length/\c.cy.length<=3)/\∀n∈c.cy,2<=n/\n<=1000:=by
 simp only[Cal.ok,U]at h;obtain⟨⟨h1,h2⟩,a⟩:=h;simp only[inR,U,decide_eq_true_eq,ge_iff_le]at h1 h2;exact⟨h1,by omega,QW (by omega) a⟩
def WS (c:Cal)(hl:c.cy.length<=1000000):Pure C 261 [c.dv] (.d (.bool c.ok)) []:=by
 refine ah Ae aI ?_;simp only[Ae,aI,nU,RN,F,H,O]
 repeat' first
  |(refine ak (Jm _ _ _) ?_;try simp only[RN])
  |(refine aJ (by rfl) (fun e=> ?_) (fun e=> ?_)<;>simp only[e,Q,RN,F,H,O])
  |(refine aK (by rfl) (fun e=> ?_) (fun e=> ?_)<;>simp only[e,Q,RN,F,H,O])
 any_goals (simp_all[Cal.ok];done)
 have g:c.ok=Wv c.cy 1:=by simp_all[Cal.ok]
 rw[g];refine aG c.cy.length (fun i (a:Int)=>⟨[(3,pI a),(18, .d (sF (c.cy.map ay))),(19,pI c.cy.length),(20,pI i)],⟨[some [pI c.ep, .d (sF (c.cy.map ay))]],[0],[]⟩⟩)
  (fun i a=>1<=a/\a<=1000/\Wv c.cy 1=Wv (c.cy.drop i) a) 0 1 (Z _) rfl ⟨by omega,by omega,rfl⟩ (fun i a h1 b=> ?_) (fun a b=> ?_)
 ·obtain⟨h2,j,k⟩:=rng h1 hl
  obtain⟨l,m,b⟩:=b;rw[drop_cons h1,Wv]at b;have h:cn .i64 (a+1)=a+1:=aF (by omega);simp only[h2,j,h1,aW,getD_map,S,Q,h,RN,F,O];refine ak (Jm _ _ _) ?_;cases f:inR (c.cy.getD i default) (a+1) 1000
  ·(try simp only[RN,F])
   rw[b,f];rfl
  ·simp only[k,RN,F]
   rw[f,b0]at b;have:a+1<=c.cy.getD i default/\c.cy.getD i default<=1000:=by simpa[inR]using f
   exact dh (c.cy.getD i default) h1 rfl ⟨by omega,by omega,b⟩ (by simp) (by simp) rfl rfl
 ·obtain⟨_,_,b⟩:=b
  rw[ao,Wv]at b;simp only[am,b,RN,F]
def Zz (c:Cal)(m:jV)(fs:List Int)(es:Option (List (DV×DV))):DV:= .agg [dI c.ep,sF (c.cy.map ay),dI m.n,dI m.d,dI m.ad,sF (fs.map ay), .map es]
variable{m:jV}
def sK {fs:List Int}{es:Option (List (DV×DV))}:Zz c m fs es= .agg [dI c.ep,sF (c.cy.map ay),dI m.n,dI m.d,dI m.ad,sF (fs.map ay), .map es]:=by rw[Zz]
def Sl:List Int->Int->Bool->Bool
 | [],_,a=>a
 |n::l,y,a=>Sl l y (if y.tmod n==0 then !a else a)
def Cal.leap (c:Cal)(y:Int):Bool:=Sl c.cy y false
def WZ (c:Cal)(m:jV)(fs:List Int)(es:Option (List (DV×DV)))(y:Int)(hl:c.cy.length<=1000000)(j:∀n∈c.cy,n≠0):Pure C 317 [Zz c m fs es,dI y] (.d (.bool (c.leap y))) []:=by
 refine ah yN aH ?_;simp only[yN,aH,sK,Q,RN,F,H,O];refine aG c.cy.length (fun i (b:Bool)=>⟨[(1,pI y),(5, .d (.bool b)),(10, .d (sF (c.cy.map ay))),(11,pI c.cy.length),(12,pI i)],
   ⟨[some [pI c.ep, .d (sF (c.cy.map ay)),pI m.n,pI m.d,pI m.ad, .d (sF (fs.map ay)), .d (.map es)]],[0],[]⟩⟩)
  (fun i b=>c.leap y=Sl (c.cy.drop i) y b) 0 false (Z _) rfl rfl (fun i b h1 a=> ?_) (fun b a=> ?_)
 ·obtain⟨h2,h,f⟩:=rng h1 hl
  rw[drop_cons h1,Sl]at a;have e:=j _ (getD_mem h1);simp only[h2,h,h1,aW,getD_map,S,Q,e,RN,F,O];cases g:(y.tmod (c.cy.getD i default)==0)
  ·rw[g]at a
   simp only[f,RN,F];exact dh b h1 rfl a (by simp) (by simp) rfl rfl
  ·rw[g]at a
   simp only[f,RN,F];exact dh (!b) h1 rfl a (by simp) (by simp) rfl rfl
 ·rw[ao,Sl]at a
  simp only[am,a,RN,F]
def cZ (leap:Bool):List Int:=[31,if leap then 29 else 28,31,30,31,30,31,31,30,31,30,31]
def mon0:List DV:=[dI 31,dI 28,dI 31,dI 30,dI 31,dI 30,dI 31,dI 31,dI 30,dI 31,dI 30,dI 31]
def alD {C:Ctx}{K:PV->Mem->Prop}{KP:DV->Mem->Prop}(h:K (.tsl 0 0 0) ⟨[],[],[some ⟨1,mon0,0,1⟩]⟩):
  au C 0 (.ng 1 [dI 0,dI 0,dI 0,dI 0,dI 0,dI 0,dI 0,dI 0,dI 0,dI 0,dI 0,dI 0] [0,1,2,3,4,5,6,7,8,9,10,11]) (mon0.map .d) ⟨[],[],[]⟩ K KP:=by
 simp only[au,mon0,aL,bj,gV];exact⟨by decide,aD.1 (rfl:mon0.all (DV.fits 1)=true),h⟩
def ao1:∀b:Bool,(cZ b).map ay=bif b then mon0.set 1 (dI 29)else mon0
 |true=>rfl
 |false=>rfl
def L8 (leap:Bool):Pure C 316 [.bool leap] (.d (sF ((cZ leap).map ay))) []:=by
 refine bM (aB Hl aI ?_);simp only[Hl,aI,RN,F];refine alD ?_;rw[ao1];cases leap
 ·(try simp only[RN,F])
  rfl
 ·(try simp only[RN,F])
  refine⟨by decide,by decide,rF (ds:=[dI 29]) rfl rfl (by decide) rfl rfl (by decide) rfl⟩
def ahp (l:List Int)(hl:l.length<=1000000)(hx:∀x∈l,0<=x)(hb:jy l 0<=9223372036854775807):Pure C 318 [sF (l.map ay)] (pI (jy l 0)) []:=by
 refine ah BZ aI ?_;simp only[BZ,aI,Q,RN,F];refine aG l.length (fun i (p:Int)=>⟨[(3,pI p),(6, .d (sF (l.map ay))),(7,pI l.length),(8,pI i)],⟨[],[],[]⟩⟩)
  (fun i p=>0<=p/\jy l 0=jy (l.drop i) p) 0 0 (Z _) rfl ⟨by omega,rfl⟩ (fun i p h1 a=> ?_) (fun p a=> ?_)
 ·obtain⟨h2,c,e⟩:=rng h1 hl
  obtain⟨f,a⟩:=a;rw[drop_cons h1,jy]at a;have g:=hx _ (getD_mem h1);have j:=zF (l.drop (i+1)) (p+l.getD i default) (fun y h=>hx y (bS h));have b:cn .i64 (p+l.getD i default)=p+l.getD i default:=aF (by omega);simp only[h2,c,h1,e,aW,getD_map,S,Q,b,RN,F,O];exact dh (p+l.getD i default) h1 rfl ⟨by omega,a⟩ (by simp) (by simp) rfl rfl
 ·obtain⟨f,a⟩:=a
  rw[ao,jy]at a;simp only[am,a,RN,F]
def Et (b:Bool):Int:=jy (cZ b) 0
def wS:∀b:Bool,Et b=if b then 366 else 365
 |true=>rfl
 |false=>rfl
def sS:∀(b:Bool),∀x∈cZ b,28<=x/\x<=31:=by
 intro b x a;cases b<;>simp[cZ]at a<;>omega
def wF:∀(b:Bool),(cZ b).length=12
 |true=>rfl
 |false=>rfl
def adE (c:Cal)(m:jV)(fs:List Int)(es:Option (List (DV×DV)))(y:Int)(hl:c.cy.length<=1000000)(a:∀n∈c.cy,n≠0):Pure C 312 [Zz c m fs es,dI y] (.d (dI (Et (c.leap y)))) []:=by
 refine ah yM aH ?_;simp only[yM,aH,sK,RN,F,H,O];have h1:=WZ c m fs es y hl a;rw[sK]at h1;refine ak h1 ?_;(try simp only[RN,F,H,I,J,N,O]);refine ak (L8 _) ?_;(try simp only[RN,F,H,I,J,N,O]);have e:jy (cZ (c.leap y)) 0<=366:=by have:=wS (c.leap y);unfold Et at this;rw[this];split<;>decide
 refine cO rfl rfl (ahp (cZ (c.leap y)) (by rw[wF];decide) (fun x b=>by have:=sS _ x b;omega) (by omega)) ?_;simp only[Et]
def wd (n:Int):Int:=(n+4).tmod 7
def agp (n:Int)(h:0<=n/\n<=1000000000):Pure C 347 [dI n] (pI (wd n)) []:=by
 have a:cn .i64 (n+4)=n+4:=aF (by omega);have b1:0<=(n+4).tmod 7:=bN 7 (by omega);have b2:(n+4).tmod 7<7:=aR _ (by decide);have b:cn .i64 ((n+4).tmod 7)=(n+4).tmod 7:=aF (by omega);refine ah FN aI ?_;simp only[FN,aI,a,wd,RN,F];simp
def lT (n b:Int):Int:=if n.tdiv b*b>n then n.tdiv b - 1 else n.tdiv b
def Qc (n b:Int):(n.tdiv b*b).natAbs<=n.natAbs:=by
 have h:=bO n b;rw[Int.natAbs_mul,Int.natAbs_tdiv];exact Nat.div_mul_le_self _ _
def ahn (n b:Int)(h:n.natAbs<=1000000000000000000)(hb:b≠0):Pure C 366 [dI n,dI b] (pI (lT n b)) []:=by
 have b1:=Ja n b;have b2:=Qc n b;have c:cn .i64 (n.tdiv b)=n.tdiv b:=aF (by omega);have d:cn .i64 (n.tdiv b*b)=n.tdiv b*b:=aF (by omega);have e:cn .i64 (n.tdiv b - 1)=n.tdiv b - 1:=aF (by omega);refine ah MG aH ?_;simp only[MG,aH,c,d,hb,RN,F,H]
 by_cases a:n.tdiv b*b>n
 ·simp only[a,e,lT,if_true,RN,F]
 ·simp only[a,lT,if_false,RN,F]
def adb (n b:Int)(hb:b≠0):(lT n b).natAbs<=n.natAbs+1:=by
 have:=Ja n b;unfold lT
 split<;>omega
def aho (n b:Int):(lT n b*b).natAbs<=n.natAbs+b.natAbs:=by
 have:=Qc n b;unfold lT
 split
 ·rw[cl];omega
 ·omega
def jV.ok (m:jV):Bool:=inR m.d 1 1000&&inR m.n (29*m.d) (30*m.d)&&inR m.ad 0 (m.n - 1)
def jV.facts (h:m.ok=true):(1<=m.d/\m.d<=1000)/\(29*m.d<=m.n/\m.n<=30*m.d)/\0<=m.ad/\m.ad<m.n:=by
 simp only[jV.ok,inR,U,decide_eq_true_eq,ge_iff_le]at h;omega
def aia (m:jV):Pure C 262 [m.dv] (.d (.bool m.ok)) []:=by
 refine ah Hf aI ?_;simp only[Hf,aI,rG,RN,F,H,O];refine ak (Jm _ _ _) ?_;cases h1:inR m.d 1 1000
 ·(try simp only[RN,F])
  simp[jV.ok,h1]
 ·have hd:1<=m.d/\m.d<=1000:=by simpa[inR]using h1
  have a:cn .i64 (29*m.d)=29*m.d:=aF (by omega);have b:cn .i64 (30*m.d)=30*m.d:=aF (by omega);simp only[a,b,RN,F,H,O];refine ak (Jm _ _ _) ?_;cases h2:inR m.n (29*m.d) (30*m.d)
  ·(try simp only[RN,F])
   simp[jV.ok,h2]
  ·have e:29*m.d<=m.n/\m.n<=30*m.d:=by simpa[inR]using h2
   have c:cn .i64 (m.n - 1)=m.n - 1:=aF (by omega);simp only[c,RN,F,H,O];refine ak (Jm _ _ _) ?_;(try simp only[RN,F,H,I,J,N,O]);simp[jV.ok,h1,h2]
def X8 (m:jV)(n:Int):Int:=n - lT (lT ((n+1)*m.d - 1 - m.ad) m.n*m.n+m.ad) m.d
def aoR (m:jV)(n:Int)(j:m.ok=true)(h:0<=n/\n<=100000000):Pure C 346 [m.dv,dI n] (pI (X8 m n)) []:=by
 obtain⟨hd,l,k⟩:=m.facts j;have o:0<=(n+1)*m.d/\(n+1)*m.d<=100000001*1000:=⟨an (by omega) (by omega),X (by omega) hd.2 (by omega) (by omega)⟩
 have p:=adb ((n+1)*m.d - 1 - m.ad) m.n (by omega);have q:=aho ((n+1)*m.d - 1 - m.ad) m.n;have r:=adb (lT ((n+1)*m.d - 1 - m.ad) m.n*m.n+m.ad) m.d (by omega);have a:cn .i64 (n+1)=n+1:=aF (by omega);have b:cn .i64 ((n+1)*m.d)=(n+1)*m.d:=aF (by omega);have c:cn .i64 ((n+1)*m.d - 1)=(n+1)*m.d - 1:=aF (by omega);have e:cn .i64 ((n+1)*m.d - 1 - m.ad)=(n+1)*m.d - 1 - m.ad:=aF (by omega);have f:cn .i64 (lT ((n+1)*m.d - 1 - m.ad) m.n*m.n)=lT ((n+1)*m.d - 1 - m.ad) m.n*m.n:=aF (by omega);have g:cn .i64 (lT ((n+1)*m.d - 1 - m.ad) m.n*m.n+m.ad)=lT ((n+1)*m.d - 1 - m.ad) m.n*m.n+m.ad:=aF (by omega);have i:cn .i64 (n - lT (lT ((n+1)*m.d - 1 - m.ad) m.n*m.n+m.ad) m.d)=n - lT (lT ((n+1)*m.d - 1 - m.ad) m.n*m.n+m.ad) m.d:=aF (by omega);refine ah PG aH ?_;simp only[PG,aH,rG,a,b,c,e,RN,F,H,O];refine cO rfl rfl (ahn _ _ (by omega) (by omega)) ?_;simp only[f,g,RN];refine cO rfl rfl (ahn _ _ (by omega) (by omega)) ?_;simp only[i,X8,RN]
def rP (c:Cal)(d:Dt):Bool:=inR d.y 0 4000&&inR d.m 1 12&&inR d.d 1 ((cZ (c.leap d.y)).getD (d.m - 1).toNat default)
def Y5 (c:Cal)(m:jV)(fs:List Int)(es:Option (List (DV×DV)))(d:Dt)(hl:c.cy.length<=1000000)(e:∀n∈c.cy,n≠0):Pure C 272 [Zz c m fs es,d.dv] (.d (.bool (rP c d))) []:=by
 refine ah vH aH ?_;simp only[vH,aH,sK,Bz,RN,F,H,O];refine ak (Wy _) ?_;cases h1:inR d.y 0 4000
 ·(try simp only[RN,F])
  simp[rP,h1]
 ·(try simp only[RN,F,H,O])
  refine ak (Jm _ _ _) ?_;cases h2:inR d.m 1 12
  ·(try simp only[RN,F])
   simp[rP,h2]
  ·have h:1<=d.m/\d.m<=12:=by simpa[inR]using h2
   have b:cn .i64 (d.m - 1)=d.m - 1:=aF (by omega);simp only[b,RN,F,H,O];have a:=WZ c m fs es d.y hl e;rw[sK]at a;refine ak a ?_;(try simp only[RN,F,H,I,J,N,O]);refine ak (L8 _) ?_;have f:(0:Int)<=d.m - 1:=by omega
   have g:(d.m - 1).toNat<(cZ (c.leap d.y)).length:=by rw[wF];omega
   simp only[f,g,Q,getD_map,aW,RN,O];refine ak (Jm _ _ _) ?_;simp only[rP,h1,h2,RN]
def J5 (c:Cal)(fs:List Int)(d:Dt):Int:=fs.getD d.y.toNat default+jy ((cZ (c.leap d.y)).take (d.m - 1).toNat) 0+d.d - 1
def OH:∀(l:List Int) (n:Nat) (p:Int),(∀x∈l,0<=x)->jy (l.take n) p<=jy l p
 | [],n,p,_=>by rw[List.take_nil];exact a7 _
 |x::l,0,p,h=>zF _ _ h
 |x::l,n+1,p,h=>by
  rw[bi,jy,jy];exact OH l n _ fun y a=>h y (by simp[a])
def ahh (c:Cal)(m:jV)(fs:List Int)(es:Option (List (DV×DV)))(d:Dt)(hl:c.cy.length<=1000000)(j:∀n∈c.cy,n≠0)(hf:∀x∈fs,0<=x/\x<=10000000)(b:0<=d.y/\d.y.toNat<fs.length)(o:1<=d.m/\d.m<=12)(hd:1<=d.d/\d.d<=31):Pure C 273 [Zz c m fs es,d.dv] (pI (J5 c fs d)) []:=by
 have f:cn .i64 (d.m - 1)=d.m - 1:=aF (by omega);have b1:=hf _ (getD_mem b.2);have p:jy (cZ (c.leap d.y)) 0<=366:=by have:=wS (c.leap d.y);unfold Et at this;rw[this];split<;>decide
 have k:=OH (cZ (c.leap d.y)) (d.m - 1).toNat 0 fun x a=>by have:=sS _ x a;omega
 have l:=zF ((cZ (c.leap d.y)).take (d.m - 1).toNat) 0 fun x a=>by have:=sS _ x (bc a);omega
 have g:cn .i64 (fs.getD d.y.toNat default+jy ((cZ (c.leap d.y)).take (d.m - 1).toNat) 0)=fs.getD d.y.toNat default+jy ((cZ (c.leap d.y)).take (d.m - 1).toNat) 0:=aF (by omega);have h:cn .i64 (fs.getD d.y.toNat default+jy ((cZ (c.leap d.y)).take (d.m - 1).toNat) 0+d.d)=fs.getD d.y.toNat default+jy ((cZ (c.leap d.y)).take (d.m - 1).toNat) 0+d.d:=aF (by omega);have i:cn .i64 (fs.getD d.y.toNat default+jy ((cZ (c.leap d.y)).take (d.m - 1).toNat) 0+d.d - 1)=fs.getD d.y.toNat default+jy ((cZ (c.leap d.y)).take (d.m - 1).toNat) 0+d.d - 1:=aF (by omega);refine ah Af aH ?_;simp only[Af,aH,sK,Bz,Q,b.1,b.2,getD_map,aW,RN,F,H,O];have e:=WZ c m fs es d.y hl j;rw[sK]at e;refine ak e ?_;(try simp only[RN,F,H,I,J,N,O]);refine ak (L8 _) ?_;simp only[f,RN];rw[rV (by intro x a;simp only[aw]at a;obtain⟨y,_,rfl⟩:=a;rfl) (by omega) (by rw[Q,wF];omega)];rw[<-cj];(try simp only[RN,F,H,I,J,N,O]);refine cO rfl rfl (ahp _ (by rw[List.length_take,wF];omega) (fun x a=>by have:=sS _ x (bc a);omega) (by omega)) ?_;simp only[g,h,i,J5,RN]
def Fs.bad (f:Fs):Bool:=if f.mv then f.mo !=0||f.da !=0|| !inR f.af (-60) 60 else f.af !=0|| !inR f.mo 1 12|| !inR f.da 1 31
def anw (f:Fs):Pure C 311 [f.dv] (.d (.bool f.bad)) []:=by
 refine ah yK aI ?_;simp only[yK,aI,ade,RN,F,H,O]
 repeat' first
  |(refine ak (Jm _ _ _) ?_;try simp only[RN])
  |(refine aJ (by rfl) (fun a=> ?_) (fun a=> ?_)<;>simp only[a,RN,F,H,O])
  |(refine aK (by rfl) (fun a=> ?_) (fun a=> ?_)<;>simp only[a,RN,F,H,O])
 all_goals(simp_all[Fs.bad];done)
def nX (l:List Fs):Bool:=decide (l.length<=6)&& !l.any Fs.bad
def Yb (ex:Bool)(l:List Fs):Pure C 263 [.slice ex (l.map Fs.dv)] (.d (.bool (nX l))) []:=by
 refine ah BM aI ?_;simp only[BM,aI,Q,RN,F]
 by_cases h:l.length<=6
 ·have a:(l.length:Int)<=6:=by omega
  simp only[a,RN,F];refine cO rfl rfl (Uj l 311 [] Fs.bad (by omega) (by kernel_rfl) fun x _=>anw x) ?_;(try simp only[RN]);simp[nX,h]
 ·have a:¬(l.length:Int)<=6:=by omega
  simp only[a,RN,F];simp[nX,h]
section
variable {C:Ctx}{base:Nat}{KP:DV->Mem->Prop}
def Q7 {i:Nat}{bs:List (Option (List PV))}{fz:List Nat}{ar:List (Option Arr)}{L:PV->Mem->Prop}:au C base (.mkMap i) [] ⟨bs,fz,ar⟩ L KP=(bs[base+i]?=some none/\L (.mref (base+i)) ⟨bs.set (base+i) (some [.iO []]),fz,ar⟩):=px
def kR {f:FuncId}{args:List PV}{M:Mem}{ds ds':List DV}{x:DV}{K:PV->Mem->Prop}(h1:bV M args=some ds)(h2:ds.map DV.strip=ds')(b:Pure C f ds' (.d x) [])(hx:yw x=true)(a:K (.d x) M):au C base (.gG f) args M K KP:=
 ⟨ds,h1,x,h2▸b,hx,a⟩
end
variable{k:Nat}
def Dw {bs:List (Option (List PV))}{fz:List Nat}{ar:List (Option Arr)}{ver b st:Nat}{xs:List DV}{es:List (DV×DV)}{a c e f g:DV}(h:ar[k]?=some (some ⟨1,xs,ver,st⟩))(hb:bs[b]?=some (some [.iO es])):
  datum ⟨bs,fz,ar⟩ (.agg [.d a, .d c, .d e, .d f, .d g, .tsl k ver 0, .mref b])=some (.agg [a,c,e,f,g, .slice false xs, .map (some es)]):=by
 simp[datum,bT,dR,Mem.row,Mem.box,h,hb]
variable{M:Mem}{p:PV}{d:DV}
def tY {y:DV}(h:datum M p=some d):bV M [p, .d y]=some [d,y]:=by
 simp only[bV,h];simp[datum]
def zH (h:datum M p=some d):bV M [p]=some [d]:=by
 simp[bV,h]
def Cal.first (c:Cal):Nat->Int
 |0=>c.ep
 |y+1=>c.first y+Et (c.leap y)
def Cal.firsts (c:Cal)(n:Nat):List Int:=(b7 n).map c.first
def Cal.nY (c:Cal)(y:Nat):c.ep+365*y<=c.first y/\c.first y<=c.ep+366*y:=by
 induction y with
 |zero=>simp[Cal.first]
 |succ y a=>
  rw[Cal.first,wS]
  split<;>omega
def Cal.O7 (c:Cal)(n:Nat):c.firsts (n+1)=c.firsts n++ [c.first n]:=by simp[Cal.firsts,cf]
def opC:Nat->PV
 |0=> .d (.slice true [])
 |i+1=> .tsl 0 i 0
def opA (c:Cal):Nat->List (Option Arr)
 |0=>[]
 |i+1=>[some ⟨1,(c.firsts (i+1)).map ay,i,0⟩]
def alL (c:Cal)(m:jV)(i:Nat):St:=
 ⟨[(4, .ptr 2 0),(5, .ptr 4 0),(6,pI (c.first i)),(14,pI i)],
  ⟨[some [pI c.ep, .d (sF (c.cy.map ay))],some [pI m.n,pI m.d,pI m.ad],
   some [pI 0, .d (.slice true []),pI 0,pI 0,pI 0, .d (.slice true []), .d (.map none)],
   some [.iO []],some [pI c.ep, .d (sF (c.cy.map ay)),pI m.n,pI m.d,pI m.ad,opC i, .mref 3]],[1,0],opA c i⟩⟩
def aiJ (c:Cal)(m:jV)(hc:c.ok=true):Pure C 265 [c.dv,m.dv] (.d (Zz c m (c.firsts 4002) (some []))) []:=by
 obtain⟨q,r,l⟩:=Cal.facts hc;refine bM (aB zo Xx ?_);simp only[zo,Xx,nU,rG,Q7,J9,UJ,ae,dD,gQ,Me,RN,F,H,J,O];refine aG 4002 (fun i (_:Unit)=>alL c m i) (fun i _=>True) 0 () (Z _) rfl trivial (fun i a h1 g=> ?_) (fun a g=> ?_)
 ·have h2:(i:Int)<4002:=by omega
  have k:cn .i64 ((i:Int)+1)=((i+1:Nat):Int):=by rw[aF (by omega)];omega
  have p:=c.nY i;have e:=c.nY (i+1);rw[Cal.first]at e;have j:cn .i64 (c.first i+Et (c.leap i))=c.first i+Et (c.leap i):=aF (by omega);have hd:=adE c m (c.firsts (i+1)) (some []) i (by omega) (fun n h=>by have:=l n h;omega);rw[sK]at hd
  rcases i with _|i
  ·simp only[alL,opC,opA,h2,dJ,dO,bD,ae,dD,DV.strip,fits_int,forall_eq,RN,F,H,I,J,N,O]
   (repeat(refine az (by first|assumption|rfl|(simp;done)|(simp;omega)) ?_))
   refine kR (by rfl) (by rfl) hd rfl ?_;simp only[j,k,RN];exact dH (len:=4002) (i:=0) () h1 rfl trivial
  ·simp only[alL,opC,opA,h2,dJ,dO,bD,ae,dD,DV.strip,fits_int,forall_eq,RN,F,H,J,N,O]
   have b:(c.firsts (i+1)).length=i+1:=by simp[Cal.firsts]
   have f:(c.firsts (i+1)).map ay++ [dI (c.first (i+1))]=(c.firsts (i+1+1)).map ay:=by rw[c.O7 (i+1),av];rfl
   rw[f,Q,b]
   (repeat(refine az (by first|assumption|rfl|(simp;done)|(simp;omega)) ?_))
   refine kR (tY (Dw rfl rfl)) rfl hd rfl ?_;simp only[j,k,RN];exact dH (len:=4002) (i:=i+1) () h1 rfl trivial
 ·have o:¬((4002:Nat):Int)<4002:=by omega
  simp only[alL,opC,opA,o,dO,bD,ae,dD,gQ,Me,RN,F,H,J,O];rw[sK];exact Dw rfl rfl
def NT (n b:Int)(hb:0<b):lT n b*b<=n/\n<(lT n b+1)*b:=by
 have h:=bO n b;have h1:=aR n hb;have h2:=Int.lt_tmod_of_pos n hb;have d:n.tdiv b*b=b*n.tdiv b:=Int.mul_comm _ _;unfold lT
 split
 ·have c:(n.tdiv b - 1)*b=n.tdiv b*b - b:=by rw[cl];omega
  have a:(n.tdiv b - 1+1)*b=n.tdiv b*b:=by rw[show n.tdiv b - 1+1=n.tdiv b by omega]
  omega
 ·have a:(n.tdiv b+1)*b=n.tdiv b*b+b:=by rw[ax];omega
  omega
def ae0 {n b q:Int}(hb:0<b)(h1:q*b<=n)(h2:n<(q+1)*b):lT n b=q:=by
 obtain⟨e,f⟩:=NT n b hb;have c:lT n b<q+1:=ap (a:=b) (by omega) (by omega);have d:q<lT n b+1:=ap (a:=b) (by omega) (by omega);omega
def afi (m:jV)(q:m.ok=true)(n:Int):∃j:Nat,j<=44/\X8 m (n+j)=13:=by
 obtain⟨hd,y,x⟩:=m.facts q;have b:0<m.n:=by omega
 have l:0<m.d:=by omega
 obtain⟨K,o⟩:∃K,K=lT ((n+1)*m.d - 1 - m.ad) m.n:=⟨_,rfl⟩
 obtain⟨g,h⟩:=NT ((n+1)*m.d - 1 - m.ad) m.n b;rw[<-o]at g h;obtain⟨s,c⟩:∃s,s=lT ((K+1)*m.n+m.ad) m.d:=⟨_,rfl⟩
 obtain⟨i,k⟩:=NT ((K+1)*m.n+m.ad) m.d l;rw[<-c]at i k;have e:(K+1)*m.n=K*m.n+m.n:=by rw[ax];omega
 have r:(n+1)*m.d=n*m.d+m.d:=by rw[ax];omega
 have t:(s+1)*m.d=s*m.d+m.d:=by rw[ax];omega
 have u:(n+32)*m.d=n*m.d+32*m.d:=by rw[ax]
 have b1:n+1<s+1:=ap (a:=m.d) (by omega) (by omega);have b2:s<n+32:=ap (a:=m.d) (by omega) (by omega);refine⟨(s+13 - n).toNat,by omega,?_⟩;have f:n+((s+13 - n).toNat:Int)=s+13:=by omega
 rw[f];have v:(s+13+1)*m.d=s*m.d+14*m.d:=by rw[show s+13+1=s+14 by omega,ax]
 have w:(K+1+1)*m.n=K*m.n+m.n+m.n:=by rw[ax,e];omega
 have p:lT ((s+13+1)*m.d - 1 - m.ad) m.n=K+1:=ae0 b (by omega) (by omega);unfold X8;rw[p,<-c];omega
def zQ (m:jV):Nat->Int->Int
 |0,n=>n
 |k+1,n=>if X8 m n=13 then n else zQ m k (n+1)
def jV.full (m:jV)(n:Int):Int:=zQ m 45 n
def YR {m:jV}{n:Int}(h:X8 m n=13):zQ m k n=n:=by
 cases k with
 |zero=>rfl
 |succ k=>rw[zQ,if_pos h]
def U7 (m:jV):∀(k:Nat) (n:Int),n<=zQ m k n/\zQ m k n<=n+k
 |0,n=>⟨a7 _,by simp[zQ]⟩
 |k+1,n=>by
  rw[zQ]
  split
  ·omega
  ·have:=U7 m k (n+1)
   omega
def sunday (c:Cal)(m:jV)(y:Int):Int:=let n:=m.full (J5 c (c.firsts 4002) ⟨y,3,21⟩);n+(7 - wd n)
def ac5 (c:Cal)(m:jV)(y:Int)(es:List (DV×DV)):Prop:=es=[]\/es=[(.agg [dI y,dI 3,dI 21],dI (sunday c m y))]
def Gs (c:Cal)(m:jV)(y:Int):List (DV×DV):=[(.agg [dI y,dI 3,dI 21],dI (sunday c m y))]
def Dl (c:Cal)(hc:c.ok=true):∀x∈c.firsts 4002,0<=x/\x<=10000000:=by
 obtain⟨b,_,_⟩:=Cal.facts hc;intro x a;simp only[Cal.firsts,aw,List.mem_range]at a;obtain⟨i,hi,rfl⟩:=a;have:=c.nY i;omega
section
variable {C:Ctx}{base:Nat}{KP:DV->Mem->Prop}
variable{ks:List Nat}{b:Nat}{M:Mem}{K:PV->Mem->Prop}
def SA {ok:Bool}{z:DV}{k:DV}(l:List (DV×DV))(r:Option DV)(hb:M.box b=some [.iO l])(h1:iP ks k k=some true)(h2:qp ks l k=some r)(a:K (.d (GI ok z r)) M):
  au C base (.Jg ok ks z) [.mref b, .d k] M K KP:=by
 simp only[au,hb,h1,h2];exact a
def aoo {k:List DV}{v:DV}(l a:List (DV×DV))(hb:M.box b=some [.iO l])(hf:b∉M.fz)(h1:bW ks k k=some true)(h2:Dv ks l k v=some a)(c:K .dead {M with boxes:=M.boxes.set b (some [.iO a])}):
  au C base (.Qk ks) [.mref b, .d (.agg k), .d v] M K KP:=by
 simp only[au,hb,h1,h2];exact⟨hf,c⟩
end
def amK (y:Int):bW [1,1,1] [dI y,dI 3,dI 21] [dI y,dI 3,dI 21]=some true:=by simp[bW]
def ab3 (y:Int):iP [1,1,1] (.agg [dI y,dI 3,dI 21]) (.agg [dI y,dI 3,dI 21])=some true:=by
 simp only[iP,amK];rfl
def zO (c:Cal)(n:Nat):(c.firsts n).length=n:=by simp[Cal.firsts]
def ahg (c:Cal)(fs:List Int)(d:Dt)(hf:∀x∈fs,0<=x/\x<=10000000)(f:d.y.toNat<fs.length)(hd:1<=d.d/\d.d<=31):0<=J5 c fs d/\J5 c fs d<=10000400:=by
 have b1:=hf _ (getD_mem f);have g:jy (cZ (c.leap d.y)) 0<=366:=by have:=wS (c.leap d.y);unfold Et at this;rw[this];split<;>decide
 have b:=OH (cZ (c.leap d.y)) (d.m - 1).toNat 0 fun x a=>by have:=sS _ x a;omega
 have e:=zF ((cZ (c.leap d.y)).take (d.m - 1).toNat) 0 fun x a=>by have:=sS _ x (bc a);omega
 unfold J5;omega
variable{x0 x1 x2 x3 x4 x6:Option (List PV)}
def agj {x7 x8 x9:Option (List PV)}{fz:List Nat}{A1 A2:Option Arr}(c:Cal)(m:jV)(y:Int)(es:List (DV×DV))(hc:c.ok=true)(v:m.ok=true)(Q:0<=y/\y<=4000)(r:ac5 c m y es)(s:5∉fz)(g:∀i∈fz,i<10):
  ∃M',SC C 313 [.agg [pI c.ep, .d (sF (c.cy.map ay)),pI m.n,pI m.d,pI m.ad, .tsl 0 4001 0, .mref 5],pI y]
   ⟨[x0,x1,x2,x3,x4,some [.iO es],x6,x7,x8,x9],fz,[some ⟨1,(c.firsts 4002).map ay,4001,0⟩,A1,A2]⟩
   (fun p M=>p= .d (dI (sunday c m y))/\M=M') (fun _ _=>False)/\M'.boxes.take 10=[x0,x1,x2,x3,x4,some [.iO (Gs c m y)],x6,x7,x8,x9]/\M'.fz=fz/\M'.aC=[some ⟨1,(c.firsts 4002).map ay,4001,0⟩,A1,A2]:=by
 obtain⟨G,L,z⟩:=Cal.facts hc;refine⟨⟨[x0,x1,x2,x3,x4,some [.iO (Gs c m y)],x6,x7,x8,x9,some [pI c.ep, .d (sF (c.cy.map ay)),pI m.n,pI m.d,pI m.ad, .tsl 0 4001 0, .mref 5],some [pI y,pI 3,pI 21]],fz,[some ⟨1,(c.firsts 4002).map ay,4001,0⟩,A1,A2]⟩,?_,rfl,rfl,rfl⟩;have aqY:10∉fz:=fun h=>by have:=g _ h;omega
 have aqr:11∉fz:=fun h=>by have:=g _ h;omega
 refine aB vI aH ?_;simp only[vI,aH,gQ,Kt,aqr,RN,F,H,O]
 rcases r with rfl|rfl
 ·refine SA [] none rfl (ab3 y) rfl ?_
  simp only[GI,cond_true,Option.getD_none,bp,RN,F,H,O];have k:(c.firsts 4002).length=4002:=by simp[Cal.firsts]
  have hd:=ahh c m (c.firsts 4002) (some []) ⟨y,3,21⟩ (by omega) (fun n h=>by have:=z n h;omega) (Dl c hc) (by rw[k];simp only;omega) (by simp only;omega) (by simp only;omega);rw[sK,Bz]at hd;obtain⟨b,f⟩:∃b,b=J5 c (c.firsts 4002) ⟨y,3,21⟩:=⟨_,rfl⟩
  rw[<-f]at hd;have A:0<=b/\b<=10000400:=by rw[f];exact ahg c _ _ (Dl c hc) (by rw[k];simp only;omega) ⟨by simp only;omega,by simp only;omega⟩
  refine kR (tY (Dw rfl rfl)) rfl hd rfl ?_;(try simp only[RN,F,H,I,J,N,O]);obtain⟨j,K,t⟩:=afi m v b;refine kN (fun i:Nat=>⟨[(2, .ptr 10 0),(5, .ptr 11 0),(8,pI (b+i))],⟨[x0,x1,x2,x3,x4,some [.iO []],x6,x7,x8,x9,some [pI c.ep, .d (sF (c.cy.map ay)),pI m.n,pI m.d,pI m.ad, .tsl 0 4001 0, .mref 5],some [pI y,pI 3,pI 21]],fz,[some ⟨1,(c.firsts 4002).map ay,4001,0⟩,A1,A2]⟩⟩)
   (fun i=>i<=j/\m.full b=zQ m (45 - i) (b+i)) (fun i=>j - i) 0 (by simp) ⟨Z _,by simp[jV.full]⟩ ?_
  rintro i ⟨x,l⟩;have u:=aoR m (b+i) v (by omega);rw[rG]at u;(try simp only[RN,F,H,O]);refine ak u ?_
  by_cases e:X8 m (b+i)=13
  ·have aqu:m.full b=b+i:=by rw[l,YR e]
   simp only[e,bne_self_eq_false,RN,F,H];have D:=agp (b+i) (by omega);refine ak D ?_;have w1:0<=wd (b+i):=bN 7 (by omega);have R:wd (b+i)<7:=aR _ (by decide);have q:cn .i64 (7 - wd (b+i))=7 - wd (b+i):=aF (by omega);have w:cn .i64 (b+i+(7 - wd (b+i)))=b+i+(7 - wd (b+i)):=aF (by omega);simp only[q,w,RN,H,O];have o:sunday c m y=b+i+(7 - wd (b+i)):=by simp only[sunday,<-f,aqu]
   refine aoo [] (Gs c m y) rfl s (amK y) (by rw[Gs,o];rfl) ?_;(try simp only[RN]);rw[o]
  ·have q:cn .i64 (b+i+1)=b+((i+1:Nat):Int):=by rw[aF (by omega)];omega
   have ap7:(X8 m (b+i) !=13)=true:=by simp[e]
   simp only[ap7,q,RN,F,H];have B:i≠j:=by rintro rfl;exact e t
   refine rO (μ:=fun i=>j - i) (a:=i) (E:=fun i:Nat=>⟨[(2, .ptr 10 0),(5, .ptr 11 0),(8,pI (b+i))],⟨[x0,x1,x2,x3,x4,some [.iO []],x6,x7,x8,x9,some [pI c.ep, .d (sF (c.cy.map ay)),pI m.n,pI m.d,pI m.ad, .tsl 0 4001 0, .mref 5],some [pI y,pI 3,pI 21]],fz,[some ⟨1,(c.firsts 4002).map ay,4001,0⟩,A1,A2]⟩⟩) (P:=fun i=>i<=j/\m.full b=zQ m (45 - i) (b+i)) (i+1) (by omega) rfl ⟨by omega,?_⟩;rw[l,show 45 - i=(45 - (i+1))+1 by omega,zQ,if_neg e]
   congr 1
   omega
 ·refine SA (Gs c m y) (some (dI (sunday c m y))) rfl (ab3 y) ?_ ?_
  ·simp only[Gs,qp,ab3]
  simp only[GI,cond_true,bE,bq,RN,F]
  rfl
def aos (c:Cal)(m:jV):PV:= .agg [pI c.ep, .d (sF (c.cy.map ay)),pI m.n,pI m.d,pI m.ad, .tsl 0 4001 0, .mref 5]
def adJ (x0 x1:Option (List PV))(c:Cal)(m:jV)(i:Nat):St:=
 ⟨[(4, .ptr 4 0),(5, .ptr 6 0),(6,pI (c.first i)),(14,pI i)],
  ⟨[x0,x1,some [pI c.ep, .d (sF (c.cy.map ay))],some [pI m.n,pI m.d,pI m.ad],
   some [pI 0, .d (.slice true []),pI 0,pI 0,pI 0, .d (.slice true []), .d (.map none)],
   some [.iO []],some [pI c.ep, .d (sF (c.cy.map ay)),pI m.n,pI m.d,pI m.ad,opC i, .mref 5]],[3,2,1,0],opA c i⟩⟩
def alM (c:Cal)(m:jV)(hc:c.ok=true):SC C 265 [.d c.dv, .d m.dv] ⟨[x0,x1],[1,0],[]⟩ (fun p M=>p=aos c m/\∃x2 x3 x4 x6,(∀x∈[x2,x3,x4,x6],∀n k,7<=n->1<=k->((x.getD []).all fun p=>p.upto n k)=true)/\M=⟨[x0,x1,x2,x3,x4,some [.iO []],x6],[3,2,1,0],[some ⟨1,(c.firsts 4002).map ay,4001,0⟩]⟩) (fun _ _=>False):=by
 obtain⟨u,v,s⟩:=Cal.facts hc;refine aB zo Xx ?_;simp only[zo,Xx,nU,rG,Q7,J9,UJ,ae,dD,gQ,Me,RN,F,H,J,O];refine aG 4002 (fun i (_:Unit)=>adJ x0 x1 c m i) (fun i _=>True) 0 () (Z _) rfl trivial (fun i a h1 g=> ?_) (fun a g=> ?_)
 ·have h2:(i:Int)<4002:=by omega
  have r:cn .i64 ((i:Int)+1)=((i+1:Nat):Int):=by rw[aF (by omega)];omega
  have t:=c.nY i;have e:=c.nY (i+1);rw[Cal.first]at e;have l:cn .i64 (c.first i+Et (c.leap i))=c.first i+Et (c.leap i):=aF (by omega);have hd:=adE c m (c.firsts (i+1)) (some []) i (by omega) (fun n h=>by have:=s n h;omega);rw[sK]at hd
  rcases i with _|i
  ·simp only[adJ,opC,opA,h2,dJ,dO,bD,ae,dD,DV.strip,fits_int,forall_eq,RN,F,H,I,J,N,O]
   (repeat(refine az (by first|assumption|rfl|(simp;done)|(simp;omega)) ?_))
   refine kR (by rfl) (by rfl) hd rfl ?_;simp only[l,r,RN];exact dH (len:=4002) (i:=0) () h1 rfl trivial
  ·simp only[adJ,opC,opA,h2,dJ,dO,bD,ae,dD,DV.strip,fits_int,forall_eq,RN,F,H,J,N,O]
   have b:(c.firsts (i+1)).length=i+1:=by simp[Cal.firsts]
   have f:(c.firsts (i+1)).map ay++ [dI (c.first (i+1))]=(c.firsts (i+1+1)).map ay:=by rw[c.O7 (i+1),av];rfl
   rw[f,Q,b]
   (repeat(refine az (by first|assumption|rfl|(simp;done)|(simp;omega)) ?_))
   refine kR (tY (Dw rfl rfl)) rfl hd rfl ?_;simp only[l,r,RN];exact dH (len:=4002) (i:=i+1) () h1 rfl trivial
 ·have j:¬((4002:Nat):Int)<4002:=by omega
  simp only[adJ,opC,opA,j,dO,bD,ae,dD,gQ,Me,RN,F,H,J,O];refine⟨rfl,_,_,_,_,?_,rfl⟩;intro x j n k h1 h2;have o:5<n:=by omega
  have q:0<k:=by omega
  rcases j with rfl|rfl|rfl|rfl
  ·rfl
  ·rfl
  ·simp[PV.upto,o,q]
  ·simp[PV.upto,o,q]
variable{M:Mem}{y:DV}
def UW {p:PV}{d:DV}(h:datum M p=some d):bV M [p, .d y]=some [d,y]:=tY h
def agi (c:Cal)(m:jV)(y:Int)(hc:c.ok=true)(a:0<=y/\y<=4000):0<=sunday c m y/\sunday c m y<=10000500:=by
 have h1:=ahg c (c.firsts 4002) ⟨y,3,21⟩ (Dl c hc) (by rw[zO];simp only;omega) (by simp only;omega);have h2:=U7 m 45 (J5 c (c.firsts 4002) ⟨y,3,21⟩);have w1:0<=wd (m.full (J5 c (c.firsts 4002) ⟨y,3,21⟩)):=bN 7 (by unfold jV.full;omega);have b:wd (m.full (J5 c (c.firsts 4002) ⟨y,3,21⟩))<7:=aR _ (by decide);simp only[sunday];unfold jV.full at*;omega
def CV (c:Cal)(m:jV)(y:Int)(f:Fs):Int:=if f.mv then sunday c m y+f.af else if rP c ⟨y,f.mo,f.da⟩then J5 c (c.firsts 4002) ⟨y,f.mo,f.da⟩else -1
def Fs.facts {f:Fs}(h:f.bad=false):(f.mv=true-> -60<=f.af/\f.af<=60)/\(f.mv=false->(1<=f.mo/\f.mo<=12)/\1<=f.da/\f.da<=31):=by
 unfold Fs.bad at h;cases a:f.mv<;>simp[a,inR]at h<;>simp<;>omega
def ae8 {ex:Bool}(c:Cal)(m:jV)(l:List Fs)(y:Int)(hc:c.ok=true)(hm:m.ok=true)(R:0<=y/\y<=4000)(hl:l.length<=6)(hb:∀f∈l,f.bad=false)(hx:∀x∈[x0,x1,x2,x3,x4,x6],∀n k,7<=n->1<=k->((x.getD []).all fun p=>p.upto n k)=true):
  SC C 266 [aos c m, .d (.slice ex (l.map Fs.dv)),pI y] ⟨[x0,x1,x2,x3,x4,some [.iO []],x6],[3,2,1,0],[some ⟨1,(c.firsts 4002).map ay,4001,0⟩]⟩
   (fun p M=>Jj M p 1 ((l.map (CV c m y)).map ay) 0) (fun _ _=>False):=by
 obtain⟨he,X,P⟩:=Cal.facts hc;refine aB vG jv ?_;simp only[vG,jv,aos,gQ,Kt,Q,RN,F,H,N];refine aG l.length (fun i (es:List (DV×DV))=>⟨[(2,pI y),(3, .ptr 7 0),(7, .tsl 2 i 0),(12, .d (.slice ex (l.map Fs.dv))),(13,pI l.length),(14,pI i)],
   ⟨[x0,x1,x2,x3,x4,some [.iO es],x6,some [pI c.ep, .d (sF (c.cy.map ay)),pI m.n,pI m.d,pI m.ad, .tsl 0 4001 0, .mref 5]],[3,2,1,0],
    [some ⟨1,(c.firsts 4002).map ay,4001,0⟩,some ⟨1,[],0,0⟩,some ⟨1,((l.take i).map (CV c m y)).map ay,i,0⟩]⟩⟩)
  (fun i es=>ac5 c m y es) 0 [] (Z _) rfl (.inl rfl) (fun i es h1 b=> ?_) (fun es b=> ?_)
 ·obtain⟨h2,W,r⟩:=rng h1 (by omega)
  have L:=Fs.facts (hb _ (getD_mem h1));have g:((l.take i).map (CV c m y)).map ay++ [dI (CV c m y (l.getD i default))]=((l.take (i+1)).map (CV c m y)).map ay:=by
   rw[bf h1];simp[ay]
  have Y:(((l.take i).map (CV c m y)).map ay).length<=6:=by simp;omega
  have a:(CV c m y (l.getD i default))=(if(l.getD i default).mv then sunday c m y+(l.getD i default).af else if rP c ⟨y,(l.getD i default).mo,(l.getD i default).da⟩then J5 c (c.firsts 4002) ⟨y,(l.getD i default).mo,(l.getD i default).da⟩else -1):=rfl;have ab:=agi c m y hc R;have t:=hx x0 (by simp) 8 3 (by omega) (by omega);have u:=hx x1 (by simp) 8 3 (by omega) (by omega);have v:=hx x2 (by simp) 8 3 (by omega) (by omega);have w:=hx x3 (by simp) 8 3 (by omega) (by omega);have z:=hx x4 (by simp) 8 3 (by omega) (by omega);have A:=hx x6 (by simp) 8 3 (by omega) (by omega);simp only[h2,W,h1,ade,getD_map,S,Q,RN,F,H,J,O];cases e:(l.getD i default).mv
  ·obtain⟨B,D⟩:=L.2 e
   rw[e]at a;simp only[bl,if_false]at a;have hd:=Y5 c m (c.firsts 4002) (some es) ⟨y,(l.getD i default).mo,(l.getD i default).da⟩ (by omega) (fun n h=>by have:=P n h;omega);rw[sK,Bz]at hd;(try simp only[RN,F,H,O]);refine kR (UW (Dw rfl rfl)) rfl hd rfl ?_;cases o:rP c ⟨y,(l.getD i default).mo,(l.getD i default).da⟩
   ·rw[o]at a
    simp only[bl,if_false]at a;simp only[DV.strip,fits_int,forall_eq,RN,F,H,J,N,O]
    (repeat(refine az (by first|assumption|rfl|(simp;done)|(simp;omega)) ?_))
    rw[<-a,g,r];exact bQ 8 3 es h1 rfl b (by decide) (by decide) rfl (by simp only[bi,bX,b4,t,u,v,w,z,A];rfl)
   ·rw[o]at a
    simp only[if_true]at a;(try simp only[RN,F,H,O]);have j:=ahh c m (c.firsts 4002) (some es) ⟨y,(l.getD i default).mo,(l.getD i default).da⟩ (by omega) (fun n h=>by have:=P n h;omega) (Dl c hc) (by rw[zO];simp only;omega) B D;rw[sK,Bz]at j;refine kR (UW (Dw rfl rfl)) rfl j rfl ?_;simp only[DV.strip,fits_int,forall_eq,RN,H,J,N,O]
    (repeat(refine az (by first|assumption|rfl|(simp;done)|(simp;omega)) ?_))
    rw[<-a,g,r];exact bQ 8 3 es h1 rfl b (by decide) (by decide) rfl (by simp only[bi,bX,b4,t,u,v,w,z,A];rfl)
  ·obtain⟨B,D⟩:=L.1 e
   rw[e]at a;simp only[if_true]at a;have U:cn .i64 (sunday c m y+(l.getD i default).af)=sunday c m y+(l.getD i default).af:=aF (by omega);(try simp only[RN,F,H,N,O]);obtain⟨⟨q,V,T⟩,s,E,G,I⟩:=agj (x0:=x0) (x1:=x1) (x2:=x2) (x3:=x3) (x4:=x4) (x6:=x6) (x7:=some [pI c.ep, .d (sF (c.cy.map ay)),pI m.n,pI m.d,pI m.ad, .tsl 0 4001 0, .mref 5])
    (x8:=some [.d (.bool true),pI ((l.getD i default).mo),pI ((l.getD i default).da),pI ((l.getD i default).af)])
    (x9:=some [pI y,pI ((l.getD i default).mo),pI ((l.getD i default).da)]) (fz:=[8,3,2,1,0])
    (A1:=some ⟨1,[],0,0⟩) (A2:=some ⟨1,((l.take i).map (CV c m y)).map ay,i,0⟩) c m y es hc hm R b (by decide) (by decide)
   simp only at E G I;subst G I;refine⟨_,_,s,?_⟩;simp only[U,DV.strip,fits_int,forall_eq,RN,J,O]
   (repeat(refine az (by first|assumption|rfl|(simp;done)|(simp;omega)) ?_))
   have K:q.take 8=[x0,x1,x2,x3,x4,some [.iO (Gs c m y)],x6,some [pI c.ep, .d (sF (c.cy.map ay)),pI m.n,pI m.d,pI m.ad, .tsl 0 4001 0, .mref 5]]:=by
    have:=congrArg (List.take 8) E;rw[List.take_take]at this;exact this
   rw[<-a,g,r];exact bQ 8 3 (Gs c m y) h1 (by rw[K];rfl) (.inr rfl) (by decide) (by decide) rfl (by rw[K];simp only[b4,t,u,v,w,z,A];rfl)
 ·simp only[am,RN,F,H]
  rw[b9];exact⟨2,_,rfl,rfl⟩
def wU (c:Cal)(m:jV)(l:List Fs)(y:Int):DV:=
 if c.ok&&m.ok&&nX l&&inR y 0 4000 then .tup [sF ((l.map (CV c m y)).map ay),dI 0]else .tup [.slice true [],dI 2]
def zN {l:List Fs}(h:nX l=true):l.length<=6/\∀f∈l,f.bad=false:=by
 simp only[nX,U,decide_eq_true_eq,bt]at h;refine⟨h.1,fun f a=> ?_⟩;have:=h.2;rw[List.any_eq_false]at this
 simpa using this f a
def amj {v:PV}{sz st:Nat}{xs:List DV}{x:DV}(h:Jj M v sz xs st)(a:y= .tup [.slice false xs,x]):datum M (acR (gV [v, .d x]) [v, .d x])=some y:=by
 subst a;obtain⟨k,ver,rfl,h⟩:=h;simp[gV,acR,datum,bT,dR,Mem.row,h]
def XY (c:Cal)(m:jV)(ex:Bool)(l:List Fs)(y:Int)(g:c.cy.length<=1000000):Pure C 209 [c.dv,m.dv, .slice ex (l.map Fs.dv),dI y] (.d (wU c m l y)) []:=by
 refine bM (aB He Xu ?_);simp only[He,Xu,nU,rG,RN,F,H,O];have a:=WS c g;have b:=aia m;rw[nU]at a;rw[rG]at b;refine ak a ?_;cases f:c.ok
 ·(try simp only[RN,F,H])
  simp[wU,f,datum]
 ·(try simp only[RN,F,H,O])
  refine ak b ?_;cases q:m.ok
  ·(try simp only[RN,F,H])
   simp[wU,q,datum]
  ·(try simp only[RN,F])
   refine ak (Yb false l) ?_;cases i:nX l
   ·(try simp only[RN,F,H])
    simp[wU,i,datum]
   ·(try simp only[RN,F])
    refine ak (Wy y) ?_;cases r:inR y 0 4000
    ·(try simp only[RN,F,H])
     simp[wU,r,datum]
    ·(try simp only[RN,F,H,O])
     have s:0<=y/\y<=4000:=by simpa[inR]using r
     obtain⟨j,o⟩:=zN i;have t:=alM (x0:=some [pI c.ep, .d (sF (c.cy.map ay))]) (x1:=some [pI m.n,pI m.d,pI m.ad]) c m f;rw[nU,rG]at t;refine SC.mono t ?_;rintro p M ⟨rfl,x2,x3,x4,x6,w,rfl⟩;refine SC.mono (ae8 c m l y f q s j o ?_) ?_
     ·intro x e n k h1 h2
      simp only[aM,b8,or_false]at e
      rcases e with rfl|rfl|h
      ·rfl
      ·rfl
      ·exact w x (by simpa using h) n k h1 h2
     ·intro v M u
      exact amj u (by simp[wU,f,q,i,r])
def YA (c:Cal)(d:Dt):DV:=if c.ok&&rP c d then .tup [dI (J5 c (c.firsts 4002) d),dI 0]else .tup [dI 0,dI 2]
def Wx {c:Cal}{d:Dt}(h:rP c d=true):(0<=d.y/\d.y<=4000)/\(1<=d.m/\d.m<=12)/\1<=d.d/\d.d<=31:=by
 simp only[rP,U]at h;obtain⟨⟨h1,h2⟩,a⟩:=h;simp only[inR,U,decide_eq_true_eq,ge_iff_le]at h1 h2 a;have hi:(d.m - 1).toNat<(cZ (c.leap d.y)).length:=by rw[wF];omega
 have:=sS _ _ (getD_mem hi);omega
def ams (c:Cal)(d:Dt)(g:c.cy.length<=1000000):Pure C 218 [c.dv,d.dv] (.d (YA c d)) []:=by
 refine ah PE bn ?_;simp only[PE,bn,nU,Bz,RN,F,H,O];have e:=WS c g;rw[nU]at e;refine ak e ?_;cases b:c.ok
 ·(try simp only[RN,F,H])
  simp[YA,b]
 ·(try simp only[RN,F,H,O])
  obtain⟨m,o,i⟩:=Cal.facts b;have j:=aiJ c ⟨0,0,0⟩ b;rw[nU,rG,sK]at j;refine ak j ?_;(try simp only[RN,F,H,J,O]);have hd:=Y5 c ⟨0,0,0⟩ (c.firsts 4002) (some []) d (by omega) (fun n h=>by have:=i n h;omega);rw[sK,Bz]at hd;refine ak hd ?_;cases a:rP c d
  ·(try simp only[RN,F,H])
   simp[YA,a]
  ·(try simp only[RN,F,H,O])
   obtain⟨p,k,l⟩:=Wx a;have f:=ahh c ⟨0,0,0⟩ (c.firsts 4002) (some []) d (by omega) (fun n h=>by have:=i n h;omega) (Dl c b) (by rw[zO];omega) k l;rw[sK,Bz]at f;refine ak f ?_;(try simp only[RN]);simp[YA,a,b]
section
variable {C:Ctx}{base:Nat}{bs:List (Option (List PV))}{fz:List Nat}{ar:List (Option Arr)}{L:PV->Mem->Prop}{KP:DV->Mem->Prop}
def abq {k k':IntKind}{a b:Int}:au C base (.shf .shr) [.d (.int k a), .d (.int k' b)] ⟨bs,fz,ar⟩ L KP=(0<=b/\L (.d (.int k (a.fdiv (2 ^ min b.toNat k.bits)))) ⟨bs,fz,ar⟩):=px
end
def adr (n:Int):Pure C 141 [dI n] (.d (.bool false)) []:=by
 refine ah oQ aI ?_;simp only[oQ,aI,RN,F];simp
def aib (n:Int):Pure C 382 [dI n] (.d (.bool false)) []:=by
 refine ah oQ aI ?_;simp only[oQ,aI,RN,F];simp
def aoj (a b:Int):Pure C 379 [dI a,dI b] (.d (.bool (decide (a<b)))) []:=by
 refine ah FK aH ?_;simp only[FK,aH,RN,F,H];refine ak (adr _) ?_;(try simp only[RN,F])
structure acY (xs:List Int) (n:Int) (p:Nat):Prop where
 le:p<=xs.length
 lt:∀k,k<p->xs.getD k default<n
 ge:∀k,p<=k->k<xs.length->n<=xs.getD k default
def ND {n:Nat}(h:n<18446744073709551616):IntKind.u64.wrap (n:Int)=n:=by
 simp only[IntKind.wrap,IntKind.bits,IntKind.signed,bk,bl,if_false];omega
def half (a b:Nat)(h:a<b)(hb:b<=1000000):cn .i64 (IntKind.u64.wrap (cn .i64 ((a:Int)+(b:Int)))|>.fdiv (2 ^ min (1:Int).toNat IntKind.u64.bits))=(((a+b) / 2:Nat):Int):=by
 rw[aF (n:=(a:Int)+b) (by omega)];have c:IntKind.u64.wrap ((a:Int)+b)=(a:Int)+b:=by have:=ND (n:=a+b) (by omega);simpa using this
 rw[c];have d:((a:Int)+b).fdiv (2 ^ min (1:Int).toNat IntKind.u64.bits)=(((a+b) / 2:Nat):Int):=by
  have:(2:Int) ^ min (1:Int).toNat IntKind.u64.bits=2:=by decide
  rw[this,Int.fdiv_eq_ediv_of_nonneg _ (by decide)];omega
 rw[d];exact aF (by omega)
def aei (xs:List Int)(n:Int)(p:Nat)(hl:xs.length<=1000000)(r:acY xs n p):Pure C 361 [sF (xs.map ay),dI n] (.d (.tup [dI p, .bool (decide (p<xs.length/\xs.getD p default=n))])) []:=by
 refine ah oD bn ?_;simp only[oD,bn,Q,RN,F,H];refine kN (fun q:Nat×Nat=>⟨[(0, .d (sF (xs.map ay))),(1,pI n),(6,pI xs.length),(7,pI q.1),(8,pI q.2)],⟨[],[],[]⟩⟩)
  (fun q=>q.1<=p/\p<=q.2/\q.2<=xs.length) (fun q=>q.2 - q.1) (0,xs.length) rfl ⟨Z _,r.le,be _⟩ ?_
 rintro⟨a,b⟩ ⟨s,t,i⟩;simp only at s t i⊢
 by_cases k:a<b
 ·have c:(a:Int)<b:=by omega
  have hh:=half a b k (by omega);obtain⟨h,o⟩:∃h,h=(a+b) / 2:=⟨_,rfl⟩
  rw[<-o]at hh;have u:h<xs.length:=by omega
  have w:(0:Int)<=(h:Int):=by omega
  have x:cn .i64 ((h:Int)+1)=((h+1:Nat):Int):=by rw[aF (by omega)];omega
  simp only[c,abq,hh,u,w,Q,getD_map,S,aW,RN,F,O]
  (repeat(refine az (by first|assumption|rfl|(simp;done)|(simp;omega)) ?_))
  refine ak (aoj _ _) ?_
  by_cases g:xs.getD h default<n
  ·simp only[g,x,RN,F]
   refine rO (μ:=fun q:Nat×Nat=>q.2 - q.1) (a:=(a,b)) (h+1,b) (by simp only;omega) rfl ⟨?_,t,i⟩;simp only;refine Nat.lt_of_not_le fun f=> ?_
   have:=r.ge h f u;omega
  ·simp only[g,RN,F]
   refine rO (μ:=fun q:Nat×Nat=>q.2 - q.1) (a:=(a,b)) (a,h) (by simp only;omega) rfl ⟨s,?_,by simp only;omega⟩;simp only;refine Nat.le_of_not_lt fun f=> ?_
   exact g (r.lt h f)
 ·have c:¬(a:Int)<b:=by omega
  obtain rfl:a=p:=by omega
  by_cases e:a<xs.length
  ·have j:(a:Int)<(xs.length:Int):=by omega
   have v:(0:Int)<=(a:Int):=by omega
   by_cases l:xs.getD a default=n
   ·simp only[c,j,v,e,Q,getD_map,S,aW,l,beq_self_eq_true,RN,F,O]
   ·have m:(xs.getD a default==n)=false:=beq_false_of_ne l
    simp only[c,j,v,e,Q,getD_map,S,aW,l,m,RN,F,O];refine ak (aib _) ?_;(try simp only[RN,F])
  ·have j:¬(a:Int)<(xs.length:Int):=by omega
   simp only[c,j,e,false_and,RN,F]
def Ez (c:Cal)(y:Nat):c.first y+365<=c.first (y+1)/\c.first (y+1)<=c.first y+366:=by
 rw[Cal.first,wS]
 split<;>omega
def Ew (c:Cal){a b:Nat}(h:a<=b):c.first a<=c.first b:=by
 induction b with
 |zero=>
  obtain rfl:a=0:=by omega
  exact a7 _
 |succ b e=>
  by_cases d:a=b+1
  ·rw[d];exact a7 _
  ·have:=e (by omega)
   have:=Ez c b;omega
def nZ (c:Cal){n k:Nat}(h:k<n):(c.firsts n).getD k default=c.first k:=by
 simp[Cal.firsts,List.getD,h]
def firstAt (c:Cal)(Y:Nat)(day:Int)(e:Y<=4000)(h1:c.first Y<=day)(h2:day<c.first (Y+1)):acY (c.firsts 4002) day (if c.first Y=day then Y else Y+1):=by
 have d:=zO c 4002;refine⟨by rw[d];split<;>omega,fun k a=> ?_,fun k a b=> ?_⟩
 ·split at a
  ·rw[nZ c (by omega)]
   have:=Ew c (show k+1<=Y by omega);have:=Ez c k;omega
  ·rw[nZ c (by omega)]
   have:=Ew c (show k<=Y by omega);omega
 ·rw[d]at b
  rw[nZ c (by omega)]
  split at a
  ·have:=Ew c (show Y<=k by omega)
   omega
  ·have:=Ew c (show Y+1<=k by omega)
   omega
def Zl:List Int->Int->Int->Int×Int
 | [],_,_=>(0,0)
 |n::l,i,left=>if left<n then(i+1,left+1)else Zl l (i+1) (left - n)
def QX (c:Cal)(Y:Nat)(day:Int):Dt:=let r:=Zl (cZ (c.leap Y)) 0 (day - c.first Y);⟨Y,r.1,r.2⟩
def KR:∀(l:List Int) (p:Int),jy l p=p+jy l 0
 | [],p=>by simp[jy]
 |x::l,p=>by
  rw[jy,jy,KR l (p+x),KR l (0+x)];omega
def ang (c:Cal)(m:jV)(es:Option (List (DV×DV)))(Y:Nat)(day:Int)(hc:c.ok=true)(K:Y<=4000)(h1:c.first Y<=day)(h2:day<c.first (Y+1)):Pure C 341 [Zz c m (c.firsts 4002) es,dI day] (.d (QX c Y day).dv) []:=by
 obtain⟨j,hl,P⟩:=Cal.facts hc;have k:=zO c 4002;have L:=c.nY Y;have z:=c.nY (Y+1);refine bM (aB yL ai9 ?_);simp only[yL,ai9,sK,RN,F,H,O];refine cO rfl rfl (aei (c.firsts 4002) day _ (by omega) (firstAt c Y day K h1 h2)) ?_;have hh:(decide ((if c.first Y=day then Y else Y+1)<(c.firsts 4002).length/\(c.firsts 4002).getD (if c.first Y=day then Y else Y+1) default=day))=decide (c.first Y=day):=by
  by_cases j:c.first Y=day
  ·rw[if_pos j,k,nZ c (by omega)];simp[j];omega
  ·rw[if_neg j,k,nZ c (by omega)];simp[j];omega
 rw[hh];have B:cn .i64 (((Y+1:Nat):Int) - 1)=(Y:Int):=by rw[aF (by omega)];omega
 have A:cn .i64 (day - c.first Y)=day - c.first Y:=aF (by omega);have w:inR (Y:Int) 0 4000=true:=by simp[inR];omega
 have T:(0:Int)<=(Y:Int):=by omega
 have U:Y<(c.firsts 4002).length:=by omega
 have l:=WZ c m (c.firsts 4002) es Y (by omega) (fun n h=>by have:=P n h;omega);rw[sK]at l;have s:=wF (c.leap Y);have f:∃(q:Nat) (b:Bool),(if c.first Y=day then Y else Y+1)=q/\decide (c.first Y=day)=b/\((b=true/\q=Y)\/(b=false/\q=Y+1)):=by
  by_cases f:c.first Y=day
  ·exact⟨Y,true,if_pos f,decide_eq_true f, .inl ⟨rfl,rfl⟩⟩
  ·exact⟨Y+1,false,if_neg f,decide_eq_false f, .inr ⟨rfl,rfl⟩⟩
 obtain⟨q,b,t,u,v⟩:=f;rw[t,u];have r:=nZ c (show Y<4002 by omega)
 rcases v with⟨rfl,o⟩|⟨rfl,o⟩<;>rw[o]
 all_goals
  simp only[B,RN,F,H];refine ak (Wy _) ?_;simp only[w,T,U,S,getD_map,aW,r,A,Q,RN,F,H,O];refine ak l ?_;(try simp only[RN,F,H,I,J,N,O]);refine ak (L8 _) ?_;simp only[Q,s,RN];refine aG 12 (fun i (left:Int)=>⟨[(1,pI day),(4, .ptr 1 0),(5,pI Y),(7,pI left),(37, .d (sF ((cZ (c.leap Y)).map ay))),(38, .d (dI ((12:Nat):Int))),(39,pI i)],
    ⟨[some [pI c.ep, .d (sF (c.cy.map ay)),pI m.n,pI m.d,pI m.ad, .d (sF ((c.firsts 4002).map ay)), .d (.map es)],some [pI 0,pI 0,pI 0]],[0],[]⟩⟩)
   (fun i left=>0<=left/\left<=400/\left<jy ((cZ (c.leap Y)).drop i) 0/\Zl (cZ (c.leap Y)) 0 (day - c.first Y)=Zl ((cZ (c.leap Y)).drop i) i left) 0 (day - c.first Y) (Z _) rfl ⟨by omega,by have:=Ez c Y;omega,by rw[Cal.first]at h2;simp only[bR];unfold Et at h2;omega,by simp⟩ (fun i left D e=> ?_) (fun left e=> ?_)
  ·obtain⟨V,W,x,g⟩:=e
   have E:(i:Int)<((12:Nat):Int):=by omega
   have G:(0:Int)<=(i:Int):=by omega
   have y:cn .i64 ((i:Int)+1)=((i+1:Nat):Int):=by rw[aF (by omega)];omega
   have p:i<(cZ (c.leap Y)).length:=by omega
   have M:=sS _ _ (getD_mem p);rw[drop_cons p,Zl]at g;rw[drop_cons p,jy]at x;have R:=KR ((cZ (c.leap Y)).drop (i+1)) (0+(cZ (c.leap Y)).getD i default);have X:cn .i64 (left+1)=left+1:=aF (by omega);have u2:cn .i64 (left - (cZ (c.leap Y)).getD i default)=left - (cZ (c.leap Y)).getD i default:=aF (by omega);simp only[E,G,p,Q,S,getD_map,aW,RN,F,H,O]
   by_cases a:left<(cZ (c.leap Y)).getD i default
   ·rw[if_pos a]at g
    simp only[a,y,X,RN,F,H,J,O];rw[QX,g,Bz]
    rfl
   ·rw[if_neg a]at g
    simp only[a,y,u2,RN,F,H];exact dH (len:=12) (i:=i) (left - (cZ (c.leap Y)).getD i default) D rfl ⟨by omega,by omega,by omega,g⟩
  ·obtain⟨V,W,x,g⟩:=e
   rw[List.drop_eq_nil_of_le (by omega),jy]at x;omega
def lK:aA:=(r0 [⟨some 2,.alloc 0 [z0],[],none,0⟩] 1 [0,2] [])
def lM:aA:=(s0 [⟨some 4,.mov,[.t 0],none,0⟩,⟨some 5,.dQ,[.t 4],none,0⟩] 0 [2] [] (s0 [⟨none,.store 1,[.t 2,.c (.int .i64 0)],none,0⟩] 0 [2] [] .ret))
def kD:aA:=(.block 0 (s0 [⟨some 7,.ED false,[.t 5,.c (.nilIface)],none,0⟩] 0 [0,5,7] [] (cd 7 (r0 [⟨some 1,.mov,[.t 5],none,0⟩] 0 [] []) (s0 [⟨some 8,.tas T.iZ (.agg [.nilIface]),[.t 5],none,0⟩,⟨some 9,.ext 1,[.t 8],none,0⟩,⟨some 10,.ext 0,[.t 8],none,0⟩] 0 [0,5,9,10] [] (cd 9 (s0 [⟨some 2,.alloc 0 [.nilIface],[],none,0⟩,⟨none,.store 1,[.t 2,.t 10],none,0⟩] 1 [0] [] (r0 [⟨none,.store 1,[.t 0,.c (.int .i64 7)],none,0⟩] 0 [] [])) (s0 [⟨some 11,.tas T.rH (.agg [ze]),[.t 5],none,0⟩,⟨some 12,.ext 1,[.t 11],none,0⟩,⟨some 13,.ext 0,[.t 11],none,0⟩] 0 [0,5,12,13] [] (cd 12 (s0 [⟨some 3,.alloc 0 [ze],[],none,0⟩,⟨none,.store 1,[.t 3,.t 13],none,0⟩] 1 [0] [] (r0 [⟨none,.store 1,[.t 0,.c (.int .i64 4)],none,0⟩] 0 [] [])) (s0 [⟨some 4,.mov,[.t 5],none,0⟩] 0 [4] [] (r0 [⟨some 6,.mov,[.t 4],none,0⟩,⟨none,.panic,[.t 6],none,0⟩] 0 [] [])))))))))
def Mc:Wq C.P 220 275 1 6 14 2 3 5 lK lM kD=true:=by kernel_rfl
def FM:aA:=(.block 0 (s0 [⟨some 7,.ED false,[.t 5,.c (.nilIface)],none,0⟩] 0 [0,5,7] [] (cd 7 (r0 [⟨some 1,.mov,[.t 5],none,0⟩] 0 [] []) (s0 [⟨some 8,.tas T.NS (.agg [z0]),[.t 5],none,0⟩,⟨some 9,.ext 1,[.t 8],none,0⟩,⟨some 10,.ext 0,[.t 8],none,0⟩] 0 [0,5,9,10] [] (cd 9 (s0 [⟨some 2,.alloc 0 [z0],[],none,0⟩,⟨none,.store 1,[.t 2,.t 10],none,0⟩] 1 [0] [] (r0 [⟨none,.store 1,[.t 0,.c (.int .i64 5)],none,0⟩] 0 [] [])) (s0 [⟨some 11,.tas T.aeY (.agg [ze]),[.t 5],none,0⟩,⟨some 12,.ext 1,[.t 11],none,0⟩,⟨some 13,.ext 0,[.t 11],none,0⟩] 0 [0,5,12,13] [] (cd 12 (s0 [⟨some 3,.alloc 0 [ze],[],none,0⟩,⟨none,.store 1,[.t 3,.t 13],none,0⟩] 1 [0] [] (r0 [⟨none,.store 1,[.t 0,.c (.int .i64 4)],none,0⟩] 0 [] [])) (s0 [⟨some 4,.mov,[.t 5],none,0⟩] 0 [4] [] (r0 [⟨some 6,.mov,[.t 4],none,0⟩,⟨none,.panic,[.t 6],none,0⟩] 0 [] [])))))))))
def Zw:Wq C.P 339 360 1 6 14 2 3 5 lK lM FM=true:=by kernel_rfl
end Go.Tel
namespace Go.Am
def U0 {C:Ctx}{base:Nat}{M:Mem}{K:PV->Mem->Prop}{KP:DV->Mem->Prop}{f:FuncId}{fs cs args:List PV}:au C base .dQ (.func (.func f) fs cs::args) M K KP=(callable C.P f=true/\SC C f (fs++args++cs) M K KP):=px
section
variable {C:Ctx}{base te t5 b:Nat}{pc3:aA}{K:PV->Mem->Prop}{KP:DV->Mem->Prop}{env:List (Nat×PV)}{bs:List (Option (List PV))}{fz:List Nat}{ar:List (Option Arr)}{M:Mem}
def aaq:aoG C te t5 pc3 b K .ret ⟨env,⟨bs,fz,ar⟩⟩=pwp C bs.length ar.length pc3 (Fb te b K) ⟨[(0, .ptr b 0),(t5, .d .nilIface)],⟨bs,fz,ar⟩⟩:=px
def Ub {d:DV}:aoG C te t5 pc3 b K (.panic d) ⟨env,⟨bs,fz,ar⟩⟩=pwp C bs.length ar.length pc3 (Fb te b K) ⟨[(0, .ptr b 0),(t5, .d d)],⟨bs,fz,ar⟩⟩:=px
def wZ:Fb te b K .normal ⟨env,⟨bs,fz,ar⟩⟩=bY false 1 (.ptr b 0) ⟨bs,fz,ar⟩ fun v=>K v ⟨bs,fz,ar⟩:=px
variable{neq:Bool}
def O5:au C base (.ED neq) [.d .nilIface, .d .nilIface] M K KP=K (.d (.bool !neq)) M:=px
variable{v:DV}
def O4 {t:TypeId}:au C base (.ED neq) [.d (.iface t v), .d .nilIface] M K KP=K (.d (.bool neq)) M:=px
variable{z:DV}
def ny {t:TypeId}:au C base (.tas t z) [.d (.iface t v)] M K KP=K (.d (.tup [v, .bool true])) M:=by simp[au]
def fM {t a:TypeId}(h:(a==t)=false):au C base (.tas t z) [.d (.iface a v)] M K KP=K (.d (.tup [z, .bool false])) M:=by
 have b:¬a=t:=by simpa using h
 simp[au,b]
end
end Go.Am
namespace Go.Tel
open Go.Am
def amW (c:Cal)(Y:Nat)(day:Int)(hc:c.ok=true)(h:Y<=4000)(h1:c.first Y<=day)(h2:day<c.first (Y+1)):Pure C 298 [c.dv,dI day] (.d (.tup [(QX c Y day).dv,dI 0])) []:=by
 obtain⟨j,k,l⟩:=Cal.facts hc;have i:=c.nY Y;have e:=c.nY (Y+1);have hd:inR day 0 2000000=true:=by simp[inR];omega
 refine ah MF Ij ?_;simp only[MF,Ij,nU,RN,F,H,O];have b:=WS c (by omega);rw[nU,hc]at b;refine ak b ?_;(try simp only[RN,F,O]);refine ak (ahj _) ?_;simp only[hd,kQ,ae,bX,bR,RN,F,H];refine ajQ mixed Zw ?_;simp only[lK,RN,F,H];refine⟨4,rfl,?_⟩;simp only[lM,U0,RN,F,H];refine⟨by kernel_rfl,aB G9 dX ?_⟩;simp only[G9,dX,RN,F,H,O];have f:=aiJ c ⟨0,0,0⟩ hc;rw[nU,rG,sK]at f;refine ak f ?_;(try simp only[]);have a:=ang c ⟨0,0,0⟩ (some []) Y day hc h h1 h2;rw[sK,Bz]at a;refine ak a ?_;have g:((0:Int) !=0)=false:=rfl;(try simp only[RN,H,J,O]);simp only[aaq,FM,O5,wZ,g,RN,F,H,J,O];rw[Bz]
def Hu:aA:=(s0 [ba 4 0 0,al 8 1 [z0,z0],mi 9 0] 2 [1,2,3,4,8] [4] (sw (sr [lw 17 8 4,oa 18 (.aj 35) 17,oa 19 pN 18,mv 20 19,ow 21 .mov 1 20 0,oF 22 (.aj 78) [.t 21,kI 4,kI 50] 20 0,ow 23 pN 22 20 0,pt 24 20 23,mv 25 24,ow 26 (.load true 8) 4 25 0,ow 27 .mov 2 25 0,obF 28 (.aj 36) 26 27 25 0,ow 29 pN 28 25 0,pt 30 25 29,mv 31 30,ow 32 .mov 3 31 0,oF 33 pQ [.t 32,kI (-1)] 31 0,ow 34 .mov 33 31 0,ov 35 (.load true 8) 4 34 0,ov 36 .mov 3 34 0,obT 37 (.aj 36) 35 36 34 0,ov 38 pN 37 34 0,ov 39 .mov 38 34 0,ow 40 .mov 2 39 0,ow 41 .mov 3 39 0,obF 42 pE 40 41 39 0,ot 43 .pick [.t 39,.c (.bool true),.t 42] 34 0,oF 44 .pick [.t 34,.t 43,.c (.bool false)] 31 0,pt 45 31 44] 0 [1,2,3,4,8,45] (cd 45 (sr [on 46 (.build [z0,z0] []) [],sk 2 8 46 0,mi 9 2] 0 [8,9] .ret) .skip)) (sr [mv 47 2,oa 48 (.dU 1 [z0] [0]) 47,mv 10 48] 0 [1,2,3,4,8,10] (sw (sr [mv 49 3,oi 50 (.bin .geq) 49 0] 0 [1,2,3,4,8,10,50] (cd 50 (rg [mv 51 10,mv 52 3,oa 53 (.dU 1 [z0] [0]) 52,ob 54 (.app 1 false) 51 53,mv 10 54] 0 [1,2,4,8,10]) .skip)) (sw (sr [fa 55 5 4,lo 56 55,oa 57 .len 56,oi 58 pE 57 6,mv 59 58,ow 60 (.fld 6) 4 59 0,lq 61 60 59,ow 62 .len 61 59 0,oF 63 pE [.t 62,kI 8] 59 0,pt 64 59 63,mv 65 64,ow 66 (.fld 7) 4 65 0,lq 67 66 65,ow 68 .len 67 65 0,ow 69 .mov 10 65 0,ow 70 .len 69 65 0,obF 71 pA 68 70 65 0,oF 72 pG [.t 71,kI 10] 65 0,pt 73 65 72] 0 [1,2,4,8,10,73] (cd 73 (sr [on 74 (.build [z0,z0] []) [],sk 2 8 74 0,mi 9 3] 0 [8,9] .ret) .skip)) (s0 [fa 75 6 4,lo 76 75,oa 77 .len 76,mv 11 77] 0 [1,2,4,8,10,11] [10] (sw (sr [fa 78 0 4,lo 79 78,oi 80 pA 79 1,mi 81 0] 0 [1,2,4,8,10,11,80,81] (lp (sr [ob 82 pL 81 80] 0 [1,2,4,8,10,11,80,81,82] (sw (cx 82 0) (sw (b1 (sr [mv 83 81,mv 12 83] 0 [1,2,4,8,10,11,12,80,81] (.scope (sw (.label 0) (sr [fa 84 1 4,lo 85 84,oi 86 pA 85 1,mi 87 0] 0 [1,2,4,8,10,11,12,80,81,86,87] (.block 2 (.loop (sr [ob 88 pL 87 86] 0 [1,2,4,8,10,11,12,80,81,86,87,88] (sw (cx 88 2) (sw (.block 3 (sr [mv 89 87,mv 13 89] 0 [1,2,4,8,10,11,12,13,80,81,86,87] (s0 [mv 90 12,mv 91 13,ob 92 (.build [z0,z0] [(0,1),(1,1)]) 90 91,al 14 0 [z0,z0],sk 2 14 92 0] 1 [1,2,4,8,10,11,12,14,80,81,86,87] [14] (sw (sr [fa 93 5 4,lo 94 93,lw 95 2 14,ob 96 (.aj 79) 94 95] 0 [1,2,4,8,10,11,12,14,80,81,86,87,96] (cd 96 (.exit 3) .skip)) (sw (r1 [ou 97 (.load true 8) 4 1,ou 98 (.load true 2) 14 1,fu 99 6 4 1,lv 100 99,mv 101 2,ob1 102 (.bH 4) 100 101 1,fu 103 2 102 1,lv 104 103,mv 105 1,mv 106 10,of 107 (.kZ 80) [.t 97,.t 98,.t 104,.t 105,.t 106] 1,oc 108 (.aj 37) 107 cS,al 15 0 [z0,z0,z0,z0,z0,zs,zs,zs,.map none,zs],sk 10 15 108 4] 1 [1,2,4,8,10,11,12,14,15,80,81,86,87] [15]) (sw (sr [mv 109 11,oi 110 pA 109 1,mi 111 0] 0 [1,2,4,8,10,11,12,14,15,80,81,86,87,110,111] (.block 4 (.loop (sr [ob 112 pL 111 110] 0 [1,2,4,8,10,11,12,14,15,80,81,86,87,110,111,112] (sw (cx 112 4) (sw (.block 5 (sr [mv 113 111,mv 16 113] 0 [1,2,4,8,10,11,12,14,15,16,80,81,86,87,110,111] (sr [lw 114 10 15,mv 115 16,mv 116 11,on 117 (.aj 38) [.t 114,.t 115,.t 116],oi 118 pQ 117 0] 0 [1,2,4,8,10,11,12,14,15,80,81,86,87,110,111,118] (cd 118 (.exit 3) .skip)))) (rg [oi 119 pA 111 1,mv 111 119] 0 [1,2,4,8,10,11,12,14,15,80,81,86,87,110,111]))))))) (sr [lw 120 2 14,sk 2 8 120 0,mi 9 0] 0 [8,9] .ret))))))) (rg [oi 121 pA 87 1,mv 87 121] 0 [1,2,4,8,10,11,12,80,81,86,87]))))))))))) (rg [oi 122 pA 81 1,mv 81 122] 0 [1,2,4,8,10,11,80,81])))))) (sr [on 123 (.build [z0,z0] []) [],sk 2 8 123 0,mi 9 5] 0 [8,9] .ret))))))))
def DI:aA:=(s0 [ba 1 0 0,mf 2 false] 1 [1] [1] (sw (sr [fa 7 0 1,lo 8 7,on 9 (.aj 78) [.t 8,kI 1,kI 120],oa 10 pN 9,mv 11 10,ow 12 (.fld 1) 1 11 0,lq 13 12 11,oF 14 (.aj 78) [.t 13,kI 1,kI 120] 11 0,ow 15 pN 14 11 0,pt 16 11 15,mv 17 16,ow 18 (.fld 2) 1 17 0,lq 19 18 17,oF 20 (.aj 78) [.t 19,kI 0,kI 4] 17 0,ow 21 pN 20 17 0,pt 22 17 21,mv 23 22,ow 24 (.fld 3) 1 23 0,lq 25 24 23,oF 26 (.aj 78) [.t 25,kI 0,kI 4] 23 0,ow 27 pN 26 23 0,pt 28 23 27,mv 29 28,ow 30 (.fld 4) 1 29 0,lq 31 30 29,oF 32 (.aj 78) [.t 31,kI 0,kI 3] 29 0,ow 33 pN 32 29 0,pt 34 29 33] 0 [1,34] (cd 34 (sr [mf 2 false] 0 [2] .ret) .skip)) (sw (sr [fa 35 5 1,lo 36 35,oa 37 .len 36,on 38 (.aj 78) [.t 37,kI 1,kI 6],oa 39 pN 38,mv 40 39,ow 41 (.fld 6) 1 40 0,lq 42 41 40,ow 43 .len 42 40 0,oF 44 pG [.t 43,kI 8] 40 0,pt 45 40 44,mv 46 45,ow 47 (.fld 7) 1 46 0,lq 48 47 46,ow 49 .len 48 46 0,oF 50 pG [.t 49,kI 10] 46 0,pt 51 46 50] 0 [1,51] (cd 51 (sr [mf 2 false] 0 [2] .ret) .skip)) (sw (sr [fa 52 5 1,lo 53 52,oa 54 .len 53,mi 55 0] 0 [1,53,54,55] (lp (sr [ob 56 pL 55 54] 0 [1,53,54,55,56] (sw (cx 56 0) (sw (b1 (s0 [mv 57 55,ix 58 2 53 55,lw 59 2 58,al 4 0 [z0,z0],mv 3 57,sk 2 4 59 0] 1 [1,3,4,53,54,55] [4] (sw (r1 [fu 60 0 4 1,lv 61 60,fu 62 0 1 1,lv 63 62,on 64 (.aj 78) [.t 61,kI 0,.t 63],oa 65 pN 64,mv 66 65,ow 67 (.fld 1) 4 66 1,ow 68 ld 67 66 1,ow 69 (.fld 1) 1 66 1,ow 70 ld 69 66 1,oF 71 (.aj 78) [.t 68,kI 0,.t 70] 66 0,ow 72 pN 71 66 0,pt 73 66 72,mv 74 73,ow 75 (.fld 5) 1 74 1,ow 76 ld 75 74 1,ow 77 .mov 3 74 0,obF 78 (.Jh 2 false true false) 76 77 74 1,ow 79 (.load true 2) 4 74 1,obF 80 (.aj 79) 78 79 74 0,pt 81 74 80] 0 [1,53,54,55,81] []) (cd 81 (sr [mf 2 false] 0 [2] .ret) .skip)))) (rg [oi 82 pA 55 1,mv 55 82] 0 [1,53,54,55])))))) (sw (sr [fa 83 7 1,lo 84 83,oa 85 .len 84,mi 86 0] 0 [1,84,85,86] (.block 2 (.loop (sr [ob 87 pL 86 85] 0 [1,84,85,86,87] (sw (cx 87 2) (sw (.block 3 (s0 [mv 88 86,ix 89 2 84 86,lw 90 2 89,al 6 0 [z0,z0],mv 5 88,sk 2 6 90 0] 1 [1,5,6,84,85,86] [6] (sw (r1 [ou 91 (.load true 8) 1 1,fu 92 0 6 1,lv 93 92,ob 94 (.aj 36) 91 93,oa 95 pN 94,mv 96 95,ow 97 (.load true 8) 1 96 1,ow 98 (.fld 1) 6 96 1,ow 99 ld 98 96 1,obF 100 (.aj 36) 97 99 96 0,ow 101 pN 100 96 0,pt 102 96 101,mv 103 102,ow 104 (.fld 0) 6 103 1,ow 105 ld 104 103 1,ow 106 (.fld 1) 6 103 1,ow 107 ld 106 103 1,obF 108 (.bin .geq) 105 107 103 0,pt 109 103 108,mv 110 109,ow 111 (.fld 7) 1 110 1,ow 112 ld 111 110 1,ow 113 .mov 5 110 0,obF 114 (.Jh 2 false true false) 112 113 110 1,ow 115 (.load true 2) 6 110 1,obF 116 (.aj 91) 114 115 110 0,pt 117 110 116] 0 [1,84,85,86,117] []) (cd 117 (sr [mf 2 false] 0 [2] .ret) .skip)))) (rg [oi 118 pA 86 1,mv 86 118] 0 [1,84,85,86]))))))) (sr [fa 119 6 1,lo 120 119,oa 121 (.mkF (.func 93) 0) 1,ob 122 (.aj 92) 120 121,oa 123 pN 122,mv 2 123] 0 [2] .ret))))))
def DJ:aA:=(s0 [ba 2 0 0,mf 4 false] 1 [1,2] [2] (sr [mv 5 1,fa 6 6 2,lo 7 6,oa 8 .len 7,oi 9 pU 8 1,on 10 (.aj 78) [.t 5,kI 0,.t 9],mv 4 10] 0 [4] .ret))
def MJ:aA:=(s0 [ba 2 0 0,al 4 1 [z0,z0,z0,z0,z0,zs,zs,zs,.map none,zs]] 2 [1,2,4] [2] (sr [lw 8 8 2,on 9 (.mkMap 0) [],mv 10 1,on 11 (.build [z0,z0,z0,z0,z0,zs,zs,zs,.map none,zs] [(0,8),(8,1),(9,1)]) [.t 8,.t 9,.t 10],al 5 1 [z0,z0,z0,z0,z0,zs,zs,zs,.map none,zs],sk 10 5 11 0] 2 [2,4,5] (sw (sr [fa 12 7 2,lo 13 12,oa 14 .len 13,mi 15 0] 0 [4,5,13,14,15] (lp (sr [ob 16 pL 15 14] 0 [4,5,13,14,15,16] (sw (cx 16 0) (sw (b1 (s0 [ix 17 2 13 15,lw 18 2 17,al 7 0 [z0,z0],sk 2 7 18 0] 1 [4,5,7,13,14,15] [7] (rg [fa 19 8 5,lo 20 19,lw 21 2 7,os (.Qk [1,1]) [.t 20,.t 21,.c (.bool true)] 0] 0 [4,5,13,14,15]))) (rg [oi 22 pA 15 1,mv 15 22] 0 [4,5,13,14,15])))))) (sr [lw 23 10 5,sk 10 4 23 0] 0 [4] .ret))))
def Xl:Dc C.P 37 2 MJ ajb=true:=by kernel_rfl
def qw:aA:=(s0 [ba 3 0 0,mi 6 0] 1 [1,2,3] [3] (sw (sr [mv 9 1,mv 10 2,ob 11 pE 9 10] 0 [1,2,3,11] (cd 11 (sw (sr [lw 12 10 3,mv 13 1,ob 14 (.aj 94) 12 13] 0 [14] (cd 14 (sr [mi 6 1] 0 [6] .ret) .skip)) (sr [mi 6 0] 0 [6] .ret)) .skip)) (sw (sr [lw 15 10 3,oa 16 (.mkF (.func 95) 1) 15,lw 17 10 3,oa 18 (.mkF (.func 96) 1) 17,lw 19 10 3,oa 20 (.mkF (.func 97) 1) 19,lw 21 10 3,oa 22 (.mkF (.func 98) 1) 21,lw 23 10 3,oa 24 (.mkF (.func 99) 1) 23,on 25 (.build [.nilFunc,.nilFunc,.nilFunc,.nilFunc,.nilFunc] [(0,1),(1,1),(2,1),(3,1),(4,1)]) [.t 16,.t 18,.t 20,.t 22,.t 24],mi 26 0] 0 [1,2,25,26] (lp (sr [oi 27 pL 26 5] 0 [1,2,25,26,27] (sw (cx 27 0) (sw (b1 (sr [mv 28 26,ob 29 (.Qj false 1 5) 25 26,mv 7 28,mv 8 29] 0 [1,2,7,8,25,26] (sr [mv 30 8,mv 31 1,mv 32 2,on 33 .dQ [.t 30,.t 31,.t 32]] 0 [1,2,7,25,26,33] (cd 33 (sr [mv 34 7,on 35 pA [kI 2,.t 34],mv 6 35] 0 [6] .ret) .skip)))) (rg [oi 36 pA 26 1,mv 26 36] 0 [1,2,25,26])))))) (sr [mi 6 0] 0 [6] .ret))))
def JC:aA:=(s0 [ba 5 0 0,ba 6 1 1,al 10 2 [z0,z0,z0,z0,z0,zs,zs,zs]] 3 [2,3,4,5,6,10] [6] (sr [fa 14 6 5,lo 15 14,oa 16 .len 15,mv 11 16] 0 [2,3,4,5,6,10,11] (sw (r1 [fu 17 5 5 2,ou 18 ld 17 2,ou 19 (.kZ 143) 18 1,ou 20 (.load true 2) 6 1,ou 21 (.dU 2 [.agg [z0,z0]] [0]) 20 1,ob 22 (.QM 2) 19 21,fu 23 5 5 2,sk 1 23 22 0] 0 [2,3,4,5,10,11] []) (sw (r1 [fu 24 6 5 2,ou 25 ld 24 2,ou 26 (.kZ 144) 25 1,fu 27 5 5 2,ou 28 ld 27 2,ou 29 .len 28 1,oi 30 pU 29 1,mv 31 2,mv 32 3,on 33 (.build [z0,z0,z0,z0] [(0,1),(2,1),(3,1)]) [.t 30,.t 31,.t 32],ou 34 (.dU 4 [.agg [z0,z0,z0,z0]] [0]) 33 1,ob 35 (.QM 4) 26 34,fu 36 6 5 2,sk 1 36 35 0] 0 [4,5,10,11] []) (sr [fa 37 7 5,lo 38 37,oa 39 (.kZ 145) 38,fa 40 7 5,sk 1 40 39 0] 0 [4,5,10,11] (sw (sr [mv 41 4,oa 42 .len 41,mi 43 0] 0 [5,10,11,41,42,43] (lp (sr [ob 44 pL 43 42] 0 [5,10,11,41,42,43,44] (sw (cx 44 0) (sw (b1 (sr [ix 45 1 41 43,lo 46 45,mv 13 46] 0 [5,10,11,13,41,42,43] (rg [fa 47 7 5,lo 48 47,mv 49 13,mv 50 11,ob 51 (.build [z0,z0] [(0,1),(1,1)]) 49 50,oa 52 (.dU 2 [.agg [z0,z0]] [0]) 51,ob 53 (.app 2 false) 48 52,fa 54 7 5,sk 1 54 53 0] 0 [5,10,11,41,42,43]))) (rg [oi 55 pA 43 1,mv 43 55] 0 [5,10,11,41,42,43])))))) (sr [lw 56 8 5,sk 8 10 56 0] 0 [10] .ret)))))))
def Uu:Dc C.P 80 5 JC ajc=true:=by kernel_rfl
def Az:aA:=(s0 [ba 2 0 0,mf 3 false] 1 [1,2] [2] (sr [fa 4 0 2,lo 5 4,fa 6 5 1,lo 7 6,oa 8 .len 7,oi 9 pU 8 1,on 10 (.aj 78) [.t 5,kI 0,.t 9],oa 11 pN 10,mv 12 11,ow 13 (.fld 1) 2 12 0,lq 14 13 12,oF 15 (.aj 78) [.t 14,kI 0,kI 2] 12 0,ow 16 pN 15 12 0,pt 17 12 16,mv 18 17,ow 19 (.fld 2) 2 18 0,lq 20 19 18,oF 21 (.aj 78) [.t 20,kI 0,kI 5] 18 0,ow 22 pN 21 18 0,pt 23 18 22,mv 24 23,ow 25 (.fld 3) 2 24 0,lq 26 25 24,oF 27 (.aj 78) [.t 26,kI 4,kI 50] 24 0,ow 28 pN 27 24 0,pt 29 24 28,mv 3 29] 0 [3] .ret))
def yU:aA:=(s0 [ba 2 0 0,mf 4 false] 1 [1,2] [2] (s0 [fa 7 0 2,fa 8 6 7,lo 9 8,mv 10 1,ix 11 4 9 10,lw 12 4 11,al 5 0 [z0,z0,z0,z0],sk 4 5 12 0] 1 [2,5] [5] (s0 [fa 13 0 2,fa 14 5 13,lo 15 14,fa 16 0 5,lo 17 16,ix 18 2 15 17,lw 19 2 18,al 6 0 [z0,z0],sk 2 6 19 0] 1 [2,5,6] [6] (sr [fa 20 0 6,lo 21 20,fa 22 3 5,lo 23 22,ob 24 pL 21 23,mv 25 24,ow 26 (.fld 1) 6 25 0,lq 27 26 25,ow 28 (.fld 3) 5 25 0,lq 29 28 25,obF 30 pL 27 29 25 0,pt 31 25 30,mv 32 31,ow 33 (.fld 0) 6 32 0,lq 34 33 32,ow 35 (.fld 3) 5 32 0,lq 36 35 32,obF 37 pA 34 36 32 0,ow 38 (.fld 0) 2 32 0,ow 39 (.fld 0) 38 32 0,lq 40 39 32,obF 41 pG 37 40 32 0,pt 42 32 41,mv 43 42,ow 44 (.fld 1) 6 43 0,lq 45 44 43,ow 46 (.fld 3) 5 43 0,lq 47 46 43,obF 48 pA 45 47 43 0,ow 49 (.fld 0) 2 43 0,ow 50 (.fld 1) 49 43 0,lq 51 50 43,obF 52 pG 48 51 43 0,pt 53 43 52,mv 4 53] 0 [4] .ret))))
def yT:aA:=(s0 [ba 3 0 0,mf 6 false] 1 [1,2,3] [3] (sr [lw 8 10 3,mv 9 1,mv 10 2,on 11 (.aj 163) [.t 8,.t 9,.t 10],mv 7 11] 0 [1,2,3,7] (sw (r1 [ou 12 (.load true 10) 3 1,mv 13 1,mv 14 2,on 15 (.aj 105) [.t 12,.t 13,.t 14],mv 16 15,ov 17 (.load true 10) 3 16 1,ov 18 .mov 1 16 0,ov 19 .mov 2 16 0,ot 20 (.aj 164) [.t 17,.t 18,.t 19] 16 0,ov 21 pN 20 16 0,ov 22 .mov 21 16 0,ow 23 (.load true 10) 3 22 1,ow 24 .mov 1 22 0,ow 25 .mov 2 22 0,oF 26 (.aj 165) [.t 23,.t 24,.t 25] 22 0,ot 27 .pick [.t 22,.c (.bool true),.t 26] 16 0,ov 28 .mov 27 16 0,ow 29 (.load true 10) 3 28 1,ow 30 .mov 1 28 0,ow 31 .mov 2 28 0,oF 32 (.aj 166) [.t 29,.t 30,.t 31] 28 0,ow 33 .mov 7 28 0,ow 34 (.aj 167) 33 28 0,obF 35 pL 32 34 28 0,ot 36 .pick [.t 28,.c (.bool true),.t 35] 16 0,ov 37 .mov 36 16 0,ow 38 (.load true 10) 3 37 1,ow 39 .mov 1 37 0,ow 40 .mov 2 37 0,oF 41 (.aj 166) [.t 38,.t 39,.t 40] 37 0,ow 42 .mov 7 37 0,ow 43 (.fld 0) 3 37 1,ow 44 (.fld 2) 43 37 1,ow 45 ld 44 37 1,obF 46 pA 42 45 37 0,ow 47 (.aj 167) 46 37 0,obF 48 pG 41 47 37 0,ot 49 .pick [.t 37,.c (.bool true),.t 48] 16 0,pf 50 16 49,mv 6 50] 0 [6] []) .ret)))
def yX:aA:=(s0 [ba 3 0 0,mf 6 false] 1 [1,2,3] [3] (sw (r1 [ou 7 (.load true 10) 3 1,mv 8 1,mv 9 2,on 10 (.aj 105) [.t 7,.t 8,.t 9],oa 11 pN 10,mv 12 11,ov 13 (.load true 10) 3 12 1,ov 14 .mov 1 12 0,ov 15 .mov 2 12 0,ot 16 (.aj 164) [.t 13,.t 14,.t 15] 12 0,pf 17 12 16,mv 18 17,ov 19 (.load true 10) 3 18 1,ov 20 .mov 1 18 0,ov 21 .mov 2 18 0,ot 22 (.aj 165) [.t 19,.t 20,.t 21] 18 0,ov 23 pN 22 18 0,pf 24 18 23,mv 25 24,ov 26 (.load true 10) 3 25 1,ov 27 .mov 1 25 0,ov 28 .mov 2 25 0,ot 29 (.aj 166) [.t 26,.t 27,.t 28] 25 0,ov 30 (.load true 10) 3 25 1,ov 31 .mov 1 25 0,ov 32 .mov 2 25 0,ot 33 (.aj 163) [.t 30,.t 31,.t 32] 25 0,ov 34 (.fld 0) 3 25 1,ov 35 (.fld 3) 34 25 1,ov 36 ld 35 25 1,obT 37 pA 33 36 25 0,ov 38 (.aj 167) 37 25 0,obT 39 pL 29 38 25 0,pf 40 25 39,mv 6 40] 0 [6] []) .ret))
def AB:aA:=(s0 [ba 3 0 0,mf 6 false] 1 [1,2,3] [3] (sr [lw 7 10 3,mv 8 1,mv 9 2,on 10 (.aj 165) [.t 7,.t 8,.t 9],mv 11 10,ov 12 (.load true 10) 3 11 0,ov 13 .mov 1 11 0,ov 14 .mov 2 11 0,ot 15 (.aj 164) [.t 12,.t 13,.t 14] 11 0,pf 16 11 15,mv 6 16] 0 [6] .ret))
def xJ:aA:=(s0 [ba 3 0 0,mf 6 false] 1 [1,2,3] [3] (sw (sr [lw 13 10 3,mv 14 1,mv 15 2,on 16 (.aj 165) [.t 13,.t 14,.t 15],oa 17 pN 16,mv 18 17,ow 19 (.load true 10) 3 18 0,ow 20 .mov 1 18 0,ow 21 .mov 2 18 0,oF 22 (.aj 106) [.t 19,.t 20,.t 21] 18 0,pt 23 18 22,mv 24 23,ow 25 (.load true 10) 3 24 0,ow 26 .mov 1 24 0,ow 27 .mov 2 24 0,oF 28 (.aj 164) [.t 25,.t 26,.t 27] 24 0,pt 29 24 28] 0 [1,2,3,29] (cd 29 (sr [mf 6 false] 0 [6] .ret) .skip)) (sr [mv 30 1,mv 31 2,mv 7 30,mv 8 31] 0 [1,2,3,7,8] (sw (sw (r1 [fu 32 0 3 1,fu 33 6 32 1,lv 34 33,mv 35 1,ob1 36 (.bH 4) 34 35 1,fu 37 1 36 1,lv 38 37,fu 39 0 3 1,fu 40 6 39 1,lv 41 40,mv 42 2,ob1 43 (.bH 4) 41 42 1,fu 44 1 43 1,lv 45 44,ob 46 pG 38 45] 0 [1,2,3,7,8,46] []) (cd 46 (rg [mv 47 2,mv 48 1,mv 7 47,mv 8 48] 0 [3,7,8]) .skip)) (sw (r1 [fu 49 0 3 1,fu 50 6 49 1,lv 51 50,mv 52 8,ob1 53 (.bH 4) 51 52 1,fu 54 2 53 1,lv 55 54,fu 56 0 3 1,fu 57 6 56 1,lv 58 57,mv 59 8,ob1 60 (.bH 4) 58 59 1,fu 61 2 60 1,lv 62 61,mv 9 55,mv 10 62] 0 [3,7,8,9,10] []) (sw (sr [fa 63 0 3,fa 64 6 63,lo 65 64,oa 66 .len 65,mi 67 0] 0 [3,7,8,9,10,65,66,67] (lp (sr [ob 68 pL 67 66] 0 [3,7,8,9,10,65,66,67,68] (sw (cx 68 0) (sw (b1 (s0 [mv 69 67,ix 70 4 65 67,lw 71 4 70,al 12 0 [z0,z0,z0,z0],mv 11 69,sk 4 12 71 0] 1 [3,7,8,9,10,11,12,65,66,67] [12] (sr [lw 72 10 3,mv 73 11,mv 74 8,on 75 (.aj 106) [.t 72,.t 73,.t 74],mv 76 75,ov 77 (.fld 9) 3 76 0,ov 78 ld 77 76 0,ov 79 .mov 11 76 0,obT 80 (.aj 131) 78 79 76 0,ov 81 pN 80 76 0,pf 82 76 81] 0 [3,7,8,9,10,12,65,66,67,82] (cd 82 (r1 [mv 83 9,fu 84 2 12 1,lv 85 84,ob 86 (.qo false) 83 85,mv 87 10,fu 88 2 12 1,lv 89 88,ob 90 (.qo true) 87 89,mv 9 86,mv 10 90] 0 [3,7,8,9,10,65,66,67] []) .skip)))) (rg [oi 91 pA 67 1,mv 67 91] 0 [3,7,8,9,10,65,66,67])))))) (sr [fa 92 0 3,fa 93 6 92,lo 94 93,mv 95 7,ix 96 4 94 95,fa 97 2 96,lo 98 97,mv 99 9,oi 100 pA 99 1,mv 101 10,oi 102 pU 101 1,on 103 (.aj 78) [.t 98,.t 100,.t 102],mv 6 103] 0 [6] .ret)))))))
def xK:aA:=(s0 [ba 3 0 0,mf 6 false] 1 [1,2,3] [3] (sr [oa 8 (.mkF (.func 168) 0) 3,mv 7 8] 0 [1,2,3,7] (sr [lw 9 10 3,mv 10 1,mv 11 2,on 12 (.aj 165) [.t 9,.t 10,.t 11],oa 13 pN 12,mv 14 13,ov 15 .mov 7 14 0,ov 16 .mov 1 14 0,ov 17 .mov 2 14 0,ot 18 .dQ [.t 15,.t 16,.t 17] 14 0,ov 19 .mov 18 14 0,ow 20 .mov 7 19 0,ow 21 .mov 2 19 0,ow 22 .mov 1 19 0,oF 23 .dQ [.t 20,.t 21,.t 22] 19 0,ot 24 .pick [.t 19,.c (.bool true),.t 23] 14 0,pf 25 14 24,mv 6 25] 0 [6] .ret)))
def AA:aA:=(s0 [ba 3 0 0,mf 6 false] 1 [1,2,3] [3] (sr [fa 7 8 3,lo 8 7,mv 9 1,mv 10 2,ob 11 (.qo false) 9 10,mv 12 1,mv 13 2,ob 14 (.qo true) 12 13,ob 15 (.build [z0,z0] [(0,1),(1,1)]) 11 14,ob 16 (.L6 [1,1] (.bool false)) 8 15,mv 6 16] 0 [6] .ret))
def vT:aA:=(s0 [ba 3 0 0,mf 6 false] 1 [1,2,3] [3] (sw (r1 [ou 7 (.load true 10) 3 1,mv 8 1,mv 9 2,on 10 (.aj 165) [.t 7,.t 8,.t 9],mv 11 10,ov 12 (.fld 0) 3 11 1,ov 13 (.fld 6) 12 11 1,ov 14 ld 13 11 1,ov 15 .mov 1 11 0,obT 16 (.bH 4) 14 15 11 1,ov 17 (.fld 1) 16 11 1,ov 18 ld 17 11 1,ov 19 (.fld 0) 3 11 1,ov 20 (.fld 6) 19 11 1,ov 21 ld 20 11 1,ov 22 .mov 2 11 0,obT 23 (.bH 4) 21 22 11 1,ov 24 (.fld 1) 23 11 1,ov 25 ld 24 11 1,obT 26 pE 18 25 11 0,pf 27 11 26,mv 6 27] 0 [6] []) .ret))
def BQ:aA:=(s0 [ba 3 0 0,mi 6 0] 1 [1,2,3] [3] (sw (r1 [fu 7 0 3 1,fu 8 6 7 1,lv 9 8,mv 10 1,ob1 11 (.bH 4) 9 10 1,fu 12 3 11 1,lv 13 12,fu 14 0 3 1,fu 15 6 14 1,lv 16 15,mv 17 2,ob1 18 (.bH 4) 16 17 1,fu 19 3 18 1,lv 20 19,ob 21 pA 13 20,mv 6 21] 0 [6] []) .ret))
def yV:aA:=(s0 [ba 3 0 0,mf 6 false] 1 [1,2,3] [3] (sw (r1 [fu 7 0 3 1,fu 8 6 7 1,lv 9 8,mv 10 1,ob1 11 (.bH 4) 9 10 1,fu 12 2 11 1,lv 13 12,fu 14 0 3 1,fu 15 6 14 1,lv 16 15,mv 17 2,ob1 18 (.bH 4) 16 17 1,fu 19 2 18 1,lv 20 19,ob 21 pE 13 20,mv 6 21] 0 [6] []) .ret))
def vS:aA:=(s0 [ba 3 0 0,mf 6 false] 1 [1,2,3] [3] (sw (r1 [fu 7 0 3 1,fu 8 6 7 1,lv 9 8,mv 10 1,ob1 11 (.bH 4) 9 10 1,fu 12 0 11 1,lv 13 12,fu 14 0 3 1,fu 15 6 14 1,lv 16 15,mv 17 2,ob1 18 (.bH 4) 16 17 1,fu 19 0 18 1,lv 20 19,ob 21 pE 13 20,mv 6 21] 0 [6] []) .ret))
def BP:aA:=(s0 [ba 3 0 0,mi 6 0] 1 [1,2,3] [3] (sw (r1 [fu 9 0 3 1,fu 10 5 9 1,lv 11 10,fu 12 0 3 1,fu 13 6 12 1,lv 14 13,mv 15 1,ob1 16 (.bH 4) 14 15 1,fu 17 0 16 1,lv 18 17,ob1 19 (.bH 2) 11 18 1,ou 20 (.load true 2) 19 1,fu 21 0 3 1,fu 22 5 21 1,lv 23 22,fu 24 0 3 1,fu 25 6 24 1,lv 26 25,mv 27 2,ob1 28 (.bH 4) 26 27 1,fu 29 0 28 1,lv 30 29,ob1 31 (.bH 2) 23 30 1,ou 32 (.load true 2) 31 1,al 7 0 [z0,z0],al 8 1 [z0,z0],sk 2 7 20 4,sk 2 8 32 5] 2 [7,8] [7,8]) (sw (r1 [fu 33 0 7 1,lv 34 33,fu 35 0 8 1,lv 36 35,ob 37 pU 34 36,oa 38 (.aj 167) 37,fu 39 1 7 1,lv 40 39,fu 41 1 8 1,lv 42 41,ob 43 pU 40 42,oa 44 (.aj 167) 43,ob 45 pA 38 44,mv 6 45] 0 [6] []) .ret)))
def FQ:aA:=(sr [mi 2 0] 0 [0] (sr [mv 3 0,mv 4 0,ob 5 pM 3 4,mv 2 5] 0 [2] .ret))
def uI:aA:=(sr [mf 5 false] 0 [0,1,2] (sw (r1 [fu 6 0 2 1,fu 7 6 6 1,lv 8 7,mv 9 0,ob1 10 (.bH 4) 8 9 1,fu 11 2 10 1,lv 12 11,fu 13 0 2 1,fu 14 6 13 1,lv 15 14,mv 16 1,ob1 17 (.bH 4) 15 16 1,fu 18 2 17 1,lv 19 18,ob 20 (.bin .leq) 12 19,mv 21 20,ov 22 (.load true 10) 2 21 1,ov 23 .mov 0 21 0,ov 24 .mov 1 21 0,ot 25 (.aj 166) [.t 22,.t 23,.t 24] 21 0,ov 26 (.fld 0) 2 21 1,ov 27 (.fld 6) 26 21 1,ov 28 ld 27 21 1,ov 29 .mov 0 21 0,obT 30 (.bH 4) 28 29 21 1,ov 31 (.fld 3) 30 21 1,ov 32 ld 31 21 1,ov 33 (.fld 0) 2 21 1,ov 34 (.fld 4) 33 21 1,ov 35 ld 34 21 1,obT 36 pA 32 35 21 0,ov 37 (.aj 167) 36 21 0,obT 38 pL 25 37 21 0,pf 39 21 38,mv 5 39] 0 [5] []) .ret))
def DC:aA:=(s0 [ba 1 0 0,ag 2 1,mi 3 0] 1 [1] [1] (sw (sr [lw 8 2 1,oa 9 (.aj 259) 8,oa 10 pN 9] 0 [1,10] (cd 10 (sr [ag 2 1,mi 3 2] 0 [2,3] .ret) .skip)) (sr [ag 4 1] 0 [1,4] (sw (sr [mi 5 1] 0 [1,4,5] (lp (sw (sr [mv 11 5,oi 12 (.bin .leq) 11 400] 0 [1,4,5,12] (cx 12 0)) (sw (b1 (sr [lw 16 2 1,mv 17 5,ob 18 (.aj 260) 16 17,mv 15 18,xa 19 0 15,xa 20 1 15,al 6 0 [z0,z0,z0],sk 3 6 19 0,mv 7 20] 1 [1,4,5,7] (sr [mv 21 7,oi 22 pE 21 0] 0 [1,4,5,22] (cd 22 (rg [mv 23 4,mv 24 5,oa 25 (.dU 1 [z0] [0]) 24,ob 26 (.app 1 false) 23 25,mv 4 26] 0 [1,4,5]) .skip)))) (rg [mv 13 5,oi 14 pA 13 1,mv 5 14] 0 [1,4,5]))))) (sr [mv 27 4,mv 2 27,mi 3 0] 0 [2,3] .ret)))))
def Aw:aA:=(s0 [ba 1 0 0,mf 2 false] 1 [1] [1] (sr [fa 3 0 1,lo 4 3,on 5 (.aj 78) [.t 4,kI 1,kI 60],mv 6 5,ov 7 (.fld 1) 1 6 0,ov 8 ld 7 6 0,ov 9 .len 8 6 0,ot 10 (.aj 78) [.t 9,kI 1,kI 6] 6 0,pf 11 6 10,mv 12 11,ov 13 (.fld 1) 1 12 0,ov 14 ld 13 12 0,ot 15 (.aj 127) [.t 14,.c (.func (.func 306) [] [])] 12 0,ov 16 pN 15 12 0,pf 17 12 16,mv 2 17] 0 [2] .ret))
def JA:aA:=(s0 [ba 2 0 0,al 4 1 [z0,z0,z0],mi 5 0] 2 [1,2,4] [2] (sw (sr [lw 9 2 2,oa 10 (.aj 259) 9,oa 11 pN 10,mv 12 11,ow 13 .mov 1 12 0,ow 14 (.aj 307) 13 12 0,ow 15 pN 14 12 0,pt 16 12 15] 0 [1,2,4,16] (cd 16 (sr [on 17 (.build [z0,z0,z0] []) [],sk 3 4 17 0,mi 5 2] 0 [4,5] .ret) .skip)) (sw (sr [fa 18 1 2,lo 19 18,oa 20 .len 19,mi 21 0] 0 [1,2,4,20,21] (lp (sr [ob 22 pL 21 20] 0 [1,2,4,20,21,22] (sw (cx 22 0) (sw (b1 (sr [mv 23 21,mv 6 23] 0 [1,2,4,6,20,21] (s0 [lw 25 2 2,mv 26 6,mv 27 1,on 28 (.aj 308) [.t 25,.t 26,.t 27],mv 24 28,xa 29 0 24,xa 30 1 24,al 7 0 [z0,z0,z0],sk 3 7 29 0,mv 8 30] 1 [1,2,4,7,8,20,21] [7] (sr [mv 31 8] 0 [1,2,4,7,20,21,31] (cd 31 (sr [lw 32 3 7,sk 3 4 32 0,mi 5 0] 0 [4,5] .ret) .skip))))) (rg [oi 33 pA 21 1,mv 21 33] 0 [1,2,4,20,21])))))) (sr [on 34 (.build [z0,z0,z0] []) [],sk 3 4 34 0,mi 5 5] 0 [4,5] .ret))))
def xI:aA:=(sr [mf 2 false] 0 [0] (sr [mv 3 0,on 4 (.aj 78) [.t 3,kI 1,kI 120],oa 5 pN 4,mv 2 5] 0 [2] .ret))
def DF:aA:=(sr [mf 2 false] 0 [0] (sr [mv 3 0,on 4 (.aj 78) [.t 3,kI 1,kI 400],mv 2 4] 0 [2] .ret))
def JB:aA:=(s0 [ba 3 0 0,al 6 1 [z0,z0,z0],mf 7 false] 2 [1,2,3,6] [3] (sr [fa 10 1 3,lo 11 10,mv 12 1,ix 13 1 11 12,lo 14 13,mv 8 14] 0 [1,2,3,6,8] (sr [fa 15 0 3,lo 16 15,mv 17 8,ob 18 pM 16 17,mv 9 18] 0 [1,2,6,8,9] (sw (r1 [mv 19 1,mv 20 9,mv 21 2,ob 22 (.bin .quo) 20 21,mv 23 8,ob 24 (.bin .quo) 22 23,mv 25 9,mv 26 2,ob 27 (.bin .quo) 25 26,mv 28 8,ob 29 (.bin .rem) 27 28,on 30 (.build [z0,z0,z0] [(0,1),(1,1),(2,1)]) [.t 19,.t 24,.t 29],mv 31 9,mv 32 2,ob 33 (.bin .rem) 31 32,oi 34 pE 33 0,sk 3 6 30 0,mv 7 34] 0 [6,7] []) .ret))))
def RU (n l h:Int):Pure C 78 [dI n,dI l,dI h] (.d (.bool (inR n l h))) []:=CW n l h
structure Dvd where
 jO:Int
 cir:List Int
 deriving DecidableEq,Inhabited
structure Ix where
 circle:Int
 turns:Int
 holes:Int
 deriving DecidableEq,Inhabited
def Dvd.dv (d:Dvd):DV:= .agg [dI d.jO,sF (d.cir.map ay)]
def Ix.dv (d:Ix):DV:= .agg [dI d.circle,dI d.turns,dI d.holes]
variable{d:Dvd}
def Eu:d.dv= .agg [dI d.jO,sF (d.cir.map ay)]:=by rw[Dvd.dv]
def Q5 {d:Ix}:d.dv= .agg [dI d.circle,dI d.turns,dI d.holes]:=by rw[Ix.dv]
def Dvd.ok (d:Dvd):Bool:=inR d.jO 1 60&&inR d.cir.length 1 6&&d.cir.all (fun n=>inR n 1 120)
def Uo (n:Int):Pure C 306 [dI n] (.d (.bool (!inR n 1 120))) []:=by
 refine ah xI aI ?_;simp only[xI,aI,RN,F];refine ak (RU _ _ _) ?_;(try simp only[RN])
def afw (n:Int):Pure C 307 [dI n] (.d (.bool (inR n 1 400))) []:=by
 refine ah DF aI ?_;simp only[DF,aI,RN,F];refine ak (RU _ _ _) ?_;(try simp only[])
def O9 (d:Dvd)(hl:d.cir.length<=1000000):Pure C 259 [d.dv] (.d (.bool d.ok)) []:=by
 refine ah Aw aI ?_;simp only[Aw,aI,Eu,RN,F,H,O]
 repeat' first
  |(refine ak (RU _ _ _) ?_;try simp only[Q,RN,F,H,I,J,N,O])
  |(refine cO rfl rfl (lQ d.cir _ [] (fun n=> !inR n 1 120) hl (by kernel_rfl) (fun n _=>Uo n)) ?_;try simp only[RN])
  |(refine aJ (by rfl) (fun a=> ?_) (fun a=> ?_)<;>simp only[a,Q,RN,F,H,O])
  |(refine aK (by rfl) (fun a=> ?_) (fun a=> ?_)<;>simp only[a,Q,RN,F,H,I,J,N,O])
 all_goals(first|(rw[Ef])|skip)
 all_goals(first|(simp only[Dvd.ok, *,BSN];done)|(simp_all[Dvd.ok];done)|(simp_all[Dvd.ok];omega))
def ahe (jO h t i:Int):Ix:=⟨i,((jO*h).tdiv t).tdiv h,((jO*h).tdiv t).tmod h⟩
def V7 (jO h t:Int):Bool:=(jO*h).tmod t==0
def ane (d:Dvd)(i:Nat)(t:Int)(b:1<=d.jO/\d.jO<=60)(hi:i<d.cir.length)(hc:1<=d.cir.getD i default/\d.cir.getD i default<=120)(j:1<=t):
  Pure C 308 [d.dv,dI i,dI t] (.d (.tup [(ahe d.jO (d.cir.getD i default) t i).dv, .bool (V7 d.jO (d.cir.getD i default) t)])) []:=by
 have a:(0:Int)<=(i:Int):=by omega
 have h:1<=d.jO*d.cir.getD i default/\d.jO*d.cir.getD i default<=7200:=by
  have h1:=X b.2 hc.2 (by omega) (by omega);have h2:=X b.1 hc.1 (by omega) (by omega);omega
 have c:cn .i64 (d.jO*d.cir.getD i default)=d.jO*d.cir.getD i default:=aF (by omega);have b1:((d.jO*d.cir.getD i default).tdiv t).natAbs<=7200:=by
  have:=Ja (d.jO*d.cir.getD i default) t;omega
 have e:cn .i64 ((d.jO*d.cir.getD i default).tdiv t)=(d.jO*d.cir.getD i default).tdiv t:=aF (by omega);have b2:(((d.jO*d.cir.getD i default).tdiv t).tdiv (d.cir.getD i default)).natAbs<=7200:=by
  have:=Ja ((d.jO*d.cir.getD i default).tdiv t) (d.cir.getD i default);omega
 have f:cn .i64 (((d.jO*d.cir.getD i default).tdiv t).tdiv (d.cir.getD i default))=((d.jO*d.cir.getD i default).tdiv t).tdiv (d.cir.getD i default):=aF (by omega);have g:t≠0:=by omega
 have n2:d.cir.getD i default≠0:=by omega
 refine ah JB ajd ?_;simp only[JB,ajd,Eu,hi,a,getD_map,S,Q,aW,c,e,f,g,n2,Q5,ahe,V7,RN,F,H,J,O]
def OX (jO t:Int):Nat->List Int->Option Ix
 | _,[]=>none
 |i,h::a=>if V7 jO h t then some (ahe jO h t i)else OX jO t (i+1) a
def Dvd.cuts (d:Dvd)(t:Int):Ix×Int:=
 if d.ok&&inR t 1 400 then(match OX d.jO t 0 d.cir with|some x=>(x,0)|none=>(⟨0,0,0⟩,5))else(⟨0,0,0⟩,2)
def Dvd.Zx (h:d.ok=true):(1<=d.jO/\d.jO<=60)/\(1<=d.cir.length/\d.cir.length<=6)/\∀n∈d.cir,1<=n/\n<=120:=by
 simp only[Dvd.ok,inR,U,decide_eq_true_eq,aD,ge_iff_le]at h;obtain⟨⟨h1,h2⟩,a⟩:=h;exact⟨h1,by omega,a⟩
def aaD (d:Dvd)(t:Int)(hl:d.cir.length<=1000000):Pure C 260 [d.dv,dI t] (.d (.tup [(d.cuts t).1.dv,dI (d.cuts t).2])) []:=by
 refine ah JA Ij ?_;simp only[JA,Ij,Eu,RN,F,H,O]
 repeat' first
  |(refine ak (O9 d hl) ?_;try simp only[Q5,RN])
  |(refine ak (afw t) ?_;try simp only[RN])
  |(refine aJ (by rfl) (fun b=> ?_) (fun b=> ?_)<;>simp only[b,RN,F,H,J,O])
  |(refine aK (by rfl) (fun b=> ?_) (fun b=> ?_)<;>simp only[b,Q,RN,F,H,J,O])
 any_goals (simp_all[Dvd.cuts];done)
 have hd:d.ok=true:=by simp_all
 have g:inR t 1 400=true:=by simp_all
 obtain⟨j,l,c⟩:=Dvd.Zx hd;have e:1<=t:=by simp only[inR,U,decide_eq_true_eq]at g;omega
 have amC:d.cuts t=(match OX d.jO t 0 d.cir with|some x=>(x,0)|none=>(⟨0,0,0⟩,5)):=by simp only[Dvd.cuts,hd,g,bB,if_true]
 refine aG d.cir.length (fun i (_:Unit)=>⟨[(1,pI t),(2, .d (.aP [dI d.jO,sF (d.cir.map ay)])),(4, .ptr 1 0),(20,pI d.cir.length),(21,pI i)],⟨[some [pI d.jO, .d (sF (d.cir.map ay))],some [pI 0,pI 0,pI 0]],[0],[]⟩⟩)
  (fun i _=>OX d.jO t 0 d.cir=OX d.jO t i (d.cir.drop i)) 0 () (Z _) rfl (by simp) (fun i _ h1 a=> ?_) (fun _ a=> ?_)
 ·obtain⟨h2,k,h⟩:=rng h1 hl
  rw[drop_cons h1,OX]at a;simp only[h2,RN,F,H,O];refine ak (ane d i t j h1 (c _ (getD_mem h1)) e) ?_;cases f:V7 d.jO (d.cir.getD i default) t
  ·simp only[h,Q5,RN,F,H,J,O]
   exact bQ 2 0 () h1 rfl (by rw[a,f];rfl) (by simp) (by simp) rfl rfl
  ·simp only[Q5,RN,F,H,J,O]
   rw[amC,a,f]
   rfl
 ·rw[ao,OX]at a
  simp only[am,RN,F,H,J,O];rw[amC,a]
def Dvd.first (d:Dvd)(t:Int):Option Ix:=OX d.jO t 0 d.cir
def Dvd.EJ (d:Dvd)(n:Nat):List Int:=((b7 n).map fun(i:Nat)=>(i:Int)+1).filter fun t=>(d.first t).isSome
def Dvd.numbers (d:Dvd):List Int×Int:=if d.ok then(d.EJ 400,0)else([],2)
def Zt (d:Dvd)(n:Nat):d.EJ (n+1)=d.EJ n++(if(d.first ((n:Int)+1)).isSome then[(n:Int)+1]else[]):=by
 rw[Dvd.EJ,cf,av,List.filter_append,<-Dvd.EJ,aL,bj,List.filter_cons,List.filter_nil]
def acn (d:Dvd)(n:Nat):(d.EJ n).length<=n:=by
 rw[Dvd.EJ];refine ck (List.length_filter_le _ _) ?_;simp
def ad8 (d:Dvd)(hl:d.cir.length<=1000):Pure C 208 [d.dv] (.d (.tup [sF (d.numbers.1.map ay),dI d.numbers.2])) []:=by
 have hd:=O9 d (by omega);rw[Eu]at hd;refine bM (aB DC OC ?_);simp only[DC,OC,Eu,RN,F,H,N,O];refine ak hd ?_;cases f:d.ok
 ·have e:d.numbers=([],2):=by rw[Dvd.numbers,f];rfl
  simp only[bD,dV,RN,F,N];simp[datum,bT,dR,Mem.row,e]
 have e:d.numbers=(d.EJ 400,0):=by rw[Dvd.numbers,f];rfl
 (try simp only[RN,F,N]);refine aG 400 (fun i (q:List Int×Nat)=>⟨[(1, .d (.aP [dI d.jO,sF (d.cir.map ay)])),(4, .tsl 1 q.2 0),(5, .d (dI ((i:Int)+1)))],⟨[some [pI d.jO, .d (sF (d.cir.map ay))]],[0],[some ⟨1,[],0,0⟩,some ⟨1,q.1.map ay,q.2,0⟩]⟩⟩)
  (fun i q=>q.1=d.EJ i) 0 ([],0) (Z _) rfl rfl (fun i q m a=> ?_) (fun q a=> ?_)
 ·obtain⟨c,ver⟩:=q
  simp only at a;have j:(i:Int)+1<=400:=by omega
  have n:cn .i64 ((i:Int)+1+1)=((i+1:Nat):Int)+1:=by rw[aF (by omega)];omega
  have g:=aaD d ((i:Int)+1) (by omega);rw[Eu,Q5]at g;have h:=Zt d i;have l:=acn d i;rw[<-a]at h l;have k:inR ((i:Int)+1) 1 400=true:=by simp only[inR,U,decide_eq_true_eq];omega
  have b:d.cuts ((i:Int)+1)=(match d.first ((i:Int)+1)with|some x=>(x,0)|none=>(⟨0,0,0⟩,5)):=by rw[Dvd.cuts,f,k];rfl
  have z0:((0:Int)==0)=true:=rfl;have p:((5:Int)==0)=false:=rfl;simp only[j,RN,F,H,O];refine ak g ?_;cases o:d.first ((i:Int)+1)with
  |none=>
   rw[o]at h b;simp only[b,p,n,RN,F,H,J,O];exact bQ 1 2 (c,ver) m rfl (by simpa using h.symm) (by simp) (by simp) rfl rfl
  |some x=>
   rw[o]at h b;simp only[b,z0,gB,fits_int,forall_eq,DV.strip,fU,Q,RN,F,H,J,N,O];refine⟨by simp,by omega,?_⟩;simp only[n];refine bQ 1 2 (c++ [(i:Int)+1],ver+1) m ?_ (by simpa using h.symm) (by simp) (by simp) rfl rfl;simp only[av,aL,bj,aW];rfl
 ·obtain⟨c,ver⟩:=q
  simp only at a;have j:¬((400:Nat):Int)+1<=400:=by omega
  simp only[j,bD,dV,RN,F];simp[datum,bT,dR,Mem.row,a,e]
def vM:aA:=(s0 [ba 2 0 0,mk 4 (.c ze),mi 5 0] 1 [1,2,4,5] [2] (sr [lw 11 17 2,oa 12 (.call 82) 11,mv 10 12,xa 13 0 10,xa 14 1 10,al 6 0 [.nilPtr],sk 1 6 13 0,mv 7 14] 1 [1,4,5,6,7] (sw (sr [mv 15 7,oi 16 pQ 15 0] 0 [1,4,5,6,7,16] (cd 16 (sr [mv 17 7,mk 4 (.c ze),mv 5 17] 0 [4,5] .ret) .skip)) (sw (sr [mv 18 1,oa 19 .Gi 18,oi 20 pG 19 1500] 0 [1,4,5,6,20] (cd 20 (sr [mk 4 (.c ze),mi 5 3] 0 [4,5] .ret) .skip)) (sw (sr [mv 21 1,oc 22 pQ 21 (.c ze),mv 23 22,ov 24 .mov 1 23 0,ot 25 (.aj 83) [.t 24,.c (.str ⟨#[10]⟩)] 23 0,ov 26 pN 25 23 0,pf 27 23 26] 0 [1,4,5,6,27] (cd 27 (sr [mk 4 (.c ze),mi 5 4] 0 [4,5] .ret) .skip)) (sr [al 8 0 [ze],os (.store 1) [.t 8,.c ze] 0] 1 [1,4,5,6,8] (sw (sr [mv 28 1,oa 29 (.call 84) 28] 0 [4,5,6,8,29] (.block 0 (.nD (.t 29) [30] [6,8] (rg [mv 9 30] 0 [6,8,9]) (b1 (r1 [lo 31 8,ou 32 ld 6 2,mv 33 9,oc 34 (.aj 86) 33 (.c (.str ⟨#[10]⟩)),on 35 (.Fp false 1 85) [.t 8,.t 32,.t 34],oc 36 pA 35 (.c (.str ⟨#[10]⟩)),ob 37 pA 31 36,sk 1 8 37 0] 0 [] []))))) (sr [lo 38 8,mv 4 38,mi 5 0] 0 [4,5] .ret))))))))
def Ap:aA:=(s0 [ba 1 0 0,mk 2 (.c (.nilPtr)),mi 3 0] 1 [1] [1] (sw (sr [lw 5 17 1,oa 6 (.aj 147) 5,oa 7 pN 6] 0 [1,7] (cd 7 (sr [mk 2 (.c (.nilPtr)),mi 3 2] 0 [2,3] .ret) .skip)) (s0 [lw 8 17 1,oa 9 (.aj 148) 8,al 4 0 [zs,zs,zs,z0,z0,zs,z0,zs,z0,z0,z0,zs,z0,z0,z0,z0,z0],sk 17 4 9 0] 1 [4] [4] (sr [lw 10 17 4,oa 11 (.aj 149) 10,ob 12 (.build [.nilPtr,zs,zs,zs] [(0,1),(1,1)]) 4 11,ba 13 0 12,mv 2 13,mi 3 0] 1 [2,3] .ret))))
def pK:aA:=(sr [mk 4 (.c ze)] 0 [0,1] (s0 [mv 10 1,oa 11 (.aj 153) 10,mv 9 11,xa 12 0 9,xa 13 1 9,al 5 0 [z0,zs],sk 2 5 12 0,mv 6 13] 1 [0,1,5,6] [5] (sw (sr [mv 14 6,oi 15 pE 14 0] 0 [0,1,5,6,15] (cd 15 (sr [mv 16 0,lw 17 2 5,ob 18 (.call 154) 16 17,mv 6 18] 0 [6] (sw (sr [mv 19 6,oi 20 pE 19 0] 0 [6,20] (cd 20 (sr [mk 4 (.c (.str ⟨#[110,111,116,101,100]⟩))] 0 [4] .ret) .skip)) (sr [mv 21 6,oa 22 (.aj 155) 21,on 23 pA [.c (.str ⟨#[101,114,114,111,114,32]⟩),.t 22],mv 4 23] 0 [4] .ret))) .skip)) (sw (sr [mv 24 6,oi 25 pE 24 3] 0 [0,1,6,25] (cd 25 (sr [mv 26 6,oa 27 (.aj 155) 26,on 28 pA [.c (.str ⟨#[101,114,114,111,114,32]⟩),.t 27],mv 4 28] 0 [4] .ret) .skip)) (s0 [mv 30 1,oa 31 (.aj 156) 30,mv 29 31,xa 32 0 29,xa 33 1 29,al 7 0 [z0,zs],sk 2 7 32 0,mv 6 33] 1 [0,6,7] [7] (sr [mk 8 cS] 0 [0,6,7,8] (sw (sr [mv 34 6,oi 35 pE 34 0] 0 [0,6,7,8,35] (cd 35 (rg [mv 37 0,lw 38 2 7,ob 39 (.call 157) 37 38,mv 36 39,xa 40 0 36,xa 41 1 36,mv 8 40,mv 6 41] 0 [6,8]) .skip)) (sw (.block 0 (sr [mv 43 6,oi 44 pQ 43 0,mv 42 44] 0 [6,8,42] (cd 42 (sr [mv 45 6,oa 46 (.aj 155) 45,on 47 pA [.c (.str ⟨#[101,114,114,111,114,32]⟩),.t 46],mv 4 47] 0 [4] .ret) (sr [mv 49 8,oa 50 .len 49,oi 51 pE 50 0,mv 48 51] 0 [8,48] (cd 48 (sr [mk 4 (.c (.str ⟨#[110,111,116,104,105,110,103]⟩))] 0 [4] .ret) .skip))))) (sr [mv 52 8,oa 53 (.gG 158) 52,mv 4 53] 0 [4] .ret)))))))))
def vO:aA:=(s0 [ba 1 0 0,mf 2 false] 1 [1] [1] (sw (sr [fa 10 0 1,lw 11 2 10,oa 12 (.aj 206) 11,oi 13 pQ 12 0,mv 14 13,ow 15 (.fld 2) 1 14 0,lq 16 15 14,ow 17 .len 16 14 0,ow 18 (.fld 0) 1 14 0,ow 19 (.fld 1) 18 14 0,lq 20 19 14,ow 21 .len 20 14 0,obF 22 pQ 17 21 14 0,pt 23 14 22,mv 24 23,ow 25 (.fld 3) 1 24 0,lq 26 25 24,oF 27 (.aj 207) [.t 26,kI 0,kI 10800] 24 0,ow 28 pN 27 24 0,pt 29 24 28] 0 [1,29] (cd 29 (sr [mf 2 false] 0 [2] .ret) .skip)) (sr [fa 31 4 1,lw 32 2 31,oa 33 (.aj 208) 32,mv 30 33,xa 34 0 30,xa 35 1 30,mv 3 34,mv 4 35] 0 [1,4] (sr [fa 37 6 1,lw 38 2 37,fa 39 8 1,lw 40 3 39,fa 41 11 1,lo 42 41,fa 43 12 1,lo 44 43,on 45 (.aj 209) [.t 38,.t 40,.t 42,.t 44],mv 36 45,xa 46 0 36,xa 47 1 36,mv 5 46,mv 6 47] 0 [1,4,6] (sr [fa 49 13 1,lo 50 49,fa 51 14 1,lo 52 51,fa 53 15 1,lo 54 53,fa 55 16 1,lo 56 55,on 57 (.build [zs,z0,z0,z0,z0,z0] [(1,1),(2,1),(3,1),(4,1)]) [.t 50,.t 52,.t 54,.t 56],oa 58 (.aj 210) 57,mv 48 58,xa 59 0 48,xa 60 1 48,xa 61 2 48,mv 7 59,mv 8 60,mv 9 61] 0 [1,4,6,9] (sr [mv 62 4,oi 63 pE 62 0,mv 64 63,ov 65 .mov 6 64 0,ot 66 pE [.t 65,kI 0] 64 0,pf 67 64 66,mv 68 67,ov 69 .mov 9 68 0,ot 70 pE [.t 69,kI 0] 68 0,pf 71 68 70,mv 72 71,ov 73 (.fld 2) 1 72 0,ov 74 ld 73 72 0,ot 75 (.aj 211) [.t 74,.c (.func (.func 212) [] [])] 72 0,ov 76 pN 75 72 0,pf 77 72 76,mv 2 77] 0 [2] .ret))))))
def xE:aA:=(sr [ba 1 0 0,al 2 1 [zs,zs,zs,z0,z0,zs,z0,zs,z0,z0,z0,zs,z0,z0,z0,z0,z0]] 2 [1,2] (sw (r1 [fu 3 0 1 2,fu 4 0 3 2,ou 5 ld 4 2,ou 6 (.kZ 214) 5 1,fu 7 0 1 2,fu 8 1 7 2,ou 9 ld 8 2,ou 10 (.kZ 215) 9 1,fu 11 0 1 2,fu 12 0 11 2,sk 1 12 6 0,fu 13 0 1 2,fu 14 1 13 2,sk 1 14 10 0] 0 [1,2] []) (sw (r1 [fu 15 2 1 2,ou 16 ld 15 2,ou 17 (.kZ 216) 16 1,fu 18 11 1 2,ou 19 ld 18 2,ou 20 (.kZ 217) 19 1,fu 21 2 1 2,sk 1 21 17 0,fu 22 11 1 2,sk 1 22 20 0] 0 [1,2] []) (sw (r1 [fu 23 4 1 2,fu 24 1 23 2,ou 25 ld 24 2,ou 26 (.kZ 215) 25 1,fu 27 6 1 2,fu 28 1 27 2,ou 29 ld 28 2,ou 30 (.kZ 215) 29 1,fu 31 4 1 2,fu 32 1 31 2,sk 1 32 26 0,fu 33 6 1 2,fu 34 1 33 2,sk 1 34 30 0] 0 [1,2] []) (sr [lw 35 17 1,sk 17 2 35 0] 0 [2] .ret)))))
def Au:aA:=(s0 [ba 1 0 0,ag 2 2] 1 [1] [1] (sr [fa 13 6 1,lw 14 2 13,fa 15 12 1,lo 16 15,on 17 (.build [z0,z0,z0] [(0,1),(1,1),(2,1)]) [.t 16,kI 1,kI 1],ob 18 (.aj 218) 14 17,mv 12 18,xa 19 0 12,xa 20 1 12,mv 3 19,mv 4 20] 0 [1,3] (sr [fa 22 6 1,lw 23 2 22,fa 24 12 1,lo 25 24,on 26 (.build [z0,z0,z0] [(0,1),(1,1),(2,1)]) [.t 25,kI 12,kI 31],ob 27 (.aj 218) 23 26,mv 21 27,xa 28 0 21,xa 29 1 21,mv 5 28,mv 6 29] 0 [1,3,5] (sr [fa 31 6 1,lw 32 2 31,fa 33 8 1,lw 34 3 33,fa 35 11 1,lo 36 35,fa 37 12 1,lo 38 37,on 39 (.aj 209) [.t 32,.t 34,.t 36,.t 38],mv 30 39,xa 40 0 30,xa 41 1 30,mv 7 40,mv 8 41] 0 [3,5,7] (sr [ag 9 2] 0 [3,5,7,9] (sw (sr [mv 42 5,mv 43 3,ob 44 pU 42 43,oi 45 pA 44 1,mi 46 0] 0 [3,7,9,45,46] (lp (sr [ob 47 pL 46 45] 0 [3,7,9,45,46,47] (sw (cx 47 0) (sw (b1 (sr [mv 48 46,mv 10 48] 0 [3,7,9,10,45,46] (sr [mv 49 3,mv 50 10,ob 51 pA 49 50,mv 11 51] 0 [3,7,9,11,45,46] (rg [mv 52 9,mv 53 11,mv 54 11,oi 55 pA 54 4,oi 56 (.bin .rem) 55 7,oi 57 pQ 56 0,mv 58 57,ov 59 .mov 7 58 0,ov 60 .mov 11 58 0,obT 61 (.aj 131) 59 60 58 0,ov 62 pN 61 58 0,pf 63 58 62,ob 64 (.build [z0,.bool false] [(0,1),(1,1)]) 53 63,oa 65 (.dU 2 [.agg [z0,.bool false]] [0]) 64,ob 66 (.app 2 false) 52 65,mv 9 66] 0 [3,7,9,45,46])))) (rg [oi 67 pA 46 1,mv 46 67] 0 [3,7,9,45,46])))))) (sr [mv 68 9,mv 2 68] 0 [2] .ret)))))))
def yR:aA:=(s0 [ba 1 0 0,al 2 1 [z0,zs],mi 3 0] 2 [1,2] [1] (sw (sr [lo 6 1,oa 7 .Gi 6,oi 8 pG 7 60] 0 [1,2,8] (cd 8 (sr [on 9 (.build [z0,zs] []) [],sk 2 2 9 0,mi 3 3] 0 [2,3] .ret) .skip)) (sr [al 4 0 [z0,zs]] 1 [1,2,4] (sr [ob 10 (.mkF (.func 221) 0) 1 4,oa 11 (.call 220) 10,mv 5 11] 0 [2,4,5] (sw (sr [mv 12 5,oi 13 pQ 12 0] 0 [2,4,5,13] (cd 13 (sr [on 14 (.build [z0,zs] []) [],mv 15 5,sk 2 2 14 0,mv 3 15] 0 [2,3] .ret) .skip)) (sr [lw 16 2 4,sk 2 2 16 0,mi 3 0] 0 [2,3] .ret))))))
def uG:aA:=(s0 [ba 1 0 0,al 2 1 [z0,zs],mi 3 0] 2 [1,2] [1] (sr [al 4 0 [z0,zs]] 1 [1,2,4] (sr [ob 6 (.mkF (.func 231) 0) 1 4,oa 7 (.call 220) 6,mv 5 7] 0 [2,4,5] (sr [lw 8 2 4,mv 9 5,sk 2 2 8 0,mv 3 9] 0 [2,3] .ret))))
def uz:aA:=(s0 [ba 2 0 0,ba 3 1 1,mk 4 cS,mi 5 0] 2 [2,3] [3] (sw (sr [lo 11 2,oa 12 (.gG 224) 11,oa 13 pN 12] 0 [2,3,13] (cd 13 (sr [mk 4 cS,mi 5 1] 0 [4,5] .ret) .skip)) (sw (sw (r1 [fu 14 0 3 1,lv 15 14,on 16 (.aj 207) [.t 15,kI 1,kI 12],oa 17 pN 16,mv 18 17,ow 19 (.fld 1) 3 18 1,ow 20 ld 19 18 1,ow 21 .len 20 18 1,oF 22 (.aj 232) [] 18 0,ow 23 (.fld 0) 3 18 1,ow 24 ld 23 18 1,oF 25 pU [.t 24,kI 1] 18 0,obF 26 (.Qj true 2 12) 22 25 18 0,ow 27 (.Qh false 1 1) 26 18 0,obF 28 pQ 21 27 18 0,pt 29 18 28] 0 [2,3,29] []) (cd 29 (sr [mk 4 cS,mi 5 2] 0 [4,5] .ret) .skip)) (sr [lo 30 2,oa 31 (.build [.nilPtr,.nilPtr] [(1,1)]) 30,al 6 0 [.nilPtr,.nilPtr],sk 2 6 31 0] 1 [2,3,6] (sw (sr [ob 32 (.mkF (.func 233) 0) 2 6,oa 33 (.call 220) 32,mv 7 33] 0 [3,6,7] (sr [mv 34 7,oi 35 pQ 34 0] 0 [3,6,7,35] (cd 35 (sr [mv 36 7,mk 4 cS,mv 5 36] 0 [4,5] .ret) .skip))) (sr [on 37 (.build [.nilFunc,.nilFunc,.nilFunc,.nilFunc,.nilFunc,.nilFunc,.nilFunc,.nilFunc,.nilFunc,.nilFunc,.nilFunc,.nilFunc] [(0,1),(1,1),(2,1),(3,1),(4,1),(5,1),(6,1),(7,1),(8,1),(9,1),(10,1),(11,1)]) [.c (.func (.func 234) [] []),.c (.func (.func 235) [] []),.c (.func (.func 236) [] []),.c (.func (.func 237) [] []),.c (.func (.func 238) [] []),.c (.func (.func 239) [] []),.c (.func (.func 240) [] []),.c (.func (.func 241) [] []),.c (.func (.func 242) [] []),.c (.func (.func 243) [] []),.c (.func (.func 244) [] []),.c (.func (.func 245) [] [])],al 8 0 [.nilFunc,.nilFunc,.nilFunc,.nilFunc,.nilFunc,.nilFunc,.nilFunc,.nilFunc,.nilFunc,.nilFunc,.nilFunc,.nilFunc],sk 12 8 37 0] 1 [3,6,8] (sw (r1 [fu 39 0 3 1,lv 40 39,oi 41 pU 40 1,ob 42 (.GL 1 12) 8 41,ou 43 ld 42 2,ou 44 (.load true 2) 6 2,fu 45 1 3 1,lv 46 45,on 47 .dQ [.t 43,.t 44,.t 46],mv 38 47,xa 48 0 38,xa 49 1 38,mv 9 48,mv 10 49] 0 [9,10] []) (sw (sr [mv 50 10,oi 51 pQ 50 0] 0 [9,10,51] (cd 51 (sr [mv 52 10,mk 4 cS,mv 5 52] 0 [4,5] .ret) .skip)) (sr [mv 53 9,mv 4 53,mi 5 0] 0 [4,5] .ret)))))))))
def xH:aA:=(sr [mk 2 (.c ze)] 0 [0] (sr [ag 3 1] 0 [0,3] (sw (sr [mv 6 0,oa 7 .len 6,mi 8 0] 0 [3,6,7,8] (lp (sr [ob 9 pL 8 7] 0 [3,6,7,8,9] (sw (cx 9 0) (sw (b1 (sr [ix 10 1 6 8,lo 11 10,mv 5 11] 0 [3,5,6,7,8] (rg [mv 12 3,mv 13 5,oa 14 (.aj 155) 13,oa 15 (.dU 1 [ze] [0]) 14,ob 16 (.app 1 false) 12 15,mv 3 16] 0 [3,6,7,8]))) (rg [oi 17 pA 8 1,mv 8 17] 0 [3,6,7,8])))))) (sr [mv 18 3,oc 19 (.gG 246) 18 (.c (.str ⟨#[32]⟩)),mv 2 19] 0 [2] .ret))))
def sW:aA:=(s0 [ba 1 0 0,mf 2 false] 1 [1] [1] (sr [lw 3 2 1,oa 4 (.aj 213) 3,oa 5 pN 4,mv 2 5] 0 [2] .ret))
def qU:aA:=(s0 [ba 1 0 0,mf 2 false] 1 [1] [1] (sr [fa 3 0 1,lo 4 3,on 5 (.aj 207) [.t 4,kI 0,kI 50000],mv 6 5,ov 7 (.fld 1) 1 6 0,ov 8 ld 7 6 0,ot 9 (.aj 207) [.t 8,kI 1,kI 50000] 6 0,pf 10 6 9,mv 2 10] 0 [2] .ret))
def vN:aA:=(s0 [on 5 (.aj 222) [],al 2 0 [ze,z0,ze,z0,ze,z0,ze,z0,ze,z0,ze,z0],sk 12 2 5 0] 1 [0,1,2] [2] (sw (r1 [lv 7 0,ou 8 (.UA true 2 6) 2 1,ob 9 (.call 223) 7 8,mv 6 9,xa 10 0 6,xa 11 1 6,mv 3 10,mv 4 11] 0 [1,3,4] []) (rg [mv 12 3,on 13 pA [kI 1,.t 12],mv 14 4,ob 15 (.build [z0,zs] [(0,1),(1,1)]) 13 14,sk 2 1 15 0] 0 [])))
def yS:aA:=(sr [al 0 0 [ze,z0,ze,z0,ze,z0,ze,z0,ze,z0,ze,z0]] 1 [0] (sr [on 1 (.build [ze,z0] [(0,1),(1,1)]) [.c (.str ⟨#[99,117,116]⟩),kI 1],on 2 (.build [ze,z0] [(0,1),(1,1)]) [.c (.str ⟨#[99,104,97,110,103,101]⟩),kI 3],on 3 (.build [ze,z0] [(0,1),(1,1)]) [.c (.str ⟨#[111,114,100,101,114]⟩),kI 3],on 4 (.build [ze,z0] [(0,1),(1,1)]) [.c (.str ⟨#[115,101,114,118,101]⟩),kI 2],on 5 (.build [ze,z0] [(0,1),(1,1)]) [.c (.str ⟨#[115,101,116]⟩),kI 1],on 6 (.build [ze,z0] [(0,1),(1,1)]) [.c (.str ⟨#[115,116,114,105,107,101]⟩),kI 1],on 7 (.build [ze,z0,ze,z0,ze,z0,ze,z0,ze,z0,ze,z0] [(0,2),(2,2),(4,2),(6,2),(8,2),(10,2)]) [.t 1,.t 2,.t 3,.t 4,.t 5,.t 6],sk 12 0 7 0] 0 [0] .ret))
def Ar:aA:=(sr [mi 4 0,ag 5 1] 0 [0,1] (sr [mv 14 0,oc 15 (.aj 276) 14 (.c (.str ⟨#[32]⟩)),mv 6 15] 0 [0,1,6] (sr [mv 16 1,mv 17 6,oi 18 (.bH 1) 17 0,lo 19 18,mv 20 6,oa 21 .len 20,oi 22 pU 21 1,ob 23 (.build [ze,z0] [(0,1),(1,1)]) 19 22,ob 24 (.aj 277) 16 23,mv 7 24] 0 [0,6,7] (sr [mv 25 7,oi 26 (.bin .geq) 25 0,mv 27 0,ob 28 (.call 278) 26 27] 0 [0,6,7] (sr [ag 8 1] 0 [0,6,7,8] (sw (sr [mv 29 6,oi 30 (.Jh 1 true false false) 29 1,oa 31 .len 30,mi 32 0] 0 [0,7,8,30,31,32] (lp (sr [ob 33 pL 32 31] 0 [0,7,8,30,31,32,33] (sw (cx 33 0) (sw (b1 (sr [ix 34 1 30 32,lo 35 34,mv 10 35] 0 [0,7,8,10,30,31,32] (sr [mi 11 0] 0 [0,7,8,10,11,30,31,32] (sw (sr [mv 36 10,oa 37 (.rngS 0) 36] 1 [0,7,8,10,11,30,31,32,37] (.block 2 (.loop (sr [oa 38 .Zu 37,xa 39 0 38] 0 [0,7,8,10,11,30,31,32,37,38,39] (sw (cx 39 2) (.block 3 (sr [xa 40 2 38,mv 13 40] 0 [0,7,8,10,11,13,30,31,32,37] (sr [mv 41 13,oc 42 (.bin .geq) 41 (.c (.int .i32 48)),mv 43 42,ov 44 .mov 13 43 0,ot 45 (.bin .leq) [.t 44,.c (.int .i32 57)] 43 0,pf 46 43 45,mv 47 46,ov 48 .mov 10 47 0,ov 49 .Gi 48 47 0,ot 50 (.bin .leq) [.t 49,kI 4] 47 0,pf 51 47 50,mv 52 0,ob 53 (.call 278) 51 52] 0 [0,7,8,10,11,13,30,31,32,37] (rg [mv 54 11,on 55 pM [kI 10,.t 54],mv 56 13,oc 57 pU 56 (.c (.int .i32 48)),oa 58 (.conv .i64) 57,ob 59 pA 55 58,mv 11 59] 0 [0,7,8,10,11,30,31,32,37]))))))))) (sr [mv 60 10,oc 61 pQ 60 (.c ze),mv 62 61,ov 63 .mov 11 62 0,ov 64 (.aj 155) 63 62 0,ov 65 .mov 10 62 0,obT 66 pE 64 65 62 0,pf 67 62 66,mv 68 0,ob 69 (.call 278) 67 68] 0 [0,7,8,11,30,31,32] (rg [mv 70 8,mv 71 11,oa 72 (.dU 1 [z0] [0]) 71,ob 73 (.app 1 false) 70 72,mv 8 73] 0 [0,7,8,30,31,32])))))) (rg [oi 74 pA 32 1,mv 32 74] 0 [0,7,8,30,31,32])))))) (sr [mv 75 7,mv 76 8,mv 4 75,mv 5 76] 0 [4,5] .ret)))))))
def pR:aA:=(sr [mf 2 false] 0 [0] (sr [mv 3 0,oc 4 (.yx true) 3 (.c (.nilPtr)),mv 5 4,ov 6 .mov 0 5 0,ov 7 .bg 6 5 0,ov 8 (.fld 0) 7 5 0,ov 9 ld 8 5 0,ot 10 (.yx true) [.t 9,.c (.nilPtr)] 5 0,pf 11 5 10,mv 2 11] 0 [2] .ret))
def uF:aA:=(s0 [ba 1 0 0,mf 2 false] 1 [1] [1] (sw (sw (r1 [fu 3 0 1 1,lv 4 3,on 5 (.aj 207) [.t 4,kI 1,kI 6],oa 6 pN 5,mv 7 6,ow 8 (.fld 1) 1 7 1,ow 9 ld 8 7 1,ow 10 .len 9 7 1,oF 11 (.aj 222) [] 7 0,ow 12 (.fld 0) 1 7 1,ow 13 ld 12 7 1,oF 14 pU [.t 13,kI 1] 7 0,obF 15 (.Qj true 2 6) 11 14 7 0,ow 16 (.Qh false 1 1) 15 7 0,obF 17 pQ 10 16 7 0,pt 18 7 17] 0 [1,18] []) (cd 18 (sr [mf 2 false] 0 [2] .ret) .skip)) (sr [fa 19 1 1,lo 20 19,oc 21 (.aj 127) 20 (.c (.func (.func 279) [] [])),oa 22 pN 21,mv 2 22] 0 [2] .ret)))
end Go.Tel
