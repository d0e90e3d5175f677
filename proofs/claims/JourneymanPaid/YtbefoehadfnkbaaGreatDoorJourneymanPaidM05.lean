/-
  Part 5 of a law of desks.
  Conditions: none.
-/
import Derived.Test.YtbefoehadfnkbaaGreatDoorJourneymanPaidM04
set_option linter.all false
set_option maxRecDepth 10000
set_option maxHeartbeats 4000000
open Nat renaming reduceBEq->F,reduceAdd->H,reduceSub->I,reduceEqDiff->J,reduceLT->N,reduceLeDiff->O,zero_le->ab,le_refl->bh,strongRecOn->bi,le_trans->cj
open List renaming length_map->Q,getD_eq_getElem?_getD->V,getElem?_eq_some_iff->W,getElem?_append_left->ae,length_singleton->ai,drop_length->ao,mem_map->ap,length_append->av,map_append->aw,all_eq_true->aE,length_cons->aL,not_mem_nil->aM,map_cons->aR,mem_cons->a7,mem_of_mem_take->be,take_succ_cons->bj,map_nil->bk,zip_cons_cons->bo,mem_or_eq_of_mem_set->br,append_assoc->bu,getElem?_set->bz,zip_nil_left->bA,take_of_length_le->bL,drop_zero->bR,mem_of_mem_drop->bS,take_zero->bX,all_cons->b4,drop_nil->b5,mem_singleton->b7,range->b8,take_length->b9,length_set->ca,mem_append->cb,nil_append->ce,range_succ->cf,map_take->ch,length->cl
open Int renaming toNat_natCast->S,mul_le_mul->Z,lt_irrefl->am,mul_nonneg->an,lt_of_mul_lt_mul_right->aq,add_mul->az,tmod_lt_of_pos->a8,le_refl->bc,natCast_zero->bd,tmod_nonneg->bN,mul_tdiv_add_tmod->bO,sub_mul->ck
open Bool renaming and_eq_true->U,false_and->ax,false_eq_true->bl,not_eq_true'->bt,and_self->bB,true_and->b0,and_false->cg
open Option renaming map_none->X,isSome_none->bp,isSome_some->bq,getD_some->bE
open And renaming intro->aD
open Go.IntKind renaming wrap->cm
namespace Go.Am
def zZ {α:Type}{l:List α}{x:α}:(l++ [x])[l.length]?=some x:=by simp
def Rk {α:Type}{l:List α}{x y:α}:(l++ [x]).set l.length y=l++ [y]:=by simp
def Le {C:Ctx}{base:Nat}{M:Mem}{K:PV->Mem->Prop}{KP:DV->Mem->Prop}{f:FuncId}{fs cs args:List PV}(hc:callable C.P f=true)(h:SC C f (fs++args++cs) M K KP):au C base .jg (.func (.func f) fs cs::args) M K KP:=⟨hc,h⟩
def no:Nat->Prop:=fun _=>False
def Kept.ND {n:Nat}{own vS:Nat->Prop}{bs:List (Option (List PV))}{fz:List Nat}{ar ar':List (Option Arr)}{i:Nat}{x:Option (List PV)}(hi:i<n)(ho:¬own i)(hl:ar.length<=ar'.length)(b:∀k,vS k->ar'[k]?=ar[k]?):
  Kept n own vS ⟨bs,fz,ar⟩ ⟨bs.set i x,fz,ar'⟩:=
 ⟨by simp,hl,fun j a _=>by
  have:i≠j:=by rintro rfl;exact a.elim (fun h=>by omega) ho
  simp[this],fun _ _ _=>Iff.rfl,b,fun h j a=>by simpa using h j a⟩
end Go.Am
namespace Go.Tel
open Go.Am
def nDV (n:Nat):List DV:=[dI n]
def uV (ls:List Lk):Nat->Nat->List Nat
 |0,_=>[]
 | _+1,0=>[]
 |k+1,a+1=>uV ls k (ls.getD a default).fr.toNat++ [a]
def fO (ls:List Lk)(a:Nat):List Nat:=uV ls a a
def linked (ls:List Lk):Prop:=∀i,i<ls.length->0<=(ls.getD i default).fr/\(ls.getD i default).fr<=i
variable{ls:List Lk}
def aek (h:linked ls):∀(k a:Nat),a<=k->a<=ls.length->uV ls k a=uV ls a a:=by
 intro k a
 induction a using bi generalizing k with
 |ind a c=>
  intro b f
  match a,k,b with
  |0,0,_=>rfl
  |0,k+1,_=>rfl
  |a+1,k+1,b=>
   have e:=h a (by omega);have d:(ls.getD a default).fr.toNat<=a:=by omega
   simp only[uV];rw[c _ (by omega) k (by omega) (by omega),c _ (by omega) a (by omega) (by omega)]
def nS (h:linked ls){a:Nat}(b:a<ls.length):fO ls (a+1)=fO ls (ls.getD a default).fr.toNat++ [a]:=by
 have d:=h a b;have c:(ls.getD a default).fr.toNat<=a:=by omega
 simp only[fO,uV];rw[aek h _ _ (by omega) (by omega)]
def Uo (h:linked ls):∀{a:Nat},a<=ls.length->∀i∈fO ls a,i<a:=by
 intro a
 induction a using bi with
 |ind a c=>
  intro b i hi
  match a,b,c with
  |0,_,_=>simp[fO,uV]at hi
  |a+1,b,c=>
   rw[nS h b]at hi;have d:=h a b
   rcases cb.1 hi with hi|hi
   ·have:=c _ (by omega) (by omega) i hi;omega
   ·simp only[b7]at hi;omega
def OM (h:linked ls):∀{a:Nat},a<=ls.length->(fO ls a).length<=a:=by
 intro a
 induction a using bi with
 |ind a c=>
  intro b
  match a,b,c with
  |0,_,_=>simp[fO,uV]
  |a+1,b,c=>
   rw[nS h b,av,ai];have d:=h a b;have:=c (ls.getD a default).fr.toNat (by omega) (by omega);omega
section
variable {ls:List Lk}{n b bw bv:Nat}{R:List (List DV)->Mem->Prop}{stop:Mem->Prop}{KP:DV->Mem->Prop}{xs:List (List DV)}
def alv (ls:List Lk)(bw bv:Nat):PV:= .func (.func 263) [] [.ptr bw 0, .d (.aW [sF (ls.map Lk.dv)]), .ptr bv 0]
structure NV (ls:List Lk) (b bw bv:Nat) (M:Mem):Prop where
 w:M.boxes[bw]?=some (some [.func (.func 263) [] [.ptr bw 0, .d (.aW [sF (ls.map Lk.dv)]), .ptr bv 0]])
 v:M.boxes[bv]?=some (some [.oP b])
def NV.kept {M M':Mem}(h:NV ls b bw bv M)(a:n<=bw)(hv:n<=bv)(hk:Kept n no no M M'):NV ls b bw bv M':=
 ⟨(hk.box bw (.inl a) (W.1 h.w).1).trans h.w,(hk.box bv (.inl hv) (W.1 h.v).1).trans h.v⟩
def akk (l:linked ls)(hl:ls.length<=1000000)(K:n<=bw)(hv:n<=bv)
  (lK:∀pre x c e,xs=pre++x::c->n<=e.boxes.length->R pre e->SY C b (x.map .d) e (fun p M'=>Kept n no no e M'/\((p= .d (.bool true)/\R (pre++ [x]) M')\/(p= .d (.bool false)/\stop M'))) KP):
  ∀(a:Nat) (pre c:List (List DV)) (e:Mem),a<=ls.length->xs=pre++((fO ls a).map nDV++c)->NV ls b bw bv e->R pre e->
   SC C 263 [pI a, .ptr bw 0, .d (.aW [sF (ls.map Lk.dv)]), .ptr bv 0] e
    (fun p M'=>NV ls b bw bv M'/\((p= .d (.bool true)/\R (pre++(fO ls a).map nDV) M')\/(p= .d (.bool false)/\stop M'))) KP:=by
 intro a
 induction a using bi with
 |ind a t=>
  intro pre c e w f V E;refine aG mixed rfl OA ?_;obtain⟨bs,fz,ar⟩:=e;obtain⟨o,r⟩:=V;simp only at o r;have l1:=(W.1 o).1;have l2:=(W.1 r).1
  match a,w,f,t with
  |0,w,f,t=>
   simp only[vT,aeD,bd,BEq.rfl,decide_true,RN,F,H,I,J,N,O];exact⟨⟨o,r⟩, .inl (by simpa[fO,uV]using E)⟩
  |a+1,w,f,t=>
   have z:(((a+1:Nat):Int)==0)=false:=by simp;omega
   have D:cm .i64 (((a+1:Nat):Int) - 1)=(a:Int):=by rw[aF (by omega)];omega
   have Z:=l a (by omega);have y:a<ls.length:=by omega
   obtain⟨q,G⟩:∃q:Nat,(ls.getD a default).fr=q:=⟨(ls.getD a default).fr.toNat,by omega⟩
   have m:fO ls (a+1)=fO ls q++ [a]:=by rw[nS l (by omega),G];rfl
   rw[m,aw,bu]at f;have U:(0:Int)<=(a:Int):=by omega
   simp only[vT,aeD,z,o,r,l1,l2,D,U,y,getD_map,S,Q,nI,G,RN,F,H,I,J,N,O];refine Le (args:=[_]) (cs:=[_,_,_]) (by kernel_rfl) ?_;refine SC.mono (t q (by omega) pre _ _ (by omega) f ⟨o,r⟩ E) ?_;rintro p ⟨h,i,g⟩ ⟨⟨j,s⟩,A⟩;simp only at j s
   rcases A with⟨rfl,u⟩|⟨rfl,B⟩
   ·simp only[j,s,l1,l2,D,RN,F,H,I,J,N,O]
    refine BI ?_;have Y:=lK (pre++(fO ls q).map nDV) (nDV a) c ⟨h,i,g⟩ (by rw[f];simp) (Nat.le_of_lt (Nat.lt_of_le_of_lt K (W.1 j).1)) u;refine SY.mono Y ?_;rintro p ⟨P,T,L⟩ ⟨X,A⟩;have k:=NV.kept (M:=⟨h,i,g⟩) ⟨j,s⟩ K hv X
    rcases A with⟨rfl,v⟩|⟨rfl,B⟩
    ·(try simp only[RN,F,H,I,J,N,O])
     exact⟨k, .inl (by rw[m,aw,<-bu];exact v)⟩
    ·(try simp only[RN,F,H,I,J,N,O])
     exact⟨k, .inr B⟩
   ·(try simp only[RN,F,H,I,J,N,O])
    exact⟨⟨j,s⟩, .inr B⟩
end
def Xd {ls:List Lk}(g:linked ls)(hl:ls.length<=1000000)(a:Nat)(m:a<=ls.length):
  Wp C 262 [] [.d (.aW [sF (ls.map Lk.dv)]), .d (.aW [dI a])] ((fO ls a).map nDV) no no no (fun _=>True):=by
 rintro⟨bs,fz,ar⟩ b n R stop K KP o _ i f _ j lK k c e;simp only at i f;refine aG mixed rfl Uh ?_;have q:(bs++ [some [PV.oP b]]).length∉fz:=fun h=>by have:=f _ h;simp at this;omega
 simp only[GU,jq,zZ,Rk,lU,cells_func,ac1,aay,abo,q,RN,F,H,I,J,N,O];refine Le (args:=[_]) (cs:=[_,_,_]) (by kernel_rfl) ?_;refine SC.mono (akk (bw:=(bs++ [some [PV.oP b]]).length) (bv:=bs.length) g hl (by simp;omega) i lK a [] [] _ m (by simp) ⟨by simp,by simp⟩ (j _ _ _ ?_ k)) ?_
 ·have:=Moved.ext (own:=no) (fz:=fz) (ar:=ar) (xb:=[some [PV.oP b],some [alv ls (bs++ [some [PV.oP b]]).length bs.length]]) (xf:=[]) i (by simp)
  simpa[alv]using this
 ·rintro p u ⟨⟨v,t⟩,r⟩
  have hl:=(W.1 t).1
  rcases r with⟨rfl,l⟩|⟨rfl,s⟩
  ·exact e _ _ (by omega) (by simpa using l)
  ·exact c _ _ s
def akj (ls:List Lk)(a:Int):Pure C 183 [sF (ls.map Lk.dv),dI a] (.d (.func (.func 262) [] [.aW [sF (ls.map Lk.dv)], .aW [dI a]])) []:=by
 refine ah mixed rfl Y0 ?_;simp only[Nj,aJ,aM,RN,F,H,I,J,N,O]
def aqe (ls:List Lk)(c:linked ls)(hl:ls.length<=1000)(a:Nat)(j:a<=ls.length):Pure C 178 [sF (ls.map Lk.dv),dI a] (pI ((fO ls a).length)) []:=by
 refine ah mixed rfl abl ?_;simp only[Qq,aJ,RN,F,H,I,J,N,O];refine ak rfl rfl (akj ls a) ?_;have o:=OM c j;refine rD (Xd c (by omega) a j) (fun _ h=>h) rfl (by kernel_rfl) (by simp) (fun x g=>by obtain⟨i,_,rfl⟩:=ap.1 g;rfl) (fun _ h=>h.elim) (fun _ _=>trivial)
  (fun pre M=>M.boxes[0]?=some (some [pI pre.length])/\0∉M.fz) ?_ ⟨rfl,by simp⟩ ?_ ?_
 ·rintro pre q r k ⟨h1,h2⟩
  exact⟨(k.box 0 (by simp) id).trans h1,fun h=>h2 ((k.fz 0 (by simp) id).1 h)⟩
 ·rintro L cells pre x m ⟨bs,fz,ar⟩ g d b f ⟨h1,h2⟩ p
  simp only[ai]at d b f h1 h2⊢;have l:pre.length<=1000:=by
   have:=congrArg cl g;simp at this;omega
  have e:0<bs.length:=by omega
  obtain⟨i,s,rfl⟩:∃i,i∈fO ls a/\nDV i=x:=by
   have:x∈(fO ls a).map nDV:=by rw[g];simp
   simpa using this
  have n:cm .i64 ((pre.length:Int)+1)=((pre++ [nDV i]).length:Int):=by rw[aF (by omega)];simp
  simp only[h1,h2,n,wz,nDV,bo,bA,RN,F,H,I,J,N,O];exact⟨by simpa using b,f,Kept.set (M:=⟨bs,fz,ar⟩) (by omega) id,by simp[e]⟩
 ·rintro⟨bs,fz,ar⟩ ⟨h1,h2⟩ d
  simp only at h1;simp only[h1,RN,F,H,I,J,N,O];simp
def vJ {C:Ctx}{base sz:Nat}{M:Mem}{K:PV->Mem->Prop}{KP:DV->Mem->Prop}{z:DV}{cs:List DV}:au C base (.gu sz [z] [0]) [.d (.agg cs)] M K KP=((DV.strip (.agg cs)).cells.length=sz/\K (.d (.slice true [DV.strip (.agg cs)])) M):=iC
def bg (ls:List Lk)(a:Nat):List Pr:=(fO ls a).map fun i=>(ls.getD i default).pr
def aeS (p:Pc)(f:linked p.links)(hl:p.links.length<=1000)(a:Nat)(u:a<=p.links.length)(Z:0<a):SC C 91 ([p.dv,dI a].map .d) bY (fun v M=>KR M v 2 ((bg p.links a).map Pr.dv) 1) (fun _ _=>False):=by
 refine aG mixed rfl Q8 ?_;simp only[EZ,aJ,dZ,aM,RN,F,H,I,J,N,O];refine ak rfl rfl (akj p.links a) ?_;have P:=OM f u;refine rD (Xd f (by omega) a u) (fun _ h=>h) rfl (by kernel_rfl) (by simp) (fun x t=>by obtain⟨i,_,rfl⟩:=ap.1 t;rfl) (fun _ h=>h.elim) (fun _ _=>trivial)
  (fun pre M=>∃(l:List Nat) (v:PV),pre=l.map nDV/\M.boxes[1]?=some (some [v])/\1∉M.fz/\((l=[]/\v= .d (.slice true []))\/(l≠[]/\KR M v 2 ((l.map fun i=>(p.links.getD i default).pr).map Pr.dv) 1))) ?_ ⟨[],_,rfl,rfl,by simp, .inl ⟨rfl,rfl⟩⟩ ?_ ?_
 ·rintro pre X Y A ⟨l,v,h1,h2,m,n⟩
  refine⟨l,v,h1,(A.box 1 (by simp) id).trans h2,fun h=>m ((A.fz 1 (by simp) id).1 h),n.imp id fun⟨R,k,ver,T,U⟩=>⟨R,k,ver,T,by rw[A.aB];exact U⟩⟩
 ·rintro L cells pre x E ⟨bs,fz,ar⟩ t s e j ⟨l,v,rfl,h1,h2,m⟩ V
  simp only[aL,List.length_nil]at s e j h1 h2 m⊢;have D:l.length<=1000:=by
   have:=congrArg cl t;simp at this;omega
  have c:1<bs.length:=by omega
  obtain⟨i,G,rfl⟩:∃i,i∈fO p.links a/\nDV i=x:=by
   have:x∈(fO p.links a).map nDV:=by rw[t];simp
   simpa using this
  have q:i<p.links.length:=by have:=Uo f u i G;omega
  have o:(0:Int)<=(i:Int):=by omega
  have an6:∀y,(bs.set 1 y)[2]?=bs[2]?:=fun y=>by simp
  have g:∀y,(bs.set 1 y)[1]?=some y:=fun y=>by simp[c]
  rcases m with⟨rfl,rfl⟩|⟨K,k,ver,rfl,B⟩
  ·simp only[h1,h2,c,o,q,getD_map,S,Q,nI,vJ,DV.strip,wz,nDV,bo,bA,Ll,forall_eq,bM,dB,RN,F,H,I,J,N,O]
   refine⟨by simp,by simp,by rw[an6];exact e,j,Kept.ND (by omega) id (by simp) (fun _ h=>h.elim),[i],_,rfl,g _, .inr ⟨by simp,ar.length,0,rfl,by simp[jJ]⟩⟩
  ·have z:=(W.1 B).1
   have r:l.length<=1073741823:=by omega
   simp only[h1,h2,c,o,q,B,getD_map,S,Q,nI,vJ,DV.strip,wz,nDV,bo,bA,Ll,forall_eq,bM,dB,RN,F,H,I,J,N,O];refine⟨by simp,by simpa using r,by rw[an6];exact e,j,Kept.ND (by omega) id (by simp) (fun _ h=>h.elim),l++ [i],_,by simp[nDV],g _, .inr ⟨by simp,k,ver+1,rfl,by simp[z,jJ]⟩⟩
 ·rintro⟨bs,fz,ar⟩ ⟨l,v,h1,h2,m,n⟩ s
  simp only at h2;simp only[h2,RN,F,H,I,J,N,O];have w:(fO p.links a)=l:=(List.map_inj_right (fun x y h=>by simp only[nDV,List.cons.injEq,DV.int.injEq,true_and,and_true,Int.natCast_inj]at h;exact h)).1 h1
  rcases n with⟨rfl,_⟩|⟨_,n⟩
  ·obtain⟨b,rfl⟩:∃b,a=b+1:=⟨a - 1,by omega⟩
   rw[nS f (by omega)]at w;simp at w
  ·rw[bg,w];exact n
def OZ (p:Pc)(b:linked p.links)(hl:p.links.length<=1000)(a:Nat)(e:a<=p.links.length)(c:0<a):Pure C 91 [p.dv,dI a] (.d (sF ((bg p.links a).map Pr.dv))) []:=
 bU (SC.mono (aeS p b hl a e c) fun _ _ h=>h.datum)
def mP (pre:List Lk)(l:Lk):Bool:=inR l.fr 0 pre.length&&l.pr.ok&& !decide ((fO pre l.fr.toNat).length>=3)
def jS:List Lk->List Lk->Bool
 | _,[]=>true
 |pre,l::ls=>mP pre l&&jS (pre++ [l]) ls
def Pc.ok (p:Pc):Bool:=inR p.links.length 1 5&&inR p.hands.length 1 4&&jS [] p.links&&p.hands.all (fun n=>inR n 1 p.links.length)
def Hl (n l h:Int):Pure C 92 [dI n,dI l,dI h] (.d (.bool (inR n l h))) []:=by
 refine ah mixed rfl aeg ?_
 by_cases h1:n>=l<;>simp only[h1,inR,UE,jr,ax,RN,F,H,I,J,N,O]
def Vq (n:Int):Pure C 188 [dI n] (.d (.bool (aT n))) []:=by
 refine ah mixed rfl Q7 ?_;simp only[EY,aK,RN,F,H,I,J,N,O]
 repeat' first
  |(refine ak rfl rfl (Hl _ _ _) ?_;try simp only[RN,F,H,I,J,N,O])
  |(refine bF (by rfl) (fun a=> ?_) (fun a=> ?_)<;>simp only[a,RN,F,H,I,J,N,O])
  |(refine bJ (by rfl) (fun a=> ?_) (fun a=> ?_)<;>simp only[a,RN,F,H,I,J,N,O])
 all_goals(first|(simp only[aT, *,BSN];done)|(simp_all[aT];done)|(simp_all[aT];omega))
def anF (f:Fr):Pure C 243 [f.dv] (.d (.bool f.ok)) []:=by
 refine ah mixed rfl Kt ?_;simp only[zn,aK,bW,RN,F,H,I,J,N,O]
 repeat' first
  |(refine ak rfl rfl (Hl _ _ _) ?_;try simp only[bW,RN,F,H,I,J,N,O])
  |(refine bF (by rfl) (fun a=> ?_) (fun a=> ?_)<;>simp only[a,bW,RN,F,H,I,J,N,O])
  |(refine bJ (by rfl) (fun a=> ?_) (fun a=> ?_)<;>simp only[a,bW,RN,F,H,I,J,N,O])
 all_goals(first|(simp only[Fr.ok, *,BSN];done)|(simp_all[Fr.ok];done)|(simp_all[Fr.ok];omega))
def Zk (p:Pr):Pure C 177 [p.dv] (.d (.bool p.ok)) []:=by
 refine ah mixed rfl Ug ?_;simp only[GR,aK,jJ,RN,F,H,I,J,N,O]
 repeat' first
  |(refine ak rfl rfl (Vq _) ?_;try simp only[jJ,RN,F,H,I,J,N,O])
  |(refine bF (by rfl) (fun a=> ?_) (fun a=> ?_)<;>simp only[a,jJ,RN,F,H,I,J,N,O])
  |(refine bJ (by rfl) (fun a=> ?_) (fun a=> ?_)<;>simp only[a,jJ,RN,F,H,I,J,N,O])
 all_goals(first|(simp only[Pr.ok, *,BSN];done)|(simp_all[Pr.ok];done)|(simp_all[Pr.ok];omega))
def adK (p:Pc)(n:Int):Pure C 180 [dI n, .aW [sF (p.links.map Lk.dv),sF (p.hands.map ay)]] (.d (.bool (!inR n 1 p.links.length))) []:=by
 refine ah mixed rfl LX ?_;simp only[Ar,Za,Q,RN,F,H,I,J,N,O];refine ak rfl rfl (Hl _ _ _) ?_;(try simp only[RN,F,H,I,J,N,O])
variable{pre:List Lk}{l:Lk}
def JV (h:linked pre)(h1:0<=l.fr)(h2:l.fr<=pre.length):linked (pre++ [l]):=by
 intro i b;simp only[av,ai]at b
 by_cases a:i<pre.length
 ·have:=h i a
  simpa[V,ae a]using this
 ·have:i=pre.length:=by omega
  subst this;simp[V];omega
def Yn (h:mP pre l=true):(0<=l.fr/\l.fr<=pre.length)/\l.pr.ok=true/\(fO pre l.fr.toNat).length<3:=by
 simp only[mP,inR,U,decide_eq_true_eq,bt,decide_eq_false_iff_not,ge_iff_le]at h;obtain⟨⟨h1,h2⟩,a⟩:=h;exact⟨h1,h2,by omega⟩
def vP (p:Pc)(hl:p.links.length<=1000)(hh:p.hands.length<=1000):Pure C 89 [p.dv] (.d (.bool p.ok)) []:=by
 refine ah mixed rfl QZ ?_;simp only[EW,aK,dZ,Q,RN,F,H,I,J,N,O]
 repeat' first
  |(refine ak rfl rfl (Hl _ _ _) ?_;try simp only[Q,RN,F,H,I,J,N,O])
  |(refine bF (by rfl) (fun c=> ?_) (fun c=> ?_)<;>simp only[c,Q,RN,F,H,I,J,N,O])
  |(refine bJ (by rfl) (fun c=> ?_) (fun c=> ?_)<;>simp only[c,Q,RN,F,H,I,J,N,O])
 any_goals (simp_all[Pc.ok];done)
 have r:inR p.links.length 1 5=true:=by simp_all
 have c:inR p.hands.length 1 4=true:=by simp_all
 have s:p.links.length<=5:=by simp only[inR,U,decide_eq_true_eq]at r;omega
 have m:p.ok=(jS [] p.links&&p.hands.all (fun n=>inR n 1 p.links.length)):=by simp[Pc.ok,r,c]
 rw[m];refine aH p.links.length (fun i (_:Unit)=>⟨[(1, .d (.aW [sF (p.links.map Lk.dv),sF (p.hands.map ay)])),(18, .d (sF (p.links.map Lk.dv))),(19,pI p.links.length),(20,pI i)],
   ⟨[some [.d (sF (p.links.map Lk.dv)), .d (sF (p.hands.map ay))]],[0],[]⟩⟩)
  (fun i _=>jS [] p.links=jS (p.links.take i) (p.links.drop i)/\linked (p.links.take i)) 0 () (ab _) rfl ⟨by simp,fun i u=>by simp at u⟩ (fun i _ h1 a=> ?_) (fun _ a=> ?_)
 ·obtain⟨h2,o,t⟩:=rng h1 (by omega)
  obtain⟨a,g⟩:=a;have k:(p.links.take i).length=i:=by simp;omega
  rw[drop_cons h1,jS]at a;simp only[h2,o,h1,getD_map,S,Q,nI,RN,F,H,I,J,N,O];refine ak rfl rfl (Hl _ _ _) ?_;cases e:inR (p.links.getD i default).fr 0 (i:Int)
  ·(try simp only[RN,F,H,I,J,N,O])
   have:mP (p.links.take i) (p.links.getD i default)=false:=by simp only[mP,k,e,ax]
   rw[a,this];rfl
  ·have j:=Zk (p.links.getD i default).pr
   simp only[jJ]at j;(try simp only[RN,F,H,I,J,N,O]);refine ak rfl rfl j ?_;cases f:(p.links.getD i default).pr.ok
   ·(try simp only[RN,F,H,I,J,N,O])
    have:mP (p.links.take i) (p.links.getD i default)=false:=by simp only[mP,f,cg,ax]
    rw[a,this];rfl
   ·have v:0<=(p.links.getD i default).fr/\(p.links.getD i default).fr<=i:=by simpa[inR]using e
    obtain⟨q,l⟩:∃q:Nat,(p.links.getD i default).fr=q:=⟨(p.links.getD i default).fr.toNat,by omega⟩
    have aqA:=aqe (p.links.take i) g (by omega) q (by omega);rw[ch]at aqA;simp only[l,RN,F,H,I,J,N,O];rw[yN ajX o (by rw[Q];omega),S];refine ak rfl rfl aqA ?_;cases b:decide (((fO (p.links.take i) q).length:Int)>=3)
    ·have ao9:¬((fO (p.links.take i) q).length>=3):=by have:=of_decide_eq_false b;omega
     simp only[b,t,RN,F,H,I,J,N,O];have arD:inR (q:Int) 0 (i:Int)=true:=by rw[<-l];exact e
     have h:mP (p.links.take i) (p.links.getD i default)=true:=by simp only[mP,k,arD,f,l,S,decide_eq_false ao9,Bool.not_false,bB]
     rw[h,b0,<-aS h1]at a;exact jv 1 0 () h1 rfl ⟨a,by rw[aS h1];exact JV g (by omega) (by omega)⟩ (by simp) (by simp) rfl rfl
    ·have ao9:((fO (p.links.take i) q).length>=3):=by have:=of_decide_eq_true b;omega
     simp only[b,RN,F,H,I,J,N,O];have:mP (p.links.take i) (p.links.getD i default)=false:=by simp only[mP,l,S,decide_eq_true ao9,Bool.not_true,cg]
     rw[a,this];rfl
 ·obtain⟨a,_⟩:=a
  rw[ao,jS]at a;simp only[am,RN,F,H,I,J,N,O];refine ak rfl rfl (sQ p.hands 180 [.aW [sF (p.links.map Lk.dv),sF (p.hands.map ay)]] (fun n=> !inR n 1 p.links.length) (by omega) (by kernel_rfl) fun n _=>adK p n) ?_;simp only[Dh,RN,F,H,I,J,N,O];rw[a];simp
def Ij {ls ms:List Lk}(h:linked ls):∀(k a:Nat),a<=ls.length->uV (ls++ms) k a=uV ls k a
 |0,_,_=>rfl
 | _+1,0,_=>rfl
 |k+1,a+1,b=>by
  have e:(ls++ms).getD a default=ls.getD a default:=by
   simp[V,ae (show a<ls.length by omega)]
  have c:=h a (by omega);simp only[uV,e];rw[Ij h k _ (by omega)]
def I7:∀{ls pre:List Lk},linked pre->(∀a,a<=pre.length->(fO pre a).length<=3)->(∀l∈pre,l.pr.ok=true)->jS pre ls=true->
  linked (pre++ls)/\(∀a,a<=(pre++ls).length->(fO (pre++ls) a).length<=3)/\∀l∈pre++ls,l.pr.ok=true
 | [],pre,h1,h2,c,_=>by simpa using⟨h1,h2,c⟩
 |l::ls,pre,h1,h2,c,h=>by
  simp only[jS,U]at h;obtain⟨f,j,k⟩:=Yn h.1;have d:=JV h1 f.1 f.2;have:=I7 (ls:=ls) d (fun a i=> ?_) (fun x hx=> ?_) h.2
  ·simpa using this
  ·simp only[av,ai]at i
   by_cases b:a<=pre.length
   ·have e:fO (pre++ [l]) a=fO pre a:=by simp only[fO];exact Ij h1 a a b
    rw[e];exact h2 a b
   ·have:a=pre.length+1:=by omega
    subst this;rw[nS d (by simp)];have e:(pre++ [l]).getD pre.length default=l:=by simp[V]
    have g:fO (pre++ [l]) l.fr.toNat=fO pre l.fr.toNat:=by simp only[fO];exact Ij h1 _ _ (by omega)
    rw[e,g];simp;omega
  ·rcases cb.1 hx with hx|hx
   ·exact c x hx
   ·simp only[b7]at hx;rw[hx];exact j
structure Pc.Good (p:Pc):Prop where
 l1:1<=p.links.length
 l2:p.links.length<=5
 h1:1<=p.hands.length
 h2:p.hands.length<=4
 lk:linked p.links
 short:∀a,a<=p.links.length->(fO p.links a).length<=3
 pr:∀l∈p.links,l.pr.ok=true
 hd:∀n∈p.hands,1<=n/\n<=p.links.length
variable{p:Pc}
def Pc.good (h:p.ok=true):p.Good:=by
 simp only[Pc.ok,inR,U,decide_eq_true_eq,aE,ge_iff_le]at h;obtain⟨⟨⟨h1,h2⟩,f⟩,g⟩:=h;obtain⟨c,d,e⟩:=I7 (ls:=p.links) (pre:=[]) (fun i j=>by simp at j) (fun a b=>by simp at b;subst b;simp[fO,uV]) (by simp) f;simp only[ce]at c d e;exact⟨by omega,by omega,by omega,by omega,c,d,e,g⟩
def Pc.Good.ari (h:p.Good){a:Nat}(c:a<=p.links.length)(e:0<a):lS (bg p.links a)=true:=by
 have h1:=h.short a c;obtain⟨b,rfl⟩:∃b,a=b+1:=⟨a - 1,by omega⟩
 have h2:1<=(fO p.links (b+1)).length:=by rw[nS h.lk c];simp
 simp only[lS,bg,inR,U,decide_eq_true_eq,aE,Q,ap,ge_iff_le];refine⟨by omega,?_⟩;rintro x ⟨i,d,rfl⟩;have:=Uo h.lk c i d;exact h.pr _ (getD_mem (by omega))
def alD (p:Pc)(hl:p.links.length<=1000)(hh:p.hands.length<=1000):Pure C 197 [p.dv] (pI (if p.ok then 0 else 2)) []:=by
 refine ah mixed rfl VY ?_;have a:=vP p hl hh;simp only[dZ]at a⊢;simp only[Jl,aK,RN,F,H,I,J,N,O];refine ak rfl rfl a ?_;cases h:p.ok<;>(try simp only[RN,F,H,I,J,N,O])<;>rfl
end Go.Tel
namespace Go.Tel
open Go.Am
variable{bs:List (Option (List PV))}{fz:List Nat}{ar:List (Option Arr)}{K:PV->Mem->Prop}{base:Nat}{KP:DV->Mem->Prop}{ds:List DV}
def yH {C:Ctx}{f:FuncId}{args:List PV}{ds':List DV}{r:PV}{rows:List Arr}(h1:iZ args=some ds)(h2:ds.map DV.strip=ds')(c:Pure C f ds' r rows)(hs:∀A∈rows,A.st≠2)
  (b:K (r.shift ar.length) ⟨bs,fz,ar++rows.map some⟩):au C base (.rZ f) args ⟨bs,fz,ar⟩ K KP:=by
 have e:=Hw h1;subst e;have a:dF ⟨bs,fz,ar⟩ (ds.map .d)=some ds:=by
  clear h1 h2 c b
  induction ds with
  |nil=>rfl
  |cons d ds g=>simp only[aR,dF,datum,g]
 exact⟨ds,a,r,rows,h2▸c, .inr ⟨hs,by rw[FV];exact b⟩⟩
def alK (p:Pc)(c:p.ok=true)(a:Nat)(g:0<a)(h:a<=p.links.length):Pure C 28 [p.dv,dI a] (.d (.tup [sF ((bg p.links a).map Pr.dv),dI 0])) []:=by
 have i:=Pc.good c;obtain⟨k,l,m,n,f,_⟩:=i;have b:=vP p (by omega) (by omega);have e:=OZ p f (by omega) a h g;have j:inR (a:Int) 1 (p.links.length:Int)=true:=by simp[inR];omega
 refine ah mixed rfl V3 ?_;simp only[dZ]at b e⊢;simp only[Jo,dY,RN,F,H,I,J,N,O];refine ak rfl rfl b ?_;simp only[c,Q,RN,F,H,I,J,N,O];refine ak rfl rfl (Hl _ _ _) ?_;simp only[j,RN,F,H,I,J,N,O];refine ak rfl rfl e ?_;(try simp only[RN,F,H,I,J,N,O])
def rG (p:Pc)(hand:Int)(f:Fr)(turns:Int):Int×Int:=
 if p.ok&&inR hand 0 (p.hands.length - 1)then ad5 (bg p.links (p.hands.getD hand.toNat default).toNat) f turns else(0,2)
def ae3 (p:Pc)(hl:p.links.length<=1000)(hh:p.hands.length<=1000)(hand:Int)(f:Fr)(turns:Int):Pure C 27 [p.dv,dI hand,f.dv,dI turns] (.d (.tup [dI (rG p hand f turns).1,dI (rG p hand f turns).2])) []:=by
 have h:=vP p hl hh;have l:cm .i64 ((p.hands.length:Int) - 1)=(p.hands.length:Int) - 1:=aF (by omega);refine ah mixed rfl V4 ?_;simp only[dZ,bW]at h⊢;simp only[Jp,Y9,RN,F,H,I,J,N,O];refine ak rfl rfl h ?_;cases b:p.ok
 ·(try simp only[RN,F,H,I,J,N,O])
  simp[rG,b]
 ·have c:=Pc.good b
  simp only[Q,l,RN,F,H,I,J,N,O];refine ak rfl rfl (Hl _ _ _) ?_;cases e:inR hand 0 ((p.hands.length:Int) - 1)
  ·(try simp only[RN,F,H,I,J,N,O])
   simp[rG,b,e]
  ·have g:0<=hand/\hand<=(p.hands.length:Int) - 1:=by simpa[inR]using e
   have a:hand.toNat<p.hands.length:=by omega
   obtain⟨m,n⟩:=c.hd _ (getD_mem a);obtain⟨q,j⟩:∃q:Nat,p.hands.getD hand.toNat default=q:=⟨(p.hands.getD hand.toNat default).toNat,by omega⟩
   have k:=OZ p c.lk hl q (by omega) (by omega);have i:=ap7 (bg p.links q) f turns (by have:=c.short q (by omega);simp[bg];omega);simp only[dZ,bW]at k i;simp only[g.1,a,getD_map,aI,Q,j,RN,F,H,I,J,N,O];refine ak rfl rfl k ?_;refine ak rfl rfl i ?_;(try simp only[RN,F,H,I,J,N,O]);simp only[rG,b,e,bB,if_true,j,S]
def afl (xs:List Lk):∀y∈xs.map Lk.dv,y.fits 3=true:=by
 intro y a;obtain⟨n,_,rfl⟩:=ap.1 a;rfl
def FY (xs:List Int):∀y∈xs.map ay,y.fits 1=true:=by
 intro y a;obtain⟨n,_,rfl⟩:=ap.1 a;rfl
def H8 {C:Ctx}{sz:Nat}{M:Mem}{z x:DV}(hx:x.strip.fits sz=true)(a:0<sz):au C base (.nN sz [z] [0]) [.d x] M K KP=K (.tsl M.aB.length 0 0) {M with aB:=M.aB++ [some ⟨sz,[x.strip],0,1⟩]}:=by
 have b:x.strip.cells.length=sz:=by simp only[DV.fits,U,beq_iff_eq]at hx;exact hx.1
 simp[au,iZ,wI,b,hx,a]
def mulR (f:Fr)(p:Pr):Fr:=⟨f.n*p.a,f.d*p.b⟩
def qW:List Lk->List Fr->List Fr
 | [],a=>a
 |l::ls,a=>qW ls (a++ [mulR (a.getD l.fr.toNat default) l.pr])
def fP (ls:List Lk):List Fr:=qW ls [⟨1,1⟩]
def Fa (a b:Fr):Bool:=a.n*b.d==b.n*a.d
def Eh (l:List Fr):Prop:=∀i,i<l.length->(1<=(l.getD i default).n/\(l.getD i default).n<=60 ^ i)/\1<=(l.getD i default).d/\(l.getD i default).d<=60 ^ i
def akl {i j:Nat}(h:i<=j):(60:Int) ^ i<=60 ^ j:=by
 have:=Nat.pow_le_pow_right (show 60>0 by decide) h
 exact_mod_cast this
def Qx {c:List Fr}{l:Lk}(h:Eh c)(u:c≠[])(hf:0<=l.fr/\l.fr.toNat<c.length)(f:l.pr.ok=true):Eh (c++ [mulR (c.getD l.fr.toNat default) l.pr]):=by
 intro i j;simp only[av,ai]at j
 by_cases d:i<c.length
 ·have:=h i d
  simpa[V,ae d]using this
 ·have:i=c.length:=by omega
  subst this;have e:(c++ [mulR (c.getD l.fr.toNat default) l.pr]).getD c.length default=mulR (c.getD l.fr.toNat default) l.pr:=by simp[V]
  rw[e];obtain⟨⟨m,n⟩,o,p⟩:=h _ hf.2;simp only[Pr.ok,aT,inR,U,decide_eq_true_eq,ge_iff_le]at f;have k:l.fr.toNat+1<=c.length:=by omega
  have g:(60:Int) ^ (l.fr.toNat+1)<=60 ^ c.length:=akl k;rw[Int.pow_succ]at g;have q:=Z n f.1.2 (by omega) (by omega);have r:=Z p f.2.2 (by omega) (by omega);have s:=Z m (show 1<=l.pr.a by omega) (by omega) (by omega);have t:=Z o (show 1<=l.pr.b by omega) (by omega) (by omega);simp only[mulR];omega
def Jq:∀{ls:List Lk} {a:List Fr},Eh a->a≠[]->(∀i,i<ls.length->0<=(ls.getD i default).fr/\(ls.getD i default).fr<(a.length+i:Nat))->(∀l∈ls,l.pr.ok=true)->
  Eh (qW ls a)/\(qW ls a).length=a.length+ls.length
 | [],a,h,_,_,_=>by simpa[qW]using h
 |l::ls,a,h,e,b,d=>by
  have c:=b 0 (by simp);simp only[List.getD_cons_zero]at c;obtain⟨g,j⟩:=Jq (ls:=ls) (Qx h e ⟨c.1,by omega⟩ (d l (by simp))) (by simp) (fun i k=>by
   have:=b (i+1) (by simp only[aL];omega);rw[List.getD_cons_succ]at this;rw[av,ai];omega) (fun x f=>d x (by simp[f]))
  refine⟨g,?_⟩;rw[qW,j];simp;omega
def Xp:Eh [⟨1,1⟩]:=by
 intro i a;have:i=0:=by simpa using a
 subst this;simp
def uq {ls:List Lk}(h:linked ls)(b:∀l∈ls,l.pr.ok=true):Eh (fP ls)/\(fP ls).length=ls.length+1:=by
 obtain⟨c,d⟩:=Jq (ls:=ls) Xp (by simp) (fun i a=>by have:=h i a;rw[ai];omega) b;exact⟨c,by rw[fP,d];simp;omega⟩
def uo (p:Pc):DV:= .agg [sF (p.links.map Lk.dv),sF (p.hands.map ay),sF ((fP p.links).map Fr.dv)]
def Zq (p:Pc)(hl:p.links.length<=6)(hk:linked p.links)(u:∀l∈p.links,l.pr.ok=true):Pure C 244 [p.dv] (.d (uo p)) []:=by
 refine bU (aG mixed rfl Y1 ?_);simp only[Nk,akN,dZ,agV,bI,X,eP,gI,dB,H8 (x:= .agg [dI 1,dI 1]) (sz:=2) rfl (by decide),DV.strip,Q,RN,F,H,I,J,N,O];refine aH p.links.length (fun i (a:List Fr×Nat)=>⟨[(1, .d (.aW [sF (p.links.map Lk.dv),sF (p.hands.map ay)])),(2, .ptr 1 0),(3, .ptr 2 0),(12,pI p.links.length),(13,pI i)],
   ⟨[some [.d (sF (p.links.map Lk.dv)), .d (sF (p.hands.map ay))],some [.d (.slice true []), .d (.slice true []), .d (.slice true [])],some [.d (sF (p.links.map Lk.dv)), .d (sF (p.hands.map ay)), .tsl 0 a.2 0]],[0],[some ⟨2,a.1.map Fr.dv,a.2,1⟩]⟩⟩)
  (fun i a=>fP p.links=qW (p.links.drop i) a.1/\Eh a.1/\a.1.length=i+1) 0 ([⟨1,1⟩],0) (ab _) ?_ ⟨rfl,Xp,rfl⟩ (fun i a h1 e=> ?_) (fun a e=> ?_)
 ·rfl
 ·obtain⟨h2,s,t⟩:=rng h1 (by omega)
  obtain⟨e,g,f⟩:=e;obtain⟨c,v⟩:=a;simp only at e g f;rw[drop_cons h1,qW]at e;obtain⟨o,B⟩:=hk i h1;have h:(p.links.getD i default).fr.toNat<c.length:=by omega
  have j:=u _ (getD_mem h1);obtain⟨⟨D,E⟩,G,K⟩:=g _ h;have m:=akl (show(p.links.getD i default).fr.toNat<=6 by omega);rw[show(60:Int) ^ 6=46656000000 by decide]at m;have apt:=j;simp only[Pr.ok,aT,inR,U,decide_eq_true_eq,ge_iff_le]at apt;have w:=Z (show(c.getD (p.links.getD i default).fr.toNat default).n<=46656000000 by omega) apt.1.2 (by omega) (by omega);have y:=Z (show(c.getD (p.links.getD i default).fr.toNat default).d<=46656000000 by omega) apt.2.2 (by omega) (by omega);have z:=an (show 0<=(c.getD (p.links.getD i default).fr.toNat default).n by omega) (show 0<=(p.links.getD i default).pr.a by omega);have A:=an (show 0<=(c.getD (p.links.getD i default).fr.toNat default).d by omega) (show 0<=(p.links.getD i default).pr.b by omega);have q:cm .i64 ((c.getD (p.links.getD i default).fr.toNat default).n*(p.links.getD i default).pr.a)=(c.getD (p.links.getD i default).fr.toNat default).n*(p.links.getD i default).pr.a:=aF (by omega);have r:cm .i64 ((c.getD (p.links.getD i default).fr.toNat default).d*(p.links.getD i default).pr.b)=(c.getD (p.links.getD i default).fr.toNat default).d*(p.links.getD i default).pr.b:=aF (by omega);have k:c.length<=1073741823:=by omega
  simp only[h2,h1,s,t,o,h,getD_map,nI,bW,S,Q,vJ,DV.strip,Ll,forall_eq,bM,dB,q,r,RN,F,H,I,J,N,O];refine⟨by simp,k,?_⟩;refine jv 3 1 (c++ [mulR (c.getD (p.links.getD i default).fr.toNat default) (p.links.getD i default).pr],v+1) h1 ?_ ⟨e,Qx g (by rintro rfl;simp at f) ⟨o,h⟩ j,by simp[f]⟩ (by simp) (by simp) rfl rfl;simp only[aw,aR,bk,bW,mulR]
  rfl
 ·obtain⟨e,g,f⟩:=e
  rw[ao,qW]at e;simp only[am,bI,X,eP,gI,dB,RN,F,H,I,J,N,O];simp[datum,cu,fA,Mem.row,uo,e]
structure Chg where
 link:Int
 pr:Pr
 deriving DecidableEq,Inhabited
def Chg.dv (c:Chg):DV:= .agg [dI c.link,dI c.pr.a,dI c.pr.b]
def sW {c:Chg}:c.dv= .agg [dI c.link,dI c.pr.a,dI c.pr.b]:=by rw[Chg.dv]
def Pc.changed (p:Pc)(c:Chg):Pc:={p with links:=p.links.set c.link.toNat ⟨(p.links.getD c.link.toNat default).fr,c.pr⟩}
def WA (xs:List DV)(hf:∀y∈xs,y.fits 3=true)(hl:xs.length<=1000000)(a:xs≠[]):Pure C 202 [.slice false xs] (.tsl 0 0 0) [⟨3,xs,0,1⟩]:=by
 refine sD mixed rfl xB ?_;simp only[mg,aK,RN,F,H,I,J,N,O];refine⟨fun _=> ?_,fun b=>absurd b a⟩;exact⟨hf,a,by simp,by omega,Aw (k:=1) (A:=⟨3,xs,0,1⟩) rfl rfl (ab _) rfl⟩
def qU {n k ver i off sz:Nat}{xs:List DV}{v:PV}{K:Mem->Prop}(h:ar[k]?=some (some ⟨sz,xs,ver,1⟩))(hv:iZ v.cells=some ds)(a:0<n)(hl:ds.length=n)(h1:ds.all DV.one=true)(ho:off+n<=(xs.getD i default).cells.length)
  (b:K ⟨bs,fz,ar.set k (some ⟨sz,xs.set i (setCells (xs.getD i default) off ds),ver,1⟩)⟩):jE n (.jL k ver i off) v ⟨bs,fz,ar⟩ K:=by
 simp only[jE,Mem.row,h,if_true,hv];exact⟨trivial,a,hl,h1,ho,b⟩
def Wy (p:Pc)(c:Chg)(hl:p.links.length<=1000)(a:0<=c.link)(h1:c.link.toNat<p.links.length):Pure C 247 [p.dv,c.dv] (.d (p.changed c).dv) []:=by
 refine bU (aG mixed rfl QY ?_);have b:p.links.map Lk.dv≠[]:=by intro h;simp at h;rw[h]at h1;simp at h1
 simp only[EU,yg,dZ,sW,RN,F,H,I,J,N,O];refine yH rfl rfl (WA _ (afl _) (by rw[Q];omega) b) (by simp) ?_;simp only[PV.shift,kC,bM,dB,aM,a,h1,Q,RN,F,H,I,J,N,O];refine qU rfl rfl (by decide) rfl rfl (by rw[getD_map h1,nI];exact bh 3) ?_;simp only[getD_map h1,nI,setCells,bI,X,eP,gI,dB,RN,F,H,I,J,N,O];simp only[datum,cu,fA,Mem.row,dZ,Pc.changed,List.map_set,nI];simp
end Go.Tel
namespace Go.Tel
open Go.Am
def xC {α:Type}(l:List α):Nat:=bif l.isEmpty then 0 else 1
def alg {α:Type}{l:List α}{x:α}:xC (l++ [x])=1:=by cases l<;>rfl
def Ip {α:Type}{l:List α}:xC l≠2:=by cases l<;>simp[xC]
def Ei (l:List Fr):Prop:=∀f∈l,(1<=f.n/\f.n<=777600000)/\1<=f.d/\f.d<=777600000
def UQ (a b:Fr)(c:(1<=a.n/\a.n<=777600000)/\1<=a.d/\a.d<=777600000)(hb:(0<=b.n/\b.n<=777600000)/\1<=b.d/\b.d<=777600000):Pure C 291 [a.dv,b.dv] (.d (.bool (Fa a b))) []:=by
 have g:=Z c.1.2 hb.2.2 (by omega) (by omega);have h:=an (show 0<=a.n by omega) (show 0<=b.d by omega);have i:=Z hb.1.2 c.2.2 (by omega) (by omega);have j:=an (show 0<=b.n by omega) (show 0<=a.d by omega);have e:cm .i64 (a.n*b.d)=a.n*b.d:=aF (by omega);have f:cm .i64 (b.n*a.d)=b.n*a.d:=aF (by omega);refine ah mixed rfl LY ?_;simp only[Au,aJ,bW,e,f,Fa,RN,F,H,I,J,N,O]
def Ej {ls:List Lk}(h:linked ls)(e:∀l∈ls,l.pr.ok=true)(hl:ls.length<=5):Ei (fP ls):=by
 obtain⟨g,j⟩:=uq h e;intro f c;obtain⟨i,b,rfl⟩:=List.mem_iff_getElem.1 c;have d:(fP ls).getD i default=(fP ls)[i]:=by simp[V,b]
 have:=g i b;rw[d]at this;have a:=akl (show i<=5 by omega);rw[show(60:Int) ^ 5=777600000 by decide]at a;omega
def uK (a b:List Fr):List Int->Nat->List Int
 | [],_=>[]
 |h::c,i=>(if Fa (a.getD h.toNat default) (b.getD h.toNat default)then[]else[(i:Int)])++uK a b c (i+1)
def NK (a b:List Fr):∀(hs:List Int) (i:Nat),(uK a b hs i).length<=hs.length
 | [],_=>bh _
 |h::hs,i=>by
  have:=NK a b hs (i+1);simp only[uK,av,aL]
  split<;>simp<;>omega
def Pc.rF (p q:Pc):List Int:=uK (fP p.links) (fP q.links) p.hands 0
def U6 (p q:Pc)(hh:p.hands.length<=1000)(u:Ei (fP p.links))(h:Ei (fP q.links))(t:∀n∈p.hands,1<=n/\n.toNat<(fP p.links).length/\n.toNat<(fP q.links).length):
  SC C 270 ([uo p,uo q].map .d) bY (fun v M=>KR M v 1 ((p.rF q).map ay) (xC (p.rF q))) (fun _ _=>False):=by
 refine aG mixed rfl Gj ?_;simp only[wW,aJ,uo,Q,aM,RN,F,H,I,J,N,O];refine aH p.hands.length (fun i (a:List Int×Nat)=>⟨[(2, .d (.aW [sF (p.links.map Lk.dv),sF (p.hands.map ay),sF ((fP p.links).map Fr.dv)])),(3, .d (.aW [sF (q.links.map Lk.dv),sF (q.hands.map ay),sF ((fP q.links).map Fr.dv)])),(5, .tsl 1 a.2 0),(10, .d (sF (p.hands.map ay))),(11,pI p.hands.length),(12,pI i)],
   ⟨[some [.d (sF (p.links.map Lk.dv)), .d (sF (p.hands.map ay)), .d (sF ((fP p.links).map Fr.dv))],some [.d (sF (q.links.map Lk.dv)), .d (sF (q.hands.map ay)), .d (sF ((fP q.links).map Fr.dv))]],[1,0],[some ⟨1,[],0,0⟩,some ⟨1,a.1.map ay,a.2,xC a.1⟩]⟩⟩)
  (fun i a=>p.rF q=a.1++uK (fP p.links) (fP q.links) (p.hands.drop i) i/\a.1.length<=i) 0 ([],0) (ab _) rfl ⟨rfl,bh _⟩ (fun i a h1 b=> ?_) (fun a b=> ?_)
 ·obtain⟨h2,s,l⟩:=rng h1 (by omega)
  obtain⟨b,e⟩:=b;obtain⟨c,v⟩:=a;simp only at b e;rw[drop_cons h1,uK]at b;obtain⟨w,r,g⟩:=t _ (getD_mem h1);have k:0<=p.hands.getD i default:=by omega
  have o:=UQ _ _ (u _ (getD_mem r)) ⟨⟨by have:=h _ (getD_mem g);omega,(h _ (getD_mem g)).1.2⟩,(h _ (getD_mem g)).2⟩;simp only[bW]at o;simp only[h2,h1,s,k,r,g,getD_map,aI,bW,S,Q,RN,F,H,I,J,N,O];refine ak rfl rfl o ?_;cases m:Fa ((fP p.links).getD (p.hands.getD i default).toNat default) ((fP q.links).getD (p.hands.getD i default).toNat default)
  ·have f:c.length<=1073741823:=by omega
   have j:¬xC c=2:=Ip;simp only[iC,DV.strip,fits_int,forall_eq,l,Q,j,RN,F,H,I,J,N,O];refine⟨by simp,f,?_⟩;rw[m]at b;refine iQ (c++ [(i:Int)],v+1) h1 ?_ ⟨by simpa using b,by simp;omega⟩ (by simp) (by simp) rfl rfl;simp[alg,ay]
  ·simp only[l,RN,F,H,I,J,N,O]
   rw[m]at b;exact iQ (c,v) h1 rfl ⟨by simpa using b,by simp only;omega⟩ (by simp) (by simp) rfl rfl
 ·obtain⟨b,e⟩:=b
  rw[ao,uK,List.append_nil]at b;simp only[am,RN,F,H,I,J,N,O];exact⟨1,a.2,rfl,by rw[b];rfl⟩
def Pc.FN (p:Pc)(c:Chg):Bool:=p.ok&&inR c.link 0 (p.links.length - 1)&&c.pr.ok&& !decide (c.pr=(p.links.getD c.link.toNat default).pr)
def afv {v x:Pr}:((v.a==x.a)&&(v.b==x.b))=decide (v=x):=by
 cases v;cases x;simp only[Pr.mk.injEq,Bool.decide_and];rfl
variable{p:Pc}{c:Chg}
def Dj (d:p.Good)(hc:c.pr.ok=true):(p.changed c).links.length=p.links.length/\linked (p.changed c).links/\(∀l∈(p.changed c).links,l.pr.ok=true):=by
 refine⟨by simp[Pc.changed],fun i a=> ?_,fun l e=> ?_⟩
 ·simp only[Pc.changed,ca]at a
  have:=d.lk i a
  by_cases b:c.link.toNat=i
  ·subst b
   simpa[Pc.changed,V,a]using this
  ·simpa[Pc.changed,V,bz,b]using this
 ·rcases br e with h|h
  ·exact d.pr l h
  ·rw[h];exact hc
def ab5 (a:p.Good)(hc:c.pr.ok=true):Ei (fP p.links)/\Ei (fP (p.changed c).links)/\∀n∈p.hands,1<=n/\n.toNat<(fP p.links).length/\n.toNat<(fP (p.changed c).links).length:=by
 obtain⟨f,b,d⟩:=Dj a hc;refine⟨Ej a.lk a.pr a.l2,Ej b d (by have:=a.l2;omega),fun n e=> ?_⟩;have h1:=(uq a.lk a.pr).2;have h2:=(uq b d).2;have:=a.hd n e;omega
def aip (p:Pc)(c:Chg)(h:p.FN c=true):Pure C 208 [p.dv,c.dv] (.tup [.tsl 0 0 0,pI 0]) [⟨1,(p.rF (p.changed c)).map ay,0,xC (p.rF (p.changed c))⟩]:=by
 simp only[Pc.FN,U,bt,decide_eq_false_iff_not]at h;obtain⟨⟨⟨q,r⟩,l⟩,m⟩:=h;have d:=Pc.good q;have j:0<=c.link/\c.link<=(p.links.length:Int) - 1:=by simpa[inR]using r
 have f:c.link.toNat<p.links.length:=by have:=d.l1;omega
 have v:=d.l2;have u:=d.h2;have o:=vP p (by omega) (by omega);obtain⟨y,w,x⟩:=Dj d l;obtain⟨r1,r2,r3⟩:=ab5 d l;have i:=Zk c.pr;have s:=Zq p (by omega) d.lk d.pr;have k:=Zq (p.changed c) (by omega) w x;have e:=Wy p c (by omega) j.1 f;have n:=Qv (U6 p (p.changed c) (by omega) r1 r2 r3);generalize p.rF (p.changed c)=sp at n⊢;have t:cm .i64 ((p.links.length:Int) - 1)=(p.links.length:Int) - 1:=aF (by omega);have g:((c.pr.a==(p.links.getD c.link.toNat default).pr.a)&&(c.pr.b==(p.links.getD c.link.toNat default).pr.b))=false:=by rw[afv];simpa using m
 refine sD mixed rfl Oy ?_;simp only[dZ,sW,jJ,uo,Pc.changed]at o i s k e n⊢;simp only[CO,dY,RN,F,H,I,J,N,O];refine ak rfl rfl o ?_;simp only[q,Q,t,RN,F,H,I,J,N,O];refine ak rfl rfl (Hl _ _ _) ?_;simp only[r,RN,F,H,I,J,N,O];refine ak rfl rfl i ?_;simp only[l,j.1,f,getD_map,nI,Q,SH,g,ae6,RN,F,H,I,J,N,O];refine ak rfl rfl s ?_;(try simp only[RN,F,H,I,J,N,O]);refine ak rfl rfl e ?_;(try simp only[RN,F,H,I,J,N,O]);refine ak rfl rfl k ?_;(try simp only[RN,F,H,I,J,N,O]);refine yH rfl rfl n (by simp[Ip]) ?_;simp only[PV.shift,kC,RN,F,H,I,J,N,O];refine⟨[(0,0)],⟨by simp[Ai],by simp⟩,?_,?_⟩
 ·simp[iZ,aco,ren,akG,UY,Mem.row,Nu]
 ·simp[mkRow]
def dS:List Int->Int->Int
 | [],p=>p
 |x::xs,p=>dS xs (p+x)
def afK {B:Int}:∀(l:List Int) (p:Int),(∀x∈l,0<=x/\x<=B)->0<=p->0<=dS l p/\dS l p<=p+l.length*B
 | [],p,_,h=>by simp[dS];omega
 |x::l,p,h,e=>by
  obtain⟨a,b⟩:=h x (by simp);obtain⟨d,f⟩:=afK l (p+x) (fun y c=>h y (by simp[c])) (by omega);refine⟨d,?_⟩;have:((l.length+1:Nat):Int)*B=l.length*B+B:=by rw[Int.natCast_add,az];simp
  rw[aL,this];simp only[dS];omega
def sG:∀(l:List Int) (p:Int),(∀x∈l,0<=x)->p<=dS l p
 | [],_,_=>bc _
 |x::l,p,h=>by
  have:=sG l (p+x) fun y a=>h y (by simp[a])
  have:=h x (by simp);simp only[dS];omega
def apX (l:List Int)(hl:l.length<=1000000)(hx:∀x∈l,0<=x)(hb:dS l 0<=9223372036854775807):Pure C 96 [sF (l.map ay)] (pI (dS l 0)) []:=by
 refine ah mixed rfl abm ?_;simp only[Qr,aK,Q,RN,F,H,I,J,N,O];refine aH l.length (fun i (p:Int)=>⟨[(3,pI p),(6, .d (sF (l.map ay))),(7,pI l.length),(8,pI i)],⟨[],[],[]⟩⟩)
  (fun i p=>0<=p/\dS l 0=dS (l.drop i) p) 0 0 (ab _) rfl ⟨by omega,rfl⟩ (fun i p h1 a=> ?_) (fun p a=> ?_)
 ·obtain⟨h2,c,e⟩:=rng h1 hl
  obtain⟨f,a⟩:=a;rw[drop_cons h1,dS]at a;have g:=hx _ (getD_mem h1);have j:=sG (l.drop (i+1)) (p+l.getD i default) (fun y h=>hx y (bS h));have b:cm .i64 (p+l.getD i default)=p+l.getD i default:=aF (by omega);simp only[h2,c,h1,e,aI,getD_map,S,Q,b,RN,F,H,I,J,N,O];exact iQ (p+l.getD i default) h1 rfl ⟨by omega,a⟩ (by simp) (by simp) rfl rfl
 ·obtain⟨f,a⟩:=a
  rw[ao,dS]at a;simp only[am,a,RN,F,H,I,J,N,O]
def upI (a b:Int):Int:=(a+b - 1).tdiv b
def aob (a b:Int)(h:0<=a/\a<=1000000000000000000)(hb:1<=b/\b<=1000000000000000000):Pure C 95 [dI a,dI b] (pI (upI a b)) []:=by
 have c:cm .i64 (a+b)=a+b:=aF (by omega);have d:cm .i64 (a+b - 1)=a+b - 1:=aF (by omega);have g:=nC (a+b - 1) b;have e:cm .i64 ((a+b - 1).tdiv b)=(a+b - 1).tdiv b:=aF (by omega);have f:b≠0:=by omega
 refine ah mixed rfl aeh ?_;simp only[UF,aJ,c,d,e,f,upI,RN,F,H,I,J,N,O]
def ZC (n:Int):Pure C 187 [dI n] (.d (.bool (!aT n))) []:=by
 refine ah mixed rfl Kq ?_;simp only[zl,aK,RN,F,H,I,J,N,O];refine ak rfl rfl (Vq n) ?_;(try simp only[RN,F,H,I,J,N,O])
def qY (l:List Int):Bool:=decide ((l.length:Int)<=8)&&l.all aT
def acD (l:List Int)(hl:l.length<=1000000):Pure C 94 [sF (l.map ay)] (.d (.bool (qY l))) []:=by
 refine ah mixed rfl Oz ?_;simp only[CP,aK,Q,RN,F,H,I,J,N,O]
 repeat' first
  |(refine ak rfl rfl (sQ l _ [] (fun n=> !aT n) hl (by kernel_rfl) (fun n _=>ZC n)) ?_;try simp only[Q,RN,F,H,I,J,N,O])
  |(refine bF (by rfl) (fun a=> ?_) (fun a=> ?_)<;>simp only[a,Q,RN,F,H,I,J,N,O])
  |(refine bJ (by rfl) (fun a=> ?_) (fun a=> ?_)<;>simp only[a,Q,RN,F,H,I,J,N,O])
 all_goals(first|(rw[Dh])|skip)
 all_goals(first|(simp only[qY, *,BSN];done)|(simp_all[qY];done)|(simp_all[qY];omega))
end Go.Tel
namespace Go.Tel
open Go.Am
structure Bil where
 dJ:List Int
 gq:Int
 hours:Int
 lC:Int
 pct:Int
 adv:Int
 deriving DecidableEq,Inhabited
def Bil.dv (b:Bil):DV:= .agg [sF (b.dJ.map ay),dI b.gq,dI b.hours,dI b.lC,dI b.pct,dI b.adv]
variable{b:Bil}
def JI:b.dv= .agg [sF (b.dJ.map ay),dI b.gq,dI b.hours,dI b.lC,dI b.pct,dI b.adv]:=by rw[Bil.dv]
def Bil.ok (b:Bil):Bool:=qY b.dJ&&inR b.gq 0 1000&&inR b.hours 0 40&&inR b.lC 0 100&&inR b.pct 0 100&&inR b.adv 0 1000000
def Bil.cost (b:Bil):Int:=upI (dS (b.dJ.map fun n=>n*n) 0*b.gq) 100+b.hours*b.lC
def Bil.price (b:Bil):Int:=b.cost+upI (b.cost*b.pct) 100
def Bil.VB (b:Bil):Int×Int×Int:=if b.ok then(b.price,b.price - b.adv,0)else(0,0,2)
def Bil.facts (h:b.ok=true):(b.dJ.length<=8/\∀n∈b.dJ,4<=n/\n<=60)/\(0<=b.gq/\b.gq<=1000)/\(0<=b.hours/\b.hours<=40)/\(0<=b.lC/\b.lC<=100)/\(0<=b.pct/\b.pct<=100)/\0<=b.adv/\b.adv<=1000000:=by
 simp only[Bil.ok,qY,aT,inR,U,decide_eq_true_eq,aE,ge_iff_le]at h;obtain⟨⟨⟨⟨⟨⟨h1,h2⟩,a⟩,c⟩,d⟩,e⟩,f⟩:=h;exact⟨⟨by omega,h2⟩,a,c,d,e,f⟩
def aeU {a:Int}(b:0<=a):0<=upI a 100/\upI a 100<=a+99:=by
 have:upI a 100=(a+99) / 100:=by
  rw[upI,Int.tdiv_eq_ediv_of_nonneg (by omega)]
  congr 1
  omega
 rw[this];omega
def Bil.bds (h:b.ok=true):(0<=dS (b.dJ.map fun n=>n*n) 0/\dS (b.dJ.map fun n=>n*n) 0<=28800)/\(0<=dS (b.dJ.map fun n=>n*n) 0*b.gq/\dS (b.dJ.map fun n=>n*n) 0*b.gq<=28800000)/\
  (0<=b.hours*b.lC/\b.hours*b.lC<=4000)/\(0<=b.cost/\b.cost<=28805000)/\0<=b.cost*b.pct/\b.cost*b.pct<=2880500000:=by
 obtain⟨⟨h1,h2⟩,d,e,f,g,m⟩:=Bil.facts h;have s:=afK (B:=3600) (b.dJ.map fun n=>n*n) 0 (fun x k=>by
  obtain⟨n,j,rfl⟩:=ap.1 k;obtain⟨a,c⟩:=h2 n j;have:=Z c c (by omega) (by omega);have:=an (show 0<=n by omega) (show 0<=n by omega);omega) (bc 0)
 rw[Q]at s;have o:=Z (show dS (b.dJ.map fun n=>n*n) 0<=28800 by omega) d.2 (by omega) (by omega);have l:=an s.1 d.1;have p:=Z e.2 f.2 (by omega) (by omega);have q:=an e.1 f.1;have u:=aeU l;have i:0<=b.cost/\b.cost<=28805000:=by simp only[Bil.cost];omega
 have r:=Z i.2 g.2 (by omega) (by omega);have t:=an i.1 g.1;omega
def aij (b:Bil)(hl:b.dJ.length<=1000000):Pure C 29 [b.dv] (.d (.tup [dI b.VB.1,dI b.VB.2.1,dI b.VB.2.2])) []:=by
 refine ah mixed rfl YZ ?_;simp only[Nh,afD,JI,RN,F,H,I,J,N,O]
 repeat' first
  |(refine ak rfl rfl (acD b.dJ hl) ?_;try simp only[RN,F,H,I,J,N,O])
  |(refine ak rfl rfl (Hl _ _ _) ?_;try simp only[RN,F,H,I,J,N,O])
  |(refine bF (by rfl) (fun g=> ?_) (fun g=> ?_)<;>simp only[g,RN,F,H,I,J,N,O])
  |(refine bJ (by rfl) (fun g=> ?_) (fun g=> ?_)<;>simp only[g,RN,F,H,I,J,N,O])
 any_goals (simp_all[Bil.VB,Bil.ok];done)
 have f:b.ok=true:=by simp_all[Bil.ok]
 obtain⟨⟨h1,h2⟩,z,A,B,D,E⟩:=Bil.facts f;obtain⟨L,w,M,P,y⟩:=Bil.bds f;simp only[Q,RN,F,H,I,J,N,O];refine aH b.dJ.length (fun i (v:Nat)=>⟨[(1, .d (.aW [sF (b.dJ.map ay),dI b.gq,dI b.hours,dI b.lC,dI b.pct,dI b.adv])),(5, .tsl 0 v 0),(45, .d (sF (b.dJ.map ay))),(46,pI b.dJ.length),(47,pI i)],
   ⟨[some [.d (sF (b.dJ.map ay)),pI b.gq,pI b.hours,pI b.lC,pI b.pct,pI b.adv]],[0],[some ⟨1,((b.dJ.take i).map fun n=>n*n).map ay,v,0⟩]⟩⟩)
  (fun i v=>True) 0 0 (ab _) rfl trivial (fun i v e _=> ?_) (fun v _=> ?_)
 ·obtain⟨t,u,k6⟩:=rng e (by omega)
  obtain⟨t1,t2⟩:=h2 _ (getD_mem e);have G:=Z t2 t2 (by omega) (by omega);have K:=an (show 0<=b.dJ.getD i default by omega) (show 0<=b.dJ.getD i default by omega);have h:cm .i64 (b.dJ.getD i default*b.dJ.getD i default)=b.dJ.getD i default*b.dJ.getD i default:=aF (by omega);have j:(b.dJ.take i).length<=1073741823:=by simp;omega
  simp only[t,u,e,k6,aI,getD_map,S,Q,h,iC,DV.strip,fits_int,forall_eq,RN,F,H,I,J,N,O]
  (repeat(refine aD (by first|assumption|rfl|(simp;done)|(simp;omega)) ?_))
  refine jv 1 1 (v+1) e ?_ trivial (by simp) (by simp) rfl rfl;rw[aS e];simp[ay]
 ·rw[b9]
  have r:=apX (b.dJ.map fun n=>n*n) (by simp;omega) (fun x s=>by
   obtain⟨n,q,rfl⟩:=ap.1 s;obtain⟨a,c⟩:=h2 n q;exact an (by omega) (by omega)) (by omega)
  have R:=aeU w.1;have T:=aeU y.1;have h:cm .i64 (dS (b.dJ.map fun n=>n*n) 0*b.gq)=dS (b.dJ.map fun n=>n*n) 0*b.gq:=aF (by omega);have k:cm .i64 (b.hours*b.lC)=b.hours*b.lC:=aF (by omega);have l:cm .i64 (upI (dS (b.dJ.map fun n=>n*n) 0*b.gq) 100+b.hours*b.lC)=b.cost:=by rw[aF (by omega)];rfl
  have m:cm .i64 (b.cost*b.pct)=b.cost*b.pct:=aF (by omega);have o:cm .i64 (b.cost+upI (b.cost*b.pct) 100)=b.price:=by rw[aF (by omega)];rfl
  have p:cm .i64 (b.price - b.adv)=b.price - b.adv:=aF (by simp only[Bil.price];omega);simp only[am,RN,F,H,I,J,N,O];refine Rl rfl r rfl ?_;simp only[h,RN,F,H,I,J,N,O];refine ak rfl rfl (aob _ _ (by omega) (by omega)) ?_;simp only[k,l,RN,F,H,I,J,N,O];simp only[m,RN,F,H,I,J,N,O];refine ak rfl rfl (aob _ _ (by omega) (by omega)) ?_;simp only[o,p,RN,F,H,I,J,N,O];simp[Bil.VB,f]
def mW (p:Pc):List Fr:=⟨1,1⟩::(b8 p.links.length).map fun i=>dP (bg p.links (i+1))
def uG (p:Pc):List Bool:=true::(b8 p.links.length).map fun i=>((bg p.links (i+1)).length:Int).tmod 2==0
def alG (p:Pc)(k:p.ok=true):Pure C 26 [p.dv] (.d (.tup [sF ((mW p).map Fr.dv),sF ((uG p).map .bool),dI 0])) []:=by
 have c:=Pc.good k;have s:=c.l2;have r:=c.h2;have j:=vP p (by omega) (by omega);have l:=fun(a:Nat) n q=>OZ p c.lk (by omega) a q n
 refine bU (aG mixed rfl VZ ?_);simp only[dZ]at j l;simp only[Jm,afD,dZ,RN,F,H,I,J,N,O];refine ak rfl rfl j ?_;simp only[k,H8 (x:= .agg [dI 1,dI 1]) (sz:=2) rfl (by decide),H8 (x:= .bool true) (sz:=1) rfl (by decide),DV.strip,Q,RN,F,H,I,J,N,O];refine aH p.links.length (fun i (v:Nat)=>⟨[(1, .d (.aW [sF (p.links.map Lk.dv),sF (p.hands.map ay)])),(5, .tsl 2 v 0),(6, .tsl 3 v 0),(19,pI p.links.length),(20,pI i)],
   ⟨[some [.d (sF (p.links.map Lk.dv)), .d (sF (p.hands.map ay))]],[0],[some ⟨2,[],0,0⟩,some ⟨1,[],0,0⟩,some ⟨2,((mW p).take (i+1)).map Fr.dv,v,1⟩,some ⟨1,((uG p).take (i+1)).map .bool,v,1⟩]⟩⟩)
  (fun i v=>True) 0 0 (ab _) rfl trivial (fun i v h1 _=> ?_) (fun v _=> ?_)
 ·obtain⟨h2,o,h⟩:=rng h1 (by omega)
  have b:=c.ari (a:=i+1) (by omega) (by omega);obtain⟨_,t2,t⟩:=BA b;have e:=alL (bg p.links (i+1)) (by omega);have m:KO (bg p.links (i+1))=(dP (bg p.links (i+1)),((bg p.links (i+1)).length:Int).tmod 2==0,0):=by simp[KO,b]
  rw[m]at e;simp only[bW]at e;have f:(mW p).take (i+1+1)=(mW p).take (i+1)++ [dP (bg p.links (i+1))]:=by
   rw[aS (by simp[mW];omega)];congr 1;simp[mW,V,h1]
  have g:(uG p).take (i+1+1)=(uG p).take (i+1)++ [((bg p.links (i+1)).length:Int).tmod 2==0]:=by
   rw[aS (by simp[uG];omega)];congr 1;simp[uG,V,h1]
  have l1:((mW p).take (i+1)).length<=1073741823:=by simp[mW];omega
  have l2:((uG p).take (i+1)).length<=1073741823:=by simp[uG];omega
  simp only[h2,o,h1,h,RN,F,H,I,J,N,O];refine ak rfl rfl (l (i+1) (by omega) (by omega)) ?_;refine ak rfl rfl e ?_;simp only[iC,DV.strip,Ll,forall_eq,h,Q,JE,RN,F,H,I,J,N,O]
  (repeat(refine aD (by first|assumption|rfl|(simp;done)|(simp;omega)) ?_))
  refine jv 1 4 (v+1) h1 ?_ trivial (by simp) (by simp) rfl rfl;rw[f,g];simp[bW]
 ·have r1:(mW p).take (p.links.length+1)=mW p:=bL (by simp[mW])
  have r2:(uG p).take (p.links.length+1)=uG p:=bL (by simp[uG]);rw[r1,r2];simp only[am,bI,dR,RN,F,H,I,J,N,O];simp[datum,cu,fA,Mem.row]
end Go.Tel
namespace Go.Tel
open Go.Am
def OY (p q:Pc)(hand:Int)(to:Fr):Bool:=
 Fa ((fP q.links).getD (p.hands.getD hand.toNat default).toNat default) to&&(match p.rF q with| []=>true| [x]=>x==hand| _=>false)
def anK (p q:Pc)(hand:Int)(to:Fr)(s:0<=hand)(h1:hand.toNat<p.hands.length)(hh:p.hands.length<=1000)(t:Ei (fP p.links))(k:Ei (fP q.links))(j:∀n∈p.hands,1<=n/\n.toNat<(fP p.links).length/\n.toNat<(fP q.links).length)(o:to.ok=true):
  Pure C 246 [uo p,uo q,dI hand,to.dv] (.d (.bool (OY p q hand to))) []:=by
 have m:=bU (SC.mono (U6 p q hh t k j) fun _ _ h=>h.datum);obtain⟨u,v,r⟩:=j _ (getD_mem h1);have g:0<=p.hands.getD hand.toNat default:=by omega
 have b:(0<=to.n/\to.n<=50000)/\1<=to.d/\to.d<=50000:=by
  simp only[Fr.ok,inR,U,decide_eq_true_eq,ge_iff_le]at o;exact o
 have a:=UQ _ to (k _ (getD_mem r)) ⟨⟨b.1.1,by omega⟩,b.2.1,by omega⟩;refine ah mixed rfl IK ?_;simp only[uo,bW]at m a⊢;simp only[xW,Bz,s,h1,g,r,getD_map,aI,bW,Q,RN,F,H,I,J,N,O];refine ak rfl rfl a ?_;cases i:Fa ((fP q.links).getD (p.hands.getD hand.toNat default).toNat default) to
 ·(try simp only[RN,F,H,I,J,N,O])
  simp only[OY,i,ax]
 ·(try simp only[RN,F,H,I,J,N,O])
  refine ak rfl rfl m ?_;have f:OY p q hand to=(match p.rF q with| []=>true| [x]=>x==hand| _=>false):=by simp only[OY,i,b0]
  rw[f];generalize p.rF q=sp;simp only[Q,RN,F,H,I,J,N,O]
  match sp with
  | []=>simp only[bd,BEq.rfl,RN,F,H,I,J,N,O]
  | [x]=>
   have c:((((0+1:Nat):Int))==0)=false:=by decide
   have e:((((0+1:Nat):Int))==1)=true:=by decide
   simp only[c,e,aI,bc,Int.toNat_zero,RN,F,H,I,J,N,O]
  |x::y::l=>
   have c:((((l.length+1+1:Nat):Int))==0)=false:=by simp;omega
   have e:((((l.length+1+1:Nat):Int))==1)=false:=by simp;omega
   simp only[c,e,Q,RN,F,H,I,J,N,O]
variable{K:St->Prop}{ts:List Nat}{env:List (Nat×PV)}
def Tf {bs:List (Option (List PV))}{fz:List Nat}{ar:List (Option Arr)}{k ver skip t sz st:Nat}{xs:List DV}(h:ar[k]?=some (some ⟨sz,xs,ver,st⟩)):
  QN (.tsl k ver skip) t ts K env ⟨bs,fz,ar⟩=tH ts K ⟨(t, .d (sF (xs.drop skip)))::env,⟨bs,fz,ar.set k (some ⟨sz,xs,ver,2⟩)⟩⟩:=by
 have b:=(W.1 h).1;have e:ar.modify k (Option.map fun A=>{A with st:=2})=ar.set k (some ⟨sz,xs,ver,2⟩):=by
  apply List.ext_getElem?;intro i;rw[List.getElem?_modify,bz]
  by_cases a:k=i
  ·subst a;simp only[h,b,if_true,Option.map_some];rfl
  ·simp[a]
 simp[QN,datum,Mem.row,h,Mem.frz,lF,lG,JM,e]
def aoX {t:Nat}{x:DV}{M:Mem}:QN (.d x) t ts K env M=tH ts K ⟨(t, .d x)::env,M⟩:=by
 have:=FV (M:=M) (ds:=[x]);simp only[aR,bk]at this;simp only[QN,datum,this]
def uN {nb na:Nat}{α:Type}{a:α}{E:α->St}{P:α->Prop}{μ:α->Nat}{m:Mem}(b:α)(f:μ b<μ a)(hs:(⟨env,m⟩:St)=E b)(e:P b):
  ∃d c,d<μ a/\Weak nb na ⟨env,m⟩ c/\whJ E P μ d c:=⟨μ b,_,f, .inl rfl,b,rfl,hs,e⟩
def ZK (p:Pc)(link:Nat)(a:Int):Nat->Int->List Chg
 |0,_=>[]
 |k+1,b=>(if(⟨a,b⟩:Pr)=(p.links.getD link default).pr then[]else[⟨link,⟨a,b⟩⟩])++ZK p link a k (b+1)
def Ws (p:Pc)(least:Int)(w:Nat)(link:Nat):Nat->Int->List Chg
 |0,_=>[]
 |k+1,a=>ZK p link a w least++Ws p least w link k (a+1)
def O9 (p:Pc)(least:Int)(w:Nat):Nat->Nat->List Chg
 |0,_=>[]
 |k+1,link=>Ws p least w link w least++O9 p least w k (link+1)
def jI (p:Pc)(hand:Int)(to:Fr)(least:Int)(w:Nat):Nat->Pc->Nat->Option (List Chg)
 |0,a,_=>if OY p a hand to then some []else none
 |k+1,a,fr=>(O9 p least w (p.links.length - fr) fr).findSome? fun c=>(jI p hand to least w k (a.changed c) (c.link.toNat+1)).map (c::·)
def xg {p:Pc}{hand:Int}{to:Fr}{least:Int}{w:Nat}:∀{k:Nat} {now:Pc} {fr:Nat} {l:List Chg},jI p hand to least w k now fr=some l->l.length=k
 |0,now,fr,l,h=>by
  simp only[jI]at h
  split at h
  ·cases h;rfl
  ·cases h
 |k+1,now,fr,l,h=>by
  simp only[jI]at h;obtain⟨c,_,h⟩:=List.exists_of_findSome?_eq_some h;rw[Option.map_eq_some_iff]at h;obtain⟨m,h1,rfl⟩:=h;rw[aL,xg h1]
def aiP (xs:List Chg):∀y∈xs.map Chg.dv,y.fits 3=true:=by
 intro y a;obtain⟨n,_,rfl⟩:=ap.1 a;rfl
def Ia (r:Option (List Chg)):DV:= .tup [sF ((r.getD []).map Chg.dv), .bool r.isSome]
def Pc.changes (p:Pc)(least most hand:Int)(f:Fr):List Chg×Int:=
 if p.ok&&(aT least&&aT most&&decide (least<=most))&&decide (most - least<=10)&&inR hand 0 (p.hands.length - 1)&&f.ok then
  (match jI p hand f least (most - least+1).toNat 0 p 0 with
  |some l=>(l,0)
  |none=>match jI p hand f least (most - least+1).toNat 1 p 0 with
   |some l=>(l,0)
   |none=>match jI p hand f least (most - least+1).toNat 2 p 0 with
    |some l=>(l,0)
    |none=>([],5))
 else([],2)
structure Now (p now:Pc):Prop where
 len:now.links.length=p.links.length
 lk:linked now.links
 pr:∀l∈now.links,l.pr.ok=true
def Now.changed {p now:Pc}(h:Now p now){c:Chg}(hc:c.pr.ok=true):Now p (now.changed c):=by
 refine⟨by simp[Pc.changed,h.len],fun i a=> ?_,fun l d=> ?_⟩
 ·simp only[Pc.changed,ca]at a
  have:=h.lk i a
  by_cases b:c.link.toNat=i
  ·subst b
   simpa[Pc.changed,V,a]using this
  ·simpa[Pc.changed,V,bz,b]using this
 ·rcases br d with h'|h'
  ·exact h.pr l h'
  ·rw[h'];exact hc
section
variable {p:Pc}{hand:Int}{to:Fr}{least most:Int}{bs:Nat}
def XQ (p:Pc):DV:= .aW [sF (p.links.map Lk.dv),sF (p.hands.map ay),sF ((fP p.links).map Fr.dv)]
def ae8 (p:Pc):DV:= .aW [sF (p.links.map Lk.dv),sF (p.hands.map ay)]
def searchFn (p:Pc)(hand:Int)(to:Fr)(least most:Int)(bs:Nat):PV:=
 .func (.func 245) [] [.d (XQ p), .d (.aW [dI hand]), .d (.aW [dI to.n,dI to.d]), .d (ae8 p), .d (.aW [dI least]), .d (.aW [dI most]), .ptr bs 0]
def SearchM (p:Pc)(hand:Int)(to:Fr)(least most:Int)(bs:Nat)(M M':Mem):Prop:=
 M'.boxes[bs]?=some (some [searchFn p hand to least most bs])/\M.boxes.length<=M'.boxes.length/\M.aB.length<=M'.aB.length/\∀i∈M'.fz,i<M'.boxes.length
def ahR (u:p.Good)(h0:0<=hand)(h1:hand.toNat<p.hands.length)(a8:to.ok=true)(ac:aT least=true)(an:aT most=true)(bj:least<=most):
  ∀(k:Nat) (now:Pc) (fr:Nat) (M:Mem),k<=2->Now p now->fr<=p.links.length->M.boxes[bs]?=some (some [searchFn p hand to least most bs])->(∀i∈M.fz,i<M.boxes.length)->
   SC C 245 [.d now.dv,pI fr,pI k, .d (XQ p), .d (.aW [dI hand]), .d (.aW [dI to.n,dI to.d]), .d (ae8 p), .d (.aW [dI least]), .d (.aW [dI most]), .ptr bs 0] M
    (fun v M'=>v= .d (Ia (jI p hand to least (most - least+1).toNat k now fr))/\SearchM p hand to least most bs M M') (fun _ _=>False):=by
 intro k
 induction k with
 |zero=>
  intro now fr ⟨bx,fz,ar⟩ hk j Y e r;simp only at e r;refine aG mixed rfl Ap ?_;have aL:=u.l2;have hw:=Zq now (by have:=j.len;omega) j.lk j.pr;have ap:=anK p now hand to h0 h1 (by have:=u.h2;omega) (Ej u.lk u.pr u.l2) (Ej j.lk j.pr (by have:=j.len;omega)) (fun n hn=>by
   have a1:=(uq u.lk u.pr).2;have a2:=(uq j.lk j.pr).2;have L:=u.hd n hn;have:=j.len;omega) a8
  simp only[dZ,uo,bW]at hw ap⊢;simp only[uf,aeC,zZ,Rk,bd,BEq.rfl,XQ,ae8,RN,F,H,I,J,N,O];refine ak rfl rfl hw ?_;refine ak rfl rfl ap ?_;simp only[Tf (k:=(ar++ [some (⟨3,[],0,0⟩:Arr)]).length) zZ,b5,RN,F,H,I,J,N,O];have B:(bx++ [some [PV.d (sF (now.links.map Lk.dv)), .d (sF (now.hands.map ay))]])[bs]?=some (some [searchFn p hand to least most bs]):=by rw[ae (W.1 e).1];exact e
  refine⟨?_,B,by simp,by simp,fun i hi=> ?_⟩
  rotate_left
  ·rcases a7.1 hi with rfl|hi
   ·simp
   ·have:=r i hi;simp;omega
  cases hc:OY p now hand to<;>simp only[jI,hc]<;>rfl
 |succ k ih=>
  intro now fr ⟨bx,fz,ar⟩ hk j Y e r;simp only at e r;refine aG mixed rfl Ap ?_;have aL:=u.l2;have a9:4<=least/\least<=60:=by simp only[aT,inR,U,decide_eq_true_eq,ge_iff_le]at ac;exact ac
  have asW:4<=most/\most<=60:=by simp only[aT,inR,U,decide_eq_true_eq,ge_iff_le]at an;exact an
  obtain⟨w,hw⟩:∃w:Nat,most - least+1=w:=⟨(most - least+1).toNat,by omega⟩
  obtain⟨R,hR⟩:∃R,R=jI p hand to least (most - least+1).toNat (k+1) now fr:=⟨_,rfl⟩
  obtain⟨f,hf⟩:∃f:Chg->Option (List Chg),f=fun c=>(jI p hand to least (most - least+1).toNat k (now.changed c) (c.link.toNat+1)).map (c::·):=⟨_,rfl⟩
  have av:R=(O9 p least w (p.links.length - fr) fr).findSome? f:=by rw[hR,hf];simp only[jI,hw,S]
  rw[<-hR];have a4:(((k+1:Nat):Int)==0)=false:=by simp;omega
  have ek:cm .i64 (((k+1:Nat):Int) - 1)=(k:Int):=by rw[aF (by omega)];omega
  have B:(bx++ [some [PV.d (sF (now.links.map Lk.dv)), .d (sF (now.hands.map ay))]])[bs]?=some (some [searchFn p hand to least most bs]):=by rw[ae (W.1 e).1];exact e
  simp only[dZ];simp only[uf,aeC,zZ,Rk,a4,XQ,ae8,Tf (k:=ar.length) zZ,b5,RN,F,H,I,J,N,O];refine jo (fun(q:Nat×Mem)=>⟨[(2, .d (dI ((k+1:Nat):Int))),(6, .d (.aW [sF (p.links.map Lk.dv),sF (p.hands.map ay)])),(7, .d (.aW [dI least])),(8, .d (.aW [dI most])),(9, .ptr bs 0),(10, .d (.aW [sF (now.links.map Lk.dv),sF (now.hands.map ay)])),(15,pI q.1)],q.2⟩)
   (fun q=>q.1<=p.links.length/\SearchM p hand to least most bs ⟨bx,fz,ar⟩ q.2/\R=(O9 p least w (p.links.length - q.1) q.1).findSome? f) (fun q=>p.links.length - q.1) (fr,_) rfl ⟨Y,⟨B,by simp,by simp,fun i hi=>by
    rcases a7.1 hi with rfl|hi
    ·simp
    ·have:=r i hi;simp;omega⟩,av⟩ ?_
  rintro⟨link,M1⟩ ⟨g1,K,P⟩;simp only at g1 K P⊢
  by_cases aR:link<p.links.length
  case neg=>
   have s:¬((link:Int)<(p.links.length:Int)):=by omega
   have:p.links.length - link=0:=by omega
   rw[this,O9,List.findSome?_nil]at P;simp only[s,Q,RN,F,H,I,J,N,O];obtain⟨b1,f1,a1⟩:=M1;simp only[Tf (k:=a1.length) zZ,b5,RN,F,H,I,J,N,O];exact⟨by rw[P];rfl,K.1,K.2.1,cj K.2.2.1 (by simp),K.2.2.2⟩
  have s:((link:Int)<(p.links.length:Int)):=by omega
  obtain⟨n1,a0⟩:∃n1,p.links.length - link=n1+1:=⟨p.links.length - link - 1,by omega⟩
  have ao:p.links.length - (link+1)=n1:=by omega
  rw[a0,O9]at P;simp only[s,Q,RN,F,H,I,J,N,O];refine jo (fun(q:Nat×Mem)=>⟨[(2, .d (dI ((k+1:Nat):Int))),(6, .d (.aW [sF (p.links.map Lk.dv),sF (p.hands.map ay)])),(7, .d (.aW [dI least])),(8, .d (.aW [dI most])),(9, .ptr bs 0),(10, .d (.aW [sF (now.links.map Lk.dv),sF (now.hands.map ay)])),(15,pI link),(16, .d (dI (least+(w - q.1:Nat))))],q.2⟩)
   (fun q=>q.1<=w/\SearchM p hand to least most bs ⟨bx,fz,ar⟩ q.2/\R=(Ws p least w link q.1 (least+(w - q.1:Nat))++O9 p least w n1 (link+1)).findSome? f) (fun q=>q.1) (w,M1) (by simp) ⟨bh _,K,by simpa using P⟩ ?_
  rintro⟨m,M2⟩ ⟨k1,k2,A⟩;simp only at k1 k2 A⊢
  match m,k1,A with
  |0,k1,A=>
   have E:¬(least+((w - 0:Nat):Int)<=most):=by omega
   have h6:cm .i64 ((link:Int)+1)=((link+1:Nat):Int):=by rw[aF (by omega)];omega
   simp only[E,h6,RN,F,H,I,J,N,O];refine uN (μ:=fun q:Nat×Mem=>p.links.length - q.1) (a:=(link,M1)) (link+1,M2) (by simp only;omega) rfl ⟨by simp only;omega,k2,?_⟩;simp only[ao]
   simpa[Ws]using A
  |m+1,k1,A=>
   obtain⟨a,ha⟩:∃a:Int,a=least+((w - (m+1):Nat):Int):=⟨_,rfl⟩
   have ai:a<=most:=by omega
   have aq:cm .i64 (a+1)=least+((w - m:Nat):Int):=by rw[aF (by omega)];omega
   have aw:a+1=least+((w - m:Nat):Int):=by omega
   simp only[<-ha]at A⊢;rw[Ws,aw,bu]at A;simp only[ai,RN,F,H,I,J,N,O];refine jo (fun(q:Nat×Mem)=>⟨[(2, .d (dI ((k+1:Nat):Int))),(6, .d (.aW [sF (p.links.map Lk.dv),sF (p.hands.map ay)])),(7, .d (.aW [dI least])),(8, .d (.aW [dI most])),(9, .ptr bs 0),(10, .d (.aW [sF (now.links.map Lk.dv),sF (now.hands.map ay)])),(15,pI link),(16,pI a),(17, .d (dI (least+(w - q.1:Nat))))],q.2⟩)
    (fun q=>q.1<=w/\SearchM p hand to least most bs ⟨bx,fz,ar⟩ q.2/\R=(ZK p link a q.1 (least+(w - q.1:Nat))++(Ws p least w link m (least+(w - m:Nat))++O9 p least w n1 (link+1))).findSome? f) (fun q=>q.1) (w,M2) (by simp) ⟨bh _,k2,by simpa using A⟩ ?_
   rintro⟨v,⟨t,G,L⟩⟩ ⟨q1,q2,g⟩;simp only at q1 q2 g⊢
   match v,q1,g with
   |0,q1,g=>
    have E:¬(least+((w - 0:Nat):Int)<=most):=by omega
    simp only[E,aq,RN,F,H,I,J,N,O];exact uN (μ:=fun q:Nat×Mem=>q.1) (a:=(m+1,M2)) (m,⟨t,G,L⟩) (by simp only;omega) rfl ⟨by simp only;omega,q2,by simpa[ZK]using g⟩
   |v+1,q1,g=>
    obtain⟨b,hb⟩:∃b:Int,b=least+((w - (v+1):Nat):Int):=⟨_,rfl⟩
    have am:b<=most:=by omega
    have aqS:cm .i64 (b+1)=least+((w - v:Nat):Int):=by rw[aF (by omega)];omega
    have ax:b+1=least+((w - v:Nat):Int):=by omega
    simp only[<-hb]at g⊢;rw[ZK,ax]at g;have ab:(0:Int)<=(link:Int):=by omega
    obtain⟨s1,s2,s3,s4⟩:=q2;simp only at s1 s2 s3 s4;have a5:¬t.length∈G:=fun h=>by have:=s4 _ h;omega
    have V:=(W.1 s1).1;simp only[am,zZ,Rk,a5,ab,aR,getD_map,S,Q,nI,SH,ae6,RN,F,H,I,J,N,O];cases he:((a==(p.links.getD link default).pr.a)&&(b==(p.links.getD link default).pr.b))
    ·(try simp only[RN,F,H,I,J,N,O])
     have D:¬(⟨a,b⟩:Pr)=(p.links.getD link default).pr:=by have:=afv (v:=⟨a,b⟩) (x:=(p.links.getD link default).pr);rw[this]at he;simpa using he
     rw[if_neg D,List.singleton_append,List.cons_append,List.findSome?_cons]at g;have T:∀x,(t++ [x])[bs]?=some (some [searchFn p hand to least most bs]):=fun x=>by rw[ae V];exact s1
     have aqs:∀x:Option (List PV),bs<(t++ [x]).length:=fun x=>by simp;omega
     have aM:cm .i64 ((link:Int)+1)=((link+1:Nat):Int):=by rw[aF (by omega)];omega
     have bc:=j.len;have aD:(⟨a,b⟩:Pr).ok=true:=by simp[Pr.ok,aT,inR];omega
     have X:=Wy now ⟨link,⟨a,b⟩⟩ (by omega) ab (by simp;omega);simp only[dZ,sW]at X;simp only[T,aqs,searchFn,ek,aM,RN,F,H,I,J,N,O];refine ak rfl rfl X ?_;have z:(jI p hand to least (most - least+1).toNat k (now.changed ⟨link,⟨a,b⟩⟩) (link+1)).map ((⟨link,⟨a,b⟩⟩:Chg)::·)=f ⟨link,⟨a,b⟩⟩:=by rw[hf];rfl
     obtain⟨o,ams⟩:∃o,o=t++ [some [PV.d (dI (link:Int)),PV.d (dI a),PV.d (dI b)]]:=⟨_,rfl⟩
     have az:o[bs]?=some (some [searchFn p hand to least most bs]):=by rw[ams];exact T _
     have aE:∀i∈t.length::G,i<o.length:=fun i hi=>by
      rw[ams]
      rcases a7.1 hi with rfl|hi
      ·simp
      ·have:=s4 i hi;simp;omega
     have Z:=ih (now.changed ⟨link,⟨a,b⟩⟩) (link+1) ⟨o,t.length::G,L⟩ (by omega) (j.changed aD) (by omega) az aE;simp only[dZ]at Z;rw[<-ams];refine Le (args:=[_,_,_]) (by kernel_rfl) (fs:=[]) ?_;refine SC.mono Z ?_;rintro v1 ⟨b6,f6,a6⟩ ⟨rfl,r1,r2,r3,r4⟩;simp only at r1 r2 r3 r4;have be:t.length+1<=b6.length:=by rw[ams]at r2;simpa using r2
     cases hS:jI p hand to least (most - least+1).toNat k (now.changed ⟨link,⟨a,b⟩⟩) (link+1)with
     |none=>
      rw[hS]at z;rw[<-z]at g;simp only[Ia,bp,aqS,RN,F,H,I,J,N,O];exact uN (μ:=fun q:Nat×Mem=>q.1) (a:=(v+1,⟨t,G,L⟩)) (v,⟨b6,f6,a6⟩) (by simp only;omega) rfl ⟨by simp only;omega,⟨r1,by simp only;omega,by simp only;omega,r4⟩,g⟩
     |some l=>
      rw[hS]at z;rw[<-z]at g;simp only[Ia,bq,bE,vJ,DV.strip,JE,RN,F,H,I,J,N,O];have bi:=xg hS;refine⟨aiP l,(fun h=>by cases h),(fun y hy=>by subst hy;rfl),by rw[Q];omega,?_⟩;simp only[Tf (k:=a6.length) zZ,aoX,bR,RN,F,H,I,J,N,O];exact⟨by rw[g];simp[Ia,sW],r1,by simp only;omega,by simp;omega,r4⟩
    ·have D:(⟨a,b⟩:Pr)=(p.links.getD link default).pr:=by have:=afv (v:=⟨a,b⟩) (x:=(p.links.getD link default).pr);rw[this]at he;simpa using he
     rw[if_pos D,ce]at g;simp only[aqS,RN,F,H,I,J,N,O];refine uN (μ:=fun q:Nat×Mem=>q.1) (a:=(v+1,⟨t,G,L⟩)) (v,_) (by simp only;omega) rfl ⟨by simp only;omega,⟨?_,by simp;omega,s3,fun i hi=> ?_⟩,g⟩
     ·rw[ae V];exact s1
     ·rcases a7.1 hi with rfl|hi
      ·simp
      ·have:=s4 i hi;simp;omega
end
def ale (a b:Int):Pure C 242 [dI a,dI b] (.d (.bool (aT a&&aT b&&decide (a<=b)))) []:=by
 refine ah mixed rfl Q5 ?_;simp only[EX,aJ,RN,F,H,I,J,N,O]
 repeat' first
  |(refine ak rfl rfl (Vq _) ?_;try simp only[RN,F,H,I,J,N,O])
  |(refine bF (by rfl) (fun c=> ?_) (fun c=> ?_)<;>simp only[c,RN,F,H,I,J,N,O])
  |(refine bJ (by rfl) (fun c=> ?_) (fun c=> ?_)<;>simp only[c,RN,F,H,I,J,N,O])
 all_goals(first|(simp only[aT, *,BSN];done)|(simp_all[aT];done)|(simp_all[aT];omega))
def afT (p:Pc)(least most hand:Int)(f:Fr)(hl:p.links.length<=1000)(hh:p.hands.length<=1000)(hb: -1000000<=most/\most<=1000000)(Z: -1000000<=least/\least<=1000000):
  Pure C 169 [p.dv,dI least,dI most,dI hand,f.dv] (.d (.tup [.slice ((p.changes least most hand f).2 !=0) ((p.changes least most hand f).1.map Chg.dv),dI (p.changes least most hand f).2])) []:=by
 have A:=vP p hl hh;have o:=anF f;have k:cm .i64 ((p.hands.length:Int) - 1)=(p.hands.length:Int) - 1:=aF (by omega);have m:cm .i64 (most - least)=most - least:=aF (by omega);refine ah mixed rfl QX ?_;simp only[dZ,bW]at A o⊢;simp only[ET,akM,RN,F,H,I,J,N,O]
 repeat' first
  |(refine ak rfl rfl (A) ?_;try simp only[k,m,Q,RN,F,H,I,J,N,O])
  |(refine ak rfl rfl (ale _ _) ?_;try simp only[k,m,Q,RN,F,H,I,J,N,O])
  |(refine ak rfl rfl (Hl _ _ _) ?_;try simp only[k,m,Q,RN,F,H,I,J,N,O])
  |(refine ak rfl rfl (o) ?_;try simp only[k,m,Q,RN,F,H,I,J,N,O])
  |(refine bF (by rfl) (fun n=> ?_) (fun n=> ?_)<;>simp only[n,k,m,Q,RN,F,H,I,J,N,O])
  |(refine bJ (by rfl) (fun n=> ?_) (fun n=> ?_)<;>simp only[n,k,m,Q,RN,F,H,I,J,N,O])
 all_goals first
  |(
   have x:p.changes least most hand f=([],2):=by
    rw[Pc.changes,if_neg];intro hh;simp only[U,decide_eq_true_eq]at hh;obtain⟨⟨⟨⟨r,⟨s,a⟩,q4⟩,q5⟩,q6⟩,q7⟩:=hh;have W:¬most<least:=by omega
    have Y:¬10<most - least:=by omega
    simp_all
    done
   rw[x]
   rfl)
  |skip
 have B:p.ok=true:=by simp_all
 have h2:(aT least&&aT most&&decide (least<=most))=true:=by simp_all
 have R:most - least<=10:=by simp_all
 have y:inR hand 0 ((p.hands.length:Int) - 1)=true:=by simp_all
 have z:f.ok=true:=by simp_all
 have g:=Pc.good B;have V:=g.l2;have e:aT least=true/\aT most=true/\least<=most:=by simpa[and_assoc]using h2
 have t:0<=hand/\hand<=(p.hands.length:Int) - 1:=by simpa[inR]using y
 have aqx:p.changes least most hand f=(match jI p hand f least (most - least+1).toNat 0 p 0 with
  |some l=>(l,0)
  |none=>match jI p hand f least (most - least+1).toNat 1 p 0 with
   |some l=>(l,0)
   |none=>match jI p hand f least (most - least+1).toNat 2 p 0 with
    |some l=>(l,0)
    |none=>([],5)):=by
  simp only[Pc.changes,B,h2,y,z,decide_eq_true R,bB,if_true]
 have D:=Zq p (by omega) g.lk g.pr;simp only[dZ,uo]at D;refine ak rfl rfl D ?_;simp only[lU,cells_func,abo,X,RN,F,H,I,J,N,O];have w:hand.toNat<p.hands.length:=by have:=g.h1;omega
 have T:Now p p:=⟨rfl,g.lk,g.pr⟩
 refine aH 3 (fun i (b:Mem)=>⟨[(5, .d (.aW [sF (p.links.map Lk.dv),sF (p.hands.map ay)])),(14, .ptr 7 0),(55,pI i)],b⟩)
  (fun i b=>b.boxes[7]?=some (some [searchFn p hand f least most 7])/\(∀j∈b.fz,j<b.boxes.length)/\∀j,j<i->jI p hand f least (most - least+1).toNat j p 0=none) 0 _ (by decide) rfl ⟨rfl,by simp,by simp⟩ (fun i b h1 h=> ?_) (fun b h=> ?_)
 ·obtain⟨K,M,E⟩:=b
  obtain⟨r,s,a⟩:=h;simp only at r s;have u:((i:Int)<3):=by omega
  have S:cm .i64 ((i:Int)+1)=((i+1:Nat):Int):=by rw[aF (by omega)];omega
  have q:=ahR (bs:=7) g t.1 w z e.1 e.2.1 e.2.2 i p 0 ⟨K,M,E⟩ (by omega) T (by omega) r s;simp only[dZ,bd]at q;simp only[u,r,searchFn,RN,F,H,I,J,N,O];refine Le (args:=[_,_,_]) (by kernel_rfl) (fs:=[]) ?_;refine SC.mono q ?_;rintro v1 ⟨L,P,G⟩ ⟨rfl,r1,r2,r3,r4⟩;simp only at r1 r2 r3 r4;cases c:jI p hand f least (most - least+1).toNat i p 0 with
  |none=>
   simp only[Ia,bp,S,RN,F,H,I,J,N,O];refine bn (len:=3) (i:=i) ⟨L,P,G⟩ h1 rfl ⟨r1,r4,fun j hj=> ?_⟩
   by_cases v:j=i
   ·rw[v];exact c
   ·exact a j (by omega)
  |some l=>
   simp only[Ia,bq,bE,RN,F,H,I,J,N,O];have:p.changes least most hand f=(l,0):=by
    rw[aqx]
    match i,h1,c,a with
    |0,_,c,_=>rw[c]
    |1,_,c,a=>rw[a 0 (by omega),c]
    |2,_,c,a=>rw[a 0 (by omega),a 1 (by omega),c]
   rw[this]
   rfl
 ·obtain⟨r,s,a⟩:=h
  simp only[am,Int.cast_ofNat_Int,RN,F,H,I,J,N,O];have:p.changes least most hand f=([],5):=by rw[aqx,a 0 (by omega),a 1 (by omega),a 2 (by omega)]
  rw[this]
  rfl
def PW:aA:=(sw (r0 [ba 2 0 0,ba 3 1 1,mi 4 0,mi 5 0] 2 [2,3] [2,3]) (sw (sr [lw 7 2 2,oa 8 (.aj 97) 7,oa 9 pN 8] 0 [2,3,9] (cd 9 (sr [mi 4 0,mi 5 2] 0 [4,5] .ret) .skip)) (sw (r0 [lw 10 2 2,on 11 (.build [z0,z0,z0] []) [],ob 12 (.aj 98) 10 11,al 6 0 [z0,zs,z0,z0,z0,zs,.map none],sk 7 6 12 0] 1 [3,6] [6]) (sw (sr [lw 13 7 6,lw 14 3 3,ob 15 (.aj 99) 13 14,oa 16 pN 15] 0 [3,6,16] (cd 16 (sr [mi 4 0,mi 5 2] 0 [4,5] .ret) .skip)) (sr [lw 17 7 6,lw 18 3 3,ob 19 (.aj 100) 17 18,mv 4 19,mi 5 0] 0 [4,5] .ret)))))
def aaU:aC C.P 30 2 PW dY=true:=by kernel_rfl
def Gu:aA:=(sw (r0 [ba 4 0 0,ba 5 1 1,mk 8 (.c (.slice true [])),mi 9 0] 2 [2,3,4,5] [4,5]) (sw (sr [lw 10 2 4,oa 11 (.aj 97) 10,oa 12 pN 11,mv 13 12,ow 14 (.load true 3) 5 13 0,ow 15 (.aj 101) 14 13 0,ow 16 pN 15 13 0,pt 17 13 16,mv 18 17,ow 19 .mov 2 18 0,ow 20 (.aj 102) 19 18 0,ow 21 pN 20 18 0,pt 22 18 21,mv 23 22,ow 24 .mov 3 23 0,ow 25 (.aj 103) 24 23 0,ow 26 pN 25 23 0,pt 27 23 26] 0 [2,3,4,5,27] (cd 27 (sr [mk 8 (.c (.slice true [])),mi 9 2] 0 [8,9] .ret) .skip)) (sr [lw 28 2 4,lw 29 3 5,ob 30 (.call 98) 28 29,mv 31 2,mv 32 3,on 33 (.call 104) [.t 30,.t 31,.t 32],mv 8 33,mi 9 0] 0 [8,9] .ret)))
def TS:aC C.P 31 4 Gu Y9=true:=by kernel_rfl
def yX:aA:=(sw (r0 [ba 1 0 0,mf 2 false] 1 [1] [1]) (sw (sr [fa 6 0 1,lo 7 6,on 8 (.aj 189) [.t 7,kI 0,kI 1000],oa 9 pN 8,mv 10 9,ow 11 (.fld 1) 1 10 0,lq 12 11 10,ow 13 .len 12 10 0,oF 14 (.aj 189) [.t 13,kI 1,kI 3] 10 0,ow 15 pN 14 10 0,pt 16 10 15] 0 [1,16] (cd 16 (sr [mf 2 false] 0 [2] .ret) .skip)) (sr [mi 3 1] 0 [1,3] (sw (sr [fa 17 1 1,lo 18 17,oa 19 .len 18,mi 20 0] 0 [3,18,19,20] (.block 0 (.loop (sr [ob 21 pL 20 19] 0 [3,18,19,20,21] (sw (cx 21 0) (sw (.block 1 (sr [ix 22 1 18 20,lo 23 22,mv 5 23] 0 [3,5,18,19,20] (sw (sr [mv 24 5,mv 25 3,oi 26 pA 25 1,on 27 (.aj 189) [.t 24,.t 26,kI 1000],oa 28 pN 27] 0 [5,18,19,20,28] (cd 28 (sr [mf 2 false] 0 [2] .ret) .skip)) (rg [mv 29 5,mv 3 29] 0 [3,18,19,20])))) (rg [oi 30 pA 20 1,mv 20 30] 0 [3,18,19,20]))))))) (sr [mf 2 true] 0 [2] .ret)))))
def JZ:aC C.P 97 1 yX aK=true:=by kernel_rfl
def Ea:aA:=(sw (r0 [ba 2 0 0,ba 3 1 1,al 4 2 [z0,zs,z0,z0,z0,zs,.map none]] 3 [2,3,4] [2,3]) (sr [lw 8 2 2,lw 9 3 3,on 10 (.mkMap 0) [],on 11 (.build [z0,zs,z0,z0,z0,zs,.map none] [(0,2),(2,3),(6,1)]) [.t 8,.t 9,.t 10],al 5 1 [z0,zs,z0,z0,z0,zs,.map none],sk 7 5 11 0] 2 [2,4,5] (sr [fa 12 0 2,lo 13 12,mv 6 13] 0 [4,5,6] (sw (sr [mi 14 0] 0 [4,5,6,14] (.block 0 (.loop (sr [oi 15 pL 14 4002] 0 [4,5,6,14,15] (sw (cx 15 0) (sw (.block 1 (sr [mv 16 14,mv 7 16] 0 [4,5,6,7,14] (sr [fa 17 5 5,lo 18 17,mv 19 6,oa 20 (.gu 1 [z0] [0]) 19,ob 21 (.app 1 false) 18 20,fa 22 5 5,sk 1 22 21 0] 0 [4,5,6,7,14] (rg [mv 23 6,lw 24 7 5,mv 25 7,ob 26 (.jd 190) 24 25,ob 27 pA 23 26,mv 6 27] 0 [4,5,6,14])))) (rg [oi 28 pA 14 1,mv 14 28] 0 [4,5,6,14]))))))) (sr [lw 29 7 5,sk 7 4 29 0] 0 [4] .ret)))))
def LV:aC C.P 98 2 Ea aeE=true:=by kernel_rfl
def uY:aA:=(sw (r0 [ba 2 0 0,ba 3 1 1,mf 4 false] 2 [2,3] [2,3]) (sw (r1 [fu 5 0 3 1,lv 6 5,oa 7 (.aj 103) 6,mv 8 7,ov 9 (.fld 1) 3 8 1,ov 10 (.load false 1) 9 8 1,ot 11 (.aj 189) [.t 10,kI 1,kI 12] 8 0,pf 12 8 11,mv 13 12,ov 14 (.fld 2) 3 13 1,ov 15 (.load false 1) 14 13 1,ov 16 (.load true 7) 2 13 1,ov 17 (.fld 0) 3 13 1,ov 18 (.load false 1) 17 13 1,obT 19 (.aj 192) 16 18 13 0,ov 20 (.aj 191) 19 13 0,ov 21 (.fld 1) 3 13 1,ov 22 (.load false 1) 21 13 1,ot 23 pU [.t 22,kI 1] 13 0,obT 24 (.aZ 1) 20 23 13 1,ov 25 (.load false 1) 24 13 1,ot 26 (.aj 189) [.t 15,kI 1,.t 25] 13 0,pf 27 13 26,mv 4 27] 0 [4] []) .ret))
def Fj:aC C.P 99 2 uY aJ=true:=by kernel_rfl
def yY:aA:=(sw (r0 [ba 2 0 0,ba 3 1 1,mi 4 0] 2 [2,3] [2,3]) (sw (r1 [fu 5 5 2 1,lv 6 5,fu 7 0 3 1,lv 8 7,ob1 9 (.aZ 1) 6 8 1,lv 10 9,ou 11 (.load true 7) 2 1,fu 12 0 3 1,lv 13 12,ob 14 (.aj 192) 11 13,oa 15 (.aj 191) 14,fu 16 1 3 1,lv 17 16,oi 18 pU 17 1,ob1 19 (.Eu 1 false true false) 15 18 1,oa 20 (.aj 193) 19,ob 21 pA 10 20,fu 22 2 3 1,lv 23 22,ob 24 pA 21 23,oi 25 pU 24 1,mv 4 25] 0 [4] []) .ret))
def J3:aC C.P 100 2 yY aJ=true:=by kernel_rfl
def Gv:aA:=(sw (r0 [ba 1 0 0,mf 2 false] 1 [1] [1]) (sr [fa 3 1 1,lo 4 3,on 5 (.aj 189) [.t 4,kI 1,kI 1000],mv 6 5,ov 7 (.fld 0) 1 6 0,ov 8 (.load false 1) 7 6 0,ov 9 (.fld 1) 1 6 0,ov 10 (.load false 1) 9 6 0,ot 11 pM [kI 29,.t 10] 6 0,ov 12 (.fld 1) 1 6 0,ov 13 (.load false 1) 12 6 0,ot 14 pM [kI 30,.t 13] 6 0,ot 15 (.aj 189) [.t 8,.t 11,.t 14] 6 0,pf 16 6 15,mv 17 16,ov 18 (.fld 2) 1 17 0,ov 19 (.load false 1) 18 17 0,ov 20 (.fld 0) 1 17 0,ov 21 (.load false 1) 20 17 0,ot 22 pU [.t 21,kI 1] 17 0,ot 23 (.aj 189) [.t 19,kI 0,.t 22] 17 0,pf 24 17 23,mv 2 24] 0 [2] .ret))
def TT:aC C.P 101 1 Gv aK=true:=by kernel_rfl
def Aq:aA:=(sr [mf 2 false] 0 [0] (sr [mv 3 0,oa 4 .len 3,oi 5 (.bin .leq) 4 6,mv 6 5,ov 7 .mov 0 6 0,ot 8 (.aj 194) [.t 7,.c (.func (.func 195) [] [])] 6 0,ov 9 pN 8 6 0,pf 10 6 9,mv 2 10] 0 [2] .ret))
def LU:aC C.P 102 1 Aq aK=true:=by kernel_rfl
def Gw:aA:=(sr [mf 2 false] 0 [0] (sr [mv 3 0,on 4 (.aj 189) [.t 3,kI 0,kI 4000],mv 2 4] 0 [2] .ret))
def TU:aC C.P 103 1 Gw aK=true:=by kernel_rfl
def uX:aA:=(sr [ba 3 0 0,ag 6 1] 1 [1,2,3] (sr [ag 7 1] 0 [1,2,3,7] (sw (sr [mv 12 1,oa 13 .len 12,mi 14 0] 0 [2,3,7,12,13,14] (.block 0 (.loop (sr [ob 15 pL 14 13] 0 [2,3,7,12,13,14,15] (sw (cx 15 0) (sw (.block 1 (sr [ix 16 4 12 14,lw 17 4 16,al 9 0 [.bool false,z0,z0,z0],sk 4 9 17 0] 1 [2,3,7,9,12,13,14] (sr [mi 10 (-1)] 0 [2,3,7,9,10,12,13,14] (sw (sr [mv 18 2,fa 19 1 9,lo 20 19,fa 21 2 9,lo 22 21,on 23 (.build [z0,z0,z0] [(0,1),(1,1),(2,1)]) [.t 18,.t 20,.t 22],al 11 0 [z0,z0,z0],sk 3 11 23 0] 1 [2,3,7,9,10,11,12,13,14] (sw (r0 [fa 24 0 9,lo 25 24] 0 [2,3,7,9,10,11,12,13,14,25] [9]) (cd 25 (r1 [ou 26 (.load true 7) 3 2,mv 27 2,ob 28 (.KU 196) 26 27,fu 29 3 9 1,lv 30 29,ob 31 pA 28 30,mv 10 31] 0 [2,3,7,10,12,13,14] []) (sr [lw 32 7 3,lw 33 3 11,ob 34 (.jd 99) 32 33] 0 [2,3,7,10,11,12,13,14,34] (cd 34 (rg [lw 35 7 3,lw 36 3 11,ob 37 (.jd 100) 35 36,mv 10 37] 0 [2,3,7,10,12,13,14]) .skip))))) (rg [mv 38 7,mv 39 10,oa 40 (.gu 1 [z0] [0]) 39,ob 41 (.app 1 false) 38 40,mv 7 41] 0 [2,3,7,12,13,14]))))) (rg [oi 42 pA 14 1,mv 14 42] 0 [2,3,7,12,13,14]))))))) (sr [mv 43 7,mv 6 43] 0 [6] .ret))))
def Fh:aC C.P 104 3 uX jr=true:=by kernel_rfl
def L9:aA:=(sw (r0 [ba 2 0 0,ba 3 1 1,al 4 2 [z0,z0,z0],mi 5 0] 3 [2,3,4] [2,3]) (sw (sr [lw 8 2 2,oa 9 (.aj 97) 8,oa 10 pN 9,mv 11 10,lq 12 3 11,ow 13 (.aj 248) 12 11 0,ow 14 pN 13 11 0,pt 15 11 14] 0 [2,3,4,15] (cd 15 (sr [on 16 (.build [z0,z0,z0] []) [],sk 3 4 16 0,mi 5 2] 0 [4,5] .ret) .skip)) (sr [al 6 0 [z0,z0,z0]] 1 [2,3,4,6] (sw (sr [on 17 (.mkF (.func 250) 0) [.t 2,.t 3,.t 6],oa 18 (.call 249) 17,mv 7 18] 0 [4,6,7] (sr [mv 19 7,oi 20 pQ 19 0] 0 [4,6,7,20] (cd 20 (sr [on 21 (.build [z0,z0,z0] []) [],mv 22 7,sk 3 4 21 0,mv 5 22] 0 [4,5] .ret) .skip))) (sr [lw 23 3 6,sk 3 4 23 0,mi 5 0] 0 [4,5] .ret)))))
def Yx:aC C.P 175 2 L9 OU=true:=by kernel_rfl
def Us:aA:=(sr [mf 6 false] 0 [0,1,2] (sr [mv 7 0,mv 8 1,ob 9 (.bin .geq) 7 8,mv 10 9,ov 11 .mov 0 10 0,ov 12 .mov 2 10 0,obT 13 (.bin .leq) 11 12 10 0,pf 14 10 13,mv 6 14] 0 [6] .ret))
def ad6:aC C.P 189 3 Us jr=true:=by kernel_rfl
def xM:aA:=(sw (r0 [ba 2 0 0,mi 4 0] 1 [1,2] [2]) (sr [lw 5 7 2,mv 6 1,ob 7 (.aj 192) 5 6,oa 8 (.aj 191) 7,oa 9 (.aj 193) 8,mv 4 9] 0 [4] .ret))
def IE:aC C.P 190 2 xM aJ=true:=by kernel_rfl
def Gx:aA:=(sr [mk 2 (.c (.slice true []))] 0 [0] (sr [on 4 (.nN 1 [z0,z0,z0,z0,z0,z0,z0,z0,z0,z0,z0,z0] [0,1,2,3,4,5,6,7,8,9,10,11]) [kI 31,kI 28,kI 31,kI 30,kI 31,kI 30,kI 31,kI 31,kI 30,kI 31,kI 30,kI 31],mv 3 4] 0 [0,3] (sw (sr [mv 5 0] 0 [3,5] (cd 5 (rg [mv 6 3,oi 7 (.aZ 1) 6 1,os (.store 1) [.t 7,kI 29] 0] 0 [3]) .skip)) (sr [mv 8 3,mv 2 8] 0 [2] .ret))))
def TV:aC C.P 191 1 Gx aK=true:=by kernel_rfl
def xO:aA:=(sw (r0 [ba 2 0 0,mf 4 false] 1 [1,2] [2]) (sr [mf 5 false] 0 [1,2,5] (sw (sr [fa 8 0 2,fa 9 1 8,lo 10 9,oa 11 .len 10,mi 12 0] 0 [1,5,10,11,12] (.block 0 (.loop (sr [ob 13 pL 12 11] 0 [1,5,10,11,12,13] (sw (cx 13 0) (sw (.block 1 (sr [ix 14 1 10 12,lo 15 14,mv 7 15] 0 [1,5,7,10,11,12] (sr [mv 16 1,mv 17 7,ob 18 (.bin .rem) 16 17,oi 19 pE 18 0] 0 [1,5,10,11,12,19] (cd 19 (rg [mv 20 5,oa 21 pN 20,mv 5 21] 0 [1,5,10,11,12]) .skip)))) (rg [oi 22 pA 12 1,mv 12 22] 0 [1,5,10,11,12]))))))) (sr [mv 23 5,mv 4 23] 0 [4] .ret))))
def IG:aC C.P 192 2 xO aJ=true:=by kernel_rfl
def PY:aA:=(sr [mi 2 0] 0 [0] (sr [mi 3 0] 0 [0,3] (sw (sr [mv 6 0,oa 7 .len 6,mi 8 0] 0 [3,6,7,8] (.block 0 (.loop (sr [ob 9 pL 8 7] 0 [3,6,7,8,9] (sw (cx 9 0) (sw (.block 1 (sr [ix 10 1 6 8,lo 11 10,mv 5 11] 0 [3,5,6,7,8] (rg [mv 12 3,mv 13 5,ob 14 pA 12 13,mv 3 14] 0 [3,6,7,8]))) (rg [oi 15 pA 8 1,mv 8 15] 0 [3,6,7,8]))))))) (sr [mv 16 3,mv 2 16] 0 [2] .ret))))
def aaW:aC C.P 193 1 PY aK=true:=by kernel_rfl
def xJ:aA:=(sw (r0 [ba 1 0 0,mf 2 false] 1 [1] [1]) (sw (sr [fa 3 0 1,lo 4 3] 0 [1,4] (cd 4 (sr [fa 5 1 1,lo 6 5,oi 7 pQ 6 0,mv 8 7,ow 9 (.fld 2) 1 8 0,lq 10 9 8,oF 11 pQ [.t 10,kI 0] 8 0,pt 12 8 11,mv 13 12,ow 14 (.fld 3) 1 13 0,lq 15 14 13,oF 16 (.aj 189) [.t 15,kI (-60),kI 60] 13 0,ow 17 pN 16 13 0,pt 18 13 17,mv 2 18] 0 [2] .ret) .skip)) (sr [fa 19 3 1,lo 20 19,oi 21 pQ 20 0,mv 22 21,ow 23 (.fld 1) 1 22 0,lq 24 23 22,oF 25 (.aj 189) [.t 24,kI 1,kI 12] 22 0,ow 26 pN 25 22 0,pt 27 22 26,mv 28 27,ow 29 (.fld 2) 1 28 0,lq 30 29 28,oF 31 (.aj 189) [.t 30,kI 1,kI 31] 28 0,ow 32 pN 31 28 0,pt 33 28 32,mv 2 33] 0 [2] .ret)))
def IB:aC C.P 195 1 xJ aK=true:=by kernel_rfl
def uZ:aA:=(sr [ba 2 0 0,mi 4 0] 1 [1,2] (sr [mv 9 1,on 10 (.build [z0,z0,z0] [(0,1),(1,1),(2,1)]) [.t 9,kI 3,kI 21],al 5 0 [z0,z0,z0],sk 3 5 10 0] 1 [2,5] (sw (sr [fa 12 6 2,lo 13 12,lw 14 3 5,ob 15 (.Iz true [1,1,1] (.int .i64 0)) 13 14,mv 11 15,xa 16 0 11,xa 17 1 11,mv 6 16,mv 7 17] 0 [2,5,6,7] (sr [mv 18 7] 0 [2,5,6,18] (cd 18 (sr [mv 19 6,mv 4 19] 0 [4] .ret) .skip))) (sr [lw 20 7 2,lw 21 3 5,ob 22 (.jd 100) 20 21,mv 8 22] 0 [2,5,8] (sw (.block 0 (.loop (sw (sr [fa 23 2 2,lw 24 3 23,mv 25 8,ob 26 (.aj 266) 24 25,oi 27 pQ 26 13] 0 [2,5,8,27] (cx 27 0)) (.block 1 (rg [mv 28 8,oi 29 pA 28 1,mv 8 29] 0 [2,5,8]))))) (sr [mv 30 8,mv 31 8,oa 32 (.aj 267) 31,on 33 pU [kI 7,.t 32],ob 34 pA 30 33,mv 8 34] 0 [2,5,8] (sr [fa 35 6 2,lo 36 35,lw 37 3 5,mv 38 8,os (.adZ [1,1,1]) [.t 36,.t 37,.t 38] 0] 0 [8] (sr [mv 39 8,mv 4 39] 0 [4] .ret))))))))
def Fp:aC C.P 196 2 uZ aJ=true:=by kernel_rfl
def Ja:aA:=(sr [mf 2 false] 0 [0] (sr [mv 3 0,on 4 (.aj 189) [.t 3,kI 0,kI 2000000],mv 2 4] 0 [2] .ret))
def VN:aC C.P 248 1 Ja aK=true:=by kernel_rfl
def Gt:aA:=(r1 [ou 3 (.load true 2) 0 1,on 4 (.build [z0,z0,z0] []) [],ob 5 (.aj 98) 3 4,lv 6 1,ob 7 (.aj 251) 5 6,sk 3 2 7 0] 0 [] [])
def TR:aC C.P 250 3 Gt jq=true:=by kernel_rfl
def xK:aA:=(sw (r0 [ba 2 0 0,al 4 1 [z0,z0,z0]] 2 [1,2,4] [2]) (sr [fa 11 5 2,lo 12 11,mv 13 1,ob 14 (.aj 293) 12 13,mv 10 14,xa 15 0 10,xa 16 1 10,mv 5 15,mv 6 16] 0 [1,2,4,5,6] (sw (sr [mv 17 6,oa 18 pN 17] 0 [1,2,4,5,18] (cd 18 (rg [mv 19 5,oi 20 pU 19 1,mv 5 20] 0 [1,2,4,5]) .skip)) (sw (sr [mv 21 5,oa 22 (.aj 103) 21,oa 23 pN 22] 0 [1,2,4,5,23] (cd 23 (rg [mv 24 1,oa 25 (.build [z0] [(0,1)]) 24,oa 26 (.mkI T.N8) 25,os .panic [.t 26] 0] 0 [1,2,4,5]) .skip)) (sr [mv 27 1,fa 28 5 2,lo 29 28,mv 30 5,ix 31 1 29 30,lo 32 31,ob 33 pU 27 32,mv 7 33] 0 [1,2,4,5,7] (sw (sr [lw 34 7 2,mv 35 5,ob 36 (.aj 192) 34 35,oa 37 (.aj 191) 36,oa 38 .len 37,mi 39 0] 0 [1,4,5,7,37,38,39] (.block 0 (.loop (sr [ob 40 pL 39 38] 0 [1,4,5,7,37,38,39,40] (sw (cx 40 0) (sw (.block 1 (sr [mv 41 39,ix 42 1 37 39,lo 43 42,mv 8 41,mv 9 43] 0 [1,4,5,7,8,9,37,38,39] (sw (sr [mv 44 7,mv 45 9,ob 46 pL 44 45] 0 [1,4,5,7,8,9,37,38,39,46] (cd 46 (sr [mv 47 5,mv 48 8,oi 49 pA 48 1,mv 50 7,oi 51 pA 50 1,on 52 (.build [z0,z0,z0] [(0,1),(1,1),(2,1)]) [.t 47,.t 49,.t 51],sk 3 4 52 0] 0 [4] .ret) .skip)) (rg [mv 53 7,mv 54 9,ob 55 pU 53 54,mv 7 55] 0 [1,4,5,7,37,38,39])))) (rg [oi 56 pA 39 1,mv 39 56] 0 [1,4,5,7,37,38,39]))))))) (rg [mv 57 1,oa 58 (.build [z0] [(0,1)]) 57,oa 59 (.mkI T.N8) 58,os .panic [.t 59] 0] 0 [4])))))))
def IC:aC C.P 251 2 xK akO=true:=by kernel_rfl
def PX:aA:=(sw (r0 [ba 2 0 0,mi 4 0] 1 [1,2] [2]) (sr [mv 6 1,oi 7 pA 6 1,fa 8 1 2,lo 9 8,ob 10 pM 7 9,oi 11 pU 10 1,fa 12 2 2,lo 13 12,ob 14 pU 11 13,fa 15 0 2,lo 16 15,ob 17 (.aj 298) 14 16,mv 5 17] 0 [1,2,5] (sr [mv 18 1,mv 19 5,fa 20 0 2,lo 21 20,ob 22 pM 19 21,fa 23 2 2,lo 24 23,ob 25 pA 22 24,fa 26 1 2,lo 27 26,ob 28 (.aj 298) 25 27,ob 29 pU 18 28,mv 4 29] 0 [4] .ret)))
def aaV:aC C.P 266 2 PX aJ=true:=by kernel_rfl
def EO:aA:=(sr [mi 2 0] 0 [0] (sr [mv 3 0,oi 4 pA 3 4,oi 5 (.bin .rem) 4 7,mv 2 5] 0 [2] .ret))
def QT:aC C.P 267 1 EO aK=true:=by kernel_rfl
def Mc:aA:=(sr [mi 4 0] 0 [0,1] (sr [mv 6 0,mv 7 1,ob 8 (.bin .quo) 6 7,mv 5 8] 0 [0,1,5] (sw (sr [mv 9 5,mv 10 1,ob 11 pM 9 10,mv 12 0,ob 13 pG 11 12] 0 [5,13] (cd 13 (rg [mv 14 5,oi 15 pU 14 1,mv 5 15] 0 [5]) .skip)) (sr [mv 16 5,mv 4 16] 0 [4] .ret))))
def Yy:aC C.P 298 2 Mc aJ=true:=by kernel_rfl
end Go.Tel
namespace Go.Tel
open Go.Am
def IX (n l h:Int):Pure C 189 [dI n,dI l,dI h] (.d (.bool (inR n l h))) []:=by
 refine ah mixed rfl ad6 ?_
 by_cases h1:n>=l<;>simp only[h1,inR,Us,jr,ax,RN,F,H,I,J,N,O]
def X7 (n:Int):Pure C 103 [dI n] (.d (.bool (inR n 0 4000))) []:=by
 refine ah mixed rfl TU ?_;simp only[Gw,aK,RN,F,H,I,J,N,O]
 repeat' first
  |(refine ak rfl rfl (IX _ _ _) ?_;try simp only[RN,F,H,I,J,N,O])
  |(refine bF (by rfl) (fun a=> ?_) (fun a=> ?_)<;>simp only[a,RN,F,H,I,J,N,O])
  |(refine bJ (by rfl) (fun a=> ?_) (fun a=> ?_)<;>simp only[a,RN,F,H,I,J,N,O])
 all_goals(first|(simp only[inR, *,BSN];done)|(simp_all[inR];done)|(simp_all[inR];omega))
def aiZ (n:Int):Pure C 248 [dI n] (.d (.bool (inR n 0 2000000))) []:=by
 refine ah mixed rfl VN ?_;simp only[Ja,aK,RN,F,H,I,J,N,O]
 repeat' first
  |(refine ak rfl rfl (IX _ _ _) ?_;try simp only[RN,F,H,I,J,N,O])
  |(refine bF (by rfl) (fun a=> ?_) (fun a=> ?_)<;>simp only[a,RN,F,H,I,J,N,O])
  |(refine bJ (by rfl) (fun a=> ?_) (fun a=> ?_)<;>simp only[a,RN,F,H,I,J,N,O])
 all_goals(first|(simp only[inR, *,BSN];done)|(simp_all[inR];done)|(simp_all[inR];omega))
def JD:List Int->Int->Bool
 | [],_=>true
 |n::l,a=>inR n (a+1) 1000&&JD l n
def Cal.ok (c:Cal):Bool:=inR c.ep 0 1000&&inR c.cy.length 1 3&&JD c.cy 1
def Sz:∀{l:List Int} {last:Int},1<=last->JD l last=true->∀n∈l,2<=n/\n<=1000
 | [],_,_,_,n,a=>by cases a
 |x::l,last,h1,h,n,a=>by
  simp only[JD,inR,U,decide_eq_true_eq,ge_iff_le]at h
  rcases a7.1 a with rfl|a
  ·omega
  ·exact Sz (last:=x) (by omega) h.2 n a
variable{c:Cal}
def Cal.facts (h:c.ok=true):(0<=c.ep/\c.ep<=1000)/\(1<=c.cy.length/\c.cy.length<=3)/\∀n∈c.cy,2<=n/\n<=1000:=by
 simp only[Cal.ok,U]at h;obtain⟨⟨h1,h2⟩,a⟩:=h;simp only[inR,U,decide_eq_true_eq,ge_iff_le]at h1 h2;exact⟨h1,by omega,Sz (by omega) a⟩
def Yi (c:Cal)(hl:c.cy.length<=1000000):Pure C 97 [c.dv] (.d (.bool c.ok)) []:=by
 refine ah mixed rfl JZ ?_;simp only[yX,aK,fE,RN,F,H,I,J,N,O]
 repeat' first
  |(refine ak rfl rfl (IX _ _ _) ?_;try simp only[Q,RN,F,H,I,J,N,O])
  |(refine bF (by rfl) (fun e=> ?_) (fun e=> ?_)<;>simp only[e,Q,RN,F,H,I,J,N,O])
  |(refine bJ (by rfl) (fun e=> ?_) (fun e=> ?_)<;>simp only[e,Q,RN,F,H,I,J,N,O])
 any_goals (simp_all[Cal.ok];done)
 have g:c.ok=JD c.cy 1:=by simp_all[Cal.ok]
 rw[g];refine aH c.cy.length (fun i (a:Int)=>⟨[(3,pI a),(18, .d (sF (c.cy.map ay))),(19,pI c.cy.length),(20,pI i)],⟨[some [pI c.ep, .d (sF (c.cy.map ay))]],[0],[]⟩⟩)
  (fun i a=>1<=a/\a<=1000/\JD c.cy 1=JD (c.cy.drop i) a) 0 1 (ab _) rfl ⟨by omega,by omega,rfl⟩ (fun i a h1 b=> ?_) (fun a b=> ?_)
 ·obtain⟨h2,k,h⟩:=rng h1 hl
  obtain⟨l,m,b⟩:=b;rw[drop_cons h1,JD]at b;have j:cm .i64 (a+1)=a+1:=aF (by omega);simp only[h2,k,h1,h,aI,getD_map,S,Q,j,RN,F,H,I,J,N,O];refine ak rfl rfl (IX _ _ _) ?_;cases f:inR (c.cy.getD i default) (a+1) 1000
  ·(try simp only[RN,F,H,I,J,N,O])
   rw[b,f];rfl
  ·simp only[h,RN,F,H,I,J,N,O]
   rw[f,b0]at b;have:a+1<=c.cy.getD i default/\c.cy.getD i default<=1000:=by simpa[inR]using f
   exact iQ (c.cy.getD i default) h1 rfl ⟨by omega,by omega,b⟩ (by simp) (by simp) rfl rfl
 ·obtain⟨_,_,b⟩:=b
  rw[ao,JD]at b;simp only[am,b,RN,F,H,I,J,N,O]
def abq (c:Cal)(m:gK)(fs:List Int)(es:Option (List (DV×DV))):DV:= .agg [dI c.ep,sF (c.cy.map ay),dI m.n,dI m.d,dI m.ad,sF (fs.map ay), .map es]
def rO {m:gK}{fs:List Int}{es:Option (List (DV×DV))}:abq c m fs es= .agg [dI c.ep,sF (c.cy.map ay),dI m.n,dI m.d,dI m.ad,sF (fs.map ay), .map es]:=by rw[abq]
def F6:List Int->Int->Bool->Bool
 | [],_,a=>a
 |n::l,y,a=>F6 l y (if y.tmod n==0 then !a else a)
def Cal.leap (c:Cal)(y:Int):Bool:=F6 c.cy y false
def Yl (c:Cal)(m:gK)(fs:List Int)(es:Option (List (DV×DV)))(y:Int)(hl:c.cy.length<=1000000)(j:∀n∈c.cy,n≠0):Pure C 192 [abq c m fs es,dI y] (.d (.bool (c.leap y))) []:=by
 refine ah mixed rfl IG ?_;simp only[xO,aJ,rO,Q,RN,F,H,I,J,N,O];refine aH c.cy.length (fun i (b:Bool)=>⟨[(1,pI y),(5, .d (.bool b)),(10, .d (sF (c.cy.map ay))),(11,pI c.cy.length),(12,pI i)],
   ⟨[some [pI c.ep, .d (sF (c.cy.map ay)),pI m.n,pI m.d,pI m.ad, .d (sF (fs.map ay)), .d (.map es)]],[0],[]⟩⟩)
  (fun i b=>c.leap y=F6 (c.cy.drop i) y b) 0 false (ab _) rfl rfl (fun i b h1 a=> ?_) (fun b a=> ?_)
 ·obtain⟨h2,h,f⟩:=rng h1 hl
  rw[drop_cons h1,F6]at a;have e:=j _ (getD_mem h1);simp only[h2,h,h1,aI,getD_map,S,Q,e,RN,F,H,I,J,N,O];cases g:(y.tmod (c.cy.getD i default)==0)
  ·rw[g]at a
   simp only[f,RN,F,H,I,J,N,O];exact iQ b h1 rfl a (by simp) (by simp) rfl rfl
  ·rw[g]at a
   simp only[f,RN,F,H,I,J,N,O];exact iQ (!b) h1 rfl a (by simp) (by simp) rfl rfl
 ·rw[ao,F6]at a
  simp only[am,a,RN,F,H,I,J,N,O]
def aY (leap:Bool):List Int:=[31,if leap then 29 else 28,31,30,31,30,31,31,30,31,30,31]
def mon0:List DV:=[dI 31,dI 28,dI 31,dI 30,dI 31,dI 30,dI 31,dI 31,dI 30,dI 31,dI 30,dI 31]
def amU {C:Ctx}{K:PV->Mem->Prop}{KP:DV->Mem->Prop}(h:K (.tsl 0 0 0) ⟨[],[],[some ⟨1,mon0,0,1⟩]⟩):
  au C 0 (.nN 1 [dI 0,dI 0,dI 0,dI 0,dI 0,dI 0,dI 0,dI 0,dI 0,dI 0,dI 0,dI 0] [0,1,2,3,4,5,6,7,8,9,10,11]) (mon0.map .d) ⟨[],[],[]⟩ K KP:=by
 simp only[au,mon0,aR,bk,iZ];exact⟨by decide,aE.1 (rfl:mon0.all (DV.fits 1)=true),h⟩
def aqf:∀b:Bool,(aY b).map ay=bif b then mon0.set 1 (dI 29)else mon0
 |true=>rfl
 |false=>rfl
def LM (leap:Bool):Pure C 191 [.bool leap] (.d (sF ((aY leap).map ay))) []:=by
 refine bU (aG mixed rfl TV ?_);simp only[Gx,aK,RN,F,H,I,J,N,O];refine amU ?_;rw[aqf];cases leap
 ·(try simp only[RN,F,H,I,J,N,O])
  rfl
 ·(try simp only[RN,F,H,I,J,N,O])
  refine⟨by decide,by decide,qU (ds:=[dI 29]) rfl rfl (by decide) rfl rfl (by decide) rfl⟩
end Go.Tel
namespace Go.Tel
open Go.Am
def ai5 (l:List Int)(hl:l.length<=1000000)(hx:∀x∈l,0<=x)(hb:dS l 0<=9223372036854775807):Pure C 193 [sF (l.map ay)] (pI (dS l 0)) []:=by
 refine ah mixed rfl aaW ?_;simp only[PY,aK,Q,RN,F,H,I,J,N,O];refine aH l.length (fun i (p:Int)=>⟨[(3,pI p),(6, .d (sF (l.map ay))),(7,pI l.length),(8,pI i)],⟨[],[],[]⟩⟩)
  (fun i p=>0<=p/\dS l 0=dS (l.drop i) p) 0 0 (ab _) rfl ⟨by omega,rfl⟩ (fun i p h1 a=> ?_) (fun p a=> ?_)
 ·obtain⟨h2,c,e⟩:=rng h1 hl
  obtain⟨f,a⟩:=a;rw[drop_cons h1,dS]at a;have g:=hx _ (getD_mem h1);have j:=sG (l.drop (i+1)) (p+l.getD i default) (fun y h=>hx y (bS h));have b:cm .i64 (p+l.getD i default)=p+l.getD i default:=aF (by omega);simp only[h2,c,h1,e,aI,getD_map,S,Q,b,RN,F,H,I,J,N,O];exact iQ (p+l.getD i default) h1 rfl ⟨by omega,a⟩ (by simp) (by simp) rfl rfl
 ·obtain⟨f,a⟩:=a
  rw[ao,dS]at a;simp only[am,a,RN,F,H,I,J,N,O]
def wH (b:Bool):Int:=dS (aY b) 0
def mY:∀b:Bool,wH b=if b then 366 else 365
 |true=>rfl
 |false=>rfl
def kY:∀(b:Bool),∀x∈aY b,28<=x/\x<=31:=by
 intro b x a;cases b<;>simp[aY]at a<;>omega
def nO:∀(b:Bool),(aY b).length=12
 |true=>rfl
 |false=>rfl
def afq (c:Cal)(m:gK)(fs:List Int)(es:Option (List (DV×DV)))(y:Int)(hl:c.cy.length<=1000000)(a:∀n∈c.cy,n≠0):Pure C 190 [abq c m fs es,dI y] (.d (dI (wH (c.leap y)))) []:=by
 refine ah mixed rfl IE ?_;simp only[xM,aJ,rO,Q,RN,F,H,I,J,N,O];have h1:=Yl c m fs es y hl a;rw[rO]at h1;refine ak rfl rfl h1 ?_;(try simp only[RN,F,H,I,J,N,O]);refine ak rfl rfl (LM _) ?_;(try simp only[RN,F,H,I,J,N,O]);have e:dS (aY (c.leap y)) 0<=366:=by have:=mY (c.leap y);unfold wH at this;rw[this];split<;>decide
 refine ak rfl rfl (ai5 (aY (c.leap y)) (by rw[nO];decide) (fun x b=>by have:=kY _ x b;omega) (by omega)) ?_;simp only[wH,RN,F,H,I,J,N,O]
def wd (n:Int):Int:=(n+4).tmod 7
def ah6 (n:Int)(h:0<=n/\n<=1000000000):Pure C 267 [dI n] (pI (wd n)) []:=by
 have a:cm .i64 (n+4)=n+4:=aF (by omega);have c:0<=(n+4).tmod 7:=bN 7 (by omega);have d:(n+4).tmod 7<7:=a8 _ (by decide);have b:cm .i64 ((n+4).tmod 7)=(n+4).tmod 7:=aF (by omega);refine ah mixed rfl QT ?_;simp only[EO,aK,a,b,wd,RN,F,H,I,J,N,O];simp
def dU (n b:Int):Int:=if n.tdiv b*b>n then n.tdiv b - 1 else n.tdiv b
def Hq (n b:Int):(n.tdiv b*b).natAbs<=n.natAbs:=by
 have h:=bO n b;rw[Int.natAbs_mul,Int.natAbs_tdiv];exact Nat.div_mul_le_self _ _
def ai4 (n b:Int)(h:n.natAbs<=1000000000000000000)(hb:b≠0):Pure C 298 [dI n,dI b] (pI (dU n b)) []:=by
 have f:=nC n b;have g:=Hq n b;have c:cm .i64 (n.tdiv b)=n.tdiv b:=aF (by omega);have d:cm .i64 (n.tdiv b*b)=n.tdiv b*b:=aF (by omega);have e:cm .i64 (n.tdiv b - 1)=n.tdiv b - 1:=aF (by omega);refine ah mixed rfl Yy ?_;simp only[Mc,aJ,c,d,hb,RN,F,H,I,J,N,O]
 by_cases a:n.tdiv b*b>n
 ·simp only[a,e,dU,if_true,RN,F,H,I,J,N,O]
 ·simp only[a,dU,if_false,RN,F,H,I,J,N,O]
def X6 (n b:Int)(hb:b≠0):(dU n b).natAbs<=n.natAbs+1:=by
 have:=nC n b;unfold dU
 split<;>omega
def Z9 (n b:Int):(dU n b*b).natAbs<=n.natAbs+b.natAbs:=by
 have:=Hq n b;unfold dU
 split
 ·rw[ck];omega
 ·omega
def gK.ok (m:gK):Bool:=inR m.d 1 1000&&inR m.n (29*m.d) (30*m.d)&&inR m.ad 0 (m.n - 1)
def gK.facts {m:gK}(h:m.ok=true):(1<=m.d/\m.d<=1000)/\(29*m.d<=m.n/\m.n<=30*m.d)/\0<=m.ad/\m.ad<m.n:=by
 simp only[gK.ok,inR,U,decide_eq_true_eq,ge_iff_le]at h;omega
def ajJ (m:gK):Pure C 101 [m.dv] (.d (.bool m.ok)) []:=by
 refine ah mixed rfl TT ?_;simp only[Gv,aK,iy,RN,F,H,I,J,N,O];refine ak rfl rfl (IX _ _ _) ?_;cases h1:inR m.d 1 1000
 ·(try simp only[RN,F,H,I,J,N,O])
  simp[gK.ok,h1]
 ·have hd:1<=m.d/\m.d<=1000:=by simpa[inR]using h1
  have a:cm .i64 (29*m.d)=29*m.d:=aF (by omega);have b:cm .i64 (30*m.d)=30*m.d:=aF (by omega);simp only[a,b,RN,F,H,I,J,N,O];refine ak rfl rfl (IX _ _ _) ?_;cases h2:inR m.n (29*m.d) (30*m.d)
  ·(try simp only[RN,F,H,I,J,N,O])
   simp[gK.ok,h2]
  ·have e:29*m.d<=m.n/\m.n<=30*m.d:=by simpa[inR]using h2
   have c:cm .i64 (m.n - 1)=m.n - 1:=aF (by omega);simp only[c,RN,F,H,I,J,N,O];refine ak rfl rfl (IX _ _ _) ?_;(try simp only[RN,F,H,I,J,N,O]);simp[gK.ok,h1,h2]
def yh (m:gK)(n:Int):Int:=n - dU (dU ((n+1)*m.d - 1 - m.ad) m.n*m.n+m.ad) m.d
def ap9 (m:gK)(n:Int)(j:m.ok=true)(h:0<=n/\n<=100000000):Pure C 266 [m.dv,dI n] (pI (yh m n)) []:=by
 obtain⟨hd,l,k⟩:=m.facts j;have o:0<=(n+1)*m.d/\(n+1)*m.d<=100000001*1000:=⟨an (by omega) (by omega),Z (by omega) hd.2 (by omega) (by omega)⟩
 have p:=X6 ((n+1)*m.d - 1 - m.ad) m.n (by omega);have q:=Z9 ((n+1)*m.d - 1 - m.ad) m.n;have r:=X6 (dU ((n+1)*m.d - 1 - m.ad) m.n*m.n+m.ad) m.d (by omega);have a:cm .i64 (n+1)=n+1:=aF (by omega);have b:cm .i64 ((n+1)*m.d)=(n+1)*m.d:=aF (by omega);have c:cm .i64 ((n+1)*m.d - 1)=(n+1)*m.d - 1:=aF (by omega);have e:cm .i64 ((n+1)*m.d - 1 - m.ad)=(n+1)*m.d - 1 - m.ad:=aF (by omega);have f:cm .i64 (dU ((n+1)*m.d - 1 - m.ad) m.n*m.n)=dU ((n+1)*m.d - 1 - m.ad) m.n*m.n:=aF (by omega);have g:cm .i64 (dU ((n+1)*m.d - 1 - m.ad) m.n*m.n+m.ad)=dU ((n+1)*m.d - 1 - m.ad) m.n*m.n+m.ad:=aF (by omega);have i:cm .i64 (n - dU (dU ((n+1)*m.d - 1 - m.ad) m.n*m.n+m.ad) m.d)=n - dU (dU ((n+1)*m.d - 1 - m.ad) m.n*m.n+m.ad) m.d:=aF (by omega);refine ah mixed rfl aaV ?_;simp only[PX,aJ,iy,a,b,c,e,RN,F,H,I,J,N,O];refine ak rfl rfl (ai4 _ _ (by omega) (by omega)) ?_;simp only[f,g,RN,F,H,I,J,N,O];refine ak rfl rfl (ai4 _ _ (by omega) (by omega)) ?_;simp only[i,yh,RN,F,H,I,J,N,O]
def jY (c:Cal)(d:Dt):Bool:=inR d.y 0 4000&&inR d.m 1 12&&inR d.d 1 ((aY (c.leap d.y)).getD (d.m - 1).toNat default)
def aax (c:Cal)(m:gK)(fs:List Int)(es:Option (List (DV×DV)))(d:Dt)(hl:c.cy.length<=1000000)(e:∀n∈c.cy,n≠0):Pure C 99 [abq c m fs es,d.dv] (.d (.bool (jY c d))) []:=by
 refine ah mixed rfl Fj ?_;simp only[uY,aJ,rO,pY,Q,RN,F,H,I,J,N,O];refine ak rfl rfl (X7 _) ?_;cases h1:inR d.y 0 4000
 ·(try simp only[RN,F,H,I,J,N,O])
  simp[jY,h1]
 ·(try simp only[RN,F,H,I,J,N,O])
  refine ak rfl rfl (IX _ _ _) ?_;cases h2:inR d.m 1 12
  ·(try simp only[RN,F,H,I,J,N,O])
   simp[jY,h2]
  ·have h:1<=d.m/\d.m<=12:=by simpa[inR]using h2
   have a:cm .i64 (d.m - 1)=d.m - 1:=aF (by omega);simp only[a,RN,F,H,I,J,N,O];have b:=Yl c m fs es d.y hl e;rw[rO]at b;refine ak rfl rfl b ?_;(try simp only[RN,F,H,I,J,N,O]);refine ak rfl rfl (LM _) ?_;have f:(0:Int)<=d.m - 1:=by omega
   have g:(d.m - 1).toNat<(aY (c.leap d.y)).length:=by rw[nO];omega
   simp only[a,f,g,Q,getD_map,aI,RN,F,H,I,J,N,O];refine ak rfl rfl (IX _ _ _) ?_;simp only[jY,h1,h2,RN,F,H,I,J,N,O]
def AU (c:Cal)(fs:List Int)(d:Dt):Int:=fs.getD d.y.toNat default+dS ((aY (c.leap d.y)).take (d.m - 1).toNat) 0+d.d - 1
def CZ:∀(l:List Int) (n:Nat) (p:Int),(∀x∈l,0<=x)->dS (l.take n) p<=dS l p
 | [],n,p,_=>by rw[List.take_nil];exact bc _
 |x::l,0,p,h=>sG _ _ h
 |x::l,n+1,p,h=>by
  rw[bj,dS,dS];exact CZ l n _ fun y a=>h y (by simp[a])
def aiW (c:Cal)(m:gK)(fs:List Int)(es:Option (List (DV×DV)))(d:Dt)(hl:c.cy.length<=1000000)(j:∀n∈c.cy,n≠0)(hf:∀x∈fs,0<=x/\x<=10000000)(b:0<=d.y/\d.y.toNat<fs.length)(p:1<=d.m/\d.m<=12)(hd:1<=d.d/\d.d<=31):Pure C 100 [abq c m fs es,d.dv] (pI (AU c fs d)) []:=by
 have f:cm .i64 (d.m - 1)=d.m - 1:=aF (by omega);have o:=hf _ (getD_mem b.2);have q:dS (aY (c.leap d.y)) 0<=366:=by have:=mY (c.leap d.y);unfold wH at this;rw[this];split<;>decide
 have k:=CZ (aY (c.leap d.y)) (d.m - 1).toNat 0 fun x a=>by have:=kY _ x a;omega
 have l:=sG ((aY (c.leap d.y)).take (d.m - 1).toNat) 0 fun x a=>by have:=kY _ x (be a);omega
 have g:cm .i64 (fs.getD d.y.toNat default+dS ((aY (c.leap d.y)).take (d.m - 1).toNat) 0)=fs.getD d.y.toNat default+dS ((aY (c.leap d.y)).take (d.m - 1).toNat) 0:=aF (by omega);have h:cm .i64 (fs.getD d.y.toNat default+dS ((aY (c.leap d.y)).take (d.m - 1).toNat) 0+d.d)=fs.getD d.y.toNat default+dS ((aY (c.leap d.y)).take (d.m - 1).toNat) 0+d.d:=aF (by omega);have i:cm .i64 (fs.getD d.y.toNat default+dS ((aY (c.leap d.y)).take (d.m - 1).toNat) 0+d.d - 1)=fs.getD d.y.toNat default+dS ((aY (c.leap d.y)).take (d.m - 1).toNat) 0+d.d - 1:=aF (by omega);refine ah mixed rfl J3 ?_;simp only[yY,aJ,rO,pY,Q,b.1,b.2,getD_map,aI,RN,F,H,I,J,N,O];have e:=Yl c m fs es d.y hl j;rw[rO]at e;refine ak rfl rfl e ?_;(try simp only[RN,F,H,I,J,N,O]);refine ak rfl rfl (LM _) ?_;simp only[f,RN,F,H,I,J,N,O];rw[yN (by intro x a;simp only[ap]at a;obtain⟨y,_,rfl⟩:=a;rfl) (by omega) (by rw[Q,nO];omega)];rw[<-ch];(try simp only[RN,F,H,I,J,N,O]);refine ak rfl rfl (ai5 _ (by rw[List.length_take,nO];omega) (fun x a=>by have:=kY _ x (be a);omega) (by omega)) ?_;simp only[g,h,i,AU,RN,F,H,I,J,N,O]
def Fs.bad (f:Fs):Bool:=if f.mv then f.mo !=0||f.da !=0|| !inR f.af (-60) 60 else f.af !=0|| !inR f.mo 1 12|| !inR f.da 1 31
def aoM (f:Fs):Pure C 195 [f.dv] (.d (.bool f.bad)) []:=by
 refine ah mixed rfl IB ?_;simp only[xJ,aK,xH,RN,F,H,I,J,N,O]
 repeat' first
  |(refine ak rfl rfl (IX _ _ _) ?_;try simp only[xH,RN,F,H,I,J,N,O])
  |(refine bF (by rfl) (fun a=> ?_) (fun a=> ?_)<;>simp only[a,xH,RN,F,H,I,J,N,O])
  |(refine bJ (by rfl) (fun a=> ?_) (fun a=> ?_)<;>simp only[a,xH,RN,F,H,I,J,N,O])
 all_goals(simp_all[Fs.bad];done)
def jA (l:List Fs):Bool:=decide (l.length<=6)&& !l.any Fs.bad
def ZB (ex:Bool)(l:List Fs):Pure C 102 [.slice ex (l.map Fs.dv)] (.d (.bool (jA l))) []:=by
 refine ah mixed rfl LU ?_;simp only[Aq,aK,Q,RN,F,H,I,J,N,O]
 by_cases h:l.length<=6
 ·have a:(l.length:Int)<=6:=by omega
  simp only[a,RN,F,H,I,J,N,O];refine ak rfl rfl (VF l 195 [] Fs.bad (by omega) (by kernel_rfl) fun x _=>aoM x) ?_;(try simp only[RN,F,H,I,J,N,O]);simp[jA,h]
 ·have a:¬(l.length:Int)<=6:=by omega
  simp only[a,RN,F,H,I,J,N,O];simp[jA,h]
end Go.Tel
namespace Go.Tel
open Go.Am
section
variable {C:Ctx}{base:Nat}{KP:DV->Mem->Prop}
def SI {i:Nat}{bs:List (Option (List PV))}{fz:List Nat}{ar:List (Option Arr)}{L:PV->Mem->Prop}:au C base (.mkMap i) [] ⟨bs,fz,ar⟩ L KP=(bs[base+i]?=some none/\L (.mref (base+i)) ⟨bs.set (base+i) (some [.iW []]),fz,ar⟩):=propext ⟨id,id⟩
def kS {f:FuncId}{args:List PV}{M:Mem}{ds ds':List DV}{x:DV}{K:PV->Mem->Prop}(h1:dF M args=some ds)(h2:ds.map DV.strip=ds')(b:Pure C f ds' (.d x) [])(hx:DF x=true)(a:K (.d x) M):au C base (.jd f) args M K KP:=
 ⟨ds,h1,x,h2▸b,hx,a⟩
end
def BZ {bs:List (Option (List PV))}{fz:List Nat}{ar:List (Option Arr)}{k ver b st:Nat}{xs:List DV}{es:List (DV×DV)}{a c e f g:DV}(h:ar[k]?=some (some ⟨1,xs,ver,st⟩))(hb:bs[b]?=some (some [.iW es])):
  datum ⟨bs,fz,ar⟩ (.agg [.d a, .d c, .d e, .d f, .d g, .tsl k ver 0, .mref b])=some (.agg [a,c,e,f,g, .slice false xs, .map (some es)]):=by
 simp[datum,cu,fA,Mem.row,Mem.box,h,hb]
variable{M:Mem}{p:PV}{d:DV}
def sU {y:DV}(h:datum M p=some d):dF M [p, .d y]=some [d,y]:=by
 simp only[dF,h];simp[datum]
def La (h:datum M p=some d):dF M [p]=some [d]:=by
 simp[dF,h]
def Cal.first (c:Cal):Nat->Int
 |0=>c.ep
 |y+1=>c.first y+wH (c.leap y)
def Cal.firsts (c:Cal)(n:Nat):List Int:=(b8 n).map c.first
def Cal.kG (c:Cal)(y:Nat):c.ep+365*y<=c.first y/\c.first y<=c.ep+366*y:=by
 induction y with
 |zero=>simp[Cal.first]
 |succ y a=>
  rw[Cal.first,mY]
  split<;>omega
def Cal.PD (c:Cal)(n:Nat):c.firsts (n+1)=c.firsts n++ [c.first n]:=by simp[Cal.firsts,cf]
def opC:Nat->PV
 |0=> .d (.slice true [])
 |i+1=> .tsl 0 i 0
def opA (c:Cal):Nat->List (Option Arr)
 |0=>[]
 |i+1=>[some ⟨1,(c.firsts (i+1)).map ay,i,0⟩]
def am0 (c:Cal)(m:gK)(i:Nat):St:=
 ⟨[(4, .ptr 2 0),(5, .ptr 4 0),(6,pI (c.first i)),(14,pI i)],
  ⟨[some [pI c.ep, .d (sF (c.cy.map ay))],some [pI m.n,pI m.d,pI m.ad],
   some [pI 0, .d (.slice true []),pI 0,pI 0,pI 0, .d (.slice true []), .d (.map none)],
   some [.iW []],some [pI c.ep, .d (sF (c.cy.map ay)),pI m.n,pI m.d,pI m.ad,opC i, .mref 3]],[1,0],opA c i⟩⟩
def akg (c:Cal)(m:gK)(hc:c.ok=true):Pure C 98 [c.dv,m.dv] (.d (abq c m (c.firsts 4002) (some []))) []:=by
 obtain⟨q,r,l⟩:=Cal.facts hc;refine bU (aG mixed rfl LV ?_);simp only[Ea,aeE,fE,iy,SI,JK,rJ,X,eP,gI,Gn,RN,F,H,I,J,N,O];refine aH 4002 (fun i (_:Unit)=>am0 c m i) (fun i _=>True) 0 () (ab _) rfl trivial (fun i a h1 g=> ?_) (fun a g=> ?_)
 ·have h2:(i:Int)<4002:=by omega
  have k:cm .i64 ((i:Int)+1)=((i+1:Nat):Int):=by rw[aF (by omega)];omega
  have p:=c.kG i;have e:=c.kG (i+1);rw[Cal.first]at e;have j:cm .i64 (c.first i+wH (c.leap i))=c.first i+wH (c.leap i):=aF (by omega);have hd:=afq c m (c.firsts (i+1)) (some []) i (by omega) (fun n h=>by have:=l n h;omega);rw[rO]at hd
  rcases i with _|i
  ·simp only[am0,opC,opA,h2,bM,dB,bI,rJ,X,eP,DV.strip,fits_int,forall_eq,RN,F,H,I,J,N,O]
   (repeat(refine aD (by first|assumption|rfl|(simp;done)|(simp;omega)) ?_))
   refine kS (by rfl) (by rfl) hd rfl ?_;simp only[j,k,RN,F,H,I,J,N,O];exact bn (len:=4002) (i:=0) () h1 rfl trivial
  ·simp only[am0,opC,opA,h2,bM,dB,bI,rJ,X,eP,DV.strip,fits_int,forall_eq,RN,F,H,I,J,N,O]
   have b:(c.firsts (i+1)).length=i+1:=by simp[Cal.firsts]
   have f:(c.firsts (i+1)).map ay++ [dI (c.first (i+1))]=(c.firsts (i+1+1)).map ay:=by rw[c.PD (i+1),aw];rfl
   rw[f,Q,b]
   (repeat(refine aD (by first|assumption|rfl|(simp;done)|(simp;omega)) ?_))
   refine kS (sU (BZ rfl rfl)) rfl hd rfl ?_;simp only[j,k,RN,F,H,I,J,N,O];exact bn (len:=4002) (i:=i+1) () h1 rfl trivial
 ·have o:¬((4002:Nat):Int)<4002:=by omega
  simp only[am0,opC,opA,o,bM,dB,bI,rJ,X,eP,gI,Gn,RN,F,H,I,J,N,O];rw[rO];exact BZ rfl rfl
end Go.Tel
namespace Go.Tel
open Go.Am
def oG (n b:Int)(hb:0<b):dU n b*b<=n/\n<(dU n b+1)*b:=by
 have h:=bO n b;have h1:=a8 n hb;have h2:=Int.lt_tmod_of_pos n hb;have d:n.tdiv b*b=b*n.tdiv b:=Int.mul_comm _ _;unfold dU
 split
 ·have c:(n.tdiv b - 1)*b=n.tdiv b*b - b:=by rw[ck];omega
  have a:(n.tdiv b - 1+1)*b=n.tdiv b*b:=by rw[show n.tdiv b - 1+1=n.tdiv b by omega]
  omega
 ·have a:(n.tdiv b+1)*b=n.tdiv b*b+b:=by rw[az];omega
  omega
def WG {n b q:Int}(hb:0<b)(h1:q*b<=n)(h2:n<(q+1)*b):dU n b=q:=by
 obtain⟨e,f⟩:=oG n b hb;have c:dU n b<q+1:=aq (a:=b) (by omega) (by omega);have d:q<dU n b+1:=aq (a:=b) (by omega) (by omega);omega
def WS (m:gK)(q:m.ok=true)(n:Int):∃j:Nat,j<=44/\yh m (n+j)=13:=by
 obtain⟨hd,A,z⟩:=m.facts q;have b:0<m.n:=by omega
 have l:0<m.d:=by omega
 obtain⟨K,o⟩:∃K,K=dU ((n+1)*m.d - 1 - m.ad) m.n:=⟨_,rfl⟩
 obtain⟨g,h⟩:=oG ((n+1)*m.d - 1 - m.ad) m.n b;rw[<-o]at g h;obtain⟨s,c⟩:∃s,s=dU ((K+1)*m.n+m.ad) m.d:=⟨_,rfl⟩
 obtain⟨i,k⟩:=oG ((K+1)*m.n+m.ad) m.d l;rw[<-c]at i k;have e:(K+1)*m.n=K*m.n+m.n:=by rw[az];omega
 have u:(n+1)*m.d=n*m.d+m.d:=by rw[az];omega
 have v:(s+1)*m.d=s*m.d+m.d:=by rw[az];omega
 have w:(n+32)*m.d=n*m.d+32*m.d:=by rw[az]
 have r:n+1<s+1:=aq (a:=m.d) (by omega) (by omega);have t:s<n+32:=aq (a:=m.d) (by omega) (by omega);refine⟨(s+13 - n).toNat,by omega,?_⟩;have f:n+((s+13 - n).toNat:Int)=s+13:=by omega
 rw[f];have x:(s+13+1)*m.d=s*m.d+14*m.d:=by rw[show s+13+1=s+14 by omega,az]
 have y:(K+1+1)*m.n=K*m.n+m.n+m.n:=by rw[az,e];omega
 have p:dU ((s+13+1)*m.d - 1 - m.ad) m.n=K+1:=WG b (by omega) (by omega);unfold yh;rw[p,<-c];omega
def pK (m:gK):Nat->Int->Int
 |0,n=>n
 |k+1,n=>if yh m n=13 then n else pK m k (n+1)
def gK.full (m:gK)(n:Int):Int:=pK m 45 n
def aal {m:gK}{k:Nat}{n:Int}(h:yh m n=13):pK m k n=n:=by
 cases k with
 |zero=>rfl
 |succ k=>rw[pK,if_pos h]
def WR (m:gK):∀(k:Nat) (n:Int),n<=pK m k n/\pK m k n<=n+k
 |0,n=>⟨bc _,by simp[pK]⟩
 |k+1,n=>by
  rw[pK]
  split
  ·omega
  ·have:=WR m k (n+1)
   omega
def sunday (c:Cal)(m:gK)(y:Int):Int:=let n:=m.full (AU c (c.firsts 4002) ⟨y,3,21⟩);n+(7 - wd n)
def ae7 (c:Cal)(m:gK)(y:Int)(es:List (DV×DV)):Prop:=es=[]\/es=[(.agg [dI y,dI 3,dI 21],dI (sunday c m y))]
def FM (c:Cal)(m:gK)(y:Int):List (DV×DV):=[(.agg [dI y,dI 3,dI 21],dI (sunday c m y))]
def yC (c:Cal)(hc:c.ok=true):∀x∈c.firsts 4002,0<=x/\x<=10000000:=by
 obtain⟨b,_,_⟩:=Cal.facts hc;intro x a;simp only[Cal.firsts,ap,List.mem_range]at a;obtain⟨i,d,rfl⟩:=a;have:=c.kG i;omega
section
variable {C:Ctx}{base:Nat}{KP:DV->Mem->Prop}
variable{ks:List Nat}{b:Nat}{M:Mem}{K:PV->Mem->Prop}
def TL {ok:Bool}{z:DV}{k:DV}(l:List (DV×DV))(r:Option DV)(hb:M.box b=some [.iW l])(h1:iL ks k k=some true)(h2:pO ks l k=some r)(a:K (.d (FW ok z r)) M):
  au C base (.Iz ok ks z) [.mref b, .d k] M K KP:=by
 simp only[au,hb,h1,h2];exact a
def apH {k:List DV}{v:DV}(l a:List (DV×DV))(hb:M.box b=some [.iW l])(hf:b∉M.fz)(h1:dK ks k k=some true)(h2:LP ks l k v=some a)(c:K .dead {M with boxes:=M.boxes.set b (some [.iW a])}):
  au C base (.adZ ks) [.mref b, .d (.agg k), .d v] M K KP:=by
 simp only[au,hb,h1,h2];exact⟨hf,c⟩
end
def an7 (y:Int):dK [1,1,1] [dI y,dI 3,dI 21] [dI y,dI 3,dI 21]=some true:=by simp[dK]
def adO (y:Int):iL [1,1,1] (.agg [dI y,dI 3,dI 21]) (.agg [dI y,dI 3,dI 21])=some true:=by
 simp only[iL,an7];rfl
def vM (c:Cal)(n:Nat):(c.firsts n).length=n:=by simp[Cal.firsts]
def ac6 (c:Cal)(fs:List Int)(d:Dt)(hf:∀x∈fs,0<=x/\x<=10000000)(f:d.y.toNat<fs.length)(hd:1<=d.d/\d.d<=31):0<=AU c fs d/\AU c fs d<=10000400:=by
 have g:=hf _ (getD_mem f);have h:dS (aY (c.leap d.y)) 0<=366:=by have:=mY (c.leap d.y);unfold wH at this;rw[this];split<;>decide
 have b:=CZ (aY (c.leap d.y)) (d.m - 1).toNat 0 fun x a=>by have:=kY _ x a;omega
 have e:=sG ((aY (c.leap d.y)).take (d.m - 1).toNat) 0 fun x a=>by have:=kY _ x (be a);omega
 unfold AU;omega
def ah0 {x0 x1 x2 x3 x4 x6 x7 x8 x9:Option (List PV)}{fz:List Nat}{A1 A2:Option Arr}(c:Cal)(m:gK)(y:Int)(es:List (DV×DV))(hc:c.ok=true)(v:m.ok=true)(Q:0<=y/\y<=4000)(r:ae7 c m y es)(s:5∉fz)(g:∀i∈fz,i<10):
  ∃M',SC C 196 [.agg [pI c.ep, .d (sF (c.cy.map ay)),pI m.n,pI m.d,pI m.ad, .tsl 0 4001 0, .mref 5],pI y]
   ⟨[x0,x1,x2,x3,x4,some [.iW es],x6,x7,x8,x9],fz,[some ⟨1,(c.firsts 4002).map ay,4001,0⟩,A1,A2]⟩
   (fun p M=>p= .d (dI (sunday c m y))/\M=M') (fun _ _=>False)/\M'.boxes.take 10=[x0,x1,x2,x3,x4,some [.iW (FM c m y)],x6,x7,x8,x9]/\M'.fz=fz/\M'.aB=[some ⟨1,(c.firsts 4002).map ay,4001,0⟩,A1,A2]:=by
 obtain⟨G,L,z⟩:=Cal.facts hc;refine⟨⟨[x0,x1,x2,x3,x4,some [.iW (FM c m y)],x6,x7,x8,x9,some [pI c.ep, .d (sF (c.cy.map ay)),pI m.n,pI m.d,pI m.ad, .tsl 0 4001 0, .mref 5],some [pI y,pI 3,pI 21]],fz,[some ⟨1,(c.firsts 4002).map ay,4001,0⟩,A1,A2]⟩,?_,rfl,rfl,rfl⟩;have asU:10∉fz:=fun h=>by have:=g _ h;omega
 have arL:11∉fz:=fun h=>by have:=g _ h;omega
 refine aG mixed rfl Fp ?_;simp only[uZ,aJ,gI,DC,arL,RN,F,H,I,J,N,O]
 rcases r with rfl|rfl
 ·refine TL [] none rfl (adO y) rfl ?_
  simp only[FW,cond_true,Option.getD_none,bp,RN,F,H,I,J,N,O];have k:(c.firsts 4002).length=4002:=by simp[Cal.firsts]
  have hd:=aiW c m (c.firsts 4002) (some []) ⟨y,3,21⟩ (by omega) (fun n h=>by have:=z n h;omega) (yC c hc) (by rw[k];simp only;omega) (by simp only;omega) (by simp only;omega);rw[rO,pY]at hd;obtain⟨b,f⟩:∃b,b=AU c (c.firsts 4002) ⟨y,3,21⟩:=⟨_,rfl⟩
  rw[<-f]at hd;have A:0<=b/\b<=10000400:=by rw[f];exact ac6 c _ _ (yC c hc) (by rw[k];simp only;omega) ⟨by simp only;omega,by simp only;omega⟩
  refine kS (sU (BZ rfl rfl)) rfl hd rfl ?_;(try simp only[RN,F,H,I,J,N,O]);obtain⟨j,K,t⟩:=WS m v b;refine jo (fun i:Nat=>⟨[(2, .ptr 10 0),(5, .ptr 11 0),(8,pI (b+i))],⟨[x0,x1,x2,x3,x4,some [.iW []],x6,x7,x8,x9,some [pI c.ep, .d (sF (c.cy.map ay)),pI m.n,pI m.d,pI m.ad, .tsl 0 4001 0, .mref 5],some [pI y,pI 3,pI 21]],fz,[some ⟨1,(c.firsts 4002).map ay,4001,0⟩,A1,A2]⟩⟩)
   (fun i=>i<=j/\m.full b=pK m (45 - i) (b+i)) (fun i=>j - i) 0 (by simp) ⟨ab _,by simp[gK.full]⟩ ?_
  rintro i ⟨x,l⟩;have u:=ap9 m (b+i) v (by omega);rw[iy]at u;(try simp only[RN,F,H,I,J,N,O]);refine ak rfl rfl u ?_
  by_cases e:yh m (b+i)=13
  ·have arO:m.full b=b+i:=by rw[l,aal e]
   simp only[e,bne_self_eq_false,RN,F,H,I,J,N,O];have D:=ah6 (b+i) (by omega);refine ak rfl rfl D ?_;have R:0<=wd (b+i):=bN 7 (by omega);have S:wd (b+i)<7:=a8 _ (by decide);have q:cm .i64 (7 - wd (b+i))=7 - wd (b+i):=aF (by omega);have w:cm .i64 (b+i+(7 - wd (b+i)))=b+i+(7 - wd (b+i)):=aF (by omega);simp only[q,w,RN,F,H,I,J,N,O];have o:sunday c m y=b+i+(7 - wd (b+i)):=by simp only[sunday,<-f,arO]
   refine apH [] (FM c m y) rfl s (an7 y) (by rw[FM,o];rfl) ?_;(try simp only[RN,F,H,I,J,N,O]);rw[o]
  ·have q:cm .i64 (b+i+1)=b+((i+1:Nat):Int):=by rw[aF (by omega)];omega
   have arq:(yh m (b+i) !=13)=true:=by simp[e]
   simp only[arq,q,RN,F,H,I,J,N,O];have B:i≠j:=by rintro rfl;exact e t
   refine uN (μ:=fun i=>j - i) (a:=i) (E:=fun i:Nat=>⟨[(2, .ptr 10 0),(5, .ptr 11 0),(8,pI (b+i))],⟨[x0,x1,x2,x3,x4,some [.iW []],x6,x7,x8,x9,some [pI c.ep, .d (sF (c.cy.map ay)),pI m.n,pI m.d,pI m.ad, .tsl 0 4001 0, .mref 5],some [pI y,pI 3,pI 21]],fz,[some ⟨1,(c.firsts 4002).map ay,4001,0⟩,A1,A2]⟩⟩) (P:=fun i=>i<=j/\m.full b=pK m (45 - i) (b+i)) (i+1) (by omega) rfl ⟨by omega,?_⟩;rw[l,show 45 - i=(45 - (i+1))+1 by omega,pK,if_neg e]
   congr 1
   omega
 ·refine TL (FM c m y) (some (dI (sunday c m y))) rfl (adO y) ?_ ?_
  ·simp only[FM,pO,adO]
  simp only[FW,cond_true,bE,bq,RN,F,H,I,J,N,O]
  rfl
end Go.Tel
namespace Go.Tel
open Go.Am
def apK (c:Cal)(m:gK):PV:= .agg [pI c.ep, .d (sF (c.cy.map ay)),pI m.n,pI m.d,pI m.ad, .tsl 0 4001 0, .mref 5]
def aft (x0 x1:Option (List PV))(c:Cal)(m:gK)(i:Nat):St:=
 ⟨[(4, .ptr 4 0),(5, .ptr 6 0),(6,pI (c.first i)),(14,pI i)],
  ⟨[x0,x1,some [pI c.ep, .d (sF (c.cy.map ay))],some [pI m.n,pI m.d,pI m.ad],
   some [pI 0, .d (.slice true []),pI 0,pI 0,pI 0, .d (.slice true []), .d (.map none)],
   some [.iW []],some [pI c.ep, .d (sF (c.cy.map ay)),pI m.n,pI m.d,pI m.ad,opC i, .mref 5]],[3,2,1,0],opA c i⟩⟩
variable{x0 x1:Option (List PV)}
def am1 (c:Cal)(m:gK)(hc:c.ok=true):SC C 98 [.d c.dv, .d m.dv] ⟨[x0,x1],[1,0],[]⟩ (fun p M=>p=apK c m/\∃x2 x3 x4 x6,(∀x∈[x2,x3,x4,x6],∀n k,7<=n->1<=k->((x.getD []).all fun p=>p.upto n k)=true)/\M=⟨[x0,x1,x2,x3,x4,some [.iW []],x6],[3,2,1,0],[some ⟨1,(c.firsts 4002).map ay,4001,0⟩]⟩) (fun _ _=>False):=by
 obtain⟨u,v,s⟩:=Cal.facts hc;refine aG mixed rfl LV ?_;simp only[Ea,aeE,fE,iy,SI,JK,rJ,X,eP,gI,Gn,RN,F,H,I,J,N,O];refine aH 4002 (fun i (_:Unit)=>aft x0 x1 c m i) (fun i _=>True) 0 () (ab _) rfl trivial (fun i a h1 g=> ?_) (fun a g=> ?_)
 ·have h2:(i:Int)<4002:=by omega
  have r:cm .i64 ((i:Int)+1)=((i+1:Nat):Int):=by rw[aF (by omega)];omega
  have t:=c.kG i;have e:=c.kG (i+1);rw[Cal.first]at e;have l:cm .i64 (c.first i+wH (c.leap i))=c.first i+wH (c.leap i):=aF (by omega);have hd:=afq c m (c.firsts (i+1)) (some []) i (by omega) (fun n h=>by have:=s n h;omega);rw[rO]at hd
  rcases i with _|i
  ·simp only[aft,opC,opA,h2,bM,dB,bI,rJ,X,eP,DV.strip,fits_int,forall_eq,RN,F,H,I,J,N,O]
   (repeat(refine aD (by first|assumption|rfl|(simp;done)|(simp;omega)) ?_))
   refine kS (by rfl) (by rfl) hd rfl ?_;simp only[l,r,RN,F,H,I,J,N,O];exact bn (len:=4002) (i:=0) () h1 rfl trivial
  ·simp only[aft,opC,opA,h2,bM,dB,bI,rJ,X,eP,DV.strip,fits_int,forall_eq,RN,F,H,I,J,N,O]
   have b:(c.firsts (i+1)).length=i+1:=by simp[Cal.firsts]
   have f:(c.firsts (i+1)).map ay++ [dI (c.first (i+1))]=(c.firsts (i+1+1)).map ay:=by rw[c.PD (i+1),aw];rfl
   rw[f,Q,b]
   (repeat(refine aD (by first|assumption|rfl|(simp;done)|(simp;omega)) ?_))
   refine kS (sU (BZ rfl rfl)) rfl hd rfl ?_;simp only[l,r,RN,F,H,I,J,N,O];exact bn (len:=4002) (i:=i+1) () h1 rfl trivial
 ·have j:¬((4002:Nat):Int)<4002:=by omega
  simp only[aft,opC,opA,j,bM,dB,bI,rJ,X,eP,gI,Gn,RN,F,H,I,J,N,O];refine⟨rfl,_,_,_,_,?_,rfl⟩;intro x j n k h1 h2;have o:5<n:=by omega
  have q:0<k:=by omega
  rcases j with rfl|rfl|rfl|rfl
  ·rfl
  ·rfl
  ·simp[PV.upto,o,q]
  ·simp[PV.upto,o,q]
def WC {M:Mem}{p:PV}{d y:DV}(h:datum M p=some d):dF M [p, .d y]=some [d,y]:=sU h
def XC (c:Cal)(m:gK)(y:Int)(hc:c.ok=true)(a:0<=y/\y<=4000):0<=sunday c m y/\sunday c m y<=10000500:=by
 have h1:=ac6 c (c.firsts 4002) ⟨y,3,21⟩ (yC c hc) (by rw[vM];simp only;omega) (by simp only;omega);have h2:=WR m 45 (AU c (c.firsts 4002) ⟨y,3,21⟩);have b:0<=wd (m.full (AU c (c.firsts 4002) ⟨y,3,21⟩)):=bN 7 (by unfold gK.full;omega);have d:wd (m.full (AU c (c.firsts 4002) ⟨y,3,21⟩))<7:=a8 _ (by decide);simp only[sunday];unfold gK.full at*;omega
def kW (c:Cal)(m:gK)(y:Int)(f:Fs):Int:=if f.mv then sunday c m y+f.af else if jY c ⟨y,f.mo,f.da⟩then AU c (c.firsts 4002) ⟨y,f.mo,f.da⟩else -1
def Fs.facts {f:Fs}(h:f.bad=false):(f.mv=true-> -60<=f.af/\f.af<=60)/\(f.mv=false->(1<=f.mo/\f.mo<=12)/\1<=f.da/\f.da<=31):=by
 unfold Fs.bad at h;cases a:f.mv<;>simp[a,inR]at h<;>simp<;>omega
def agR {ex:Bool}{x2 x3 x4 x6:Option (List PV)}(c:Cal)(m:gK)(l:List Fs)(y:Int)(hc:c.ok=true)(hm:m.ok=true)(T:0<=y/\y<=4000)(hl:l.length<=6)(hb:∀f∈l,f.bad=false)(hx:∀x∈[x0,x1,x2,x3,x4,x6],∀n k,7<=n->1<=k->((x.getD []).all fun p=>p.upto n k)=true):
  SC C 104 [apK c m, .d (.slice ex (l.map Fs.dv)),pI y] ⟨[x0,x1,x2,x3,x4,some [.iW []],x6],[3,2,1,0],[some ⟨1,(c.firsts 4002).map ay,4001,0⟩]⟩
   (fun p M=>KR M p 1 ((l.map (kW c m y)).map ay) 0) (fun _ _=>False):=by
 obtain⟨he,Y,R⟩:=Cal.facts hc;refine aG mixed rfl Fh ?_;simp only[uX,jr,apK,gI,DC,Q,RN,F,H,I,J,N,O];refine aH l.length (fun i (es:List (DV×DV))=>⟨[(2,pI y),(3, .ptr 7 0),(7, .tsl 2 i 0),(12, .d (.slice ex (l.map Fs.dv))),(13,pI l.length),(14,pI i)],
   ⟨[x0,x1,x2,x3,x4,some [.iW es],x6,some [pI c.ep, .d (sF (c.cy.map ay)),pI m.n,pI m.d,pI m.ad, .tsl 0 4001 0, .mref 5]],[3,2,1,0],
    [some ⟨1,(c.firsts 4002).map ay,4001,0⟩,some ⟨1,[],0,0⟩,some ⟨1,((l.take i).map (kW c m y)).map ay,i,0⟩]⟩⟩)
  (fun i es=>ae7 c m y es) 0 [] (ab _) rfl (.inl rfl) (fun i es h1 b=> ?_) (fun es b=> ?_)
 ·obtain⟨h2,X,q⟩:=rng h1 (by omega)
  have P:=Fs.facts (hb _ (getD_mem h1));have g:((l.take i).map (kW c m y)).map ay++ [dI (kW c m y (l.getD i default))]=((l.take (i+1)).map (kW c m y)).map ay:=by
   rw[aS h1];simp[ay]
  have Z:(((l.take i).map (kW c m y)).map ay).length<=6:=by simp;omega
  have a:(kW c m y (l.getD i default))=(if(l.getD i default).mv then sunday c m y+(l.getD i default).af else if jY c ⟨y,(l.getD i default).mo,(l.getD i default).da⟩then AU c (c.firsts 4002) ⟨y,(l.getD i default).mo,(l.getD i default).da⟩else -1):=rfl;have ac:=XC c m y hc T;have t:=hx x0 (by simp) 8 3 (by omega) (by omega);have u:=hx x1 (by simp) 8 3 (by omega) (by omega);have v:=hx x2 (by simp) 8 3 (by omega) (by omega);have w:=hx x3 (by simp) 8 3 (by omega) (by omega);have z:=hx x4 (by simp) 8 3 (by omega) (by omega);have A:=hx x6 (by simp) 8 3 (by omega) (by omega);simp only[h2,X,h1,q,xH,getD_map,S,Q,RN,F,H,I,J,N,O];cases e:(l.getD i default).mv
  ·obtain⟨B,D⟩:=P.2 e
   rw[e]at a;simp only[bl,if_false]at a;have hd:=aax c m (c.firsts 4002) (some es) ⟨y,(l.getD i default).mo,(l.getD i default).da⟩ (by omega) (fun n h=>by have:=R n h;omega);rw[rO,pY]at hd;(try simp only[RN,F,H,I,J,N,O]);refine kS (WC (BZ rfl rfl)) rfl hd rfl ?_;cases o:jY c ⟨y,(l.getD i default).mo,(l.getD i default).da⟩
   ·rw[o]at a
    simp only[bl,if_false]at a;simp only[DV.strip,fits_int,forall_eq,RN,F,H,I,J,N,O]
    (repeat(refine aD (by first|assumption|rfl|(simp;done)|(simp;omega)) ?_))
    rw[<-a,g,q];exact jv 8 3 es h1 rfl b (by decide) (by decide) rfl (by simp only[bj,bX,b4,t,u,v,w,z,A];rfl)
   ·rw[o]at a
    simp only[if_true]at a;(try simp only[RN,F,H,I,J,N,O]);have j:=aiW c m (c.firsts 4002) (some es) ⟨y,(l.getD i default).mo,(l.getD i default).da⟩ (by omega) (fun n h=>by have:=R n h;omega) (yC c hc) (by rw[vM];simp only;omega) B D;rw[rO,pY]at j;refine kS (WC (BZ rfl rfl)) rfl j rfl ?_;simp only[DV.strip,fits_int,forall_eq,RN,F,H,I,J,N,O]
    (repeat(refine aD (by first|assumption|rfl|(simp;done)|(simp;omega)) ?_))
    rw[<-a,g,q];exact jv 8 3 es h1 rfl b (by decide) (by decide) rfl (by simp only[bj,bX,b4,t,u,v,w,z,A];rfl)
  ·obtain⟨B,D⟩:=P.1 e
   rw[e]at a;simp only[if_true]at a;have V:cm .i64 (sunday c m y+(l.getD i default).af)=sunday c m y+(l.getD i default).af:=aF (by omega);(try simp only[RN,F,H,I,J,N,O]);obtain⟨⟨r,W,U⟩,s,E,G,K⟩:=ah0 (x0:=x0) (x1:=x1) (x2:=x2) (x3:=x3) (x4:=x4) (x6:=x6) (x7:=some [pI c.ep, .d (sF (c.cy.map ay)),pI m.n,pI m.d,pI m.ad, .tsl 0 4001 0, .mref 5])
    (x8:=some [.d (.bool true),pI ((l.getD i default).mo),pI ((l.getD i default).da),pI ((l.getD i default).af)])
    (x9:=some [pI y,pI ((l.getD i default).mo),pI ((l.getD i default).da)]) (fz:=[8,3,2,1,0])
    (A1:=some ⟨1,[],0,0⟩) (A2:=some ⟨1,((l.take i).map (kW c m y)).map ay,i,0⟩) c m y es hc hm T b (by decide) (by decide)
   simp only at E G K;subst G K;refine⟨_,_,s,?_⟩;simp only[V,DV.strip,fits_int,forall_eq,RN,F,H,I,J,N,O]
   (repeat(refine aD (by first|assumption|rfl|(simp;done)|(simp;omega)) ?_))
   have L:r.take 8=[x0,x1,x2,x3,x4,some [.iW (FM c m y)],x6,some [pI c.ep, .d (sF (c.cy.map ay)),pI m.n,pI m.d,pI m.ad, .tsl 0 4001 0, .mref 5]]:=by
    have:=congrArg (List.take 8) E;rw[List.take_take]at this;exact this
   rw[<-a,g,q];exact jv 8 3 (FM c m y) h1 (by rw[L];rfl) (.inr rfl) (by decide) (by decide) rfl (by rw[L];simp only[b4,t,u,v,w,z,A];rfl)
 ·simp only[am,RN,F,H,I,J,N,O]
  rw[b9];exact⟨2,_,rfl,rfl⟩
end Go.Tel
namespace Go.Tel
open Go.Am
def vY (c:Cal)(m:gK)(l:List Fs)(y:Int):DV:=
 if c.ok&&m.ok&&jA l&&inR y 0 4000 then .tup [sF ((l.map (kW c m y)).map ay),dI 0]else .tup [.slice true [],dI 2]
def tC {l:List Fs}(h:jA l=true):l.length<=6/\∀f∈l,f.bad=false:=by
 simp only[jA,U,decide_eq_true_eq,bt]at h;refine⟨h.1,fun f a=> ?_⟩;have:=h.2;rw[List.any_eq_false]at this
 simpa using this f a
def anP {M:Mem}{v:PV}{sz st:Nat}{xs:List DV}{x y:DV}(h:KR M v sz xs st)(a:y= .tup [.slice false xs,x]):datum M (aco (iZ [v, .d x]) [v, .d x])=some y:=by
 subst a;obtain⟨k,ver,rfl,h⟩:=h;simp[iZ,aco,datum,cu,fA,Mem.row,h]
def Zx (c:Cal)(m:gK)(ex:Bool)(l:List Fs)(y:Int)(g:c.cy.length<=1000000):Pure C 31 [c.dv,m.dv, .slice ex (l.map Fs.dv),dI y] (.d (vY c m l y)) []:=by
 refine bU (aG mixed rfl TS ?_);simp only[Gu,Y9,fE,iy,RN,F,H,I,J,N,O];have a:=Yi c g;have b:=ajJ m;rw[fE]at a;rw[iy]at b;refine ak rfl rfl a ?_;cases f:c.ok
 ·(try simp only[RN,F,H,I,J,N,O])
  simp[vY,f,datum]
 ·(try simp only[RN,F,H,I,J,N,O])
  refine ak rfl rfl b ?_;cases q:m.ok
  ·(try simp only[RN,F,H,I,J,N,O])
   simp[vY,q,datum]
  ·(try simp only[RN,F,H,I,J,N,O])
   refine ak rfl rfl (ZB false l) ?_;cases i:jA l
   ·(try simp only[RN,F,H,I,J,N,O])
    simp[vY,i,datum]
   ·(try simp only[RN,F,H,I,J,N,O])
    refine ak rfl rfl (X7 y) ?_;cases r:inR y 0 4000
    ·(try simp only[RN,F,H,I,J,N,O])
     simp[vY,r,datum]
    ·(try simp only[RN,F,H,I,J,N,O])
     have s:0<=y/\y<=4000:=by simpa[inR]using r
     obtain⟨j,o⟩:=tC i;have t:=am1 (x0:=some [pI c.ep, .d (sF (c.cy.map ay))]) (x1:=some [pI m.n,pI m.d,pI m.ad]) c m f;rw[fE,iy]at t;refine SC.mono t ?_;rintro p M ⟨rfl,z,A,B,D,w,rfl⟩;refine SC.mono (agR c m l y f q s j o ?_) ?_
     ·intro x e n k h1 h2
      simp only[a7,aM,or_false]at e
      rcases e with rfl|rfl|h
      ·rfl
      ·rfl
      ·exact w x (by simpa using h) n k h1 h2
     ·intro v M u
      exact anP u (by simp[vY,f,q,i,r])
def Z5 (c:Cal)(d:Dt):DV:=if c.ok&&jY c d then .tup [dI (AU c (c.firsts 4002) d),dI 0]else .tup [dI 0,dI 2]
def X0 {c:Cal}{d:Dt}(h:jY c d=true):(0<=d.y/\d.y<=4000)/\(1<=d.m/\d.m<=12)/\1<=d.d/\d.d<=31:=by
 simp only[jY,U]at h;obtain⟨⟨h1,h2⟩,a⟩:=h;simp only[inR,U,decide_eq_true_eq,ge_iff_le]at h1 h2 a;have b:(d.m - 1).toNat<(aY (c.leap d.y)).length:=by rw[nO];omega
 have:=kY _ _ (getD_mem b);omega
def anY (c:Cal)(d:Dt)(g:c.cy.length<=1000000):Pure C 30 [c.dv,d.dv] (.d (Z5 c d)) []:=by
 refine ah mixed rfl aaU ?_;simp only[PW,dY,fE,pY,RN,F,H,I,J,N,O];have e:=Yi c g;rw[fE]at e;refine ak rfl rfl e ?_;cases b:c.ok
 ·(try simp only[RN,F,H,I,J,N,O])
  simp[Z5,b]
 ·(try simp only[RN,F,H,I,J,N,O])
  obtain⟨m,o,i⟩:=Cal.facts b;have j:=akg c ⟨0,0,0⟩ b;rw[fE,iy,rO]at j;refine ak rfl rfl j ?_;(try simp only[RN,F,H,I,J,N,O]);have hd:=aax c ⟨0,0,0⟩ (c.firsts 4002) (some []) d (by omega) (fun n h=>by have:=i n h;omega);rw[rO,pY]at hd;refine ak rfl rfl hd ?_;cases a:jY c d
  ·(try simp only[RN,F,H,I,J,N,O])
   simp[Z5,a]
  ·(try simp only[RN,F,H,I,J,N,O])
   obtain⟨p,k,l⟩:=X0 a;have f:=aiW c ⟨0,0,0⟩ (c.firsts 4002) (some []) d (by omega) (fun n h=>by have:=i n h;omega) (yC c b) (by rw[vM];omega) k l;rw[rO,pY]at f;refine ak rfl rfl f ?_;(try simp only[RN,F,H,I,J,N,O]);simp[Z5,a,b]
end Go.Tel
namespace Go.Tel
open Go.Am
section
variable {C:Ctx}{base:Nat}{bs:List (Option (List PV))}{fz:List Nat}{ar:List (Option Arr)}{L:PV->Mem->Prop}{KP:DV->Mem->Prop}
def aoL {k k':IntKind}{a b:Int}:au C base (.shf .shr) [.d (.int k a), .d (.int k' b)] ⟨bs,fz,ar⟩ L KP=(0<=b/\L (.d (.int k (a.fdiv (2 ^ min b.toNat k.bits)))) ⟨bs,fz,ar⟩):=propext ⟨id,id⟩
end
def amK (n:Int):Pure C 343 [dI n] (.d (.bool false)) []:=by
 refine ah mixed rfl Ol ?_;simp only[Cb,aK,RN,F,H,I,J,N,O];simp
def ajK (n:Int):Pure C 323 [dI n] (.d (.bool false)) []:=by
 refine ah mixed rfl IU ?_;simp only[xZ,aK,RN,F,H,I,J,N,O];simp
def apC (a b:Int):Pure C 318 [dI a,dI b] (.d (.bool (decide (a<b)))) []:=by
 refine ah mixed rfl QS ?_;simp only[EM,aJ,RN,F,H,I,J,N,O];refine ak rfl rfl (amK _) ?_;(try simp only[RN,F,H,I,J,N,O])
structure aeZ (xs:List Int) (n:Int) (p:Nat):Prop where
 le:p<=xs.length
 lt:∀k,k<p->xs.getD k default<n
 ge:∀k,p<=k->k<xs.length->n<=xs.getD k default
def anQ {n:Nat}(h:n<18446744073709551616):IntKind.u64.wrap (n:Int)=n:=by
 simp only[IntKind.wrap,IntKind.bits,IntKind.signed,ax,bl,if_false];omega
def half (a b:Nat)(h:a<b)(hb:b<=1000000):cm .i64 (IntKind.u64.wrap (cm .i64 ((a:Int)+(b:Int)))|>.fdiv (2 ^ min (1:Int).toNat IntKind.u64.bits))=(((a+b) / 2:Nat):Int):=by
 rw[aF (n:=(a:Int)+b) (by omega)];have c:IntKind.u64.wrap ((a:Int)+b)=(a:Int)+b:=by have:=anQ (n:=a+b) (by omega);simpa using this
 rw[c];have d:((a:Int)+b).fdiv (2 ^ min (1:Int).toNat IntKind.u64.bits)=(((a+b) / 2:Nat):Int):=by
  have:(2:Int) ^ min (1:Int).toNat IntKind.u64.bits=2:=by decide
  rw[this,Int.fdiv_eq_ediv_of_nonneg _ (by decide)];omega
 rw[d];exact aF (by omega)
def af6 (xs:List Int)(n:Int)(p:Nat)(hl:xs.length<=1000000)(r:aeZ xs n p):Pure C 293 [sF (xs.map ay),dI n] (.d (.tup [dI p, .bool (decide (p<xs.length/\xs.getD p default=n))])) []:=by
 refine ah mixed rfl yU ?_;simp only[nU,dY,Q,RN,F,H,I,J,N,O];refine jo (fun q:Nat×Nat=>⟨[(0, .d (sF (xs.map ay))),(1,pI n),(6,pI xs.length),(7,pI q.1),(8,pI q.2)],⟨[],[],[]⟩⟩)
  (fun q=>q.1<=p/\p<=q.2/\q.2<=xs.length) (fun q=>q.2 - q.1) (0,xs.length) rfl ⟨ab _,r.le,bh _⟩ ?_
 rintro⟨a,b⟩ ⟨s,t,i⟩;simp only at s t i⊢
 by_cases k:a<b
 ·have c:(a:Int)<b:=by omega
  have hh:=half a b k (by omega);obtain⟨h,o⟩:∃h,h=(a+b) / 2:=⟨_,rfl⟩
  rw[<-o]at hh;have u:h<xs.length:=by omega
  have w:(0:Int)<=(h:Int):=by omega
  have x:cm .i64 ((h:Int)+1)=((h+1:Nat):Int):=by rw[aF (by omega)];omega
  simp only[c,aoL,hh,u,w,Q,getD_map,S,aI,RN,F,H,I,J,N,O]
  (repeat(refine aD (by first|assumption|rfl|(simp;done)|(simp;omega)) ?_))
  refine ak rfl rfl (apC _ _) ?_
  by_cases g:xs.getD h default<n
  ·simp only[g,x,RN,F,H,I,J,N,O]
   refine uN (μ:=fun q:Nat×Nat=>q.2 - q.1) (a:=(a,b)) (h+1,b) (by simp only;omega) rfl ⟨?_,t,i⟩;simp only;refine Nat.lt_of_not_le fun f=> ?_
   have:=r.ge h f u;omega
  ·simp only[g,RN,F,H,I,J,N,O]
   refine uN (μ:=fun q:Nat×Nat=>q.2 - q.1) (a:=(a,b)) (a,h) (by simp only;omega) rfl ⟨s,?_,by simp only;omega⟩;simp only;refine Nat.le_of_not_lt fun f=> ?_
   exact g (r.lt h f)
 ·have c:¬(a:Int)<b:=by omega
  obtain rfl:a=p:=by omega
  by_cases e:a<xs.length
  ·have j:(a:Int)<(xs.length:Int):=by omega
   have v:(0:Int)<=(a:Int):=by omega
   by_cases l:xs.getD a default=n
   ·simp only[c,j,v,e,Q,getD_map,S,aI,l,beq_self_eq_true,RN,F,H,I,J,N,O]
   ·have m:(xs.getD a default==n)=false:=beq_false_of_ne l
    simp only[c,j,v,e,Q,getD_map,S,aI,l,m,RN,F,H,I,J,N,O];refine ak rfl rfl (ajK _) ?_;(try simp only[RN,F,H,I,J,N,O])
  ·have j:¬(a:Int)<(xs.length:Int):=by omega
   simp only[c,j,e,false_and,RN,F,H,I,J,N,O]
def Dy (c:Cal)(y:Nat):c.first y+365<=c.first (y+1)/\c.first (y+1)<=c.first y+366:=by
 rw[Cal.first,mY]
 split<;>omega
def Dx (c:Cal){a b:Nat}(h:a<=b):c.first a<=c.first b:=by
 induction b with
 |zero=>
  obtain rfl:a=0:=by omega
  exact bc _
 |succ b e=>
  by_cases d:a=b+1
  ·rw[d];exact bc _
  ·have:=e (by omega)
   have:=Dy c b;omega
def nK (c:Cal){n k:Nat}(h:k<n):(c.firsts n).getD k default=c.first k:=by
 simp[Cal.firsts,List.getD,h]
def firstAt (c:Cal)(Y:Nat)(day:Int)(e:Y<=4000)(h1:c.first Y<=day)(h2:day<c.first (Y+1)):aeZ (c.firsts 4002) day (if c.first Y=day then Y else Y+1):=by
 have d:=vM c 4002;refine⟨by rw[d];split<;>omega,fun k a=> ?_,fun k a b=> ?_⟩
 ·split at a
  ·rw[nK c (by omega)]
   have:=Dx c (show k+1<=Y by omega);have:=Dy c k;omega
  ·rw[nK c (by omega)]
   have:=Dx c (show k<=Y by omega);omega
 ·rw[d]at b
  rw[nK c (by omega)]
  split at a
  ·have:=Dx c (show Y<=k by omega)
   omega
  ·have:=Dx c (show Y+1<=k by omega)
   omega
def aaN:List Int->Int->Int->Int×Int
 | [],_,_=>(0,0)
 |n::l,i,left=>if left<n then(i+1,left+1)else aaN l (i+1) (left - n)
def SA (c:Cal)(Y:Nat)(day:Int):Dt:=let r:=aaN (aY (c.leap Y)) 0 (day - c.first Y);⟨Y,r.1,r.2⟩
def KN:∀(l:List Int) (p:Int),dS l p=p+dS l 0
 | [],p=>by simp[dS]
 |x::l,p=>by
  rw[dS,dS,KN l (p+x),KN l (0+x)];omega
def aox (c:Cal)(m:gK)(es:Option (List (DV×DV)))(Y:Nat)(day:Int)(hc:c.ok=true)(K:Y<=4000)(h1:c.first Y<=day)(h2:day<c.first (Y+1)):Pure C 251 [abq c m (c.firsts 4002) es,dI day] (.d (SA c Y day).dv) []:=by
 obtain⟨j,hl,P⟩:=Cal.facts hc;have k:=vM c 4002;have L:=c.kG Y;have z:=c.kG (Y+1);refine bU (aG mixed rfl IC ?_);simp only[xK,akO,rO,Q,RN,F,H,I,J,N,O];refine ak rfl rfl (af6 (c.firsts 4002) day _ (by omega) (firstAt c Y day K h1 h2)) ?_;have hh:(decide ((if c.first Y=day then Y else Y+1)<(c.firsts 4002).length/\(c.firsts 4002).getD (if c.first Y=day then Y else Y+1) default=day))=decide (c.first Y=day):=by
  by_cases j:c.first Y=day
  ·rw[if_pos j,k,nK c (by omega)];simp[j];omega
  ·rw[if_neg j,k,nK c (by omega)];simp[j];omega
 rw[hh];have B:cm .i64 (((Y+1:Nat):Int) - 1)=(Y:Int):=by rw[aF (by omega)];omega
 have A:cm .i64 (day - c.first Y)=day - c.first Y:=aF (by omega);have x:inR (Y:Int) 0 4000=true:=by simp[inR];omega
 have T:(0:Int)<=(Y:Int):=by omega
 have U:Y<(c.firsts 4002).length:=by omega
 have l:=Yl c m (c.firsts 4002) es Y (by omega) (fun n h=>by have:=P n h;omega);rw[rO]at l;have t:=nO (c.leap Y);have f:∃(q:Nat) (b:Bool),(if c.first Y=day then Y else Y+1)=q/\decide (c.first Y=day)=b/\((b=true/\q=Y)\/(b=false/\q=Y+1)):=by
  by_cases f:c.first Y=day
  ·exact⟨Y,true,if_pos f,decide_eq_true f, .inl ⟨rfl,rfl⟩⟩
  ·exact⟨Y+1,false,if_neg f,decide_eq_false f, .inr ⟨rfl,rfl⟩⟩
 obtain⟨q,b,u,v,w⟩:=f;rw[u,v];have s:=nK c (show Y<4002 by omega)
 rcases w with⟨rfl,o⟩|⟨rfl,o⟩<;>rw[o]
 all_goals
  simp only[B,RN,F,H,I,J,N,O];refine ak rfl rfl (X7 _) ?_;simp only[x,T,U,S,getD_map,aI,s,A,Q,RN,F,H,I,J,N,O];refine ak rfl rfl l ?_;(try simp only[RN,F,H,I,J,N,O]);refine ak rfl rfl (LM _) ?_;simp only[Q,t,RN,F,H,I,J,N,O];refine aH 12 (fun i (left:Int)=>⟨[(1,pI day),(4, .ptr 1 0),(5,pI Y),(7,pI left),(37, .d (sF ((aY (c.leap Y)).map ay))),(38, .d (dI ((12:Nat):Int))),(39,pI i)],
    ⟨[some [pI c.ep, .d (sF (c.cy.map ay)),pI m.n,pI m.d,pI m.ad, .d (sF ((c.firsts 4002).map ay)), .d (.map es)],some [pI 0,pI 0,pI 0]],[0],[]⟩⟩)
   (fun i left=>0<=left/\left<=400/\left<dS ((aY (c.leap Y)).drop i) 0/\aaN (aY (c.leap Y)) 0 (day - c.first Y)=aaN ((aY (c.leap Y)).drop i) i left) 0 (day - c.first Y) (ab _) rfl ⟨by omega,by have:=Dy c Y;omega,by rw[Cal.first]at h2;simp only[bR];unfold wH at h2;omega,by simp⟩ (fun i left D e=> ?_) (fun left e=> ?_)
  ·obtain⟨V,W,y,g⟩:=e
   have E:(i:Int)<((12:Nat):Int):=by omega
   have G:(0:Int)<=(i:Int):=by omega
   have r:cm .i64 ((i:Int)+1)=((i+1:Nat):Int):=by rw[aF (by omega)];omega
   have p:i<(aY (c.leap Y)).length:=by omega
   have M:=kY _ _ (getD_mem p);rw[drop_cons p,aaN]at g;rw[drop_cons p,dS]at y;have R:=KN ((aY (c.leap Y)).drop (i+1)) (0+(aY (c.leap Y)).getD i default);have X:cm .i64 (left+1)=left+1:=aF (by omega);have Z:cm .i64 (left - (aY (c.leap Y)).getD i default)=left - (aY (c.leap Y)).getD i default:=aF (by omega);simp only[E,G,p,r,Q,S,getD_map,aI,RN,F,H,I,J,N,O]
   by_cases a:left<(aY (c.leap Y)).getD i default
   ·rw[if_pos a]at g
    simp only[a,r,X,RN,F,H,I,J,N,O];rw[SA,g,pY]
    rfl
   ·rw[if_neg a]at g
    simp only[a,r,Z,RN,F,H,I,J,N,O];exact bn (len:=12) (i:=i) (left - (aY (c.leap Y)).getD i default) D rfl ⟨by omega,by omega,by omega,g⟩
  ·obtain⟨V,W,y,g⟩:=e
   rw[List.drop_eq_nil_of_le (by omega),dS]at y;omega
def xR:aA:=(r0 [⟨some 2,.alloc 0 [z0],[],none,0⟩] 1 [0,2] [])
def xU:aA:=(sw (r0 [⟨some 4,.mov,[.t 0],none,0⟩,⟨some 5,.jg,[.t 4],none,0⟩] 0 [2] []) (sw (r0 [⟨none,.store 1,[.t 2,.c (.int .i64 0)],none,0⟩] 0 [2] []) .ret))
def jT:aA:=(.block 0 (sw (r0 [⟨some 7,.DI false,[.t 5,.c (.nilIface)],none,0⟩] 0 [0,5,7] []) (cd 7 (r0 [⟨some 1,.mov,[.t 5],none,0⟩] 0 [] []) (sw (r0 [⟨some 8,.tas T.iT (.agg [.nilIface]),[.t 5],none,0⟩,⟨some 9,.ext 1,[.t 8],none,0⟩,⟨some 10,.ext 0,[.t 8],none,0⟩] 0 [0,5,9,10] []) (cd 9 (sw (r0 [⟨some 2,.alloc 0 [.nilIface],[],none,0⟩,⟨none,.store 1,[.t 2,.t 10],none,0⟩] 1 [0] []) (r0 [⟨none,.store 1,[.t 0,.c (.int .i64 7)],none,0⟩] 0 [] [])) (sw (r0 [⟨some 11,.tas T.qV (.agg [.str ⟨#[]⟩]),[.t 5],none,0⟩,⟨some 12,.ext 1,[.t 11],none,0⟩,⟨some 13,.ext 0,[.t 11],none,0⟩] 0 [0,5,12,13] []) (cd 12 (sw (r0 [⟨some 3,.alloc 0 [.str ⟨#[]⟩],[],none,0⟩,⟨none,.store 1,[.t 3,.t 13],none,0⟩] 1 [0] []) (r0 [⟨none,.store 1,[.t 0,.c (.int .i64 4)],none,0⟩] 0 [] [])) (sw (r0 [⟨some 4,.mov,[.t 5],none,0⟩] 0 [4] []) (r0 [⟨some 6,.mov,[.t 4],none,0⟩,⟨none,.panic,[.t 6],none,0⟩] 0 [] [])))))))))
def LW:XW C.P 72 162 1 6 14 2 3 5 xR xU jT=true:=by kernel_rfl
def Jb:aA:=(r0 [⟨some 2,.alloc 0 [z0],[],none,0⟩] 1 [0,2] [])
def Jc:aA:=(sw (r0 [⟨some 4,.mov,[.t 0],none,0⟩,⟨some 5,.jg,[.t 4],none,0⟩] 0 [2] []) (sw (r0 [⟨none,.store 1,[.t 2,.c (.int .i64 0)],none,0⟩] 0 [2] []) .ret))
def EN:aA:=(.block 0 (sw (r0 [⟨some 7,.DI false,[.t 5,.c (.nilIface)],none,0⟩] 0 [0,5,7] []) (cd 7 (r0 [⟨some 1,.mov,[.t 5],none,0⟩] 0 [] []) (sw (r0 [⟨some 8,.tas T.N8 (.agg [z0]),[.t 5],none,0⟩,⟨some 9,.ext 1,[.t 8],none,0⟩,⟨some 10,.ext 0,[.t 8],none,0⟩] 0 [0,5,9,10] []) (cd 9 (sw (r0 [⟨some 2,.alloc 0 [z0],[],none,0⟩,⟨none,.store 1,[.t 2,.t 10],none,0⟩] 1 [0] []) (r0 [⟨none,.store 1,[.t 0,.c (.int .i64 5)],none,0⟩] 0 [] [])) (sw (r0 [⟨some 11,.tas T.agH (.agg [.str ⟨#[]⟩]),[.t 5],none,0⟩,⟨some 12,.ext 1,[.t 11],none,0⟩,⟨some 13,.ext 0,[.t 11],none,0⟩] 0 [0,5,12,13] []) (cd 12 (sw (r0 [⟨some 3,.alloc 0 [.str ⟨#[]⟩],[],none,0⟩,⟨none,.store 1,[.t 3,.t 13],none,0⟩] 1 [0] []) (r0 [⟨none,.store 1,[.t 0,.c (.int .i64 4)],none,0⟩] 0 [] [])) (sw (r0 [⟨some 4,.mov,[.t 5],none,0⟩] 0 [4] []) (r0 [⟨some 6,.mov,[.t 4],none,0⟩,⟨none,.panic,[.t 6],none,0⟩] 0 [] [])))))))))
def aaX:XW C.P 249 292 1 6 14 2 3 5 Jb Jc EN=true:=by kernel_rfl
end Go.Tel
namespace Go.Am
def WI {C:Ctx}{base:Nat}{M:Mem}{K:PV->Mem->Prop}{KP:DV->Mem->Prop}{f:FuncId}{fs cs args:List PV}:au C base .jg (.func (.func f) fs cs::args) M K KP=(callable C.P f=true/\SC C f (fs++args++cs) M K KP):=propext ⟨id,id⟩
section
variable {C:Ctx}{base te t5 b:Nat}{pc3:aA}{K:PV->Mem->Prop}{KP:DV->Mem->Prop}{env:List (Nat×PV)}{bs:List (Option (List PV))}{fz:List Nat}{ar:List (Option Arr)}{M:Mem}
def acj:ap0 C te t5 pc3 b K .ret ⟨env,⟨bs,fz,ar⟩⟩=pwp C bs.length ar.length pc3 (ED te b K) ⟨[(0, .ptr b 0),(t5, .d .nilIface)],⟨bs,fz,ar⟩⟩:=propext ⟨id,id⟩
def Vy {d:DV}:ap0 C te t5 pc3 b K (.panic d) ⟨env,⟨bs,fz,ar⟩⟩=pwp C bs.length ar.length pc3 (ED te b K) ⟨[(0, .ptr b 0),(t5, .d d)],⟨bs,fz,ar⟩⟩:=propext ⟨id,id⟩
def wC:ED te b K .normal ⟨env,⟨bs,fz,ar⟩⟩=bZ false 1 (.ptr b 0) ⟨bs,fz,ar⟩ fun v=>K v ⟨bs,fz,ar⟩:=propext ⟨id,id⟩
variable{neq:Bool}
def Px:au C base (.DI neq) [.d .nilIface, .d .nilIface] M K KP=K (.d (.bool !neq)) M:=propext ⟨id,id⟩
variable{v:DV}
def Pv {t:TypeId}:au C base (.DI neq) [.d (.iface t v), .d .nilIface] M K KP=K (.d (.bool neq)) M:=propext ⟨id,id⟩
variable{z:DV}
def mF {t:TypeId}:au C base (.tas t z) [.d (.iface t v)] M K KP=K (.d (.tup [v, .bool true])) M:=by simp[au]
def fU {t t':TypeId}(h:(t'==t)=false):au C base (.tas t z) [.d (.iface t' v)] M K KP=K (.d (.tup [z, .bool false])) M:=by
 have a:¬t'=t:=by simpa using h
 simp[au,a]
end
end Go.Am
namespace Go.Tel
open Go.Am
def aof (c:Cal)(Y:Nat)(day:Int)(hc:c.ok=true)(h:Y<=4000)(h1:c.first Y<=day)(h2:day<c.first (Y+1)):Pure C 175 [c.dv,dI day] (.d (.tup [(SA c Y day).dv,dI 0])) []:=by
 obtain⟨j,k,l⟩:=Cal.facts hc;have i:=c.kG Y;have e:=c.kG (Y+1);have hd:inR day 0 2000000=true:=by simp[inR];omega
 refine ah mixed rfl Yx ?_;simp only[L9,OU,fE,RN,F,H,I,J,N,O];have b:=Yi c (by omega);rw[fE,hc]at b;refine ak rfl rfl b ?_;(try simp only[RN,F,H,I,J,N,O]);refine ak rfl rfl (aiZ _) ?_;simp only[hd,lU,X,bX,bR,RN,F,H,I,J,N,O];refine alr mixed aaX ?_;simp only[Jb,RN,F,H,I,J,N,O];refine⟨4,rfl,?_⟩;simp only[Jc,WI,RN,F,H,I,J,N,O];refine⟨by kernel_rfl,aG mixed rfl TR ?_⟩;simp only[Gt,jq,RN,F,H,I,J,N,O];have f:=akg c ⟨0,0,0⟩ hc;rw[fE,iy,rO]at f;refine ak rfl rfl f ?_;(try simp only[RN,F,H,I,J,N,O]);have a:=aox c ⟨0,0,0⟩ (some []) Y day hc h h1 h2;rw[rO,pY]at a;refine ak rfl rfl a ?_;have g:((0:Int) !=0)=false:=rfl;(try simp only[RN,F,H,I,J,N,O]);simp only[acj,EN,Px,wC,g,RN,F,H,I,J,N,O];rw[pY]
def Jf:aA:=(sw (r0 [ba 2 0 0,al 4 1 [z0,z0,z0],mi 5 0] 2 [1,2,4] [2]) (sw (sr [lw 9 2 2,oa 10 (.aj 252) 9,oa 11 pN 10,mv 12 11,ow 13 .mov 1 12 0,ow 14 (.aj 253) 13 12 0,ow 15 pN 14 12 0,pt 16 12 15] 0 [1,2,4,16] (cd 16 (sr [on 17 (.build [z0,z0,z0] []) [],sk 3 4 17 0,mi 5 2] 0 [4,5] .ret) .skip)) (sw (sr [fa 18 1 2,lo 19 18,oa 20 .len 19,mi 21 0] 0 [1,2,4,20,21] (.block 0 (.loop (sr [ob 22 pL 21 20] 0 [1,2,4,20,21,22] (sw (cx 22 0) (sw (.block 1 (sr [mv 23 21,mv 6 23] 0 [1,2,4,6,20,21] (sw (r0 [lw 25 2 2,mv 26 6,mv 27 1,on 28 (.aj 254) [.t 25,.t 26,.t 27],mv 24 28,xa 29 0 24,xa 30 1 24,al 7 0 [z0,z0,z0],sk 3 7 29 0,mv 8 30] 1 [1,2,4,7,8,20,21] [7]) (sr [mv 31 8] 0 [1,2,4,7,20,21,31] (cd 31 (sr [lw 32 3 7,sk 3 4 32 0,mi 5 0] 0 [4,5] .ret) .skip))))) (rg [oi 33 pA 21 1,mv 21 33] 0 [1,2,4,20,21]))))))) (sr [on 34 (.build [z0,z0,z0] []) [],sk 3 4 34 0,mi 5 5] 0 [4,5] .ret))))
def VQ:aC C.P 176 2 Jf OU=true:=by kernel_rfl
def Ci:aA:=(sw (r0 [ba 1 0 0,ag 2 1,mi 3 0] 1 [1] [1]) (sw (sr [lw 8 2 1,oa 9 (.aj 252) 8,oa 10 pN 9] 0 [1,10] (cd 10 (sr [ag 2 1,mi 3 2] 0 [2,3] .ret) .skip)) (sr [ag 4 1] 0 [1,4] (sw (sr [mi 5 1] 0 [1,4,5] (.block 0 (.loop (sw (sr [mv 11 5,oi 12 (.bin .leq) 11 400] 0 [1,4,5,12] (cx 12 0)) (sw (.block 1 (sr [lw 16 2 1,mv 17 5,ob 18 (.aj 176) 16 17,mv 15 18,xa 19 0 15,xa 20 1 15,al 6 0 [z0,z0,z0],sk 3 6 19 0,mv 7 20] 1 [1,4,5,7] (sr [mv 21 7,oi 22 pE 21 0] 0 [1,4,5,22] (cd 22 (rg [mv 23 4,mv 24 5,oa 25 (.gu 1 [z0] [0]) 24,ob 26 (.app 1 false) 23 25,mv 4 26] 0 [1,4,5]) .skip)))) (rg [mv 13 5,oi 14 pA 13 1,mv 5 14] 0 [1,4,5])))))) (sr [mv 27 4,mv 2 27,mi 3 0] 0 [2,3] .ret)))))
def Oo:aC C.P 198 1 Ci Zb=true:=by kernel_rfl
def zi:aA:=(sw (r0 [ba 1 0 0,mf 2 false] 1 [1] [1]) (sr [fa 3 0 1,lo 4 3,on 5 (.aj 294) [.t 4,kI 1,kI 60],mv 6 5,ov 7 (.fld 1) 1 6 0,ov 8 (.load false 1) 7 6 0,ov 9 .len 8 6 0,ot 10 (.aj 294) [.t 9,kI 1,kI 6] 6 0,pf 11 6 10,mv 12 11,ov 13 (.fld 1) 1 12 0,ov 14 (.load false 1) 13 12 0,ot 15 (.aj 179) [.t 14,.c (.func (.func 295) [] [])] 12 0,ov 16 pN 15 12 0,pf 17 12 16,mv 2 17] 0 [2] .ret))
def J9:aC C.P 252 1 zi aK=true:=by kernel_rfl
def Cj:aA:=(sr [mf 2 false] 0 [0] (sr [mv 3 0,on 4 (.aj 294) [.t 3,kI 1,kI 400],mv 2 4] 0 [2] .ret))
def Oq:aC C.P 253 1 Cj aK=true:=by kernel_rfl
def Jg:aA:=(sw (r0 [ba 3 0 0,al 6 1 [z0,z0,z0],mf 7 false] 2 [1,2,3,6] [3]) (sr [fa 10 1 3,lo 11 10,mv 12 1,ix 13 1 11 12,lo 14 13,mv 8 14] 0 [1,2,3,6,8] (sr [fa 15 0 3,lo 16 15,mv 17 8,ob 18 pM 16 17,mv 9 18] 0 [1,2,6,8,9] (sw (r1 [mv 19 1,mv 20 9,mv 21 2,ob 22 (.bin .quo) 20 21,mv 23 8,ob 24 (.bin .quo) 22 23,mv 25 9,mv 26 2,ob 27 (.bin .quo) 25 26,mv 28 8,ob 29 (.bin .rem) 27 28,on 30 (.build [z0,z0,z0] [(0,1),(1,1),(2,1)]) [.t 19,.t 24,.t 29],mv 31 9,mv 32 2,ob 33 (.bin .rem) 31 32,oi 34 pE 33 0,sk 3 6 30 0,mv 7 34] 0 [6,7] []) .ret))))
def VR:aC C.P 254 3 Jg akP=true:=by kernel_rfl
def P5:aA:=(sr [mf 6 false] 0 [0,1,2] (sr [mv 7 0,mv 8 1,ob 9 (.bin .geq) 7 8,mv 10 9,ov 11 .mov 0 10 0,ov 12 .mov 2 10 0,obT 13 (.bin .leq) 11 12 10 0,pf 14 10 13,mv 6 14] 0 [6] .ret))
def aaZ:aC C.P 294 3 P5 jr=true:=by kernel_rfl
def wU:aA:=(sr [mf 2 false] 0 [0] (sr [mv 3 0,on 4 (.aj 294) [.t 3,kI 1,kI 120],oa 5 pN 4,mv 2 5] 0 [2] .ret))
def Gh:aC C.P 295 1 wU aK=true:=by kernel_rfl
end Go.Tel
namespace Go.Tel
open Go.Am
def apA (n l h:Int):Pure C 294 [dI n,dI l,dI h] (.d (.bool (inR n l h))) []:=by
 refine ah mixed rfl aaZ ?_
 by_cases h1:n>=l<;>simp only[h1,inR,P5,jr,ax,RN,F,H,I,J,N,O]
structure Dvd where
 eF:Int
 cir:List Int
 deriving DecidableEq,Inhabited
structure Ix where
 circle:Int
 turns:Int
 holes:Int
 deriving DecidableEq,Inhabited
def Dvd.dv (d:Dvd):DV:= .agg [dI d.eF,sF (d.cir.map ay)]
def Ix.dv (d:Ix):DV:= .agg [dI d.circle,dI d.turns,dI d.holes]
variable{d:Dvd}
def sZ:d.dv= .agg [dI d.eF,sF (d.cir.map ay)]:=by rw[Dvd.dv]
def EI {d:Ix}:d.dv= .agg [dI d.circle,dI d.turns,dI d.holes]:=by rw[Ix.dv]
def Dvd.ok (d:Dvd):Bool:=inR d.eF 1 60&&inR d.cir.length 1 6&&d.cir.all (fun n=>inR n 1 120)
def VK (n:Int):Pure C 295 [dI n] (.d (.bool (!inR n 1 120))) []:=by
 refine ah mixed rfl Gh ?_;simp only[wU,aK,RN,F,H,I,J,N,O];refine ak rfl rfl (apA _ _ _) ?_;(try simp only[RN,F,H,I,J,N,O])
def ag5 (n:Int):Pure C 253 [dI n] (.d (.bool (inR n 1 400))) []:=by
 refine ah mixed rfl Oq ?_;simp only[Cj,aK,RN,F,H,I,J,N,O];refine ak rfl rfl (apA _ _ _) ?_;(try simp only[RN,F,H,I,J,N,O])
def PG (d:Dvd)(hl:d.cir.length<=1000000):Pure C 252 [d.dv] (.d (.bool d.ok)) []:=by
 refine ah mixed rfl J9 ?_;simp only[zi,aK,sZ,RN,F,H,I,J,N,O]
 repeat' first
  |(refine ak rfl rfl (apA _ _ _) ?_;try simp only[Q,RN,F,H,I,J,N,O])
  |(refine ak rfl rfl (sQ d.cir _ [] (fun n=> !inR n 1 120) hl (by kernel_rfl) (fun n _=>VK n)) ?_;try simp only[Q,RN,F,H,I,J,N,O])
  |(refine bF (by rfl) (fun a=> ?_) (fun a=> ?_)<;>simp only[a,Q,RN,F,H,I,J,N,O])
  |(refine bJ (by rfl) (fun a=> ?_) (fun a=> ?_)<;>simp only[a,Q,RN,F,H,I,J,N,O])
 all_goals(first|(rw[Dh])|skip)
 all_goals(first|(simp only[Dvd.ok, *,BSN];done)|(simp_all[Dvd.ok];done)|(simp_all[Dvd.ok];omega))
def aiU (eF h t i:Int):Ix:=⟨i,((eF*h).tdiv t).tdiv h,((eF*h).tdiv t).tmod h⟩
def JC (eF h t:Int):Bool:=(eF*h).tmod t==0
def aov (d:Dvd)(i:Nat)(t:Int)(b:1<=d.eF/\d.eF<=60)(hi:i<d.cir.length)(hc:1<=d.cir.getD i default/\d.cir.getD i default<=120)(m:1<=t):
  Pure C 254 [d.dv,dI i,dI t] (.d (.tup [(aiU d.eF (d.cir.getD i default) t i).dv, .bool (JC d.eF (d.cir.getD i default) t)])) []:=by
 have a:(0:Int)<=(i:Int):=by omega
 have l:1<=d.eF*d.cir.getD i default/\d.eF*d.cir.getD i default<=7200:=by
  have h1:=Z b.2 hc.2 (by omega) (by omega);have h2:=Z b.1 hc.1 (by omega) (by omega);omega
 have c:cm .i64 (d.eF*d.cir.getD i default)=d.eF*d.cir.getD i default:=aF (by omega);have j:((d.eF*d.cir.getD i default).tdiv t).natAbs<=7200:=by
  have:=nC (d.eF*d.cir.getD i default) t;omega
 have e:cm .i64 ((d.eF*d.cir.getD i default).tdiv t)=(d.eF*d.cir.getD i default).tdiv t:=aF (by omega);have k:(((d.eF*d.cir.getD i default).tdiv t).tdiv (d.cir.getD i default)).natAbs<=7200:=by
  have:=nC ((d.eF*d.cir.getD i default).tdiv t) (d.cir.getD i default);omega
 have f:cm .i64 (((d.eF*d.cir.getD i default).tdiv t).tdiv (d.cir.getD i default))=((d.eF*d.cir.getD i default).tdiv t).tdiv (d.cir.getD i default):=aF (by omega);have g:t≠0:=by omega
 have h:d.cir.getD i default≠0:=by omega
 refine ah mixed rfl VR ?_;simp only[Jg,akP,sZ,hi,a,getD_map,S,Q,aI,c,e,f,g,h,EI,aiU,JC,RN,F,H,I,J,N,O]
def EH (eF t:Int):Nat->List Int->Option Ix
 | _,[]=>none
 |i,h::a=>if JC eF h t then some (aiU eF h t i)else EH eF t (i+1) a
def Dvd.cuts (d:Dvd)(t:Int):Ix×Int:=
 if d.ok&&inR t 1 400 then(match EH d.eF t 0 d.cir with|some x=>(x,0)|none=>(⟨0,0,0⟩,5))else(⟨0,0,0⟩,2)
def Dvd.TW (h:d.ok=true):(1<=d.eF/\d.eF<=60)/\(1<=d.cir.length/\d.cir.length<=6)/\∀n∈d.cir,1<=n/\n<=120:=by
 simp only[Dvd.ok,inR,U,decide_eq_true_eq,aE,ge_iff_le]at h;obtain⟨⟨h1,h2⟩,a⟩:=h;exact⟨h1,by omega,a⟩
def acB (d:Dvd)(t:Int)(hl:d.cir.length<=1000000):Pure C 176 [d.dv,dI t] (.d (.tup [(d.cuts t).1.dv,dI (d.cuts t).2])) []:=by
 refine ah mixed rfl VQ ?_;simp only[Jf,OU,sZ,RN,F,H,I,J,N,O]
 repeat' first
  |(refine ak rfl rfl (PG d hl) ?_;try simp only[Q,EI,RN,F,H,I,J,N,O])
  |(refine ak rfl rfl (ag5 t) ?_;try simp only[Q,EI,RN,F,H,I,J,N,O])
  |(refine bF (by rfl) (fun b=> ?_) (fun b=> ?_)<;>simp only[b,Q,EI,RN,F,H,I,J,N,O])
  |(refine bJ (by rfl) (fun b=> ?_) (fun b=> ?_)<;>simp only[b,Q,EI,RN,F,H,I,J,N,O])
 any_goals (simp_all[Dvd.cuts,EI];done)
 have hd:d.ok=true:=by simp_all
 have g:inR t 1 400=true:=by simp_all
 obtain⟨k,l,c⟩:=Dvd.TW hd;have e:1<=t:=by simp only[inR,U,decide_eq_true_eq]at g;omega
 have an3:d.cuts t=(match EH d.eF t 0 d.cir with|some x=>(x,0)|none=>(⟨0,0,0⟩,5)):=by simp only[Dvd.cuts,hd,g,bB,if_true]
 refine aH d.cir.length (fun i (_:Unit)=>⟨[(1,pI t),(2, .d (.aW [dI d.eF,sF (d.cir.map ay)])),(4, .ptr 1 0),(20,pI d.cir.length),(21,pI i)],⟨[some [pI d.eF, .d (sF (d.cir.map ay))],some [pI 0,pI 0,pI 0]],[0],[]⟩⟩)
  (fun i _=>EH d.eF t 0 d.cir=EH d.eF t i (d.cir.drop i)) 0 () (ab _) rfl (by simp) (fun i _ h1 a=> ?_) (fun _ a=> ?_)
 ·obtain⟨h2,h,j⟩:=rng h1 hl
  rw[drop_cons h1,EH]at a;simp only[h2,h,h1,S,Q,RN,F,H,I,J,N,O];refine ak rfl rfl (aov d i t k h1 (c _ (getD_mem h1)) e) ?_;cases f:JC d.eF (d.cir.getD i default) t
  ·simp only[j,EI,RN,F,H,I,J,N,O]
   exact jv 2 0 () h1 rfl (by rw[a,f];rfl) (by simp) (by simp) rfl rfl
  ·simp only[EI,RN,F,H,I,J,N,O]
   rw[an3,a,f]
   rfl
 ·rw[ao,EH]at a
  simp only[am,RN,F,H,I,J,N,O];rw[an3,a]
def Dvd.first (d:Dvd)(t:Int):Option Ix:=EH d.eF t 0 d.cir
def asa (o:Option Ix):Ix:=o.getD ⟨0,0,0⟩
def Dvd.DT (d:Dvd)(n:Nat):List Int:=((b8 n).map fun(i:Nat)=>(i:Int)+1).filter fun t=>(d.first t).isSome
def Dvd.numbers (d:Dvd):List Int×Int:=if d.ok then(d.DT 400,0)else([],2)
def aaR (d:Dvd)(n:Nat):d.DT (n+1)=d.DT n++(if(d.first ((n:Int)+1)).isSome then[(n:Int)+1]else[]):=by
 rw[Dvd.DT,cf,aw,List.filter_append,<-Dvd.DT,aR,bk,List.filter_cons,List.filter_nil]
def ad4 (d:Dvd)(n:Nat):(d.DT n).length<=n:=by
 rw[Dvd.DT];refine cj (List.length_filter_le _ _) ?_;simp
def afW (d:Dvd)(hl:d.cir.length<=1000):Pure C 198 [d.dv] (.d (.tup [sF (d.numbers.1.map ay),dI d.numbers.2])) []:=by
 have hd:=PG d (by omega);rw[sZ]at hd;refine bU (aG mixed rfl Oo ?_);simp only[Ci,Zb,sZ,RN,F,H,I,J,N,O];refine ak rfl rfl hd ?_;cases f:d.ok
 ·have e:d.numbers=([],2):=by rw[Dvd.numbers,f];rfl
  simp only[bI,X,dR,RN,F,H,I,J,N,O];simp[datum,cu,fA,Mem.row,e]
 have e:d.numbers=(d.DT 400,0):=by rw[Dvd.numbers,f];rfl
 (try simp only[RN,F,H,I,J,N,O]);refine aH 400 (fun i (q:List Int×Nat)=>⟨[(1, .d (.aW [dI d.eF,sF (d.cir.map ay)])),(4, .tsl 1 q.2 0),(5, .d (dI ((i:Int)+1)))],⟨[some [pI d.eF, .d (sF (d.cir.map ay))]],[0],[some ⟨1,[],0,0⟩,some ⟨1,q.1.map ay,q.2,0⟩]⟩⟩)
  (fun i q=>q.1=d.DT i) 0 ([],0) (ab _) rfl rfl (fun i q m a=> ?_) (fun q a=> ?_)
 ·obtain⟨c,ver⟩:=q
  simp only at a;have j:(i:Int)+1<=400:=by omega
  have n:cm .i64 ((i:Int)+1+1)=((i+1:Nat):Int)+1:=by rw[aF (by omega)];omega
  have g:=acB d ((i:Int)+1) (by omega);rw[sZ,EI]at g;have h:=aaR d i;have l:=ad4 d i;rw[<-a]at h l;have k:inR ((i:Int)+1) 1 400=true:=by simp only[inR,U,decide_eq_true_eq];omega
  have b:d.cuts ((i:Int)+1)=(match d.first ((i:Int)+1)with|some x=>(x,0)|none=>(⟨0,0,0⟩,5)):=by rw[Dvd.cuts,f,k];rfl
  have z0:((0:Int)==0)=true:=rfl;have p:((5:Int)==0)=false:=rfl;simp only[j,RN,F,H,I,J,N,O];refine ak rfl rfl g ?_;cases o:d.first ((i:Int)+1)with
  |none=>
   rw[o]at h b;simp only[b,p,n,RN,F,H,I,J,N,O];exact jv 1 2 (c,ver) m rfl (by simpa using h.symm) (by simp) (by simp) rfl rfl
  |some x=>
   rw[o]at h b;simp only[b,z0,iC,fits_int,forall_eq,DV.strip,lI,Q,RN,F,H,I,J,N,O];refine⟨by simp,by omega,?_⟩;simp only[n,RN,F,H,I,J,N,O];refine jv 1 2 (c++ [(i:Int)+1],ver+1) m ?_ (by simpa using h.symm) (by simp) (by simp) rfl rfl;simp only[aw,aR,bk,aI];rfl
 ·obtain⟨c,ver⟩:=q
  simp only at a;have j:¬((400:Nat):Int)+1<=400:=by omega
  simp only[j,bI,X,dR,RN,F,H,I,J,N,O];simp[datum,cu,fA,Mem.row,a,e]
def tN:aA:=(sw (r0 [ba 2 0 0,ba 3 1 1,mk 4 (.c (.slice true [])),mi 5 0] 2 [2,3] [3]) (sw (sr [lo 11 2,oa 12 (.jd 69) 11,oa 13 pN 12] 0 [2,3,13] (cd 13 (sr [mk 4 (.c (.slice true [])),mi 5 1] 0 [4,5] .ret) .skip)) (sw (sw (r1 [fu 14 0 3 1,lv 15 14,on 16 (.aj 70) [.t 15,kI 1,kI 12],oa 17 pN 16,mv 18 17,ow 19 (.fld 1) 3 18 1,ow 20 (.load false 1) 19 18 1,ow 21 .len 20 18 1,oF 22 (.aj 71) [] 18 0,ow 23 (.fld 0) 3 18 1,ow 24 (.load false 1) 23 18 1,oF 25 pU [.t 24,kI 1] 18 0,obF 26 (.VJ true 2 12) 22 25 18 0,ow 27 (.S9 false 1 1) 26 18 0,obF 28 pQ 21 27 18 0,pt 29 18 28] 0 [2,3,29] []) (cd 29 (sr [mk 4 (.c (.slice true [])),mi 5 2] 0 [4,5] .ret) .skip)) (sr [lo 30 2,oa 31 (.build [.nilPtr,.nilPtr] [(1,1)]) 30,al 6 0 [.nilPtr,.nilPtr],sk 2 6 31 0] 1 [2,3,6] (sw (sr [ob 32 (.mkF (.func 73) 0) 2 6,oa 33 (.call 72) 32,mv 7 33] 0 [3,6,7] (sr [mv 34 7,oi 35 pQ 34 0] 0 [3,6,7,35] (cd 35 (sr [mv 36 7,mk 4 (.c (.slice true [])),mv 5 36] 0 [4,5] .ret) .skip))) (sr [on 37 (.build [.nilFunc,.nilFunc,.nilFunc,.nilFunc,.nilFunc,.nilFunc,.nilFunc,.nilFunc,.nilFunc,.nilFunc,.nilFunc,.nilFunc] [(0,1),(1,1),(2,1),(3,1),(4,1),(5,1),(6,1),(7,1),(8,1),(9,1),(10,1),(11,1)]) [.c (.func (.func 75) [] []),.c (.func (.func 76) [] []),.c (.func (.func 77) [] []),.c (.func (.func 78) [] []),.c (.func (.func 79) [] []),.c (.func (.func 80) [] []),.c (.func (.func 81) [] []),.c (.func (.func 82) [] []),.c (.func (.func 83) [] []),.c (.func (.func 84) [] []),.c (.func (.func 85) [] []),.c (.func (.func 86) [] [])],al 8 0 [.nilFunc,.nilFunc,.nilFunc,.nilFunc,.nilFunc,.nilFunc,.nilFunc,.nilFunc,.nilFunc,.nilFunc,.nilFunc,.nilFunc],sk 12 8 37 0] 1 [3,6,8] (sw (r1 [fu 39 0 3 1,lv 40 39,oi 41 pU 40 1,ob 42 (.IZ 1 12) 8 41,ou 43 (.load false 1) 42 2,ou 44 (.load true 2) 6 2,fu 45 1 3 1,lv 46 45,on 47 .jg [.t 43,.t 44,.t 46],mv 38 47,xa 48 0 38,xa 49 1 38,mv 9 48,mv 10 49] 0 [9,10] []) (sw (sr [mv 50 10,oi 51 pQ 50 0] 0 [9,10,51] (cd 51 (sr [mv 52 10,mk 4 (.c (.slice true [])),mv 5 52] 0 [4,5] .ret) .skip)) (sr [mv 53 9,mv 4 53,mi 5 0] 0 [4,5] .ret)))))))))
def DX:aC C.P 21 2 tN dY=true:=by kernel_rfl
def yZ:aA:=(sw (r0 [ba 1 0 0,mk 2 (.c (.nilPtr)),mi 3 0] 1 [1] [1]) (sw (sr [lw 5 17 1,oa 6 (.aj 107) 5,oa 7 pN 6] 0 [1,7] (cd 7 (sr [mk 2 (.c (.nilPtr)),mi 3 2] 0 [2,3] .ret) .skip)) (sw (r0 [lw 8 17 1,oa 9 (.aj 108) 8,al 4 0 [zs,zs,zs,z0,z0,zs,z0,zs,z0,z0,z0,zs,z0,z0,z0,z0,z0],sk 17 4 9 0] 1 [4] [4]) (sr [lw 10 17 4,oa 11 (.aj 109) 10,ob 12 (.build [.nilPtr,zs,zs,zs] [(0,1),(1,1)]) 4 11,ba 13 0 12,mv 2 13,mi 3 0] 1 [2,3] .ret))))
def J4:aC C.P 36 1 yZ Zb=true:=by kernel_rfl
def qx:aA:=(sw (r0 [ba 2 0 0,ba 3 1 1,mi 4 0] 2 [2,3] [3]) (sw (sr [lo 9 2,oa 10 (.jd 69) 9,oa 11 pN 10] 0 [2,3,11] (cd 11 (sr [mi 4 1] 0 [4] .ret) .skip)) (sw (sr [lw 12 2 3,oa 13 (.aj 110) 12,oa 14 pN 13] 0 [2,3,14] (cd 14 (sr [mi 4 2] 0 [4] .ret) .skip)) (sw (sr [lo 15 2,oa 16 .bG 15,fa 17 2 16,lo 18 17,oa 19 .len 18,oi 20 pE 19 24] 0 [2,3,20] (cd 20 (sr [mi 4 3] 0 [4] .ret) .skip)) (sw (r0 [lw 21 2 3,oa 22 (.aj 111) 21,al 5 0 [.nilIface],sk 1 5 22 0] 1 [2,3,5] [5]) (sw (sr [lo 23 5,lo 24 2,ob 25 (.inv "tellurion/journeyman.fine") 23 24,oa 26 pN 25] 0 [2,3,5,26] (cd 26 (sr [mi 4 2] 0 [4] .ret) .skip)) (sr [ob 27 (.mkF (.func 112) 0) 5 2,oa 28 (.call 72) 27,mv 6 28] 0 [2,3,5,6] (sw (sr [mv 29 6,oi 30 pQ 29 0] 0 [2,3,5,6,30] (cd 30 (sr [mv 31 6,mv 4 31] 0 [4] .ret) .skip)) (sw (sw (r0 [lo 33 5,oa 34 (.tas T.bK (.agg [z0])) 33,mv 32 34,xa 35 0 32,xa 36 1 32,al 7 0 [z0],sk 1 7 35 0,mv 8 36] 1 [2,3,7,8] [7]) (sr [mv 37 8] 0 [2,3,7,37] (cd 37 (r1 [ou 38 (.load false 1) 2 2,oa 39 .bG 38,fu 40 3 39 2,ou 41 (.load false 1) 40 2,fu 42 0 7 1,lv 43 42,ix 44 1 41 43,os (.store 1) [.t 44,.c (.bool true)] 3] 0 [2,3] []) .skip))) (sw (r1 [ou 45 (.load false 1) 2 2,ou 46 (.load false 1) 2 2,oa 47 .bG 46,fu 48 2 47 2,ou 49 (.load false 1) 48 2,fu 50 0 3 1,lv 51 50,fu 52 1 3 1,lv 53 52,oa 54 (.aj 114) 53,ob 55 (.build [z0,zs] [(0,1),(1,1)]) 51 54,ou 56 (.gu 2 [.agg [z0,zs]] [0]) 55 1,ob 57 (.app 2 false) 49 56,oa 58 .bG 45,fu 59 2 58 2,sk 1 59 57 0] 0 [2] []) (sw (r1 [ou 60 (.load false 1) 2 2,ou 61 (.load false 1) 2 2,oa 62 .bG 61,fu 63 3 62 2,ou 64 (.load false 1) 63 2,of 65 (.gu 1 [.bool false] [0]) [.c (.bool false)] 1,ob 66 (.app 1 true) 64 65,oa 67 .bG 60,fu 68 3 67 2,sk 1 68 66 0] 0 [] []) (sr [mi 4 0] 0 [4] .ret))))))))))))
def AY:aC C.P 38 2 qx aJ=true:=by kernel_rfl
def vg:aA:=(sw (r0 [ba 2 0 0,mk 4 (.c (.str ⟨#[]⟩)),mi 5 0] 1 [1,2,4,5] [2]) (sr [lw 11 17 2,oa 12 (.call 36) 11,mv 10 12,xa 13 0 10,xa 14 1 10,al 6 0 [.nilPtr],sk 1 6 13 0,mv 7 14] 1 [1,4,5,6,7] (sw (sr [mv 15 7,oi 16 pQ 15 0] 0 [1,4,5,6,7,16] (cd 16 (sr [mv 17 7,mk 4 (.c (.str ⟨#[]⟩)),mv 5 17] 0 [4,5] .ret) .skip)) (sw (sr [mv 18 1,oa 19 .Fg 18,oi 20 pG 19 1500] 0 [1,4,5,6,20] (cd 20 (sr [mk 4 (.c (.str ⟨#[]⟩)),mi 5 3] 0 [4,5] .ret) .skip)) (sw (sr [mv 21 1,oc 22 pQ 21 (.c (.str ⟨#[]⟩)),mv 23 22,ov 24 .mov 1 23 0,ot 25 (.aj 115) [.t 24,.c (.str ⟨#[10]⟩)] 23 0,ov 26 pN 25 23 0,pf 27 23 26] 0 [1,4,5,6,27] (cd 27 (sr [mk 4 (.c (.str ⟨#[]⟩)),mi 5 4] 0 [4,5] .ret) .skip)) (sr [al 8 0 [.str ⟨#[]⟩],os (.store 1) [.t 8,.c (.str ⟨#[]⟩)] 0] 1 [1,4,5,6,8] (sw (sr [mv 28 1,oa 29 (.call 116) 28] 0 [4,5,6,8,29] (.block 0 (.um (.t 29) [30] [6,8] (rg [mv 9 30] 0 [6,8,9]) (.block 1 (r1 [lo 31 8,ou 32 (.load false 1) 6 2,mv 33 9,oc 34 (.aj 118) 33 (.c (.str ⟨#[10]⟩)),on 35 (.EG false 1 117) [.t 8,.t 32,.t 34],oc 36 pA 35 (.c (.str ⟨#[10]⟩)),ob 37 pA 31 36,sk 1 8 37 0] 0 [] []))))) (sr [lo 38 8,mv 4 38,mi 5 0] 0 [4,5] .ret))))))))
def Fq:aC C.P 40 2 vg dY=true:=by kernel_rfl
def xP:aA:=(sw (r0 [ba 1 0 0,al 2 1 [z0,zs],mi 3 0] 2 [1,2] [1]) (sw (sr [lo 6 1,oa 7 .Fg 6,oi 8 pG 7 60] 0 [1,2,8] (cd 8 (sr [on 9 (.build [z0,zs] []) [],sk 2 2 9 0,mi 3 3] 0 [2,3] .ret) .skip)) (sr [al 4 0 [z0,zs]] 1 [1,2,4] (sr [ob 10 (.mkF (.func 125) 0) 1 4,oa 11 (.call 72) 10,mv 5 11] 0 [2,4,5] (sw (sr [mv 12 5,oi 13 pQ 12 0] 0 [2,4,5,13] (cd 13 (sr [on 14 (.build [z0,zs] []) [],mv 15 5,sk 2 2 14 0,mv 3 15] 0 [2,3] .ret) .skip)) (sr [lw 16 2 4,sk 2 2 16 0,mi 3 0] 0 [2,3] .ret))))))
def II:aC C.P 44 1 xP Zc=true:=by kernel_rfl
def oW:aA:=(sr [mf 2 false] 0 [0] (sr [mv 3 0,oc 4 (.tJ true) 3 (.c (.nilPtr)),mv 5 4,ov 6 .mov 0 5 0,ov 7 .bG 6 5 0,ov 8 (.fld 0) 7 5 0,ov 9 (.load false 1) 8 5 0,ot 10 (.tJ true) [.t 9,.c (.nilPtr)] 5 0,pf 11 5 10,mv 2 11] 0 [2] .ret))
def zO:aC C.P 69 1 oW aK=true:=by kernel_rfl
def Ce:aA:=(sr [mf 6 false] 0 [0,1,2] (sr [mv 7 0,mv 8 1,ob 9 (.bin .geq) 7 8,mv 10 9,ov 11 .mov 0 10 0,ov 12 .mov 2 10 0,obT 13 (.bin .leq) 11 12 10 0,pf 14 10 13,mv 6 14] 0 [6] .ret))
def Om:aC C.P 70 3 Ce jr=true:=by kernel_rfl
def y9:aA:=(sr [al 0 0 [.str ⟨#[]⟩,z0,.str ⟨#[]⟩,z0,.str ⟨#[]⟩,z0,.str ⟨#[]⟩,z0,.str ⟨#[]⟩,z0,.str ⟨#[]⟩,z0,.str ⟨#[]⟩,z0,.str ⟨#[]⟩,z0,.str ⟨#[]⟩,z0,.str ⟨#[]⟩,z0,.str ⟨#[]⟩,z0,.str ⟨#[]⟩,z0]] 1 [0] (sr [on 1 (.build [.str ⟨#[]⟩,z0] [(0,1),(1,1)]) [.c (.str ⟨#[104,97,110,100,115]⟩),kI 0],on 2 (.build [.str ⟨#[]⟩,z0] [(0,1),(1,1)]) [.c (.str ⟨#[115,116,111,99,107]⟩),kI 0],on 3 (.build [.str ⟨#[]⟩,z0] [(0,1),(1,1)]) [.c (.str ⟨#[111,112,101,110]⟩),kI 0],on 4 (.build [.str ⟨#[]⟩,z0] [(0,1),(1,1)]) [.c (.str ⟨#[112,114,105,99,101]⟩),kI 1],on 5 (.build [.str ⟨#[]⟩,z0] [(0,1),(1,1)]) [.c (.str ⟨#[110,101,101,100]⟩),kI 3],on 6 (.build [.str ⟨#[]⟩,z0] [(0,1),(1,1)]) [.c (.str ⟨#[111,102,102]⟩),kI 2],on 7 (.build [.str ⟨#[]⟩,z0] [(0,1),(1,1)]) [.c (.str ⟨#[119,114,111,110,103]⟩),kI 0],on 8 (.build [.str ⟨#[]⟩,z0] [(0,1),(1,1)]) [.c (.str ⟨#[119,111,114,107,115]⟩),kI 1],on 9 (.build [.str ⟨#[]⟩,z0] [(0,1),(1,1)]) [.c (.str ⟨#[100,97,116,101]⟩),kI 1],on 10 (.build [.str ⟨#[]⟩,z0] [(0,1),(1,1)]) [.c (.str ⟨#[99,117,116,115]⟩),kI 1],on 11 (.build [.str ⟨#[]⟩,z0] [(0,1),(1,1)]) [.c (.str ⟨#[99,111,105,110,115]⟩),kI 0],on 12 (.build [.str ⟨#[]⟩,z0] [(0,1),(1,1)]) [.c (.str ⟨#[115,116,97,110,100,115]⟩),kI 0],on 13 (.build [.str ⟨#[]⟩,z0,.str ⟨#[]⟩,z0,.str ⟨#[]⟩,z0,.str ⟨#[]⟩,z0,.str ⟨#[]⟩,z0,.str ⟨#[]⟩,z0,.str ⟨#[]⟩,z0,.str ⟨#[]⟩,z0,.str ⟨#[]⟩,z0,.str ⟨#[]⟩,z0,.str ⟨#[]⟩,z0,.str ⟨#[]⟩,z0] [(0,2),(2,2),(4,2),(6,2),(8,2),(10,2),(12,2),(14,2),(16,2),(18,2),(20,2),(22,2)]) [.t 1,.t 2,.t 3,.t 4,.t 5,.t 6,.t 7,.t 8,.t 9,.t 10,.t 11,.t 12],sk 24 0 13 0] 0 [0] .ret))
def J5:aC C.P 71 0 y9 akQ=true:=by kernel_rfl
def qw:aA:=(rg [lo 2 0,oi 3 (.call 74) 2 (-1),fa 4 0 1,sk 1 4 3 0] 0 [])
def AX:aC C.P 73 2 qw jq=true:=by kernel_rfl
def qG:aA:=(sw (r0 [ba 3 0 1,mk 4 (.c (.nilPtr))] 1 [0,3,4] [3]) (sw (r1 [mv 8 0,oa 9 .bG 8,fu 10 0 9 2,ou 11 (.load false 1) 10 2,oa 12 .bG 11,ou 13 (.load true 17) 12 1,ou 14 (.rZ 108) 13 1,mv 15 0,oa 16 .bG 15,fu 17 1 16 2,ou 18 (.load false 1) 17 2,on 19 (.mkMap 0) [],on 20 (.build [zs,zs,zs,z0,z0,zs,z0,zs,z0,z0,z0,zs,z0,z0,z0,z0,z0,zs,zs,.map none,z0,zs] [(0,17),(17,1),(19,1)]) [.t 14,.t 18,.t 19],ba 21 1 20,al 5 2 [.nilPtr],sk 1 5 21 6] 3 [0,3,4,5] []) (sw (sr [mv 22 0,oa 23 (.mkF (.func 163) 1) 22] 0 [3,4,5,23] (.block 0 (.um (.t 23) [24,25] [3,5] (sr [mv 6 24] 0 [3,5,6,25] (rg [mv 7 25] 0 [3,5,6,7])) (.block 1 (sr [mv 26 6,lo 27 3,ob 28 pQ 26 27] 0 [5,7,28] (cd 28 (rg [lo 29 5,mv 30 7,ob 31 (.call 113) 29 30] 0 []) .skip)))))) (sr [lo 32 5,mv 4 32] 0 [4] .ret))))
def A8:aC C.P 74 2 qG aJ=true:=by kernel_rfl
def oZ:aA:=(sw (r0 [ba 2 0 0,ag 4 1,mi 5 0] 1 [2] [2]) (sr [fa 13 0 2,lo 14 13,oa 15 .bG 14,fa 16 0 15,fa 17 0 16,lw 18 2 17,oa 19 (.aj 26) 18,mv 12 19,xa 20 0 12,xa 21 1 12,xa 22 2 12,mv 6 20,mv 7 21,mv 8 22] 0 [2,6,8] (sr [ag 9 1] 0 [2,6,8,9] (sw (sr [fa 23 0 2,lo 24 23,oa 25 .bG 24,fa 26 0 25,fa 27 0 26,fa 28 1 27,lo 29 28,oa 30 .len 29,mi 31 0] 0 [6,8,9,29,30,31] (.block 0 (.loop (sr [ob 32 pL 31 30] 0 [6,8,9,29,30,31,32] (sw (cx 32 0) (sw (.block 1 (sr [ix 33 1 29 31,lo 34 33,mv 11 34] 0 [6,8,9,11,29,30,31] (r1 [mv 35 9,mv 36 6,mv 37 11,ob1 38 (.aZ 2) 36 37 1,fu 39 0 38 1,lv 40 39,mv 41 6,mv 42 11,ob1 43 (.aZ 2) 41 42 1,fu 44 1 43 1,lv 45 44,ob1 46 (.gu 1 [z0,z0] [0,1]) 40 45 1,ob 47 (.app 1 true) 35 46,mv 9 47] 0 [6,8,9,29,30,31] []))) (rg [oi 48 pA 31 1,mv 31 48] 0 [6,8,9,29,30,31]))))))) (sr [mv 49 9,mv 50 8,mv 4 49,mv 5 50] 0 [4,5] .ret)))))
def zQ:aC C.P 75 2 oZ dY=true:=by kernel_rfl
def jP:aA:=(sw (r0 [ba 2 0 0,mk 4 (.c (.slice true [])),mi 5 0] 1 [2] [2]) (sr [fa 6 0 2,lo 7 6,oa 8 .bG 7,fa 9 18 8,lo 10 9,oa 11 (.aj 165) 10,oa 12 (.rZ 164) 11,mv 4 12,mi 5 0] 0 [4,5] .ret))
def nP:aC C.P 76 2 jP dY=true:=by kernel_rfl
def nT:aA:=(sw (r0 [ba 2 0 0,ag 4 1,mi 5 0] 1 [2] [2]) (sr [ag 6 1] 0 [2,6] (sw (sr [fa 10 0 2,lo 11 10,oa 12 .bG 11,fa 13 0 12,fa 14 0 13,fa 15 1 14,lo 16 15,oa 17 .len 16,mi 18 0] 0 [2,6,17,18] (.block 0 (.loop (sr [ob 19 pL 18 17] 0 [2,6,17,18,19] (sw (cx 19 0) (sw (.block 1 (sr [mv 20 18,mv 7 20] 0 [2,6,7,17,18] (sw (r0 [fa 22 0 2,lo 23 22,oa 24 .bG 23,fa 25 19 24,lo 26 25,mv 27 7,ob 28 (.Iz true [] (.agg [z0,z0])) 26 27,mv 21 28,xa 29 0 21,xa 30 1 21,al 8 0 [z0,z0],sk 2 8 29 0,mv 9 30] 1 [2,6,7,8,9,17,18] [8]) (sr [mv 31 9] 0 [2,6,7,8,17,18,31] (cd 31 (rg [mv 32 6,mv 33 7,fa 34 0 8,lo 35 34,fa 36 1 8,lo 37 36,on 38 (.gu 1 [z0,z0,z0] [0,1,2]) [.t 33,.t 35,.t 37],ob 39 (.app 1 true) 32 38,mv 6 39] 0 [2,6,17,18]) .skip))))) (rg [oi 40 pA 18 1,mv 18 40] 0 [2,6,17,18]))))))) (sr [mv 41 6,mv 4 41,mi 5 0] 0 [4,5] .ret))))
def yT:aC C.P 77 2 nT dY=true:=by kernel_rfl
def kM:aA:=(sw (r0 [ba 2 0 0,mk 4 (.c (.slice true [])),mi 5 0] 1 [1,2] [2]) (sw (sw (r1 [fu 6 1 2 1,lv 7 6,mv 8 1,of 9 (.aZ 1) [.t 8,kI 0] 1,lv 10 9,ob 11 (.aj 166) 7 10,oa 12 pN 11] 0 [1,2,12] []) (cd 12 (sr [mk 4 (.c (.slice true [])),mi 5 2] 0 [4,5] .ret) .skip)) (sw (r1 [fu 13 0 2 1,lv 14 13,mv 15 1,of 16 (.aZ 1) [.t 15,kI 0] 1,lv 17 16,ob 18 (.aj 167) 14 17,ou 19 (.nN 1 [z0] [0]) 18 1,mv 4 19,mi 5 0] 0 [4,5] []) .ret)))
def qj:aC C.P 78 2 kM dY=true:=by kernel_rfl
def dQ:aA:=(sw (r0 [ba 2 0 0,ag 4 1,mi 5 0] 1 [1,2] [2]) (sw (r1 [mv 16 1,of 17 (.aZ 1) [.t 16,kI 0] 1,lv 18 17,mv 19 1,of 20 (.aZ 1) [.t 19,kI 1] 1,lv 21 20,mv 22 1,of 23 (.aZ 1) [.t 22,kI 2] 1,lv 24 23,mv 6 18,mv 7 21,mv 8 24] 0 [2,6,7,8] []) (sw (sr [fa 25 1 2,lo 26 25,mv 27 6,ob 28 (.aj 166) 26 27,oa 29 pN 28,mv 30 29,ow 31 .mov 7 30 0,ow 32 (.aj 168) 31 30 0,ow 33 pN 32 30 0,pt 34 30 33,mv 35 34,ow 36 .mov 8 35 0,ow 37 (.aj 168) 36 35 0,ow 38 pN 37 35 0,pt 39 35 38,mv 40 39,ow 41 .mov 8 40 0,ow 42 .mov 7 40 0,obF 43 pU 41 42 40 0,oF 44 (.aj 70) [.t 43,kI 0,kI 10] 40 0,ow 45 pN 44 40 0,pt 46 40 45] 0 [2,6,7,8,46] (cd 46 (sr [ag 4 1,mi 5 2] 0 [4,5] .ret) .skip)) (sw (r0 [fa 48 0 2,lo 49 48,oa 50 .bG 49,fa 51 19 50,lo 52 51,mv 53 6,ob 54 (.Iz true [] (.agg [z0,z0])) 52 53,mv 47 54,xa 55 0 47,xa 56 1 47,al 9 0 [z0,z0],sk 2 9 55 0,mv 10 56] 1 [2,6,7,8,9,10] [9]) (sw (sr [mv 57 10,oa 58 pN 57] 0 [2,6,7,8,9,58] (cd 58 (sr [ag 4 1,mi 5 7] 0 [4,5] .ret) .skip)) (sw (r1 [fu 60 0 2 1,lv 61 60,oa 62 .bG 61,fu 63 0 62 1,fu 64 0 63 1,ou 65 (.load true 2) 64 1,mv 66 7,mv 67 8,mv 68 6,ou 69 (.load true 2) 9 1,on 70 (.aj 169) [.t 65,.t 66,.t 67,.t 68,.t 69],mv 59 70,xa 71 0 59,xa 72 1 59,mv 11 71,mv 12 72] 0 [11,12] []) (sr [ag 13 1] 0 [11,12,13] (sw (sr [mv 73 11,oa 74 .len 73,mi 75 0] 0 [12,13,73,74,75] (.block 0 (.loop (sr [ob 76 pL 75 74] 0 [12,13,73,74,75,76] (sw (cx 76 0) (sw (.block 1 (sw (r0 [ix 77 3 73 75,lw 78 3 77,al 15 0 [z0,z0,z0],sk 3 15 78 0] 1 [12,13,15,73,74,75] [15]) (rg [mv 79 13,fa 80 0 15,lo 81 80,fa 82 1 15,fa 83 0 82,lo 84 83,fa 85 1 15,fa 86 1 85,lo 87 86,on 88 (.gu 1 [z0,z0,z0] [0,1,2]) [.t 81,.t 84,.t 87],ob 89 (.app 1 true) 79 88,mv 13 89] 0 [12,13,73,74,75]))) (rg [oi 90 pA 75 1,mv 75 90] 0 [12,13,73,74,75]))))))) (sr [mv 91 13,mv 92 12,mv 4 91,mv 5 92] 0 [4,5] .ret)))))))))
def fD:aC C.P 79 2 dQ dY=true:=by kernel_rfl
def ji:aA:=(sw (r0 [ba 2 0 0,mk 4 (.c (.slice true [])),mi 5 0] 1 [1,2] [2]) (sw (sw (r1 [fu 8 1 2 1,lv 9 8,mv 10 1,of 11 (.aZ 1) [.t 10,kI 0] 1,lv 12 11,ob 13 (.aj 166) 9 12,oa 14 pN 13,mv 15 14,ow 16 (.fld 1) 2 15 1,ow 17 (.load false 1) 16 15 1,ow 18 .mov 1 15 0,oF 19 (.aZ 1) [.t 18,kI 1] 15 1,ow 20 (.load false 1) 19 15 1,obF 21 (.aj 170) 17 20 15 0,ow 22 pN 21 15 0,pt 23 15 22] 0 [1,2,23] []) (cd 23 (sr [mk 4 (.c (.slice true [])),mi 5 2] 0 [4,5] .ret) .skip)) (sw (r1 [fu 25 0 2 1,lv 26 25,oa 27 .bG 26,fu 28 0 27 1,fu 29 0 28 1,ou 30 (.load true 2) 29 1,mv 31 1,of 32 (.aZ 1) [.t 31,kI 0] 1,lv 33 32,fu 34 0 2 1,lv 35 34,oa 36 .bG 35,fu 37 0 36 1,fu 38 2 37 1,lv 39 38,mv 40 1,of 41 (.aZ 1) [.t 40,kI 0] 1,lv 42 41,ob1 43 (.aZ 2) 39 42 1,ou 44 (.load true 2) 43 1,ou 45 (.load true 2) 2 1,mv 46 1,of 47 (.aZ 1) [.t 46,kI 1] 1,lv 48 47,ob 49 (.aj 171) 45 48,on 50 (.aj 27) [.t 30,.t 33,.t 44,.t 49],mv 24 50,xa 51 0 24,xa 52 1 24,mv 6 51,mv 7 52] 0 [6,7] []) (sr [mv 53 6,oa 54 (.nN 1 [z0] [0]) 53,mv 55 7,mv 4 54,mv 5 55] 0 [4,5] .ret))))
def kZ:aC C.P 80 2 ji dY=true:=by kernel_rfl
def o8:aA:=(sw (r0 [ba 2 0 0,mk 4 (.c (.slice true [])),mi 5 0] 1 [2] [2]) (.scope (sr [mi 6 0] 0 [2,6] (sw (.label 0) (sw (sr [fa 10 0 2,lo 11 10,oa 12 .bG 11,fa 13 17 12,lo 14 13,oa 15 .len 14,mi 16 0] 0 [2,6,15,16] (.block 0 (.loop (sr [ob 17 pL 16 15] 0 [2,6,15,16,17] (sw (cx 17 0) (sw (.block 1 (sr [mv 18 16,mv 7 18] 0 [2,6,7,15,16] (sr [fa 19 0 2,lo 20 19,oa 21 .bG 20,fa 22 0 21,fa 23 2 22,lo 24 23,oa 25 .len 24,mi 26 0] 0 [2,6,7,15,16,24,25,26] (.block 2 (.loop (sr [ob 27 pL 26 25] 0 [2,6,7,15,16,24,25,26,27] (sw (cx 27 2) (sw (.block 3 (sw (r0 [mv 28 26,ix 29 2 24 26,lw 30 2 29,al 9 0 [z0,z0],mv 8 28,sk 2 9 30 0] 1 [2,6,7,8,9,15,16,24,25,26] [9]) (sw (r1 [fu 31 0 2 1,lv 32 31,mv 33 8,ou 34 (.load true 2) 9 1,ou 35 (.load true 2) 2 1,mv 36 7,oi 37 pA 36 1,ob 38 (.aj 171) 35 37,on 39 (.aj 172) [.t 32,.t 33,.t 34,.t 38],oa 40 pN 39] 0 [2,6,7,15,16,24,25,26,40] []) (cd 40 (sr [mv 41 6,oi 42 pA 41 1,mv 6 42] 0 [2,6,15,16] (.exit 1)) .skip)))) (rg [oi 43 pA 26 1,mv 26 43] 0 [2,6,7,15,16,24,25,26]))))))))) (rg [oi 44 pA 16 1,mv 16 44] 0 [2,6,15,16]))))))) (sr [mv 45 6,oa 46 (.nN 1 [z0] [0]) 45,mv 4 46,mi 5 0] 0 [4,5] .ret))))))
def zT:aC C.P 81 2 o8 dY=true:=by kernel_rfl
def iP:aA:=(sw (r0 [ba 2 0 0,mk 4 (.c (.slice true [])),mi 5 0] 1 [1,2] [2]) (sw (sw (r1 [fu 8 1 2 1,lv 9 8,mv 10 1,of 11 (.aZ 1) [.t 10,kI 0] 1,lv 12 11,ob 13 (.aj 170) 9 12,oa 14 pN 13] 0 [1,2,14] []) (cd 14 (sr [mk 4 (.c (.slice true [])),mi 5 2] 0 [4,5] .ret) .skip)) (sw (r1 [mv 16 1,of 17 (.aZ 1) [.t 16,kI 0] 1,lv 18 17,fu 19 0 2 1,lv 20 19,oa 21 .bG 20,fu 22 17 21 1,lv 23 22,ou 24 .len 23 1,oa 25 (.mkF (.func 174) 0) 2,on 26 (.aj 173) [.t 18,.t 24,.t 25],mv 15 26,xa 27 0 15,xa 28 1 15,mv 6 27,mv 7 28] 0 [6,7] []) (sw (sr [mv 29 7,oa 30 pN 29] 0 [6,30] (cd 30 (sr [mk 4 (.c (.slice true [])),mi 5 5] 0 [4,5] .ret) .skip)) (sr [mv 31 6,oa 32 (.nN 1 [z0] [0]) 31,mv 4 32,mi 5 0] 0 [4,5] .ret)))))
def jZ:aC C.P 82 2 iP dY=true:=by kernel_rfl
def kN:aA:=(sw (r0 [ba 2 0 0,mk 4 (.c (.slice true [])),mi 5 0] 1 [1,2] [2]) (sw (sw (r1 [fu 8 1 2 1,lv 9 8,mv 10 1,of 11 (.aZ 1) [.t 10,kI 0] 1,lv 12 11,ob 13 (.aj 170) 9 12,oa 14 pN 13] 0 [1,2,14] []) (cd 14 (sr [mk 4 (.c (.slice true [])),mi 5 2] 0 [4,5] .ret) .skip)) (sw (r1 [fu 16 0 2 1,lv 17 16,oa 18 .bG 17,fu 19 0 18 1,fu 20 6 19 1,ou 21 (.load true 2) 20 1,fu 22 0 2 1,lv 23 22,oa 24 .bG 23,fu 25 17 24 1,lv 26 25,mv 27 1,of 28 (.aZ 1) [.t 27,kI 0] 1,lv 29 28,oi 30 pU 29 1,ob1 31 (.aZ 2) 26 30 1,fu 32 0 31 1,lv 33 32,ob 34 (.aj 175) 21 33,mv 15 34,xa 35 0 15,xa 36 1 15,al 6 0 [z0,z0,z0],sk 3 6 35 4,mv 7 36] 1 [6,7] [6]) (sr [fa 37 1 6,lo 38 37,fa 39 2 6,lo 40 39,ob 41 (.nN 1 [z0,z0] [0,1]) 38 40,mv 42 7,mv 4 41,mv 5 42] 0 [4,5] .ret))))
def ql:aC C.P 83 2 kN dY=true:=by kernel_rfl
def qH:aA:=(sw (r0 [ba 2 0 0,mk 4 (.c (.slice true [])),mi 5 0] 1 [1,2] [2]) (sw (r1 [fu 9 0 2 1,lv 10 9,oa 11 .bG 10,fu 12 0 11 1,fu 13 4 12 1,ou 14 (.load true 2) 13 1,mv 15 1,of 16 (.aZ 1) [.t 15,kI 0] 1,lv 17 16,ob 18 (.aj 176) 14 17,mv 8 18,xa 19 0 8,xa 20 1 8,al 6 0 [z0,z0,z0],sk 3 6 19 4,mv 7 20] 1 [6,7] [6]) (sr [fa 21 0 6,lo 22 21,fa 23 1 6,lo 24 23,fa 25 2 6,lo 26 25,on 27 (.nN 1 [z0,z0,z0] [0,1,2]) [.t 22,.t 24,.t 26],mv 28 7,mv 4 27,mv 5 28] 0 [4,5] .ret)))
def Ba:aC C.P 84 2 qH dY=true:=by kernel_rfl
def qI:aA:=(sw (r0 [ba 2 0 0,mk 4 (.c (.slice true [])),mi 5 0] 1 [2] [2]) (sr [fa 6 0 2,lo 7 6,oa 8 .bG 7,fa 9 20 8,lo 10 9,oa 11 (.nN 1 [z0] [0]) 10,mv 4 11,mi 5 0] 0 [4,5] .ret))
def Bc:aC C.P 85 2 qI dY=true:=by kernel_rfl
def jy:aA:=(sw (r0 [ba 2 0 0,mk 4 (.c (.slice true [])),mi 5 0] 1 [2,4,5] [2]) (sr [al 6 0 [zs]] 1 [2,4,5,6] (sw (sr [fa 8 1 2,lo 9 8,oa 10 (.mkF (.func 163) 1) 9] 0 [4,5,6,10] (.block 0 (.um (.t 10) [11,12] [6] (rg [mv 7 11] 0 [6,7]) (.block 1 (rg [lo 13 6,mv 14 7,oa 15 (.gu 1 [z0] [0]) 14,ob 16 (.app 1 true) 13 15,sk 1 6 16 0] 0 []))))) (sr [lo 17 6,mv 4 17,mi 5 0] 0 [4,5] .ret))))
def l9:aC C.P 86 2 jy dY=true:=by kernel_rfl
def vw:aA:=(sw (r0 [ba 1 0 0,mf 2 false] 1 [1] [1]) (sw (sr [fa 10 0 1,lw 11 2 10,oa 12 (.aj 197) 11,oi 13 pQ 12 0,mv 14 13,ow 15 (.fld 2) 1 14 0,lq 16 15 14,ow 17 .len 16 14 0,ow 18 (.fld 0) 1 14 0,ow 19 (.fld 1) 18 14 0,lq 20 19 14,ow 21 .len 20 14 0,obF 22 pQ 17 21 14 0,pt 23 14 22,mv 24 23,ow 25 (.fld 3) 1 24 0,lq 26 25 24,oF 27 (.aj 70) [.t 26,kI 0,kI 10800] 24 0,ow 28 pN 27 24 0,pt 29 24 28] 0 [1,29] (cd 29 (sr [mf 2 false] 0 [2] .ret) .skip)) (sr [fa 31 4 1,lw 32 2 31,oa 33 (.aj 198) 32,mv 30 33,xa 34 0 30,xa 35 1 30,mv 3 34,mv 4 35] 0 [1,4] (sr [fa 37 6 1,lw 38 2 37,fa 39 8 1,lw 40 3 39,fa 41 11 1,lo 42 41,fa 43 12 1,lo 44 43,on 45 (.aj 31) [.t 38,.t 40,.t 42,.t 44],mv 36 45,xa 46 0 36,xa 47 1 36,mv 5 46,mv 6 47] 0 [1,4,6] (sr [fa 49 13 1,lo 50 49,fa 51 14 1,lo 52 51,fa 53 15 1,lo 54 53,fa 55 16 1,lo 56 55,on 57 (.build [zs,z0,z0,z0,z0,z0] [(1,1),(2,1),(3,1),(4,1)]) [.t 50,.t 52,.t 54,.t 56],oa 58 (.aj 29) 57,mv 48 58,xa 59 0 48,xa 60 1 48,xa 61 2 48,mv 7 59,mv 8 60,mv 9 61] 0 [1,4,6,9] (sr [mv 62 4,oi 63 pE 62 0,mv 64 63,ov 65 .mov 6 64 0,ot 66 pE [.t 65,kI 0] 64 0,pf 67 64 66,mv 68 67,ov 69 .mov 9 68 0,ot 70 pE [.t 69,kI 0] 68 0,pf 71 68 70,mv 72 71,ov 73 (.fld 2) 1 72 0,ov 74 (.load false 1) 73 72 0,ot 75 (.aj 199) [.t 74,.c (.func (.func 200) [] [])] 72 0,ov 76 pN 75 72 0,pf 77 72 76,mv 2 77] 0 [2] .ret))))))
def Fz:aC C.P 107 1 vw aK=true:=by kernel_rfl
def wQ:aA:=(sr [ba 1 0 0,al 2 1 [zs,zs,zs,z0,z0,zs,z0,zs,z0,z0,z0,zs,z0,z0,z0,z0,z0]] 2 [1,2] (sw (r1 [fu 3 0 1 2,fu 4 0 3 2,ou 5 (.load false 1) 4 2,ou 6 (.rZ 202) 5 1,fu 7 0 1 2,fu 8 1 7 2,ou 9 (.load false 1) 8 2,ou 10 (.rZ 114) 9 1,fu 11 0 1 2,fu 12 0 11 2,sk 1 12 6 0,fu 13 0 1 2,fu 14 1 13 2,sk 1 14 10 0] 0 [1,2] []) (sw (r1 [fu 15 2 1 2,ou 16 (.load false 1) 15 2,ou 17 (.rZ 203) 16 1,fu 18 11 1 2,ou 19 (.load false 1) 18 2,ou 20 (.rZ 204) 19 1,fu 21 2 1 2,sk 1 21 17 0,fu 22 11 1 2,sk 1 22 20 0] 0 [1,2] []) (sw (r1 [fu 23 4 1 2,fu 24 1 23 2,ou 25 (.load false 1) 24 2,ou 26 (.rZ 114) 25 1,fu 27 6 1 2,fu 28 1 27 2,ou 29 (.load false 1) 28 2,ou 30 (.rZ 114) 29 1,fu 31 4 1 2,fu 32 1 31 2,sk 1 32 26 0,fu 33 6 1 2,fu 34 1 33 2,sk 1 34 30 0] 0 [1,2] []) (sr [lw 35 17 1,sk 17 2 35 0] 0 [2] .ret)))))
def F9:aC C.P 108 1 wQ akR=true:=by kernel_rfl
end Go.Tel
