/-
  Part 5 of a law of desks.
  Conditions: none.
-/
import Derived.Test.YtkbhljmmnbgloaaGreatDoorTopIdleM04
set_option linter.all false
set_option maxRecDepth 10000
set_option maxHeartbeats 4000000
open Nat renaming reduceBEq->F,reduceAdd->H,reduceSub->I,reduceEqDiff->J,reduceLT->N,reduceLeDiff->O,zero_le->ab,le_refl->bh,strongRecOn->bi,le_trans->ck
open List renaming length_map->Q,getD_eq_getElem?_getD->V,getElem?_eq_some_iff->W,getElem?_append_left->ae,length_singleton->ai,drop_length->ao,length_append->aq,map_append->av,mem_map->aw,all_eq_true->aD,length_cons->aE,not_mem_nil->aL,map_cons->aM,mem_cons->aR,mem_of_mem_take->be,take_succ_cons->bj,map_nil->bk,zip_cons_cons->bp,mem_or_eq_of_mem_set->bt,append_assoc->bz,getElem?_set->bA,zip_nil_left->bB,take_of_length_le->bN,drop_zero->bS,mem_of_mem_drop->bX,take_zero->b0,all_cons->b5,drop_nil->b7,mem_singleton->b8,range->b9,take_length->ca,length_set->cb,mem_append->ce,nil_append->cf,range_succ->cg,map_take->cj,length->cm
open Int renaming toNat_natCast->S,mul_le_mul->Z,lt_irrefl->am,mul_nonneg->an,lt_of_mul_lt_mul_right->ap,add_mul->ax,tmod_lt_of_pos->a7,le_refl->a8,natCast_zero->bc,tmod_nonneg->bO,mul_tdiv_add_tmod->bR,sub_mul->cl
open Bool renaming and_eq_true->U,false_and->bl,false_eq_true->bo,not_eq_true'->bu,and_self->bE,true_and->b4,and_false->ch
open Option renaming map_none->X,isSome_none->bq,isSome_some->br,getD_some->bL
open And renaming intro->az
open Go.IntKind renaming wrap->cn
namespace Go.Tel
open Go.Am
def Ai:aA:=(sw (r0 [ba 2 0 0,ba 3 1 1,mk 4 (.c (.slice true [])),mi 5 0] 2 [2,3] [2,3]) (sw (sw (r1 [ou 6 (.load true 2) 2 1,oa 7 (.aj 258) 6,oa 8 pN 7,mv 9 8,ow 10 (.fld 0) 3 9 1,ow 11 (.load false 1) 10 9 1,ow 12 (.fld 0) 2 9 1,ow 13 (.load false 1) 12 9 1,ow 14 .len 13 9 1,oF 15 pU [.t 14,kI 1] 9 0,oF 16 (.aj 268) [.t 11,kI 0,.t 15] 9 0,ow 17 pN 16 9 0,pt 18 9 17,mv 19 18,ow 20 (.fld 1) 3 19 1,ow 21 (.load true 2) 20 19 1,ow 22 (.aj 303) 21 19 0,ow 23 pN 22 19 0,pt 24 19 23,mv 25 24,ow 26 (.fld 1) 3 25 1,ow 27 (.load true 2) 26 25 1,ow 28 (.fld 0) 2 25 1,ow 29 (.load false 1) 28 25 1,ow 30 (.fld 0) 3 25 1,ow 31 (.load false 1) 30 25 1,obF 32 (.bU 3) 29 31 25 1,ow 33 (.fld 1) 32 25 1,ow 34 (.load true 2) 33 25 1,obF 35 (.A8 false [1,1]) 27 34 25 0,pt 36 25 35] 0 [2,3,36] []) (cd 36 (sr [mk 4 (.c (.slice true [])),mi 5 2] 0 [4,5] .ret) .skip)) (sw (r1 [ou 37 (.load true 2) 2 1,oa 38 (.aj 320) 37,ou 39 (.load true 2) 2 1,ou 40 (.load true 3) 3 1,ob 41 (.aj 322) 39 40,oa 42 (.aj 320) 41,ob1 43 (.nZ 321) 38 42 1,mv 4 43,mi 5 0] 0 [4,5] []) .ret)))
end Go.Tel
namespace Go.Am
def yQ {α:Type}{l:List α}{x:α}:(l++ [x])[l.length]?=some x:=by simp
def LK {α:Type}{l:List α}{x y:α}:(l++ [x]).set l.length y=l++ [y]:=by simp
def Ic {C:Ctx}{base:Nat}{M:Mem}{K:PV->Mem->Prop}{KP:DV->Mem->Prop}{f:FuncId}{fs cs args:List PV}(hc:callable C.P f=true)(h:SC C f (fs++args++cs) M K KP):ak C base .gJ (.func (.func f) fs cs::args) M K KP:=⟨hc,h⟩
def no:Nat->Prop:=fun _=>False
def Kept.Je {n:Nat}{own qO:Nat->Prop}{bs:List (Option (List PV))}{fz:List Nat}{ar ar':List (Option Arr)}{i:Nat}{x:Option (List PV)}(hi:i<n)(ho:¬own i)(hl:ar.length<=ar'.length)(b:∀k,qO k->ar'[k]?=ar[k]?):
  Kept n own qO ⟨bs,fz,ar⟩ ⟨bs.set i x,fz,ar'⟩:=
 ⟨by simp,hl,fun j a _=>by
  have:i≠j:=by rintro rfl;exact a.elim (fun h=>by omega) ho
  simp[this],fun _ _ _=>Iff.rfl,b,fun h j a=>by simpa using h j a⟩
end Go.Am
namespace Go.Tel
open Go.Am
def nDV (n:Nat):List DV:=[dI n]
def vV (ls:List Lk):Nat->Nat->List Nat
 |0,_=>[]
 | _+1,0=>[]
 |k+1,a+1=>vV ls k (ls.getD a default).fr.toNat++ [a]
def fZ (ls:List Lk)(a:Nat):List Nat:=vV ls a a
def linked (ls:List Lk):Prop:=∀i,i<ls.length->0<=(ls.getD i default).fr/\(ls.getD i default).fr<=i
variable{ls:List Lk}
def Yj (h:linked ls):∀(k a:Nat),a<=k->a<=ls.length->vV ls k a=vV ls a a:=by
 intro k a
 induction a using bi generalizing k with
 |ind a c=>
  intro b f
  match a,k,b with
  |0,0,_=>rfl
  |0,k+1,_=>rfl
  |a+1,k+1,b=>
   have e:=h a (by omega);have d:(ls.getD a default).fr.toNat<=a:=by omega
   simp only[vV];rw[c _ (by omega) k (by omega) (by omega),c _ (by omega) a (by omega) (by omega)]
def um (h:linked ls){a:Nat}(b:a<ls.length):fZ ls (a+1)=fZ ls (ls.getD a default).fr.toNat++ [a]:=by
 have d:=h a b;have c:(ls.getD a default).fr.toNat<=a:=by omega
 simp only[fZ,vV];rw[Yj h _ _ (by omega) (by omega)]
def Vu (h:linked ls):∀{a:Nat},a<=ls.length->∀i∈fZ ls a,i<a:=by
 intro a
 induction a using bi with
 |ind a c=>
  intro b i hi
  match a,b,c with
  |0,_,_=>simp[fZ,vV]at hi
  |a+1,b,c=>
   rw[um h b]at hi;have d:=h a b
   rcases ce.1 hi with hi|hi
   ·have:=c _ (by omega) (by omega) i hi;omega
   ·simp only[b8]at hi;omega
def Qh (h:linked ls):∀{a:Nat},a<=ls.length->(fZ ls a).length<=a:=by
 intro a
 induction a using bi with
 |ind a c=>
  intro b
  match a,b,c with
  |0,_,_=>simp[fZ,vV]
  |a+1,b,c=>
   rw[um h b,aq,ai];have d:=h a b;have:=c (ls.getD a default).fr.toNat (by omega) (by omega);omega
section
variable {ls:List Lk}{n b bw bv:Nat}{R:List (List DV)->Mem->Prop}{stop:Mem->Prop}{KP:DV->Mem->Prop}{xs:List (List DV)}
def ae5 (ls:List Lk)(bw bv:Nat):PV:= .func (.func 365) [] [.ptr bw 0, .d (.aV [sF (ls.map Lk.dv)]), .ptr bv 0]
structure Jp (ls:List Lk) (b bw bv:Nat) (M:Mem):Prop where
 w:M.boxes[bw]?=some (some [.func (.func 365) [] [.ptr bw 0, .d (.aV [sF (ls.map Lk.dv)]), .ptr bv 0]])
 v:M.boxes[bv]?=some (some [.nM b])
def Jp.kept {M M':Mem}(h:Jp ls b bw bv M)(a:n<=bw)(hv:n<=bv)(hk:Kept n no no M M'):Jp ls b bw bv M':=
 ⟨(hk.box bw (.inl a) (W.1 h.w).1).trans h.w,(hk.box bv (.inl hv) (W.1 h.v).1).trans h.v⟩
def ad7 (k:linked ls)(hl:ls.length<=1000000)(G:n<=bw)(hv:n<=bv)
  (kV:∀pre x post c,xs=pre++x::post->n<=c.boxes.length->R pre c->SY C b (x.map .d) c (fun p M'=>Kept n no no c M'/\((p= .d (.bool true)/\R (pre++ [x]) M')\/(p= .d (.bool false)/\stop M'))) KP):
  ∀(a:Nat) (pre post:List (List DV)) (c:Mem),a<=ls.length->xs=pre++((fZ ls a).map nDV++post)->Jp ls b bw bv c->R pre c->
   SC C 365 [pI a, .ptr bw 0, .d (.aV [sF (ls.map Lk.dv)]), .ptr bv 0] c
    (fun p M'=>Jp ls b bw bv M'/\((p= .d (.bool true)/\R (pre++(fZ ls a).map nDV) M')\/(p= .d (.bool false)/\stop M'))) KP:=by
 intro a
 induction a using bi with
 |ind a s=>
  intro pre post c v e U D;refine aC uo Oh ?_;obtain⟨bs,fz,ar⟩:=c;obtain⟨m,o⟩:=U;simp only at m o;have l1:=(W.1 m).1;have l2:=(W.1 o).1
  match a,v,e,s with
  |0,v,e,s=>
   simp only[uo,Oh,bc,BEq.rfl,decide_true,RN,F,H,I,J,N,O];exact⟨⟨m,o⟩, .inl (by simpa[fZ,vV]using D)⟩
  |a+1,v,e,s=>
   have y:(((a+1:Nat):Int)==0)=false:=by simp;omega
   have B:cn .i64 (((a+1:Nat):Int) - 1)=(a:Int):=by rw[aF (by omega)];omega
   have Y:=k a (by omega);have w:a<ls.length:=by omega
   obtain⟨q,E⟩:∃q:Nat,(ls.getD a default).fr=q:=⟨(ls.getD a default).fr.toNat,by omega⟩
   have l:fZ ls (a+1)=fZ ls q++ [a]:=by rw[um k (by omega),E];rfl
   rw[l,av,bz]at e;have T:(0:Int)<=(a:Int):=by omega
   simp only[uo,Oh,y,m,o,l1,l2,B,T,w,getD_map,S,Q,Cj,E,RN,F,H,I,J,N,O];refine Ic (args:=[_]) (cs:=[_,_,_]) (by kernel_rfl) ?_;refine SC.mono (s q (by omega) pre _ _ (by omega) e ⟨m,o⟩ D) ?_;rintro p ⟨g,h,f⟩ ⟨⟨i,r⟩,z⟩;simp only at i r
   rcases z with⟨rfl,t⟩|⟨rfl,A⟩
   ·simp only[i,r,l1,l2,B,RN,F,H,I,J,N,O]
    refine zO ?_;have X:=kV (pre++(fZ ls q).map nDV) (nDV a) post ⟨g,h,f⟩ (by rw[e];simp) (Nat.le_of_lt (Nat.lt_of_le_of_lt G (W.1 i).1)) t;refine SY.mono X ?_;rintro p ⟨L,P,K⟩ ⟨V,z⟩;have j:=Jp.kept (M:=⟨g,h,f⟩) ⟨i,r⟩ G hv V
    rcases z with⟨rfl,u⟩|⟨rfl,A⟩
    ·(try simp only[RN,F,H,I,J,N,O])
     exact⟨j, .inl (by rw[l,av,<-bz];exact u)⟩
    ·(try simp only[RN,F,H,I,J,N,O])
     exact⟨j, .inr A⟩
   ·(try simp only[RN,F,H,I,J,N,O])
    exact⟨⟨i,r⟩, .inr A⟩
end
variable{ls:List Lk}
def Qi (g:linked ls)(hl:ls.length<=1000000)(a:Nat)(m:a<=ls.length):
  O9 C 364 [] [.d (.aV [sF (ls.map Lk.dv)]), .d (.aV [dI a])] ((fZ ls a).map nDV) no no no (fun _=>True):=by
 rintro⟨bs,fz,ar⟩ b n R stop K KP o _ i f _ j kV k c e;simp only at i f;refine aC Eh fB ?_;have q:(bs++ [some [PV.nM b]]).length∉fz:=fun h=>by have:=f _ h;simp at this;omega
 simp only[Eh,fB,yQ,LK,l7,cells_func,Xf,UR,Vm,q,RN,F,H,I,J,N,O];refine Ic (args:=[_]) (cs:=[_,_,_]) (by kernel_rfl) ?_;refine SC.mono (ad7 (bw:=(bs++ [some [PV.nM b]]).length) (bv:=bs.length) g hl (by simp;omega) i kV a [] [] _ m (by simp) ⟨by simp,by simp⟩ (j _ _ _ ?_ k)) ?_
 ·have:=Moved.ext (own:=no) (fz:=fz) (ar:=ar) (xb:=[some [PV.nM b],some [ae5 ls (bs++ [some [PV.nM b]]).length bs.length]]) (xf:=[]) i (by simp)
  simpa[ae5]using this
 ·rintro p u ⟨⟨v,t⟩,r⟩
  have hl:=(W.1 t).1
  rcases r with⟨rfl,l⟩|⟨rfl,s⟩
  ·exact e _ _ (by omega) (by simpa using l)
  ·exact c _ _ s
def ad6 (ls:List Lk)(a:Int):Pure C 344 [sF (ls.map Lk.dv),dI a] (.d (.func (.func 364) [] [.aV [sF (ls.map Lk.dv)], .aV [dI a]])) []:=by
 refine ah IX aQ ?_;simp only[IX,aQ,aL,RN,F,H,I,J,N,O]
def ajF (ls:List Lk)(c:linked ls)(hl:ls.length<=1000)(a:Nat)(j:a<=ls.length):Pure C 304 [sF (ls.map Lk.dv),dI a] (pI ((fZ ls a).length)) []:=by
 refine ah KW aQ ?_;simp only[KW,aQ,RN,F,H,I,J,N,O];refine au (ad6 ls a) ?_;have n:=Qh c j;refine qc (Qi c (by omega) a j) (fun _ h=>h) rfl (by kernel_rfl) (by simp) (fun x g=>by obtain⟨i,_,rfl⟩:=aw.1 g;rfl) (fun _ h=>h.elim) (fun _ _=>trivial)
  (fun pre M=>M.boxes[0]?=some (some [pI pre.length])/\0∉M.fz) ?_ ⟨rfl,by simp⟩ ?_ ?_
 ·rintro pre p q k ⟨h1,h2⟩
  exact⟨(k.box 0 (by simp) id).trans h1,fun h=>h2 ((k.fz 0 (by simp) id).1 h)⟩
 ·rintro L cells pre x post ⟨bs,fz,ar⟩ g d b f ⟨h1,h2⟩ o
  simp only[ai]at d b f h1 h2⊢;have l:pre.length<=1000:=by
   have:=congrArg cm g;simp at this;omega
  have e:0<bs.length:=by omega
  obtain⟨i,r,rfl⟩:∃i,i∈fZ ls a/\nDV i=x:=by
   have:x∈(fZ ls a).map nDV:=by rw[g];simp
   simpa using this
  have m:cn .i64 ((pre.length:Int)+1)=((pre++ [nDV i]).length:Int):=by rw[aF (by omega)];simp
  simp only[h1,h2,m,uH,nDV,bp,bB,RN,F,H,I,J,N,O];exact⟨by simpa using b,f,Kept.set (M:=⟨bs,fz,ar⟩) (by omega) id,by simp[e]⟩
 ·rintro⟨bs,fz,ar⟩ ⟨h1,h2⟩ d
  simp only at h1;simp only[h1,RN,F,H,I,J,N,O];simp
variable{base sz:Nat}{M:Mem}{K:PV->Mem->Prop}{KP:DV->Mem->Prop}{z:DV}
def tX {C:Ctx}{cs:List DV}:ak C base (.dA sz [z] [0]) [.d (.agg cs)] M K KP=((DV.strip (.agg cs)).cells.length=sz/\K (.d (.slice true [DV.strip (.agg cs)])) M):=dV
def kJ (ls:List Lk)(a:Nat):List Pr:=(fZ ls a).map fun i=>(ls.getD i default).pr
def YD (p:Pc)(f:linked p.links)(hl:p.links.length<=1000)(a:Nat)(u:a<=p.links.length)(Y:0<a):SC C 329 ([p.dv,dI a].map .d) bg (fun v M=>Hu M v 2 ((kJ p.links a).map Pr.dv) 1) (fun _ _=>False):=by
 refine aC Df aQ ?_;simp only[Df,aQ,jR,aL,RN,F,H,I,J,N,O];refine au (ad6 p.links a) ?_;have K:=Qh f u;refine qc (Qi f (by omega) a u) (fun _ h=>h) rfl (by kernel_rfl) (by simp) (fun x t=>by obtain⟨i,_,rfl⟩:=aw.1 t;rfl) (fun _ h=>h.elim) (fun _ _=>trivial)
  (fun pre M=>∃(l:List Nat) (v:PV),pre=l.map nDV/\M.boxes[1]?=some (some [v])/\1∉M.fz/\((l=[]/\v= .d (.slice true []))\/(l≠[]/\Hu M v 2 ((l.map fun i=>(p.links.getD i default).pr).map Pr.dv) 1))) ?_ ⟨[],_,rfl,rfl,by simp, .inl ⟨rfl,rfl⟩⟩ ?_ ?_
 ·rintro pre V X A ⟨l,v,h1,h2,m,n⟩
  refine⟨l,v,h1,(A.box 1 (by simp) id).trans h2,fun h=>m ((A.fz 1 (by simp) id).1 h),n.imp id fun⟨P,k,ver,R,T⟩=>⟨P,k,ver,R,by rw[A.aB];exact T⟩⟩
 ·rintro L cells pre x post ⟨bs,fz,ar⟩ t s e j ⟨l,v,rfl,h1,h2,m⟩ U
  simp only[aE,List.length_nil]at s e j h1 h2 m⊢;have D:l.length<=1000:=by
   have:=congrArg cm t;simp at this;omega
  have c:1<bs.length:=by omega
  obtain⟨i,E,rfl⟩:∃i,i∈fZ p.links a/\nDV i=x:=by
   have:x∈(fZ p.links a).map nDV:=by rw[t];simp
   simpa using this
  have q:i<p.links.length:=by have:=Vu f u i E;omega
  have o:(0:Int)<=(i:Int):=by omega
  have ahr:∀y,(bs.set 1 y)[2]?=bs[2]?:=fun y=>by simp
  have g:∀y,(bs.set 1 y)[1]?=some y:=fun y=>by simp[c]
  rcases m with⟨rfl,rfl⟩|⟨G,k,ver,rfl,B⟩
  ·simp only[h1,h2,c,o,q,getD_map,S,Q,Cj,tX,DV.strip,uH,nDV,bp,bB,LQ,forall_eq,bV,dM,RN,F,H,I,J,N,O]
   refine⟨by simp,by simp,by rw[ahr];exact e,j,Kept.Je (by omega) id (by simp) (fun _ h=>h.elim),[i],_,rfl,g _, .inr ⟨by simp,ar.length,0,rfl,by simp[sJ]⟩⟩
  ·have z:=(W.1 B).1
   have r:l.length<=1073741823:=by omega
   simp only[h1,h2,c,o,q,B,getD_map,S,Q,Cj,tX,DV.strip,uH,nDV,bp,bB,LQ,forall_eq,bV,dM,RN,F,H,I,J,N,O];refine⟨by simp,by simpa using r,by rw[ahr];exact e,j,Kept.Je (by omega) id (by simp) (fun _ h=>h.elim),l++ [i],_,by simp[nDV],g _, .inr ⟨by simp,k,ver+1,rfl,by simp[z,sJ]⟩⟩
 ·rintro⟨bs,fz,ar⟩ ⟨l,v,h1,h2,m,n⟩ s
  simp only at h2;simp only[h2,RN,F,H,I,J,N,O];have w:(fZ p.links a)=l:=(List.map_inj_right (fun x y h=>by simp only[nDV,List.cons.injEq,DV.int.injEq,true_and,and_true,Int.natCast_inj]at h;exact h)).1 h1
  rcases n with⟨rfl,_⟩|⟨_,n⟩
  ·obtain⟨b,rfl⟩:∃b,a=b+1:=⟨a - 1,by omega⟩
   rw[um f (by omega)]at w;simp at w
  ·rw[kJ,w];exact n
def J4 (p:Pc)(b:linked p.links)(hl:p.links.length<=1000)(a:Nat)(e:a<=p.links.length)(c:0<a):Pure C 329 [p.dv,dI a] (.d (sF ((kJ p.links a).map Pr.dv))) []:=
 dR (SC.mono (YD p b hl a e c) fun _ _ h=>h.datum)
def vN (pre:List Lk)(l:Lk):Bool:=inR l.fr 0 pre.length&&l.pr.ok&& !decide ((fZ pre l.fr.toNat).length>=3)
def pJ:List Lk->List Lk->Bool
 | _,[]=>true
 |pre,l::ls=>vN pre l&&pJ (pre++ [l]) ls
def Pc.ok (p:Pc):Bool:=inR p.links.length 1 5&&inR p.hands.length 1 4&&pJ [] p.links&&p.hands.all (fun n=>inR n 1 p.links.length)
def Ez (n l h:Int):Pure C 268 [dI n,dI l,dI h] (.d (.bool (inR n l h))) []:=xM n l h
def OB (n:Int):Pure C 315 [dI n] (.d (.bool (bH n))) []:=by
 refine ah Dc aS ?_;simp only[Dc,aS,RN,F,H,I,J,N,O]
 repeat' first
  |(refine au (Ez _ _ _) ?_;try simp only[RN,F,H,I,J,N,O])
  |(refine aH (by rfl) (fun a=> ?_) (fun a=> ?_)<;>simp only[a,RN,F,H,I,J,N,O])
  |(refine aP (by rfl) (fun a=> ?_) (fun a=> ?_)<;>simp only[a,RN,F,H,I,J,N,O])
 all_goals(first|(simp only[bH, *,BSN];done)|(simp_all[bH];done)|(simp_all[bH];omega))
def ag1 (f:Fr):Pure C 334 [f.dv] (.d (.bool f.ok)) []:=by
 refine ah yE aS ?_;simp only[yE,aS,dG,RN,F,H,I,J,N,O]
 repeat' first
  |(refine au (Ez _ _ _) ?_;try simp only[dG,RN,F,H,I,J,N,O])
  |(refine aH (by rfl) (fun a=> ?_) (fun a=> ?_)<;>simp only[a,dG,RN,F,H,I,J,N,O])
  |(refine aP (by rfl) (fun a=> ?_) (fun a=> ?_)<;>simp only[a,dG,RN,F,H,I,J,N,O])
 all_goals(first|(simp only[Fr.ok, *,BSN];done)|(simp_all[Fr.ok];done)|(simp_all[Fr.ok];omega))
def S9 (p:Pr):Pure C 303 [p.dv] (.d (.bool p.ok)) []:=by
 refine ah Ef aS ?_;simp only[Ef,aS,sJ,RN,F,H,I,J,N,O]
 repeat' first
  |(refine au (OB _) ?_;try simp only[sJ,RN,F,H,I,J,N,O])
  |(refine aH (by rfl) (fun a=> ?_) (fun a=> ?_)<;>simp only[a,sJ,RN,F,H,I,J,N,O])
  |(refine aP (by rfl) (fun a=> ?_) (fun a=> ?_)<;>simp only[a,sJ,RN,F,H,I,J,N,O])
 all_goals(first|(simp only[Pr.ok, *,BSN];done)|(simp_all[Pr.ok];done)|(simp_all[Pr.ok];omega))
def XU (p:Pc)(n:Int):Pure C 305 [dI n, .aV [sF (p.links.map Lk.dv),sF (p.hands.map ay)]] (.d (.bool (!inR n 1 p.links.length))) []:=by
 refine ah zk JU ?_;simp only[zk,JU,Q,RN,F,H,I,J,N,O];refine au (Ez _ _ _) ?_;(try simp only[RN,F,H,I,J,N,O])
variable{pre:List Lk}{l:Lk}
def NG (h:linked pre)(h1:0<=l.fr)(h2:l.fr<=pre.length):linked (pre++ [l]):=by
 intro i b;simp only[aq,ai]at b
 by_cases a:i<pre.length
 ·have:=h i a
  simpa[V,ae a]using this
 ·have:i=pre.length:=by omega
  subst this;simp[V];omega
def RP (h:vN pre l=true):(0<=l.fr/\l.fr<=pre.length)/\l.pr.ok=true/\(fZ pre l.fr.toNat).length<3:=by
 simp only[vN,inR,U,decide_eq_true_eq,bu,decide_eq_false_iff_not,ge_iff_le]at h;obtain⟨⟨h1,h2⟩,a⟩:=h;exact⟨h1,h2,by omega⟩
def ug (p:Pc)(hl:p.links.length<=1000)(hh:p.hands.length<=1000):Pure C 258 [p.dv] (.d (.bool p.ok)) []:=by
 refine ah CZ aS ?_;simp only[CZ,aS,jR,Q,RN,F,H,I,J,N,O]
 repeat' first
  |(refine au (Ez _ _ _) ?_;try simp only[Q,RN,F,H,I,J,N,O])
  |(refine aH (by rfl) (fun c=> ?_) (fun c=> ?_)<;>simp only[c,Q,RN,F,H,I,J,N,O])
  |(refine aP (by rfl) (fun c=> ?_) (fun c=> ?_)<;>simp only[c,Q,RN,F,H,I,J,N,O])
 any_goals (simp_all[Pc.ok];done)
 have r:inR p.links.length 1 5=true:=by simp_all
 have c:inR p.hands.length 1 4=true:=by simp_all
 have s:p.links.length<=5:=by simp only[inR,U,decide_eq_true_eq]at r;omega
 have m:p.ok=(pJ [] p.links&&p.hands.all (fun n=>inR n 1 p.links.length)):=by simp[Pc.ok,r,c]
 rw[m];refine aG p.links.length (fun i (_:Unit)=>⟨[(1, .d (.aV [sF (p.links.map Lk.dv),sF (p.hands.map ay)])),(18, .d (sF (p.links.map Lk.dv))),(19,pI p.links.length),(20,pI i)],
   ⟨[some [.d (sF (p.links.map Lk.dv)), .d (sF (p.hands.map ay))]],[0],[]⟩⟩)
  (fun i _=>pJ [] p.links=pJ (p.links.take i) (p.links.drop i)/\linked (p.links.take i)) 0 () (ab _) rfl ⟨by simp,fun i u=>by simp at u⟩ (fun i _ h1 a=> ?_) (fun _ a=> ?_)
 ·obtain⟨h2,o,t⟩:=rng h1 (by omega)
  obtain⟨a,g⟩:=a;have k:(p.links.take i).length=i:=by simp;omega
  rw[drop_cons h1,pJ]at a;simp only[h2,o,h1,getD_map,S,Q,Cj,RN,F,H,I,J,N,O];refine au (Ez _ _ _) ?_;cases e:inR (p.links.getD i default).fr 0 (i:Int)
  ·(try simp only[RN,F,H,I,J,N,O])
   have:vN (p.links.take i) (p.links.getD i default)=false:=by simp only[vN,k,e,bl]
   rw[a,this];rfl
  ·have j:=S9 (p.links.getD i default).pr
   simp only[sJ]at j;(try simp only[RN,F,H,I,J,N,O]);refine au j ?_;cases f:(p.links.getD i default).pr.ok
   ·(try simp only[RN,F,H,I,J,N,O])
    have:vN (p.links.take i) (p.links.getD i default)=false:=by simp only[vN,f,ch,bl]
    rw[a,this];rfl
   ·have v:0<=(p.links.getD i default).fr/\(p.links.getD i default).fr<=i:=by simpa[inR]using e
    obtain⟨q,l⟩:∃q:Nat,(p.links.getD i default).fr=q:=⟨(p.links.getD i default).fr.toNat,by omega⟩
    have af5:=ajF (p.links.take i) g (by omega) q (by omega);rw[cj]at af5;simp only[l,RN,F,H,I,J,N,O];rw[iP adN o (by rw[Q];omega),S];refine au af5 ?_;cases b:decide (((fZ (p.links.take i) q).length:Int)>=3)
    ·have aiF:¬((fZ (p.links.take i) q).length>=3):=by have:=of_decide_eq_false b;omega
     simp only[b,t,RN,F,H,I,J,N,O];have akV:inR (q:Int) 0 (i:Int)=true:=by rw[<-l];exact e
     have h:vN (p.links.take i) (p.links.getD i default)=true:=by simp only[vN,k,akV,f,l,S,decide_eq_false aiF,Bool.not_false,bE]
     rw[h,b4,<-dP h1]at a;exact bK 1 0 () h1 rfl ⟨a,by rw[dP h1];exact NG g (by omega) (by omega)⟩ (by simp) (by simp) rfl rfl
    ·have aiF:((fZ (p.links.take i) q).length>=3):=by have:=of_decide_eq_true b;omega
     simp only[b,RN,F,H,I,J,N,O];have:vN (p.links.take i) (p.links.getD i default)=false:=by simp only[vN,l,S,decide_eq_true aiF,Bool.not_true,ch]
     rw[a,this];rfl
 ·obtain⟨a,_⟩:=a
  rw[ao,pJ]at a;simp only[am,RN,F,H,I,J,N,O];refine fG rfl rfl (mD p.hands 305 [.aV [sF (p.links.map Lk.dv),sF (p.hands.map ay)]] (fun n=> !inR n 1 p.links.length) (by omega) (by kernel_rfl) fun n _=>XU p n) ?_;simp only[AY,RN,F,H,I,J,N,O];rw[a];simp
def JL {ls ms:List Lk}(h:linked ls):∀(k a:Nat),a<=ls.length->vV (ls++ms) k a=vV ls k a
 |0,_,_=>rfl
 | _+1,0,_=>rfl
 |k+1,a+1,b=>by
  have e:(ls++ms).getD a default=ls.getD a default:=by
   simp[V,ae (show a<ls.length by omega)]
  have c:=h a (by omega);simp only[vV,e];rw[JL h k _ (by omega)]
def FT:∀{ls pre:List Lk},linked pre->(∀a,a<=pre.length->(fZ pre a).length<=3)->(∀l∈pre,l.pr.ok=true)->pJ pre ls=true->
  linked (pre++ls)/\(∀a,a<=(pre++ls).length->(fZ (pre++ls) a).length<=3)/\∀l∈pre++ls,l.pr.ok=true
 | [],pre,h1,h2,c,_=>by simpa using⟨h1,h2,c⟩
 |l::ls,pre,h1,h2,c,h=>by
  simp only[pJ,U]at h;obtain⟨f,j,k⟩:=RP h.1;have d:=NG h1 f.1 f.2;have:=FT (ls:=ls) d (fun a i=> ?_) (fun x hx=> ?_) h.2
  ·simpa using this
  ·simp only[aq,ai]at i
   by_cases b:a<=pre.length
   ·have e:fZ (pre++ [l]) a=fZ pre a:=by simp only[fZ];exact JL h1 a a b
    rw[e];exact h2 a b
   ·have:a=pre.length+1:=by omega
    subst this;rw[um d (by simp)];have e:(pre++ [l]).getD pre.length default=l:=by simp[V]
    have g:fZ (pre++ [l]) l.fr.toNat=fZ pre l.fr.toNat:=by simp only[fZ];exact JL h1 _ _ (by omega)
    rw[e,g];simp;omega
  ·rcases ce.1 hx with hx|hx
   ·exact c x hx
   ·simp only[b8]at hx;rw[hx];exact j
structure Pc.Good (p:Pc):Prop where
 l1:1<=p.links.length
 l2:p.links.length<=5
 h1:1<=p.hands.length
 h2:p.hands.length<=4
 lk:linked p.links
 short:∀a,a<=p.links.length->(fZ p.links a).length<=3
 pr:∀l∈p.links,l.pr.ok=true
 hd:∀n∈p.hands,1<=n/\n<=p.links.length
variable{p:Pc}
def Pc.good (h:p.ok=true):p.Good:=by
 simp only[Pc.ok,inR,U,decide_eq_true_eq,aD,ge_iff_le]at h;obtain⟨⟨⟨h1,h2⟩,f⟩,g⟩:=h;obtain⟨c,d,e⟩:=FT (ls:=p.links) (pre:=[]) (fun i j=>by simp at j) (fun a b=>by simp at b;subst b;simp[fZ,vV]) (by simp) f;simp only[cf]at c d e;exact⟨by omega,by omega,by omega,by omega,c,d,e,g⟩
def Pc.Good.akH (h:p.Good){a:Nat}(c:a<=p.links.length)(e:0<a):pO (kJ p.links a)=true:=by
 have h1:=h.short a c;obtain⟨b,rfl⟩:∃b,a=b+1:=⟨a - 1,by omega⟩
 have h2:1<=(fZ p.links (b+1)).length:=by rw[um h.lk c];simp
 simp only[pO,kJ,inR,U,decide_eq_true_eq,aD,Q,aw,ge_iff_le];refine⟨by omega,?_⟩;rintro x ⟨i,d,rfl⟩;have:=Vu h.lk c i d;exact h.pr _ (getD_mem (by omega))
def afd (p:Pc)(hl:p.links.length<=1000)(hh:p.hands.length<=1000):Pure C 206 [p.dv] (pI (if p.ok then 0 else 2)) []:=by
 refine ah Gf aS ?_;have a:=ug p hl hh;simp only[jR]at a⊢;simp only[Gf,aS,RN,F,H,I,J,N,O];refine au a ?_;cases h:p.ok<;>(try simp only[RN,F,H,I,J,N,O])<;>rfl
variable{bs:List (Option (List PV))}{fz:List Nat}{ar:List (Option Arr)}{ds:List DV}
def pR {C:Ctx}{f:FuncId}{args:List PV}{ds':List DV}{r:PV}{rows:List Arr}(h1:gU args=some ds)(h2:ds.map DV.strip=ds')(c:Pure C f ds' r rows)(hs:∀A∈rows,A.st≠2)
  (b:K (r.shift ar.length) ⟨bs,fz,ar++rows.map some⟩):ak C base (.nZ f) args ⟨bs,fz,ar⟩ K KP:=by
 have e:=EJ h1;subst e;have a:cZ ⟨bs,fz,ar⟩ (ds.map .d)=some ds:=by
  clear h1 h2 c b
  induction ds with
  |nil=>rfl
  |cons d ds g=>simp only[aM,cZ,datum,g]
 exact⟨ds,a,r,rows,h2▸c, .inr ⟨hs,by rw[zT];exact b⟩⟩
def afm (p:Pc)(c:p.ok=true)(a:Nat)(g:0<a)(h:a<=p.links.length):Pure C 324 [p.dv,dI a] (.d (.tup [sF ((kJ p.links a).map Pr.dv),dI 0])) []:=by
 have i:=Pc.good c;obtain⟨k,l,m,n,f,_⟩:=i;have b:=ug p (by omega) (by omega);have e:=J4 p f (by omega) a h g;have j:inR (a:Int) 1 (p.links.length:Int)=true:=by simp[inR];omega
 refine ah Gh bQ ?_;simp only[jR]at b e⊢;simp only[Gh,bQ,RN,F,H,I,J,N,O];refine au b ?_;simp only[c,Q,RN,F,H,I,J,N,O];refine au (Ez _ _ _) ?_;simp only[j,RN,F,H,I,J,N,O];refine au e ?_;(try simp only[RN,F,H,I,J,N,O])
def uy (p:Pc)(hand:Int)(f:Fr)(turns:Int):Int×Int:=
 if p.ok&&inR hand 0 (p.hands.length - 1)then abn (kJ p.links (p.hands.getD hand.toNat default).toNat) f turns else(0,2)
def YR (p:Pc)(hl:p.links.length<=1000)(hh:p.hands.length<=1000)(hand:Int)(f:Fr)(turns:Int):Pure C 294 [p.dv,dI hand,f.dv,dI turns] (.d (.tup [dI (uy p hand f turns).1,dI (uy p hand f turns).2])) []:=by
 have h:=ug p hl hh;have l:cn .i64 ((p.hands.length:Int) - 1)=(p.hands.length:Int) - 1:=aF (by omega);refine ah Gi Sz ?_;simp only[jR,dG]at h⊢;simp only[Gi,Sz,RN,F,H,I,J,N,O];refine au h ?_;cases b:p.ok
 ·(try simp only[RN,F,H,I,J,N,O])
  simp[uy,b]
 ·have c:=Pc.good b
  simp only[Q,l,RN,F,H,I,J,N,O];refine au (Ez _ _ _) ?_;cases e:inR hand 0 ((p.hands.length:Int) - 1)
  ·(try simp only[RN,F,H,I,J,N,O])
   simp[uy,b,e]
  ·have g:0<=hand/\hand<=(p.hands.length:Int) - 1:=by simpa[inR]using e
   have a:hand.toNat<p.hands.length:=by omega
   obtain⟨m,n⟩:=c.hd _ (getD_mem a);obtain⟨q,j⟩:∃q:Nat,p.hands.getD hand.toNat default=q:=⟨(p.hands.getD hand.toNat default).toNat,by omega⟩
   have k:=J4 p c.lk hl q (by omega) (by omega);have i:=ajw (kJ p.links q) f turns (by have:=c.short q (by omega);simp[kJ];omega);simp only[jR,dG]at k i;simp only[g.1,a,getD_map,aZ,Q,j,RN,F,H,I,J,N,O];refine au k ?_;refine au i ?_;(try simp only[RN,F,H,I,J,N,O]);simp only[uy,b,e,bE,if_true,j,S]
def agq (xs:List Lk):∀y∈xs.map Lk.dv,y.fits 3=true:=by
 intro y a;obtain⟨n,_,rfl⟩:=aw.1 a;rfl
variable{x:DV}
def EN {C:Ctx}(hx:x.strip.fits sz=true)(a:0<sz):ak C base (.lG sz [z] [0]) [.d x] M K KP=K (.tsl M.aB.length 0 0) {M with aB:=M.aB++ [some ⟨sz,[x.strip],0,1⟩]}:=by
 have b:x.strip.cells.length=sz:=by simp only[DV.fits,U,beq_iff_eq]at hx;exact hx.1
 simp[ak,gU,qy,b,hx,a]
def mulR (f:Fr)(p:Pr):Fr:=⟨f.n*p.a,f.d*p.b⟩
def wX:List Lk->List Fr->List Fr
 | [],a=>a
 |l::ls,a=>wX ls (a++ [mulR (a.getD l.fr.toNat default) l.pr])
def fA (ls:List Lk):List Fr:=wX ls [⟨1,1⟩]
def QB (a b:Fr):Bool:=a.n*b.d==b.n*a.d
def BJ (l:List Fr):Prop:=∀i,i<l.length->(1<=(l.getD i default).n/\(l.getD i default).n<=60 ^ i)/\1<=(l.getD i default).d/\(l.getD i default).d<=60 ^ i
def ad8 {i j:Nat}(h:i<=j):(60:Int) ^ i<=60 ^ j:=by
 have:=Nat.pow_le_pow_right (show 60>0 by decide) h
 exact_mod_cast this
def Lc {c:List Fr}(h:BJ c)(u:c≠[])(hf:0<=l.fr/\l.fr.toNat<c.length)(f:l.pr.ok=true):BJ (c++ [mulR (c.getD l.fr.toNat default) l.pr]):=by
 intro i j;simp only[aq,ai]at j
 by_cases d:i<c.length
 ·have:=h i d
  simpa[V,ae d]using this
 ·have:i=c.length:=by omega
  subst this;have e:(c++ [mulR (c.getD l.fr.toNat default) l.pr]).getD c.length default=mulR (c.getD l.fr.toNat default) l.pr:=by simp[V]
  rw[e];obtain⟨⟨m,n⟩,o,p⟩:=h _ hf.2;simp only[Pr.ok,bH,inR,U,decide_eq_true_eq,ge_iff_le]at f;have k:l.fr.toNat+1<=c.length:=by omega
  have g:(60:Int) ^ (l.fr.toNat+1)<=60 ^ c.length:=ad8 k;rw[Int.pow_succ]at g;have q:=Z n f.1.2 (by omega) (by omega);have r:=Z p f.2.2 (by omega) (by omega);have s:=Z m (show 1<=l.pr.a by omega) (by omega) (by omega);have t:=Z o (show 1<=l.pr.b by omega) (by omega) (by omega);simp only[mulR];omega
def Gm:∀{ls:List Lk} {a:List Fr},BJ a->a≠[]->(∀i,i<ls.length->0<=(ls.getD i default).fr/\(ls.getD i default).fr<(a.length+i:Nat))->(∀l∈ls,l.pr.ok=true)->
  BJ (wX ls a)/\(wX ls a).length=a.length+ls.length
 | [],a,h,_,_,_=>by simpa[wX]using h
 |l::ls,a,h,e,b,d=>by
  have c:=b 0 (by simp);simp only[List.getD_cons_zero]at c;obtain⟨g,j⟩:=Gm (ls:=ls) (Lc h e ⟨c.1,by omega⟩ (d l (by simp))) (by simp) (fun i k=>by
   have:=b (i+1) (by simp only[aE];omega);rw[List.getD_cons_succ]at this;rw[aq,ai];omega) (fun x f=>d x (by simp[f]))
  refine⟨g,?_⟩;rw[wX,j];simp;omega
def Qq:BJ [⟨1,1⟩]:=by
 intro i a;have:i=0:=by simpa using a
 subst this;simp
def rP (h:linked ls)(b:∀l∈ls,l.pr.ok=true):BJ (fA ls)/\(fA ls).length=ls.length+1:=by
 obtain⟨c,d⟩:=Gm (ls:=ls) Qq (by simp) (fun i a=>by have:=h i a;rw[ai];omega) b;exact⟨c,by rw[fA,d];simp;omega⟩
def rO (p:Pc):DV:= .agg [sF (p.links.map Lk.dv),sF (p.hands.map ay),sF ((fA p.links).map Fr.dv)]
def Tq (p:Pc)(hl:p.links.length<=6)(hk:linked p.links)(u:∀l∈p.links,l.pr.ok=true):Pure C 320 [p.dv] (.d (rO p)) []:=by
 refine dR (aC IY aen ?_);simp only[IY,aen,jR,aaT,bC,X,dB,iO,dM,EN (x:= .agg [dI 1,dI 1]) (sz:=2) rfl (by decide),DV.strip,Q,RN,F,H,I,J,N,O];refine aG p.links.length (fun i (a:List Fr×Nat)=>⟨[(1, .d (.aV [sF (p.links.map Lk.dv),sF (p.hands.map ay)])),(2, .ptr 1 0),(3, .ptr 2 0),(12,pI p.links.length),(13,pI i)],
   ⟨[some [.d (sF (p.links.map Lk.dv)), .d (sF (p.hands.map ay))],some [.d (.slice true []), .d (.slice true []), .d (.slice true [])],some [.d (sF (p.links.map Lk.dv)), .d (sF (p.hands.map ay)), .tsl 0 a.2 0]],[0],[some ⟨2,a.1.map Fr.dv,a.2,1⟩]⟩⟩)
  (fun i a=>fA p.links=wX (p.links.drop i) a.1/\BJ a.1/\a.1.length=i+1) 0 ([⟨1,1⟩],0) (ab _) ?_ ⟨rfl,Qq,rfl⟩ (fun i a h1 e=> ?_) (fun a e=> ?_)
 ·rfl
 ·obtain⟨h2,s,t⟩:=rng h1 (by omega)
  obtain⟨e,g,f⟩:=e;obtain⟨c,v⟩:=a;simp only at e g f;rw[drop_cons h1,wX]at e;obtain⟨o,B⟩:=hk i h1;have h:(p.links.getD i default).fr.toNat<c.length:=by omega
  have j:=u _ (getD_mem h1);obtain⟨⟨D,E⟩,G,K⟩:=g _ h;have m:=ad8 (show(p.links.getD i default).fr.toNat<=6 by omega);rw[show(60:Int) ^ 6=46656000000 by decide]at m;have aiV:=j;simp only[Pr.ok,bH,inR,U,decide_eq_true_eq,ge_iff_le]at aiV;have w:=Z (show(c.getD (p.links.getD i default).fr.toNat default).n<=46656000000 by omega) aiV.1.2 (by omega) (by omega);have y:=Z (show(c.getD (p.links.getD i default).fr.toNat default).d<=46656000000 by omega) aiV.2.2 (by omega) (by omega);have z:=an (show 0<=(c.getD (p.links.getD i default).fr.toNat default).n by omega) (show 0<=(p.links.getD i default).pr.a by omega);have A:=an (show 0<=(c.getD (p.links.getD i default).fr.toNat default).d by omega) (show 0<=(p.links.getD i default).pr.b by omega);have q:cn .i64 ((c.getD (p.links.getD i default).fr.toNat default).n*(p.links.getD i default).pr.a)=(c.getD (p.links.getD i default).fr.toNat default).n*(p.links.getD i default).pr.a:=aF (by omega);have r:cn .i64 ((c.getD (p.links.getD i default).fr.toNat default).d*(p.links.getD i default).pr.b)=(c.getD (p.links.getD i default).fr.toNat default).d*(p.links.getD i default).pr.b:=aF (by omega);have k:c.length<=1073741823:=by omega
  simp only[h2,h1,s,t,o,h,getD_map,Cj,dG,S,Q,tX,DV.strip,LQ,forall_eq,bV,dM,q,r,RN,F,H,I,J,N,O];refine⟨by simp,k,?_⟩;refine bK 3 1 (c++ [mulR (c.getD (p.links.getD i default).fr.toNat default) (p.links.getD i default).pr],v+1) h1 ?_ ⟨e,Lc g (by rintro rfl;simp at f) ⟨o,h⟩ j,by simp[f]⟩ (by simp) (by simp) rfl rfl;simp only[av,aM,bk,dG,mulR]
  rfl
 ·obtain⟨e,g,f⟩:=e
  rw[ao,wX]at e;simp only[am,bC,X,dB,iO,dM,RN,F,H,I,J,N,O];simp[datum,bW,dS,Mem.row,rO,e]
structure Chg where
 link:Int
 pr:Pr
 deriving DecidableEq,Inhabited
def Chg.dv (c:Chg):DV:= .agg [dI c.link,dI c.pr.a,dI c.pr.b]
variable{c:Chg}
def Dv:c.dv= .agg [dI c.link,dI c.pr.a,dI c.pr.b]:=by rw[Chg.dv]
def Pc.changed (p:Pc)(c:Chg):Pc:={p with links:=p.links.set c.link.toNat ⟨(p.links.getD c.link.toNat default).fr,c.pr⟩}
def Pv (xs:List DV)(hf:∀y∈xs,y.fits 3=true)(hl:xs.length<=1000000)(a:xs≠[]):Pure C 214 [.slice false xs] (.tsl 0 0 0) [⟨3,xs,0,1⟩]:=by
 refine iF lH aS ?_;simp only[lH,aS,RN,F,H,I,J,N,O];refine⟨fun _=> ?_,fun b=>absurd b a⟩;exact⟨hf,a,by simp,by omega,jL (k:=1) (A:=⟨3,xs,0,1⟩) rfl rfl (ab _) rfl⟩
def EF {n k ver i off sz:Nat}{xs:List DV}{v:PV}{K:Mem->Prop}(h:ar[k]?=some (some ⟨sz,xs,ver,1⟩))(hv:gU v.cells=some ds)(a:0<n)(hl:ds.length=n)(h1:ds.all DV.one=true)(ho:off+n<=(xs.getD i default).cells.length)
  (b:K ⟨bs,fz,ar.set k (some ⟨sz,xs.set i (setCells (xs.getD i default) off ds),ver,1⟩)⟩):iV n (.ji k ver i off) v ⟨bs,fz,ar⟩ K:=by
 simp only[iV,Mem.row,h,if_true,hv];exact⟨trivial,a,hl,h1,ho,b⟩
def Pq (p:Pc)(c:Chg)(hl:p.links.length<=1000)(a:0<=c.link)(h1:c.link.toNat<p.links.length):Pure C 322 [p.dv,c.dv] (.d (p.changed c).dv) []:=by
 refine dR (aC CY Ll ?_);have b:p.links.map Lk.dv≠[]:=by intro h;simp at h;rw[h]at h1;simp at h1
 simp only[CY,Ll,jR,Dv,RN,F,H,I,J,N,O];refine pR rfl rfl (Pv _ (agq _) (by rw[Q];omega) b) (by simp) ?_;simp only[PV.shift,jE,bV,dM,aL,a,h1,Q,RN,F,H,I,J,N,O];refine EF rfl rfl (by decide) rfl rfl (by rw[getD_map h1,Cj];exact bh 3) ?_;simp only[getD_map h1,Cj,setCells,bC,X,dB,iO,dM,RN,F,H,I,J,N,O];simp only[datum,bW,dS,Mem.row,jR,Pc.changed,List.map_set,Cj];simp
def vP {α:Type}(l:List α):Nat:=bif l.isEmpty then 0 else 1
def aeV {α:Type}{l:List α}{x:α}:vP (l++ [x])=1:=by cases l<;>rfl
def Fj {α:Type}{l:List α}:vP l≠2:=by cases l<;>simp[vP]
def BK (l:List Fr):Prop:=∀f∈l,(1<=f.n/\f.n<=777600000)/\1<=f.d/\f.d<=777600000
def N7 (a b:Fr)(c:(1<=a.n/\a.n<=777600000)/\1<=a.d/\a.d<=777600000)(hb:(0<=b.n/\b.n<=777600000)/\1<=b.d/\b.d<=777600000):Pure C 351 [a.dv,b.dv] (.d (.bool (QB a b))) []:=by
 have g:=Z c.1.2 hb.2.2 (by omega) (by omega);have h:=an (show 0<=a.n by omega) (show 0<=b.d by omega);have i:=Z hb.1.2 c.2.2 (by omega) (by omega);have j:=an (show 0<=b.n by omega) (show 0<=a.d by omega);have e:cn .i64 (a.n*b.d)=a.n*b.d:=aF (by omega);have f:cn .i64 (b.n*a.d)=b.n*a.d:=aF (by omega);refine ah zl aQ ?_;simp only[zl,aQ,dG,e,f,QB,RN,F,H,I,J,N,O]
def BL (h:linked ls)(e:∀l∈ls,l.pr.ok=true)(hl:ls.length<=5):BK (fA ls):=by
 obtain⟨g,j⟩:=rP h e;intro f c;obtain⟨i,b,rfl⟩:=List.mem_iff_getElem.1 c;have d:(fA ls).getD i default=(fA ls)[i]:=by simp[V,b]
 have:=g i b;rw[d]at this;have a:=ad8 (show i<=5 by omega);rw[show(60:Int) ^ 5=777600000 by decide]at a;omega
def yM (a b:List Fr):List Int->Nat->List Int
 | [],_=>[]
 |h::c,i=>(if QB (a.getD h.toNat default) (b.getD h.toNat default)then[]else[(i:Int)])++yM a b c (i+1)
def Jj (a b:List Fr):∀(hs:List Int) (i:Nat),(yM a b hs i).length<=hs.length
 | [],_=>bh _
 |h::hs,i=>by
  have:=Jj a b hs (i+1);simp only[yM,aq,aE]
  split<;>simp<;>omega
def Pc.vO (p q:Pc):List Int:=yM (fA p.links) (fA q.links) p.hands 0
def Oi (p q:Pc)(hh:p.hands.length<=1000)(u:BK (fA p.links))(h:BK (fA q.links))(t:∀n∈p.hands,1<=n/\n.toNat<(fA p.links).length/\n.toNat<(fA q.links).length):
  SC C 321 ([rO p,rO q].map .d) bg (fun v M=>Hu M v 1 ((p.vO q).map ay) (vP (p.vO q))) (fun _ _=>False):=by
 refine aC uY aQ ?_;simp only[uY,aQ,rO,Q,aL,RN,F,H,I,J,N,O];refine aG p.hands.length (fun i (a:List Int×Nat)=>⟨[(2, .d (.aV [sF (p.links.map Lk.dv),sF (p.hands.map ay),sF ((fA p.links).map Fr.dv)])),(3, .d (.aV [sF (q.links.map Lk.dv),sF (q.hands.map ay),sF ((fA q.links).map Fr.dv)])),(5, .tsl 1 a.2 0),(10, .d (sF (p.hands.map ay))),(11,pI p.hands.length),(12,pI i)],
   ⟨[some [.d (sF (p.links.map Lk.dv)), .d (sF (p.hands.map ay)), .d (sF ((fA p.links).map Fr.dv))],some [.d (sF (q.links.map Lk.dv)), .d (sF (q.hands.map ay)), .d (sF ((fA q.links).map Fr.dv))]],[1,0],[some ⟨1,[],0,0⟩,some ⟨1,a.1.map ay,a.2,vP a.1⟩]⟩⟩)
  (fun i a=>p.vO q=a.1++yM (fA p.links) (fA q.links) (p.hands.drop i) i/\a.1.length<=i) 0 ([],0) (ab _) rfl ⟨rfl,bh _⟩ (fun i a h1 b=> ?_) (fun a b=> ?_)
 ·obtain⟨h2,s,l⟩:=rng h1 (by omega)
  obtain⟨b,e⟩:=b;obtain⟨c,v⟩:=a;simp only at b e;rw[drop_cons h1,yM]at b;obtain⟨w,r,g⟩:=t _ (getD_mem h1);have k:0<=p.hands.getD i default:=by omega
  have o:=N7 _ _ (u _ (getD_mem r)) ⟨⟨by have:=h _ (getD_mem g);omega,(h _ (getD_mem g)).1.2⟩,(h _ (getD_mem g)).2⟩;simp only[dG]at o;simp only[h2,h1,s,k,r,g,getD_map,aZ,dG,S,Q,RN,F,H,I,J,N,O];refine au o ?_;cases m:QB ((fA p.links).getD (p.hands.getD i default).toNat default) ((fA q.links).getD (p.hands.getD i default).toNat default)
  ·have f:c.length<=1073741823:=by omega
   have j:¬vP c=2:=Fj;simp only[dV,DV.strip,fits_int,forall_eq,l,Q,j,RN,F,H,I,J,N,O];refine⟨by simp,f,?_⟩;rw[m]at b;refine dX (c++ [(i:Int)],v+1) h1 ?_ ⟨by simpa using b,by simp;omega⟩ (by simp) (by simp) rfl rfl;simp[aeV,ay]
  ·simp only[l,RN,F,H,I,J,N,O]
   rw[m]at b;exact dX (c,v) h1 rfl ⟨by simpa using b,by simp only;omega⟩ (by simp) (by simp) rfl rfl
 ·obtain⟨b,e⟩:=b
  rw[ao,yM,List.append_nil]at b;simp only[am,RN,F,H,I,J,N,O];exact⟨1,a.2,rfl,by rw[b];rfl⟩
def Pc.H6 (p:Pc)(c:Chg):Bool:=p.ok&&inR c.link 0 (p.links.length - 1)&&c.pr.ok&& !decide (c.pr=(p.links.getD c.link.toNat default).pr)
def Zo {v x:Pr}:((v.a==x.a)&&(v.b==x.b))=decide (v=x):=by
 cases v;cases x;simp only[Pr.mk.injEq,Bool.decide_and];rfl
def Ba (d:p.Good)(hc:c.pr.ok=true):(p.changed c).links.length=p.links.length/\linked (p.changed c).links/\(∀l∈(p.changed c).links,l.pr.ok=true):=by
 refine⟨by simp[Pc.changed],fun i a=> ?_,fun l e=> ?_⟩
 ·simp only[Pc.changed,cb]at a
  have:=d.lk i a
  by_cases b:c.link.toNat=i
  ·subst b
   simpa[Pc.changed,V,a]using this
  ·simpa[Pc.changed,V,bA,b]using this
 ·rcases bt e with h|h
  ·exact d.pr l h
  ·rw[h];exact hc
def VY (a:p.Good)(hc:c.pr.ok=true):BK (fA p.links)/\BK (fA (p.changed c).links)/\∀n∈p.hands,1<=n/\n.toNat<(fA p.links).length/\n.toNat<(fA (p.changed c).links).length:=by
 obtain⟨f,b,d⟩:=Ba a hc;refine⟨BL a.lk a.pr a.l2,BL b d (by have:=a.l2;omega),fun n e=> ?_⟩;have h1:=(rP a.lk a.pr).2;have h2:=(rP b d).2;have:=a.hd n e;omega
def ab9 (p:Pc)(c:Chg)(h:p.H6 c=true):Pure C 282 [p.dv,c.dv] (.tup [.tsl 0 0 0,pI 0]) [⟨1,(p.vO (p.changed c)).map ay,0,vP (p.vO (p.changed c))⟩]:=by
 simp only[Pc.H6,U,bu,decide_eq_false_iff_not]at h;obtain⟨⟨⟨q,r⟩,l⟩,m⟩:=h;have d:=Pc.good q;have j:0<=c.link/\c.link<=(p.links.length:Int) - 1:=by simpa[inR]using r
 have f:c.link.toNat<p.links.length:=by have:=d.l1;omega
 have v:=d.l2;have u:=d.h2;have o:=ug p (by omega) (by omega);obtain⟨y,w,x⟩:=Ba d l;obtain⟨r1,r2,r3⟩:=VY d l;have i:=S9 c.pr;have s:=Tq p (by omega) d.lk d.pr;have k:=Tq (p.changed c) (by omega) w x;have e:=Pq p c (by omega) j.1 f;have n:=La (Oi p (p.changed c) (by omega) r1 r2 r3);generalize p.vO (p.changed c)=sp at n⊢;have t:cn .i64 ((p.links.length:Int) - 1)=(p.links.length:Int) - 1:=aF (by omega);have g:((c.pr.a==(p.links.getD c.link.toNat default).pr.a)&&(c.pr.b==(p.links.getD c.link.toNat default).pr.b))=false:=by rw[Zo];simpa using m
 refine iF Ai bQ ?_;simp only[jR,Dv,sJ,rO,Pc.changed]at o i s k e n⊢;simp only[Ai,bQ,RN,F,H,I,J,N,O];refine au o ?_;simp only[q,Q,t,RN,F,H,I,J,N,O];refine au (Ez _ _ _) ?_;simp only[r,RN,F,H,I,J,N,O];refine au i ?_;simp only[l,j.1,f,getD_map,Cj,Q,xC,g,J8,RN,F,H,I,J,N,O];refine au s ?_;(try simp only[RN,F,H,I,J,N,O]);refine au e ?_;(try simp only[RN,F,H,I,J,N,O]);refine au k ?_;(try simp only[RN,F,H,I,J,N,O]);refine pR rfl rfl n (by simp[Fj]) ?_;simp only[PV.shift,jE,RN,F,H,I,J,N,O];refine⟨[(0,0)],⟨by simp[yY],by simp⟩,?_,?_⟩
 ·simp[gU,YF,ren,aei,N9,Mem.row,I8]
 ·simp[mkRow]
def iI:List Int->Int->Int
 | [],p=>p
 |x::xs,p=>iI xs (p+x)
def Zw {B:Int}:∀(l:List Int) (p:Int),(∀x∈l,0<=x/\x<=B)->0<=p->0<=iI l p/\iI l p<=p+l.length*B
 | [],p,_,h=>by simp[iI];omega
 |x::l,p,h,e=>by
  obtain⟨a,b⟩:=h x (by simp);obtain⟨d,f⟩:=Zw l (p+x) (fun y c=>h y (by simp[c])) (by omega);refine⟨d,?_⟩;have:((l.length+1:Nat):Int)*B=l.length*B+B:=by rw[Int.natCast_add,ax];simp
  rw[aE,this];simp only[iI];omega
def xA:∀(l:List Int) (p:Int),(∀x∈l,0<=x)->p<=iI l p
 | [],_,_=>a8 _
 |x::l,p,h=>by
  have:=xA l (p+x) fun y a=>h y (by simp[a])
  have:=h x (by simp);simp only[iI];omega
def ajl (l:List Int)(hl:l.length<=1000000)(hx:∀x∈l,0<=x)(hb:iI l 0<=9223372036854775807):Pure C 270 [sF (l.map ay)] (pI (iI l 0)) []:=by
 refine ah KX aS ?_;simp only[KX,aS,Q,RN,F,H,I,J,N,O];refine aG l.length (fun i (p:Int)=>⟨[(3,pI p),(6, .d (sF (l.map ay))),(7,pI l.length),(8,pI i)],⟨[],[],[]⟩⟩)
  (fun i p=>0<=p/\iI l 0=iI (l.drop i) p) 0 0 (ab _) rfl ⟨by omega,rfl⟩ (fun i p h1 a=> ?_) (fun p a=> ?_)
 ·obtain⟨h2,c,e⟩:=rng h1 hl
  obtain⟨f,a⟩:=a;rw[drop_cons h1,iI]at a;have g:=hx _ (getD_mem h1);have j:=xA (l.drop (i+1)) (p+l.getD i default) (fun y h=>hx y (bX h));have b:cn .i64 (p+l.getD i default)=p+l.getD i default:=aF (by omega);simp only[h2,c,h1,e,aZ,getD_map,S,Q,b,RN,F,H,I,J,N,O];exact dX (p+l.getD i default) h1 rfl ⟨by omega,a⟩ (by simp) (by simp) rfl rfl
 ·obtain⟨f,a⟩:=a
  rw[ao,iI]at a;simp only[am,a,RN,F,H,I,J,N,O]
def upI (a b:Int):Int:=(a+b - 1).tdiv b
def ahC (a b:Int)(h:0<=a/\a<=1000000000000000000)(hb:1<=b/\b<=1000000000000000000):Pure C 269 [dI a,dI b] (pI (upI a b)) []:=by
 have c:cn .i64 (a+b)=a+b:=aF (by omega);have d:cn .i64 (a+b - 1)=a+b - 1:=aF (by omega);have g:=Fq (a+b - 1) b;have e:cn .i64 ((a+b - 1).tdiv b)=(a+b - 1).tdiv b:=aF (by omega);have f:b≠0:=by omega
 refine ah NU aQ ?_;simp only[NU,aQ,c,d,e,f,upI,RN,F,H,I,J,N,O]
def TJ (n:Int):Pure C 314 [dI n] (.d (.bool (!bH n))) []:=by
 refine ah yD aS ?_;simp only[yD,aS,RN,F,H,I,J,N,O];refine au (OB n) ?_;(try simp only[RN,F,H,I,J,N,O])
def Fv (l:List Int):Bool:=decide ((l.length:Int)<=8)&&l.all bH
def WA (l:List Int)(hl:l.length<=1000000):Pure C 267 [sF (l.map ay)] (.d (.bool (Fv l))) []:=by
 refine ah Aj aS ?_;simp only[Aj,aS,Q,RN,F,H,I,J,N,O]
 repeat' first
  |(refine fG rfl rfl (mD l _ [] (fun n=> !bH n) hl (by kernel_rfl) (fun n _=>TJ n)) ?_;try simp only[Q,RN,F,H,I,J,N,O])
  |(refine aH (by rfl) (fun a=> ?_) (fun a=> ?_)<;>simp only[a,Q,RN,F,H,I,J,N,O])
  |(refine aP (by rfl) (fun a=> ?_) (fun a=> ?_)<;>simp only[a,Q,RN,F,H,I,J,N,O])
 all_goals(first|(rw[AY])|skip)
 all_goals(first|(simp only[Fv, *,BSN];done)|(simp_all[Fv];done)|(simp_all[Fv];omega))
structure Bil where
 aO:List Int
 kK:Int
 hours:Int
 vF:Int
 pct:Int
 adv:Int
 deriving DecidableEq,Inhabited
def Bil.dv (b:Bil):DV:= .agg [sF (b.aO.map ay),dI b.kK,dI b.hours,dI b.vF,dI b.pct,dI b.adv]
variable{b:Bil}
def Xm:b.dv= .agg [sF (b.aO.map ay),dI b.kK,dI b.hours,dI b.vF,dI b.pct,dI b.adv]:=by rw[Bil.dv]
def Bil.ok (b:Bil):Bool:=Fv b.aO&&inR b.kK 0 1000&&inR b.hours 0 40&&inR b.vF 0 100&&inR b.pct 0 100&&inR b.adv 0 1000000
def Bil.cost (b:Bil):Int:=upI (iI (b.aO.map fun n=>n*n) 0*b.kK) 100+b.hours*b.vF
def Bil.price (b:Bil):Int:=b.cost+upI (b.cost*b.pct) 100
def Bil.QT (b:Bil):Int×Int×Int:=if b.ok then(b.price,b.price - b.adv,0)else(0,0,2)
def Bil.facts (h:b.ok=true):(b.aO.length<=8/\∀n∈b.aO,4<=n/\n<=60)/\(0<=b.kK/\b.kK<=1000)/\(0<=b.hours/\b.hours<=40)/\(0<=b.vF/\b.vF<=100)/\(0<=b.pct/\b.pct<=100)/\0<=b.adv/\b.adv<=1000000:=by
 simp only[Bil.ok,Fv,bH,inR,U,decide_eq_true_eq,aD,ge_iff_le]at h;obtain⟨⟨⟨⟨⟨⟨h1,h2⟩,a⟩,c⟩,d⟩,e⟩,f⟩:=h;exact⟨⟨by omega,h2⟩,a,c,d,e,f⟩
def YG {a:Int}(b:0<=a):0<=upI a 100/\upI a 100<=a+99:=by
 have:upI a 100=(a+99) / 100:=by
  rw[upI,Int.tdiv_eq_ediv_of_nonneg (by omega)]
  congr 1
  omega
 rw[this];omega
def Bil.bds (h:b.ok=true):(0<=iI (b.aO.map fun n=>n*n) 0/\iI (b.aO.map fun n=>n*n) 0<=28800)/\(0<=iI (b.aO.map fun n=>n*n) 0*b.kK/\iI (b.aO.map fun n=>n*n) 0*b.kK<=28800000)/\
  (0<=b.hours*b.vF/\b.hours*b.vF<=4000)/\(0<=b.cost/\b.cost<=28805000)/\0<=b.cost*b.pct/\b.cost*b.pct<=2880500000:=by
 obtain⟨⟨h1,h2⟩,d,e,f,g,m⟩:=Bil.facts h;have s:=Zw (B:=3600) (b.aO.map fun n=>n*n) 0 (fun x k=>by
  obtain⟨n,j,rfl⟩:=aw.1 k;obtain⟨a,c⟩:=h2 n j;have:=Z c c (by omega) (by omega);have:=an (show 0<=n by omega) (show 0<=n by omega);omega) (a8 0)
 rw[Q]at s;have o:=Z (show iI (b.aO.map fun n=>n*n) 0<=28800 by omega) d.2 (by omega) (by omega);have l:=an s.1 d.1;have p:=Z e.2 f.2 (by omega) (by omega);have q:=an e.1 f.1;have u:=YG l;have i:0<=b.cost/\b.cost<=28805000:=by simp only[Bil.cost];omega
 have r:=Z i.2 g.2 (by omega) (by omega);have t:=an i.1 g.1;omega
def ab3 (b:Bil)(hl:b.aO.length<=1000000):Pure C 210 [b.dv] (.d (.tup [dI b.QT.1,dI b.QT.2.1,dI b.QT.2.2])) []:=by
 refine ah IW Zq ?_;simp only[IW,Zq,Xm,RN,F,H,I,J,N,O]
 repeat' first
  |(refine au (WA b.aO hl) ?_;try simp only[RN,F,H,I,J,N,O])
  |(refine au (Ez _ _ _) ?_;try simp only[RN,F,H,I,J,N,O])
  |(refine aH (by rfl) (fun g=> ?_) (fun g=> ?_)<;>simp only[g,RN,F,H,I,J,N,O])
  |(refine aP (by rfl) (fun g=> ?_) (fun g=> ?_)<;>simp only[g,RN,F,H,I,J,N,O])
 any_goals (simp_all[Bil.QT,Bil.ok];done)
 have f:b.ok=true:=by simp_all[Bil.ok]
 obtain⟨⟨h1,h2⟩,A,B,D,E,G⟩:=Bil.facts f;obtain⟨M,y,P,R,z⟩:=Bil.bds f;simp only[Q,RN,F,H,I,J,N,O];refine aG b.aO.length (fun i (v:Nat)=>⟨[(1, .d (.aV [sF (b.aO.map ay),dI b.kK,dI b.hours,dI b.vF,dI b.pct,dI b.adv])),(5, .tsl 0 v 0),(45, .d (sF (b.aO.map ay))),(46,pI b.aO.length),(47,pI i)],
   ⟨[some [.d (sF (b.aO.map ay)),pI b.kK,pI b.hours,pI b.vF,pI b.pct,pI b.adv]],[0],[some ⟨1,((b.aO.take i).map fun n=>n*n).map ay,v,0⟩]⟩⟩)
  (fun i v=>True) 0 0 (ab _) rfl trivial (fun i v e _=> ?_) (fun v _=> ?_)
 ·obtain⟨t,u,w⟩:=rng e (by omega)
  obtain⟨t1,t2⟩:=h2 _ (getD_mem e);have K:=Z t2 t2 (by omega) (by omega);have L:=an (show 0<=b.aO.getD i default by omega) (show 0<=b.aO.getD i default by omega);have h:cn .i64 (b.aO.getD i default*b.aO.getD i default)=b.aO.getD i default*b.aO.getD i default:=aF (by omega);have j:(b.aO.take i).length<=1073741823:=by simp;omega
  simp only[t,u,e,w,aZ,getD_map,S,Q,h,dV,DV.strip,fits_int,forall_eq,RN,F,H,I,J,N,O]
  (repeat(refine az (by first|assumption|rfl|(simp;done)|(simp;omega)) ?_))
  refine bK 1 1 (v+1) e ?_ trivial (by simp) (by simp) rfl rfl;rw[dP e];simp[ay]
 ·rw[ca]
  have r:=ajl (b.aO.map fun n=>n*n) (by simp;omega) (fun x s=>by
   obtain⟨n,q,rfl⟩:=aw.1 s;obtain⟨a,c⟩:=h2 n q;exact an (by omega) (by omega)) (by omega)
  have T:=YG y.1;have U:=YG z.1;have h:cn .i64 (iI (b.aO.map fun n=>n*n) 0*b.kK)=iI (b.aO.map fun n=>n*n) 0*b.kK:=aF (by omega);have k:cn .i64 (b.hours*b.vF)=b.hours*b.vF:=aF (by omega);have l:cn .i64 (upI (iI (b.aO.map fun n=>n*n) 0*b.kK) 100+b.hours*b.vF)=b.cost:=by rw[aF (by omega)];rfl
  have m:cn .i64 (b.cost*b.pct)=b.cost*b.pct:=aF (by omega);have o:cn .i64 (b.cost+upI (b.cost*b.pct) 100)=b.price:=by rw[aF (by omega)];rfl
  have p:cn .i64 (b.price - b.adv)=b.price - b.adv:=aF (by simp only[Bil.price];omega);simp only[am,RN,F,H,I,J,N,O];refine LM rfl r rfl ?_;simp only[h,RN,F,H,I,J,N,O];refine fG rfl rfl (ahC _ _ (by omega) (by omega)) ?_;simp only[k,l,RN,F,H,I,J,N,O];simp only[m,RN,F,H,I,J,N,O];refine fG rfl rfl (ahC _ _ (by omega) (by omega)) ?_;simp only[o,p,RN,F,H,I,J,N,O];simp[Bil.QT,f]
def lQ (p:Pc):List Fr:=⟨1,1⟩::(b9 p.links.length).map fun i=>kY (kJ p.links (i+1))
def rY (p:Pc):List Bool:=true::(b9 p.links.length).map fun i=>((kJ p.links (i+1)).length:Int).tmod 2==0
def afi (p:Pc)(k:p.ok=true):Pure C 287 [p.dv] (.d (.tup [sF ((lQ p).map Fr.dv),sF ((rY p).map .bool),dI 0])) []:=by
 have c:=Pc.good k;have s:=c.l2;have r:=c.h2;have j:=ug p (by omega) (by omega);have l:=fun(a:Nat) n q=>J4 p c.lk (by omega) a q n
 refine dR (aC Gg Zq ?_);simp only[jR]at j l;simp only[Gg,Zq,jR,RN,F,H,I,J,N,O];refine au j ?_;simp only[k,EN (x:= .agg [dI 1,dI 1]) (sz:=2) rfl (by decide),EN (x:= .bool true) (sz:=1) rfl (by decide),DV.strip,Q,RN,F,H,I,J,N,O];refine aG p.links.length (fun i (v:Nat)=>⟨[(1, .d (.aV [sF (p.links.map Lk.dv),sF (p.hands.map ay)])),(5, .tsl 2 v 0),(6, .tsl 3 v 0),(19,pI p.links.length),(20,pI i)],
   ⟨[some [.d (sF (p.links.map Lk.dv)), .d (sF (p.hands.map ay))]],[0],[some ⟨2,[],0,0⟩,some ⟨1,[],0,0⟩,some ⟨2,((lQ p).take (i+1)).map Fr.dv,v,1⟩,some ⟨1,((rY p).take (i+1)).map .bool,v,1⟩]⟩⟩)
  (fun i v=>True) 0 0 (ab _) rfl trivial (fun i v h1 _=> ?_) (fun v _=> ?_)
 ·obtain⟨h2,o,h⟩:=rng h1 (by omega)
  have b:=c.akH (a:=i+1) (by omega) (by omega);obtain⟨_,t2,t⟩:=zJ b;have e:=afn (kJ p.links (i+1)) (by omega);have m:Ht (kJ p.links (i+1))=(kY (kJ p.links (i+1)),((kJ p.links (i+1)).length:Int).tmod 2==0,0):=by simp[Ht,b]
  rw[m]at e;simp only[dG]at e;have f:(lQ p).take (i+1+1)=(lQ p).take (i+1)++ [kY (kJ p.links (i+1))]:=by
   rw[dP (by simp[lQ];omega)];congr 1;simp[lQ,V,h1]
  have g:(rY p).take (i+1+1)=(rY p).take (i+1)++ [((kJ p.links (i+1)).length:Int).tmod 2==0]:=by
   rw[dP (by simp[rY];omega)];congr 1;simp[rY,V,h1]
  have l1:((lQ p).take (i+1)).length<=1073741823:=by simp[lQ];omega
  have l2:((rY p).take (i+1)).length<=1073741823:=by simp[rY];omega
  simp only[h2,o,h1,h,RN,F,H,I,J,N,O];refine fG rfl rfl (l (i+1) (by omega) (by omega)) ?_;refine au e ?_;simp only[dV,DV.strip,LQ,forall_eq,h,Q,GH,RN,F,H,I,J,N,O]
  (repeat(refine az (by first|assumption|rfl|(simp;done)|(simp;omega)) ?_))
  refine bK 1 4 (v+1) h1 ?_ trivial (by simp) (by simp) rfl rfl;rw[f,g];simp[dG]
 ·have r1:(lQ p).take (p.links.length+1)=lQ p:=bN (by simp[lQ])
  have r2:(rY p).take (p.links.length+1)=rY p:=bN (by simp[rY]);rw[r1,r2];simp only[am,bC,dh,RN,F,H,I,J,N,O];simp[datum,bW,dS,Mem.row]
def JZ (p q:Pc)(hand:Int)(to:Fr):Bool:=
 QB ((fA q.links).getD (p.hands.getD hand.toNat default).toNat default) to&&(match p.vO q with| []=>true| [x]=>x==hand| _=>false)
def ag5 (p q:Pc)(hand:Int)(to:Fr)(s:0<=hand)(h1:hand.toNat<p.hands.length)(hh:p.hands.length<=1000)(t:BK (fA p.links))(k:BK (fA q.links))(j:∀n∈p.hands,1<=n/\n.toNat<(fA p.links).length/\n.toNat<(fA q.links).length)(o:to.ok=true):
  Pure C 336 [rO p,rO q,dI hand,to.dv] (.d (.bool (JZ p q hand to))) []:=by
 have m:=dR (SC.mono (Oi p q hh t k j) fun _ _ h=>h.datum);obtain⟨u,v,r⟩:=j _ (getD_mem h1);have g:0<=p.hands.getD hand.toNat default:=by omega
 have b:(0<=to.n/\to.n<=50000)/\1<=to.d/\to.d<=50000:=by
  simp only[Fr.ok,inR,U,decide_eq_true_eq,ge_iff_le]at o;exact o
 have a:=N7 _ to (k _ (getD_mem r)) ⟨⟨b.1.1,by omega⟩,b.2.1,by omega⟩;refine ah wI SB ?_;simp only[rO,dG]at m a⊢;simp only[wI,SB,s,h1,g,r,getD_map,aZ,dG,Q,RN,F,H,I,J,N,O];refine au a ?_;cases i:QB ((fA q.links).getD (p.hands.getD hand.toNat default).toNat default) to
 ·(try simp only[RN,F,H,I,J,N,O])
  simp only[JZ,i,bl]
 ·(try simp only[RN,F,H,I,J,N,O])
  refine au m ?_;have f:JZ p q hand to=(match p.vO q with| []=>true| [x]=>x==hand| _=>false):=by simp only[JZ,i,b4]
  rw[f];generalize p.vO q=sp;simp only[Q,RN,F,H,I,J,N,O]
  match sp with
  | []=>simp only[bc,BEq.rfl,RN,F,H,I,J,N,O]
  | [x]=>
   have c:((((0+1:Nat):Int))==0)=false:=by decide
   have e:((((0+1:Nat):Int))==1)=true:=by decide
   simp only[c,e,aZ,a8,Int.toNat_zero,RN,F,H,I,J,N,O]
  |x::y::l=>
   have c:((((l.length+1+1:Nat):Int))==0)=false:=by simp;omega
   have e:((((l.length+1+1:Nat):Int))==1)=false:=by simp;omega
   simp only[c,e,Q,RN,F,H,I,J,N,O]
variable{t:Nat}{ts:List Nat}{env:List (Nat×PV)}
def zF {K:St->Prop}{k ver skip st:Nat}{xs:List DV}(h:ar[k]?=some (some ⟨sz,xs,ver,st⟩)):
  Ii (.tsl k ver skip) t ts K env ⟨bs,fz,ar⟩=qW ts K ⟨(t, .d (sF (xs.drop skip)))::env,⟨bs,fz,ar.set k (some ⟨sz,xs,ver,2⟩)⟩⟩:=by
 have b:=(W.1 h).1;have e:ar.modify k (Option.map fun A=>{A with st:=2})=ar.set k (some ⟨sz,xs,ver,2⟩):=by
  apply List.ext_getElem?;intro i;rw[List.getElem?_modify,bA]
  by_cases a:k=i
  ·subst a;simp only[h,b,if_true,Option.map_some];rfl
  ·simp[a]
 simp[Ii,datum,Mem.row,h,Mem.frz,kF,kG,FB,e]
def ais {K:St->Prop}:Ii (.d x) t ts K env M=qW ts K ⟨(t, .d x)::env,M⟩:=by
 have:=zT (M:=M) (ds:=[x]);simp only[aM,bk]at this;simp only[Ii,datum,this]
def zx {nb na:Nat}{α:Type}{a:α}{E:α->St}{P:α->Prop}{μ:α->Nat}{m:Mem}(b:α)(f:μ b<μ a)(hs:(⟨env,m⟩:St)=E b)(e:P b):
  ∃d c,d<μ a/\Weak nb na ⟨env,m⟩ c/\whJ E P μ d c:=⟨μ b,_,f, .inl rfl,b,rfl,hs,e⟩
def TT (p:Pc)(link:Nat)(a:Int):Nat->Int->List Chg
 |0,_=>[]
 |k+1,b=>(if(⟨a,b⟩:Pr)=(p.links.getD link default).pr then[]else[⟨link,⟨a,b⟩⟩])++TT p link a k (b+1)
def Pj (p:Pc)(least:Int)(w:Nat)(link:Nat):Nat->Int->List Chg
 |0,_=>[]
 |k+1,a=>TT p link a w least++Pj p least w link k (a+1)
def Ko (p:Pc)(least:Int)(w:Nat):Nat->Nat->List Chg
 |0,_=>[]
 |k+1,link=>Pj p least w link w least++Ko p least w k (link+1)
def jd (p:Pc)(hand:Int)(to:Fr)(least:Int)(w:Nat):Nat->Pc->Nat->Option (List Chg)
 |0,a,_=>if JZ p a hand to then some []else none
 |k+1,a,fr=>(Ko p least w (p.links.length - fr) fr).findSome? fun c=>(jd p hand to least w k (a.changed c) (c.link.toNat+1)).map (c::·)
def vw {p:Pc}{hand:Int}{to:Fr}{least:Int}{w:Nat}:∀{k:Nat} {now:Pc} {fr:Nat} {l:List Chg},jd p hand to least w k now fr=some l->l.length=k
 |0,now,fr,l,h=>by
  simp only[jd]at h
  split at h
  ·cases h;rfl
  ·cases h
 |k+1,now,fr,l,h=>by
  simp only[jd]at h;obtain⟨c,_,h⟩:=List.exists_of_findSome?_eq_some h;rw[Option.map_eq_some_iff]at h;obtain⟨m,h1,rfl⟩:=h;rw[aE,vw h1]
def acH (xs:List Chg):∀y∈xs.map Chg.dv,y.fits 3=true:=by
 intro y a;obtain⟨n,_,rfl⟩:=aw.1 a;rfl
def EP (r:Option (List Chg)):DV:= .tup [sF ((r.getD []).map Chg.dv), .bool r.isSome]
def Pc.changes (p:Pc)(least most hand:Int)(f:Fr):List Chg×Int:=
 if p.ok&&(bH least&&bH most&&decide (least<=most))&&decide (most - least<=10)&&inR hand 0 (p.hands.length - 1)&&f.ok then
  (match jd p hand f least (most - least+1).toNat 0 p 0 with
  |some l=>(l,0)
  |none=>match jd p hand f least (most - least+1).toNat 1 p 0 with
   |some l=>(l,0)
   |none=>match jd p hand f least (most - least+1).toNat 2 p 0 with
    |some l=>(l,0)
    |none=>([],5))
 else([],2)
structure Now (p now:Pc):Prop where
 len:now.links.length=p.links.length
 lk:linked now.links
 pr:∀l∈now.links,l.pr.ok=true
def Now.changed {p now:Pc}(h:Now p now){c:Chg}(hc:c.pr.ok=true):Now p (now.changed c):=by
 refine⟨by simp[Pc.changed,h.len],fun i a=> ?_,fun l d=> ?_⟩
 ·simp only[Pc.changed,cb]at a
  have:=h.lk i a
  by_cases b:c.link.toNat=i
  ·subst b
   simpa[Pc.changed,V,a]using this
  ·simpa[Pc.changed,V,bA,b]using this
 ·rcases bt d with h'|h'
  ·exact h.pr l h'
  ·rw[h'];exact hc
section
variable {p:Pc}{hand:Int}{to:Fr}{least most:Int}{bs:Nat}
def QW (p:Pc):DV:= .aV [sF (p.links.map Lk.dv),sF (p.hands.map ay),sF ((fA p.links).map Fr.dv)]
def YU (p:Pc):DV:= .aV [sF (p.links.map Lk.dv),sF (p.hands.map ay)]
def searchFn (p:Pc)(hand:Int)(to:Fr)(least most:Int)(bs:Nat):PV:=
 .func (.func 335) [] [.d (QW p), .d (.aV [dI hand]), .d (.aV [dI to.n,dI to.d]), .d (YU p), .d (.aV [dI least]), .d (.aV [dI most]), .ptr bs 0]
def SearchM (p:Pc)(hand:Int)(to:Fr)(least most:Int)(bs:Nat)(M M':Mem):Prop:=
 M'.boxes[bs]?=some (some [searchFn p hand to least most bs])/\M.boxes.length<=M'.boxes.length/\M.aB.length<=M'.aB.length/\∀i∈M'.fz,i<M'.boxes.length
def abH (u:p.Good)(h0:0<=hand)(h1:hand.toNat<p.hands.length)(a8:to.ok=true)(ac:bH least=true)(an:bH most=true)(bk:least<=most):
  ∀(k:Nat) (now:Pc) (fr:Nat) (M:Mem),k<=2->Now p now->fr<=p.links.length->M.boxes[bs]?=some (some [searchFn p hand to least most bs])->(∀i∈M.fz,i<M.boxes.length)->
   SC C 335 [.d now.dv,pI fr,pI k, .d (QW p), .d (.aV [dI hand]), .d (.aV [dI to.n,dI to.d]), .d (YU p), .d (.aV [dI least]), .d (.aV [dI most]), .ptr bs 0] M
    (fun v M'=>v= .d (EP (jd p hand to least (most - least+1).toNat k now fr))/\SearchM p hand to least most bs M M') (fun _ _=>False):=by
 intro k
 induction k with
 |zero=>
  intro now fr ⟨bx,fz,ar⟩ hk j Y e r;simp only at e r;refine aC lX SA ?_;have aL:=u.l2;have hw:=Tq now (by have:=j.len;omega) j.lk j.pr;have ap:=ag5 p now hand to h0 h1 (by have:=u.h2;omega) (BL u.lk u.pr u.l2) (BL j.lk j.pr (by have:=j.len;omega)) (fun n hn=>by
   have a1:=(rP u.lk u.pr).2;have a2:=(rP j.lk j.pr).2;have L:=u.hd n hn;have:=j.len;omega) a8
  simp only[jR,rO,dG]at hw ap⊢;simp only[lX,SA,yQ,LK,bc,BEq.rfl,QW,YU,RN,F,H,I,J,N,O];refine au hw ?_;refine au ap ?_;simp only[zF (k:=(ar++ [some (⟨3,[],0,0⟩:Arr)]).length) yQ,b7,RN,F,H,I,J,N,O];have B:(bx++ [some [PV.d (sF (now.links.map Lk.dv)), .d (sF (now.hands.map ay))]])[bs]?=some (some [searchFn p hand to least most bs]):=by rw[ae (W.1 e).1];exact e
  refine⟨?_,B,by simp,by simp,fun i hi=> ?_⟩
  rotate_left
  ·rcases aR.1 hi with rfl|hi
   ·simp
   ·have:=r i hi;simp;omega
  cases hc:JZ p now hand to<;>simp only[jd,hc]<;>rfl
 |succ k ih=>
  intro now fr ⟨bx,fz,ar⟩ hk j Y e r;simp only at e r;refine aC lX SA ?_;have aL:=u.l2;have a9:4<=least/\least<=60:=by simp only[bH,inR,U,decide_eq_true_eq,ge_iff_le]at ac;exact ac
  have alA:4<=most/\most<=60:=by simp only[bH,inR,U,decide_eq_true_eq,ge_iff_le]at an;exact an
  obtain⟨w,hw⟩:∃w:Nat,most - least+1=w:=⟨(most - least+1).toNat,by omega⟩
  obtain⟨R,hR⟩:∃R,R=jd p hand to least (most - least+1).toNat (k+1) now fr:=⟨_,rfl⟩
  obtain⟨f,hf⟩:∃f:Chg->Option (List Chg),f=fun c=>(jd p hand to least (most - least+1).toNat k (now.changed c) (c.link.toNat+1)).map (c::·):=⟨_,rfl⟩
  have av:R=(Ko p least w (p.links.length - fr) fr).findSome? f:=by rw[hR,hf];simp only[jd,hw,S]
  rw[<-hR];have a5:(((k+1:Nat):Int)==0)=false:=by simp;omega
  have ek:cn .i64 (((k+1:Nat):Int) - 1)=(k:Int):=by rw[aF (by omega)];omega
  have B:(bx++ [some [PV.d (sF (now.links.map Lk.dv)), .d (sF (now.hands.map ay))]])[bs]?=some (some [searchFn p hand to least most bs]):=by rw[ae (W.1 e).1];exact e
  simp only[jR];simp only[lX,SA,yQ,LK,a5,QW,YU,zF (k:=ar.length) yQ,b7,RN,F,H,I,J,N,O];refine qM (fun(q:Nat×Mem)=>⟨[(2, .d (dI ((k+1:Nat):Int))),(6, .d (.aV [sF (p.links.map Lk.dv),sF (p.hands.map ay)])),(7, .d (.aV [dI least])),(8, .d (.aV [dI most])),(9, .ptr bs 0),(10, .d (.aV [sF (now.links.map Lk.dv),sF (now.hands.map ay)])),(15,pI q.1)],q.2⟩)
   (fun q=>q.1<=p.links.length/\SearchM p hand to least most bs ⟨bx,fz,ar⟩ q.2/\R=(Ko p least w (p.links.length - q.1) q.1).findSome? f) (fun q=>p.links.length - q.1) (fr,_) rfl ⟨Y,⟨B,by simp,by simp,fun i hi=>by
    rcases aR.1 hi with rfl|hi
    ·simp
    ·have:=r i hi;simp;omega⟩,av⟩ ?_
  rintro⟨link,M1⟩ ⟨g1,K,P⟩;simp only at g1 K P⊢
  by_cases a0:link<p.links.length
  case neg=>
   have s:¬((link:Int)<(p.links.length:Int)):=by omega
   have:p.links.length - link=0:=by omega
   rw[this,Ko,List.findSome?_nil]at P;simp only[s,Q,RN,F,H,I,J,N,O];obtain⟨b1,f1,a1⟩:=M1;simp only[zF (k:=a1.length) yQ,b7,RN,F,H,I,J,N,O];exact⟨by rw[P];rfl,K.1,K.2.1,ck K.2.2.1 (by simp),K.2.2.2⟩
  have s:((link:Int)<(p.links.length:Int)):=by omega
  obtain⟨n1,a4⟩:∃n1,p.links.length - link=n1+1:=⟨p.links.length - link - 1,by omega⟩
  have ao:p.links.length - (link+1)=n1:=by omega
  rw[a4,Ko]at P;simp only[s,Q,RN,F,H,I,J,N,O];refine qM (fun(q:Nat×Mem)=>⟨[(2, .d (dI ((k+1:Nat):Int))),(6, .d (.aV [sF (p.links.map Lk.dv),sF (p.hands.map ay)])),(7, .d (.aV [dI least])),(8, .d (.aV [dI most])),(9, .ptr bs 0),(10, .d (.aV [sF (now.links.map Lk.dv),sF (now.hands.map ay)])),(15,pI link),(16, .d (dI (least+(w - q.1:Nat))))],q.2⟩)
   (fun q=>q.1<=w/\SearchM p hand to least most bs ⟨bx,fz,ar⟩ q.2/\R=(Pj p least w link q.1 (least+(w - q.1:Nat))++Ko p least w n1 (link+1)).findSome? f) (fun q=>q.1) (w,M1) (by simp) ⟨bh _,K,by simpa using P⟩ ?_
  rintro⟨m,M2⟩ ⟨k1,k2,A⟩;simp only at k1 k2 A⊢
  match m,k1,A with
  |0,k1,A=>
   have E:¬(least+((w - 0:Nat):Int)<=most):=by omega
   have h6:cn .i64 ((link:Int)+1)=((link+1:Nat):Int):=by rw[aF (by omega)];omega
   simp only[E,h6,RN,F,H,I,J,N,O];refine zx (μ:=fun q:Nat×Mem=>p.links.length - q.1) (a:=(link,M1)) (link+1,M2) (by simp only;omega) rfl ⟨by simp only;omega,k2,?_⟩;simp only[ao]
   simpa[Pj]using A
  |m+1,k1,A=>
   obtain⟨a,ha⟩:∃a:Int,a=least+((w - (m+1):Nat):Int):=⟨_,rfl⟩
   have ai:a<=most:=by omega
   have aq:cn .i64 (a+1)=least+((w - m:Nat):Int):=by rw[aF (by omega)];omega
   have aw:a+1=least+((w - m:Nat):Int):=by omega
   simp only[<-ha]at A⊢;rw[Pj,aw,bz]at A;simp only[ai,RN,F,H,I,J,N,O];refine qM (fun(q:Nat×Mem)=>⟨[(2, .d (dI ((k+1:Nat):Int))),(6, .d (.aV [sF (p.links.map Lk.dv),sF (p.hands.map ay)])),(7, .d (.aV [dI least])),(8, .d (.aV [dI most])),(9, .ptr bs 0),(10, .d (.aV [sF (now.links.map Lk.dv),sF (now.hands.map ay)])),(15,pI link),(16,pI a),(17, .d (dI (least+(w - q.1:Nat))))],q.2⟩)
    (fun q=>q.1<=w/\SearchM p hand to least most bs ⟨bx,fz,ar⟩ q.2/\R=(TT p link a q.1 (least+(w - q.1:Nat))++(Pj p least w link m (least+(w - m:Nat))++Ko p least w n1 (link+1))).findSome? f) (fun q=>q.1) (w,M2) (by simp) ⟨bh _,k2,by simpa using A⟩ ?_
   rintro⟨v,⟨t,G,L⟩⟩ ⟨q1,q2,g⟩;simp only at q1 q2 g⊢
   match v,q1,g with
   |0,q1,g=>
    have E:¬(least+((w - 0:Nat):Int)<=most):=by omega
    simp only[E,aq,RN,F,H,I,J,N,O];exact zx (μ:=fun q:Nat×Mem=>q.1) (a:=(m+1,M2)) (m,⟨t,G,L⟩) (by simp only;omega) rfl ⟨by simp only;omega,q2,by simpa[TT]using g⟩
   |v+1,q1,g=>
    obtain⟨b,hb⟩:∃b:Int,b=least+((w - (v+1):Nat):Int):=⟨_,rfl⟩
    have am:b<=most:=by omega
    have akk:cn .i64 (b+1)=least+((w - v:Nat):Int):=by rw[aF (by omega)];omega
    have ax:b+1=least+((w - v:Nat):Int):=by omega
    simp only[<-hb]at g⊢;rw[TT,ax]at g;have ab:(0:Int)<=(link:Int):=by omega
    obtain⟨s1,s2,s3,s4⟩:=q2;simp only at s1 s2 s3 s4;have a7:¬t.length∈G:=fun h=>by have:=s4 _ h;omega
    have V:=(W.1 s1).1;simp only[am,yQ,LK,a7,ab,a0,getD_map,S,Q,Cj,xC,J8,RN,F,H,I,J,N,O];cases he:((a==(p.links.getD link default).pr.a)&&(b==(p.links.getD link default).pr.b))
    ·(try simp only[RN,F,H,I,J,N,O])
     have D:¬(⟨a,b⟩:Pr)=(p.links.getD link default).pr:=by have:=Zo (v:=⟨a,b⟩) (x:=(p.links.getD link default).pr);rw[this]at he;simpa using he
     rw[if_neg D,List.singleton_append,List.cons_append,List.findSome?_cons]at g;have T:∀x,(t++ [x])[bs]?=some (some [searchFn p hand to least most bs]):=fun x=>by rw[ae V];exact s1
     have akT:∀x:Option (List PV),bs<(t++ [x]).length:=fun x=>by simp;omega
     have aM:cn .i64 ((link:Int)+1)=((link+1:Nat):Int):=by rw[aF (by omega)];omega
     have be:=j.len;have aD:(⟨a,b⟩:Pr).ok=true:=by simp[Pr.ok,bH,inR];omega
     have X:=Pq now ⟨link,⟨a,b⟩⟩ (by omega) ab (by simp;omega);simp only[jR,Dv]at X;simp only[T,akT,searchFn,ek,aM,RN,F,H,I,J,N,O];refine au X ?_;have z:(jd p hand to least (most - least+1).toNat k (now.changed ⟨link,⟨a,b⟩⟩) (link+1)).map ((⟨link,⟨a,b⟩⟩:Chg)::·)=f ⟨link,⟨a,b⟩⟩:=by rw[hf];rfl
     obtain⟨o,af2⟩:∃o,o=t++ [some [PV.d (dI (link:Int)),PV.d (dI a),PV.d (dI b)]]:=⟨_,rfl⟩
     have az:o[bs]?=some (some [searchFn p hand to least most bs]):=by rw[af2];exact T _
     have aE:∀i∈t.length::G,i<o.length:=fun i hi=>by
      rw[af2]
      rcases aR.1 hi with rfl|hi
      ·simp
      ·have:=s4 i hi;simp;omega
     have Z:=ih (now.changed ⟨link,⟨a,b⟩⟩) (link+1) ⟨o,t.length::G,L⟩ (by omega) (j.changed aD) (by omega) az aE;simp only[jR]at Z;rw[<-af2];refine Ic (args:=[_,_,_]) (by kernel_rfl) (fs:=[]) ?_;refine SC.mono Z ?_;rintro v1 ⟨b6,f6,a6⟩ ⟨rfl,r1,r2,r3,r4⟩;simp only at r1 r2 r3 r4;have bi:t.length+1<=b6.length:=by rw[af2]at r2;simpa using r2
     cases hS:jd p hand to least (most - least+1).toNat k (now.changed ⟨link,⟨a,b⟩⟩) (link+1)with
     |none=>
      rw[hS]at z;rw[<-z]at g;simp only[EP,bq,akk,RN,F,H,I,J,N,O];exact zx (μ:=fun q:Nat×Mem=>q.1) (a:=(v+1,⟨t,G,L⟩)) (v,⟨b6,f6,a6⟩) (by simp only;omega) rfl ⟨by simp only;omega,⟨r1,by simp only;omega,by simp only;omega,r4⟩,g⟩
     |some l=>
      rw[hS]at z;rw[<-z]at g;simp only[EP,br,bL,tX,DV.strip,GH,RN,F,H,I,J,N,O];have bj:=vw hS;refine⟨acH l,(fun h=>by cases h),(fun y hy=>by subst hy;rfl),by rw[Q];omega,?_⟩;simp only[zF (k:=a6.length) yQ,ais,bS,RN,F,H,I,J,N,O];exact⟨by rw[g];simp[EP,Dv],r1,by simp only;omega,by simp;omega,r4⟩
    ·have D:(⟨a,b⟩:Pr)=(p.links.getD link default).pr:=by have:=Zo (v:=⟨a,b⟩) (x:=(p.links.getD link default).pr);rw[this]at he;simpa using he
     rw[if_pos D,cf]at g;simp only[akk,RN,F,H,I,J,N,O];refine zx (μ:=fun q:Nat×Mem=>q.1) (a:=(v+1,⟨t,G,L⟩)) (v,_) (by simp only;omega) rfl ⟨by simp only;omega,⟨?_,by simp;omega,s3,fun i hi=> ?_⟩,g⟩
     ·rw[ae V];exact s1
     ·rcases aR.1 hi with rfl|hi
      ·simp
      ·have:=s4 i hi;simp;omega
end
def aeU (a b:Int):Pure C 333 [dI a,dI b] (.d (.bool (bH a&&bH b&&decide (a<=b)))) []:=by
 refine ah C9 aQ ?_;simp only[C9,aQ,RN,F,H,I,J,N,O]
 repeat' first
  |(refine au (OB _) ?_;try simp only[RN,F,H,I,J,N,O])
  |(refine aH (by rfl) (fun c=> ?_) (fun c=> ?_)<;>simp only[c,RN,F,H,I,J,N,O])
  |(refine aP (by rfl) (fun c=> ?_) (fun c=> ?_)<;>simp only[c,RN,F,H,I,J,N,O])
 all_goals(first|(simp only[bH, *,BSN];done)|(simp_all[bH];done)|(simp_all[bH];omega))
def ZH (p:Pc)(least most hand:Int)(f:Fr)(hl:p.links.length<=1000)(hh:p.hands.length<=1000)(hb: -1000000<=most/\most<=1000000)(Z: -1000000<=least/\least<=1000000):
  Pure C 292 [p.dv,dI least,dI most,dI hand,f.dv] (.d (.tup [.slice ((p.changes least most hand f).2 !=0) ((p.changes least most hand f).1.map Chg.dv),dI (p.changes least most hand f).2])) []:=by
 have A:=ug p hl hh;have o:=ag1 f;have k:cn .i64 ((p.hands.length:Int) - 1)=(p.hands.length:Int) - 1:=aF (by omega);have m:cn .i64 (most - least)=most - least:=aF (by omega);refine ah CX aem ?_;simp only[jR,dG]at A o⊢;simp only[CX,aem,RN,F,H,I,J,N,O]
 repeat' first
  |(refine au (A) ?_;try simp only[k,m,Q,RN,F,H,I,J,N,O])
  |(refine au (aeU _ _) ?_;try simp only[k,m,Q,RN,F,H,I,J,N,O])
  |(refine au (Ez _ _ _) ?_;try simp only[k,m,Q,RN,F,H,I,J,N,O])
  |(refine au (o) ?_;try simp only[k,m,Q,RN,F,H,I,J,N,O])
  |(refine aH (by rfl) (fun n=> ?_) (fun n=> ?_)<;>simp only[n,k,m,Q,RN,F,H,I,J,N,O])
  |(refine aP (by rfl) (fun n=> ?_) (fun n=> ?_)<;>simp only[n,k,m,Q,RN,F,H,I,J,N,O])
 all_goals first
  |(
   have x:p.changes least most hand f=([],2):=by
    rw[Pc.changes,if_neg];intro hh;simp only[U,decide_eq_true_eq]at hh;obtain⟨⟨⟨⟨r,⟨s,a⟩,q4⟩,q5⟩,q6⟩,q7⟩:=hh;have W:¬most<least:=by omega
    have Y:¬10<most - least:=by omega
    simp_all
    done
   rw[x]
   rfl)
  |skip
 have B:p.ok=true:=by simp_all
 have h2:(bH least&&bH most&&decide (least<=most))=true:=by simp_all
 have R:most - least<=10:=by simp_all
 have y:inR hand 0 ((p.hands.length:Int) - 1)=true:=by simp_all
 have z:f.ok=true:=by simp_all
 have g:=Pc.good B;have V:=g.l2;have e:bH least=true/\bH most=true/\least<=most:=by simpa[and_assoc]using h2
 have t:0<=hand/\hand<=(p.hands.length:Int) - 1:=by simpa[inR]using y
 have ajU:p.changes least most hand f=(match jd p hand f least (most - least+1).toNat 0 p 0 with
  |some l=>(l,0)
  |none=>match jd p hand f least (most - least+1).toNat 1 p 0 with
   |some l=>(l,0)
   |none=>match jd p hand f least (most - least+1).toNat 2 p 0 with
    |some l=>(l,0)
    |none=>([],5)):=by
  simp only[Pc.changes,B,h2,y,z,decide_eq_true R,bE,if_true]
 have D:=Tq p (by omega) g.lk g.pr;simp only[jR,rO]at D;refine au D ?_;simp only[l7,cells_func,Vm,X,RN,F,H,I,J,N,O];have w:hand.toNat<p.hands.length:=by have:=g.h1;omega
 have T:Now p p:=⟨rfl,g.lk,g.pr⟩
 refine aG 3 (fun i (b:Mem)=>⟨[(5, .d (.aV [sF (p.links.map Lk.dv),sF (p.hands.map ay)])),(14, .ptr 7 0),(55,pI i)],b⟩)
  (fun i b=>b.boxes[7]?=some (some [searchFn p hand f least most 7])/\(∀j∈b.fz,j<b.boxes.length)/\∀j,j<i->jd p hand f least (most - least+1).toNat j p 0=none) 0 _ (by decide) rfl ⟨rfl,by simp,by simp⟩ (fun i b h1 h=> ?_) (fun b h=> ?_)
 ·obtain⟨K,M,E⟩:=b
  obtain⟨r,s,a⟩:=h;simp only at r s;have u:((i:Int)<3):=by omega
  have S:cn .i64 ((i:Int)+1)=((i+1:Nat):Int):=by rw[aF (by omega)];omega
  have q:=abH (bs:=7) g t.1 w z e.1 e.2.1 e.2.2 i p 0 ⟨K,M,E⟩ (by omega) T (by omega) r s;simp only[jR,bc]at q;simp only[u,r,searchFn,RN,F,H,I,J,N,O];refine Ic (args:=[_,_,_]) (by kernel_rfl) (fs:=[]) ?_;refine SC.mono q ?_;rintro v1 ⟨L,P,G⟩ ⟨rfl,r1,r2,r3,r4⟩;simp only at r1 r2 r3 r4;cases c:jd p hand f least (most - least+1).toNat i p 0 with
  |none=>
   simp only[EP,bq,S,RN,F,H,I,J,N,O];refine kZ (len:=3) (i:=i) ⟨L,P,G⟩ h1 rfl ⟨r1,r4,fun j hj=> ?_⟩
   by_cases v:j=i
   ·rw[v];exact c
   ·exact a j (by omega)
  |some l=>
   simp only[EP,br,bL,RN,F,H,I,J,N,O];have:p.changes least most hand f=(l,0):=by
    rw[ajU]
    match i,h1,c,a with
    |0,_,c,_=>rw[c]
    |1,_,c,a=>rw[a 0 (by omega),c]
    |2,_,c,a=>rw[a 0 (by omega),a 1 (by omega),c]
   rw[this]
   rfl
 ·obtain⟨r,s,a⟩:=h
  simp only[am,Int.cast_ofNat_Int,RN,F,H,I,J,N,O];have:p.changes least most hand f=([],5):=by rw[ajU,a 0 (by omega),a 1 (by omega),a 2 (by omega)]
  rw[this]
  rfl
def D8:aA:=(sw (r0 [ba 4 0 0,ba 5 1 1,mk 8 (.c (.slice true [])),mi 9 0] 2 [2,3,4,5] [4,5]) (sw (sr [lw 10 2 4,oa 11 (.aj 261) 10,oa 12 pN 11,mv 13 12,ow 14 (.load true 3) 5 13 0,ow 15 (.aj 262) 14 13 0,ow 16 pN 15 13 0,pt 17 13 16,mv 18 17,ow 19 .mov 2 18 0,ow 20 (.aj 263) 19 18 0,ow 21 pN 20 18 0,pt 22 18 21,mv 23 22,ow 24 .mov 3 23 0,ow 25 (.aj 264) 24 23 0,ow 26 pN 25 23 0,pt 27 23 26] 0 [2,3,4,5,27] (cd 27 (sr [mk 8 (.c (.slice true [])),mi 9 2] 0 [8,9] .ret) .skip)) (sr [lw 28 2 4,lw 29 3 5,ob 30 (.call 265) 28 29,mv 31 2,mv 32 3,on 33 (.call 266) [.t 30,.t 31,.t 32],mv 8 33,mi 9 0] 0 [8,9] .ret)))
def KQ:aA:=(sw (r0 [ba 2 0 0,ba 3 1 1,mi 4 0,mi 5 0] 2 [2,3] [2,3]) (sw (sr [lw 7 2 2,oa 8 (.aj 261) 7,oa 9 pN 8] 0 [2,3,9] (cd 9 (sr [mi 4 0,mi 5 2] 0 [4,5] .ret) .skip)) (sw (r0 [lw 10 2 2,on 11 (.build [z0,z0,z0] []) [],ob 12 (.aj 265) 10 11,al 6 0 [z0,zs,z0,z0,z0,zs,.map none],sk 7 6 12 0] 1 [3,6] [6]) (sw (sr [lw 13 7 6,lw 14 3 3,ob 15 (.aj 272) 13 14,oa 16 pN 15] 0 [3,6,16] (cd 16 (sr [mi 4 0,mi 5 2] 0 [4,5] .ret) .skip)) (sr [lw 17 7 6,lw 18 3 3,ob 19 (.aj 273) 17 18,mv 4 19,mi 5 0] 0 [4,5] .ret)))))
def xX:aA:=(sw (r0 [ba 1 0 0,mf 2 false] 1 [1] [1]) (sw (sr [fa 6 0 1,lo 7 6,on 8 (.aj 309) [.t 7,kI 0,kI 1000],oa 9 pN 8,mv 10 9,ow 11 (.fld 1) 1 10 0,lq 12 11 10,ow 13 .len 12 10 0,oF 14 (.aj 309) [.t 13,kI 1,kI 3] 10 0,ow 15 pN 14 10 0,pt 16 10 15] 0 [1,16] (cd 16 (sr [mf 2 false] 0 [2] .ret) .skip)) (sr [mi 3 1] 0 [1,3] (sw (sr [fa 17 1 1,lo 18 17,oa 19 .len 18,mi 20 0] 0 [3,18,19,20] (.block 0 (.loop (sr [ob 21 pL 20 19] 0 [3,18,19,20,21] (sw (cx 21 0) (sw (.block 1 (sr [ix 22 1 18 20,lo 23 22,mv 5 23] 0 [3,5,18,19,20] (sw (sr [mv 24 5,mv 25 3,oi 26 pA 25 1,on 27 (.aj 309) [.t 24,.t 26,kI 1000],oa 28 pN 27] 0 [5,18,19,20,28] (cd 28 (sr [mf 2 false] 0 [2] .ret) .skip)) (rg [mv 29 5,mv 3 29] 0 [3,18,19,20])))) (rg [oi 30 pA 20 1,mv 20 30] 0 [3,18,19,20]))))))) (sr [mf 2 true] 0 [2] .ret)))))
def D9:aA:=(sw (r0 [ba 1 0 0,mf 2 false] 1 [1] [1]) (sr [fa 3 1 1,lo 4 3,on 5 (.aj 309) [.t 4,kI 1,kI 1000],mv 6 5,ov 7 (.fld 0) 1 6 0,ov 8 (.load false 1) 7 6 0,ov 9 (.fld 1) 1 6 0,ov 10 (.load false 1) 9 6 0,ot 11 pM [kI 29,.t 10] 6 0,ov 12 (.fld 1) 1 6 0,ov 13 (.load false 1) 12 6 0,ot 14 pM [kI 30,.t 13] 6 0,ot 15 (.aj 309) [.t 8,.t 11,.t 14] 6 0,pf 16 6 15,mv 17 16,ov 18 (.fld 2) 1 17 0,ov 19 (.load false 1) 18 17 0,ov 20 (.fld 0) 1 17 0,ov 21 (.load false 1) 20 17 0,ot 22 pU [.t 21,kI 1] 17 0,ot 23 (.aj 309) [.t 19,kI 0,.t 22] 17 0,pf 24 17 23,mv 2 24] 0 [2] .ret))
def y9:aA:=(sr [mf 2 false] 0 [0] (sr [mv 3 0,oa 4 .len 3,oi 5 (.bin .leq) 4 6,mv 6 5,ov 7 .mov 0 6 0,ot 8 (.aj 310) [.t 7,.c (.func (.func 311) [] [])] 6 0,ov 9 pN 8 6 0,pf 10 6 9,mv 2 10] 0 [2] .ret))
def Ea:aA:=(sr [mf 2 false] 0 [0] (sr [mv 3 0,on 4 (.aj 309) [.t 3,kI 0,kI 4000],mv 2 4] 0 [2] .ret))
def wV:aA:=(sw (r0 [ba 2 0 0,ba 3 1 1,al 4 2 [z0,zs,z0,z0,z0,zs,.map none]] 3 [2,3,4] [2,3]) (sr [lw 8 2 2,lw 9 3 3,on 10 (.mkMap 0) [],on 11 (.build [z0,zs,z0,z0,z0,zs,.map none] [(0,2),(2,3),(6,1)]) [.t 8,.t 9,.t 10],al 5 1 [z0,zs,z0,z0,z0,zs,.map none],sk 7 5 11 0] 2 [2,4,5] (sr [fa 12 0 2,lo 13 12,mv 6 13] 0 [4,5,6] (sw (sr [mi 14 0] 0 [4,5,6,14] (.block 0 (.loop (sr [oi 15 pL 14 4002] 0 [4,5,6,14,15] (sw (cx 15 0) (sw (.block 1 (sr [mv 16 14,mv 7 16] 0 [4,5,6,7,14] (sr [fa 17 5 5,lo 18 17,mv 19 6,oa 20 (.dA 1 [z0] [0]) 19,ob 21 (.app 1 false) 18 20,fa 22 5 5,sk 1 22 21 0] 0 [4,5,6,7,14] (rg [mv 23 6,lw 24 7 5,mv 25 7,ob 26 (.iG 312) 24 25,ob 27 pA 23 26,mv 6 27] 0 [4,5,6,14])))) (rg [oi 28 pA 14 1,mv 14 28] 0 [4,5,6,14]))))))) (sr [lw 29 7 5,sk 7 4 29 0] 0 [4] .ret)))))
def sQ:aA:=(sr [ba 3 0 0,ag 6 1] 1 [1,2,3] (sr [ag 7 1] 0 [1,2,3,7] (sw (sr [mv 12 1,oa 13 .len 12,mi 14 0] 0 [2,3,7,12,13,14] (.block 0 (.loop (sr [ob 15 pL 14 13] 0 [2,3,7,12,13,14,15] (sw (cx 15 0) (sw (.block 1 (sr [ix 16 4 12 14,lw 17 4 16,al 9 0 [.bool false,z0,z0,z0],sk 4 9 17 0] 1 [2,3,7,9,12,13,14] (sr [mi 10 (-1)] 0 [2,3,7,9,10,12,13,14] (sw (sr [mv 18 2,fa 19 1 9,lo 20 19,fa 21 2 9,lo 22 21,on 23 (.build [z0,z0,z0] [(0,1),(1,1),(2,1)]) [.t 18,.t 20,.t 22],al 11 0 [z0,z0,z0],sk 3 11 23 0] 1 [2,3,7,9,10,11,12,13,14] (sw (r0 [fa 24 0 9,lo 25 24] 0 [2,3,7,9,10,11,12,13,14,25] [9]) (cd 25 (r1 [ou 26 (.load true 7) 3 2,mv 27 2,ob 28 (.Hy 313) 26 27,fu 29 3 9 1,lv 30 29,ob 31 pA 28 30,mv 10 31] 0 [2,3,7,10,12,13,14] []) (sr [lw 32 7 3,lw 33 3 11,ob 34 (.iG 272) 32 33] 0 [2,3,7,10,11,12,13,14,34] (cd 34 (rg [lw 35 7 3,lw 36 3 11,ob 37 (.iG 273) 35 36,mv 10 37] 0 [2,3,7,10,12,13,14]) .skip))))) (rg [mv 38 7,mv 39 10,oa 40 (.dA 1 [z0] [0]) 39,ob 41 (.app 1 false) 38 40,mv 7 41] 0 [2,3,7,12,13,14]))))) (rg [oi 42 pA 14 1,mv 14 42] 0 [2,3,7,12,13,14]))))))) (sr [mv 43 7,mv 6 43] 0 [6] .ret))))
def sS:aA:=(sw (r0 [ba 2 0 0,ba 3 1 1,mf 4 false] 2 [2,3] [2,3]) (sw (r1 [fu 5 0 3 1,lv 6 5,oa 7 (.aj 264) 6,mv 8 7,ov 9 (.fld 1) 3 8 1,ov 10 (.load false 1) 9 8 1,ot 11 (.aj 309) [.t 10,kI 1,kI 12] 8 0,pf 12 8 11,mv 13 12,ov 14 (.fld 2) 3 13 1,ov 15 (.load false 1) 14 13 1,ov 16 (.load true 7) 2 13 1,ov 17 (.fld 0) 3 13 1,ov 18 (.load false 1) 17 13 1,obT 19 (.aj 317) 16 18 13 0,ov 20 (.aj 316) 19 13 0,ov 21 (.fld 1) 3 13 1,ov 22 (.load false 1) 21 13 1,ot 23 pU [.t 22,kI 1] 13 0,obT 24 (.bU 1) 20 23 13 1,ov 25 (.load false 1) 24 13 1,ot 26 (.aj 309) [.t 15,kI 1,.t 25] 13 0,pf 27 13 26,mv 4 27] 0 [4] []) .ret))
def xY:aA:=(sw (r0 [ba 2 0 0,ba 3 1 1,mi 4 0] 2 [2,3] [2,3]) (sw (r1 [fu 5 5 2 1,lv 6 5,fu 7 0 3 1,lv 8 7,ob1 9 (.bU 1) 6 8 1,lv 10 9,ou 11 (.load true 7) 2 1,fu 12 0 3 1,lv 13 12,ob 14 (.aj 317) 11 13,oa 15 (.aj 316) 14,fu 16 1 3 1,lv 17 16,oi 18 pU 17 1,ob1 19 (.EC 1 false true false) 15 18 1,oa 20 (.aj 318) 19,ob 21 pA 10 20,fu 22 2 3 1,lv 23 22,ob 24 pA 21 23,oi 25 pU 24 1,mv 4 25] 0 [4] []) .ret))
def IJ:aA:=(sw (r0 [ba 2 0 0,ba 3 1 1,al 4 2 [z0,z0,z0],mi 5 0] 3 [2,3,4] [2,3]) (sw (sr [lw 8 2 2,oa 9 (.aj 261) 8,oa 10 pN 9,mv 11 10,lq 12 3 11,ow 13 (.aj 338) 12 11 0,ow 14 pN 13 11 0,pt 15 11 14] 0 [2,3,4,15] (cd 15 (sr [on 16 (.build [z0,z0,z0] []) [],sk 3 4 16 0,mi 5 2] 0 [4,5] .ret) .skip)) (sr [al 6 0 [z0,z0,z0]] 1 [2,3,4,6] (sw (sr [on 17 (.mkF (.func 340) 0) [.t 2,.t 3,.t 6],oa 18 (.call 339) 17,mv 7 18] 0 [4,6,7] (sr [mv 19 7,oi 20 pQ 19 0] 0 [4,6,7,20] (cd 20 (sr [on 21 (.build [z0,z0,z0] []) [],mv 22 7,sk 3 4 21 0,mv 5 22] 0 [4,5] .ret) .skip))) (sr [lw 23 3 6,sk 3 4 23 0,mi 5 0] 0 [4,5] .ret)))))
def vW:aA:=(sw (r0 [ba 1 0 0,mf 2 false] 1 [1] [1]) (sw (sr [fa 3 0 1,lo 4 3] 0 [1,4] (cd 4 (sr [fa 5 1 1,lo 6 5,oi 7 pQ 6 0,mv 8 7,ow 9 (.fld 2) 1 8 0,lq 10 9 8,oF 11 pQ [.t 10,kI 0] 8 0,pt 12 8 11,mv 13 12,ow 14 (.fld 3) 1 13 0,lq 15 14 13,oF 16 (.aj 309) [.t 15,kI (-60),kI 60] 13 0,ow 17 pN 16 13 0,pt 18 13 17,mv 2 18] 0 [2] .ret) .skip)) (sr [fa 19 3 1,lo 20 19,oi 21 pQ 20 0,mv 22 21,ow 23 (.fld 1) 1 22 0,lq 24 23 22,oF 25 (.aj 309) [.t 24,kI 1,kI 12] 22 0,ow 26 pN 25 22 0,pt 27 22 26,mv 28 27,ow 29 (.fld 2) 1 28 0,lq 30 29 28,oF 31 (.aj 309) [.t 30,kI 1,kI 31] 28 0,ow 32 pN 31 28 0,pt 33 28 32,mv 2 33] 0 [2] .ret)))
def vY:aA:=(sw (r0 [ba 2 0 0,mi 4 0] 1 [1,2] [2]) (sr [lw 5 7 2,mv 6 1,ob 7 (.aj 317) 5 6,oa 8 (.aj 316) 7,oa 9 (.aj 318) 8,mv 4 9] 0 [4] .ret))
def sU:aA:=(sr [ba 2 0 0,mi 4 0] 1 [1,2] (sr [mv 9 1,on 10 (.build [z0,z0,z0] [(0,1),(1,1),(2,1)]) [.t 9,kI 3,kI 21],al 5 0 [z0,z0,z0],sk 3 5 10 0] 1 [2,5] (sw (sr [fa 12 6 2,lo 13 12,lw 14 3 5,ob 15 (.FD true [1,1,1] (.int .i64 0)) 13 14,mv 11 15,xa 16 0 11,xa 17 1 11,mv 6 16,mv 7 17] 0 [2,5,6,7] (sr [mv 18 7] 0 [2,5,6,18] (cd 18 (sr [mv 19 6,mv 4 19] 0 [4] .ret) .skip))) (sr [lw 20 7 2,lw 21 3 5,ob 22 (.iG 273) 20 21,mv 8 22] 0 [2,5,8] (sw (.block 0 (.loop (sw (sr [fa 23 2 2,lw 24 3 23,mv 25 8,ob 26 (.aj 346) 24 25,oi 27 pQ 26 13] 0 [2,5,8,27] (cx 27 0)) (.block 1 (rg [mv 28 8,oi 29 pA 28 1,mv 8 29] 0 [2,5,8]))))) (sr [mv 30 8,mv 31 8,oa 32 (.aj 347) 31,on 33 pU [kI 7,.t 32],ob 34 pA 30 33,mv 8 34] 0 [2,5,8] (sr [fa 35 6 2,lo 36 35,lw 37 3 5,mv 38 8,os (.RY [1,1,1]) [.t 36,.t 37,.t 38] 0] 0 [8] (sr [mv 39 8,mv 4 39] 0 [4] .ret))))))))
def Eb:aA:=(sr [mk 2 (.c (.slice true []))] 0 [0] (sr [on 4 (.lG 1 [z0,z0,z0,z0,z0,z0,z0,z0,z0,z0,z0,z0] [0,1,2,3,4,5,6,7,8,9,10,11]) [kI 31,kI 28,kI 31,kI 30,kI 31,kI 30,kI 31,kI 31,kI 30,kI 31,kI 30,kI 31],mv 3 4] 0 [0,3] (sw (sr [mv 5 0] 0 [3,5] (cd 5 (rg [mv 6 3,oi 7 (.bU 1) 6 1,os (.store 1) [.t 7,kI 29] 0] 0 [3]) .skip)) (sr [mv 8 3,mv 2 8] 0 [2] .ret))))
def vZ:aA:=(sw (r0 [ba 2 0 0,mf 4 false] 1 [1,2] [2]) (sr [mf 5 false] 0 [1,2,5] (sw (sr [fa 8 0 2,fa 9 1 8,lo 10 9,oa 11 .len 10,mi 12 0] 0 [1,5,10,11,12] (.block 0 (.loop (sr [ob 13 pL 12 11] 0 [1,5,10,11,12,13] (sw (cx 13 0) (sw (.block 1 (sr [ix 14 1 10 12,lo 15 14,mv 7 15] 0 [1,5,7,10,11,12] (sr [mv 16 1,mv 17 7,ob 18 (.bin .rem) 16 17,oi 19 pE 18 0] 0 [1,5,10,11,12,19] (cd 19 (rg [mv 20 5,oa 21 pN 20,mv 5 21] 0 [1,5,10,11,12]) .skip)))) (rg [oi 22 pA 12 1,mv 12 22] 0 [1,5,10,11,12]))))))) (sr [mv 23 5,mv 4 23] 0 [4] .ret))))
def KT:aA:=(sr [mi 2 0] 0 [0] (sr [mi 3 0] 0 [0,3] (sw (sr [mv 6 0,oa 7 .len 6,mi 8 0] 0 [3,6,7,8] (.block 0 (.loop (sr [ob 9 pL 8 7] 0 [3,6,7,8,9] (sw (cx 9 0) (sw (.block 1 (sr [ix 10 1 6 8,lo 11 10,mv 5 11] 0 [3,5,6,7,8] (rg [mv 12 3,mv 13 5,ob 14 pA 12 13,mv 3 14] 0 [3,6,7,8]))) (rg [oi 15 pA 8 1,mv 8 15] 0 [3,6,7,8]))))))) (sr [mv 16 3,mv 2 16] 0 [2] .ret))))
def FY:aA:=(sr [mf 2 false] 0 [0] (sr [mv 3 0,on 4 (.aj 309) [.t 3,kI 0,kI 2000000],mv 2 4] 0 [2] .ret))
def D7:aA:=(r1 [ou 3 (.load true 2) 0 1,on 4 (.build [z0,z0,z0] []) [],ob 5 (.aj 265) 3 4,lv 6 1,ob 7 (.aj 341) 5 6,sk 3 2 7 0] 0 [] [])
def vX:aA:=(sw (r0 [ba 2 0 0,al 4 1 [z0,z0,z0]] 2 [1,2,4] [2]) (sr [fa 11 5 2,lo 12 11,mv 13 1,ob 14 (.aj 361) 12 13,mv 10 14,xa 15 0 10,xa 16 1 10,mv 5 15,mv 6 16] 0 [1,2,4,5,6] (sw (sr [mv 17 6,oa 18 pN 17] 0 [1,2,4,5,18] (cd 18 (rg [mv 19 5,oi 20 pU 19 1,mv 5 20] 0 [1,2,4,5]) .skip)) (sw (sr [mv 21 5,oa 22 (.aj 264) 21,oa 23 pN 22] 0 [1,2,4,5,23] (cd 23 (rg [mv 24 1,oa 25 (.build [z0] [(0,1)]) 24,oa 26 (.mkI T.Jw) 25,os .panic [.t 26] 0] 0 [1,2,4,5]) .skip)) (sr [mv 27 1,fa 28 5 2,lo 29 28,mv 30 5,ix 31 1 29 30,lo 32 31,ob 33 pU 27 32,mv 7 33] 0 [1,2,4,5,7] (sw (sr [lw 34 7 2,mv 35 5,ob 36 (.aj 317) 34 35,oa 37 (.aj 316) 36,oa 38 .len 37,mi 39 0] 0 [1,4,5,7,37,38,39] (.block 0 (.loop (sr [ob 40 pL 39 38] 0 [1,4,5,7,37,38,39,40] (sw (cx 40 0) (sw (.block 1 (sr [mv 41 39,ix 42 1 37 39,lo 43 42,mv 8 41,mv 9 43] 0 [1,4,5,7,8,9,37,38,39] (sw (sr [mv 44 7,mv 45 9,ob 46 pL 44 45] 0 [1,4,5,7,8,9,37,38,39,46] (cd 46 (sr [mv 47 5,mv 48 8,oi 49 pA 48 1,mv 50 7,oi 51 pA 50 1,on 52 (.build [z0,z0,z0] [(0,1),(1,1),(2,1)]) [.t 47,.t 49,.t 51],sk 3 4 52 0] 0 [4] .ret) .skip)) (rg [mv 53 7,mv 54 9,ob 55 pU 53 54,mv 7 55] 0 [1,4,5,7,37,38,39])))) (rg [oi 56 pA 39 1,mv 39 56] 0 [1,4,5,7,37,38,39]))))))) (rg [mv 57 1,oa 58 (.build [z0] [(0,1)]) 57,oa 59 (.mkI T.Jw) 58,os .panic [.t 59] 0] 0 [4])))))))
def KR:aA:=(sw (r0 [ba 2 0 0,mi 4 0] 1 [1,2] [2]) (sr [mv 6 1,oi 7 pA 6 1,fa 8 1 2,lo 9 8,ob 10 pM 7 9,oi 11 pU 10 1,fa 12 2 2,lo 13 12,ob 14 pU 11 13,fa 15 0 2,lo 16 15,ob 17 (.aj 366) 14 16,mv 5 17] 0 [1,2,5] (sr [mv 18 1,mv 19 5,fa 20 0 2,lo 21 20,ob 22 pM 19 21,fa 23 2 2,lo 24 23,ob 25 pA 22 24,fa 26 1 2,lo 27 26,ob 28 (.aj 366) 25 27,ob 29 pU 18 28,mv 4 29] 0 [4] .ret)))
def CU:aA:=(sr [mi 2 0] 0 [0] (sr [mv 3 0,oi 4 pA 3 4,oi 5 (.bin .rem) 4 7,mv 2 5] 0 [2] .ret))
def IK:aA:=(sr [mi 4 0] 0 [0,1] (sr [mv 6 0,mv 7 1,ob 8 (.bin .quo) 6 7,mv 5 8] 0 [0,1,5] (sw (sr [mv 9 5,mv 10 1,ob 11 pM 9 10,mv 12 0,ob 13 pG 11 12] 0 [5,13] (cd 13 (rg [mv 14 5,oi 15 pU 14 1,mv 5 15] 0 [5]) .skip)) (sr [mv 16 5,mv 4 16] 0 [4] .ret))))
def FM (n l h:Int):Pure C 309 [dI n,dI l,dI h] (.d (.bool (inR n l h))) []:=xM n l h
def Rk (n:Int):Pure C 264 [dI n] (.d (.bool (inR n 0 4000))) []:=by
 refine ah Ea aS ?_;simp only[Ea,aS,RN,F,H,I,J,N,O]
 repeat' first
  |(refine au (FM _ _ _) ?_;try simp only[RN,F,H,I,J,N,O])
  |(refine aH (by rfl) (fun a=> ?_) (fun a=> ?_)<;>simp only[a,RN,F,H,I,J,N,O])
  |(refine aP (by rfl) (fun a=> ?_) (fun a=> ?_)<;>simp only[a,RN,F,H,I,J,N,O])
 all_goals(first|(simp only[inR, *,BSN];done)|(simp_all[inR];done)|(simp_all[inR];omega))
def acQ (n:Int):Pure C 338 [dI n] (.d (.bool (inR n 0 2000000))) []:=by
 refine ah FY aS ?_;simp only[FY,aS,RN,F,H,I,J,N,O]
 repeat' first
  |(refine au (FM _ _ _) ?_;try simp only[RN,F,H,I,J,N,O])
  |(refine aH (by rfl) (fun a=> ?_) (fun a=> ?_)<;>simp only[a,RN,F,H,I,J,N,O])
  |(refine aP (by rfl) (fun a=> ?_) (fun a=> ?_)<;>simp only[a,RN,F,H,I,J,N,O])
 all_goals(first|(simp only[inR, *,BSN];done)|(simp_all[inR];done)|(simp_all[inR];omega))
def Q9:List Int->Int->Bool
 | [],_=>true
 |n::l,a=>inR n (a+1) 1000&&Q9 l n
def Cal.ok (c:Cal):Bool:=inR c.ep 0 1000&&inR c.cy.length 1 3&&Q9 c.cy 1
def ML:∀{l:List Int} {last:Int},1<=last->Q9 l last=true->∀n∈l,2<=n/\n<=1000
 | [],_,_,_,n,a=>by cases a
 |x::l,last,h1,h,n,a=>by
  simp only[Q9,inR,U,decide_eq_true_eq,ge_iff_le]at h
  rcases aR.1 a with rfl|a
  ·omega
  ·exact ML (last:=x) (by omega) h.2 n a
variable{c:Cal}
def Cal.facts (h:c.ok=true):(0<=c.ep/\c.ep<=1000)/\(1<=c.cy.length/\c.cy.length<=3)/\∀n∈c.cy,2<=n/\n<=1000:=by
 simp only[Cal.ok,U]at h;obtain⟨⟨h1,h2⟩,a⟩:=h;simp only[inR,U,decide_eq_true_eq,ge_iff_le]at h1 h2;exact⟨h1,by omega,ML (by omega) a⟩
def Rx (c:Cal)(hl:c.cy.length<=1000000):Pure C 261 [c.dv] (.d (.bool c.ok)) []:=by
 refine ah xX aS ?_;simp only[xX,aS,mF,RN,F,H,I,J,N,O]
 repeat' first
  |(refine au (FM _ _ _) ?_;try simp only[Q,RN,F,H,I,J,N,O])
  |(refine aH (by rfl) (fun e=> ?_) (fun e=> ?_)<;>simp only[e,Q,RN,F,H,I,J,N,O])
  |(refine aP (by rfl) (fun e=> ?_) (fun e=> ?_)<;>simp only[e,Q,RN,F,H,I,J,N,O])
 any_goals (simp_all[Cal.ok];done)
 have g:c.ok=Q9 c.cy 1:=by simp_all[Cal.ok]
 rw[g];refine aG c.cy.length (fun i (a:Int)=>⟨[(3,pI a),(18, .d (sF (c.cy.map ay))),(19,pI c.cy.length),(20,pI i)],⟨[some [pI c.ep, .d (sF (c.cy.map ay))]],[0],[]⟩⟩)
  (fun i a=>1<=a/\a<=1000/\Q9 c.cy 1=Q9 (c.cy.drop i) a) 0 1 (ab _) rfl ⟨by omega,by omega,rfl⟩ (fun i a h1 b=> ?_) (fun a b=> ?_)
 ·obtain⟨h2,k,h⟩:=rng h1 hl
  obtain⟨l,m,b⟩:=b;rw[drop_cons h1,Q9]at b;have j:cn .i64 (a+1)=a+1:=aF (by omega);simp only[h2,k,h1,h,aZ,getD_map,S,Q,j,RN,F,H,I,J,N,O];refine au (FM _ _ _) ?_;cases f:inR (c.cy.getD i default) (a+1) 1000
  ·(try simp only[RN,F,H,I,J,N,O])
   rw[b,f];rfl
  ·simp only[h,RN,F,H,I,J,N,O]
   rw[f,b4]at b;have:a+1<=c.cy.getD i default/\c.cy.getD i default<=1000:=by simpa[inR]using f
   exact dX (c.cy.getD i default) h1 rfl ⟨by omega,by omega,b⟩ (by simp) (by simp) rfl rfl
 ·obtain⟨_,_,b⟩:=b
  rw[ao,Q9]at b;simp only[am,b,RN,F,H,I,J,N,O]
def Vp (c:Cal)(m:jg)(fs:List Int)(es:Option (List (DV×DV))):DV:= .agg [dI c.ep,sF (c.cy.map ay),dI m.n,dI m.d,dI m.ad,sF (fs.map ay), .map es]
variable{m:jg}
def qp {fs:List Int}{es:Option (List (DV×DV))}:Vp c m fs es= .agg [dI c.ep,sF (c.cy.map ay),dI m.n,dI m.d,dI m.ad,sF (fs.map ay), .map es]:=by rw[Vp]
def NC:List Int->Int->Bool->Bool
 | [],_,a=>a
 |n::l,y,a=>NC l y (if y.tmod n==0 then !a else a)
def Cal.leap (c:Cal)(y:Int):Bool:=NC c.cy y false
def RI (c:Cal)(m:jg)(fs:List Int)(es:Option (List (DV×DV)))(y:Int)(hl:c.cy.length<=1000000)(j:∀n∈c.cy,n≠0):Pure C 317 [Vp c m fs es,dI y] (.d (.bool (c.leap y))) []:=by
 refine ah vZ aQ ?_;simp only[vZ,aQ,qp,Q,RN,F,H,I,J,N,O];refine aG c.cy.length (fun i (b:Bool)=>⟨[(1,pI y),(5, .d (.bool b)),(10, .d (sF (c.cy.map ay))),(11,pI c.cy.length),(12,pI i)],
   ⟨[some [pI c.ep, .d (sF (c.cy.map ay)),pI m.n,pI m.d,pI m.ad, .d (sF (fs.map ay)), .d (.map es)]],[0],[]⟩⟩)
  (fun i b=>c.leap y=NC (c.cy.drop i) y b) 0 false (ab _) rfl rfl (fun i b h1 a=> ?_) (fun b a=> ?_)
 ·obtain⟨h2,h,f⟩:=rng h1 hl
  rw[drop_cons h1,NC]at a;have e:=j _ (getD_mem h1);simp only[h2,h,h1,aZ,getD_map,S,Q,e,RN,F,H,I,J,N,O];cases g:(y.tmod (c.cy.getD i default)==0)
  ·rw[g]at a
   simp only[f,RN,F,H,I,J,N,O];exact dX b h1 rfl a (by simp) (by simp) rfl rfl
  ·rw[g]at a
   simp only[f,RN,F,H,I,J,N,O];exact dX (!b) h1 rfl a (by simp) (by simp) rfl rfl
 ·rw[ao,NC]at a
  simp only[am,a,RN,F,H,I,J,N,O]
def bY (leap:Bool):List Int:=[31,if leap then 29 else 28,31,30,31,30,31,31,30,31,30,31]
def mon0:List DV:=[dI 31,dI 28,dI 31,dI 30,dI 31,dI 30,dI 31,dI 31,dI 30,dI 31,dI 30,dI 31]
def agy {C:Ctx}{K:PV->Mem->Prop}{KP:DV->Mem->Prop}(h:K (.tsl 0 0 0) ⟨[],[],[some ⟨1,mon0,0,1⟩]⟩):
  ak C 0 (.lG 1 [dI 0,dI 0,dI 0,dI 0,dI 0,dI 0,dI 0,dI 0,dI 0,dI 0,dI 0,dI 0] [0,1,2,3,4,5,6,7,8,9,10,11]) (mon0.map .d) ⟨[],[],[]⟩ K KP:=by
 simp only[ak,mon0,aM,bk,gU];exact⟨by decide,aD.1 (rfl:mon0.all (DV.fits 1)=true),h⟩
def ajG:∀b:Bool,(bY b).map ay=bif b then mon0.set 1 (dI 29)else mon0
 |true=>rfl
 |false=>rfl
def Iy (leap:Bool):Pure C 316 [.bool leap] (.d (sF ((bY leap).map ay))) []:=by
 refine dR (aC Eb aS ?_);simp only[Eb,aS,RN,F,H,I,J,N,O];refine agy ?_;rw[ajG];cases leap
 ·(try simp only[RN,F,H,I,J,N,O])
  rfl
 ·(try simp only[RN,F,H,I,J,N,O])
  refine⟨by decide,by decide,EF (ds:=[dI 29]) rfl rfl (by decide) rfl rfl (by decide) rfl⟩
def acW (l:List Int)(hl:l.length<=1000000)(hx:∀x∈l,0<=x)(hb:iI l 0<=9223372036854775807):Pure C 318 [sF (l.map ay)] (pI (iI l 0)) []:=by
 refine ah KT aS ?_;simp only[KT,aS,Q,RN,F,H,I,J,N,O];refine aG l.length (fun i (p:Int)=>⟨[(3,pI p),(6, .d (sF (l.map ay))),(7,pI l.length),(8,pI i)],⟨[],[],[]⟩⟩)
  (fun i p=>0<=p/\iI l 0=iI (l.drop i) p) 0 0 (ab _) rfl ⟨by omega,rfl⟩ (fun i p h1 a=> ?_) (fun p a=> ?_)
 ·obtain⟨h2,c,e⟩:=rng h1 hl
  obtain⟨f,a⟩:=a;rw[drop_cons h1,iI]at a;have g:=hx _ (getD_mem h1);have j:=xA (l.drop (i+1)) (p+l.getD i default) (fun y h=>hx y (bX h));have b:cn .i64 (p+l.getD i default)=p+l.getD i default:=aF (by omega);simp only[h2,c,h1,e,aZ,getD_map,S,Q,b,RN,F,H,I,J,N,O];exact dX (p+l.getD i default) h1 rfl ⟨by omega,a⟩ (by simp) (by simp) rfl rfl
 ·obtain⟨f,a⟩:=a
  rw[ao,iI]at a;simp only[am,a,RN,F,H,I,J,N,O]
def Bg (b:Bool):Int:=iI (bY b) 0
def uF:∀b:Bool,Bg b=if b then 366 else 365
 |true=>rfl
 |false=>rfl
def qG:∀(b:Bool),∀x∈bY b,28<=x/\x<=31:=by
 intro b x a;cases b<;>simp[bY]at a<;>omega
def uj:∀(b:Bool),(bY b).length=12
 |true=>rfl
 |false=>rfl
def Zh (c:Cal)(m:jg)(fs:List Int)(es:Option (List (DV×DV)))(y:Int)(hl:c.cy.length<=1000000)(a:∀n∈c.cy,n≠0):Pure C 312 [Vp c m fs es,dI y] (.d (dI (Bg (c.leap y)))) []:=by
 refine ah vY aQ ?_;simp only[vY,aQ,qp,Q,RN,F,H,I,J,N,O];have h1:=RI c m fs es y hl a;rw[qp]at h1;refine au h1 ?_;(try simp only[RN,F,H,I,J,N,O]);refine au (Iy _) ?_;(try simp only[RN,F,H,I,J,N,O]);have e:iI (bY (c.leap y)) 0<=366:=by have:=uF (c.leap y);unfold Bg at this;rw[this];split<;>decide
 refine fG rfl rfl (acW (bY (c.leap y)) (by rw[uj];decide) (fun x b=>by have:=qG _ x b;omega) (by omega)) ?_;simp only[Bg,RN,F,H,I,J,N,O]
def wd (n:Int):Int:=(n+4).tmod 7
def abT (n:Int)(h:0<=n/\n<=1000000000):Pure C 347 [dI n] (pI (wd n)) []:=by
 have a:cn .i64 (n+4)=n+4:=aF (by omega);have c:0<=(n+4).tmod 7:=bO 7 (by omega);have d:(n+4).tmod 7<7:=a7 _ (by decide);have b:cn .i64 ((n+4).tmod 7)=(n+4).tmod 7:=aF (by omega);refine ah CU aS ?_;simp only[CU,aS,a,b,wd,RN,F,H,I,J,N,O];simp
def jW (n b:Int):Int:=if n.tdiv b*b>n then n.tdiv b - 1 else n.tdiv b
def Lu (n b:Int):(n.tdiv b*b).natAbs<=n.natAbs:=by
 have h:=bR n b;rw[Int.natAbs_mul,Int.natAbs_tdiv];exact Nat.div_mul_le_self _ _
def acU (n b:Int)(h:n.natAbs<=1000000000000000000)(hb:b≠0):Pure C 366 [dI n,dI b] (pI (jW n b)) []:=by
 have f:=Fq n b;have g:=Lu n b;have c:cn .i64 (n.tdiv b)=n.tdiv b:=aF (by omega);have d:cn .i64 (n.tdiv b*b)=n.tdiv b*b:=aF (by omega);have e:cn .i64 (n.tdiv b - 1)=n.tdiv b - 1:=aF (by omega);refine ah IK aQ ?_;simp only[IK,aQ,c,d,hb,RN,F,H,I,J,N,O]
 by_cases a:n.tdiv b*b>n
 ·simp only[a,e,jW,if_true,RN,F,H,I,J,N,O]
 ·simp only[a,jW,if_false,RN,F,H,I,J,N,O]
def YX (n b:Int)(hb:b≠0):(jW n b).natAbs<=n.natAbs+1:=by
 have:=Fq n b;unfold jW
 split<;>omega
def acV (n b:Int):(jW n b*b).natAbs<=n.natAbs+b.natAbs:=by
 have:=Lu n b;unfold jW
 split
 ·rw[cl];omega
 ·omega
def jg.ok (m:jg):Bool:=inR m.d 1 1000&&inR m.n (29*m.d) (30*m.d)&&inR m.ad 0 (m.n - 1)
def jg.facts (h:m.ok=true):(1<=m.d/\m.d<=1000)/\(29*m.d<=m.n/\m.n<=30*m.d)/\0<=m.ad/\m.ad<m.n:=by
 simp only[jg.ok,inR,U,decide_eq_true_eq,ge_iff_le]at h;omega
def adB (m:jg):Pure C 262 [m.dv] (.d (.bool m.ok)) []:=by
 refine ah D9 aS ?_;simp only[D9,aS,pq,RN,F,H,I,J,N,O];refine au (FM _ _ _) ?_;cases h1:inR m.d 1 1000
 ·(try simp only[RN,F,H,I,J,N,O])
  simp[jg.ok,h1]
 ·have hd:1<=m.d/\m.d<=1000:=by simpa[inR]using h1
  have a:cn .i64 (29*m.d)=29*m.d:=aF (by omega);have b:cn .i64 (30*m.d)=30*m.d:=aF (by omega);simp only[a,b,RN,F,H,I,J,N,O];refine au (FM _ _ _) ?_;cases h2:inR m.n (29*m.d) (30*m.d)
  ·(try simp only[RN,F,H,I,J,N,O])
   simp[jg.ok,h2]
  ·have e:29*m.d<=m.n/\m.n<=30*m.d:=by simpa[inR]using h2
   have c:cn .i64 (m.n - 1)=m.n - 1:=aF (by omega);simp only[c,RN,F,H,I,J,N,O];refine au (FM _ _ _) ?_;(try simp only[RN,F,H,I,J,N,O]);simp[jg.ok,h1,h2]
def TF (m:jg)(n:Int):Int:=n - jW (jW ((n+1)*m.d - 1 - m.ad) m.n*m.n+m.ad) m.d
def ajA (m:jg)(n:Int)(j:m.ok=true)(h:0<=n/\n<=100000000):Pure C 346 [m.dv,dI n] (pI (TF m n)) []:=by
 obtain⟨hd,l,k⟩:=m.facts j;have o:0<=(n+1)*m.d/\(n+1)*m.d<=100000001*1000:=⟨an (by omega) (by omega),Z (by omega) hd.2 (by omega) (by omega)⟩
 have p:=YX ((n+1)*m.d - 1 - m.ad) m.n (by omega);have q:=acV ((n+1)*m.d - 1 - m.ad) m.n;have r:=YX (jW ((n+1)*m.d - 1 - m.ad) m.n*m.n+m.ad) m.d (by omega);have a:cn .i64 (n+1)=n+1:=aF (by omega);have b:cn .i64 ((n+1)*m.d)=(n+1)*m.d:=aF (by omega);have c:cn .i64 ((n+1)*m.d - 1)=(n+1)*m.d - 1:=aF (by omega);have e:cn .i64 ((n+1)*m.d - 1 - m.ad)=(n+1)*m.d - 1 - m.ad:=aF (by omega);have f:cn .i64 (jW ((n+1)*m.d - 1 - m.ad) m.n*m.n)=jW ((n+1)*m.d - 1 - m.ad) m.n*m.n:=aF (by omega);have g:cn .i64 (jW ((n+1)*m.d - 1 - m.ad) m.n*m.n+m.ad)=jW ((n+1)*m.d - 1 - m.ad) m.n*m.n+m.ad:=aF (by omega);have i:cn .i64 (n - jW (jW ((n+1)*m.d - 1 - m.ad) m.n*m.n+m.ad) m.d)=n - jW (jW ((n+1)*m.d - 1 - m.ad) m.n*m.n+m.ad) m.d:=aF (by omega);refine ah KR aQ ?_;simp only[KR,aQ,pq,a,b,c,e,RN,F,H,I,J,N,O];refine fG rfl rfl (acU _ _ (by omega) (by omega)) ?_;simp only[f,g,RN,F,H,I,J,N,O];refine fG rfl rfl (acU _ _ (by omega) (by omega)) ?_;simp only[i,TF,RN,F,H,I,J,N,O]
def pV (c:Cal)(d:Dt):Bool:=inR d.y 0 4000&&inR d.m 1 12&&inR d.d 1 ((bY (c.leap d.y)).getD (d.m - 1).toNat default)
def UO (c:Cal)(m:jg)(fs:List Int)(es:Option (List (DV×DV)))(d:Dt)(hl:c.cy.length<=1000000)(e:∀n∈c.cy,n≠0):Pure C 272 [Vp c m fs es,d.dv] (.d (.bool (pV c d))) []:=by
 refine ah sS aQ ?_;simp only[sS,aQ,qp,yT,Q,RN,F,H,I,J,N,O];refine au (Rk _) ?_;cases h1:inR d.y 0 4000
 ·(try simp only[RN,F,H,I,J,N,O])
  simp[pV,h1]
 ·(try simp only[RN,F,H,I,J,N,O])
  refine au (FM _ _ _) ?_;cases h2:inR d.m 1 12
  ·(try simp only[RN,F,H,I,J,N,O])
   simp[pV,h2]
  ·have h:1<=d.m/\d.m<=12:=by simpa[inR]using h2
   have a:cn .i64 (d.m - 1)=d.m - 1:=aF (by omega);simp only[a,RN,F,H,I,J,N,O];have b:=RI c m fs es d.y hl e;rw[qp]at b;refine au b ?_;(try simp only[RN,F,H,I,J,N,O]);refine au (Iy _) ?_;have f:(0:Int)<=d.m - 1:=by omega
   have g:(d.m - 1).toNat<(bY (c.leap d.y)).length:=by rw[uj];omega
   simp only[a,f,g,Q,getD_map,aZ,RN,F,H,I,J,N,O];refine au (FM _ _ _) ?_;simp only[pV,h1,h2,RN,F,H,I,J,N,O]
def Gz (c:Cal)(fs:List Int)(d:Dt):Int:=fs.getD d.y.toNat default+iI ((bY (c.leap d.y)).take (d.m - 1).toNat) 0+d.d - 1
def J3:∀(l:List Int) (n:Nat) (p:Int),(∀x∈l,0<=x)->iI (l.take n) p<=iI l p
 | [],n,p,_=>by rw[List.take_nil];exact a8 _
 |x::l,0,p,h=>xA _ _ h
 |x::l,n+1,p,h=>by
  rw[bj,iI,iI];exact J3 l n _ fun y a=>h y (by simp[a])
def acO (c:Cal)(m:jg)(fs:List Int)(es:Option (List (DV×DV)))(d:Dt)(hl:c.cy.length<=1000000)(j:∀n∈c.cy,n≠0)(hf:∀x∈fs,0<=x/\x<=10000000)(b:0<=d.y/\d.y.toNat<fs.length)(p:1<=d.m/\d.m<=12)(hd:1<=d.d/\d.d<=31):Pure C 273 [Vp c m fs es,d.dv] (pI (Gz c fs d)) []:=by
 have f:cn .i64 (d.m - 1)=d.m - 1:=aF (by omega);have o:=hf _ (getD_mem b.2);have q:iI (bY (c.leap d.y)) 0<=366:=by have:=uF (c.leap d.y);unfold Bg at this;rw[this];split<;>decide
 have k:=J3 (bY (c.leap d.y)) (d.m - 1).toNat 0 fun x a=>by have:=qG _ x a;omega
 have l:=xA ((bY (c.leap d.y)).take (d.m - 1).toNat) 0 fun x a=>by have:=qG _ x (be a);omega
 have g:cn .i64 (fs.getD d.y.toNat default+iI ((bY (c.leap d.y)).take (d.m - 1).toNat) 0)=fs.getD d.y.toNat default+iI ((bY (c.leap d.y)).take (d.m - 1).toNat) 0:=aF (by omega);have h:cn .i64 (fs.getD d.y.toNat default+iI ((bY (c.leap d.y)).take (d.m - 1).toNat) 0+d.d)=fs.getD d.y.toNat default+iI ((bY (c.leap d.y)).take (d.m - 1).toNat) 0+d.d:=aF (by omega);have i:cn .i64 (fs.getD d.y.toNat default+iI ((bY (c.leap d.y)).take (d.m - 1).toNat) 0+d.d - 1)=fs.getD d.y.toNat default+iI ((bY (c.leap d.y)).take (d.m - 1).toNat) 0+d.d - 1:=aF (by omega);refine ah xY aQ ?_;simp only[xY,aQ,qp,yT,Q,b.1,b.2,getD_map,aZ,RN,F,H,I,J,N,O];have e:=RI c m fs es d.y hl j;rw[qp]at e;refine au e ?_;(try simp only[RN,F,H,I,J,N,O]);refine au (Iy _) ?_;simp only[f,RN,F,H,I,J,N,O];rw[iP (by intro x a;simp only[aw]at a;obtain⟨y,_,rfl⟩:=a;rfl) (by omega) (by rw[Q,uj];omega)];rw[<-cj];(try simp only[RN,F,H,I,J,N,O]);refine fG rfl rfl (acW _ (by rw[List.length_take,uj];omega) (fun x a=>by have:=qG _ x (be a);omega) (by omega)) ?_;simp only[g,h,i,Gz,RN,F,H,I,J,N,O]
def Fs.bad (f:Fs):Bool:=if f.mv then f.mo !=0||f.da !=0|| !inR f.af (-60) 60 else f.af !=0|| !inR f.mo 1 12|| !inR f.da 1 31
def aie (f:Fs):Pure C 311 [f.dv] (.d (.bool f.bad)) []:=by
 refine ah vW aS ?_;simp only[vW,aS,MQ,RN,F,H,I,J,N,O]
 repeat' first
  |(refine au (FM _ _ _) ?_;try simp only[MQ,RN,F,H,I,J,N,O])
  |(refine aH (by rfl) (fun a=> ?_) (fun a=> ?_)<;>simp only[a,MQ,RN,F,H,I,J,N,O])
  |(refine aP (by rfl) (fun a=> ?_) (fun a=> ?_)<;>simp only[a,MQ,RN,F,H,I,J,N,O])
 all_goals(simp_all[Fs.bad];done)
def mJ (l:List Fs):Bool:=decide (l.length<=6)&& !l.any Fs.bad
def TI (ex:Bool)(l:List Fs):Pure C 263 [.slice ex (l.map Fs.dv)] (.d (.bool (mJ l))) []:=by
 refine ah y9 aS ?_;simp only[y9,aS,Q,RN,F,H,I,J,N,O]
 by_cases h:l.length<=6
 ·have a:(l.length:Int)<=6:=by omega
  simp only[a,RN,F,H,I,J,N,O];refine fG rfl rfl (OM l 311 [] Fs.bad (by omega) (by kernel_rfl) fun x _=>aie x) ?_;(try simp only[RN,F,H,I,J,N,O]);simp[mJ,h]
 ·have a:¬(l.length:Int)<=6:=by omega
  simp only[a,RN,F,H,I,J,N,O];simp[mJ,h]
section
variable {C:Ctx}{base:Nat}{KP:DV->Mem->Prop}
def MS {i:Nat}{bs:List (Option (List PV))}{fz:List Nat}{ar:List (Option Arr)}{L:PV->Mem->Prop}:ak C base (.mkMap i) [] ⟨bs,fz,ar⟩ L KP=(bs[base+i]?=some none/\L (.mref (base+i)) ⟨bs.set (base+i) (some [.gI []]),fz,ar⟩):=px
def jU {f:FuncId}{args:List PV}{M:Mem}{ds ds':List DV}{x:DV}{K:PV->Mem->Prop}(h1:cZ M args=some ds)(h2:ds.map DV.strip=ds')(b:Pure C f ds' (.d x) [])(hx:Bo x=true)(a:K (.d x) M):ak C base (.iG f) args M K KP:=
 ⟨ds,h1,x,h2▸b,hx,a⟩
end
variable{k:Nat}
def zZ {bs:List (Option (List PV))}{fz:List Nat}{ar:List (Option Arr)}{ver b st:Nat}{xs:List DV}{es:List (DV×DV)}{a c e f g:DV}(h:ar[k]?=some (some ⟨1,xs,ver,st⟩))(hb:bs[b]?=some (some [.gI es])):
  datum ⟨bs,fz,ar⟩ (.agg [.d a, .d c, .d e, .d f, .d g, .tsl k ver 0, .mref b])=some (.agg [a,c,e,f,g, .slice false xs, .map (some es)]):=by
 simp[datum,bW,dS,Mem.row,Mem.box,h,hb]
variable{M:Mem}{p:PV}{d:DV}
def qQ {y:DV}(h:datum M p=some d):cZ M [p, .d y]=some [d,y]:=by
 simp only[cZ,h];simp[datum]
def H9 (h:datum M p=some d):cZ M [p]=some [d]:=by
 simp[cZ,h]
def Cal.first (c:Cal):Nat->Int
 |0=>c.ep
 |y+1=>c.first y+Bg (c.leap y)
def Cal.firsts (c:Cal)(n:Nat):List Int:=(b9 n).map c.first
def Cal.mM (c:Cal)(y:Nat):c.ep+365*y<=c.first y/\c.first y<=c.ep+366*y:=by
 induction y with
 |zero=>simp[Cal.first]
 |succ y a=>
  rw[Cal.first,uF]
  split<;>omega
def Cal.KC (c:Cal)(n:Nat):c.firsts (n+1)=c.firsts n++ [c.first n]:=by simp[Cal.firsts,cg]
def opC:Nat->PV
 |0=> .d (.slice true [])
 |i+1=> .tsl 0 i 0
def opA (c:Cal):Nat->List (Option Arr)
 |0=>[]
 |i+1=>[some ⟨1,(c.firsts (i+1)).map ay,i,0⟩]
def agF (c:Cal)(m:jg)(i:Nat):St:=
 ⟨[(4, .ptr 2 0),(5, .ptr 4 0),(6,pI (c.first i)),(14,pI i)],
  ⟨[some [pI c.ep, .d (sF (c.cy.map ay))],some [pI m.n,pI m.d,pI m.ad],
   some [pI 0, .d (.slice true []),pI 0,pI 0,pI 0, .d (.slice true []), .d (.map none)],
   some [.gI []],some [pI c.ep, .d (sF (c.cy.map ay)),pI m.n,pI m.d,pI m.ad,opC i, .mref 3]],[1,0],opA c i⟩⟩
def ad3 (c:Cal)(m:jg)(hc:c.ok=true):Pure C 265 [c.dv,m.dv] (.d (Vp c m (c.firsts 4002) (some []))) []:=by
 obtain⟨q,r,l⟩:=Cal.facts hc;refine dR (aC wV SE ?_);simp only[wV,SE,mF,pq,MS,GL,qj,X,dB,iO,DW,RN,F,H,I,J,N,O];refine aG 4002 (fun i (_:Unit)=>agF c m i) (fun i _=>True) 0 () (ab _) rfl trivial (fun i a h1 g=> ?_) (fun a g=> ?_)
 ·have h2:(i:Int)<4002:=by omega
  have k:cn .i64 ((i:Int)+1)=((i+1:Nat):Int):=by rw[aF (by omega)];omega
  have p:=c.mM i;have e:=c.mM (i+1);rw[Cal.first]at e;have j:cn .i64 (c.first i+Bg (c.leap i))=c.first i+Bg (c.leap i):=aF (by omega);have hd:=Zh c m (c.firsts (i+1)) (some []) i (by omega) (fun n h=>by have:=l n h;omega);rw[qp]at hd
  rcases i with _|i
  ·simp only[agF,opC,opA,h2,bV,dM,bC,qj,X,dB,DV.strip,fits_int,forall_eq,RN,F,H,I,J,N,O]
   (repeat(refine az (by first|assumption|rfl|(simp;done)|(simp;omega)) ?_))
   refine jU (by rfl) (by rfl) hd rfl ?_;simp only[j,k,RN,F,H,I,J,N,O];exact kZ (len:=4002) (i:=0) () h1 rfl trivial
  ·simp only[agF,opC,opA,h2,bV,dM,bC,qj,X,dB,DV.strip,fits_int,forall_eq,RN,F,H,I,J,N,O]
   have b:(c.firsts (i+1)).length=i+1:=by simp[Cal.firsts]
   have f:(c.firsts (i+1)).map ay++ [dI (c.first (i+1))]=(c.firsts (i+1+1)).map ay:=by rw[c.KC (i+1),av];rfl
   rw[f,Q,b]
   (repeat(refine az (by first|assumption|rfl|(simp;done)|(simp;omega)) ?_))
   refine jU (qQ (zZ rfl rfl)) rfl hd rfl ?_;simp only[j,k,RN,F,H,I,J,N,O];exact kZ (len:=4002) (i:=i+1) () h1 rfl trivial
 ·have o:¬((4002:Nat):Int)<4002:=by omega
  simp only[agF,opC,opA,o,bV,dM,bC,qj,X,dB,iO,DW,RN,F,H,I,J,N,O];rw[qp];exact zZ rfl rfl
def Jy (n b:Int)(hb:0<b):jW n b*b<=n/\n<(jW n b+1)*b:=by
 have h:=bR n b;have h1:=a7 n hb;have h2:=Int.lt_tmod_of_pos n hb;have d:n.tdiv b*b=b*n.tdiv b:=Int.mul_comm _ _;unfold jW
 split
 ·have c:(n.tdiv b - 1)*b=n.tdiv b*b - b:=by rw[cl];omega
  have a:(n.tdiv b - 1+1)*b=n.tdiv b*b:=by rw[show n.tdiv b - 1+1=n.tdiv b by omega]
  omega
 ·have a:(n.tdiv b+1)*b=n.tdiv b*b+b:=by rw[ax];omega
  omega
def aaE {n b q:Int}(hb:0<b)(h1:q*b<=n)(h2:n<(q+1)*b):jW n b=q:=by
 obtain⟨e,f⟩:=Jy n b hb;have c:jW n b<q+1:=ap (a:=b) (by omega) (by omega);have d:q<jW n b+1:=ap (a:=b) (by omega) (by omega);omega
def aaW (m:jg)(q:m.ok=true)(n:Int):∃j:Nat,j<=44/\TF m (n+j)=13:=by
 obtain⟨hd,A,z⟩:=m.facts q;have b:0<m.n:=by omega
 have l:0<m.d:=by omega
 obtain⟨K,o⟩:∃K,K=jW ((n+1)*m.d - 1 - m.ad) m.n:=⟨_,rfl⟩
 obtain⟨g,h⟩:=Jy ((n+1)*m.d - 1 - m.ad) m.n b;rw[<-o]at g h;obtain⟨s,c⟩:∃s,s=jW ((K+1)*m.n+m.ad) m.d:=⟨_,rfl⟩
 obtain⟨i,k⟩:=Jy ((K+1)*m.n+m.ad) m.d l;rw[<-c]at i k;have e:(K+1)*m.n=K*m.n+m.n:=by rw[ax];omega
 have u:(n+1)*m.d=n*m.d+m.d:=by rw[ax];omega
 have v:(s+1)*m.d=s*m.d+m.d:=by rw[ax];omega
 have w:(n+32)*m.d=n*m.d+32*m.d:=by rw[ax]
 have r:n+1<s+1:=ap (a:=m.d) (by omega) (by omega);have t:s<n+32:=ap (a:=m.d) (by omega) (by omega);refine⟨(s+13 - n).toNat,by omega,?_⟩;have f:n+((s+13 - n).toNat:Int)=s+13:=by omega
 rw[f];have x:(s+13+1)*m.d=s*m.d+14*m.d:=by rw[show s+13+1=s+14 by omega,ax]
 have y:(K+1+1)*m.n=K*m.n+m.n+m.n:=by rw[ax,e];omega
 have p:jW ((s+13+1)*m.d - 1 - m.ad) m.n=K+1:=aaE b (by omega) (by omega);unfold TF;rw[p,<-c];omega
def xK (m:jg):Nat->Int->Int
 |0,n=>n
 |k+1,n=>if TF m n=13 then n else xK m k (n+1)
def jg.full (m:jg)(n:Int):Int:=xK m 45 n
def Uz {m:jg}{n:Int}(h:TF m n=13):xK m k n=n:=by
 cases k with
 |zero=>rfl
 |succ k=>rw[xK,if_pos h]
def PU (m:jg):∀(k:Nat) (n:Int),n<=xK m k n/\xK m k n<=n+k
 |0,n=>⟨a8 _,by simp[xK]⟩
 |k+1,n=>by
  rw[xK]
  split
  ·omega
  ·have:=PU m k (n+1)
   omega
def sunday (c:Cal)(m:jg)(y:Int):Int:=let n:=m.full (Gz c (c.firsts 4002) ⟨y,3,21⟩);n+(7 - wd n)
def YT (c:Cal)(m:jg)(y:Int)(es:List (DV×DV)):Prop:=es=[]\/es=[(.agg [dI y,dI 3,dI 21],dI (sunday c m y))]
def Du (c:Cal)(m:jg)(y:Int):List (DV×DV):=[(.agg [dI y,dI 3,dI 21],dI (sunday c m y))]
def zQ (c:Cal)(hc:c.ok=true):∀x∈c.firsts 4002,0<=x/\x<=10000000:=by
 obtain⟨b,_,_⟩:=Cal.facts hc;intro x a;simp only[Cal.firsts,aw,List.mem_range]at a;obtain⟨i,d,rfl⟩:=a;have:=c.mM i;omega
section
variable {C:Ctx}{base:Nat}{KP:DV->Mem->Prop}
variable{ks:List Nat}{b:Nat}{M:Mem}{K:PV->Mem->Prop}
def NI {ok:Bool}{z:DV}{k:DV}(l:List (DV×DV))(r:Option DV)(hb:M.box b=some [.gI l])(h1:gK ks k k=some true)(h2:oh ks l k=some r)(a:K (.d (DK ok z r)) M):
  ak C base (.FD ok ks z) [.mref b, .d k] M K KP:=by
 simp only[ak,hb,h1,h2];exact a
def ai8 {k:List DV}{v:DV}(l a:List (DV×DV))(hb:M.box b=some [.gI l])(hf:b∉M.fz)(h1:bG ks k k=some true)(h2:zX ks l k v=some a)(c:K .dead {M with boxes:=M.boxes.set b (some [.gI a])}):
  ak C base (.RY ks) [.mref b, .d (.agg k), .d v] M K KP:=by
 simp only[ak,hb,h1,h2];exact⟨hf,c⟩
end
def ahu (y:Int):bG [1,1,1] [dI y,dI 3,dI 21] [dI y,dI 3,dI 21]=some true:=by simp[bG]
def XZ (y:Int):gK [1,1,1] (.agg [dI y,dI 3,dI 21]) (.agg [dI y,dI 3,dI 21])=some true:=by
 simp only[gK,ahu];rfl
def xJ (c:Cal)(n:Nat):(c.firsts n).length=n:=by simp[Cal.firsts]
def acN (c:Cal)(fs:List Int)(d:Dt)(hf:∀x∈fs,0<=x/\x<=10000000)(f:d.y.toNat<fs.length)(hd:1<=d.d/\d.d<=31):0<=Gz c fs d/\Gz c fs d<=10000400:=by
 have g:=hf _ (getD_mem f);have h:iI (bY (c.leap d.y)) 0<=366:=by have:=uF (c.leap d.y);unfold Bg at this;rw[this];split<;>decide
 have b:=J3 (bY (c.leap d.y)) (d.m - 1).toNat 0 fun x a=>by have:=qG _ x a;omega
 have e:=xA ((bY (c.leap d.y)).take (d.m - 1).toNat) 0 fun x a=>by have:=qG _ x (be a);omega
 unfold Gz;omega
variable{x0 x1 x2 x3 x4 x6:Option (List PV)}
def abP {x7 x8 x9:Option (List PV)}{fz:List Nat}{A1 A2:Option Arr}(c:Cal)(m:jg)(y:Int)(es:List (DV×DV))(hc:c.ok=true)(v:m.ok=true)(Q:0<=y/\y<=4000)(r:YT c m y es)(s:5∉fz)(g:∀i∈fz,i<10):
  ∃M',SC C 313 [.agg [pI c.ep, .d (sF (c.cy.map ay)),pI m.n,pI m.d,pI m.ad, .tsl 0 4001 0, .mref 5],pI y]
   ⟨[x0,x1,x2,x3,x4,some [.gI es],x6,x7,x8,x9],fz,[some ⟨1,(c.firsts 4002).map ay,4001,0⟩,A1,A2]⟩
   (fun p M=>p= .d (dI (sunday c m y))/\M=M') (fun _ _=>False)/\M'.boxes.take 10=[x0,x1,x2,x3,x4,some [.gI (Du c m y)],x6,x7,x8,x9]/\M'.fz=fz/\M'.aB=[some ⟨1,(c.firsts 4002).map ay,4001,0⟩,A1,A2]:=by
 obtain⟨G,L,z⟩:=Cal.facts hc;refine⟨⟨[x0,x1,x2,x3,x4,some [.gI (Du c m y)],x6,x7,x8,x9,some [pI c.ep, .d (sF (c.cy.map ay)),pI m.n,pI m.d,pI m.ad, .tsl 0 4001 0, .mref 5],some [pI y,pI 3,pI 21]],fz,[some ⟨1,(c.firsts 4002).map ay,4001,0⟩,A1,A2]⟩,?_,rfl,rfl,rfl⟩;have aly:10∉fz:=fun h=>by have:=g _ h;omega
 have ak3:11∉fz:=fun h=>by have:=g _ h;omega
 refine aC sU aQ ?_;simp only[sU,aQ,iO,pW,ak3,RN,F,H,I,J,N,O]
 rcases r with rfl|rfl
 ·refine NI [] none rfl (XZ y) rfl ?_
  simp only[DK,cond_true,Option.getD_none,bq,RN,F,H,I,J,N,O];have k:(c.firsts 4002).length=4002:=by simp[Cal.firsts]
  have hd:=acO c m (c.firsts 4002) (some []) ⟨y,3,21⟩ (by omega) (fun n h=>by have:=z n h;omega) (zQ c hc) (by rw[k];simp only;omega) (by simp only;omega) (by simp only;omega);rw[qp,yT]at hd;obtain⟨b,f⟩:∃b,b=Gz c (c.firsts 4002) ⟨y,3,21⟩:=⟨_,rfl⟩
  rw[<-f]at hd;have A:0<=b/\b<=10000400:=by rw[f];exact acN c _ _ (zQ c hc) (by rw[k];simp only;omega) ⟨by simp only;omega,by simp only;omega⟩
  refine jU (qQ (zZ rfl rfl)) rfl hd rfl ?_;(try simp only[RN,F,H,I,J,N,O]);obtain⟨j,K,t⟩:=aaW m v b;refine qM (fun i:Nat=>⟨[(2, .ptr 10 0),(5, .ptr 11 0),(8,pI (b+i))],⟨[x0,x1,x2,x3,x4,some [.gI []],x6,x7,x8,x9,some [pI c.ep, .d (sF (c.cy.map ay)),pI m.n,pI m.d,pI m.ad, .tsl 0 4001 0, .mref 5],some [pI y,pI 3,pI 21]],fz,[some ⟨1,(c.firsts 4002).map ay,4001,0⟩,A1,A2]⟩⟩)
   (fun i=>i<=j/\m.full b=xK m (45 - i) (b+i)) (fun i=>j - i) 0 (by simp) ⟨ab _,by simp[jg.full]⟩ ?_
  rintro i ⟨x,l⟩;have u:=ajA m (b+i) v (by omega);rw[pq]at u;(try simp only[RN,F,H,I,J,N,O]);refine au u ?_
  by_cases e:TF m (b+i)=13
  ·have ak6:m.full b=b+i:=by rw[l,Uz e]
   simp only[e,bne_self_eq_false,RN,F,H,I,J,N,O];have D:=abT (b+i) (by omega);refine au D ?_;have R:0<=wd (b+i):=bO 7 (by omega);have S:wd (b+i)<7:=a7 _ (by decide);have q:cn .i64 (7 - wd (b+i))=7 - wd (b+i):=aF (by omega);have w:cn .i64 (b+i+(7 - wd (b+i)))=b+i+(7 - wd (b+i)):=aF (by omega);simp only[q,w,RN,F,H,I,J,N,O];have o:sunday c m y=b+i+(7 - wd (b+i)):=by simp only[sunday,<-f,ak6]
   refine ai8 [] (Du c m y) rfl s (ahu y) (by rw[Du,o];rfl) ?_;(try simp only[RN,F,H,I,J,N,O]);rw[o]
  ·have q:cn .i64 (b+i+1)=b+((i+1:Nat):Int):=by rw[aF (by omega)];omega
   have akM:(TF m (b+i) !=13)=true:=by simp[e]
   simp only[akM,q,RN,F,H,I,J,N,O];have B:i≠j:=by rintro rfl;exact e t
   refine zx (μ:=fun i=>j - i) (a:=i) (E:=fun i:Nat=>⟨[(2, .ptr 10 0),(5, .ptr 11 0),(8,pI (b+i))],⟨[x0,x1,x2,x3,x4,some [.gI []],x6,x7,x8,x9,some [pI c.ep, .d (sF (c.cy.map ay)),pI m.n,pI m.d,pI m.ad, .tsl 0 4001 0, .mref 5],some [pI y,pI 3,pI 21]],fz,[some ⟨1,(c.firsts 4002).map ay,4001,0⟩,A1,A2]⟩⟩) (P:=fun i=>i<=j/\m.full b=xK m (45 - i) (b+i)) (i+1) (by omega) rfl ⟨by omega,?_⟩;rw[l,show 45 - i=(45 - (i+1))+1 by omega,xK,if_neg e]
   congr 1
   omega
 ·refine NI (Du c m y) (some (dI (sunday c m y))) rfl (XZ y) ?_ ?_
  ·simp only[Du,oh,XZ]
  simp only[DK,cond_true,bL,br,RN,F,H,I,J,N,O]
  rfl
def ajc (c:Cal)(m:jg):PV:= .agg [pI c.ep, .d (sF (c.cy.map ay)),pI m.n,pI m.d,pI m.ad, .tsl 0 4001 0, .mref 5]
def Zm (x0 x1:Option (List PV))(c:Cal)(m:jg)(i:Nat):St:=
 ⟨[(4, .ptr 4 0),(5, .ptr 6 0),(6,pI (c.first i)),(14,pI i)],
  ⟨[x0,x1,some [pI c.ep, .d (sF (c.cy.map ay))],some [pI m.n,pI m.d,pI m.ad],
   some [pI 0, .d (.slice true []),pI 0,pI 0,pI 0, .d (.slice true []), .d (.map none)],
   some [.gI []],some [pI c.ep, .d (sF (c.cy.map ay)),pI m.n,pI m.d,pI m.ad,opC i, .mref 5]],[3,2,1,0],opA c i⟩⟩
def agG (c:Cal)(m:jg)(hc:c.ok=true):SC C 265 [.d c.dv, .d m.dv] ⟨[x0,x1],[1,0],[]⟩ (fun p M=>p=ajc c m/\∃x2 x3 x4 x6,(∀x∈[x2,x3,x4,x6],∀n k,7<=n->1<=k->((x.getD []).all fun p=>p.upto n k)=true)/\M=⟨[x0,x1,x2,x3,x4,some [.gI []],x6],[3,2,1,0],[some ⟨1,(c.firsts 4002).map ay,4001,0⟩]⟩) (fun _ _=>False):=by
 obtain⟨u,v,s⟩:=Cal.facts hc;refine aC wV SE ?_;simp only[wV,SE,mF,pq,MS,GL,qj,X,dB,iO,DW,RN,F,H,I,J,N,O];refine aG 4002 (fun i (_:Unit)=>Zm x0 x1 c m i) (fun i _=>True) 0 () (ab _) rfl trivial (fun i a h1 g=> ?_) (fun a g=> ?_)
 ·have h2:(i:Int)<4002:=by omega
  have r:cn .i64 ((i:Int)+1)=((i+1:Nat):Int):=by rw[aF (by omega)];omega
  have t:=c.mM i;have e:=c.mM (i+1);rw[Cal.first]at e;have l:cn .i64 (c.first i+Bg (c.leap i))=c.first i+Bg (c.leap i):=aF (by omega);have hd:=Zh c m (c.firsts (i+1)) (some []) i (by omega) (fun n h=>by have:=s n h;omega);rw[qp]at hd
  rcases i with _|i
  ·simp only[Zm,opC,opA,h2,bV,dM,bC,qj,X,dB,DV.strip,fits_int,forall_eq,RN,F,H,I,J,N,O]
   (repeat(refine az (by first|assumption|rfl|(simp;done)|(simp;omega)) ?_))
   refine jU (by rfl) (by rfl) hd rfl ?_;simp only[l,r,RN,F,H,I,J,N,O];exact kZ (len:=4002) (i:=0) () h1 rfl trivial
  ·simp only[Zm,opC,opA,h2,bV,dM,bC,qj,X,dB,DV.strip,fits_int,forall_eq,RN,F,H,I,J,N,O]
   have b:(c.firsts (i+1)).length=i+1:=by simp[Cal.firsts]
   have f:(c.firsts (i+1)).map ay++ [dI (c.first (i+1))]=(c.firsts (i+1+1)).map ay:=by rw[c.KC (i+1),av];rfl
   rw[f,Q,b]
   (repeat(refine az (by first|assumption|rfl|(simp;done)|(simp;omega)) ?_))
   refine jU (qQ (zZ rfl rfl)) rfl hd rfl ?_;simp only[l,r,RN,F,H,I,J,N,O];exact kZ (len:=4002) (i:=i+1) () h1 rfl trivial
 ·have j:¬((4002:Nat):Int)<4002:=by omega
  simp only[Zm,opC,opA,j,bV,dM,bC,qj,X,dB,iO,DW,RN,F,H,I,J,N,O];refine⟨rfl,_,_,_,_,?_,rfl⟩;intro x j n k h1 h2;have o:5<n:=by omega
  have q:0<k:=by omega
  rcases j with rfl|rfl|rfl|rfl
  ·rfl
  ·rfl
  ·simp[PV.upto,o,q]
  ·simp[PV.upto,o,q]
variable{M:Mem}{y:DV}
def Pz {p:PV}{d:DV}(h:datum M p=some d):cZ M [p, .d y]=some [d,y]:=qQ h
def abO (c:Cal)(m:jg)(y:Int)(hc:c.ok=true)(a:0<=y/\y<=4000):0<=sunday c m y/\sunday c m y<=10000500:=by
 have h1:=acN c (c.firsts 4002) ⟨y,3,21⟩ (zQ c hc) (by rw[xJ];simp only;omega) (by simp only;omega);have h2:=PU m 45 (Gz c (c.firsts 4002) ⟨y,3,21⟩);have b:0<=wd (m.full (Gz c (c.firsts 4002) ⟨y,3,21⟩)):=bO 7 (by unfold jg.full;omega);have d:wd (m.full (Gz c (c.firsts 4002) ⟨y,3,21⟩))<7:=a7 _ (by decide);simp only[sunday];unfold jg.full at*;omega
def zD (c:Cal)(m:jg)(y:Int)(f:Fs):Int:=if f.mv then sunday c m y+f.af else if pV c ⟨y,f.mo,f.da⟩then Gz c (c.firsts 4002) ⟨y,f.mo,f.da⟩else -1
def Fs.facts {f:Fs}(h:f.bad=false):(f.mv=true-> -60<=f.af/\f.af<=60)/\(f.mv=false->(1<=f.mo/\f.mo<=12)/\1<=f.da/\f.da<=31):=by
 unfold Fs.bad at h;cases a:f.mv<;>simp[a,inR]at h<;>simp<;>omega
def aaP {ex:Bool}(c:Cal)(m:jg)(l:List Fs)(y:Int)(hc:c.ok=true)(hm:m.ok=true)(T:0<=y/\y<=4000)(hl:l.length<=6)(hb:∀f∈l,f.bad=false)(hx:∀x∈[x0,x1,x2,x3,x4,x6],∀n k,7<=n->1<=k->((x.getD []).all fun p=>p.upto n k)=true):
  SC C 266 [ajc c m, .d (.slice ex (l.map Fs.dv)),pI y] ⟨[x0,x1,x2,x3,x4,some [.gI []],x6],[3,2,1,0],[some ⟨1,(c.firsts 4002).map ay,4001,0⟩]⟩
   (fun p M=>Hu M p 1 ((l.map (zD c m y)).map ay) 0) (fun _ _=>False):=by
 obtain⟨he,Y,R⟩:=Cal.facts hc;refine aC sQ iH ?_;simp only[sQ,iH,ajc,iO,pW,Q,RN,F,H,I,J,N,O];refine aG l.length (fun i (es:List (DV×DV))=>⟨[(2,pI y),(3, .ptr 7 0),(7, .tsl 2 i 0),(12, .d (.slice ex (l.map Fs.dv))),(13,pI l.length),(14,pI i)],
   ⟨[x0,x1,x2,x3,x4,some [.gI es],x6,some [pI c.ep, .d (sF (c.cy.map ay)),pI m.n,pI m.d,pI m.ad, .tsl 0 4001 0, .mref 5]],[3,2,1,0],
    [some ⟨1,(c.firsts 4002).map ay,4001,0⟩,some ⟨1,[],0,0⟩,some ⟨1,((l.take i).map (zD c m y)).map ay,i,0⟩]⟩⟩)
  (fun i es=>YT c m y es) 0 [] (ab _) rfl (.inl rfl) (fun i es h1 b=> ?_) (fun es b=> ?_)
 ·obtain⟨h2,X,q⟩:=rng h1 (by omega)
  have P:=Fs.facts (hb _ (getD_mem h1));have g:((l.take i).map (zD c m y)).map ay++ [dI (zD c m y (l.getD i default))]=((l.take (i+1)).map (zD c m y)).map ay:=by
   rw[dP h1];simp[ay]
  have Z:(((l.take i).map (zD c m y)).map ay).length<=6:=by simp;omega
  have a:(zD c m y (l.getD i default))=(if(l.getD i default).mv then sunday c m y+(l.getD i default).af else if pV c ⟨y,(l.getD i default).mo,(l.getD i default).da⟩then Gz c (c.firsts 4002) ⟨y,(l.getD i default).mo,(l.getD i default).da⟩else -1):=rfl;have ac:=abO c m y hc T;have t:=hx x0 (by simp) 8 3 (by omega) (by omega);have u:=hx x1 (by simp) 8 3 (by omega) (by omega);have v:=hx x2 (by simp) 8 3 (by omega) (by omega);have w:=hx x3 (by simp) 8 3 (by omega) (by omega);have z:=hx x4 (by simp) 8 3 (by omega) (by omega);have A:=hx x6 (by simp) 8 3 (by omega) (by omega);simp only[h2,X,h1,q,MQ,getD_map,S,Q,RN,F,H,I,J,N,O];cases e:(l.getD i default).mv
  ·obtain⟨B,D⟩:=P.2 e
   rw[e]at a;simp only[bo,if_false]at a;have hd:=UO c m (c.firsts 4002) (some es) ⟨y,(l.getD i default).mo,(l.getD i default).da⟩ (by omega) (fun n h=>by have:=R n h;omega);rw[qp,yT]at hd;(try simp only[RN,F,H,I,J,N,O]);refine jU (Pz (zZ rfl rfl)) rfl hd rfl ?_;cases o:pV c ⟨y,(l.getD i default).mo,(l.getD i default).da⟩
   ·rw[o]at a
    simp only[bo,if_false]at a;simp only[DV.strip,fits_int,forall_eq,RN,F,H,I,J,N,O]
    (repeat(refine az (by first|assumption|rfl|(simp;done)|(simp;omega)) ?_))
    rw[<-a,g,q];exact bK 8 3 es h1 rfl b (by decide) (by decide) rfl (by simp only[bj,b0,b5,t,u,v,w,z,A];rfl)
   ·rw[o]at a
    simp only[if_true]at a;(try simp only[RN,F,H,I,J,N,O]);have j:=acO c m (c.firsts 4002) (some es) ⟨y,(l.getD i default).mo,(l.getD i default).da⟩ (by omega) (fun n h=>by have:=R n h;omega) (zQ c hc) (by rw[xJ];simp only;omega) B D;rw[qp,yT]at j;refine jU (Pz (zZ rfl rfl)) rfl j rfl ?_;simp only[DV.strip,fits_int,forall_eq,RN,F,H,I,J,N,O]
    (repeat(refine az (by first|assumption|rfl|(simp;done)|(simp;omega)) ?_))
    rw[<-a,g,q];exact bK 8 3 es h1 rfl b (by decide) (by decide) rfl (by simp only[bj,b0,b5,t,u,v,w,z,A];rfl)
  ·obtain⟨B,D⟩:=P.1 e
   rw[e]at a;simp only[if_true]at a;have V:cn .i64 (sunday c m y+(l.getD i default).af)=sunday c m y+(l.getD i default).af:=aF (by omega);(try simp only[RN,F,H,I,J,N,O]);obtain⟨⟨r,W,U⟩,s,E,G,K⟩:=abP (x0:=x0) (x1:=x1) (x2:=x2) (x3:=x3) (x4:=x4) (x6:=x6) (x7:=some [pI c.ep, .d (sF (c.cy.map ay)),pI m.n,pI m.d,pI m.ad, .tsl 0 4001 0, .mref 5])
    (x8:=some [.d (.bool true),pI ((l.getD i default).mo),pI ((l.getD i default).da),pI ((l.getD i default).af)])
    (x9:=some [pI y,pI ((l.getD i default).mo),pI ((l.getD i default).da)]) (fz:=[8,3,2,1,0])
    (A1:=some ⟨1,[],0,0⟩) (A2:=some ⟨1,((l.take i).map (zD c m y)).map ay,i,0⟩) c m y es hc hm T b (by decide) (by decide)
   simp only at E G K;subst G K;refine⟨_,_,s,?_⟩;simp only[V,DV.strip,fits_int,forall_eq,RN,F,H,I,J,N,O]
   (repeat(refine az (by first|assumption|rfl|(simp;done)|(simp;omega)) ?_))
   have L:r.take 8=[x0,x1,x2,x3,x4,some [.gI (Du c m y)],x6,some [pI c.ep, .d (sF (c.cy.map ay)),pI m.n,pI m.d,pI m.ad, .tsl 0 4001 0, .mref 5]]:=by
    have:=congrArg (List.take 8) E;rw[List.take_take]at this;exact this
   rw[<-a,g,q];exact bK 8 3 (Du c m y) h1 (by rw[L];rfl) (.inr rfl) (by decide) (by decide) rfl (by rw[L];simp only[b5,t,u,v,w,z,A];rfl)
 ·simp only[am,RN,F,H,I,J,N,O]
  rw[ca];exact⟨2,_,rfl,rfl⟩
def uG (c:Cal)(m:jg)(l:List Fs)(y:Int):DV:=
 if c.ok&&m.ok&&mJ l&&inR y 0 4000 then .tup [sF ((l.map (zD c m y)).map ay),dI 0]else .tup [.slice true [],dI 2]
def xI {l:List Fs}(h:mJ l=true):l.length<=6/\∀f∈l,f.bad=false:=by
 simp only[mJ,U,decide_eq_true_eq,bu]at h;refine⟨h.1,fun f a=> ?_⟩;have:=h.2;rw[List.any_eq_false]at this
 simpa using this f a
def aha {v:PV}{sz st:Nat}{xs:List DV}{x:DV}(h:Hu M v sz xs st)(a:y= .tup [.slice false xs,x]):datum M (YF (gU [v, .d x]) [v, .d x])=some y:=by
 subst a;obtain⟨k,ver,rfl,h⟩:=h;simp[gU,YF,datum,bW,dS,Mem.row,h]
def Tz (c:Cal)(m:jg)(ex:Bool)(l:List Fs)(y:Int)(g:c.cy.length<=1000000):Pure C 209 [c.dv,m.dv, .slice ex (l.map Fs.dv),dI y] (.d (uG c m l y)) []:=by
 refine dR (aC D8 Sz ?_);simp only[D8,Sz,mF,pq,RN,F,H,I,J,N,O];have a:=Rx c g;have b:=adB m;rw[mF]at a;rw[pq]at b;refine au a ?_;cases f:c.ok
 ·(try simp only[RN,F,H,I,J,N,O])
  simp[uG,f,datum]
 ·(try simp only[RN,F,H,I,J,N,O])
  refine au b ?_;cases q:m.ok
  ·(try simp only[RN,F,H,I,J,N,O])
   simp[uG,q,datum]
  ·(try simp only[RN,F,H,I,J,N,O])
   refine au (TI false l) ?_;cases i:mJ l
   ·(try simp only[RN,F,H,I,J,N,O])
    simp[uG,i,datum]
   ·(try simp only[RN,F,H,I,J,N,O])
    refine au (Rk y) ?_;cases r:inR y 0 4000
    ·(try simp only[RN,F,H,I,J,N,O])
     simp[uG,r,datum]
    ·(try simp only[RN,F,H,I,J,N,O])
     have s:0<=y/\y<=4000:=by simpa[inR]using r
     obtain⟨j,o⟩:=xI i;have t:=agG (x0:=some [pI c.ep, .d (sF (c.cy.map ay))]) (x1:=some [pI m.n,pI m.d,pI m.ad]) c m f;rw[mF,pq]at t;refine SC.mono t ?_;rintro p M ⟨rfl,x2,x3,x4,x6,w,rfl⟩;refine SC.mono (aaP c m l y f q s j o ?_) ?_
     ·intro x e n k h1 h2
      simp only[aR,aL,or_false]at e
      rcases e with rfl|rfl|h
      ·rfl
      ·rfl
      ·exact w x (by simpa using h) n k h1 h2
     ·intro v M u
      exact aha u (by simp[uG,f,q,i,r])
def Uj (c:Cal)(d:Dt):DV:=if c.ok&&pV c d then .tup [dI (Gz c (c.firsts 4002) d),dI 0]else .tup [dI 0,dI 2]
def Rf {c:Cal}{d:Dt}(h:pV c d=true):(0<=d.y/\d.y<=4000)/\(1<=d.m/\d.m<=12)/\1<=d.d/\d.d<=31:=by
 simp only[pV,U]at h;obtain⟨⟨h1,h2⟩,a⟩:=h;simp only[inR,U,decide_eq_true_eq,ge_iff_le]at h1 h2 a;have b:(d.m - 1).toNat<(bY (c.leap d.y)).length:=by rw[uj];omega
 have:=qG _ _ (getD_mem b);omega
def ahj (c:Cal)(d:Dt)(g:c.cy.length<=1000000):Pure C 218 [c.dv,d.dv] (.d (Uj c d)) []:=by
 refine ah KQ bQ ?_;simp only[KQ,bQ,mF,yT,RN,F,H,I,J,N,O];have e:=Rx c g;rw[mF]at e;refine au e ?_;cases b:c.ok
 ·(try simp only[RN,F,H,I,J,N,O])
  simp[Uj,b]
 ·(try simp only[RN,F,H,I,J,N,O])
  obtain⟨m,o,i⟩:=Cal.facts b;have j:=ad3 c ⟨0,0,0⟩ b;rw[mF,pq,qp]at j;refine au j ?_;(try simp only[RN,F,H,I,J,N,O]);have hd:=UO c ⟨0,0,0⟩ (c.firsts 4002) (some []) d (by omega) (fun n h=>by have:=i n h;omega);rw[qp,yT]at hd;refine au hd ?_;cases a:pV c d
  ·(try simp only[RN,F,H,I,J,N,O])
   simp[Uj,a]
  ·(try simp only[RN,F,H,I,J,N,O])
   obtain⟨p,k,l⟩:=Rf a;have f:=acO c ⟨0,0,0⟩ (c.firsts 4002) (some []) d (by omega) (fun n h=>by have:=i n h;omega) (zQ c b) (by rw[xJ];omega) k l;rw[qp,yT]at f;refine au f ?_;(try simp only[RN,F,H,I,J,N,O]);simp[Uj,a,b]
section
variable {C:Ctx}{base:Nat}{bs:List (Option (List PV))}{fz:List Nat}{ar:List (Option Arr)}{L:PV->Mem->Prop}{KP:DV->Mem->Prop}
def aib {k k':IntKind}{a b:Int}:ak C base (.shf .shr) [.d (.int k a), .d (.int k' b)] ⟨bs,fz,ar⟩ L KP=(0<=b/\L (.d (.int k (a.fdiv (2 ^ min b.toNat k.bits)))) ⟨bs,fz,ar⟩):=px
end
def agm (n:Int):Pure C 141 [dI n] (.d (.bool false)) []:=by
 refine ah Aa aS ?_;simp only[Aa,aS,RN,F,H,I,J,N,O];simp
def adC (n:Int):Pure C 382 [dI n] (.d (.bool false)) []:=by
 refine ah wL aS ?_;simp only[wL,aS,RN,F,H,I,J,N,O];simp
def ai3 (a b:Int):Pure C 379 [dI a,dI b] (.d (.bool (decide (a<b)))) []:=by
 refine ah CQ aQ ?_;simp only[CQ,aQ,RN,F,H,I,J,N,O];refine au (agm _) ?_;(try simp only[RN,F,H,I,J,N,O])
structure YM (xs:List Int) (n:Int) (p:Nat):Prop where
 le:p<=xs.length
 lt:∀k,k<p->xs.getD k default<n
 ge:∀k,p<=k->k<xs.length->n<=xs.getD k default
def ahb {n:Nat}(h:n<18446744073709551616):IntKind.u64.wrap (n:Int)=n:=by
 simp only[IntKind.wrap,IntKind.bits,IntKind.signed,bl,bo,if_false];omega
def half (a b:Nat)(h:a<b)(hb:b<=1000000):cn .i64 (IntKind.u64.wrap (cn .i64 ((a:Int)+(b:Int)))|>.fdiv (2 ^ min (1:Int).toNat IntKind.u64.bits))=(((a+b) / 2:Nat):Int):=by
 rw[aF (n:=(a:Int)+b) (by omega)];have c:IntKind.u64.wrap ((a:Int)+b)=(a:Int)+b:=by have:=ahb (n:=a+b) (by omega);simpa using this
 rw[c];have d:((a:Int)+b).fdiv (2 ^ min (1:Int).toNat IntKind.u64.bits)=(((a+b) / 2:Nat):Int):=by
  have:(2:Int) ^ min (1:Int).toNat IntKind.u64.bits=2:=by decide
  rw[this,Int.fdiv_eq_ediv_of_nonneg _ (by decide)];omega
 rw[d];exact aF (by omega)
def ZR (xs:List Int)(n:Int)(p:Nat)(hl:xs.length<=1000000)(r:YM xs n p):Pure C 361 [sF (xs.map ay),dI n] (.d (.tup [dI p, .bool (decide (p<xs.length/\xs.getD p default=n))])) []:=by
 refine ah mX bQ ?_;simp only[mX,bQ,Q,RN,F,H,I,J,N,O];refine qM (fun q:Nat×Nat=>⟨[(0, .d (sF (xs.map ay))),(1,pI n),(6,pI xs.length),(7,pI q.1),(8,pI q.2)],⟨[],[],[]⟩⟩)
  (fun q=>q.1<=p/\p<=q.2/\q.2<=xs.length) (fun q=>q.2 - q.1) (0,xs.length) rfl ⟨ab _,r.le,bh _⟩ ?_
 rintro⟨a,b⟩ ⟨s,t,i⟩;simp only at s t i⊢
 by_cases k:a<b
 ·have c:(a:Int)<b:=by omega
  have hh:=half a b k (by omega);obtain⟨h,o⟩:∃h,h=(a+b) / 2:=⟨_,rfl⟩
  rw[<-o]at hh;have u:h<xs.length:=by omega
  have w:(0:Int)<=(h:Int):=by omega
  have x:cn .i64 ((h:Int)+1)=((h+1:Nat):Int):=by rw[aF (by omega)];omega
  simp only[c,aib,hh,u,w,Q,getD_map,S,aZ,RN,F,H,I,J,N,O]
  (repeat(refine az (by first|assumption|rfl|(simp;done)|(simp;omega)) ?_))
  refine au (ai3 _ _) ?_
  by_cases g:xs.getD h default<n
  ·simp only[g,x,RN,F,H,I,J,N,O]
   refine zx (μ:=fun q:Nat×Nat=>q.2 - q.1) (a:=(a,b)) (h+1,b) (by simp only;omega) rfl ⟨?_,t,i⟩;simp only;refine Nat.lt_of_not_le fun f=> ?_
   have:=r.ge h f u;omega
  ·simp only[g,RN,F,H,I,J,N,O]
   refine zx (μ:=fun q:Nat×Nat=>q.2 - q.1) (a:=(a,b)) (a,h) (by simp only;omega) rfl ⟨s,?_,by simp only;omega⟩;simp only;refine Nat.le_of_not_lt fun f=> ?_
   exact g (r.lt h f)
 ·have c:¬(a:Int)<b:=by omega
  obtain rfl:a=p:=by omega
  by_cases e:a<xs.length
  ·have j:(a:Int)<(xs.length:Int):=by omega
   have v:(0:Int)<=(a:Int):=by omega
   by_cases l:xs.getD a default=n
   ·simp only[c,j,v,e,Q,getD_map,S,aZ,l,beq_self_eq_true,RN,F,H,I,J,N,O]
   ·have m:(xs.getD a default==n)=false:=beq_false_of_ne l
    simp only[c,j,v,e,Q,getD_map,S,aZ,l,m,RN,F,H,I,J,N,O];refine au (adC _) ?_;(try simp only[RN,F,H,I,J,N,O])
  ·have j:¬(a:Int)<(xs.length:Int):=by omega
   simp only[c,j,e,false_and,RN,F,H,I,J,N,O]
def Bl (c:Cal)(y:Nat):c.first y+365<=c.first (y+1)/\c.first (y+1)<=c.first y+366:=by
 rw[Cal.first,uF]
 split<;>omega
def Bj (c:Cal){a b:Nat}(h:a<=b):c.first a<=c.first b:=by
 induction b with
 |zero=>
  obtain rfl:a=0:=by omega
  exact a8 _
 |succ b e=>
  by_cases d:a=b+1
  ·rw[d];exact a8 _
  ·have:=e (by omega)
   have:=Bl c b;omega
def mO (c:Cal){n k:Nat}(h:k<n):(c.firsts n).getD k default=c.first k:=by
 simp[Cal.firsts,List.getD,h]
def firstAt (c:Cal)(Y:Nat)(day:Int)(e:Y<=4000)(h1:c.first Y<=day)(h2:day<c.first (Y+1)):YM (c.firsts 4002) day (if c.first Y=day then Y else Y+1):=by
 have d:=xJ c 4002;refine⟨by rw[d];split<;>omega,fun k a=> ?_,fun k a b=> ?_⟩
 ·split at a
  ·rw[mO c (by omega)]
   have:=Bj c (show k+1<=Y by omega);have:=Bl c k;omega
  ·rw[mO c (by omega)]
   have:=Bj c (show k<=Y by omega);omega
 ·rw[d]at b
  rw[mO c (by omega)]
  split at a
  ·have:=Bj c (show Y<=k by omega)
   omega
  ·have:=Bj c (show Y+1<=k by omega)
   omega
def Vb:List Int->Int->Int->Int×Int
 | [],_,_=>(0,0)
 |n::l,i,left=>if left<n then(i+1,left+1)else Vb l (i+1) (left - n)
def MN (c:Cal)(Y:Nat)(day:Int):Dt:=let r:=Vb (bY (c.leap Y)) 0 (day - c.first Y);⟨Y,r.1,r.2⟩
def Hq:∀(l:List Int) (p:Int),iI l p=p+iI l 0
 | [],p=>by simp[iI]
 |x::l,p=>by
  rw[iI,iI,Hq l (p+x),Hq l (0+x)];omega
def ahZ (c:Cal)(m:jg)(es:Option (List (DV×DV)))(Y:Nat)(day:Int)(hc:c.ok=true)(K:Y<=4000)(h1:c.first Y<=day)(h2:day<c.first (Y+1)):Pure C 341 [Vp c m (c.firsts 4002) es,dI day] (.d (MN c Y day).dv) []:=by
 obtain⟨j,hl,P⟩:=Cal.facts hc;have k:=xJ c 4002;have L:=c.mM Y;have z:=c.mM (Y+1);refine dR (aC vX aeo ?_);simp only[vX,aeo,qp,Q,RN,F,H,I,J,N,O];refine fG rfl rfl (ZR (c.firsts 4002) day _ (by omega) (firstAt c Y day K h1 h2)) ?_;have hh:(decide ((if c.first Y=day then Y else Y+1)<(c.firsts 4002).length/\(c.firsts 4002).getD (if c.first Y=day then Y else Y+1) default=day))=decide (c.first Y=day):=by
  by_cases j:c.first Y=day
  ·rw[if_pos j,k,mO c (by omega)];simp[j];omega
  ·rw[if_neg j,k,mO c (by omega)];simp[j];omega
 rw[hh];have B:cn .i64 (((Y+1:Nat):Int) - 1)=(Y:Int):=by rw[aF (by omega)];omega
 have A:cn .i64 (day - c.first Y)=day - c.first Y:=aF (by omega);have x:inR (Y:Int) 0 4000=true:=by simp[inR];omega
 have T:(0:Int)<=(Y:Int):=by omega
 have U:Y<(c.firsts 4002).length:=by omega
 have l:=RI c m (c.firsts 4002) es Y (by omega) (fun n h=>by have:=P n h;omega);rw[qp]at l;have t:=uj (c.leap Y);have f:∃(q:Nat) (b:Bool),(if c.first Y=day then Y else Y+1)=q/\decide (c.first Y=day)=b/\((b=true/\q=Y)\/(b=false/\q=Y+1)):=by
  by_cases f:c.first Y=day
  ·exact⟨Y,true,if_pos f,decide_eq_true f, .inl ⟨rfl,rfl⟩⟩
  ·exact⟨Y+1,false,if_neg f,decide_eq_false f, .inr ⟨rfl,rfl⟩⟩
 obtain⟨q,b,u,v,w⟩:=f;rw[u,v];have s:=mO c (show Y<4002 by omega)
 rcases w with⟨rfl,o⟩|⟨rfl,o⟩<;>rw[o]
 all_goals
  simp only[B,RN,F,H,I,J,N,O];refine au (Rk _) ?_;simp only[x,T,U,S,getD_map,aZ,s,A,Q,RN,F,H,I,J,N,O];refine au l ?_;(try simp only[RN,F,H,I,J,N,O]);refine au (Iy _) ?_;simp only[Q,t,RN,F,H,I,J,N,O];refine aG 12 (fun i (left:Int)=>⟨[(1,pI day),(4, .ptr 1 0),(5,pI Y),(7,pI left),(37, .d (sF ((bY (c.leap Y)).map ay))),(38, .d (dI ((12:Nat):Int))),(39,pI i)],
    ⟨[some [pI c.ep, .d (sF (c.cy.map ay)),pI m.n,pI m.d,pI m.ad, .d (sF ((c.firsts 4002).map ay)), .d (.map es)],some [pI 0,pI 0,pI 0]],[0],[]⟩⟩)
   (fun i left=>0<=left/\left<=400/\left<iI ((bY (c.leap Y)).drop i) 0/\Vb (bY (c.leap Y)) 0 (day - c.first Y)=Vb ((bY (c.leap Y)).drop i) i left) 0 (day - c.first Y) (ab _) rfl ⟨by omega,by have:=Bl c Y;omega,by rw[Cal.first]at h2;simp only[bS];unfold Bg at h2;omega,by simp⟩ (fun i left D e=> ?_) (fun left e=> ?_)
  ·obtain⟨V,W,y,g⟩:=e
   have E:(i:Int)<((12:Nat):Int):=by omega
   have G:(0:Int)<=(i:Int):=by omega
   have r:cn .i64 ((i:Int)+1)=((i+1:Nat):Int):=by rw[aF (by omega)];omega
   have p:i<(bY (c.leap Y)).length:=by omega
   have M:=qG _ _ (getD_mem p);rw[drop_cons p,Vb]at g;rw[drop_cons p,iI]at y;have R:=Hq ((bY (c.leap Y)).drop (i+1)) (0+(bY (c.leap Y)).getD i default);have X:cn .i64 (left+1)=left+1:=aF (by omega);have Z:cn .i64 (left - (bY (c.leap Y)).getD i default)=left - (bY (c.leap Y)).getD i default:=aF (by omega);simp only[E,G,p,r,Q,S,getD_map,aZ,RN,F,H,I,J,N,O]
   by_cases a:left<(bY (c.leap Y)).getD i default
   ·rw[if_pos a]at g
    simp only[a,r,X,RN,F,H,I,J,N,O];rw[MN,g,yT]
    rfl
   ·rw[if_neg a]at g
    simp only[a,r,Z,RN,F,H,I,J,N,O];exact kZ (len:=12) (i:=i) (left - (bY (c.leap Y)).getD i default) D rfl ⟨by omega,by omega,by omega,g⟩
  ·obtain⟨V,W,y,g⟩:=e
   rw[List.drop_eq_nil_of_le (by omega),iI]at y;omega
def alY:aA:=(r0 [⟨some 2,.alloc 0 [z0],[],none,0⟩] 1 [0,2] [])
def alZ:aA:=(sw (r0 [⟨some 4,.mov,[.t 0],none,0⟩,⟨some 5,.gJ,[.t 4],none,0⟩] 0 [2] []) (sw (r0 [⟨none,.store 1,[.t 2,.c (.int .i64 0)],none,0⟩] 0 [2] []) .ret))
def alJ:aA:=(.block 0 (sw (r0 [⟨some 7,.zG false,[.t 5,.c (.nilIface)],none,0⟩] 0 [0,5,7] []) (cd 7 (r0 [⟨some 1,.mov,[.t 5],none,0⟩] 0 [] []) (sw (r0 [⟨some 8,.tas T.alN (.agg [z0,z0]),[.t 5],none,0⟩,⟨some 9,.ext 1,[.t 8],none,0⟩,⟨some 10,.ext 0,[.t 8],none,0⟩] 0 [0,5,9,10] []) (cd 9 (sw (r0 [⟨some 2,.alloc 0 [z0,z0],[],none,0⟩,⟨none,.store 2,[.t 2,.t 10],none,0⟩] 1 [0] []) (r0 [⟨none,.store 1,[.t 0,.c (.int .i64 7)],none,0⟩] 0 [] [])) (sw (r0 [⟨some 11,.tas T.amK (.agg [.str ⟨#[]⟩]),[.t 5],none,0⟩,⟨some 12,.ext 1,[.t 11],none,0⟩,⟨some 13,.ext 0,[.t 11],none,0⟩] 0 [0,5,12,13] []) (cd 12 (sw (r0 [⟨some 3,.alloc 0 [.str ⟨#[]⟩],[],none,0⟩,⟨none,.store 1,[.t 3,.t 13],none,0⟩] 1 [0] []) (r0 [⟨none,.store 1,[.t 0,.c (.int .i64 4)],none,0⟩] 0 [] [])) (sw (r0 [⟨some 4,.mov,[.t 5],none,0⟩] 0 [4] []) (r0 [⟨some 6,.mov,[.t 4],none,0⟩,⟨none,.panic,[.t 6],none,0⟩] 0 [] [])))))))))
def ams:MJ C.P 42 103 1 6 14 2 3 5 alY alZ alJ=true:=by kernel_rfl
def wB:aA:=(r0 [⟨some 2,.alloc 0 [z0],[],none,0⟩] 1 [0,2] [])
def wC:aA:=(sw (r0 [⟨some 4,.mov,[.t 0],none,0⟩,⟨some 5,.gJ,[.t 4],none,0⟩] 0 [2] []) (sw (r0 [⟨none,.store 1,[.t 2,.c (.int .i64 0)],none,0⟩] 0 [2] []) .ret))
def jy:aA:=(.block 0 (sw (r0 [⟨some 7,.zG false,[.t 5,.c (.nilIface)],none,0⟩] 0 [0,5,7] []) (cd 7 (r0 [⟨some 1,.mov,[.t 5],none,0⟩] 0 [] []) (sw (r0 [⟨some 8,.tas T.ig (.agg [.nilIface]),[.t 5],none,0⟩,⟨some 9,.ext 1,[.t 8],none,0⟩,⟨some 10,.ext 0,[.t 8],none,0⟩] 0 [0,5,9,10] []) (cd 9 (sw (r0 [⟨some 2,.alloc 0 [.nilIface],[],none,0⟩,⟨none,.store 1,[.t 2,.t 10],none,0⟩] 1 [0] []) (r0 [⟨none,.store 1,[.t 0,.c (.int .i64 7)],none,0⟩] 0 [] [])) (sw (r0 [⟨some 11,.tas T.pF (.agg [.str ⟨#[]⟩]),[.t 5],none,0⟩,⟨some 12,.ext 1,[.t 11],none,0⟩,⟨some 13,.ext 0,[.t 11],none,0⟩] 0 [0,5,12,13] []) (cd 12 (sw (r0 [⟨some 3,.alloc 0 [.str ⟨#[]⟩],[],none,0⟩,⟨none,.store 1,[.t 3,.t 13],none,0⟩] 1 [0] []) (r0 [⟨none,.store 1,[.t 0,.c (.int .i64 4)],none,0⟩] 0 [] [])) (sw (r0 [⟨some 4,.mov,[.t 5],none,0⟩] 0 [4] []) (r0 [⟨some 6,.mov,[.t 4],none,0⟩,⟨none,.panic,[.t 6],none,0⟩] 0 [] [])))))))))
def IC:MJ C.P 220 275 1 6 14 2 3 5 wB wC jy=true:=by kernel_rfl
def FZ:aA:=(r0 [⟨some 2,.alloc 0 [z0],[],none,0⟩] 1 [0,2] [])
def F5:aA:=(sw (r0 [⟨some 4,.mov,[.t 0],none,0⟩,⟨some 5,.gJ,[.t 4],none,0⟩] 0 [2] []) (sw (r0 [⟨none,.store 1,[.t 2,.c (.int .i64 0)],none,0⟩] 0 [2] []) .ret))
def CS:aA:=(.block 0 (sw (r0 [⟨some 7,.zG false,[.t 5,.c (.nilIface)],none,0⟩] 0 [0,5,7] []) (cd 7 (r0 [⟨some 1,.mov,[.t 5],none,0⟩] 0 [] []) (sw (r0 [⟨some 8,.tas T.Jw (.agg [z0]),[.t 5],none,0⟩,⟨some 9,.ext 1,[.t 8],none,0⟩,⟨some 10,.ext 0,[.t 8],none,0⟩] 0 [0,5,9,10] []) (cd 9 (sw (r0 [⟨some 2,.alloc 0 [z0],[],none,0⟩,⟨none,.store 1,[.t 2,.t 10],none,0⟩] 1 [0] []) (r0 [⟨none,.store 1,[.t 0,.c (.int .i64 5)],none,0⟩] 0 [] [])) (sw (r0 [⟨some 11,.tas T.aaC (.agg [.str ⟨#[]⟩]),[.t 5],none,0⟩,⟨some 12,.ext 1,[.t 11],none,0⟩,⟨some 13,.ext 0,[.t 11],none,0⟩] 0 [0,5,12,13] []) (cd 12 (sw (r0 [⟨some 3,.alloc 0 [.str ⟨#[]⟩],[],none,0⟩,⟨none,.store 1,[.t 3,.t 13],none,0⟩] 1 [0] []) (r0 [⟨none,.store 1,[.t 0,.c (.int .i64 4)],none,0⟩] 0 [] [])) (sw (r0 [⟨some 4,.mov,[.t 5],none,0⟩] 0 [4] []) (r0 [⟨some 6,.mov,[.t 4],none,0⟩,⟨none,.panic,[.t 6],none,0⟩] 0 [] [])))))))))
def Vk:MJ C.P 339 360 1 6 14 2 3 5 FZ F5 CS=true:=by kernel_rfl
end Go.Tel
namespace Go.Am
def PG {C:Ctx}{base:Nat}{M:Mem}{K:PV->Mem->Prop}{KP:DV->Mem->Prop}{f:FuncId}{fs cs args:List PV}:ak C base .gJ (.func (.func f) fs cs::args) M K KP=(callable C.P f=true/\SC C f (fs++args++cs) M K KP):=px
section
variable {C:Ctx}{base te t5 b:Nat}{pc3:aA}{K:PV->Mem->Prop}{KP:DV->Mem->Prop}{env:List (Nat×PV)}{bs:List (Option (List PV))}{fz:List Nat}{ar:List (Option Arr)}{M:Mem}
def OG:ajo C te t5 pc3 b K .ret ⟨env,⟨bs,fz,ar⟩⟩=pwp C bs.length ar.length pc3 (BX te b K) ⟨[(0, .ptr b 0),(t5, .d .nilIface)],⟨bs,fz,ar⟩⟩:=px
def Hr {d:DV}:ajo C te t5 pc3 b K (.panic d) ⟨env,⟨bs,fz,ar⟩⟩=pwp C bs.length ar.length pc3 (BX te b K) ⟨[(0, .ptr b 0),(t5, .d d)],⟨bs,fz,ar⟩⟩:=px
def lK:BX te b K .normal ⟨env,⟨bs,fz,ar⟩⟩=bP false 1 (.ptr b 0) ⟨bs,fz,ar⟩ fun v=>K v ⟨bs,fz,ar⟩:=px
variable{neq:Bool}
def Dz:ak C base (.zG neq) [.d .nilIface, .d .nilIface] M K KP=K (.d (.bool !neq)) M:=px
variable{v:DV}
def Dy {t:TypeId}:ak C base (.zG neq) [.d (.iface t v), .d .nilIface] M K KP=K (.d (.bool neq)) M:=px
variable{z:DV}
def jY {t:TypeId}:ak C base (.tas t z) [.d (.iface t v)] M K KP=K (.d (.tup [v, .bool true])) M:=by simp[ak]
def eU {t a:TypeId}(h:(a==t)=false):ak C base (.tas t z) [.d (.iface a v)] M K KP=K (.d (.tup [z, .bool false])) M:=by
 have b:¬a=t:=by simpa using h
 simp[ak,b]
end
end Go.Am
namespace Go.Tel
open Go.Am
def ahH (c:Cal)(Y:Nat)(day:Int)(hc:c.ok=true)(h:Y<=4000)(h1:c.first Y<=day)(h2:day<c.first (Y+1)):Pure C 298 [c.dv,dI day] (.d (.tup [(MN c Y day).dv,dI 0])) []:=by
 obtain⟨j,k,l⟩:=Cal.facts hc;have i:=c.mM Y;have e:=c.mM (Y+1);have hd:inR day 0 2000000=true:=by simp[inR];omega
 refine ah IJ SG ?_;simp only[IJ,SG,mF,RN,F,H,I,J,N,O];have b:=Rx c (by omega);rw[mF,hc]at b;refine au b ?_;(try simp only[RN,F,H,I,J,N,O]);refine au (acQ _) ?_;simp only[hd,l7,X,b0,bS,RN,F,H,I,J,N,O];refine YE mixed Vk ?_;simp only[FZ,RN,F,H,I,J,N,O];refine⟨4,rfl,?_⟩;simp only[F5,PG,RN,F,H,I,J,N,O];refine⟨by kernel_rfl,aC D7 fB ?_⟩;simp only[D7,fB,RN,F,H,I,J,N,O];have f:=ad3 c ⟨0,0,0⟩ hc;rw[mF,pq,qp]at f;refine au f ?_;(try simp only[RN,F,H,I,J,N,O]);have a:=ahZ c ⟨0,0,0⟩ (some []) Y day hc h h1 h2;rw[qp,yT]at a;refine au a ?_;have g:((0:Int) !=0)=false:=rfl;(try simp only[RN,F,H,I,J,N,O]);simp only[OG,CS,Dz,lK,g,RN,F,H,I,J,N,O];rw[yT]
def alW:aA:=(sw (r0 [ba 2 0 0,ba 3 1 1,mk 4 (.c (.slice true [])),mi 5 0] 2 [2,3] [2,3]) (sw (sr [lw 8 8 2,oa 9 (.aj 35) 8,oa 10 pN 9,mv 11 10,ow 12 (.load true 8) 2 11 0,lq 13 3 11,obF 14 (.aj 36) 12 13 11 0,ow 15 pN 14 11 0,pt 16 11 15] 0 [2,3,16] (cd 16 (sr [mk 4 (.c (.slice true [])),mi 5 2] 0 [4,5] .ret) .skip)) (sr [al 6 0 [zs]] 1 [2,3,6] (sw (sr [on 17 (.mkF (.func 43) 0) [.t 2,.t 3,.t 6],oa 18 (.call 42) 17,mv 7 18] 0 [6,7] (sr [mv 19 7,oi 20 pQ 19 0] 0 [6,7,20] (cd 20 (sr [mv 21 7,mk 4 (.c (.slice true [])),mv 5 21] 0 [4,5] .ret) .skip))) (sw (r0 [lo 22 6,mv 4 22,mi 5 0] 0 [4,5] [4]) .ret)))))
def Ed:aA:=(sw (r0 [ba 4 0 0,al 8 1 [z0,z0],mi 9 0] 2 [1,2,3,4,8] [4]) (sw (sr [lw 17 8 4,oa 18 (.aj 35) 17,oa 19 pN 18,mv 20 19,ow 21 .mov 1 20 0,oF 22 (.aj 78) [.t 21,kI 4,kI 50] 20 0,ow 23 pN 22 20 0,pt 24 20 23,mv 25 24,ow 26 (.load true 8) 4 25 0,ow 27 .mov 2 25 0,obF 28 (.aj 36) 26 27 25 0,ow 29 pN 28 25 0,pt 30 25 29,mv 31 30,ow 32 .mov 3 31 0,oF 33 pQ [.t 32,kI (-1)] 31 0,ow 34 .mov 33 31 0,ov 35 (.load true 8) 4 34 0,ov 36 .mov 3 34 0,obT 37 (.aj 36) 35 36 34 0,ov 38 pN 37 34 0,ov 39 .mov 38 34 0,ow 40 .mov 2 39 0,ow 41 .mov 3 39 0,obF 42 pE 40 41 39 0,ot 43 .pick [.t 39,.c (.bool true),.t 42] 34 0,oF 44 .pick [.t 34,.t 43,.c (.bool false)] 31 0,pt 45 31 44] 0 [1,2,3,4,8,45] (cd 45 (sr [on 46 (.build [z0,z0] []) [],sk 2 8 46 0,mi 9 2] 0 [8,9] .ret) .skip)) (sr [mv 47 2,oa 48 (.dA 1 [z0] [0]) 47,mv 10 48] 0 [1,2,3,4,8,10] (sw (sr [mv 49 3,oi 50 (.bin .geq) 49 0] 0 [1,2,3,4,8,10,50] (cd 50 (rg [mv 51 10,mv 52 3,oa 53 (.dA 1 [z0] [0]) 52,ob 54 (.app 1 false) 51 53,mv 10 54] 0 [1,2,4,8,10]) .skip)) (sw (sr [fa 55 5 4,lo 56 55,oa 57 .len 56,oi 58 pE 57 6,mv 59 58,ow 60 (.fld 6) 4 59 0,lq 61 60 59,ow 62 .len 61 59 0,oF 63 pE [.t 62,kI 8] 59 0,pt 64 59 63,mv 65 64,ow 66 (.fld 7) 4 65 0,lq 67 66 65,ow 68 .len 67 65 0,ow 69 .mov 10 65 0,ow 70 .len 69 65 0,obF 71 pA 68 70 65 0,oF 72 pG [.t 71,kI 10] 65 0,pt 73 65 72] 0 [1,2,4,8,10,73] (cd 73 (sr [on 74 (.build [z0,z0] []) [],sk 2 8 74 0,mi 9 3] 0 [8,9] .ret) .skip)) (sw (r0 [fa 75 6 4,lo 76 75,oa 77 .len 76,mv 11 77] 0 [1,2,4,8,10,11] [10]) (sw (sr [fa 78 0 4,lo 79 78,oi 80 pA 79 1,mi 81 0] 0 [1,2,4,8,10,11,80,81] (.block 0 (.loop (sr [ob 82 pL 81 80] 0 [1,2,4,8,10,11,80,81,82] (sw (cx 82 0) (sw (.block 1 (sr [mv 83 81,mv 12 83] 0 [1,2,4,8,10,11,12,80,81] (.scope (sw (.label 0) (sr [fa 84 1 4,lo 85 84,oi 86 pA 85 1,mi 87 0] 0 [1,2,4,8,10,11,12,80,81,86,87] (.block 2 (.loop (sr [ob 88 pL 87 86] 0 [1,2,4,8,10,11,12,80,81,86,87,88] (sw (cx 88 2) (sw (.block 3 (sr [mv 89 87,mv 13 89] 0 [1,2,4,8,10,11,12,13,80,81,86,87] (sw (r0 [mv 90 12,mv 91 13,ob 92 (.build [z0,z0] [(0,1),(1,1)]) 90 91,al 14 0 [z0,z0],sk 2 14 92 0] 1 [1,2,4,8,10,11,12,14,80,81,86,87] [14]) (sw (sr [fa 93 5 4,lo 94 93,lw 95 2 14,ob 96 (.aj 79) 94 95] 0 [1,2,4,8,10,11,12,14,80,81,86,87,96] (cd 96 (.exit 3) .skip)) (sw (r1 [ou 97 (.load true 8) 4 1,ou 98 (.load true 2) 14 1,fu 99 6 4 1,lv 100 99,mv 101 2,ob1 102 (.bU 4) 100 101 1,fu 103 2 102 1,lv 104 103,mv 105 1,mv 106 10,of 107 (.nZ 80) [.t 97,.t 98,.t 104,.t 105,.t 106] 1,oc 108 (.aj 37) 107 (.c (.slice true [])),al 15 0 [z0,z0,z0,z0,z0,zs,zs,zs,.map none,zs],sk 10 15 108 4] 1 [1,2,4,8,10,11,12,14,15,80,81,86,87] [15]) (sw (sr [mv 109 11,oi 110 pA 109 1,mi 111 0] 0 [1,2,4,8,10,11,12,14,15,80,81,86,87,110,111] (.block 4 (.loop (sr [ob 112 pL 111 110] 0 [1,2,4,8,10,11,12,14,15,80,81,86,87,110,111,112] (sw (cx 112 4) (sw (.block 5 (sr [mv 113 111,mv 16 113] 0 [1,2,4,8,10,11,12,14,15,16,80,81,86,87,110,111] (sr [lw 114 10 15,mv 115 16,mv 116 11,on 117 (.aj 38) [.t 114,.t 115,.t 116],oi 118 pQ 117 0] 0 [1,2,4,8,10,11,12,14,15,80,81,86,87,110,111,118] (cd 118 (.exit 3) .skip)))) (rg [oi 119 pA 111 1,mv 111 119] 0 [1,2,4,8,10,11,12,14,15,80,81,86,87,110,111]))))))) (sr [lw 120 2 14,sk 2 8 120 0,mi 9 0] 0 [8,9] .ret))))))) (rg [oi 121 pA 87 1,mv 87 121] 0 [1,2,4,8,10,11,12,80,81,86,87]))))))))))) (rg [oi 122 pA 81 1,mv 81 122] 0 [1,2,4,8,10,11,80,81]))))))) (sr [on 123 (.build [z0,z0] []) [],sk 2 8 123 0,mi 9 5] 0 [8,9] .ret))))))))
def Af:aA:=(sw (r0 [ba 1 0 0,mf 2 false] 1 [1] [1]) (sw (sr [fa 7 0 1,lo 8 7,on 9 (.aj 78) [.t 8,kI 1,kI 120],oa 10 pN 9,mv 11 10,ow 12 (.fld 1) 1 11 0,lq 13 12 11,oF 14 (.aj 78) [.t 13,kI 1,kI 120] 11 0,ow 15 pN 14 11 0,pt 16 11 15,mv 17 16,ow 18 (.fld 2) 1 17 0,lq 19 18 17,oF 20 (.aj 78) [.t 19,kI 0,kI 4] 17 0,ow 21 pN 20 17 0,pt 22 17 21,mv 23 22,ow 24 (.fld 3) 1 23 0,lq 25 24 23,oF 26 (.aj 78) [.t 25,kI 0,kI 4] 23 0,ow 27 pN 26 23 0,pt 28 23 27,mv 29 28,ow 30 (.fld 4) 1 29 0,lq 31 30 29,oF 32 (.aj 78) [.t 31,kI 0,kI 3] 29 0,ow 33 pN 32 29 0,pt 34 29 33] 0 [1,34] (cd 34 (sr [mf 2 false] 0 [2] .ret) .skip)) (sw (sr [fa 35 5 1,lo 36 35,oa 37 .len 36,on 38 (.aj 78) [.t 37,kI 1,kI 6],oa 39 pN 38,mv 40 39,ow 41 (.fld 6) 1 40 0,lq 42 41 40,ow 43 .len 42 40 0,oF 44 pG [.t 43,kI 8] 40 0,pt 45 40 44,mv 46 45,ow 47 (.fld 7) 1 46 0,lq 48 47 46,ow 49 .len 48 46 0,oF 50 pG [.t 49,kI 10] 46 0,pt 51 46 50] 0 [1,51] (cd 51 (sr [mf 2 false] 0 [2] .ret) .skip)) (sw (sr [fa 52 5 1,lo 53 52,oa 54 .len 53,mi 55 0] 0 [1,53,54,55] (.block 0 (.loop (sr [ob 56 pL 55 54] 0 [1,53,54,55,56] (sw (cx 56 0) (sw (.block 1 (sw (r0 [mv 57 55,ix 58 2 53 55,lw 59 2 58,al 4 0 [z0,z0],mv 3 57,sk 2 4 59 0] 1 [1,3,4,53,54,55] [4]) (sw (r1 [fu 60 0 4 1,lv 61 60,fu 62 0 1 1,lv 63 62,on 64 (.aj 78) [.t 61,kI 0,.t 63],oa 65 pN 64,mv 66 65,ow 67 (.fld 1) 4 66 1,ow 68 (.load false 1) 67 66 1,ow 69 (.fld 1) 1 66 1,ow 70 (.load false 1) 69 66 1,oF 71 (.aj 78) [.t 68,kI 0,.t 70] 66 0,ow 72 pN 71 66 0,pt 73 66 72,mv 74 73,ow 75 (.fld 5) 1 74 1,ow 76 (.load false 1) 75 74 1,ow 77 .mov 3 74 0,obF 78 (.EC 2 false true false) 76 77 74 1,ow 79 (.load true 2) 4 74 1,obF 80 (.aj 79) 78 79 74 0,pt 81 74 80] 0 [1,53,54,55,81] []) (cd 81 (sr [mf 2 false] 0 [2] .ret) .skip)))) (rg [oi 82 pA 55 1,mv 55 82] 0 [1,53,54,55]))))))) (sw (sr [fa 83 7 1,lo 84 83,oa 85 .len 84,mi 86 0] 0 [1,84,85,86] (.block 2 (.loop (sr [ob 87 pL 86 85] 0 [1,84,85,86,87] (sw (cx 87 2) (sw (.block 3 (sw (r0 [mv 88 86,ix 89 2 84 86,lw 90 2 89,al 6 0 [z0,z0],mv 5 88,sk 2 6 90 0] 1 [1,5,6,84,85,86] [6]) (sw (r1 [ou 91 (.load true 8) 1 1,fu 92 0 6 1,lv 93 92,ob 94 (.aj 36) 91 93,oa 95 pN 94,mv 96 95,ow 97 (.load true 8) 1 96 1,ow 98 (.fld 1) 6 96 1,ow 99 (.load false 1) 98 96 1,obF 100 (.aj 36) 97 99 96 0,ow 101 pN 100 96 0,pt 102 96 101,mv 103 102,ow 104 (.fld 0) 6 103 1,ow 105 (.load false 1) 104 103 1,ow 106 (.fld 1) 6 103 1,ow 107 (.load false 1) 106 103 1,obF 108 (.bin .geq) 105 107 103 0,pt 109 103 108,mv 110 109,ow 111 (.fld 7) 1 110 1,ow 112 (.load false 1) 111 110 1,ow 113 .mov 5 110 0,obF 114 (.EC 2 false true false) 112 113 110 1,ow 115 (.load true 2) 6 110 1,obF 116 (.aj 91) 114 115 110 0,pt 117 110 116] 0 [1,84,85,86,117] []) (cd 117 (sr [mf 2 false] 0 [2] .ret) .skip)))) (rg [oi 118 pA 86 1,mv 86 118] 0 [1,84,85,86]))))))) (sr [fa 119 6 1,lo 120 119,oa 121 (.mkF (.func 93) 0) 1,ob 122 (.aj 92) 120 121,oa 123 pN 122,mv 2 123] 0 [2] .ret))))))
def Ah:aA:=(sw (r0 [ba 2 0 0,mf 4 false] 1 [1,2] [2]) (sr [mv 5 1,fa 6 6 2,lo 7 6,oa 8 .len 7,oi 9 pU 8 1,on 10 (.aj 78) [.t 5,kI 0,.t 9],mv 4 10] 0 [4] .ret))
def IQ:aA:=(sw (r0 [ba 2 0 0,al 4 1 [z0,z0,z0,z0,z0,zs,zs,zs,.map none,zs]] 2 [1,2,4] [2]) (sr [lw 8 8 2,on 9 (.mkMap 0) [],mv 10 1,on 11 (.build [z0,z0,z0,z0,z0,zs,zs,zs,.map none,zs] [(0,8),(8,1),(9,1)]) [.t 8,.t 9,.t 10],al 5 1 [z0,z0,z0,z0,z0,zs,zs,zs,.map none,zs],sk 10 5 11 0] 2 [2,4,5] (sw (sr [fa 12 7 2,lo 13 12,oa 14 .len 13,mi 15 0] 0 [4,5,13,14,15] (.block 0 (.loop (sr [ob 16 pL 15 14] 0 [4,5,13,14,15,16] (sw (cx 16 0) (sw (.block 1 (sw (r0 [ix 17 2 13 15,lw 18 2 17,al 7 0 [z0,z0],sk 2 7 18 0] 1 [4,5,7,13,14,15] [7]) (rg [fa 19 8 5,lo 20 19,lw 21 2 7,os (.RY [1,1]) [.t 20,.t 21,.c (.bool true)] 0] 0 [4,5,13,14,15]))) (rg [oi 22 pA 15 1,mv 15 22] 0 [4,5,13,14,15]))))))) (sr [lw 23 10 5,sk 10 4 23 0] 0 [4] .ret))))
def Sj:zL C.P 37 2 IQ aer=true:=by kernel_rfl
def oq:aA:=(sw (r0 [ba 3 0 0,mi 6 0] 1 [1,2,3] [3]) (sw (sr [mv 9 1,mv 10 2,ob 11 pE 9 10] 0 [1,2,3,11] (cd 11 (sw (sr [lw 12 10 3,mv 13 1,ob 14 (.aj 94) 12 13] 0 [14] (cd 14 (sr [mi 6 1] 0 [6] .ret) .skip)) (sr [mi 6 0] 0 [6] .ret)) .skip)) (sw (sr [lw 15 10 3,oa 16 (.mkF (.func 95) 1) 15,lw 17 10 3,oa 18 (.mkF (.func 96) 1) 17,lw 19 10 3,oa 20 (.mkF (.func 97) 1) 19,lw 21 10 3,oa 22 (.mkF (.func 98) 1) 21,lw 23 10 3,oa 24 (.mkF (.func 99) 1) 23,on 25 (.build [.nilFunc,.nilFunc,.nilFunc,.nilFunc,.nilFunc] [(0,1),(1,1),(2,1),(3,1),(4,1)]) [.t 16,.t 18,.t 20,.t 22,.t 24],mi 26 0] 0 [1,2,25,26] (.block 0 (.loop (sr [oi 27 pL 26 5] 0 [1,2,25,26,27] (sw (cx 27 0) (sw (.block 1 (sr [mv 28 26,ob 29 (.Nr false 1 5) 25 26,mv 7 28,mv 8 29] 0 [1,2,7,8,25,26] (sr [mv 30 8,mv 31 1,mv 32 2,on 33 .gJ [.t 30,.t 31,.t 32]] 0 [1,2,7,25,26,33] (cd 33 (sr [mv 34 7,on 35 pA [kI 2,.t 34],mv 6 35] 0 [6] .ret) .skip)))) (rg [oi 36 pA 26 1,mv 26 36] 0 [1,2,25,26]))))))) (sr [mi 6 0] 0 [6] .ret))))
def alT:aA:=(r1 [ou 3 (.load true 8) 0 1,oc 4 (.aj 37) 3 (.c (.slice true [])),lv 5 1,ob 6 (.call 44) 4 5,sk 1 2 6 0] 0 [] [])
def alQ:aA:=(sw (r0 [ba 2 0 0,mk 4 (.c (.slice true []))] 1 [1,2] [2]) (sr [on 11 (.build [z0,z0] [(0,1),(1,1)]) [kI 0,kI 1],oa 12 (.dA 2 [.agg [z0,z0]] [0]) 11,fa 13 0 2,fa 14 6 13,lo 15 14,oa 16 .len 15,ob 17 (.nZ 104) 12 16,mv 5 17] 0 [1,2,5] (sr [mv 18 5,mv 19 1,on 20 (.build [z0,z0] [(0,1),(1,1)]) [kI 1,kI 1],ix 21 2 18 19,sk 2 21 20 0] 0 [1,2,5] (sr [mv 22 1,oa 23 (.dA 1 [z0] [0]) 22,oa 6 (.QO 1) 23] 0 [2,5,6] (sw (.block 0 (.loop (sw (sr [mv 24 6,oa 25 .len 24,oi 26 pG 25 0] 0 [2,5,6,26] (cx 26 0)) (.block 1 (sr [mv 27 6,oi 28 (.bU 1) 27 0,lo 29 28,mv 7 29] 0 [2,5,6,7] (sr [mv 30 6,oi 31 (.VW 1) 30 1,mv 6 31] 0 [2,5,6,7] (sr [fa 32 0 2,fa 33 6 32,lo 34 33,oa 35 .len 34,mi 36 0] 0 [2,5,6,7,35,36] (.block 2 (.loop (sr [ob 37 pL 36 35] 0 [2,5,6,7,35,36,37] (sw (cx 37 2) (sw (.block 3 (sr [mv 38 36,mv 8 38] 0 [2,5,6,7,8,35,36] (sw (sr [mv 39 8,mv 40 7,ob 41 pE 39 40] 0 [2,5,6,7,8,35,36,41] (cd 41 (.exit 3) .skip)) (sw (sr [lw 42 10 2,mv 43 7,mv 44 8,on 45 (.aj 105) [.t 42,.t 43,.t 44],mv 46 45,ov 47 (.load true 10) 2 46 0,ov 48 .mov 7 46 0,ov 49 .mov 8 46 0,ot 50 (.aj 106) [.t 47,.t 48,.t 49] 46 0,pf 51 46 50] 0 [2,5,6,7,8,35,36,51] (cd 51 (rg [mv 52 7,mv 53 8,ob 54 (.build [z0,z0] [(0,1),(1,1)]) 52 53,oa 55 (.mkI T.alN) 54,os .panic [.t 55] 0] 0 [2,5,6,7,8,35,36]) .skip)) (sw (r1 [ou 57 (.load true 10) 2 1,mv 58 7,mv 59 8,mv 60 5,mv 61 7,ix 62 2 60 61,ou 63 (.load true 2) 62 3,on 64 (.aj 107) [.t 57,.t 58,.t 59,.t 63],mv 56 64,xa 65 0 56,xa 66 1 56,al 9 0 [z0,z0],sk 2 9 65 4,mv 10 66] 1 [2,5,6,7,8,9,10,35,36] [9]) (.block 4 (sr [mv 68 10,oa 69 pN 68,mv 67 69] 0 [2,5,6,7,8,9,35,36,67] (cd 67 .skip (sr [mv 71 5,mv 72 8,ix 73 2 71 72,fa 74 0 73,lo 75 74,oi 76 pE 75 0,mv 70 76] 0 [2,5,6,7,8,9,35,36,70] (cd 70 (sr [mv 77 5,mv 78 8,lw 79 2 9,ix 80 2 77 78,sk 2 80 79 0] 0 [2,5,6,7,8,35,36] (rg [mv 81 6,mv 82 8,oa 83 (.dA 1 [z0] [0]) 82,ob 84 (.app 1 false) 81 83,mv 6 84] 0 [2,5,6,7,35,36])) (sw (r1 [mv 86 5,mv 87 8,ix 88 2 86 87,ou 89 (.load true 2) 88 3,ou 90 (.load true 2) 9 1,ob 91 (.A8 true [1,1]) 89 90,mv 85 91] 0 [2,5,6,7,8,35,36,85] []) (cd 85 (rg [mv 92 7,mv 93 8,ob 94 (.build [z0,z0] [(0,1),(1,1)]) 92 93,oa 95 (.mkI T.alN) 94,os .panic [.t 95] 0] 0 [2,5,6,7,35,36]) .skip)))))))))))) (rg [oi 96 pA 36 1,mv 36 96] 0 [2,5,6,7,35,36]))))))))))))) (sr [mv 97 5,mv 4 97] 0 [4] .ret))))))
def F8:aA:=(sw (r0 [ba 5 0 0,ba 6 1 1,al 10 2 [z0,z0,z0,z0,z0,zs,zs,zs]] 3 [2,3,4,5,6,10] [6]) (sr [fa 14 6 5,lo 15 14,oa 16 .len 15,mv 11 16] 0 [2,3,4,5,6,10,11] (sw (r1 [fu 17 5 5 2,ou 18 (.load false 1) 17 2,ou 19 (.nZ 143) 18 1,ou 20 (.load true 2) 6 1,ou 21 (.dA 2 [.agg [z0,z0]] [0]) 20 1,ob 22 (.QN 2) 19 21,fu 23 5 5 2,sk 1 23 22 0] 0 [2,3,4,5,10,11] []) (sw (r1 [fu 24 6 5 2,ou 25 (.load false 1) 24 2,ou 26 (.nZ 144) 25 1,fu 27 5 5 2,ou 28 (.load false 1) 27 2,ou 29 .len 28 1,oi 30 pU 29 1,mv 31 2,mv 32 3,on 33 (.build [z0,z0,z0,z0] [(0,1),(2,1),(3,1)]) [.t 30,.t 31,.t 32],ou 34 (.dA 4 [.agg [z0,z0,z0,z0]] [0]) 33 1,ob 35 (.QN 4) 26 34,fu 36 6 5 2,sk 1 36 35 0] 0 [4,5,10,11] []) (sr [fa 37 7 5,lo 38 37,oa 39 (.nZ 145) 38,fa 40 7 5,sk 1 40 39 0] 0 [4,5,10,11] (sw (sr [mv 41 4,oa 42 .len 41,mi 43 0] 0 [5,10,11,41,42,43] (.block 0 (.loop (sr [ob 44 pL 43 42] 0 [5,10,11,41,42,43,44] (sw (cx 44 0) (sw (.block 1 (sr [ix 45 1 41 43,lo 46 45,mv 13 46] 0 [5,10,11,13,41,42,43] (rg [fa 47 7 5,lo 48 47,mv 49 13,mv 50 11,ob 51 (.build [z0,z0] [(0,1),(1,1)]) 49 50,oa 52 (.dA 2 [.agg [z0,z0]] [0]) 51,ob 53 (.app 2 false) 48 52,fa 54 7 5,sk 1 54 53 0] 0 [5,10,11,41,42,43]))) (rg [oi 55 pA 43 1,mv 43 55] 0 [5,10,11,41,42,43]))))))) (sr [lw 56 8 5,sk 8 10 56 0] 0 [10] .ret)))))))
def OZ:zL C.P 80 5 F8 aes=true:=by kernel_rfl
def yA:aA:=(sw (r0 [ba 2 0 0,mf 3 false] 1 [1,2] [2]) (sr [fa 4 0 2,lo 5 4,fa 6 5 1,lo 7 6,oa 8 .len 7,oi 9 pU 8 1,on 10 (.aj 78) [.t 5,kI 0,.t 9],oa 11 pN 10,mv 12 11,ow 13 (.fld 1) 2 12 0,lq 14 13 12,oF 15 (.aj 78) [.t 14,kI 0,kI 2] 12 0,ow 16 pN 15 12 0,pt 17 12 16,mv 18 17,ow 19 (.fld 2) 2 18 0,lq 20 19 18,oF 21 (.aj 78) [.t 20,kI 0,kI 5] 18 0,ow 22 pN 21 18 0,pt 23 18 22,mv 24 23,ow 25 (.fld 3) 2 24 0,lq 26 25 24,oF 27 (.aj 78) [.t 26,kI 4,kI 50] 24 0,ow 28 pN 27 24 0,pt 29 24 28,mv 3 29] 0 [3] .ret))
def wF:aA:=(sw (r0 [ba 2 0 0,mf 4 false] 1 [1,2] [2]) (sw (r0 [fa 7 0 2,fa 8 6 7,lo 9 8,mv 10 1,ix 11 4 9 10,lw 12 4 11,al 5 0 [z0,z0,z0,z0],sk 4 5 12 0] 1 [2,5] [5]) (sw (r0 [fa 13 0 2,fa 14 5 13,lo 15 14,fa 16 0 5,lo 17 16,ix 18 2 15 17,lw 19 2 18,al 6 0 [z0,z0],sk 2 6 19 0] 1 [2,5,6] [6]) (sr [fa 20 0 6,lo 21 20,fa 22 3 5,lo 23 22,ob 24 pL 21 23,mv 25 24,ow 26 (.fld 1) 6 25 0,lq 27 26 25,ow 28 (.fld 3) 5 25 0,lq 29 28 25,obF 30 pL 27 29 25 0,pt 31 25 30,mv 32 31,ow 33 (.fld 0) 6 32 0,lq 34 33 32,ow 35 (.fld 3) 5 32 0,lq 36 35 32,obF 37 pA 34 36 32 0,ow 38 (.fld 0) 2 32 0,ow 39 (.fld 0) 38 32 0,lq 40 39 32,obF 41 pG 37 40 32 0,pt 42 32 41,mv 43 42,ow 44 (.fld 1) 6 43 0,lq 45 44 43,ow 46 (.fld 3) 5 43 0,lq 47 46 43,obF 48 pA 45 47 43 0,ow 49 (.fld 0) 2 43 0,ow 50 (.fld 1) 49 43 0,lq 51 50 43,obF 52 pG 48 51 43 0,pt 53 43 52,mv 4 53] 0 [4] .ret))))
def wE:aA:=(sw (r0 [ba 3 0 0,mf 6 false] 1 [1,2,3] [3]) (sr [lw 8 10 3,mv 9 1,mv 10 2,on 11 (.aj 163) [.t 8,.t 9,.t 10],mv 7 11] 0 [1,2,3,7] (sw (r1 [ou 12 (.load true 10) 3 1,mv 13 1,mv 14 2,on 15 (.aj 105) [.t 12,.t 13,.t 14],mv 16 15,ov 17 (.load true 10) 3 16 1,ov 18 .mov 1 16 0,ov 19 .mov 2 16 0,ot 20 (.aj 164) [.t 17,.t 18,.t 19] 16 0,ov 21 pN 20 16 0,ov 22 .mov 21 16 0,ow 23 (.load true 10) 3 22 1,ow 24 .mov 1 22 0,ow 25 .mov 2 22 0,oF 26 (.aj 165) [.t 23,.t 24,.t 25] 22 0,ot 27 .pick [.t 22,.c (.bool true),.t 26] 16 0,ov 28 .mov 27 16 0,ow 29 (.load true 10) 3 28 1,ow 30 .mov 1 28 0,ow 31 .mov 2 28 0,oF 32 (.aj 166) [.t 29,.t 30,.t 31] 28 0,ow 33 .mov 7 28 0,ow 34 (.aj 167) 33 28 0,obF 35 pL 32 34 28 0,ot 36 .pick [.t 28,.c (.bool true),.t 35] 16 0,ov 37 .mov 36 16 0,ow 38 (.load true 10) 3 37 1,ow 39 .mov 1 37 0,ow 40 .mov 2 37 0,oF 41 (.aj 166) [.t 38,.t 39,.t 40] 37 0,ow 42 .mov 7 37 0,ow 43 (.fld 0) 3 37 1,ow 44 (.fld 2) 43 37 1,ow 45 (.load false 1) 44 37 1,obF 46 pA 42 45 37 0,ow 47 (.aj 167) 46 37 0,obF 48 pG 41 47 37 0,ot 49 .pick [.t 37,.c (.bool true),.t 48] 16 0,pf 50 16 49,mv 6 50] 0 [6] []) .ret)))
def wH:aA:=(sw (r0 [ba 3 0 0,mf 6 false] 1 [1,2,3] [3]) (sw (r1 [ou 7 (.load true 10) 3 1,mv 8 1,mv 9 2,on 10 (.aj 105) [.t 7,.t 8,.t 9],oa 11 pN 10,mv 12 11,ov 13 (.load true 10) 3 12 1,ov 14 .mov 1 12 0,ov 15 .mov 2 12 0,ot 16 (.aj 164) [.t 13,.t 14,.t 15] 12 0,pf 17 12 16,mv 18 17,ov 19 (.load true 10) 3 18 1,ov 20 .mov 1 18 0,ov 21 .mov 2 18 0,ot 22 (.aj 165) [.t 19,.t 20,.t 21] 18 0,ov 23 pN 22 18 0,pf 24 18 23,mv 25 24,ov 26 (.load true 10) 3 25 1,ov 27 .mov 1 25 0,ov 28 .mov 2 25 0,ot 29 (.aj 166) [.t 26,.t 27,.t 28] 25 0,ov 30 (.load true 10) 3 25 1,ov 31 .mov 1 25 0,ov 32 .mov 2 25 0,ot 33 (.aj 163) [.t 30,.t 31,.t 32] 25 0,ov 34 (.fld 0) 3 25 1,ov 35 (.fld 3) 34 25 1,ov 36 (.load false 1) 35 25 1,obT 37 pA 33 36 25 0,ov 38 (.aj 167) 37 25 0,obT 39 pL 29 38 25 0,pf 40 25 39,mv 6 40] 0 [6] []) .ret))
def yC:aA:=(sw (r0 [ba 3 0 0,mf 6 false] 1 [1,2,3] [3]) (sr [lw 7 10 3,mv 8 1,mv 9 2,on 10 (.aj 165) [.t 7,.t 8,.t 9],mv 11 10,ov 12 (.load true 10) 3 11 0,ov 13 .mov 1 11 0,ov 14 .mov 2 11 0,ot 15 (.aj 164) [.t 12,.t 13,.t 14] 11 0,pf 16 11 15,mv 6 16] 0 [6] .ret))
def uV:aA:=(sw (r0 [ba 3 0 0,mf 6 false] 1 [1,2,3] [3]) (sw (sr [lw 13 10 3,mv 14 1,mv 15 2,on 16 (.aj 165) [.t 13,.t 14,.t 15],oa 17 pN 16,mv 18 17,ow 19 (.load true 10) 3 18 0,ow 20 .mov 1 18 0,ow 21 .mov 2 18 0,oF 22 (.aj 106) [.t 19,.t 20,.t 21] 18 0,pt 23 18 22,mv 24 23,ow 25 (.load true 10) 3 24 0,ow 26 .mov 1 24 0,ow 27 .mov 2 24 0,oF 28 (.aj 164) [.t 25,.t 26,.t 27] 24 0,pt 29 24 28] 0 [1,2,3,29] (cd 29 (sr [mf 6 false] 0 [6] .ret) .skip)) (sr [mv 30 1,mv 31 2,mv 7 30,mv 8 31] 0 [1,2,3,7,8] (sw (sw (r1 [fu 32 0 3 1,fu 33 6 32 1,lv 34 33,mv 35 1,ob1 36 (.bU 4) 34 35 1,fu 37 1 36 1,lv 38 37,fu 39 0 3 1,fu 40 6 39 1,lv 41 40,mv 42 2,ob1 43 (.bU 4) 41 42 1,fu 44 1 43 1,lv 45 44,ob 46 pG 38 45] 0 [1,2,3,7,8,46] []) (cd 46 (rg [mv 47 2,mv 48 1,mv 7 47,mv 8 48] 0 [3,7,8]) .skip)) (sw (r1 [fu 49 0 3 1,fu 50 6 49 1,lv 51 50,mv 52 8,ob1 53 (.bU 4) 51 52 1,fu 54 2 53 1,lv 55 54,fu 56 0 3 1,fu 57 6 56 1,lv 58 57,mv 59 8,ob1 60 (.bU 4) 58 59 1,fu 61 2 60 1,lv 62 61,mv 9 55,mv 10 62] 0 [3,7,8,9,10] []) (sw (sr [fa 63 0 3,fa 64 6 63,lo 65 64,oa 66 .len 65,mi 67 0] 0 [3,7,8,9,10,65,66,67] (.block 0 (.loop (sr [ob 68 pL 67 66] 0 [3,7,8,9,10,65,66,67,68] (sw (cx 68 0) (sw (.block 1 (sw (r0 [mv 69 67,ix 70 4 65 67,lw 71 4 70,al 12 0 [z0,z0,z0,z0],mv 11 69,sk 4 12 71 0] 1 [3,7,8,9,10,11,12,65,66,67] [12]) (sr [lw 72 10 3,mv 73 11,mv 74 8,on 75 (.aj 106) [.t 72,.t 73,.t 74],mv 76 75,ov 77 (.fld 9) 3 76 0,ov 78 (.load false 1) 77 76 0,ov 79 .mov 11 76 0,obT 80 (.aj 131) 78 79 76 0,ov 81 pN 80 76 0,pf 82 76 81] 0 [3,7,8,9,10,12,65,66,67,82] (cd 82 (r1 [mv 83 9,fu 84 2 12 1,lv 85 84,ob 86 (.uh false) 83 85,mv 87 10,fu 88 2 12 1,lv 89 88,ob 90 (.uh true) 87 89,mv 9 86,mv 10 90] 0 [3,7,8,9,10,65,66,67] []) .skip)))) (rg [oi 91 pA 67 1,mv 67 91] 0 [3,7,8,9,10,65,66,67]))))))) (sr [fa 92 0 3,fa 93 6 92,lo 94 93,mv 95 7,ix 96 4 94 95,fa 97 2 96,lo 98 97,mv 99 9,oi 100 pA 99 1,mv 101 10,oi 102 pU 101 1,on 103 (.aj 78) [.t 98,.t 100,.t 102],mv 6 103] 0 [6] .ret)))))))
def uX:aA:=(sw (r0 [ba 3 0 0,mf 6 false] 1 [1,2,3] [3]) (sr [oa 8 (.mkF (.func 168) 0) 3,mv 7 8] 0 [1,2,3,7] (sr [lw 9 10 3,mv 10 1,mv 11 2,on 12 (.aj 165) [.t 9,.t 10,.t 11],oa 13 pN 12,mv 14 13,ov 15 .mov 7 14 0,ov 16 .mov 1 14 0,ov 17 .mov 2 14 0,ot 18 .gJ [.t 15,.t 16,.t 17] 14 0,ov 19 .mov 18 14 0,ow 20 .mov 7 19 0,ow 21 .mov 2 19 0,ow 22 .mov 1 19 0,oF 23 .gJ [.t 20,.t 21,.t 22] 19 0,ot 24 .pick [.t 19,.c (.bool true),.t 23] 14 0,pf 25 14 24,mv 6 25] 0 [6] .ret)))
def yB:aA:=(sw (r0 [ba 3 0 0,mf 6 false] 1 [1,2,3] [3]) (sr [fa 7 8 3,lo 8 7,mv 9 1,mv 10 2,ob 11 (.uh false) 9 10,mv 12 1,mv 13 2,ob 14 (.uh true) 12 13,ob 15 (.build [z0,z0] [(0,1),(1,1)]) 11 14,ob 16 (.Iw [1,1] (.bool false)) 8 15,mv 6 16] 0 [6] .ret))
def tC:aA:=(sw (r0 [ba 3 0 0,mf 6 false] 1 [1,2,3] [3]) (sw (r1 [ou 7 (.load true 10) 3 1,mv 8 1,mv 9 2,on 10 (.aj 165) [.t 7,.t 8,.t 9],mv 11 10,ov 12 (.fld 0) 3 11 1,ov 13 (.fld 6) 12 11 1,ov 14 (.load false 1) 13 11 1,ov 15 .mov 1 11 0,obT 16 (.bU 4) 14 15 11 1,ov 17 (.fld 1) 16 11 1,ov 18 (.load false 1) 17 11 1,ov 19 (.fld 0) 3 11 1,ov 20 (.fld 6) 19 11 1,ov 21 (.load false 1) 20 11 1,ov 22 .mov 2 11 0,obT 23 (.bU 4) 21 22 11 1,ov 24 (.fld 1) 23 11 1,ov 25 (.load false 1) 24 11 1,obT 26 pE 18 25 11 0,pf 27 11 26,mv 6 27] 0 [6] []) .ret))
def alP:aA:=(sw (r0 [ba 4 0 0,ba 7 1 3,al 8 2 [z0,z0],mf 9 false] 3 [1,2,4,7,8] [4,7]) (sw (sr [lw 10 10 4,mv 11 1,mv 12 2,on 13 (.aj 105) [.t 10,.t 11,.t 12]] 0 [1,2,4,7,8,13] (cd 13 (sw (r1 [fu 14 0 7 1,lv 15 14,oa 16 (.un .neg) 15,fu 17 0 4 1,fu 18 6 17 1,lv 19 18,mv 20 1,ob1 21 (.bU 4) 19 20 1,fu 22 3 21 1,lv 23 22,ob 24 pM 16 23,fu 25 1 7 1,lv 26 25,fu 27 0 4 1,fu 28 6 27 1,lv 29 28,mv 30 2,ob1 31 (.bU 4) 29 30 1,fu 32 3 31 1,lv 33 32,ob 34 pM 26 33,ob 35 (.aj 170) 24 34,sk 2 8 35 0,mf 9 true] 0 [8,9] []) .ret) .skip)) (sw (r1 [ou 36 (.load true 2) 7 1,ou 37 (.load true 10) 4 1,mv 38 1,mv 39 2,on 40 (.aj 106) [.t 37,.t 38,.t 39],sk 2 8 36 0,mv 9 40] 0 [8,9] []) .ret)))
def zi:aA:=(sw (r0 [ba 3 0 0,mi 6 0] 1 [1,2,3] [3]) (sw (r1 [fu 7 0 3 1,fu 8 6 7 1,lv 9 8,mv 10 1,ob1 11 (.bU 4) 9 10 1,fu 12 3 11 1,lv 13 12,fu 14 0 3 1,fu 15 6 14 1,lv 16 15,mv 17 2,ob1 18 (.bU 4) 16 17 1,fu 19 3 18 1,lv 20 19,ob 21 pA 13 20,mv 6 21] 0 [6] []) .ret))
def wG:aA:=(sw (r0 [ba 3 0 0,mf 6 false] 1 [1,2,3] [3]) (sw (r1 [fu 7 0 3 1,fu 8 6 7 1,lv 9 8,mv 10 1,ob1 11 (.bU 4) 9 10 1,fu 12 2 11 1,lv 13 12,fu 14 0 3 1,fu 15 6 14 1,lv 16 15,mv 17 2,ob1 18 (.bU 4) 16 17 1,fu 19 2 18 1,lv 20 19,ob 21 pE 13 20,mv 6 21] 0 [6] []) .ret))
def tu:aA:=(sw (r0 [ba 3 0 0,mf 6 false] 1 [1,2,3] [3]) (sw (r1 [fu 7 0 3 1,fu 8 6 7 1,lv 9 8,mv 10 1,ob1 11 (.bU 4) 9 10 1,fu 12 0 11 1,lv 13 12,fu 14 0 3 1,fu 15 6 14 1,lv 16 15,mv 17 2,ob1 18 (.bU 4) 16 17 1,fu 19 0 18 1,lv 20 19,ob 21 pE 13 20,mv 6 21] 0 [6] []) .ret))
def zh:aA:=(sw (r0 [ba 3 0 0,mi 6 0] 1 [1,2,3] [3]) (sw (r1 [fu 9 0 3 1,fu 10 5 9 1,lv 11 10,fu 12 0 3 1,fu 13 6 12 1,lv 14 13,mv 15 1,ob1 16 (.bU 4) 14 15 1,fu 17 0 16 1,lv 18 17,ob1 19 (.bU 2) 11 18 1,ou 20 (.load true 2) 19 1,fu 21 0 3 1,fu 22 5 21 1,lv 23 22,fu 24 0 3 1,fu 25 6 24 1,lv 26 25,mv 27 2,ob1 28 (.bU 4) 26 27 1,fu 29 0 28 1,lv 30 29,ob1 31 (.bU 2) 23 30 1,ou 32 (.load true 2) 31 1,al 7 0 [z0,z0],al 8 1 [z0,z0],sk 2 7 20 4,sk 2 8 32 5] 2 [7,8] [7,8]) (sw (r1 [fu 33 0 7 1,lv 34 33,fu 35 0 8 1,lv 36 35,ob 37 pU 34 36,oa 38 (.aj 167) 37,fu 39 1 7 1,lv 40 39,fu 41 1 8 1,lv 42 41,ob 43 pU 40 42,oa 44 (.aj 167) 43,ob 45 pA 38 44,mv 6 45] 0 [6] []) .ret)))
def CW:aA:=(sr [mi 2 0] 0 [0] (sr [mv 3 0,mv 4 0,ob 5 pM 3 4,mv 2 5] 0 [2] .ret))
def rE:aA:=(sr [mf 5 false] 0 [0,1,2] (sw (r1 [fu 6 0 2 1,fu 7 6 6 1,lv 8 7,mv 9 0,ob1 10 (.bU 4) 8 9 1,fu 11 2 10 1,lv 12 11,fu 13 0 2 1,fu 14 6 13 1,lv 15 14,mv 16 1,ob1 17 (.bU 4) 15 16 1,fu 18 2 17 1,lv 19 18,ob 20 (.bin .leq) 12 19,mv 21 20,ov 22 (.load true 10) 2 21 1,ov 23 .mov 0 21 0,ov 24 .mov 1 21 0,ot 25 (.aj 166) [.t 22,.t 23,.t 24] 21 0,ov 26 (.fld 0) 2 21 1,ov 27 (.fld 6) 26 21 1,ov 28 (.load false 1) 27 21 1,ov 29 .mov 0 21 0,obT 30 (.bU 4) 28 29 21 1,ov 31 (.fld 3) 30 21 1,ov 32 (.load false 1) 31 21 1,ov 33 (.fld 0) 2 21 1,ov 34 (.fld 4) 33 21 1,ov 35 (.load false 1) 34 21 1,obT 36 pA 32 35 21 0,ov 37 (.aj 167) 36 21 0,obT 38 pL 25 37 21 0,pf 39 21 38,mv 5 39] 0 [5] []) .ret))
def al6:aA:=(sr [al 4 0 [z0,z0]] 1 [0,1,4] (sr [mv 6 0,mv 7 1,ob 8 (.dA 1 [z0,z0] [0,1]) 6 7,oa 9 (.aj 249) 8,mv 5 9] 0 [0,1,4,5] (sw (r1 [mv 10 0,mv 11 5,ob 12 (.bin .quo) 10 11,mv 13 1,mv 14 5,ob 15 (.bin .quo) 13 14,ob 16 (.build [z0,z0] [(0,1),(1,1)]) 12 15,sk 2 4 16 0] 0 [4] []) .ret)))
def Ad:aA:=(sw (r0 [ba 1 0 0,ag 2 1,mi 3 0] 1 [1] [1]) (sw (sr [lw 8 2 1,oa 9 (.aj 259) 8,oa 10 pN 9] 0 [1,10] (cd 10 (sr [ag 2 1,mi 3 2] 0 [2,3] .ret) .skip)) (sr [ag 4 1] 0 [1,4] (sw (sr [mi 5 1] 0 [1,4,5] (.block 0 (.loop (sw (sr [mv 11 5,oi 12 (.bin .leq) 11 400] 0 [1,4,5,12] (cx 12 0)) (sw (.block 1 (sr [lw 16 2 1,mv 17 5,ob 18 (.aj 260) 16 17,mv 15 18,xa 19 0 15,xa 20 1 15,al 6 0 [z0,z0,z0],sk 3 6 19 0,mv 7 20] 1 [1,4,5,7] (sr [mv 21 7,oi 22 pE 21 0] 0 [1,4,5,22] (cd 22 (rg [mv 23 4,mv 24 5,oa 25 (.dA 1 [z0] [0]) 24,ob 26 (.app 1 false) 23 25,mv 4 26] 0 [1,4,5]) .skip)))) (rg [mv 13 5,oi 14 pA 13 1,mv 5 14] 0 [1,4,5])))))) (sr [mv 27 4,mv 2 27,mi 3 0] 0 [2,3] .ret)))))
def alU:aA:=(sr [mi 2 0] 0 [0] (sr [mi 3 0] 0 [0,3] (sw (sr [mv 8 0,oa 9 .len 8,mi 10 0] 0 [3,8,9,10] (.block 0 (.loop (sr [ob 11 pL 10 9] 0 [3,8,9,10,11] (sw (cx 11 0) (sw (.block 1 (sr [ix 12 1 8 10,lo 13 12,mv 5 13] 0 [3,5,8,9,10] (sr [mv 14 3,mv 15 5,mv 16 5,oa 17 (.un .neg) 16,ob 18 (.uh true) 15 17,mv 6 14,mv 7 18] 0 [6,7,8,9,10] (sw (.block 2 (.loop (sw (sr [mv 19 7,oi 20 pG 19 0] 0 [6,7,8,9,10,20] (cx 20 2)) (.block 3 (r1 [mv 21 7,mv 22 6,mv 23 7,ob 24 (.bin .rem) 22 23,mv 6 21,mv 7 24] 0 [6,7,8,9,10] []))))) (rg [mv 25 6,mv 3 25] 0 [3,8,9,10]))))) (rg [oi 26 pA 10 1,mv 10 26] 0 [3,8,9,10]))))))) (sr [mv 27 3,mv 2 27] 0 [2] .ret))))
def yx:aA:=(sw (r0 [ba 1 0 0,mf 2 false] 1 [1] [1]) (sr [fa 3 0 1,lo 4 3,on 5 (.aj 78) [.t 4,kI 1,kI 60],mv 6 5,ov 7 (.fld 1) 1 6 0,ov 8 (.load false 1) 7 6 0,ov 9 .len 8 6 0,ot 10 (.aj 78) [.t 9,kI 1,kI 6] 6 0,pf 11 6 10,mv 12 11,ov 13 (.fld 1) 1 12 0,ov 14 (.load false 1) 13 12 0,ot 15 (.aj 127) [.t 14,.c (.func (.func 306) [] [])] 12 0,ov 16 pN 15 12 0,pf 17 12 16,mv 2 17] 0 [2] .ret))
def F6:aA:=(sw (r0 [ba 2 0 0,al 4 1 [z0,z0,z0],mi 5 0] 2 [1,2,4] [2]) (sw (sr [lw 9 2 2,oa 10 (.aj 259) 9,oa 11 pN 10,mv 12 11,ow 13 .mov 1 12 0,ow 14 (.aj 307) 13 12 0,ow 15 pN 14 12 0,pt 16 12 15] 0 [1,2,4,16] (cd 16 (sr [on 17 (.build [z0,z0,z0] []) [],sk 3 4 17 0,mi 5 2] 0 [4,5] .ret) .skip)) (sw (sr [fa 18 1 2,lo 19 18,oa 20 .len 19,mi 21 0] 0 [1,2,4,20,21] (.block 0 (.loop (sr [ob 22 pL 21 20] 0 [1,2,4,20,21,22] (sw (cx 22 0) (sw (.block 1 (sr [mv 23 21,mv 6 23] 0 [1,2,4,6,20,21] (sw (r0 [lw 25 2 2,mv 26 6,mv 27 1,on 28 (.aj 308) [.t 25,.t 26,.t 27],mv 24 28,xa 29 0 24,xa 30 1 24,al 7 0 [z0,z0,z0],sk 3 7 29 0,mv 8 30] 1 [1,2,4,7,8,20,21] [7]) (sr [mv 31 8] 0 [1,2,4,7,20,21,31] (cd 31 (sr [lw 32 3 7,sk 3 4 32 0,mi 5 0] 0 [4,5] .ret) .skip))))) (rg [oi 33 pA 21 1,mv 21 33] 0 [1,2,4,20,21]))))))) (sr [on 34 (.build [z0,z0,z0] []) [],sk 3 4 34 0,mi 5 5] 0 [4,5] .ret))))
def uU:aA:=(sr [mf 2 false] 0 [0] (sr [mv 3 0,on 4 (.aj 78) [.t 3,kI 1,kI 120],oa 5 pN 4,mv 2 5] 0 [2] .ret))
def Ae:aA:=(sr [mf 2 false] 0 [0] (sr [mv 3 0,on 4 (.aj 78) [.t 3,kI 1,kI 400],mv 2 4] 0 [2] .ret))
def F7:aA:=(sw (r0 [ba 3 0 0,al 6 1 [z0,z0,z0],mf 7 false] 2 [1,2,3,6] [3]) (sr [fa 10 1 3,lo 11 10,mv 12 1,ix 13 1 11 12,lo 14 13,mv 8 14] 0 [1,2,3,6,8] (sr [fa 15 0 3,lo 16 15,mv 17 8,ob 18 pM 16 17,mv 9 18] 0 [1,2,6,8,9] (sw (r1 [mv 19 1,mv 20 9,mv 21 2,ob 22 (.bin .quo) 20 21,mv 23 8,ob 24 (.bin .quo) 22 23,mv 25 9,mv 26 2,ob 27 (.bin .quo) 25 26,mv 28 8,ob 29 (.bin .rem) 27 28,on 30 (.build [z0,z0,z0] [(0,1),(1,1),(2,1)]) [.t 19,.t 24,.t 29],mv 31 9,mv 32 2,ob 33 (.bin .rem) 31 32,oi 34 pE 33 0,sk 3 6 30 0,mv 7 34] 0 [6,7] []) .ret))))
def Ns (n l h:Int):Pure C 78 [dI n,dI l,dI h] (.d (.bool (inR n l h))) []:=xM n l h
structure Dvd where
 iW:Int
 cir:List Int
 deriving DecidableEq,Inhabited
structure Ix where
 circle:Int
 turns:Int
 holes:Int
 deriving DecidableEq,Inhabited
def Dvd.dv (d:Dvd):DV:= .agg [dI d.iW,sF (d.cir.map ay)]
def Ix.dv (d:Ix):DV:= .agg [dI d.circle,dI d.turns,dI d.holes]
variable{d:Dvd}
def Bh:d.dv= .agg [dI d.iW,sF (d.cir.map ay)]:=by rw[Dvd.dv]
def Dw {d:Ix}:d.dv= .agg [dI d.circle,dI d.turns,dI d.holes]:=by rw[Ix.dv]
def Dvd.ok (d:Dvd):Bool:=inR d.iW 1 60&&inR d.cir.length 1 6&&d.cir.all (fun n=>inR n 1 120)
def OV (n:Int):Pure C 306 [dI n] (.d (.bool (!inR n 1 120))) []:=by
 refine ah uU aS ?_;simp only[uU,aS,RN,F,H,I,J,N,O];refine au (Ns _ _ _) ?_;(try simp only[RN,F,H,I,J,N,O])
def aa5 (n:Int):Pure C 307 [dI n] (.d (.bool (inR n 1 400))) []:=by
 refine ah Ae aS ?_;simp only[Ae,aS,RN,F,H,I,J,N,O];refine au (Ns _ _ _) ?_;(try simp only[RN,F,H,I,J,N,O])
def KE (d:Dvd)(hl:d.cir.length<=1000000):Pure C 259 [d.dv] (.d (.bool d.ok)) []:=by
 refine ah yx aS ?_;simp only[yx,aS,Bh,RN,F,H,I,J,N,O]
 repeat' first
  |(refine au (Ns _ _ _) ?_;try simp only[Q,RN,F,H,I,J,N,O])
  |(refine fG rfl rfl (mD d.cir _ [] (fun n=> !inR n 1 120) hl (by kernel_rfl) (fun n _=>OV n)) ?_;try simp only[Q,RN,F,H,I,J,N,O])
  |(refine aH (by rfl) (fun a=> ?_) (fun a=> ?_)<;>simp only[a,Q,RN,F,H,I,J,N,O])
  |(refine aP (by rfl) (fun a=> ?_) (fun a=> ?_)<;>simp only[a,Q,RN,F,H,I,J,N,O])
 all_goals(first|(rw[AY])|skip)
 all_goals(first|(simp only[Dvd.ok, *,BSN];done)|(simp_all[Dvd.ok];done)|(simp_all[Dvd.ok];omega))
def acL (iW h t i:Int):Ix:=⟨i,((iW*h).tdiv t).tdiv h,((iW*h).tdiv t).tmod h⟩
def QV (iW h t:Int):Bool:=(iW*h).tmod t==0
def ahX (d:Dvd)(i:Nat)(t:Int)(b:1<=d.iW/\d.iW<=60)(hi:i<d.cir.length)(hc:1<=d.cir.getD i default/\d.cir.getD i default<=120)(m:1<=t):
  Pure C 308 [d.dv,dI i,dI t] (.d (.tup [(acL d.iW (d.cir.getD i default) t i).dv, .bool (QV d.iW (d.cir.getD i default) t)])) []:=by
 have a:(0:Int)<=(i:Int):=by omega
 have l:1<=d.iW*d.cir.getD i default/\d.iW*d.cir.getD i default<=7200:=by
  have h1:=Z b.2 hc.2 (by omega) (by omega);have h2:=Z b.1 hc.1 (by omega) (by omega);omega
 have c:cn .i64 (d.iW*d.cir.getD i default)=d.iW*d.cir.getD i default:=aF (by omega);have j:((d.iW*d.cir.getD i default).tdiv t).natAbs<=7200:=by
  have:=Fq (d.iW*d.cir.getD i default) t;omega
 have e:cn .i64 ((d.iW*d.cir.getD i default).tdiv t)=(d.iW*d.cir.getD i default).tdiv t:=aF (by omega);have k:(((d.iW*d.cir.getD i default).tdiv t).tdiv (d.cir.getD i default)).natAbs<=7200:=by
  have:=Fq ((d.iW*d.cir.getD i default).tdiv t) (d.cir.getD i default);omega
 have f:cn .i64 (((d.iW*d.cir.getD i default).tdiv t).tdiv (d.cir.getD i default))=((d.iW*d.cir.getD i default).tdiv t).tdiv (d.cir.getD i default):=aF (by omega);have g:t≠0:=by omega
 have h:d.cir.getD i default≠0:=by omega
 refine ah F7 aeu ?_;simp only[F7,aeu,Bh,hi,a,getD_map,S,Q,aZ,c,e,f,g,h,Dw,acL,QV,RN,F,H,I,J,N,O]
def Kv (iW t:Int):Nat->List Int->Option Ix
 | _,[]=>none
 |i,h::a=>if QV iW h t then some (acL iW h t i)else Kv iW t (i+1) a
def Dvd.cuts (d:Dvd)(t:Int):Ix×Int:=
 if d.ok&&inR t 1 400 then(match Kv d.iW t 0 d.cir with|some x=>(x,0)|none=>(⟨0,0,0⟩,5))else(⟨0,0,0⟩,2)
def Dvd.Vl (h:d.ok=true):(1<=d.iW/\d.iW<=60)/\(1<=d.cir.length/\d.cir.length<=6)/\∀n∈d.cir,1<=n/\n<=120:=by
 simp only[Dvd.ok,inR,U,decide_eq_true_eq,aD,ge_iff_le]at h;obtain⟨⟨h1,h2⟩,a⟩:=h;exact⟨h1,by omega,a⟩
def Wx (d:Dvd)(t:Int)(hl:d.cir.length<=1000000):Pure C 260 [d.dv,dI t] (.d (.tup [(d.cuts t).1.dv,dI (d.cuts t).2])) []:=by
 refine ah F6 SG ?_;simp only[F6,SG,Bh,RN,F,H,I,J,N,O]
 repeat' first
  |(refine au (KE d hl) ?_;try simp only[Q,Dw,RN,F,H,I,J,N,O])
  |(refine au (aa5 t) ?_;try simp only[Q,Dw,RN,F,H,I,J,N,O])
  |(refine aH (by rfl) (fun b=> ?_) (fun b=> ?_)<;>simp only[b,Q,Dw,RN,F,H,I,J,N,O])
  |(refine aP (by rfl) (fun b=> ?_) (fun b=> ?_)<;>simp only[b,Q,Dw,RN,F,H,I,J,N,O])
 any_goals (simp_all[Dvd.cuts,Dw];done)
 have hd:d.ok=true:=by simp_all
 have g:inR t 1 400=true:=by simp_all
 obtain⟨k,l,c⟩:=Dvd.Vl hd;have e:1<=t:=by simp only[inR,U,decide_eq_true_eq]at g;omega
 have aho:d.cuts t=(match Kv d.iW t 0 d.cir with|some x=>(x,0)|none=>(⟨0,0,0⟩,5)):=by simp only[Dvd.cuts,hd,g,bE,if_true]
 refine aG d.cir.length (fun i (_:Unit)=>⟨[(1,pI t),(2, .d (.aV [dI d.iW,sF (d.cir.map ay)])),(4, .ptr 1 0),(20,pI d.cir.length),(21,pI i)],⟨[some [pI d.iW, .d (sF (d.cir.map ay))],some [pI 0,pI 0,pI 0]],[0],[]⟩⟩)
  (fun i _=>Kv d.iW t 0 d.cir=Kv d.iW t i (d.cir.drop i)) 0 () (ab _) rfl (by simp) (fun i _ h1 a=> ?_) (fun _ a=> ?_)
 ·obtain⟨h2,h,j⟩:=rng h1 hl
  rw[drop_cons h1,Kv]at a;simp only[h2,h,h1,S,Q,RN,F,H,I,J,N,O];refine au (ahX d i t k h1 (c _ (getD_mem h1)) e) ?_;cases f:QV d.iW (d.cir.getD i default) t
  ·simp only[j,Dw,RN,F,H,I,J,N,O]
   exact bK 2 0 () h1 rfl (by rw[a,f];rfl) (by simp) (by simp) rfl rfl
  ·simp only[Dw,RN,F,H,I,J,N,O]
   rw[aho,a,f]
   rfl
 ·rw[ao,Kv]at a
  simp only[am,RN,F,H,I,J,N,O];rw[aho,a]
def Dvd.first (d:Dvd)(t:Int):Option Ix:=Kv d.iW t 0 d.cir
def Dvd.BD (d:Dvd)(n:Nat):List Int:=((b9 n).map fun(i:Nat)=>(i:Int)+1).filter fun t=>(d.first t).isSome
def Dvd.numbers (d:Dvd):List Int×Int:=if d.ok then(d.BD 400,0)else([],2)
def Vg (d:Dvd)(n:Nat):d.BD (n+1)=d.BD n++(if(d.first ((n:Int)+1)).isSome then[(n:Int)+1]else[]):=by
 rw[Dvd.BD,cg,av,List.filter_append,<-Dvd.BD,aM,bk,List.filter_cons,List.filter_nil]
def Yg (d:Dvd)(n:Nat):(d.BD n).length<=n:=by
 rw[Dvd.BD];refine ck (List.length_filter_le _ _) ?_;simp
def ZK (d:Dvd)(hl:d.cir.length<=1000):Pure C 208 [d.dv] (.d (.tup [sF (d.numbers.1.map ay),dI d.numbers.2])) []:=by
 have hd:=KE d (by omega);rw[Bh]at hd;refine dR (aC Ad JV ?_);simp only[Ad,JV,Bh,RN,F,H,I,J,N,O];refine au hd ?_;cases f:d.ok
 ·have e:d.numbers=([],2):=by rw[Dvd.numbers,f];rfl
  simp only[bC,X,dh,RN,F,H,I,J,N,O];simp[datum,bW,dS,Mem.row,e]
 have e:d.numbers=(d.BD 400,0):=by rw[Dvd.numbers,f];rfl
 (try simp only[RN,F,H,I,J,N,O]);refine aG 400 (fun i (q:List Int×Nat)=>⟨[(1, .d (.aV [dI d.iW,sF (d.cir.map ay)])),(4, .tsl 1 q.2 0),(5, .d (dI ((i:Int)+1)))],⟨[some [pI d.iW, .d (sF (d.cir.map ay))]],[0],[some ⟨1,[],0,0⟩,some ⟨1,q.1.map ay,q.2,0⟩]⟩⟩)
  (fun i q=>q.1=d.BD i) 0 ([],0) (ab _) rfl rfl (fun i q m a=> ?_) (fun q a=> ?_)
 ·obtain⟨c,ver⟩:=q
  simp only at a;have j:(i:Int)+1<=400:=by omega
  have n:cn .i64 ((i:Int)+1+1)=((i+1:Nat):Int)+1:=by rw[aF (by omega)];omega
  have g:=Wx d ((i:Int)+1) (by omega);rw[Bh,Dw]at g;have h:=Vg d i;have l:=Yg d i;rw[<-a]at h l;have k:inR ((i:Int)+1) 1 400=true:=by simp only[inR,U,decide_eq_true_eq];omega
  have b:d.cuts ((i:Int)+1)=(match d.first ((i:Int)+1)with|some x=>(x,0)|none=>(⟨0,0,0⟩,5)):=by rw[Dvd.cuts,f,k];rfl
  have z0:((0:Int)==0)=true:=rfl;have p:((5:Int)==0)=false:=rfl;simp only[j,RN,F,H,I,J,N,O];refine au g ?_;cases o:d.first ((i:Int)+1)with
  |none=>
   rw[o]at h b;simp only[b,p,n,RN,F,H,I,J,N,O];exact bK 1 2 (c,ver) m rfl (by simpa using h.symm) (by simp) (by simp) rfl rfl
  |some x=>
   rw[o]at h b;simp only[b,z0,dV,fits_int,forall_eq,DV.strip,gZ,Q,RN,F,H,I,J,N,O];refine⟨by simp,by omega,?_⟩;simp only[n,RN,F,H,I,J,N,O];refine bK 1 2 (c++ [(i:Int)+1],ver+1) m ?_ (by simpa using h.symm) (by simp) (by simp) rfl rfl;simp only[av,aM,bk,aZ];rfl
 ·obtain⟨c,ver⟩:=q
  simp only at a;have j:¬((400:Nat):Int)+1<=400:=by omega
  simp only[j,bC,X,dh,RN,F,H,I,J,N,O];simp[datum,bW,dS,Mem.row,a,e]

end Go.Tel
