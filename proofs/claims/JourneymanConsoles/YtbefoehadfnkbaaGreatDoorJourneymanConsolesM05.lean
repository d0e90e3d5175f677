/-
  Part 5 of a law of desks.
  Conditions: none.
-/
import Derived.Test.YtbefoehadfnkbaaGreatDoorJourneymanConsolesM04
set_option linter.all false
set_option maxRecDepth 10000
set_option maxHeartbeats 4000000
open Nat renaming reduceBEq->B,reduceAdd->F,reduceSub->H,reduceEqDiff->I,reduceLT->J,reduceLeDiff->N,zero_le->V,le_trans->a8,lt_of_lt_of_le->bu,le_refl->bE
open List renaming length_map->O,getElem?_eq_some_iff->U,getElem?_append_left->an,map_cons->ap,getElem?_set_ne->aq,map_nil->av,mem_map->aw,mem_cons->ax,map_append->az,all_eq_true->aE,drop_length->aL,mem_of_mem_take->aM,take_succ_cons->a7,getD_eq_getElem?_getD->bc,range_succ->bl,drop_zero->bq,take_zero->br,all_cons->bt,getElem?_set->bv,cons_append->bw,length_cons->bz,length_take->bA,take_length->bB,range->bO,drop_nil->bS
open Bool renaming and_eq_true->Q,false_eq_true->ae,and_self->bi,false_and->bN,true_and->bR
open Int renaming toNat_natCast->S,lt_irrefl->ai,lt_of_mul_lt_mul_right->am,tmod_lt_of_pos->ao,add_mul->aD,tmod_nonneg->aR,le_refl->bh,natCast_zero->bj,mul_tdiv_add_tmod->bo,mul_le_mul->bp,sub_mul->bX
open And renaming intro->Z
open Option renaming map_none->ab,isSome_none->bd,isSome_some->be,getD_some->bk,map_some->bL
open Go.IntKind renaming wrap->b0
namespace Go.Tel
open Go.Am
def kJ (p q:Pc)(hand:Int)(to:Fr):Bool:=
 Aw ((fJ q.links).getD (p.hands.getD hand.toNat default).toNat default) to&&(match p.lV q with| []=>true| [x]=>x==hand| _=>false)
def alA (p q:Pc)(hand:Int)(to:Fr)(s:0<=hand)(h1:hand.toNat<p.hands.length)(hh:p.hands.length<=1000)(t:DJ (fJ p.links))(k:DJ (fJ q.links))(j:∀n∈p.hands,1<=n/\n.toNat<(fJ p.links).length/\n.toNat<(fJ q.links).length)(o:to.ok=true):
  Pure C 246 [uS p,uS q,dI hand,to.dv] (.d (.bool (kJ p q hand to))) []:=by
 have m:=bG (SC.mono (Tq p q hh t k j) fun _ _ h=>h.datum);obtain⟨u,v,r⟩:=j _ (getD_mem h1);have g:0<=p.hands.getD hand.toNat default:=by omega
 have b:(0<=to.n/\to.n<=50000)/\1<=to.d/\to.d<=50000:=by
  simp only[Fr.ok,inR,Q,decide_eq_true_eq,ge_iff_le]at o;exact o
 have a:=SK _ to (k _ (getD_mem r)) ⟨⟨b.1.1,by omega⟩,b.2.1,by omega⟩;refine ah yt qO ?_;simp only[uS,bK]at m a⊢;simp only[yt,qO,s,h1,g,r,getD_map,aH,bK,O,RN,B,F,N];refine ak a ?_;cases i:Aw ((fJ q.links).getD (p.hands.getD hand.toNat default).toNat default) to
 ·(try simp only[RN,B,F])
  simp only[kJ,i,bN]
 ·(try simp only[RN,B,F,N])
  refine ak m ?_;have f:kJ p q hand to=(match p.lV q with| []=>true| [x]=>x==hand| _=>false):=by simp only[kJ,i,bR]
  rw[f];generalize p.lV q=sp;simp only[O,RN,F]
  match sp with
  | []=>simp only[bj,BEq.rfl,RN,B]
  | [x]=>
   have c:((((0+1:Nat):Int))==0)=false:=by decide
   have e:((((0+1:Nat):Int))==1)=true:=by decide
   simp only[c,e,aH,bh,Int.toNat_zero,RN,B,J,N]
  |x::y::l=>
   have c:((((l.length+1+1:Nat):Int))==0)=false:=by simp;omega
   have e:((((l.length+1+1:Nat):Int))==1)=false:=by simp;omega
   simp only[c,e,O,RN,B]
variable{K:St->Prop}{ts:List Nat}{env:List (Nat×PV)}
def abt {bs:List (Option (List PV))}{fz:List Nat}{ar:List (Option Arr)}{k ver skip t sz st:Nat}{xs:List DV}(h:ar[k]?=some (some ⟨sz,xs,ver,st⟩)):
  Un (.tsl k ver skip) t ts K env ⟨bs,fz,ar⟩=wX ts K ⟨(t, .d (sF (xs.drop skip)))::env,⟨bs,fz,ar.set k (some ⟨sz,xs,ver,2⟩)⟩⟩:=by
 have b:=(U.1 h).1;have e:ar.modify k (Option.map fun A=>{A with st:=2})=ar.set k (some ⟨sz,xs,ver,2⟩):=by
  apply List.ext_getElem?;intro i;rw[List.getElem?_modify,bv]
  by_cases a:k=i
  ·subst a;simp only[h,b,if_true];rfl
  ·simp[a]
 simp[Un,datum,Mem.row,h,Mem.frz,lZ,l7,I9,e]
def amS {t:Nat}{x:DV}{M:Mem}:Un (.d x) t ts K env M=wX ts K ⟨(t, .d x)::env,M⟩:=by
 have:=EX (M:=M) (ds:=[x]);simp only[ap,av]at this;simp only[Un,datum,this]
def vF {nb na:Nat}{α:Type}{a:α}{E:α->St}{P:α->Prop}{μ:α->Nat}{m:Mem}(b:α)(f:μ b<μ a)(hs:(⟨env,m⟩:St)=E b)(e:P b):
  ∃d c,d<μ a/\Weak nb na ⟨env,m⟩ c/\whJ E P μ d c:=⟨μ b,_,f, .inl rfl,b,rfl,hs,e⟩
def vH (p:Pc)(link:Nat)(a:Int):Nat->Int->List Chg
 |0,_=>[]
 |k+1,b=>(if(⟨a,b⟩:Pr)=(p.links.getD link default).pr then[]else[⟨link,⟨a,b⟩⟩])++vH p link a k (b+1)
def sO (p:Pc)(least:Int)(w:Nat)(link:Nat):Nat->Int->List Chg
 |0,_=>[]
 |k+1,a=>vH p link a w least++sO p least w link k (a+1)
def iM (p:Pc)(least:Int)(w:Nat):Nat->Nat->List Chg
 |0,_=>[]
 |k+1,link=>sO p least w link w least++iM p least w k (link+1)
def gJ (p:Pc)(hand:Int)(to:Fr)(least:Int)(w:Nat):Nat->Pc->Nat->Option (List Chg)
 |0,a,_=>if kJ p a hand to then some []else none
 |k+1,a,fr=>(iM p least w (p.links.length - fr) fr).findSome? fun c=>(gJ p hand to least w k (a.changed c) (c.link.toNat+1)).map (c::·)
def xI {p:Pc}{hand:Int}{to:Fr}{least:Int}{w:Nat}:∀{k:Nat} {now:Pc} {fr:Nat} {l:List Chg},gJ p hand to least w k now fr=some l->l.length=k
 |0,now,fr,l,h=>by
  simp only[gJ]at h
  split at h
  ·cases h;rfl
  ·cases h
 |k+1,now,fr,l,h=>by
  simp only[gJ]at h;obtain⟨c,_,h⟩:=List.exists_of_findSome?_eq_some h;rw[Option.map_eq_some_iff]at h;obtain⟨m,h1,rfl⟩:=h;rw[bz,xI h1]
def agJ (xs:List Chg):∀y∈xs.map Chg.dv,y.fits 3=true:=by
 intro y a;obtain⟨n,_,rfl⟩:=aw.1 a;rfl
def JO (r:Option (List Chg)):DV:= .tup [sF ((r.getD []).map Chg.dv), .bool r.isSome]
def Pc.changes (p:Pc)(least most hand:Int)(f:Fr):List Chg×Int:=
 if p.ok&&(aI least&&aI most&&decide (least<=most))&&decide (most - least<=10)&&inR hand 0 (p.hands.length - 1)&&f.ok then
  (match gJ p hand f least (most - least+1).toNat 0 p 0 with
  |some l=>(l,0)
  |none=>match gJ p hand f least (most - least+1).toNat 1 p 0 with
   |some l=>(l,0)
   |none=>match gJ p hand f least (most - least+1).toNat 2 p 0 with
    |some l=>(l,0)
    |none=>([],5))
 else([],2)
structure Now (p now:Pc):Prop where
 len:now.links.length=p.links.length
 lk:linked now.links
 pr:∀l∈now.links,l.pr.ok=true
def Now.changed {p now:Pc}(h:Now p now){c:Chg}(hc:c.pr.ok=true):Now p (now.changed c):=by
 refine⟨by simp[Pc.changed,h.len],fun i a=> ?_,fun l d=> ?_⟩
 ·simp only[Pc.changed,List.length_set]at a
  have:=h.lk i a
  by_cases b:c.link.toNat=i
  ·subst b
   simpa[Pc.changed,bc,a]using this
  ·simpa[Pc.changed,bc,bv,b]using this
 ·rcases List.mem_or_eq_of_mem_set d with h'|h'
  ·exact h.pr l h'
  ·rw[h'];exact hc
section
variable {p:Pc}{hand:Int}{to:Fr}{least most:Int}{bs:Nat}
def Wu (p:Pc):DV:= .aV [sF (p.links.map Lk.dv),sF (p.hands.map au),sF ((fJ p.links).map Fr.dv)]
def ac3 (p:Pc):DV:= .aV [sF (p.links.map Lk.dv),sF (p.hands.map au)]
def searchFn (p:Pc)(hand:Int)(to:Fr)(least most:Int)(bs:Nat):PV:=
 .func (.func 245) [] [.d (Wu p), .d (.aV [dI hand]), .d (.aV [dI to.n,dI to.d]), .d (ac3 p), .d (.aV [dI least]), .d (.aV [dI most]), .ptr bs 0]
def SearchM (p:Pc)(hand:Int)(to:Fr)(least most:Int)(bs:Nat)(M M':Mem):Prop:=
 M'.boxes[bs]?=some (some [searchFn p hand to least most bs])/\M.boxes.length<=M'.boxes.length/\M.aF.length<=M'.aF.length/\∀i∈M'.fz,i<M'.boxes.length
def afL (u:p.Good)(h0:0<=hand)(h1:hand.toNat<p.hands.length)(a5:to.ok=true)(Z:aI least=true)(ae:aI most=true)(bi:least<=most):
  ∀(k:Nat) (now:Pc) (fr:Nat) (M:Mem),k<=2->Now p now->fr<=p.links.length->M.boxes[bs]?=some (some [searchFn p hand to least most bs])->(∀i∈M.fz,i<M.boxes.length)->
   SC C 245 [.d now.dv,pI fr,pI k, .d (Wu p), .d (.aV [dI hand]), .d (.aV [dI to.n,dI to.d]), .d (ac3 p), .d (.aV [dI least]), .d (.aV [dI most]), .ptr bs 0] M
    (fun v M'=>v= .d (JO (gJ p hand to least (most - least+1).toNat k now fr))/\SearchM p hand to least most bs M M') (fun _ _=>False):=by
 intro k
 induction k with
 |zero=>
  intro now fr ⟨bx,fz,ar⟩ hk j W e r;simp only at e r;refine aC nR Xw ?_;have aE:=u.l2;have hw:=XO now (by have:=j.len;omega) j.lk j.pr;have am:=alA p now hand to h0 h1 (by have:=u.h2;omega) (DK u.lk u.pr u.l2) (DK j.lk j.pr (by have:=j.len;omega)) (fun n hn=>by
   have a1:=(uT u.lk u.pr).2;have a2:=(uT j.lk j.pr).2;have K:=u.hd n hn;have:=j.len;omega) a5
  simp only[dA,uS,bK]at hw am⊢;simp only[nR,Xw,Cm,P7,bj,BEq.rfl,Wu,ac3,RN,B,F,J,N];refine ak hw ?_;refine ak am ?_;simp only[abt (k:=(ar++ [some (⟨3,[],0,0⟩:Arr)]).length) Cm,bS,RN,B,];have D:(bx++ [some [PV.d (sF (now.links.map Lk.dv)), .d (sF (now.hands.map au))]])[bs]?=some (some [searchFn p hand to least most bs]):=by rw[an (U.1 e).1];exact e
  refine⟨?_,D,by simp,by simp,fun i hi=> ?_⟩
  rotate_left
  ·rcases ax.1 hi with rfl|hi
   ·simp
   ·have:=r i hi;simp;omega
  cases hc:kJ p now hand to<;>simp only[gJ,hc]<;>rfl
 |succ k ih=>
  intro now fr ⟨bx,fz,ar⟩ hk j W e r;simp only at e r;refine aC nR Xw ?_;have aE:=u.l2;have a7:4<=least/\least<=60:=by simp only[aI,inR,Q,decide_eq_true_eq,ge_iff_le]at Z;exact Z
  have aox:4<=most/\most<=60:=by simp only[aI,inR,Q,decide_eq_true_eq,ge_iff_le]at ae;exact ae
  obtain⟨w,hw⟩:∃w:Nat,most - least+1=w:=⟨(most - least+1).toNat,by omega⟩
  obtain⟨R,hR⟩:∃R,R=gJ p hand to least (most - least+1).toNat (k+1) now fr:=⟨_,rfl⟩
  obtain⟨f,hf⟩:∃f:Chg->Option (List Chg),f=fun c=>(gJ p hand to least (most - least+1).toNat k (now.changed c) (c.link.toNat+1)).map (c::·):=⟨_,rfl⟩
  have ap:R=(iM p least w (p.links.length - fr) fr).findSome? f:=by rw[hR,hf];simp only[gJ,hw,S]
  rw[<-hR];have a0:(((k+1:Nat):Int)==0)=false:=by simp;omega
  have ek:b0 .i64 (((k+1:Nat):Int) - 1)=(k:Int):=by rw[aB (by omega)];omega
  have D:(bx++ [some [PV.d (sF (now.links.map Lk.dv)), .d (sF (now.hands.map au))]])[bs]?=some (some [searchFn p hand to least most bs]):=by rw[an (U.1 e).1];exact e
  simp only[dA];simp only[nR,Xw,Cm,P7,a0,Wu,ac3,RN,B,F,J];refine iE (fun(q:Nat×Mem)=>⟨[(2, .d (dI ((k+1:Nat):Int))),(6, .d (.aV [sF (p.links.map Lk.dv),sF (p.hands.map au)])),(7, .d (.aV [dI least])),(8, .d (.aV [dI most])),(9, .ptr bs 0),(10, .d (.aV [sF (now.links.map Lk.dv),sF (now.hands.map au)])),(15,pI q.1)],q.2⟩)
   (fun q=>q.1<=p.links.length/\SearchM p hand to least most bs ⟨bx,fz,ar⟩ q.2/\R=(iM p least w (p.links.length - q.1) q.1).findSome? f) (fun q=>p.links.length - q.1) (fr,_) rfl ⟨W,⟨D,by simp,by simp,fun i hi=>by
    rcases ax.1 hi with rfl|hi
    ·simp
    ·have:=r i hi;simp;omega⟩,ap⟩ ?_
  rintro⟨link,M1⟩ ⟨g1,I,L⟩;simp only at g1 I L⊢
  by_cases aM:link<p.links.length
  case neg=>
   have s:¬((link:Int)<(p.links.length:Int)):=by omega
   have:p.links.length - link=0:=by omega
   rw[this,iM,List.findSome?_nil]at L;simp only[s,O,RN,B,F,J,N];obtain⟨b1,f1,a1⟩:=M1;simp only[abt (k:=a1.length) Cm,bS,RN,B];exact⟨by rw[L];rfl,I.1,I.2.1,a8 I.2.2.1 (by simp),I.2.2.2⟩
  have s:((link:Int)<(p.links.length:Int)):=by omega
  obtain⟨n1,aR⟩:∃n1,p.links.length - link=n1+1:=⟨p.links.length - link - 1,by omega⟩
  have ai:p.links.length - (link+1)=n1:=by omega
  rw[aR,iM]at L;simp only[s,O,RN,B,F,N];refine iE (fun(q:Nat×Mem)=>⟨[(2, .d (dI ((k+1:Nat):Int))),(6, .d (.aV [sF (p.links.map Lk.dv),sF (p.hands.map au)])),(7, .d (.aV [dI least])),(8, .d (.aV [dI most])),(9, .ptr bs 0),(10, .d (.aV [sF (now.links.map Lk.dv),sF (now.hands.map au)])),(15,pI link),(16, .d (dI (least+(w - q.1:Nat))))],q.2⟩)
   (fun q=>q.1<=w/\SearchM p hand to least most bs ⟨bx,fz,ar⟩ q.2/\R=(sO p least w link q.1 (least+(w - q.1:Nat))++iM p least w n1 (link+1)).findSome? f) (fun q=>q.1) (w,M1) (by simp) ⟨bE _,I,by simpa using L⟩ ?_
  rintro⟨m,M2⟩ ⟨k1,k2,A⟩;simp only at k1 k2 A⊢
  match m,k1,A with
  |0,k1,A=>
   have G:¬(least+((w - 0:Nat):Int)<=most):=by omega
   have h6:b0 .i64 ((link:Int)+1)=((link+1:Nat):Int):=by rw[aB (by omega)];omega
   simp only[G,h6,RN,B,N];refine vF (μ:=fun q:Nat×Mem=>p.links.length - q.1) (a:=(link,M1)) (link+1,M2) (by simp only;omega) rfl ⟨by simp only;omega,k2,?_⟩;simp only[ai]
   simpa[sO]using A
  |m+1,k1,A=>
   obtain⟨a,ha⟩:∃a:Int,a=least+((w - (m+1):Nat):Int):=⟨_,rfl⟩
   have ab:a<=most:=by omega
   have ao:b0 .i64 (a+1)=least+((w - m:Nat):Int):=by rw[aB (by omega)];omega
   have aq:a+1=least+((w - m:Nat):Int):=by omega
   simp only[<-ha]at A⊢;rw[sO,aq,List.append_assoc]at A;simp only[ab,RN,B,N];refine iE (fun(q:Nat×Mem)=>⟨[(2, .d (dI ((k+1:Nat):Int))),(6, .d (.aV [sF (p.links.map Lk.dv),sF (p.hands.map au)])),(7, .d (.aV [dI least])),(8, .d (.aV [dI most])),(9, .ptr bs 0),(10, .d (.aV [sF (now.links.map Lk.dv),sF (now.hands.map au)])),(15,pI link),(16,pI a),(17, .d (dI (least+(w - q.1:Nat))))],q.2⟩)
    (fun q=>q.1<=w/\SearchM p hand to least most bs ⟨bx,fz,ar⟩ q.2/\R=(vH p link a q.1 (least+(w - q.1:Nat))++(sO p least w link m (least+(w - m:Nat))++iM p least w n1 (link+1))).findSome? f) (fun q=>q.1) (w,M2) (by simp) ⟨bE _,k2,by simpa using A⟩ ?_
   rintro⟨v,⟨t,H,K⟩⟩ ⟨q1,q2,g⟩;simp only at q1 q2 g⊢
   match v,q1,g with
   |0,q1,g=>
    have G:¬(least+((w - 0:Nat):Int)<=most):=by omega
    simp only[G,ao,RN,B,N];exact vF (μ:=fun q:Nat×Mem=>q.1) (a:=(m+1,M2)) (m,⟨t,H,K⟩) (by simp only;omega) rfl ⟨by simp only;omega,q2,by simpa[vH]using g⟩
   |v+1,q1,g=>
    obtain⟨b,hb⟩:∃b:Int,b=least+((w - (v+1):Nat):Int):=⟨_,rfl⟩
    have ac:b<=most:=by omega
    have aoK:b0 .i64 (b+1)=least+((w - v:Nat):Int):=by rw[aB (by omega)];omega
    have av:b+1=least+((w - v:Nat):Int):=by omega
    simp only[<-hb]at g⊢;rw[vH,av]at g;have Y:(0:Int)<=(link:Int):=by omega
    obtain⟨s1,s2,s3,s4⟩:=q2;simp only at s1 s2 s3 s4;have a4:¬t.length∈H:=fun h=>by have:=s4 _ h;omega
    have T:=(U.1 s1).1;simp only[ac,Cm,P7,a4,Y,aM,getD_map,S,O,qh,QL,ac1,RN,B,F,N];cases he:((a==(p.links.getD link default).pr.a)&&(b==(p.links.getD link default).pr.b))
    ·(try simp only[RN,B,F,N])
     have E:¬(⟨a,b⟩:Pr)=(p.links.getD link default).pr:=by have:=adz (v:=⟨a,b⟩) (x:=(p.links.getD link default).pr);rw[this]at he;simpa using he
     rw[if_neg E,List.singleton_append,bw,List.findSome?_cons]at g;have P:∀x,(t++ [x])[bs]?=some (some [searchFn p hand to least most bs]):=fun x=>by rw[an T];exact s1
     have aoj:∀x:Option (List PV),bs<(t++ [x]).length:=fun x=>by simp;omega
     have aL:b0 .i64 ((link:Int)+1)=((link+1:Nat):Int):=by rw[aB (by omega)];omega
     have a9:=j.len;have az:(⟨a,b⟩:Pr).ok=true:=by simp[Pr.ok,aI,inR];omega
     have V:=UN now ⟨link,⟨a,b⟩⟩ (by omega) Y (by simp;omega);simp only[dA,jI]at V;simp only[P,aoj,searchFn,ek,aL,RN,N];refine ak V ?_;have z:(gJ p hand to least (most - least+1).toNat k (now.changed ⟨link,⟨a,b⟩⟩) (link+1)).map ((⟨link,⟨a,b⟩⟩:Chg)::·)=f ⟨link,⟨a,b⟩⟩:=by rw[hf];rfl
     obtain⟨o,akl⟩:∃o,o=t++ [some [PV.d (dI (link:Int)),PV.d (dI a),PV.d (dI b)]]:=⟨_,rfl⟩
     have aw:o[bs]?=some (some [searchFn p hand to least most bs]):=by rw[akl];exact P _
     have aD:∀i∈t.length::H,i<o.length:=fun i hi=>by
      rw[akl]
      rcases ax.1 hi with rfl|hi
      ·simp
      ·have:=s4 i hi;simp;omega
     have X:=ih (now.changed ⟨link,⟨a,b⟩⟩) (link+1) ⟨o,t.length::H,K⟩ (by omega) (j.changed az) (by omega) aw aD;simp only[dA]at X;rw[<-akl];refine JI (args:=[_,_,_]) (by kernel_rfl) (fs:=[]) ?_;refine SC.mono X ?_;rintro v1 ⟨b6,f6,a6⟩ ⟨rfl,r1,r2,r3,r4⟩;simp only at r1 r2 r3 r4;have bc:t.length+1<=b6.length:=by rw[akl]at r2;simpa using r2
     cases hS:gJ p hand to least (most - least+1).toNat k (now.changed ⟨link,⟨a,b⟩⟩) (link+1)with
     |none=>
      rw[hS]at z;rw[<-z]at g;simp only[JO,bd,aoK,RN,B];exact vF (μ:=fun q:Nat×Mem=>q.1) (a:=(v+1,⟨t,H,K⟩)) (v,⟨b6,f6,a6⟩) (by simp only;omega) rfl ⟨by simp only;omega,⟨r1,by simp only;omega,by simp only;omega,r4⟩,g⟩
     |some l=>
      rw[hS]at z;rw[<-z]at g;simp only[JO,be,bk,DV.strip,IY,RN,B,F,J,N];have bh:=xI hS;refine⟨agJ l,(fun h=>by cases h),(fun y hy=>by subst hy;rfl),by rw[O];omega,?_⟩;simp only[abt (k:=a6.length) Cm,amS,bq,RN,B];exact⟨by rw[g];simp[jI],r1,by simp only;omega,by simp;omega,r4⟩
    ·have E:(⟨a,b⟩:Pr)=(p.links.getD link default).pr:=by have:=adz (v:=⟨a,b⟩) (x:=(p.links.getD link default).pr);rw[this]at he;simpa using he
     rw[if_pos E,List.nil_append]at g;simp only[aoK,RN,B];refine vF (μ:=fun q:Nat×Mem=>q.1) (a:=(v+1,⟨t,H,K⟩)) (v,_) (by simp only;omega) rfl ⟨by simp only;omega,⟨?_,by simp;omega,s3,fun i hi=> ?_⟩,g⟩
     ·rw[an T];exact s1
     ·rcases ax.1 hi with rfl|hi
      ·simp
      ·have:=s4 i hi;simp;omega
end
def ai3 (a b:Int):Pure C 242 [dI a,dI b] (.d (.bool (aI a&&aI b&&decide (a<=b)))) []:=by
 refine ah Ez aK ?_;simp only[Ez,aK,RN,B,F]
 repeat' first
  |(refine ak (TR _) ?_;try simp only[RN,B,F,H,I,J,N])
  |(refine bF (by rfl) (fun c=> ?_) (fun c=> ?_)<;>simp only[c,RN,B])
  |(refine bM (by rfl) (fun c=> ?_) (fun c=> ?_)<;>simp only[c,RN,B,F,H,I,J,N])
 all_goals(first|(simp only[aI, *,BSN];done)|(simp_all[aI];done)|(simp_all[aI];omega))
def ad1 (p:Pc)(least most hand:Int)(f:Fr)(hl:p.links.length<=1000)(hh:p.hands.length<=1000)(hb: -1000000<=most/\most<=1000000)(W: -1000000<=least/\least<=1000000):
  Pure C 169 [p.dv,dI least,dI most,dI hand,f.dv] (.d (.tup [.slice ((p.changes least most hand f).2 !=0) ((p.changes least most hand f).1.map Chg.dv),dI (p.changes least most hand f).2])) []:=by
 have y:=wF p hl hh;have m:=alv f;have J:b0 .i64 ((p.hands.length:Int) - 1)=(p.hands.length:Int) - 1:=aB (by omega);have K:b0 .i64 (most - least)=most - least:=aB (by omega);refine ah Et Xu ?_;simp only[dA,bK]at y m⊢;simp only[Et,Xu,RN,B,F,N]
 repeat' first
  |(refine ak (y) ?_;try simp only[RN])
  |(refine ak (ai3 _ _) ?_;try simp only[RN])
  |(refine ak (Gp _ _ _) ?_;try simp only[RN])
  |(refine ak (m) ?_;try simp only[RN])
  |(refine bF (by rfl) (fun k=> ?_) (fun k=> ?_)<;>simp only[k,J,K,O,RN,B,F,N])
  |(refine bM (by rfl) (fun k=> ?_) (fun k=> ?_)<;>simp only[k,RN,B,F,H,N])
 all_goals first
  |(
   have v:p.changes least most hand f=([],2):=by
    rw[Pc.changes,if_neg];intro hh;simp only[Q,decide_eq_true_eq]at hh;obtain⟨⟨⟨⟨o,⟨q,a⟩,Y⟩,Z⟩,q6⟩,q7⟩:=hh;have U:¬most<least:=by omega
    have V:¬10<most - least:=by omega
    simp_all
    done
   rw[v]
   rfl)
  |skip
 have z:p.ok=true:=by simp_all
 have h2:(aI least&&aI most&&decide (least<=most))=true:=by simp_all
 have P:most - least<=10:=by simp_all
 have w:inR hand 0 ((p.hands.length:Int) - 1)=true:=by simp_all
 have x:f.ok=true:=by simp_all
 have g:=Pc.good z;have T:=g.l2;have e:aI least=true/\aI most=true/\least<=most:=by simpa[and_assoc]using h2
 have r:0<=hand/\hand<=(p.hands.length:Int) - 1:=by simpa[inR]using w
 have aom:p.changes least most hand f=(match gJ p hand f least (most - least+1).toNat 0 p 0 with
  |some l=>(l,0)
  |none=>match gJ p hand f least (most - least+1).toNat 1 p 0 with
   |some l=>(l,0)
   |none=>match gJ p hand f least (most - least+1).toNat 2 p 0 with
    |some l=>(l,0)
    |none=>([],5)):=by
  simp only[Pc.changes,z,h2,w,x,decide_eq_true P,bi,if_true]
 have A:=XO p (by omega) g.lk g.pr;simp only[dA,uS]at A;refine ak A ?_;simp only[oh,cells_func,Zj,ab,RN,B,F,I,N];have u:hand.toNat<p.hands.length:=by have:=g.h1;omega
 have S:Now p p:=⟨rfl,g.lk,g.pr⟩
 refine aG 3 (fun i (b:Mem)=>⟨[(5, .d (.aV [sF (p.links.map Lk.dv),sF (p.hands.map au)])),(14, .ptr 7 0),(55,pI i)],b⟩)
  (fun i b=>b.boxes[7]?=some (some [searchFn p hand f least most 7])/\(∀j∈b.fz,j<b.boxes.length)/\∀j,j<i->gJ p hand f least (most - least+1).toNat j p 0=none) 0 _ (by decide) rfl ⟨rfl,by simp,by simp⟩ (fun i b h1 h=> ?_) (fun b h=> ?_)
 ·obtain⟨b1,L,D⟩:=b
  obtain⟨o,q,a⟩:=h;simp only at o q;have s:((i:Int)<3):=by omega
  have R:b0 .i64 ((i:Int)+1)=((i+1:Nat):Int):=by rw[aB (by omega)];omega
  have n:=afL (bs:=7) g r.1 u x e.1 e.2.1 e.2.2 i p 0 ⟨b1,L,D⟩ (by omega) S (by omega) o q;simp only[dA,bj]at n;simp only[s,o,searchFn,RN,B,F,N];refine JI (args:=[_,_,_]) (by kernel_rfl) (fs:=[]) ?_;refine SC.mono n ?_;rintro v1 ⟨G,M,E⟩ ⟨rfl,r1,r2,r3,r4⟩;simp only at r1 r2 r3 r4;cases c:gJ p hand f least (most - least+1).toNat i p 0 with
  |none=>
   simp only[JO,bd,R,RN,B];refine aX (len:=3) (i:=i) ⟨G,M,E⟩ h1 rfl ⟨r1,r4,fun j X=> ?_⟩
   by_cases t:j=i
   ·rw[t];exact c
   ·exact a j (by omega)
  |some l=>
   simp only[JO,be,bk,RN,B];have:p.changes least most hand f=(l,0):=by
    rw[aom]
    match i,h1,c,a with
    |0,_,c,_=>rw[c]
    |1,_,c,a=>rw[a 0 (by omega),c]
    |2,_,c,a=>rw[a 0 (by omega),a 1 (by omega),c]
   rw[this]
   rfl
 ·obtain⟨o,q,a⟩:=h
  simp only[ai,Int.cast_ofNat_Int,RN,B];have:p.changes least most hand f=([],5):=by rw[aom,a 0 (by omega),a 1 (by omega),a 2 (by omega)]
  rw[this]
  rfl
def OI:aA:=(s0 [ba 2 0 0,ba 3 1 1,mi 4 0,mi 5 0] 2 [2,3] [2,3] (sw (sr [lw 7 2 2,oa 8 (.aj 97) 7,oa 9 pN 8] 0 [2,3,9] (cd 9 (sr [mi 4 0,mi 5 2] 0 [4,5] .ret) .skip)) (s0 [lw 10 2 2,on 11 (.build [z0,z0,z0] []) [],ob 12 (.aj 98) 10 11,al 6 0 [z0,zs,z0,z0,z0,zs,.map none],sk 7 6 12 0] 1 [3,6] [6] (sw (sr [lw 13 7 6,lw 14 3 3,ob 15 (.aj 99) 13 14,oa 16 pN 15] 0 [3,6,16] (cd 16 (sr [mi 4 0,mi 5 2] 0 [4,5] .ret) .skip)) (sr [lw 17 7 6,lw 18 3 3,ob 19 (.aj 100) 17 18,mv 4 19,mi 5 0] 0 [4,5] .ret)))))
def FB:aA:=(s0 [ba 4 0 0,ba 5 1 1,mk 8 cS,mi 9 0] 2 [2,3,4,5] [4,5] (sw (sr [lw 10 2 4,oa 11 (.aj 97) 10,oa 12 pN 11,mv 13 12,ow 14 (.load true 3) 5 13 0,ow 15 (.aj 101) 14 13 0,ow 16 pN 15 13 0,pt 17 13 16,mv 18 17,ow 19 .mov 2 18 0,ow 20 (.aj 102) 19 18 0,ow 21 pN 20 18 0,pt 22 18 21,mv 23 22,ow 24 .mov 3 23 0,ow 25 (.aj 103) 24 23 0,ow 26 pN 25 23 0,pt 27 23 26] 0 [2,3,4,5,27] (cd 27 (sr [mk 8 cS,mi 9 2] 0 [8,9] .ret) .skip)) (sr [lw 28 2 4,lw 29 3 5,ob 30 (.call 98) 28 29,mv 31 2,mv 32 3,on 33 (.call 104) [.t 30,.t 31,.t 32],mv 8 33,mi 9 0] 0 [8,9] .ret)))
def zi:aA:=(s0 [ba 1 0 0,mf 2 false] 1 [1] [1] (sw (sr [fa 6 0 1,lo 7 6,on 8 (.aj 189) [.t 7,kI 0,kI 1000],oa 9 pN 8,mv 10 9,ow 11 (.fld 1) 1 10 0,lq 12 11 10,ow 13 .len 12 10 0,oF 14 (.aj 189) [.t 13,kI 1,kI 3] 10 0,ow 15 pN 14 10 0,pt 16 10 15] 0 [1,16] (cd 16 (sr [mf 2 false] 0 [2] .ret) .skip)) (sr [mi 3 1] 0 [1,3] (sw (sr [fa 17 1 1,lo 18 17,oa 19 .len 18,mi 20 0] 0 [3,18,19,20] (lp (sr [ob 21 pL 20 19] 0 [3,18,19,20,21] (sw (cx 21 0) (sw (b1 (sr [ix 22 1 18 20,lo 23 22,mv 5 23] 0 [3,5,18,19,20] (sw (sr [mv 24 5,mv 25 3,oi 26 pA 25 1,on 27 (.aj 189) [.t 24,.t 26,kI 1000],oa 28 pN 27] 0 [5,18,19,20,28] (cd 28 (sr [mf 2 false] 0 [2] .ret) .skip)) (rg [mv 29 5,mv 3 29] 0 [3,18,19,20])))) (rg [oi 30 pA 20 1,mv 20 30] 0 [3,18,19,20])))))) (sr [mf 2 true] 0 [2] .ret)))))
def yI:aA:=(s0 [ba 2 0 0,ba 3 1 1,al 4 2 [z0,zs,z0,z0,z0,zs,.map none]] 3 [2,3,4] [2,3] (sr [lw 8 2 2,lw 9 3 3,on 10 (.mkMap 0) [],on 11 (.build [z0,zs,z0,z0,z0,zs,.map none] [(0,2),(2,3),(6,1)]) [.t 8,.t 9,.t 10],al 5 1 [z0,zs,z0,z0,z0,zs,.map none],sk 7 5 11 0] 2 [2,4,5] (sr [fa 12 0 2,lo 13 12,mv 6 13] 0 [4,5,6] (sw (sr [mi 14 0] 0 [4,5,6,14] (lp (sr [oi 15 pL 14 4002] 0 [4,5,6,14,15] (sw (cx 15 0) (sw (b1 (sr [mv 16 14,mv 7 16] 0 [4,5,6,7,14] (sr [fa 17 5 5,lo 18 17,mv 19 6,oa 20 (.dV 1 [z0] [0]) 19,ob 21 (.app 1 false) 18 20,fa 22 5 5,sk 1 22 21 0] 0 [4,5,6,7,14] (rg [mv 23 6,lw 24 7 5,mv 25 7,ob 26 (.jE 190) 24 25,ob 27 pA 23 26,mv 6 27] 0 [4,5,6,14])))) (rg [oi 28 pA 14 1,mv 14 28] 0 [4,5,6,14])))))) (sr [lw 29 7 5,sk 7 4 29 0] 0 [4] .ret)))))
def vN:aA:=(s0 [ba 2 0 0,ba 3 1 1,mf 4 false] 2 [2,3] [2,3] (sw (r1 [fu 5 0 3 1,lv 6 5,oa 7 (.aj 103) 6,mv 8 7,ov 9 (.fld 1) 3 8 1,ov 10 ld 9 8 1,ot 11 (.aj 189) [.t 10,kI 1,kI 12] 8 0,pf 12 8 11,mv 13 12,ov 14 (.fld 2) 3 13 1,ov 15 ld 14 13 1,ov 16 (.load true 7) 2 13 1,ov 17 (.fld 0) 3 13 1,ov 18 ld 17 13 1,obT 19 (.aj 192) 16 18 13 0,ov 20 (.aj 191) 19 13 0,ov 21 (.fld 1) 3 13 1,ov 22 ld 21 13 1,ot 23 pU [.t 22,kI 1] 13 0,obT 24 (.aS 1) 20 23 13 1,ov 25 ld 24 13 1,ot 26 (.aj 189) [.t 15,kI 1,.t 25] 13 0,pf 27 13 26,mv 4 27] 0 [4] []) .ret))
def zk:aA:=(s0 [ba 2 0 0,ba 3 1 1,mi 4 0] 2 [2,3] [2,3] (sw (r1 [fu 5 5 2 1,lv 6 5,fu 7 0 3 1,lv 8 7,ob1 9 (.aS 1) 6 8 1,lv 10 9,ou 11 (.load true 7) 2 1,fu 12 0 3 1,lv 13 12,ob 14 (.aj 192) 11 13,oa 15 (.aj 191) 14,fu 16 1 3 1,lv 17 16,oi 18 pU 17 1,ob1 19 (.zV 1 false true false) 15 18 1,oa 20 (.aj 193) 19,ob 21 pA 10 20,fu 22 2 3 1,lv 23 22,ob 24 pA 21 23,oi 25 pU 24 1,mv 4 25] 0 [4] []) .ret))
def FC:aA:=(s0 [ba 1 0 0,mf 2 false] 1 [1] [1] (sr [fa 3 1 1,lo 4 3,on 5 (.aj 189) [.t 4,kI 1,kI 1000],mv 6 5,ov 7 (.fld 0) 1 6 0,ov 8 ld 7 6 0,ov 9 (.fld 1) 1 6 0,ov 10 ld 9 6 0,ot 11 pM [kI 29,.t 10] 6 0,ov 12 (.fld 1) 1 6 0,ov 13 ld 12 6 0,ot 14 pM [kI 30,.t 13] 6 0,ot 15 (.aj 189) [.t 8,.t 11,.t 14] 6 0,pf 16 6 15,mv 17 16,ov 18 (.fld 2) 1 17 0,ov 19 ld 18 17 0,ov 20 (.fld 0) 1 17 0,ov 21 ld 20 17 0,ot 22 pU [.t 21,kI 1] 17 0,ot 23 (.aj 189) [.t 19,kI 0,.t 22] 17 0,pf 24 17 23,mv 2 24] 0 [2] .ret))
def Ai:aA:=(sr [mf 2 false] 0 [0] (sr [mv 3 0,oa 4 .len 3,oi 5 (.bin .leq) 4 6,mv 6 5,ov 7 .mov 0 6 0,ot 8 (.aj 194) [.t 7,.c (.func (.func 195) [] [])] 6 0,ov 9 pN 8 6 0,pf 10 6 9,mv 2 10] 0 [2] .ret))
def FD:aA:=(sr [mf 2 false] 0 [0] (sr [mv 3 0,on 4 (.aj 189) [.t 3,kI 0,kI 4000],mv 2 4] 0 [2] .ret))
def vM:aA:=(sr [ba 3 0 0,ag 6 1] 1 [1,2,3] (sr [ag 7 1] 0 [1,2,3,7] (sw (sr [mv 12 1,oa 13 .len 12,mi 14 0] 0 [2,3,7,12,13,14] (lp (sr [ob 15 pL 14 13] 0 [2,3,7,12,13,14,15] (sw (cx 15 0) (sw (b1 (sr [ix 16 4 12 14,lw 17 4 16,al 9 0 [.bool false,z0,z0,z0],sk 4 9 17 0] 1 [2,3,7,9,12,13,14] (sr [mi 10 (-1)] 0 [2,3,7,9,10,12,13,14] (sw (sr [mv 18 2,fa 19 1 9,lo 20 19,fa 21 2 9,lo 22 21,on 23 (.build [z0,z0,z0] [(0,1),(1,1),(2,1)]) [.t 18,.t 20,.t 22],al 11 0 [z0,z0,z0],sk 3 11 23 0] 1 [2,3,7,9,10,11,12,13,14] (s0 [fa 24 0 9,lo 25 24] 0 [2,3,7,9,10,11,12,13,14,25] [9] (cd 25 (r1 [ou 26 (.load true 7) 3 2,mv 27 2,ob 28 (.Jy 196) 26 27,fu 29 3 9 1,lv 30 29,ob 31 pA 28 30,mv 10 31] 0 [2,3,7,10,12,13,14] []) (sr [lw 32 7 3,lw 33 3 11,ob 34 (.jE 99) 32 33] 0 [2,3,7,10,11,12,13,14,34] (cd 34 (rg [lw 35 7 3,lw 36 3 11,ob 37 (.jE 100) 35 36,mv 10 37] 0 [2,3,7,10,12,13,14]) .skip))))) (rg [mv 38 7,mv 39 10,oa 40 (.dV 1 [z0] [0]) 39,ob 41 (.app 1 false) 38 40,mv 7 41] 0 [2,3,7,12,13,14]))))) (rg [oi 42 pA 14 1,mv 14 42] 0 [2,3,7,12,13,14])))))) (sr [mv 43 7,mv 6 43] 0 [6] .ret))))
def Kt:aA:=(s0 [ba 2 0 0,ba 3 1 1,al 4 2 [z0,z0,z0],mi 5 0] 3 [2,3,4] [2,3] (sw (sr [lw 8 2 2,oa 9 (.aj 97) 8,oa 10 pN 9,mv 11 10,lq 12 3 11,ow 13 (.aj 248) 12 11 0,ow 14 pN 13 11 0,pt 15 11 14] 0 [2,3,4,15] (cd 15 (sr [on 16 (.build [z0,z0,z0] []) [],sk 3 4 16 0,mi 5 2] 0 [4,5] .ret) .skip)) (sr [al 6 0 [z0,z0,z0]] 1 [2,3,4,6] (sw (sr [on 17 (.mkF (.func 250) 0) [.t 2,.t 3,.t 6],oa 18 (.call 249) 17,mv 7 18] 0 [4,6,7] (sr [mv 19 7,oi 20 pQ 19 0] 0 [4,6,7,20] (cd 20 (sr [on 21 (.build [z0,z0,z0] []) [],mv 22 7,sk 3 4 21 0,mv 5 22] 0 [4,5] .ret) .skip))) (sr [lw 23 3 6,sk 3 4 23 0,mi 5 0] 0 [4,5] .ret)))))
def yc:aA:=(s0 [ba 2 0 0,mi 4 0] 1 [1,2] [2] (sr [lw 5 7 2,mv 6 1,ob 7 (.aj 192) 5 6,oa 8 (.aj 191) 7,oa 9 (.aj 193) 8,mv 4 9] 0 [4] .ret))
def FH:aA:=(sr [mk 2 cS] 0 [0] (sr [on 4 (.oK 1 [z0,z0,z0,z0,z0,z0,z0,z0,z0,z0,z0,z0] [0,1,2,3,4,5,6,7,8,9,10,11]) [kI 31,kI 28,kI 31,kI 30,kI 31,kI 30,kI 31,kI 31,kI 30,kI 31,kI 30,kI 31],mv 3 4] 0 [0,3] (sw (sr [mv 5 0] 0 [3,5] (cd 5 (rg [mv 6 3,oi 7 (.aS 1) 6 1,os (.store 1) [.t 7,kI 29] 0] 0 [3]) .skip)) (sr [mv 8 3,mv 2 8] 0 [2] .ret))))
def yg:aA:=(s0 [ba 2 0 0,mf 4 false] 1 [1,2] [2] (sr [mf 5 false] 0 [1,2,5] (sw (sr [fa 8 0 2,fa 9 1 8,lo 10 9,oa 11 .len 10,mi 12 0] 0 [1,5,10,11,12] (lp (sr [ob 13 pL 12 11] 0 [1,5,10,11,12,13] (sw (cx 13 0) (sw (b1 (sr [ix 14 1 10 12,lo 15 14,mv 7 15] 0 [1,5,7,10,11,12] (sr [mv 16 1,mv 17 7,ob 18 (.bin .rem) 16 17,oi 19 pE 18 0] 0 [1,5,10,11,12,19] (cd 19 (rg [mv 20 5,oa 21 pN 20,mv 5 21] 0 [1,5,10,11,12]) .skip)))) (rg [oi 22 pA 12 1,mv 12 22] 0 [1,5,10,11,12])))))) (sr [mv 23 5,mv 4 23] 0 [4] .ret))))
def xY:aA:=(s0 [ba 1 0 0,mf 2 false] 1 [1] [1] (sw (sr [fa 3 0 1,lo 4 3] 0 [1,4] (cd 4 (sr [fa 5 1 1,lo 6 5,oi 7 pQ 6 0,mv 8 7,ow 9 (.fld 2) 1 8 0,lq 10 9 8,oF 11 pQ [.t 10,kI 0] 8 0,pt 12 8 11,mv 13 12,ow 14 (.fld 3) 1 13 0,lq 15 14 13,oF 16 (.aj 189) [.t 15,kI (-60),kI 60] 13 0,ow 17 pN 16 13 0,pt 18 13 17,mv 2 18] 0 [2] .ret) .skip)) (sr [fa 19 3 1,lo 20 19,oi 21 pQ 20 0,mv 22 21,ow 23 (.fld 1) 1 22 0,lq 24 23 22,oF 25 (.aj 189) [.t 24,kI 1,kI 12] 22 0,ow 26 pN 25 22 0,pt 27 22 26,mv 28 27,ow 29 (.fld 2) 1 28 0,lq 30 29 28,oF 31 (.aj 189) [.t 30,kI 1,kI 31] 28 0,ow 32 pN 31 28 0,pt 33 28 32,mv 2 33] 0 [2] .ret)))
def vO:aA:=(sr [ba 2 0 0,mi 4 0] 1 [1,2] (sr [mv 9 1,on 10 (.build [z0,z0,z0] [(0,1),(1,1),(2,1)]) [.t 9,kI 3,kI 21],al 5 0 [z0,z0,z0],sk 3 5 10 0] 1 [2,5] (sw (sr [fa 12 6 2,lo 13 12,lw 14 3 5,ob 15 (.Hr true [1,1,1] (.int .i64 0)) 13 14,mv 11 15,xa 16 0 11,xa 17 1 11,mv 6 16,mv 7 17] 0 [2,5,6,7] (sr [mv 18 7] 0 [2,5,6,18] (cd 18 (sr [mv 19 6,mv 4 19] 0 [4] .ret) .skip))) (sr [lw 20 7 2,lw 21 3 5,ob 22 (.jE 100) 20 21,mv 8 22] 0 [2,5,8] (sw (lp (sw (sr [fa 23 2 2,lw 24 3 23,mv 25 8,ob 26 (.aj 266) 24 25,oi 27 pQ 26 13] 0 [2,5,8,27] (cx 27 0)) (b1 (rg [mv 28 8,oi 29 pA 28 1,mv 8 29] 0 [2,5,8])))) (sr [mv 30 8,mv 31 8,oa 32 (.aj 267) 31,on 33 pU [kI 7,.t 32],ob 34 pA 30 33,mv 8 34] 0 [2,5,8] (sr [fa 35 6 2,lo 36 35,lw 37 3 5,mv 38 8,os (.abW [1,1,1]) [.t 36,.t 37,.t 38] 0] 0 [8] (sr [mv 39 8,mv 4 39] 0 [4] .ret))))))))
def H9:aA:=(sr [mf 2 false] 0 [0] (sr [mv 3 0,on 4 (.aj 189) [.t 3,kI 0,kI 2000000],mv 2 4] 0 [2] .ret))
def Fz:aA:=(r1 [ou 3 (.load true 2) 0 1,on 4 (.build [z0,z0,z0] []) [],ob 5 (.aj 98) 3 4,lv 6 1,ob 7 (.aj 251) 5 6,sk 3 2 7 0] 0 [] [])
def xZ:aA:=(s0 [ba 2 0 0,al 4 1 [z0,z0,z0]] 2 [1,2,4] [2] (sr [fa 11 5 2,lo 12 11,mv 13 1,ob 14 (.aj 293) 12 13,mv 10 14,xa 15 0 10,xa 16 1 10,mv 5 15,mv 6 16] 0 [1,2,4,5,6] (sw (sr [mv 17 6,oa 18 pN 17] 0 [1,2,4,5,18] (cd 18 (rg [mv 19 5,oi 20 pU 19 1,mv 5 20] 0 [1,2,4,5]) .skip)) (sw (sr [mv 21 5,oa 22 (.aj 103) 21,oa 23 pN 22] 0 [1,2,4,5,23] (cd 23 (rg [mv 24 1,oa 25 (.build [z0] [(0,1)]) 24,oa 26 (.mkI T.MX) 25,os .panic [.t 26] 0] 0 [1,2,4,5]) .skip)) (sr [mv 27 1,fa 28 5 2,lo 29 28,mv 30 5,ix 31 1 29 30,lo 32 31,ob 33 pU 27 32,mv 7 33] 0 [1,2,4,5,7] (sw (sr [lw 34 7 2,mv 35 5,ob 36 (.aj 192) 34 35,oa 37 (.aj 191) 36,oa 38 .len 37,mi 39 0] 0 [1,4,5,7,37,38,39] (lp (sr [ob 40 pL 39 38] 0 [1,4,5,7,37,38,39,40] (sw (cx 40 0) (sw (b1 (sr [mv 41 39,ix 42 1 37 39,lo 43 42,mv 8 41,mv 9 43] 0 [1,4,5,7,8,9,37,38,39] (sw (sr [mv 44 7,mv 45 9,ob 46 pL 44 45] 0 [1,4,5,7,8,9,37,38,39,46] (cd 46 (sr [mv 47 5,mv 48 8,oi 49 pA 48 1,mv 50 7,oi 51 pA 50 1,on 52 (.build [z0,z0,z0] [(0,1),(1,1),(2,1)]) [.t 47,.t 49,.t 51],sk 3 4 52 0] 0 [4] .ret) .skip)) (rg [mv 53 7,mv 54 9,ob 55 pU 53 54,mv 7 55] 0 [1,4,5,7,37,38,39])))) (rg [oi 56 pA 39 1,mv 39 56] 0 [1,4,5,7,37,38,39])))))) (rg [mv 57 1,oa 58 (.build [z0] [(0,1)]) 57,oa 59 (.mkI T.MX) 58,os .panic [.t 59] 0] 0 [4])))))))
def OJ:aA:=(s0 [ba 2 0 0,mi 4 0] 1 [1,2] [2] (sr [mv 6 1,oi 7 pA 6 1,fa 8 1 2,lo 9 8,ob 10 pM 7 9,oi 11 pU 10 1,fa 12 2 2,lo 13 12,ob 14 pU 11 13,fa 15 0 2,lo 16 15,ob 17 (.aj 298) 14 16,mv 5 17] 0 [1,2,5] (sr [mv 18 1,mv 19 5,fa 20 0 2,lo 21 20,ob 22 pM 19 21,fa 23 2 2,lo 24 23,ob 25 pA 22 24,fa 26 1 2,lo 27 26,ob 28 (.aj 298) 25 27,ob 29 pU 18 28,mv 4 29] 0 [4] .ret)))
def rQ:aA:=(sr [mi 2 0] 0 [0] (sr [mv 3 0,oi 4 pA 3 4,oi 5 (.bin .rem) 4 7,mv 2 5] 0 [2] .ret))
def yH:aA:=(sr [mi 4 0] 0 [0,1] (sr [mv 6 0,mv 7 1,ob 8 (.bin .quo) 6 7,mv 5 8] 0 [0,1,5] (sw (sr [mv 9 5,mv 10 1,ob 11 pM 9 10,mv 12 0,ob 13 pG 11 12] 0 [5,13] (cd 13 (rg [mv 14 5,oi 15 pU 14 1,mv 5 15] 0 [5]) .skip)) (sr [mv 16 5,mv 4 16] 0 [4] .ret))))
def Hw (n l h:Int):Pure C 189 [dI n,dI l,dI h] (.d (.bool (inR n l h))) []:=AU n l h
def WH (n:Int):Pure C 103 [dI n] (.d (.bool (inR n 0 4000))) []:=by
 refine ah FD aN ?_;simp only[FD,aN,RN,B]
 repeat' first
  |(refine ak (Hw _ _ _) ?_;try simp only[])
  |(refine bF (by rfl) (fun a=> ?_) (fun a=> ?_)<;>simp only[a,RN,B,F,H,I,J,N])
  |(refine bM (by rfl) (fun a=> ?_) (fun a=> ?_)<;>simp only[a,RN,B,F,H,I,J,N])
 all_goals(first|(simp only[inR, *,BSN];done)|(simp_all[inR];done)|(simp_all[inR];omega))
def agT (n:Int):Pure C 248 [dI n] (.d (.bool (inR n 0 2000000))) []:=by
 refine ah H9 aN ?_;simp only[H9,aN,RN,B]
 repeat' first
  |(refine ak (Hw _ _ _) ?_;try simp only[])
  |(refine bF (by rfl) (fun a=> ?_) (fun a=> ?_)<;>simp only[a,RN,B,F,H,I,J,N])
  |(refine bM (by rfl) (fun a=> ?_) (fun a=> ?_)<;>simp only[a,RN,B,F,H,I,J,N])
 all_goals(first|(simp only[inR, *,BSN];done)|(simp_all[inR];done)|(simp_all[inR];omega))
def IX:List Int->Int->Bool
 | [],_=>true
 |n::l,a=>inR n (a+1) 1000&&IX l n
def Cal.ok (c:Cal):Bool:=inR c.ep 0 1000&&inR c.cy.length 1 3&&IX c.cy 1
def QG:∀{l:List Int} {last:Int},1<=last->IX l last=true->∀n∈l,2<=n/\n<=1000
 | [],_,_,_,n,a=>by cases a
 |x::l,last,h1,h,n,a=>by
  simp only[IX,inR,Q,decide_eq_true_eq,ge_iff_le]at h
  rcases ax.1 a with rfl|a
  ·omega
  ·exact QG (last:=x) (by omega) h.2 n a
variable{c:Cal}
def Cal.facts (h:c.ok=true):(0<=c.ep/\c.ep<=1000)/\(1<=c.cy.length/\c.cy.length<=3)/\∀n∈c.cy,2<=n/\n<=1000:=by
 simp only[Cal.ok,Q]at h;obtain⟨⟨h1,h2⟩,a⟩:=h;simp only[inR,Q,decide_eq_true_eq,ge_iff_le]at h1 h2;exact⟨h1,by omega,QG (by omega) a⟩
def WW (c:Cal)(hl:c.cy.length<=1000000):Pure C 97 [c.dv] (.d (.bool c.ok)) []:=by
 refine ah zi aN ?_;simp only[zi,aN,dZ,RN,B,F,N]
 repeat' first
  |(refine ak (Hw _ _ _) ?_;try simp only[RN])
  |(refine bF (by rfl) (fun e=> ?_) (fun e=> ?_)<;>simp only[e,O,RN,B,F,N])
  |(refine bM (by rfl) (fun e=> ?_) (fun e=> ?_)<;>simp only[e,O,RN,B,F,N])
 any_goals (simp_all[Cal.ok];done)
 have g:c.ok=IX c.cy 1:=by simp_all[Cal.ok]
 rw[g];refine aG c.cy.length (fun i (a:Int)=>⟨[(3,pI a),(18, .d (sF (c.cy.map au))),(19,pI c.cy.length),(20,pI i)],⟨[some [pI c.ep, .d (sF (c.cy.map au))]],[0],[]⟩⟩)
  (fun i a=>1<=a/\a<=1000/\IX c.cy 1=IX (c.cy.drop i) a) 0 1 (V _) rfl ⟨by omega,by omega,rfl⟩ (fun i a h1 b=> ?_) (fun a b=> ?_)
 ·obtain⟨h2,j,k⟩:=rng h1 hl
  obtain⟨l,m,b⟩:=b;rw[drop_cons h1,IX]at b;have h:b0 .i64 (a+1)=a+1:=aB (by omega);simp only[h2,j,h1,aH,getD_map,S,O,h,RN,B,N];refine ak (Hw _ _ _) ?_;cases f:inR (c.cy.getD i default) (a+1) 1000
  ·(try simp only[RN,B])
   rw[b,f];rfl
  ·simp only[k,RN,B]
   rw[f,bR]at b;have:a+1<=c.cy.getD i default/\c.cy.getD i default<=1000:=by simpa[inR]using f
   exact dD (c.cy.getD i default) h1 rfl ⟨by omega,by omega,b⟩ (by simp) (by simp) rfl rfl
 ·obtain⟨_,_,b⟩:=b
  rw[aL,IX]at b;simp only[ai,b,RN,B]
def Zl (c:Cal)(m:iw)(fs:List Int)(es:Option (List (DV×DV))):DV:= .agg [dI c.ep,sF (c.cy.map au),dI m.n,dI m.d,dI m.ad,sF (fs.map au), .map es]
variable{m:iw}
def sV {fs:List Int}{es:Option (List (DV×DV))}:Zl c m fs es= .agg [dI c.ep,sF (c.cy.map au),dI m.n,dI m.d,dI m.ad,sF (fs.map au), .map es]:=by rw[Zl]
def Fg:List Int->Int->Bool->Bool
 | [],_,a=>a
 |n::l,y,a=>Fg l y (if y.tmod n==0 then !a else a)
def Cal.leap (c:Cal)(y:Int):Bool:=Fg c.cy y false
def W9 (c:Cal)(m:iw)(fs:List Int)(es:Option (List (DV×DV)))(y:Int)(hl:c.cy.length<=1000000)(j:∀n∈c.cy,n≠0):Pure C 192 [Zl c m fs es,dI y] (.d (.bool (c.leap y))) []:=by
 refine ah yg aK ?_;simp only[yg,aK,sV,O,RN,B,F,N];refine aG c.cy.length (fun i (b:Bool)=>⟨[(1,pI y),(5, .d (.bool b)),(10, .d (sF (c.cy.map au))),(11,pI c.cy.length),(12,pI i)],
   ⟨[some [pI c.ep, .d (sF (c.cy.map au)),pI m.n,pI m.d,pI m.ad, .d (sF (fs.map au)), .d (.map es)]],[0],[]⟩⟩)
  (fun i b=>c.leap y=Fg (c.cy.drop i) y b) 0 false (V _) rfl rfl (fun i b h1 a=> ?_) (fun b a=> ?_)
 ·obtain⟨h2,h,f⟩:=rng h1 hl
  rw[drop_cons h1,Fg]at a;have e:=j _ (getD_mem h1);simp only[h2,h,h1,aH,getD_map,S,O,e,RN,B,N];cases g:(y.tmod (c.cy.getD i default)==0)
  ·rw[g]at a
   simp only[f,RN,B];exact dD b h1 rfl a (by simp) (by simp) rfl rfl
  ·rw[g]at a
   simp only[f,RN,B];exact dD (!b) h1 rfl a (by simp) (by simp) rfl rfl
 ·rw[aL,Fg]at a
  simp only[ai,a,RN,B]
def aQ (leap:Bool):List Int:=[31,if leap then 29 else 28,31,30,31,30,31,31,30,31,30,31]
def mon0:List DV:=[dI 31,dI 28,dI 31,dI 30,dI 31,dI 30,dI 31,dI 31,dI 30,dI 31,dI 30,dI 31]
def akL {C:Ctx}{K:PV->Mem->Prop}{KP:DV->Mem->Prop}(h:K (.tsl 0 0 0) ⟨[],[],[some ⟨1,mon0,0,1⟩]⟩):
  ay C 0 (.oK 1 [dI 0,dI 0,dI 0,dI 0,dI 0,dI 0,dI 0,dI 0,dI 0,dI 0,dI 0,dI 0] [0,1,2,3,4,5,6,7,8,9,10,11]) (mon0.map .d) ⟨[],[],[]⟩ K KP:=by
 simp only[ay,mon0,ap,av,ji];exact⟨by decide,aE.1 (rfl:mon0.all (DV.fits 1)=true),h⟩
def an8:∀b:Bool,(aQ b).map au=bif b then mon0.set 1 (dI 29)else mon0
 |true=>rfl
 |false=>rfl
def J4 (leap:Bool):Pure C 191 [.bool leap] (.d (sF ((aQ leap).map au))) []:=by
 refine bG (aC FH aN ?_);simp only[FH,aN,RN,B];refine akL ?_;rw[an8];cases leap
 ·(try simp only[RN,B])
  rfl
 ·(try simp only[RN,B])
  refine⟨by decide,by decide,zN (ds:=[dI 29]) rfl rfl (by decide) rfl rfl (by decide) rfl⟩
def agZ (l:List Int)(hl:l.length<=1000000)(hx:∀x∈l,0<=x)(hb:dN l 0<=9223372036854775807):Pure C 193 [sF (l.map au)] (pI (dN l 0)) []:=by
 refine ah Ap aN ?_;simp only[Ap,aN,O,RN,B];refine aG l.length (fun i (p:Int)=>⟨[(3,pI p),(6, .d (sF (l.map au))),(7,pI l.length),(8,pI i)],⟨[],[],[]⟩⟩)
  (fun i p=>0<=p/\dN l 0=dN (l.drop i) p) 0 0 (V _) rfl ⟨by omega,rfl⟩ (fun i p h1 a=> ?_) (fun p a=> ?_)
 ·obtain⟨h2,c,e⟩:=rng h1 hl
  obtain⟨f,a⟩:=a;rw[drop_cons h1,dN]at a;have g:=hx _ (getD_mem h1);have j:=tJ (l.drop (i+1)) (p+l.getD i default) (fun y h=>hx y (List.mem_of_mem_drop h));have b:b0 .i64 (p+l.getD i default)=p+l.getD i default:=aB (by omega);simp only[h2,c,h1,e,aH,getD_map,S,O,b,RN,B,N];exact dD (p+l.getD i default) h1 rfl ⟨by omega,a⟩ (by simp) (by simp) rfl rfl
 ·obtain⟨f,a⟩:=a
  rw[aL,dN]at a;simp only[ai,a,RN,B]
def o8 (b:Bool):Int:=dN (aQ b) 0
def l9:∀b:Bool,o8 b=if b then 366 else 365
 |true=>rfl
 |false=>rfl
def kL:∀(b:Bool),∀x∈aQ b,28<=x/\x<=31:=by
 intro b x a;cases b<;>simp[aQ]at a<;>omega
def mF:∀(b:Bool),(aQ b).length=12
 |true=>rfl
 |false=>rfl
def adu (c:Cal)(m:iw)(fs:List Int)(es:Option (List (DV×DV)))(y:Int)(hl:c.cy.length<=1000000)(a:∀n∈c.cy,n≠0):Pure C 190 [Zl c m fs es,dI y] (.d (dI (o8 (c.leap y)))) []:=by
 refine ah yc aK ?_;simp only[yc,aK,sV,RN,B,F,N];have h1:=W9 c m fs es y hl a;rw[sV]at h1;refine ak h1 ?_;(try simp only[RN,B,F,H,I,J,N]);refine ak (J4 _) ?_;(try simp only[RN,B,F,H,I,J,N]);have e:dN (aQ (c.leap y)) 0<=366:=by have:=l9 (c.leap y);unfold o8 at this;rw[this];split<;>decide
 refine eG rfl rfl (agZ (aQ (c.leap y)) (by rw[mF];decide) (fun x b=>by have:=kL _ x b;omega) (by omega)) ?_;simp only[o8]
def wd (n:Int):Int:=(n+4).tmod 7
def af4 (n:Int)(h:0<=n/\n<=1000000000):Pure C 267 [dI n] (pI (wd n)) []:=by
 have a:b0 .i64 (n+4)=n+4:=aB (by omega);have b1:0<=(n+4).tmod 7:=aR 7 (by omega);have b:(n+4).tmod 7<7:=ao _ (by decide);have c:b0 .i64 ((n+4).tmod 7)=(n+4).tmod 7:=aB (by omega);refine ah rQ aN ?_;simp only[rQ,aN,a,wd,RN,B];simp
def dU (n b:Int):Int:=if n.tdiv b*b>n then n.tdiv b - 1 else n.tdiv b
def Gt (n b:Int):(n.tdiv b*b).natAbs<=n.natAbs:=by
 have h:=bo n b;rw[Int.natAbs_mul,Int.natAbs_tdiv];exact Nat.div_mul_le_self _ _
def agY (n b:Int)(h:n.natAbs<=1000000000000000000)(hb:b≠0):Pure C 298 [dI n,dI b] (pI (dU n b)) []:=by
 have b1:=kU n b;have f:=Gt n b;have c:b0 .i64 (n.tdiv b)=n.tdiv b:=aB (by omega);have d:b0 .i64 (n.tdiv b*b)=n.tdiv b*b:=aB (by omega);have e:b0 .i64 (n.tdiv b - 1)=n.tdiv b - 1:=aB (by omega);refine ah yH aK ?_;simp only[yH,aK,c,d,hb,RN,B,F]
 by_cases a:n.tdiv b*b>n
 ·simp only[a,e,dU,if_true,RN,B]
 ·simp only[a,dU,if_false,RN,B]
def WG (n b:Int)(hb:b≠0):(dU n b).natAbs<=n.natAbs+1:=by
 have:=kU n b;unfold dU
 split<;>omega
def Yv (n b:Int):(dU n b*b).natAbs<=n.natAbs+b.natAbs:=by
 have:=Gt n b;unfold dU
 split
 ·rw[bX];omega
 ·omega
def iw.ok (m:iw):Bool:=inR m.d 1 1000&&inR m.n (29*m.d) (30*m.d)&&inR m.ad 0 (m.n - 1)
def iw.facts (h:m.ok=true):(1<=m.d/\m.d<=1000)/\(29*m.d<=m.n/\m.n<=30*m.d)/\0<=m.ad/\m.ad<m.n:=by
 simp only[iw.ok,inR,Q,decide_eq_true_eq,ge_iff_le]at h;omega
def ahz (m:iw):Pure C 101 [m.dv] (.d (.bool m.ok)) []:=by
 refine ah FC aN ?_;simp only[FC,aN,iO,RN,B,F,N];refine ak (Hw _ _ _) ?_;cases h1:inR m.d 1 1000
 ·(try simp only[RN,B])
  simp[iw.ok,h1]
 ·have hd:1<=m.d/\m.d<=1000:=by simpa[inR]using h1
  have a:b0 .i64 (29*m.d)=29*m.d:=aB (by omega);have b:b0 .i64 (30*m.d)=30*m.d:=aB (by omega);simp only[a,b,RN,B,F,N];refine ak (Hw _ _ _) ?_;cases h2:inR m.n (29*m.d) (30*m.d)
  ·(try simp only[RN,B])
   simp[iw.ok,h2]
  ·have e:29*m.d<=m.n/\m.n<=30*m.d:=by simpa[inR]using h2
   have c:b0 .i64 (m.n - 1)=m.n - 1:=aB (by omega);simp only[c,RN,B,F,N];refine ak (Hw _ _ _) ?_;(try simp only[RN,B,F,H,I,J,N]);simp[iw.ok,h1,h2]
def yA (m:iw)(n:Int):Int:=n - dU (dU ((n+1)*m.d - 1 - m.ad) m.n*m.n+m.ad) m.d
def an2 (m:iw)(n:Int)(j:m.ok=true)(h:0<=n/\n<=100000000):Pure C 266 [m.dv,dI n] (pI (yA m n)) []:=by
 obtain⟨hd,l,k⟩:=m.facts j;have o:0<=(n+1)*m.d/\(n+1)*m.d<=100000001*1000:=⟨Int.mul_nonneg (by omega) (by omega),bp (by omega) hd.2 (by omega) (by omega)⟩
 have p:=WG ((n+1)*m.d - 1 - m.ad) m.n (by omega);have q:=Yv ((n+1)*m.d - 1 - m.ad) m.n;have r:=WG (dU ((n+1)*m.d - 1 - m.ad) m.n*m.n+m.ad) m.d (by omega);have a:b0 .i64 (n+1)=n+1:=aB (by omega);have b:b0 .i64 ((n+1)*m.d)=(n+1)*m.d:=aB (by omega);have c:b0 .i64 ((n+1)*m.d - 1)=(n+1)*m.d - 1:=aB (by omega);have e:b0 .i64 ((n+1)*m.d - 1 - m.ad)=(n+1)*m.d - 1 - m.ad:=aB (by omega);have f:b0 .i64 (dU ((n+1)*m.d - 1 - m.ad) m.n*m.n)=dU ((n+1)*m.d - 1 - m.ad) m.n*m.n:=aB (by omega);have g:b0 .i64 (dU ((n+1)*m.d - 1 - m.ad) m.n*m.n+m.ad)=dU ((n+1)*m.d - 1 - m.ad) m.n*m.n+m.ad:=aB (by omega);have i:b0 .i64 (n - dU (dU ((n+1)*m.d - 1 - m.ad) m.n*m.n+m.ad) m.d)=n - dU (dU ((n+1)*m.d - 1 - m.ad) m.n*m.n+m.ad) m.d:=aB (by omega);refine ah OJ aK ?_;simp only[OJ,aK,iO,a,b,c,e,RN,B,F,N];refine eG rfl rfl (agY _ _ (by omega) (by omega)) ?_;simp only[f,g,RN];refine eG rfl rfl (agY _ _ (by omega) (by omega)) ?_;simp only[i,yA,RN]
def kG (c:Cal)(d:Dt):Bool:=inR d.y 0 4000&&inR d.m 1 12&&inR d.d 1 ((aQ (c.leap d.y)).getD (d.m - 1).toNat default)
def YQ (c:Cal)(m:iw)(fs:List Int)(es:Option (List (DV×DV)))(d:Dt)(hl:c.cy.length<=1000000)(e:∀n∈c.cy,n≠0):Pure C 99 [Zl c m fs es,d.dv] (.d (.bool (kG c d))) []:=by
 refine ah vN aK ?_;simp only[vN,aK,sV,oG,RN,B,F,N];refine ak (WH _) ?_;cases h1:inR d.y 0 4000
 ·(try simp only[RN,B])
  simp[kG,h1]
 ·(try simp only[RN,B,F,N])
  refine ak (Hw _ _ _) ?_;cases h2:inR d.m 1 12
  ·(try simp only[RN,B])
   simp[kG,h2]
  ·have h:1<=d.m/\d.m<=12:=by simpa[inR]using h2
   have b:b0 .i64 (d.m - 1)=d.m - 1:=aB (by omega);simp only[b,RN,B,F,N];have a:=W9 c m fs es d.y hl e;rw[sV]at a;refine ak a ?_;(try simp only[RN,B,F,H,I,J,N]);refine ak (J4 _) ?_;have f:(0:Int)<=d.m - 1:=by omega
   have g:(d.m - 1).toNat<(aQ (c.leap d.y)).length:=by rw[mF];omega
   simp only[f,g,O,getD_map,aH,RN,N];refine ak (Hw _ _ _) ?_;simp only[kG,h1,h2,RN]
def AQ (c:Cal)(fs:List Int)(d:Dt):Int:=fs.getD d.y.toNat default+dN ((aQ (c.leap d.y)).take (d.m - 1).toNat) 0+d.d - 1
def BZ:∀(l:List Int) (n:Nat) (p:Int),(∀x∈l,0<=x)->dN (l.take n) p<=dN l p
 | [],n,p,_=>by rw[List.take_nil];exact bh _
 |x::l,0,p,h=>tJ _ _ h
 |x::l,n+1,p,h=>by
  rw[a7,dN,dN];exact BZ l n _ fun y a=>h y (by simp[a])
def agQ (c:Cal)(m:iw)(fs:List Int)(es:Option (List (DV×DV)))(d:Dt)(hl:c.cy.length<=1000000)(j:∀n∈c.cy,n≠0)(hf:∀x∈fs,0<=x/\x<=10000000)(b:0<=d.y/\d.y.toNat<fs.length)(o:1<=d.m/\d.m<=12)(hd:1<=d.d/\d.d<=31):Pure C 100 [Zl c m fs es,d.dv] (pI (AQ c fs d)) []:=by
 have f:b0 .i64 (d.m - 1)=d.m - 1:=aB (by omega);have b1:=hf _ (getD_mem b.2);have p:dN (aQ (c.leap d.y)) 0<=366:=by have:=l9 (c.leap d.y);unfold o8 at this;rw[this];split<;>decide
 have k:=BZ (aQ (c.leap d.y)) (d.m - 1).toNat 0 fun x a=>by have:=kL _ x a;omega
 have l:=tJ ((aQ (c.leap d.y)).take (d.m - 1).toNat) 0 fun x a=>by have:=kL _ x (aM a);omega
 have g:b0 .i64 (fs.getD d.y.toNat default+dN ((aQ (c.leap d.y)).take (d.m - 1).toNat) 0)=fs.getD d.y.toNat default+dN ((aQ (c.leap d.y)).take (d.m - 1).toNat) 0:=aB (by omega);have h:b0 .i64 (fs.getD d.y.toNat default+dN ((aQ (c.leap d.y)).take (d.m - 1).toNat) 0+d.d)=fs.getD d.y.toNat default+dN ((aQ (c.leap d.y)).take (d.m - 1).toNat) 0+d.d:=aB (by omega);have i:b0 .i64 (fs.getD d.y.toNat default+dN ((aQ (c.leap d.y)).take (d.m - 1).toNat) 0+d.d - 1)=fs.getD d.y.toNat default+dN ((aQ (c.leap d.y)).take (d.m - 1).toNat) 0+d.d - 1:=aB (by omega);refine ah zk aK ?_;simp only[zk,aK,sV,oG,O,b.1,b.2,getD_map,aH,RN,B,F,N];have e:=W9 c m fs es d.y hl j;rw[sV]at e;refine ak e ?_;(try simp only[RN,B,F,H,I,J,N]);refine ak (J4 _) ?_;simp only[f,RN];rw[wz (by intro x a;simp only[aw]at a;obtain⟨y,_,rfl⟩:=a;rfl) (by omega) (by rw[O,mF];omega)];rw[<-List.map_take];(try simp only[RN,B,F,H,I,J,N]);refine eG rfl rfl (agZ _ (by rw[bA,mF];omega) (fun x a=>by have:=kL _ x (aM a);omega) (by omega)) ?_;simp only[g,h,i,AQ,RN]
def Fs.bad (f:Fs):Bool:=if f.mv then f.mo !=0||f.da !=0|| !inR f.af (-60) 60 else f.af !=0|| !inR f.mo 1 12|| !inR f.da 1 31
def amF (f:Fs):Pure C 195 [f.dv] (.d (.bool f.bad)) []:=by
 refine ah xY aN ?_;simp only[xY,aN,EP,RN,B,F,N]
 repeat' first
  |(refine ak (Hw _ _ _) ?_;try simp only[RN])
  |(refine bF (by rfl) (fun a=> ?_) (fun a=> ?_)<;>simp only[a,RN,B,F,N])
  |(refine bM (by rfl) (fun a=> ?_) (fun a=> ?_)<;>simp only[a,RN,B,F,N])
 all_goals(simp_all[Fs.bad];done)
def jK (l:List Fs):Bool:=decide (l.length<=6)&& !l.any Fs.bad
def XW (ex:Bool)(l:List Fs):Pure C 102 [.slice ex (l.map Fs.dv)] (.d (.bool (jK l))) []:=by
 refine ah Ai aN ?_;simp only[Ai,aN,O,RN,B]
 by_cases h:l.length<=6
 ·have a:(l.length:Int)<=6:=by omega
  simp only[a,RN,B];refine eG rfl rfl (Uh l 195 [] Fs.bad (by omega) (by kernel_rfl) fun x _=>amF x) ?_;(try simp only[RN]);simp[jK,h]
 ·have a:¬(l.length:Int)<=6:=by omega
  simp only[a,RN,B];simp[jK,h]
section
variable {C:Ctx}{base:Nat}{KP:DV->Mem->Prop}
def QM {i:Nat}{bs:List (Option (List PV))}{fz:List Nat}{ar:List (Option Arr)}{L:PV->Mem->Prop}:ay C base (.mkMap i) [] ⟨bs,fz,ar⟩ L KP=(bs[base+i]?=some none/\L (.mref (base+i)) ⟨bs.set (base+i) (some [.jr []]),fz,ar⟩):=px
def lu {f:FuncId}{args:List PV}{M:Mem}{ds ds':List DV}{x:DV}{K:PV->Mem->Prop}(h1:dL M args=some ds)(h2:ds.map DV.strip=ds')(b:Pure C f ds' (.d x) [])(hx:CV x=true)(a:K (.d x) M):ay C base (.jE f) args M K KP:=
 ⟨ds,h1,x,h2▸b,hx,a⟩
end
def Bv {bs:List (Option (List PV))}{fz:List Nat}{ar:List (Option Arr)}{k ver b st:Nat}{xs:List DV}{es:List (DV×DV)}{a c e f g:DV}(h:ar[k]?=some (some ⟨1,xs,ver,st⟩))(hb:bs[b]?=some (some [.jr es])):
  datum ⟨bs,fz,ar⟩ (.agg [.d a, .d c, .d e, .d f, .d g, .tsl k ver 0, .mref b])=some (.agg [a,c,e,f,g, .slice false xs, .map (some es)]):=by
 simp[datum,bY,dY,Mem.row,Mem.box,h,hb]
variable{M:Mem}{p:PV}{d:DV}
def uf {y:DV}(h:datum M p=some d):dL M [p, .d y]=some [d,y]:=by
 simp only[dL,h];simp[datum]
def JE (h:datum M p=some d):dL M [p]=some [d]:=by
 simp[dL,h]
def Cal.first (c:Cal):Nat->Int
 |0=>c.ep
 |y+1=>c.first y+o8 (c.leap y)
def Cal.firsts (c:Cal)(n:Nat):List Int:=(bO n).map c.first
def Cal.jC (c:Cal)(y:Nat):c.ep+365*y<=c.first y/\c.first y<=c.ep+366*y:=by
 induction y with
 |zero=>simp[Cal.first]
 |succ y a=>
  rw[Cal.first,l9]
  split<;>omega
def Cal.Ot (c:Cal)(n:Nat):c.firsts (n+1)=c.firsts n++ [c.first n]:=by simp[Cal.firsts,bl]
def opC:Nat->PV
 |0=> .d (.slice true [])
 |i+1=> .tsl 0 i 0
def opA (c:Cal):Nat->List (Option Arr)
 |0=>[]
 |i+1=>[some ⟨1,(c.firsts (i+1)).map au,i,0⟩]
def akU (c:Cal)(m:iw)(i:Nat):St:=
 ⟨[(4, .ptr 2 0),(5, .ptr 4 0),(6,pI (c.first i)),(14,pI i)],
  ⟨[some [pI c.ep, .d (sF (c.cy.map au))],some [pI m.n,pI m.d,pI m.ad],
   some [pI 0, .d (.slice true []),pI 0,pI 0,pI 0, .d (.slice true []), .d (.map none)],
   some [.jr []],some [pI c.ep, .d (sF (c.cy.map au)),pI m.n,pI m.d,pI m.ad,opC i, .mref 3]],[1,0],opA c i⟩⟩
def ahZ (c:Cal)(m:iw)(hc:c.ok=true):Pure C 98 [c.dv,m.dv] (.d (Zl c m (c.firsts 4002) (some []))) []:=by
 obtain⟨q,r,l⟩:=Cal.facts hc;refine bG (aC yI Xx ?_);simp only[yI,Xx,dZ,iO,QM,I8,UH,ab,eU,ig,Ko,RN,B,F,I,N];refine aG 4002 (fun i (_:Unit)=>akU c m i) (fun i _=>True) 0 () (V _) rfl trivial (fun i a h1 g=> ?_) (fun a g=> ?_)
 ·have h2:(i:Int)<4002:=by omega
  have k:b0 .i64 ((i:Int)+1)=((i+1:Nat):Int):=by rw[aB (by omega)];omega
  have p:=c.jC i;have e:=c.jC (i+1);rw[Cal.first]at e;have j:b0 .i64 (c.first i+o8 (c.leap i))=c.first i+o8 (c.leap i):=aB (by omega);have hd:=adu c m (c.firsts (i+1)) (some []) i (by omega) (fun n h=>by have:=l n h;omega);rw[sV]at hd
  rcases i with _|i
  ·simp only[akU,opC,opA,h2,dX,fB,bI,ab,eU,DV.strip,fits_int,forall_eq,RN,B,F,H,I,J,N]
   (repeat(refine Z (by first|assumption|rfl|(simp;done)|(simp;omega)) ?_))
   refine lu (by rfl) (by rfl) hd rfl ?_;simp only[j,k,RN];exact aX (len:=4002) (i:=0) () h1 rfl trivial
  ·simp only[akU,opC,opA,h2,dX,fB,bI,ab,eU,DV.strip,fits_int,forall_eq,RN,B,F,I,J,N]
   have b:(c.firsts (i+1)).length=i+1:=by simp[Cal.firsts]
   have f:(c.firsts (i+1)).map au++ [dI (c.first (i+1))]=(c.firsts (i+1+1)).map au:=by rw[c.Ot (i+1),az];rfl
   rw[f,O,b]
   (repeat(refine Z (by first|assumption|rfl|(simp;done)|(simp;omega)) ?_))
   refine lu (uf (Bv rfl rfl)) rfl hd rfl ?_;simp only[j,k,RN];exact aX (len:=4002) (i:=i+1) () h1 rfl trivial
 ·have o:¬((4002:Nat):Int)<4002:=by omega
  simp only[akU,opC,opA,o,fB,bI,ab,eU,ig,Ko,RN,B,F,I,N];rw[sV];exact Bv rfl rfl
def o7 (n b:Int)(hb:0<b):dU n b*b<=n/\n<(dU n b+1)*b:=by
 have h:=bo n b;have h1:=ao n hb;have h2:=Int.lt_tmod_of_pos n hb;have d:n.tdiv b*b=b*n.tdiv b:=Int.mul_comm _ _;unfold dU
 split
 ·have c:(n.tdiv b - 1)*b=n.tdiv b*b - b:=by rw[bX];omega
  have a:(n.tdiv b - 1+1)*b=n.tdiv b*b:=by rw[show n.tdiv b - 1+1=n.tdiv b by omega]
  omega
 ·have a:(n.tdiv b+1)*b=n.tdiv b*b+b:=by rw[aD];omega
  omega
def U1 {n b q:Int}(hb:0<b)(h1:q*b<=n)(h2:n<(q+1)*b):dU n b=q:=by
 obtain⟨e,f⟩:=o7 n b hb;have c:dU n b<q+1:=am (a:=b) (by omega) (by omega);have d:q<dU n b+1:=am (a:=b) (by omega) (by omega);omega
def Vd (m:iw)(q:m.ok=true)(n:Int):∃j:Nat,j<=44/\yA m (n+j)=13:=by
 obtain⟨hd,z,y⟩:=m.facts q;have b:0<m.n:=by omega
 have l:0<m.d:=by omega
 obtain⟨K,o⟩:∃K,K=dU ((n+1)*m.d - 1 - m.ad) m.n:=⟨_,rfl⟩
 obtain⟨g,h⟩:=o7 ((n+1)*m.d - 1 - m.ad) m.n b;rw[<-o]at g h;obtain⟨s,c⟩:∃s,s=dU ((K+1)*m.n+m.ad) m.d:=⟨_,rfl⟩
 obtain⟨i,k⟩:=o7 ((K+1)*m.n+m.ad) m.d l;rw[<-c]at i k;have e:(K+1)*m.n=K*m.n+m.n:=by rw[aD];omega
 have t:(n+1)*m.d=n*m.d+m.d:=by rw[aD];omega
 have u:(s+1)*m.d=s*m.d+m.d:=by rw[aD];omega
 have v:(n+32)*m.d=n*m.d+32*m.d:=by rw[aD]
 have b1:n+1<s+1:=am (a:=m.d) (by omega) (by omega);have r:s<n+32:=am (a:=m.d) (by omega) (by omega);refine⟨(s+13 - n).toNat,by omega,?_⟩;have f:n+((s+13 - n).toNat:Int)=s+13:=by omega
 rw[f];have w:(s+13+1)*m.d=s*m.d+14*m.d:=by rw[show s+13+1=s+14 by omega,aD]
 have x:(K+1+1)*m.n=K*m.n+m.n+m.n:=by rw[aD,e];omega
 have p:dU ((s+13+1)*m.d - 1 - m.ad) m.n=K+1:=U1 b (by omega) (by omega);unfold yA;rw[p,<-c];omega
def qL (m:iw):Nat->Int->Int
 |0,n=>n
 |k+1,n=>if yA m n=13 then n else qL m k (n+1)
def iw.full (m:iw)(n:Int):Int:=qL m 45 n
def YF {m:iw}{k:Nat}{n:Int}(h:yA m n=13):qL m k n=n:=by
 cases k with
 |zero=>rfl
 |succ k=>rw[qL,if_pos h]
def Vb (m:iw):∀(k:Nat) (n:Int),n<=qL m k n/\qL m k n<=n+k
 |0,n=>⟨bh _,by simp[qL]⟩
 |k+1,n=>by
  rw[qL]
  split
  ·omega
  ·have:=Vb m k (n+1)
   omega
def sunday (c:Cal)(m:iw)(y:Int):Int:=let n:=m.full (AQ c (c.firsts 4002) ⟨y,3,21⟩);n+(7 - wd n)
def ac2 (c:Cal)(m:iw)(y:Int)(es:List (DV×DV)):Prop:=es=[]\/es=[(.agg [dI y,dI 3,dI 21],dI (sunday c m y))]
def EN (c:Cal)(m:iw)(y:Int):List (DV×DV):=[(.agg [dI y,dI 3,dI 21],dI (sunday c m y))]
def yN (c:Cal)(hc:c.ok=true):∀x∈c.firsts 4002,0<=x/\x<=10000000:=by
 obtain⟨b,_,_⟩:=Cal.facts hc;intro x a;simp only[Cal.firsts,aw,List.mem_range]at a;obtain⟨i,d,rfl⟩:=a;have:=c.jC i;omega
section
variable {C:Ctx}{base:Nat}{KP:DV->Mem->Prop}
variable{ks:List Nat}{b:Nat}{M:Mem}{K:PV->Mem->Prop}
def Rx {ok:Bool}{z:DV}{k:DV}(l:List (DV×DV))(r:Option DV)(hb:M.box b=some [.jr l])(h1:iY ks k k=some true)(h2:qM ks l k=some r)(a:K (.d (EY ok z r)) M):
  ay C base (.Hr ok ks z) [.mref b, .d k] M K KP:=by
 simp only[ay,hb,h1,h2];exact a
def anA {k:List DV}{v:DV}(l a:List (DV×DV))(hb:M.box b=some [.jr l])(hf:b∉M.fz)(h1:fA ks k k=some true)(h2:J5 ks l k v=some a)(c:K .dead {M with boxes:=M.boxes.set b (some [.jr a])}):
  ay C base (.abW ks) [.mref b, .d (.agg k), .d v] M K KP:=by
 simp only[ay,hb,h1,h2];exact⟨hf,c⟩
end
def alY (y:Int):fA [1,1,1] [dI y,dI 3,dI 21] [dI y,dI 3,dI 21]=some true:=by simp[fA]
def abM (y:Int):iY [1,1,1] (.agg [dI y,dI 3,dI 21]) (.agg [dI y,dI 3,dI 21])=some true:=by
 simp only[iY,alY];rfl
def wC (c:Cal)(n:Nat):(c.firsts n).length=n:=by simp[Cal.firsts]
def aa5 (c:Cal)(fs:List Int)(d:Dt)(hf:∀x∈fs,0<=x/\x<=10000000)(f:d.y.toNat<fs.length)(hd:1<=d.d/\d.d<=31):0<=AQ c fs d/\AQ c fs d<=10000400:=by
 have b1:=hf _ (getD_mem f);have g:dN (aQ (c.leap d.y)) 0<=366:=by have:=l9 (c.leap d.y);unfold o8 at this;rw[this];split<;>decide
 have b:=BZ (aQ (c.leap d.y)) (d.m - 1).toNat 0 fun x a=>by have:=kL _ x a;omega
 have e:=tJ ((aQ (c.leap d.y)).take (d.m - 1).toNat) 0 fun x a=>by have:=kL _ x (aM a);omega
 unfold AQ;omega
variable{x0 x1 x2 x3 x4 x6:Option (List PV)}
def afU {x7 x8 x9:Option (List PV)}{fz:List Nat}{A1 A2:Option Arr}(c:Cal)(m:iw)(y:Int)(es:List (DV×DV))(hc:c.ok=true)(v:m.ok=true)(Q:0<=y/\y<=4000)(r:ac2 c m y es)(s:5∉fz)(g:∀i∈fz,i<10):
  ∃M',SC C 196 [.agg [pI c.ep, .d (sF (c.cy.map au)),pI m.n,pI m.d,pI m.ad, .tsl 0 4001 0, .mref 5],pI y]
   ⟨[x0,x1,x2,x3,x4,some [.jr es],x6,x7,x8,x9],fz,[some ⟨1,(c.firsts 4002).map au,4001,0⟩,A1,A2]⟩
   (fun p M=>p= .d (dI (sunday c m y))/\M=M') (fun _ _=>False)/\M'.boxes.take 10=[x0,x1,x2,x3,x4,some [.jr (EN c m y)],x6,x7,x8,x9]/\M'.fz=fz/\M'.aF=[some ⟨1,(c.firsts 4002).map au,4001,0⟩,A1,A2]:=by
 obtain⟨K,O,z⟩:=Cal.facts hc;refine⟨⟨[x0,x1,x2,x3,x4,some [.jr (EN c m y)],x6,x7,x8,x9,some [pI c.ep, .d (sF (c.cy.map au)),pI m.n,pI m.d,pI m.ad, .tsl 0 4001 0, .mref 5],some [pI y,pI 3,pI 21]],fz,[some ⟨1,(c.firsts 4002).map au,4001,0⟩,A1,A2]⟩,?_,rfl,rfl,rfl⟩;have aqu:10∉fz:=fun h=>by have:=g _ h;omega
 have apz:11∉fz:=fun h=>by have:=g _ h;omega
 refine aC vO aK ?_;simp only[vO,aK,ig,Jd,apz,RN,B,F,N]
 rcases r with rfl|rfl
 ·refine Rx [] none rfl (abM y) rfl ?_
  simp only[EY,cond_true,Option.getD_none,bd,RN,B,F,N];have k:(c.firsts 4002).length=4002:=by simp[Cal.firsts]
  have hd:=agQ c m (c.firsts 4002) (some []) ⟨y,3,21⟩ (by omega) (fun n h=>by have:=z n h;omega) (yN c hc) (by rw[k];simp only;omega) (by simp only;omega) (by simp only;omega);rw[sV,oG]at hd;obtain⟨b,f⟩:∃b,b=AQ c (c.firsts 4002) ⟨y,3,21⟩:=⟨_,rfl⟩
  rw[<-f]at hd;have A:0<=b/\b<=10000400:=by rw[f];exact aa5 c _ _ (yN c hc) (by rw[k];simp only;omega) ⟨by simp only;omega,by simp only;omega⟩
  refine lu (uf (Bv rfl rfl)) rfl hd rfl ?_;(try simp only[RN,B,F,H,I,J,N]);obtain⟨j,L,t⟩:=Vd m v b;refine iE (fun i:Nat=>⟨[(2, .ptr 10 0),(5, .ptr 11 0),(8,pI (b+i))],⟨[x0,x1,x2,x3,x4,some [.jr []],x6,x7,x8,x9,some [pI c.ep, .d (sF (c.cy.map au)),pI m.n,pI m.d,pI m.ad, .tsl 0 4001 0, .mref 5],some [pI y,pI 3,pI 21]],fz,[some ⟨1,(c.firsts 4002).map au,4001,0⟩,A1,A2]⟩⟩)
   (fun i=>i<=j/\m.full b=qL m (45 - i) (b+i)) (fun i=>j - i) 0 (by simp) ⟨V _,by simp[iw.full]⟩ ?_
  rintro i ⟨x,l⟩;have u:=an2 m (b+i) v (by omega);rw[iO]at u;(try simp only[RN,B,F,N]);refine ak u ?_
  by_cases e:yA m (b+i)=13
  ·have apC:m.full b=b+i:=by rw[l,YF e]
   simp only[e,bne_self_eq_false,RN,B,F];have G:=af4 (b+i) (by omega);refine ak G ?_;have R:0<=wd (b+i):=aR 7 (by omega);have S:wd (b+i)<7:=ao _ (by decide);have q:b0 .i64 (7 - wd (b+i))=7 - wd (b+i):=aB (by omega);have w:b0 .i64 (b+i+(7 - wd (b+i)))=b+i+(7 - wd (b+i)):=aB (by omega);simp only[q,w,RN,F,N];have o:sunday c m y=b+i+(7 - wd (b+i)):=by simp only[sunday,<-f,apC]
   refine anA [] (EN c m y) rfl s (alY y) (by rw[EN,o];rfl) ?_;(try simp only[RN]);rw[o]
  ·have q:b0 .i64 (b+i+1)=b+((i+1:Nat):Int):=by rw[aB (by omega)];omega
   have apc:(yA m (b+i) !=13)=true:=by simp[e]
   simp only[apc,q,RN,B,F];have D:i≠j:=by rintro rfl;exact e t
   refine vF (μ:=fun i=>j - i) (a:=i) (E:=fun i:Nat=>⟨[(2, .ptr 10 0),(5, .ptr 11 0),(8,pI (b+i))],⟨[x0,x1,x2,x3,x4,some [.jr []],x6,x7,x8,x9,some [pI c.ep, .d (sF (c.cy.map au)),pI m.n,pI m.d,pI m.ad, .tsl 0 4001 0, .mref 5],some [pI y,pI 3,pI 21]],fz,[some ⟨1,(c.firsts 4002).map au,4001,0⟩,A1,A2]⟩⟩) (P:=fun i=>i<=j/\m.full b=qL m (45 - i) (b+i)) (i+1) (by omega) rfl ⟨by omega,?_⟩;rw[l,show 45 - i=(45 - (i+1))+1 by omega,qL,if_neg e]
   congr 1
   omega
 ·refine Rx (EN c m y) (some (dI (sunday c m y))) rfl (abM y) ?_ ?_
  ·simp only[EN,qM,abM]
  simp only[EY,cond_true,bk,be,RN,B]
  rfl
def anC (c:Cal)(m:iw):PV:= .agg [pI c.ep, .d (sF (c.cy.map au)),pI m.n,pI m.d,pI m.ad, .tsl 0 4001 0, .mref 5]
def adx (x0 x1:Option (List PV))(c:Cal)(m:iw)(i:Nat):St:=
 ⟨[(4, .ptr 4 0),(5, .ptr 6 0),(6,pI (c.first i)),(14,pI i)],
  ⟨[x0,x1,some [pI c.ep, .d (sF (c.cy.map au))],some [pI m.n,pI m.d,pI m.ad],
   some [pI 0, .d (.slice true []),pI 0,pI 0,pI 0, .d (.slice true []), .d (.map none)],
   some [.jr []],some [pI c.ep, .d (sF (c.cy.map au)),pI m.n,pI m.d,pI m.ad,opC i, .mref 5]],[3,2,1,0],opA c i⟩⟩
def akV (c:Cal)(m:iw)(hc:c.ok=true):SC C 98 [.d c.dv, .d m.dv] ⟨[x0,x1],[1,0],[]⟩ (fun p M=>p=anC c m/\∃x2 x3 x4 x6,(∀x∈[x2,x3,x4,x6],∀n k,7<=n->1<=k->((x.getD []).all fun p=>p.upto n k)=true)/\M=⟨[x0,x1,x2,x3,x4,some [.jr []],x6],[3,2,1,0],[some ⟨1,(c.firsts 4002).map au,4001,0⟩]⟩) (fun _ _=>False):=by
 obtain⟨u,v,s⟩:=Cal.facts hc;refine aC yI Xx ?_;simp only[yI,Xx,dZ,iO,QM,I8,UH,ab,eU,ig,Ko,RN,B,F,I,N];refine aG 4002 (fun i (_:Unit)=>adx x0 x1 c m i) (fun i _=>True) 0 () (V _) rfl trivial (fun i a h1 g=> ?_) (fun a g=> ?_)
 ·have h2:(i:Int)<4002:=by omega
  have r:b0 .i64 ((i:Int)+1)=((i+1:Nat):Int):=by rw[aB (by omega)];omega
  have t:=c.jC i;have e:=c.jC (i+1);rw[Cal.first]at e;have l:b0 .i64 (c.first i+o8 (c.leap i))=c.first i+o8 (c.leap i):=aB (by omega);have hd:=adu c m (c.firsts (i+1)) (some []) i (by omega) (fun n h=>by have:=s n h;omega);rw[sV]at hd
  rcases i with _|i
  ·simp only[adx,opC,opA,h2,dX,fB,bI,ab,eU,DV.strip,fits_int,forall_eq,RN,B,F,H,I,J,N]
   (repeat(refine Z (by first|assumption|rfl|(simp;done)|(simp;omega)) ?_))
   refine lu (by rfl) (by rfl) hd rfl ?_;simp only[l,r,RN];exact aX (len:=4002) (i:=0) () h1 rfl trivial
  ·simp only[adx,opC,opA,h2,dX,fB,bI,ab,eU,DV.strip,fits_int,forall_eq,RN,B,F,I,J,N]
   have b:(c.firsts (i+1)).length=i+1:=by simp[Cal.firsts]
   have f:(c.firsts (i+1)).map au++ [dI (c.first (i+1))]=(c.firsts (i+1+1)).map au:=by rw[c.Ot (i+1),az];rfl
   rw[f,O,b]
   (repeat(refine Z (by first|assumption|rfl|(simp;done)|(simp;omega)) ?_))
   refine lu (uf (Bv rfl rfl)) rfl hd rfl ?_;simp only[l,r,RN];exact aX (len:=4002) (i:=i+1) () h1 rfl trivial
 ·have j:¬((4002:Nat):Int)<4002:=by omega
  simp only[adx,opC,opA,j,fB,bI,ab,eU,ig,Ko,RN,B,F,I,N];refine⟨rfl,_,_,_,_,?_,rfl⟩;intro x j n k h1 h2;have o:5<n:=by omega
  have q:0<k:=by omega
  rcases j with rfl|rfl|rfl|rfl
  ·rfl
  ·rfl
  ·simp[PV.upto,o,q]
  ·simp[PV.upto,o,q]
variable{M:Mem}{y:DV}
def UY {p:PV}{d:DV}(h:datum M p=some d):dL M [p, .d y]=some [d,y]:=uf h
def V3 (c:Cal)(m:iw)(y:Int)(hc:c.ok=true)(a:0<=y/\y<=4000):0<=sunday c m y/\sunday c m y<=10000500:=by
 have h1:=aa5 c (c.firsts 4002) ⟨y,3,21⟩ (yN c hc) (by rw[wC];simp only;omega) (by simp only;omega);have h2:=Vb m 45 (AQ c (c.firsts 4002) ⟨y,3,21⟩);have b:0<=wd (m.full (AQ c (c.firsts 4002) ⟨y,3,21⟩)):=aR 7 (by unfold iw.full;omega);have d:wd (m.full (AQ c (c.firsts 4002) ⟨y,3,21⟩))<7:=ao _ (by decide);simp only[sunday];unfold iw.full at*;omega
def lM (c:Cal)(m:iw)(y:Int)(f:Fs):Int:=if f.mv then sunday c m y+f.af else if kG c ⟨y,f.mo,f.da⟩then AQ c (c.firsts 4002) ⟨y,f.mo,f.da⟩else -1
def Fs.facts {f:Fs}(h:f.bad=false):(f.mv=true-> -60<=f.af/\f.af<=60)/\(f.mv=false->(1<=f.mo/\f.mo<=12)/\1<=f.da/\f.da<=31):=by
 unfold Fs.bad at h;cases a:f.mv<;>simp[a,inR]at h<;>simp<;>omega
def aeT {ex:Bool}(c:Cal)(m:iw)(l:List Fs)(y:Int)(hc:c.ok=true)(hm:m.ok=true)(R:0<=y/\y<=4000)(hl:l.length<=6)(hb:∀f∈l,f.bad=false)(hx:∀x∈[x0,x1,x2,x3,x4,x6],∀n k,7<=n->1<=k->((x.getD []).all fun p=>p.upto n k)=true):
  SC C 104 [anC c m, .d (.slice ex (l.map Fs.dv)),pI y] ⟨[x0,x1,x2,x3,x4,some [.jr []],x6],[3,2,1,0],[some ⟨1,(c.firsts 4002).map au,4001,0⟩]⟩
   (fun p M=>Jv M p 1 ((l.map (lM c m y)).map au) 0) (fun _ _=>False):=by
 obtain⟨he,X,Q⟩:=Cal.facts hc;refine aC vM Ar ?_;simp only[vM,Ar,anC,ig,Jd,O,RN,B,F,J];refine aG l.length (fun i (es:List (DV×DV))=>⟨[(2,pI y),(3, .ptr 7 0),(7, .tsl 2 i 0),(12, .d (.slice ex (l.map Fs.dv))),(13,pI l.length),(14,pI i)],
   ⟨[x0,x1,x2,x3,x4,some [.jr es],x6,some [pI c.ep, .d (sF (c.cy.map au)),pI m.n,pI m.d,pI m.ad, .tsl 0 4001 0, .mref 5]],[3,2,1,0],
    [some ⟨1,(c.firsts 4002).map au,4001,0⟩,some ⟨1,[],0,0⟩,some ⟨1,((l.take i).map (lM c m y)).map au,i,0⟩]⟩⟩)
  (fun i es=>ac2 c m y es) 0 [] (V _) rfl (.inl rfl) (fun i es h1 b=> ?_) (fun es b=> ?_)
 ·obtain⟨h2,W,r⟩:=rng h1 (by omega)
  have P:=Fs.facts (hb _ (getD_mem h1));have g:((l.take i).map (lM c m y)).map au++ [dI (lM c m y (l.getD i default))]=((l.take (i+1)).map (lM c m y)).map au:=by
   rw[aU h1];simp[au]
  have Y:(((l.take i).map (lM c m y)).map au).length<=6:=by simp;omega
  have a:(lM c m y (l.getD i default))=(if(l.getD i default).mv then sunday c m y+(l.getD i default).af else if kG c ⟨y,(l.getD i default).mo,(l.getD i default).da⟩then AQ c (c.firsts 4002) ⟨y,(l.getD i default).mo,(l.getD i default).da⟩else -1):=rfl;have ab:=V3 c m y hc R;have t:=hx x0 (by simp) 8 3 (by omega) (by omega);have u:=hx x1 (by simp) 8 3 (by omega) (by omega);have v:=hx x2 (by simp) 8 3 (by omega) (by omega);have w:=hx x3 (by simp) 8 3 (by omega) (by omega);have z:=hx x4 (by simp) 8 3 (by omega) (by omega);have A:=hx x6 (by simp) 8 3 (by omega) (by omega);simp only[h2,W,h1,EP,getD_map,S,O,RN,B,F,I,N];cases e:(l.getD i default).mv
  ·obtain⟨D,E⟩:=P.2 e
   rw[e]at a;simp only[ae,if_false]at a;have hd:=YQ c m (c.firsts 4002) (some es) ⟨y,(l.getD i default).mo,(l.getD i default).da⟩ (by omega) (fun n h=>by have:=Q n h;omega);rw[sV,oG]at hd;(try simp only[RN,B,F,N]);refine lu (UY (Bv rfl rfl)) rfl hd rfl ?_;cases o:kG c ⟨y,(l.getD i default).mo,(l.getD i default).da⟩
   ·rw[o]at a
    simp only[ae,if_false]at a;simp only[DV.strip,fits_int,forall_eq,RN,B,F,I,J,N]
    (repeat(refine Z (by first|assumption|rfl|(simp;done)|(simp;omega)) ?_))
    rw[<-a,g,r];exact fC 8 3 es h1 rfl b (by decide) (by decide) rfl (by simp only[a7,br,bt,t,u,v,w,z,A];rfl)
   ·rw[o]at a
    simp only[if_true]at a;(try simp only[RN,B,F,N]);have j:=agQ c m (c.firsts 4002) (some es) ⟨y,(l.getD i default).mo,(l.getD i default).da⟩ (by omega) (fun n h=>by have:=Q n h;omega) (yN c hc) (by rw[wC];simp only;omega) D E;rw[sV,oG]at j;refine lu (UY (Bv rfl rfl)) rfl j rfl ?_;simp only[DV.strip,fits_int,forall_eq,RN,F,I,J,N]
    (repeat(refine Z (by first|assumption|rfl|(simp;done)|(simp;omega)) ?_))
    rw[<-a,g,r];exact fC 8 3 es h1 rfl b (by decide) (by decide) rfl (by simp only[a7,br,bt,t,u,v,w,z,A];rfl)
  ·obtain⟨D,E⟩:=P.1 e
   rw[e]at a;simp only[if_true]at a;have T:b0 .i64 (sunday c m y+(l.getD i default).af)=sunday c m y+(l.getD i default).af:=aB (by omega);(try simp only[RN,B,F,J,N]);obtain⟨⟨q,U,ar'⟩,s,G,H,K⟩:=afU (x0:=x0) (x1:=x1) (x2:=x2) (x3:=x3) (x4:=x4) (x6:=x6) (x7:=some [pI c.ep, .d (sF (c.cy.map au)),pI m.n,pI m.d,pI m.ad, .tsl 0 4001 0, .mref 5])
    (x8:=some [.d (.bool true),pI ((l.getD i default).mo),pI ((l.getD i default).da),pI ((l.getD i default).af)])
    (x9:=some [pI y,pI ((l.getD i default).mo),pI ((l.getD i default).da)]) (fz:=[8,3,2,1,0])
    (A1:=some ⟨1,[],0,0⟩) (A2:=some ⟨1,((l.take i).map (lM c m y)).map au,i,0⟩) c m y es hc hm R b (by decide) (by decide)
   simp only at G H K;subst H K;refine⟨_,_,s,?_⟩;simp only[T,DV.strip,fits_int,forall_eq,RN,I,N]
   (repeat(refine Z (by first|assumption|rfl|(simp;done)|(simp;omega)) ?_))
   have L:q.take 8=[x0,x1,x2,x3,x4,some [.jr (EN c m y)],x6,some [pI c.ep, .d (sF (c.cy.map au)),pI m.n,pI m.d,pI m.ad, .tsl 0 4001 0, .mref 5]]:=by
    have:=congrArg (List.take 8) G;rw[List.take_take]at this;exact this
   rw[<-a,g,r];exact fC 8 3 (EN c m y) h1 (by rw[L];rfl) (.inr rfl) (by decide) (by decide) rfl (by rw[L];simp only[bt,t,u,v,w,z,A];rfl)
 ·simp only[ai,RN,B,F]
  rw[bB];exact⟨2,_,rfl,rfl⟩
def wQ (c:Cal)(m:iw)(l:List Fs)(y:Int):DV:=
 if c.ok&&m.ok&&jK l&&inR y 0 4000 then .tup [sF ((l.map (lM c m y)).map au),dI 0]else .tup [.slice true [],dI 2]
def uo {l:List Fs}(h:jK l=true):l.length<=6/\∀f∈l,f.bad=false:=by
 simp only[jK,Q,decide_eq_true_eq,Bool.not_eq_true']at h;refine⟨h.1,fun f a=> ?_⟩;have:=h.2;rw[List.any_eq_false]at this
 simpa using this f a
def alF {v:PV}{sz st:Nat}{xs:List DV}{x:DV}(h:Jv M v sz xs st)(a:y= .tup [.slice false xs,x]):datum M (aau (ji [v, .d x]) [v, .d x])=some y:=by
 subst a;obtain⟨k,ver,rfl,h⟩:=h;simp[ji,aau,datum,bY,dY,Mem.row,h]
def XR (c:Cal)(m:iw)(ex:Bool)(l:List Fs)(y:Int)(g:c.cy.length<=1000000):Pure C 31 [c.dv,m.dv, .slice ex (l.map Fs.dv),dI y] (.d (wQ c m l y)) []:=by
 refine bG (aC FB Xt ?_);simp only[FB,Xt,dZ,iO,RN,B,F,N];have a:=WW c g;have b:=ahz m;rw[dZ]at a;rw[iO]at b;refine ak a ?_;cases f:c.ok
 ·(try simp only[RN,B,F])
  simp[wQ,f,datum]
 ·(try simp only[RN,B,F,N])
  refine ak b ?_;cases q:m.ok
  ·(try simp only[RN,B,F])
   simp[wQ,q,datum]
  ·(try simp only[RN,B])
   refine ak (XW false l) ?_;cases i:jK l
   ·(try simp only[RN,B,F])
    simp[wQ,i,datum]
   ·(try simp only[RN,B])
    refine ak (WH y) ?_;cases r:inR y 0 4000
    ·(try simp only[RN,B,F])
     simp[wQ,r,datum]
    ·(try simp only[RN,B,F,N])
     have s:0<=y/\y<=4000:=by simpa[inR]using r
     obtain⟨j,o⟩:=uo i;have t:=akV (x0:=some [pI c.ep, .d (sF (c.cy.map au))]) (x1:=some [pI m.n,pI m.d,pI m.ad]) c m f;rw[dZ,iO]at t;refine SC.mono t ?_;rintro p M ⟨rfl,x2,x3,x4,x6,w,rfl⟩;refine SC.mono (aeT c m l y f q s j o ?_) ?_
     ·intro x e n k h1 h2
      simp only[ax,List.not_mem_nil,or_false]at e
      rcases e with rfl|rfl|h
      ·rfl
      ·rfl
      ·exact w x (by simpa using h) n k h1 h2
     ·intro v M u
      exact alF u (by simp[wQ,f,q,i,r])
def Yq (c:Cal)(d:Dt):DV:=if c.ok&&kG c d then .tup [dI (AQ c (c.firsts 4002) d),dI 0]else .tup [dI 0,dI 2]
def WC {c:Cal}{d:Dt}(h:kG c d=true):(0<=d.y/\d.y<=4000)/\(1<=d.m/\d.m<=12)/\1<=d.d/\d.d<=31:=by
 simp only[kG,Q]at h;obtain⟨⟨h1,h2⟩,a⟩:=h;simp only[inR,Q,decide_eq_true_eq,ge_iff_le]at h1 h2 a;have b:(d.m - 1).toNat<(aQ (c.leap d.y)).length:=by rw[mF];omega
 have:=kL _ _ (getD_mem b);omega
def alN (c:Cal)(d:Dt)(g:c.cy.length<=1000000):Pure C 30 [c.dv,d.dv] (.d (Yq c d)) []:=by
 refine ah OI bW ?_;simp only[OI,bW,dZ,oG,RN,B,F,N];have e:=WW c g;rw[dZ]at e;refine ak e ?_;cases b:c.ok
 ·(try simp only[RN,B,F])
  simp[Yq,b]
 ·(try simp only[RN,B,F,N])
  obtain⟨m,o,i⟩:=Cal.facts b;have j:=ahZ c ⟨0,0,0⟩ b;rw[dZ,iO,sV]at j;refine ak j ?_;(try simp only[RN,B,F,I,N]);have hd:=YQ c ⟨0,0,0⟩ (c.firsts 4002) (some []) d (by omega) (fun n h=>by have:=i n h;omega);rw[sV,oG]at hd;refine ak hd ?_;cases a:kG c d
  ·(try simp only[RN,B,F])
   simp[Yq,a]
  ·(try simp only[RN,B,F,N])
   obtain⟨p,k,l⟩:=WC a;have f:=agQ c ⟨0,0,0⟩ (c.firsts 4002) (some []) d (by omega) (fun n h=>by have:=i n h;omega) (yN c b) (by rw[wC];omega) k l;rw[sV,oG]at f;refine ak f ?_;(try simp only[RN]);simp[Yq,a,b]
section
variable {C:Ctx}{base:Nat}{bs:List (Option (List PV))}{fz:List Nat}{ar:List (Option Arr)}{L:PV->Mem->Prop}{KP:DV->Mem->Prop}
def amE {k k':IntKind}{a b:Int}:ay C base (.shf .shr) [.d (.int k a), .d (.int k' b)] ⟨bs,fz,ar⟩ L KP=(0<=b/\L (.d (.int k (a.fdiv (2 ^ min b.toNat k.bits)))) ⟨bs,fz,ar⟩):=px
end
def akB (n:Int):Pure C 343 [dI n] (.d (.bool false)) []:=by
 refine ah lG aN ?_;simp only[lG,aN,RN,B];simp
def ahA (n:Int):Pure C 323 [dI n] (.d (.bool false)) []:=by
 refine ah lG aN ?_;simp only[lG,aN,RN,B];simp
def anu (a b:Int):Pure C 318 [dI a,dI b] (.d (.bool (decide (a<b)))) []:=by
 refine ah Ee aK ?_;simp only[Ee,aK,RN,B,F];refine ak (akB _) ?_;(try simp only[RN,B])
structure acV (xs:List Int) (n:Int) (p:Nat):Prop where
 le:p<=xs.length
 lt:∀k,k<p->xs.getD k default<n
 ge:∀k,p<=k->k<xs.length->n<=xs.getD k default
def alG {n:Nat}(h:n<18446744073709551616):IntKind.u64.wrap (n:Int)=n:=by
 simp only[IntKind.wrap,IntKind.bits,IntKind.signed,bN,ae,if_false];omega
def half (a b:Nat)(h:a<b)(hb:b<=1000000):b0 .i64 (IntKind.u64.wrap (b0 .i64 ((a:Int)+(b:Int)))|>.fdiv (2 ^ min (1:Int).toNat IntKind.u64.bits))=(((a+b) / 2:Nat):Int):=by
 rw[aB (n:=(a:Int)+b) (by omega)];have c:IntKind.u64.wrap ((a:Int)+b)=(a:Int)+b:=by have:=alG (n:=a+b) (by omega);simpa using this
 rw[c];have d:((a:Int)+b).fdiv (2 ^ min (1:Int).toNat IntKind.u64.bits)=(((a+b) / 2:Nat):Int):=by
  have:(2:Int) ^ min (1:Int).toNat IntKind.u64.bits=2:=by decide
  rw[this,Int.fdiv_eq_ediv_of_nonneg _ (by decide)];omega
 rw[d];exact aB (by omega)
def aed (xs:List Int)(n:Int)(p:Nat)(hl:xs.length<=1000000)(r:acV xs n p):Pure C 293 [sF (xs.map au),dI n] (.d (.tup [dI p, .bool (decide (p<xs.length/\xs.getD p default=n))])) []:=by
 refine ah oO bW ?_;simp only[oO,bW,O,RN,B,F];refine iE (fun q:Nat×Nat=>⟨[(0, .d (sF (xs.map au))),(1,pI n),(6,pI xs.length),(7,pI q.1),(8,pI q.2)],⟨[],[],[]⟩⟩)
  (fun q=>q.1<=p/\p<=q.2/\q.2<=xs.length) (fun q=>q.2 - q.1) (0,xs.length) rfl ⟨V _,r.le,bE _⟩ ?_
 rintro⟨a,b⟩ ⟨s,t,i⟩;simp only at s t i⊢
 by_cases k:a<b
 ·have c:(a:Int)<b:=by omega
  have hh:=half a b k (by omega);obtain⟨h,o⟩:∃h,h=(a+b) / 2:=⟨_,rfl⟩
  rw[<-o]at hh;have u:h<xs.length:=by omega
  have w:(0:Int)<=(h:Int):=by omega
  have x:b0 .i64 ((h:Int)+1)=((h+1:Nat):Int):=by rw[aB (by omega)];omega
  simp only[c,amE,hh,u,w,O,getD_map,S,aH,RN,B,N]
  (repeat(refine Z (by first|assumption|rfl|(simp;done)|(simp;omega)) ?_))
  refine ak (anu _ _) ?_
  by_cases g:xs.getD h default<n
  ·simp only[g,x,RN,B]
   refine vF (μ:=fun q:Nat×Nat=>q.2 - q.1) (a:=(a,b)) (h+1,b) (by simp only;omega) rfl ⟨?_,t,i⟩;simp only;refine Nat.lt_of_not_le fun f=> ?_
   have:=r.ge h f u;omega
  ·simp only[g,RN,B]
   refine vF (μ:=fun q:Nat×Nat=>q.2 - q.1) (a:=(a,b)) (a,h) (by simp only;omega) rfl ⟨s,?_,by simp only;omega⟩;simp only;refine Nat.le_of_not_lt fun f=> ?_
   exact g (r.lt h f)
 ·have c:¬(a:Int)<b:=by omega
  obtain rfl:a=p:=by omega
  by_cases e:a<xs.length
  ·have j:(a:Int)<(xs.length:Int):=by omega
   have v:(0:Int)<=(a:Int):=by omega
   by_cases l:xs.getD a default=n
   ·simp only[c,j,v,e,O,getD_map,S,aH,l,beq_self_eq_true,RN,B,N]
   ·have m:(xs.getD a default==n)=false:=beq_false_of_ne l
    simp only[c,j,v,e,O,getD_map,S,aH,l,m,RN,B,N];refine ak (ahA _) ?_;(try simp only[RN,B])
  ·have j:¬(a:Int)<(xs.length:Int):=by omega
   simp only[c,j,e,false_and,RN,B]
def CQ (c:Cal)(y:Nat):c.first y+365<=c.first (y+1)/\c.first (y+1)<=c.first y+366:=by
 rw[Cal.first,l9]
 split<;>omega
def rX (c:Cal){a b:Nat}(h:a<=b):c.first a<=c.first b:=by
 induction b with
 |zero=>
  obtain rfl:a=0:=by omega
  exact bh _
 |succ b e=>
  by_cases d:a=b+1
  ·rw[d];exact bh _
  ·have:=e (by omega)
   have:=CQ c b;omega
def oI (c:Cal){n k:Nat}(h:k<n):(c.firsts n).getD k default=c.first k:=by
 simp[Cal.firsts,List.getD,h]
def firstAt (c:Cal)(Y:Nat)(day:Int)(e:Y<=4000)(h1:c.first Y<=day)(h2:day<c.first (Y+1)):acV (c.firsts 4002) day (if c.first Y=day then Y else Y+1):=by
 have d:=wC c 4002;refine⟨by rw[d];split<;>omega,fun k a=> ?_,fun k a b=> ?_⟩
 ·split at a
  ·rw[oI c (by omega)]
   have:=rX c (show k+1<=Y by omega);have:=CQ c k;omega
  ·rw[oI c (by omega)]
   have:=rX c (show k<=Y by omega);omega
 ·rw[d]at b
  rw[oI c (by omega)]
  split at a
  ·have:=rX c (show Y<=k by omega)
   omega
  ·have:=rX c (show Y+1<=k by omega)
   omega
def yY:List Int->Int->Int->Int×Int
 | [],_,_=>(0,0)
 |n::l,i,left=>if left<n then(i+1,left+1)else yY l (i+1) (left - n)
def Ea (c:Cal)(Y:Nat)(day:Int):Dt:=let r:=yY (aQ (c.leap Y)) 0 (day - c.first Y);⟨Y,r.1,r.2⟩
def DY:∀(l:List Int) (p:Int),dN l p=p+dN l 0
 | [],p=>by simp[dN]
 |x::l,p=>by
  rw[dN,dN,DY l (p+x),DY l (0+x)];omega
def amo (c:Cal)(m:iw)(es:Option (List (DV×DV)))(Y:Nat)(day:Int)(hc:c.ok=true)(L:Y<=4000)(h1:c.first Y<=day)(h2:day<c.first (Y+1)):Pure C 251 [Zl c m (c.firsts 4002) es,dI day] (.d (Ea c Y day).dv) []:=by
 obtain⟨j,hl,Q⟩:=Cal.facts hc;have k:=wC c 4002;have M:=c.jC Y;have z:=c.jC (Y+1);refine bG (aC xZ aiy ?_);simp only[xZ,aiy,sV,RN,B,F,N];refine eG rfl rfl (aed (c.firsts 4002) day _ (by omega) (firstAt c Y day L h1 h2)) ?_;have hh:(decide ((if c.first Y=day then Y else Y+1)<(c.firsts 4002).length/\(c.firsts 4002).getD (if c.first Y=day then Y else Y+1) default=day))=decide (c.first Y=day):=by
  by_cases j:c.first Y=day
  ·rw[if_pos j,k,oI c (by omega)];simp[j];omega
  ·rw[if_neg j,k,oI c (by omega)];simp[j];omega
 rw[hh];have D:b0 .i64 (((Y+1:Nat):Int) - 1)=(Y:Int):=by rw[aB (by omega)];omega
 have A:b0 .i64 (day - c.first Y)=day - c.first Y:=aB (by omega);have w:inR (Y:Int) 0 4000=true:=by simp[inR];omega
 have T:(0:Int)<=(Y:Int):=by omega
 have U:Y<(c.firsts 4002).length:=by omega
 have l:=W9 c m (c.firsts 4002) es Y (by omega) (fun n h=>by have:=Q n h;omega);rw[sV]at l;have s:=mF (c.leap Y);have f:∃(q:Nat) (b:Bool),(if c.first Y=day then Y else Y+1)=q/\decide (c.first Y=day)=b/\((b=true/\q=Y)\/(b=false/\q=Y+1)):=by
  by_cases f:c.first Y=day
  ·exact⟨Y,true,if_pos f,decide_eq_true f, .inl ⟨rfl,rfl⟩⟩
  ·exact⟨Y+1,false,if_neg f,decide_eq_false f, .inr ⟨rfl,rfl⟩⟩
 obtain⟨q,b,t,u,v⟩:=f;rw[t,u];have r:=oI c (show Y<4002 by omega)
 rcases v with⟨rfl,o⟩|⟨rfl,o⟩<;>rw[o]
 all_goals
  simp only[D,RN,B,F];refine ak (WH _) ?_;simp only[w,T,U,S,getD_map,aH,r,A,O,RN,B,F,N];refine ak l ?_;(try simp only[RN,B,F,H,I,J,N]);refine ak (J4 _) ?_;simp only[O,s,RN];refine aG 12 (fun i (left:Int)=>⟨[(1,pI day),(4, .ptr 1 0),(5,pI Y),(7,pI left),(37, .d (sF ((aQ (c.leap Y)).map au))),(38, .d (dI ((12:Nat):Int))),(39,pI i)],
    ⟨[some [pI c.ep, .d (sF (c.cy.map au)),pI m.n,pI m.d,pI m.ad, .d (sF ((c.firsts 4002).map au)), .d (.map es)],some [pI 0,pI 0,pI 0]],[0],[]⟩⟩)
   (fun i left=>0<=left/\left<=400/\left<dN ((aQ (c.leap Y)).drop i) 0/\yY (aQ (c.leap Y)) 0 (day - c.first Y)=yY ((aQ (c.leap Y)).drop i) i left) 0 (day - c.first Y) (V _) rfl ⟨by omega,by have:=CQ c Y;omega,by rw[Cal.first]at h2;simp only[bq];unfold o8 at h2;omega,by simp⟩ (fun i left E e=> ?_) (fun left e=> ?_)
  ·obtain⟨W,X,x,g⟩:=e
   have G:(i:Int)<((12:Nat):Int):=by omega
   have K:(0:Int)<=(i:Int):=by omega
   have y:b0 .i64 ((i:Int)+1)=((i+1:Nat):Int):=by rw[aB (by omega)];omega
   have p:i<(aQ (c.leap Y)).length:=by omega
   have P:=kL _ _ (getD_mem p);rw[drop_cons p,yY]at g;rw[drop_cons p,dN]at x;have R:=DY ((aQ (c.leap Y)).drop (i+1)) (0+(aQ (c.leap Y)).getD i default);have Z:b0 .i64 (left+1)=left+1:=aB (by omega);have u2:b0 .i64 (left - (aQ (c.leap Y)).getD i default)=left - (aQ (c.leap Y)).getD i default:=aB (by omega);simp only[G,K,p,O,S,getD_map,aH,RN,B,F,N]
   by_cases a:left<(aQ (c.leap Y)).getD i default
   ·rw[if_pos a]at g
    simp only[a,y,Z,RN,B,F,I,N];rw[Ea,g,oG]
    rfl
   ·rw[if_neg a]at g
    simp only[a,y,u2,RN,B,F];exact aX (len:=12) (i:=i) (left - (aQ (c.leap Y)).getD i default) E rfl ⟨by omega,by omega,by omega,g⟩
  ·obtain⟨W,X,x,g⟩:=e
   rw[List.drop_eq_nil_of_le (by omega),dN]at x;omega
def lD:aA:=(r0 [⟨some 2,.alloc 0 [z0],[],none,0⟩] 1 [0,2] [])
def lF:aA:=(s0 [⟨some 4,.mov,[.t 0],none,0⟩,⟨some 5,.jR,[.t 4],none,0⟩] 0 [2] [] (s0 [⟨none,.store 1,[.t 2,.c (.int .i64 0)],none,0⟩] 0 [2] [] .ret))
def kC:aA:=(.block 0 (s0 [⟨some 7,.CW false,[.t 5,.c (.nilIface)],none,0⟩] 0 [0,5,7] [] (cd 7 (r0 [⟨some 1,.mov,[.t 5],none,0⟩] 0 [] []) (s0 [⟨some 8,.tas T.jm (.agg [.nilIface]),[.t 5],none,0⟩,⟨some 9,.ext 1,[.t 8],none,0⟩,⟨some 10,.ext 0,[.t 8],none,0⟩] 0 [0,5,9,10] [] (cd 9 (s0 [⟨some 2,.alloc 0 [.nilIface],[],none,0⟩,⟨none,.store 1,[.t 2,.t 10],none,0⟩] 1 [0] [] (r0 [⟨none,.store 1,[.t 0,.c (.int .i64 7)],none,0⟩] 0 [] [])) (s0 [⟨some 11,.tas T.rP (.agg [ze]),[.t 5],none,0⟩,⟨some 12,.ext 1,[.t 11],none,0⟩,⟨some 13,.ext 0,[.t 11],none,0⟩] 0 [0,5,12,13] [] (cd 12 (s0 [⟨some 3,.alloc 0 [ze],[],none,0⟩,⟨none,.store 1,[.t 3,.t 13],none,0⟩] 1 [0] [] (r0 [⟨none,.store 1,[.t 0,.c (.int .i64 4)],none,0⟩] 0 [] [])) (s0 [⟨some 4,.mov,[.t 5],none,0⟩] 0 [4] [] (r0 [⟨some 6,.mov,[.t 4],none,0⟩,⟨none,.panic,[.t 6],none,0⟩] 0 [] [])))))))))
def J8:WA C.P 72 162 1 6 14 2 3 5 lD lF kC=true:=by kernel_rfl
def Ef:aA:=(.block 0 (s0 [⟨some 7,.CW false,[.t 5,.c (.nilIface)],none,0⟩] 0 [0,5,7] [] (cd 7 (r0 [⟨some 1,.mov,[.t 5],none,0⟩] 0 [] []) (s0 [⟨some 8,.tas T.MX (.agg [z0]),[.t 5],none,0⟩,⟨some 9,.ext 1,[.t 8],none,0⟩,⟨some 10,.ext 0,[.t 8],none,0⟩] 0 [0,5,9,10] [] (cd 9 (s0 [⟨some 2,.alloc 0 [z0],[],none,0⟩,⟨none,.store 1,[.t 2,.t 10],none,0⟩] 1 [0] [] (r0 [⟨none,.store 1,[.t 0,.c (.int .i64 5)],none,0⟩] 0 [] [])) (s0 [⟨some 11,.tas T.aeK (.agg [ze]),[.t 5],none,0⟩,⟨some 12,.ext 1,[.t 11],none,0⟩,⟨some 13,.ext 0,[.t 11],none,0⟩] 0 [0,5,12,13] [] (cd 12 (s0 [⟨some 3,.alloc 0 [ze],[],none,0⟩,⟨none,.store 1,[.t 3,.t 13],none,0⟩] 1 [0] [] (r0 [⟨none,.store 1,[.t 0,.c (.int .i64 4)],none,0⟩] 0 [] [])) (s0 [⟨some 4,.mov,[.t 5],none,0⟩] 0 [4] [] (r0 [⟨some 6,.mov,[.t 4],none,0⟩,⟨none,.panic,[.t 6],none,0⟩] 0 [] [])))))))))
def Zi:WA C.P 249 292 1 6 14 2 3 5 lD lF Ef=true:=by kernel_rfl
end Go.Tel
namespace Go.Am
def U2 {C:Ctx}{base:Nat}{M:Mem}{K:PV->Mem->Prop}{KP:DV->Mem->Prop}{f:FuncId}{fs cs args:List PV}:ay C base .jR (.func (.func f) fs cs::args) M K KP=(callable C.P f=true/\SC C f (fs++args++cs) M K KP):=px
section
variable {C:Ctx}{base te t5 b:Nat}{pc3:aA}{K:PV->Mem->Prop}{KP:DV->Mem->Prop}{env:List (Nat×PV)}{bs:List (Option (List PV))}{fz:List Nat}{ar:List (Option Arr)}{M:Mem}
def aas:anT C te t5 pc3 b K .ret ⟨env,⟨bs,fz,ar⟩⟩=pwp C bs.length ar.length pc3 (D6 te b K) ⟨[(0, .ptr b 0),(t5, .d .nilIface)],⟨bs,fz,ar⟩⟩:=px
def TY {d:DV}:anT C te t5 pc3 b K (.panic d) ⟨env,⟨bs,fz,ar⟩⟩=pwp C bs.length ar.length pc3 (D6 te b K) ⟨[(0, .ptr b 0),(t5, .d d)],⟨bs,fz,ar⟩⟩:=px
def wW:D6 te b K .normal ⟨env,⟨bs,fz,ar⟩⟩=cO false 1 (.ptr b 0) ⟨bs,fz,ar⟩ fun v=>K v ⟨bs,fz,ar⟩:=px
variable{neq:Bool}
def Om:ay C base (.CW neq) [.d .nilIface, .d .nilIface] M K KP=K (.d (.bool !neq)) M:=px
variable{v:DV}
def Ol {t:TypeId}:ay C base (.CW neq) [.d (.iface t v), .d .nilIface] M K KP=K (.d (.bool neq)) M:=px
variable{z:DV}
def nD {t:TypeId}:ay C base (.tas t z) [.d (.iface t v)] M K KP=K (.d (.tup [v, .bool true])) M:=by simp[ay]
def fU {t t':TypeId}(h:(t'==t)=false):ay C base (.tas t z) [.d (.iface t' v)] M K KP=K (.d (.tup [z, .bool false])) M:=by
 have a:¬t'=t:=by simpa using h
 simp[ay,a]
end
end Go.Am
namespace Go.Tel
open Go.Am
def al8 (c:Cal)(Y:Nat)(day:Int)(hc:c.ok=true)(h:Y<=4000)(h1:c.first Y<=day)(h2:day<c.first (Y+1)):Pure C 175 [c.dv,dI day] (.d (.tup [(Ea c Y day).dv,dI 0])) []:=by
 obtain⟨j,k,l⟩:=Cal.facts hc;have i:=c.jC Y;have e:=c.jC (Y+1);have hd:inR day 0 2000000=true:=by simp[inR];omega
 refine ah Kt Gi ?_;simp only[Kt,Gi,dZ,RN,B,F,N];have b:=WW c (by omega);rw[dZ,hc]at b;refine ak b ?_;(try simp only[RN,B,N]);refine ak (agT _) ?_;simp only[hd,oh,ab,br,bq,RN,B,F];refine aji mixed Zi ?_;simp only[lD,RN,B,F];refine⟨4,rfl,?_⟩;simp only[lF,U2,RN,B,F];refine⟨by kernel_rfl,aC Fz gY ?_⟩;simp only[Fz,gY,RN,B,F,N];have f:=ahZ c ⟨0,0,0⟩ hc;rw[dZ,iO,sV]at f;refine ak f ?_;(try simp only[]);have a:=amo c ⟨0,0,0⟩ (some []) Y day hc h h1 h2;rw[sV,oG]at a;refine ak a ?_;have g:((0:Int) !=0)=false:=rfl;(try simp only[RN,F,I,N]);simp only[aas,Ef,Om,wW,g,RN,B,F,I,N];rw[oG]
def Ia:aA:=(s0 [ba 2 0 0,al 4 1 [z0,z0,z0],mi 5 0] 2 [1,2,4] [2] (sw (sr [lw 9 2 2,oa 10 (.aj 252) 9,oa 11 pN 10,mv 12 11,ow 13 .mov 1 12 0,ow 14 (.aj 253) 13 12 0,ow 15 pN 14 12 0,pt 16 12 15] 0 [1,2,4,16] (cd 16 (sr [on 17 (.build [z0,z0,z0] []) [],sk 3 4 17 0,mi 5 2] 0 [4,5] .ret) .skip)) (sw (sr [fa 18 1 2,lo 19 18,oa 20 .len 19,mi 21 0] 0 [1,2,4,20,21] (lp (sr [ob 22 pL 21 20] 0 [1,2,4,20,21,22] (sw (cx 22 0) (sw (b1 (sr [mv 23 21,mv 6 23] 0 [1,2,4,6,20,21] (s0 [lw 25 2 2,mv 26 6,mv 27 1,on 28 (.aj 254) [.t 25,.t 26,.t 27],mv 24 28,xa 29 0 24,xa 30 1 24,al 7 0 [z0,z0,z0],sk 3 7 29 0,mv 8 30] 1 [1,2,4,7,8,20,21] [7] (sr [mv 31 8] 0 [1,2,4,7,20,21,31] (cd 31 (sr [lw 32 3 7,sk 3 4 32 0,mi 5 0] 0 [4,5] .ret) .skip))))) (rg [oi 33 pA 21 1,mv 21 33] 0 [1,2,4,20,21])))))) (sr [on 34 (.build [z0,z0,z0] []) [],sk 3 4 34 0,mi 5 5] 0 [4,5] .ret))))
def BA:aA:=(s0 [ba 1 0 0,ag 2 1,mi 3 0] 1 [1] [1] (sw (sr [lw 8 2 1,oa 9 (.aj 252) 8,oa 10 pN 9] 0 [1,10] (cd 10 (sr [ag 2 1,mi 3 2] 0 [2,3] .ret) .skip)) (sr [ag 4 1] 0 [1,4] (sw (sr [mi 5 1] 0 [1,4,5] (lp (sw (sr [mv 11 5,oi 12 (.bin .leq) 11 400] 0 [1,4,5,12] (cx 12 0)) (sw (b1 (sr [lw 16 2 1,mv 17 5,ob 18 (.aj 176) 16 17,mv 15 18,xa 19 0 15,xa 20 1 15,al 6 0 [z0,z0,z0],sk 3 6 19 0,mv 7 20] 1 [1,4,5,7] (sr [mv 21 7,oi 22 pE 21 0] 0 [1,4,5,22] (cd 22 (rg [mv 23 4,mv 24 5,oa 25 (.dV 1 [z0] [0]) 24,ob 26 (.app 1 false) 23 25,mv 4 26] 0 [1,4,5]) .skip)))) (rg [mv 13 5,oi 14 pA 13 1,mv 5 14] 0 [1,4,5]))))) (sr [mv 27 4,mv 2 27,mi 3 0] 0 [2,3] .ret)))))
def zu:aA:=(s0 [ba 1 0 0,mf 2 false] 1 [1] [1] (sr [fa 3 0 1,lo 4 3,on 5 (.aj 294) [.t 4,kI 1,kI 60],mv 6 5,ov 7 (.fld 1) 1 6 0,ov 8 ld 7 6 0,ov 9 .len 8 6 0,ot 10 (.aj 294) [.t 9,kI 1,kI 6] 6 0,pf 11 6 10,mv 12 11,ov 13 (.fld 1) 1 12 0,ov 14 ld 13 12 0,ot 15 (.aj 179) [.t 14,.c (.func (.func 295) [] [])] 12 0,ov 16 pN 15 12 0,pf 17 12 16,mv 2 17] 0 [2] .ret))
def BD:aA:=(sr [mf 2 false] 0 [0] (sr [mv 3 0,on 4 (.aj 294) [.t 3,kI 1,kI 400],mv 2 4] 0 [2] .ret))
def Ib:aA:=(s0 [ba 3 0 0,al 6 1 [z0,z0,z0],mf 7 false] 2 [1,2,3,6] [3] (sr [fa 10 1 3,lo 11 10,mv 12 1,ix 13 1 11 12,lo 14 13,mv 8 14] 0 [1,2,3,6,8] (sr [fa 15 0 3,lo 16 15,mv 17 8,ob 18 pM 16 17,mv 9 18] 0 [1,2,6,8,9] (sw (r1 [mv 19 1,mv 20 9,mv 21 2,ob 22 (.bin .quo) 20 21,mv 23 8,ob 24 (.bin .quo) 22 23,mv 25 9,mv 26 2,ob 27 (.bin .quo) 25 26,mv 28 8,ob 29 (.bin .rem) 27 28,on 30 (.build [z0,z0,z0] [(0,1),(1,1),(2,1)]) [.t 19,.t 24,.t 29],mv 31 9,mv 32 2,ob 33 (.bin .rem) 31 32,oi 34 pE 33 0,sk 3 6 30 0,mv 7 34] 0 [6,7] []) .ret))))
def xA:aA:=(sr [mf 2 false] 0 [0] (sr [mv 3 0,on 4 (.aj 294) [.t 3,kI 1,kI 120],oa 5 pN 4,mv 2 5] 0 [2] .ret))
def anr (n l h:Int):Pure C 294 [dI n,dI l,dI h] (.d (.bool (inR n l h))) []:=AU n l h
structure Dvd where
 dK:Int
 cir:List Int
 deriving DecidableEq,Inhabited
structure Ix where
 circle:Int
 turns:Int
 holes:Int
 deriving DecidableEq,Inhabited
def Dvd.dv (d:Dvd):DV:= .agg [dI d.dK,sF (d.cir.map au)]
def Ix.dv (d:Ix):DV:= .agg [dI d.circle,dI d.turns,dI d.holes]
variable{d:Dvd}
def rW:d.dv= .agg [dI d.dK,sF (d.cir.map au)]:=by rw[Dvd.dv]
def JG {d:Ix}:d.dv= .agg [dI d.circle,dI d.turns,dI d.holes]:=by rw[Ix.dv]
def Dvd.ok (d:Dvd):Bool:=inR d.dK 1 60&&inR d.cir.length 1 6&&d.cir.all (fun n=>inR n 1 120)
def Us (n:Int):Pure C 295 [dI n] (.d (.bool (!inR n 1 120))) []:=by
 refine ah xA aN ?_;simp only[xA,aN,RN,B];refine ak (anr _ _ _) ?_;(try simp only[RN])
def ae8 (n:Int):Pure C 253 [dI n] (.d (.bool (inR n 1 400))) []:=by
 refine ah BD aN ?_;simp only[BD,aN,RN,B];refine ak (anr _ _ _) ?_;(try simp only[])
def Ov (d:Dvd)(hl:d.cir.length<=1000000):Pure C 252 [d.dv] (.d (.bool d.ok)) []:=by
 refine ah zu aN ?_;simp only[zu,aN,rW,RN,B,F,N]
 repeat' first
  |(refine ak (anr _ _ _) ?_;try simp only[O,RN,B,F,H,I,J,N])
  |(refine eG rfl rfl (tZ d.cir _ [] (fun n=> !inR n 1 120) hl (by kernel_rfl) (fun n _=>Us n)) ?_;try simp only[RN])
  |(refine bF (by rfl) (fun a=> ?_) (fun a=> ?_)<;>simp only[a,O,RN,B,F,N])
  |(refine bM (by rfl) (fun a=> ?_) (fun a=> ?_)<;>simp only[a,O,RN,B,F,H,I,J,N])
 all_goals(first|(rw[Cj])|skip)
 all_goals(first|(simp only[Dvd.ok, *,BSN];done)|(simp_all[Dvd.ok];done)|(simp_all[Dvd.ok];omega))
def UU (dK h t i:Int):Ix:=⟨i,((dK*h).tdiv t).tdiv h,((dK*h).tdiv t).tmod h⟩
def IW (dK h t:Int):Bool:=(dK*h).tmod t==0
def amm (d:Dvd)(i:Nat)(t:Int)(b:1<=d.dK/\d.dK<=60)(hi:i<d.cir.length)(hc:1<=d.cir.getD i default/\d.cir.getD i default<=120)(l:1<=t):
  Pure C 254 [d.dv,dI i,dI t] (.d (.tup [(UU d.dK (d.cir.getD i default) t i).dv, .bool (IW d.dK (d.cir.getD i default) t)])) []:=by
 have a:(0:Int)<=(i:Int):=by omega
 have k:1<=d.dK*d.cir.getD i default/\d.dK*d.cir.getD i default<=7200:=by
  have h1:=bp b.2 hc.2 (by omega) (by omega);have h2:=bp b.1 hc.1 (by omega) (by omega);omega
 have c:b0 .i64 (d.dK*d.cir.getD i default)=d.dK*d.cir.getD i default:=aB (by omega);have b1:((d.dK*d.cir.getD i default).tdiv t).natAbs<=7200:=by
  have:=kU (d.dK*d.cir.getD i default) t;omega
 have e:b0 .i64 ((d.dK*d.cir.getD i default).tdiv t)=(d.dK*d.cir.getD i default).tdiv t:=aB (by omega);have j:(((d.dK*d.cir.getD i default).tdiv t).tdiv (d.cir.getD i default)).natAbs<=7200:=by
  have:=kU ((d.dK*d.cir.getD i default).tdiv t) (d.cir.getD i default);omega
 have f:b0 .i64 (((d.dK*d.cir.getD i default).tdiv t).tdiv (d.cir.getD i default))=((d.dK*d.cir.getD i default).tdiv t).tdiv (d.cir.getD i default):=aB (by omega);have g:t≠0:=by omega
 have h:d.cir.getD i default≠0:=by omega
 refine ah Ib aiz ?_;simp only[Ib,aiz,rW,hi,a,getD_map,S,O,aH,c,e,f,g,h,JG,UU,IW,RN,B,F,I,N]
def xX (dK t:Int):Nat->List Int->Option Ix
 | _,[]=>none
 |i,h::a=>if IW dK h t then some (UU dK h t i)else xX dK t (i+1) a
def Dvd.cuts (d:Dvd)(t:Int):Ix×Int:=
 if d.ok&&inR t 1 400 then(match xX d.dK t 0 d.cir with|some x=>(x,0)|none=>(⟨0,0,0⟩,5))else(⟨0,0,0⟩,2)
def Dvd.J7 (h:d.ok=true):(1<=d.dK/\d.dK<=60)/\(1<=d.cir.length/\d.cir.length<=6)/\∀n∈d.cir,1<=n/\n<=120:=by
 simp only[Dvd.ok,inR,Q,decide_eq_true_eq,aE,ge_iff_le]at h;obtain⟨⟨h1,h2⟩,a⟩:=h;exact⟨h1,by omega,a⟩
def aaC (d:Dvd)(t:Int)(hl:d.cir.length<=1000000):Pure C 176 [d.dv,dI t] (.d (.tup [(d.cuts t).1.dv,dI (d.cuts t).2])) []:=by
 refine ah Ia Gi ?_;simp only[Ia,Gi,rW,RN,B,F,N]
 repeat' first
  |(refine ak (Ov d hl) ?_;try simp only[JG,RN])
  |(refine ak (ae8 t) ?_;try simp only[RN])
  |(refine bF (by rfl) (fun b=> ?_) (fun b=> ?_)<;>simp only[b,RN,B,F,I,N])
  |(refine bM (by rfl) (fun b=> ?_) (fun b=> ?_)<;>simp only[b,O,RN,B,F,I,N])
 any_goals (simp_all[Dvd.cuts];done)
 have hd:d.ok=true:=by simp_all
 have g:inR t 1 400=true:=by simp_all
 obtain⟨j,l,c⟩:=Dvd.J7 hd;have e:1<=t:=by simp only[inR,Q,decide_eq_true_eq]at g;omega
 have alU:d.cuts t=(match xX d.dK t 0 d.cir with|some x=>(x,0)|none=>(⟨0,0,0⟩,5)):=by simp only[Dvd.cuts,hd,g,bi,if_true]
 refine aG d.cir.length (fun i (_:Unit)=>⟨[(1,pI t),(2, .d (.aV [dI d.dK,sF (d.cir.map au)])),(4, .ptr 1 0),(20,pI d.cir.length),(21,pI i)],⟨[some [pI d.dK, .d (sF (d.cir.map au))],some [pI 0,pI 0,pI 0]],[0],[]⟩⟩)
  (fun i _=>xX d.dK t 0 d.cir=xX d.dK t i (d.cir.drop i)) 0 () (V _) rfl (by simp) (fun i _ h1 a=> ?_) (fun _ a=> ?_)
 ·obtain⟨h2,k,h⟩:=rng h1 hl
  rw[drop_cons h1,xX]at a;simp only[h2,RN,B,F,N];refine ak (amm d i t j h1 (c _ (getD_mem h1)) e) ?_;cases f:IW d.dK (d.cir.getD i default) t
  ·simp only[h,JG,RN,B,F,I,N]
   exact fC 2 0 () h1 rfl (by rw[a,f];rfl) (by simp) (by simp) rfl rfl
  ·simp only[JG,RN,B,F,I,N]
   rw[alU,a,f]
   rfl
 ·rw[aL,xX]at a
  simp only[ai,RN,B,F,I,N];rw[alU,a]
def Dvd.first (d:Dvd)(t:Int):Option Ix:=xX d.dK t 0 d.cir
def ae9 (o:Option Ix):Ix:=o.getD ⟨0,0,0⟩
def Dvd.Dl (d:Dvd)(n:Nat):List Int:=((bO n).map fun(i:Nat)=>(i:Int)+1).filter fun t=>(d.first t).isSome
def Dvd.numbers (d:Dvd):List Int×Int:=if d.ok then(d.Dl 400,0)else([],2)
def Zf (d:Dvd)(n:Nat):d.Dl (n+1)=d.Dl n++(if(d.first ((n:Int)+1)).isSome then[(n:Int)+1]else[]):=by
 rw[Dvd.Dl,bl,az,List.filter_append,<-Dvd.Dl,ap,av,List.filter_cons,List.filter_nil]
def ab3 (d:Dvd)(n:Nat):(d.Dl n).length<=n:=by
 rw[Dvd.Dl];refine a8 (List.length_filter_le _ _) ?_;simp
def ad4 (d:Dvd)(hl:d.cir.length<=1000):Pure C 198 [d.dv] (.d (.tup [sF (d.numbers.1.map au),dI d.numbers.2])) []:=by
 have hd:=Ov d (by omega);rw[rW]at hd;refine bG (aC BA Gj ?_);simp only[BA,Gj,rW,RN,B,F,J,N];refine ak hd ?_;cases f:d.ok
 ·have e:d.numbers=([],2):=by rw[Dvd.numbers,f];rfl
  simp only[bI,dS,RN,B,J];simp[datum,bY,dY,Mem.row,e]
 have e:d.numbers=(d.Dl 400,0):=by rw[Dvd.numbers,f];rfl
 (try simp only[RN,B,J]);refine aG 400 (fun i (q:List Int×Nat)=>⟨[(1, .d (.aV [dI d.dK,sF (d.cir.map au)])),(4, .tsl 1 q.2 0),(5, .d (dI ((i:Int)+1)))],⟨[some [pI d.dK, .d (sF (d.cir.map au))]],[0],[some ⟨1,[],0,0⟩,some ⟨1,q.1.map au,q.2,0⟩]⟩⟩)
  (fun i q=>q.1=d.Dl i) 0 ([],0) (V _) rfl rfl (fun i q m a=> ?_) (fun q a=> ?_)
 ·obtain⟨c,ver⟩:=q
  simp only at a;have j:(i:Int)+1<=400:=by omega
  have n:b0 .i64 ((i:Int)+1+1)=((i+1:Nat):Int)+1:=by rw[aB (by omega)];omega
  have g:=aaC d ((i:Int)+1) (by omega);rw[rW,JG]at g;have h:=Zf d i;have l:=ab3 d i;rw[<-a]at h l;have k:inR ((i:Int)+1) 1 400=true:=by simp only[inR,Q,decide_eq_true_eq];omega
  have b:d.cuts ((i:Int)+1)=(match d.first ((i:Int)+1)with|some x=>(x,0)|none=>(⟨0,0,0⟩,5)):=by rw[Dvd.cuts,f,k];rfl
  have z0:((0:Int)==0)=true:=rfl;have p:((5:Int)==0)=false:=rfl;simp only[j,RN,B,F,N];refine ak g ?_;cases o:d.first ((i:Int)+1)with
  |none=>
   rw[o]at h b;simp only[b,p,n,RN,B,F,I,N];exact fC 1 2 (c,ver) m rfl (by simpa using h.symm) (by simp) (by simp) rfl rfl
  |some x=>
   rw[o]at h b;simp only[b,z0,fD,fits_int,forall_eq,DV.strip,jH,O,RN,B,F,I,J,N];refine⟨by simp,by omega,?_⟩;simp only[n];refine fC 1 2 (c++ [(i:Int)+1],ver+1) m ?_ (by simpa using h.symm) (by simp) (by simp) rfl rfl;simp only[az,ap,av,aH];rfl
 ·obtain⟨c,ver⟩:=q
  simp only at a;have j:¬((400:Nat):Int)+1<=400:=by omega
  simp only[j,bI,dS,RN,B];simp[datum,bY,dY,Mem.row,a,e]
def uG:aA:=(s0 [ba 2 0 0,ba 3 1 1,mk 4 cS,mi 5 0] 2 [2,3] [3] (sw (sr [lo 11 2,oa 12 (.jE 69) 11,oa 13 pN 12] 0 [2,3,13] (cd 13 (sr [mk 4 cS,mi 5 1] 0 [4,5] .ret) .skip)) (sw (sw (r1 [fu 14 0 3 1,lv 15 14,on 16 (.aj 70) [.t 15,kI 1,kI 12],oa 17 pN 16,mv 18 17,ow 19 (.fld 1) 3 18 1,ow 20 ld 19 18 1,ow 21 .len 20 18 1,oF 22 (.aj 71) [] 18 0,ow 23 (.fld 0) 3 18 1,ow 24 ld 23 18 1,oF 25 pU [.t 24,kI 1] 18 0,obF 26 (.Ur true 2 12) 22 25 18 0,ow 27 (.QY false 1 1) 26 18 0,obF 28 pQ 21 27 18 0,pt 29 18 28] 0 [2,3,29] []) (cd 29 (sr [mk 4 cS,mi 5 2] 0 [4,5] .ret) .skip)) (sr [lo 30 2,oa 31 (.build [.nilPtr,.nilPtr] [(1,1)]) 30,al 6 0 [.nilPtr,.nilPtr],sk 2 6 31 0] 1 [2,3,6] (sw (sr [ob 32 (.mkF (.func 73) 0) 2 6,oa 33 (.call 72) 32,mv 7 33] 0 [3,6,7] (sr [mv 34 7,oi 35 pQ 34 0] 0 [3,6,7,35] (cd 35 (sr [mv 36 7,mk 4 cS,mv 5 36] 0 [4,5] .ret) .skip))) (sr [on 37 (.build [.nilFunc,.nilFunc,.nilFunc,.nilFunc,.nilFunc,.nilFunc,.nilFunc,.nilFunc,.nilFunc,.nilFunc,.nilFunc,.nilFunc] [(0,1),(1,1),(2,1),(3,1),(4,1),(5,1),(6,1),(7,1),(8,1),(9,1),(10,1),(11,1)]) [.c (.func (.func 75) [] []),.c (.func (.func 76) [] []),.c (.func (.func 77) [] []),.c (.func (.func 78) [] []),.c (.func (.func 79) [] []),.c (.func (.func 80) [] []),.c (.func (.func 81) [] []),.c (.func (.func 82) [] []),.c (.func (.func 83) [] []),.c (.func (.func 84) [] []),.c (.func (.func 85) [] []),.c (.func (.func 86) [] [])],al 8 0 [.nilFunc,.nilFunc,.nilFunc,.nilFunc,.nilFunc,.nilFunc,.nilFunc,.nilFunc,.nilFunc,.nilFunc,.nilFunc,.nilFunc],sk 12 8 37 0] 1 [3,6,8] (sw (r1 [fu 39 0 3 1,lv 40 39,oi 41 pU 40 1,ob 42 (.Hy 1 12) 8 41,ou 43 ld 42 2,ou 44 (.load true 2) 6 2,fu 45 1 3 1,lv 46 45,on 47 .jR [.t 43,.t 44,.t 46],mv 38 47,xa 48 0 38,xa 49 1 38,mv 9 48,mv 10 49] 0 [9,10] []) (sw (sr [mv 50 10,oi 51 pQ 50 0] 0 [9,10,51] (cd 51 (sr [mv 52 10,mk 4 cS,mv 5 52] 0 [4,5] .ret) .skip)) (sr [mv 53 9,mv 4 53,mi 5 0] 0 [4,5] .ret)))))))))
def mG:aA:=(s0 [ba 1 0 0,mk 2 (.c (.nilPtr)),mi 3 0] 1 [1] [1] (sw (sr [lw 5 17 1,oa 6 (.aj 107) 5,oa 7 pN 6] 0 [1,7] (cd 7 (sr [mk 2 (.c (.nilPtr)),mi 3 2] 0 [2,3] .ret) .skip)) (s0 [lw 8 17 1,oa 9 (.aj 108) 8,al 4 0 [zs,zs,zs,z0,z0,zs,z0,zs,z0,z0,z0,zs,z0,z0,z0,z0,z0],sk 17 4 9 0] 1 [4] [4] (sr [lw 10 17 4,oa 11 (.aj 109) 10,ob 12 (.build [.nilPtr,zs,zs,zs] [(0,1),(1,1)]) 4 11,ba 13 0 12,mv 2 13,mi 3 0] 1 [2,3] .ret))))
def qV:aA:=(s0 [ba 2 0 0,ba 3 1 1,mi 4 0] 2 [2,3] [3] (sw (sr [lo 9 2,oa 10 (.jE 69) 9,oa 11 pN 10] 0 [2,3,11] (cd 11 (sr [mi 4 1] 0 [4] .ret) .skip)) (sw (sr [lw 12 2 3,oa 13 (.aj 110) 12,oa 14 pN 13] 0 [2,3,14] (cd 14 (sr [mi 4 2] 0 [4] .ret) .skip)) (sw (sr [lo 15 2,oa 16 .bH 15,fa 17 2 16,lo 18 17,oa 19 .len 18,oi 20 pE 19 24] 0 [2,3,20] (cd 20 (sr [mi 4 3] 0 [4] .ret) .skip)) (s0 [lw 21 2 3,oa 22 (.aj 111) 21,al 5 0 [.nilIface],sk 1 5 22 0] 1 [2,3,5] [5] (sw (sr [lo 23 5,lo 24 2,ob 25 (.inv "tellurion/journeyman.fine") 23 24,oa 26 pN 25] 0 [2,3,5,26] (cd 26 (sr [mi 4 2] 0 [4] .ret) .skip)) (sr [ob 27 (.mkF (.func 112) 0) 5 2,oa 28 (.call 72) 27,mv 6 28] 0 [2,3,5,6] (sw (sr [mv 29 6,oi 30 pQ 29 0] 0 [2,3,5,6,30] (cd 30 (sr [mv 31 6,mv 4 31] 0 [4] .ret) .skip)) (sw (s0 [lo 33 5,oa 34 (.tas T.bT (.agg [z0])) 33,mv 32 34,xa 35 0 32,xa 36 1 32,al 7 0 [z0],sk 1 7 35 0,mv 8 36] 1 [2,3,7,8] [7] (sr [mv 37 8] 0 [2,3,7,37] (cd 37 (r1 [ou 38 ld 2 2,oa 39 .bH 38,fu 40 3 39 2,ou 41 ld 40 2,fu 42 0 7 1,lv 43 42,ix 44 1 41 43,os (.store 1) [.t 44,.c (.bool true)] 3] 0 [2,3] []) .skip))) (sw (r1 [ou 45 ld 2 2,ou 46 ld 2 2,oa 47 .bH 46,fu 48 2 47 2,ou 49 ld 48 2,fu 50 0 3 1,lv 51 50,fu 52 1 3 1,lv 53 52,oa 54 (.aj 114) 53,ob 55 (.build [z0,zs] [(0,1),(1,1)]) 51 54,ou 56 (.dV 2 [.agg [z0,zs]] [0]) 55 1,ob 57 (.app 2 false) 49 56,oa 58 .bH 45,fu 59 2 58 2,sk 1 59 57 0] 0 [2] []) (sw (r1 [ou 60 ld 2 2,ou 61 ld 2 2,oa 62 .bH 61,fu 63 3 62 2,ou 64 ld 63 2,of 65 (.dV 1 [.bool false] [0]) [.c (.bool false)] 1,ob 66 (.app 1 true) 64 65,oa 67 .bH 60,fu 68 3 67 2,sk 1 68 66 0] 0 [] []) (sr [mi 4 0] 0 [4] .ret))))))))))))
def ku:aA:=(s0 [ba 2 0 0,mk 4 (.c ze),mi 5 0] 1 [1,2,4,5] [2] (sr [lw 11 17 2,oa 12 (.call 36) 11,mv 10 12,xa 13 0 10,xa 14 1 10,al 6 0 [.nilPtr],sk 1 6 13 0,mv 7 14] 1 [1,4,5,6,7] (sw (sr [mv 15 7,oi 16 pQ 15 0] 0 [1,4,5,6,7,16] (cd 16 (sr [mv 17 7,mk 4 (.c ze),mv 5 17] 0 [4,5] .ret) .skip)) (sw (sr [mv 18 1,oa 19 .xP 18,oi 20 pG 19 1500] 0 [1,4,5,6,20] (cd 20 (sr [mk 4 (.c ze),mi 5 3] 0 [4,5] .ret) .skip)) (sw (sr [mv 21 1,oc 22 pQ 21 (.c ze),mv 23 22,ov 24 .mov 1 23 0,ot 25 (.aj 115) [.t 24,.c (.str ⟨#[10]⟩)] 23 0,ov 26 pN 25 23 0,pf 27 23 26] 0 [1,4,5,6,27] (cd 27 (sr [mk 4 (.c ze),mi 5 4] 0 [4,5] .ret) .skip)) (sr [al 8 0 [ze],os (.store 1) [.t 8,.c ze] 0] 1 [1,4,5,6,8] (sw (sr [mv 28 1,oa 29 (.call 116) 28] 0 [4,5,6,8,29] (.block 0 (.uQ (.t 29) [30] [6,8] (rg [mv 9 30] 0 [6,8,9]) (b1 (r1 [lo 31 8,ou 32 ld 6 2,mv 33 9,oc 34 (.aj 118) 33 (.c (.str ⟨#[10]⟩)),on 35 (.D8 false 1 117) [.t 8,.t 32,.t 34],oc 36 pA 35 (.c (.str ⟨#[10]⟩)),ob 37 pA 31 36,sk 1 8 37 0] 0 [] []))))) (sr [lo 38 8,mv 4 38,mi 5 0] 0 [4,5] .ret))))))))
def yh:aA:=(s0 [ba 1 0 0,al 2 1 [z0,zs],mi 3 0] 2 [1,2] [1] (sw (sr [lo 6 1,oa 7 .xP 6,oi 8 pG 7 60] 0 [1,2,8] (cd 8 (sr [on 9 (.build [z0,zs] []) [],sk 2 2 9 0,mi 3 3] 0 [2,3] .ret) .skip)) (sr [al 4 0 [z0,zs]] 1 [1,2,4] (sr [ob 10 (.mkF (.func 125) 0) 1 4,oa 11 (.call 72) 10,mv 5 11] 0 [2,4,5] (sw (sr [mv 12 5,oi 13 pQ 12 0] 0 [2,4,5,13] (cd 13 (sr [on 14 (.build [z0,zs] []) [],mv 15 5,sk 2 2 14 0,mv 3 15] 0 [2,3] .ret) .skip)) (sr [lw 16 2 4,sk 2 2 16 0,mi 3 0] 0 [2,3] .ret))))))
def qm:aA:=(sr [mf 2 false] 0 [0] (sr [mv 3 0,oc 4 (.xO true) 3 (.c (.nilPtr)),mv 5 4,ov 6 .mov 0 5 0,ov 7 .bH 6 5 0,ov 8 (.fld 0) 7 5 0,ov 9 ld 8 5 0,ot 10 (.xO true) [.t 9,.c (.nilPtr)] 5 0,pf 11 5 10,mv 2 11] 0 [2] .ret))
def zl:aA:=(sr [al 0 0 [ze,z0,ze,z0,ze,z0,ze,z0,ze,z0,ze,z0,ze,z0,ze,z0,ze,z0,ze,z0,ze,z0,ze,z0]] 1 [0] (sr [on 1 (.build [ze,z0] [(0,1),(1,1)]) [.c (.str ⟨#[104,97,110,100,115]⟩),kI 0],on 2 (.build [ze,z0] [(0,1),(1,1)]) [.c (.str ⟨#[115,116,111,99,107]⟩),kI 0],on 3 (.build [ze,z0] [(0,1),(1,1)]) [.c (.str ⟨#[111,112,101,110]⟩),kI 0],on 4 (.build [ze,z0] [(0,1),(1,1)]) [.c (.str ⟨#[112,114,105,99,101]⟩),kI 1],on 5 (.build [ze,z0] [(0,1),(1,1)]) [.c (.str ⟨#[110,101,101,100]⟩),kI 3],on 6 (.build [ze,z0] [(0,1),(1,1)]) [.c (.str ⟨#[111,102,102]⟩),kI 2],on 7 (.build [ze,z0] [(0,1),(1,1)]) [.c (.str ⟨#[119,114,111,110,103]⟩),kI 0],on 8 (.build [ze,z0] [(0,1),(1,1)]) [.c (.str ⟨#[119,111,114,107,115]⟩),kI 1],on 9 (.build [ze,z0] [(0,1),(1,1)]) [.c (.str ⟨#[100,97,116,101]⟩),kI 1],on 10 (.build [ze,z0] [(0,1),(1,1)]) [.c (.str ⟨#[99,117,116,115]⟩),kI 1],on 11 (.build [ze,z0] [(0,1),(1,1)]) [.c (.str ⟨#[99,111,105,110,115]⟩),kI 0],on 12 (.build [ze,z0] [(0,1),(1,1)]) [.c (.str ⟨#[115,116,97,110,100,115]⟩),kI 0],on 13 (.build [ze,z0,ze,z0,ze,z0,ze,z0,ze,z0,ze,z0,ze,z0,ze,z0,ze,z0,ze,z0,ze,z0,ze,z0] [(0,2),(2,2),(4,2),(6,2),(8,2),(10,2),(12,2),(14,2),(16,2),(18,2),(20,2),(22,2)]) [.t 1,.t 2,.t 3,.t 4,.t 5,.t 6,.t 7,.t 8,.t 9,.t 10,.t 11,.t 12],sk 24 0 13 0] 0 [0] .ret))
def qU:aA:=(rg [lo 2 0,oi 3 (.call 74) 2 (-1),fa 4 0 1,sk 1 4 3 0] 0 [])
def qX:aA:=(s0 [ba 3 0 1,mk 4 (.c (.nilPtr))] 1 [0,3,4] [3] (sw (r1 [mv 8 0,oa 9 .bH 8,fu 10 0 9 2,ou 11 ld 10 2,oa 12 .bH 11,ou 13 (.load true 17) 12 1,ou 14 (.uO 108) 13 1,mv 15 0,oa 16 .bH 15,fu 17 1 16 2,ou 18 ld 17 2,on 19 (.mkMap 0) [],on 20 (.build [zs,zs,zs,z0,z0,zs,z0,zs,z0,z0,z0,zs,z0,z0,z0,z0,z0,zs,zs,.map none,z0,zs] [(0,17),(17,1),(19,1)]) [.t 14,.t 18,.t 19],ba 21 1 20,al 5 2 [.nilPtr],sk 1 5 21 6] 3 [0,3,4,5] []) (sw (sr [mv 22 0,oa 23 (.mkF (.func 163) 1) 22] 0 [3,4,5,23] (.block 0 (.uQ (.t 23) [24,25] [3,5] (sr [mv 6 24] 0 [3,5,6,25] (rg [mv 7 25] 0 [3,5,6,7])) (b1 (sr [mv 26 6,lo 27 3,ob 28 pQ 26 27] 0 [5,7,28] (cd 28 (rg [lo 29 5,mv 30 7,ob 31 (.call 113) 29 30] 0 []) .skip)))))) (sr [lo 32 5,mv 4 32] 0 [4] .ret))))
def qo:aA:=(s0 [ba 2 0 0,ag 4 1,mi 5 0] 1 [2] [2] (sr [fa 13 0 2,lo 14 13,oa 15 .bH 14,fa 16 0 15,fa 17 0 16,lw 18 2 17,oa 19 (.aj 26) 18,mv 12 19,xa 20 0 12,xa 21 1 12,xa 22 2 12,mv 6 20,mv 7 21,mv 8 22] 0 [2,6,8] (sr [ag 9 1] 0 [2,6,8,9] (sw (sr [fa 23 0 2,lo 24 23,oa 25 .bH 24,fa 26 0 25,fa 27 0 26,fa 28 1 27,lo 29 28,oa 30 .len 29,mi 31 0] 0 [6,8,9,29,30,31] (lp (sr [ob 32 pL 31 30] 0 [6,8,9,29,30,31,32] (sw (cx 32 0) (sw (b1 (sr [ix 33 1 29 31,lo 34 33,mv 11 34] 0 [6,8,9,11,29,30,31] (r1 [mv 35 9,mv 36 6,mv 37 11,ob1 38 (.aS 2) 36 37 1,fu 39 0 38 1,lv 40 39,mv 41 6,mv 42 11,ob1 43 (.aS 2) 41 42 1,fu 44 1 43 1,lv 45 44,ob1 46 (.dV 1 [z0,z0] [0,1]) 40 45 1,ob 47 (.app 1 true) 35 46,mv 9 47] 0 [6,8,9,29,30,31] []))) (rg [oi 48 pA 31 1,mv 31 48] 0 [6,8,9,29,30,31])))))) (sr [mv 49 9,mv 50 8,mv 4 49,mv 5 50] 0 [4,5] .ret)))))
def iT:aA:=(s0 [ba 2 0 0,mk 4 cS,mi 5 0] 1 [2] [2] (sr [fa 6 0 2,lo 7 6,oa 8 .bH 7,fa 9 18 8,lo 10 9,oa 11 (.aj 165) 10,oa 12 (.uO 164) 11,mv 4 12,mi 5 0] 0 [4,5] .ret))
def oN:aA:=(s0 [ba 2 0 0,ag 4 1,mi 5 0] 1 [2] [2] (sr [ag 6 1] 0 [2,6] (sw (sr [fa 10 0 2,lo 11 10,oa 12 .bH 11,fa 13 0 12,fa 14 0 13,fa 15 1 14,lo 16 15,oa 17 .len 16,mi 18 0] 0 [2,6,17,18] (lp (sr [ob 19 pL 18 17] 0 [2,6,17,18,19] (sw (cx 19 0) (sw (b1 (sr [mv 20 18,mv 7 20] 0 [2,6,7,17,18] (s0 [fa 22 0 2,lo 23 22,oa 24 .bH 23,fa 25 19 24,lo 26 25,mv 27 7,ob 28 (.Hr true [] (.agg [z0,z0])) 26 27,mv 21 28,xa 29 0 21,xa 30 1 21,al 8 0 [z0,z0],sk 2 8 29 0,mv 9 30] 1 [2,6,7,8,9,17,18] [8] (sr [mv 31 9] 0 [2,6,7,8,17,18,31] (cd 31 (rg [mv 32 6,mv 33 7,fa 34 0 8,lo 35 34,fa 36 1 8,lo 37 36,on 38 (.dV 1 [z0,z0,z0] [0,1,2]) [.t 33,.t 35,.t 37],ob 39 (.app 1 true) 32 38,mv 6 39] 0 [2,6,17,18]) .skip))))) (rg [oi 40 pA 18 1,mv 18 40] 0 [2,6,17,18])))))) (sr [mv 41 6,mv 4 41,mi 5 0] 0 [4,5] .ret))))
def jv:aA:=(s0 [ba 2 0 0,mk 4 cS,mi 5 0] 1 [1,2] [2] (sw (sw (r1 [fu 6 1 2 1,lv 7 6,mv 8 1,of 9 (.aS 1) [.t 8,kI 0] 1,lv 10 9,ob 11 (.aj 166) 7 10,oa 12 pN 11] 0 [1,2,12] []) (cd 12 (sr [mk 4 cS,mi 5 2] 0 [4,5] .ret) .skip)) (sw (r1 [fu 13 0 2 1,lv 14 13,mv 15 1,of 16 (.aS 1) [.t 15,kI 0] 1,lv 17 16,ob 18 (.aj 167) 14 17,ou 19 (.oK 1 [z0] [0]) 18 1,mv 4 19,mi 5 0] 0 [4,5] []) .ret)))
def bC:aA:=(s0 [ba 2 0 0,ag 4 1,mi 5 0] 1 [1,2] [2] (sw (r1 [mv 16 1,of 17 (.aS 1) [.t 16,kI 0] 1,lv 18 17,mv 19 1,of 20 (.aS 1) [.t 19,kI 1] 1,lv 21 20,mv 22 1,of 23 (.aS 1) [.t 22,kI 2] 1,lv 24 23,mv 6 18,mv 7 21,mv 8 24] 0 [2,6,7,8] []) (sw (sr [fa 25 1 2,lo 26 25,mv 27 6,ob 28 (.aj 166) 26 27,oa 29 pN 28,mv 30 29,ow 31 .mov 7 30 0,ow 32 (.aj 168) 31 30 0,ow 33 pN 32 30 0,pt 34 30 33,mv 35 34,ow 36 .mov 8 35 0,ow 37 (.aj 168) 36 35 0,ow 38 pN 37 35 0,pt 39 35 38,mv 40 39,ow 41 .mov 8 40 0,ow 42 .mov 7 40 0,obF 43 pU 41 42 40 0,oF 44 (.aj 70) [.t 43,kI 0,kI 10] 40 0,ow 45 pN 44 40 0,pt 46 40 45] 0 [2,6,7,8,46] (cd 46 (sr [ag 4 1,mi 5 2] 0 [4,5] .ret) .skip)) (s0 [fa 48 0 2,lo 49 48,oa 50 .bH 49,fa 51 19 50,lo 52 51,mv 53 6,ob 54 (.Hr true [] (.agg [z0,z0])) 52 53,mv 47 54,xa 55 0 47,xa 56 1 47,al 9 0 [z0,z0],sk 2 9 55 0,mv 10 56] 1 [2,6,7,8,9,10] [9] (sw (sr [mv 57 10,oa 58 pN 57] 0 [2,6,7,8,9,58] (cd 58 (sr [ag 4 1,mi 5 7] 0 [4,5] .ret) .skip)) (sw (r1 [fu 60 0 2 1,lv 61 60,oa 62 .bH 61,fu 63 0 62 1,fu 64 0 63 1,ou 65 (.load true 2) 64 1,mv 66 7,mv 67 8,mv 68 6,ou 69 (.load true 2) 9 1,on 70 (.aj 169) [.t 65,.t 66,.t 67,.t 68,.t 69],mv 59 70,xa 71 0 59,xa 72 1 59,mv 11 71,mv 12 72] 0 [11,12] []) (sr [ag 13 1] 0 [11,12,13] (sw (sr [mv 73 11,oa 74 .len 73,mi 75 0] 0 [12,13,73,74,75] (lp (sr [ob 76 pL 75 74] 0 [12,13,73,74,75,76] (sw (cx 76 0) (sw (b1 (s0 [ix 77 3 73 75,lw 78 3 77,al 15 0 [z0,z0,z0],sk 3 15 78 0] 1 [12,13,15,73,74,75] [15] (rg [mv 79 13,fa 80 0 15,lo 81 80,fa 82 1 15,fa 83 0 82,lo 84 83,fa 85 1 15,fa 86 1 85,lo 87 86,on 88 (.dV 1 [z0,z0,z0] [0,1,2]) [.t 81,.t 84,.t 87],ob 89 (.app 1 true) 79 88,mv 13 89] 0 [12,13,73,74,75]))) (rg [oi 90 pA 75 1,mv 75 90] 0 [12,13,73,74,75])))))) (sr [mv 91 13,mv 92 12,mv 4 91,mv 5 92] 0 [4,5] .ret)))))))))
def fK:aA:=(s0 [ba 2 0 0,mk 4 cS,mi 5 0] 1 [1,2] [2] (sw (sw (r1 [fu 8 1 2 1,lv 9 8,mv 10 1,of 11 (.aS 1) [.t 10,kI 0] 1,lv 12 11,ob 13 (.aj 166) 9 12,oa 14 pN 13,mv 15 14,ow 16 (.fld 1) 2 15 1,ow 17 ld 16 15 1,ow 18 .mov 1 15 0,oF 19 (.aS 1) [.t 18,kI 1] 15 1,ow 20 ld 19 15 1,obF 21 (.aj 170) 17 20 15 0,ow 22 pN 21 15 0,pt 23 15 22] 0 [1,2,23] []) (cd 23 (sr [mk 4 cS,mi 5 2] 0 [4,5] .ret) .skip)) (sw (r1 [fu 25 0 2 1,lv 26 25,oa 27 .bH 26,fu 28 0 27 1,fu 29 0 28 1,ou 30 (.load true 2) 29 1,mv 31 1,of 32 (.aS 1) [.t 31,kI 0] 1,lv 33 32,fu 34 0 2 1,lv 35 34,oa 36 .bH 35,fu 37 0 36 1,fu 38 2 37 1,lv 39 38,mv 40 1,of 41 (.aS 1) [.t 40,kI 0] 1,lv 42 41,ob1 43 (.aS 2) 39 42 1,ou 44 (.load true 2) 43 1,ou 45 (.load true 2) 2 1,mv 46 1,of 47 (.aS 1) [.t 46,kI 1] 1,lv 48 47,ob 49 (.aj 171) 45 48,on 50 (.aj 27) [.t 30,.t 33,.t 44,.t 49],mv 24 50,xa 51 0 24,xa 52 1 24,mv 6 51,mv 7 52] 0 [6,7] []) (sr [mv 53 6,oa 54 (.oK 1 [z0] [0]) 53,mv 55 7,mv 4 54,mv 5 55] 0 [4,5] .ret))))
def qw:aA:=(s0 [ba 2 0 0,mk 4 cS,mi 5 0] 1 [2] [2] (.scope (sr [mi 6 0] 0 [2,6] (sw (.label 0) (sw (sr [fa 10 0 2,lo 11 10,oa 12 .bH 11,fa 13 17 12,lo 14 13,oa 15 .len 14,mi 16 0] 0 [2,6,15,16] (lp (sr [ob 17 pL 16 15] 0 [2,6,15,16,17] (sw (cx 17 0) (sw (b1 (sr [mv 18 16,mv 7 18] 0 [2,6,7,15,16] (sr [fa 19 0 2,lo 20 19,oa 21 .bH 20,fa 22 0 21,fa 23 2 22,lo 24 23,oa 25 .len 24,mi 26 0] 0 [2,6,7,15,16,24,25,26] (.block 2 (.loop (sr [ob 27 pL 26 25] 0 [2,6,7,15,16,24,25,26,27] (sw (cx 27 2) (sw (.block 3 (s0 [mv 28 26,ix 29 2 24 26,lw 30 2 29,al 9 0 [z0,z0],mv 8 28,sk 2 9 30 0] 1 [2,6,7,8,9,15,16,24,25,26] [9] (sw (r1 [fu 31 0 2 1,lv 32 31,mv 33 8,ou 34 (.load true 2) 9 1,ou 35 (.load true 2) 2 1,mv 36 7,oi 37 pA 36 1,ob 38 (.aj 171) 35 37,on 39 (.aj 172) [.t 32,.t 33,.t 34,.t 38],oa 40 pN 39] 0 [2,6,7,15,16,24,25,26,40] []) (cd 40 (sr [mv 41 6,oi 42 pA 41 1,mv 6 42] 0 [2,6,15,16] (.exit 1)) .skip)))) (rg [oi 43 pA 26 1,mv 26 43] 0 [2,6,7,15,16,24,25,26]))))))))) (rg [oi 44 pA 16 1,mv 16 44] 0 [2,6,15,16])))))) (sr [mv 45 6,oa 46 (.oK 1 [z0] [0]) 45,mv 4 46,mi 5 0] 0 [4,5] .ret))))))
def eX:aA:=(s0 [ba 2 0 0,mk 4 cS,mi 5 0] 1 [1,2] [2] (sw (sw (r1 [fu 8 1 2 1,lv 9 8,mv 10 1,of 11 (.aS 1) [.t 10,kI 0] 1,lv 12 11,ob 13 (.aj 170) 9 12,oa 14 pN 13] 0 [1,2,14] []) (cd 14 (sr [mk 4 cS,mi 5 2] 0 [4,5] .ret) .skip)) (sw (r1 [mv 16 1,of 17 (.aS 1) [.t 16,kI 0] 1,lv 18 17,fu 19 0 2 1,lv 20 19,oa 21 .bH 20,fu 22 17 21 1,lv 23 22,ou 24 .len 23 1,oa 25 (.mkF (.func 174) 0) 2,on 26 (.aj 173) [.t 18,.t 24,.t 25],mv 15 26,xa 27 0 15,xa 28 1 15,mv 6 27,mv 7 28] 0 [6,7] []) (sw (sr [mv 29 7,oa 30 pN 29] 0 [6,30] (cd 30 (sr [mk 4 cS,mi 5 5] 0 [4,5] .ret) .skip)) (sr [mv 31 6,oa 32 (.oK 1 [z0] [0]) 31,mv 4 32,mi 5 0] 0 [4,5] .ret)))))
def jw:aA:=(s0 [ba 2 0 0,mk 4 cS,mi 5 0] 1 [1,2] [2] (sw (sw (r1 [fu 8 1 2 1,lv 9 8,mv 10 1,of 11 (.aS 1) [.t 10,kI 0] 1,lv 12 11,ob 13 (.aj 170) 9 12,oa 14 pN 13] 0 [1,2,14] []) (cd 14 (sr [mk 4 cS,mi 5 2] 0 [4,5] .ret) .skip)) (sw (r1 [fu 16 0 2 1,lv 17 16,oa 18 .bH 17,fu 19 0 18 1,fu 20 6 19 1,ou 21 (.load true 2) 20 1,fu 22 0 2 1,lv 23 22,oa 24 .bH 23,fu 25 17 24 1,lv 26 25,mv 27 1,of 28 (.aS 1) [.t 27,kI 0] 1,lv 29 28,oi 30 pU 29 1,ob1 31 (.aS 2) 26 30 1,fu 32 0 31 1,lv 33 32,ob 34 (.aj 175) 21 33,mv 15 34,xa 35 0 15,xa 36 1 15,al 6 0 [z0,z0,z0],sk 3 6 35 4,mv 7 36] 1 [6,7] [6]) (sr [fa 37 1 6,lo 38 37,fa 39 2 6,lo 40 39,ob 41 (.oK 1 [z0,z0] [0,1]) 38 40,mv 42 7,mv 4 41,mv 5 42] 0 [4,5] .ret))))
def qY:aA:=(s0 [ba 2 0 0,mk 4 cS,mi 5 0] 1 [1,2] [2] (sw (r1 [fu 9 0 2 1,lv 10 9,oa 11 .bH 10,fu 12 0 11 1,fu 13 4 12 1,ou 14 (.load true 2) 13 1,mv 15 1,of 16 (.aS 1) [.t 15,kI 0] 1,lv 17 16,ob 18 (.aj 176) 14 17,mv 8 18,xa 19 0 8,xa 20 1 8,al 6 0 [z0,z0,z0],sk 3 6 19 4,mv 7 20] 1 [6,7] [6]) (sr [fa 21 0 6,lo 22 21,fa 23 1 6,lo 24 23,fa 25 2 6,lo 26 25,on 27 (.oK 1 [z0,z0,z0] [0,1,2]) [.t 22,.t 24,.t 26],mv 28 7,mv 4 27,mv 5 28] 0 [4,5] .ret)))
def qZ:aA:=(s0 [ba 2 0 0,mk 4 cS,mi 5 0] 1 [2] [2] (sr [fa 6 0 2,lo 7 6,oa 8 .bH 7,fa 9 20 8,lo 10 9,oa 11 (.oK 1 [z0] [0]) 10,mv 4 11,mi 5 0] 0 [4,5] .ret))
def gW:aA:=(s0 [ba 2 0 0,mk 4 cS,mi 5 0] 1 [2,4,5] [2] (sr [al 6 0 [zs]] 1 [2,4,5,6] (sw (sr [fa 8 1 2,lo 9 8,oa 10 (.mkF (.func 163) 1) 9] 0 [4,5,6,10] (.block 0 (.uQ (.t 10) [11,12] [6] (rg [mv 7 11] 0 [6,7]) (b1 (rg [lo 13 6,mv 14 7,oa 15 (.dV 1 [z0] [0]) 14,ob 16 (.app 1 true) 13 15,sk 1 6 16 0] 0 []))))) (sr [lo 17 6,mv 4 17,mi 5 0] 0 [4,5] .ret))))
def vS:aA:=(s0 [ba 1 0 0,mf 2 false] 1 [1] [1] (sw (sr [fa 10 0 1,lw 11 2 10,oa 12 (.aj 197) 11,oi 13 pQ 12 0,mv 14 13,ow 15 (.fld 2) 1 14 0,lq 16 15 14,ow 17 .len 16 14 0,ow 18 (.fld 0) 1 14 0,ow 19 (.fld 1) 18 14 0,lq 20 19 14,ow 21 .len 20 14 0,obF 22 pQ 17 21 14 0,pt 23 14 22,mv 24 23,ow 25 (.fld 3) 1 24 0,lq 26 25 24,oF 27 (.aj 70) [.t 26,kI 0,kI 10800] 24 0,ow 28 pN 27 24 0,pt 29 24 28] 0 [1,29] (cd 29 (sr [mf 2 false] 0 [2] .ret) .skip)) (sr [fa 31 4 1,lw 32 2 31,oa 33 (.aj 198) 32,mv 30 33,xa 34 0 30,xa 35 1 30,mv 3 34,mv 4 35] 0 [1,4] (sr [fa 37 6 1,lw 38 2 37,fa 39 8 1,lw 40 3 39,fa 41 11 1,lo 42 41,fa 43 12 1,lo 44 43,on 45 (.aj 31) [.t 38,.t 40,.t 42,.t 44],mv 36 45,xa 46 0 36,xa 47 1 36,mv 5 46,mv 6 47] 0 [1,4,6] (sr [fa 49 13 1,lo 50 49,fa 51 14 1,lo 52 51,fa 53 15 1,lo 54 53,fa 55 16 1,lo 56 55,on 57 (.build [zs,z0,z0,z0,z0,z0] [(1,1),(2,1),(3,1),(4,1)]) [.t 50,.t 52,.t 54,.t 56],oa 58 (.aj 29) 57,mv 48 58,xa 59 0 48,xa 60 1 48,xa 61 2 48,mv 7 59,mv 8 60,mv 9 61] 0 [1,4,6,9] (sr [mv 62 4,oi 63 pE 62 0,mv 64 63,ov 65 .mov 6 64 0,ot 66 pE [.t 65,kI 0] 64 0,pf 67 64 66,mv 68 67,ov 69 .mov 9 68 0,ot 70 pE [.t 69,kI 0] 68 0,pf 71 68 70,mv 72 71,ov 73 (.fld 2) 1 72 0,ov 74 ld 73 72 0,ot 75 (.aj 199) [.t 74,.c (.func (.func 200) [] [])] 72 0,ov 76 pN 75 72 0,pf 77 72 76,mv 2 77] 0 [2] .ret))))))
def xq:aA:=(sr [ba 1 0 0,al 2 1 [zs,zs,zs,z0,z0,zs,z0,zs,z0,z0,z0,zs,z0,z0,z0,z0,z0]] 2 [1,2] (sw (r1 [fu 3 0 1 2,fu 4 0 3 2,ou 5 ld 4 2,ou 6 (.uO 202) 5 1,fu 7 0 1 2,fu 8 1 7 2,ou 9 ld 8 2,ou 10 (.uO 114) 9 1,fu 11 0 1 2,fu 12 0 11 2,sk 1 12 6 0,fu 13 0 1 2,fu 14 1 13 2,sk 1 14 10 0] 0 [1,2] []) (sw (r1 [fu 15 2 1 2,ou 16 ld 15 2,ou 17 (.uO 203) 16 1,fu 18 11 1 2,ou 19 ld 18 2,ou 20 (.uO 204) 19 1,fu 21 2 1 2,sk 1 21 17 0,fu 22 11 1 2,sk 1 22 20 0] 0 [1,2] []) (sw (r1 [fu 23 4 1 2,fu 24 1 23 2,ou 25 ld 24 2,ou 26 (.uO 114) 25 1,fu 27 6 1 2,fu 28 1 27 2,ou 29 ld 28 2,ou 30 (.uO 114) 29 1,fu 31 4 1 2,fu 32 1 31 2,sk 1 32 26 0,fu 33 6 1 2,fu 34 1 33 2,sk 1 34 30 0] 0 [1,2] []) (sr [lw 35 17 1,sk 17 2 35 0] 0 [2] .ret)))))
def zq:aA:=(s0 [ba 1 0 0,ag 2 2] 1 [1] [1] (sr [fa 13 6 1,lw 14 2 13,fa 15 12 1,lo 16 15,on 17 (.build [z0,z0,z0] [(0,1),(1,1),(2,1)]) [.t 16,kI 1,kI 1],ob 18 (.aj 30) 14 17,mv 12 18,xa 19 0 12,xa 20 1 12,mv 3 19,mv 4 20] 0 [1,3] (sr [fa 22 6 1,lw 23 2 22,fa 24 12 1,lo 25 24,on 26 (.build [z0,z0,z0] [(0,1),(1,1),(2,1)]) [.t 25,kI 12,kI 31],ob 27 (.aj 30) 23 26,mv 21 27,xa 28 0 21,xa 29 1 21,mv 5 28,mv 6 29] 0 [1,3,5] (sr [fa 31 6 1,lw 32 2 31,fa 33 8 1,lw 34 3 33,fa 35 11 1,lo 36 35,fa 37 12 1,lo 38 37,on 39 (.aj 31) [.t 32,.t 34,.t 36,.t 38],mv 30 39,xa 40 0 30,xa 41 1 30,mv 7 40,mv 8 41] 0 [3,5,7] (sr [ag 9 2] 0 [3,5,7,9] (sw (sr [mv 42 5,mv 43 3,ob 44 pU 42 43,oi 45 pA 44 1,mi 46 0] 0 [3,7,9,45,46] (lp (sr [ob 47 pL 46 45] 0 [3,7,9,45,46,47] (sw (cx 47 0) (sw (b1 (sr [mv 48 46,mv 10 48] 0 [3,7,9,10,45,46] (sr [mv 49 3,mv 50 10,ob 51 pA 49 50,mv 11 51] 0 [3,7,9,11,45,46] (rg [mv 52 9,mv 53 11,mv 54 11,oi 55 pA 54 4,oi 56 (.bin .rem) 55 7,oi 57 pQ 56 0,mv 58 57,ov 59 .mov 7 58 0,ov 60 .mov 11 58 0,obT 61 (.aj 205) 59 60 58 0,ov 62 pN 61 58 0,pf 63 58 62,ob 64 (.build [z0,.bool false] [(0,1),(1,1)]) 53 63,oa 65 (.dV 2 [.agg [z0,.bool false]] [0]) 64,ob 66 (.app 2 false) 52 65,mv 9 66] 0 [3,7,9,45,46])))) (rg [oi 67 pA 46 1,mv 46 67] 0 [3,7,9,45,46])))))) (sr [mv 68 9,mv 2 68] 0 [2] .ret)))))))
def uI:aA:=(s0 [ba 1 0 0,mf 2 false] 1 [1] [1] (sw (sw (r1 [fu 3 0 1 1,lv 4 3,on 5 (.aj 70) [.t 4,kI 1,kI 6],oa 6 pN 5,mv 7 6,ow 8 (.fld 1) 1 7 1,ow 9 ld 8 7 1,ow 10 .len 9 7 1,oF 11 (.aj 121) [] 7 0,ow 12 (.fld 0) 1 7 1,ow 13 ld 12 7 1,oF 14 pU [.t 13,kI 1] 7 0,obF 15 (.Ur true 2 6) 11 14 7 0,ow 16 (.QY false 1 1) 15 7 0,obF 17 pQ 10 16 7 0,pt 18 7 17] 0 [1,18] []) (cd 18 (sr [mf 2 false] 0 [2] .ret) .skip)) (sr [fa 19 1 1,lo 20 19,oc 21 (.aj 179) 20 (.c (.func (.func 206) [] [])),oa 22 pN 21,mv 2 22] 0 [2] .ret)))
def xu:aA:=(s0 [ba 1 0 0,mk 2 (.c (.nilIface))] 1 [1] [1] (sr [fa 4 1 1,lo 5 4,mv 3 5] 0 [1,3] (sw (sr [fa 6 0 1,lo 7 6] 0 [3,7] (.block 0 (sr [oi 9 pE 7 1,mv 8 9] 0 [3,7,8] (cd 8 (sr [mv 10 3,oi 11 (.aS 1) 10 0,lo 12 11,oa 13 (.build [z0] [(0,1)]) 12,oa 14 (.mkI T.fM) 13,mv 2 14] 0 [2] .ret) (sr [oi 16 pE 7 2,mv 15 16] 0 [3,7,15] (cd 15 (sw (r1 [mv 17 3,of 18 (.aS 1) [.t 17,kI 0] 1,lv 19 18,mv 20 3,of 21 (.aS 1) [.t 20,kI 1] 1,lv 22 21,mv 23 3,of 24 (.aS 1) [.t 23,kI 2] 1,lv 25 24,ob 26 (.build [z0,z0] [(0,1),(1,1)]) 22 25,ob 27 (.build [z0,z0,z0] [(0,1),(1,2)]) 19 26,oa 28 (.build [z0,z0,z0] [(0,3)]) 27,ou 29 (.mkI T.bV) 28 1,mv 2 29] 0 [2] []) .ret) (sr [oi 31 pE 7 3,mv 30 31] 0 [3,7,30] (cd 30 (sw (r1 [mv 32 3,of 33 (.aS 1) [.t 32,kI 0] 1,lv 34 33,mv 35 3,of 36 (.aS 1) [.t 35,kI 1] 1,lv 37 36,mv 38 3,of 39 (.aS 1) [.t 38,kI 2] 1,lv 40 39,ob 41 (.build [z0,z0] [(0,1),(1,1)]) 37 40,ob 42 (.build [z0,z0,z0] [(0,1),(1,2)]) 34 41,ou 43 (.mkI T.fF) 42 1,mv 2 43] 0 [2] []) .ret) (sr [oi 45 pE 7 4,mv 44 45] 0 [3,7,44] (cd 44 (sw (r1 [mv 46 3,of 47 (.aS 1) [.t 46,kI 0] 1,lv 48 47,mv 49 3,of 50 (.aS 1) [.t 49,kI 1] 1,lv 51 50,ob 52 (.build [z0,z0] [(0,1),(1,1)]) 48 51,ou 53 (.mkI T.eF) 52 1,mv 2 53] 0 [2] []) .ret) (sr [oi 55 pE 7 5,mv 54 55] 0 [3,54] (cd 54 (sr [mv 56 3,oi 57 (.aS 1) 56 0,lo 58 57,oa 59 (.build [z0] [(0,1)]) 58,oa 60 (.mkI T.fO) 59,mv 2 60] 0 [2] .ret) .skip)))))))))))) (sr [mv 61 3,oi 62 (.aS 1) 61 0,lo 63 62,oa 64 (.build [z0] [(0,1)]) 63,oa 65 (.mkI T.bT) 64,mv 2 65] 0 [2] .ret))))
def jW:aA:=(s0 [lo 5 0,oa 6 (.tas T.bT (.agg [z0])) 5,mv 4 6,xa 7 0 4,xa 8 1 4,al 2 0 [z0],sk 1 2 7 0,mv 3 8] 1 [0,1,2,3] [2] (sw (sr [mv 9 3,oa 10 pN 9] 0 [0,1,2,10] (cd 10 (sw (r1 [ou 11 ld 1 2,on 12 (.D8 false 1 74) [.t 0,.t 11,kI (-1)],lo 13 0,ob 14 (.call 113) 12 13] 0 [] []) .ret) .skip)) (sw (sw (r1 [ou 15 ld 1 2,oa 16 .bH 15,fu 17 3 16 2,ou 18 ld 17 2,fu 19 0 2 1,lv 20 19,ix 21 1 18 20,ou 22 ld 21 3] 0 [0,1,2,22] []) (cd 22 (rg [lo 23 0,oa 24 (.build [.nilIface] [(0,1)]) 23,oa 25 (.mkI T.jm) 24,os .panic [.t 25] 0] 0 [1,2]) .skip)) (rg [lo 26 1,fa 27 0 2,lo 28 27,ob 29 (.call 74) 26 28] 0 []))))
def aZ:aA:=(s0 [ba 3 0 1] 1 [0,3] [3] (sr [oa 26 (.mkF (.func 207) 0) 3,mv 4 26] 0 [0,3,4] (sr [lo 27 3] 0 [0,4,27] (.block 0 (sr [oa 28 (.tas T.fM (.agg [z0])) 27,xa 29 1 28,xa 30 0 28] 0 [0,4,27,29,30] (cd 29 (s0 [al 5 0 [z0],sk 1 5 30 0] 1 [0,4,5] [5] (sw (r1 [mv 32 0,oa 33 .bH 32,fu 34 0 33 2,fu 35 4 34 2,ou 36 (.load true 2) 35 2,fu 37 0 5 1,lv 38 37,ob 39 (.jE 176) 36 38,mv 31 39,xa 40 0 31,xa 41 1 31,al 6 0 [z0,z0,z0],sk 3 6 40 4,mv 7 41] 1 [0,4,5,7] []) (sr [mv 42 4,mv 43 7,oi 44 pE 43 0,mv 45 44,ov 46 .mov 0 45 0,ov 47 .bH 46 45 0,ov 48 (.fld 18) 47 45 0,ov 49 ld 48 45 0,ov 50 .len 49 45 0,ot 51 pL [.t 50,kI 8] 45 0,pf 52 45 51,ob 53 .jR 42 52] 0 [0,5] (r1 [mv 54 0,mv 55 0,oa 56 .bH 55,fu 57 18 56 2,ou 58 ld 57 2,fu 59 0 5 1,lv 60 59,ou 61 (.dV 1 [z0] [0]) 60 1,ob 62 (.app 1 true) 58 61,oa 63 .bH 54,fu 64 18 63 2,sk 1 64 62 0] 0 [] [])))) (sr [oa 65 (.tas T.bV (.agg [z0,z0,z0])) 27,xa 66 1 65,xa 67 0 65] 0 [0,4,27,66,67] (cd 66 (s0 [al 8 0 [z0,z0,z0],sk 3 8 67 0] 1 [0,4,8] [8] (sw (r1 [mv 69 0,oa 70 .bH 69,fu 71 0 70 2,fu 72 0 71 2,ou 73 (.load true 2) 72 2,fu 74 0 8 1,ou 75 (.load true 3) 74 1,ob 76 (.Jy 208) 73 75,mv 68 76,xa 77 0 68,xa 78 1 68,mv 9 77,mv 10 78] 0 [0,4,8,9,10] []) (sr [mv 79 4,mv 80 10,oi 81 pE 80 0,ob 82 .jR 79 81] 0 [0,4,8,9] (sw (sr [mv 83 9,oa 84 .len 83,mi 85 0] 0 [0,4,8,83,84,85] (b1 (.loop (sr [ob 86 pL 85 84] 0 [0,4,8,83,84,85,86] (sw (cx 86 1) (sw (.block 2 (sr [ix 87 1 83 85,lo 88 87,mv 12 88] 0 [0,4,8,12,83,84,85] (sr [mv 90 0,oa 91 .bH 90,fa 92 19 91,lo 93 92,mv 94 12,ob 95 (.Hr true [] (.agg [z0,z0])) 93 94,mv 89 95,xa 96 0 89,xa 97 1 89,al 13 0 [z0,z0],sk 2 13 96 0,mv 14 97] 1 [0,4,8,14,83,84,85] (rg [mv 98 4,mv 99 14,ob 100 .jR 98 99] 0 [0,4,8,83,84,85])))) (rg [oi 101 pA 85 1,mv 85 101] 0 [0,4,8,83,84,85]))))))) (sw (r1 [mv 102 0,oa 103 .bH 102,fu 104 0 103 2,fu 105 0 104 2,fu 106 0 105 2,ou 107 ld 106 2,fu 108 0 8 1,fu 109 0 108 1,lv 110 109,ix 111 3 107 110,fu 112 1 111 3,ou 113 (.load true 2) 112 3,al 15 0 [z0,z0],sk 2 15 113 4] 1 [0,4,8,15] [15]) (sr [ag 16 1] 0 [0,4,8,15,16] (sw (sr [fa 114 0 15,lo 115 114,fa 116 0 8,fa 117 1 116,fa 118 0 117,lo 119 118,ob 120 pQ 115 119] 0 [0,4,8,15,16,120] (cd 120 (sr [mv 121 0,fa 122 0 8,fa 123 1 122,fa 124 0 123,lo 125 124,ob 126 (.call 209) 121 125,mv 17 126] 0 [0,4,8,15,16,17] (sr [mv 127 4,mv 128 17,ob 129 .jR 127 128] 0 [0,4,8,15,16] (rg [mv 130 16,fa 131 0 15,lo 132 131,oa 133 (.dV 1 [z0] [0]) 132,ob 134 (.app 1 false) 130 133,mv 16 134] 0 [0,4,8,15,16]))) .skip)) (sw (sr [fa 135 1 15,lo 136 135,fa 137 0 8,fa 138 1 137,fa 139 1 138,lo 140 139,ob 141 pQ 136 140] 0 [0,4,8,15,16,141] (cd 141 (sr [mv 142 0,fa 143 0 8,fa 144 1 143,fa 145 1 144,lo 146 145,ob 147 (.call 209) 142 146,mv 18 147] 0 [0,4,8,15,16,18] (sr [mv 148 4,mv 149 18,ob 150 .jR 148 149] 0 [0,8,15,16] (rg [mv 151 16,fa 152 1 15,lo 153 152,oa 154 (.dV 1 [z0] [0]) 153,ob 155 (.app 1 false) 151 154,mv 16 155] 0 [0,8,16]))) .skip)) (sr [mv 156 0,mv 157 0,oa 158 .bH 157,fa 159 18 158,lo 160 159,mv 161 16,ob 162 (.app 1 false) 160 161,oa 163 .bH 156,fa 164 18 163,sk 1 164 162 0] 0 [0,8] (r1 [mv 165 0,oa 166 .bH 165,fu 167 0 166 2,fu 168 0 167 2,fu 169 0 168 2,ou 170 ld 169 2,fu 171 0 8 1,fu 172 0 171 1,lv 173 172,fu 174 0 8 1,fu 175 1 174 1,ou 176 (.load true 2) 175 1,ix 177 3 170 173,fu 178 1 177 3,sk 2 178 176 3] 0 [] [])))))))))) (sr [oa 179 (.tas T.fF (.agg [z0,z0,z0])) 27,xa 180 1 179,xa 181 0 179] 0 [0,4,27,180,181] (cd 180 (s0 [al 19 0 [z0,z0,z0],sk 3 19 181 0] 1 [0,4,19] [19] (sw (r1 [mv 183 0,oa 184 .bH 183,fu 185 19 184 2,ou 186 ld 185 2,fu 187 0 19 1,lv 188 187,ob 189 (.Hr true [] (.agg [z0,z0])) 186 188,mv 182 189,xa 190 0 182,xa 191 1 182,al 20 0 [z0,z0],sk 2 20 190 4,mv 21 191] 1 [0,4,19,21] []) (sr [mv 192 4,mv 193 21,oa 194 pN 193,ob 195 .jR 192 194] 0 [0,19] (r1 [mv 196 0,oa 197 .bH 196,fu 198 19 197 2,ou 199 ld 198 2,fu 200 0 19 1,lv 201 200,fu 202 1 19 1,ou 203 (.load true 2) 202 1,os (.abV []) [.t 199,.t 201,.t 203] 0] 0 [] [])))) (sr [oa 204 (.tas T.eF (.agg [z0,z0])) 27,xa 205 1 204,xa 206 0 204] 0 [0,4,27,205,206] (cd 205 (s0 [al 22 0 [z0,z0],sk 2 22 206 0] 1 [0,4,22] [22] (sw (r1 [mv 208 0,oa 209 .bH 208,fu 210 19 209 2,ou 211 ld 210 2,fu 212 0 22 1,lv 213 212,ob 214 (.Hr true [] (.agg [z0,z0])) 211 213,mv 207 214,xa 215 0 207,xa 216 1 207,al 23 0 [z0,z0],sk 2 23 215 4,mv 24 216] 1 [0,4,22,23,24] [23]) (sw (r1 [mv 217 4,mv 218 24,mv 219 218,ov 220 .mov 0 219 0,ov 221 (.fld 0) 22 219 1,ov 222 ld 221 219 1,ov 223 (.load true 2) 23 219 1,ot 224 (.jE 172) [.t 220,.t 222,.t 223,kI 100] 219 0,pf 225 219 224,mv 226 225,ov 227 (.fld 1) 22 226 1,ov 228 ld 227 226 1,ov 229 .mov 0 226 0,ov 230 (.fld 0) 22 226 1,ov 231 ld 230 226 1,obT 232 (.jE 167) 229 231 226 0,obT 233 (.bin .geq) 228 232 226 0,pf 234 226 233,ob 235 .jR 217 234] 0 [0,22,23] []) (sw (r1 [mv 236 0,oa 237 .bH 236,fu 238 19 237 2,ou 239 ld 238 2,fu 240 0 22 1,lv 241 240,os (.abT []) [.t 239,.t 241] 0] 0 [0,22,23] []) (sw (r1 [mv 242 0,oa 243 .bH 242,fu 244 0 243 2,fu 245 2 244 2,ou 246 ld 245 2,fu 247 0 22 1,lv 248 247,ou 249 (.load true 2) 23 1,ix 250 2 246 248,sk 2 250 249 0] 0 [0,22] []) (r1 [mv 251 0,oa 252 .bH 251,fu 253 20 252 2,ou 254 ld 253 2,fu 255 1 22 1,lv 256 255,ob 257 pA 254 256,oa 258 .bH 251,fu 259 20 258 2,sk 1 259 257 0] 0 [] [])))))) (sr [oa 260 (.tas T.fO (.agg [z0])) 27,xa 261 1 260,xa 262 0 260] 0 [0,4,261,262] (cd 261 (s0 [al 25 0 [z0],sk 1 25 262 0] 1 [0,4,25] [25] (sw (r1 [mv 263 4,mv 264 0,oa 265 .bH 264,fu 266 17 265 2,ou 267 ld 266 2,fu 268 0 25 1,lv 269 268,oi 270 pU 269 1,ob1 271 (.aS 2) 267 270 1,fu 272 1 271 1,lv 273 272,mv 274 273,ov 275 .mov 0 274 0,ov 276 .bH 275 274 0,ov 277 (.fld 21) 276 274 2,ov 278 ld 277 274 2,ov 279 .len 278 274 0,ot 280 pE [.t 279,kI 0] 274 0,ov 281 .mov 280 274 0,ow 282 (.fld 0) 25 281 1,ow 283 ld 282 281 1,ow 284 .mov 0 281 0,ow 285 .bH 284 281 0,ow 286 (.fld 21) 285 281 2,ow 287 ld 286 281 2,ow 288 .mov 0 281 0,ow 289 .bH 288 281 0,ow 290 (.fld 21) 289 281 2,ow 291 ld 290 281 2,ow 292 .len 291 281 0,oF 293 pU [.t 292,kI 1] 281 0,obF 294 (.aS 1) 287 293 281 0,ow 295 ld 294 281 3,obF 296 pG 283 295 281 0,ot 297 .pick [.t 281,.c (.bool true),.t 296] 274 0,pf 298 274 297,ob 299 .jR 263 298] 0 [0,25] []) (r1 [mv 300 0,mv 301 0,oa 302 .bH 301,fu 303 21 302 2,ou 304 ld 303 2,fu 305 0 25 1,lv 306 305,ou 307 (.dV 1 [z0] [0]) 306 1,ob 308 (.app 1 false) 304 307,oa 309 .bH 300,fu 310 21 309 2,sk 1 310 308 0] 0 [] []))) .skip))))))))))))))
def qj:aA:=(sr [mk 4 (.c ze)] 0 [0,1] (s0 [mv 10 1,oa 11 (.aj 44) 10,mv 9 11,xa 12 0 9,xa 13 1 9,al 5 0 [z0,zs],sk 2 5 12 0,mv 6 13] 1 [0,1,5,6] [5] (sw (sr [mv 14 6,oi 15 pE 14 0] 0 [0,1,5,6,15] (cd 15 (sr [mv 16 0,lw 17 2 5,ob 18 (.call 38) 16 17,mv 6 18] 0 [6] (sw (sr [mv 19 6,oi 20 pE 19 0] 0 [6,20] (cd 20 (sr [mk 4 (.c (.str ⟨#[110,111,116,101,100]⟩))] 0 [4] .ret) .skip)) (sr [mv 21 6,oa 22 (.aj 213) 21,on 23 pA [.c (.str ⟨#[101,114,114,111,114,32]⟩),.t 22],mv 4 23] 0 [4] .ret))) .skip)) (sw (sr [mv 24 6,oi 25 pE 24 3] 0 [0,1,6,25] (cd 25 (sr [mv 26 6,oa 27 (.aj 213) 26,on 28 pA [.c (.str ⟨#[101,114,114,111,114,32]⟩),.t 27],mv 4 28] 0 [4] .ret) .skip)) (s0 [mv 30 1,oa 31 (.aj 214) 30,mv 29 31,xa 32 0 29,xa 33 1 29,al 7 0 [z0,zs],sk 2 7 32 0,mv 6 33] 1 [0,6,7] [7] (sr [mk 8 cS] 0 [0,6,7,8] (sw (sr [mv 34 6,oi 35 pE 34 0] 0 [0,6,7,8,35] (cd 35 (rg [mv 37 0,lw 38 2 7,ob 39 (.call 21) 37 38,mv 36 39,xa 40 0 36,xa 41 1 36,mv 8 40,mv 6 41] 0 [6,8]) .skip)) (sw (.block 0 (sr [mv 43 6,oi 44 pQ 43 0,mv 42 44] 0 [6,8,42] (cd 42 (sr [mv 45 6,oa 46 (.aj 213) 45,on 47 pA [.c (.str ⟨#[101,114,114,111,114,32]⟩),.t 46],mv 4 47] 0 [4] .ret) (sr [mv 49 8,oa 50 .len 49,oi 51 pE 50 0,mv 48 51] 0 [8,48] (cd 48 (sr [mk 4 (.c (.str ⟨#[110,111,116,104,105,110,103]⟩))] 0 [4] .ret) .skip))))) (sr [mv 52 8,oa 53 (.jE 122) 52,mv 4 53] 0 [4] .ret)))))))))
def yj:aA:=(sr [al 0 0 [ze,z0,ze,z0,ze,z0,ze,z0,ze,z0,ze,z0]] 1 [0] (sr [on 1 (.build [ze,z0] [(0,1),(1,1)]) [.c (.str ⟨#[99,117,116]⟩),kI 1],on 2 (.build [ze,z0] [(0,1),(1,1)]) [.c (.str ⟨#[99,104,97,110,103,101]⟩),kI 3],on 3 (.build [ze,z0] [(0,1),(1,1)]) [.c (.str ⟨#[111,114,100,101,114]⟩),kI 3],on 4 (.build [ze,z0] [(0,1),(1,1)]) [.c (.str ⟨#[115,101,114,118,101]⟩),kI 2],on 5 (.build [ze,z0] [(0,1),(1,1)]) [.c (.str ⟨#[115,101,116]⟩),kI 1],on 6 (.build [ze,z0] [(0,1),(1,1)]) [.c (.str ⟨#[115,116,114,105,107,101]⟩),kI 1],on 7 (.build [ze,z0,ze,z0,ze,z0,ze,z0,ze,z0,ze,z0] [(0,2),(2,2),(4,2),(6,2),(8,2),(10,2)]) [.t 1,.t 2,.t 3,.t 4,.t 5,.t 6],sk 12 0 7 0] 0 [0] .ret))
def xw:aA:=(sr [mk 2 (.c ze)] 0 [0] (sr [ag 3 1] 0 [0,3] (sw (sr [mv 6 0,oa 7 .len 6,mi 8 0] 0 [3,6,7,8] (lp (sr [ob 9 pL 8 7] 0 [3,6,7,8,9] (sw (cx 9 0) (sw (b1 (sr [ix 10 1 6 8,lo 11 10,mv 5 11] 0 [3,5,6,7,8] (rg [mv 12 3,mv 13 5,oa 14 (.aj 213) 13,oa 15 (.dV 1 [ze] [0]) 14,ob 16 (.app 1 false) 12 15,mv 3 16] 0 [3,6,7,8]))) (rg [oi 17 pA 8 1,mv 8 17] 0 [3,6,7,8])))))) (sr [mv 18 3,oc 19 (.jE 218) 18 (.c (.str ⟨#[32]⟩)),mv 2 19] 0 [2] .ret))))
def vP:aA:=(s0 [on 5 (.aj 121) [],al 2 0 [ze,z0,ze,z0,ze,z0,ze,z0,ze,z0,ze,z0],sk 12 2 5 0] 1 [0,1,2] [2] (sw (r1 [lv 7 0,ou 8 (.Uy true 2 6) 2 1,ob 9 (.call 126) 7 8,mv 6 9,xa 10 0 6,xa 11 1 6,mv 3 10,mv 4 11] 0 [1,3,4] []) (rg [mv 12 3,on 13 pA [kI 1,.t 12],mv 14 4,ob 15 (.build [z0,zs] [(0,1),(1,1)]) 13 14,sk 2 1 15 0] 0 [])))
def zn:aA:=(sr [mi 4 0,ag 5 1] 0 [0,1] (sr [mv 14 0,oc 15 (.aj 219) 14 (.c (.str ⟨#[32]⟩)),mv 6 15] 0 [0,1,6] (sr [mv 16 1,mv 17 6,oi 18 (.aS 1) 17 0,lo 19 18,mv 20 6,oa 21 .len 20,oi 22 pU 21 1,ob 23 (.build [ze,z0] [(0,1),(1,1)]) 19 22,ob 24 (.aj 220) 16 23,mv 7 24] 0 [0,6,7] (sr [mv 25 7,oi 26 (.bin .geq) 25 0,mv 27 0,ob 28 (.call 221) 26 27] 0 [0,6,7] (sr [ag 8 1] 0 [0,6,7,8] (sw (sr [mv 29 6,oi 30 (.zV 1 true false false) 29 1,oa 31 .len 30,mi 32 0] 0 [0,7,8,30,31,32] (lp (sr [ob 33 pL 32 31] 0 [0,7,8,30,31,32,33] (sw (cx 33 0) (sw (b1 (sr [ix 34 1 30 32,lo 35 34,mv 10 35] 0 [0,7,8,10,30,31,32] (sr [mi 11 0] 0 [0,7,8,10,11,30,31,32] (sw (sr [mv 36 10,oa 37 (.rngS 0) 36] 1 [0,7,8,10,11,30,31,32,37] (.block 2 (.loop (sr [oa 38 .Zg 37,xa 39 0 38] 0 [0,7,8,10,11,30,31,32,37,38,39] (sw (cx 39 2) (.block 3 (sr [xa 40 2 38,mv 13 40] 0 [0,7,8,10,11,13,30,31,32,37] (sr [mv 41 13,oc 42 (.bin .geq) 41 (.c (.int .i32 48)),mv 43 42,ov 44 .mov 13 43 0,ot 45 (.bin .leq) [.t 44,.c (.int .i32 57)] 43 0,pf 46 43 45,mv 47 46,ov 48 .mov 10 47 0,ov 49 .xP 48 47 0,ot 50 (.bin .leq) [.t 49,kI 4] 47 0,pf 51 47 50,mv 52 0,ob 53 (.call 221) 51 52] 0 [0,7,8,10,11,13,30,31,32,37] (rg [mv 54 11,on 55 pM [kI 10,.t 54],mv 56 13,oc 57 pU 56 (.c (.int .i32 48)),oa 58 (.conv .i64) 57,ob 59 pA 55 58,mv 11 59] 0 [0,7,8,10,11,30,31,32,37]))))))))) (sr [mv 60 10,oc 61 pQ 60 (.c ze),mv 62 61,ov 63 .mov 11 62 0,ov 64 (.aj 213) 63 62 0,ov 65 .mov 10 62 0,obT 66 pE 64 65 62 0,pf 67 62 66,mv 68 0,ob 69 (.call 221) 67 68] 0 [0,7,8,11,30,31,32] (rg [mv 70 8,mv 71 11,oa 72 (.dV 1 [z0] [0]) 71,ob 73 (.app 1 false) 70 72,mv 8 73] 0 [0,7,8,30,31,32])))))) (rg [oi 74 pA 32 1,mv 32 74] 0 [0,7,8,30,31,32])))))) (sr [mv 75 7,mv 76 8,mv 4 75,mv 5 76] 0 [4,5] .ret)))))))
def jg:aA:=(sr [mv 6 0,oa 7 .bH 6,fa 8 2 7,lo 9 8,oa 10 .len 9,mi 11 0] 0 [0,1,9,10,11] (lp (sr [ob 12 pL 11 10] 0 [0,1,9,10,11,12] (sw (cx 12 0) (sw (b1 (s0 [mv 13 11,ix 14 2 9 11,lw 15 2 14,al 5 0 [z0,zs],mv 4 13,sk 2 5 15 0] 1 [0,1,4,5,9,10,11] [5] (sr [fa 16 0 5,lo 17 16,oi 18 pQ 17 6,mv 19 18,ov 20 .mov 0 19 0,ov 21 .bH 20 19 0,ov 22 (.fld 3) 21 19 0,ov 23 ld 22 19 0,ov 24 .mov 4 19 0,obT 25 (.aS 1) 23 24 19 0,ov 26 ld 25 19 0,ov 27 pN 26 19 0,pf 28 19 27,mv 29 28,ov 30 .mov 1 29 0,ov 31 .mov 4 29 0,ov 32 (.load true 2) 5 29 0,ov 33 (.aj 111) 32 29 0,ot 34 .jR [.t 30,.t 31,.t 33] 29 0,ov 35 pN 34 29 0,pf 36 29 35] 0 [0,1,9,10,11,36] (cd 36 .ret .skip)))) (rg [oi 37 pA 11 1,mv 11 37] 0 [0,1,9,10,11]))))))
def ql:aA:=(sr [mf 4 false] 0 [0,1] (sr [mv 5 1,mv 6 0,oa 7 .bH 6,fa 8 0 7,lo 9 8,oa 10 .bH 9,fa 11 0 10,fa 12 1 11,lo 13 12,oa 14 .len 13,oi 15 pU 14 1,on 16 (.aj 70) [.t 5,kI 0,.t 15],mv 4 16] 0 [4] .ret))
def qy:aA:=(sr [mi 4 0] 0 [0,1] (sw (r1 [mv 14 0,oa 15 .bH 14,fu 16 0 15 1,fu 17 0 16 1,ou 18 (.load true 2) 17 1,mv 19 0,oa 20 .bH 19,fu 21 0 20 1,fu 22 0 21 1,fu 23 1 22 1,lv 24 23,mv 25 1,ob1 26 (.aS 1) 24 25 1,lv 27 26,ob 28 (.aj 28) 18 27,mv 13 28,xa 29 0 13,xa 30 1 13,mv 5 29,mv 6 30] 0 [0,5] []) (sw (r1 [mv 31 0,oa 32 .bH 31,fu 33 0 32 1,fu 34 13 33 1,lv 35 34,mv 36 0,oa 37 .bH 36,fu 38 0 37 1,fu 39 14 38 1,lv 40 39,mv 41 0,oa 42 .bH 41,fu 43 0 42 1,fu 44 15 43 1,lv 45 44,mv 46 0,oa 47 .bH 46,fu 48 0 47 1,fu 49 16 48 1,lv 50 49,on 51 (.build [zs,z0,z0,z0,z0,z0] [(1,1),(2,1),(3,1),(4,1)]) [.t 35,.t 40,.t 45,.t 50],al 7 0 [zs,z0,z0,z0,z0,z0],sk 6 7 51 4] 1 [5,7] []) (sw (sr [mv 52 5,oa 53 .len 52,mi 54 0] 0 [7,52,53,54] (lp (sr [ob 55 pL 54 53] 0 [7,52,53,54,55] (sw (cx 55 0) (sw (b1 (s0 [ix 56 2 52 54,lw 57 2 56,al 9 0 [z0,z0],sk 2 9 57 0] 1 [7,9,52,53,54] [9] (rg [fa 58 0 7,lo 59 58,fa 60 0 9,lo 61 60,fa 62 1 9,lo 63 62,ob 64 (.dV 1 [z0,z0] [0,1]) 61 63,ob 65 (.app 1 false) 59 64,fa 66 0 7,sk 1 66 65 0] 0 [7,52,53,54]))) (rg [oi 67 pA 54 1,mv 54 67] 0 [7,52,53,54])))))) (sr [lw 69 6 7,oa 70 (.jE 29) 69,mv 68 70,xa 71 0 68,xa 72 1 68,xa 73 2 68,mv 10 71,mv 11 72,mv 12 73] 0 [10] (sr [mv 74 10,mv 4 74] 0 [4] .ret))))))
def vT:aA:=(sr [mf 2 false] 0 [0] (sr [mv 3 0,on 4 (.aj 70) [.t 3,kI 4,kI 60],mv 2 4] 0 [2] .ret))
def qW:aA:=(sr [mf 4 false] 0 [0,1] (sr [mv 5 1,mv 6 0,oa 7 .bH 6,fa 8 1 7,lo 9 8,oa 10 .len 9,on 11 (.aj 70) [.t 5,kI 1,.t 10],mv 4 11] 0 [4] .ret))
def qp:aA:=(s0 [ba 2 0 0,mi 4 0] 1 [1,2] [2] (sr [mi 5 0] 0 [1,2,5] (sw (sr [fa 8 0 2,lo 9 8,oa 10 .bH 9,fa 11 21 10,lo 12 11,oa 13 .len 12,mi 14 0] 0 [1,5,12,13,14] (lp (sr [ob 15 pL 14 13] 0 [1,5,12,13,14,15] (sw (cx 15 0) (sw (b1 (sr [ix 16 1 12 14,lo 17 16,mv 7 17] 0 [1,5,7,12,13,14] (sr [mv 18 7,mv 19 1,ob 20 (.bin .leq) 18 19] 0 [1,5,7,12,13,14,20] (cd 20 (rg [mv 21 7,mv 5 21] 0 [1,5,12,13,14]) .skip)))) (rg [oi 22 pA 14 1,mv 14 22] 0 [1,5,12,13,14])))))) (sr [mv 23 1,mv 24 5,ob 25 pU 23 24,mv 4 25] 0 [4] .ret))))
def rG:aA:=(s0 [ba 6 0 2,mf 8 false] 1 [0,1,3,6] [6] (sw (r1 [mv 12 0,oa 13 .bH 12,fu 14 0 13 1,fu 15 0 14 1,ou 16 (.load true 2) 15 1,mv 17 1,ou 18 (.load true 2) 6 1,mv 19 3,on 20 (.aj 27) [.t 16,.t 17,.t 18,.t 19],mv 11 20,xa 21 0 11,xa 22 1 11,mv 9 21,mv 10 22] 0 [0,9] []) (sw (r1 [mv 23 9,mv 24 0,oa 25 .bH 24,fu 26 0 25 1,fu 27 3 26 1,lv 28 27,oa 29 (.un .neg) 28,mv 30 0,oa 31 .bH 30,fu 32 0 31 1,fu 33 3 32 1,lv 34 33,on 35 (.aj 70) [.t 23,.t 29,.t 34],mv 8 35] 0 [8] []) .ret)))
def sZ:aA:=(sr [mi 6 0,mf 7 false] 0 [0,1,2] (sw (sr [mv 9 0,mv 8 9] 0 [1,2,8] (lp (sw (sr [mv 10 8,mv 11 1,ob 12 (.bin .leq) 10 11] 0 [1,2,8,12] (cx 12 0)) (sw (b1 (sr [mv 15 2,mv 16 8,ob 17 .jR 15 16] 0 [1,2,8,17] (cd 17 (sr [mv 18 8,mv 6 18,mf 7 true] 0 [6,7] .ret) .skip))) (rg [mv 13 8,oi 14 pA 13 1,mv 8 14] 0 [1,2,8]))))) (sr [mi 6 0,mf 7 false] 0 [6,7] .ret)))
def nP:aA:=(sr [mf 3 false] 0 [0,1] (sr [fa 4 0 1,lo 5 4,oa 6 .bH 5,fa 7 17 6,lo 8 7,mv 9 0,oi 10 pU 9 1,ix 11 2 8 10,fa 12 1 11,lo 13 12,mv 3 13] 0 [3] .ret))
def tq:aA:=(s0 [ba 1 0 0,mf 2 false] 1 [1] [1] (sr [lw 3 2 1,oa 4 (.aj 201) 3,oa 5 pN 4,mv 2 5] 0 [2] .ret))
def rC:aA:=(s0 [ba 1 0 0,mf 2 false] 1 [1] [1] (sr [fa 3 0 1,lo 4 3,on 5 (.aj 70) [.t 4,kI 0,kI 50000],mv 6 5,ov 7 (.fld 1) 1 6 0,ov 8 ld 7 6 0,ot 9 (.aj 70) [.t 8,kI 1,kI 50000] 6 0,pf 10 6 9,mv 2 10] 0 [2] .ret))
def ru:aA:=(sr [mf 2 false] 0 [0] (sr [mv 3 0,on 4 (.aj 70) [.t 3,kI 0,kI 9999],oa 5 pN 4,mv 2 5] 0 [2] .ret))
def jy:aA:=(sr [mv 3 0,oa 4 pN 3] 0 [1,4] (cd 4 (rg [lo 5 1,oa 6 (.build [.nilIface] [(0,1)]) 5,oa 7 (.mkI T.jm) 6,os .panic [.t 7] 0] 0 []) .skip))
def rH:aA:=(sr [mf 4 false] 0 [0,1] (sr [mv 6 0,oa 7 .bH 6,fa 8 18 7,lo 9 8,mv 10 1,ob 11 (.jE 269) 9 10,mv 5 11] 0 [0,5] (sw (sr [mv 12 5,oi 13 pL 12 0] 0 [0,5,13] (cd 13 (sr [mf 4 false] 0 [4] .ret) .skip)) (sr [mv 14 0,mv 15 0,oa 16 .bH 15,fa 17 18 16,lo 18 17,mv 19 5,mv 20 5,oi 21 pA 20 1,on 22 (.call 271) [.t 18,.t 19,.t 21],oa 23 .bH 14,fa 24 18 23,sk 1 24 22 0] 0 [] (sr [mf 4 true] 0 [4] .ret)))))
def uJ:aA:=(s0 [ba 1 0 0,al 2 1 [z0,zs],mi 3 0] 2 [1,2] [1] (sr [al 4 0 [z0,zs]] 1 [1,2,4] (sr [ob 6 (.mkF (.func 274) 0) 1 4,oa 7 (.call 72) 6,mv 5 7] 0 [2,4,5] (sr [lw 8 2 4,mv 9 5,sk 2 2 8 0,mv 3 9] 0 [2,3] .ret))))
def sD:aA:=(sr [mv 4 0,oa 5 pN 4] 0 [1,5] (cd 5 (rg [mv 6 1,oa 7 (.build [ze] [(0,1)]) 6,oa 8 (.mkI T.rP) 7,os .panic [.t 8] 0] 0 []) .skip))
def rE:aA:=(s0 [on 5 (.aj 71) [],al 2 0 [ze,z0,ze,z0,ze,z0,ze,z0,ze,z0,ze,z0,ze,z0,ze,z0,ze,z0,ze,z0,ze,z0,ze,z0],sk 24 2 5 0] 1 [0,1,2] [2] (sw (r1 [lv 7 0,ou 8 (.Uy true 2 12) 2 1,ob 9 (.call 126) 7 8,mv 6 9,xa 10 0 6,xa 11 1 6,mv 3 10,mv 4 11] 0 [1,3,4] []) (rg [mv 12 3,on 13 pA [kI 1,.t 12],mv 14 4,ob 15 (.build [z0,zs] [(0,1),(1,1)]) 13 14,sk 2 1 15 0] 0 [])))
def qG:aA:=(s0 [ba 2 0 0,mf 4 false] 1 [1,2] [2] (sw (r1 [fu 5 0 2 1,lv 6 5,mv 7 1,oa 8 .bH 7,fu 9 2 8 1,lv 10 9,ou 11 .len 10 1,oi 12 pU 11 1,on 13 (.aj 70) [.t 6,kI 0,.t 12],mv 14 13,ov 15 .mov 1 14 0,ov 16 .bH 15 14 0,ov 17 (.fld 2) 16 14 1,ov 18 ld 17 14 1,ov 19 (.fld 0) 2 14 1,ov 20 ld 19 14 1,obT 21 (.aS 2) 18 20 14 1,ov 22 (.fld 0) 21 14 1,ov 23 ld 22 14 1,ot 24 pQ [.t 23,kI 6] 14 0,pf 25 14 24,mv 4 25] 0 [4] []) .ret))
def uH:aA:=(s0 [ba 2 0 0,mf 4 false] 1 [2] [2] (sr [fa 5 0 2,lo 6 5,oa 7 (.aj 168) 6,mv 4 7] 0 [4] .ret))
def qx:aA:=(s0 [ba 2 0 0,mf 4 false] 1 [1,2] [2] (sw (r1 [fu 5 0 2 1,fu 6 0 5 1,lv 7 6,mv 8 1,oa 9 .bH 8,fu 10 0 9 1,lv 11 10,oa 12 .bH 11,fu 13 0 12 1,fu 14 0 13 1,lv 15 14,ou 16 .len 15 1,oi 17 pU 16 1,on 18 (.aj 70) [.t 7,kI 0,.t 17],mv 19 18,ov 20 (.fld 0) 2 19 1,ov 21 (.fld 1) 20 19 1,ov 22 (.fld 0) 21 19 1,ov 23 ld 22 19 1,ov 24 (.aj 168) 23 19 0,pf 25 19 24,mv 26 25,ov 27 (.fld 0) 2 26 1,ov 28 (.fld 1) 27 26 1,ov 29 (.fld 1) 28 26 1,ov 30 ld 29 26 1,ov 31 (.aj 168) 30 26 0,pf 32 26 31,mv 4 32] 0 [4] []) .ret))
def rD:aA:=(s0 [ba 2 0 0,mf 4 false] 1 [1,2] [2] (sr [mv 5 1,fa 6 0 2,lo 7 6,ob 8 (.aj 166) 5 7,mv 9 8,ov 10 (.fld 1) 2 9 0,ov 11 (.load true 2) 10 9 0,ov 12 (.aj 201) 11 9 0,pf 13 9 12,mv 4 13] 0 [4] .ret))
def rF:aA:=(s0 [ba 2 0 0,mf 4 false] 1 [1,2] [2] (sr [mv 5 1,fa 6 0 2,lo 7 6,ob 8 (.aj 166) 5 7,mv 4 8] 0 [4] .ret))
def uK:aA:=(s0 [ba 2 0 0,mf 4 false] 1 [1,2] [2] (sr [mv 5 1,fa 6 0 2,lo 7 6,ob 8 (.aj 170) 5 7,mv 4 8] 0 [4] .ret))
structure Su where
 pc:Pc
 tg:List Fr
 lim:Int
 dvd:Dvd
 cal:Cal
 jG:iw
 fs:List Fs
 year:Int
 gG:Int
 hours:Int
 lW:Int
 pct:Int
 deriving DecidableEq,Inhabited
def Su.cs (s:Su):List DV:=[sF (s.pc.links.map Lk.dv),sF (s.pc.hands.map au),sF (s.tg.map Fr.dv),dI s.lim,dI s.dvd.dK,sF (s.dvd.cir.map au),dI s.cal.ep,sF (s.cal.cy.map au),dI s.jG.n,dI s.jG.d,dI s.jG.ad,sF (s.fs.map Fs.dv),dI s.year,dI s.gG,dI s.hours,dI s.lW,dI s.pct]
def Su.dv (s:Su):DV:= .agg s.cs
variable{s:Su}
def nO:s.cs=[sF (s.pc.links.map Lk.dv),sF (s.pc.hands.map au),sF (s.tg.map Fr.dv),dI s.lim,dI s.dvd.dK,sF (s.dvd.cir.map au),dI s.cal.ep,sF (s.cal.cy.map au),dI s.jG.n,dI s.jG.d,dI s.jG.ad,sF (s.fs.map Fs.dv),dI s.year,dI s.gG,dI s.hours,dI s.lW,dI s.pct]:=by rw[Su.cs]
def dF:s.dv= .agg [sF (s.pc.links.map Lk.dv),sF (s.pc.hands.map au),sF (s.tg.map Fr.dv),dI s.lim,dI s.dvd.dK,sF (s.dvd.cir.map au),dI s.cal.ep,sF (s.cal.cy.map au),dI s.jG.n,dI s.jG.d,dI s.jG.ad,sF (s.fs.map Fs.dv),dI s.year,dI s.gG,dI s.hours,dI s.lW,dI s.pct]:=by rw[Su.dv,Su.cs]
def Su.bil (s:Su)(dJ:List Int):Bil:=⟨dJ,s.gG,s.hours,s.lW,s.pct,0⟩
def Su.ok (s:Su):Bool:=s.pc.ok&&decide (s.tg.length=s.pc.hands.length)&&inR s.lim 0 10800&&s.dvd.ok&&(s.cal.ok&&s.jG.ok&&jK s.fs&&inR s.year 0 4000)&&(s.bil []).ok&&s.tg.all Fr.ok
def Af (n l h:Int):Pure C 70 [dI n,dI l,dI h] (.d (.bool (inR n l h))) []:=AU n l h
def mY (n:Int):Pure C 168 [dI n] (.d (.bool (aI n))) []:=by
 refine ah vT aN ?_;simp only[vT,aN,RN,B]
 repeat' first
  |(refine ak (Af _ _ _) ?_;try simp only[RN,B,F,H,I,J,N])
  |(refine bF (by rfl) (fun a=> ?_) (fun a=> ?_)<;>simp only[a,RN,B,F,H,I,J,N])
  |(refine bM (by rfl) (fun a=> ?_) (fun a=> ?_)<;>simp only[a,RN,B,F,H,I,J,N])
 all_goals(first|(simp only[aI, *,BSN];done)|(simp_all[aI];done)|(simp_all[aI];omega))
def adi (f:Fr):Pure C 201 [f.dv] (.d (.bool f.ok)) []:=by
 refine ah rC aN ?_;simp only[rC,aN,bK,RN,B,F,N]
 repeat' first
  |(refine ak (Af _ _ _) ?_;try simp only[bK,RN,B,F,H,I,J,N])
  |(refine bF (by rfl) (fun a=> ?_) (fun a=> ?_)<;>simp only[a,RN,B,F,N])
  |(refine bM (by rfl) (fun a=> ?_) (fun a=> ?_)<;>simp only[a,bK,RN,B,F,H,I,J,N])
 all_goals(first|(simp only[Fr.ok, *,BSN];done)|(simp_all[Fr.ok];done)|(simp_all[Fr.ok];omega))
def abI (f:Fr):Pure C 200 [f.dv] (.d (.bool (!f.ok))) []:=by
 refine ah tq aN ?_;simp only[tq,aN,bK,RN,B,F,N];have h:=adi f;rw[bK]at h;refine ak h ?_;(try simp only[RN])
structure Su.Small (s:Su):Prop where
 l:s.pc.links.length<=1000
 h:s.pc.hands.length<=1000
 t:s.tg.length<=1000
 ci:s.dvd.cir.length<=1000
 cy:s.cal.cy.length<=1000
def abk (c:Cal)(m:iw)(l:List Fs)(y:Int):∃d,wQ c m l y= .tup [d,dI (if c.ok&&m.ok&&jK l&&inR y 0 4000 then 0 else 2)]:=by
 unfold wQ
 split<;>exact⟨_,rfl⟩
def afk (d:Dvd):d.numbers.2=if d.ok then 0 else 2:=by unfold Dvd.numbers;split<;>rfl
def amh (b:Bil):b.Ue.2.2=if b.ok then 0 else 2:=by unfold Bil.Ue;split<;>rfl
def Vj (s:Su)(hs:s.Small):Pure C 107 [s.dv] (.d (.bool s.ok)) []:=by
 refine ah vS aN ?_;have h1:=ajt s.pc hs.l hs.h;rw[dA]at h1;have h2:=ad4 s.dvd hs.ci;rw[rW]at h2;have a:=XR s.cal s.jG false s.fs s.year (by have:=hs.cy;omega);rw[dZ,iO]at a;have b:=af9 (s.bil []) (by simp[Su.bil]);rw[I5]at b;have o:=Ug s.tg 200 [] (fun f=> !f.ok) (by have:=hs.t;omega) (by kernel_rfl) fun f _=>abI f
 have z0:((0:Int) !=0)=false:=rfl;have p:((2:Int) !=0)=true:=rfl;have g:((0:Int)==0)=true:=rfl;have i:((2:Int)==0)=false:=rfl;simp only[vS,aN,dF,RN,B,F,N];refine ak h1 ?_;cases j:s.pc.ok
 ·simp only[p,if_false,ae,RN,B]
  simp[Su.ok,j]
 simp only[z0,if_true,O,RN,B,F,N]
 by_cases e:s.tg.length=s.pc.hands.length
 ·have z1:((s.tg.length:Int) !=(s.pc.hands.length:Int))=false:=by simp[e]
  simp only[z1,RN,B,F,N];refine ak (Af _ _ _) ?_;cases k:inR s.lim 0 10800
  ·(try simp only[RN,B])
   simp[Su.ok,k]
  (try simp only[RN,B,F,N]);obtain⟨q,c⟩:=abk s.cal s.jG s.fs s.year;rw[c]at a;rw[afk]at h2;rw[amh]at b;refine ak h2 ?_;(try simp only[RN]);refine ak a ?_;(try simp only[RN]);refine ak b ?_;cases m:s.dvd.ok
  ·simp only[i,if_false,ae,RN,B]
   simp[Su.ok,m]
  cases n:s.cal.ok&&s.jG.ok&&jK s.fs&&inR s.year 0 4000
  ·simp only[i,g,if_false,if_true,ae,RN,B]
   simp[Su.ok,n]
  cases k6:(s.bil []).ok
  ·simp only[i,g,if_false,if_true,ae,RN,B]
   simp[Su.ok,k6]
  simp only[g,if_true,RN,B,F,N];refine ak o ?_;simp only[Cj,Bool.not_not,RN];rw[Su.ok,j,k,m,n,k6,decide_eq_true e];simp
 ·have z1:((s.tg.length:Int) !=(s.pc.hands.length:Int))=true:=by simp;omega
  simp only[z1,RN,B];simp[Su.ok,e]
def CJ (xs:List DV)(hf:∀y∈xs,y.fits 1=true)(hl:xs.length<=1000000):Pure C 114 [.slice false xs] (.tsl 0 0 0) [⟨1,xs,0,0⟩]:=by
 refine nI yu aN ?_;simp only[yu,aN,RN,B,J];refine⟨fun _=> ?_,fun a b=> ?_⟩
 ·(try simp only[RN,B,F,H,I,J,N])
  exact⟨hf,by simp,by simp,by omega,Az (k:=1) (A:=⟨1,xs,0,0⟩) rfl rfl (V _) rfl⟩
 ·subst a
  cases b
  ·(try simp only[RN,B,J,N])
   (repeat(refine Z (by first|assumption|rfl|(simp;done)|(simp;omega)) ?_))
   exact Az (k:=1) (A:=⟨1,[],0,0⟩) rfl rfl (V _) rfl
  ·(try simp only[RN,B,J])
   exact Az (k:=1) (A:=⟨1,[],0,0⟩) rfl rfl (V _) rfl
def aeD (xs:List DV)(hf:∀y∈xs,y.fits 4=true)(hl:xs.length<=1000000):Pure C 204 [.slice false xs] (.tsl 0 0 0) [⟨4,xs,0,0⟩]:=by
 refine nI lY aN ?_;simp only[lY,aN,RN,B,J];refine⟨fun _=> ?_,fun a b=> ?_⟩
 ·(try simp only[RN,B,F,H,I,J,N])
  exact⟨hf,by simp,by simp,by omega,Az (k:=1) (A:=⟨4,xs,0,0⟩) rfl rfl (V _) rfl⟩
 ·subst a
  cases b
  ·(try simp only[RN,B,J,N])
   (repeat(refine Z (by first|assumption|rfl|(simp;done)|(simp;omega)) ?_))
   exact Az (k:=1) (A:=⟨4,[],0,0⟩) rfl rfl (V _) rfl
  ·(try simp only[RN,B,J])
   exact Az (k:=1) (A:=⟨4,[],0,0⟩) rfl rfl (V _) rfl
def aeC (xs:List DV)(hf:∀y∈xs,y.fits 2=true)(hl:xs.length<=1000000)(a:xs≠[]):Pure C 203 [.slice false xs] (.tsl 0 0 0) [⟨2,xs,0,1⟩]:=by
 refine nI kD aN ?_;simp only[kD,aN,RN,B,J];refine⟨fun _=> ?_,fun b=>absurd b a⟩;exact⟨hf,a,by simp,by omega,Az (k:=1) (A:=⟨2,xs,0,1⟩) rfl rfl (V _) rfl⟩
def Su.rows (s:Su):List Arr:=[⟨3,s.pc.links.map Lk.dv,0,1⟩,⟨1,s.pc.hands.map au,0,0⟩,⟨2,s.tg.map Fr.dv,0,1⟩,⟨4,s.fs.map Fs.dv,0,0⟩,⟨1,s.dvd.cir.map au,0,0⟩,⟨1,s.cal.cy.map au,0,0⟩]
def Su.pv (s:Su):PV:= .agg [.tsl 0 0 0, .tsl 1 0 0, .tsl 2 0 0,pI s.lim,pI s.dvd.dK, .tsl 4 0 0,pI s.cal.ep, .tsl 5 0 0,pI s.jG.n,pI s.jG.d,pI s.jG.ad, .tsl 3 0 0,pI s.year,pI s.gG,pI s.hours,pI s.lW,pI s.pct]
structure Su.Some (s:Su):Prop where
 l:s.pc.links≠[]/\s.pc.links.length<=1000
 t:s.tg≠[]/\s.tg.length<=1000
 h:s.pc.hands.length<=1000
 f:s.fs.length<=1000
 ci:s.dvd.cir.length<=1000
 cy:s.cal.cy.length<=1000
def wE {l:List Int}:∀y∈l.map au,DV.fits 1 y=true:=by
 intro y a;simp only[aw]at a;obtain⟨z,_,rfl⟩:=a;rfl
def Yo (s:Su)(hs:s.Some):Pure C 108 [s.dv] s.pv s.rows:=by
 have h1:=UQ (s.pc.links.map Lk.dv) (by intro y a;simp only[aw]at a;obtain⟨z,_,rfl⟩:=a;rfl) (by have:=hs.l.2;simp;omega) (by simpa using hs.l.1);have h2:=CJ (s.pc.hands.map au) wE (by have:=hs.h;simp;omega);have b:=aeC (s.tg.map Fr.dv) (by intro y a;simp only[aw]at a;obtain⟨z,_,rfl⟩:=a;rfl) (by have:=hs.t.2;simp;omega) (by simpa using hs.t.1);have c:=aeD (s.fs.map Fs.dv) (by intro y a;simp only[aw]at a;obtain⟨z,_,rfl⟩:=a;rfl) (by have:=hs.f;simp;omega);have d:=CJ (s.dvd.cir.map au) wE (by have:=hs.ci;simp;omega);have e:=CJ (s.cal.cy.map au) wE (by have:=hs.cy;simp;omega);refine nI xq aiB ?_;simp only[xq,aiB,dF,RN,B,F,J,N];refine yR rfl rfl h1 (by simp) ?_;simp only[PV.shift,kY,RN,F,N]
 (repeat(refine Z (by first|assumption|rfl|(simp;done)|(simp;omega)) ?_))
 refine yR rfl rfl h2 (by simp) ?_;simp only[PV.shift,kY,dX,fB,RN,F,J,N]
 (repeat(refine Z (by first|assumption|rfl|(simp;done)|(simp;omega)) ?_))
 refine yR rfl rfl b (by simp) ?_;simp only[PV.shift,kY,RN,F,N]
 (repeat(refine Z (by first|assumption|rfl|(simp;done)|(simp;omega)) ?_))
 refine yR rfl rfl c (by simp) ?_;simp only[PV.shift,kY,dX,fB,RN,F,J,N]
 (repeat(refine Z (by first|assumption|rfl|(simp;done)|(simp;omega)) ?_))
 refine yR rfl rfl d (by simp) ?_;simp only[PV.shift,kY,RN,F,N]
 (repeat(refine Z (by first|assumption|rfl|(simp;done)|(simp;omega)) ?_))
 refine yR rfl rfl e (by simp) ?_;simp only[PV.shift,kY,dX,fB,RN,F,N]
 (repeat(refine Z (by first|assumption|rfl|(simp;done)|(simp;omega)) ?_))
 simp only[bI,eU,ig,RN,F];exact⟨[(0,0),(1,0),(2,0),(3,0),(4,0),(5,0)],⟨by simp[Ah],by decide⟩,rfl,rfl⟩
variable{x:DV}
def VD {C:Ctx}{f:FuncId}{ds:List DV}{r:PV}{a:List Arr}(h:Pure C f ds r a)(hd:datum (rowsOf a) r=some x):Pure C f ds (.d x) []:=by
 intro X w c k n s p;refine(h X w c k n s p).mono fun e u m=> ?_
 obtain⟨v,t,rfl,h2,i,j⟩:=m;have g:zf (rowsOf a) []:=⟨fun q o=>(by cases o),List.nodup_nil⟩
 exact⟨v,_,rfl,XD h2 g,QZ i g, .d ((lJ (ps:=[r]) h2 j hd (by simp)).weaken fun b l=> .inl (Gx b l))⟩
def agL (s:Su)(hs:s.Some):Pure C 108 [s.dv] (.d s.dv) []:=VD (Yo s hs) (by rw[dF];rfl)
def Su.dates (s:Su):List Int:=s.fs.map (lM s.cal s.jG s.year)
def Su.works (s:Su)(n:Int):Bool:=(n+4).tmod 7 !=0&& !s.dates.contains n
def Su.first (s:Su):Int:=s.cal.first s.year.toNat
def Su.dur (s:Su):Nat:=(o8 (s.cal.leap s.year)).toNat
def Su.qK (s:Su)(k:Nat):List (Int×Bool):=(bO k).map fun(i:Nat)=>(s.first+i,s.works (s.first+i))
def Su.days (s:Su):List (Int×Bool):=s.qK s.dur
def zZ (d:Int×Bool):DV:= .agg [dI d.1, .bool d.2]
def aa7 {d:Int×Bool}:zZ d= .agg [dI d.1, .bool d.2]:=by rw[zZ]
def Yr (s:Su)(k:Nat):s.qK (k+1)=s.qK k++ [(s.first+k,s.works (s.first+k))]:=by simp[Su.qK,bl]
def Su.facts (h:s.ok=true):s.pc.ok=true/\s.tg.length=s.pc.hands.length/\inR s.lim 0 10800=true/\s.dvd.ok=true/\s.cal.ok=true/\s.jG.ok=true/\jK s.fs=true/\(0<=s.year/\s.year<=4000)/\(s.bil []).ok=true/\∀f∈s.tg,f.ok=true:=by
 simp only[Su.ok,Q,decide_eq_true_eq,aE]at h;obtain⟨⟨⟨⟨⟨⟨h1,h2⟩,b⟩,c⟩,⟨⟨d,e⟩,g⟩,i⟩,j⟩,a⟩:=h;exact⟨h1,h2,b,c,d,e,g,by simpa[inR]using i,j,a⟩
def Pc.wH {p:Pc}(h:p.ok=true):(1<=p.links.length/\p.links.length<=5)/\1<=p.hands.length/\p.hands.length<=4:=by
 simp only[Pc.ok,Q,inR,decide_eq_true_eq]at h;omega
def Su.Qk (h:s.ok=true):s.Some:=by
 obtain⟨h1,h2,_,b,c,j,d,_⟩:=Su.facts h;obtain⟨a,f⟩:=Pc.wH h1;obtain⟨_,b1,_⟩:=Dvd.J7 b;obtain⟨_,g,_⟩:=Cal.facts c;obtain⟨i,_⟩:=uo d;exact⟨⟨fun e=>by rw[e]at a;simp at a,by omega⟩,⟨fun e=>by rw[e]at h2;simp at h2;omega,by omega⟩,by omega,by omega,by omega,by omega⟩
def abm {c:Cal}{y:Int}(hc:c.ok=true)(f:0<=y/\y<=4000):Yq c ⟨y,1,1⟩= .tup [dI (c.first y.toNat),dI 0]/\Yq c ⟨y,12,31⟩= .tup [dI (c.first y.toNat+o8 (c.leap y) - 1),dI 0]:=by
 have d:inR y 0 4000=true:=by simp[inR];omega
 have b:(c.firsts 4002).getD y.toNat default=c.first y.toNat:=oI c (by omega);constructor
 ·have e:kG c ⟨y,1,1⟩=true:=by cases a:c.leap y<;>simp[kG,a,aQ,inR]<;>omega
  rw[Yq,hc,e];simp only[bi,if_true,AQ,b];simp[dN]
 ·have e:kG c ⟨y,12,31⟩=true:=by cases a:c.leap y<;>simp[kG,a,aQ,inR]<;>omega
  rw[Yq,hc,e];simp only[bi,if_true,AQ,b];cases a:c.leap y<;>simp[dN,aQ,o8]<;>omega
def anZ (s:Su)(hs:s.ok=true):Pure C 109 [s.dv] (.d (sF (s.days.map zZ))) []:=by
 obtain⟨h1,h2,H,K,e,v,j,w,L,u⟩:=Su.facts hs;obtain⟨M,P,Q⟩:=Cal.facts e;obtain⟨q,r⟩:=abm e w;have l:=alN s.cal ⟨s.year,1,1⟩ (by omega);have m:=alN s.cal ⟨s.year,12,31⟩ (by omega);have n:=XR s.cal s.jG false s.fs s.year (by omega);have f:wQ s.cal s.jG s.fs s.year= .tup [sF (s.dates.map au),dI 0]:=by
  rw[wQ,e,v,j,show inR s.year 0 4000=true by simp[inR];omega];rfl
 rw[q,dZ,oG]at l;rw[r,dZ,oG]at m;rw[f,dZ,iO]at n;have y:=s.cal.jC s.year.toNat;have hd:o8 (s.cal.leap s.year)=s.dur:=by have:=l9 (s.cal.leap s.year);unfold Su.dur;split at this<;>omega
 have x:s.dur<=366/\365<=s.dur:=by have:=l9 (s.cal.leap s.year);unfold Su.dur;split at this<;>omega
 have o:b0 .i64 (s.cal.first s.year.toNat+o8 (s.cal.leap s.year) - 1 - s.cal.first s.year.toNat)=(s.dur:Int) - 1:=by rw[aB (by omega)];omega
 have p:b0 .i64 ((s.dur:Int) - 1+1)=(s.dur:Int):=by rw[aB (by omega)];omega
 refine bG (aC zq aN ?_);simp only[zq,aN,dF,RN,B,F,J,N];refine ak l ?_;(try simp only[RN]);refine ak m ?_;(try simp only[RN]);refine ak n ?_;simp only[o,p,RN];have aqt:s.dates.length<=6:=by
  have:=(uo j).1;simp[Su.dates];omega
 refine aG s.dur (fun i (_:Unit)=>⟨[(3,pI (s.cal.first s.year.toNat)),(7, .d (sF (s.dates.map au))),(9, .tsl 1 i 0),(45,pI s.dur),(46,pI i)],
   ⟨[some (s.cs.map .d)],[0],[some ⟨2,[],0,0⟩,some ⟨2,(s.qK i).map zZ,i,0⟩]⟩⟩)
  (fun _ _=>True) 0 () (V _) (by rw[nO];rfl) trivial (fun i _ c _=> ?_) (fun _ _=> ?_)
 ·obtain⟨t,G,h⟩:=rng c (by omega)
  have A:b0 .i64 (s.cal.first s.year.toNat+(i:Int))=s.cal.first s.year.toNat+i:=aB (by omega);have D:b0 .i64 (s.cal.first s.year.toNat+(i:Int)+4)=s.cal.first s.year.toNat+i+4:=aB (by omega);have b1:0<=(s.cal.first s.year.toNat+(i:Int)+4).tmod 7:=aR 7 (by omega);have E:(s.cal.first s.year.toNat+(i:Int)+4).tmod 7<7:=ao _ (by decide);have R:b0 .i64 ((s.cal.first s.year.toNat+(i:Int)+4).tmod 7)=(s.cal.first s.year.toNat+(i:Int)+4).tmod 7:=aB (by omega);have z:¬((7:Int)=0):=by decide
  have b:(s.qK i).length=i:=by simp[Su.qK]
  have a:(s.qK i).map zZ++ [.agg [dI (s.cal.first s.year.toNat+i), .bool (s.works (s.cal.first s.year.toNat+i))]]=(s.qK (i+1)).map zZ:=by
   rw[Yr,az];rfl
  simp only[t,A,D,z,RN,B];cases k:((s.cal.first s.year.toNat+(i:Int)+4).tmod 7 !=0)
  ·have g:s.works (s.cal.first s.year.toNat+i)=false:=by rw[Su.works,k];rfl
   rw[g]at a;simp only[h,DV.strip,forall_eq,b,O,RN,B,F,I,J,N]
   (repeat(refine Z (by first|assumption|rfl|(simp;done)|(simp;omega)) ?_))
   refine⟨by omega,?_⟩;rw[a];exact aX (len:=s.dur) (i:=i) () c rfl trivial
  ·have g:s.works (s.cal.first s.year.toNat+i)= !s.dates.contains (s.cal.first s.year.toNat+i):=by rw[Su.works,k];rfl
   rw[g]at a;(try simp only[RN,B,F,N]);refine eG rfl rfl (Uj s.dates _ (by omega)) ?_;simp only[h,DV.strip,forall_eq,b,O,RN,B,F,I,J,N]
   (repeat(refine Z (by first|assumption|rfl|(simp;done)|(simp;omega)) ?_))
   refine⟨by omega,?_⟩;rw[a];exact aX (len:=s.dur) (i:=i) () c rfl trivial
 ·simp only[ai,RN,B]
  simp[datum,Mem.row,Su.days]
structure En where
 kind:Int
 ns:List Int
 deriving DecidableEq,Inhabited
def En.dv (x:En):DV:= .agg [dI x.kind,sF (x.ns.map au)]
def dO {x:En}:x.dv= .agg [dI x.kind,sF (x.ns.map au)]:=by rw[En.dv]
inductive De where
 |cut (dJ:Int)
 |change (c:Chg)
 |order (hand:Int) (f:Fr)
 |serve (hand kM:Int)
 |set (day:Int)
 |strike (entry:Int)
 deriving DecidableEq,Inhabited
def De.cs:De->DV
 | .cut t=> .agg [.int .i64 t]
 | .change c=> .agg [.int .i64 c.link, .int .i64 c.pr.a, .int .i64 c.pr.b]
 | .order h f=> .agg [.int .i64 h, .int .i64 f.n, .int .i64 f.d]
 | .serve h c=> .agg [.int .i64 h, .int .i64 c]
 | .set d=> .agg [.int .i64 d]
 | .strike e=> .agg [.int .i64 e]
def De.ty:De->TypeId
 | .cut _=>T.fM
 | .change _=>T.bV
 | .order _ _=>T.fF
 | .serve _ _=>T.eF
 | .set _=>T.fO
 | .strike _=>T.bT
def De.dv (x:De):DV:= .iface x.ty x.cs
def gI (k:Int):Nat:=if k=2\/k=3 then 3 else if k=4 then 2 else 1
def En.n (x:En)(i:Nat):Int:=x.ns.getD i default
def En.deed (x:En):De:=
 if x.kind=1 then .cut (x.n 0)else if x.kind=2 then .change ⟨x.n 0,⟨x.n 1,x.n 2⟩⟩else if x.kind=3 then .order (x.n 0) ⟨x.n 1,x.n 2⟩else if x.kind=4 then .serve (x.n 0) (x.n 1)else if x.kind=5 then .set (x.n 0)else .strike (x.n 0)
variable{base:Nat}{M:Mem}{K:PV->Mem->Prop}{KP:DV->Mem->Prop}
def OD {C:Ctx}{t:TypeId}:ay C base (.mkI t) [.d x] M K KP=K (.d (.iface t x)) M:=by
 have:=EX (M:=M) (ds:=[x]);simp only[ap,av]at this;simp only[ay,datum,this]
def QI (x:En)(g:gI x.kind<=x.ns.length):Pure C 111 [x.dv] (.d x.deed.dv) []:=by
 have k:(0:Int)<=1:=by omega
 have l:(0:Int)<=2:=by omega
 refine ah xu aN ?_;simp only[xu,aN,dO,RN,B,F,N]
 by_cases h1:x.kind=1
 ·have b1:(x.kind==1)=true:=by simp[h1]
  have a:0<x.ns.length:=by simp[gI,h1]at g;omega
  simp only[b1,j0,t0,a,O,getD_map,aH,OD,RN,B,N];simp only[De.dv,En.deed,h1,if_true,De.ty,De.cs,En.n]
 have b1:(x.kind==1)=false:=by simp[h1]
 by_cases h2:x.kind=2
 ·have b:(x.kind==2)=true:=by simp[h2]
  have a:0<x.ns.length/\1<x.ns.length/\2<x.ns.length:=by simp[gI,h2]at g;omega
  simp only[b1,b,j0,k,l,t0,t1,t2,a.1,a.2.1,a.2.2,O,getD_map,aH,OD,RN,B,F,N];simp only[De.dv,En.deed,h2,if_true,De.ty,De.cs,En.n]
  rfl
 have b:(x.kind==2)=false:=by simp[h2]
 by_cases c:x.kind=3
 ·have f:(x.kind==3)=true:=by simp[c]
  have a:0<x.ns.length/\1<x.ns.length/\2<x.ns.length:=by simp[gI,c]at g;omega
  simp only[b1,b,f,j0,k,l,t0,t1,t2,a.1,a.2.1,a.2.2,O,getD_map,aH,OD,RN,B,F,N];simp only[De.dv,En.deed,c,if_true,De.ty,De.cs,En.n]
  rfl
 have f:(x.kind==3)=false:=by simp[c]
 by_cases e:x.kind=4
 ·have h:(x.kind==4)=true:=by simp[e]
  have a:0<x.ns.length/\1<x.ns.length:=by simp[gI,e]at g;omega
  simp only[b1,b,f,h,j0,k,t0,t1,a.1,a.2,O,getD_map,aH,OD,RN,B,F,N];simp only[De.dv,En.deed,e,if_true,De.ty,De.cs,En.n]
  rfl
 have h:(x.kind==4)=false:=by simp[e]
 have a:0<x.ns.length:=by simp[gI,h2,c,e]at g;omega
 by_cases i:x.kind=5
 ·have j:(x.kind==5)=true:=by simp[i]
  simp only[b1,b,f,h,j,j0,t0,a,O,getD_map,aH,OD,RN,B,N];simp only[De.dv,En.deed,i,if_true,De.ty,De.cs,En.n]
  rfl
 have j:(x.kind==5)=false:=by simp[i]
 simp only[b1,b,f,h,j,j0,t0,a,O,getD_map,aH,OD,RN,B,N];simp only[De.dv,En.deed,h1,h2,c,e,i,if_false,De.ty,De.cs,En.n]
structure Sp where
 pc:Pc
 tg:List Fr
 eP:List Int
 op:List (Int×Fr)
 kM:Int
 sets:List Int
 deriving DecidableEq,Inhabited
def opD (l:List (Int×Fr)):List (DV×DV):=l.map fun p=>(dI p.1,p.2.dv)
def Sp.cells (a b:Bool)(s:Su)(t:Sp):List DV:=[sF (t.pc.links.map Lk.dv),sF (t.pc.hands.map au),sF (t.tg.map Fr.dv),dI s.lim,dI s.dvd.dK,sF (s.dvd.cir.map au),dI s.cal.ep,sF (s.cal.cy.map au),dI s.jG.n,dI s.jG.d,dI s.jG.ad,sF (s.fs.map Fs.dv),dI s.year,dI s.gG,dI s.hours,dI s.lW,dI s.pct,
 sF (s.days.map zZ), .slice a (t.eP.map au), .map (some (opD t.op)),dI t.kM, .slice b (t.sets.map au)]
def cZ {a b:Bool}{t:Sp}:t.cells a b s=[sF (t.pc.links.map Lk.dv),sF (t.pc.hands.map au),sF (t.tg.map Fr.dv),dI s.lim,dI s.dvd.dK,sF (s.dvd.cir.map au),dI s.cal.ep,sF (s.cal.cy.map au),dI s.jG.n,dI s.jG.d,dI s.jG.ad,sF (s.fs.map Fs.dv),dI s.year,dI s.gG,dI s.hours,dI s.lW,dI s.pct,
 sF (s.days.map zZ), .slice a (t.eP.map au), .map (some (opD t.op)),dI t.kM, .slice b (t.sets.map au)]:=by rw[Sp.cells]
def HY (s:Su)(t:Sp)(hand:Int)(f:Fr)(turns:Int):Bool:=inR (sN t.pc hand f turns).1 (-s.lim) s.lim
def ahC (b c:Bool)(s:Su)(t:Sp)(hand:Int)(f:Fr)(turns:Int)(hl:t.pc.links.length<=1000)(hh:t.pc.hands.length<=1000)(g:0<=s.lim/\s.lim<=10800):Pure C 172 [.aV (t.cells b c s),dI hand,f.dv,dI turns] (.d (.bool (HY s t hand f turns))) []:=by
 have a:=acZ t.pc hl hh hand f turns;rw[dA,bK]at a;have e:b0 .i64 (0 - s.lim)= -s.lim:=by rw[aB (by omega)];omega
 refine ah rG qO ?_;simp only[rG,qO,cZ,bK,RN,B,F,N];refine ak a ?_;simp only[e,RN];refine ak (Af _ _ _) ?_;simp only[HY]
def bZ (l:List Pr):List Int:=l.flatMap fun p=>[p.a,p.b]
def Dx (s:Su)(t:Sp)(hand:Nat):Int:=(s.bil (bZ (aP t.pc.links (t.pc.hands.getD hand default).toNat))).Ue.1
def nH (l:List Pr):(bZ l).length=2*l.length:=by
 induction l with
 |nil=>rfl
 |cons x l a=>simp only[bZ,List.flatMap_cons,List.length_append,bz,List.length_nil]at a⊢;omega
def Bg {C:Ctx}{z1 c:DV}{k k':IntKind}{a b:Int}:ay C base (.dV 1 [z1,c] [0,1]) [.d (.int k a), .d (.int k' b)] M K KP=K (.d (.slice true [.int k a, .int k' b])) M:=by
 have:=EX (M:=M) (ds:=[DV.int k a, .int k' b]);simp only[ap,av]at this;simp[ay,dL,datum,vJ,this,DV.strip,DV.cells]
def prC:Nat->PV
 |0=> .d (.slice true [])
 |i+1=> .tsl 0 i 0
def prA (l:List Pr):Nat->List (Option Arr)
 |0=>[]
 |i+1=>[some ⟨1,(bZ (l.take (i+1))).map au,i,0⟩]
def ah6 (s:Su)(l:List Pr)(i:Nat):St:=
 ⟨[(7, .ptr 0 0),(52, .d (sF (l.map Pr.dv))),(53,pI l.length),(54,pI i)],
  ⟨[some [prC i,pI s.gG,pI s.hours,pI s.lW,pI s.pct,pI 0]],[],prA l i⟩⟩
def adA (v w:Bool)(s:Su)(t:Sp)(hand:Nat)(j:t.pc.ok=true)(hh:hand<t.pc.hands.length):Pure C 167 [.aV (t.cells v w s),dI hand] (pI (Dx s t hand)) []:=by
 have x:1<=t.pc.hands.getD hand default/\t.pc.hands.getD hand default<=t.pc.links.length:=by
  simp only[Pc.ok,Q,aE]at j;have:=j.2 _ (getD_mem hh)
  simpa[inR]using this
 obtain⟨a,r⟩:∃a:Nat,t.pc.hands.getD hand default=a:=⟨(t.pc.hands.getD hand default).toNat,by omega⟩
 have u:=ajB t.pc j a (by omega) (by omega);rw[dA]at u;have j0:(0:Int)<=(hand:Int):=by omega
 refine ah qy aK ?_;simp only[qy,aK,cZ,j0,S,hh,O,getD_map,aH,r,RN,B,F,H,N];refine ak u ?_;simp only[O,RN,F,N];obtain⟨l,k⟩:∃l,l=aP t.pc.links a:=⟨_,rfl⟩
 have z:l.length<=3:=by rw[k,aP,O];exact(Pc.good j).short a (by omega)
 have c:=af9 (s.bil (bZ l)) (by simp only[Su.bil,nH];omega);rw[I5]at c;have g:Dx s t hand=(s.bil (bZ l)).Ue.1:=by rw[Dx,r,k];rfl
 simp only[<-k];refine aG l.length (fun i (_:Unit)=>ah6 s l i) (fun _ _=>True) 0 () (V _) rfl trivial (fun i _ e _=> ?_) (fun _ _=> ?_)
 ·obtain⟨o,p,q⟩:=rng e (by omega)
  have h:(bZ (l.take i)).map au++ [dI (l.getD i default).a,dI (l.getD i default).b]=(bZ (l.take (i+1))).map au:=by
   rw[aU e];simp[bZ,au]
  have m:((bZ (l.take i)).map au).length<=2000000:=by simp only[O,nH,bA];omega
  rcases i with _|i
  ·have apP:[dI (l.getD 0 default).a,dI (l.getD 0 default).b]=(bZ (l.take (0+1))).map au:=by simpa[bZ]using h
   simp only[ah6,prC,prA,o,p,e,O,getD_map,S,kP,Bg,dX,fB,RN,B,F,I,J,N];refine⟨by rintro y (rfl|rfl)<;>rfl,by simp,by simp,?_⟩;rw[apP,q];exact fC 1 1 () e rfl trivial (by simp) (by simp) rfl rfl
  ·simp only[ah6,prC,prA,o,p,e,O,getD_map,S,kP,Bg,dX,fB,RN,B,F,I,J,N]
   refine⟨by rintro y (rfl|rfl)<;>rfl,by simp,?_⟩
   (repeat(refine Z (by first|assumption|rfl|(simp;done)|(simp;omega)) ?_))
   rw[h,q];refine⟨by simpa using a8 m (by decide),?_⟩;exact fC 1 1 () e rfl trivial (by simp) (by simp) rfl rfl
 ·rcases hln:l.length with _|i
  ·have f:l=[]:=List.eq_nil_of_length_eq_zero hln
   subst f;simp only[ah6,prC,prA,ai,RN,B,F,N];refine lu (JE rfl) rfl c rfl ?_;simp only[g,RN]
  ·have n:l.take (i+1)=l:=by rw[<-hln,bB]
   simp only[ah6,prC,prA,hln,ai,n,bI,eU,RN,B,F,N];refine lu (JE (d:= .agg [sF ((bZ l).map au),dI s.gG,dI s.hours,dI s.lW,dI s.pct,dI 0]) (by simp[datum,bY,dY,Mem.row])) rfl c rfl ?_;simp only[g,RN]
def slR (W:Bool)(c:PV)(xs:List DV)(ar:List (Option Arr)):Prop:=
 (c= .d (.slice true [])/\xs=[])\/∃k ver st,c= .tsl k ver 0/\ar[k]?=some (some ⟨1,xs,ver,st⟩)/\st≠2/\(W=true->st=1\/xs=[])
def kOf:PV->Option Nat| .tsl k _ _=>some k| _=>none
def iU (s:Su)(a mb:Nat)(cst cse:PV)(kM:Int):List PV:=[.tsl a 0 0, .tsl (a+1) 0 0, .tsl (a+2) 0 0,pI s.lim,pI s.dvd.dK, .tsl (a+4) 0 0,pI s.cal.ep, .tsl (a+5) 0 0,pI s.jG.n,pI s.jG.d,pI s.jG.ad, .tsl (a+3) 0 0,pI s.year,pI s.gG,pI s.hours,pI s.lW,pI s.pct, .d (sF (s.days.map zZ)),cst, .mref mb,pI kM,cse]
structure gK (s:Su) (a b mb:Nat) (cst cse:PV) (t:Sp) (M:Mem):Prop where
 box:M.boxes[b]?=some (some (iU s a mb cst cse t.kM))
 map:M.boxes[mb]?=some (some [.jr (opD t.op)])
 r0:M.aF[a]?=some (some ⟨3,t.pc.links.map Lk.dv,0,1⟩)
 r1:M.aF[a+1]?=some (some ⟨1,t.pc.hands.map au,0,0⟩)
 r2:M.aF[a+2]?=some (some ⟨2,t.tg.map Fr.dv,0,1⟩)
 r3:M.aF[a+3]?=some (some ⟨4,s.fs.map Fs.dv,0,0⟩)
 r4:M.aF[a+4]?=some (some ⟨1,s.dvd.cir.map au,0,0⟩)
 r5:M.aF[a+5]?=some (some ⟨1,s.cal.cy.map au,0,0⟩)
 stk:slR true cst (t.eP.map au) M.aF
 set:slR false cse (t.sets.map au) M.aF
 kst:∀k,kOf cst=some k->a+6<=k
 kse:∀k,kOf cse=some k->a+6<=k
 dif:∀k,kOf cst=some k->kOf cse≠some k
 nb:b∉M.fz
 nm:mb∉M.fz
 bm:b≠mb
 fzb:∀i∈M.fz,i<M.boxes.length
structure FrS (a b mb:Nat) (M M':Mem):Prop where
 len:M.boxes.length<=M'.boxes.length
 bP:M.aF.length<=M'.aF.length
 box:∀i,i<M.boxes.length->i≠b->i≠mb->M'.boxes[i]?=M.boxes[i]?
 fz:∀i,i<M.boxes.length->(i∈M'.fz↔i∈M.fz)
 row:∀k,k<a->M'.aF[k]?=M.aF[k]?
 fzb:FzB M->FzB M'
def FrS.trans {a b mb:Nat}{M M' c:Mem}(h:FrS a b mb M M')(h':FrS a b mb M' c):FrS a b mb M c:=
 ⟨a8 h.len h'.len,a8 h.bP h'.bP,fun i d h1 h2=>(h'.box i (bu d h.len) h1 h2).trans (h.box i d h1 h2),fun i d=>(h'.fz i (bu d h.len)).trans (h.fz i d),fun k f=>(h'.row k f).trans (h.row k f),fun e=>h'.fzb (h.fzb e)⟩
def aga:Prop:=∀(k ver i:Nat) (zs:List Int) (bs:List (Option (List PV))) (fz:List Nat) (ar:List (Option Arr)) (K:PV->Mem->Prop) (KP:DV->Mem->Prop),ar[k]?=some (some ⟨1,zs.map au,ver,1⟩)->i<zs.length->
 K (.tsl k (ver+1) 0) ⟨bs,fz,ar.set k (some ⟨1,(zs.take i++zs.drop (i+1)).map au,ver+1,1⟩)⟩->SC C 271 [.tsl k ver 0,pI i,pI (i+1:Nat)] ⟨bs,fz,ar⟩ K KP
def YM (v:Int):∀(xs:List Int) (i:Nat),(idx v xs i= -1/\v∉xs)\/∃n,idx v xs i=((i+n:Nat):Int)/\n<xs.length/\xs.take n++xs.drop (n+1)=xs.erase v/\v∈xs
 | [],i=> .inl ⟨rfl,by simp⟩
 |x::xs,i=>by
  rw[idx]
  by_cases h:v=x
  ·subst h
   exact .inr ⟨0,by simp,by simp,by simp,by simp⟩
  ·rcases YM v xs (i+1)with⟨h1,h2⟩|⟨n,h1,h2,a,b⟩
   ·refine .inl ⟨by simp[h,h1],by simp[h,h2]⟩
   ·refine .inr ⟨n+1,by simp[h,h1];omega,by simp;omega,?_,by simp[b]⟩
    have c:¬(x==v)=true:=by simp;exact fun e=>h e.symm
    rw[List.erase_cons_tail c,<-a];simp
variable{W:Bool}{c:PV}{xs:List DV}{bs:List (Option (List PV))}{fz:List Nat}{ar:List (Option Arr)}
def afP (h:slR W c xs ar):∃ex,datum ⟨bs,fz,ar⟩ c=some (.slice ex xs):=by
 rcases h with⟨rfl,rfl⟩|⟨k,ver,st,rfl,h,_⟩
 ·exact⟨true,rfl⟩
 ·exact⟨false,by simp[datum,Mem.row,h]⟩
def GY (h:slR W c xs ar):PV.one c=true/\PV.cells c=[c]/\c.uz=false:=by
 rcases h with⟨rfl,rfl⟩|⟨k,ver,st,rfl,_⟩<;>exact⟨rfl,rfl,rfl⟩
variable{ar':List (Option Arr)}
def rM (h:slR W c xs ar)(hk:∀k A,kOf c=some k->ar[k]?=some (some A)->ar'[k]?=some (some A)):slR W c xs ar':=by
 rcases h with⟨rfl,rfl⟩|⟨k,ver,st,rfl,h1,h2⟩
 ·exact .inl ⟨rfl,rfl⟩
 ·exact .inr ⟨k,ver,st,rfl,hk _ _ rfl h1,h2⟩
def gK.Ry {a b mb:Nat}{cst cse:PV}{t:Sp}(h:gK s a b mb cst cse t ⟨bs,fz,ar⟩){k ver st:Nat}{xs:List Int}(hk:a+6<=k)(hd:kOf cse≠some k)
  (h1:ar'[k]?=some (some ⟨1,xs.map au,ver,st⟩))(h2:∀j,j≠k->j<ar.length->ar'[j]?=ar[j]?)(hl:ar.length<=ar'.length)(f:st≠2/\(st=1\/xs=[])):
  gK s a b mb (.tsl k ver 0) cse {t with eP:=xs} ⟨bs.set b (some (iU s a mb (.tsl k ver 0) cse t.kM)),fz,ar'⟩/\FrS a b mb ⟨bs,fz,ar⟩ ⟨bs.set b (some (iU s a mb (.tsl k ver 0) cse t.kM)),fz,ar'⟩:=by
 have l:b<bs.length:=(U.1 h.box).1;have d:∀(j:Nat) (A:Arr),j≠k->ar[j]?=some (some A)->ar'[j]?=some (some A):=fun j A c g=>by
  rw[h2 j c (U.1 g).1];exact g
 constructor
 ·exact
  {box:=by simp[l]
   map:=by
    have:=h.map;have o:=h.bm;simp only at this⊢;rw[aq o];exact this
   r0:=d _ _ (by omega) h.r0
   r1:=d _ _ (by omega) h.r1
   r2:=d _ _ (by omega) h.r2
   r3:=d _ _ (by omega) h.r3
   r4:=d _ _ (by omega) h.r4
   r5:=d _ _ (by omega) h.r5
   stk:= .inr ⟨k,ver,st,rfl,h1,f.1,fun _=>f.2.imp id fun e=>by simp[e]⟩
   set:=rM h.set fun j A c g=>d j A (fun e=>hd (e▸c)) g
   kst:=fun j c=>by cases c;exact hk
   kse:=h.kse
   dif:=fun j c=>by cases c;exact hd
   nb:=h.nb
   nm:=h.nm
   bm:=h.bm
   fzb:=fun i m=>by simpa using h.fzb i m}
 ·exact
  {len:=by simp
   fzb:=fun q i m=>by have:=q i m;simpa using this
   bP:=hl
   box:=fun i _ p _=>by simp only;rw[aq (Ne.symm p)]
   fz:=fun _ _=>Iff.rfl
   row:=fun j c=>by
    by_cases n:j<ar.length
    ·exact h2 j (by omega) n
    ·exact absurd (U.1 h.r0).1 (by simp only;omega)}
def adS (f:aga){s:Su}{a b mb:Nat}{cst cse:PV}{t:Sp}{M:Mem}(h:gK s a b mb cst cse t M)(v:Int)(hl:t.eP.length<=1000000):
  SC C 209 [.ptr b 0,pI v] M (fun p M'=>(v∉t.eP/\p= .d (.bool false)/\M'=M)\/(v∈t.eP/\p= .d (.bool true)/\∃tK,gK s a b mb tK cse {t with eP:=t.eP.erase v} M'/\FrS a b mb M M'/\kOf tK=kOf cst/\(∃k ver,tK= .tsl k ver 0/\M'.aF[k]?=some (some ⟨1,(t.eP.erase v).map au,ver,1⟩))/\∀k,kOf cst≠some k->M'.aF[k]?=M.aF[k]?)) (fun _ _=>False):=by
 obtain⟨bs,fz,ar⟩:=M;have c:=h.box;rw[iU]at c;have i:=h.nb;simp only at c i;obtain⟨H,I,J⟩:=GY h.stk;obtain⟨ex,q⟩:=afP (bs:=bs) (fz:=fz) h.stk;refine aC rH aK ?_;simp only[rH,aK,c,RN,B,F,N];refine lu (uf q) rfl (Rk t.eP v hl) rfl ?_
 rcases YM v t.eP 0 with⟨h1,h2⟩|⟨n,h1,h2,D,o⟩
 ·have w:idx v t.eP 0<0:=by omega
  simp only[w,RN,B];exact .inl h2
 ·have w:¬(n:Int)<0:=by omega
  have x:b0 .i64 ((n:Int)+1)=((n+1:Nat):Int):=by rw[aB (by omega)];omega
  have y:idx v t.eP 0=(n:Int):=by omega
  have l:t.eP≠[]:=fun e=>by rw[e]at o;cases o
  rcases h.stk with⟨_,m⟩|⟨k,ver,st,rfl,m,G,E⟩
  ·exact absurd (by simpa using m) l
  ·have u:st=1:=(E rfl).resolve_right (by simpa using l)
   subst u;simp only[w,c,x,y,RN,B,F,N];refine f k ver n t.eP _ _ _ _ _ m h2 ?_;simp only[c,i,dX,fB,RN,F,N];rw[D];have g:k<ar.length:=(U.1 m).1;obtain⟨z,A⟩:=h.Ry (k:=k) (ver:=ver+1) (st:=1) (xs:=t.eP.erase v) (ar':=ar.set k (some ⟨1,(t.eP.erase v).map au,ver+1,1⟩)) (h.kst k rfl) (h.dif k rfl) (by simp[g]) (fun j r _=>aq (Ne.symm r)) (by simp) ⟨by decide, .inl rfl⟩;exact .inr ⟨o,_,z,A,rfl,⟨k,_,rfl,by simp[g]⟩,fun j r=>aq (fun e=>r (by rw[e];rfl))⟩
section
variable {C:Ctx}{base:Nat}{KP:DV->Mem->Prop}{K:PV->Mem->Prop}{M:Mem}
def QN {t:TypeId}{x:DV}:ay C base .panic [.d (.iface t x)] M K KP=KP (.iface t x) M:=by
 have:=EX (M:=M) (ds:=[DV.iface t x]);simp only[ap,av]at this;simp only[ay,datum,this]
def fQ {f:FuncId}{fs cs:List DV}{args:List PV}:ay C base .jR (.d (.func (.func f) fs cs)::args) M K KP=(callable C.P f=true/\SC C f (fs.map .d++args++cs.map .d) M K KP):=px
end
def IJ (d:DV):Prop:=∃y,d= .iface T.jm (.agg [y])/\PV.cells (.d y)=[.d y]/\y.one=true
variable{x:DV}{M:Mem}{K:PV->Mem->Prop}{KP:DV->Mem->Prop}
def DZ (h:K (.d (.tup [])) M):SC C 207 [.d (.bool true), .d (.aV [x])] M K KP:=by
 obtain⟨bs,fz,ar⟩:=M;refine aC jy gY ?_;simp only[jy,gY,RN,B,F];exact h
def xR (hx:PV.cells (.d x)=[.d x]/\x.one=true)(h:KP (.iface T.jm (.agg [x])) M):SC C 207 [.d (.bool false), .d (.aV [x])] M K KP:=by
 obtain⟨bs,fz,ar⟩:=M;refine aC jy gY ?_;simp only[jy,gY,hx.1,OD,QN,RN,B,F,N];exact h
def gq:List (Int×Fr)->Int->Option Fr
 | [],_=>none
 |p::l,h=>if h=p.1 then some p.2 else gq l h
def Bq:List (Int×Fr)->Int->List (Int×Fr)
 | [],_=>[]
 |p::l,h=>if h=p.1 then l else p::Bq l h
def Fp (p:Int×Fr)(l:List (Int×Fr)):opD (p::l)=(dI p.1,p.2.dv)::opD l:=rfl
def ahD (h n:Int):iY [] (dI h) (dI n)=some (h==n):=by simp[iY]
def GZ (l:List (Int×Fr))(h:Int):qM [] (opD l) (dI h)=some ((gq l h).map Fr.dv):=by
 induction l with
 |nil=>rfl
 |cons p l b=>
  rw[Fp,qM,ahD,gq]
  by_cases a:h=p.1
  ·have b1:(h==p.1)=true:=by simp[a]
   rw[b1,if_pos a];rfl
  ·have b1:(h==p.1)=false:=beq_false_of_ne a
   rw[b1,if_neg a];exact b
def anE (l:List (Int×Fr))(h:Int)(f:Fr)(a:gq l h=none):Ed [] (opD l) (dI h) f.dv=some (opD (l++ [(h,f)])):=by
 induction l with
 |nil=>rfl
 |cons p l c=>
  rw[gq]at a
  by_cases b:h=p.1
  ·rw[if_pos b]at a;cases a
  ·have b1:(h==p.1)=false:=beq_false_of_ne b
   rw[if_neg b]at a;rw[Fp,Ed,ahD,b1];simp only[c a,bL,bw,Fp]
def anD (l:List (Int×Fr))(h:Int):Ec [] (opD l) (dI h)=some (opD (Bq l h)):=by
 induction l with
 |nil=>rfl
 |cons p l b=>
  rw[Fp,Ec,ahD,Bq]
  by_cases a:h=p.1
  ·have b1:(h==p.1)=true:=by simp[a]
   rw[b1,if_pos a]
  ·have b1:(h==p.1)=false:=beq_false_of_ne a
   rw[b1,if_neg a];simp only[b,bL,Fp]
def oW (eP a:List Int)(b new:Int):Option (List Int×List Int):=if b=new then some (eP,a)else if new∈eP then some (eP.erase new,a++ [b])else none
def doS (s:Su)(t:Sp):De->Option Sp
 | .cut n=>if(s.dvd.cuts n).2=0/\t.eP.length<8 then some {t with eP:=t.eP++ [n]}else none
 | .change c=>
  if t.pc.EO c&&((t.pc.lV (t.pc.changed c)).all fun h=>(gq t.op h).isSome)then
   let e:=(t.pc.links.getD c.link.toNat default).pr
   match oW t.eP [] e.a c.pr.a with
   |none=>none
   |some (j,g)=>match oW j g e.b c.pr.b with
    |none=>none
    |some (k,i)=>some {t with pc:=t.pc.changed c,eP:=k++i}
  else none
 | .order h f=>if(gq t.op h).isSome then none else some {t with op:=t.op++ [(h,f)]}
 | .serve h kM=>match gq t.op h with
  |none=>none
  |some f=>if HY s t h f 100&&decide (kM>=Dx s t h.toNat)then some {t with op:=Bq t.op h,tg:=t.tg.set h.toNat f,kM:=t.kM+kM}else none
 | .set d=>if(s.days.getD (d - 1).toNat default).2&&(t.sets.isEmpty||decide (d>t.sets.getD (t.sets.length - 1) default))then some {t with sets:=t.sets++ [d]}else none
 | .strike _=>some t
def aai {s:Su}{a b mb:Nat}{cst cse:PV}{t:Sp}(h:gK s a b mb cst cse t M):∃c e,datum M (.ptr b 0)=some (.aV [sF (t.pc.links.map Lk.dv),sF (t.pc.hands.map au),sF (t.tg.map Fr.dv),dI s.lim,dI s.dvd.dK,sF (s.dvd.cir.map au),dI s.cal.ep,sF (s.cal.cy.map au),dI s.jG.n,dI s.jG.d,dI s.jG.ad,sF (s.fs.map Fs.dv),dI s.year,dI s.gG,dI s.hours,dI s.lW,dI s.pct,
 sF (s.days.map zZ), .slice c (t.eP.map au), .map (some (opD t.op)),dI t.kM, .slice e (t.sets.map au)]):=by
 have h1:=h.box;have h2:=h.map;rw[iU]at h1
 rcases h.stk with⟨rfl,c⟩|⟨k,ver,st,rfl,c,_⟩<;>rcases h.set with⟨rfl,e⟩|⟨g,aqy,f,rfl,e,_⟩
 ·exact⟨true,true,by simp[datum,bY,dY,Mem.box,Mem.row,h1,h2,h.r0,h.r1,h.r2,h.r3,h.r4,h.r5,c,e]⟩
 ·exact⟨true,false,by simp[datum,bY,dY,Mem.box,Mem.row,h1,h2,h.r0,h.r1,h.r2,h.r3,h.r4,h.r5,c,e]⟩
 ·exact⟨false,true,by simp[datum,bY,dY,Mem.box,Mem.row,h1,h2,h.r0,h.r1,h.r2,h.r3,h.r4,h.r5,c,e]⟩
 ·exact⟨false,false,by simp[datum,bY,dY,Mem.box,Mem.row,h1,h2,h.r0,h.r1,h.r2,h.r3,h.r4,h.r5,c,e]⟩
end Go.Tel
