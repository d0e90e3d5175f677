/-
  Part 5 of a law of desks.
  Conditions: none.
-/
import Derived.Test.YtbefoehadfnkbaaGreatDoorJourneymanRefusesM04
set_option linter.all false
set_option maxRecDepth 10000
set_option maxHeartbeats 4000000
open Nat renaming reduceBEq->B,reduceAdd->F,reduceSub->H,reduceEqDiff->I,reduceLT->J,reduceLeDiff->N,zero_le->V,le_trans->bc,lt_of_lt_of_le->bv,le_refl->bE
open List renaming length_map->O,getElem?_eq_some_iff->U,getElem?_append_left->an,getElem?_set_ne->ap,mem_map->aq,map_cons->av,mem_cons->aw,map_append->ax,map_nil->aE,all_eq_true->aL,drop_length->aM,mem_of_mem_take->aR,take_succ_cons->a8,getD_eq_getElem?_getD->bd,range_succ->bo,drop_zero->br,take_zero->bt,all_cons->bu,getElem?_set->bw,length_cons->bz,length_take->bA,take_length->bB,range->bL,drop_nil->bO
open Bool renaming and_eq_true->Q,false_eq_true->ae,false_and->aD,and_self->bj,true_and->bN
open Int renaming toNat_natCast->S,lt_irrefl->ai,lt_of_mul_lt_mul_right->am,tmod_lt_of_pos->ao,add_mul->az,tmod_nonneg->a7,le_refl->bi,natCast_zero->bk,mul_tdiv_add_tmod->bp,mul_le_mul->bq,sub_mul->bR
open And renaming intro->Z
open Option renaming map_none->ab,isSome_none->be,isSome_some->bh,getD_some->bl
open Go.IntKind renaming wrap->bS
namespace Go.Tel
open Go.Am
def OY (p q:Pc)(hand:Int)(to:Fr):Bool:=
 Fa ((fP q.links).getD (p.hands.getD hand.toNat default).toNat default) to&&(match p.rF q with| []=>true| [x]=>x==hand| _=>false)
def anK (p q:Pc)(hand:Int)(to:Fr)(s:0<=hand)(h1:hand.toNat<p.hands.length)(hh:p.hands.length<=1000)(t:Ei (fP p.links))(k:Ei (fP q.links))(j:∀n∈p.hands,1<=n/\n.toNat<(fP p.links).length/\n.toNat<(fP q.links).length)(o:to.ok=true):
  Pure C 246 [uo p,uo q,dI hand,to.dv] (.d (.bool (OY p q hand to))) []:=by
 have m:=bU (SC.mono (U6 p q hh t k j) fun _ _ h=>h.datum);obtain⟨u,v,r⟩:=j _ (getD_mem h1);have g:0<=p.hands.getD hand.toNat default:=by omega
 have b:(0<=to.n/\to.n<=50000)/\1<=to.d/\to.d<=50000:=by
  simp only[Fr.ok,inR,Q,decide_eq_true_eq,ge_iff_le]at o;exact o
 have a:=UQ _ to (k _ (getD_mem r)) ⟨⟨b.1.1,by omega⟩,b.2.1,by omega⟩;refine ayF xW Bz ?_;simp only[uo,bW]at m a⊢;simp only[xW,Bz,s,h1,g,r,getD_map,aI,bW,O,RN,B,F,N];refine ayG a ?_;cases i:Fa ((fP q.links).getD (p.hands.getD hand.toNat default).toNat default) to
 ·(try simp only[RN,B,F])
  simp only[OY,i,aD]
 ·(try simp only[RN,B,F,N])
  refine ayG m ?_;have f:OY p q hand to=(match p.rF q with| []=>true| [x]=>x==hand| _=>false):=by simp only[OY,i,bN]
  rw[f];generalize p.rF q=sp;simp only[O,RN,F]
  match sp with
  | []=>simp only[bk,BEq.rfl,RN,B]
  | [x]=>
   have c:((((0+1:Nat):Int))==0)=false:=by decide
   have e:((((0+1:Nat):Int))==1)=true:=by decide
   simp only[c,e,aI,bi,Int.toNat_zero,RN,B,J,N]
  |x::y::l=>
   have c:((((l.length+1+1:Nat):Int))==0)=false:=by simp;omega
   have e:((((l.length+1+1:Nat):Int))==1)=false:=by simp;omega
   simp only[c,e,O,RN,B]
variable{K:St->Prop}{ts:List Nat}{env:List (Nat×PV)}
def Tf {bs:List (Option (List PV))}{fz:List Nat}{ar:List (Option Arr)}{k ver skip t sz st:Nat}{xs:List DV}(h:ar[k]?=some (some ⟨sz,xs,ver,st⟩)):
  QN (.tsl k ver skip) t ts K env ⟨bs,fz,ar⟩=tH ts K ⟨(t, .d (sF (xs.drop skip)))::env,⟨bs,fz,ar.set k (some ⟨sz,xs,ver,2⟩)⟩⟩:=by
 have b:=(U.1 h).1;have e:ar.modify k (Option.map fun A=>{A with st:=2})=ar.set k (some ⟨sz,xs,ver,2⟩):=by
  apply List.ext_getElem?;intro i;rw[List.getElem?_modify,bw]
  by_cases a:k=i
  ·subst a;simp only[h,b,if_true];rfl
  ·simp[a]
 simp[QN,datum,Mem.row,h,Mem.frz,lF,lG,JM,e]
def aoX {t:Nat}{x:DV}{M:Mem}:QN (.d x) t ts K env M=tH ts K ⟨(t, .d x)::env,M⟩:=by
 have:=FV (M:=M) (ds:=[x]);simp only[av,aE]at this;simp only[QN,datum,this]
def uN {nb na:Nat}{α:Type}{a:α}{E:α->St}{P:α->Prop}{μ:α->Nat}{m:Mem}(b:α)(f:μ b<μ a)(hs:(⟨env,m⟩:St)=E b)(e:P b):
  ∃d c,d<μ a/\Weak nb na ⟨env,m⟩ c/\whJ E P μ d c:=⟨μ b,_,f, .inl rfl,b,rfl,hs,e⟩
def ZK (p:Pc)(link:Nat)(a:Int):Nat->Int->List Chg
 |0,_=>[]
 |k+1,b=>(if(⟨a,b⟩:Pr)=(p.links.getD link default).pr then[]else[⟨link,⟨a,b⟩⟩])++ZK p link a k (b+1)
def Ws (p:Pc)(least:Int)(w:Nat)(link:Nat):Nat->Int->List Chg
 |0,_=>[]
 |k+1,a=>ZK p link a w least++Ws p least w link k (a+1)
def O9 (p:Pc)(least:Int)(w:Nat):Nat->Nat->List Chg
 |0,_=>[]
 |k+1,link=>Ws p least w link w least++O9 p least w k (link+1)
def jI (p:Pc)(hand:Int)(to:Fr)(least:Int)(w:Nat):Nat->Pc->Nat->Option (List Chg)
 |0,a,_=>if OY p a hand to then some []else none
 |k+1,a,fr=>(O9 p least w (p.links.length - fr) fr).findSome? fun c=>(jI p hand to least w k (a.changed c) (c.link.toNat+1)).map (c::·)
def xg {p:Pc}{hand:Int}{to:Fr}{least:Int}{w:Nat}:∀{k:Nat} {now:Pc} {fr:Nat} {l:List Chg},jI p hand to least w k now fr=some l->l.length=k
 |0,now,fr,l,h=>by
  simp only[jI]at h
  split at h
  ·cases h;rfl
  ·cases h
 |k+1,now,fr,l,h=>by
  simp only[jI]at h;obtain⟨c,_,h⟩:=List.exists_of_findSome?_eq_some h;rw[Option.map_eq_some_iff]at h;obtain⟨m,h1,rfl⟩:=h;rw[bz,xg h1]
def aiP (xs:List Chg):∀y∈xs.map Chg.dv,y.fits 3=true:=by
 intro y a;obtain⟨n,_,rfl⟩:=aq.1 a;rfl
def Ia (r:Option (List Chg)):DV:= .tup [sF ((r.getD []).map Chg.dv), .bool r.isSome]
def Pc.changes (p:Pc)(least most hand:Int)(f:Fr):List Chg×Int:=
 if p.ok&&(aT least&&aT most&&decide (least<=most))&&decide (most - least<=10)&&inR hand 0 (p.hands.length - 1)&&f.ok then
  (match jI p hand f least (most - least+1).toNat 0 p 0 with
  |some l=>(l,0)
  |none=>match jI p hand f least (most - least+1).toNat 1 p 0 with
   |some l=>(l,0)
   |none=>match jI p hand f least (most - least+1).toNat 2 p 0 with
    |some l=>(l,0)
    |none=>([],5))
 else([],2)
structure Now (p now:Pc):Prop where
 len:now.links.length=p.links.length
 lk:linked now.links
 pr:∀l∈now.links,l.pr.ok=true
def Now.changed {p now:Pc}(h:Now p now){c:Chg}(hc:c.pr.ok=true):Now p (now.changed c):=by
 refine⟨by simp[Pc.changed,h.len],fun i a=> ?_,fun l d=> ?_⟩
 ·simp only[Pc.changed,List.length_set]at a
  have:=h.lk i a
  by_cases b:c.link.toNat=i
  ·subst b
   simpa[Pc.changed,bd,a]using this
  ·simpa[Pc.changed,bd,bw,b]using this
 ·rcases List.mem_or_eq_of_mem_set d with h'|h'
  ·exact h.pr l h'
  ·rw[h'];exact hc
section
variable {p:Pc}{hand:Int}{to:Fr}{least most:Int}{bs:Nat}
def XQ (p:Pc):DV:= .aW [sF (p.links.map Lk.dv),sF (p.hands.map ay),sF ((fP p.links).map Fr.dv)]
def ae8 (p:Pc):DV:= .aW [sF (p.links.map Lk.dv),sF (p.hands.map ay)]
def searchFn (p:Pc)(hand:Int)(to:Fr)(least most:Int)(bs:Nat):PV:=
 .func (.func 245) [] [.d (XQ p), .d (.aW [dI hand]), .d (.aW [dI to.n,dI to.d]), .d (ae8 p), .d (.aW [dI least]), .d (.aW [dI most]), .ptr bs 0]
def SearchM (p:Pc)(hand:Int)(to:Fr)(least most:Int)(bs:Nat)(M M':Mem):Prop:=
 M'.boxes[bs]?=some (some [searchFn p hand to least most bs])/\M.boxes.length<=M'.boxes.length/\M.aB.length<=M'.aB.length/\∀i∈M'.fz,i<M'.boxes.length
def ahR (u:p.Good)(h0:0<=hand)(h1:hand.toNat<p.hands.length)(a5:to.ok=true)(Z:aT least=true)(ae:aT most=true)(bi:least<=most):
  ∀(k:Nat) (now:Pc) (fr:Nat) (M:Mem),k<=2->Now p now->fr<=p.links.length->M.boxes[bs]?=some (some [searchFn p hand to least most bs])->(∀i∈M.fz,i<M.boxes.length)->
   SC C 245 [.d now.dv,pI fr,pI k, .d (XQ p), .d (.aW [dI hand]), .d (.aW [dI to.n,dI to.d]), .d (ae8 p), .d (.aW [dI least]), .d (.aW [dI most]), .ptr bs 0] M
    (fun v M'=>v= .d (Ia (jI p hand to least (most - least+1).toNat k now fr))/\SearchM p hand to least most bs M M') (fun _ _=>False):=by
 intro k
 induction k with
 |zero=>
  intro now fr ⟨bx,fz,ar⟩ hk j W e r;simp only at e r;refine ayH uf aeC ?_;have aE:=u.l2;have hw:=Zq now (by have:=j.len;omega) j.lk j.pr;have am:=anK p now hand to h0 h1 (by have:=u.h2;omega) (Ej u.lk u.pr u.l2) (Ej j.lk j.pr (by have:=j.len;omega)) (fun n hn=>by
   have a1:=(uq u.lk u.pr).2;have a2:=(uq j.lk j.pr).2;have K:=u.hd n hn;have:=j.len;omega) a5
  simp only[dZ,uo,bW]at hw am⊢;simp only[uf,aeC,zZ,Rk,bk,BEq.rfl,XQ,ae8,RN,B,F,J,N];refine ayG hw ?_;refine ayG am ?_;simp only[Tf (k:=(ar++ [some (⟨3,[],0,0⟩:Arr)]).length) zZ,bO,RN,B,];have D:(bx++ [some [PV.d (sF (now.links.map Lk.dv)), .d (sF (now.hands.map ay))]])[bs]?=some (some [searchFn p hand to least most bs]):=by rw[an (U.1 e).1];exact e
  refine⟨?_,D,by simp,by simp,fun i hi=> ?_⟩
  rotate_left
  ·rcases aw.1 hi with rfl|hi
   ·simp
   ·have:=r i hi;simp;omega
  cases hc:OY p now hand to<;>simp only[jI,hc]<;>rfl
 |succ k ih=>
  intro now fr ⟨bx,fz,ar⟩ hk j W e r;simp only at e r;refine ayH uf aeC ?_;have aE:=u.l2;have a7:4<=least/\least<=60:=by simp only[aT,inR,Q,decide_eq_true_eq,ge_iff_le]at Z;exact Z
  have asW:4<=most/\most<=60:=by simp only[aT,inR,Q,decide_eq_true_eq,ge_iff_le]at ae;exact ae
  obtain⟨w,hw⟩:∃w:Nat,most - least+1=w:=⟨(most - least+1).toNat,by omega⟩
  obtain⟨R,hR⟩:∃R,R=jI p hand to least (most - least+1).toNat (k+1) now fr:=⟨_,rfl⟩
  obtain⟨f,hf⟩:∃f:Chg->Option (List Chg),f=fun c=>(jI p hand to least (most - least+1).toNat k (now.changed c) (c.link.toNat+1)).map (c::·):=⟨_,rfl⟩
  have ap:R=(O9 p least w (p.links.length - fr) fr).findSome? f:=by rw[hR,hf];simp only[jI,hw,S]
  rw[<-hR];have a0:(((k+1:Nat):Int)==0)=false:=by simp;omega
  have ek:bS .i64 (((k+1:Nat):Int) - 1)=(k:Int):=by rw[aF (by omega)];omega
  have D:(bx++ [some [PV.d (sF (now.links.map Lk.dv)), .d (sF (now.hands.map ay))]])[bs]?=some (some [searchFn p hand to least most bs]):=by rw[an (U.1 e).1];exact e
  simp only[dZ];simp only[uf,aeC,zZ,Rk,a0,XQ,ae8,RN,B,F,J];refine jo (fun(q:Nat×Mem)=>⟨[(2, .d (dI ((k+1:Nat):Int))),(6, .d (.aW [sF (p.links.map Lk.dv),sF (p.hands.map ay)])),(7, .d (.aW [dI least])),(8, .d (.aW [dI most])),(9, .ptr bs 0),(10, .d (.aW [sF (now.links.map Lk.dv),sF (now.hands.map ay)])),(15,pI q.1)],q.2⟩)
   (fun q=>q.1<=p.links.length/\SearchM p hand to least most bs ⟨bx,fz,ar⟩ q.2/\R=(O9 p least w (p.links.length - q.1) q.1).findSome? f) (fun q=>p.links.length - q.1) (fr,_) rfl ⟨W,⟨D,by simp,by simp,fun i hi=>by
    rcases aw.1 hi with rfl|hi
    ·simp
    ·have:=r i hi;simp;omega⟩,ap⟩ ?_
  rintro⟨link,M1⟩ ⟨g1,I,L⟩;simp only at g1 I L⊢
  by_cases aM:link<p.links.length
  case neg=>
   have s:¬((link:Int)<(p.links.length:Int)):=by omega
   have:p.links.length - link=0:=by omega
   rw[this,O9,List.findSome?_nil]at L;simp only[s,O,RN,B,F,J,N];obtain⟨b1,f1,a1⟩:=M1;simp only[Tf (k:=a1.length) zZ,bO,RN,B];exact⟨by rw[L];rfl,I.1,I.2.1,bc I.2.2.1 (by simp),I.2.2.2⟩
  have s:((link:Int)<(p.links.length:Int)):=by omega
  obtain⟨n1,aR⟩:∃n1,p.links.length - link=n1+1:=⟨p.links.length - link - 1,by omega⟩
  have ai:p.links.length - (link+1)=n1:=by omega
  rw[aR,O9]at L;simp only[s,O,RN,B,F,N];refine jo (fun(q:Nat×Mem)=>⟨[(2, .d (dI ((k+1:Nat):Int))),(6, .d (.aW [sF (p.links.map Lk.dv),sF (p.hands.map ay)])),(7, .d (.aW [dI least])),(8, .d (.aW [dI most])),(9, .ptr bs 0),(10, .d (.aW [sF (now.links.map Lk.dv),sF (now.hands.map ay)])),(15,pI link),(16, .d (dI (least+(w - q.1:Nat))))],q.2⟩)
   (fun q=>q.1<=w/\SearchM p hand to least most bs ⟨bx,fz,ar⟩ q.2/\R=(Ws p least w link q.1 (least+(w - q.1:Nat))++O9 p least w n1 (link+1)).findSome? f) (fun q=>q.1) (w,M1) (by simp) ⟨bE _,I,by simpa using L⟩ ?_
  rintro⟨m,M2⟩ ⟨k1,k2,A⟩;simp only at k1 k2 A⊢
  match m,k1,A with
  |0,k1,A=>
   have G:¬(least+((w - 0:Nat):Int)<=most):=by omega
   have h6:bS .i64 ((link:Int)+1)=((link+1:Nat):Int):=by rw[aF (by omega)];omega
   simp only[G,h6,RN,B,N];refine uN (μ:=fun q:Nat×Mem=>p.links.length - q.1) (a:=(link,M1)) (link+1,M2) (by simp only;omega) rfl ⟨by simp only;omega,k2,?_⟩;simp only[ai]
   simpa[Ws]using A
  |m+1,k1,A=>
   obtain⟨a,ha⟩:∃a:Int,a=least+((w - (m+1):Nat):Int):=⟨_,rfl⟩
   have ab:a<=most:=by omega
   have ao:bS .i64 (a+1)=least+((w - m:Nat):Int):=by rw[aF (by omega)];omega
   have aq:a+1=least+((w - m:Nat):Int):=by omega
   simp only[<-ha]at A⊢;rw[Ws,aq,List.append_assoc]at A;simp only[ab,RN,B,N];refine jo (fun(q:Nat×Mem)=>⟨[(2, .d (dI ((k+1:Nat):Int))),(6, .d (.aW [sF (p.links.map Lk.dv),sF (p.hands.map ay)])),(7, .d (.aW [dI least])),(8, .d (.aW [dI most])),(9, .ptr bs 0),(10, .d (.aW [sF (now.links.map Lk.dv),sF (now.hands.map ay)])),(15,pI link),(16,pI a),(17, .d (dI (least+(w - q.1:Nat))))],q.2⟩)
    (fun q=>q.1<=w/\SearchM p hand to least most bs ⟨bx,fz,ar⟩ q.2/\R=(ZK p link a q.1 (least+(w - q.1:Nat))++(Ws p least w link m (least+(w - m:Nat))++O9 p least w n1 (link+1))).findSome? f) (fun q=>q.1) (w,M2) (by simp) ⟨bE _,k2,by simpa using A⟩ ?_
   rintro⟨v,⟨t,H,K⟩⟩ ⟨q1,q2,g⟩;simp only at q1 q2 g⊢
   match v,q1,g with
   |0,q1,g=>
    have G:¬(least+((w - 0:Nat):Int)<=most):=by omega
    simp only[G,ao,RN,B,N];exact uN (μ:=fun q:Nat×Mem=>q.1) (a:=(m+1,M2)) (m,⟨t,H,K⟩) (by simp only;omega) rfl ⟨by simp only;omega,q2,by simpa[ZK]using g⟩
   |v+1,q1,g=>
    obtain⟨b,hb⟩:∃b:Int,b=least+((w - (v+1):Nat):Int):=⟨_,rfl⟩
    have ac:b<=most:=by omega
    have aqS:bS .i64 (b+1)=least+((w - v:Nat):Int):=by rw[aF (by omega)];omega
    have av:b+1=least+((w - v:Nat):Int):=by omega
    simp only[<-hb]at g⊢;rw[ZK,av]at g;have Y:(0:Int)<=(link:Int):=by omega
    obtain⟨s1,s2,s3,s4⟩:=q2;simp only at s1 s2 s3 s4;have a4:¬t.length∈H:=fun h=>by have:=s4 _ h;omega
    have T:=(U.1 s1).1;simp only[ac,zZ,Rk,a4,Y,aM,getD_map,S,O,nI,SH,ae6,RN,B,F,N];cases he:((a==(p.links.getD link default).pr.a)&&(b==(p.links.getD link default).pr.b))
    ·(try simp only[RN,B,F,N])
     have E:¬(⟨a,b⟩:Pr)=(p.links.getD link default).pr:=by have:=afv (v:=⟨a,b⟩) (x:=(p.links.getD link default).pr);rw[this]at he;simpa using he
     rw[if_neg E,List.singleton_append,List.cons_append,List.findSome?_cons]at g;have P:∀x,(t++ [x])[bs]?=some (some [searchFn p hand to least most bs]):=fun x=>by rw[an T];exact s1
     have aqs:∀x:Option (List PV),bs<(t++ [x]).length:=fun x=>by simp;omega
     have aL:bS .i64 ((link:Int)+1)=((link+1:Nat):Int):=by rw[aF (by omega)];omega
     have a8:=j.len;have az:(⟨a,b⟩:Pr).ok=true:=by simp[Pr.ok,aT,inR];omega
     have V:=Wy now ⟨link,⟨a,b⟩⟩ (by omega) Y (by simp;omega);simp only[dZ,sW]at V;simp only[P,aqs,searchFn,ek,aL,RN,N];refine ayG V ?_;have z:(jI p hand to least (most - least+1).toNat k (now.changed ⟨link,⟨a,b⟩⟩) (link+1)).map ((⟨link,⟨a,b⟩⟩:Chg)::·)=f ⟨link,⟨a,b⟩⟩:=by rw[hf];rfl
     obtain⟨o,ams⟩:∃o,o=t++ [some [PV.d (dI (link:Int)),PV.d (dI a),PV.d (dI b)]]:=⟨_,rfl⟩
     have ax:o[bs]?=some (some [searchFn p hand to least most bs]):=by rw[ams];exact P _
     have aD:∀i∈t.length::H,i<o.length:=fun i hi=>by
      rw[ams]
      rcases aw.1 hi with rfl|hi
      ·simp
      ·have:=s4 i hi;simp;omega
     have X:=ih (now.changed ⟨link,⟨a,b⟩⟩) (link+1) ⟨o,t.length::H,K⟩ (by omega) (j.changed az) (by omega) ax aD;simp only[dZ]at X;rw[<-ams];refine Le (args:=[_,_,_]) (by kernel_rfl) (fs:=[]) ?_;refine SC.mono X ?_;rintro v1 ⟨b6,f6,a6⟩ ⟨rfl,r1,r2,r3,r4⟩;simp only at r1 r2 r3 r4;have a9:t.length+1<=b6.length:=by rw[ams]at r2;simpa using r2
     cases hS:jI p hand to least (most - least+1).toNat k (now.changed ⟨link,⟨a,b⟩⟩) (link+1)with
     |none=>
      rw[hS]at z;rw[<-z]at g;simp only[Ia,be,aqS,RN,B];exact uN (μ:=fun q:Nat×Mem=>q.1) (a:=(v+1,⟨t,H,K⟩)) (v,⟨b6,f6,a6⟩) (by simp only;omega) rfl ⟨by simp only;omega,⟨r1,by simp only;omega,by simp only;omega,r4⟩,g⟩
     |some l=>
      rw[hS]at z;rw[<-z]at g;simp only[Ia,bh,bl,DV.strip,JE,RN,B,F,J,N];have bd:=xg hS;refine⟨aiP l,(fun h=>by cases h),(fun y hy=>by subst hy;rfl),by rw[O];omega,?_⟩;simp only[Tf (k:=a6.length) zZ,aoX,br,RN,B];exact⟨by rw[g];simp[sW],r1,by simp only;omega,by simp;omega,r4⟩
    ·have E:(⟨a,b⟩:Pr)=(p.links.getD link default).pr:=by have:=afv (v:=⟨a,b⟩) (x:=(p.links.getD link default).pr);rw[this]at he;simpa using he
     rw[if_pos E,List.nil_append]at g;simp only[aqS,RN,B];refine uN (μ:=fun q:Nat×Mem=>q.1) (a:=(v+1,⟨t,H,K⟩)) (v,_) (by simp only;omega) rfl ⟨by simp only;omega,⟨?_,by simp;omega,s3,fun i hi=> ?_⟩,g⟩
     ·rw[an T];exact s1
     ·rcases aw.1 hi with rfl|hi
      ·simp
      ·have:=s4 i hi;simp;omega
end
def ale (a b:Int):Pure C 242 [dI a,dI b] (.d (.bool (aT a&&aT b&&decide (a<=b)))) []:=by
 refine ayF EX aJ ?_;simp only[EX,aJ,RN,B,F]
 repeat' first
  |(refine ayG (Vq _) ?_;try simp only[RN,B,F,H,I,J,N])
  |(refine bF (by rfl) (fun c=> ?_) (fun c=> ?_)<;>simp only[c,RN,B])
  |(refine bJ (by rfl) (fun c=> ?_) (fun c=> ?_)<;>simp only[c,RN,B,F,H,I,J,N])
 all_goals(first|(simp only[aT, *,BSN];done)|(simp_all[aT];done)|(simp_all[aT];omega))
def afT (p:Pc)(least most hand:Int)(f:Fr)(hl:p.links.length<=1000)(hh:p.hands.length<=1000)(hb: -1000000<=most/\most<=1000000)(X: -1000000<=least/\least<=1000000):
  Pure C 169 [p.dv,dI least,dI most,dI hand,f.dv] (.d (.tup [.slice ((p.changes least most hand f).2 !=0) ((p.changes least most hand f).1.map Chg.dv),dI (p.changes least most hand f).2])) []:=by
 have y:=vP p hl hh;have m:=anF f;have K:bS .i64 ((p.hands.length:Int) - 1)=(p.hands.length:Int) - 1:=aF (by omega);have L:bS .i64 (most - least)=most - least:=aF (by omega);refine ayF ET akM ?_;simp only[dZ,bW]at y m⊢;simp only[ET,akM,RN,B,F,N]
 repeat' first
  |(refine ayG (y) ?_;try simp only[RN])
  |(refine ayG (ale _ _) ?_;try simp only[RN])
  |(refine ayG (Hl _ _ _) ?_;try simp only[RN])
  |(refine ayG (m) ?_;try simp only[RN])
  |(refine bF (by rfl) (fun k=> ?_) (fun k=> ?_)<;>simp only[k,K,L,O,RN,B,F,N])
  |(refine bJ (by rfl) (fun k=> ?_) (fun k=> ?_)<;>simp only[k,RN,B,F,H,N])
 all_goals first
  |(
   have v:p.changes least most hand f=([],2):=by
    rw[Pc.changes,if_neg];intro hh;simp only[Q,decide_eq_true_eq]at hh;obtain⟨⟨⟨⟨o,⟨q,a⟩,Z⟩,q5⟩,q6⟩,q7⟩:=hh;have V:¬most<least:=by omega
    have W:¬10<most - least:=by omega
    simp_all
    done
   rw[v]
   rfl)
  |skip
 have z:p.ok=true:=by simp_all
 have h2:(aT least&&aT most&&decide (least<=most))=true:=by simp_all
 have R:most - least<=10:=by simp_all
 have w:inR hand 0 ((p.hands.length:Int) - 1)=true:=by simp_all
 have x:f.ok=true:=by simp_all
 have g:=Pc.good z;have U:=g.l2;have e:aT least=true/\aT most=true/\least<=most:=by simpa[and_assoc]using h2
 have r:0<=hand/\hand<=(p.hands.length:Int) - 1:=by simpa[inR]using w
 have aqx:p.changes least most hand f=(match jI p hand f least (most - least+1).toNat 0 p 0 with
  |some l=>(l,0)
  |none=>match jI p hand f least (most - least+1).toNat 1 p 0 with
   |some l=>(l,0)
   |none=>match jI p hand f least (most - least+1).toNat 2 p 0 with
    |some l=>(l,0)
    |none=>([],5)):=by
  simp only[Pc.changes,z,h2,w,x,decide_eq_true R,bj,if_true]
 have A:=Zq p (by omega) g.lk g.pr;simp only[dZ,uo]at A;refine ayG A ?_;simp only[lU,cells_func,abo,ab,RN,B,F,I,N];have u:hand.toNat<p.hands.length:=by have:=g.h1;omega
 have T:Now p p:=⟨rfl,g.lk,g.pr⟩
 refine aH 3 (fun i (b:Mem)=>⟨[(5, .d (.aW [sF (p.links.map Lk.dv),sF (p.hands.map ay)])),(14, .ptr 7 0),(55,pI i)],b⟩)
  (fun i b=>b.boxes[7]?=some (some [searchFn p hand f least most 7])/\(∀j∈b.fz,j<b.boxes.length)/\∀j,j<i->jI p hand f least (most - least+1).toNat j p 0=none) 0 _ (by decide) rfl ⟨rfl,by simp,by simp⟩ (fun i b h1 h=> ?_) (fun b h=> ?_)
 ·obtain⟨G,M,D⟩:=b
  obtain⟨o,q,a⟩:=h;simp only at o q;have s:((i:Int)<3):=by omega
  have S:bS .i64 ((i:Int)+1)=((i+1:Nat):Int):=by rw[aF (by omega)];omega
  have n:=ahR (bs:=7) g r.1 u x e.1 e.2.1 e.2.2 i p 0 ⟨G,M,D⟩ (by omega) T (by omega) o q;simp only[dZ,bk]at n;simp only[s,o,searchFn,RN,B,F,N];refine Le (args:=[_,_,_]) (by kernel_rfl) (fs:=[]) ?_;refine SC.mono n ?_;rintro v1 ⟨J,P,E⟩ ⟨rfl,r1,r2,r3,r4⟩;simp only at r1 r2 r3 r4;cases c:jI p hand f least (most - least+1).toNat i p 0 with
  |none=>
   simp only[Ia,be,S,RN,B];refine bn (len:=3) (i:=i) ⟨J,P,E⟩ h1 rfl ⟨r1,r4,fun j Y=> ?_⟩
   by_cases t:j=i
   ·rw[t];exact c
   ·exact a j (by omega)
  |some l=>
   simp only[Ia,bh,bl,RN,B];have:p.changes least most hand f=(l,0):=by
    rw[aqx]
    match i,h1,c,a with
    |0,_,c,_=>rw[c]
    |1,_,c,a=>rw[a 0 (by omega),c]
    |2,_,c,a=>rw[a 0 (by omega),a 1 (by omega),c]
   rw[this]
   rfl
 ·obtain⟨o,q,a⟩:=h
  simp only[ai,Int.cast_ofNat_Int,RN,B];have:p.changes least most hand f=([],5):=by rw[aqx,a 0 (by omega),a 1 (by omega),a 2 (by omega)]
  rw[this]
  rfl
def PW:aA:=(sw (r0 [ba 2 0 0,ba 3 1 1,mi 4 0,mi 5 0] 2 [2,3] [2,3]) (sw (sr [lw 7 2 2,oa 8 (.aj 97) 7,oa 9 pN 8] 0 [2,3,9] (cd 9 (sr [mi 4 0,mi 5 2] 0 [4,5] .ret) .skip)) (sw (r0 [lw 10 2 2,on 11 (.build [z0,z0,z0] []) [],ob 12 (.aj 98) 10 11,al 6 0 [z0,zs,z0,z0,z0,zs,.map none],sk 7 6 12 0] 1 [3,6] [6]) (sw (sr [lw 13 7 6,lw 14 3 3,ob 15 (.aj 99) 13 14,oa 16 pN 15] 0 [3,6,16] (cd 16 (sr [mi 4 0,mi 5 2] 0 [4,5] .ret) .skip)) (sr [lw 17 7 6,lw 18 3 3,ob 19 (.aj 100) 17 18,mv 4 19,mi 5 0] 0 [4,5] .ret)))))
def Gu:aA:=(sw (r0 [ba 4 0 0,ba 5 1 1,mk 8 (.c (.slice true [])),mi 9 0] 2 [2,3,4,5] [4,5]) (sw (sr [lw 10 2 4,oa 11 (.aj 97) 10,oa 12 pN 11,mv 13 12,ow 14 (.load true 3) 5 13 0,ow 15 (.aj 101) 14 13 0,ow 16 pN 15 13 0,pt 17 13 16,mv 18 17,ow 19 .mov 2 18 0,ow 20 (.aj 102) 19 18 0,ow 21 pN 20 18 0,pt 22 18 21,mv 23 22,ow 24 .mov 3 23 0,ow 25 (.aj 103) 24 23 0,ow 26 pN 25 23 0,pt 27 23 26] 0 [2,3,4,5,27] (cd 27 (sr [mk 8 (.c (.slice true [])),mi 9 2] 0 [8,9] .ret) .skip)) (sr [lw 28 2 4,lw 29 3 5,ob 30 (.call 98) 28 29,mv 31 2,mv 32 3,on 33 (.call 104) [.t 30,.t 31,.t 32],mv 8 33,mi 9 0] 0 [8,9] .ret)))
def yX:aA:=(sw (r0 [ba 1 0 0,mf 2 false] 1 [1] [1]) (sw (sr [fa 6 0 1,lo 7 6,on 8 (.aj 189) [.t 7,kI 0,kI 1000],oa 9 pN 8,mv 10 9,ow 11 (.fld 1) 1 10 0,lq 12 11 10,ow 13 .len 12 10 0,oF 14 (.aj 189) [.t 13,kI 1,kI 3] 10 0,ow 15 pN 14 10 0,pt 16 10 15] 0 [1,16] (cd 16 (sr [mf 2 false] 0 [2] .ret) .skip)) (sr [mi 3 1] 0 [1,3] (sw (sr [fa 17 1 1,lo 18 17,oa 19 .len 18,mi 20 0] 0 [3,18,19,20] (.block 0 (.loop (sr [ob 21 pL 20 19] 0 [3,18,19,20,21] (sw (cx 21 0) (sw (.block 1 (sr [ix 22 1 18 20,lo 23 22,mv 5 23] 0 [3,5,18,19,20] (sw (sr [mv 24 5,mv 25 3,oi 26 pA 25 1,on 27 (.aj 189) [.t 24,.t 26,kI 1000],oa 28 pN 27] 0 [5,18,19,20,28] (cd 28 (sr [mf 2 false] 0 [2] .ret) .skip)) (rg [mv 29 5,mv 3 29] 0 [3,18,19,20])))) (rg [oi 30 pA 20 1,mv 20 30] 0 [3,18,19,20]))))))) (sr [mf 2 true] 0 [2] .ret)))))
def Ea:aA:=(sw (r0 [ba 2 0 0,ba 3 1 1,al 4 2 [z0,zs,z0,z0,z0,zs,.map none]] 3 [2,3,4] [2,3]) (sr [lw 8 2 2,lw 9 3 3,on 10 (.mkMap 0) [],on 11 (.build [z0,zs,z0,z0,z0,zs,.map none] [(0,2),(2,3),(6,1)]) [.t 8,.t 9,.t 10],al 5 1 [z0,zs,z0,z0,z0,zs,.map none],sk 7 5 11 0] 2 [2,4,5] (sr [fa 12 0 2,lo 13 12,mv 6 13] 0 [4,5,6] (sw (sr [mi 14 0] 0 [4,5,6,14] (.block 0 (.loop (sr [oi 15 pL 14 4002] 0 [4,5,6,14,15] (sw (cx 15 0) (sw (.block 1 (sr [mv 16 14,mv 7 16] 0 [4,5,6,7,14] (sr [fa 17 5 5,lo 18 17,mv 19 6,oa 20 (.gu 1 [z0] [0]) 19,ob 21 (.app 1 false) 18 20,fa 22 5 5,sk 1 22 21 0] 0 [4,5,6,7,14] (rg [mv 23 6,lw 24 7 5,mv 25 7,ob 26 (.jd 190) 24 25,ob 27 pA 23 26,mv 6 27] 0 [4,5,6,14])))) (rg [oi 28 pA 14 1,mv 14 28] 0 [4,5,6,14]))))))) (sr [lw 29 7 5,sk 7 4 29 0] 0 [4] .ret)))))
def uY:aA:=(sw (r0 [ba 2 0 0,ba 3 1 1,mf 4 false] 2 [2,3] [2,3]) (sw (r1 [fu 5 0 3 1,lv 6 5,oa 7 (.aj 103) 6,mv 8 7,ov 9 (.fld 1) 3 8 1,ov 10 (.load false 1) 9 8 1,ot 11 (.aj 189) [.t 10,kI 1,kI 12] 8 0,pf 12 8 11,mv 13 12,ov 14 (.fld 2) 3 13 1,ov 15 (.load false 1) 14 13 1,ov 16 (.load true 7) 2 13 1,ov 17 (.fld 0) 3 13 1,ov 18 (.load false 1) 17 13 1,obT 19 (.aj 192) 16 18 13 0,ov 20 (.aj 191) 19 13 0,ov 21 (.fld 1) 3 13 1,ov 22 (.load false 1) 21 13 1,ot 23 pU [.t 22,kI 1] 13 0,obT 24 (.aZ 1) 20 23 13 1,ov 25 (.load false 1) 24 13 1,ot 26 (.aj 189) [.t 15,kI 1,.t 25] 13 0,pf 27 13 26,mv 4 27] 0 [4] []) .ret))
def yY:aA:=(sw (r0 [ba 2 0 0,ba 3 1 1,mi 4 0] 2 [2,3] [2,3]) (sw (r1 [fu 5 5 2 1,lv 6 5,fu 7 0 3 1,lv 8 7,ob1 9 (.aZ 1) 6 8 1,lv 10 9,ou 11 (.load true 7) 2 1,fu 12 0 3 1,lv 13 12,ob 14 (.aj 192) 11 13,oa 15 (.aj 191) 14,fu 16 1 3 1,lv 17 16,oi 18 pU 17 1,ob1 19 (.Eu 1 false true false) 15 18 1,oa 20 (.aj 193) 19,ob 21 pA 10 20,fu 22 2 3 1,lv 23 22,ob 24 pA 21 23,oi 25 pU 24 1,mv 4 25] 0 [4] []) .ret))
def Gv:aA:=(sw (r0 [ba 1 0 0,mf 2 false] 1 [1] [1]) (sr [fa 3 1 1,lo 4 3,on 5 (.aj 189) [.t 4,kI 1,kI 1000],mv 6 5,ov 7 (.fld 0) 1 6 0,ov 8 (.load false 1) 7 6 0,ov 9 (.fld 1) 1 6 0,ov 10 (.load false 1) 9 6 0,ot 11 pM [kI 29,.t 10] 6 0,ov 12 (.fld 1) 1 6 0,ov 13 (.load false 1) 12 6 0,ot 14 pM [kI 30,.t 13] 6 0,ot 15 (.aj 189) [.t 8,.t 11,.t 14] 6 0,pf 16 6 15,mv 17 16,ov 18 (.fld 2) 1 17 0,ov 19 (.load false 1) 18 17 0,ov 20 (.fld 0) 1 17 0,ov 21 (.load false 1) 20 17 0,ot 22 pU [.t 21,kI 1] 17 0,ot 23 (.aj 189) [.t 19,kI 0,.t 22] 17 0,pf 24 17 23,mv 2 24] 0 [2] .ret))
def Aq:aA:=(sr [mf 2 false] 0 [0] (sr [mv 3 0,oa 4 .len 3,oi 5 (.bin .leq) 4 6,mv 6 5,ov 7 .mov 0 6 0,ot 8 (.aj 194) [.t 7,.c (.func (.func 195) [] [])] 6 0,ov 9 pN 8 6 0,pf 10 6 9,mv 2 10] 0 [2] .ret))
def Gw:aA:=(sr [mf 2 false] 0 [0] (sr [mv 3 0,on 4 (.aj 189) [.t 3,kI 0,kI 4000],mv 2 4] 0 [2] .ret))
def uX:aA:=(sr [ba 3 0 0,ag 6 1] 1 [1,2,3] (sr [ag 7 1] 0 [1,2,3,7] (sw (sr [mv 12 1,oa 13 .len 12,mi 14 0] 0 [2,3,7,12,13,14] (.block 0 (.loop (sr [ob 15 pL 14 13] 0 [2,3,7,12,13,14,15] (sw (cx 15 0) (sw (.block 1 (sr [ix 16 4 12 14,lw 17 4 16,al 9 0 [.bool false,z0,z0,z0],sk 4 9 17 0] 1 [2,3,7,9,12,13,14] (sr [mi 10 (-1)] 0 [2,3,7,9,10,12,13,14] (sw (sr [mv 18 2,fa 19 1 9,lo 20 19,fa 21 2 9,lo 22 21,on 23 (.build [z0,z0,z0] [(0,1),(1,1),(2,1)]) [.t 18,.t 20,.t 22],al 11 0 [z0,z0,z0],sk 3 11 23 0] 1 [2,3,7,9,10,11,12,13,14] (sw (r0 [fa 24 0 9,lo 25 24] 0 [2,3,7,9,10,11,12,13,14,25] [9]) (cd 25 (r1 [ou 26 (.load true 7) 3 2,mv 27 2,ob 28 (.KU 196) 26 27,fu 29 3 9 1,lv 30 29,ob 31 pA 28 30,mv 10 31] 0 [2,3,7,10,12,13,14] []) (sr [lw 32 7 3,lw 33 3 11,ob 34 (.jd 99) 32 33] 0 [2,3,7,10,11,12,13,14,34] (cd 34 (rg [lw 35 7 3,lw 36 3 11,ob 37 (.jd 100) 35 36,mv 10 37] 0 [2,3,7,10,12,13,14]) .skip))))) (rg [mv 38 7,mv 39 10,oa 40 (.gu 1 [z0] [0]) 39,ob 41 (.app 1 false) 38 40,mv 7 41] 0 [2,3,7,12,13,14]))))) (rg [oi 42 pA 14 1,mv 14 42] 0 [2,3,7,12,13,14]))))))) (sr [mv 43 7,mv 6 43] 0 [6] .ret))))
def L9:aA:=(sw (r0 [ba 2 0 0,ba 3 1 1,al 4 2 [z0,z0,z0],mi 5 0] 3 [2,3,4] [2,3]) (sw (sr [lw 8 2 2,oa 9 (.aj 97) 8,oa 10 pN 9,mv 11 10,lq 12 3 11,ow 13 (.aj 248) 12 11 0,ow 14 pN 13 11 0,pt 15 11 14] 0 [2,3,4,15] (cd 15 (sr [on 16 (.build [z0,z0,z0] []) [],sk 3 4 16 0,mi 5 2] 0 [4,5] .ret) .skip)) (sr [al 6 0 [z0,z0,z0]] 1 [2,3,4,6] (sw (sr [on 17 (.mkF (.func 250) 0) [.t 2,.t 3,.t 6],oa 18 (.call 249) 17,mv 7 18] 0 [4,6,7] (sr [mv 19 7,oi 20 pQ 19 0] 0 [4,6,7,20] (cd 20 (sr [on 21 (.build [z0,z0,z0] []) [],mv 22 7,sk 3 4 21 0,mv 5 22] 0 [4,5] .ret) .skip))) (sr [lw 23 3 6,sk 3 4 23 0,mi 5 0] 0 [4,5] .ret)))))
def Us:aA:=(sr [mf 6 false] 0 [0,1,2] (sr [mv 7 0,mv 8 1,ob 9 (.bin .geq) 7 8,mv 10 9,ov 11 .mov 0 10 0,ov 12 .mov 2 10 0,obT 13 (.bin .leq) 11 12 10 0,pf 14 10 13,mv 6 14] 0 [6] .ret))
def xM:aA:=(sw (r0 [ba 2 0 0,mi 4 0] 1 [1,2] [2]) (sr [lw 5 7 2,mv 6 1,ob 7 (.aj 192) 5 6,oa 8 (.aj 191) 7,oa 9 (.aj 193) 8,mv 4 9] 0 [4] .ret))
def Gx:aA:=(sr [mk 2 (.c (.slice true []))] 0 [0] (sr [on 4 (.nN 1 [z0,z0,z0,z0,z0,z0,z0,z0,z0,z0,z0,z0] [0,1,2,3,4,5,6,7,8,9,10,11]) [kI 31,kI 28,kI 31,kI 30,kI 31,kI 30,kI 31,kI 31,kI 30,kI 31,kI 30,kI 31],mv 3 4] 0 [0,3] (sw (sr [mv 5 0] 0 [3,5] (cd 5 (rg [mv 6 3,oi 7 (.aZ 1) 6 1,os (.store 1) [.t 7,kI 29] 0] 0 [3]) .skip)) (sr [mv 8 3,mv 2 8] 0 [2] .ret))))
def xO:aA:=(sw (r0 [ba 2 0 0,mf 4 false] 1 [1,2] [2]) (sr [mf 5 false] 0 [1,2,5] (sw (sr [fa 8 0 2,fa 9 1 8,lo 10 9,oa 11 .len 10,mi 12 0] 0 [1,5,10,11,12] (.block 0 (.loop (sr [ob 13 pL 12 11] 0 [1,5,10,11,12,13] (sw (cx 13 0) (sw (.block 1 (sr [ix 14 1 10 12,lo 15 14,mv 7 15] 0 [1,5,7,10,11,12] (sr [mv 16 1,mv 17 7,ob 18 (.bin .rem) 16 17,oi 19 pE 18 0] 0 [1,5,10,11,12,19] (cd 19 (rg [mv 20 5,oa 21 pN 20,mv 5 21] 0 [1,5,10,11,12]) .skip)))) (rg [oi 22 pA 12 1,mv 12 22] 0 [1,5,10,11,12]))))))) (sr [mv 23 5,mv 4 23] 0 [4] .ret))))
def PY:aA:=(sr [mi 2 0] 0 [0] (sr [mi 3 0] 0 [0,3] (sw (sr [mv 6 0,oa 7 .len 6,mi 8 0] 0 [3,6,7,8] (.block 0 (.loop (sr [ob 9 pL 8 7] 0 [3,6,7,8,9] (sw (cx 9 0) (sw (.block 1 (sr [ix 10 1 6 8,lo 11 10,mv 5 11] 0 [3,5,6,7,8] (rg [mv 12 3,mv 13 5,ob 14 pA 12 13,mv 3 14] 0 [3,6,7,8]))) (rg [oi 15 pA 8 1,mv 8 15] 0 [3,6,7,8]))))))) (sr [mv 16 3,mv 2 16] 0 [2] .ret))))
def xJ:aA:=(sw (r0 [ba 1 0 0,mf 2 false] 1 [1] [1]) (sw (sr [fa 3 0 1,lo 4 3] 0 [1,4] (cd 4 (sr [fa 5 1 1,lo 6 5,oi 7 pQ 6 0,mv 8 7,ow 9 (.fld 2) 1 8 0,lq 10 9 8,oF 11 pQ [.t 10,kI 0] 8 0,pt 12 8 11,mv 13 12,ow 14 (.fld 3) 1 13 0,lq 15 14 13,oF 16 (.aj 189) [.t 15,kI (-60),kI 60] 13 0,ow 17 pN 16 13 0,pt 18 13 17,mv 2 18] 0 [2] .ret) .skip)) (sr [fa 19 3 1,lo 20 19,oi 21 pQ 20 0,mv 22 21,ow 23 (.fld 1) 1 22 0,lq 24 23 22,oF 25 (.aj 189) [.t 24,kI 1,kI 12] 22 0,ow 26 pN 25 22 0,pt 27 22 26,mv 28 27,ow 29 (.fld 2) 1 28 0,lq 30 29 28,oF 31 (.aj 189) [.t 30,kI 1,kI 31] 28 0,ow 32 pN 31 28 0,pt 33 28 32,mv 2 33] 0 [2] .ret)))
def uZ:aA:=(sr [ba 2 0 0,mi 4 0] 1 [1,2] (sr [mv 9 1,on 10 (.build [z0,z0,z0] [(0,1),(1,1),(2,1)]) [.t 9,kI 3,kI 21],al 5 0 [z0,z0,z0],sk 3 5 10 0] 1 [2,5] (sw (sr [fa 12 6 2,lo 13 12,lw 14 3 5,ob 15 (.Iz true [1,1,1] (.int .i64 0)) 13 14,mv 11 15,xa 16 0 11,xa 17 1 11,mv 6 16,mv 7 17] 0 [2,5,6,7] (sr [mv 18 7] 0 [2,5,6,18] (cd 18 (sr [mv 19 6,mv 4 19] 0 [4] .ret) .skip))) (sr [lw 20 7 2,lw 21 3 5,ob 22 (.jd 100) 20 21,mv 8 22] 0 [2,5,8] (sw (.block 0 (.loop (sw (sr [fa 23 2 2,lw 24 3 23,mv 25 8,ob 26 (.aj 266) 24 25,oi 27 pQ 26 13] 0 [2,5,8,27] (cx 27 0)) (.block 1 (rg [mv 28 8,oi 29 pA 28 1,mv 8 29] 0 [2,5,8]))))) (sr [mv 30 8,mv 31 8,oa 32 (.aj 267) 31,on 33 pU [kI 7,.t 32],ob 34 pA 30 33,mv 8 34] 0 [2,5,8] (sr [fa 35 6 2,lo 36 35,lw 37 3 5,mv 38 8,os (.adZ [1,1,1]) [.t 36,.t 37,.t 38] 0] 0 [8] (sr [mv 39 8,mv 4 39] 0 [4] .ret))))))))
def Ja:aA:=(sr [mf 2 false] 0 [0] (sr [mv 3 0,on 4 (.aj 189) [.t 3,kI 0,kI 2000000],mv 2 4] 0 [2] .ret))
def Gt:aA:=(r1 [ou 3 (.load true 2) 0 1,on 4 (.build [z0,z0,z0] []) [],ob 5 (.aj 98) 3 4,lv 6 1,ob 7 (.aj 251) 5 6,sk 3 2 7 0] 0 [] [])
def xK:aA:=(sw (r0 [ba 2 0 0,al 4 1 [z0,z0,z0]] 2 [1,2,4] [2]) (sr [fa 11 5 2,lo 12 11,mv 13 1,ob 14 (.aj 293) 12 13,mv 10 14,xa 15 0 10,xa 16 1 10,mv 5 15,mv 6 16] 0 [1,2,4,5,6] (sw (sr [mv 17 6,oa 18 pN 17] 0 [1,2,4,5,18] (cd 18 (rg [mv 19 5,oi 20 pU 19 1,mv 5 20] 0 [1,2,4,5]) .skip)) (sw (sr [mv 21 5,oa 22 (.aj 103) 21,oa 23 pN 22] 0 [1,2,4,5,23] (cd 23 (rg [mv 24 1,oa 25 (.build [z0] [(0,1)]) 24,oa 26 (.mkI T.N8) 25,os .panic [.t 26] 0] 0 [1,2,4,5]) .skip)) (sr [mv 27 1,fa 28 5 2,lo 29 28,mv 30 5,ix 31 1 29 30,lo 32 31,ob 33 pU 27 32,mv 7 33] 0 [1,2,4,5,7] (sw (sr [lw 34 7 2,mv 35 5,ob 36 (.aj 192) 34 35,oa 37 (.aj 191) 36,oa 38 .len 37,mi 39 0] 0 [1,4,5,7,37,38,39] (.block 0 (.loop (sr [ob 40 pL 39 38] 0 [1,4,5,7,37,38,39,40] (sw (cx 40 0) (sw (.block 1 (sr [mv 41 39,ix 42 1 37 39,lo 43 42,mv 8 41,mv 9 43] 0 [1,4,5,7,8,9,37,38,39] (sw (sr [mv 44 7,mv 45 9,ob 46 pL 44 45] 0 [1,4,5,7,8,9,37,38,39,46] (cd 46 (sr [mv 47 5,mv 48 8,oi 49 pA 48 1,mv 50 7,oi 51 pA 50 1,on 52 (.build [z0,z0,z0] [(0,1),(1,1),(2,1)]) [.t 47,.t 49,.t 51],sk 3 4 52 0] 0 [4] .ret) .skip)) (rg [mv 53 7,mv 54 9,ob 55 pU 53 54,mv 7 55] 0 [1,4,5,7,37,38,39])))) (rg [oi 56 pA 39 1,mv 39 56] 0 [1,4,5,7,37,38,39]))))))) (rg [mv 57 1,oa 58 (.build [z0] [(0,1)]) 57,oa 59 (.mkI T.N8) 58,os .panic [.t 59] 0] 0 [4])))))))
def PX:aA:=(sw (r0 [ba 2 0 0,mi 4 0] 1 [1,2] [2]) (sr [mv 6 1,oi 7 pA 6 1,fa 8 1 2,lo 9 8,ob 10 pM 7 9,oi 11 pU 10 1,fa 12 2 2,lo 13 12,ob 14 pU 11 13,fa 15 0 2,lo 16 15,ob 17 (.aj 298) 14 16,mv 5 17] 0 [1,2,5] (sr [mv 18 1,mv 19 5,fa 20 0 2,lo 21 20,ob 22 pM 19 21,fa 23 2 2,lo 24 23,ob 25 pA 22 24,fa 26 1 2,lo 27 26,ob 28 (.aj 298) 25 27,ob 29 pU 18 28,mv 4 29] 0 [4] .ret)))
def EO:aA:=(sr [mi 2 0] 0 [0] (sr [mv 3 0,oi 4 pA 3 4,oi 5 (.bin .rem) 4 7,mv 2 5] 0 [2] .ret))
def Mc:aA:=(sr [mi 4 0] 0 [0,1] (sr [mv 6 0,mv 7 1,ob 8 (.bin .quo) 6 7,mv 5 8] 0 [0,1,5] (sw (sr [mv 9 5,mv 10 1,ob 11 pM 9 10,mv 12 0,ob 13 pG 11 12] 0 [5,13] (cd 13 (rg [mv 14 5,oi 15 pU 14 1,mv 5 15] 0 [5]) .skip)) (sr [mv 16 5,mv 4 16] 0 [4] .ret))))
def IX (n l h:Int):Pure C 189 [dI n,dI l,dI h] (.d (.bool (inR n l h))) []:=by
 refine ayF Us jr ?_
 by_cases h1:n>=l<;>simp only[h1,inR,Us,jr,aD,RN,B,F]
def X7 (n:Int):Pure C 103 [dI n] (.d (.bool (inR n 0 4000))) []:=by
 refine ayF Gw aK ?_;simp only[Gw,aK,RN,B]
 repeat' first
  |(refine ayG (IX _ _ _) ?_;try simp only[])
  |(refine bF (by rfl) (fun a=> ?_) (fun a=> ?_)<;>simp only[a,RN,B,F,H,I,J,N])
  |(refine bJ (by rfl) (fun a=> ?_) (fun a=> ?_)<;>simp only[a,RN,B,F,H,I,J,N])
 all_goals(first|(simp only[inR, *,BSN];done)|(simp_all[inR];done)|(simp_all[inR];omega))
def aiZ (n:Int):Pure C 248 [dI n] (.d (.bool (inR n 0 2000000))) []:=by
 refine ayF Ja aK ?_;simp only[Ja,aK,RN,B]
 repeat' first
  |(refine ayG (IX _ _ _) ?_;try simp only[])
  |(refine bF (by rfl) (fun a=> ?_) (fun a=> ?_)<;>simp only[a,RN,B,F,H,I,J,N])
  |(refine bJ (by rfl) (fun a=> ?_) (fun a=> ?_)<;>simp only[a,RN,B,F,H,I,J,N])
 all_goals(first|(simp only[inR, *,BSN];done)|(simp_all[inR];done)|(simp_all[inR];omega))
def JD:List Int->Int->Bool
 | [],_=>true
 |n::l,a=>inR n (a+1) 1000&&JD l n
def Cal.ok (c:Cal):Bool:=inR c.ep 0 1000&&inR c.cy.length 1 3&&JD c.cy 1
def Sz:∀{l:List Int} {last:Int},1<=last->JD l last=true->∀n∈l,2<=n/\n<=1000
 | [],_,_,_,n,a=>by cases a
 |x::l,last,h1,h,n,a=>by
  simp only[JD,inR,Q,decide_eq_true_eq,ge_iff_le]at h
  rcases aw.1 a with rfl|a
  ·omega
  ·exact Sz (last:=x) (by omega) h.2 n a
variable{c:Cal}
def Cal.facts (h:c.ok=true):(0<=c.ep/\c.ep<=1000)/\(1<=c.cy.length/\c.cy.length<=3)/\∀n∈c.cy,2<=n/\n<=1000:=by
 simp only[Cal.ok,Q]at h;obtain⟨⟨h1,h2⟩,a⟩:=h;simp only[inR,Q,decide_eq_true_eq,ge_iff_le]at h1 h2;exact⟨h1,by omega,Sz (by omega) a⟩
def Yi (c:Cal)(hl:c.cy.length<=1000000):Pure C 97 [c.dv] (.d (.bool c.ok)) []:=by
 refine ayF yX aK ?_;simp only[yX,aK,fE,RN,B,F,N]
 repeat' first
  |(refine ayG (IX _ _ _) ?_;try simp only[RN])
  |(refine bF (by rfl) (fun e=> ?_) (fun e=> ?_)<;>simp only[e,O,RN,B,F,N])
  |(refine bJ (by rfl) (fun e=> ?_) (fun e=> ?_)<;>simp only[e,O,RN,B,F,N])
 any_goals (simp_all[Cal.ok];done)
 have g:c.ok=JD c.cy 1:=by simp_all[Cal.ok]
 rw[g];refine aH c.cy.length (fun i (a:Int)=>⟨[(3,pI a),(18, .d (sF (c.cy.map ay))),(19,pI c.cy.length),(20,pI i)],⟨[some [pI c.ep, .d (sF (c.cy.map ay))]],[0],[]⟩⟩)
  (fun i a=>1<=a/\a<=1000/\JD c.cy 1=JD (c.cy.drop i) a) 0 1 (V _) rfl ⟨by omega,by omega,rfl⟩ (fun i a h1 b=> ?_) (fun a b=> ?_)
 ·obtain⟨h2,j,k⟩:=rng h1 hl
  obtain⟨l,m,b⟩:=b;rw[drop_cons h1,JD]at b;have h:bS .i64 (a+1)=a+1:=aF (by omega);simp only[h2,j,h1,aI,getD_map,S,O,h,RN,B,N];refine ayG (IX _ _ _) ?_;cases f:inR (c.cy.getD i default) (a+1) 1000
  ·(try simp only[RN,B])
   rw[b,f];rfl
  ·simp only[k,RN,B]
   rw[f,bN]at b;have:a+1<=c.cy.getD i default/\c.cy.getD i default<=1000:=by simpa[inR]using f
   exact iQ (c.cy.getD i default) h1 rfl ⟨by omega,by omega,b⟩ (by simp) (by simp) rfl rfl
 ·obtain⟨_,_,b⟩:=b
  rw[aM,JD]at b;simp only[ai,b,RN,B]
def abq (c:Cal)(m:gK)(fs:List Int)(es:Option (List (DV×DV))):DV:= .agg [dI c.ep,sF (c.cy.map ay),dI m.n,dI m.d,dI m.ad,sF (fs.map ay), .map es]
variable{m:gK}
def rO {fs:List Int}{es:Option (List (DV×DV))}:abq c m fs es= .agg [dI c.ep,sF (c.cy.map ay),dI m.n,dI m.d,dI m.ad,sF (fs.map ay), .map es]:=by rw[abq]
def F6:List Int->Int->Bool->Bool
 | [],_,a=>a
 |n::l,y,a=>F6 l y (if y.tmod n==0 then !a else a)
def Cal.leap (c:Cal)(y:Int):Bool:=F6 c.cy y false
def Yl (c:Cal)(m:gK)(fs:List Int)(es:Option (List (DV×DV)))(y:Int)(hl:c.cy.length<=1000000)(j:∀n∈c.cy,n≠0):Pure C 192 [abq c m fs es,dI y] (.d (.bool (c.leap y))) []:=by
 refine ayF xO aJ ?_;simp only[xO,aJ,rO,O,RN,B,F,N];refine aH c.cy.length (fun i (b:Bool)=>⟨[(1,pI y),(5, .d (.bool b)),(10, .d (sF (c.cy.map ay))),(11,pI c.cy.length),(12,pI i)],
   ⟨[some [pI c.ep, .d (sF (c.cy.map ay)),pI m.n,pI m.d,pI m.ad, .d (sF (fs.map ay)), .d (.map es)]],[0],[]⟩⟩)
  (fun i b=>c.leap y=F6 (c.cy.drop i) y b) 0 false (V _) rfl rfl (fun i b h1 a=> ?_) (fun b a=> ?_)
 ·obtain⟨h2,h,f⟩:=rng h1 hl
  rw[drop_cons h1,F6]at a;have e:=j _ (getD_mem h1);simp only[h2,h,h1,aI,getD_map,S,O,e,RN,B,N];cases g:(y.tmod (c.cy.getD i default)==0)
  ·rw[g]at a
   simp only[f,RN,B];exact iQ b h1 rfl a (by simp) (by simp) rfl rfl
  ·rw[g]at a
   simp only[f,RN,B];exact iQ (!b) h1 rfl a (by simp) (by simp) rfl rfl
 ·rw[aM,F6]at a
  simp only[ai,a,RN,B]
def aY (leap:Bool):List Int:=[31,if leap then 29 else 28,31,30,31,30,31,31,30,31,30,31]
def mon0:List DV:=[dI 31,dI 28,dI 31,dI 30,dI 31,dI 30,dI 31,dI 31,dI 30,dI 31,dI 30,dI 31]
def amU {C:Ctx}{K:PV->Mem->Prop}{KP:DV->Mem->Prop}(h:K (.tsl 0 0 0) ⟨[],[],[some ⟨1,mon0,0,1⟩]⟩):
  au C 0 (.nN 1 [dI 0,dI 0,dI 0,dI 0,dI 0,dI 0,dI 0,dI 0,dI 0,dI 0,dI 0,dI 0] [0,1,2,3,4,5,6,7,8,9,10,11]) (mon0.map .d) ⟨[],[],[]⟩ K KP:=by
 simp only[au,mon0,av,aE,iZ];exact⟨by decide,aL.1 (rfl:mon0.all (DV.fits 1)=true),h⟩
def aqf:∀b:Bool,(aY b).map ay=bif b then mon0.set 1 (dI 29)else mon0
 |true=>rfl
 |false=>rfl
def LM (leap:Bool):Pure C 191 [.bool leap] (.d (sF ((aY leap).map ay))) []:=by
 refine bU (ayH Gx aK ?_);simp only[Gx,aK,RN,B];refine amU ?_;rw[aqf];cases leap
 ·(try simp only[RN,B])
  rfl
 ·(try simp only[RN,B])
  refine⟨by decide,by decide,qU (ds:=[dI 29]) rfl rfl (by decide) rfl rfl (by decide) rfl⟩
def ai5 (l:List Int)(hl:l.length<=1000000)(hx:∀x∈l,0<=x)(hb:dS l 0<=9223372036854775807):Pure C 193 [sF (l.map ay)] (pI (dS l 0)) []:=by
 refine ayF PY aK ?_;simp only[PY,aK,O,RN,B];refine aH l.length (fun i (p:Int)=>⟨[(3,pI p),(6, .d (sF (l.map ay))),(7,pI l.length),(8,pI i)],⟨[],[],[]⟩⟩)
  (fun i p=>0<=p/\dS l 0=dS (l.drop i) p) 0 0 (V _) rfl ⟨by omega,rfl⟩ (fun i p h1 a=> ?_) (fun p a=> ?_)
 ·obtain⟨h2,c,e⟩:=rng h1 hl
  obtain⟨f,a⟩:=a;rw[drop_cons h1,dS]at a;have g:=hx _ (getD_mem h1);have j:=sG (l.drop (i+1)) (p+l.getD i default) (fun y h=>hx y (List.mem_of_mem_drop h));have b:bS .i64 (p+l.getD i default)=p+l.getD i default:=aF (by omega);simp only[h2,c,h1,e,aI,getD_map,S,O,b,RN,B,N];exact iQ (p+l.getD i default) h1 rfl ⟨by omega,a⟩ (by simp) (by simp) rfl rfl
 ·obtain⟨f,a⟩:=a
  rw[aM,dS]at a;simp only[ai,a,RN,B]
def wH (b:Bool):Int:=dS (aY b) 0
def mY:∀b:Bool,wH b=if b then 366 else 365
 |true=>rfl
 |false=>rfl
def kY:∀(b:Bool),∀x∈aY b,28<=x/\x<=31:=by
 intro b x a;cases b<;>simp[aY]at a<;>omega
def nO:∀(b:Bool),(aY b).length=12
 |true=>rfl
 |false=>rfl
def afq (c:Cal)(m:gK)(fs:List Int)(es:Option (List (DV×DV)))(y:Int)(hl:c.cy.length<=1000000)(a:∀n∈c.cy,n≠0):Pure C 190 [abq c m fs es,dI y] (.d (dI (wH (c.leap y)))) []:=by
 refine ayF xM aJ ?_;simp only[xM,aJ,rO,RN,B,F,N];have h1:=Yl c m fs es y hl a;rw[rO]at h1;refine ayG h1 ?_;(try simp only[RN,B,F,H,I,J,N]);refine ayG (LM _) ?_;(try simp only[RN,B,F,H,I,J,N]);have e:dS (aY (c.leap y)) 0<=366:=by have:=mY (c.leap y);unfold wH at this;rw[this];split<;>decide
 refine ak rfl rfl (ai5 (aY (c.leap y)) (by rw[nO];decide) (fun x b=>by have:=kY _ x b;omega) (by omega)) ?_;simp only[wH]
def wd (n:Int):Int:=(n+4).tmod 7
def ah6 (n:Int)(h:0<=n/\n<=1000000000):Pure C 267 [dI n] (pI (wd n)) []:=by
 have a:bS .i64 (n+4)=n+4:=aF (by omega);have b:0<=(n+4).tmod 7:=a7 7 (by omega);have c:(n+4).tmod 7<7:=ao _ (by decide);have d:bS .i64 ((n+4).tmod 7)=(n+4).tmod 7:=aF (by omega);refine ayF EO aK ?_;simp only[EO,aK,a,wd,RN,B];simp
def dU (n b:Int):Int:=if n.tdiv b*b>n then n.tdiv b - 1 else n.tdiv b
def Hq (n b:Int):(n.tdiv b*b).natAbs<=n.natAbs:=by
 have h:=bp n b;rw[Int.natAbs_mul,Int.natAbs_tdiv];exact Nat.div_mul_le_self _ _
def ai4 (n b:Int)(h:n.natAbs<=1000000000000000000)(hb:b≠0):Pure C 298 [dI n,dI b] (pI (dU n b)) []:=by
 have f:=nC n b;have g:=Hq n b;have c:bS .i64 (n.tdiv b)=n.tdiv b:=aF (by omega);have d:bS .i64 (n.tdiv b*b)=n.tdiv b*b:=aF (by omega);have e:bS .i64 (n.tdiv b - 1)=n.tdiv b - 1:=aF (by omega);refine ayF Mc aJ ?_;simp only[Mc,aJ,c,d,hb,RN,B,F]
 by_cases a:n.tdiv b*b>n
 ·simp only[a,e,dU,if_true,RN,B]
 ·simp only[a,dU,if_false,RN,B]
def X6 (n b:Int)(hb:b≠0):(dU n b).natAbs<=n.natAbs+1:=by
 have:=nC n b;unfold dU
 split<;>omega
def Z9 (n b:Int):(dU n b*b).natAbs<=n.natAbs+b.natAbs:=by
 have:=Hq n b;unfold dU
 split
 ·rw[bR];omega
 ·omega
def gK.ok (m:gK):Bool:=inR m.d 1 1000&&inR m.n (29*m.d) (30*m.d)&&inR m.ad 0 (m.n - 1)
def gK.facts (h:m.ok=true):(1<=m.d/\m.d<=1000)/\(29*m.d<=m.n/\m.n<=30*m.d)/\0<=m.ad/\m.ad<m.n:=by
 simp only[gK.ok,inR,Q,decide_eq_true_eq,ge_iff_le]at h;omega
def ajJ (m:gK):Pure C 101 [m.dv] (.d (.bool m.ok)) []:=by
 refine ayF Gv aK ?_;simp only[Gv,aK,iy,RN,B,F,N];refine ayG (IX _ _ _) ?_;cases h1:inR m.d 1 1000
 ·(try simp only[RN,B])
  simp[gK.ok,h1]
 ·have hd:1<=m.d/\m.d<=1000:=by simpa[inR]using h1
  have a:bS .i64 (29*m.d)=29*m.d:=aF (by omega);have b:bS .i64 (30*m.d)=30*m.d:=aF (by omega);simp only[a,b,RN,B,F,N];refine ayG (IX _ _ _) ?_;cases h2:inR m.n (29*m.d) (30*m.d)
  ·(try simp only[RN,B])
   simp[gK.ok,h2]
  ·have e:29*m.d<=m.n/\m.n<=30*m.d:=by simpa[inR]using h2
   have c:bS .i64 (m.n - 1)=m.n - 1:=aF (by omega);simp only[c,RN,B,F,N];refine ayG (IX _ _ _) ?_;(try simp only[RN,B,F,H,I,J,N]);simp[gK.ok,h1,h2]
def yh (m:gK)(n:Int):Int:=n - dU (dU ((n+1)*m.d - 1 - m.ad) m.n*m.n+m.ad) m.d
def ap9 (m:gK)(n:Int)(j:m.ok=true)(h:0<=n/\n<=100000000):Pure C 266 [m.dv,dI n] (pI (yh m n)) []:=by
 obtain⟨hd,l,k⟩:=m.facts j;have o:0<=(n+1)*m.d/\(n+1)*m.d<=100000001*1000:=⟨Int.mul_nonneg (by omega) (by omega),bq (by omega) hd.2 (by omega) (by omega)⟩
 have p:=X6 ((n+1)*m.d - 1 - m.ad) m.n (by omega);have q:=Z9 ((n+1)*m.d - 1 - m.ad) m.n;have r:=X6 (dU ((n+1)*m.d - 1 - m.ad) m.n*m.n+m.ad) m.d (by omega);have a:bS .i64 (n+1)=n+1:=aF (by omega);have b:bS .i64 ((n+1)*m.d)=(n+1)*m.d:=aF (by omega);have c:bS .i64 ((n+1)*m.d - 1)=(n+1)*m.d - 1:=aF (by omega);have e:bS .i64 ((n+1)*m.d - 1 - m.ad)=(n+1)*m.d - 1 - m.ad:=aF (by omega);have f:bS .i64 (dU ((n+1)*m.d - 1 - m.ad) m.n*m.n)=dU ((n+1)*m.d - 1 - m.ad) m.n*m.n:=aF (by omega);have g:bS .i64 (dU ((n+1)*m.d - 1 - m.ad) m.n*m.n+m.ad)=dU ((n+1)*m.d - 1 - m.ad) m.n*m.n+m.ad:=aF (by omega);have i:bS .i64 (n - dU (dU ((n+1)*m.d - 1 - m.ad) m.n*m.n+m.ad) m.d)=n - dU (dU ((n+1)*m.d - 1 - m.ad) m.n*m.n+m.ad) m.d:=aF (by omega);refine ayF PX aJ ?_;simp only[PX,aJ,iy,a,b,c,e,RN,B,F,N];refine ak rfl rfl (ai4 _ _ (by omega) (by omega)) ?_;simp only[f,g,RN];refine ak rfl rfl (ai4 _ _ (by omega) (by omega)) ?_;simp only[i,yh,RN]
def jY (c:Cal)(d:Dt):Bool:=inR d.y 0 4000&&inR d.m 1 12&&inR d.d 1 ((aY (c.leap d.y)).getD (d.m - 1).toNat default)
def aax (c:Cal)(m:gK)(fs:List Int)(es:Option (List (DV×DV)))(d:Dt)(hl:c.cy.length<=1000000)(e:∀n∈c.cy,n≠0):Pure C 99 [abq c m fs es,d.dv] (.d (.bool (jY c d))) []:=by
 refine ayF uY aJ ?_;simp only[uY,aJ,rO,pY,RN,B,F,N];refine ayG (X7 _) ?_;cases h1:inR d.y 0 4000
 ·(try simp only[RN,B])
  simp[jY,h1]
 ·(try simp only[RN,B,F,N])
  refine ayG (IX _ _ _) ?_;cases h2:inR d.m 1 12
  ·(try simp only[RN,B])
   simp[jY,h2]
  ·have h:1<=d.m/\d.m<=12:=by simpa[inR]using h2
   have b:bS .i64 (d.m - 1)=d.m - 1:=aF (by omega);simp only[b,RN,B,F,N];have a:=Yl c m fs es d.y hl e;rw[rO]at a;refine ayG a ?_;(try simp only[RN,B,F,H,I,J,N]);refine ayG (LM _) ?_;have f:(0:Int)<=d.m - 1:=by omega
   have g:(d.m - 1).toNat<(aY (c.leap d.y)).length:=by rw[nO];omega
   simp only[f,g,O,getD_map,aI,RN,N];refine ayG (IX _ _ _) ?_;simp only[jY,h1,h2,RN]
def AU (c:Cal)(fs:List Int)(d:Dt):Int:=fs.getD d.y.toNat default+dS ((aY (c.leap d.y)).take (d.m - 1).toNat) 0+d.d - 1
def CZ:∀(l:List Int) (n:Nat) (p:Int),(∀x∈l,0<=x)->dS (l.take n) p<=dS l p
 | [],n,p,_=>by rw[List.take_nil];exact bi _
 |x::l,0,p,h=>sG _ _ h
 |x::l,n+1,p,h=>by
  rw[a8,dS,dS];exact CZ l n _ fun y a=>h y (by simp[a])
def aiW (c:Cal)(m:gK)(fs:List Int)(es:Option (List (DV×DV)))(d:Dt)(hl:c.cy.length<=1000000)(j:∀n∈c.cy,n≠0)(hf:∀x∈fs,0<=x/\x<=10000000)(b:0<=d.y/\d.y.toNat<fs.length)(p:1<=d.m/\d.m<=12)(hd:1<=d.d/\d.d<=31):Pure C 100 [abq c m fs es,d.dv] (pI (AU c fs d)) []:=by
 have f:bS .i64 (d.m - 1)=d.m - 1:=aF (by omega);have o:=hf _ (getD_mem b.2);have q:dS (aY (c.leap d.y)) 0<=366:=by have:=mY (c.leap d.y);unfold wH at this;rw[this];split<;>decide
 have k:=CZ (aY (c.leap d.y)) (d.m - 1).toNat 0 fun x a=>by have:=kY _ x a;omega
 have l:=sG ((aY (c.leap d.y)).take (d.m - 1).toNat) 0 fun x a=>by have:=kY _ x (aR a);omega
 have g:bS .i64 (fs.getD d.y.toNat default+dS ((aY (c.leap d.y)).take (d.m - 1).toNat) 0)=fs.getD d.y.toNat default+dS ((aY (c.leap d.y)).take (d.m - 1).toNat) 0:=aF (by omega);have h:bS .i64 (fs.getD d.y.toNat default+dS ((aY (c.leap d.y)).take (d.m - 1).toNat) 0+d.d)=fs.getD d.y.toNat default+dS ((aY (c.leap d.y)).take (d.m - 1).toNat) 0+d.d:=aF (by omega);have i:bS .i64 (fs.getD d.y.toNat default+dS ((aY (c.leap d.y)).take (d.m - 1).toNat) 0+d.d - 1)=fs.getD d.y.toNat default+dS ((aY (c.leap d.y)).take (d.m - 1).toNat) 0+d.d - 1:=aF (by omega);refine ayF yY aJ ?_;simp only[yY,aJ,rO,pY,O,b.1,b.2,getD_map,aI,RN,B,F,N];have e:=Yl c m fs es d.y hl j;rw[rO]at e;refine ayG e ?_;(try simp only[RN,B,F,H,I,J,N]);refine ayG (LM _) ?_;simp only[f,RN];rw[yN (by intro x a;simp only[aq]at a;obtain⟨y,_,rfl⟩:=a;rfl) (by omega) (by rw[O,nO];omega)];rw[<-List.map_take];(try simp only[RN,B,F,H,I,J,N]);refine ak rfl rfl (ai5 _ (by rw[bA,nO];omega) (fun x a=>by have:=kY _ x (aR a);omega) (by omega)) ?_;simp only[g,h,i,AU,RN]
def Fs.bad (f:Fs):Bool:=if f.mv then f.mo !=0||f.da !=0|| !inR f.af (-60) 60 else f.af !=0|| !inR f.mo 1 12|| !inR f.da 1 31
def aoM (f:Fs):Pure C 195 [f.dv] (.d (.bool f.bad)) []:=by
 refine ayF xJ aK ?_;simp only[xJ,aK,xH,RN,B,F,N]
 repeat' first
  |(refine ayG (IX _ _ _) ?_;try simp only[RN])
  |(refine bF (by rfl) (fun a=> ?_) (fun a=> ?_)<;>simp only[a,RN,B,F,N])
  |(refine bJ (by rfl) (fun a=> ?_) (fun a=> ?_)<;>simp only[a,RN,B,F,N])
 all_goals(simp_all[Fs.bad];done)
def jA (l:List Fs):Bool:=decide (l.length<=6)&& !l.any Fs.bad
def ZB (ex:Bool)(l:List Fs):Pure C 102 [.slice ex (l.map Fs.dv)] (.d (.bool (jA l))) []:=by
 refine ayF Aq aK ?_;simp only[Aq,aK,O,RN,B]
 by_cases h:l.length<=6
 ·have a:(l.length:Int)<=6:=by omega
  simp only[a,RN,B];refine ak rfl rfl (VF l 195 [] Fs.bad (by omega) (by kernel_rfl) fun x _=>aoM x) ?_;(try simp only[RN]);simp[jA,h]
 ·have a:¬(l.length:Int)<=6:=by omega
  simp only[a,RN,B];simp[jA,h]
section
variable {C:Ctx}{base:Nat}{KP:DV->Mem->Prop}
def SI {i:Nat}{bs:List (Option (List PV))}{fz:List Nat}{ar:List (Option Arr)}{L:PV->Mem->Prop}:au C base (.mkMap i) [] ⟨bs,fz,ar⟩ L KP=(bs[base+i]?=some none/\L (.mref (base+i)) ⟨bs.set (base+i) (some [.iW []]),fz,ar⟩):=px
def kS {f:FuncId}{args:List PV}{M:Mem}{ds ds':List DV}{x:DV}{K:PV->Mem->Prop}(h1:dF M args=some ds)(h2:ds.map DV.strip=ds')(b:Pure C f ds' (.d x) [])(hx:DF x=true)(a:K (.d x) M):au C base (.jd f) args M K KP:=
 ⟨ds,h1,x,h2▸b,hx,a⟩
end
def BZ {bs:List (Option (List PV))}{fz:List Nat}{ar:List (Option Arr)}{k ver b st:Nat}{xs:List DV}{es:List (DV×DV)}{a c e f g:DV}(h:ar[k]?=some (some ⟨1,xs,ver,st⟩))(hb:bs[b]?=some (some [.iW es])):
  datum ⟨bs,fz,ar⟩ (.agg [.d a, .d c, .d e, .d f, .d g, .tsl k ver 0, .mref b])=some (.agg [a,c,e,f,g, .slice false xs, .map (some es)]):=by
 simp[datum,cu,fA,Mem.row,Mem.box,h,hb]
variable{M:Mem}{p:PV}{d:DV}
def sU {y:DV}(h:datum M p=some d):dF M [p, .d y]=some [d,y]:=by
 simp only[dF,h];simp[datum]
def La (h:datum M p=some d):dF M [p]=some [d]:=by
 simp[dF,h]
def Cal.first (c:Cal):Nat->Int
 |0=>c.ep
 |y+1=>c.first y+wH (c.leap y)
def Cal.firsts (c:Cal)(n:Nat):List Int:=(bL n).map c.first
def Cal.kG (c:Cal)(y:Nat):c.ep+365*y<=c.first y/\c.first y<=c.ep+366*y:=by
 induction y with
 |zero=>simp[Cal.first]
 |succ y a=>
  rw[Cal.first,mY]
  split<;>omega
def Cal.PD (c:Cal)(n:Nat):c.firsts (n+1)=c.firsts n++ [c.first n]:=by simp[Cal.firsts,bo]
def opC:Nat->PV
 |0=> .d (.slice true [])
 |i+1=> .tsl 0 i 0
def opA (c:Cal):Nat->List (Option Arr)
 |0=>[]
 |i+1=>[some ⟨1,(c.firsts (i+1)).map ay,i,0⟩]
def am0 (c:Cal)(m:gK)(i:Nat):St:=
 ⟨[(4, .ptr 2 0),(5, .ptr 4 0),(6,pI (c.first i)),(14,pI i)],
  ⟨[some [pI c.ep, .d (sF (c.cy.map ay))],some [pI m.n,pI m.d,pI m.ad],
   some [pI 0, .d (.slice true []),pI 0,pI 0,pI 0, .d (.slice true []), .d (.map none)],
   some [.iW []],some [pI c.ep, .d (sF (c.cy.map ay)),pI m.n,pI m.d,pI m.ad,opC i, .mref 3]],[1,0],opA c i⟩⟩
def akg (c:Cal)(m:gK)(hc:c.ok=true):Pure C 98 [c.dv,m.dv] (.d (abq c m (c.firsts 4002) (some []))) []:=by
 obtain⟨q,r,l⟩:=Cal.facts hc;refine bU (ayH Ea aeE ?_);simp only[Ea,aeE,fE,iy,SI,JK,rJ,ab,eP,gI,Gn,RN,B,F,I,N];refine aH 4002 (fun i (_:Unit)=>am0 c m i) (fun i _=>True) 0 () (V _) rfl trivial (fun i a h1 g=> ?_) (fun a g=> ?_)
 ·have h2:(i:Int)<4002:=by omega
  have k:bS .i64 ((i:Int)+1)=((i+1:Nat):Int):=by rw[aF (by omega)];omega
  have p:=c.kG i;have e:=c.kG (i+1);rw[Cal.first]at e;have j:bS .i64 (c.first i+wH (c.leap i))=c.first i+wH (c.leap i):=aF (by omega);have hd:=afq c m (c.firsts (i+1)) (some []) i (by omega) (fun n h=>by have:=l n h;omega);rw[rO]at hd
  rcases i with _|i
  ·simp only[am0,opC,opA,h2,bM,dB,bI,ab,eP,DV.strip,fits_int,forall_eq,RN,B,F,H,I,J,N]
   (repeat(refine Z (by first|assumption|rfl|(simp;done)|(simp;omega)) ?_))
   refine kS (by rfl) (by rfl) hd rfl ?_;simp only[j,k,RN];exact bn (len:=4002) (i:=0) () h1 rfl trivial
  ·simp only[am0,opC,opA,h2,bM,dB,bI,ab,eP,DV.strip,fits_int,forall_eq,RN,B,F,I,J,N]
   have b:(c.firsts (i+1)).length=i+1:=by simp[Cal.firsts]
   have f:(c.firsts (i+1)).map ay++ [dI (c.first (i+1))]=(c.firsts (i+1+1)).map ay:=by rw[c.PD (i+1),ax];rfl
   rw[f,O,b]
   (repeat(refine Z (by first|assumption|rfl|(simp;done)|(simp;omega)) ?_))
   refine kS (sU (BZ rfl rfl)) rfl hd rfl ?_;simp only[j,k,RN];exact bn (len:=4002) (i:=i+1) () h1 rfl trivial
 ·have o:¬((4002:Nat):Int)<4002:=by omega
  simp only[am0,opC,opA,o,dB,bI,ab,eP,gI,Gn,RN,B,F,I,N];rw[rO];exact BZ rfl rfl
def oG (n b:Int)(hb:0<b):dU n b*b<=n/\n<(dU n b+1)*b:=by
 have h:=bp n b;have h1:=ao n hb;have h2:=Int.lt_tmod_of_pos n hb;have d:n.tdiv b*b=b*n.tdiv b:=Int.mul_comm _ _;unfold dU
 split
 ·have c:(n.tdiv b - 1)*b=n.tdiv b*b - b:=by rw[bR];omega
  have a:(n.tdiv b - 1+1)*b=n.tdiv b*b:=by rw[show n.tdiv b - 1+1=n.tdiv b by omega]
  omega
 ·have a:(n.tdiv b+1)*b=n.tdiv b*b+b:=by rw[az];omega
  omega
def WG {n b q:Int}(hb:0<b)(h1:q*b<=n)(h2:n<(q+1)*b):dU n b=q:=by
 obtain⟨e,f⟩:=oG n b hb;have c:dU n b<q+1:=am (a:=b) (by omega) (by omega);have d:q<dU n b+1:=am (a:=b) (by omega) (by omega);omega
def WS (m:gK)(q:m.ok=true)(n:Int):∃j:Nat,j<=44/\yh m (n+j)=13:=by
 obtain⟨hd,A,z⟩:=m.facts q;have b:0<m.n:=by omega
 have l:0<m.d:=by omega
 obtain⟨K,o⟩:∃K,K=dU ((n+1)*m.d - 1 - m.ad) m.n:=⟨_,rfl⟩
 obtain⟨g,h⟩:=oG ((n+1)*m.d - 1 - m.ad) m.n b;rw[<-o]at g h;obtain⟨s,c⟩:∃s,s=dU ((K+1)*m.n+m.ad) m.d:=⟨_,rfl⟩
 obtain⟨i,k⟩:=oG ((K+1)*m.n+m.ad) m.d l;rw[<-c]at i k;have e:(K+1)*m.n=K*m.n+m.n:=by rw[az];omega
 have u:(n+1)*m.d=n*m.d+m.d:=by rw[az];omega
 have v:(s+1)*m.d=s*m.d+m.d:=by rw[az];omega
 have w:(n+32)*m.d=n*m.d+32*m.d:=by rw[az]
 have r:n+1<s+1:=am (a:=m.d) (by omega) (by omega);have t:s<n+32:=am (a:=m.d) (by omega) (by omega);refine⟨(s+13 - n).toNat,by omega,?_⟩;have f:n+((s+13 - n).toNat:Int)=s+13:=by omega
 rw[f];have x:(s+13+1)*m.d=s*m.d+14*m.d:=by rw[show s+13+1=s+14 by omega,az]
 have y:(K+1+1)*m.n=K*m.n+m.n+m.n:=by rw[az,e];omega
 have p:dU ((s+13+1)*m.d - 1 - m.ad) m.n=K+1:=WG b (by omega) (by omega);unfold yh;rw[p,<-c];omega
def pK (m:gK):Nat->Int->Int
 |0,n=>n
 |k+1,n=>if yh m n=13 then n else pK m k (n+1)
def gK.full (m:gK)(n:Int):Int:=pK m 45 n
def aal {m:gK}{k:Nat}{n:Int}(h:yh m n=13):pK m k n=n:=by
 cases k with
 |zero=>rfl
 |succ k=>rw[pK,if_pos h]
def WR (m:gK):∀(k:Nat) (n:Int),n<=pK m k n/\pK m k n<=n+k
 |0,n=>⟨bi _,by simp[pK]⟩
 |k+1,n=>by
  rw[pK]
  split
  ·omega
  ·have:=WR m k (n+1)
   omega
def sunday (c:Cal)(m:gK)(y:Int):Int:=let n:=m.full (AU c (c.firsts 4002) ⟨y,3,21⟩);n+(7 - wd n)
def ae7 (c:Cal)(m:gK)(y:Int)(es:List (DV×DV)):Prop:=es=[]\/es=[(.agg [dI y,dI 3,dI 21],dI (sunday c m y))]
def FM (c:Cal)(m:gK)(y:Int):List (DV×DV):=[(.agg [dI y,dI 3,dI 21],dI (sunday c m y))]
def yC (c:Cal)(hc:c.ok=true):∀x∈c.firsts 4002,0<=x/\x<=10000000:=by
 obtain⟨b,_,_⟩:=Cal.facts hc;intro x a;simp only[Cal.firsts,aq,List.mem_range]at a;obtain⟨i,d,rfl⟩:=a;have:=c.kG i;omega
section
variable {C:Ctx}{base:Nat}{KP:DV->Mem->Prop}
variable{ks:List Nat}{b:Nat}{M:Mem}{K:PV->Mem->Prop}
def TL {ok:Bool}{z:DV}{k:DV}(l:List (DV×DV))(r:Option DV)(hb:M.box b=some [.iW l])(h1:iL ks k k=some true)(h2:pO ks l k=some r)(a:K (.d (FW ok z r)) M):
  au C base (.Iz ok ks z) [.mref b, .d k] M K KP:=by
 simp only[au,hb,h1,h2];exact a
def apH {k:List DV}{v:DV}(l a:List (DV×DV))(hb:M.box b=some [.iW l])(hf:b∉M.fz)(h1:dK ks k k=some true)(h2:LP ks l k v=some a)(c:K .dead {M with boxes:=M.boxes.set b (some [.iW a])}):
  au C base (.adZ ks) [.mref b, .d (.agg k), .d v] M K KP:=by
 simp only[au,hb,h1,h2];exact⟨hf,c⟩
end
def an7 (y:Int):dK [1,1,1] [dI y,dI 3,dI 21] [dI y,dI 3,dI 21]=some true:=by simp[dK]
def adO (y:Int):iL [1,1,1] (.agg [dI y,dI 3,dI 21]) (.agg [dI y,dI 3,dI 21])=some true:=by
 simp only[iL,an7];rfl
def vM (c:Cal)(n:Nat):(c.firsts n).length=n:=by simp[Cal.firsts]
def ac6 (c:Cal)(fs:List Int)(d:Dt)(hf:∀x∈fs,0<=x/\x<=10000000)(f:d.y.toNat<fs.length)(hd:1<=d.d/\d.d<=31):0<=AU c fs d/\AU c fs d<=10000400:=by
 have g:=hf _ (getD_mem f);have h:dS (aY (c.leap d.y)) 0<=366:=by have:=mY (c.leap d.y);unfold wH at this;rw[this];split<;>decide
 have b:=CZ (aY (c.leap d.y)) (d.m - 1).toNat 0 fun x a=>by have:=kY _ x a;omega
 have e:=sG ((aY (c.leap d.y)).take (d.m - 1).toNat) 0 fun x a=>by have:=kY _ x (aR a);omega
 unfold AU;omega
variable{x0 x1 x2 x3 x4 x6:Option (List PV)}
def ah0 {x7 x8 x9:Option (List PV)}{fz:List Nat}{A1 A2:Option Arr}(c:Cal)(m:gK)(y:Int)(es:List (DV×DV))(hc:c.ok=true)(v:m.ok=true)(Q:0<=y/\y<=4000)(r:ae7 c m y es)(s:5∉fz)(g:∀i∈fz,i<10):
  ∃M',SC C 196 [.agg [pI c.ep, .d (sF (c.cy.map ay)),pI m.n,pI m.d,pI m.ad, .tsl 0 4001 0, .mref 5],pI y]
   ⟨[x0,x1,x2,x3,x4,some [.iW es],x6,x7,x8,x9],fz,[some ⟨1,(c.firsts 4002).map ay,4001,0⟩,A1,A2]⟩
   (fun p M=>p= .d (dI (sunday c m y))/\M=M') (fun _ _=>False)/\M'.boxes.take 10=[x0,x1,x2,x3,x4,some [.iW (FM c m y)],x6,x7,x8,x9]/\M'.fz=fz/\M'.aB=[some ⟨1,(c.firsts 4002).map ay,4001,0⟩,A1,A2]:=by
 obtain⟨K,O,z⟩:=Cal.facts hc;refine⟨⟨[x0,x1,x2,x3,x4,some [.iW (FM c m y)],x6,x7,x8,x9,some [pI c.ep, .d (sF (c.cy.map ay)),pI m.n,pI m.d,pI m.ad, .tsl 0 4001 0, .mref 5],some [pI y,pI 3,pI 21]],fz,[some ⟨1,(c.firsts 4002).map ay,4001,0⟩,A1,A2]⟩,?_,rfl,rfl,rfl⟩;have asU:10∉fz:=fun h=>by have:=g _ h;omega
 have arL:11∉fz:=fun h=>by have:=g _ h;omega
 refine ayH uZ aJ ?_;simp only[uZ,aJ,gI,DC,arL,RN,B,F,N]
 rcases r with rfl|rfl
 ·refine TL [] none rfl (adO y) rfl ?_
  simp only[FW,cond_true,Option.getD_none,be,RN,B,F,N];have k:(c.firsts 4002).length=4002:=by simp[Cal.firsts]
  have hd:=aiW c m (c.firsts 4002) (some []) ⟨y,3,21⟩ (by omega) (fun n h=>by have:=z n h;omega) (yC c hc) (by rw[k];simp only;omega) (by simp only;omega) (by simp only;omega);rw[rO,pY]at hd;obtain⟨b,f⟩:∃b,b=AU c (c.firsts 4002) ⟨y,3,21⟩:=⟨_,rfl⟩
  rw[<-f]at hd;have A:0<=b/\b<=10000400:=by rw[f];exact ac6 c _ _ (yC c hc) (by rw[k];simp only;omega) ⟨by simp only;omega,by simp only;omega⟩
  refine kS (sU (BZ rfl rfl)) rfl hd rfl ?_;(try simp only[RN,B,F,H,I,J,N]);obtain⟨j,L,t⟩:=WS m v b;refine jo (fun i:Nat=>⟨[(2, .ptr 10 0),(5, .ptr 11 0),(8,pI (b+i))],⟨[x0,x1,x2,x3,x4,some [.iW []],x6,x7,x8,x9,some [pI c.ep, .d (sF (c.cy.map ay)),pI m.n,pI m.d,pI m.ad, .tsl 0 4001 0, .mref 5],some [pI y,pI 3,pI 21]],fz,[some ⟨1,(c.firsts 4002).map ay,4001,0⟩,A1,A2]⟩⟩)
   (fun i=>i<=j/\m.full b=pK m (45 - i) (b+i)) (fun i=>j - i) 0 (by simp) ⟨V _,by simp[gK.full]⟩ ?_
  rintro i ⟨x,l⟩;have u:=ap9 m (b+i) v (by omega);rw[iy]at u;(try simp only[RN,B,F,N]);refine ayG u ?_
  by_cases e:yh m (b+i)=13
  ·have arO:m.full b=b+i:=by rw[l,aal e]
   simp only[e,bne_self_eq_false,RN,B,F];have G:=ah6 (b+i) (by omega);refine ayG G ?_;have R:0<=wd (b+i):=a7 7 (by omega);have S:wd (b+i)<7:=ao _ (by decide);have q:bS .i64 (7 - wd (b+i))=7 - wd (b+i):=aF (by omega);have w:bS .i64 (b+i+(7 - wd (b+i)))=b+i+(7 - wd (b+i)):=aF (by omega);simp only[q,w,RN,F,N];have o:sunday c m y=b+i+(7 - wd (b+i)):=by simp only[sunday,<-f,arO]
   refine apH [] (FM c m y) rfl s (an7 y) (by rw[FM,o];rfl) ?_;(try simp only[RN]);rw[o]
  ·have q:bS .i64 (b+i+1)=b+((i+1:Nat):Int):=by rw[aF (by omega)];omega
   have arq:(yh m (b+i) !=13)=true:=by simp[e]
   simp only[arq,q,RN,B,F];have D:i≠j:=by rintro rfl;exact e t
   refine uN (μ:=fun i=>j - i) (a:=i) (E:=fun i:Nat=>⟨[(2, .ptr 10 0),(5, .ptr 11 0),(8,pI (b+i))],⟨[x0,x1,x2,x3,x4,some [.iW []],x6,x7,x8,x9,some [pI c.ep, .d (sF (c.cy.map ay)),pI m.n,pI m.d,pI m.ad, .tsl 0 4001 0, .mref 5],some [pI y,pI 3,pI 21]],fz,[some ⟨1,(c.firsts 4002).map ay,4001,0⟩,A1,A2]⟩⟩) (P:=fun i=>i<=j/\m.full b=pK m (45 - i) (b+i)) (i+1) (by omega) rfl ⟨by omega,?_⟩;rw[l,show 45 - i=(45 - (i+1))+1 by omega,pK,if_neg e]
   congr 1
   omega
 ·refine TL (FM c m y) (some (dI (sunday c m y))) rfl (adO y) ?_ ?_
  ·simp only[FM,pO,adO]
  simp only[FW,cond_true,bl,bh,RN,B]
  rfl
def apK (c:Cal)(m:gK):PV:= .agg [pI c.ep, .d (sF (c.cy.map ay)),pI m.n,pI m.d,pI m.ad, .tsl 0 4001 0, .mref 5]
def aft (x0 x1:Option (List PV))(c:Cal)(m:gK)(i:Nat):St:=
 ⟨[(4, .ptr 4 0),(5, .ptr 6 0),(6,pI (c.first i)),(14,pI i)],
  ⟨[x0,x1,some [pI c.ep, .d (sF (c.cy.map ay))],some [pI m.n,pI m.d,pI m.ad],
   some [pI 0, .d (.slice true []),pI 0,pI 0,pI 0, .d (.slice true []), .d (.map none)],
   some [.iW []],some [pI c.ep, .d (sF (c.cy.map ay)),pI m.n,pI m.d,pI m.ad,opC i, .mref 5]],[3,2,1,0],opA c i⟩⟩
def am1 (c:Cal)(m:gK)(hc:c.ok=true):SC C 98 [.d c.dv, .d m.dv] ⟨[x0,x1],[1,0],[]⟩ (fun p M=>p=apK c m/\∃x2 x3 x4 x6,(∀x∈[x2,x3,x4,x6],∀n k,7<=n->1<=k->((x.getD []).all fun p=>p.upto n k)=true)/\M=⟨[x0,x1,x2,x3,x4,some [.iW []],x6],[3,2,1,0],[some ⟨1,(c.firsts 4002).map ay,4001,0⟩]⟩) (fun _ _=>False):=by
 obtain⟨u,v,s⟩:=Cal.facts hc;refine ayH Ea aeE ?_;simp only[Ea,aeE,fE,iy,SI,JK,rJ,ab,eP,gI,Gn,RN,B,F,I,N];refine aH 4002 (fun i (_:Unit)=>aft x0 x1 c m i) (fun i _=>True) 0 () (V _) rfl trivial (fun i a h1 g=> ?_) (fun a g=> ?_)
 ·have h2:(i:Int)<4002:=by omega
  have r:bS .i64 ((i:Int)+1)=((i+1:Nat):Int):=by rw[aF (by omega)];omega
  have t:=c.kG i;have e:=c.kG (i+1);rw[Cal.first]at e;have l:bS .i64 (c.first i+wH (c.leap i))=c.first i+wH (c.leap i):=aF (by omega);have hd:=afq c m (c.firsts (i+1)) (some []) i (by omega) (fun n h=>by have:=s n h;omega);rw[rO]at hd
  rcases i with _|i
  ·simp only[aft,opC,opA,h2,bM,dB,bI,ab,eP,DV.strip,fits_int,forall_eq,RN,B,F,H,I,J,N]
   (repeat(refine Z (by first|assumption|rfl|(simp;done)|(simp;omega)) ?_))
   refine kS (by rfl) (by rfl) hd rfl ?_;simp only[l,r,RN];exact bn (len:=4002) (i:=0) () h1 rfl trivial
  ·simp only[aft,opC,opA,h2,bM,dB,bI,ab,eP,DV.strip,fits_int,forall_eq,RN,B,F,I,J,N]
   have b:(c.firsts (i+1)).length=i+1:=by simp[Cal.firsts]
   have f:(c.firsts (i+1)).map ay++ [dI (c.first (i+1))]=(c.firsts (i+1+1)).map ay:=by rw[c.PD (i+1),ax];rfl
   rw[f,O,b]
   (repeat(refine Z (by first|assumption|rfl|(simp;done)|(simp;omega)) ?_))
   refine kS (sU (BZ rfl rfl)) rfl hd rfl ?_;simp only[l,r,RN];exact bn (len:=4002) (i:=i+1) () h1 rfl trivial
 ·have j:¬((4002:Nat):Int)<4002:=by omega
  simp only[aft,opC,opA,j,dB,bI,ab,eP,gI,Gn,RN,B,F,I,N];refine⟨rfl,_,_,_,_,?_,rfl⟩;intro x j n k h1 h2;have o:5<n:=by omega
  have q:0<k:=by omega
  rcases j with rfl|rfl|rfl|rfl
  ·rfl
  ·rfl
  ·simp[PV.upto,o,q]
  ·simp[PV.upto,o,q]
variable{M:Mem}{y:DV}
def WC {p:PV}{d:DV}(h:datum M p=some d):dF M [p, .d y]=some [d,y]:=sU h
def XC (c:Cal)(m:gK)(y:Int)(hc:c.ok=true)(a:0<=y/\y<=4000):0<=sunday c m y/\sunday c m y<=10000500:=by
 have h1:=ac6 c (c.firsts 4002) ⟨y,3,21⟩ (yC c hc) (by rw[vM];simp only;omega) (by simp only;omega);have h2:=WR m 45 (AU c (c.firsts 4002) ⟨y,3,21⟩);have b:0<=wd (m.full (AU c (c.firsts 4002) ⟨y,3,21⟩)):=a7 7 (by unfold gK.full;omega);have d:wd (m.full (AU c (c.firsts 4002) ⟨y,3,21⟩))<7:=ao _ (by decide);simp only[sunday];unfold gK.full at*;omega
def kW (c:Cal)(m:gK)(y:Int)(f:Fs):Int:=if f.mv then sunday c m y+f.af else if jY c ⟨y,f.mo,f.da⟩then AU c (c.firsts 4002) ⟨y,f.mo,f.da⟩else -1
def Fs.facts {f:Fs}(h:f.bad=false):(f.mv=true-> -60<=f.af/\f.af<=60)/\(f.mv=false->(1<=f.mo/\f.mo<=12)/\1<=f.da/\f.da<=31):=by
 unfold Fs.bad at h;cases a:f.mv<;>simp[a,inR]at h<;>simp<;>omega
def agR {ex:Bool}(c:Cal)(m:gK)(l:List Fs)(y:Int)(hc:c.ok=true)(hm:m.ok=true)(R:0<=y/\y<=4000)(hl:l.length<=6)(hb:∀f∈l,f.bad=false)(hx:∀x∈[x0,x1,x2,x3,x4,x6],∀n k,7<=n->1<=k->((x.getD []).all fun p=>p.upto n k)=true):
  SC C 104 [apK c m, .d (.slice ex (l.map Fs.dv)),pI y] ⟨[x0,x1,x2,x3,x4,some [.iW []],x6],[3,2,1,0],[some ⟨1,(c.firsts 4002).map ay,4001,0⟩]⟩
   (fun p M=>KR M p 1 ((l.map (kW c m y)).map ay) 0) (fun _ _=>False):=by
 obtain⟨he,X,Q⟩:=Cal.facts hc;refine ayH uX jr ?_;simp only[uX,jr,apK,gI,DC,O,RN,B,F,J];refine aH l.length (fun i (es:List (DV×DV))=>⟨[(2,pI y),(3, .ptr 7 0),(7, .tsl 2 i 0),(12, .d (.slice ex (l.map Fs.dv))),(13,pI l.length),(14,pI i)],
   ⟨[x0,x1,x2,x3,x4,some [.iW es],x6,some [pI c.ep, .d (sF (c.cy.map ay)),pI m.n,pI m.d,pI m.ad, .tsl 0 4001 0, .mref 5]],[3,2,1,0],
    [some ⟨1,(c.firsts 4002).map ay,4001,0⟩,some ⟨1,[],0,0⟩,some ⟨1,((l.take i).map (kW c m y)).map ay,i,0⟩]⟩⟩)
  (fun i es=>ae7 c m y es) 0 [] (V _) rfl (.inl rfl) (fun i es h1 b=> ?_) (fun es b=> ?_)
 ·obtain⟨h2,W,r⟩:=rng h1 (by omega)
  have P:=Fs.facts (hb _ (getD_mem h1));have g:((l.take i).map (kW c m y)).map ay++ [dI (kW c m y (l.getD i default))]=((l.take (i+1)).map (kW c m y)).map ay:=by
   rw[aS h1];simp[ay]
  have Y:(((l.take i).map (kW c m y)).map ay).length<=6:=by simp;omega
  have a:(kW c m y (l.getD i default))=(if(l.getD i default).mv then sunday c m y+(l.getD i default).af else if jY c ⟨y,(l.getD i default).mo,(l.getD i default).da⟩then AU c (c.firsts 4002) ⟨y,(l.getD i default).mo,(l.getD i default).da⟩else -1):=rfl;have ab:=XC c m y hc R;have t:=hx x0 (by simp) 8 3 (by omega) (by omega);have u:=hx x1 (by simp) 8 3 (by omega) (by omega);have v:=hx x2 (by simp) 8 3 (by omega) (by omega);have w:=hx x3 (by simp) 8 3 (by omega) (by omega);have z:=hx x4 (by simp) 8 3 (by omega) (by omega);have A:=hx x6 (by simp) 8 3 (by omega) (by omega);simp only[h2,W,h1,xH,getD_map,S,O,RN,B,F,I,N];cases e:(l.getD i default).mv
  ·obtain⟨D,E⟩:=P.2 e
   rw[e]at a;simp only[ae,if_false]at a;have hd:=aax c m (c.firsts 4002) (some es) ⟨y,(l.getD i default).mo,(l.getD i default).da⟩ (by omega) (fun n h=>by have:=Q n h;omega);rw[rO,pY]at hd;(try simp only[RN,B,F,N]);refine kS (WC (BZ rfl rfl)) rfl hd rfl ?_;cases o:jY c ⟨y,(l.getD i default).mo,(l.getD i default).da⟩
   ·rw[o]at a
    simp only[ae,if_false]at a;simp only[DV.strip,fits_int,forall_eq,RN,B,F,I,J,N]
    (repeat(refine Z (by first|assumption|rfl|(simp;done)|(simp;omega)) ?_))
    rw[<-a,g,r];exact jv 8 3 es h1 rfl b (by decide) (by decide) rfl (by simp only[a8,bt,bu,t,u,v,w,z,A];rfl)
   ·rw[o]at a
    simp only[if_true]at a;(try simp only[RN,B,F,N]);have j:=aiW c m (c.firsts 4002) (some es) ⟨y,(l.getD i default).mo,(l.getD i default).da⟩ (by omega) (fun n h=>by have:=Q n h;omega) (yC c hc) (by rw[vM];simp only;omega) D E;rw[rO,pY]at j;refine kS (WC (BZ rfl rfl)) rfl j rfl ?_;simp only[DV.strip,fits_int,forall_eq,RN,F,I,J,N]
    (repeat(refine Z (by first|assumption|rfl|(simp;done)|(simp;omega)) ?_))
    rw[<-a,g,r];exact jv 8 3 es h1 rfl b (by decide) (by decide) rfl (by simp only[a8,bt,bu,t,u,v,w,z,A];rfl)
  ·obtain⟨D,E⟩:=P.1 e
   rw[e]at a;simp only[if_true]at a;have T:bS .i64 (sunday c m y+(l.getD i default).af)=sunday c m y+(l.getD i default).af:=aF (by omega);(try simp only[RN,B,F,J,N]);obtain⟨⟨q,U,ar'⟩,s,G,H,K⟩:=ah0 (x0:=x0) (x1:=x1) (x2:=x2) (x3:=x3) (x4:=x4) (x6:=x6) (x7:=some [pI c.ep, .d (sF (c.cy.map ay)),pI m.n,pI m.d,pI m.ad, .tsl 0 4001 0, .mref 5])
    (x8:=some [.d (.bool true),pI ((l.getD i default).mo),pI ((l.getD i default).da),pI ((l.getD i default).af)])
    (x9:=some [pI y,pI ((l.getD i default).mo),pI ((l.getD i default).da)]) (fz:=[8,3,2,1,0])
    (A1:=some ⟨1,[],0,0⟩) (A2:=some ⟨1,((l.take i).map (kW c m y)).map ay,i,0⟩) c m y es hc hm R b (by decide) (by decide)
   simp only at G H K;subst H K;refine⟨_,_,s,?_⟩;simp only[T,DV.strip,fits_int,forall_eq,RN,I,N]
   (repeat(refine Z (by first|assumption|rfl|(simp;done)|(simp;omega)) ?_))
   have L:q.take 8=[x0,x1,x2,x3,x4,some [.iW (FM c m y)],x6,some [pI c.ep, .d (sF (c.cy.map ay)),pI m.n,pI m.d,pI m.ad, .tsl 0 4001 0, .mref 5]]:=by
    have:=congrArg (List.take 8) G;rw[List.take_take]at this;exact this
   rw[<-a,g,r];exact jv 8 3 (FM c m y) h1 (by rw[L];rfl) (.inr rfl) (by decide) (by decide) rfl (by rw[L];simp only[bu,t,u,v,w,z,A];rfl)
 ·simp only[ai,RN,B,F]
  rw[bB];exact⟨2,_,rfl,rfl⟩
def vY (c:Cal)(m:gK)(l:List Fs)(y:Int):DV:=
 if c.ok&&m.ok&&jA l&&inR y 0 4000 then .tup [sF ((l.map (kW c m y)).map ay),dI 0]else .tup [.slice true [],dI 2]
def tC {l:List Fs}(h:jA l=true):l.length<=6/\∀f∈l,f.bad=false:=by
 simp only[jA,Q,decide_eq_true_eq,Bool.not_eq_true']at h;refine⟨h.1,fun f a=> ?_⟩;have:=h.2;rw[List.any_eq_false]at this
 simpa using this f a
def anP {v:PV}{sz st:Nat}{xs:List DV}{x:DV}(h:KR M v sz xs st)(a:y= .tup [.slice false xs,x]):datum M (aco (iZ [v, .d x]) [v, .d x])=some y:=by
 subst a;obtain⟨k,ver,rfl,h⟩:=h;simp[iZ,aco,datum,cu,fA,Mem.row,h]
def Zx (c:Cal)(m:gK)(ex:Bool)(l:List Fs)(y:Int)(g:c.cy.length<=1000000):Pure C 31 [c.dv,m.dv, .slice ex (l.map Fs.dv),dI y] (.d (vY c m l y)) []:=by
 refine bU (ayH Gu Y9 ?_);simp only[Gu,Y9,fE,iy,RN,B,F,N];have a:=Yi c g;have b:=ajJ m;rw[fE]at a;rw[iy]at b;refine ayG a ?_;cases f:c.ok
 ·(try simp only[RN,B,F])
  simp[vY,f,datum]
 ·(try simp only[RN,B,F,N])
  refine ayG b ?_;cases q:m.ok
  ·(try simp only[RN,B,F])
   simp[vY,q,datum]
  ·(try simp only[RN,B])
   refine ayG (ZB false l) ?_;cases i:jA l
   ·(try simp only[RN,B,F])
    simp[vY,i,datum]
   ·(try simp only[RN,B])
    refine ayG (X7 y) ?_;cases r:inR y 0 4000
    ·(try simp only[RN,B,F])
     simp[vY,r,datum]
    ·(try simp only[RN,B,F,N])
     have s:0<=y/\y<=4000:=by simpa[inR]using r
     obtain⟨j,o⟩:=tC i;have t:=am1 (x0:=some [pI c.ep, .d (sF (c.cy.map ay))]) (x1:=some [pI m.n,pI m.d,pI m.ad]) c m f;rw[fE,iy]at t;refine SC.mono t ?_;rintro p M ⟨rfl,x2,x3,x4,x6,w,rfl⟩;refine SC.mono (agR c m l y f q s j o ?_) ?_
     ·intro x e n k h1 h2
      simp only[aw,List.not_mem_nil,or_false]at e
      rcases e with rfl|rfl|h
      ·rfl
      ·rfl
      ·exact w x (by simpa using h) n k h1 h2
     ·intro v M u
      exact anP u (by simp[vY,f,q,i,r])
def Z5 (c:Cal)(d:Dt):DV:=if c.ok&&jY c d then .tup [dI (AU c (c.firsts 4002) d),dI 0]else .tup [dI 0,dI 2]
def X0 {c:Cal}{d:Dt}(h:jY c d=true):(0<=d.y/\d.y<=4000)/\(1<=d.m/\d.m<=12)/\1<=d.d/\d.d<=31:=by
 simp only[jY,Q]at h;obtain⟨⟨h1,h2⟩,a⟩:=h;simp only[inR,Q,decide_eq_true_eq,ge_iff_le]at h1 h2 a;have b:(d.m - 1).toNat<(aY (c.leap d.y)).length:=by rw[nO];omega
 have:=kY _ _ (getD_mem b);omega
def anY (c:Cal)(d:Dt)(g:c.cy.length<=1000000):Pure C 30 [c.dv,d.dv] (.d (Z5 c d)) []:=by
 refine ayF PW dY ?_;simp only[PW,dY,fE,pY,RN,B,F,N];have e:=Yi c g;rw[fE]at e;refine ayG e ?_;cases b:c.ok
 ·(try simp only[RN,B,F])
  simp[Z5,b]
 ·(try simp only[RN,B,F,N])
  obtain⟨m,o,i⟩:=Cal.facts b;have j:=akg c ⟨0,0,0⟩ b;rw[fE,iy,rO]at j;refine ayG j ?_;(try simp only[RN,B,F,I,N]);have hd:=aax c ⟨0,0,0⟩ (c.firsts 4002) (some []) d (by omega) (fun n h=>by have:=i n h;omega);rw[rO,pY]at hd;refine ayG hd ?_;cases a:jY c d
  ·(try simp only[RN,B,F])
   simp[Z5,a]
  ·(try simp only[RN,B,F,N])
   obtain⟨p,k,l⟩:=X0 a;have f:=aiW c ⟨0,0,0⟩ (c.firsts 4002) (some []) d (by omega) (fun n h=>by have:=i n h;omega) (yC c b) (by rw[vM];omega) k l;rw[rO,pY]at f;refine ayG f ?_;(try simp only[RN]);simp[Z5,a,b]
section
variable {C:Ctx}{base:Nat}{bs:List (Option (List PV))}{fz:List Nat}{ar:List (Option Arr)}{L:PV->Mem->Prop}{KP:DV->Mem->Prop}
def aoL {k k':IntKind}{a b:Int}:au C base (.shf .shr) [.d (.int k a), .d (.int k' b)] ⟨bs,fz,ar⟩ L KP=(0<=b/\L (.d (.int k (a.fdiv (2 ^ min b.toNat k.bits)))) ⟨bs,fz,ar⟩):=px
end
def amK (n:Int):Pure C 343 [dI n] (.d (.bool false)) []:=by
 refine ayF Cb aK ?_;simp only[Cb,aK,RN,B];simp
def ajK (n:Int):Pure C 323 [dI n] (.d (.bool false)) []:=by
 refine ayF xZ aK ?_;simp only[xZ,aK,RN,B];simp
def apC (a b:Int):Pure C 318 [dI a,dI b] (.d (.bool (decide (a<b)))) []:=by
 refine ayF EM aJ ?_;simp only[EM,aJ,RN,B,F];refine ayG (amK _) ?_;(try simp only[RN,B])
structure aeZ (xs:List Int) (n:Int) (p:Nat):Prop where
 le:p<=xs.length
 lt:∀k,k<p->xs.getD k default<n
 ge:∀k,p<=k->k<xs.length->n<=xs.getD k default
def anQ {n:Nat}(h:n<18446744073709551616):IntKind.u64.wrap (n:Int)=n:=by
 simp only[IntKind.wrap,IntKind.bits,IntKind.signed,aD,ae,if_false];omega
def half (a b:Nat)(h:a<b)(hb:b<=1000000):bS .i64 (IntKind.u64.wrap (bS .i64 ((a:Int)+(b:Int)))|>.fdiv (2 ^ min (1:Int).toNat IntKind.u64.bits))=(((a+b) / 2:Nat):Int):=by
 rw[aF (n:=(a:Int)+b) (by omega)];have c:IntKind.u64.wrap ((a:Int)+b)=(a:Int)+b:=by have:=anQ (n:=a+b) (by omega);simpa using this
 rw[c];have d:((a:Int)+b).fdiv (2 ^ min (1:Int).toNat IntKind.u64.bits)=(((a+b) / 2:Nat):Int):=by
  have:(2:Int) ^ min (1:Int).toNat IntKind.u64.bits=2:=by decide
  rw[this,Int.fdiv_eq_ediv_of_nonneg _ (by decide)];omega
 rw[d];exact aF (by omega)
def af6 (xs:List Int)(n:Int)(p:Nat)(hl:xs.length<=1000000)(r:aeZ xs n p):Pure C 293 [sF (xs.map ay),dI n] (.d (.tup [dI p, .bool (decide (p<xs.length/\xs.getD p default=n))])) []:=by
 refine ayF nU dY ?_;simp only[nU,dY,O,RN,B,F];refine jo (fun q:Nat×Nat=>⟨[(0, .d (sF (xs.map ay))),(1,pI n),(6,pI xs.length),(7,pI q.1),(8,pI q.2)],⟨[],[],[]⟩⟩)
  (fun q=>q.1<=p/\p<=q.2/\q.2<=xs.length) (fun q=>q.2 - q.1) (0,xs.length) rfl ⟨V _,r.le,bE _⟩ ?_
 rintro⟨a,b⟩ ⟨s,t,i⟩;simp only at s t i⊢
 by_cases k:a<b
 ·have c:(a:Int)<b:=by omega
  have hh:=half a b k (by omega);obtain⟨h,o⟩:∃h,h=(a+b) / 2:=⟨_,rfl⟩
  rw[<-o]at hh;have u:h<xs.length:=by omega
  have w:(0:Int)<=(h:Int):=by omega
  have x:bS .i64 ((h:Int)+1)=((h+1:Nat):Int):=by rw[aF (by omega)];omega
  simp only[c,aoL,hh,u,w,O,getD_map,S,aI,RN,B,N]
  (repeat(refine Z (by first|assumption|rfl|(simp;done)|(simp;omega)) ?_))
  refine ayG (apC _ _) ?_
  by_cases g:xs.getD h default<n
  ·simp only[g,x,RN,B]
   refine uN (μ:=fun q:Nat×Nat=>q.2 - q.1) (a:=(a,b)) (h+1,b) (by simp only;omega) rfl ⟨?_,t,i⟩;simp only;refine Nat.lt_of_not_le fun f=> ?_
   have:=r.ge h f u;omega
  ·simp only[g,RN,B]
   refine uN (μ:=fun q:Nat×Nat=>q.2 - q.1) (a:=(a,b)) (a,h) (by simp only;omega) rfl ⟨s,?_,by simp only;omega⟩;simp only;refine Nat.le_of_not_lt fun f=> ?_
   exact g (r.lt h f)
 ·have c:¬(a:Int)<b:=by omega
  obtain rfl:a=p:=by omega
  by_cases e:a<xs.length
  ·have j:(a:Int)<(xs.length:Int):=by omega
   have v:(0:Int)<=(a:Int):=by omega
   by_cases l:xs.getD a default=n
   ·simp only[c,j,v,e,O,getD_map,S,aI,l,beq_self_eq_true,RN,B,N]
   ·have m:(xs.getD a default==n)=false:=beq_false_of_ne l
    simp only[c,j,v,e,O,getD_map,S,aI,l,m,RN,B,N];refine ayG (ajK _) ?_;(try simp only[RN,B])
  ·have j:¬(a:Int)<(xs.length:Int):=by omega
   simp only[c,j,e,false_and,RN,B]
def Dy (c:Cal)(y:Nat):c.first y+365<=c.first (y+1)/\c.first (y+1)<=c.first y+366:=by
 rw[Cal.first,mY]
 split<;>omega
def Dx (c:Cal){a b:Nat}(h:a<=b):c.first a<=c.first b:=by
 induction b with
 |zero=>
  obtain rfl:a=0:=by omega
  exact bi _
 |succ b e=>
  by_cases d:a=b+1
  ·rw[d];exact bi _
  ·have:=e (by omega)
   have:=Dy c b;omega
def nK (c:Cal){n k:Nat}(h:k<n):(c.firsts n).getD k default=c.first k:=by
 simp[Cal.firsts,List.getD,h]
def firstAt (c:Cal)(Y:Nat)(day:Int)(e:Y<=4000)(h1:c.first Y<=day)(h2:day<c.first (Y+1)):aeZ (c.firsts 4002) day (if c.first Y=day then Y else Y+1):=by
 have d:=vM c 4002;refine⟨by rw[d];split<;>omega,fun k a=> ?_,fun k a b=> ?_⟩
 ·split at a
  ·rw[nK c (by omega)]
   have:=Dx c (show k+1<=Y by omega);have:=Dy c k;omega
  ·rw[nK c (by omega)]
   have:=Dx c (show k<=Y by omega);omega
 ·rw[d]at b
  rw[nK c (by omega)]
  split at a
  ·have:=Dx c (show Y<=k by omega)
   omega
  ·have:=Dx c (show Y+1<=k by omega)
   omega
def aaN:List Int->Int->Int->Int×Int
 | [],_,_=>(0,0)
 |n::l,i,left=>if left<n then(i+1,left+1)else aaN l (i+1) (left - n)
def SA (c:Cal)(Y:Nat)(day:Int):Dt:=let r:=aaN (aY (c.leap Y)) 0 (day - c.first Y);⟨Y,r.1,r.2⟩
def KN:∀(l:List Int) (p:Int),dS l p=p+dS l 0
 | [],p=>by simp[dS]
 |x::l,p=>by
  rw[dS,dS,KN l (p+x),KN l (0+x)];omega
def aox (c:Cal)(m:gK)(es:Option (List (DV×DV)))(Y:Nat)(day:Int)(hc:c.ok=true)(L:Y<=4000)(h1:c.first Y<=day)(h2:day<c.first (Y+1)):Pure C 251 [abq c m (c.firsts 4002) es,dI day] (.d (SA c Y day).dv) []:=by
 obtain⟨j,hl,Q⟩:=Cal.facts hc;have k:=vM c 4002;have M:=c.kG Y;have z:=c.kG (Y+1);refine bU (ayH xK akO ?_);simp only[xK,akO,rO,RN,B,F,N];refine ak rfl rfl (af6 (c.firsts 4002) day _ (by omega) (firstAt c Y day L h1 h2)) ?_;have hh:(decide ((if c.first Y=day then Y else Y+1)<(c.firsts 4002).length/\(c.firsts 4002).getD (if c.first Y=day then Y else Y+1) default=day))=decide (c.first Y=day):=by
  by_cases j:c.first Y=day
  ·rw[if_pos j,k,nK c (by omega)];simp[j];omega
  ·rw[if_neg j,k,nK c (by omega)];simp[j];omega
 rw[hh];have D:bS .i64 (((Y+1:Nat):Int) - 1)=(Y:Int):=by rw[aF (by omega)];omega
 have A:bS .i64 (day - c.first Y)=day - c.first Y:=aF (by omega);have w:inR (Y:Int) 0 4000=true:=by simp[inR];omega
 have T:(0:Int)<=(Y:Int):=by omega
 have U:Y<(c.firsts 4002).length:=by omega
 have l:=Yl c m (c.firsts 4002) es Y (by omega) (fun n h=>by have:=Q n h;omega);rw[rO]at l;have s:=nO (c.leap Y);have f:∃(q:Nat) (b:Bool),(if c.first Y=day then Y else Y+1)=q/\decide (c.first Y=day)=b/\((b=true/\q=Y)\/(b=false/\q=Y+1)):=by
  by_cases f:c.first Y=day
  ·exact⟨Y,true,if_pos f,decide_eq_true f, .inl ⟨rfl,rfl⟩⟩
  ·exact⟨Y+1,false,if_neg f,decide_eq_false f, .inr ⟨rfl,rfl⟩⟩
 obtain⟨q,b,t,u,v⟩:=f;rw[t,u];have r:=nK c (show Y<4002 by omega)
 rcases v with⟨rfl,o⟩|⟨rfl,o⟩<;>rw[o]
 all_goals
  simp only[D,RN,B,F];refine ayG (X7 _) ?_;simp only[w,T,U,S,getD_map,aI,r,A,O,RN,B,F,N];refine ayG l ?_;(try simp only[RN,B,F,H,I,J,N]);refine ayG (LM _) ?_;simp only[O,s,RN];refine aH 12 (fun i (left:Int)=>⟨[(1,pI day),(4, .ptr 1 0),(5,pI Y),(7,pI left),(37, .d (sF ((aY (c.leap Y)).map ay))),(38, .d (dI ((12:Nat):Int))),(39,pI i)],
    ⟨[some [pI c.ep, .d (sF (c.cy.map ay)),pI m.n,pI m.d,pI m.ad, .d (sF ((c.firsts 4002).map ay)), .d (.map es)],some [pI 0,pI 0,pI 0]],[0],[]⟩⟩)
   (fun i left=>0<=left/\left<=400/\left<dS ((aY (c.leap Y)).drop i) 0/\aaN (aY (c.leap Y)) 0 (day - c.first Y)=aaN ((aY (c.leap Y)).drop i) i left) 0 (day - c.first Y) (V _) rfl ⟨by omega,by have:=Dy c Y;omega,by rw[Cal.first]at h2;simp only[br];unfold wH at h2;omega,by simp⟩ (fun i left E e=> ?_) (fun left e=> ?_)
  ·obtain⟨W,X,x,g⟩:=e
   have G:(i:Int)<((12:Nat):Int):=by omega
   have K:(0:Int)<=(i:Int):=by omega
   have y:bS .i64 ((i:Int)+1)=((i+1:Nat):Int):=by rw[aF (by omega)];omega
   have p:i<(aY (c.leap Y)).length:=by omega
   have P:=kY _ _ (getD_mem p);rw[drop_cons p,aaN]at g;rw[drop_cons p,dS]at x;have R:=KN ((aY (c.leap Y)).drop (i+1)) (0+(aY (c.leap Y)).getD i default);have Z:bS .i64 (left+1)=left+1:=aF (by omega);have u2:bS .i64 (left - (aY (c.leap Y)).getD i default)=left - (aY (c.leap Y)).getD i default:=aF (by omega);simp only[G,K,p,O,S,getD_map,aI,RN,B,F,N]
   by_cases a:left<(aY (c.leap Y)).getD i default
   ·rw[if_pos a]at g
    simp only[a,y,Z,RN,B,F,I,N];rw[SA,g,pY]
    rfl
   ·rw[if_neg a]at g
    simp only[a,y,u2,RN,B,F];exact bn (len:=12) (i:=i) (left - (aY (c.leap Y)).getD i default) E rfl ⟨by omega,by omega,by omega,g⟩
  ·obtain⟨W,X,x,g⟩:=e
   rw[List.drop_eq_nil_of_le (by omega),dS]at x;omega
def xR:aA:=(r0 [⟨some 2,.alloc 0 [z0],[],none,0⟩] 1 [0,2] [])
def xU:aA:=(sw (r0 [⟨some 4,.mov,[.t 0],none,0⟩,⟨some 5,.jg,[.t 4],none,0⟩] 0 [2] []) (sw (r0 [⟨none,.store 1,[.t 2,.c (.int .i64 0)],none,0⟩] 0 [2] []) .ret))
def jT:aA:=(.block 0 (sw (r0 [⟨some 7,.DI false,[.t 5,.c (.nilIface)],none,0⟩] 0 [0,5,7] []) (cd 7 (r0 [⟨some 1,.mov,[.t 5],none,0⟩] 0 [] []) (sw (r0 [⟨some 8,.tas T.iT (.agg [.nilIface]),[.t 5],none,0⟩,⟨some 9,.ext 1,[.t 8],none,0⟩,⟨some 10,.ext 0,[.t 8],none,0⟩] 0 [0,5,9,10] []) (cd 9 (sw (r0 [⟨some 2,.alloc 0 [.nilIface],[],none,0⟩,⟨none,.store 1,[.t 2,.t 10],none,0⟩] 1 [0] []) (r0 [⟨none,.store 1,[.t 0,.c (.int .i64 7)],none,0⟩] 0 [] [])) (sw (r0 [⟨some 11,.tas T.qV (.agg [.str ⟨#[]⟩]),[.t 5],none,0⟩,⟨some 12,.ext 1,[.t 11],none,0⟩,⟨some 13,.ext 0,[.t 11],none,0⟩] 0 [0,5,12,13] []) (cd 12 (sw (r0 [⟨some 3,.alloc 0 [.str ⟨#[]⟩],[],none,0⟩,⟨none,.store 1,[.t 3,.t 13],none,0⟩] 1 [0] []) (r0 [⟨none,.store 1,[.t 0,.c (.int .i64 4)],none,0⟩] 0 [] [])) (sw (r0 [⟨some 4,.mov,[.t 5],none,0⟩] 0 [4] []) (r0 [⟨some 6,.mov,[.t 4],none,0⟩,⟨none,.panic,[.t 6],none,0⟩] 0 [] [])))))))))
def LW:XW C.P 72 162 1 6 14 2 3 5 xR xU jT=true:=by kernel_rfl
def Jb:aA:=(r0 [⟨some 2,.alloc 0 [z0],[],none,0⟩] 1 [0,2] [])
def Jc:aA:=(sw (r0 [⟨some 4,.mov,[.t 0],none,0⟩,⟨some 5,.jg,[.t 4],none,0⟩] 0 [2] []) (sw (r0 [⟨none,.store 1,[.t 2,.c (.int .i64 0)],none,0⟩] 0 [2] []) .ret))
def EN:aA:=(.block 0 (sw (r0 [⟨some 7,.DI false,[.t 5,.c (.nilIface)],none,0⟩] 0 [0,5,7] []) (cd 7 (r0 [⟨some 1,.mov,[.t 5],none,0⟩] 0 [] []) (sw (r0 [⟨some 8,.tas T.N8 (.agg [z0]),[.t 5],none,0⟩,⟨some 9,.ext 1,[.t 8],none,0⟩,⟨some 10,.ext 0,[.t 8],none,0⟩] 0 [0,5,9,10] []) (cd 9 (sw (r0 [⟨some 2,.alloc 0 [z0],[],none,0⟩,⟨none,.store 1,[.t 2,.t 10],none,0⟩] 1 [0] []) (r0 [⟨none,.store 1,[.t 0,.c (.int .i64 5)],none,0⟩] 0 [] [])) (sw (r0 [⟨some 11,.tas T.agH (.agg [.str ⟨#[]⟩]),[.t 5],none,0⟩,⟨some 12,.ext 1,[.t 11],none,0⟩,⟨some 13,.ext 0,[.t 11],none,0⟩] 0 [0,5,12,13] []) (cd 12 (sw (r0 [⟨some 3,.alloc 0 [.str ⟨#[]⟩],[],none,0⟩,⟨none,.store 1,[.t 3,.t 13],none,0⟩] 1 [0] []) (r0 [⟨none,.store 1,[.t 0,.c (.int .i64 4)],none,0⟩] 0 [] [])) (sw (r0 [⟨some 4,.mov,[.t 5],none,0⟩] 0 [4] []) (r0 [⟨some 6,.mov,[.t 4],none,0⟩,⟨none,.panic,[.t 6],none,0⟩] 0 [] [])))))))))
def aaX:XW C.P 249 292 1 6 14 2 3 5 Jb Jc EN=true:=by kernel_rfl
end Go.Tel
namespace Go.Am
def WI {C:Ctx}{base:Nat}{M:Mem}{K:PV->Mem->Prop}{KP:DV->Mem->Prop}{f:FuncId}{fs cs args:List PV}:au C base .jg (.func (.func f) fs cs::args) M K KP=(callable C.P f=true/\SC C f (fs++args++cs) M K KP):=px
section
variable {C:Ctx}{base te t5 b:Nat}{pc3:aA}{K:PV->Mem->Prop}{KP:DV->Mem->Prop}{env:List (Nat×PV)}{bs:List (Option (List PV))}{fz:List Nat}{ar:List (Option Arr)}{M:Mem}
def acj:ap0 C te t5 pc3 b K .ret ⟨env,⟨bs,fz,ar⟩⟩=pwp C bs.length ar.length pc3 (ED te b K) ⟨[(0, .ptr b 0),(t5, .d .nilIface)],⟨bs,fz,ar⟩⟩:=px
def Vy {d:DV}:ap0 C te t5 pc3 b K (.panic d) ⟨env,⟨bs,fz,ar⟩⟩=pwp C bs.length ar.length pc3 (ED te b K) ⟨[(0, .ptr b 0),(t5, .d d)],⟨bs,fz,ar⟩⟩:=px
def wC:ED te b K .normal ⟨env,⟨bs,fz,ar⟩⟩=bZ false 1 (.ptr b 0) ⟨bs,fz,ar⟩ fun v=>K v ⟨bs,fz,ar⟩:=px
variable{neq:Bool}
def Px:au C base (.DI neq) [.d .nilIface, .d .nilIface] M K KP=K (.d (.bool !neq)) M:=px
variable{v:DV}
def Pv {t:TypeId}:au C base (.DI neq) [.d (.iface t v), .d .nilIface] M K KP=K (.d (.bool neq)) M:=px
variable{z:DV}
def mF {t:TypeId}:au C base (.tas t z) [.d (.iface t v)] M K KP=K (.d (.tup [v, .bool true])) M:=by simp[au]
def fU {t t':TypeId}(h:(t'==t)=false):au C base (.tas t z) [.d (.iface t' v)] M K KP=K (.d (.tup [z, .bool false])) M:=by
 have a:¬t'=t:=by simpa using h
 simp[au,a]
end
end Go.Am
namespace Go.Tel
open Go.Am
def aof (c:Cal)(Y:Nat)(day:Int)(hc:c.ok=true)(h:Y<=4000)(h1:c.first Y<=day)(h2:day<c.first (Y+1)):Pure C 175 [c.dv,dI day] (.d (.tup [(SA c Y day).dv,dI 0])) []:=by
 obtain⟨j,k,l⟩:=Cal.facts hc;have i:=c.kG Y;have e:=c.kG (Y+1);have hd:inR day 0 2000000=true:=by simp[inR];omega
 refine ayF L9 OU ?_;simp only[L9,OU,fE,RN,B,F,N];have b:=Yi c (by omega);rw[fE,hc]at b;refine ayG b ?_;(try simp only[RN,B,N]);refine ayG (aiZ _) ?_;simp only[hd,lU,ab,bt,br,RN,B,F];refine alr mixed aaX ?_;simp only[Jb,RN,B,F];refine⟨4,rfl,?_⟩;simp only[Jc,WI,RN,B,F];refine⟨by kernel_rfl,ayH Gt jq ?_⟩;simp only[Gt,jq,RN,B,F,N];have f:=akg c ⟨0,0,0⟩ hc;rw[fE,iy,rO]at f;refine ayG f ?_;(try simp only[]);have a:=aox c ⟨0,0,0⟩ (some []) Y day hc h h1 h2;rw[rO,pY]at a;refine ayG a ?_;have g:((0:Int) !=0)=false:=rfl;(try simp only[RN,F,I,N]);simp only[acj,EN,Px,wC,g,RN,B,F,I,N];rw[pY]
def Jf:aA:=(sw (r0 [ba 2 0 0,al 4 1 [z0,z0,z0],mi 5 0] 2 [1,2,4] [2]) (sw (sr [lw 9 2 2,oa 10 (.aj 252) 9,oa 11 pN 10,mv 12 11,ow 13 .mov 1 12 0,ow 14 (.aj 253) 13 12 0,ow 15 pN 14 12 0,pt 16 12 15] 0 [1,2,4,16] (cd 16 (sr [on 17 (.build [z0,z0,z0] []) [],sk 3 4 17 0,mi 5 2] 0 [4,5] .ret) .skip)) (sw (sr [fa 18 1 2,lo 19 18,oa 20 .len 19,mi 21 0] 0 [1,2,4,20,21] (.block 0 (.loop (sr [ob 22 pL 21 20] 0 [1,2,4,20,21,22] (sw (cx 22 0) (sw (.block 1 (sr [mv 23 21,mv 6 23] 0 [1,2,4,6,20,21] (sw (r0 [lw 25 2 2,mv 26 6,mv 27 1,on 28 (.aj 254) [.t 25,.t 26,.t 27],mv 24 28,xa 29 0 24,xa 30 1 24,al 7 0 [z0,z0,z0],sk 3 7 29 0,mv 8 30] 1 [1,2,4,7,8,20,21] [7]) (sr [mv 31 8] 0 [1,2,4,7,20,21,31] (cd 31 (sr [lw 32 3 7,sk 3 4 32 0,mi 5 0] 0 [4,5] .ret) .skip))))) (rg [oi 33 pA 21 1,mv 21 33] 0 [1,2,4,20,21]))))))) (sr [on 34 (.build [z0,z0,z0] []) [],sk 3 4 34 0,mi 5 5] 0 [4,5] .ret))))
def Ci:aA:=(sw (r0 [ba 1 0 0,ag 2 1,mi 3 0] 1 [1] [1]) (sw (sr [lw 8 2 1,oa 9 (.aj 252) 8,oa 10 pN 9] 0 [1,10] (cd 10 (sr [ag 2 1,mi 3 2] 0 [2,3] .ret) .skip)) (sr [ag 4 1] 0 [1,4] (sw (sr [mi 5 1] 0 [1,4,5] (.block 0 (.loop (sw (sr [mv 11 5,oi 12 (.bin .leq) 11 400] 0 [1,4,5,12] (cx 12 0)) (sw (.block 1 (sr [lw 16 2 1,mv 17 5,ob 18 (.aj 176) 16 17,mv 15 18,xa 19 0 15,xa 20 1 15,al 6 0 [z0,z0,z0],sk 3 6 19 0,mv 7 20] 1 [1,4,5,7] (sr [mv 21 7,oi 22 pE 21 0] 0 [1,4,5,22] (cd 22 (rg [mv 23 4,mv 24 5,oa 25 (.gu 1 [z0] [0]) 24,ob 26 (.app 1 false) 23 25,mv 4 26] 0 [1,4,5]) .skip)))) (rg [mv 13 5,oi 14 pA 13 1,mv 5 14] 0 [1,4,5])))))) (sr [mv 27 4,mv 2 27,mi 3 0] 0 [2,3] .ret)))))
def zi:aA:=(sw (r0 [ba 1 0 0,mf 2 false] 1 [1] [1]) (sr [fa 3 0 1,lo 4 3,on 5 (.aj 294) [.t 4,kI 1,kI 60],mv 6 5,ov 7 (.fld 1) 1 6 0,ov 8 (.load false 1) 7 6 0,ov 9 .len 8 6 0,ot 10 (.aj 294) [.t 9,kI 1,kI 6] 6 0,pf 11 6 10,mv 12 11,ov 13 (.fld 1) 1 12 0,ov 14 (.load false 1) 13 12 0,ot 15 (.aj 179) [.t 14,.c (.func (.func 295) [] [])] 12 0,ov 16 pN 15 12 0,pf 17 12 16,mv 2 17] 0 [2] .ret))
def Cj:aA:=(sr [mf 2 false] 0 [0] (sr [mv 3 0,on 4 (.aj 294) [.t 3,kI 1,kI 400],mv 2 4] 0 [2] .ret))
def Jg:aA:=(sw (r0 [ba 3 0 0,al 6 1 [z0,z0,z0],mf 7 false] 2 [1,2,3,6] [3]) (sr [fa 10 1 3,lo 11 10,mv 12 1,ix 13 1 11 12,lo 14 13,mv 8 14] 0 [1,2,3,6,8] (sr [fa 15 0 3,lo 16 15,mv 17 8,ob 18 pM 16 17,mv 9 18] 0 [1,2,6,8,9] (sw (r1 [mv 19 1,mv 20 9,mv 21 2,ob 22 (.bin .quo) 20 21,mv 23 8,ob 24 (.bin .quo) 22 23,mv 25 9,mv 26 2,ob 27 (.bin .quo) 25 26,mv 28 8,ob 29 (.bin .rem) 27 28,on 30 (.build [z0,z0,z0] [(0,1),(1,1),(2,1)]) [.t 19,.t 24,.t 29],mv 31 9,mv 32 2,ob 33 (.bin .rem) 31 32,oi 34 pE 33 0,sk 3 6 30 0,mv 7 34] 0 [6,7] []) .ret))))
def P5:aA:=(sr [mf 6 false] 0 [0,1,2] (sr [mv 7 0,mv 8 1,ob 9 (.bin .geq) 7 8,mv 10 9,ov 11 .mov 0 10 0,ov 12 .mov 2 10 0,obT 13 (.bin .leq) 11 12 10 0,pf 14 10 13,mv 6 14] 0 [6] .ret))
def wU:aA:=(sr [mf 2 false] 0 [0] (sr [mv 3 0,on 4 (.aj 294) [.t 3,kI 1,kI 120],oa 5 pN 4,mv 2 5] 0 [2] .ret))
def apA (n l h:Int):Pure C 294 [dI n,dI l,dI h] (.d (.bool (inR n l h))) []:=by
 refine ayF P5 jr ?_
 by_cases h1:n>=l<;>simp only[h1,inR,P5,jr,aD,RN,B,F]
structure Dvd where
 eF:Int
 cir:List Int
 deriving DecidableEq,Inhabited
structure Ix where
 circle:Int
 turns:Int
 holes:Int
 deriving DecidableEq,Inhabited
def Dvd.dv (d:Dvd):DV:= .agg [dI d.eF,sF (d.cir.map ay)]
def Ix.dv (d:Ix):DV:= .agg [dI d.circle,dI d.turns,dI d.holes]
variable{d:Dvd}
def sZ:d.dv= .agg [dI d.eF,sF (d.cir.map ay)]:=by rw[Dvd.dv]
def EI {d:Ix}:d.dv= .agg [dI d.circle,dI d.turns,dI d.holes]:=by rw[Ix.dv]
def Dvd.ok (d:Dvd):Bool:=inR d.eF 1 60&&inR d.cir.length 1 6&&d.cir.all (fun n=>inR n 1 120)
def VK (n:Int):Pure C 295 [dI n] (.d (.bool (!inR n 1 120))) []:=by
 refine ayF wU aK ?_;simp only[wU,aK,RN,B];refine ayG (apA _ _ _) ?_;(try simp only[RN])
def ag5 (n:Int):Pure C 253 [dI n] (.d (.bool (inR n 1 400))) []:=by
 refine ayF Cj aK ?_;simp only[Cj,aK,RN,B];refine ayG (apA _ _ _) ?_;(try simp only[])
def PG (d:Dvd)(hl:d.cir.length<=1000000):Pure C 252 [d.dv] (.d (.bool d.ok)) []:=by
 refine ayF zi aK ?_;simp only[zi,aK,sZ,RN,B,F,N]
 repeat' first
  |(refine ayG (apA _ _ _) ?_;try simp only[O,RN,B,F,H,I,J,N])
  |(refine ak rfl rfl (sQ d.cir _ [] (fun n=> !inR n 1 120) hl (by kernel_rfl) (fun n _=>VK n)) ?_;try simp only[RN])
  |(refine bF (by rfl) (fun a=> ?_) (fun a=> ?_)<;>simp only[a,O,RN,B,F,N])
  |(refine bJ (by rfl) (fun a=> ?_) (fun a=> ?_)<;>simp only[a,O,RN,B,F,H,I,J,N])
 all_goals(first|(rw[Dh])|skip)
 all_goals(first|(simp only[Dvd.ok, *,BSN];done)|(simp_all[Dvd.ok];done)|(simp_all[Dvd.ok];omega))
def aiU (eF h t i:Int):Ix:=⟨i,((eF*h).tdiv t).tdiv h,((eF*h).tdiv t).tmod h⟩
def JC (eF h t:Int):Bool:=(eF*h).tmod t==0
def aov (d:Dvd)(i:Nat)(t:Int)(b:1<=d.eF/\d.eF<=60)(hi:i<d.cir.length)(hc:1<=d.cir.getD i default/\d.cir.getD i default<=120)(m:1<=t):
  Pure C 254 [d.dv,dI i,dI t] (.d (.tup [(aiU d.eF (d.cir.getD i default) t i).dv, .bool (JC d.eF (d.cir.getD i default) t)])) []:=by
 have a:(0:Int)<=(i:Int):=by omega
 have l:1<=d.eF*d.cir.getD i default/\d.eF*d.cir.getD i default<=7200:=by
  have h1:=bq b.2 hc.2 (by omega) (by omega);have h2:=bq b.1 hc.1 (by omega) (by omega);omega
 have c:bS .i64 (d.eF*d.cir.getD i default)=d.eF*d.cir.getD i default:=aF (by omega);have j:((d.eF*d.cir.getD i default).tdiv t).natAbs<=7200:=by
  have:=nC (d.eF*d.cir.getD i default) t;omega
 have e:bS .i64 ((d.eF*d.cir.getD i default).tdiv t)=(d.eF*d.cir.getD i default).tdiv t:=aF (by omega);have k:(((d.eF*d.cir.getD i default).tdiv t).tdiv (d.cir.getD i default)).natAbs<=7200:=by
  have:=nC ((d.eF*d.cir.getD i default).tdiv t) (d.cir.getD i default);omega
 have f:bS .i64 (((d.eF*d.cir.getD i default).tdiv t).tdiv (d.cir.getD i default))=((d.eF*d.cir.getD i default).tdiv t).tdiv (d.cir.getD i default):=aF (by omega);have g:t≠0:=by omega
 have h:d.cir.getD i default≠0:=by omega
 refine ayF Jg akP ?_;simp only[Jg,akP,sZ,hi,a,getD_map,S,O,aI,c,e,f,g,h,EI,aiU,JC,RN,B,F,I,N]
def EH (eF t:Int):Nat->List Int->Option Ix
 | _,[]=>none
 |i,h::a=>if JC eF h t then some (aiU eF h t i)else EH eF t (i+1) a
def Dvd.cuts (d:Dvd)(t:Int):Ix×Int:=
 if d.ok&&inR t 1 400 then(match EH d.eF t 0 d.cir with|some x=>(x,0)|none=>(⟨0,0,0⟩,5))else(⟨0,0,0⟩,2)
def Dvd.TW (h:d.ok=true):(1<=d.eF/\d.eF<=60)/\(1<=d.cir.length/\d.cir.length<=6)/\∀n∈d.cir,1<=n/\n<=120:=by
 simp only[Dvd.ok,inR,Q,decide_eq_true_eq,aL,ge_iff_le]at h;obtain⟨⟨h1,h2⟩,a⟩:=h;exact⟨h1,by omega,a⟩
def acB (d:Dvd)(t:Int)(hl:d.cir.length<=1000000):Pure C 176 [d.dv,dI t] (.d (.tup [(d.cuts t).1.dv,dI (d.cuts t).2])) []:=by
 refine ayF Jf OU ?_;simp only[Jf,OU,sZ,RN,B,F,N]
 repeat' first
  |(refine ayG (PG d hl) ?_;try simp only[EI,RN])
  |(refine ayG (ag5 t) ?_;try simp only[RN])
  |(refine bF (by rfl) (fun b=> ?_) (fun b=> ?_)<;>simp only[b,RN,B,F,I,N])
  |(refine bJ (by rfl) (fun b=> ?_) (fun b=> ?_)<;>simp only[b,O,RN,B,F,I,N])
 any_goals (simp_all[Dvd.cuts];done)
 have hd:d.ok=true:=by simp_all
 have g:inR t 1 400=true:=by simp_all
 obtain⟨j,l,c⟩:=Dvd.TW hd;have e:1<=t:=by simp only[inR,Q,decide_eq_true_eq]at g;omega
 have an3:d.cuts t=(match EH d.eF t 0 d.cir with|some x=>(x,0)|none=>(⟨0,0,0⟩,5)):=by simp only[Dvd.cuts,hd,g,bj,if_true]
 refine aH d.cir.length (fun i (_:Unit)=>⟨[(1,pI t),(2, .d (.aW [dI d.eF,sF (d.cir.map ay)])),(4, .ptr 1 0),(20,pI d.cir.length),(21,pI i)],⟨[some [pI d.eF, .d (sF (d.cir.map ay))],some [pI 0,pI 0,pI 0]],[0],[]⟩⟩)
  (fun i _=>EH d.eF t 0 d.cir=EH d.eF t i (d.cir.drop i)) 0 () (V _) rfl (by simp) (fun i _ h1 a=> ?_) (fun _ a=> ?_)
 ·obtain⟨h2,k,h⟩:=rng h1 hl
  rw[drop_cons h1,EH]at a;simp only[h2,RN,B,F,N];refine ayG (aov d i t j h1 (c _ (getD_mem h1)) e) ?_;cases f:JC d.eF (d.cir.getD i default) t
  ·simp only[h,EI,RN,B,F,I,N]
   exact jv 2 0 () h1 rfl (by rw[a,f];rfl) (by simp) (by simp) rfl rfl
  ·simp only[EI,RN,B,F,I,N]
   rw[an3,a,f]
   rfl
 ·rw[aM,EH]at a
  simp only[ai,RN,B,F,I,N];rw[an3,a]
def Dvd.first (d:Dvd)(t:Int):Option Ix:=EH d.eF t 0 d.cir
def asa (o:Option Ix):Ix:=o.getD ⟨0,0,0⟩
def Dvd.DT (d:Dvd)(n:Nat):List Int:=((bL n).map fun(i:Nat)=>(i:Int)+1).filter fun t=>(d.first t).isSome
def Dvd.numbers (d:Dvd):List Int×Int:=if d.ok then(d.DT 400,0)else([],2)
def aaR (d:Dvd)(n:Nat):d.DT (n+1)=d.DT n++(if(d.first ((n:Int)+1)).isSome then[(n:Int)+1]else[]):=by
 rw[Dvd.DT,bo,ax,List.filter_append,<-Dvd.DT,av,aE,List.filter_cons,List.filter_nil]
def ad4 (d:Dvd)(n:Nat):(d.DT n).length<=n:=by
 rw[Dvd.DT];refine bc (List.length_filter_le _ _) ?_;simp
def afW (d:Dvd)(hl:d.cir.length<=1000):Pure C 198 [d.dv] (.d (.tup [sF (d.numbers.1.map ay),dI d.numbers.2])) []:=by
 have hd:=PG d (by omega);rw[sZ]at hd;refine bU (ayH Ci Zb ?_);simp only[Ci,Zb,sZ,RN,B,F,J,N];refine ayG hd ?_;cases f:d.ok
 ·have e:d.numbers=([],2):=by rw[Dvd.numbers,f];rfl
  simp only[bI,dR,RN,B,J];simp[datum,cu,fA,Mem.row,e]
 have e:d.numbers=(d.DT 400,0):=by rw[Dvd.numbers,f];rfl
 (try simp only[RN,B,J]);refine aH 400 (fun i (q:List Int×Nat)=>⟨[(1, .d (.aW [dI d.eF,sF (d.cir.map ay)])),(4, .tsl 1 q.2 0),(5, .d (dI ((i:Int)+1)))],⟨[some [pI d.eF, .d (sF (d.cir.map ay))]],[0],[some ⟨1,[],0,0⟩,some ⟨1,q.1.map ay,q.2,0⟩]⟩⟩)
  (fun i q=>q.1=d.DT i) 0 ([],0) (V _) rfl rfl (fun i q m a=> ?_) (fun q a=> ?_)
 ·obtain⟨c,ver⟩:=q
  simp only at a;have j:(i:Int)+1<=400:=by omega
  have n:bS .i64 ((i:Int)+1+1)=((i+1:Nat):Int)+1:=by rw[aF (by omega)];omega
  have g:=acB d ((i:Int)+1) (by omega);rw[sZ,EI]at g;have h:=aaR d i;have l:=ad4 d i;rw[<-a]at h l;have k:inR ((i:Int)+1) 1 400=true:=by simp only[inR,Q,decide_eq_true_eq];omega
  have b:d.cuts ((i:Int)+1)=(match d.first ((i:Int)+1)with|some x=>(x,0)|none=>(⟨0,0,0⟩,5)):=by rw[Dvd.cuts,f,k];rfl
  have z0:((0:Int)==0)=true:=rfl;have p:((5:Int)==0)=false:=rfl;simp only[j,RN,B,F,N];refine ayG g ?_;cases o:d.first ((i:Int)+1)with
  |none=>
   rw[o]at h b;simp only[b,p,n,RN,B,F,I,N];exact jv 1 2 (c,ver) m rfl (by simpa using h.symm) (by simp) (by simp) rfl rfl
  |some x=>
   rw[o]at h b;simp only[b,z0,iC,fits_int,forall_eq,DV.strip,lI,O,RN,B,F,I,J,N];refine⟨by simp,by omega,?_⟩;simp only[n];refine jv 1 2 (c++ [(i:Int)+1],ver+1) m ?_ (by simpa using h.symm) (by simp) (by simp) rfl rfl;simp only[ax,av,aE,aI];rfl
 ·obtain⟨c,ver⟩:=q
  simp only at a;have j:¬((400:Nat):Int)+1<=400:=by omega
  simp only[j,bI,dR,RN,B];simp[datum,cu,fA,Mem.row,a,e]
def tN:aA:=(sw (r0 [ba 2 0 0,ba 3 1 1,mk 4 (.c (.slice true [])),mi 5 0] 2 [2,3] [3]) (sw (sr [lo 11 2,oa 12 (.jd 69) 11,oa 13 pN 12] 0 [2,3,13] (cd 13 (sr [mk 4 (.c (.slice true [])),mi 5 1] 0 [4,5] .ret) .skip)) (sw (sw (r1 [fu 14 0 3 1,lv 15 14,on 16 (.aj 70) [.t 15,kI 1,kI 12],oa 17 pN 16,mv 18 17,ow 19 (.fld 1) 3 18 1,ow 20 (.load false 1) 19 18 1,ow 21 .len 20 18 1,oF 22 (.aj 71) [] 18 0,ow 23 (.fld 0) 3 18 1,ow 24 (.load false 1) 23 18 1,oF 25 pU [.t 24,kI 1] 18 0,obF 26 (.VJ true 2 12) 22 25 18 0,ow 27 (.S9 false 1 1) 26 18 0,obF 28 pQ 21 27 18 0,pt 29 18 28] 0 [2,3,29] []) (cd 29 (sr [mk 4 (.c (.slice true [])),mi 5 2] 0 [4,5] .ret) .skip)) (sr [lo 30 2,oa 31 (.build [.nilPtr,.nilPtr] [(1,1)]) 30,al 6 0 [.nilPtr,.nilPtr],sk 2 6 31 0] 1 [2,3,6] (sw (sr [ob 32 (.mkF (.func 73) 0) 2 6,oa 33 (.call 72) 32,mv 7 33] 0 [3,6,7] (sr [mv 34 7,oi 35 pQ 34 0] 0 [3,6,7,35] (cd 35 (sr [mv 36 7,mk 4 (.c (.slice true [])),mv 5 36] 0 [4,5] .ret) .skip))) (sr [on 37 (.build [.nilFunc,.nilFunc,.nilFunc,.nilFunc,.nilFunc,.nilFunc,.nilFunc,.nilFunc,.nilFunc,.nilFunc,.nilFunc,.nilFunc] [(0,1),(1,1),(2,1),(3,1),(4,1),(5,1),(6,1),(7,1),(8,1),(9,1),(10,1),(11,1)]) [.c (.func (.func 75) [] []),.c (.func (.func 76) [] []),.c (.func (.func 77) [] []),.c (.func (.func 78) [] []),.c (.func (.func 79) [] []),.c (.func (.func 80) [] []),.c (.func (.func 81) [] []),.c (.func (.func 82) [] []),.c (.func (.func 83) [] []),.c (.func (.func 84) [] []),.c (.func (.func 85) [] []),.c (.func (.func 86) [] [])],al 8 0 [.nilFunc,.nilFunc,.nilFunc,.nilFunc,.nilFunc,.nilFunc,.nilFunc,.nilFunc,.nilFunc,.nilFunc,.nilFunc,.nilFunc],sk 12 8 37 0] 1 [3,6,8] (sw (r1 [fu 39 0 3 1,lv 40 39,oi 41 pU 40 1,ob 42 (.IZ 1 12) 8 41,ou 43 (.load false 1) 42 2,ou 44 (.load true 2) 6 2,fu 45 1 3 1,lv 46 45,on 47 .jg [.t 43,.t 44,.t 46],mv 38 47,xa 48 0 38,xa 49 1 38,mv 9 48,mv 10 49] 0 [9,10] []) (sw (sr [mv 50 10,oi 51 pQ 50 0] 0 [9,10,51] (cd 51 (sr [mv 52 10,mk 4 (.c (.slice true [])),mv 5 52] 0 [4,5] .ret) .skip)) (sr [mv 53 9,mv 4 53,mi 5 0] 0 [4,5] .ret)))))))))
def yZ:aA:=(sw (r0 [ba 1 0 0,mk 2 (.c (.nilPtr)),mi 3 0] 1 [1] [1]) (sw (sr [lw 5 17 1,oa 6 (.aj 107) 5,oa 7 pN 6] 0 [1,7] (cd 7 (sr [mk 2 (.c (.nilPtr)),mi 3 2] 0 [2,3] .ret) .skip)) (sw (r0 [lw 8 17 1,oa 9 (.aj 108) 8,al 4 0 [zs,zs,zs,z0,z0,zs,z0,zs,z0,z0,z0,zs,z0,z0,z0,z0,z0],sk 17 4 9 0] 1 [4] [4]) (sr [lw 10 17 4,oa 11 (.aj 109) 10,ob 12 (.build [.nilPtr,zs,zs,zs] [(0,1),(1,1)]) 4 11,ba 13 0 12,mv 2 13,mi 3 0] 1 [2,3] .ret))))
def qx:aA:=(sw (r0 [ba 2 0 0,ba 3 1 1,mi 4 0] 2 [2,3] [3]) (sw (sr [lo 9 2,oa 10 (.jd 69) 9,oa 11 pN 10] 0 [2,3,11] (cd 11 (sr [mi 4 1] 0 [4] .ret) .skip)) (sw (sr [lw 12 2 3,oa 13 (.aj 110) 12,oa 14 pN 13] 0 [2,3,14] (cd 14 (sr [mi 4 2] 0 [4] .ret) .skip)) (sw (sr [lo 15 2,oa 16 .bG 15,fa 17 2 16,lo 18 17,oa 19 .len 18,oi 20 pE 19 24] 0 [2,3,20] (cd 20 (sr [mi 4 3] 0 [4] .ret) .skip)) (sw (r0 [lw 21 2 3,oa 22 (.aj 111) 21,al 5 0 [.nilIface],sk 1 5 22 0] 1 [2,3,5] [5]) (sw (sr [lo 23 5,lo 24 2,ob 25 (.inv "tellurion/journeyman.fine") 23 24,oa 26 pN 25] 0 [2,3,5,26] (cd 26 (sr [mi 4 2] 0 [4] .ret) .skip)) (sr [ob 27 (.mkF (.func 112) 0) 5 2,oa 28 (.call 72) 27,mv 6 28] 0 [2,3,5,6] (sw (sr [mv 29 6,oi 30 pQ 29 0] 0 [2,3,5,6,30] (cd 30 (sr [mv 31 6,mv 4 31] 0 [4] .ret) .skip)) (sw (sw (r0 [lo 33 5,oa 34 (.tas T.bK (.agg [z0])) 33,mv 32 34,xa 35 0 32,xa 36 1 32,al 7 0 [z0],sk 1 7 35 0,mv 8 36] 1 [2,3,7,8] [7]) (sr [mv 37 8] 0 [2,3,7,37] (cd 37 (r1 [ou 38 (.load false 1) 2 2,oa 39 .bG 38,fu 40 3 39 2,ou 41 (.load false 1) 40 2,fu 42 0 7 1,lv 43 42,ix 44 1 41 43,os (.store 1) [.t 44,.c (.bool true)] 3] 0 [2,3] []) .skip))) (sw (r1 [ou 45 (.load false 1) 2 2,ou 46 (.load false 1) 2 2,oa 47 .bG 46,fu 48 2 47 2,ou 49 (.load false 1) 48 2,fu 50 0 3 1,lv 51 50,fu 52 1 3 1,lv 53 52,oa 54 (.aj 114) 53,ob 55 (.build [z0,zs] [(0,1),(1,1)]) 51 54,ou 56 (.gu 2 [.agg [z0,zs]] [0]) 55 1,ob 57 (.app 2 false) 49 56,oa 58 .bG 45,fu 59 2 58 2,sk 1 59 57 0] 0 [2] []) (sw (r1 [ou 60 (.load false 1) 2 2,ou 61 (.load false 1) 2 2,oa 62 .bG 61,fu 63 3 62 2,ou 64 (.load false 1) 63 2,of 65 (.gu 1 [.bool false] [0]) [.c (.bool false)] 1,ob 66 (.app 1 true) 64 65,oa 67 .bG 60,fu 68 3 67 2,sk 1 68 66 0] 0 [] []) (sr [mi 4 0] 0 [4] .ret))))))))))))
def vg:aA:=(sw (r0 [ba 2 0 0,mk 4 (.c (.str ⟨#[]⟩)),mi 5 0] 1 [1,2,4,5] [2]) (sr [lw 11 17 2,oa 12 (.call 36) 11,mv 10 12,xa 13 0 10,xa 14 1 10,al 6 0 [.nilPtr],sk 1 6 13 0,mv 7 14] 1 [1,4,5,6,7] (sw (sr [mv 15 7,oi 16 pQ 15 0] 0 [1,4,5,6,7,16] (cd 16 (sr [mv 17 7,mk 4 (.c (.str ⟨#[]⟩)),mv 5 17] 0 [4,5] .ret) .skip)) (sw (sr [mv 18 1,oa 19 .Fg 18,oi 20 pG 19 1500] 0 [1,4,5,6,20] (cd 20 (sr [mk 4 (.c (.str ⟨#[]⟩)),mi 5 3] 0 [4,5] .ret) .skip)) (sw (sr [mv 21 1,oc 22 pQ 21 (.c (.str ⟨#[]⟩)),mv 23 22,ov 24 .mov 1 23 0,ot 25 (.aj 115) [.t 24,.c (.str ⟨#[10]⟩)] 23 0,ov 26 pN 25 23 0,pf 27 23 26] 0 [1,4,5,6,27] (cd 27 (sr [mk 4 (.c (.str ⟨#[]⟩)),mi 5 4] 0 [4,5] .ret) .skip)) (sr [al 8 0 [.str ⟨#[]⟩],os (.store 1) [.t 8,.c (.str ⟨#[]⟩)] 0] 1 [1,4,5,6,8] (sw (sr [mv 28 1,oa 29 (.call 116) 28] 0 [4,5,6,8,29] (.block 0 (.um (.t 29) [30] [6,8] (rg [mv 9 30] 0 [6,8,9]) (.block 1 (r1 [lo 31 8,ou 32 (.load false 1) 6 2,mv 33 9,oc 34 (.aj 118) 33 (.c (.str ⟨#[10]⟩)),on 35 (.EG false 1 117) [.t 8,.t 32,.t 34],oc 36 pA 35 (.c (.str ⟨#[10]⟩)),ob 37 pA 31 36,sk 1 8 37 0] 0 [] []))))) (sr [lo 38 8,mv 4 38,mi 5 0] 0 [4,5] .ret))))))))
def auU:aA:=(sw (r0 [ba 1 0 0,mk 2 (.c (.str ⟨#[]⟩)),mi 3 0] 1 [1] [1]) (sw (sr [lw 4 2 1,oa 5 (.aj 110) 4,oa 6 pN 5] 0 [1,6] (cd 6 (sr [mk 2 (.c (.str ⟨#[]⟩)),mi 3 2] 0 [2,3] .ret) .skip)) (sw (r1 [on 7 (.aj 121) [],fu 8 0 1 1,lv 9 8,oi 10 pU 9 1,ob 11 (.VJ true 2 6) 7 10,oa 12 (.S9 false 0 1) 11,oc 13 pA 12 (.c (.str ⟨#[32]⟩)),fu 14 1 1 1,lv 15 14,oa 16 (.aj 122) 15,ob 17 pA 13 16,mv 2 17,mi 3 0] 0 [2,3] []) .ret)))
def xP:aA:=(sw (r0 [ba 1 0 0,al 2 1 [z0,zs],mi 3 0] 2 [1,2] [1]) (sw (sr [lo 6 1,oa 7 .Fg 6,oi 8 pG 7 60] 0 [1,2,8] (cd 8 (sr [on 9 (.build [z0,zs] []) [],sk 2 2 9 0,mi 3 3] 0 [2,3] .ret) .skip)) (sr [al 4 0 [z0,zs]] 1 [1,2,4] (sr [ob 10 (.mkF (.func 125) 0) 1 4,oa 11 (.call 72) 10,mv 5 11] 0 [2,4,5] (sw (sr [mv 12 5,oi 13 pQ 12 0] 0 [2,4,5,13] (cd 13 (sr [on 14 (.build [z0,zs] []) [],mv 15 5,sk 2 2 14 0,mv 3 15] 0 [2,3] .ret) .skip)) (sr [lw 16 2 4,sk 2 2 16 0,mi 3 0] 0 [2,3] .ret))))))
def Dn:aA:=(sr [mk 2 (.c (.str ⟨#[]⟩)),mi 3 0] 0 [0] (sw (sr [mv 9 0,oa 10 (.aj 69) 9,oa 11 pN 10] 0 [0,11] (cd 11 (sr [mk 2 (.c (.str ⟨#[]⟩)),mi 3 1] 0 [2,3] .ret) .skip)) (sr [mk 4 (.c (.str ⟨#[]⟩))] 0 [0,4] (sw (sr [mv 12 0,oa 13 .bG 12,fa 14 2 13,lo 15 14,oa 16 .len 15,mi 17 0] 0 [4,15,16,17] (.block 0 (.loop (sr [ob 18 pL 17 16] 0 [4,15,16,17,18] (sw (cx 18 0) (sw (.block 1 (sw (r0 [ix 19 2 15 17,lw 20 2 19,al 6 0 [z0,zs],sk 2 6 20 0] 1 [4,6,15,16,17] [6]) (sr [lw 22 2 6,oa 23 (.aj 42) 22,mv 21 23,xa 24 0 21,xa 25 1 21,mv 7 24,mv 8 25] 0 [4,7,15,16,17] (rg [mv 26 4,mv 27 7,oc 28 pA 27 (.c (.str ⟨#[10]⟩)),ob 29 pA 26 28,mv 4 29] 0 [4,15,16,17])))) (rg [oi 30 pA 17 1,mv 17 30] 0 [4,15,16,17]))))))) (sr [mv 31 4,mv 2 31,mi 3 0] 0 [2,3] .ret)))))
def oW:aA:=(sr [mf 2 false] 0 [0] (sr [mv 3 0,oc 4 (.tJ true) 3 (.c (.nilPtr)),mv 5 4,ov 6 .mov 0 5 0,ov 7 .bG 6 5 0,ov 8 (.fld 0) 7 5 0,ov 9 (.load false 1) 8 5 0,ot 10 (.tJ true) [.t 9,.c (.nilPtr)] 5 0,pf 11 5 10,mv 2 11] 0 [2] .ret))
def Ce:aA:=(sr [mf 6 false] 0 [0,1,2] (sr [mv 7 0,mv 8 1,ob 9 (.bin .geq) 7 8,mv 10 9,ov 11 .mov 0 10 0,ov 12 .mov 2 10 0,obT 13 (.bin .leq) 11 12 10 0,pf 14 10 13,mv 6 14] 0 [6] .ret))
def y9:aA:=(sr [al 0 0 [.str ⟨#[]⟩,z0,.str ⟨#[]⟩,z0,.str ⟨#[]⟩,z0,.str ⟨#[]⟩,z0,.str ⟨#[]⟩,z0,.str ⟨#[]⟩,z0,.str ⟨#[]⟩,z0,.str ⟨#[]⟩,z0,.str ⟨#[]⟩,z0,.str ⟨#[]⟩,z0,.str ⟨#[]⟩,z0,.str ⟨#[]⟩,z0]] 1 [0] (sr [on 1 (.build [.str ⟨#[]⟩,z0] [(0,1),(1,1)]) [.c (.str ⟨#[104,97,110,100,115]⟩),kI 0],on 2 (.build [.str ⟨#[]⟩,z0] [(0,1),(1,1)]) [.c (.str ⟨#[115,116,111,99,107]⟩),kI 0],on 3 (.build [.str ⟨#[]⟩,z0] [(0,1),(1,1)]) [.c (.str ⟨#[111,112,101,110]⟩),kI 0],on 4 (.build [.str ⟨#[]⟩,z0] [(0,1),(1,1)]) [.c (.str ⟨#[112,114,105,99,101]⟩),kI 1],on 5 (.build [.str ⟨#[]⟩,z0] [(0,1),(1,1)]) [.c (.str ⟨#[110,101,101,100]⟩),kI 3],on 6 (.build [.str ⟨#[]⟩,z0] [(0,1),(1,1)]) [.c (.str ⟨#[111,102,102]⟩),kI 2],on 7 (.build [.str ⟨#[]⟩,z0] [(0,1),(1,1)]) [.c (.str ⟨#[119,114,111,110,103]⟩),kI 0],on 8 (.build [.str ⟨#[]⟩,z0] [(0,1),(1,1)]) [.c (.str ⟨#[119,111,114,107,115]⟩),kI 1],on 9 (.build [.str ⟨#[]⟩,z0] [(0,1),(1,1)]) [.c (.str ⟨#[100,97,116,101]⟩),kI 1],on 10 (.build [.str ⟨#[]⟩,z0] [(0,1),(1,1)]) [.c (.str ⟨#[99,117,116,115]⟩),kI 1],on 11 (.build [.str ⟨#[]⟩,z0] [(0,1),(1,1)]) [.c (.str ⟨#[99,111,105,110,115]⟩),kI 0],on 12 (.build [.str ⟨#[]⟩,z0] [(0,1),(1,1)]) [.c (.str ⟨#[115,116,97,110,100,115]⟩),kI 0],on 13 (.build [.str ⟨#[]⟩,z0,.str ⟨#[]⟩,z0,.str ⟨#[]⟩,z0,.str ⟨#[]⟩,z0,.str ⟨#[]⟩,z0,.str ⟨#[]⟩,z0,.str ⟨#[]⟩,z0,.str ⟨#[]⟩,z0,.str ⟨#[]⟩,z0,.str ⟨#[]⟩,z0,.str ⟨#[]⟩,z0,.str ⟨#[]⟩,z0] [(0,2),(2,2),(4,2),(6,2),(8,2),(10,2),(12,2),(14,2),(16,2),(18,2),(20,2),(22,2)]) [.t 1,.t 2,.t 3,.t 4,.t 5,.t 6,.t 7,.t 8,.t 9,.t 10,.t 11,.t 12],sk 24 0 13 0] 0 [0] .ret))
def qw:aA:=(rg [lo 2 0,oi 3 (.call 74) 2 (-1),fa 4 0 1,sk 1 4 3 0] 0 [])
def qG:aA:=(sw (r0 [ba 3 0 1,mk 4 (.c (.nilPtr))] 1 [0,3,4] [3]) (sw (r1 [mv 8 0,oa 9 .bG 8,fu 10 0 9 2,ou 11 (.load false 1) 10 2,oa 12 .bG 11,ou 13 (.load true 17) 12 1,ou 14 (.rZ 108) 13 1,mv 15 0,oa 16 .bG 15,fu 17 1 16 2,ou 18 (.load false 1) 17 2,on 19 (.mkMap 0) [],on 20 (.build [zs,zs,zs,z0,z0,zs,z0,zs,z0,z0,z0,zs,z0,z0,z0,z0,z0,zs,zs,.map none,z0,zs] [(0,17),(17,1),(19,1)]) [.t 14,.t 18,.t 19],ba 21 1 20,al 5 2 [.nilPtr],sk 1 5 21 6] 3 [0,3,4,5] []) (sw (sr [mv 22 0,oa 23 (.mkF (.func 163) 1) 22] 0 [3,4,5,23] (.block 0 (.um (.t 23) [24,25] [3,5] (sr [mv 6 24] 0 [3,5,6,25] (rg [mv 7 25] 0 [3,5,6,7])) (.block 1 (sr [mv 26 6,lo 27 3,ob 28 pQ 26 27] 0 [5,7,28] (cd 28 (rg [lo 29 5,mv 30 7,ob 31 (.call 113) 29 30] 0 []) .skip)))))) (sr [lo 32 5,mv 4 32] 0 [4] .ret))))
def oZ:aA:=(sw (r0 [ba 2 0 0,ag 4 1,mi 5 0] 1 [2] [2]) (sr [fa 13 0 2,lo 14 13,oa 15 .bG 14,fa 16 0 15,fa 17 0 16,lw 18 2 17,oa 19 (.aj 26) 18,mv 12 19,xa 20 0 12,xa 21 1 12,xa 22 2 12,mv 6 20,mv 7 21,mv 8 22] 0 [2,6,8] (sr [ag 9 1] 0 [2,6,8,9] (sw (sr [fa 23 0 2,lo 24 23,oa 25 .bG 24,fa 26 0 25,fa 27 0 26,fa 28 1 27,lo 29 28,oa 30 .len 29,mi 31 0] 0 [6,8,9,29,30,31] (.block 0 (.loop (sr [ob 32 pL 31 30] 0 [6,8,9,29,30,31,32] (sw (cx 32 0) (sw (.block 1 (sr [ix 33 1 29 31,lo 34 33,mv 11 34] 0 [6,8,9,11,29,30,31] (r1 [mv 35 9,mv 36 6,mv 37 11,ob1 38 (.aZ 2) 36 37 1,fu 39 0 38 1,lv 40 39,mv 41 6,mv 42 11,ob1 43 (.aZ 2) 41 42 1,fu 44 1 43 1,lv 45 44,ob1 46 (.gu 1 [z0,z0] [0,1]) 40 45 1,ob 47 (.app 1 true) 35 46,mv 9 47] 0 [6,8,9,29,30,31] []))) (rg [oi 48 pA 31 1,mv 31 48] 0 [6,8,9,29,30,31]))))))) (sr [mv 49 9,mv 50 8,mv 4 49,mv 5 50] 0 [4,5] .ret)))))
def jP:aA:=(sw (r0 [ba 2 0 0,mk 4 (.c (.slice true [])),mi 5 0] 1 [2] [2]) (sr [fa 6 0 2,lo 7 6,oa 8 .bG 7,fa 9 18 8,lo 10 9,oa 11 (.aj 165) 10,oa 12 (.rZ 164) 11,mv 4 12,mi 5 0] 0 [4,5] .ret))
def nT:aA:=(sw (r0 [ba 2 0 0,ag 4 1,mi 5 0] 1 [2] [2]) (sr [ag 6 1] 0 [2,6] (sw (sr [fa 10 0 2,lo 11 10,oa 12 .bG 11,fa 13 0 12,fa 14 0 13,fa 15 1 14,lo 16 15,oa 17 .len 16,mi 18 0] 0 [2,6,17,18] (.block 0 (.loop (sr [ob 19 pL 18 17] 0 [2,6,17,18,19] (sw (cx 19 0) (sw (.block 1 (sr [mv 20 18,mv 7 20] 0 [2,6,7,17,18] (sw (r0 [fa 22 0 2,lo 23 22,oa 24 .bG 23,fa 25 19 24,lo 26 25,mv 27 7,ob 28 (.Iz true [] (.agg [z0,z0])) 26 27,mv 21 28,xa 29 0 21,xa 30 1 21,al 8 0 [z0,z0],sk 2 8 29 0,mv 9 30] 1 [2,6,7,8,9,17,18] [8]) (sr [mv 31 9] 0 [2,6,7,8,17,18,31] (cd 31 (rg [mv 32 6,mv 33 7,fa 34 0 8,lo 35 34,fa 36 1 8,lo 37 36,on 38 (.gu 1 [z0,z0,z0] [0,1,2]) [.t 33,.t 35,.t 37],ob 39 (.app 1 true) 32 38,mv 6 39] 0 [2,6,17,18]) .skip))))) (rg [oi 40 pA 18 1,mv 18 40] 0 [2,6,17,18]))))))) (sr [mv 41 6,mv 4 41,mi 5 0] 0 [4,5] .ret))))
def kM:aA:=(sw (r0 [ba 2 0 0,mk 4 (.c (.slice true [])),mi 5 0] 1 [1,2] [2]) (sw (sw (r1 [fu 6 1 2 1,lv 7 6,mv 8 1,of 9 (.aZ 1) [.t 8,kI 0] 1,lv 10 9,ob 11 (.aj 166) 7 10,oa 12 pN 11] 0 [1,2,12] []) (cd 12 (sr [mk 4 (.c (.slice true [])),mi 5 2] 0 [4,5] .ret) .skip)) (sw (r1 [fu 13 0 2 1,lv 14 13,mv 15 1,of 16 (.aZ 1) [.t 15,kI 0] 1,lv 17 16,ob 18 (.aj 167) 14 17,ou 19 (.nN 1 [z0] [0]) 18 1,mv 4 19,mi 5 0] 0 [4,5] []) .ret)))
def dQ:aA:=(sw (r0 [ba 2 0 0,ag 4 1,mi 5 0] 1 [1,2] [2]) (sw (r1 [mv 16 1,of 17 (.aZ 1) [.t 16,kI 0] 1,lv 18 17,mv 19 1,of 20 (.aZ 1) [.t 19,kI 1] 1,lv 21 20,mv 22 1,of 23 (.aZ 1) [.t 22,kI 2] 1,lv 24 23,mv 6 18,mv 7 21,mv 8 24] 0 [2,6,7,8] []) (sw (sr [fa 25 1 2,lo 26 25,mv 27 6,ob 28 (.aj 166) 26 27,oa 29 pN 28,mv 30 29,ow 31 .mov 7 30 0,ow 32 (.aj 168) 31 30 0,ow 33 pN 32 30 0,pt 34 30 33,mv 35 34,ow 36 .mov 8 35 0,ow 37 (.aj 168) 36 35 0,ow 38 pN 37 35 0,pt 39 35 38,mv 40 39,ow 41 .mov 8 40 0,ow 42 .mov 7 40 0,obF 43 pU 41 42 40 0,oF 44 (.aj 70) [.t 43,kI 0,kI 10] 40 0,ow 45 pN 44 40 0,pt 46 40 45] 0 [2,6,7,8,46] (cd 46 (sr [ag 4 1,mi 5 2] 0 [4,5] .ret) .skip)) (sw (r0 [fa 48 0 2,lo 49 48,oa 50 .bG 49,fa 51 19 50,lo 52 51,mv 53 6,ob 54 (.Iz true [] (.agg [z0,z0])) 52 53,mv 47 54,xa 55 0 47,xa 56 1 47,al 9 0 [z0,z0],sk 2 9 55 0,mv 10 56] 1 [2,6,7,8,9,10] [9]) (sw (sr [mv 57 10,oa 58 pN 57] 0 [2,6,7,8,9,58] (cd 58 (sr [ag 4 1,mi 5 7] 0 [4,5] .ret) .skip)) (sw (r1 [fu 60 0 2 1,lv 61 60,oa 62 .bG 61,fu 63 0 62 1,fu 64 0 63 1,ou 65 (.load true 2) 64 1,mv 66 7,mv 67 8,mv 68 6,ou 69 (.load true 2) 9 1,on 70 (.aj 169) [.t 65,.t 66,.t 67,.t 68,.t 69],mv 59 70,xa 71 0 59,xa 72 1 59,mv 11 71,mv 12 72] 0 [11,12] []) (sr [ag 13 1] 0 [11,12,13] (sw (sr [mv 73 11,oa 74 .len 73,mi 75 0] 0 [12,13,73,74,75] (.block 0 (.loop (sr [ob 76 pL 75 74] 0 [12,13,73,74,75,76] (sw (cx 76 0) (sw (.block 1 (sw (r0 [ix 77 3 73 75,lw 78 3 77,al 15 0 [z0,z0,z0],sk 3 15 78 0] 1 [12,13,15,73,74,75] [15]) (rg [mv 79 13,fa 80 0 15,lo 81 80,fa 82 1 15,fa 83 0 82,lo 84 83,fa 85 1 15,fa 86 1 85,lo 87 86,on 88 (.gu 1 [z0,z0,z0] [0,1,2]) [.t 81,.t 84,.t 87],ob 89 (.app 1 true) 79 88,mv 13 89] 0 [12,13,73,74,75]))) (rg [oi 90 pA 75 1,mv 75 90] 0 [12,13,73,74,75]))))))) (sr [mv 91 13,mv 92 12,mv 4 91,mv 5 92] 0 [4,5] .ret)))))))))
def ji:aA:=(sw (r0 [ba 2 0 0,mk 4 (.c (.slice true [])),mi 5 0] 1 [1,2] [2]) (sw (sw (r1 [fu 8 1 2 1,lv 9 8,mv 10 1,of 11 (.aZ 1) [.t 10,kI 0] 1,lv 12 11,ob 13 (.aj 166) 9 12,oa 14 pN 13,mv 15 14,ow 16 (.fld 1) 2 15 1,ow 17 (.load false 1) 16 15 1,ow 18 .mov 1 15 0,oF 19 (.aZ 1) [.t 18,kI 1] 15 1,ow 20 (.load false 1) 19 15 1,obF 21 (.aj 170) 17 20 15 0,ow 22 pN 21 15 0,pt 23 15 22] 0 [1,2,23] []) (cd 23 (sr [mk 4 (.c (.slice true [])),mi 5 2] 0 [4,5] .ret) .skip)) (sw (r1 [fu 25 0 2 1,lv 26 25,oa 27 .bG 26,fu 28 0 27 1,fu 29 0 28 1,ou 30 (.load true 2) 29 1,mv 31 1,of 32 (.aZ 1) [.t 31,kI 0] 1,lv 33 32,fu 34 0 2 1,lv 35 34,oa 36 .bG 35,fu 37 0 36 1,fu 38 2 37 1,lv 39 38,mv 40 1,of 41 (.aZ 1) [.t 40,kI 0] 1,lv 42 41,ob1 43 (.aZ 2) 39 42 1,ou 44 (.load true 2) 43 1,ou 45 (.load true 2) 2 1,mv 46 1,of 47 (.aZ 1) [.t 46,kI 1] 1,lv 48 47,ob 49 (.aj 171) 45 48,on 50 (.aj 27) [.t 30,.t 33,.t 44,.t 49],mv 24 50,xa 51 0 24,xa 52 1 24,mv 6 51,mv 7 52] 0 [6,7] []) (sr [mv 53 6,oa 54 (.nN 1 [z0] [0]) 53,mv 55 7,mv 4 54,mv 5 55] 0 [4,5] .ret))))
def o8:aA:=(sw (r0 [ba 2 0 0,mk 4 (.c (.slice true [])),mi 5 0] 1 [2] [2]) (.scope (sr [mi 6 0] 0 [2,6] (sw (.label 0) (sw (sr [fa 10 0 2,lo 11 10,oa 12 .bG 11,fa 13 17 12,lo 14 13,oa 15 .len 14,mi 16 0] 0 [2,6,15,16] (.block 0 (.loop (sr [ob 17 pL 16 15] 0 [2,6,15,16,17] (sw (cx 17 0) (sw (.block 1 (sr [mv 18 16,mv 7 18] 0 [2,6,7,15,16] (sr [fa 19 0 2,lo 20 19,oa 21 .bG 20,fa 22 0 21,fa 23 2 22,lo 24 23,oa 25 .len 24,mi 26 0] 0 [2,6,7,15,16,24,25,26] (.block 2 (.loop (sr [ob 27 pL 26 25] 0 [2,6,7,15,16,24,25,26,27] (sw (cx 27 2) (sw (.block 3 (sw (r0 [mv 28 26,ix 29 2 24 26,lw 30 2 29,al 9 0 [z0,z0],mv 8 28,sk 2 9 30 0] 1 [2,6,7,8,9,15,16,24,25,26] [9]) (sw (r1 [fu 31 0 2 1,lv 32 31,mv 33 8,ou 34 (.load true 2) 9 1,ou 35 (.load true 2) 2 1,mv 36 7,oi 37 pA 36 1,ob 38 (.aj 171) 35 37,on 39 (.aj 172) [.t 32,.t 33,.t 34,.t 38],oa 40 pN 39] 0 [2,6,7,15,16,24,25,26,40] []) (cd 40 (sr [mv 41 6,oi 42 pA 41 1,mv 6 42] 0 [2,6,15,16] (.exit 1)) .skip)))) (rg [oi 43 pA 26 1,mv 26 43] 0 [2,6,7,15,16,24,25,26]))))))))) (rg [oi 44 pA 16 1,mv 16 44] 0 [2,6,15,16]))))))) (sr [mv 45 6,oa 46 (.nN 1 [z0] [0]) 45,mv 4 46,mi 5 0] 0 [4,5] .ret))))))
def iP:aA:=(sw (r0 [ba 2 0 0,mk 4 (.c (.slice true [])),mi 5 0] 1 [1,2] [2]) (sw (sw (r1 [fu 8 1 2 1,lv 9 8,mv 10 1,of 11 (.aZ 1) [.t 10,kI 0] 1,lv 12 11,ob 13 (.aj 170) 9 12,oa 14 pN 13] 0 [1,2,14] []) (cd 14 (sr [mk 4 (.c (.slice true [])),mi 5 2] 0 [4,5] .ret) .skip)) (sw (r1 [mv 16 1,of 17 (.aZ 1) [.t 16,kI 0] 1,lv 18 17,fu 19 0 2 1,lv 20 19,oa 21 .bG 20,fu 22 17 21 1,lv 23 22,ou 24 .len 23 1,oa 25 (.mkF (.func 174) 0) 2,on 26 (.aj 173) [.t 18,.t 24,.t 25],mv 15 26,xa 27 0 15,xa 28 1 15,mv 6 27,mv 7 28] 0 [6,7] []) (sw (sr [mv 29 7,oa 30 pN 29] 0 [6,30] (cd 30 (sr [mk 4 (.c (.slice true [])),mi 5 5] 0 [4,5] .ret) .skip)) (sr [mv 31 6,oa 32 (.nN 1 [z0] [0]) 31,mv 4 32,mi 5 0] 0 [4,5] .ret)))))
def kN:aA:=(sw (r0 [ba 2 0 0,mk 4 (.c (.slice true [])),mi 5 0] 1 [1,2] [2]) (sw (sw (r1 [fu 8 1 2 1,lv 9 8,mv 10 1,of 11 (.aZ 1) [.t 10,kI 0] 1,lv 12 11,ob 13 (.aj 170) 9 12,oa 14 pN 13] 0 [1,2,14] []) (cd 14 (sr [mk 4 (.c (.slice true [])),mi 5 2] 0 [4,5] .ret) .skip)) (sw (r1 [fu 16 0 2 1,lv 17 16,oa 18 .bG 17,fu 19 0 18 1,fu 20 6 19 1,ou 21 (.load true 2) 20 1,fu 22 0 2 1,lv 23 22,oa 24 .bG 23,fu 25 17 24 1,lv 26 25,mv 27 1,of 28 (.aZ 1) [.t 27,kI 0] 1,lv 29 28,oi 30 pU 29 1,ob1 31 (.aZ 2) 26 30 1,fu 32 0 31 1,lv 33 32,ob 34 (.aj 175) 21 33,mv 15 34,xa 35 0 15,xa 36 1 15,al 6 0 [z0,z0,z0],sk 3 6 35 4,mv 7 36] 1 [6,7] [6]) (sr [fa 37 1 6,lo 38 37,fa 39 2 6,lo 40 39,ob 41 (.nN 1 [z0,z0] [0,1]) 38 40,mv 42 7,mv 4 41,mv 5 42] 0 [4,5] .ret))))
def qH:aA:=(sw (r0 [ba 2 0 0,mk 4 (.c (.slice true [])),mi 5 0] 1 [1,2] [2]) (sw (r1 [fu 9 0 2 1,lv 10 9,oa 11 .bG 10,fu 12 0 11 1,fu 13 4 12 1,ou 14 (.load true 2) 13 1,mv 15 1,of 16 (.aZ 1) [.t 15,kI 0] 1,lv 17 16,ob 18 (.aj 176) 14 17,mv 8 18,xa 19 0 8,xa 20 1 8,al 6 0 [z0,z0,z0],sk 3 6 19 4,mv 7 20] 1 [6,7] [6]) (sr [fa 21 0 6,lo 22 21,fa 23 1 6,lo 24 23,fa 25 2 6,lo 26 25,on 27 (.nN 1 [z0,z0,z0] [0,1,2]) [.t 22,.t 24,.t 26],mv 28 7,mv 4 27,mv 5 28] 0 [4,5] .ret)))
def qI:aA:=(sw (r0 [ba 2 0 0,mk 4 (.c (.slice true [])),mi 5 0] 1 [2] [2]) (sr [fa 6 0 2,lo 7 6,oa 8 .bG 7,fa 9 20 8,lo 10 9,oa 11 (.nN 1 [z0] [0]) 10,mv 4 11,mi 5 0] 0 [4,5] .ret))
def jy:aA:=(sw (r0 [ba 2 0 0,mk 4 (.c (.slice true [])),mi 5 0] 1 [2,4,5] [2]) (sr [al 6 0 [zs]] 1 [2,4,5,6] (sw (sr [fa 8 1 2,lo 9 8,oa 10 (.mkF (.func 163) 1) 9] 0 [4,5,6,10] (.block 0 (.um (.t 10) [11,12] [6] (rg [mv 7 11] 0 [6,7]) (.block 1 (rg [lo 13 6,mv 14 7,oa 15 (.gu 1 [z0] [0]) 14,ob 16 (.app 1 true) 13 15,sk 1 6 16 0] 0 []))))) (sr [lo 17 6,mv 4 17,mi 5 0] 0 [4,5] .ret))))
def vw:aA:=(sw (r0 [ba 1 0 0,mf 2 false] 1 [1] [1]) (sw (sr [fa 10 0 1,lw 11 2 10,oa 12 (.aj 197) 11,oi 13 pQ 12 0,mv 14 13,ow 15 (.fld 2) 1 14 0,lq 16 15 14,ow 17 .len 16 14 0,ow 18 (.fld 0) 1 14 0,ow 19 (.fld 1) 18 14 0,lq 20 19 14,ow 21 .len 20 14 0,obF 22 pQ 17 21 14 0,pt 23 14 22,mv 24 23,ow 25 (.fld 3) 1 24 0,lq 26 25 24,oF 27 (.aj 70) [.t 26,kI 0,kI 10800] 24 0,ow 28 pN 27 24 0,pt 29 24 28] 0 [1,29] (cd 29 (sr [mf 2 false] 0 [2] .ret) .skip)) (sr [fa 31 4 1,lw 32 2 31,oa 33 (.aj 198) 32,mv 30 33,xa 34 0 30,xa 35 1 30,mv 3 34,mv 4 35] 0 [1,4] (sr [fa 37 6 1,lw 38 2 37,fa 39 8 1,lw 40 3 39,fa 41 11 1,lo 42 41,fa 43 12 1,lo 44 43,on 45 (.aj 31) [.t 38,.t 40,.t 42,.t 44],mv 36 45,xa 46 0 36,xa 47 1 36,mv 5 46,mv 6 47] 0 [1,4,6] (sr [fa 49 13 1,lo 50 49,fa 51 14 1,lo 52 51,fa 53 15 1,lo 54 53,fa 55 16 1,lo 56 55,on 57 (.build [zs,z0,z0,z0,z0,z0] [(1,1),(2,1),(3,1),(4,1)]) [.t 50,.t 52,.t 54,.t 56],oa 58 (.aj 29) 57,mv 48 58,xa 59 0 48,xa 60 1 48,xa 61 2 48,mv 7 59,mv 8 60,mv 9 61] 0 [1,4,6,9] (sr [mv 62 4,oi 63 pE 62 0,mv 64 63,ov 65 .mov 6 64 0,ot 66 pE [.t 65,kI 0] 64 0,pf 67 64 66,mv 68 67,ov 69 .mov 9 68 0,ot 70 pE [.t 69,kI 0] 68 0,pf 71 68 70,mv 72 71,ov 73 (.fld 2) 1 72 0,ov 74 (.load false 1) 73 72 0,ot 75 (.aj 199) [.t 74,.c (.func (.func 200) [] [])] 72 0,ov 76 pN 75 72 0,pf 77 72 76,mv 2 77] 0 [2] .ret))))))
def wQ:aA:=(sr [ba 1 0 0,al 2 1 [zs,zs,zs,z0,z0,zs,z0,zs,z0,z0,z0,zs,z0,z0,z0,z0,z0]] 2 [1,2] (sw (r1 [fu 3 0 1 2,fu 4 0 3 2,ou 5 (.load false 1) 4 2,ou 6 (.rZ 202) 5 1,fu 7 0 1 2,fu 8 1 7 2,ou 9 (.load false 1) 8 2,ou 10 (.rZ 114) 9 1,fu 11 0 1 2,fu 12 0 11 2,sk 1 12 6 0,fu 13 0 1 2,fu 14 1 13 2,sk 1 14 10 0] 0 [1,2] []) (sw (r1 [fu 15 2 1 2,ou 16 (.load false 1) 15 2,ou 17 (.rZ 203) 16 1,fu 18 11 1 2,ou 19 (.load false 1) 18 2,ou 20 (.rZ 204) 19 1,fu 21 2 1 2,sk 1 21 17 0,fu 22 11 1 2,sk 1 22 20 0] 0 [1,2] []) (sw (r1 [fu 23 4 1 2,fu 24 1 23 2,ou 25 (.load false 1) 24 2,ou 26 (.rZ 114) 25 1,fu 27 6 1 2,fu 28 1 27 2,ou 29 (.load false 1) 28 2,ou 30 (.rZ 114) 29 1,fu 31 4 1 2,fu 32 1 31 2,sk 1 32 26 0,fu 33 6 1 2,fu 34 1 33 2,sk 1 34 30 0] 0 [1,2] []) (sr [lw 35 17 1,sk 17 2 35 0] 0 [2] .ret)))))
def zh:aA:=(sw (r0 [ba 1 0 0,ag 2 2] 1 [1] [1]) (sr [fa 13 6 1,lw 14 2 13,fa 15 12 1,lo 16 15,on 17 (.build [z0,z0,z0] [(0,1),(1,1),(2,1)]) [.t 16,kI 1,kI 1],ob 18 (.aj 30) 14 17,mv 12 18,xa 19 0 12,xa 20 1 12,mv 3 19,mv 4 20] 0 [1,3] (sr [fa 22 6 1,lw 23 2 22,fa 24 12 1,lo 25 24,on 26 (.build [z0,z0,z0] [(0,1),(1,1),(2,1)]) [.t 25,kI 12,kI 31],ob 27 (.aj 30) 23 26,mv 21 27,xa 28 0 21,xa 29 1 21,mv 5 28,mv 6 29] 0 [1,3,5] (sr [fa 31 6 1,lw 32 2 31,fa 33 8 1,lw 34 3 33,fa 35 11 1,lo 36 35,fa 37 12 1,lo 38 37,on 39 (.aj 31) [.t 32,.t 34,.t 36,.t 38],mv 30 39,xa 40 0 30,xa 41 1 30,mv 7 40,mv 8 41] 0 [3,5,7] (sr [ag 9 2] 0 [3,5,7,9] (sw (sr [mv 42 5,mv 43 3,ob 44 pU 42 43,oi 45 pA 44 1,mi 46 0] 0 [3,7,9,45,46] (.block 0 (.loop (sr [ob 47 pL 46 45] 0 [3,7,9,45,46,47] (sw (cx 47 0) (sw (.block 1 (sr [mv 48 46,mv 10 48] 0 [3,7,9,10,45,46] (sr [mv 49 3,mv 50 10,ob 51 pA 49 50,mv 11 51] 0 [3,7,9,11,45,46] (rg [mv 52 9,mv 53 11,mv 54 11,oi 55 pA 54 4,oi 56 (.bin .rem) 55 7,oi 57 pQ 56 0,mv 58 57,ov 59 .mov 7 58 0,ov 60 .mov 11 58 0,obT 61 (.aj 205) 59 60 58 0,ov 62 pN 61 58 0,pf 63 58 62,ob 64 (.build [z0,.bool false] [(0,1),(1,1)]) 53 63,oa 65 (.gu 2 [.agg [z0,.bool false]] [0]) 64,ob 66 (.app 2 false) 52 65,mv 9 66] 0 [3,7,9,45,46])))) (rg [oi 67 pA 46 1,mv 46 67] 0 [3,7,9,45,46]))))))) (sr [mv 68 9,mv 2 68] 0 [2] .ret)))))))
def tX:aA:=(sw (r0 [ba 1 0 0,mf 2 false] 1 [1] [1]) (sw (sw (r1 [fu 3 0 1 1,lv 4 3,on 5 (.aj 70) [.t 4,kI 1,kI 6],oa 6 pN 5,mv 7 6,ow 8 (.fld 1) 1 7 1,ow 9 (.load false 1) 8 7 1,ow 10 .len 9 7 1,oF 11 (.aj 121) [] 7 0,ow 12 (.fld 0) 1 7 1,ow 13 (.load false 1) 12 7 1,oF 14 pU [.t 13,kI 1] 7 0,obF 15 (.VJ true 2 6) 11 14 7 0,ow 16 (.S9 false 1 1) 15 7 0,obF 17 pQ 10 16 7 0,pt 18 7 17] 0 [1,18] []) (cd 18 (sr [mf 2 false] 0 [2] .ret) .skip)) (sr [fa 19 1 1,lo 20 19,oc 21 (.aj 179) 20 (.c (.func (.func 206) [] [])),oa 22 pN 21,mv 2 22] 0 [2] .ret)))
def wR:aA:=(sw (r0 [ba 1 0 0,mk 2 (.c (.nilIface))] 1 [1] [1]) (sr [fa 4 1 1,lo 5 4,mv 3 5] 0 [1,3] (sw (sr [fa 6 0 1,lo 7 6] 0 [3,7] (.block 0 (sr [oi 9 pE 7 1,mv 8 9] 0 [3,7,8] (cd 8 (sr [mv 10 3,oi 11 (.aZ 1) 10 0,lo 12 11,oa 13 (.build [z0] [(0,1)]) 12,oa 14 (.mkI T.fK) 13,mv 2 14] 0 [2] .ret) (sr [oi 16 pE 7 2,mv 15 16] 0 [3,7,15] (cd 15 (sw (r1 [mv 17 3,of 18 (.aZ 1) [.t 17,kI 0] 1,lv 19 18,mv 20 3,of 21 (.aZ 1) [.t 20,kI 1] 1,lv 22 21,mv 23 3,of 24 (.aZ 1) [.t 23,kI 2] 1,lv 25 24,ob 26 (.build [z0,z0] [(0,1),(1,1)]) 22 25,ob 27 (.build [z0,z0,z0] [(0,1),(1,2)]) 19 26,oa 28 (.build [z0,z0,z0] [(0,3)]) 27,ou 29 (.mkI T.bT) 28 1,mv 2 29] 0 [2] []) .ret) (sr [oi 31 pE 7 3,mv 30 31] 0 [3,7,30] (cd 30 (sw (r1 [mv 32 3,of 33 (.aZ 1) [.t 32,kI 0] 1,lv 34 33,mv 35 3,of 36 (.aZ 1) [.t 35,kI 1] 1,lv 37 36,mv 38 3,of 39 (.aZ 1) [.t 38,kI 2] 1,lv 40 39,ob 41 (.build [z0,z0] [(0,1),(1,1)]) 37 40,ob 42 (.build [z0,z0,z0] [(0,1),(1,2)]) 34 41,ou 43 (.mkI T.fC) 42 1,mv 2 43] 0 [2] []) .ret) (sr [oi 45 pE 7 4,mv 44 45] 0 [3,7,44] (cd 44 (sw (r1 [mv 46 3,of 47 (.aZ 1) [.t 46,kI 0] 1,lv 48 47,mv 49 3,of 50 (.aZ 1) [.t 49,kI 1] 1,lv 51 50,ob 52 (.build [z0,z0] [(0,1),(1,1)]) 48 51,ou 53 (.mkI T.dW) 52 1,mv 2 53] 0 [2] []) .ret) (sr [oi 55 pE 7 5,mv 54 55] 0 [3,54] (cd 54 (sr [mv 56 3,oi 57 (.aZ 1) 56 0,lo 58 57,oa 59 (.build [z0] [(0,1)]) 58,oa 60 (.mkI T.fM) 59,mv 2 60] 0 [2] .ret) .skip)))))))))))) (sr [mv 61 3,oi 62 (.aZ 1) 61 0,lo 63 62,oa 64 (.build [z0] [(0,1)]) 63,oa 65 (.mkI T.bK) 64,mv 2 65] 0 [2] .ret))))
def jO:aA:=(sw (r0 [lo 5 0,oa 6 (.tas T.bK (.agg [z0])) 5,mv 4 6,xa 7 0 4,xa 8 1 4,al 2 0 [z0],sk 1 2 7 0,mv 3 8] 1 [0,1,2,3] [2]) (sw (sr [mv 9 3,oa 10 pN 9] 0 [0,1,2,10] (cd 10 (sw (r1 [ou 11 (.load false 1) 1 2,on 12 (.EG false 1 74) [.t 0,.t 11,kI (-1)],lo 13 0,ob 14 (.call 113) 12 13] 0 [] []) .ret) .skip)) (sw (sw (r1 [ou 15 (.load false 1) 1 2,oa 16 .bG 15,fu 17 3 16 2,ou 18 (.load false 1) 17 2,fu 19 0 2 1,lv 20 19,ix 21 1 18 20,ou 22 (.load false 1) 21 3] 0 [0,1,2,22] []) (cd 22 (rg [lo 23 0,oa 24 (.build [.nilIface] [(0,1)]) 23,oa 25 (.mkI T.iT) 24,os .panic [.t 25] 0] 0 [1,2]) .skip)) (rg [lo 26 1,fa 27 0 2,lo 28 27,ob 29 (.call 74) 26 28] 0 []))))
def dO:aA:=(sw (r0 [ba 3 0 1] 1 [0,3] [3]) (sr [oa 26 (.mkF (.func 207) 0) 3,mv 4 26] 0 [0,3,4] (sr [lo 27 3] 0 [0,4,27] (.block 0 (sr [oa 28 (.tas T.fK (.agg [z0])) 27,xa 29 1 28,xa 30 0 28] 0 [0,4,27,29,30] (cd 29 (sw (r0 [al 5 0 [z0],sk 1 5 30 0] 1 [0,4,5] [5]) (sw (r1 [mv 32 0,oa 33 .bG 32,fu 34 0 33 2,fu 35 4 34 2,ou 36 (.load true 2) 35 2,fu 37 0 5 1,lv 38 37,ob 39 (.jd 176) 36 38,mv 31 39,xa 40 0 31,xa 41 1 31,al 6 0 [z0,z0,z0],sk 3 6 40 4,mv 7 41] 1 [0,4,5,7] []) (sr [mv 42 4,mv 43 7,oi 44 pE 43 0,mv 45 44,ov 46 .mov 0 45 0,ov 47 .bG 46 45 0,ov 48 (.fld 18) 47 45 0,ov 49 (.load false 1) 48 45 0,ov 50 .len 49 45 0,ot 51 pL [.t 50,kI 8] 45 0,pf 52 45 51,ob 53 .jg 42 52] 0 [0,5] (r1 [mv 54 0,mv 55 0,oa 56 .bG 55,fu 57 18 56 2,ou 58 (.load false 1) 57 2,fu 59 0 5 1,lv 60 59,ou 61 (.gu 1 [z0] [0]) 60 1,ob 62 (.app 1 true) 58 61,oa 63 .bG 54,fu 64 18 63 2,sk 1 64 62 0] 0 [] [])))) (sr [oa 65 (.tas T.bT (.agg [z0,z0,z0])) 27,xa 66 1 65,xa 67 0 65] 0 [0,4,27,66,67] (cd 66 (sw (r0 [al 8 0 [z0,z0,z0],sk 3 8 67 0] 1 [0,4,8] [8]) (sw (r1 [mv 69 0,oa 70 .bG 69,fu 71 0 70 2,fu 72 0 71 2,ou 73 (.load true 2) 72 2,fu 74 0 8 1,ou 75 (.load true 3) 74 1,ob 76 (.KU 208) 73 75,mv 68 76,xa 77 0 68,xa 78 1 68,mv 9 77,mv 10 78] 0 [0,4,8,9,10] []) (sr [mv 79 4,mv 80 10,oi 81 pE 80 0,ob 82 .jg 79 81] 0 [0,4,8,9] (sw (sr [mv 83 9,oa 84 .len 83,mi 85 0] 0 [0,4,8,83,84,85] (.block 1 (.loop (sr [ob 86 pL 85 84] 0 [0,4,8,83,84,85,86] (sw (cx 86 1) (sw (.block 2 (sr [ix 87 1 83 85,lo 88 87,mv 12 88] 0 [0,4,8,12,83,84,85] (sr [mv 90 0,oa 91 .bG 90,fa 92 19 91,lo 93 92,mv 94 12,ob 95 (.Iz true [] (.agg [z0,z0])) 93 94,mv 89 95,xa 96 0 89,xa 97 1 89,al 13 0 [z0,z0],sk 2 13 96 0,mv 14 97] 1 [0,4,8,14,83,84,85] (rg [mv 98 4,mv 99 14,ob 100 .jg 98 99] 0 [0,4,8,83,84,85])))) (rg [oi 101 pA 85 1,mv 85 101] 0 [0,4,8,83,84,85]))))))) (sw (r1 [mv 102 0,oa 103 .bG 102,fu 104 0 103 2,fu 105 0 104 2,fu 106 0 105 2,ou 107 (.load false 1) 106 2,fu 108 0 8 1,fu 109 0 108 1,lv 110 109,ix 111 3 107 110,fu 112 1 111 3,ou 113 (.load true 2) 112 3,al 15 0 [z0,z0],sk 2 15 113 4] 1 [0,4,8,15] [15]) (sr [ag 16 1] 0 [0,4,8,15,16] (sw (sr [fa 114 0 15,lo 115 114,fa 116 0 8,fa 117 1 116,fa 118 0 117,lo 119 118,ob 120 pQ 115 119] 0 [0,4,8,15,16,120] (cd 120 (sr [mv 121 0,fa 122 0 8,fa 123 1 122,fa 124 0 123,lo 125 124,ob 126 (.call 209) 121 125,mv 17 126] 0 [0,4,8,15,16,17] (sr [mv 127 4,mv 128 17,ob 129 .jg 127 128] 0 [0,4,8,15,16] (rg [mv 130 16,fa 131 0 15,lo 132 131,oa 133 (.gu 1 [z0] [0]) 132,ob 134 (.app 1 false) 130 133,mv 16 134] 0 [0,4,8,15,16]))) .skip)) (sw (sr [fa 135 1 15,lo 136 135,fa 137 0 8,fa 138 1 137,fa 139 1 138,lo 140 139,ob 141 pQ 136 140] 0 [0,4,8,15,16,141] (cd 141 (sr [mv 142 0,fa 143 0 8,fa 144 1 143,fa 145 1 144,lo 146 145,ob 147 (.call 209) 142 146,mv 18 147] 0 [0,4,8,15,16,18] (sr [mv 148 4,mv 149 18,ob 150 .jg 148 149] 0 [0,8,15,16] (rg [mv 151 16,fa 152 1 15,lo 153 152,oa 154 (.gu 1 [z0] [0]) 153,ob 155 (.app 1 false) 151 154,mv 16 155] 0 [0,8,16]))) .skip)) (sr [mv 156 0,mv 157 0,oa 158 .bG 157,fa 159 18 158,lo 160 159,mv 161 16,ob 162 (.app 1 false) 160 161,oa 163 .bG 156,fa 164 18 163,sk 1 164 162 0] 0 [0,8] (r1 [mv 165 0,oa 166 .bG 165,fu 167 0 166 2,fu 168 0 167 2,fu 169 0 168 2,ou 170 (.load false 1) 169 2,fu 171 0 8 1,fu 172 0 171 1,lv 173 172,fu 174 0 8 1,fu 175 1 174 1,ou 176 (.load true 2) 175 1,ix 177 3 170 173,fu 178 1 177 3,sk 2 178 176 3] 0 [] [])))))))))) (sr [oa 179 (.tas T.fC (.agg [z0,z0,z0])) 27,xa 180 1 179,xa 181 0 179] 0 [0,4,27,180,181] (cd 180 (sw (r0 [al 19 0 [z0,z0,z0],sk 3 19 181 0] 1 [0,4,19] [19]) (sw (r1 [mv 183 0,oa 184 .bG 183,fu 185 19 184 2,ou 186 (.load false 1) 185 2,fu 187 0 19 1,lv 188 187,ob 189 (.Iz true [] (.agg [z0,z0])) 186 188,mv 182 189,xa 190 0 182,xa 191 1 182,al 20 0 [z0,z0],sk 2 20 190 4,mv 21 191] 1 [0,4,19,21] []) (sr [mv 192 4,mv 193 21,oa 194 pN 193,ob 195 .jg 192 194] 0 [0,19] (r1 [mv 196 0,oa 197 .bG 196,fu 198 19 197 2,ou 199 (.load false 1) 198 2,fu 200 0 19 1,lv 201 200,fu 202 1 19 1,ou 203 (.load true 2) 202 1,os (.adY []) [.t 199,.t 201,.t 203] 0] 0 [] [])))) (sr [oa 204 (.tas T.dW (.agg [z0,z0])) 27,xa 205 1 204,xa 206 0 204] 0 [0,4,27,205,206] (cd 205 (sw (r0 [al 22 0 [z0,z0],sk 2 22 206 0] 1 [0,4,22] [22]) (sw (r1 [mv 208 0,oa 209 .bG 208,fu 210 19 209 2,ou 211 (.load false 1) 210 2,fu 212 0 22 1,lv 213 212,ob 214 (.Iz true [] (.agg [z0,z0])) 211 213,mv 207 214,xa 215 0 207,xa 216 1 207,al 23 0 [z0,z0],sk 2 23 215 4,mv 24 216] 1 [0,4,22,23,24] [23]) (sw (r1 [mv 217 4,mv 218 24,mv 219 218,ov 220 .mov 0 219 0,ov 221 (.fld 0) 22 219 1,ov 222 (.load false 1) 221 219 1,ov 223 (.load true 2) 23 219 1,ot 224 (.jd 172) [.t 220,.t 222,.t 223,kI 100] 219 0,pf 225 219 224,mv 226 225,ov 227 (.fld 1) 22 226 1,ov 228 (.load false 1) 227 226 1,ov 229 .mov 0 226 0,ov 230 (.fld 0) 22 226 1,ov 231 (.load false 1) 230 226 1,obT 232 (.jd 167) 229 231 226 0,obT 233 (.bin .geq) 228 232 226 0,pf 234 226 233,ob 235 .jg 217 234] 0 [0,22,23] []) (sw (r1 [mv 236 0,oa 237 .bG 236,fu 238 19 237 2,ou 239 (.load false 1) 238 2,fu 240 0 22 1,lv 241 240,os (.adW []) [.t 239,.t 241] 0] 0 [0,22,23] []) (sw (r1 [mv 242 0,oa 243 .bG 242,fu 244 0 243 2,fu 245 2 244 2,ou 246 (.load false 1) 245 2,fu 247 0 22 1,lv 248 247,ou 249 (.load true 2) 23 1,ix 250 2 246 248,sk 2 250 249 0] 0 [0,22] []) (r1 [mv 251 0,oa 252 .bG 251,fu 253 20 252 2,ou 254 (.load false 1) 253 2,fu 255 1 22 1,lv 256 255,ob 257 pA 254 256,oa 258 .bG 251,fu 259 20 258 2,sk 1 259 257 0] 0 [] [])))))) (sr [oa 260 (.tas T.fM (.agg [z0])) 27,xa 261 1 260,xa 262 0 260] 0 [0,4,261,262] (cd 261 (sw (r0 [al 25 0 [z0],sk 1 25 262 0] 1 [0,4,25] [25]) (sw (r1 [mv 263 4,mv 264 0,oa 265 .bG 264,fu 266 17 265 2,ou 267 (.load false 1) 266 2,fu 268 0 25 1,lv 269 268,oi 270 pU 269 1,ob1 271 (.aZ 2) 267 270 1,fu 272 1 271 1,lv 273 272,mv 274 273,ov 275 .mov 0 274 0,ov 276 .bG 275 274 0,ov 277 (.fld 21) 276 274 2,ov 278 (.load false 1) 277 274 2,ov 279 .len 278 274 0,ot 280 pE [.t 279,kI 0] 274 0,ov 281 .mov 280 274 0,ow 282 (.fld 0) 25 281 1,ow 283 (.load false 1) 282 281 1,ow 284 .mov 0 281 0,ow 285 .bG 284 281 0,ow 286 (.fld 21) 285 281 2,ow 287 (.load false 1) 286 281 2,ow 288 .mov 0 281 0,ow 289 .bG 288 281 0,ow 290 (.fld 21) 289 281 2,ow 291 (.load false 1) 290 281 2,ow 292 .len 291 281 0,oF 293 pU [.t 292,kI 1] 281 0,obF 294 (.aZ 1) 287 293 281 0,ow 295 (.load false 1) 294 281 3,obF 296 pG 283 295 281 0,ot 297 .pick [.t 281,.c (.bool true),.t 296] 274 0,pf 298 274 297,ob 299 .jg 263 298] 0 [0,25] []) (r1 [mv 300 0,mv 301 0,oa 302 .bG 301,fu 303 21 302 2,ou 304 (.load false 1) 303 2,fu 305 0 25 1,lv 306 305,ou 307 (.gu 1 [z0] [0]) 306 1,ob 308 (.app 1 false) 304 307,oa 309 .bG 300,fu 310 21 309 2,sk 1 310 308 0] 0 [] []))) .skip))))))))))))))
def oU:aA:=(sr [mk 4 (.c (.str ⟨#[]⟩))] 0 [0,1] (sw (r0 [mv 10 1,oa 11 (.aj 44) 10,mv 9 11,xa 12 0 9,xa 13 1 9,al 5 0 [z0,zs],sk 2 5 12 0,mv 6 13] 1 [0,1,5,6] [5]) (sw (sr [mv 14 6,oi 15 pE 14 0] 0 [0,1,5,6,15] (cd 15 (sr [mv 16 0,lw 17 2 5,ob 18 (.call 38) 16 17,mv 6 18] 0 [6] (sw (sr [mv 19 6,oi 20 pE 19 0] 0 [6,20] (cd 20 (sr [mk 4 (.c (.str ⟨#[110,111,116,101,100]⟩))] 0 [4] .ret) .skip)) (sr [mv 21 6,oa 22 (.aj 213) 21,on 23 pA [.c (.str ⟨#[101,114,114,111,114,32]⟩),.t 22],mv 4 23] 0 [4] .ret))) .skip)) (sw (sr [mv 24 6,oi 25 pE 24 3] 0 [0,1,6,25] (cd 25 (sr [mv 26 6,oa 27 (.aj 213) 26,on 28 pA [.c (.str ⟨#[101,114,114,111,114,32]⟩),.t 27],mv 4 28] 0 [4] .ret) .skip)) (sw (r0 [mv 30 1,oa 31 (.aj 214) 30,mv 29 31,xa 32 0 29,xa 33 1 29,al 7 0 [z0,zs],sk 2 7 32 0,mv 6 33] 1 [0,6,7] [7]) (sr [mk 8 (.c (.slice true []))] 0 [0,6,7,8] (sw (sr [mv 34 6,oi 35 pE 34 0] 0 [0,6,7,8,35] (cd 35 (rg [mv 37 0,lw 38 2 7,ob 39 (.call 21) 37 38,mv 36 39,xa 40 0 36,xa 41 1 36,mv 8 40,mv 6 41] 0 [6,8]) .skip)) (sw (.block 0 (sr [mv 43 6,oi 44 pQ 43 0,mv 42 44] 0 [6,8,42] (cd 42 (sr [mv 45 6,oa 46 (.aj 213) 45,on 47 pA [.c (.str ⟨#[101,114,114,111,114,32]⟩),.t 46],mv 4 47] 0 [4] .ret) (sr [mv 49 8,oa 50 .len 49,oi 51 pE 50 0,mv 48 51] 0 [8,48] (cd 48 (sr [mk 4 (.c (.str ⟨#[110,111,116,104,105,110,103]⟩))] 0 [4] .ret) .skip))))) (sr [mv 52 8,oa 53 (.jd 122) 52,mv 4 53] 0 [4] .ret)))))))))
def xQ:aA:=(sr [al 0 0 [.str ⟨#[]⟩,z0,.str ⟨#[]⟩,z0,.str ⟨#[]⟩,z0,.str ⟨#[]⟩,z0,.str ⟨#[]⟩,z0,.str ⟨#[]⟩,z0]] 1 [0] (sr [on 1 (.build [.str ⟨#[]⟩,z0] [(0,1),(1,1)]) [.c (.str ⟨#[99,117,116]⟩),kI 1],on 2 (.build [.str ⟨#[]⟩,z0] [(0,1),(1,1)]) [.c (.str ⟨#[99,104,97,110,103,101]⟩),kI 3],on 3 (.build [.str ⟨#[]⟩,z0] [(0,1),(1,1)]) [.c (.str ⟨#[111,114,100,101,114]⟩),kI 3],on 4 (.build [.str ⟨#[]⟩,z0] [(0,1),(1,1)]) [.c (.str ⟨#[115,101,114,118,101]⟩),kI 2],on 5 (.build [.str ⟨#[]⟩,z0] [(0,1),(1,1)]) [.c (.str ⟨#[115,101,116]⟩),kI 1],on 6 (.build [.str ⟨#[]⟩,z0] [(0,1),(1,1)]) [.c (.str ⟨#[115,116,114,105,107,101]⟩),kI 1],on 7 (.build [.str ⟨#[]⟩,z0,.str ⟨#[]⟩,z0,.str ⟨#[]⟩,z0,.str ⟨#[]⟩,z0,.str ⟨#[]⟩,z0,.str ⟨#[]⟩,z0] [(0,2),(2,2),(4,2),(6,2),(8,2),(10,2)]) [.t 1,.t 2,.t 3,.t 4,.t 5,.t 6],sk 12 0 7 0] 0 [0] .ret))
def wS:aA:=(sr [mk 2 (.c (.str ⟨#[]⟩))] 0 [0] (sr [ag 3 1] 0 [0,3] (sw (sr [mv 6 0,oa 7 .len 6,mi 8 0] 0 [3,6,7,8] (.block 0 (.loop (sr [ob 9 pL 8 7] 0 [3,6,7,8,9] (sw (cx 9 0) (sw (.block 1 (sr [ix 10 1 6 8,lo 11 10,mv 5 11] 0 [3,5,6,7,8] (rg [mv 12 3,mv 13 5,oa 14 (.aj 213) 13,oa 15 (.gu 1 [.str ⟨#[]⟩] [0]) 14,ob 16 (.app 1 false) 12 15,mv 3 16] 0 [3,6,7,8]))) (rg [oi 17 pA 8 1,mv 8 17] 0 [3,6,7,8]))))))) (sr [mv 18 3,oc 19 (.jd 218) 18 (.c (.str ⟨#[32]⟩)),mv 2 19] 0 [2] .ret))))
def vk:aA:=(sw (r0 [on 5 (.aj 121) [],al 2 0 [.str ⟨#[]⟩,z0,.str ⟨#[]⟩,z0,.str ⟨#[]⟩,z0,.str ⟨#[]⟩,z0,.str ⟨#[]⟩,z0,.str ⟨#[]⟩,z0],sk 12 2 5 0] 1 [0,1,2] [2]) (sw (r1 [lv 7 0,ou 8 (.V8 true 2 6) 2 1,ob 9 (.call 126) 7 8,mv 6 9,xa 10 0 6,xa 11 1 6,mv 3 10,mv 4 11] 0 [1,3,4] []) (rg [mv 12 3,on 13 pA [kI 1,.t 12],mv 14 4,ob 15 (.build [z0,zs] [(0,1),(1,1)]) 13 14,sk 2 1 15 0] 0 [])))
def zf:aA:=(sr [mi 4 0,ag 5 1] 0 [0,1] (sr [mv 14 0,oc 15 (.aj 219) 14 (.c (.str ⟨#[32]⟩)),mv 6 15] 0 [0,1,6] (sr [mv 16 1,mv 17 6,oi 18 (.aZ 1) 17 0,lo 19 18,mv 20 6,oa 21 .len 20,oi 22 pU 21 1,ob 23 (.build [.str ⟨#[]⟩,z0] [(0,1),(1,1)]) 19 22,ob 24 (.aj 220) 16 23,mv 7 24] 0 [0,6,7] (sr [mv 25 7,oi 26 (.bin .geq) 25 0,mv 27 0,ob 28 (.call 221) 26 27] 0 [0,6,7] (sr [ag 8 1] 0 [0,6,7,8] (sw (sr [mv 29 6,oi 30 (.Eu 1 true false false) 29 1,oa 31 .len 30,mi 32 0] 0 [0,7,8,30,31,32] (.block 0 (.loop (sr [ob 33 pL 32 31] 0 [0,7,8,30,31,32,33] (sw (cx 33 0) (sw (.block 1 (sr [ix 34 1 30 32,lo 35 34,mv 10 35] 0 [0,7,8,10,30,31,32] (sr [mi 11 0] 0 [0,7,8,10,11,30,31,32] (sw (sr [mv 36 10,oa 37 (.rngS 0) 36] 1 [0,7,8,10,11,30,31,32,37] (.block 2 (.loop (sr [oa 38 .aaS 37,xa 39 0 38] 0 [0,7,8,10,11,30,31,32,37,38,39] (sw (cx 39 2) (.block 3 (sr [xa 40 2 38,mv 13 40] 0 [0,7,8,10,11,13,30,31,32,37] (sr [mv 41 13,oc 42 (.bin .geq) 41 (.c (.int .i32 48)),mv 43 42,ov 44 .mov 13 43 0,ot 45 (.bin .leq) [.t 44,.c (.int .i32 57)] 43 0,pf 46 43 45,mv 47 46,ov 48 .mov 10 47 0,ov 49 .Fg 48 47 0,ot 50 (.bin .leq) [.t 49,kI 4] 47 0,pf 51 47 50,mv 52 0,ob 53 (.call 221) 51 52] 0 [0,7,8,10,11,13,30,31,32,37] (rg [mv 54 11,on 55 pM [kI 10,.t 54],mv 56 13,oc 57 pU 56 (.c (.int .i32 48)),oa 58 (.conv .i64) 57,ob 59 pA 55 58,mv 11 59] 0 [0,7,8,10,11,30,31,32,37]))))))))) (sr [mv 60 10,oc 61 pQ 60 (.c (.str ⟨#[]⟩)),mv 62 61,ov 63 .mov 11 62 0,ov 64 (.aj 213) 63 62 0,ov 65 .mov 10 62 0,obT 66 pE 64 65 62 0,pf 67 62 66,mv 68 0,ob 69 (.call 221) 67 68] 0 [0,7,8,11,30,31,32] (rg [mv 70 8,mv 71 11,oa 72 (.gu 1 [z0] [0]) 71,ob 73 (.app 1 false) 70 72,mv 8 73] 0 [0,7,8,30,31,32])))))) (rg [oi 74 pA 32 1,mv 32 74] 0 [0,7,8,30,31,32]))))))) (sr [mv 75 7,mv 76 8,mv 4 75,mv 5 76] 0 [4,5] .ret)))))))
def ku:aA:=(sr [mv 6 0,oa 7 .bG 6,fa 8 2 7,lo 9 8,oa 10 .len 9,mi 11 0] 0 [0,1,9,10,11] (.block 0 (.loop (sr [ob 12 pL 11 10] 0 [0,1,9,10,11,12] (sw (cx 12 0) (sw (.block 1 (sw (r0 [mv 13 11,ix 14 2 9 11,lw 15 2 14,al 5 0 [z0,zs],mv 4 13,sk 2 5 15 0] 1 [0,1,4,5,9,10,11] [5]) (sr [fa 16 0 5,lo 17 16,oi 18 pQ 17 6,mv 19 18,ov 20 .mov 0 19 0,ov 21 .bG 20 19 0,ov 22 (.fld 3) 21 19 0,ov 23 (.load false 1) 22 19 0,ov 24 .mov 4 19 0,obT 25 (.aZ 1) 23 24 19 0,ov 26 (.load false 1) 25 19 0,ov 27 pN 26 19 0,pf 28 19 27,mv 29 28,ov 30 .mov 1 29 0,ov 31 .mov 4 29 0,ov 32 (.load true 2) 5 29 0,ov 33 (.aj 111) 32 29 0,ot 34 .jg [.t 30,.t 31,.t 33] 29 0,ov 35 pN 34 29 0,pf 36 29 35] 0 [0,1,9,10,11,36] (cd 36 .ret .skip)))) (rg [oi 37 pA 11 1,mv 11 37] 0 [0,1,9,10,11])))))))
def oV:aA:=(sr [mf 4 false] 0 [0,1] (sr [mv 5 1,mv 6 0,oa 7 .bG 6,fa 8 0 7,lo 9 8,oa 10 .bG 9,fa 11 0 10,fa 12 1 11,lo 13 12,oa 14 .len 13,oi 15 pU 14 1,on 16 (.aj 70) [.t 5,kI 0,.t 15],mv 4 16] 0 [4] .ret))
def pq:aA:=(sr [mi 4 0] 0 [0,1] (sw (r1 [mv 14 0,oa 15 .bG 14,fu 16 0 15 1,fu 17 0 16 1,ou 18 (.load true 2) 17 1,mv 19 0,oa 20 .bG 19,fu 21 0 20 1,fu 22 0 21 1,fu 23 1 22 1,lv 24 23,mv 25 1,ob1 26 (.aZ 1) 24 25 1,lv 27 26,ob 28 (.aj 28) 18 27,mv 13 28,xa 29 0 13,xa 30 1 13,mv 5 29,mv 6 30] 0 [0,5] []) (sw (r1 [mv 31 0,oa 32 .bG 31,fu 33 0 32 1,fu 34 13 33 1,lv 35 34,mv 36 0,oa 37 .bG 36,fu 38 0 37 1,fu 39 14 38 1,lv 40 39,mv 41 0,oa 42 .bG 41,fu 43 0 42 1,fu 44 15 43 1,lv 45 44,mv 46 0,oa 47 .bG 46,fu 48 0 47 1,fu 49 16 48 1,lv 50 49,on 51 (.build [zs,z0,z0,z0,z0,z0] [(1,1),(2,1),(3,1),(4,1)]) [.t 35,.t 40,.t 45,.t 50],al 7 0 [zs,z0,z0,z0,z0,z0],sk 6 7 51 4] 1 [5,7] []) (sw (sr [mv 52 5,oa 53 .len 52,mi 54 0] 0 [7,52,53,54] (.block 0 (.loop (sr [ob 55 pL 54 53] 0 [7,52,53,54,55] (sw (cx 55 0) (sw (.block 1 (sw (r0 [ix 56 2 52 54,lw 57 2 56,al 9 0 [z0,z0],sk 2 9 57 0] 1 [7,9,52,53,54] [9]) (rg [fa 58 0 7,lo 59 58,fa 60 0 9,lo 61 60,fa 62 1 9,lo 63 62,ob 64 (.gu 1 [z0,z0] [0,1]) 61 63,ob 65 (.app 1 false) 59 64,fa 66 0 7,sk 1 66 65 0] 0 [7,52,53,54]))) (rg [oi 67 pA 54 1,mv 54 67] 0 [7,52,53,54]))))))) (sr [lw 69 6 7,oa 70 (.jd 29) 69,mv 68 70,xa 71 0 68,xa 72 1 68,xa 73 2 68,mv 10 71,mv 11 72,mv 12 73] 0 [10] (sr [mv 74 10,mv 4 74] 0 [4] .ret))))))
def vC:aA:=(sr [mf 2 false] 0 [0] (sr [mv 3 0,on 4 (.aj 70) [.t 3,kI 4,kI 60],mv 2 4] 0 [2] .ret))
def qy:aA:=(sr [mf 4 false] 0 [0,1] (sr [mv 5 1,mv 6 0,oa 7 .bG 6,fa 8 1 7,lo 9 8,oa 10 .len 9,on 11 (.aj 70) [.t 5,kI 1,.t 10],mv 4 11] 0 [4] .ret))
def o7:aA:=(sw (r0 [ba 2 0 0,mi 4 0] 1 [1,2] [2]) (sr [mi 5 0] 0 [1,2,5] (sw (sr [fa 8 0 2,lo 9 8,oa 10 .bG 9,fa 11 21 10,lo 12 11,oa 13 .len 12,mi 14 0] 0 [1,5,12,13,14] (.block 0 (.loop (sr [ob 15 pL 14 13] 0 [1,5,12,13,14,15] (sw (cx 15 0) (sw (.block 1 (sr [ix 16 1 12 14,lo 17 16,mv 7 17] 0 [1,5,7,12,13,14] (sr [mv 18 7,mv 19 1,ob 20 (.bin .leq) 18 19] 0 [1,5,7,12,13,14,20] (cd 20 (rg [mv 21 7,mv 5 21] 0 [1,5,12,13,14]) .skip)))) (rg [oi 22 pA 14 1,mv 14 22] 0 [1,5,12,13,14]))))))) (sr [mv 23 1,mv 24 5,ob 25 pU 23 24,mv 4 25] 0 [4] .ret))))
def qO:aA:=(sw (r0 [ba 6 0 2,mf 8 false] 1 [0,1,3,6] [6]) (sw (r1 [mv 12 0,oa 13 .bG 12,fu 14 0 13 1,fu 15 0 14 1,ou 16 (.load true 2) 15 1,mv 17 1,ou 18 (.load true 2) 6 1,mv 19 3,on 20 (.aj 27) [.t 16,.t 17,.t 18,.t 19],mv 11 20,xa 21 0 11,xa 22 1 11,mv 9 21,mv 10 22] 0 [0,9] []) (sw (r1 [mv 23 9,mv 24 0,oa 25 .bG 24,fu 26 0 25 1,fu 27 3 26 1,lv 28 27,oa 29 (.un .neg) 28,mv 30 0,oa 31 .bG 30,fu 32 0 31 1,fu 33 3 32 1,lv 34 33,on 35 (.aj 70) [.t 23,.t 29,.t 34],mv 8 35] 0 [8] []) .ret)))
def rU:aA:=(sr [mi 6 0,mf 7 false] 0 [0,1,2] (sw (sr [mv 9 0,mv 8 9] 0 [1,2,8] (.block 0 (.loop (sw (sr [mv 10 8,mv 11 1,ob 12 (.bin .leq) 10 11] 0 [1,2,8,12] (cx 12 0)) (sw (.block 1 (sr [mv 15 2,mv 16 8,ob 17 .jg 15 16] 0 [1,2,8,17] (cd 17 (sr [mv 18 8,mv 6 18,mf 7 true] 0 [6,7] .ret) .skip))) (rg [mv 13 8,oi 14 pA 13 1,mv 8 14] 0 [1,2,8])))))) (sr [mi 6 0,mf 7 false] 0 [6,7] .ret)))
def mZ:aA:=(sr [mf 3 false] 0 [0,1] (sr [fa 4 0 1,lo 5 4,oa 6 .bG 5,fa 7 17 6,lo 8 7,mv 9 0,oi 10 pU 9 1,ix 11 2 8 10,fa 12 1 11,lo 13 12,mv 3 13] 0 [3] .ret))
def rV:aA:=(sw (r0 [ba 1 0 0,mf 2 false] 1 [1] [1]) (sr [lw 3 2 1,oa 4 (.aj 201) 3,oa 5 pN 4,mv 2 5] 0 [2] .ret))
def qK:aA:=(sw (r0 [ba 1 0 0,mf 2 false] 1 [1] [1]) (sr [fa 3 0 1,lo 4 3,on 5 (.aj 70) [.t 4,kI 0,kI 50000],mv 6 5,ov 7 (.fld 1) 1 6 0,ov 8 (.load false 1) 7 6 0,ot 9 (.aj 70) [.t 8,kI 1,kI 50000] 6 0,pf 10 6 9,mv 2 10] 0 [2] .ret))
def qJ:aA:=(sr [mf 2 false] 0 [0] (sr [mv 3 0,on 4 (.aj 70) [.t 3,kI 0,kI 9999],oa 5 pN 4,mv 2 5] 0 [2] .ret))
def kP:aA:=(sr [mv 3 0,oa 4 pN 3] 0 [1,4] (cd 4 (rg [lo 5 1,oa 6 (.build [.nilIface] [(0,1)]) 5,oa 7 (.mkI T.iT) 6,os .panic [.t 7] 0] 0 []) .skip))
def qP:aA:=(sr [mf 4 false] 0 [0,1] (sr [mv 6 0,oa 7 .bG 6,fa 8 18 7,lo 9 8,mv 10 1,ob 11 (.jd 269) 9 10,mv 5 11] 0 [0,5] (sw (sr [mv 12 5,oi 13 pL 12 0] 0 [0,5,13] (cd 13 (sr [mf 4 false] 0 [4] .ret) .skip)) (sr [mv 14 0,mv 15 0,oa 16 .bG 15,fa 17 18 16,lo 18 17,mv 19 5,mv 20 5,oi 21 pA 20 1,on 22 (.call 271) [.t 18,.t 19,.t 21],oa 23 .bG 14,fa 24 18 23,sk 1 24 22 0] 0 [] (sr [mf 4 true] 0 [4] .ret)))))
def tY:aA:=(sw (r0 [ba 1 0 0,al 2 1 [z0,zs],mi 3 0] 2 [1,2] [1]) (sr [al 4 0 [z0,zs]] 1 [1,2,4] (sr [ob 6 (.mkF (.func 274) 0) 1 4,oa 7 (.call 72) 6,mv 5 7] 0 [2,4,5] (sr [lw 8 2 4,mv 9 5,sk 2 2 8 0,mv 3 9] 0 [2,3] .ret))))
def rC:aA:=(sr [mv 4 0,oa 5 pN 4] 0 [1,5] (cd 5 (rg [mv 6 1,oa 7 (.build [.str ⟨#[]⟩] [(0,1)]) 6,oa 8 (.mkI T.qV) 7,os .panic [.t 8] 0] 0 []) .skip))
def qM:aA:=(sw (r0 [on 5 (.aj 71) [],al 2 0 [.str ⟨#[]⟩,z0,.str ⟨#[]⟩,z0,.str ⟨#[]⟩,z0,.str ⟨#[]⟩,z0,.str ⟨#[]⟩,z0,.str ⟨#[]⟩,z0,.str ⟨#[]⟩,z0,.str ⟨#[]⟩,z0,.str ⟨#[]⟩,z0,.str ⟨#[]⟩,z0,.str ⟨#[]⟩,z0,.str ⟨#[]⟩,z0],sk 24 2 5 0] 1 [0,1,2] [2]) (sw (r1 [lv 7 0,ou 8 (.V8 true 2 12) 2 1,ob 9 (.call 126) 7 8,mv 6 9,xa 10 0 6,xa 11 1 6,mv 3 10,mv 4 11] 0 [1,3,4] []) (rg [mv 12 3,on 13 pA [kI 1,.t 12],mv 14 4,ob 15 (.build [z0,zs] [(0,1),(1,1)]) 13 14,sk 2 1 15 0] 0 [])))
def pz:aA:=(sw (r0 [ba 2 0 0,mf 4 false] 1 [1,2] [2]) (sw (r1 [fu 5 0 2 1,lv 6 5,mv 7 1,oa 8 .bG 7,fu 9 2 8 1,lv 10 9,ou 11 .len 10 1,oi 12 pU 11 1,on 13 (.aj 70) [.t 6,kI 0,.t 12],mv 14 13,ov 15 .mov 1 14 0,ov 16 .bG 15 14 0,ov 17 (.fld 2) 16 14 1,ov 18 (.load false 1) 17 14 1,ov 19 (.fld 0) 2 14 1,ov 20 (.load false 1) 19 14 1,obT 21 (.aZ 2) 18 20 14 1,ov 22 (.fld 0) 21 14 1,ov 23 (.load false 1) 22 14 1,ot 24 pQ [.t 23,kI 6] 14 0,pf 25 14 24,mv 4 25] 0 [4] []) .ret))
def tV:aA:=(sw (r0 [ba 2 0 0,mf 4 false] 1 [2] [2]) (sr [fa 5 0 2,lo 6 5,oa 7 (.aj 168) 6,mv 4 7] 0 [4] .ret))
def o9:aA:=(sw (r0 [ba 2 0 0,mf 4 false] 1 [1,2] [2]) (sw (r1 [fu 5 0 2 1,fu 6 0 5 1,lv 7 6,mv 8 1,oa 9 .bG 8,fu 10 0 9 1,lv 11 10,oa 12 .bG 11,fu 13 0 12 1,fu 14 0 13 1,lv 15 14,ou 16 .len 15 1,oi 17 pU 16 1,on 18 (.aj 70) [.t 7,kI 0,.t 17],mv 19 18,ov 20 (.fld 0) 2 19 1,ov 21 (.fld 1) 20 19 1,ov 22 (.fld 0) 21 19 1,ov 23 (.load false 1) 22 19 1,ov 24 (.aj 168) 23 19 0,pf 25 19 24,mv 26 25,ov 27 (.fld 0) 2 26 1,ov 28 (.fld 1) 27 26 1,ov 29 (.fld 1) 28 26 1,ov 30 (.load false 1) 29 26 1,ov 31 (.aj 168) 30 26 0,pf 32 26 31,mv 4 32] 0 [4] []) .ret))
def qL:aA:=(sw (r0 [ba 2 0 0,mf 4 false] 1 [1,2] [2]) (sr [mv 5 1,fa 6 0 2,lo 7 6,ob 8 (.aj 166) 5 7,mv 9 8,ov 10 (.fld 1) 2 9 0,ov 11 (.load true 2) 10 9 0,ov 12 (.aj 201) 11 9 0,pf 13 9 12,mv 4 13] 0 [4] .ret))
def qN:aA:=(sw (r0 [ba 2 0 0,mf 4 false] 1 [1,2] [2]) (sr [mv 5 1,fa 6 0 2,lo 7 6,ob 8 (.aj 166) 5 7,mv 4 8] 0 [4] .ret))
def tZ:aA:=(sw (r0 [ba 2 0 0,mf 4 false] 1 [1,2] [2]) (sr [mv 5 1,fa 6 0 2,lo 7 6,ob 8 (.aj 170) 5 7,mv 4 8] 0 [4] .ret))
structure Su where
 pc:Pc
 tg:List Fr
 lim:Int
 dvd:Dvd
 cal:Cal
 jf:gK
 fs:List Fs
 year:Int
 gq:Int
 hours:Int
 lC:Int
 pct:Int
 deriving DecidableEq,Inhabited
def Su.cs (s:Su):List DV:=[sF (s.pc.links.map Lk.dv),sF (s.pc.hands.map ay),sF (s.tg.map Fr.dv),dI s.lim,dI s.dvd.eF,sF (s.dvd.cir.map ay),dI s.cal.ep,sF (s.cal.cy.map ay),dI s.jf.n,dI s.jf.d,dI s.jf.ad,sF (s.fs.map Fs.dv),dI s.year,dI s.gq,dI s.hours,dI s.lC,dI s.pct]
def Su.dv (s:Su):DV:= .agg s.cs
variable{s:Su}
def uS:s.cs=[sF (s.pc.links.map Lk.dv),sF (s.pc.hands.map ay),sF (s.tg.map Fr.dv),dI s.lim,dI s.dvd.eF,sF (s.dvd.cir.map ay),dI s.cal.ep,sF (s.cal.cy.map ay),dI s.jf.n,dI s.jf.d,dI s.jf.ad,sF (s.fs.map Fs.dv),dI s.year,dI s.gq,dI s.hours,dI s.lC,dI s.pct]:=by rw[Su.cs]
def gU:s.dv= .agg [sF (s.pc.links.map Lk.dv),sF (s.pc.hands.map ay),sF (s.tg.map Fr.dv),dI s.lim,dI s.dvd.eF,sF (s.dvd.cir.map ay),dI s.cal.ep,sF (s.cal.cy.map ay),dI s.jf.n,dI s.jf.d,dI s.jf.ad,sF (s.fs.map Fs.dv),dI s.year,dI s.gq,dI s.hours,dI s.lC,dI s.pct]:=by rw[Su.dv,Su.cs]
def Su.bil (s:Su)(dJ:List Int):Bil:=⟨dJ,s.gq,s.hours,s.lC,s.pct,0⟩
def Su.ok (s:Su):Bool:=s.pc.ok&&decide (s.tg.length=s.pc.hands.length)&&inR s.lim 0 10800&&s.dvd.ok&&(s.cal.ok&&s.jf.ok&&jA s.fs&&inR s.year 0 4000)&&(s.bil []).ok&&s.tg.all Fr.ok
def Ah (n l h:Int):Pure C 70 [dI n,dI l,dI h] (.d (.bool (inR n l h))) []:=by
 refine ayF Ce jr ?_
 by_cases h1:n>=l<;>simp only[h1,inR,Ce,jr,aD,RN,B,F]
def l7 (n:Int):Pure C 168 [dI n] (.d (.bool (aT n))) []:=by
 refine ayF vC aK ?_;simp only[vC,aK,RN,B]
 repeat' first
  |(refine ayG (Ah _ _ _) ?_;try simp only[RN,B,F,H,I,J,N])
  |(refine bF (by rfl) (fun a=> ?_) (fun a=> ?_)<;>simp only[a,RN,B,F,H,I,J,N])
  |(refine bJ (by rfl) (fun a=> ?_) (fun a=> ?_)<;>simp only[a,RN,B,F,H,I,J,N])
 all_goals(first|(simp only[aT, *,BSN];done)|(simp_all[aT];done)|(simp_all[aT];omega))
def afj (f:Fr):Pure C 201 [f.dv] (.d (.bool f.ok)) []:=by
 refine ayF qK aK ?_;simp only[qK,aK,bW,RN,B,F,N]
 repeat' first
  |(refine ayG (Ah _ _ _) ?_;try simp only[bW,RN,B,F,H,I,J,N])
  |(refine bF (by rfl) (fun a=> ?_) (fun a=> ?_)<;>simp only[a,RN,B,F,N])
  |(refine bJ (by rfl) (fun a=> ?_) (fun a=> ?_)<;>simp only[a,bW,RN,B,F,H,I,J,N])
 all_goals(first|(simp only[Fr.ok, *,BSN];done)|(simp_all[Fr.ok];done)|(simp_all[Fr.ok];omega))
def adL (f:Fr):Pure C 200 [f.dv] (.d (.bool (!f.ok))) []:=by
 refine ayF rV aK ?_;simp only[rV,aK,bW,RN,B,F,N];have h:=afj f;rw[bW]at h;refine ayG h ?_;(try simp only[RN])
structure Su.Small (s:Su):Prop where
 l:s.pc.links.length<=1000
 h:s.pc.hands.length<=1000
 t:s.tg.length<=1000
 ci:s.dvd.cir.length<=1000
 cy:s.cal.cy.length<=1000
def ado (c:Cal)(m:gK)(l:List Fs)(y:Int):∃d,vY c m l y= .tup [d,dI (if c.ok&&m.ok&&jA l&&inR y 0 4000 then 0 else 2)]:=by
 unfold vY
 split<;>exact⟨_,rfl⟩
def ahh (d:Dvd):d.numbers.2=if d.ok then 0 else 2:=by unfold Dvd.numbers;split<;>rfl
def aoq (b:Bil):b.VB.2.2=if b.ok then 0 else 2:=by unfold Bil.VB;split<;>rfl
def ag6 (s:Su)(hs:s.Small):Pure C 107 [s.dv] (.d (.bool s.ok)) []:=by
 refine ayF vw aK ?_;have h1:=alD s.pc hs.l hs.h;rw[dZ]at h1;have h2:=afW s.dvd hs.ci;rw[sZ]at h2;have a:=Zx s.cal s.jf false s.fs s.year (by have:=hs.cy;omega);rw[fE,iy]at a;have b:=aij (s.bil []) (by simp[Su.bil]);rw[JI]at b;have o:=VE s.tg 200 [] (fun f=> !f.ok) (by have:=hs.t;omega) (by kernel_rfl) fun f _=>adL f
 have z0:((0:Int) !=0)=false:=rfl;have p:((2:Int) !=0)=true:=rfl;have g:((0:Int)==0)=true:=rfl;have i:((2:Int)==0)=false:=rfl;simp only[vw,aK,gU,RN,B,F,N];refine ayG h1 ?_;cases j:s.pc.ok
 ·simp only[p,if_false,ae,RN,B]
  simp[Su.ok,j]
 simp only[z0,if_true,O,RN,B,F,N]
 by_cases e:s.tg.length=s.pc.hands.length
 ·have z1:((s.tg.length:Int) !=(s.pc.hands.length:Int))=false:=by simp[e]
  simp only[z1,RN,B,F,N];refine ayG (Ah _ _ _) ?_;cases k:inR s.lim 0 10800
  ·(try simp only[RN,B])
   simp[Su.ok,k]
  (try simp only[RN,B,F,N]);obtain⟨q,c⟩:=ado s.cal s.jf s.fs s.year;rw[c]at a;rw[ahh]at h2;rw[aoq]at b;refine ayG h2 ?_;(try simp only[RN]);refine ayG a ?_;(try simp only[RN]);refine ayG b ?_;cases m:s.dvd.ok
  ·simp only[i,if_false,ae,RN,B]
   simp[Su.ok,m]
  cases n:s.cal.ok&&s.jf.ok&&jA s.fs&&inR s.year 0 4000
  ·simp only[i,g,if_false,if_true,ae,RN,B]
   simp[Su.ok,n]
  cases k6:(s.bil []).ok
  ·simp only[i,g,if_false,if_true,ae,RN,B]
   simp[Su.ok,k6]
  simp only[g,if_true,RN,B,F,N];refine ayG o ?_;simp only[Dh,Bool.not_not,RN];rw[Su.ok,j,k,m,n,k6,decide_eq_true e];simp
 ·have z1:((s.tg.length:Int) !=(s.pc.hands.length:Int))=true:=by simp;omega
  simp only[z1,RN,B];simp[Su.ok,e]
def Dp (xs:List DV)(hf:∀y∈xs,y.fits 1=true)(hl:xs.length<=1000000):Pure C 114 [.slice false xs] (.tsl 0 0 0) [⟨1,xs,0,0⟩]:=by
 refine ayI xX aK ?_;simp only[xX,aK,RN,B,J];refine⟨fun _=> ?_,fun a b=> ?_⟩
 ·(try simp only[RN,B,F,H,I,J,N])
  exact⟨hf,by simp,by simp,by omega,Aw (k:=1) (A:=⟨1,xs,0,0⟩) rfl rfl (V _) rfl⟩
 ·subst a
  cases b
  ·(try simp only[RN,B,J,N])
   (repeat(refine Z (by first|assumption|rfl|(simp;done)|(simp;omega)) ?_))
   exact Aw (k:=1) (A:=⟨1,[],0,0⟩) rfl rfl (V _) rfl
  ·(try simp only[RN,B,J])
   exact Aw (k:=1) (A:=⟨1,[],0,0⟩) rfl rfl (V _) rfl
def agA (xs:List DV)(hf:∀y∈xs,y.fits 4=true)(hl:xs.length<=1000000):Pure C 204 [.slice false xs] (.tsl 0 0 0) [⟨4,xs,0,0⟩]:=by
 refine ayI lD aK ?_;simp only[lD,aK,RN,B,J];refine⟨fun _=> ?_,fun a b=> ?_⟩
 ·(try simp only[RN,B,F,H,I,J,N])
  exact⟨hf,by simp,by simp,by omega,Aw (k:=1) (A:=⟨4,xs,0,0⟩) rfl rfl (V _) rfl⟩
 ·subst a
  cases b
  ·(try simp only[RN,B,J,N])
   (repeat(refine Z (by first|assumption|rfl|(simp;done)|(simp;omega)) ?_))
   exact Aw (k:=1) (A:=⟨4,[],0,0⟩) rfl rfl (V _) rfl
  ·(try simp only[RN,B,J])
   exact Aw (k:=1) (A:=⟨4,[],0,0⟩) rfl rfl (V _) rfl
def agz (xs:List DV)(hf:∀y∈xs,y.fits 2=true)(hl:xs.length<=1000000)(a:xs≠[]):Pure C 203 [.slice false xs] (.tsl 0 0 0) [⟨2,xs,0,1⟩]:=by
 refine ayI jV aK ?_;simp only[jV,aK,RN,B,J];refine⟨fun _=> ?_,fun b=>absurd b a⟩;exact⟨hf,a,by simp,by omega,Aw (k:=1) (A:=⟨2,xs,0,1⟩) rfl rfl (V _) rfl⟩
def Su.rows (s:Su):List Arr:=[⟨3,s.pc.links.map Lk.dv,0,1⟩,⟨1,s.pc.hands.map ay,0,0⟩,⟨2,s.tg.map Fr.dv,0,1⟩,⟨4,s.fs.map Fs.dv,0,0⟩,⟨1,s.dvd.cir.map ay,0,0⟩,⟨1,s.cal.cy.map ay,0,0⟩]
def Su.pv (s:Su):PV:= .agg [.tsl 0 0 0, .tsl 1 0 0, .tsl 2 0 0,pI s.lim,pI s.dvd.eF, .tsl 4 0 0,pI s.cal.ep, .tsl 5 0 0,pI s.jf.n,pI s.jf.d,pI s.jf.ad, .tsl 3 0 0,pI s.year,pI s.gq,pI s.hours,pI s.lC,pI s.pct]
structure Su.Some (s:Su):Prop where
 l:s.pc.links≠[]/\s.pc.links.length<=1000
 t:s.tg≠[]/\s.tg.length<=1000
 h:s.pc.hands.length<=1000
 f:s.fs.length<=1000
 ci:s.dvd.cir.length<=1000
 cy:s.cal.cy.length<=1000
def vN {l:List Int}:∀y∈l.map ay,DV.fits 1 y=true:=by
 intro y a;simp only[aq]at a;obtain⟨z,_,rfl⟩:=a;rfl
def ZX (s:Su)(hs:s.Some):Pure C 108 [s.dv] s.pv s.rows:=by
 have h1:=WA (s.pc.links.map Lk.dv) (by intro y a;simp only[aq]at a;obtain⟨z,_,rfl⟩:=a;rfl) (by have:=hs.l.2;simp;omega) (by simpa using hs.l.1);have h2:=Dp (s.pc.hands.map ay) vN (by have:=hs.h;simp;omega);have b:=agz (s.tg.map Fr.dv) (by intro y a;simp only[aq]at a;obtain⟨z,_,rfl⟩:=a;rfl) (by have:=hs.t.2;simp;omega) (by simpa using hs.t.1);have c:=agA (s.fs.map Fs.dv) (by intro y a;simp only[aq]at a;obtain⟨z,_,rfl⟩:=a;rfl) (by have:=hs.f;simp;omega);have d:=Dp (s.dvd.cir.map ay) vN (by have:=hs.ci;simp;omega);have e:=Dp (s.cal.cy.map ay) vN (by have:=hs.cy;simp;omega);refine ayI wQ akR ?_;simp only[wQ,akR,gU,RN,B,F,J,N];refine yH rfl rfl h1 (by simp) ?_;simp only[PV.shift,kC,RN,F,N]
 (repeat(refine Z (by first|assumption|rfl|(simp;done)|(simp;omega)) ?_))
 refine yH rfl rfl h2 (by simp) ?_;simp only[PV.shift,kC,bM,dB,RN,F,J,N]
 (repeat(refine Z (by first|assumption|rfl|(simp;done)|(simp;omega)) ?_))
 refine yH rfl rfl b (by simp) ?_;simp only[PV.shift,kC,RN,F,N]
 (repeat(refine Z (by first|assumption|rfl|(simp;done)|(simp;omega)) ?_))
 refine yH rfl rfl c (by simp) ?_;simp only[PV.shift,kC,bM,dB,RN,F,J,N]
 (repeat(refine Z (by first|assumption|rfl|(simp;done)|(simp;omega)) ?_))
 refine yH rfl rfl d (by simp) ?_;simp only[PV.shift,kC,RN,F,N]
 (repeat(refine Z (by first|assumption|rfl|(simp;done)|(simp;omega)) ?_))
 refine yH rfl rfl e (by simp) ?_;simp only[PV.shift,kC,bM,dB,RN,F,N]
 (repeat(refine Z (by first|assumption|rfl|(simp;done)|(simp;omega)) ?_))
 simp only[bI,eP,gI,RN,F];exact⟨[(0,0),(1,0),(2,0),(3,0),(4,0),(5,0)],⟨by simp[Ai],by decide⟩,rfl,rfl⟩
variable{x:DV}
def Xm {C:Ctx}{f:FuncId}{ds:List DV}{r:PV}{a:List Arr}(h:Pure C f ds r a)(hd:datum (rowsOf a) r=some x):Pure C f ds (.d x) []:=by
 intro X w c k n s p;refine(h X w c k n s p).mono fun e u m=> ?_
 obtain⟨v,t,rfl,h2,i,j⟩:=m;have g:Ak (rowsOf a) []:=⟨fun q o=>(by cases o),List.nodup_nil⟩
 exact⟨v,_,rfl,Zh h2 g,Tc i g, .d ((kV (ps:=[r]) h2 j hd (by simp)).weaken fun b l=> .inl (Hy b l))⟩
def aiS (s:Su)(hs:s.Some):Pure C 108 [s.dv] (.d s.dv) []:=Xm (ZX s hs) (by rw[gU];rfl)
def Su.dates (s:Su):List Int:=s.fs.map (kW s.cal s.jf s.year)
def Su.works (s:Su)(n:Int):Bool:=(n+4).tmod 7 !=0&& !s.dates.contains n
def Su.first (s:Su):Int:=s.cal.first s.year.toNat
def Su.dur (s:Su):Nat:=(wH (s.cal.leap s.year)).toNat
def Su.pJ (s:Su)(k:Nat):List (Int×Bool):=(bL k).map fun(i:Nat)=>(s.first+i,s.works (s.first+i))
def Su.days (s:Su):List (Int×Bool):=s.pJ s.dur
def Ac (d:Int×Bool):DV:= .agg [dI d.1, .bool d.2]
def ac8 {d:Int×Bool}:Ac d= .agg [dI d.1, .bool d.2]:=by rw[Ac]
def Z7 (s:Su)(k:Nat):s.pJ (k+1)=s.pJ k++ [(s.first+k,s.works (s.first+k))]:=by simp[Su.pJ,bo]
def Su.facts (h:s.ok=true):s.pc.ok=true/\s.tg.length=s.pc.hands.length/\inR s.lim 0 10800=true/\s.dvd.ok=true/\s.cal.ok=true/\s.jf.ok=true/\jA s.fs=true/\(0<=s.year/\s.year<=4000)/\(s.bil []).ok=true/\∀f∈s.tg,f.ok=true:=by
 simp only[Su.ok,Q,decide_eq_true_eq,aL]at h;obtain⟨⟨⟨⟨⟨⟨h1,h2⟩,b⟩,c⟩,⟨⟨d,e⟩,g⟩,i⟩,j⟩,a⟩:=h;exact⟨h1,h2,b,c,d,e,g,by simpa[inR]using i,j,a⟩
def Pc.xA {p:Pc}(h:p.ok=true):(1<=p.links.length/\p.links.length<=5)/\1<=p.hands.length/\p.hands.length<=4:=by
 simp only[Pc.ok,Q,inR,decide_eq_true_eq]at h;omega
def Su.RH (h:s.ok=true):s.Some:=by
 obtain⟨h1,h2,_,b,c,k,d,_⟩:=Su.facts h;obtain⟨a,f⟩:=Pc.xA h1;obtain⟨_,g,_⟩:=Dvd.TW b;obtain⟨_,i,_⟩:=Cal.facts c;obtain⟨j,_⟩:=tC d;exact⟨⟨fun e=>by rw[e]at a;simp at a,by omega⟩,⟨fun e=>by rw[e]at h2;simp at h2;omega,by omega⟩,by omega,by omega,by omega,by omega⟩
def adq {c:Cal}{y:Int}(hc:c.ok=true)(f:0<=y/\y<=4000):Z5 c ⟨y,1,1⟩= .tup [dI (c.first y.toNat),dI 0]/\Z5 c ⟨y,12,31⟩= .tup [dI (c.first y.toNat+wH (c.leap y) - 1),dI 0]:=by
 have d:inR y 0 4000=true:=by simp[inR];omega
 have b:(c.firsts 4002).getD y.toNat default=c.first y.toNat:=nK c (by omega);constructor
 ·have e:jY c ⟨y,1,1⟩=true:=by cases a:c.leap y<;>simp[jY,a,aY,inR]<;>omega
  rw[Z5,hc,e];simp only[bj,if_true,AU,b];simp[dS]
 ·have e:jY c ⟨y,12,31⟩=true:=by cases a:c.leap y<;>simp[jY,a,aY,inR]<;>omega
  rw[Z5,hc,e];simp only[bj,if_true,AU,b];cases a:c.leap y<;>simp[dS,aY,wH]<;>omega
def ap6 (s:Su)(hs:s.ok=true):Pure C 109 [s.dv] (.d (sF (s.days.map Ac))) []:=by
 obtain⟨h1,h2,K,L,e,v,j,w,M,u⟩:=Su.facts hs;obtain⟨P,Q,R⟩:=Cal.facts e;obtain⟨q,r⟩:=adq e w;have l:=anY s.cal ⟨s.year,1,1⟩ (by omega);have m:=anY s.cal ⟨s.year,12,31⟩ (by omega);have n:=Zx s.cal s.jf false s.fs s.year (by omega);have f:vY s.cal s.jf s.fs s.year= .tup [sF (s.dates.map ay),dI 0]:=by
  rw[vY,e,v,j,show inR s.year 0 4000=true by simp[inR];omega];rfl
 rw[q,fE,pY]at l;rw[r,fE,pY]at m;rw[f,fE,iy]at n;have y:=s.cal.kG s.year.toNat;have hd:wH (s.cal.leap s.year)=s.dur:=by have:=mY (s.cal.leap s.year);unfold Su.dur;split at this<;>omega
 have x:s.dur<=366/\365<=s.dur:=by have:=mY (s.cal.leap s.year);unfold Su.dur;split at this<;>omega
 have o:bS .i64 (s.cal.first s.year.toNat+wH (s.cal.leap s.year) - 1 - s.cal.first s.year.toNat)=(s.dur:Int) - 1:=by rw[aF (by omega)];omega
 have p:bS .i64 ((s.dur:Int) - 1+1)=(s.dur:Int):=by rw[aF (by omega)];omega
 refine bU (ayH zh aK ?_);simp only[zh,aK,gU,RN,B,F,J,N];refine ayG l ?_;(try simp only[RN]);refine ayG m ?_;(try simp only[RN]);refine ayG n ?_;simp only[o,p,RN];have asT:s.dates.length<=6:=by
  have:=(tC j).1;simp[Su.dates];omega
 refine aH s.dur (fun i (_:Unit)=>⟨[(3,pI (s.cal.first s.year.toNat)),(7, .d (sF (s.dates.map ay))),(9, .tsl 1 i 0),(45,pI s.dur),(46,pI i)],
   ⟨[some (s.cs.map .d)],[0],[some ⟨2,[],0,0⟩,some ⟨2,(s.pJ i).map Ac,i,0⟩]⟩⟩)
  (fun _ _=>True) 0 () (V _) (by rw[uS];rfl) trivial (fun i _ c _=> ?_) (fun _ _=> ?_)
 ·obtain⟨t,H,h⟩:=rng c (by omega)
  have A:bS .i64 (s.cal.first s.year.toNat+(i:Int))=s.cal.first s.year.toNat+i:=aF (by omega);have D:bS .i64 (s.cal.first s.year.toNat+(i:Int)+4)=s.cal.first s.year.toNat+i+4:=aF (by omega);have E:0<=(s.cal.first s.year.toNat+(i:Int)+4).tmod 7:=a7 7 (by omega);have G:(s.cal.first s.year.toNat+(i:Int)+4).tmod 7<7:=ao _ (by decide);have S:bS .i64 ((s.cal.first s.year.toNat+(i:Int)+4).tmod 7)=(s.cal.first s.year.toNat+(i:Int)+4).tmod 7:=aF (by omega);have z:¬((7:Int)=0):=by decide
  have b:(s.pJ i).length=i:=by simp[Su.pJ]
  have a:(s.pJ i).map Ac++ [.agg [dI (s.cal.first s.year.toNat+i), .bool (s.works (s.cal.first s.year.toNat+i))]]=(s.pJ (i+1)).map Ac:=by
   rw[Z7,ax];rfl
  simp only[t,A,D,z,RN,B];cases k:((s.cal.first s.year.toNat+(i:Int)+4).tmod 7 !=0)
  ·have g:s.works (s.cal.first s.year.toNat+i)=false:=by rw[Su.works,k];rfl
   rw[g]at a;simp only[h,DV.strip,forall_eq,b,O,RN,B,F,I,J,N]
   (repeat(refine Z (by first|assumption|rfl|(simp;done)|(simp;omega)) ?_))
   refine⟨by omega,?_⟩;rw[a];exact bn (len:=s.dur) (i:=i) () c rfl trivial
  ·have g:s.works (s.cal.first s.year.toNat+i)= !s.dates.contains (s.cal.first s.year.toNat+i):=by rw[Su.works,k];rfl
   rw[g]at a;(try simp only[RN,B,F,N]);refine ak rfl rfl (VH s.dates _ (by omega)) ?_;simp only[h,DV.strip,forall_eq,b,O,RN,B,F,I,J,N]
   (repeat(refine Z (by first|assumption|rfl|(simp;done)|(simp;omega)) ?_))
   refine⟨by omega,?_⟩;rw[a];exact bn (len:=s.dur) (i:=i) () c rfl trivial
 ·simp only[ai,RN,B]
  simp[datum,Mem.row,Su.days]
structure En where
 kind:Int
 ns:List Int
 deriving DecidableEq,Inhabited
def En.dv (x:En):DV:= .agg [dI x.kind,sF (x.ns.map ay)]
def dM {x:En}:x.dv= .agg [dI x.kind,sF (x.ns.map ay)]:=by rw[En.dv]
inductive De where
 |cut (dJ:Int)
 |change (c:Chg)
 |order (hand:Int) (f:Fr)
 |serve (hand kE:Int)
 |set (day:Int)
 |strike (entry:Int)
 deriving DecidableEq,Inhabited
def De.cs:De->DV
 | .cut t=> .agg [.int .i64 t]
 | .change c=> .agg [.int .i64 c.link, .int .i64 c.pr.a, .int .i64 c.pr.b]
 | .order h f=> .agg [.int .i64 h, .int .i64 f.n, .int .i64 f.d]
 | .serve h c=> .agg [.int .i64 h, .int .i64 c]
 | .set d=> .agg [.int .i64 d]
 | .strike e=> .agg [.int .i64 e]
def De.ty:De->TypeId
 | .cut _=>T.fK
 | .change _=>T.bT
 | .order _ _=>T.fC
 | .serve _ _=>T.dW
 | .set _=>T.fM
 | .strike _=>T.bK
def De.dv (x:De):DV:= .iface x.ty x.cs
def jc (k:Int):Nat:=if k=2\/k=3 then 3 else if k=4 then 2 else 1
def En.n (x:En)(i:Nat):Int:=x.ns.getD i default
def En.deed (x:En):De:=
 if x.kind=1 then .cut (x.n 0)else if x.kind=2 then .change ⟨x.n 0,⟨x.n 1,x.n 2⟩⟩else if x.kind=3 then .order (x.n 0) ⟨x.n 1,x.n 2⟩else if x.kind=4 then .serve (x.n 0) (x.n 1)else if x.kind=5 then .set (x.n 0)else .strike (x.n 0)
variable{base:Nat}{M:Mem}{K:PV->Mem->Prop}{KP:DV->Mem->Prop}
def LJ {C:Ctx}{t:TypeId}:au C base (.mkI t) [.d x] M K KP=K (.d (.iface t x)) M:=by
 have:=FV (M:=M) (ds:=[x]);simp only[av,aE]at this;simp only[au,datum,this]
def SB (x:En)(h:jc x.kind<=x.ns.length):Pure C 111 [x.dv] (.d x.deed.dv) []:=by
 have l:(0:Int)<=1:=by omega
 have m:(0:Int)<=2:=by omega
 refine ayF wR aK ?_;simp only[wR,aK,dM,RN,B,F,N]
 by_cases h1:x.kind=1
 ·have b:(x.kind==1)=true:=by simp[h1]
  have a:0<x.ns.length:=by simp[jc,h1]at h;omega
  simp only[b,j0,t0,a,O,getD_map,aI,LJ,RN,B,N];simp only[De.dv,En.deed,h1,if_true,De.ty,De.cs,En.n]
 have b:(x.kind==1)=false:=by simp[h1]
 by_cases h2:x.kind=2
 ·have c:(x.kind==2)=true:=by simp[h2]
  have a:0<x.ns.length/\1<x.ns.length/\2<x.ns.length:=by simp[jc,h2]at h;omega
  simp only[b,c,j0,l,m,t0,t1,t2,a.1,a.2.1,a.2.2,O,getD_map,aI,LJ,RN,B,F,N];simp only[De.dv,En.deed,h2,if_true,De.ty,De.cs,En.n]
  rfl
 have c:(x.kind==2)=false:=by simp[h2]
 by_cases e:x.kind=3
 ·have g:(x.kind==3)=true:=by simp[e]
  have a:0<x.ns.length/\1<x.ns.length/\2<x.ns.length:=by simp[jc,e]at h;omega
  simp only[b,c,g,j0,l,m,t0,t1,t2,a.1,a.2.1,a.2.2,O,getD_map,aI,LJ,RN,B,F,N];simp only[De.dv,En.deed,e,if_true,De.ty,De.cs,En.n]
  rfl
 have g:(x.kind==3)=false:=by simp[e]
 by_cases f:x.kind=4
 ·have i:(x.kind==4)=true:=by simp[f]
  have a:0<x.ns.length/\1<x.ns.length:=by simp[jc,f]at h;omega
  simp only[b,c,g,i,j0,l,t0,t1,a.1,a.2,O,getD_map,aI,LJ,RN,B,F,N];simp only[De.dv,En.deed,f,if_true,De.ty,De.cs,En.n]
  rfl
 have i:(x.kind==4)=false:=by simp[f]
 have a:0<x.ns.length:=by simp[jc,h2,e,f]at h;omega
 by_cases j:x.kind=5
 ·have k:(x.kind==5)=true:=by simp[j]
  simp only[b,c,g,i,k,j0,t0,a,O,getD_map,aI,LJ,RN,B,N];simp only[De.dv,En.deed,j,if_true,De.ty,De.cs,En.n]
  rfl
 have k:(x.kind==5)=false:=by simp[j]
 simp only[b,c,g,i,k,j0,t0,a,O,getD_map,aI,LJ,RN,B,N];simp only[De.dv,En.deed,h1,h2,e,f,j,if_false,De.ty,De.cs,En.n]
structure Sp where
 pc:Pc
 tg:List Fr
 eH:List Int
 op:List (Int×Fr)
 kE:Int
 sets:List Int
 deriving DecidableEq,Inhabited
def opD (l:List (Int×Fr)):List (DV×DV):=l.map fun p=>(dI p.1,p.2.dv)
def Sp.cells (a b:Bool)(s:Su)(t:Sp):List DV:=[sF (t.pc.links.map Lk.dv),sF (t.pc.hands.map ay),sF (t.tg.map Fr.dv),dI s.lim,dI s.dvd.eF,sF (s.dvd.cir.map ay),dI s.cal.ep,sF (s.cal.cy.map ay),dI s.jf.n,dI s.jf.d,dI s.jf.ad,sF (s.fs.map Fs.dv),dI s.year,dI s.gq,dI s.hours,dI s.lC,dI s.pct,
 sF (s.days.map Ac), .slice a (t.eH.map ay), .map (some (opD t.op)),dI t.kE, .slice b (t.sets.map ay)]
def cO {a b:Bool}{t:Sp}:t.cells a b s=[sF (t.pc.links.map Lk.dv),sF (t.pc.hands.map ay),sF (t.tg.map Fr.dv),dI s.lim,dI s.dvd.eF,sF (s.dvd.cir.map ay),dI s.cal.ep,sF (s.cal.cy.map ay),dI s.jf.n,dI s.jf.d,dI s.jf.ad,sF (s.fs.map Fs.dv),dI s.year,dI s.gq,dI s.hours,dI s.lC,dI s.pct,
 sF (s.days.map Ac), .slice a (t.eH.map ay), .map (some (opD t.op)),dI t.kE, .slice b (t.sets.map ay)]:=by rw[Sp.cells]
def TD (s:Su)(t:Sp)(hand:Int)(f:Fr)(turns:Int):Bool:=inR (rG t.pc hand f turns).1 (-s.lim) s.lim
def ajM (b c:Bool)(s:Su)(t:Sp)(hand:Int)(f:Fr)(turns:Int)(hl:t.pc.links.length<=1000)(hh:t.pc.hands.length<=1000)(g:0<=s.lim/\s.lim<=10800):Pure C 172 [.aW (t.cells b c s),dI hand,f.dv,dI turns] (.d (.bool (TD s t hand f turns))) []:=by
 have a:=ae3 t.pc hl hh hand f turns;rw[dZ,bW]at a;have e:bS .i64 (0 - s.lim)= -s.lim:=by rw[aF (by omega)];omega
 refine ayF qO Bz ?_;simp only[qO,Bz,cO,bW,RN,B,F,N];refine ayG a ?_;simp only[e,RN];refine ayG (Ah _ _ _) ?_;simp only[TD]
def cZ (l:List Pr):List Int:=l.flatMap fun p=>[p.a,p.b]
def Ec (s:Su)(t:Sp)(hand:Nat):Int:=(s.bil (cZ (bg t.pc.links (t.pc.hands.getD hand default).toNat))).VB.1
def qp (l:List Pr):(cZ l).length=2*l.length:=by
 induction l with
 |nil=>rfl
 |cons x l a=>simp only[cZ,List.flatMap_cons,List.length_append,bz,List.length_nil]at a⊢;omega
def Lh {C:Ctx}{z1 c:DV}{k k':IntKind}{a b:Int}:au C base (.gu 1 [z1,c] [0,1]) [.d (.int k a), .d (.int k' b)] M K KP=K (.d (.slice true [.int k a, .int k' b])) M:=by
 have:=FV (M:=M) (ds:=[DV.int k a, .int k' b]);simp only[av,aE]at this;simp[au,dF,datum,wI,this,DV.strip,DV.cells]
def prC:Nat->PV
 |0=> .d (.slice true [])
 |i+1=> .tsl 0 i 0
def prA (l:List Pr):Nat->List (Option Arr)
 |0=>[]
 |i+1=>[some ⟨1,(cZ (l.take (i+1))).map ay,i,0⟩]
def akm (s:Su)(l:List Pr)(i:Nat):St:=
 ⟨[(7, .ptr 0 0),(52, .d (sF (l.map Pr.dv))),(53,pI l.length),(54,pI i)],
  ⟨[some [prC i,pI s.gq,pI s.hours,pI s.lC,pI s.pct,pI 0]],[],prA l i⟩⟩
def afw (v w:Bool)(s:Su)(t:Sp)(hand:Nat)(j:t.pc.ok=true)(hh:hand<t.pc.hands.length):Pure C 167 [.aW (t.cells v w s),dI hand] (pI (Ec s t hand)) []:=by
 have x:1<=t.pc.hands.getD hand default/\t.pc.hands.getD hand default<=t.pc.links.length:=by
  simp only[Pc.ok,Q,aL]at j;have:=j.2 _ (getD_mem hh)
  simpa[inR]using this
 obtain⟨a,r⟩:∃a:Nat,t.pc.hands.getD hand default=a:=⟨(t.pc.hands.getD hand default).toNat,by omega⟩
 have u:=alK t.pc j a (by omega) (by omega);rw[dZ]at u;have j0:(0:Int)<=(hand:Int):=by omega
 refine ayF pq aJ ?_;simp only[pq,aJ,cO,j0,S,hh,O,getD_map,aI,r,RN,B,F,H,N];refine ayG u ?_;simp only[O,RN,F,N];obtain⟨l,k⟩:∃l,l=bg t.pc.links a:=⟨_,rfl⟩
 have z:l.length<=3:=by rw[k,bg,O];exact(Pc.good j).short a (by omega)
 have c:=aij (s.bil (cZ l)) (by simp only[Su.bil,qp];omega);rw[JI]at c;have g:Ec s t hand=(s.bil (cZ l)).VB.1:=by rw[Ec,r,k];rfl
 simp only[<-k];refine aH l.length (fun i (_:Unit)=>akm s l i) (fun _ _=>True) 0 () (V _) rfl trivial (fun i _ e _=> ?_) (fun _ _=> ?_)
 ·obtain⟨o,p,q⟩:=rng e (by omega)
  have h:(cZ (l.take i)).map ay++ [dI (l.getD i default).a,dI (l.getD i default).b]=(cZ (l.take (i+1))).map ay:=by
   rw[aS e];simp[cZ,ay]
  have m:((cZ (l.take i)).map ay).length<=2000000:=by simp only[O,qp,bA];omega
  rcases i with _|i
  ·have ar8:[dI (l.getD 0 default).a,dI (l.getD 0 default).b]=(cZ (l.take (0+1))).map ay:=by simpa[cZ]using h
   simp only[akm,prC,prA,o,p,e,O,getD_map,S,jJ,Lh,bM,dB,RN,B,F,I,J,N];refine⟨by rintro y (rfl|rfl)<;>rfl,by simp,by simp,?_⟩;rw[ar8,q];exact jv 1 1 () e rfl trivial (by simp) (by simp) rfl rfl
  ·simp only[akm,prC,prA,o,p,e,O,getD_map,S,jJ,Lh,bM,dB,RN,B,F,I,J,N]
   refine⟨by rintro y (rfl|rfl)<;>rfl,by simp,?_⟩
   (repeat(refine Z (by first|assumption|rfl|(simp;done)|(simp;omega)) ?_))
   rw[h,q];refine⟨by simpa using bc m (by decide),?_⟩;exact jv 1 1 () e rfl trivial (by simp) (by simp) rfl rfl
 ·rcases hln:l.length with _|i
  ·have f:l=[]:=List.eq_nil_of_length_eq_zero hln
   subst f;simp only[akm,prC,prA,ai,RN,B,F,N];refine kS (La rfl) rfl c rfl ?_;simp only[g,RN]
  ·have n:l.take (i+1)=l:=by rw[<-hln,bB]
   simp only[akm,prC,prA,hln,ai,n,bI,eP,RN,B,F,N];refine kS (La (d:= .agg [sF ((cZ l).map ay),dI s.gq,dI s.hours,dI s.lC,dI s.pct,dI 0]) (by simp[datum,cu,fA,Mem.row])) rfl c rfl ?_;simp only[g,RN]
def slR (W:Bool)(c:PV)(xs:List DV)(ar:List (Option Arr)):Prop:=
 (c= .d (.slice true [])/\xs=[])\/∃k ver st,c= .tsl k ver 0/\ar[k]?=some (some ⟨1,xs,ver,st⟩)/\st≠2/\(W=true->st=1\/xs=[])
def kOf:PV->Option Nat| .tsl k _ _=>some k| _=>none
def iG (s:Su)(a mb:Nat)(cst cse:PV)(kE:Int):List PV:=[.tsl a 0 0, .tsl (a+1) 0 0, .tsl (a+2) 0 0,pI s.lim,pI s.dvd.eF, .tsl (a+4) 0 0,pI s.cal.ep, .tsl (a+5) 0 0,pI s.jf.n,pI s.jf.d,pI s.jf.ad, .tsl (a+3) 0 0,pI s.year,pI s.gq,pI s.hours,pI s.lC,pI s.pct, .d (sF (s.days.map Ac)),cst, .mref mb,pI kE,cse]
structure gy (s:Su) (a b mb:Nat) (cst cse:PV) (t:Sp) (M:Mem):Prop where
 box:M.boxes[b]?=some (some (iG s a mb cst cse t.kE))
 map:M.boxes[mb]?=some (some [.iW (opD t.op)])
 r0:M.aB[a]?=some (some ⟨3,t.pc.links.map Lk.dv,0,1⟩)
 r1:M.aB[a+1]?=some (some ⟨1,t.pc.hands.map ay,0,0⟩)
 r2:M.aB[a+2]?=some (some ⟨2,t.tg.map Fr.dv,0,1⟩)
 r3:M.aB[a+3]?=some (some ⟨4,s.fs.map Fs.dv,0,0⟩)
 r4:M.aB[a+4]?=some (some ⟨1,s.dvd.cir.map ay,0,0⟩)
 r5:M.aB[a+5]?=some (some ⟨1,s.cal.cy.map ay,0,0⟩)
 stk:slR true cst (t.eH.map ay) M.aB
 set:slR false cse (t.sets.map ay) M.aB
 kst:∀k,kOf cst=some k->a+6<=k
 kse:∀k,kOf cse=some k->a+6<=k
 dif:∀k,kOf cst=some k->kOf cse≠some k
 nb:b∉M.fz
 nm:mb∉M.fz
 bm:b≠mb
 fzb:∀i∈M.fz,i<M.boxes.length
structure FrS (a b mb:Nat) (M M':Mem):Prop where
 len:M.boxes.length<=M'.boxes.length
 bH:M.aB.length<=M'.aB.length
 box:∀i,i<M.boxes.length->i≠b->i≠mb->M'.boxes[i]?=M.boxes[i]?
 fz:∀i,i<M.boxes.length->(i∈M'.fz↔i∈M.fz)
 row:∀k,k<a->M'.aB[k]?=M.aB[k]?
 fzb:FzB M->FzB M'
def FrS.trans {a b mb:Nat}{M M' c:Mem}(h:FrS a b mb M M')(h':FrS a b mb M' c):FrS a b mb M c:=
 ⟨bc h.len h'.len,bc h.bH h'.bH,fun i d h1 h2=>(h'.box i (bv d h.len) h1 h2).trans (h.box i d h1 h2),fun i d=>(h'.fz i (bv d h.len)).trans (h.fz i d),fun k f=>(h'.row k f).trans (h.row k f),fun e=>h'.fzb (h.fzb e)⟩
def aik:Prop:=∀(k ver i:Nat) (zs:List Int) (bs:List (Option (List PV))) (fz:List Nat) (ar:List (Option Arr)) (K:PV->Mem->Prop) (KP:DV->Mem->Prop),ar[k]?=some (some ⟨1,zs.map ay,ver,1⟩)->i<zs.length->
 K (.tsl k (ver+1) 0) ⟨bs,fz,ar.set k (some ⟨1,(zs.take i++zs.drop (i+1)).map ay,ver+1,1⟩)⟩->SC C 271 [.tsl k ver 0,pI i,pI (i+1:Nat)] ⟨bs,fz,ar⟩ K KP
def aat (v:Int):∀(xs:List Int) (i:Nat),(idx v xs i= -1/\v∉xs)\/∃n,idx v xs i=((i+n:Nat):Int)/\n<xs.length/\xs.take n++xs.drop (n+1)=xs.erase v/\v∈xs
 | [],i=> .inl ⟨rfl,by simp⟩
 |x::xs,i=>by
  rw[idx]
  by_cases h:v=x
  ·subst h
   exact .inr ⟨0,by simp,by simp,by simp,by simp⟩
  ·rcases aat v xs (i+1)with⟨h1,h2⟩|⟨n,h1,h2,a,b⟩
   ·refine .inl ⟨by simp[h,h1],by simp[h,h2]⟩
   ·refine .inr ⟨n+1,by simp[h,h1];omega,by simp;omega,?_,by simp[b]⟩
    have c:¬(x==v)=true:=by simp;exact fun e=>h e.symm
    rw[List.erase_cons_tail c,<-a];simp
variable{W:Bool}{c:PV}{xs:List DV}{bs:List (Option (List PV))}{fz:List Nat}{ar:List (Option Arr)}
def ahV (h:slR W c xs ar):∃ex,datum ⟨bs,fz,ar⟩ c=some (.slice ex xs):=by
 rcases h with⟨rfl,rfl⟩|⟨k,ver,st,rfl,h,_⟩
 ·exact⟨true,rfl⟩
 ·exact⟨false,by simp[datum,Mem.row,h]⟩
def Ig (h:slR W c xs ar):PV.one c=true/\PV.cells c=[c]/\c.qZ=false:=by
 rcases h with⟨rfl,rfl⟩|⟨k,ver,st,rfl,_⟩<;>exact⟨rfl,rfl,rfl⟩
variable{ar':List (Option Arr)}
def qR (h:slR W c xs ar)(hk:∀k A,kOf c=some k->ar[k]?=some (some A)->ar'[k]?=some (some A)):slR W c xs ar':=by
 rcases h with⟨rfl,rfl⟩|⟨k,ver,st,rfl,h1,h2⟩
 ·exact .inl ⟨rfl,rfl⟩
 ·exact .inr ⟨k,ver,st,rfl,hk _ _ rfl h1,h2⟩
def gy.TP {a b mb:Nat}{cst cse:PV}{t:Sp}(h:gy s a b mb cst cse t ⟨bs,fz,ar⟩){k ver st:Nat}{xs:List Int}(hk:a+6<=k)(hd:kOf cse≠some k)
  (h1:ar'[k]?=some (some ⟨1,xs.map ay,ver,st⟩))(h2:∀j,j≠k->j<ar.length->ar'[j]?=ar[j]?)(hl:ar.length<=ar'.length)(f:st≠2/\(st=1\/xs=[])):
  gy s a b mb (.tsl k ver 0) cse {t with eH:=xs} ⟨bs.set b (some (iG s a mb (.tsl k ver 0) cse t.kE)),fz,ar'⟩/\FrS a b mb ⟨bs,fz,ar⟩ ⟨bs.set b (some (iG s a mb (.tsl k ver 0) cse t.kE)),fz,ar'⟩:=by
 have l:b<bs.length:=(U.1 h.box).1;have d:∀(j:Nat) (A:Arr),j≠k->ar[j]?=some (some A)->ar'[j]?=some (some A):=fun j A c g=>by
  rw[h2 j c (U.1 g).1];exact g
 constructor
 ·exact
  {box:=by simp[l]
   map:=by
    have:=h.map;have o:=h.bm;simp only at this⊢;rw[ap o];exact this
   r0:=d _ _ (by omega) h.r0
   r1:=d _ _ (by omega) h.r1
   r2:=d _ _ (by omega) h.r2
   r3:=d _ _ (by omega) h.r3
   r4:=d _ _ (by omega) h.r4
   r5:=d _ _ (by omega) h.r5
   stk:= .inr ⟨k,ver,st,rfl,h1,f.1,fun _=>f.2.imp id fun e=>by simp[e]⟩
   set:=qR h.set fun j A c g=>d j A (fun e=>hd (e▸c)) g
   kst:=fun j c=>by cases c;exact hk
   kse:=h.kse
   dif:=fun j c=>by cases c;exact hd
   nb:=h.nb
   nm:=h.nm
   bm:=h.bm
   fzb:=fun i m=>by simpa using h.fzb i m}
 ·exact
  {len:=by simp
   fzb:=fun q i m=>by have:=q i m;simpa using this
   bH:=hl
   box:=fun i _ p _=>by simp only;rw[ap (Ne.symm p)]
   fz:=fun _ _=>Iff.rfl
   row:=fun j c=>by
    by_cases n:j<ar.length
    ·exact h2 j (by omega) n
    ·exact absurd (U.1 h.r0).1 (by simp only;omega)}
def afL (f:aik){s:Su}{a b mb:Nat}{cst cse:PV}{t:Sp}{M:Mem}(h:gy s a b mb cst cse t M)(v:Int)(hl:t.eH.length<=1000000):
  SC C 209 [.ptr b 0,pI v] M (fun p M'=>(v∉t.eH/\p= .d (.bool false)/\M'=M)\/(v∈t.eH/\p= .d (.bool true)/\∃sH,gy s a b mb sH cse {t with eH:=t.eH.erase v} M'/\FrS a b mb M M'/\kOf sH=kOf cst/\(∃k ver,sH= .tsl k ver 0/\M'.aB[k]?=some (some ⟨1,(t.eH.erase v).map ay,ver,1⟩))/\∀k,kOf cst≠some k->M'.aB[k]?=M.aB[k]?)) (fun _ _=>False):=by
 obtain⟨bs,fz,ar⟩:=M;have c:=h.box;rw[iG]at c;have i:=h.nb;simp only at c i;obtain⟨H,I,J⟩:=Ig h.stk;obtain⟨ex,q⟩:=ahV (bs:=bs) (fz:=fz) h.stk;refine ayH qP aJ ?_;simp only[qP,aJ,c,RN,B,F,N];refine kS (sU q) rfl (Tz t.eH v hl) rfl ?_
 rcases aat v t.eH 0 with⟨h1,h2⟩|⟨n,h1,h2,D,o⟩
 ·have w:idx v t.eH 0<0:=by omega
  simp only[w,RN,B];exact .inl h2
 ·have w:¬(n:Int)<0:=by omega
  have x:bS .i64 ((n:Int)+1)=((n+1:Nat):Int):=by rw[aF (by omega)];omega
  have y:idx v t.eH 0=(n:Int):=by omega
  have l:t.eH≠[]:=fun e=>by rw[e]at o;cases o
  rcases h.stk with⟨_,m⟩|⟨k,ver,st,rfl,m,G,E⟩
  ·exact absurd (by simpa using m) l
  ·have u:st=1:=(E rfl).resolve_right (by simpa using l)
   subst u;simp only[w,c,x,y,RN,B,F,N];refine f k ver n t.eH _ _ _ _ _ m h2 ?_;simp only[c,i,bM,dB,RN,F,N];rw[D];have g:k<ar.length:=(U.1 m).1;obtain⟨z,A⟩:=h.TP (k:=k) (ver:=ver+1) (st:=1) (xs:=t.eH.erase v) (ar':=ar.set k (some ⟨1,(t.eH.erase v).map ay,ver+1,1⟩)) (h.kst k rfl) (h.dif k rfl) (by simp[g]) (fun j r _=>ap (Ne.symm r)) (by simp) ⟨by decide, .inl rfl⟩;exact .inr ⟨o,_,z,A,rfl,⟨k,_,rfl,by simp[g]⟩,fun j r=>ap (fun e=>r (by rw[e];rfl))⟩
end Go.Tel
