/-
  Part 5 of a law of desks.
  Conditions: none.
-/
import Derived.Test.YtbefoehadfnkbaaGreatDoorJourneymanCopiesM04
set_option linter.all false
set_option maxRecDepth 10000
set_option maxHeartbeats 4000000
open Nat renaming reduceBEq->F,reduceAdd->H,reduceSub->I,reduceEqDiff->J,reduceLT->N,reduceLeDiff->O,zero_le->V,le_trans->aS,le_refl->aV
open List renaming length_map->Q,getD_eq_getElem?_getD->aj,getElem?_append_left->ak,getElem?_eq_some_iff->am,mem_map->an,all_eq_true->aq,map_cons->au,mem_cons->av,map_append->aw,map_nil->ay,drop_length->az,mem_of_mem_take->aB,take_succ_cons->aD,take_length->aI,range->aK,take_of_length_le->aL,range_succ->aM,drop_zero->aO,take_zero->aP,all_cons->aQ,getElem?_set->aR,length_cons->aT,length_take->aU,drop_nil->aY
open Bool renaming and_eq_true->S,false_eq_true->ae,and_self->aG,false_and->aW,true_and->aX
open Int renaming toNat_natCast->U,lt_irrefl->ab,lt_of_mul_lt_mul_right->ah,mul_le_mul->ai,mul_nonneg->ao,tmod_lt_of_pos->ap,add_mul->ax,le_refl->aA,tmod_nonneg->aC,natCast_zero->aH,mul_tdiv_add_tmod->aN,sub_mul->aZ
open And renaming intro->W
open Option renaming map_none->Z,isSome_none->aE,isSome_some->aF,getD_some->aJ
open Go.IntKind renaming wrap->a7
namespace Go.Tel
open Go.Am
structure Bil where
 aow:List Int
 ao2:Int
 hours:Int
 aqJ:Int
 pct:Int
 adv:Int
 deriving DecidableEq,Inhabited
def Bil.dv (b:Bil):DV:= .agg [sF (b.aow.map anF),dI b.ao2,dI b.hours,dI b.aqJ,dI b.pct,dI b.adv]
variable{b:Bil}
def aAY:b.dv= .agg [sF (b.aow.map anF),dI b.ao2,dI b.hours,dI b.aqJ,dI b.pct,dI b.adv]:=by rw[Bil.dv]
def Bil.ok (b:Bil):Bool:=ati b.aow&&inR b.ao2 0 1000&&inR b.hours 0 40&&inR b.aqJ 0 100&&inR b.pct 0 100&&inR b.adv 0 1000000
def Bil.cost (b:Bil):Int:=upI (aoA (b.aow.map fun n=>n*n) 0*b.ao2) 100+b.hours*b.aqJ
def Bil.price (b:Bil):Int:=b.cost+upI (b.cost*b.pct) 100
def Bil.aHj (b:Bil):Int×Int×Int:=if b.ok then(b.price,b.price - b.adv,0)else(0,0,2)
def Bil.facts (h:b.ok=true):(b.aow.length<=8/\∀n∈b.aow,4<=n/\n<=60)/\(0<=b.ao2/\b.ao2<=1000)/\(0<=b.hours/\b.hours<=40)/\(0<=b.aqJ/\b.aqJ<=100)/\(0<=b.pct/\b.pct<=100)/\0<=b.adv/\b.adv<=1000000:=by
 simp only[Bil.ok,ati,anP,inR,S,decide_eq_true_eq,aq,ge_iff_le]at h;obtain⟨⟨⟨⟨⟨⟨h1,h2⟩,a⟩,c⟩,d⟩,e⟩,f⟩:=h;exact⟨⟨by omega,h2⟩,a,c,d,e,f⟩
def aN1 {a:Int}(b:0<=a):0<=upI a 100/\upI a 100<=a+99:=by
 have:upI a 100=(a+99) / 100:=by
  rw[upI,Int.tdiv_eq_ediv_of_nonneg (by omega)]
  congr 1
  omega
 rw[this];omega
def Bil.bds (h:b.ok=true):(0<=aoA (b.aow.map fun n=>n*n) 0/\aoA (b.aow.map fun n=>n*n) 0<=28800)/\(0<=aoA (b.aow.map fun n=>n*n) 0*b.ao2/\aoA (b.aow.map fun n=>n*n) 0*b.ao2<=28800000)/\
  (0<=b.hours*b.aqJ/\b.hours*b.aqJ<=4000)/\(0<=b.cost/\b.cost<=28805000)/\0<=b.cost*b.pct/\b.cost*b.pct<=2880500000:=by
 obtain⟨⟨h1,h2⟩,d,e,f,g,m⟩:=Bil.facts h;have s:=aOR (B:=3600) (b.aow.map fun n=>n*n) 0 (fun x k=>by
  obtain⟨n,j,rfl⟩:=an.1 k;obtain⟨a,c⟩:=h2 n j;have:=ai c c (by omega) (by omega);have:=ao (show 0<=n by omega) (show 0<=n by omega);omega) (aA 0)
 rw[Q]at s;have o:=ai (show aoA (b.aow.map fun n=>n*n) 0<=28800 by omega) d.2 (by omega) (by omega);have l:=ao s.1 d.1;have p:=ai e.2 f.2 (by omega) (by omega);have q:=ao e.1 f.1;have u:=aN1 l;have i:0<=b.cost/\b.cost<=28805000:=by simp only[Bil.cost];omega
 have r:=ai i.2 g.2 (by omega) (by omega);have t:=ao i.1 g.1;omega
def aQ4 (b:Bil)(hl:b.aow.length<=1000000):Pure C 29 [b.dv] (.d (.tup [dI b.aHj.1,dI b.aHj.2.1,dI b.aHj.2.2])) []:=by
 refine am6 aCt aOJ ?_;simp only[aCt,aOJ,aAY,RN,F,H,O]
 repeat' first
  |(refine anE (aL5 b.aow hl) ?_;try simp only[RN])
  |(refine anE (azJ _ _ _) ?_;try simp only[RN])
  |(refine an7 (by rfl) (fun g=> ?_) (fun g=> ?_)<;>simp only[g,RN,F,H,O])
  |(refine aob (by rfl) (fun g=> ?_) (fun g=> ?_)<;>simp only[g,RN,F,H,N,O])
 any_goals (simp_all[Bil.aHj,Bil.ok];done)
 have f:b.ok=true:=by simp_all[Bil.ok]
 obtain⟨⟨h1,h2⟩,z,A,B,D,E⟩:=Bil.facts f;obtain⟨K,w,L,M,y⟩:=Bil.bds f;simp only[Q];refine anL b.aow.length (fun i (v:Nat)=>⟨[(1, .d (.anY [sF (b.aow.map anF),dI b.ao2,dI b.hours,dI b.aqJ,dI b.pct,dI b.adv])),(5, .tsl 0 v 0),(45, .d (sF (b.aow.map anF))),(46,pI b.aow.length),(47,pI i)],
   ⟨[some [.d (sF (b.aow.map anF)),pI b.ao2,pI b.hours,pI b.aqJ,pI b.pct,pI b.adv]],[0],[some ⟨1,((b.aow.take i).map fun n=>n*n).map anF,v,0⟩]⟩⟩)
  (fun i v=>True) 0 0 (V _) rfl trivial (fun i v e _=> ?_) (fun v _=> ?_)
 ·obtain⟨t,u,k6⟩:=rng e (by omega)
  obtain⟨t1,t2⟩:=h2 _ (getD_mem e);have G:=ai t2 t2 (by omega) (by omega);have I:=ao (show 0<=b.aow.getD i default by omega) (show 0<=b.aow.getD i default by omega);have h:a7 .i64 (b.aow.getD i default*b.aow.getD i default)=b.aow.getD i default*b.aow.getD i default:=anI (by omega);have j:(b.aow.take i).length<=1073741823:=by simp;omega
  simp only[t,u,e,k6,anM,getD_map,U,Q,h,ao8,DV.strip,fits_int,forall_eq,RN,F,J,N,O]
  (repeat(refine W (by first|assumption|rfl|(simp;done)|(simp;omega)) ?_))
  refine ao7 1 1 (v+1) e ?_ trivial (by simp) (by simp) rfl rfl;rw[anR e];simp[anF]
 ·rw[aI]
  have r:=aYB (b.aow.map fun n=>n*n) (by simp;omega) (fun x s=>by
   obtain⟨n,q,rfl⟩:=an.1 s;obtain⟨a,c⟩:=h2 n q;exact ao (by omega) (by omega)) (by omega)
  have P:=aN1 w.1;have R:=aN1 y.1;have h:a7 .i64 (aoA (b.aow.map fun n=>n*n) 0*b.ao2)=aoA (b.aow.map fun n=>n*n) 0*b.ao2:=anI (by omega);have k:a7 .i64 (b.hours*b.aqJ)=b.hours*b.aqJ:=anI (by omega);have l:a7 .i64 (upI (aoA (b.aow.map fun n=>n*n) 0*b.ao2) 100+b.hours*b.aqJ)=b.cost:=by rw[anI (by omega)];rfl
  have m:a7 .i64 (b.cost*b.pct)=b.cost*b.pct:=anI (by omega);have o:a7 .i64 (b.cost+upI (b.cost*b.pct) 100)=b.price:=by rw[anI (by omega)];rfl
  have p:a7 .i64 (b.price - b.adv)=b.price - b.adv:=anI (by simp only[Bil.price];omega);simp only[ab,RN,F,H,O];refine aE6 rfl r rfl ?_;simp only[h,RN];refine aoQ rfl rfl (aWP _ _ (by omega) (by omega)) ?_;simp only[k,l,RN];simp only[m];refine aoQ rfl rfl (aWP _ _ (by omega) (by omega)) ?_;simp only[o,p,RN];simp[Bil.aHj,f]
def aqZ (p:Pc):List Fr:=⟨1,1⟩::(aK p.links.length).map fun i=>aod (anX p.links (i+1))
def aui (p:Pc):List Bool:=true::(aK p.links.length).map fun i=>((anX p.links (i+1)).length:Int).tmod 2==0
def aUi (p:Pc)(k:p.ok=true):Pure C 26 [p.dv] (.d (.tup [sF ((aqZ p).map Fr.dv),sF ((aui p).map .bool),dI 0])) []:=by
 have c:=Pc.good k;have r:=c.l2;have q:=c.h2;have j:=auK p (by omega) (by omega);have l:=fun(a:Nat) n o=>aDG p c.lk (by omega) a o n
 refine an9 (anJ aAy aOJ ?_);simp only[aot]at j l;simp only[aAy,aOJ,aot,RN,F,H,N,O];refine anE j ?_;simp only[k,azV (x:= .agg [dI 1,dI 1]) (sz:=2) rfl (by decide),azV (x:= .bool true) (sz:=1) rfl (by decide),DV.strip,Q,RN,F,H,O];refine anL p.links.length (fun i (v:Nat)=>⟨[(1, .d (.anY [sF (p.links.map Lk.dv),sF (p.hands.map anF)])),(5, .tsl 2 v 0),(6, .tsl 3 v 0),(19,pI p.links.length),(20,pI i)],
   ⟨[some [.d (sF (p.links.map Lk.dv)), .d (sF (p.hands.map anF))]],[0],[some ⟨2,[],0,0⟩,some ⟨1,[],0,0⟩,some ⟨2,((aqZ p).take (i+1)).map Fr.dv,v,1⟩,some ⟨1,((aui p).take (i+1)).map .bool,v,1⟩]⟩⟩)
  (fun i v=>True) 0 0 (V _) rfl trivial (fun i v h1 _=> ?_) (fun v _=> ?_)
 ·obtain⟨h2,s,h⟩:=rng h1 (by omega)
  have b:=c.aZS (a:=i+1) (by omega) (by omega);obtain⟨_,t2,t⟩:=aw9 b;have e:=aUn (anX p.links (i+1)) (by omega);have m:aBm (anX p.links (i+1))=(aod (anX p.links (i+1)),((anX p.links (i+1)).length:Int).tmod 2==0,0):=by simp[aBm,b]
  rw[m]at e;simp only[aoa]at e;have f:(aqZ p).take (i+1+1)=(aqZ p).take (i+1)++ [aod (anX p.links (i+1))]:=by
   rw[anR (by simp[aqZ];omega)];congr 1;simp[aqZ,aj,h1]
  have g:(aui p).take (i+1+1)=(aui p).take (i+1)++ [((anX p.links (i+1)).length:Int).tmod 2==0]:=by
   rw[anR (by simp[aui];omega)];congr 1;simp[aui,aj,h1]
  have l1:((aqZ p).take (i+1)).length<=1073741823:=by simp[aqZ];omega
  have l2:((aui p).take (i+1)).length<=1073741823:=by simp[aui];omega
  simp only[h2,h,RN,F,H,O];refine aoQ rfl rfl (l (i+1) (by omega) (by omega)) ?_;refine anE e ?_;simp only[ao8,DV.strip,aBC,forall_eq,h,Q,aAV,RN,F,H,J,N,O]
  (repeat(refine W (by first|assumption|rfl|(simp;done)|(simp;omega)) ?_))
  refine ao7 1 4 (v+1) h1 ?_ trivial (by simp) (by simp) rfl rfl;rw[f,g];simp[aoa]
 ·have r1:(aqZ p).take (p.links.length+1)=aqZ p:=aL (by simp[aqZ])
  have r2:(aui p).take (p.links.length+1)=aui p:=aL (by simp[aui]);rw[r1,r2];simp only[ab,an6,aoz,RN,F];simp[datum,aoi,aoO,Mem.row]
def aqw (p q:Pc)(hand:Int)(to:Fr):Bool:=
 awW ((aoX q.links).getD (p.hands.getD hand.toNat default).toNat default) to&&(match p.aq1 q with| []=>true| [x]=>x==hand| _=>false)
def aWj (p q:Pc)(hand:Int)(to:Fr)(s:0<=hand)(h1:hand.toNat<p.hands.length)(hh:p.hands.length<=1000)(t:ayf (aoX p.links))(k:ayf (aoX q.links))(j:∀n∈p.hands,1<=n/\n.toNat<(aoX p.links).length/\n.toNat<(aoX q.links).length)(o:to.ok=true):
  Pure C 246 [auc p,auc q,dI hand,to.dv] (.d (.bool (aqw p q hand to))) []:=by
 have m:=an9 (SC.mono (aGQ p q hh t k j) fun _ _ h=>h.datum);obtain⟨u,v,r⟩:=j _ (getD_mem h1);have g:0<=p.hands.getD hand.toNat default:=by omega
 have b:(0<=to.n/\to.n<=50000)/\1<=to.d/\to.d<=50000:=by
  simp only[Fr.ok,inR,S,decide_eq_true_eq,ge_iff_le]at o;exact o
 have a:=aGF _ to (k _ (getD_mem r)) ⟨⟨b.1.1,by omega⟩,b.2.1,by omega⟩;refine am6 avy asQ ?_;simp only[auc,aoa]at m a⊢;simp only[avy,asQ,s,h1,g,r,getD_map,anM,aoa,Q,RN,F,H,O];refine anE a ?_;cases i:awW ((aoX q.links).getD (p.hands.getD hand.toNat default).toNat default) to
 ·(try simp only[RN,F,H])
  simp only[aqw,i,aW]
 ·(try simp only[RN,F,H,O])
  refine anE m ?_;have f:aqw p q hand to=(match p.aq1 q with| []=>true| [x]=>x==hand| _=>false):=by simp only[aqw,i,aX]
  rw[f];generalize p.aq1 q=sp;simp only[Q,RN,H]
  match sp with
  | []=>simp only[aH,BEq.rfl,RN,F]
  | [x]=>
   have c:((((0+1:Nat):Int))==0)=false:=by decide
   have e:((((0+1:Nat):Int))==1)=true:=by decide
   simp only[c,e,anM,aA,Int.toNat_zero,RN,F,N,O]
  |x::y::l=>
   have c:((((l.length+1+1:Nat):Int))==0)=false:=by simp;omega
   have e:((((l.length+1+1:Nat):Int))==1)=false:=by simp;omega
   simp only[c,e,Q,RN,F]
variable{K:St->Prop}{ts:List Nat}{env:List (Nat×PV)}
def aI5 {bs:List (Option (List PV))}{fz:List Nat}{ar:List (Option Arr)}{k ver skip t sz st:Nat}{xs:List DV}(h:ar[k]?=some (some ⟨sz,xs,ver,st⟩)):
  aEY (.tsl k ver skip) t ts K env ⟨bs,fz,ar⟩=atT ts K ⟨(t, .d (sF (xs.drop skip)))::env,⟨bs,fz,ar.set k (some ⟨sz,xs,ver,2⟩)⟩⟩:=by
 have b:=(am.1 h).1;have e:ar.modify k (Option.map fun A=>{A with st:=2})=ar.set k (some ⟨sz,xs,ver,2⟩):=by
  apply List.ext_getElem?;intro i;rw[List.getElem?_modify,aR]
  by_cases a:k=i
  ·subst a;simp only[h,b,if_true];rfl
  ·simp[a]
 simp[aEY,datum,Mem.row,h,Mem.frz,aq4,aq5,aA0,e]
def aXD {t:Nat}{x:DV}{M:Mem}:aEY (.d x) t ts K env M=atT ts K ⟨(t, .d x)::env,M⟩:=by
 have:=ay3 (M:=M) (ds:=[x]);simp only[au,ay]at this;simp only[aEY,datum,this]
def aun {nb na:Nat}{α:Type}{a:α}{E:α->St}{P:α->Prop}{μ:α->Nat}{m:Mem}(b:α)(f:μ b<μ a)(hs:(⟨env,m⟩:St)=E b)(e:P b):
  ∃d c,d<μ a/\Weak nb na ⟨env,m⟩ c/\whJ E P μ d c:=⟨μ b,_,f, .inl rfl,b,rfl,hs,e⟩
def auo (p:Pc)(link:Nat)(a:Int):Nat->Int->List Chg
 |0,_=>[]
 |k+1,b=>(if(⟨a,b⟩:Pr)=(p.links.getD link default).pr then[]else[⟨link,⟨a,b⟩⟩])++auo p link a k (b+1)
def atu (p:Pc)(least:Int)(w:Nat)(link:Nat):Nat->Int->List Chg
 |0,_=>[]
 |k+1,a=>auo p link a w least++atu p least w link k (a+1)
def apN (p:Pc)(least:Int)(w:Nat):Nat->Nat->List Chg
 |0,_=>[]
 |k+1,link=>atu p least w link w least++apN p least w k (link+1)
def apd (p:Pc)(hand:Int)(to:Fr)(least:Int)(w:Nat):Nat->Pc->Nat->Option (List Chg)
 |0,a,_=>if aqw p a hand to then some []else none
 |k+1,a,fr=>(apN p least w (p.links.length - fr) fr).findSome? fun c=>(apd p hand to least w k (a.changed c) (c.link.toNat+1)).map (c::·)
def ave {p:Pc}{hand:Int}{to:Fr}{least:Int}{w:Nat}:∀{k:Nat} {now:Pc} {fr:Nat} {l:List Chg},apd p hand to least w k now fr=some l->l.length=k
 |0,now,fr,l,h=>by
  simp only[apd]at h
  split at h
  ·cases h;rfl
  ·cases h
 |k+1,now,fr,l,h=>by
  simp only[apd]at h;obtain⟨c,_,h⟩:=List.exists_of_findSome?_eq_some h;rw[Option.map_eq_some_iff]at h;obtain⟨m,h1,rfl⟩:=h;rw[aT,ave h1]
def aRB (xs:List Chg):∀y∈xs.map Chg.dv,y.fits 3=true:=by
 intro y a;obtain⟨n,_,rfl⟩:=an.1 a;rfl
def aBF (r:Option (List Chg)):DV:= .tup [sF ((r.getD []).map Chg.dv), .bool r.isSome]
def Pc.changes (p:Pc)(least most hand:Int)(f:Fr):List Chg×Int:=
 if p.ok&&(anP least&&anP most&&decide (least<=most))&&decide (most - least<=10)&&inR hand 0 (p.hands.length - 1)&&f.ok then
  (match apd p hand f least (most - least+1).toNat 0 p 0 with
  |some l=>(l,0)
  |none=>match apd p hand f least (most - least+1).toNat 1 p 0 with
   |some l=>(l,0)
   |none=>match apd p hand f least (most - least+1).toNat 2 p 0 with
    |some l=>(l,0)
    |none=>([],5))
 else([],2)
structure Now (p now:Pc):Prop where
 len:now.links.length=p.links.length
 lk:linked now.links
 pr:∀l∈now.links,l.pr.ok=true
def Now.changed {p now:Pc}(h:Now p now){c:Chg}(hc:c.pr.ok=true):Now p (now.changed c):=by
 refine⟨by simp[Pc.changed,h.len],fun i a=> ?_,fun l d=> ?_⟩
 ·simp only[Pc.changed,List.length_set]at a
  have:=h.lk i a
  by_cases b:c.link.toNat=i
  ·subst b
   simpa[Pc.changed,aj,a]using this
  ·simpa[Pc.changed,aj,aR,b]using this
 ·rcases List.mem_or_eq_of_mem_set d with h'|h'
  ·exact h.pr l h'
  ·rw[h'];exact hc
section
variable {p:Pc}{hand:Int}{to:Fr}{least most:Int}{bs:Nat}
def aIQ (p:Pc):DV:= .anY [sF (p.links.map Lk.dv),sF (p.hands.map anF),sF ((aoX p.links).map Fr.dv)]
def aOe (p:Pc):DV:= .anY [sF (p.links.map Lk.dv),sF (p.hands.map anF)]
def searchFn (p:Pc)(hand:Int)(to:Fr)(least most:Int)(bs:Nat):PV:=
 .func (.func 245) [] [.d (aIQ p), .d (.anY [dI hand]), .d (.anY [dI to.n,dI to.d]), .d (aOe p), .d (.anY [dI least]), .d (.anY [dI most]), .ptr bs 0]
def SearchM (p:Pc)(hand:Int)(to:Fr)(least most:Int)(bs:Nat)(M M':Mem):Prop:=
 M'.boxes[bs]?=some (some [searchFn p hand to least most bs])/\M.boxes.length<=M'.boxes.length/\M.anK.length<=M'.anK.length/\∀i∈M'.fz,i<M'.boxes.length
def aQH (u:p.Good)(h0:0<=hand)(h1:hand.toNat<p.hands.length)(aC:to.ok=true)(Y:anP least=true)(ac:anP most=true)(aL:least<=most):
  ∀(k:Nat) (now:Pc) (fr:Nat) (M:Mem),k<=2->Now p now->fr<=p.links.length->M.boxes[bs]?=some (some [searchFn p hand to least most bs])->(∀i∈M.fz,i<M.boxes.length)->
   SC C 245 [.d now.dv,pI fr,pI k, .d (aIQ p), .d (.anY [dI hand]), .d (.anY [dI to.n,dI to.d]), .d (aOe p), .d (.anY [dI least]), .d (.anY [dI most]), .ptr bs 0] M
    (fun v M'=>v= .d (aBF (apd p hand to least (most - least+1).toNat k now fr))/\SearchM p hand to least most bs M M') (fun _ _=>False):=by
 intro k
 induction k with
 |zero=>
  intro now fr ⟨bx,fz,ar⟩ hk j V e r;simp only at e r;refine anJ arL aJw ?_;have aw:=u.l2;have hw:=aJN now (by have:=j.len;omega) j.lk j.pr;have ah:=aWj p now hand to h0 h1 (by have:=u.h2;omega) (ayg u.lk u.pr u.l2) (ayg j.lk j.pr (by have:=j.len;omega)) (fun n hn=>by
   have a1:=(aud u.lk u.pr).2;have a2:=(aud j.lk j.pr).2;have J:=u.hd n hn;have:=j.len;omega) aC
  simp only[aot,auc,aoa]at hw ah⊢;simp only[arL,aJw,axO,aE4,aH,BEq.rfl,aIQ,aOe,RN,F,H,N,O];refine anE hw ?_;refine anE ah ?_;simp only[aI5 (k:=(ar++ [some (⟨3,[],0,0⟩:Arr)]).length) axO,aY,RN,F,];have B:(bx++ [some [PV.d (sF (now.links.map Lk.dv)), .d (sF (now.hands.map anF))]])[bs]?=some (some [searchFn p hand to least most bs]):=by rw[ak (am.1 e).1];exact e
  refine⟨?_,B,by simp,by simp,fun i hi=> ?_⟩
  rotate_left
  ·rcases av.1 hi with rfl|hi
   ·simp
   ·have:=r i hi;simp;omega
  cases hc:aqw p now hand to<;>simp only[apd,hc]<;>rfl
 |succ k ih=>
  intro now fr ⟨bx,fz,ar⟩ hk j V e r;simp only at e r;refine anJ arL aJw ?_;have aw:=u.l2;have aD:4<=least/\least<=60:=by simp only[anP,inR,S,decide_eq_true_eq,ge_iff_le]at Y;exact Y
  have aZg:4<=most/\most<=60:=by simp only[anP,inR,S,decide_eq_true_eq,ge_iff_le]at ac;exact ac
  obtain⟨w,hw⟩:∃w:Nat,most - least+1=w:=⟨(most - least+1).toNat,by omega⟩
  obtain⟨R,hR⟩:∃R,R=apd p hand to least (most - least+1).toNat (k+1) now fr:=⟨_,rfl⟩
  obtain⟨f,hf⟩:∃f:Chg->Option (List Chg),f=fun c=>(apd p hand to least (most - least+1).toNat k (now.changed c) (c.link.toNat+1)).map (c::·):=⟨_,rfl⟩
  have aj:R=(apN p least w (p.links.length - fr) fr).findSome? f:=by rw[hR,hf];simp only[apd,hw,U]
  rw[<-hR];have aA:(((k+1:Nat):Int)==0)=false:=by simp;omega
  have ek:a7 .i64 (((k+1:Nat):Int) - 1)=(k:Int):=by rw[anI (by omega)];omega
  have B:(bx++ [some [PV.d (sF (now.links.map Lk.dv)), .d (sF (now.hands.map anF))]])[bs]?=some (some [searchFn p hand to least most bs]):=by rw[ak (am.1 e).1];exact e
  simp only[aot];simp only[arL,aJw,axO,aE4,aA,aIQ,aOe,RN,F,H,N];refine apW (fun(q:Nat×Mem)=>⟨[(2, .d (dI ((k+1:Nat):Int))),(6, .d (.anY [sF (p.links.map Lk.dv),sF (p.hands.map anF)])),(7, .d (.anY [dI least])),(8, .d (.anY [dI most])),(9, .ptr bs 0),(10, .d (.anY [sF (now.links.map Lk.dv),sF (now.hands.map anF)])),(15,pI q.1)],q.2⟩)
   (fun q=>q.1<=p.links.length/\SearchM p hand to least most bs ⟨bx,fz,ar⟩ q.2/\R=(apN p least w (p.links.length - q.1) q.1).findSome? f) (fun q=>p.links.length - q.1) (fr,_) rfl ⟨V,⟨B,by simp,by simp,fun i hi=>by
    rcases av.1 hi with rfl|hi
    ·simp
    ·have:=r i hi;simp;omega⟩,aj⟩ ?_
  rintro⟨link,M1⟩ ⟨g1,I,K⟩;simp only at g1 I K⊢
  by_cases ay:link<p.links.length
  case neg=>
   have s:¬((link:Int)<(p.links.length:Int)):=by omega
   have:p.links.length - link=0:=by omega
   rw[this,apN,List.findSome?_nil]at K;simp only[s,Q,RN,F,H,N,O];obtain⟨b1,f1,a1⟩:=M1;simp only[aI5 (k:=a1.length) axO,aY,RN,F];exact⟨by rw[K];rfl,I.1,I.2.1,aS I.2.2.1 (by simp),I.2.2.2⟩
  have s:((link:Int)<(p.links.length:Int)):=by omega
  obtain⟨n1,az⟩:∃n1,p.links.length - link=n1+1:=⟨p.links.length - link - 1,by omega⟩
  have ae:p.links.length - (link+1)=n1:=by omega
  rw[az,apN]at K;simp only[s,Q,RN,F,H,O];refine apW (fun(q:Nat×Mem)=>⟨[(2, .d (dI ((k+1:Nat):Int))),(6, .d (.anY [sF (p.links.map Lk.dv),sF (p.hands.map anF)])),(7, .d (.anY [dI least])),(8, .d (.anY [dI most])),(9, .ptr bs 0),(10, .d (.anY [sF (now.links.map Lk.dv),sF (now.hands.map anF)])),(15,pI link),(16, .d (dI (least+(w - q.1:Nat))))],q.2⟩)
   (fun q=>q.1<=w/\SearchM p hand to least most bs ⟨bx,fz,ar⟩ q.2/\R=(atu p least w link q.1 (least+(w - q.1:Nat))++apN p least w n1 (link+1)).findSome? f) (fun q=>q.1) (w,M1) (by simp) ⟨aV _,I,by simpa using K⟩ ?_
  rintro⟨m,M2⟩ ⟨k1,k2,A⟩;simp only at k1 k2 A⊢
  match m,k1,A with
  |0,k1,A=>
   have E:¬(least+((w - 0:Nat):Int)<=most):=by omega
   have h6:a7 .i64 ((link:Int)+1)=((link+1:Nat):Int):=by rw[anI (by omega)];omega
   simp only[E,h6,RN,F,O];refine aun (μ:=fun q:Nat×Mem=>p.links.length - q.1) (a:=(link,M1)) (link+1,M2) (by simp only;omega) rfl ⟨by simp only;omega,k2,?_⟩;simp only[ae]
   simpa[atu]using A
  |m+1,k1,A=>
   obtain⟨a,ha⟩:∃a:Int,a=least+((w - (m+1):Nat):Int):=⟨_,rfl⟩
   have Z:a<=most:=by omega
   have ai:a7 .i64 (a+1)=least+((w - m:Nat):Int):=by rw[anI (by omega)];omega
   have an:a+1=least+((w - m:Nat):Int):=by omega
   simp only[<-ha]at A⊢;rw[atu,an,List.append_assoc]at A;simp only[Z,RN,F,O];refine apW (fun(q:Nat×Mem)=>⟨[(2, .d (dI ((k+1:Nat):Int))),(6, .d (.anY [sF (p.links.map Lk.dv),sF (p.hands.map anF)])),(7, .d (.anY [dI least])),(8, .d (.anY [dI most])),(9, .ptr bs 0),(10, .d (.anY [sF (now.links.map Lk.dv),sF (now.hands.map anF)])),(15,pI link),(16,pI a),(17, .d (dI (least+(w - q.1:Nat))))],q.2⟩)
    (fun q=>q.1<=w/\SearchM p hand to least most bs ⟨bx,fz,ar⟩ q.2/\R=(auo p link a q.1 (least+(w - q.1:Nat))++(atu p least w link m (least+(w - m:Nat))++apN p least w n1 (link+1))).findSome? f) (fun q=>q.1) (w,M2) (by simp) ⟨aV _,k2,by simpa using A⟩ ?_
   rintro⟨v,⟨t,G,J⟩⟩ ⟨q1,q2,g⟩;simp only at q1 q2 g⊢
   match v,q1,g with
   |0,q1,g=>
    have E:¬(least+((w - 0:Nat):Int)<=most):=by omega
    simp only[E,ai,RN,F,O];exact aun (μ:=fun q:Nat×Mem=>q.1) (a:=(m+1,M2)) (m,⟨t,G,J⟩) (by simp only;omega) rfl ⟨by simp only;omega,q2,by simpa[auo]using g⟩
   |v+1,q1,g=>
    obtain⟨b,hb⟩:∃b:Int,b=least+((w - (v+1):Nat):Int):=⟨_,rfl⟩
    have ab:b<=most:=by omega
    have aZt:a7 .i64 (b+1)=least+((w - v:Nat):Int):=by rw[anI (by omega)];omega
    have ao:b+1=least+((w - v:Nat):Int):=by omega
    simp only[<-hb]at g⊢;rw[auo,ao]at g;have X:(0:Int)<=(link:Int):=by omega
    obtain⟨s1,s2,s3,s4⟩:=q2;simp only at s1 s2 s3 s4;have aB:¬t.length∈G:=fun h=>by have:=s4 _ h;omega
    have P:=(am.1 s1).1;simp only[ab,axO,aE4,aB,X,ay,getD_map,U,Q,asA,aFE,aOb,RN,F,H,O];cases he:((a==(p.links.getD link default).pr.a)&&(b==(p.links.getD link default).pr.b))
    ·(try simp only[RN,F,H,O])
     have D:¬(⟨a,b⟩:Pr)=(p.links.getD link default).pr:=by have:=aOz (v:=⟨a,b⟩) (x:=(p.links.getD link default).pr);rw[this]at he;simpa using he
     rw[if_neg D,List.singleton_append,List.cons_append,List.findSome?_cons]at g;have L:∀x,(t++ [x])[bs]?=some (some [searchFn p hand to least most bs]):=fun x=>by rw[ak P];exact s1
     have aY2:∀x:Option (List PV),bs<(t++ [x]).length:=fun x=>by simp;omega
     have ax:a7 .i64 ((link:Int)+1)=((link+1:Nat):Int):=by rw[anI (by omega)];omega
     have aG:=j.len;have aq:(⟨a,b⟩:Pr).ok=true:=by simp[Pr.ok,anP,inR];omega
     have T:=aHO now ⟨link,⟨a,b⟩⟩ (by omega) X (by simp;omega);simp only[aot,ap9]at T;simp only[L,aY2,searchFn,ek,ax,RN,O];refine anE T ?_;have z:(apd p hand to least (most - least+1).toNat k (now.changed ⟨link,⟨a,b⟩⟩) (link+1)).map ((⟨link,⟨a,b⟩⟩:Chg)::·)=f ⟨link,⟨a,b⟩⟩:=by rw[hf];rfl
     obtain⟨o,aU5⟩:∃o,o=t++ [some [PV.d (dI (link:Int)),PV.d (dI a),PV.d (dI b)]]:=⟨_,rfl⟩
     have ap:o[bs]?=some (some [searchFn p hand to least most bs]):=by rw[aU5];exact L _
     have au:∀i∈t.length::G,i<o.length:=fun i hi=>by
      rw[aU5]
      rcases av.1 hi with rfl|hi
      ·simp
      ·have:=s4 i hi;simp;omega
     have W:=ih (now.changed ⟨link,⟨a,b⟩⟩) (link+1) ⟨o,t.length::G,J⟩ (by omega) (j.changed aq) (by omega) ap au;simp only[aot]at W;rw[<-aU5];refine aBz (args:=[_,_,_]) (by kernel_rfl) (fs:=[]) ?_;refine SC.mono W ?_;rintro v1 ⟨b6,f6,a6⟩ ⟨rfl,r1,r2,r3,r4⟩;simp only at r1 r2 r3 r4;have aI:t.length+1<=b6.length:=by rw[aU5]at r2;simpa using r2
     cases hS:apd p hand to least (most - least+1).toNat k (now.changed ⟨link,⟨a,b⟩⟩) (link+1)with
     |none=>
      rw[hS]at z;rw[<-z]at g;simp only[aBF,aE,aZt,RN,F];exact aun (μ:=fun q:Nat×Mem=>q.1) (a:=(v+1,⟨t,G,J⟩)) (v,⟨b6,f6,a6⟩) (by simp only;omega) rfl ⟨by simp only;omega,⟨r1,by simp only;omega,by simp only;omega,r4⟩,g⟩
     |some l=>
      rw[hS]at z;rw[<-z]at g;simp only[aBF,aF,aJ,DV.strip,aAV,RN,F,H,N,O];have aK:=ave hS;refine⟨aRB l,(fun h=>by cases h),(fun y hy=>by subst hy;rfl),by rw[Q];omega,?_⟩;simp only[aI5 (k:=a6.length) axO,aXD,aO,RN,F];exact⟨by rw[g];simp[ap9],r1,by simp only;omega,by simp;omega,r4⟩
    ·have D:(⟨a,b⟩:Pr)=(p.links.getD link default).pr:=by have:=aOz (v:=⟨a,b⟩) (x:=(p.links.getD link default).pr);rw[this]at he;simpa using he
     rw[if_pos D,List.nil_append]at g;simp only[aZt,RN,F];refine aun (μ:=fun q:Nat×Mem=>q.1) (a:=(v+1,⟨t,G,J⟩)) (v,_) (by simp only;omega) rfl ⟨by simp only;omega,⟨?_,by simp;omega,s3,fun i hi=> ?_⟩,g⟩
     ·rw[ak P];exact s1
     ·rcases av.1 hi with rfl|hi
      ·simp
      ·have:=s4 i hi;simp;omega
end
def aTR (a b:Int):Pure C 242 [dI a,dI b] (.d (.bool (anP a&&anP b&&decide (a<=b)))) []:=by
 refine am6 ayH anO ?_;simp only[ayH,anO,RN,F,H]
 repeat' first
  |(refine anE (aG5 _) ?_;try simp only[RN,F,H,I,J,N,O])
  |(refine an7 (by rfl) (fun c=> ?_) (fun c=> ?_)<;>simp only[c,RN,F])
  |(refine aob (by rfl) (fun c=> ?_) (fun c=> ?_)<;>simp only[c,RN,F,H,I,J,N,O])
 all_goals(first|(simp only[anP, *,BSN];done)|(simp_all[anP];done)|(simp_all[anP];omega))
def aO0 (p:Pc)(least most hand:Int)(f:Fr)(hl:p.links.length<=1000)(hh:p.hands.length<=1000)(hb: -1000000<=most/\most<=1000000)(W: -1000000<=least/\least<=1000000):
  Pure C 169 [p.dv,dI least,dI most,dI hand,f.dv] (.d (.tup [.slice ((p.changes least most hand f).2 !=0) ((p.changes least most hand f).1.map Chg.dv),dI (p.changes least most hand f).2])) []:=by
 have y:=auK p hl hh;have m:=aWd f;have G:a7 .i64 ((p.hands.length:Int) - 1)=(p.hands.length:Int) - 1:=anI (by omega);have K:a7 .i64 (most - least)=most - least:=anI (by omega);refine am6 ayE aJu ?_;simp only[aot,aoa]at y m⊢;simp only[ayE,aJu,RN,F,H,O]
 repeat' first
  |(refine anE (y) ?_;try simp only[RN])
  |(refine anE (aTR _ _) ?_;try simp only[RN])
  |(refine anE (azJ _ _ _) ?_;try simp only[RN])
  |(refine anE (m) ?_;try simp only[RN])
  |(refine an7 (by rfl) (fun k=> ?_) (fun k=> ?_)<;>simp only[k,G,K,Q,RN,F,H,O])
  |(refine aob (by rfl) (fun k=> ?_) (fun k=> ?_)<;>simp only[k,RN,F,H,I,O])
 all_goals first
  |(
   have v:p.changes least most hand f=([],2):=by
    rw[Pc.changes,if_neg];intro hh;simp only[S,decide_eq_true_eq]at hh;obtain⟨⟨⟨⟨o,⟨q,a⟩,Y⟩,q5⟩,q6⟩,q7⟩:=hh;have U:¬most<least:=by omega
    have V:¬10<most - least:=by omega
    simp_all
    done
   rw[v]
   rfl)
  |skip
 have z:p.ok=true:=by simp_all
 have h2:(anP least&&anP most&&decide (least<=most))=true:=by simp_all
 have N:most - least<=10:=by simp_all
 have w:inR hand 0 ((p.hands.length:Int) - 1)=true:=by simp_all
 have x:f.ok=true:=by simp_all
 have g:=Pc.good z;have T:=g.l2;have e:anP least=true/\anP most=true/\least<=most:=by simpa[and_assoc]using h2
 have r:0<=hand/\hand<=(p.hands.length:Int) - 1:=by simpa[inR]using w
 have aY5:p.changes least most hand f=(match apd p hand f least (most - least+1).toNat 0 p 0 with
  |some l=>(l,0)
  |none=>match apd p hand f least (most - least+1).toNat 1 p 0 with
   |some l=>(l,0)
   |none=>match apd p hand f least (most - least+1).toNat 2 p 0 with
    |some l=>(l,0)
    |none=>([],5)):=by
  simp only[Pc.changes,z,h2,w,x,decide_eq_true N,aG,if_true]
 have A:=aJN p (by omega) g.lk g.pr;simp only[aot,auc]at A;refine anE A ?_;simp only[arl,cells_func,aK2,Z,RN,F,H,J,O];have u:hand.toNat<p.hands.length:=by have:=g.h1;omega
 have R:Now p p:=⟨rfl,g.lk,g.pr⟩
 refine anL 3 (fun i (b:Mem)=>⟨[(5, .d (.anY [sF (p.links.map Lk.dv),sF (p.hands.map anF)])),(14, .ptr 7 0),(55,pI i)],b⟩)
  (fun i b=>b.boxes[7]?=some (some [searchFn p hand f least most 7])/\(∀j∈b.fz,j<b.boxes.length)/\∀j,j<i->apd p hand f least (most - least+1).toNat j p 0=none) 0 _ (by decide) rfl ⟨rfl,by simp,by simp⟩ (fun i b h1 h=> ?_) (fun b h=> ?_)
 ·obtain⟨b1,L,B⟩:=b
  obtain⟨o,q,a⟩:=h;simp only at o q;have s:((i:Int)<3):=by omega
  have P:a7 .i64 ((i:Int)+1)=((i+1:Nat):Int):=by rw[anI (by omega)];omega
  have n:=aQH (bs:=7) g r.1 u x e.1 e.2.1 e.2.2 i p 0 ⟨b1,L,B⟩ (by omega) R (by omega) o q;simp only[aot,aH]at n;simp only[s,o,searchFn,RN,F,H,O];refine aBz (args:=[_,_,_]) (by kernel_rfl) (fs:=[]) ?_;refine SC.mono n ?_;rintro v1 ⟨E,M,D⟩ ⟨rfl,r1,r2,r3,r4⟩;simp only at r1 r2 r3 r4;cases c:apd p hand f least (most - least+1).toNat i p 0 with
  |none=>
   simp only[aBF,aE,P,RN,F];refine anT (len:=3) (i:=i) ⟨E,M,D⟩ h1 rfl ⟨r1,r4,fun j X=> ?_⟩
   by_cases t:j=i
   ·rw[t];exact c
   ·exact a j (by omega)
  |some l=>
   simp only[aBF,aF,aJ,RN,F];have:p.changes least most hand f=(l,0):=by
    rw[aY5]
    match i,h1,c,a with
    |0,_,c,_=>rw[c]
    |1,_,c,a=>rw[a 0 (by omega),c]
    |2,_,c,a=>rw[a 0 (by omega),a 1 (by omega),c]
   rw[this]
   rfl
 ·obtain⟨o,q,a⟩:=h
  simp only[ab,Int.cast_ofNat_Int,RN,F];have:p.changes least most hand f=([],5):=by rw[aY5,a 0 (by omega),a 1 (by omega),a 2 (by omega)]
  rw[this]
  rfl
def aEg:anH:=(s0 [ba 2 0 0,ba 3 1 1,mi 4 0,mi 5 0] 2 [2,3] [2,3] (sw (sr [lw 7 2 2,oa 8 (.anD 97) 7,oa 9 pN 8] 0 [2,3,9] (cd 9 (sr [mi 4 0,mi 5 2] 0 [4,5] .ret) .skip)) (s0 [lw 10 2 2,on 11 (.build [z0,z0,z0] []) [],ob 12 (.anD 98) 10 11,al 6 0 [z0,zs,z0,z0,z0,zs,.map none],sk 7 6 12 0] 1 [3,6] [6] (sw (sr [lw 13 7 6,lw 14 3 3,ob 15 (.anD 99) 13 14,oa 16 pN 15] 0 [3,6,16] (cd 16 (sr [mi 4 0,mi 5 2] 0 [4,5] .ret) .skip)) (sr [lw 17 7 6,lw 18 3 3,ob 19 (.anD 100) 17 18,mv 4 19,mi 5 0] 0 [4,5] .ret)))))
def azi:anH:=(s0 [ba 4 0 0,ba 5 1 1,mk 8 cS,mi 9 0] 2 [2,3,4,5] [4,5] (sw (sr [lw 10 2 4,oa 11 (.anD 97) 10,oa 12 pN 11,mv 13 12,ow 14 (.load true 3) 5 13 0,ow 15 (.anD 101) 14 13 0,ow 16 pN 15 13 0,pt 17 13 16,mv 18 17,ow 19 .mov 2 18 0,ow 20 (.anD 102) 19 18 0,ow 21 pN 20 18 0,pt 22 18 21,mv 23 22,ow 24 .mov 3 23 0,ow 25 (.anD 103) 24 23 0,ow 26 pN 25 23 0,pt 27 23 26] 0 [2,3,4,5,27] (cd 27 (sr [mk 8 cS,mi 9 2] 0 [8,9] .ret) .skip)) (sr [lw 28 2 4,lw 29 3 5,ob 30 (.call 98) 28 29,mv 31 2,mv 32 3,on 33 (.call 104) [.t 30,.t 31,.t 32],mv 8 33,mi 9 0] 0 [8,9] .ret)))
def awe:anH:=(s0 [ba 1 0 0,mf 2 false] 1 [1] [1] (sw (sr [fa 6 0 1,lo 7 6,on 8 (.anD 189) [.t 7,kI 0,kI 1000],oa 9 pN 8,mv 10 9,ow 11 (.fld 1) 1 10 0,lq 12 11 10,ow 13 .len 12 10 0,oF 14 (.anD 189) [.t 13,kI 1,kI 3] 10 0,ow 15 pN 14 10 0,pt 16 10 15] 0 [1,16] (cd 16 (sr [mf 2 false] 0 [2] .ret) .skip)) (sr [mi 3 1] 0 [1,3] (sw (sr [fa 17 1 1,lo 18 17,oa 19 .len 18,mi 20 0] 0 [3,18,19,20] (lp (sr [ob 21 pL 20 19] 0 [3,18,19,20,21] (sw (cx 21 0) (sw (b1 (sr [ix 22 1 18 20,lo 23 22,mv 5 23] 0 [3,5,18,19,20] (sw (sr [mv 24 5,mv 25 3,oi 26 pA 25 1,on 27 (.anD 189) [.t 24,.t 26,kI 1000],oa 28 pN 27] 0 [5,18,19,20,28] (cd 28 (sr [mf 2 false] 0 [2] .ret) .skip)) (rg [mv 29 5,mv 3 29] 0 [3,18,19,20])))) (rg [oi 30 pA 20 1,mv 20 30] 0 [3,18,19,20])))))) (sr [mf 2 true] 0 [2] .ret)))))
def avK:anH:=(s0 [ba 2 0 0,ba 3 1 1,al 4 2 [z0,zs,z0,z0,z0,zs,.map none]] 3 [2,3,4] [2,3] (sr [lw 8 2 2,lw 9 3 3,on 10 (.mkMap 0) [],on 11 (.build [z0,zs,z0,z0,z0,zs,.map none] [(0,2),(2,3),(6,1)]) [.t 8,.t 9,.t 10],al 5 1 [z0,zs,z0,z0,z0,zs,.map none],sk 7 5 11 0] 2 [2,4,5] (sr [fa 12 0 2,lo 13 12,mv 6 13] 0 [4,5,6] (sw (sr [mi 14 0] 0 [4,5,6,14] (lp (sr [oi 15 pL 14 4002] 0 [4,5,6,14,15] (sw (cx 15 0) (sw (b1 (sr [mv 16 14,mv 7 16] 0 [4,5,6,7,14] (sr [fa 17 5 5,lo 18 17,mv 19 6,oa 20 (.aoM 1 [z0] [0]) 19,ob 21 (.app 1 false) 18 20,fa 22 5 5,sk 1 22 21 0] 0 [4,5,6,7,14] (rg [mv 23 6,lw 24 7 5,mv 25 7,ob 26 (.apl 190) 24 25,ob 27 pA 23 26,mv 6 27] 0 [4,5,6,14])))) (rg [oi 28 pA 14 1,mv 14 28] 0 [4,5,6,14])))))) (sr [lw 29 7 5,sk 7 4 29 0] 0 [4] .ret)))))
def aut:anH:=(s0 [ba 2 0 0,ba 3 1 1,mf 4 false] 2 [2,3] [2,3] (sw (r1 [fu 5 0 3 1,lv 6 5,oa 7 (.anD 103) 6,mv 8 7,ov 9 (.fld 1) 3 8 1,ov 10 ld 9 8 1,ot 11 (.anD 189) [.t 10,kI 1,kI 12] 8 0,pf 12 8 11,mv 13 12,ov 14 (.fld 2) 3 13 1,ov 15 ld 14 13 1,ov 16 (.load true 7) 2 13 1,ov 17 (.fld 0) 3 13 1,ov 18 ld 17 13 1,obT 19 (.anD 192) 16 18 13 0,ov 20 (.anD 191) 19 13 0,ov 21 (.fld 1) 3 13 1,ov 22 ld 21 13 1,ot 23 pU [.t 22,kI 1] 13 0,obT 24 (.anU 1) 20 23 13 1,ov 25 ld 24 13 1,ot 26 (.anD 189) [.t 15,kI 1,.t 25] 13 0,pf 27 13 26,mv 4 27] 0 [4] []) .ret))
def awf:anH:=(s0 [ba 2 0 0,ba 3 1 1,mi 4 0] 2 [2,3] [2,3] (sw (r1 [fu 5 5 2 1,lv 6 5,fu 7 0 3 1,lv 8 7,ob1 9 (.anU 1) 6 8 1,lv 10 9,ou 11 (.load true 7) 2 1,fu 12 0 3 1,lv 13 12,ob 14 (.anD 192) 11 13,oa 15 (.anD 191) 14,fu 16 1 3 1,lv 17 16,oi 18 pU 17 1,ob1 19 (.axG 1 false true false) 15 18 1,oa 20 (.anD 193) 19,ob 21 pA 10 20,fu 22 2 3 1,lv 23 22,ob 24 pA 21 23,oi 25 pU 24 1,mv 4 25] 0 [4] []) .ret))
def azj:anH:=(s0 [ba 1 0 0,mf 2 false] 1 [1] [1] (sr [fa 3 1 1,lo 4 3,on 5 (.anD 189) [.t 4,kI 1,kI 1000],mv 6 5,ov 7 (.fld 0) 1 6 0,ov 8 ld 7 6 0,ov 9 (.fld 1) 1 6 0,ov 10 ld 9 6 0,ot 11 pM [kI 29,.t 10] 6 0,ov 12 (.fld 1) 1 6 0,ov 13 ld 12 6 0,ot 14 pM [kI 30,.t 13] 6 0,ot 15 (.anD 189) [.t 8,.t 11,.t 14] 6 0,pf 16 6 15,mv 17 16,ov 18 (.fld 2) 1 17 0,ov 19 ld 18 17 0,ov 20 (.fld 0) 1 17 0,ov 21 ld 20 17 0,ot 22 pU [.t 21,kI 1] 17 0,ot 23 (.anD 189) [.t 19,kI 0,.t 22] 17 0,pf 24 17 23,mv 2 24] 0 [2] .ret))
def awQ:anH:=(sr [mf 2 false] 0 [0] (sr [mv 3 0,oa 4 .len 3,oi 5 (.bin .leq) 4 6,mv 6 5,ov 7 .mov 0 6 0,ot 8 (.anD 194) [.t 7,.c (.func (.func 195) [] [])] 6 0,ov 9 pN 8 6 0,pf 10 6 9,mv 2 10] 0 [2] .ret))
def azk:anH:=(sr [mf 2 false] 0 [0] (sr [mv 3 0,on 4 (.anD 189) [.t 3,kI 0,kI 4000],mv 2 4] 0 [2] .ret))
def aus:anH:=(sr [ba 3 0 0,ag 6 1] 1 [1,2,3] (sr [ag 7 1] 0 [1,2,3,7] (sw (sr [mv 12 1,oa 13 .len 12,mi 14 0] 0 [2,3,7,12,13,14] (lp (sr [ob 15 pL 14 13] 0 [2,3,7,12,13,14,15] (sw (cx 15 0) (sw (b1 (sr [ix 16 4 12 14,lw 17 4 16,al 9 0 [.bool false,z0,z0,z0],sk 4 9 17 0] 1 [2,3,7,9,12,13,14] (sr [mi 10 (-1)] 0 [2,3,7,9,10,12,13,14] (sw (sr [mv 18 2,fa 19 1 9,lo 20 19,fa 21 2 9,lo 22 21,on 23 (.build [z0,z0,z0] [(0,1),(1,1),(2,1)]) [.t 18,.t 20,.t 22],al 11 0 [z0,z0,z0],sk 3 11 23 0] 1 [2,3,7,9,10,11,12,13,14] (s0 [fa 24 0 9,lo 25 24] 0 [2,3,7,9,10,11,12,13,14,25] [9] (cd 25 (r1 [ou 26 (.load true 7) 3 2,mv 27 2,ob 28 (.aBp 196) 26 27,fu 29 3 9 1,lv 30 29,ob 31 pA 28 30,mv 10 31] 0 [2,3,7,10,12,13,14] []) (sr [lw 32 7 3,lw 33 3 11,ob 34 (.apl 99) 32 33] 0 [2,3,7,10,11,12,13,14,34] (cd 34 (rg [lw 35 7 3,lw 36 3 11,ob 37 (.apl 100) 35 36,mv 10 37] 0 [2,3,7,10,12,13,14]) .skip))))) (rg [mv 38 7,mv 39 10,oa 40 (.aoM 1 [z0] [0]) 39,ob 41 (.app 1 false) 38 40,mv 7 41] 0 [2,3,7,12,13,14]))))) (rg [oi 42 pA 14 1,mv 14 42] 0 [2,3,7,12,13,14])))))) (sr [mv 43 7,mv 6 43] 0 [6] .ret))))
def aBZ:anH:=(s0 [ba 2 0 0,ba 3 1 1,al 4 2 [z0,z0,z0],mi 5 0] 3 [2,3,4] [2,3] (sw (sr [lw 8 2 2,oa 9 (.anD 97) 8,oa 10 pN 9,mv 11 10,lq 12 3 11,ow 13 (.anD 248) 12 11 0,ow 14 pN 13 11 0,pt 15 11 14] 0 [2,3,4,15] (cd 15 (sr [on 16 (.build [z0,z0,z0] []) [],sk 3 4 16 0,mi 5 2] 0 [4,5] .ret) .skip)) (sr [al 6 0 [z0,z0,z0]] 1 [2,3,4,6] (sw (sr [on 17 (.mkF (.func 250) 0) [.t 2,.t 3,.t 6],oa 18 (.call 249) 17,mv 7 18] 0 [4,6,7] (sr [mv 19 7,oi 20 pQ 19 0] 0 [4,6,7,20] (cd 20 (sr [on 21 (.build [z0,z0,z0] []) [],mv 22 7,sk 3 4 21 0,mv 5 22] 0 [4,5] .ret) .skip))) (sr [lw 23 3 6,sk 3 4 23 0,mi 5 0] 0 [4,5] .ret)))))
def avr:anH:=(s0 [ba 2 0 0,mi 4 0] 1 [1,2] [2] (sr [lw 5 7 2,mv 6 1,ob 7 (.anD 192) 5 6,oa 8 (.anD 191) 7,oa 9 (.anD 193) 8,mv 4 9] 0 [4] .ret))
def azl:anH:=(sr [mk 2 cS] 0 [0] (sr [on 4 (.arY 1 [z0,z0,z0,z0,z0,z0,z0,z0,z0,z0,z0,z0] [0,1,2,3,4,5,6,7,8,9,10,11]) [kI 31,kI 28,kI 31,kI 30,kI 31,kI 30,kI 31,kI 31,kI 30,kI 31,kI 30,kI 31],mv 3 4] 0 [0,3] (sw (sr [mv 5 0] 0 [3,5] (cd 5 (rg [mv 6 3,oi 7 (.anU 1) 6 1,os (.store 1) [.t 7,kI 29] 0] 0 [3]) .skip)) (sr [mv 8 3,mv 2 8] 0 [2] .ret))))
def avs:anH:=(s0 [ba 2 0 0,mf 4 false] 1 [1,2] [2] (sr [mf 5 false] 0 [1,2,5] (sw (sr [fa 8 0 2,fa 9 1 8,lo 10 9,oa 11 .len 10,mi 12 0] 0 [1,5,10,11,12] (lp (sr [ob 13 pL 12 11] 0 [1,5,10,11,12,13] (sw (cx 13 0) (sw (b1 (sr [ix 14 1 10 12,lo 15 14,mv 7 15] 0 [1,5,7,10,11,12] (sr [mv 16 1,mv 17 7,ob 18 (.bin .rem) 16 17,oi 19 pE 18 0] 0 [1,5,10,11,12,19] (cd 19 (rg [mv 20 5,oa 21 pN 20,mv 5 21] 0 [1,5,10,11,12]) .skip)))) (rg [oi 22 pA 12 1,mv 12 22] 0 [1,5,10,11,12])))))) (sr [mv 23 5,mv 4 23] 0 [4] .ret))))
def avp:anH:=(s0 [ba 1 0 0,mf 2 false] 1 [1] [1] (sw (sr [fa 3 0 1,lo 4 3] 0 [1,4] (cd 4 (sr [fa 5 1 1,lo 6 5,oi 7 pQ 6 0,mv 8 7,ow 9 (.fld 2) 1 8 0,lq 10 9 8,oF 11 pQ [.t 10,kI 0] 8 0,pt 12 8 11,mv 13 12,ow 14 (.fld 3) 1 13 0,lq 15 14 13,oF 16 (.anD 189) [.t 15,kI (-60),kI 60] 13 0,ow 17 pN 16 13 0,pt 18 13 17,mv 2 18] 0 [2] .ret) .skip)) (sr [fa 19 3 1,lo 20 19,oi 21 pQ 20 0,mv 22 21,ow 23 (.fld 1) 1 22 0,lq 24 23 22,oF 25 (.anD 189) [.t 24,kI 1,kI 12] 22 0,ow 26 pN 25 22 0,pt 27 22 26,mv 28 27,ow 29 (.fld 2) 1 28 0,lq 30 29 28,oF 31 (.anD 189) [.t 30,kI 1,kI 31] 28 0,ow 32 pN 31 28 0,pt 33 28 32,mv 2 33] 0 [2] .ret)))
def auu:anH:=(sr [ba 2 0 0,mi 4 0] 1 [1,2] (sr [mv 9 1,on 10 (.build [z0,z0,z0] [(0,1),(1,1),(2,1)]) [.t 9,kI 3,kI 21],al 5 0 [z0,z0,z0],sk 3 5 10 0] 1 [2,5] (sw (sr [fa 12 6 2,lo 13 12,lw 14 3 5,ob 15 (.aAd true [1,1,1] (.int .i64 0)) 13 14,mv 11 15,xa 16 0 11,xa 17 1 11,mv 6 16,mv 7 17] 0 [2,5,6,7] (sr [mv 18 7] 0 [2,5,6,18] (cd 18 (sr [mv 19 6,mv 4 19] 0 [4] .ret) .skip))) (sr [lw 20 7 2,lw 21 3 5,ob 22 (.apl 100) 20 21,mv 8 22] 0 [2,5,8] (sw (lp (sw (sr [fa 23 2 2,lw 24 3 23,mv 25 8,ob 26 (.anD 266) 24 25,oi 27 pQ 26 13] 0 [2,5,8,27] (cx 27 0)) (b1 (rg [mv 28 8,oi 29 pA 28 1,mv 8 29] 0 [2,5,8])))) (sr [mv 30 8,mv 31 8,oa 32 (.anD 267) 31,on 33 pU [kI 7,.t 32],ob 34 pA 30 33,mv 8 34] 0 [2,5,8] (sr [fa 35 6 2,lo 36 35,lw 37 3 5,mv 38 8,os (.aNj [1,1,1]) [.t 36,.t 37,.t 38] 0] 0 [8] (sr [mv 39 8,mv 4 39] 0 [4] .ret))))))))
def aAn:anH:=(sr [mf 2 false] 0 [0] (sr [mv 3 0,on 4 (.anD 189) [.t 3,kI 0,kI 2000000],mv 2 4] 0 [2] .ret))
def azh:anH:=(r1 [ou 3 (.load true 2) 0 1,on 4 (.build [z0,z0,z0] []) [],ob 5 (.anD 98) 3 4,lv 6 1,ob 7 (.anD 251) 5 6,sk 3 2 7 0] 0 [] [])
def avq:anH:=(s0 [ba 2 0 0,al 4 1 [z0,z0,z0]] 2 [1,2,4] [2] (sr [fa 11 5 2,lo 12 11,mv 13 1,ob 14 (.anD 293) 12 13,mv 10 14,xa 15 0 10,xa 16 1 10,mv 5 15,mv 6 16] 0 [1,2,4,5,6] (sw (sr [mv 17 6,oa 18 pN 17] 0 [1,2,4,5,18] (cd 18 (rg [mv 19 5,oi 20 pU 19 1,mv 5 20] 0 [1,2,4,5]) .skip)) (sw (sr [mv 21 5,oa 22 (.anD 103) 21,oa 23 pN 22] 0 [1,2,4,5,23] (cd 23 (rg [mv 24 1,oa 25 (.build [z0] [(0,1)]) 24,oa 26 (.mkI T.aDc) 25,os .panic [.t 26] 0] 0 [1,2,4,5]) .skip)) (sr [mv 27 1,fa 28 5 2,lo 29 28,mv 30 5,ix 31 1 29 30,lo 32 31,ob 33 pU 27 32,mv 7 33] 0 [1,2,4,5,7] (sw (sr [lw 34 7 2,mv 35 5,ob 36 (.anD 192) 34 35,oa 37 (.anD 191) 36,oa 38 .len 37,mi 39 0] 0 [1,4,5,7,37,38,39] (lp (sr [ob 40 pL 39 38] 0 [1,4,5,7,37,38,39,40] (sw (cx 40 0) (sw (b1 (sr [mv 41 39,ix 42 1 37 39,lo 43 42,mv 8 41,mv 9 43] 0 [1,4,5,7,8,9,37,38,39] (sw (sr [mv 44 7,mv 45 9,ob 46 pL 44 45] 0 [1,4,5,7,8,9,37,38,39,46] (cd 46 (sr [mv 47 5,mv 48 8,oi 49 pA 48 1,mv 50 7,oi 51 pA 50 1,on 52 (.build [z0,z0,z0] [(0,1),(1,1),(2,1)]) [.t 47,.t 49,.t 51],sk 3 4 52 0] 0 [4] .ret) .skip)) (rg [mv 53 7,mv 54 9,ob 55 pU 53 54,mv 7 55] 0 [1,4,5,7,37,38,39])))) (rg [oi 56 pA 39 1,mv 39 56] 0 [1,4,5,7,37,38,39])))))) (rg [mv 57 1,oa 58 (.build [z0] [(0,1)]) 57,oa 59 (.mkI T.aDc) 58,os .panic [.t 59] 0] 0 [4])))))))
def aEh:anH:=(s0 [ba 2 0 0,mi 4 0] 1 [1,2] [2] (sr [mv 6 1,oi 7 pA 6 1,fa 8 1 2,lo 9 8,ob 10 pM 7 9,oi 11 pU 10 1,fa 12 2 2,lo 13 12,ob 14 pU 11 13,fa 15 0 2,lo 16 15,ob 17 (.anD 298) 14 16,mv 5 17] 0 [1,2,5] (sr [mv 18 1,mv 19 5,fa 20 0 2,lo 21 20,ob 22 pM 19 21,fa 23 2 2,lo 24 23,ob 25 pA 22 24,fa 26 1 2,lo 27 26,ob 28 (.anD 298) 25 27,ob 29 pU 18 28,mv 4 29] 0 [4] .ret)))
def atg:anH:=(sr [mi 2 0] 0 [0] (sr [mv 3 0,oi 4 pA 3 4,oi 5 (.bin .rem) 4 7,mv 2 5] 0 [2] .ret))
def avJ:anH:=(sr [mi 4 0] 0 [0,1] (sr [mv 6 0,mv 7 1,ob 8 (.bin .quo) 6 7,mv 5 8] 0 [0,1,5] (sw (sr [mv 9 5,mv 10 1,ob 11 pM 9 10,mv 12 0,ob 13 pG 11 12] 0 [5,13] (cd 13 (rg [mv 14 5,oi 15 pU 14 1,mv 5 15] 0 [5]) .skip)) (sr [mv 16 5,mv 4 16] 0 [4] .ret))))
def aAg (n l h:Int):Pure C 189 [dI n,dI l,dI h] (.d (.bool (inR n l h))) []:=aw4 n l h
def aIY (n:Int):Pure C 103 [dI n] (.d (.bool (inR n 0 4000))) []:=by
 refine am6 azk anN ?_;simp only[azk,anN,RN,F]
 repeat' first
  |(refine anE (aAg _ _ _) ?_;try simp only[])
  |(refine an7 (by rfl) (fun a=> ?_) (fun a=> ?_)<;>simp only[a,RN,F,H,I,J,N,O])
  |(refine aob (by rfl) (fun a=> ?_) (fun a=> ?_)<;>simp only[a,RN,F,H,I,J,N,O])
 all_goals(first|(simp only[inR, *,BSN];done)|(simp_all[inR];done)|(simp_all[inR];omega))
def aRK (n:Int):Pure C 248 [dI n] (.d (.bool (inR n 0 2000000))) []:=by
 refine am6 aAn anN ?_;simp only[aAn,anN,RN,F]
 repeat' first
  |(refine anE (aAg _ _ _) ?_;try simp only[])
  |(refine an7 (by rfl) (fun a=> ?_) (fun a=> ?_)<;>simp only[a,RN,F,H,I,J,N,O])
  |(refine aob (by rfl) (fun a=> ?_) (fun a=> ?_)<;>simp only[a,RN,F,H,I,J,N,O])
 all_goals(first|(simp only[inR, *,BSN];done)|(simp_all[inR];done)|(simp_all[inR];omega))
def aAU:List Int->Int->Bool
 | [],_=>true
 |n::l,a=>inR n (a+1) 1000&&aAU l n
def Cal.ok (c:Cal):Bool:=inR c.ep 0 1000&&inR c.cy.length 1 3&&aAU c.cy 1
def aFA:∀{l:List Int} {last:Int},1<=last->aAU l last=true->∀n∈l,2<=n/\n<=1000
 | [],_,_,_,n,a=>by cases a
 |x::l,last,h1,h,n,a=>by
  simp only[aAU,inR,S,decide_eq_true_eq,ge_iff_le]at h
  rcases av.1 a with rfl|a
  ·omega
  ·exact aFA (last:=x) (by omega) h.2 n a
variable{c:Cal}
def Cal.facts (h:c.ok=true):(0<=c.ep/\c.ep<=1000)/\(1<=c.cy.length/\c.cy.length<=3)/\∀n∈c.cy,2<=n/\n<=1000:=by
 simp only[Cal.ok,S]at h;obtain⟨⟨h1,h2⟩,a⟩:=h;simp only[inR,S,decide_eq_true_eq,ge_iff_le]at h1 h2;exact⟨h1,by omega,aFA (by omega) a⟩
def aI9 (c:Cal)(hl:c.cy.length<=1000000):Pure C 97 [c.dv] (.d (.bool c.ok)) []:=by
 refine am6 awe anN ?_;simp only[awe,anN,aoJ,RN,F,H,O]
 repeat' first
  |(refine anE (aAg _ _ _) ?_;try simp only[RN])
  |(refine an7 (by rfl) (fun e=> ?_) (fun e=> ?_)<;>simp only[e,Q,RN,F,H,O])
  |(refine aob (by rfl) (fun e=> ?_) (fun e=> ?_)<;>simp only[e,Q,RN,F,H,O])
 any_goals (simp_all[Cal.ok];done)
 have g:c.ok=aAU c.cy 1:=by simp_all[Cal.ok]
 rw[g];refine anL c.cy.length (fun i (a:Int)=>⟨[(3,pI a),(18, .d (sF (c.cy.map anF))),(19,pI c.cy.length),(20,pI i)],⟨[some [pI c.ep, .d (sF (c.cy.map anF))]],[0],[]⟩⟩)
  (fun i a=>1<=a/\a<=1000/\aAU c.cy 1=aAU (c.cy.drop i) a) 0 1 (V _) rfl ⟨by omega,by omega,rfl⟩ (fun i a h1 b=> ?_) (fun a b=> ?_)
 ·obtain⟨h2,j,k⟩:=rng h1 hl
  obtain⟨l,m,b⟩:=b;rw[drop_cons h1,aAU]at b;have h:a7 .i64 (a+1)=a+1:=anI (by omega);simp only[h2,j,h1,anM,getD_map,U,Q,h,RN,F,O];refine anE (aAg _ _ _) ?_;cases f:inR (c.cy.getD i default) (a+1) 1000
  ·(try simp only[RN,F])
   rw[b,f];rfl
  ·simp only[k,RN,F]
   rw[f,aX]at b;have:a+1<=c.cy.getD i default/\c.cy.getD i default<=1000:=by simpa[inR]using f
   exact aoD (c.cy.getD i default) h1 rfl ⟨by omega,by omega,b⟩ (by simp) (by simp) rfl rfl
 ·obtain⟨_,_,b⟩:=b
  rw[az,aAU]at b;simp only[ab,b,RN,F]
def aK4 (c:Cal)(m:apn)(fs:List Int)(es:Option (List (DV×DV))):DV:= .agg [dI c.ep,sF (c.cy.map anF),dI m.n,dI m.d,dI m.ad,sF (fs.map anF), .map es]
variable{m:apn}
def atw {fs:List Int}{es:Option (List (DV×DV))}:aK4 c m fs es= .agg [dI c.ep,sF (c.cy.map anF),dI m.n,dI m.d,dI m.ad,sF (fs.map anF), .map es]:=by rw[aK4]
def aza:List Int->Int->Bool->Bool
 | [],_,a=>a
 |n::l,y,a=>aza l y (if y.tmod n==0 then !a else a)
def Cal.leap (c:Cal)(y:Int):Bool:=aza c.cy y false
def aJb (c:Cal)(m:apn)(fs:List Int)(es:Option (List (DV×DV)))(y:Int)(hl:c.cy.length<=1000000)(j:∀n∈c.cy,n≠0):Pure C 192 [aK4 c m fs es,dI y] (.d (.bool (c.leap y))) []:=by
 refine am6 avs anO ?_;simp only[avs,anO,atw,Q,RN,F,H,O];refine anL c.cy.length (fun i (b:Bool)=>⟨[(1,pI y),(5, .d (.bool b)),(10, .d (sF (c.cy.map anF))),(11,pI c.cy.length),(12,pI i)],
   ⟨[some [pI c.ep, .d (sF (c.cy.map anF)),pI m.n,pI m.d,pI m.ad, .d (sF (fs.map anF)), .d (.map es)]],[0],[]⟩⟩)
  (fun i b=>c.leap y=aza (c.cy.drop i) y b) 0 false (V _) rfl rfl (fun i b h1 a=> ?_) (fun b a=> ?_)
 ·obtain⟨h2,h,f⟩:=rng h1 hl
  rw[drop_cons h1,aza]at a;have e:=j _ (getD_mem h1);simp only[h2,h,h1,anM,getD_map,U,Q,e,RN,F,O];cases g:(y.tmod (c.cy.getD i default)==0)
  ·rw[g]at a
   simp only[f,RN,F];exact aoD b h1 rfl a (by simp) (by simp) rfl rfl
  ·rw[g]at a
   simp only[f,RN,F];exact aoD (!b) h1 rfl a (by simp) (by simp) rfl rfl
 ·rw[az,aza]at a
  simp only[ab,a,RN,F]
def anV (leap:Bool):List Int:=[31,if leap then 29 else 28,31,30,31,30,31,31,30,31,30,31]
def mon0:List DV:=[dI 31,dI 28,dI 31,dI 30,dI 31,dI 30,dI 31,dI 31,dI 30,dI 31,dI 30,dI 31]
def aVu {C:Ctx}{K:PV->Mem->Prop}{KP:DV->Mem->Prop}(h:K (.tsl 0 0 0) ⟨[],[],[some ⟨1,mon0,0,1⟩]⟩):
  anG C 0 (.arY 1 [dI 0,dI 0,dI 0,dI 0,dI 0,dI 0,dI 0,dI 0,dI 0,dI 0,dI 0,dI 0] [0,1,2,3,4,5,6,7,8,9,10,11]) (mon0.map .d) ⟨[],[],[]⟩ K KP:=by
 simp only[anG,mon0,au,ay,apx];exact⟨by decide,aq.1 (rfl:mon0.all (DV.fits 1)=true),h⟩
def aYS:∀b:Bool,(anV b).map anF=bif b then mon0.set 1 (dI 29)else mon0
 |true=>rfl
 |false=>rfl
def aBS (leap:Bool):Pure C 191 [.bool leap] (.d (sF ((anV leap).map anF))) []:=by
 refine an9 (anJ azl anN ?_);simp only[azl,anN,RN,F];refine aVu ?_;rw[aYS];cases leap
 ·(try simp only[RN,F])
  rfl
 ·(try simp only[RN,F])
  refine⟨by decide,by decide,awx (ds:=[dI 29]) rfl rfl (by decide) rfl rfl (by decide) rfl⟩
def aRQ (l:List Int)(hl:l.length<=1000000)(hx:∀x∈l,0<=x)(hb:aoA l 0<=9223372036854775807):Pure C 193 [sF (l.map anF)] (pI (aoA l 0)) []:=by
 refine am6 awT anN ?_;simp only[awT,anN,Q,RN,F];refine anL l.length (fun i (p:Int)=>⟨[(3,pI p),(6, .d (sF (l.map anF))),(7,pI l.length),(8,pI i)],⟨[],[],[]⟩⟩)
  (fun i p=>0<=p/\aoA l 0=aoA (l.drop i) p) 0 0 (V _) rfl ⟨by omega,rfl⟩ (fun i p h1 a=> ?_) (fun p a=> ?_)
 ·obtain⟨h2,c,e⟩:=rng h1 hl
  obtain⟨f,a⟩:=a;rw[drop_cons h1,aoA]at a;have g:=hx _ (getD_mem h1);have j:=atG (l.drop (i+1)) (p+l.getD i default) (fun y h=>hx y (List.mem_of_mem_drop h));have b:a7 .i64 (p+l.getD i default)=p+l.getD i default:=anI (by omega);simp only[h2,c,h1,e,anM,getD_map,U,Q,b,RN,F,O];exact aoD (p+l.getD i default) h1 rfl ⟨by omega,a⟩ (by simp) (by simp) rfl rfl
 ·obtain⟨f,a⟩:=a
  rw[az,aoA]at a;simp only[ab,a,RN,F]
def asl (b:Bool):Int:=aoA (anV b) 0
def aq7:∀b:Bool,asl b=if b then 366 else 365
 |true=>rfl
 |false=>rfl
def aqW:∀(b:Bool),∀x∈anV b,28<=x/\x<=31:=by
 intro b x a;cases b<;>simp[anV]at a<;>omega
def arZ:∀(b:Bool),(anV b).length=12
 |true=>rfl
 |false=>rfl
def aOv (c:Cal)(m:apn)(fs:List Int)(es:Option (List (DV×DV)))(y:Int)(hl:c.cy.length<=1000000)(a:∀n∈c.cy,n≠0):Pure C 190 [aK4 c m fs es,dI y] (.d (dI (asl (c.leap y)))) []:=by
 refine am6 avr anO ?_;simp only[avr,anO,atw,RN,F,H,O];have h1:=aJb c m fs es y hl a;rw[atw]at h1;refine anE h1 ?_;(try simp only[RN,F,H,I,J,N,O]);refine anE (aBS _) ?_;(try simp only[RN,F,H,I,J,N,O]);have e:aoA (anV (c.leap y)) 0<=366:=by have:=aq7 (c.leap y);unfold asl at this;rw[this];split<;>decide
 refine aoQ rfl rfl (aRQ (anV (c.leap y)) (by rw[arZ];decide) (fun x b=>by have:=aqW _ x b;omega) (by omega)) ?_;simp only[asl]
def wd (n:Int):Int:=(n+4).tmod 7
def aQY (n:Int)(h:0<=n/\n<=1000000000):Pure C 267 [dI n] (pI (wd n)) []:=by
 have a:a7 .i64 (n+4)=n+4:=anI (by omega);have b1:0<=(n+4).tmod 7:=aC 7 (by omega);have b:(n+4).tmod 7<7:=ap _ (by decide);have c:a7 .i64 ((n+4).tmod 7)=(n+4).tmod 7:=anI (by omega);refine am6 atg anN ?_;simp only[atg,anN,a,wd,RN,F];simp
def aoE (n b:Int):Int:=if n.tdiv b*b>n then n.tdiv b - 1 else n.tdiv b
def azM (n b:Int):(n.tdiv b*b).natAbs<=n.natAbs:=by
 have h:=aN n b;rw[Int.natAbs_mul,Int.natAbs_tdiv];exact Nat.div_mul_le_self _ _
def aRP (n b:Int)(h:n.natAbs<=1000000000000000000)(hb:b≠0):Pure C 298 [dI n,dI b] (pI (aoE n b)) []:=by
 have b1:=arO n b;have f:=azM n b;have c:a7 .i64 (n.tdiv b)=n.tdiv b:=anI (by omega);have d:a7 .i64 (n.tdiv b*b)=n.tdiv b*b:=anI (by omega);have e:a7 .i64 (n.tdiv b - 1)=n.tdiv b - 1:=anI (by omega);refine am6 avJ anO ?_;simp only[avJ,anO,c,d,hb,RN,F,H]
 by_cases a:n.tdiv b*b>n
 ·simp only[a,e,aoE,if_true,RN,F]
 ·simp only[a,aoE,if_false,RN,F]
def aIX (n b:Int)(hb:b≠0):(aoE n b).natAbs<=n.natAbs+1:=by
 have:=arO n b;unfold aoE
 split<;>omega
def aKi (n b:Int):(aoE n b*b).natAbs<=n.natAbs+b.natAbs:=by
 have:=azM n b;unfold aoE
 split
 ·rw[aZ];omega
 ·omega
def apn.ok (m:apn):Bool:=inR m.d 1 1000&&inR m.n (29*m.d) (30*m.d)&&inR m.ad 0 (m.n - 1)
def apn.facts (h:m.ok=true):(1<=m.d/\m.d<=1000)/\(29*m.d<=m.n/\m.n<=30*m.d)/\0<=m.ad/\m.ad<m.n:=by
 simp only[apn.ok,inR,S,decide_eq_true_eq,ge_iff_le]at h;omega
def aSr (m:apn):Pure C 101 [m.dv] (.d (.bool m.ok)) []:=by
 refine am6 azj anN ?_;simp only[azj,anN,apz,RN,F,H,O];refine anE (aAg _ _ _) ?_;cases h1:inR m.d 1 1000
 ·(try simp only[RN,F])
  simp[apn.ok,h1]
 ·have hd:1<=m.d/\m.d<=1000:=by simpa[inR]using h1
  have a:a7 .i64 (29*m.d)=29*m.d:=anI (by omega);have b:a7 .i64 (30*m.d)=30*m.d:=anI (by omega);simp only[a,b,RN,F,H,O];refine anE (aAg _ _ _) ?_;cases h2:inR m.n (29*m.d) (30*m.d)
  ·(try simp only[RN,F])
   simp[apn.ok,h2]
  ·have e:29*m.d<=m.n/\m.n<=30*m.d:=by simpa[inR]using h2
   have c:a7 .i64 (m.n - 1)=m.n - 1:=anI (by omega);simp only[c,RN,F,H,O];refine anE (aAg _ _ _) ?_;(try simp only[RN,F,H,I,J,N,O]);simp[apn.ok,h1,h2]
def avD (m:apn)(n:Int):Int:=n - aoE (aoE ((n+1)*m.d - 1 - m.ad) m.n*m.n+m.ad) m.d
def aYM (m:apn)(n:Int)(j:m.ok=true)(h:0<=n/\n<=100000000):Pure C 266 [m.dv,dI n] (pI (avD m n)) []:=by
 obtain⟨hd,l,k⟩:=m.facts j;have o:0<=(n+1)*m.d/\(n+1)*m.d<=100000001*1000:=⟨ao (by omega) (by omega),ai (by omega) hd.2 (by omega) (by omega)⟩
 have p:=aIX ((n+1)*m.d - 1 - m.ad) m.n (by omega);have q:=aKi ((n+1)*m.d - 1 - m.ad) m.n;have r:=aIX (aoE ((n+1)*m.d - 1 - m.ad) m.n*m.n+m.ad) m.d (by omega);have a:a7 .i64 (n+1)=n+1:=anI (by omega);have b:a7 .i64 ((n+1)*m.d)=(n+1)*m.d:=anI (by omega);have c:a7 .i64 ((n+1)*m.d - 1)=(n+1)*m.d - 1:=anI (by omega);have e:a7 .i64 ((n+1)*m.d - 1 - m.ad)=(n+1)*m.d - 1 - m.ad:=anI (by omega);have f:a7 .i64 (aoE ((n+1)*m.d - 1 - m.ad) m.n*m.n)=aoE ((n+1)*m.d - 1 - m.ad) m.n*m.n:=anI (by omega);have g:a7 .i64 (aoE ((n+1)*m.d - 1 - m.ad) m.n*m.n+m.ad)=aoE ((n+1)*m.d - 1 - m.ad) m.n*m.n+m.ad:=anI (by omega);have i:a7 .i64 (n - aoE (aoE ((n+1)*m.d - 1 - m.ad) m.n*m.n+m.ad) m.d)=n - aoE (aoE ((n+1)*m.d - 1 - m.ad) m.n*m.n+m.ad) m.d:=anI (by omega);refine am6 aEh anO ?_;simp only[aEh,anO,apz,a,b,c,e,RN,F,H,O];refine aoQ rfl rfl (aRP _ _ (by omega) (by omega)) ?_;simp only[f,g,RN];refine aoQ rfl rfl (aRP _ _ (by omega) (by omega)) ?_;simp only[i,avD,RN]
def aqt (c:Cal)(d:Dt):Bool:=inR d.y 0 4000&&inR d.m 1 12&&inR d.d 1 ((anV (c.leap d.y)).getD (d.m - 1).toNat default)
def aKB (c:Cal)(m:apn)(fs:List Int)(es:Option (List (DV×DV)))(d:Dt)(hl:c.cy.length<=1000000)(e:∀n∈c.cy,n≠0):Pure C 99 [aK4 c m fs es,d.dv] (.d (.bool (aqt c d))) []:=by
 refine am6 aut anO ?_;simp only[aut,anO,atw,arU,RN,F,H,O];refine anE (aIY _) ?_;cases h1:inR d.y 0 4000
 ·(try simp only[RN,F])
  simp[aqt,h1]
 ·(try simp only[RN,F,H,O])
  refine anE (aAg _ _ _) ?_;cases h2:inR d.m 1 12
  ·(try simp only[RN,F])
   simp[aqt,h2]
  ·have h:1<=d.m/\d.m<=12:=by simpa[inR]using h2
   have b:a7 .i64 (d.m - 1)=d.m - 1:=anI (by omega);simp only[b,RN,F,H,O];have a:=aJb c m fs es d.y hl e;rw[atw]at a;refine anE a ?_;(try simp only[RN,F,H,I,J,N,O]);refine anE (aBS _) ?_;have f:(0:Int)<=d.m - 1:=by omega
   have g:(d.m - 1).toNat<(anV (c.leap d.y)).length:=by rw[arZ];omega
   simp only[f,g,Q,getD_map,anM,RN,O];refine anE (aAg _ _ _) ?_;simp only[aqt,h1,h2,RN]
def aw3 (c:Cal)(fs:List Int)(d:Dt):Int:=fs.getD d.y.toNat default+aoA ((anV (c.leap d.y)).take (d.m - 1).toNat) 0+d.d - 1
def axJ:∀(l:List Int) (n:Nat) (p:Int),(∀x∈l,0<=x)->aoA (l.take n) p<=aoA l p
 | [],n,p,_=>by rw[List.take_nil];exact aA _
 |x::l,0,p,h=>atG _ _ h
 |x::l,n+1,p,h=>by
  rw[aD,aoA,aoA];exact axJ l n _ fun y a=>h y (by simp[a])
def aRI (c:Cal)(m:apn)(fs:List Int)(es:Option (List (DV×DV)))(d:Dt)(hl:c.cy.length<=1000000)(j:∀n∈c.cy,n≠0)(hf:∀x∈fs,0<=x/\x<=10000000)(b:0<=d.y/\d.y.toNat<fs.length)(o:1<=d.m/\d.m<=12)(hd:1<=d.d/\d.d<=31):Pure C 100 [aK4 c m fs es,d.dv] (pI (aw3 c fs d)) []:=by
 have f:a7 .i64 (d.m - 1)=d.m - 1:=anI (by omega);have b1:=hf _ (getD_mem b.2);have p:aoA (anV (c.leap d.y)) 0<=366:=by have:=aq7 (c.leap d.y);unfold asl at this;rw[this];split<;>decide
 have k:=axJ (anV (c.leap d.y)) (d.m - 1).toNat 0 fun x a=>by have:=aqW _ x a;omega
 have l:=atG ((anV (c.leap d.y)).take (d.m - 1).toNat) 0 fun x a=>by have:=aqW _ x (aB a);omega
 have g:a7 .i64 (fs.getD d.y.toNat default+aoA ((anV (c.leap d.y)).take (d.m - 1).toNat) 0)=fs.getD d.y.toNat default+aoA ((anV (c.leap d.y)).take (d.m - 1).toNat) 0:=anI (by omega);have h:a7 .i64 (fs.getD d.y.toNat default+aoA ((anV (c.leap d.y)).take (d.m - 1).toNat) 0+d.d)=fs.getD d.y.toNat default+aoA ((anV (c.leap d.y)).take (d.m - 1).toNat) 0+d.d:=anI (by omega);have i:a7 .i64 (fs.getD d.y.toNat default+aoA ((anV (c.leap d.y)).take (d.m - 1).toNat) 0+d.d - 1)=fs.getD d.y.toNat default+aoA ((anV (c.leap d.y)).take (d.m - 1).toNat) 0+d.d - 1:=anI (by omega);refine am6 awf anO ?_;simp only[awf,anO,atw,arU,Q,b.1,b.2,getD_map,anM,RN,F,H,O];have e:=aJb c m fs es d.y hl j;rw[atw]at e;refine anE e ?_;(try simp only[RN,F,H,I,J,N,O]);refine anE (aBS _) ?_;simp only[f,RN];rw[auG (by intro x a;simp only[an]at a;obtain⟨y,_,rfl⟩:=a;rfl) (by omega) (by rw[Q,arZ];omega)];rw[<-List.map_take];(try simp only[RN,F,H,I,J,N,O]);refine aoQ rfl rfl (aRQ _ (by rw[aU,arZ];omega) (fun x a=>by have:=aqW _ x (aB a);omega) (by omega)) ?_;simp only[g,h,i,aw3,RN]
def Fs.bad (f:Fs):Bool:=if f.mv then f.mo !=0||f.da !=0|| !inR f.af (-60) 60 else f.af !=0|| !inR f.mo 1 12|| !inR f.da 1 31
def aXs (f:Fs):Pure C 195 [f.dv] (.d (.bool f.bad)) []:=by
 refine am6 avp anN ?_;simp only[avp,anN,ayW,RN,F,H,O]
 repeat' first
  |(refine anE (aAg _ _ _) ?_;try simp only[RN])
  |(refine an7 (by rfl) (fun a=> ?_) (fun a=> ?_)<;>simp only[a,RN,F,H,O])
  |(refine aob (by rfl) (fun a=> ?_) (fun a=> ?_)<;>simp only[a,RN,F,H,O])
 all_goals(simp_all[Fs.bad];done)
def aqb (l:List Fs):Bool:=decide (l.length<=6)&& !l.any Fs.bad
def aJW (ex:Bool)(l:List Fs):Pure C 102 [.slice ex (l.map Fs.dv)] (.d (.bool (aqb l))) []:=by
 refine am6 awQ anN ?_;simp only[awQ,anN,Q,RN,F]
 by_cases h:l.length<=6
 ·have a:(l.length:Int)<=6:=by omega
  simp only[a,RN,F];refine aoQ rfl rfl (aHn l 195 [] Fs.bad (by omega) (by kernel_rfl) fun x _=>aXs x) ?_;(try simp only[RN]);simp[aqb,h]
 ·have a:¬(l.length:Int)<=6:=by omega
  simp only[a,RN,F];simp[aqb,h]
section
variable {C:Ctx}{base:Nat}{KP:DV->Mem->Prop}
def aFF {i:Nat}{bs:List (Option (List PV))}{fz:List Nat}{ar:List (Option Arr)}{L:PV->Mem->Prop}:anG C base (.mkMap i) [] ⟨bs,fz,ar⟩ L KP=(bs[base+i]?=some none/\L (.mref (base+i)) ⟨bs.set (base+i) (some [.apZ []]),fz,ar⟩):=px
def ap8 {f:FuncId}{args:List PV}{M:Mem}{ds ds':List DV}{x:DV}{K:PV->Mem->Prop}(h1:aos M args=some ds)(h2:ds.map DV.strip=ds')(b:Pure C f ds' (.d x) [])(hx:av2 x=true)(a:K (.d x) M):anG C base (.apl f) args M K KP:=
 ⟨ds,h1,x,h2▸b,hx,a⟩
end
def axl {bs:List (Option (List PV))}{fz:List Nat}{ar:List (Option Arr)}{k ver b st:Nat}{xs:List DV}{es:List (DV×DV)}{a c e f g:DV}(h:ar[k]?=some (some ⟨1,xs,ver,st⟩))(hb:bs[b]?=some (some [.apZ es])):
  datum ⟨bs,fz,ar⟩ (.agg [.d a, .d c, .d e, .d f, .d g, .tsl k ver 0, .mref b])=some (.agg [a,c,e,f,g, .slice false xs, .map (some es)]):=by
 simp[datum,aoi,aoO,Mem.row,Mem.box,h,hb]
variable{M:Mem}{p:PV}{d:DV}
def asU {y:DV}(h:datum M p=some d):aos M [p, .d y]=some [d,y]:=by
 simp only[aos,h];simp[datum]
def asT (h:datum M p=some d):aos M [p]=some [d]:=by
 simp[aos,h]
def Cal.first (c:Cal):Nat->Int
 |0=>c.ep
 |y+1=>c.first y+asl (c.leap y)
def Cal.firsts (c:Cal)(n:Nat):List Int:=(aK n).map c.first
def Cal.ap5 (c:Cal)(y:Nat):c.ep+365*y<=c.first y/\c.first y<=c.ep+366*y:=by
 induction y with
 |zero=>simp[Cal.first]
 |succ y a=>
  rw[Cal.first,aq7]
  split<;>omega
def Cal.aD2 (c:Cal)(n:Nat):c.firsts (n+1)=c.firsts n++ [c.first n]:=by simp[Cal.firsts,aM]
def opC:Nat->PV
 |0=> .d (.slice true [])
 |i+1=> .tsl 0 i 0
def opA (c:Cal):Nat->List (Option Arr)
 |0=>[]
 |i+1=>[some ⟨1,(c.firsts (i+1)).map anF,i,0⟩]
def aVB (c:Cal)(m:apn)(i:Nat):St:=
 ⟨[(4, .ptr 2 0),(5, .ptr 4 0),(6,pI (c.first i)),(14,pI i)],
  ⟨[some [pI c.ep, .d (sF (c.cy.map anF))],some [pI m.n,pI m.d,pI m.ad],
   some [pI 0, .d (.slice true []),pI 0,pI 0,pI 0, .d (.slice true []), .d (.map none)],
   some [.apZ []],some [pI c.ep, .d (sF (c.cy.map anF)),pI m.n,pI m.d,pI m.ad,opC i, .mref 3]],[1,0],opA c i⟩⟩
def aSS (c:Cal)(m:apn)(hc:c.ok=true):Pure C 98 [c.dv,m.dv] (.d (aK4 c m (c.firsts 4002) (some []))) []:=by
 obtain⟨q,r,l⟩:=Cal.facts hc;refine an9 (anJ avK aJx ?_);simp only[avK,aJx,aoJ,apz,aFF,aAZ,aHG,Z,aoq,aoI,aBY,RN,F,H,J,O];refine anL 4002 (fun i (_:Unit)=>aVB c m i) (fun i _=>True) 0 () (V _) rfl trivial (fun i a h1 g=> ?_) (fun a g=> ?_)
 ·have h2:(i:Int)<4002:=by omega
  have k:a7 .i64 ((i:Int)+1)=((i+1:Nat):Int):=by rw[anI (by omega)];omega
  have p:=c.ap5 i;have e:=c.ap5 (i+1);rw[Cal.first]at e;have j:a7 .i64 (c.first i+asl (c.leap i))=c.first i+asl (c.leap i):=anI (by omega);have hd:=aOv c m (c.firsts (i+1)) (some []) i (by omega) (fun n h=>by have:=l n h;omega);rw[atw]at hd
  rcases i with _|i
  ·simp only[aVB,opC,opA,h2,aor,aox,an6,Z,aoq,DV.strip,fits_int,forall_eq,RN,F,H,I,J,N,O]
   (repeat(refine W (by first|assumption|rfl|(simp;done)|(simp;omega)) ?_))
   refine ap8 (by rfl) (by rfl) hd rfl ?_;simp only[j,k,RN];exact anT (len:=4002) (i:=0) () h1 rfl trivial
  ·simp only[aVB,opC,opA,h2,aor,aox,an6,Z,aoq,DV.strip,fits_int,forall_eq,RN,F,H,J,N,O]
   have b:(c.firsts (i+1)).length=i+1:=by simp[Cal.firsts]
   have f:(c.firsts (i+1)).map anF++ [dI (c.first (i+1))]=(c.firsts (i+1+1)).map anF:=by rw[c.aD2 (i+1),aw];rfl
   rw[f,Q,b]
   (repeat(refine W (by first|assumption|rfl|(simp;done)|(simp;omega)) ?_))
   refine ap8 (asU (axl rfl rfl)) rfl hd rfl ?_;simp only[j,k,RN];exact anT (len:=4002) (i:=i+1) () h1 rfl trivial
 ·have o:¬((4002:Nat):Int)<4002:=by omega
  simp only[aVB,opC,opA,o,aox,an6,Z,aoq,aoI,aBY,RN,F,H,J,O];rw[atw];exact axl rfl rfl
def asj (n b:Int)(hb:0<b):aoE n b*b<=n/\n<(aoE n b+1)*b:=by
 have h:=aN n b;have h1:=ap n hb;have h2:=Int.lt_tmod_of_pos n hb;have d:n.tdiv b*b=b*n.tdiv b:=Int.mul_comm _ _;unfold aoE
 split
 ·have c:(n.tdiv b - 1)*b=n.tdiv b*b - b:=by rw[aZ];omega
  have a:(n.tdiv b - 1+1)*b=n.tdiv b*b:=by rw[show n.tdiv b - 1+1=n.tdiv b by omega]
  omega
 ·have a:(n.tdiv b+1)*b=n.tdiv b*b+b:=by rw[ax];omega
  omega
def aHV {n b q:Int}(hb:0<b)(h1:q*b<=n)(h2:n<(q+1)*b):aoE n b=q:=by
 obtain⟨e,f⟩:=asj n b hb;have c:aoE n b<q+1:=ah (a:=b) (by omega) (by omega);have d:q<aoE n b+1:=ah (a:=b) (by omega) (by omega);omega
def aH5 (m:apn)(q:m.ok=true)(n:Int):∃j:Nat,j<=44/\avD m (n+j)=13:=by
 obtain⟨hd,z,y⟩:=m.facts q;have b:0<m.n:=by omega
 have l:0<m.d:=by omega
 obtain⟨K,o⟩:∃K,K=aoE ((n+1)*m.d - 1 - m.ad) m.n:=⟨_,rfl⟩
 obtain⟨g,h⟩:=asj ((n+1)*m.d - 1 - m.ad) m.n b;rw[<-o]at g h;obtain⟨s,c⟩:∃s,s=aoE ((K+1)*m.n+m.ad) m.d:=⟨_,rfl⟩
 obtain⟨i,k⟩:=asj ((K+1)*m.n+m.ad) m.d l;rw[<-c]at i k;have e:(K+1)*m.n=K*m.n+m.n:=by rw[ax];omega
 have t:(n+1)*m.d=n*m.d+m.d:=by rw[ax];omega
 have u:(s+1)*m.d=s*m.d+m.d:=by rw[ax];omega
 have v:(n+32)*m.d=n*m.d+32*m.d:=by rw[ax]
 have b1:n+1<s+1:=ah (a:=m.d) (by omega) (by omega);have r:s<n+32:=ah (a:=m.d) (by omega) (by omega);refine⟨(s+13 - n).toNat,by omega,?_⟩;have f:n+((s+13 - n).toNat:Int)=s+13:=by omega
 rw[f];have w:(s+13+1)*m.d=s*m.d+14*m.d:=by rw[show s+13+1=s+14 by omega,ax]
 have x:(K+1+1)*m.n=K*m.n+m.n+m.n:=by rw[ax,e];omega
 have p:aoE ((s+13+1)*m.d - 1 - m.ad) m.n=K+1:=aHV b (by omega) (by omega);unfold avD;rw[p,<-c];omega
def asN (m:apn):Nat->Int->Int
 |0,n=>n
 |k+1,n=>if avD m n=13 then n else asN m k (n+1)
def apn.full (m:apn)(n:Int):Int:=asN m 45 n
def aKr {m:apn}{k:Nat}{n:Int}(h:avD m n=13):asN m k n=n:=by
 cases k with
 |zero=>rfl
 |succ k=>rw[asN,if_pos h]
def aH4 (m:apn):∀(k:Nat) (n:Int),n<=asN m k n/\asN m k n<=n+k
 |0,n=>⟨aA _,by simp[asN]⟩
 |k+1,n=>by
  rw[asN]
  split
  ·omega
  ·have:=aH4 m k (n+1)
   omega
def sunday (c:Cal)(m:apn)(y:Int):Int:=let n:=m.full (aw3 c (c.firsts 4002) ⟨y,3,21⟩);n+(7 - wd n)
def aOc (c:Cal)(m:apn)(y:Int)(es:List (DV×DV)):Prop:=es=[]\/es=[(.agg [dI y,dI 3,dI 21],dI (sunday c m y))]
def ayQ (c:Cal)(m:apn)(y:Int):List (DV×DV):=[(.agg [dI y,dI 3,dI 21],dI (sunday c m y))]
def avQ (c:Cal)(hc:c.ok=true):∀x∈c.firsts 4002,0<=x/\x<=10000000:=by
 obtain⟨b,_,_⟩:=Cal.facts hc;intro x a;simp only[Cal.firsts,an,List.mem_range]at a;obtain⟨i,d,rfl⟩:=a;have:=c.ap5 i;omega
section
variable {C:Ctx}{base:Nat}{KP:DV->Mem->Prop}
variable{ks:List Nat}{b:Nat}{M:Mem}{K:PV->Mem->Prop}
def aF9 {ok:Bool}{z:DV}{k:DV}(l:List (DV×DV))(r:Option DV)(hb:M.box b=some [.apZ l])(h1:apO ks k k=some true)(h2:asP ks l k=some r)(a:K (.d (ay4 ok z r)) M):
  anG C base (.aAd ok ks z) [.mref b, .d k] M K KP:=by
 simp only[anG,hb,h1,h2];exact a
def aYk {k:List DV}{v:DV}(l a:List (DV×DV))(hb:M.box b=some [.apZ l])(hf:b∉M.fz)(h1:aoR ks k k=some true)(h2:aBT ks l k v=some a)(c:K .dead {M with boxes:=M.boxes.set b (some [.apZ a])}):
  anG C base (.aNj ks) [.mref b, .d (.agg k), .d v] M K KP:=by
 simp only[anG,hb,h1,h2];exact⟨hf,c⟩
end
def aWI (y:Int):aoR [1,1,1] [dI y,dI 3,dI 21] [dI y,dI 3,dI 21]=some true:=by simp[aoR]
def aM9 (y:Int):apO [1,1,1] (.agg [dI y,dI 3,dI 21]) (.agg [dI y,dI 3,dI 21])=some true:=by
 simp only[apO,aWI];rfl
def auH (c:Cal)(n:Nat):(c.firsts n).length=n:=by simp[Cal.firsts]
def aMx (c:Cal)(fs:List Int)(d:Dt)(hf:∀x∈fs,0<=x/\x<=10000000)(f:d.y.toNat<fs.length)(hd:1<=d.d/\d.d<=31):0<=aw3 c fs d/\aw3 c fs d<=10000400:=by
 have b1:=hf _ (getD_mem f);have g:aoA (anV (c.leap d.y)) 0<=366:=by have:=aq7 (c.leap d.y);unfold asl at this;rw[this];split<;>decide
 have b:=axJ (anV (c.leap d.y)) (d.m - 1).toNat 0 fun x a=>by have:=aqW _ x a;omega
 have e:=atG ((anV (c.leap d.y)).take (d.m - 1).toNat) 0 fun x a=>by have:=aqW _ x (aB a);omega
 unfold aw3;omega
variable{x0 x1 x2 x3 x4 x6:Option (List PV)}
def aQR {x7 x8 x9:Option (List PV)}{fz:List Nat}{A1 A2:Option Arr}(c:Cal)(m:apn)(y:Int)(es:List (DV×DV))(hc:c.ok=true)(v:m.ok=true)(Q:0<=y/\y<=4000)(r:aOc c m y es)(s:5∉fz)(g:∀i∈fz,i<10):
  ∃M',SC C 196 [.agg [pI c.ep, .d (sF (c.cy.map anF)),pI m.n,pI m.d,pI m.ad, .tsl 0 4001 0, .mref 5],pI y]
   ⟨[x0,x1,x2,x3,x4,some [.apZ es],x6,x7,x8,x9],fz,[some ⟨1,(c.firsts 4002).map anF,4001,0⟩,A1,A2]⟩
   (fun p M=>p= .d (dI (sunday c m y))/\M=M') (fun _ _=>False)/\M'.boxes.take 10=[x0,x1,x2,x3,x4,some [.apZ (ayQ c m y)],x6,x7,x8,x9]/\M'.fz=fz/\M'.anK=[some ⟨1,(c.firsts 4002).map anF,4001,0⟩,A1,A2]:=by
 obtain⟨G,L,z⟩:=Cal.facts hc;refine⟨⟨[x0,x1,x2,x3,x4,some [.apZ (ayQ c m y)],x6,x7,x8,x9,some [pI c.ep, .d (sF (c.cy.map anF)),pI m.n,pI m.d,pI m.ad, .tsl 0 4001 0, .mref 5],some [pI y,pI 3,pI 21]],fz,[some ⟨1,(c.firsts 4002).map anF,4001,0⟩,A1,A2]⟩,?_,rfl,rfl,rfl⟩;have a1g:10∉fz:=fun h=>by have:=g _ h;omega
 have a0j:11∉fz:=fun h=>by have:=g _ h;omega
 refine anJ auu anO ?_;simp only[auu,anO,aoI,axW,a0j,RN,F,H,O]
 rcases r with rfl|rfl
 ·refine aF9 [] none rfl (aM9 y) rfl ?_
  simp only[ay4,cond_true,Option.getD_none,aE,RN,F,H,O];have k:(c.firsts 4002).length=4002:=by simp[Cal.firsts]
  have hd:=aRI c m (c.firsts 4002) (some []) ⟨y,3,21⟩ (by omega) (fun n h=>by have:=z n h;omega) (avQ c hc) (by rw[k];simp only;omega) (by simp only;omega) (by simp only;omega);rw[atw,arU]at hd;obtain⟨b,f⟩:∃b,b=aw3 c (c.firsts 4002) ⟨y,3,21⟩:=⟨_,rfl⟩
  rw[<-f]at hd;have A:0<=b/\b<=10000400:=by rw[f];exact aMx c _ _ (avQ c hc) (by rw[k];simp only;omega) ⟨by simp only;omega,by simp only;omega⟩
  refine ap8 (asU (axl rfl rfl)) rfl hd rfl ?_;(try simp only[RN,F,H,I,J,N,O]);obtain⟨j,K,t⟩:=aH5 m v b;refine apW (fun i:Nat=>⟨[(2, .ptr 10 0),(5, .ptr 11 0),(8,pI (b+i))],⟨[x0,x1,x2,x3,x4,some [.apZ []],x6,x7,x8,x9,some [pI c.ep, .d (sF (c.cy.map anF)),pI m.n,pI m.d,pI m.ad, .tsl 0 4001 0, .mref 5],some [pI y,pI 3,pI 21]],fz,[some ⟨1,(c.firsts 4002).map anF,4001,0⟩,A1,A2]⟩⟩)
   (fun i=>i<=j/\m.full b=asN m (45 - i) (b+i)) (fun i=>j - i) 0 (by simp) ⟨V _,by simp[apn.full]⟩ ?_
  rintro i ⟨x,l⟩;have u:=aYM m (b+i) v (by omega);rw[apz]at u;(try simp only[RN,F,H,O]);refine anE u ?_
  by_cases e:avD m (b+i)=13
  ·have a0m:m.full b=b+i:=by rw[l,aKr e]
   simp only[e,bne_self_eq_false,RN,F,H];have D:=aQY (b+i) (by omega);refine anE D ?_;have R:0<=wd (b+i):=aC 7 (by omega);have S:wd (b+i)<7:=ap _ (by decide);have q:a7 .i64 (7 - wd (b+i))=7 - wd (b+i):=anI (by omega);have w:a7 .i64 (b+i+(7 - wd (b+i)))=b+i+(7 - wd (b+i)):=anI (by omega);simp only[q,w,RN,H,O];have o:sunday c m y=b+i+(7 - wd (b+i)):=by simp only[sunday,<-f,a0m]
   refine aYk [] (ayQ c m y) rfl s (aWI y) (by rw[ayQ,o];rfl) ?_;(try simp only[RN]);rw[o]
  ·have q:a7 .i64 (b+i+1)=b+((i+1:Nat):Int):=by rw[anI (by omega)];omega
   have aZY:(avD m (b+i) !=13)=true:=by simp[e]
   simp only[aZY,q,RN,F,H];have B:i≠j:=by rintro rfl;exact e t
   refine aun (μ:=fun i=>j - i) (a:=i) (E:=fun i:Nat=>⟨[(2, .ptr 10 0),(5, .ptr 11 0),(8,pI (b+i))],⟨[x0,x1,x2,x3,x4,some [.apZ []],x6,x7,x8,x9,some [pI c.ep, .d (sF (c.cy.map anF)),pI m.n,pI m.d,pI m.ad, .tsl 0 4001 0, .mref 5],some [pI y,pI 3,pI 21]],fz,[some ⟨1,(c.firsts 4002).map anF,4001,0⟩,A1,A2]⟩⟩) (P:=fun i=>i<=j/\m.full b=asN m (45 - i) (b+i)) (i+1) (by omega) rfl ⟨by omega,?_⟩;rw[l,show 45 - i=(45 - (i+1))+1 by omega,asN,if_neg e]
   congr 1
   omega
 ·refine aF9 (ayQ c m y) (some (dI (sunday c m y))) rfl (aM9 y) ?_ ?_
  ·simp only[ayQ,asP,aM9]
  simp only[ay4,cond_true,aJ,aF,RN,F]
  rfl
def aYn (c:Cal)(m:apn):PV:= .agg [pI c.ep, .d (sF (c.cy.map anF)),pI m.n,pI m.d,pI m.ad, .tsl 0 4001 0, .mref 5]
def aOx (x0 x1:Option (List PV))(c:Cal)(m:apn)(i:Nat):St:=
 ⟨[(4, .ptr 4 0),(5, .ptr 6 0),(6,pI (c.first i)),(14,pI i)],
  ⟨[x0,x1,some [pI c.ep, .d (sF (c.cy.map anF))],some [pI m.n,pI m.d,pI m.ad],
   some [pI 0, .d (.slice true []),pI 0,pI 0,pI 0, .d (.slice true []), .d (.map none)],
   some [.apZ []],some [pI c.ep, .d (sF (c.cy.map anF)),pI m.n,pI m.d,pI m.ad,opC i, .mref 5]],[3,2,1,0],opA c i⟩⟩
def aVC (c:Cal)(m:apn)(hc:c.ok=true):SC C 98 [.d c.dv, .d m.dv] ⟨[x0,x1],[1,0],[]⟩ (fun p M=>p=aYn c m/\∃x2 x3 x4 x6,(∀x∈[x2,x3,x4,x6],∀n k,7<=n->1<=k->((x.getD []).all fun p=>p.upto n k)=true)/\M=⟨[x0,x1,x2,x3,x4,some [.apZ []],x6],[3,2,1,0],[some ⟨1,(c.firsts 4002).map anF,4001,0⟩]⟩) (fun _ _=>False):=by
 obtain⟨u,v,s⟩:=Cal.facts hc;refine anJ avK aJx ?_;simp only[avK,aJx,aoJ,apz,aFF,aAZ,aHG,Z,aoq,aoI,aBY,RN,F,H,J,O];refine anL 4002 (fun i (_:Unit)=>aOx x0 x1 c m i) (fun i _=>True) 0 () (V _) rfl trivial (fun i a h1 g=> ?_) (fun a g=> ?_)
 ·have h2:(i:Int)<4002:=by omega
  have r:a7 .i64 ((i:Int)+1)=((i+1:Nat):Int):=by rw[anI (by omega)];omega
  have t:=c.ap5 i;have e:=c.ap5 (i+1);rw[Cal.first]at e;have l:a7 .i64 (c.first i+asl (c.leap i))=c.first i+asl (c.leap i):=anI (by omega);have hd:=aOv c m (c.firsts (i+1)) (some []) i (by omega) (fun n h=>by have:=s n h;omega);rw[atw]at hd
  rcases i with _|i
  ·simp only[aOx,opC,opA,h2,aor,aox,an6,Z,aoq,DV.strip,fits_int,forall_eq,RN,F,H,I,J,N,O]
   (repeat(refine W (by first|assumption|rfl|(simp;done)|(simp;omega)) ?_))
   refine ap8 (by rfl) (by rfl) hd rfl ?_;simp only[l,r,RN];exact anT (len:=4002) (i:=0) () h1 rfl trivial
  ·simp only[aOx,opC,opA,h2,aor,aox,an6,Z,aoq,DV.strip,fits_int,forall_eq,RN,F,H,J,N,O]
   have b:(c.firsts (i+1)).length=i+1:=by simp[Cal.firsts]
   have f:(c.firsts (i+1)).map anF++ [dI (c.first (i+1))]=(c.firsts (i+1+1)).map anF:=by rw[c.aD2 (i+1),aw];rfl
   rw[f,Q,b]
   (repeat(refine W (by first|assumption|rfl|(simp;done)|(simp;omega)) ?_))
   refine ap8 (asU (axl rfl rfl)) rfl hd rfl ?_;simp only[l,r,RN];exact anT (len:=4002) (i:=i+1) () h1 rfl trivial
 ·have j:¬((4002:Nat):Int)<4002:=by omega
  simp only[aOx,opC,opA,j,aox,an6,Z,aoq,aoI,aBY,RN,F,H,J,O];refine⟨rfl,_,_,_,_,?_,rfl⟩;intro x j n k h1 h2;have o:5<n:=by omega
  have q:0<k:=by omega
  rcases j with rfl|rfl|rfl|rfl
  ·rfl
  ·rfl
  ·simp[PV.upto,o,q]
  ·simp[PV.upto,o,q]
variable{M:Mem}{y:DV}
def aHS {p:PV}{d:DV}(h:datum M p=some d):aos M [p, .d y]=some [d,y]:=asU h
def aIC (c:Cal)(m:apn)(y:Int)(hc:c.ok=true)(a:0<=y/\y<=4000):0<=sunday c m y/\sunday c m y<=10000500:=by
 have h1:=aMx c (c.firsts 4002) ⟨y,3,21⟩ (avQ c hc) (by rw[auH];simp only;omega) (by simp only;omega);have h2:=aH4 m 45 (aw3 c (c.firsts 4002) ⟨y,3,21⟩);have b:0<=wd (m.full (aw3 c (c.firsts 4002) ⟨y,3,21⟩)):=aC 7 (by unfold apn.full;omega);have d:wd (m.full (aw3 c (c.firsts 4002) ⟨y,3,21⟩))<7:=ap _ (by decide);simp only[sunday];unfold apn.full at*;omega
def aqT (c:Cal)(m:apn)(y:Int)(f:Fs):Int:=if f.mv then sunday c m y+f.af else if aqt c ⟨y,f.mo,f.da⟩then aw3 c (c.firsts 4002) ⟨y,f.mo,f.da⟩else -1
def Fs.facts {f:Fs}(h:f.bad=false):(f.mv=true-> -60<=f.af/\f.af<=60)/\(f.mv=false->(1<=f.mo/\f.mo<=12)/\1<=f.da/\f.da<=31):=by
 unfold Fs.bad at h;cases a:f.mv<;>simp[a,inR]at h<;>simp<;>omega
def aPO {ex:Bool}(c:Cal)(m:apn)(l:List Fs)(y:Int)(hc:c.ok=true)(hm:m.ok=true)(R:0<=y/\y<=4000)(hl:l.length<=6)(hb:∀f∈l,f.bad=false)(hx:∀x∈[x0,x1,x2,x3,x4,x6],∀n k,7<=n->1<=k->((x.getD []).all fun p=>p.upto n k)=true):
  SC C 104 [aYn c m, .d (.slice ex (l.map Fs.dv)),pI y] ⟨[x0,x1,x2,x3,x4,some [.apZ []],x6],[3,2,1,0],[some ⟨1,(c.firsts 4002).map anF,4001,0⟩]⟩
   (fun p M=>aBn M p 1 ((l.map (aqT c m y)).map anF) 0) (fun _ _=>False):=by
 obtain⟨he,Z,P⟩:=Cal.facts hc;refine anJ aus atF ?_;simp only[aus,atF,aYn,aoI,axW,Q,RN,F,H,N];refine anL l.length (fun i (es:List (DV×DV))=>⟨[(2,pI y),(3, .ptr 7 0),(7, .tsl 2 i 0),(12, .d (.slice ex (l.map Fs.dv))),(13,pI l.length),(14,pI i)],
   ⟨[x0,x1,x2,x3,x4,some [.apZ es],x6,some [pI c.ep, .d (sF (c.cy.map anF)),pI m.n,pI m.d,pI m.ad, .tsl 0 4001 0, .mref 5]],[3,2,1,0],
    [some ⟨1,(c.firsts 4002).map anF,4001,0⟩,some ⟨1,[],0,0⟩,some ⟨1,((l.take i).map (aqT c m y)).map anF,i,0⟩]⟩⟩)
  (fun i es=>aOc c m y es) 0 [] (V _) rfl (.inl rfl) (fun i es h1 b=> ?_) (fun es b=> ?_)
 ·obtain⟨h2,Y,r⟩:=rng h1 (by omega)
  have L:=Fs.facts (hb _ (getD_mem h1));have g:((l.take i).map (aqT c m y)).map anF++ [dI (aqT c m y (l.getD i default))]=((l.take (i+1)).map (aqT c m y)).map anF:=by
   rw[anR h1];simp[anF]
  have ac:(((l.take i).map (aqT c m y)).map anF).length<=6:=by simp;omega
  have a:(aqT c m y (l.getD i default))=(if(l.getD i default).mv then sunday c m y+(l.getD i default).af else if aqt c ⟨y,(l.getD i default).mo,(l.getD i default).da⟩then aw3 c (c.firsts 4002) ⟨y,(l.getD i default).mo,(l.getD i default).da⟩else -1):=rfl;have ah:=aIC c m y hc R;have t:=hx x0 (by simp) 8 3 (by omega) (by omega);have u:=hx x1 (by simp) 8 3 (by omega) (by omega);have v:=hx x2 (by simp) 8 3 (by omega) (by omega);have w:=hx x3 (by simp) 8 3 (by omega) (by omega);have z:=hx x4 (by simp) 8 3 (by omega) (by omega);have A:=hx x6 (by simp) 8 3 (by omega) (by omega);simp only[h2,Y,h1,ayW,getD_map,U,Q,RN,F,H,J,O];cases e:(l.getD i default).mv
  ·obtain⟨B,D⟩:=L.2 e
   rw[e]at a;simp only[ae,if_false]at a;have hd:=aKB c m (c.firsts 4002) (some es) ⟨y,(l.getD i default).mo,(l.getD i default).da⟩ (by omega) (fun n h=>by have:=P n h;omega);rw[atw,arU]at hd;(try simp only[RN,F,H,O]);refine ap8 (aHS (axl rfl rfl)) rfl hd rfl ?_;cases o:aqt c ⟨y,(l.getD i default).mo,(l.getD i default).da⟩
   ·rw[o]at a
    simp only[ae,if_false]at a;simp only[DV.strip,fits_int,forall_eq,RN,F,H,J,N,O]
    (repeat(refine W (by first|assumption|rfl|(simp;done)|(simp;omega)) ?_))
    rw[<-a,g,r];exact ao7 8 3 es h1 rfl b (by decide) (by decide) rfl (by simp only[aD,aP,aQ,t,u,v,w,z,A];rfl)
   ·rw[o]at a
    simp only[if_true]at a;(try simp only[RN,F,H,O]);have j:=aRI c m (c.firsts 4002) (some es) ⟨y,(l.getD i default).mo,(l.getD i default).da⟩ (by omega) (fun n h=>by have:=P n h;omega) (avQ c hc) (by rw[auH];simp only;omega) B D;rw[atw,arU]at j;refine ap8 (aHS (axl rfl rfl)) rfl j rfl ?_;simp only[DV.strip,fits_int,forall_eq,RN,H,J,N,O]
    (repeat(refine W (by first|assumption|rfl|(simp;done)|(simp;omega)) ?_))
    rw[<-a,g,r];exact ao7 8 3 es h1 rfl b (by decide) (by decide) rfl (by simp only[aD,aP,aQ,t,u,v,w,z,A];rfl)
  ·obtain⟨B,D⟩:=L.1 e
   rw[e]at a;simp only[if_true]at a;have T:a7 .i64 (sunday c m y+(l.getD i default).af)=sunday c m y+(l.getD i default).af:=anI (by omega);(try simp only[RN,F,H,N,O]);obtain⟨⟨q,X,S⟩,s,E,G,I⟩:=aQR (x0:=x0) (x1:=x1) (x2:=x2) (x3:=x3) (x4:=x4) (x6:=x6) (x7:=some [pI c.ep, .d (sF (c.cy.map anF)),pI m.n,pI m.d,pI m.ad, .tsl 0 4001 0, .mref 5])
    (x8:=some [.d (.bool true),pI ((l.getD i default).mo),pI ((l.getD i default).da),pI ((l.getD i default).af)])
    (x9:=some [pI y,pI ((l.getD i default).mo),pI ((l.getD i default).da)]) (fz:=[8,3,2,1,0])
    (A1:=some ⟨1,[],0,0⟩) (A2:=some ⟨1,((l.take i).map (aqT c m y)).map anF,i,0⟩) c m y es hc hm R b (by decide) (by decide)
   simp only at E G I;subst G I;refine⟨_,_,s,?_⟩;simp only[T,DV.strip,fits_int,forall_eq,RN,J,O]
   (repeat(refine W (by first|assumption|rfl|(simp;done)|(simp;omega)) ?_))
   have K:q.take 8=[x0,x1,x2,x3,x4,some [.apZ (ayQ c m y)],x6,some [pI c.ep, .d (sF (c.cy.map anF)),pI m.n,pI m.d,pI m.ad, .tsl 0 4001 0, .mref 5]]:=by
    have:=congrArg (List.take 8) E;rw[List.take_take]at this;exact this
   rw[<-a,g,r];exact ao7 8 3 (ayQ c m y) h1 (by rw[K];rfl) (.inr rfl) (by decide) (by decide) rfl (by rw[K];simp only[aQ,t,u,v,w,z,A];rfl)
 ·simp only[ab,RN,F,H]
  rw[aI];exact⟨2,_,rfl,rfl⟩
def auT (c:Cal)(m:apn)(l:List Fs)(y:Int):DV:=
 if c.ok&&m.ok&&aqb l&&inR y 0 4000 then .tup [sF ((l.map (aqT c m y)).map anF),dI 0]else .tup [.slice true [],dI 2]
def atQ {l:List Fs}(h:aqb l=true):l.length<=6/\∀f∈l,f.bad=false:=by
 simp only[aqb,S,decide_eq_true_eq,Bool.not_eq_true']at h;refine⟨h.1,fun f a=> ?_⟩;have:=h.2;rw[List.any_eq_false]at this
 simpa using this f a
def aWo {v:PV}{sz st:Nat}{xs:List DV}{x:DV}(h:aBn M v sz xs st)(a:y= .tup [.slice false xs,x]):datum M (aN0 (apx [v, .d x]) [v, .d x])=some y:=by
 subst a;obtain⟨k,ver,rfl,h⟩:=h;simp[apx,aN0,datum,aoi,aoO,Mem.row,h]
def aJS (c:Cal)(m:apn)(ex:Bool)(l:List Fs)(y:Int)(g:c.cy.length<=1000000):Pure C 31 [c.dv,m.dv, .slice ex (l.map Fs.dv),dI y] (.d (auT c m l y)) []:=by
 refine an9 (anJ azi aJt ?_);simp only[azi,aJt,aoJ,apz,RN,F,H,O];have a:=aI9 c g;have b:=aSr m;rw[aoJ]at a;rw[apz]at b;refine anE a ?_;cases f:c.ok
 ·(try simp only[RN,F,H])
  simp[auT,f,datum]
 ·(try simp only[RN,F,H,O])
  refine anE b ?_;cases q:m.ok
  ·(try simp only[RN,F,H])
   simp[auT,q,datum]
  ·(try simp only[RN,F])
   refine anE (aJW false l) ?_;cases i:aqb l
   ·(try simp only[RN,F,H])
    simp[auT,i,datum]
   ·(try simp only[RN,F])
    refine anE (aIY y) ?_;cases r:inR y 0 4000
    ·(try simp only[RN,F,H])
     simp[auT,r,datum]
    ·(try simp only[RN,F,H,O])
     have s:0<=y/\y<=4000:=by simpa[inR]using r
     obtain⟨j,o⟩:=atQ i;have t:=aVC (x0:=some [pI c.ep, .d (sF (c.cy.map anF))]) (x1:=some [pI m.n,pI m.d,pI m.ad]) c m f;rw[aoJ,apz]at t;refine SC.mono t ?_;rintro p M ⟨rfl,x2,x3,x4,x6,w,rfl⟩;refine SC.mono (aPO c m l y f q s j o ?_) ?_
     ·intro x e n k h1 h2
      simp only[av,List.not_mem_nil,or_false]at e
      rcases e with rfl|rfl|h
      ·rfl
      ·rfl
      ·exact w x (by simpa using h) n k h1 h2
     ·intro v M u
      exact aWo u (by simp[auT,f,q,i,r])
def aKe (c:Cal)(d:Dt):DV:=if c.ok&&aqt c d then .tup [dI (aw3 c (c.firsts 4002) d),dI 0]else .tup [dI 0,dI 2]
def aIW {c:Cal}{d:Dt}(h:aqt c d=true):(0<=d.y/\d.y<=4000)/\(1<=d.m/\d.m<=12)/\1<=d.d/\d.d<=31:=by
 simp only[aqt,S]at h;obtain⟨⟨h1,h2⟩,a⟩:=h;simp only[inR,S,decide_eq_true_eq,ge_iff_le]at h1 h2 a;have b:(d.m - 1).toNat<(anV (c.leap d.y)).length:=by rw[arZ];omega
 have:=aqW _ _ (getD_mem b);omega
def aWw (c:Cal)(d:Dt)(g:c.cy.length<=1000000):Pure C 30 [c.dv,d.dv] (.d (aKe c d)) []:=by
 refine am6 aEg aoj ?_;simp only[aEg,aoj,aoJ,arU,RN,F,H,O];have e:=aI9 c g;rw[aoJ]at e;refine anE e ?_;cases b:c.ok
 ·(try simp only[RN,F,H])
  simp[aKe,b]
 ·(try simp only[RN,F,H,O])
  obtain⟨m,o,i⟩:=Cal.facts b;have j:=aSS c ⟨0,0,0⟩ b;rw[aoJ,apz,atw]at j;refine anE j ?_;(try simp only[RN,F,H,J,O]);have hd:=aKB c ⟨0,0,0⟩ (c.firsts 4002) (some []) d (by omega) (fun n h=>by have:=i n h;omega);rw[atw,arU]at hd;refine anE hd ?_;cases a:aqt c d
  ·(try simp only[RN,F,H])
   simp[aKe,a]
  ·(try simp only[RN,F,H,O])
   obtain⟨p,k,l⟩:=aIW a;have f:=aRI c ⟨0,0,0⟩ (c.firsts 4002) (some []) d (by omega) (fun n h=>by have:=i n h;omega) (avQ c b) (by rw[auH];omega) k l;rw[atw,arU]at f;refine anE f ?_;(try simp only[RN]);simp[aKe,a,b]
section
variable {C:Ctx}{base:Nat}{bs:List (Option (List PV))}{fz:List Nat}{ar:List (Option Arr)}{L:PV->Mem->Prop}{KP:DV->Mem->Prop}
def aXr {k k':IntKind}{a b:Int}:anG C base (.shf .shr) [.d (.int k a), .d (.int k' b)] ⟨bs,fz,ar⟩ L KP=(0<=b/\L (.d (.int k (a.fdiv (2 ^ min b.toNat k.bits)))) ⟨bs,fz,ar⟩):=px
end
def aVl (n:Int):Pure C 343 [dI n] (.d (.bool false)) []:=by
 refine am6 aqO anN ?_;simp only[aqO,anN,RN,F];simp
def aSs (n:Int):Pure C 323 [dI n] (.d (.bool false)) []:=by
 refine am6 aqO anN ?_;simp only[aqO,anN,RN,F];simp
def aYf (a b:Int):Pure C 318 [dI a,dI b] (.d (.bool (decide (a<b)))) []:=by
 refine am6 ayx anO ?_;simp only[ayx,anO,RN,F,H];refine anE (aVl _) ?_;(try simp only[RN,F])
structure aN5 (xs:List Int) (n:Int) (p:Nat):Prop where
 le:p<=xs.length
 lt:∀k,k<p->xs.getD k default<n
 ge:∀k,p<=k->k<xs.length->n<=xs.getD k default
def aWp {n:Nat}(h:n<18446744073709551616):IntKind.u64.wrap (n:Int)=n:=by
 simp only[IntKind.wrap,IntKind.bits,IntKind.signed,aW,ae,if_false];omega
def half (a b:Nat)(h:a<b)(hb:b<=1000000):a7 .i64 (IntKind.u64.wrap (a7 .i64 ((a:Int)+(b:Int)))|>.fdiv (2 ^ min (1:Int).toNat IntKind.u64.bits))=(((a+b) / 2:Nat):Int):=by
 rw[anI (n:=(a:Int)+b) (by omega)];have c:IntKind.u64.wrap ((a:Int)+b)=(a:Int)+b:=by have:=aWp (n:=a+b) (by omega);simpa using this
 rw[c];have d:((a:Int)+b).fdiv (2 ^ min (1:Int).toNat IntKind.u64.bits)=(((a+b) / 2:Nat):Int):=by
  have:(2:Int) ^ min (1:Int).toNat IntKind.u64.bits=2:=by decide
  rw[this,Int.fdiv_eq_ediv_of_nonneg _ (by decide)];omega
 rw[d];exact anI (by omega)
def aPd (xs:List Int)(n:Int)(p:Nat)(hl:xs.length<=1000000)(r:aN5 xs n p):Pure C 293 [sF (xs.map anF),dI n] (.d (.tup [dI p, .bool (decide (p<xs.length/\xs.getD p default=n))])) []:=by
 refine am6 ar9 aoj ?_;simp only[ar9,aoj,Q,RN,F,H];refine apW (fun q:Nat×Nat=>⟨[(0, .d (sF (xs.map anF))),(1,pI n),(6,pI xs.length),(7,pI q.1),(8,pI q.2)],⟨[],[],[]⟩⟩)
  (fun q=>q.1<=p/\p<=q.2/\q.2<=xs.length) (fun q=>q.2 - q.1) (0,xs.length) rfl ⟨V _,r.le,aV _⟩ ?_
 rintro⟨a,b⟩ ⟨s,t,i⟩;simp only at s t i⊢
 by_cases k:a<b
 ·have c:(a:Int)<b:=by omega
  have hh:=half a b k (by omega);obtain⟨h,o⟩:∃h,h=(a+b) / 2:=⟨_,rfl⟩
  rw[<-o]at hh;have u:h<xs.length:=by omega
  have w:(0:Int)<=(h:Int):=by omega
  have x:a7 .i64 ((h:Int)+1)=((h+1:Nat):Int):=by rw[anI (by omega)];omega
  simp only[c,aXr,hh,u,w,Q,getD_map,U,anM,RN,F,O]
  (repeat(refine W (by first|assumption|rfl|(simp;done)|(simp;omega)) ?_))
  refine anE (aYf _ _) ?_
  by_cases g:xs.getD h default<n
  ·simp only[g,x,RN,F]
   refine aun (μ:=fun q:Nat×Nat=>q.2 - q.1) (a:=(a,b)) (h+1,b) (by simp only;omega) rfl ⟨?_,t,i⟩;simp only;refine Nat.lt_of_not_le fun f=> ?_
   have:=r.ge h f u;omega
  ·simp only[g,RN,F]
   refine aun (μ:=fun q:Nat×Nat=>q.2 - q.1) (a:=(a,b)) (a,h) (by simp only;omega) rfl ⟨s,?_,by simp only;omega⟩;simp only;refine Nat.le_of_not_lt fun f=> ?_
   exact g (r.lt h f)
 ·have c:¬(a:Int)<b:=by omega
  obtain rfl:a=p:=by omega
  by_cases e:a<xs.length
  ·have j:(a:Int)<(xs.length:Int):=by omega
   have v:(0:Int)<=(a:Int):=by omega
   by_cases l:xs.getD a default=n
   ·simp only[c,j,v,e,Q,getD_map,U,anM,l,beq_self_eq_true,RN,F,O]
   ·have m:(xs.getD a default==n)=false:=beq_false_of_ne l
    simp only[c,j,v,e,Q,getD_map,U,anM,l,m,RN,F,O];refine anE (aSs _) ?_;(try simp only[RN,F])
  ·have j:¬(a:Int)<(xs.length:Int):=by omega
   simp only[c,j,e,false_and,RN,F]
def axV (c:Cal)(y:Nat):c.first y+365<=c.first (y+1)/\c.first (y+1)<=c.first y+366:=by
 rw[Cal.first,aq7]
 split<;>omega
def atn (c:Cal){a b:Nat}(h:a<=b):c.first a<=c.first b:=by
 induction b with
 |zero=>
  obtain rfl:a=0:=by omega
  exact aA _
 |succ b e=>
  by_cases d:a=b+1
  ·rw[d];exact aA _
  ·have:=e (by omega)
   have:=axV c b;omega
def arW (c:Cal){n k:Nat}(h:k<n):(c.firsts n).getD k default=c.first k:=by
 simp[Cal.firsts,List.getD,h]
def firstAt (c:Cal)(Y:Nat)(day:Int)(e:Y<=4000)(h1:c.first Y<=day)(h2:day<c.first (Y+1)):aN5 (c.firsts 4002) day (if c.first Y=day then Y else Y+1):=by
 have d:=auH c 4002;refine⟨by rw[d];split<;>omega,fun k a=> ?_,fun k a b=> ?_⟩
 ·split at a
  ·rw[arW c (by omega)]
   have:=atn c (show k+1<=Y by omega);have:=axV c k;omega
  ·rw[arW c (by omega)]
   have:=atn c (show k<=Y by omega);omega
 ·rw[d]at b
  rw[arW c (by omega)]
  split at a
  ·have:=atn c (show Y<=k by omega)
   omega
  ·have:=atn c (show Y+1<=k by omega)
   omega
def aEc:List Int->Int->Int->Int×Int
 | [],_,_=>(0,0)
 |n::l,i,left=>if left<n then(i+1,left+1)else aEc l (i+1) (left - n)
def ayT (c:Cal)(Y:Nat)(day:Int):Dt:=let r:=aEc (anV (c.leap Y)) 0 (day - c.first Y);⟨Y,r.1,r.2⟩
def ayo:∀(l:List Int) (p:Int),aoA l p=p+aoA l 0
 | [],p=>by simp[aoA]
 |x::l,p=>by
  rw[aoA,aoA,ayo l (p+x),ayo l (0+x)];omega
def aXd (c:Cal)(m:apn)(es:Option (List (DV×DV)))(Y:Nat)(day:Int)(hc:c.ok=true)(K:Y<=4000)(h1:c.first Y<=day)(h2:day<c.first (Y+1)):Pure C 251 [aK4 c m (c.firsts 4002) es,dI day] (.d (ayT c Y day).dv) []:=by
 obtain⟨j,hl,P⟩:=Cal.facts hc;have k:=auH c 4002;have L:=c.ap5 Y;have z:=c.ap5 (Y+1);refine an9 (anJ avq aTo ?_);simp only[avq,aTo,atw,RN,F,H,O];refine aoQ rfl rfl (aPd (c.firsts 4002) day _ (by omega) (firstAt c Y day K h1 h2)) ?_;have hh:(decide ((if c.first Y=day then Y else Y+1)<(c.firsts 4002).length/\(c.firsts 4002).getD (if c.first Y=day then Y else Y+1) default=day))=decide (c.first Y=day):=by
  by_cases j:c.first Y=day
  ·rw[if_pos j,k,arW c (by omega)];simp[j];omega
  ·rw[if_neg j,k,arW c (by omega)];simp[j];omega
 rw[hh];have B:a7 .i64 (((Y+1:Nat):Int) - 1)=(Y:Int):=by rw[anI (by omega)];omega
 have A:a7 .i64 (day - c.first Y)=day - c.first Y:=anI (by omega);have w:inR (Y:Int) 0 4000=true:=by simp[inR];omega
 have S:(0:Int)<=(Y:Int):=by omega
 have T:Y<(c.firsts 4002).length:=by omega
 have l:=aJb c m (c.firsts 4002) es Y (by omega) (fun n h=>by have:=P n h;omega);rw[atw]at l;have s:=arZ (c.leap Y);have f:∃(q:Nat) (b:Bool),(if c.first Y=day then Y else Y+1)=q/\decide (c.first Y=day)=b/\((b=true/\q=Y)\/(b=false/\q=Y+1)):=by
  by_cases f:c.first Y=day
  ·exact⟨Y,true,if_pos f,decide_eq_true f, .inl ⟨rfl,rfl⟩⟩
  ·exact⟨Y+1,false,if_neg f,decide_eq_false f, .inr ⟨rfl,rfl⟩⟩
 obtain⟨q,b,t,u,v⟩:=f;rw[t,u];have r:=arW c (show Y<4002 by omega)
 rcases v with⟨rfl,o⟩|⟨rfl,o⟩<;>rw[o]
 all_goals
  simp only[B,RN,F,H];refine anE (aIY _) ?_;simp only[w,S,T,U,getD_map,anM,r,A,Q,RN,F,H,O];refine anE l ?_;(try simp only[RN,F,H,I,J,N,O]);refine anE (aBS _) ?_;simp only[Q,s,RN];refine anL 12 (fun i (left:Int)=>⟨[(1,pI day),(4, .ptr 1 0),(5,pI Y),(7,pI left),(37, .d (sF ((anV (c.leap Y)).map anF))),(38, .d (dI ((12:Nat):Int))),(39,pI i)],
    ⟨[some [pI c.ep, .d (sF (c.cy.map anF)),pI m.n,pI m.d,pI m.ad, .d (sF ((c.firsts 4002).map anF)), .d (.map es)],some [pI 0,pI 0,pI 0]],[0],[]⟩⟩)
   (fun i left=>0<=left/\left<=400/\left<aoA ((anV (c.leap Y)).drop i) 0/\aEc (anV (c.leap Y)) 0 (day - c.first Y)=aEc ((anV (c.leap Y)).drop i) i left) 0 (day - c.first Y) (V _) rfl ⟨by omega,by have:=axV c Y;omega,by rw[Cal.first]at h2;simp only[aO];unfold asl at h2;omega,by simp⟩ (fun i left D e=> ?_) (fun left e=> ?_)
  ·obtain⟨W,X,x,g⟩:=e
   have E:(i:Int)<((12:Nat):Int):=by omega
   have G:(0:Int)<=(i:Int):=by omega
   have y:a7 .i64 ((i:Int)+1)=((i+1:Nat):Int):=by rw[anI (by omega)];omega
   have p:i<(anV (c.leap Y)).length:=by omega
   have M:=aqW _ _ (getD_mem p);rw[drop_cons p,aEc]at g;rw[drop_cons p,aoA]at x;have R:=ayo ((anV (c.leap Y)).drop (i+1)) (0+(anV (c.leap Y)).getD i default);have Z:a7 .i64 (left+1)=left+1:=anI (by omega);have u2:a7 .i64 (left - (anV (c.leap Y)).getD i default)=left - (anV (c.leap Y)).getD i default:=anI (by omega);simp only[E,G,p,Q,U,getD_map,anM,RN,F,H,O]
   by_cases a:left<(anV (c.leap Y)).getD i default
   ·rw[if_pos a]at g
    simp only[a,y,Z,RN,F,H,J,O];rw[ayT,g,arU]
    rfl
   ·rw[if_neg a]at g
    simp only[a,y,u2,RN,F,H];exact anT (len:=12) (i:=i) (left - (anV (c.leap Y)).getD i default) D rfl ⟨by omega,by omega,by omega,g⟩
  ·obtain⟨W,X,x,g⟩:=e
   rw[List.drop_eq_nil_of_le (by omega),aoA]at x;omega
def aqM:anH:=(r0 [⟨some 2,.alloc 0 [z0],[],none,0⟩] 1 [0,2] [])
def aqN:anH:=(s0 [⟨some 4,.mov,[.t 0],none,0⟩,⟨some 5,.aqg,[.t 4],none,0⟩] 0 [2] [] (s0 [⟨none,.store 1,[.t 2,.c (.int .i64 0)],none,0⟩] 0 [2] [] .ret))
def aqp:anH:=(.block 0 (s0 [⟨some 7,.axX false,[.t 5,.c (.nilIface)],none,0⟩] 0 [0,5,7] [] (cd 7 (r0 [⟨some 1,.mov,[.t 5],none,0⟩] 0 [] []) (s0 [⟨some 8,.tas T.apV (.agg [.nilIface]),[.t 5],none,0⟩,⟨some 9,.ext 1,[.t 8],none,0⟩,⟨some 10,.ext 0,[.t 8],none,0⟩] 0 [0,5,9,10] [] (cd 9 (s0 [⟨some 2,.alloc 0 [.nilIface],[],none,0⟩,⟨none,.store 1,[.t 2,.t 10],none,0⟩] 1 [0] [] (r0 [⟨none,.store 1,[.t 0,.c (.int .i64 7)],none,0⟩] 0 [] [])) (s0 [⟨some 11,.tas T.atf (.agg [ze]),[.t 5],none,0⟩,⟨some 12,.ext 1,[.t 11],none,0⟩,⟨some 13,.ext 0,[.t 11],none,0⟩] 0 [0,5,12,13] [] (cd 12 (s0 [⟨some 3,.alloc 0 [ze],[],none,0⟩,⟨none,.store 1,[.t 3,.t 13],none,0⟩] 1 [0] [] (r0 [⟨none,.store 1,[.t 0,.c (.int .i64 4)],none,0⟩] 0 [] [])) (s0 [⟨some 4,.mov,[.t 5],none,0⟩] 0 [4] [] (r0 [⟨some 6,.mov,[.t 4],none,0⟩,⟨none,.panic,[.t 6],none,0⟩] 0 [] [])))))))))
def aBW:aIU C.P 72 162 1 6 14 2 3 5 aqM aqN aqp=true:=by kernel_rfl
def ayy:anH:=(.block 0 (s0 [⟨some 7,.axX false,[.t 5,.c (.nilIface)],none,0⟩] 0 [0,5,7] [] (cd 7 (r0 [⟨some 1,.mov,[.t 5],none,0⟩] 0 [] []) (s0 [⟨some 8,.tas T.aDc (.agg [z0]),[.t 5],none,0⟩,⟨some 9,.ext 1,[.t 8],none,0⟩,⟨some 10,.ext 0,[.t 8],none,0⟩] 0 [0,5,9,10] [] (cd 9 (s0 [⟨some 2,.alloc 0 [z0],[],none,0⟩,⟨none,.store 1,[.t 2,.t 10],none,0⟩] 1 [0] [] (r0 [⟨none,.store 1,[.t 0,.c (.int .i64 5)],none,0⟩] 0 [] [])) (s0 [⟨some 11,.tas T.aPF (.agg [ze]),[.t 5],none,0⟩,⟨some 12,.ext 1,[.t 11],none,0⟩,⟨some 13,.ext 0,[.t 11],none,0⟩] 0 [0,5,12,13] [] (cd 12 (s0 [⟨some 3,.alloc 0 [ze],[],none,0⟩,⟨none,.store 1,[.t 3,.t 13],none,0⟩] 1 [0] [] (r0 [⟨none,.store 1,[.t 0,.c (.int .i64 4)],none,0⟩] 0 [] [])) (s0 [⟨some 4,.mov,[.t 5],none,0⟩] 0 [4] [] (r0 [⟨some 6,.mov,[.t 4],none,0⟩,⟨none,.panic,[.t 6],none,0⟩] 0 [] [])))))))))
def aK1:aIU C.P 249 292 1 6 14 2 3 5 aqM aqN ayy=true:=by kernel_rfl
end Go.Tel
namespace Go.Am
def aHX {C:Ctx}{base:Nat}{M:Mem}{K:PV->Mem->Prop}{KP:DV->Mem->Prop}{f:FuncId}{fs cs args:List PV}:anG C base .aqg (.func (.func f) fs cs::args) M K KP=(callable C.P f=true/\SC C f (fs++args++cs) M K KP):=px
section
variable {C:Ctx}{base te t5 b:Nat}{pc3:anH}{K:PV->Mem->Prop}{KP:DV->Mem->Prop}{env:List (Nat×PV)}{bs:List (Option (List PV))}{fz:List Nat}{ar:List (Option Arr)}{M:Mem}
def aLS:aYE C te t5 pc3 b K .ret ⟨env,⟨bs,fz,ar⟩⟩=pwp C bs.length ar.length pc3 (ayq te b K) ⟨[(0, .ptr b 0),(t5, .d .nilIface)],⟨bs,fz,ar⟩⟩:=px
def aHc {d:DV}:aYE C te t5 pc3 b K (.panic d) ⟨env,⟨bs,fz,ar⟩⟩=pwp C bs.length ar.length pc3 (ayq te b K) ⟨[(0, .ptr b 0),(t5, .d d)],⟨bs,fz,ar⟩⟩:=px
def au0:ayq te b K .normal ⟨env,⟨bs,fz,ar⟩⟩=aol false 1 (.ptr b 0) ⟨bs,fz,ar⟩ fun v=>K v ⟨bs,fz,ar⟩:=px
variable{neq:Bool}
def aDZ:anG C base (.axX neq) [.d .nilIface, .d .nilIface] M K KP=K (.d (.bool !neq)) M:=px
variable{v:DV}
def aDY {t:TypeId}:anG C base (.axX neq) [.d (.iface t v), .d .nilIface] M K KP=K (.d (.bool neq)) M:=px
variable{z:DV}
def arB {t:TypeId}:anG C base (.tas t z) [.d (.iface t v)] M K KP=K (.d (.tup [v, .bool true])) M:=by simp[anG]
def ao4 {t t':TypeId}(h:(t'==t)=false):anG C base (.tas t z) [.d (.iface t' v)] M K KP=K (.d (.tup [z, .bool false])) M:=by
 have a:¬t'=t:=by simpa using h
 simp[anG,a]
end
end Go.Am
namespace Go.Tel
open Go.Am
def aWU (c:Cal)(Y:Nat)(day:Int)(hc:c.ok=true)(h:Y<=4000)(h1:c.first Y<=day)(h2:day<c.first (Y+1)):Pure C 175 [c.dv,dI day] (.d (.tup [(ayT c Y day).dv,dI 0])) []:=by
 obtain⟨j,k,l⟩:=Cal.facts hc;have i:=c.ap5 Y;have e:=c.ap5 (Y+1);have hd:inR day 0 2000000=true:=by simp[inR];omega
 refine am6 aBZ azF ?_;simp only[aBZ,azF,aoJ,RN,F,H,O];have b:=aI9 c (by omega);rw[aoJ,hc]at b;refine anE b ?_;(try simp only[RN,F,O]);refine anE (aRK _) ?_;simp only[hd,arl,Z,aP,aO,RN,F,H];refine aT2 mixed aK1 ?_;simp only[aqM,RN,F,H];refine⟨4,rfl,?_⟩;simp only[aqN,aHX,RN,F,H];refine⟨by kernel_rfl,anJ azh apc ?_⟩;simp only[azh,apc,RN,F,H,O];have f:=aSS c ⟨0,0,0⟩ hc;rw[aoJ,apz,atw]at f;refine anE f ?_;(try simp only[]);have a:=aXd c ⟨0,0,0⟩ (some []) Y day hc h h1 h2;rw[atw,arU]at a;refine anE a ?_;have g:((0:Int) !=0)=false:=rfl;(try simp only[RN,H,J,O]);simp only[aLS,ayy,aDZ,au0,g,RN,F,H,J,O];rw[arU]
def aAp:anH:=(s0 [ba 2 0 0,al 4 1 [z0,z0,z0],mi 5 0] 2 [1,2,4] [2] (sw (sr [lw 9 2 2,oa 10 (.anD 252) 9,oa 11 pN 10,mv 12 11,ow 13 .mov 1 12 0,ow 14 (.anD 253) 13 12 0,ow 15 pN 14 12 0,pt 16 12 15] 0 [1,2,4,16] (cd 16 (sr [on 17 (.build [z0,z0,z0] []) [],sk 3 4 17 0,mi 5 2] 0 [4,5] .ret) .skip)) (sw (sr [fa 18 1 2,lo 19 18,oa 20 .len 19,mi 21 0] 0 [1,2,4,20,21] (lp (sr [ob 22 pL 21 20] 0 [1,2,4,20,21,22] (sw (cx 22 0) (sw (b1 (sr [mv 23 21,mv 6 23] 0 [1,2,4,6,20,21] (s0 [lw 25 2 2,mv 26 6,mv 27 1,on 28 (.anD 254) [.t 25,.t 26,.t 27],mv 24 28,xa 29 0 24,xa 30 1 24,al 7 0 [z0,z0,z0],sk 3 7 29 0,mv 8 30] 1 [1,2,4,7,8,20,21] [7] (sr [mv 31 8] 0 [1,2,4,7,20,21,31] (cd 31 (sr [lw 32 3 7,sk 3 4 32 0,mi 5 0] 0 [4,5] .ret) .skip))))) (rg [oi 33 pA 21 1,mv 21 33] 0 [1,2,4,20,21])))))) (sr [on 34 (.build [z0,z0,z0] []) [],sk 3 4 34 0,mi 5 5] 0 [4,5] .ret))))
def axn:anH:=(s0 [ba 1 0 0,ag 2 1,mi 3 0] 1 [1] [1] (sw (sr [lw 8 2 1,oa 9 (.anD 252) 8,oa 10 pN 9] 0 [1,10] (cd 10 (sr [ag 2 1,mi 3 2] 0 [2,3] .ret) .skip)) (sr [ag 4 1] 0 [1,4] (sw (sr [mi 5 1] 0 [1,4,5] (lp (sw (sr [mv 11 5,oi 12 (.bin .leq) 11 400] 0 [1,4,5,12] (cx 12 0)) (sw (b1 (sr [lw 16 2 1,mv 17 5,ob 18 (.anD 176) 16 17,mv 15 18,xa 19 0 15,xa 20 1 15,al 6 0 [z0,z0,z0],sk 3 6 19 0,mv 7 20] 1 [1,4,5,7] (sr [mv 21 7,oi 22 pE 21 0] 0 [1,4,5,22] (cd 22 (rg [mv 23 4,mv 24 5,oa 25 (.aoM 1 [z0] [0]) 24,ob 26 (.app 1 false) 23 25,mv 4 26] 0 [1,4,5]) .skip)))) (rg [mv 13 5,oi 14 pA 13 1,mv 5 14] 0 [1,4,5]))))) (sr [mv 27 4,mv 2 27,mi 3 0] 0 [2,3] .ret)))))
def awk:anH:=(s0 [ba 1 0 0,mf 2 false] 1 [1] [1] (sr [fa 3 0 1,lo 4 3,on 5 (.anD 294) [.t 4,kI 1,kI 60],mv 6 5,ov 7 (.fld 1) 1 6 0,ov 8 ld 7 6 0,ov 9 .len 8 6 0,ot 10 (.anD 294) [.t 9,kI 1,kI 6] 6 0,pf 11 6 10,mv 12 11,ov 13 (.fld 1) 1 12 0,ov 14 ld 13 12 0,ot 15 (.anD 179) [.t 14,.c (.func (.func 295) [] [])] 12 0,ov 16 pN 15 12 0,pf 17 12 16,mv 2 17] 0 [2] .ret))
def axo:anH:=(sr [mf 2 false] 0 [0] (sr [mv 3 0,on 4 (.anD 294) [.t 3,kI 1,kI 400],mv 2 4] 0 [2] .ret))
def aAq:anH:=(s0 [ba 3 0 0,al 6 1 [z0,z0,z0],mf 7 false] 2 [1,2,3,6] [3] (sr [fa 10 1 3,lo 11 10,mv 12 1,ix 13 1 11 12,lo 14 13,mv 8 14] 0 [1,2,3,6,8] (sr [fa 15 0 3,lo 16 15,mv 17 8,ob 18 pM 16 17,mv 9 18] 0 [1,2,6,8,9] (sw (r1 [mv 19 1,mv 20 9,mv 21 2,ob 22 (.bin .quo) 20 21,mv 23 8,ob 24 (.bin .quo) 22 23,mv 25 9,mv 26 2,ob 27 (.bin .quo) 25 26,mv 28 8,ob 29 (.bin .rem) 27 28,on 30 (.build [z0,z0,z0] [(0,1),(1,1),(2,1)]) [.t 19,.t 24,.t 29],mv 31 9,mv 32 2,ob 33 (.bin .rem) 31 32,oi 34 pE 33 0,sk 3 6 30 0,mv 7 34] 0 [6,7] []) .ret))))
def au7:anH:=(sr [mf 2 false] 0 [0] (sr [mv 3 0,on 4 (.anD 294) [.t 3,kI 1,kI 120],oa 5 pN 4,mv 2 5] 0 [2] .ret))
def aYd (n l h:Int):Pure C 294 [dI n,dI l,dI h] (.d (.bool (inR n l h))) []:=aw4 n l h
structure Dvd where
 aoG:Int
 cir:List Int
 deriving DecidableEq,Inhabited
structure Ix where
 circle:Int
 turns:Int
 holes:Int
 deriving DecidableEq,Inhabited
def Dvd.dv (d:Dvd):DV:= .agg [dI d.aoG,sF (d.cir.map anF)]
def Ix.dv (d:Ix):DV:= .agg [dI d.circle,dI d.turns,dI d.holes]
variable{d:Dvd}
def atm:d.dv= .agg [dI d.aoG,sF (d.cir.map anF)]:=by rw[Dvd.dv]
def aBv {d:Ix}:d.dv= .agg [dI d.circle,dI d.turns,dI d.holes]:=by rw[Ix.dv]
def Dvd.ok (d:Dvd):Bool:=inR d.aoG 1 60&&inR d.cir.length 1 6&&d.cir.all (fun n=>inR n 1 120)
def aHu (n:Int):Pure C 295 [dI n] (.d (.bool (!inR n 1 120))) []:=by
 refine am6 au7 anN ?_;simp only[au7,anN,RN,F];refine anE (aYd _ _ _) ?_;(try simp only[RN])
def aP1 (n:Int):Pure C 253 [dI n] (.d (.bool (inR n 1 400))) []:=by
 refine am6 axo anN ?_;simp only[axo,anN,RN,F];refine anE (aYd _ _ _) ?_;(try simp only[])
def aD6 (d:Dvd)(hl:d.cir.length<=1000000):Pure C 252 [d.dv] (.d (.bool d.ok)) []:=by
 refine am6 awk anN ?_;simp only[awk,anN,atm,RN,F,H,O]
 repeat' first
  |(refine anE (aYd _ _ _) ?_;try simp only[Q,RN,F,H,I,J,N,O])
  |(refine aoQ rfl rfl (atM d.cir _ [] (fun n=> !inR n 1 120) hl (by kernel_rfl) (fun n _=>aHu n)) ?_;try simp only[RN])
  |(refine an7 (by rfl) (fun a=> ?_) (fun a=> ?_)<;>simp only[a,Q,RN,F,H,O])
  |(refine aob (by rfl) (fun a=> ?_) (fun a=> ?_)<;>simp only[a,Q,RN,F,H,I,J,N,O])
 all_goals(first|(rw[axN])|skip)
 all_goals(first|(simp only[Dvd.ok, *,BSN];done)|(simp_all[Dvd.ok];done)|(simp_all[Dvd.ok];omega))
def aRG (aoG h t i:Int):Ix:=⟨i,((aoG*h).tdiv t).tdiv h,((aoG*h).tdiv t).tmod h⟩
def aAS (aoG h t:Int):Bool:=(aoG*h).tmod t==0
def aXb (d:Dvd)(i:Nat)(t:Int)(b:1<=d.aoG/\d.aoG<=60)(hi:i<d.cir.length)(hc:1<=d.cir.getD i default/\d.cir.getD i default<=120)(l:1<=t):
  Pure C 254 [d.dv,dI i,dI t] (.d (.tup [(aRG d.aoG (d.cir.getD i default) t i).dv, .bool (aAS d.aoG (d.cir.getD i default) t)])) []:=by
 have a:(0:Int)<=(i:Int):=by omega
 have k:1<=d.aoG*d.cir.getD i default/\d.aoG*d.cir.getD i default<=7200:=by
  have h1:=ai b.2 hc.2 (by omega) (by omega);have h2:=ai b.1 hc.1 (by omega) (by omega);omega
 have c:a7 .i64 (d.aoG*d.cir.getD i default)=d.aoG*d.cir.getD i default:=anI (by omega);have b1:((d.aoG*d.cir.getD i default).tdiv t).natAbs<=7200:=by
  have:=arO (d.aoG*d.cir.getD i default) t;omega
 have e:a7 .i64 ((d.aoG*d.cir.getD i default).tdiv t)=(d.aoG*d.cir.getD i default).tdiv t:=anI (by omega);have j:(((d.aoG*d.cir.getD i default).tdiv t).tdiv (d.cir.getD i default)).natAbs<=7200:=by
  have:=arO ((d.aoG*d.cir.getD i default).tdiv t) (d.cir.getD i default);omega
 have f:a7 .i64 (((d.aoG*d.cir.getD i default).tdiv t).tdiv (d.cir.getD i default))=((d.aoG*d.cir.getD i default).tdiv t).tdiv (d.cir.getD i default):=anI (by omega);have g:t≠0:=by omega
 have h:d.cir.getD i default≠0:=by omega
 refine am6 aAq aTp ?_;simp only[aAq,aTp,atm,hi,a,getD_map,U,Q,anM,c,e,f,g,h,aBv,aRG,aAS,RN,F,H,J,O]
def axc (aoG t:Int):Nat->List Int->Option Ix
 | _,[]=>none
 |i,h::a=>if aAS aoG h t then some (aRG aoG h t i)else axc aoG t (i+1) a
def Dvd.cuts (d:Dvd)(t:Int):Ix×Int:=
 if d.ok&&inR t 1 400 then(match axc d.aoG t 0 d.cir with|some x=>(x,0)|none=>(⟨0,0,0⟩,5))else(⟨0,0,0⟩,2)
def Dvd.aGe (h:d.ok=true):(1<=d.aoG/\d.aoG<=60)/\(1<=d.cir.length/\d.cir.length<=6)/\∀n∈d.cir,1<=n/\n<=120:=by
 simp only[Dvd.ok,inR,S,decide_eq_true_eq,aq,ge_iff_le]at h;obtain⟨⟨h1,h2⟩,a⟩:=h;exact⟨h1,by omega,a⟩
def aL2 (d:Dvd)(t:Int)(hl:d.cir.length<=1000000):Pure C 176 [d.dv,dI t] (.d (.tup [(d.cuts t).1.dv,dI (d.cuts t).2])) []:=by
 refine am6 aAp azF ?_;simp only[aAp,azF,atm,RN,F,H,O]
 repeat' first
  |(refine anE (aD6 d hl) ?_;try simp only[aBv,RN])
  |(refine anE (aP1 t) ?_;try simp only[RN])
  |(refine an7 (by rfl) (fun b=> ?_) (fun b=> ?_)<;>simp only[b,RN,F,H,J,O])
  |(refine aob (by rfl) (fun b=> ?_) (fun b=> ?_)<;>simp only[b,Q,RN,F,H,J,O])
 any_goals (simp_all[Dvd.cuts];done)
 have hd:d.ok=true:=by simp_all
 have g:inR t 1 400=true:=by simp_all
 obtain⟨j,l,c⟩:=Dvd.aGe hd;have e:1<=t:=by simp only[inR,S,decide_eq_true_eq]at g;omega
 have aWE:d.cuts t=(match axc d.aoG t 0 d.cir with|some x=>(x,0)|none=>(⟨0,0,0⟩,5)):=by simp only[Dvd.cuts,hd,g,aG,if_true]
 refine anL d.cir.length (fun i (_:Unit)=>⟨[(1,pI t),(2, .d (.anY [dI d.aoG,sF (d.cir.map anF)])),(4, .ptr 1 0),(20,pI d.cir.length),(21,pI i)],⟨[some [pI d.aoG, .d (sF (d.cir.map anF))],some [pI 0,pI 0,pI 0]],[0],[]⟩⟩)
  (fun i _=>axc d.aoG t 0 d.cir=axc d.aoG t i (d.cir.drop i)) 0 () (V _) rfl (by simp) (fun i _ h1 a=> ?_) (fun _ a=> ?_)
 ·obtain⟨h2,k,h⟩:=rng h1 hl
  rw[drop_cons h1,axc]at a;simp only[h2,RN,F,H,O];refine anE (aXb d i t j h1 (c _ (getD_mem h1)) e) ?_;cases f:aAS d.aoG (d.cir.getD i default) t
  ·simp only[h,aBv,RN,F,H,J,O]
   exact ao7 2 0 () h1 rfl (by rw[a,f];rfl) (by simp) (by simp) rfl rfl
  ·simp only[aBv,RN,F,H,J,O]
   rw[aWE,a,f]
   rfl
 ·rw[az,axc]at a
  simp only[ab,RN,F,H,J,O];rw[aWE,a]
def Dvd.first (d:Dvd)(t:Int):Option Ix:=axc d.aoG t 0 d.cir
def aSt (o:Option Ix):Ix:=o.getD ⟨0,0,0⟩
def Dvd.ax3 (d:Dvd)(n:Nat):List Int:=((aK n).map fun(i:Nat)=>(i:Int)+1).filter fun t=>(d.first t).isSome
def Dvd.numbers (d:Dvd):List Int×Int:=if d.ok then(d.ax3 400,0)else([],2)
def aKX (d:Dvd)(n:Nat):d.ax3 (n+1)=d.ax3 n++(if(d.first ((n:Int)+1)).isSome then[(n:Int)+1]else[]):=by
 rw[Dvd.ax3,aM,aw,List.filter_append,<-Dvd.ax3,au,ay,List.filter_cons,List.filter_nil]
def aNn (d:Dvd)(n:Nat):(d.ax3 n).length<=n:=by
 rw[Dvd.ax3];refine aS (List.length_filter_le _ _) ?_;simp
def aO3 (d:Dvd)(hl:d.cir.length<=1000):Pure C 198 [d.dv] (.d (.tup [sF (d.numbers.1.map anF),dI d.numbers.2])) []:=by
 have hd:=aD6 d (by omega);rw[atm]at hd;refine an9 (anJ axn aw7 ?_);simp only[axn,aw7,atm,RN,F,H,N,O];refine anE hd ?_;cases f:d.ok
 ·have e:d.numbers=([],2):=by rw[Dvd.numbers,f];rfl
  simp only[an6,aoz,RN,F,N];simp[datum,aoi,aoO,Mem.row,e]
 have e:d.numbers=(d.ax3 400,0):=by rw[Dvd.numbers,f];rfl
 (try simp only[RN,F,N]);refine anL 400 (fun i (q:List Int×Nat)=>⟨[(1, .d (.anY [dI d.aoG,sF (d.cir.map anF)])),(4, .tsl 1 q.2 0),(5, .d (dI ((i:Int)+1)))],⟨[some [pI d.aoG, .d (sF (d.cir.map anF))]],[0],[some ⟨1,[],0,0⟩,some ⟨1,q.1.map anF,q.2,0⟩]⟩⟩)
  (fun i q=>q.1=d.ax3 i) 0 ([],0) (V _) rfl rfl (fun i q m a=> ?_) (fun q a=> ?_)
 ·obtain⟨c,ver⟩:=q
  simp only at a;have j:(i:Int)+1<=400:=by omega
  have n:a7 .i64 ((i:Int)+1+1)=((i+1:Nat):Int)+1:=by rw[anI (by omega)];omega
  have g:=aL2 d ((i:Int)+1) (by omega);rw[atm,aBv]at g;have h:=aKX d i;have l:=aNn d i;rw[<-a]at h l;have k:inR ((i:Int)+1) 1 400=true:=by simp only[inR,S,decide_eq_true_eq];omega
  have b:d.cuts ((i:Int)+1)=(match d.first ((i:Int)+1)with|some x=>(x,0)|none=>(⟨0,0,0⟩,5)):=by rw[Dvd.cuts,f,k];rfl
  have z0:((0:Int)==0)=true:=rfl;have p:((5:Int)==0)=false:=rfl;simp only[j,RN,F,H,O];refine anE g ?_;cases o:d.first ((i:Int)+1)with
  |none=>
   rw[o]at h b;simp only[b,p,n,RN,F,H,J,O];exact ao7 1 2 (c,ver) m rfl (by simpa using h.symm) (by simp) (by simp) rfl rfl
  |some x=>
   rw[o]at h b;simp only[b,z0,ao8,fits_int,forall_eq,DV.strip,aqi,Q,RN,F,H,J,N,O];refine⟨by simp,by omega,?_⟩;simp only[n];refine ao7 1 2 (c++ [(i:Int)+1],ver+1) m ?_ (by simpa using h.symm) (by simp) (by simp) rfl rfl;simp only[aw,au,ay,anM];rfl
 ·obtain⟨c,ver⟩:=q
  simp only at a;have j:¬((400:Nat):Int)+1<=400:=by omega
  simp only[j,an6,aoz,RN,F];simp[datum,aoi,aoO,Mem.row,a,e]
def atW:anH:=(s0 [ba 2 0 0,ba 3 1 1,mk 4 cS,mi 5 0] 2 [2,3] [3] (sw (sr [lo 11 2,oa 12 (.apl 69) 11,oa 13 pN 12] 0 [2,3,13] (cd 13 (sr [mk 4 cS,mi 5 1] 0 [4,5] .ret) .skip)) (sw (sw (r1 [fu 14 0 3 1,lv 15 14,on 16 (.anD 70) [.t 15,kI 1,kI 12],oa 17 pN 16,mv 18 17,ow 19 (.fld 1) 3 18 1,ow 20 ld 19 18 1,ow 21 .len 20 18 1,oF 22 (.anD 71) [] 18 0,ow 23 (.fld 0) 3 18 1,ow 24 ld 23 18 1,oF 25 pU [.t 24,kI 1] 18 0,obF 26 (.aFY true 2 12) 22 25 18 0,ow 27 (.aEX false 1 1) 26 18 0,obF 28 pQ 21 27 18 0,pt 29 18 28] 0 [2,3,29] []) (cd 29 (sr [mk 4 cS,mi 5 2] 0 [4,5] .ret) .skip)) (sr [lo 30 2,oa 31 (.build [.nilPtr,.nilPtr] [(1,1)]) 30,al 6 0 [.nilPtr,.nilPtr],sk 2 6 31 0] 1 [2,3,6] (sw (sr [ob 32 (.mkF (.func 73) 0) 2 6,oa 33 (.call 72) 32,mv 7 33] 0 [3,6,7] (sr [mv 34 7,oi 35 pQ 34 0] 0 [3,6,7,35] (cd 35 (sr [mv 36 7,mk 4 cS,mv 5 36] 0 [4,5] .ret) .skip))) (sr [on 37 (.build [.nilFunc,.nilFunc,.nilFunc,.nilFunc,.nilFunc,.nilFunc,.nilFunc,.nilFunc,.nilFunc,.nilFunc,.nilFunc,.nilFunc] [(0,1),(1,1),(2,1),(3,1),(4,1),(5,1),(6,1),(7,1),(8,1),(9,1),(10,1),(11,1)]) [.c (.func (.func 75) [] []),.c (.func (.func 76) [] []),.c (.func (.func 77) [] []),.c (.func (.func 78) [] []),.c (.func (.func 79) [] []),.c (.func (.func 80) [] []),.c (.func (.func 81) [] []),.c (.func (.func 82) [] []),.c (.func (.func 83) [] []),.c (.func (.func 84) [] []),.c (.func (.func 85) [] []),.c (.func (.func 86) [] [])],al 8 0 [.nilFunc,.nilFunc,.nilFunc,.nilFunc,.nilFunc,.nilFunc,.nilFunc,.nilFunc,.nilFunc,.nilFunc,.nilFunc,.nilFunc],sk 12 8 37 0] 1 [3,6,8] (sw (r1 [fu 39 0 3 1,lv 40 39,oi 41 pU 40 1,ob 42 (.aAi 1 12) 8 41,ou 43 ld 42 2,ou 44 (.load true 2) 6 2,fu 45 1 3 1,lv 46 45,on 47 .aqg [.t 43,.t 44,.t 46],mv 38 47,xa 48 0 38,xa 49 1 38,mv 9 48,mv 10 49] 0 [9,10] []) (sw (sr [mv 50 10,oi 51 pQ 50 0] 0 [9,10,51] (cd 51 (sr [mv 52 10,mk 4 cS,mv 5 52] 0 [4,5] .ret) .skip)) (sr [mv 53 9,mv 4 53,mi 5 0] 0 [4,5] .ret)))))))))
def awg:anH:=(s0 [ba 1 0 0,mk 2 (.c (.nilPtr)),mi 3 0] 1 [1] [1] (sw (sr [lw 5 17 1,oa 6 (.anD 107) 5,oa 7 pN 6] 0 [1,7] (cd 7 (sr [mk 2 (.c (.nilPtr)),mi 3 2] 0 [2,3] .ret) .skip)) (s0 [lw 8 17 1,oa 9 (.anD 108) 8,al 4 0 [zs,zs,zs,z0,z0,zs,z0,zs,z0,z0,z0,zs,z0,z0,z0,z0,z0],sk 17 4 9 0] 1 [4] [4] (sr [lw 10 17 4,oa 11 (.anD 109) 10,ob 12 (.build [.nilPtr,zs,zs,zs] [(0,1),(1,1)]) 4 11,ba 13 0 12,mv 2 13,mi 3 0] 1 [2,3] .ret))))
def auv:anH:=(s0 [ba 2 0 0,mk 4 (.c ze),mi 5 0] 1 [1,2,4,5] [2] (sr [lw 11 17 2,oa 12 (.call 36) 11,mv 10 12,xa 13 0 10,xa 14 1 10,al 6 0 [.nilPtr],sk 1 6 13 0,mv 7 14] 1 [1,4,5,6,7] (sw (sr [mv 15 7,oi 16 pQ 15 0] 0 [1,4,5,6,7,16] (cd 16 (sr [mv 17 7,mk 4 (.c ze),mv 5 17] 0 [4,5] .ret) .skip)) (sw (sr [mv 18 1,oa 19 .ayM 18,oi 20 pG 19 1500] 0 [1,4,5,6,20] (cd 20 (sr [mk 4 (.c ze),mi 5 3] 0 [4,5] .ret) .skip)) (sw (sr [mv 21 1,oc 22 pQ 21 (.c ze),mv 23 22,ov 24 .mov 1 23 0,ot 25 (.anD 115) [.t 24,.c (.str ⟨#[10]⟩)] 23 0,ov 26 pN 25 23 0,pf 27 23 26] 0 [1,4,5,6,27] (cd 27 (sr [mk 4 (.c ze),mi 5 4] 0 [4,5] .ret) .skip)) (sr [al 8 0 [ze],os (.store 1) [.t 8,.c ze] 0] 1 [1,4,5,6,8] (sw (sr [mv 28 1,oa 29 (.call 116) 28] 0 [4,5,6,8,29] (.block 0 (.aub (.t 29) [30] [6,8] (rg [mv 9 30] 0 [6,8,9]) (b1 (r1 [lo 31 8,ou 32 ld 6 2,mv 33 9,oc 34 (.anD 118) 33 (.c (.str ⟨#[10]⟩)),on 35 (.ays false 1 117) [.t 8,.t 32,.t 34],oc 36 pA 35 (.c (.str ⟨#[10]⟩)),ob 37 pA 31 36,sk 1 8 37 0] 0 [] []))))) (sr [lo 38 8,mv 4 38,mi 5 0] 0 [4,5] .ret))))))))
def avv:anH:=(s0 [ba 1 0 0,mk 2 (.c ze),mi 3 0] 1 [1] [1] (sw (sr [lw 4 2 1,oa 5 (.anD 110) 4,oa 6 pN 5] 0 [1,6] (cd 6 (sr [mk 2 (.c ze),mi 3 2] 0 [2,3] .ret) .skip)) (sw (r1 [on 7 (.anD 121) [],fu 8 0 1 1,lv 9 8,oi 10 pU 9 1,ob 11 (.aFY true 2 6) 7 10,oa 12 (.aEX false 0 1) 11,oc 13 pA 12 (.c (.str ⟨#[32]⟩)),fu 14 1 1 1,lv 15 14,oa 16 (.anD 122) 15,ob 17 pA 13 16,mv 2 17,mi 3 0] 0 [2,3] []) .ret)))
def avu:anH:=(s0 [ba 1 0 0,al 2 1 [z0,zs],mi 3 0] 2 [1,2] [1] (sw (sr [lo 6 1,oa 7 .ayM 6,oi 8 pG 7 60] 0 [1,2,8] (cd 8 (sr [on 9 (.build [z0,zs] []) [],sk 2 2 9 0,mi 3 3] 0 [2,3] .ret) .skip)) (sr [al 4 0 [z0,zs]] 1 [1,2,4] (sr [ob 10 (.mkF (.func 125) 0) 1 4,oa 11 (.call 72) 10,mv 5 11] 0 [2,4,5] (sw (sr [mv 12 5,oi 13 pQ 12 0] 0 [2,4,5,13] (cd 13 (sr [on 14 (.build [z0,zs] []) [],mv 15 5,sk 2 2 14 0,mv 3 15] 0 [2,3] .ret) .skip)) (sr [lw 16 2 4,sk 2 2 16 0,mi 3 0] 0 [2,3] .ret))))))
def ar5:anH:=(sr [mk 2 (.c ze),mi 3 0] 0 [0] (sw (sr [mv 9 0,oa 10 (.anD 69) 9,oa 11 pN 10] 0 [0,11] (cd 11 (sr [mk 2 (.c ze),mi 3 1] 0 [2,3] .ret) .skip)) (sr [mk 4 (.c ze)] 0 [0,4] (sw (sr [mv 12 0,oa 13 .an8 12,fa 14 2 13,lo 15 14,oa 16 .len 15,mi 17 0] 0 [4,15,16,17] (lp (sr [ob 18 pL 17 16] 0 [4,15,16,17,18] (sw (cx 18 0) (sw (b1 (s0 [ix 19 2 15 17,lw 20 2 19,al 6 0 [z0,zs],sk 2 6 20 0] 1 [4,6,15,16,17] [6] (sr [lw 22 2 6,oa 23 (.anD 42) 22,mv 21 23,xa 24 0 21,xa 25 1 21,mv 7 24,mv 8 25] 0 [4,7,15,16,17] (rg [mv 26 4,mv 27 7,oc 28 pA 27 (.c (.str ⟨#[10]⟩)),ob 29 pA 26 28,mv 4 29] 0 [4,15,16,17])))) (rg [oi 30 pA 17 1,mv 17 30] 0 [4,15,16,17])))))) (sr [mv 31 4,mv 2 31,mi 3 0] 0 [2,3] .ret)))))
def asE:anH:=(sr [mf 2 false] 0 [0] (sr [mv 3 0,oc 4 (.auJ true) 3 (.c (.nilPtr)),mv 5 4,ov 6 .mov 0 5 0,ov 7 .an8 6 5 0,ov 8 (.fld 0) 7 5 0,ov 9 ld 8 5 0,ot 10 (.auJ true) [.t 9,.c (.nilPtr)] 5 0,pf 11 5 10,mv 2 11] 0 [2] .ret))
def awh:anH:=(sr [al 0 0 [ze,z0,ze,z0,ze,z0,ze,z0,ze,z0,ze,z0,ze,z0,ze,z0,ze,z0,ze,z0,ze,z0,ze,z0]] 1 [0] (sr [on 1 (.build [ze,z0] [(0,1),(1,1)]) [.c (.str ⟨#[104,97,110,100,115]⟩),kI 0],on 2 (.build [ze,z0] [(0,1),(1,1)]) [.c (.str ⟨#[115,116,111,99,107]⟩),kI 0],on 3 (.build [ze,z0] [(0,1),(1,1)]) [.c (.str ⟨#[111,112,101,110]⟩),kI 0],on 4 (.build [ze,z0] [(0,1),(1,1)]) [.c (.str ⟨#[112,114,105,99,101]⟩),kI 1],on 5 (.build [ze,z0] [(0,1),(1,1)]) [.c (.str ⟨#[110,101,101,100]⟩),kI 3],on 6 (.build [ze,z0] [(0,1),(1,1)]) [.c (.str ⟨#[111,102,102]⟩),kI 2],on 7 (.build [ze,z0] [(0,1),(1,1)]) [.c (.str ⟨#[119,114,111,110,103]⟩),kI 0],on 8 (.build [ze,z0] [(0,1),(1,1)]) [.c (.str ⟨#[119,111,114,107,115]⟩),kI 1],on 9 (.build [ze,z0] [(0,1),(1,1)]) [.c (.str ⟨#[100,97,116,101]⟩),kI 1],on 10 (.build [ze,z0] [(0,1),(1,1)]) [.c (.str ⟨#[99,117,116,115]⟩),kI 1],on 11 (.build [ze,z0] [(0,1),(1,1)]) [.c (.str ⟨#[99,111,105,110,115]⟩),kI 0],on 12 (.build [ze,z0] [(0,1),(1,1)]) [.c (.str ⟨#[115,116,97,110,100,115]⟩),kI 0],on 13 (.build [ze,z0,ze,z0,ze,z0,ze,z0,ze,z0,ze,z0,ze,z0,ze,z0,ze,z0,ze,z0,ze,z0,ze,z0] [(0,2),(2,2),(4,2),(6,2),(8,2),(10,2),(12,2),(14,2),(16,2),(18,2),(20,2),(22,2)]) [.t 1,.t 2,.t 3,.t 4,.t 5,.t 6,.t 7,.t 8,.t 9,.t 10,.t 11,.t 12],sk 24 0 13 0] 0 [0] .ret))
def asY:anH:=(rg [lo 2 0,oi 3 (.call 74) 2 (-1),fa 4 0 1,sk 1 4 3 0] 0 [])
def as1:anH:=(s0 [ba 3 0 1,mk 4 (.c (.nilPtr))] 1 [0,3,4] [3] (sw (r1 [mv 8 0,oa 9 .an8 8,fu 10 0 9 2,ou 11 ld 10 2,oa 12 .an8 11,ou 13 (.load true 17) 12 1,ou 14 (.atD 108) 13 1,mv 15 0,oa 16 .an8 15,fu 17 1 16 2,ou 18 ld 17 2,on 19 (.mkMap 0) [],on 20 (.build [zs,zs,zs,z0,z0,zs,z0,zs,z0,z0,z0,zs,z0,z0,z0,z0,z0,zs,zs,.map none,z0,zs] [(0,17),(17,1),(19,1)]) [.t 14,.t 18,.t 19],ba 21 1 20,al 5 2 [.nilPtr],sk 1 5 21 6] 3 [0,3,4,5] []) (sw (sr [mv 22 0,oa 23 (.mkF (.func 163) 1) 22] 0 [3,4,5,23] (.block 0 (.aub (.t 23) [24,25] [3,5] (sr [mv 6 24] 0 [3,5,6,25] (rg [mv 7 25] 0 [3,5,6,7])) (b1 (sr [mv 26 6,lo 27 3,ob 28 pQ 26 27] 0 [5,7,28] (cd 28 (rg [lo 29 5,mv 30 7,ob 31 (.call 113) 29 30] 0 []) .skip)))))) (sr [lo 32 5,mv 4 32] 0 [4] .ret))))
def asF:anH:=(s0 [ba 2 0 0,ag 4 1,mi 5 0] 1 [2] [2] (sr [fa 13 0 2,lo 14 13,oa 15 .an8 14,fa 16 0 15,fa 17 0 16,lw 18 2 17,oa 19 (.anD 26) 18,mv 12 19,xa 20 0 12,xa 21 1 12,xa 22 2 12,mv 6 20,mv 7 21,mv 8 22] 0 [2,6,8] (sr [ag 9 1] 0 [2,6,8,9] (sw (sr [fa 23 0 2,lo 24 23,oa 25 .an8 24,fa 26 0 25,fa 27 0 26,fa 28 1 27,lo 29 28,oa 30 .len 29,mi 31 0] 0 [6,8,9,29,30,31] (lp (sr [ob 32 pL 31 30] 0 [6,8,9,29,30,31,32] (sw (cx 32 0) (sw (b1 (sr [ix 33 1 29 31,lo 34 33,mv 11 34] 0 [6,8,9,11,29,30,31] (r1 [mv 35 9,mv 36 6,mv 37 11,ob1 38 (.anU 2) 36 37 1,fu 39 0 38 1,lv 40 39,mv 41 6,mv 42 11,ob1 43 (.anU 2) 41 42 1,fu 44 1 43 1,lv 45 44,ob1 46 (.aoM 1 [z0,z0] [0,1]) 40 45 1,ob 47 (.app 1 true) 35 46,mv 9 47] 0 [6,8,9,29,30,31] []))) (rg [oi 48 pA 31 1,mv 31 48] 0 [6,8,9,29,30,31])))))) (sr [mv 49 9,mv 50 8,mv 4 49,mv 5 50] 0 [4,5] .ret)))))
def apH:anH:=(s0 [ba 2 0 0,mk 4 cS,mi 5 0] 1 [2] [2] (sr [fa 6 0 2,lo 7 6,oa 8 .an8 7,fa 9 18 8,lo 10 9,oa 11 (.anD 165) 10,oa 12 (.atD 164) 11,mv 4 12,mi 5 0] 0 [4,5] .ret))
def ar8:anH:=(s0 [ba 2 0 0,ag 4 1,mi 5 0] 1 [2] [2] (sr [ag 6 1] 0 [2,6] (sw (sr [fa 10 0 2,lo 11 10,oa 12 .an8 11,fa 13 0 12,fa 14 0 13,fa 15 1 14,lo 16 15,oa 17 .len 16,mi 18 0] 0 [2,6,17,18] (lp (sr [ob 19 pL 18 17] 0 [2,6,17,18,19] (sw (cx 19 0) (sw (b1 (sr [mv 20 18,mv 7 20] 0 [2,6,7,17,18] (s0 [fa 22 0 2,lo 23 22,oa 24 .an8 23,fa 25 19 24,lo 26 25,mv 27 7,ob 28 (.aAd true [] (.agg [z0,z0])) 26 27,mv 21 28,xa 29 0 21,xa 30 1 21,al 8 0 [z0,z0],sk 2 8 29 0,mv 9 30] 1 [2,6,7,8,9,17,18] [8] (sr [mv 31 9] 0 [2,6,7,8,17,18,31] (cd 31 (rg [mv 32 6,mv 33 7,fa 34 0 8,lo 35 34,fa 36 1 8,lo 37 36,on 38 (.aoM 1 [z0,z0,z0] [0,1,2]) [.t 33,.t 35,.t 37],ob 39 (.app 1 true) 32 38,mv 6 39] 0 [2,6,17,18]) .skip))))) (rg [oi 40 pA 18 1,mv 18 40] 0 [2,6,17,18])))))) (sr [mv 41 6,mv 4 41,mi 5 0] 0 [4,5] .ret))))
def ap0:anH:=(s0 [ba 2 0 0,mk 4 cS,mi 5 0] 1 [1,2] [2] (sw (sw (r1 [fu 6 1 2 1,lv 7 6,mv 8 1,of 9 (.anU 1) [.t 8,kI 0] 1,lv 10 9,ob 11 (.anD 166) 7 10,oa 12 pN 11] 0 [1,2,12] []) (cd 12 (sr [mk 4 cS,mi 5 2] 0 [4,5] .ret) .skip)) (sw (r1 [fu 13 0 2 1,lv 14 13,mv 15 1,of 16 (.anU 1) [.t 15,kI 0] 1,lv 17 16,ob 18 (.anD 167) 14 17,ou 19 (.arY 1 [z0] [0]) 18 1,mv 4 19,mi 5 0] 0 [4,5] []) .ret)))
def an5:anH:=(s0 [ba 2 0 0,ag 4 1,mi 5 0] 1 [1,2] [2] (sw (r1 [mv 16 1,of 17 (.anU 1) [.t 16,kI 0] 1,lv 18 17,mv 19 1,of 20 (.anU 1) [.t 19,kI 1] 1,lv 21 20,mv 22 1,of 23 (.anU 1) [.t 22,kI 2] 1,lv 24 23,mv 6 18,mv 7 21,mv 8 24] 0 [2,6,7,8] []) (sw (sr [fa 25 1 2,lo 26 25,mv 27 6,ob 28 (.anD 166) 26 27,oa 29 pN 28,mv 30 29,ow 31 .mov 7 30 0,ow 32 (.anD 168) 31 30 0,ow 33 pN 32 30 0,pt 34 30 33,mv 35 34,ow 36 .mov 8 35 0,ow 37 (.anD 168) 36 35 0,ow 38 pN 37 35 0,pt 39 35 38,mv 40 39,ow 41 .mov 8 40 0,ow 42 .mov 7 40 0,obF 43 pU 41 42 40 0,oF 44 (.anD 70) [.t 43,kI 0,kI 10] 40 0,ow 45 pN 44 40 0,pt 46 40 45] 0 [2,6,7,8,46] (cd 46 (sr [ag 4 1,mi 5 2] 0 [4,5] .ret) .skip)) (s0 [fa 48 0 2,lo 49 48,oa 50 .an8 49,fa 51 19 50,lo 52 51,mv 53 6,ob 54 (.aAd true [] (.agg [z0,z0])) 52 53,mv 47 54,xa 55 0 47,xa 56 1 47,al 9 0 [z0,z0],sk 2 9 55 0,mv 10 56] 1 [2,6,7,8,9,10] [9] (sw (sr [mv 57 10,oa 58 pN 57] 0 [2,6,7,8,9,58] (cd 58 (sr [ag 4 1,mi 5 7] 0 [4,5] .ret) .skip)) (sw (r1 [fu 60 0 2 1,lv 61 60,oa 62 .an8 61,fu 63 0 62 1,fu 64 0 63 1,ou 65 (.load true 2) 64 1,mv 66 7,mv 67 8,mv 68 6,ou 69 (.load true 2) 9 1,on 70 (.anD 169) [.t 65,.t 66,.t 67,.t 68,.t 69],mv 59 70,xa 71 0 59,xa 72 1 59,mv 11 71,mv 12 72] 0 [11,12] []) (sr [ag 13 1] 0 [11,12,13] (sw (sr [mv 73 11,oa 74 .len 73,mi 75 0] 0 [12,13,73,74,75] (lp (sr [ob 76 pL 75 74] 0 [12,13,73,74,75,76] (sw (cx 76 0) (sw (b1 (s0 [ix 77 3 73 75,lw 78 3 77,al 15 0 [z0,z0,z0],sk 3 15 78 0] 1 [12,13,15,73,74,75] [15] (rg [mv 79 13,fa 80 0 15,lo 81 80,fa 82 1 15,fa 83 0 82,lo 84 83,fa 85 1 15,fa 86 1 85,lo 87 86,on 88 (.aoM 1 [z0,z0,z0] [0,1,2]) [.t 81,.t 84,.t 87],ob 89 (.app 1 true) 79 88,mv 13 89] 0 [12,13,73,74,75]))) (rg [oi 90 pA 75 1,mv 75 90] 0 [12,13,73,74,75])))))) (sr [mv 91 13,mv 92 12,mv 4 91,mv 5 92] 0 [4,5] .ret)))))))))
def aoY:anH:=(s0 [ba 2 0 0,mk 4 cS,mi 5 0] 1 [1,2] [2] (sw (sw (r1 [fu 8 1 2 1,lv 9 8,mv 10 1,of 11 (.anU 1) [.t 10,kI 0] 1,lv 12 11,ob 13 (.anD 166) 9 12,oa 14 pN 13,mv 15 14,ow 16 (.fld 1) 2 15 1,ow 17 ld 16 15 1,ow 18 .mov 1 15 0,oF 19 (.anU 1) [.t 18,kI 1] 15 1,ow 20 ld 19 15 1,obF 21 (.anD 170) 17 20 15 0,ow 22 pN 21 15 0,pt 23 15 22] 0 [1,2,23] []) (cd 23 (sr [mk 4 cS,mi 5 2] 0 [4,5] .ret) .skip)) (sw (r1 [fu 25 0 2 1,lv 26 25,oa 27 .an8 26,fu 28 0 27 1,fu 29 0 28 1,ou 30 (.load true 2) 29 1,mv 31 1,of 32 (.anU 1) [.t 31,kI 0] 1,lv 33 32,fu 34 0 2 1,lv 35 34,oa 36 .an8 35,fu 37 0 36 1,fu 38 2 37 1,lv 39 38,mv 40 1,of 41 (.anU 1) [.t 40,kI 0] 1,lv 42 41,ob1 43 (.anU 2) 39 42 1,ou 44 (.load true 2) 43 1,ou 45 (.load true 2) 2 1,mv 46 1,of 47 (.anU 1) [.t 46,kI 1] 1,lv 48 47,ob 49 (.anD 171) 45 48,on 50 (.anD 27) [.t 30,.t 33,.t 44,.t 49],mv 24 50,xa 51 0 24,xa 52 1 24,mv 6 51,mv 7 52] 0 [6,7] []) (sr [mv 53 6,oa 54 (.arY 1 [z0] [0]) 53,mv 55 7,mv 4 54,mv 5 55] 0 [4,5] .ret))))
def asH:anH:=(s0 [ba 2 0 0,mk 4 cS,mi 5 0] 1 [2] [2] (.scope (sr [mi 6 0] 0 [2,6] (sw (.label 0) (sw (sr [fa 10 0 2,lo 11 10,oa 12 .an8 11,fa 13 17 12,lo 14 13,oa 15 .len 14,mi 16 0] 0 [2,6,15,16] (lp (sr [ob 17 pL 16 15] 0 [2,6,15,16,17] (sw (cx 17 0) (sw (b1 (sr [mv 18 16,mv 7 18] 0 [2,6,7,15,16] (sr [fa 19 0 2,lo 20 19,oa 21 .an8 20,fa 22 0 21,fa 23 2 22,lo 24 23,oa 25 .len 24,mi 26 0] 0 [2,6,7,15,16,24,25,26] (.block 2 (.loop (sr [ob 27 pL 26 25] 0 [2,6,7,15,16,24,25,26,27] (sw (cx 27 2) (sw (.block 3 (s0 [mv 28 26,ix 29 2 24 26,lw 30 2 29,al 9 0 [z0,z0],mv 8 28,sk 2 9 30 0] 1 [2,6,7,8,9,15,16,24,25,26] [9] (sw (r1 [fu 31 0 2 1,lv 32 31,mv 33 8,ou 34 (.load true 2) 9 1,ou 35 (.load true 2) 2 1,mv 36 7,oi 37 pA 36 1,ob 38 (.anD 171) 35 37,on 39 (.anD 172) [.t 32,.t 33,.t 34,.t 38],oa 40 pN 39] 0 [2,6,7,15,16,24,25,26,40] []) (cd 40 (sr [mv 41 6,oi 42 pA 41 1,mv 6 42] 0 [2,6,15,16] (.exit 1)) .skip)))) (rg [oi 43 pA 26 1,mv 26 43] 0 [2,6,7,15,16,24,25,26]))))))))) (rg [oi 44 pA 16 1,mv 16 44] 0 [2,6,15,16])))))) (sr [mv 45 6,oa 46 (.arY 1 [z0] [0]) 45,mv 4 46,mi 5 0] 0 [4,5] .ret))))))
def aoP:anH:=(s0 [ba 2 0 0,mk 4 cS,mi 5 0] 1 [1,2] [2] (sw (sw (r1 [fu 8 1 2 1,lv 9 8,mv 10 1,of 11 (.anU 1) [.t 10,kI 0] 1,lv 12 11,ob 13 (.anD 170) 9 12,oa 14 pN 13] 0 [1,2,14] []) (cd 14 (sr [mk 4 cS,mi 5 2] 0 [4,5] .ret) .skip)) (sw (r1 [mv 16 1,of 17 (.anU 1) [.t 16,kI 0] 1,lv 18 17,fu 19 0 2 1,lv 20 19,oa 21 .an8 20,fu 22 17 21 1,lv 23 22,ou 24 .len 23 1,oa 25 (.mkF (.func 174) 0) 2,on 26 (.anD 173) [.t 18,.t 24,.t 25],mv 15 26,xa 27 0 15,xa 28 1 15,mv 6 27,mv 7 28] 0 [6,7] []) (sw (sr [mv 29 7,oa 30 pN 29] 0 [6,30] (cd 30 (sr [mk 4 cS,mi 5 5] 0 [4,5] .ret) .skip)) (sr [mv 31 6,oa 32 (.arY 1 [z0] [0]) 31,mv 4 32,mi 5 0] 0 [4,5] .ret)))))
def ap1:anH:=(s0 [ba 2 0 0,mk 4 cS,mi 5 0] 1 [1,2] [2] (sw (sw (r1 [fu 8 1 2 1,lv 9 8,mv 10 1,of 11 (.anU 1) [.t 10,kI 0] 1,lv 12 11,ob 13 (.anD 170) 9 12,oa 14 pN 13] 0 [1,2,14] []) (cd 14 (sr [mk 4 cS,mi 5 2] 0 [4,5] .ret) .skip)) (sw (r1 [fu 16 0 2 1,lv 17 16,oa 18 .an8 17,fu 19 0 18 1,fu 20 6 19 1,ou 21 (.load true 2) 20 1,fu 22 0 2 1,lv 23 22,oa 24 .an8 23,fu 25 17 24 1,lv 26 25,mv 27 1,of 28 (.anU 1) [.t 27,kI 0] 1,lv 29 28,oi 30 pU 29 1,ob1 31 (.anU 2) 26 30 1,fu 32 0 31 1,lv 33 32,ob 34 (.anD 175) 21 33,mv 15 34,xa 35 0 15,xa 36 1 15,al 6 0 [z0,z0,z0],sk 3 6 35 4,mv 7 36] 1 [6,7] [6]) (sr [fa 37 1 6,lo 38 37,fa 39 2 6,lo 40 39,ob 41 (.arY 1 [z0,z0] [0,1]) 38 40,mv 42 7,mv 4 41,mv 5 42] 0 [4,5] .ret))))
def as2:anH:=(s0 [ba 2 0 0,mk 4 cS,mi 5 0] 1 [1,2] [2] (sw (r1 [fu 9 0 2 1,lv 10 9,oa 11 .an8 10,fu 12 0 11 1,fu 13 4 12 1,ou 14 (.load true 2) 13 1,mv 15 1,of 16 (.anU 1) [.t 15,kI 0] 1,lv 17 16,ob 18 (.anD 176) 14 17,mv 8 18,xa 19 0 8,xa 20 1 8,al 6 0 [z0,z0,z0],sk 3 6 19 4,mv 7 20] 1 [6,7] [6]) (sr [fa 21 0 6,lo 22 21,fa 23 1 6,lo 24 23,fa 25 2 6,lo 26 25,on 27 (.arY 1 [z0,z0,z0] [0,1,2]) [.t 22,.t 24,.t 26],mv 28 7,mv 4 27,mv 5 28] 0 [4,5] .ret)))
def as3:anH:=(s0 [ba 2 0 0,mk 4 cS,mi 5 0] 1 [2] [2] (sr [fa 6 0 2,lo 7 6,oa 8 .an8 7,fa 9 20 8,lo 10 9,oa 11 (.arY 1 [z0] [0]) 10,mv 4 11,mi 5 0] 0 [4,5] .ret))
def aph:anH:=(s0 [ba 2 0 0,mk 4 cS,mi 5 0] 1 [2,4,5] [2] (sr [al 6 0 [zs]] 1 [2,4,5,6] (sw (sr [fa 8 1 2,lo 9 8,oa 10 (.mkF (.func 163) 1) 9] 0 [4,5,6,10] (.block 0 (.aub (.t 10) [11,12] [6] (rg [mv 7 11] 0 [6,7]) (b1 (rg [lo 13 6,mv 14 7,oa 15 (.aoM 1 [z0] [0]) 14,ob 16 (.app 1 true) 13 15,sk 1 6 16 0] 0 []))))) (sr [lo 17 6,mv 4 17,mi 5 0] 0 [4,5] .ret))))
def auy:anH:=(s0 [ba 1 0 0,mf 2 false] 1 [1] [1] (sw (sr [fa 10 0 1,lw 11 2 10,oa 12 (.anD 197) 11,oi 13 pQ 12 0,mv 14 13,ow 15 (.fld 2) 1 14 0,lq 16 15 14,ow 17 .len 16 14 0,ow 18 (.fld 0) 1 14 0,ow 19 (.fld 1) 18 14 0,lq 20 19 14,ow 21 .len 20 14 0,obF 22 pQ 17 21 14 0,pt 23 14 22,mv 24 23,ow 25 (.fld 3) 1 24 0,lq 26 25 24,oF 27 (.anD 70) [.t 26,kI 0,kI 10800] 24 0,ow 28 pN 27 24 0,pt 29 24 28] 0 [1,29] (cd 29 (sr [mf 2 false] 0 [2] .ret) .skip)) (sr [fa 31 4 1,lw 32 2 31,oa 33 (.anD 198) 32,mv 30 33,xa 34 0 30,xa 35 1 30,mv 3 34,mv 4 35] 0 [1,4] (sr [fa 37 6 1,lw 38 2 37,fa 39 8 1,lw 40 3 39,fa 41 11 1,lo 42 41,fa 43 12 1,lo 44 43,on 45 (.anD 31) [.t 38,.t 40,.t 42,.t 44],mv 36 45,xa 46 0 36,xa 47 1 36,mv 5 46,mv 6 47] 0 [1,4,6] (sr [fa 49 13 1,lo 50 49,fa 51 14 1,lo 52 51,fa 53 15 1,lo 54 53,fa 55 16 1,lo 56 55,on 57 (.build [zs,z0,z0,z0,z0,z0] [(1,1),(2,1),(3,1),(4,1)]) [.t 50,.t 52,.t 54,.t 56],oa 58 (.anD 29) 57,mv 48 58,xa 59 0 48,xa 60 1 48,xa 61 2 48,mv 7 59,mv 8 60,mv 9 61] 0 [1,4,6,9] (sr [mv 62 4,oi 63 pE 62 0,mv 64 63,ov 65 .mov 6 64 0,ot 66 pE [.t 65,kI 0] 64 0,pf 67 64 66,mv 68 67,ov 69 .mov 9 68 0,ot 70 pE [.t 69,kI 0] 68 0,pf 71 68 70,mv 72 71,ov 73 (.fld 2) 1 72 0,ov 74 ld 73 72 0,ot 75 (.anD 199) [.t 74,.c (.func (.func 200) [] [])] 72 0,ov 76 pN 75 72 0,pf 77 72 76,mv 2 77] 0 [2] .ret))))))
def aqC:anH:=(sr [ba 1 0 0,al 2 1 [zs,zs,zs,z0,z0,zs,z0,zs,z0,z0,z0,zs,z0,z0,z0,z0,z0]] 2 [1,2] (sw (r1 [fu 3 0 1 2,fu 4 0 3 2,ou 5 ld 4 2,ou 6 (.atD 202) 5 1,fu 7 0 1 2,fu 8 1 7 2,ou 9 ld 8 2,ou 10 (.atD 114) 9 1,fu 11 0 1 2,fu 12 0 11 2,sk 1 12 6 0,fu 13 0 1 2,fu 14 1 13 2,sk 1 14 10 0] 0 [1,2] []) (sw (r1 [fu 15 2 1 2,ou 16 ld 15 2,ou 17 (.atD 203) 16 1,fu 18 11 1 2,ou 19 ld 18 2,ou 20 (.atD 204) 19 1,fu 21 2 1 2,sk 1 21 17 0,fu 22 11 1 2,sk 1 22 20 0] 0 [1,2] []) (sw (r1 [fu 23 4 1 2,fu 24 1 23 2,ou 25 ld 24 2,ou 26 (.atD 114) 25 1,fu 27 6 1 2,fu 28 1 27 2,ou 29 ld 28 2,ou 30 (.atD 114) 29 1,fu 31 4 1 2,fu 32 1 31 2,sk 1 32 26 0,fu 33 6 1 2,fu 34 1 33 2,sk 1 34 30 0] 0 [1,2] []) (sr [lw 35 17 1,sk 17 2 35 0] 0 [2] .ret)))))
def awj:anH:=(s0 [ba 1 0 0,ag 2 2] 1 [1] [1] (sr [fa 13 6 1,lw 14 2 13,fa 15 12 1,lo 16 15,on 17 (.build [z0,z0,z0] [(0,1),(1,1),(2,1)]) [.t 16,kI 1,kI 1],ob 18 (.anD 30) 14 17,mv 12 18,xa 19 0 12,xa 20 1 12,mv 3 19,mv 4 20] 0 [1,3] (sr [fa 22 6 1,lw 23 2 22,fa 24 12 1,lo 25 24,on 26 (.build [z0,z0,z0] [(0,1),(1,1),(2,1)]) [.t 25,kI 12,kI 31],ob 27 (.anD 30) 23 26,mv 21 27,xa 28 0 21,xa 29 1 21,mv 5 28,mv 6 29] 0 [1,3,5] (sr [fa 31 6 1,lw 32 2 31,fa 33 8 1,lw 34 3 33,fa 35 11 1,lo 36 35,fa 37 12 1,lo 38 37,on 39 (.anD 31) [.t 32,.t 34,.t 36,.t 38],mv 30 39,xa 40 0 30,xa 41 1 30,mv 7 40,mv 8 41] 0 [3,5,7] (sr [ag 9 2] 0 [3,5,7,9] (sw (sr [mv 42 5,mv 43 3,ob 44 pU 42 43,oi 45 pA 44 1,mi 46 0] 0 [3,7,9,45,46] (lp (sr [ob 47 pL 46 45] 0 [3,7,9,45,46,47] (sw (cx 47 0) (sw (b1 (sr [mv 48 46,mv 10 48] 0 [3,7,9,10,45,46] (sr [mv 49 3,mv 50 10,ob 51 pA 49 50,mv 11 51] 0 [3,7,9,11,45,46] (rg [mv 52 9,mv 53 11,mv 54 11,oi 55 pA 54 4,oi 56 (.bin .rem) 55 7,oi 57 pQ 56 0,mv 58 57,ov 59 .mov 7 58 0,ov 60 .mov 11 58 0,obT 61 (.anD 205) 59 60 58 0,ov 62 pN 61 58 0,pf 63 58 62,ob 64 (.build [z0,.bool false] [(0,1),(1,1)]) 53 63,oa 65 (.aoM 2 [.agg [z0,.bool false]] [0]) 64,ob 66 (.app 2 false) 52 65,mv 9 66] 0 [3,7,9,45,46])))) (rg [oi 67 pA 46 1,mv 46 67] 0 [3,7,9,45,46])))))) (sr [mv 68 9,mv 2 68] 0 [2] .ret)))))))
def atY:anH:=(s0 [ba 1 0 0,mf 2 false] 1 [1] [1] (sw (sw (r1 [fu 3 0 1 1,lv 4 3,on 5 (.anD 70) [.t 4,kI 1,kI 6],oa 6 pN 5,mv 7 6,ow 8 (.fld 1) 1 7 1,ow 9 ld 8 7 1,ow 10 .len 9 7 1,oF 11 (.anD 121) [] 7 0,ow 12 (.fld 0) 1 7 1,ow 13 ld 12 7 1,oF 14 pU [.t 13,kI 1] 7 0,obF 15 (.aFY true 2 6) 11 14 7 0,ow 16 (.aEX false 1 1) 15 7 0,obF 17 pQ 10 16 7 0,pt 18 7 17] 0 [1,18] []) (cd 18 (sr [mf 2 false] 0 [2] .ret) .skip)) (sr [fa 19 1 1,lo 20 19,oc 21 (.anD 179) 20 (.c (.func (.func 206) [] [])),oa 22 pN 21,mv 2 22] 0 [2] .ret)))
def au5:anH:=(s0 [ba 1 0 0,mk 2 (.c (.nilIface))] 1 [1] [1] (sr [fa 4 1 1,lo 5 4,mv 3 5] 0 [1,3] (sw (sr [fa 6 0 1,lo 7 6] 0 [3,7] (.block 0 (sr [oi 9 pE 7 1,mv 8 9] 0 [3,7,8] (cd 8 (sr [mv 10 3,oi 11 (.anU 1) 10 0,lo 12 11,oa 13 (.build [z0] [(0,1)]) 12,oa 14 (.mkI T.aoZ) 13,mv 2 14] 0 [2] .ret) (sr [oi 16 pE 7 2,mv 15 16] 0 [3,7,15] (cd 15 (sw (r1 [mv 17 3,of 18 (.anU 1) [.t 17,kI 0] 1,lv 19 18,mv 20 3,of 21 (.anU 1) [.t 20,kI 1] 1,lv 22 21,mv 23 3,of 24 (.anU 1) [.t 23,kI 2] 1,lv 25 24,ob 26 (.build [z0,z0] [(0,1),(1,1)]) 22 25,ob 27 (.build [z0,z0,z0] [(0,1),(1,2)]) 19 26,oa 28 (.build [z0,z0,z0] [(0,3)]) 27,ou 29 (.mkI T.aoh) 28 1,mv 2 29] 0 [2] []) .ret) (sr [oi 31 pE 7 3,mv 30 31] 0 [3,7,30] (cd 30 (sw (r1 [mv 32 3,of 33 (.anU 1) [.t 32,kI 0] 1,lv 34 33,mv 35 3,of 36 (.anU 1) [.t 35,kI 1] 1,lv 37 36,mv 38 3,of 39 (.anU 1) [.t 38,kI 2] 1,lv 40 39,ob 41 (.build [z0,z0] [(0,1),(1,1)]) 37 40,ob 42 (.build [z0,z0,z0] [(0,1),(1,2)]) 34 41,ou 43 (.mkI T.aoU) 42 1,mv 2 43] 0 [2] []) .ret) (sr [oi 45 pE 7 4,mv 44 45] 0 [3,7,44] (cd 44 (sw (r1 [mv 46 3,of 47 (.anU 1) [.t 46,kI 0] 1,lv 48 47,mv 49 3,of 50 (.anU 1) [.t 49,kI 1] 1,lv 51 50,ob 52 (.build [z0,z0] [(0,1),(1,1)]) 48 51,ou 53 (.mkI T.aoK) 52 1,mv 2 53] 0 [2] []) .ret) (sr [oi 55 pE 7 5,mv 54 55] 0 [3,54] (cd 54 (sr [mv 56 3,oi 57 (.anU 1) 56 0,lo 58 57,oa 59 (.build [z0] [(0,1)]) 58,oa 60 (.mkI T.ao0) 59,mv 2 60] 0 [2] .ret) .skip)))))))))))) (sr [mv 61 3,oi 62 (.anU 1) 61 0,lo 63 62,oa 64 (.build [z0] [(0,1)]) 63,oa 65 (.mkI T.aoe) 64,mv 2 65] 0 [2] .ret))))
def aql:anH:=(s0 [lo 5 0,oa 6 (.tas T.aoe (.agg [z0])) 5,mv 4 6,xa 7 0 4,xa 8 1 4,al 2 0 [z0],sk 1 2 7 0,mv 3 8] 1 [0,1,2,3] [2] (sw (sr [mv 9 3,oa 10 pN 9] 0 [0,1,2,10] (cd 10 (sw (r1 [ou 11 ld 1 2,on 12 (.ays false 1 74) [.t 0,.t 11,kI (-1)],lo 13 0,ob 14 (.call 113) 12 13] 0 [] []) .ret) .skip)) (sw (sw (r1 [ou 15 ld 1 2,oa 16 .an8 15,fu 17 3 16 2,ou 18 ld 17 2,fu 19 0 2 1,lv 20 19,ix 21 1 18 20,ou 22 ld 21 3] 0 [0,1,2,22] []) (cd 22 (rg [lo 23 0,oa 24 (.build [.nilIface] [(0,1)]) 23,oa 25 (.mkI T.apV) 24,os .panic [.t 25] 0] 0 [1,2]) .skip)) (rg [lo 26 1,fa 27 0 2,lo 28 27,ob 29 (.call 74) 26 28] 0 []))))
def an1:anH:=(s0 [ba 3 0 1] 1 [0,3] [3] (sr [oa 26 (.mkF (.func 207) 0) 3,mv 4 26] 0 [0,3,4] (sr [lo 27 3] 0 [0,4,27] (.block 0 (sr [oa 28 (.tas T.aoZ (.agg [z0])) 27,xa 29 1 28,xa 30 0 28] 0 [0,4,27,29,30] (cd 29 (s0 [al 5 0 [z0],sk 1 5 30 0] 1 [0,4,5] [5] (sw (r1 [mv 32 0,oa 33 .an8 32,fu 34 0 33 2,fu 35 4 34 2,ou 36 (.load true 2) 35 2,fu 37 0 5 1,lv 38 37,ob 39 (.apl 176) 36 38,mv 31 39,xa 40 0 31,xa 41 1 31,al 6 0 [z0,z0,z0],sk 3 6 40 4,mv 7 41] 1 [0,4,5,7] []) (sr [mv 42 4,mv 43 7,oi 44 pE 43 0,mv 45 44,ov 46 .mov 0 45 0,ov 47 .an8 46 45 0,ov 48 (.fld 18) 47 45 0,ov 49 ld 48 45 0,ov 50 .len 49 45 0,ot 51 pL [.t 50,kI 8] 45 0,pf 52 45 51,ob 53 .aqg 42 52] 0 [0,5] (r1 [mv 54 0,mv 55 0,oa 56 .an8 55,fu 57 18 56 2,ou 58 ld 57 2,fu 59 0 5 1,lv 60 59,ou 61 (.aoM 1 [z0] [0]) 60 1,ob 62 (.app 1 true) 58 61,oa 63 .an8 54,fu 64 18 63 2,sk 1 64 62 0] 0 [] [])))) (sr [oa 65 (.tas T.aoh (.agg [z0,z0,z0])) 27,xa 66 1 65,xa 67 0 65] 0 [0,4,27,66,67] (cd 66 (s0 [al 8 0 [z0,z0,z0],sk 3 8 67 0] 1 [0,4,8] [8] (sw (r1 [mv 69 0,oa 70 .an8 69,fu 71 0 70 2,fu 72 0 71 2,ou 73 (.load true 2) 72 2,fu 74 0 8 1,ou 75 (.load true 3) 74 1,ob 76 (.aBp 208) 73 75,mv 68 76,xa 77 0 68,xa 78 1 68,mv 9 77,mv 10 78] 0 [0,4,8,9,10] []) (sr [mv 79 4,mv 80 10,oi 81 pE 80 0,ob 82 .aqg 79 81] 0 [0,4,8,9] (sw (sr [mv 83 9,oa 84 .len 83,mi 85 0] 0 [0,4,8,83,84,85] (b1 (.loop (sr [ob 86 pL 85 84] 0 [0,4,8,83,84,85,86] (sw (cx 86 1) (sw (.block 2 (sr [ix 87 1 83 85,lo 88 87,mv 12 88] 0 [0,4,8,12,83,84,85] (sr [mv 90 0,oa 91 .an8 90,fa 92 19 91,lo 93 92,mv 94 12,ob 95 (.aAd true [] (.agg [z0,z0])) 93 94,mv 89 95,xa 96 0 89,xa 97 1 89,al 13 0 [z0,z0],sk 2 13 96 0,mv 14 97] 1 [0,4,8,14,83,84,85] (rg [mv 98 4,mv 99 14,ob 100 .aqg 98 99] 0 [0,4,8,83,84,85])))) (rg [oi 101 pA 85 1,mv 85 101] 0 [0,4,8,83,84,85]))))))) (sw (r1 [mv 102 0,oa 103 .an8 102,fu 104 0 103 2,fu 105 0 104 2,fu 106 0 105 2,ou 107 ld 106 2,fu 108 0 8 1,fu 109 0 108 1,lv 110 109,ix 111 3 107 110,fu 112 1 111 3,ou 113 (.load true 2) 112 3,al 15 0 [z0,z0],sk 2 15 113 4] 1 [0,4,8,15] [15]) (sr [ag 16 1] 0 [0,4,8,15,16] (sw (sr [fa 114 0 15,lo 115 114,fa 116 0 8,fa 117 1 116,fa 118 0 117,lo 119 118,ob 120 pQ 115 119] 0 [0,4,8,15,16,120] (cd 120 (sr [mv 121 0,fa 122 0 8,fa 123 1 122,fa 124 0 123,lo 125 124,ob 126 (.call 209) 121 125,mv 17 126] 0 [0,4,8,15,16,17] (sr [mv 127 4,mv 128 17,ob 129 .aqg 127 128] 0 [0,4,8,15,16] (rg [mv 130 16,fa 131 0 15,lo 132 131,oa 133 (.aoM 1 [z0] [0]) 132,ob 134 (.app 1 false) 130 133,mv 16 134] 0 [0,4,8,15,16]))) .skip)) (sw (sr [fa 135 1 15,lo 136 135,fa 137 0 8,fa 138 1 137,fa 139 1 138,lo 140 139,ob 141 pQ 136 140] 0 [0,4,8,15,16,141] (cd 141 (sr [mv 142 0,fa 143 0 8,fa 144 1 143,fa 145 1 144,lo 146 145,ob 147 (.call 209) 142 146,mv 18 147] 0 [0,4,8,15,16,18] (sr [mv 148 4,mv 149 18,ob 150 .aqg 148 149] 0 [0,8,15,16] (rg [mv 151 16,fa 152 1 15,lo 153 152,oa 154 (.aoM 1 [z0] [0]) 153,ob 155 (.app 1 false) 151 154,mv 16 155] 0 [0,8,16]))) .skip)) (sr [mv 156 0,mv 157 0,oa 158 .an8 157,fa 159 18 158,lo 160 159,mv 161 16,ob 162 (.app 1 false) 160 161,oa 163 .an8 156,fa 164 18 163,sk 1 164 162 0] 0 [0,8] (r1 [mv 165 0,oa 166 .an8 165,fu 167 0 166 2,fu 168 0 167 2,fu 169 0 168 2,ou 170 ld 169 2,fu 171 0 8 1,fu 172 0 171 1,lv 173 172,fu 174 0 8 1,fu 175 1 174 1,ou 176 (.load true 2) 175 1,ix 177 3 170 173,fu 178 1 177 3,sk 2 178 176 3] 0 [] [])))))))))) (sr [oa 179 (.tas T.aoU (.agg [z0,z0,z0])) 27,xa 180 1 179,xa 181 0 179] 0 [0,4,27,180,181] (cd 180 (s0 [al 19 0 [z0,z0,z0],sk 3 19 181 0] 1 [0,4,19] [19] (sw (r1 [mv 183 0,oa 184 .an8 183,fu 185 19 184 2,ou 186 ld 185 2,fu 187 0 19 1,lv 188 187,ob 189 (.aAd true [] (.agg [z0,z0])) 186 188,mv 182 189,xa 190 0 182,xa 191 1 182,al 20 0 [z0,z0],sk 2 20 190 4,mv 21 191] 1 [0,4,19,21] []) (sr [mv 192 4,mv 193 21,oa 194 pN 193,ob 195 .aqg 192 194] 0 [0,19] (r1 [mv 196 0,oa 197 .an8 196,fu 198 19 197 2,ou 199 ld 198 2,fu 200 0 19 1,lv 201 200,fu 202 1 19 1,ou 203 (.load true 2) 202 1,os (.aNi []) [.t 199,.t 201,.t 203] 0] 0 [] [])))) (sr [oa 204 (.tas T.aoK (.agg [z0,z0])) 27,xa 205 1 204,xa 206 0 204] 0 [0,4,27,205,206] (cd 205 (s0 [al 22 0 [z0,z0],sk 2 22 206 0] 1 [0,4,22] [22] (sw (r1 [mv 208 0,oa 209 .an8 208,fu 210 19 209 2,ou 211 ld 210 2,fu 212 0 22 1,lv 213 212,ob 214 (.aAd true [] (.agg [z0,z0])) 211 213,mv 207 214,xa 215 0 207,xa 216 1 207,al 23 0 [z0,z0],sk 2 23 215 4,mv 24 216] 1 [0,4,22,23,24] [23]) (sw (r1 [mv 217 4,mv 218 24,mv 219 218,ov 220 .mov 0 219 0,ov 221 (.fld 0) 22 219 1,ov 222 ld 221 219 1,ov 223 (.load true 2) 23 219 1,ot 224 (.apl 172) [.t 220,.t 222,.t 223,kI 100] 219 0,pf 225 219 224,mv 226 225,ov 227 (.fld 1) 22 226 1,ov 228 ld 227 226 1,ov 229 .mov 0 226 0,ov 230 (.fld 0) 22 226 1,ov 231 ld 230 226 1,obT 232 (.apl 167) 229 231 226 0,obT 233 (.bin .geq) 228 232 226 0,pf 234 226 233,ob 235 .aqg 217 234] 0 [0,22,23] []) (sw (r1 [mv 236 0,oa 237 .an8 236,fu 238 19 237 2,ou 239 ld 238 2,fu 240 0 22 1,lv 241 240,os (.aNg []) [.t 239,.t 241] 0] 0 [0,22,23] []) (sw (r1 [mv 242 0,oa 243 .an8 242,fu 244 0 243 2,fu 245 2 244 2,ou 246 ld 245 2,fu 247 0 22 1,lv 248 247,ou 249 (.load true 2) 23 1,ix 250 2 246 248,sk 2 250 249 0] 0 [0,22] []) (r1 [mv 251 0,oa 252 .an8 251,fu 253 20 252 2,ou 254 ld 253 2,fu 255 1 22 1,lv 256 255,ob 257 pA 254 256,oa 258 .an8 251,fu 259 20 258 2,sk 1 259 257 0] 0 [] [])))))) (sr [oa 260 (.tas T.ao0 (.agg [z0])) 27,xa 261 1 260,xa 262 0 260] 0 [0,4,261,262] (cd 261 (s0 [al 25 0 [z0],sk 1 25 262 0] 1 [0,4,25] [25] (sw (r1 [mv 263 4,mv 264 0,oa 265 .an8 264,fu 266 17 265 2,ou 267 ld 266 2,fu 268 0 25 1,lv 269 268,oi 270 pU 269 1,ob1 271 (.anU 2) 267 270 1,fu 272 1 271 1,lv 273 272,mv 274 273,ov 275 .mov 0 274 0,ov 276 .an8 275 274 0,ov 277 (.fld 21) 276 274 2,ov 278 ld 277 274 2,ov 279 .len 278 274 0,ot 280 pE [.t 279,kI 0] 274 0,ov 281 .mov 280 274 0,ow 282 (.fld 0) 25 281 1,ow 283 ld 282 281 1,ow 284 .mov 0 281 0,ow 285 .an8 284 281 0,ow 286 (.fld 21) 285 281 2,ow 287 ld 286 281 2,ow 288 .mov 0 281 0,ow 289 .an8 288 281 0,ow 290 (.fld 21) 289 281 2,ow 291 ld 290 281 2,ow 292 .len 291 281 0,oF 293 pU [.t 292,kI 1] 281 0,obF 294 (.anU 1) 287 293 281 0,ow 295 ld 294 281 3,obF 296 pG 283 295 281 0,ot 297 .pick [.t 281,.c (.bool true),.t 296] 274 0,pf 298 274 297,ob 299 .aqg 263 298] 0 [0,25] []) (r1 [mv 300 0,mv 301 0,oa 302 .an8 301,fu 303 21 302 2,ou 304 ld 303 2,fu 305 0 25 1,lv 306 305,ou 307 (.aoM 1 [z0] [0]) 306 1,ob 308 (.app 1 false) 304 307,oa 309 .an8 300,fu 310 21 309 2,sk 1 310 308 0] 0 [] []))) .skip))))))))))))))
def asC:anH:=(sr [mk 4 (.c ze)] 0 [0,1] (s0 [mv 10 1,oa 11 (.anD 44) 10,mv 9 11,xa 12 0 9,xa 13 1 9,al 5 0 [z0,zs],sk 2 5 12 0,mv 6 13] 1 [0,1,5,6] [5] (sw (sr [mv 14 6,oi 15 pE 14 0] 0 [0,1,5,6,15] (cd 15 (sr [mv 16 0,lw 17 2 5,ob 18 (.call 38) 16 17,mv 6 18] 0 [6] (sw (sr [mv 19 6,oi 20 pE 19 0] 0 [6,20] (cd 20 (sr [mk 4 (.c (.str ⟨#[110,111,116,101,100]⟩))] 0 [4] .ret) .skip)) (sr [mv 21 6,oa 22 (.anD 213) 21,on 23 pA [.c (.str ⟨#[101,114,114,111,114,32]⟩),.t 22],mv 4 23] 0 [4] .ret))) .skip)) (sw (sr [mv 24 6,oi 25 pE 24 3] 0 [0,1,6,25] (cd 25 (sr [mv 26 6,oa 27 (.anD 213) 26,on 28 pA [.c (.str ⟨#[101,114,114,111,114,32]⟩),.t 27],mv 4 28] 0 [4] .ret) .skip)) (s0 [mv 30 1,oa 31 (.anD 214) 30,mv 29 31,xa 32 0 29,xa 33 1 29,al 7 0 [z0,zs],sk 2 7 32 0,mv 6 33] 1 [0,6,7] [7] (sr [mk 8 cS] 0 [0,6,7,8] (sw (sr [mv 34 6,oi 35 pE 34 0] 0 [0,6,7,8,35] (cd 35 (rg [mv 37 0,lw 38 2 7,ob 39 (.call 21) 37 38,mv 36 39,xa 40 0 36,xa 41 1 36,mv 8 40,mv 6 41] 0 [6,8]) .skip)) (sw (.block 0 (sr [mv 43 6,oi 44 pQ 43 0,mv 42 44] 0 [6,8,42] (cd 42 (sr [mv 45 6,oa 46 (.anD 213) 45,on 47 pA [.c (.str ⟨#[101,114,114,111,114,32]⟩),.t 46],mv 4 47] 0 [4] .ret) (sr [mv 49 8,oa 50 .len 49,oi 51 pE 50 0,mv 48 51] 0 [8,48] (cd 48 (sr [mk 4 (.c (.str ⟨#[110,111,116,104,105,110,103]⟩))] 0 [4] .ret) .skip))))) (sr [mv 52 8,oa 53 (.apl 122) 52,mv 4 53] 0 [4] .ret)))))))))
def avw:anH:=(sr [al 0 0 [ze,z0,ze,z0,ze,z0,ze,z0,ze,z0,ze,z0]] 1 [0] (sr [on 1 (.build [ze,z0] [(0,1),(1,1)]) [.c (.str ⟨#[99,117,116]⟩),kI 1],on 2 (.build [ze,z0] [(0,1),(1,1)]) [.c (.str ⟨#[99,104,97,110,103,101]⟩),kI 3],on 3 (.build [ze,z0] [(0,1),(1,1)]) [.c (.str ⟨#[111,114,100,101,114]⟩),kI 3],on 4 (.build [ze,z0] [(0,1),(1,1)]) [.c (.str ⟨#[115,101,114,118,101]⟩),kI 2],on 5 (.build [ze,z0] [(0,1),(1,1)]) [.c (.str ⟨#[115,101,116]⟩),kI 1],on 6 (.build [ze,z0] [(0,1),(1,1)]) [.c (.str ⟨#[115,116,114,105,107,101]⟩),kI 1],on 7 (.build [ze,z0,ze,z0,ze,z0,ze,z0,ze,z0,ze,z0] [(0,2),(2,2),(4,2),(6,2),(8,2),(10,2)]) [.t 1,.t 2,.t 3,.t 4,.t 5,.t 6],sk 12 0 7 0] 0 [0] .ret))
def au6:anH:=(sr [mk 2 (.c ze)] 0 [0] (sr [ag 3 1] 0 [0,3] (sw (sr [mv 6 0,oa 7 .len 6,mi 8 0] 0 [3,6,7,8] (lp (sr [ob 9 pL 8 7] 0 [3,6,7,8,9] (sw (cx 9 0) (sw (b1 (sr [ix 10 1 6 8,lo 11 10,mv 5 11] 0 [3,5,6,7,8] (rg [mv 12 3,mv 13 5,oa 14 (.anD 213) 13,oa 15 (.aoM 1 [ze] [0]) 14,ob 16 (.app 1 false) 12 15,mv 3 16] 0 [3,6,7,8]))) (rg [oi 17 pA 8 1,mv 8 17] 0 [3,6,7,8])))))) (sr [mv 18 3,oc 19 (.apl 218) 18 (.c (.str ⟨#[32]⟩)),mv 2 19] 0 [2] .ret))))
def auw:anH:=(s0 [on 5 (.anD 121) [],al 2 0 [ze,z0,ze,z0,ze,z0,ze,z0,ze,z0,ze,z0],sk 12 2 5 0] 1 [0,1,2] [2] (sw (r1 [lv 7 0,ou 8 (.aHy true 2 6) 2 1,ob 9 (.call 126) 7 8,mv 6 9,xa 10 0 6,xa 11 1 6,mv 3 10,mv 4 11] 0 [1,3,4] []) (rg [mv 12 3,on 13 pA [kI 1,.t 12],mv 14 4,ob 15 (.build [z0,zs] [(0,1),(1,1)]) 13 14,sk 2 1 15 0] 0 [])))
def awi:anH:=(sr [mi 4 0,ag 5 1] 0 [0,1] (sr [mv 14 0,oc 15 (.anD 219) 14 (.c (.str ⟨#[32]⟩)),mv 6 15] 0 [0,1,6] (sr [mv 16 1,mv 17 6,oi 18 (.anU 1) 17 0,lo 19 18,mv 20 6,oa 21 .len 20,oi 22 pU 21 1,ob 23 (.build [ze,z0] [(0,1),(1,1)]) 19 22,ob 24 (.anD 220) 16 23,mv 7 24] 0 [0,6,7] (sr [mv 25 7,oi 26 (.bin .geq) 25 0,mv 27 0,ob 28 (.call 221) 26 27] 0 [0,6,7] (sr [ag 8 1] 0 [0,6,7,8] (sw (sr [mv 29 6,oi 30 (.axG 1 true false false) 29 1,oa 31 .len 30,mi 32 0] 0 [0,7,8,30,31,32] (lp (sr [ob 33 pL 32 31] 0 [0,7,8,30,31,32,33] (sw (cx 33 0) (sw (b1 (sr [ix 34 1 30 32,lo 35 34,mv 10 35] 0 [0,7,8,10,30,31,32] (sr [mi 11 0] 0 [0,7,8,10,11,30,31,32] (sw (sr [mv 36 10,oa 37 (.rngS 0) 36] 1 [0,7,8,10,11,30,31,32,37] (.block 2 (.loop (sr [oa 38 .aKY 37,xa 39 0 38] 0 [0,7,8,10,11,30,31,32,37,38,39] (sw (cx 39 2) (.block 3 (sr [xa 40 2 38,mv 13 40] 0 [0,7,8,10,11,13,30,31,32,37] (sr [mv 41 13,oc 42 (.bin .geq) 41 (.c (.int .i32 48)),mv 43 42,ov 44 .mov 13 43 0,ot 45 (.bin .leq) [.t 44,.c (.int .i32 57)] 43 0,pf 46 43 45,mv 47 46,ov 48 .mov 10 47 0,ov 49 .ayM 48 47 0,ot 50 (.bin .leq) [.t 49,kI 4] 47 0,pf 51 47 50,mv 52 0,ob 53 (.call 221) 51 52] 0 [0,7,8,10,11,13,30,31,32,37] (rg [mv 54 11,on 55 pM [kI 10,.t 54],mv 56 13,oc 57 pU 56 (.c (.int .i32 48)),oa 58 (.conv .i64) 57,ob 59 pA 55 58,mv 11 59] 0 [0,7,8,10,11,30,31,32,37]))))))))) (sr [mv 60 10,oc 61 pQ 60 (.c ze),mv 62 61,ov 63 .mov 11 62 0,ov 64 (.anD 213) 63 62 0,ov 65 .mov 10 62 0,obT 66 pE 64 65 62 0,pf 67 62 66,mv 68 0,ob 69 (.call 221) 67 68] 0 [0,7,8,11,30,31,32] (rg [mv 70 8,mv 71 11,oa 72 (.aoM 1 [z0] [0]) 71,ob 73 (.app 1 false) 70 72,mv 8 73] 0 [0,7,8,30,31,32])))))) (rg [oi 74 pA 32 1,mv 32 74] 0 [0,7,8,30,31,32])))))) (sr [mv 75 7,mv 76 8,mv 4 75,mv 5 76] 0 [4,5] .ret)))))))
def apT:anH:=(sr [mv 6 0,oa 7 .an8 6,fa 8 2 7,lo 9 8,oa 10 .len 9,mi 11 0] 0 [0,1,9,10,11] (lp (sr [ob 12 pL 11 10] 0 [0,1,9,10,11,12] (sw (cx 12 0) (sw (b1 (s0 [mv 13 11,ix 14 2 9 11,lw 15 2 14,al 5 0 [z0,zs],mv 4 13,sk 2 5 15 0] 1 [0,1,4,5,9,10,11] [5] (sr [fa 16 0 5,lo 17 16,oi 18 pQ 17 6,mv 19 18,ov 20 .mov 0 19 0,ov 21 .an8 20 19 0,ov 22 (.fld 3) 21 19 0,ov 23 ld 22 19 0,ov 24 .mov 4 19 0,obT 25 (.anU 1) 23 24 19 0,ov 26 ld 25 19 0,ov 27 pN 26 19 0,pf 28 19 27,mv 29 28,ov 30 .mov 1 29 0,ov 31 .mov 4 29 0,ov 32 (.load true 2) 5 29 0,ov 33 (.anD 111) 32 29 0,ot 34 .aqg [.t 30,.t 31,.t 33] 29 0,ov 35 pN 34 29 0,pf 36 29 35] 0 [0,1,9,10,11,36] (cd 36 .ret .skip)))) (rg [oi 37 pA 11 1,mv 11 37] 0 [0,1,9,10,11]))))))
def asD:anH:=(sr [mf 4 false] 0 [0,1] (sr [mv 5 1,mv 6 0,oa 7 .an8 6,fa 8 0 7,lo 9 8,oa 10 .an8 9,fa 11 0 10,fa 12 1 11,lo 13 12,oa 14 .len 13,oi 15 pU 14 1,on 16 (.anD 70) [.t 5,kI 0,.t 15],mv 4 16] 0 [4] .ret))
def asJ:anH:=(sr [mi 4 0] 0 [0,1] (sw (r1 [mv 14 0,oa 15 .an8 14,fu 16 0 15 1,fu 17 0 16 1,ou 18 (.load true 2) 17 1,mv 19 0,oa 20 .an8 19,fu 21 0 20 1,fu 22 0 21 1,fu 23 1 22 1,lv 24 23,mv 25 1,ob1 26 (.anU 1) 24 25 1,lv 27 26,ob 28 (.anD 28) 18 27,mv 13 28,xa 29 0 13,xa 30 1 13,mv 5 29,mv 6 30] 0 [0,5] []) (sw (r1 [mv 31 0,oa 32 .an8 31,fu 33 0 32 1,fu 34 13 33 1,lv 35 34,mv 36 0,oa 37 .an8 36,fu 38 0 37 1,fu 39 14 38 1,lv 40 39,mv 41 0,oa 42 .an8 41,fu 43 0 42 1,fu 44 15 43 1,lv 45 44,mv 46 0,oa 47 .an8 46,fu 48 0 47 1,fu 49 16 48 1,lv 50 49,on 51 (.build [zs,z0,z0,z0,z0,z0] [(1,1),(2,1),(3,1),(4,1)]) [.t 35,.t 40,.t 45,.t 50],al 7 0 [zs,z0,z0,z0,z0,z0],sk 6 7 51 4] 1 [5,7] []) (sw (sr [mv 52 5,oa 53 .len 52,mi 54 0] 0 [7,52,53,54] (lp (sr [ob 55 pL 54 53] 0 [7,52,53,54,55] (sw (cx 55 0) (sw (b1 (s0 [ix 56 2 52 54,lw 57 2 56,al 9 0 [z0,z0],sk 2 9 57 0] 1 [7,9,52,53,54] [9] (rg [fa 58 0 7,lo 59 58,fa 60 0 9,lo 61 60,fa 62 1 9,lo 63 62,ob 64 (.aoM 1 [z0,z0] [0,1]) 61 63,ob 65 (.app 1 false) 59 64,fa 66 0 7,sk 1 66 65 0] 0 [7,52,53,54]))) (rg [oi 67 pA 54 1,mv 54 67] 0 [7,52,53,54])))))) (sr [lw 69 6 7,oa 70 (.apl 29) 69,mv 68 70,xa 71 0 68,xa 72 1 68,xa 73 2 68,mv 10 71,mv 11 72,mv 12 73] 0 [10] (sr [mv 74 10,mv 4 74] 0 [4] .ret))))))
def auz:anH:=(sr [mf 2 false] 0 [0] (sr [mv 3 0,on 4 (.anD 70) [.t 3,kI 4,kI 60],mv 2 4] 0 [2] .ret))
def asZ:anH:=(sr [mf 4 false] 0 [0,1] (sr [mv 5 1,mv 6 0,oa 7 .an8 6,fa 8 1 7,lo 9 8,oa 10 .len 9,on 11 (.anD 70) [.t 5,kI 1,.t 10],mv 4 11] 0 [4] .ret))
def asG:anH:=(s0 [ba 2 0 0,mi 4 0] 1 [1,2] [2] (sr [mi 5 0] 0 [1,2,5] (sw (sr [fa 8 0 2,lo 9 8,oa 10 .an8 9,fa 11 21 10,lo 12 11,oa 13 .len 12,mi 14 0] 0 [1,5,12,13,14] (lp (sr [ob 15 pL 14 13] 0 [1,5,12,13,14,15] (sw (cx 15 0) (sw (b1 (sr [ix 16 1 12 14,lo 17 16,mv 7 17] 0 [1,5,7,12,13,14] (sr [mv 18 7,mv 19 1,ob 20 (.bin .leq) 18 19] 0 [1,5,7,12,13,14,20] (cd 20 (rg [mv 21 7,mv 5 21] 0 [1,5,12,13,14]) .skip)))) (rg [oi 22 pA 14 1,mv 14 22] 0 [1,5,12,13,14])))))) (sr [mv 23 1,mv 24 5,ob 25 pU 23 24,mv 4 25] 0 [4] .ret))))
def as9:anH:=(s0 [ba 6 0 2,mf 8 false] 1 [0,1,3,6] [6] (sw (r1 [mv 12 0,oa 13 .an8 12,fu 14 0 13 1,fu 15 0 14 1,ou 16 (.load true 2) 15 1,mv 17 1,ou 18 (.load true 2) 6 1,mv 19 3,on 20 (.anD 27) [.t 16,.t 17,.t 18,.t 19],mv 11 20,xa 21 0 11,xa 22 1 11,mv 9 21,mv 10 22] 0 [0,9] []) (sw (r1 [mv 23 9,mv 24 0,oa 25 .an8 24,fu 26 0 25 1,fu 27 3 26 1,lv 28 27,oa 29 (.un .neg) 28,mv 30 0,oa 31 .an8 30,fu 32 0 31 1,fu 33 3 32 1,lv 34 33,on 35 (.anD 70) [.t 23,.t 29,.t 34],mv 8 35] 0 [8] []) .ret)))
def aty:anH:=(sr [mi 6 0,mf 7 false] 0 [0,1,2] (sw (sr [mv 9 0,mv 8 9] 0 [1,2,8] (lp (sw (sr [mv 10 8,mv 11 1,ob 12 (.bin .leq) 10 11] 0 [1,2,8,12] (cx 12 0)) (sw (b1 (sr [mv 15 2,mv 16 8,ob 17 .aqg 15 16] 0 [1,2,8,17] (cd 17 (sr [mv 18 8,mv 6 18,mf 7 true] 0 [6,7] .ret) .skip))) (rg [mv 13 8,oi 14 pA 13 1,mv 8 14] 0 [1,2,8]))))) (sr [mi 6 0,mf 7 false] 0 [6,7] .ret)))
def arK:anH:=(sr [mf 3 false] 0 [0,1] (sr [fa 4 0 1,lo 5 4,oa 6 .an8 5,fa 7 17 6,lo 8 7,mv 9 0,oi 10 pU 9 1,ix 11 2 8 10,fa 12 1 11,lo 13 12,mv 3 13] 0 [3] .ret))
def atz:anH:=(s0 [ba 1 0 0,mf 2 false] 1 [1] [1] (sr [lw 3 2 1,oa 4 (.anD 201) 3,oa 5 pN 4,mv 2 5] 0 [2] .ret))
def as5:anH:=(s0 [ba 1 0 0,mf 2 false] 1 [1] [1] (sr [fa 3 0 1,lo 4 3,on 5 (.anD 70) [.t 4,kI 0,kI 50000],mv 6 5,ov 7 (.fld 1) 1 6 0,ov 8 ld 7 6 0,ot 9 (.anD 70) [.t 8,kI 1,kI 50000] 6 0,pf 10 6 9,mv 2 10] 0 [2] .ret))
def as4:anH:=(sr [mf 2 false] 0 [0] (sr [mv 3 0,on 4 (.anD 70) [.t 3,kI 0,kI 9999],oa 5 pN 4,mv 2 5] 0 [2] .ret))
def ap2:anH:=(sr [mv 3 0,oa 4 pN 3] 0 [1,4] (cd 4 (rg [lo 5 1,oa 6 (.build [.nilIface] [(0,1)]) 5,oa 7 (.mkI T.apV) 6,os .panic [.t 7] 0] 0 []) .skip))
def ata:anH:=(sr [mf 4 false] 0 [0,1] (sr [mv 6 0,oa 7 .an8 6,fa 8 18 7,lo 9 8,mv 10 1,ob 11 (.apl 269) 9 10,mv 5 11] 0 [0,5] (sw (sr [mv 12 5,oi 13 pL 12 0] 0 [0,5,13] (cd 13 (sr [mf 4 false] 0 [4] .ret) .skip)) (sr [mv 14 0,mv 15 0,oa 16 .an8 15,fa 17 18 16,lo 18 17,mv 19 5,mv 20 5,oi 21 pA 20 1,on 22 (.call 271) [.t 18,.t 19,.t 21],oa 23 .an8 14,fa 24 18 23,sk 1 24 22 0] 0 [] (sr [mf 4 true] 0 [4] .ret)))))
def atZ:anH:=(s0 [ba 1 0 0,al 2 1 [z0,zs],mi 3 0] 2 [1,2] [1] (sr [al 4 0 [z0,zs]] 1 [1,2,4] (sr [ob 6 (.mkF (.func 274) 0) 1 4,oa 7 (.call 72) 6,mv 5 7] 0 [2,4,5] (sr [lw 8 2 4,mv 9 5,sk 2 2 8 0,mv 3 9] 0 [2,3] .ret))))
def atp:anH:=(sr [mv 4 0,oa 5 pN 4] 0 [1,5] (cd 5 (rg [mv 6 1,oa 7 (.build [ze] [(0,1)]) 6,oa 8 (.mkI T.atf) 7,os .panic [.t 8] 0] 0 []) .skip))
def as7:anH:=(s0 [on 5 (.anD 71) [],al 2 0 [ze,z0,ze,z0,ze,z0,ze,z0,ze,z0,ze,z0,ze,z0,ze,z0,ze,z0,ze,z0,ze,z0,ze,z0],sk 24 2 5 0] 1 [0,1,2] [2] (sw (r1 [lv 7 0,ou 8 (.aHy true 2 12) 2 1,ob 9 (.call 126) 7 8,mv 6 9,xa 10 0 6,xa 11 1 6,mv 3 10,mv 4 11] 0 [1,3,4] []) (rg [mv 12 3,on 13 pA [kI 1,.t 12],mv 14 4,ob 15 (.build [z0,zs] [(0,1),(1,1)]) 13 14,sk 2 1 15 0] 0 [])))
def asK:anH:=(s0 [ba 2 0 0,mf 4 false] 1 [1,2] [2] (sw (r1 [fu 5 0 2 1,lv 6 5,mv 7 1,oa 8 .an8 7,fu 9 2 8 1,lv 10 9,ou 11 .len 10 1,oi 12 pU 11 1,on 13 (.anD 70) [.t 6,kI 0,.t 12],mv 14 13,ov 15 .mov 1 14 0,ov 16 .an8 15 14 0,ov 17 (.fld 2) 16 14 1,ov 18 ld 17 14 1,ov 19 (.fld 0) 2 14 1,ov 20 ld 19 14 1,obT 21 (.anU 2) 18 20 14 1,ov 22 (.fld 0) 21 14 1,ov 23 ld 22 14 1,ot 24 pQ [.t 23,kI 6] 14 0,pf 25 14 24,mv 4 25] 0 [4] []) .ret))
def atX:anH:=(s0 [ba 2 0 0,mf 4 false] 1 [2] [2] (sr [fa 5 0 2,lo 6 5,oa 7 (.anD 168) 6,mv 4 7] 0 [4] .ret))
def asI:anH:=(s0 [ba 2 0 0,mf 4 false] 1 [1,2] [2] (sw (r1 [fu 5 0 2 1,fu 6 0 5 1,lv 7 6,mv 8 1,oa 9 .an8 8,fu 10 0 9 1,lv 11 10,oa 12 .an8 11,fu 13 0 12 1,fu 14 0 13 1,lv 15 14,ou 16 .len 15 1,oi 17 pU 16 1,on 18 (.anD 70) [.t 7,kI 0,.t 17],mv 19 18,ov 20 (.fld 0) 2 19 1,ov 21 (.fld 1) 20 19 1,ov 22 (.fld 0) 21 19 1,ov 23 ld 22 19 1,ov 24 (.anD 168) 23 19 0,pf 25 19 24,mv 26 25,ov 27 (.fld 0) 2 26 1,ov 28 (.fld 1) 27 26 1,ov 29 (.fld 1) 28 26 1,ov 30 ld 29 26 1,ov 31 (.anD 168) 30 26 0,pf 32 26 31,mv 4 32] 0 [4] []) .ret))
def as6:anH:=(s0 [ba 2 0 0,mf 4 false] 1 [1,2] [2] (sr [mv 5 1,fa 6 0 2,lo 7 6,ob 8 (.anD 166) 5 7,mv 9 8,ov 10 (.fld 1) 2 9 0,ov 11 (.load true 2) 10 9 0,ov 12 (.anD 201) 11 9 0,pf 13 9 12,mv 4 13] 0 [4] .ret))
def as8:anH:=(s0 [ba 2 0 0,mf 4 false] 1 [1,2] [2] (sr [mv 5 1,fa 6 0 2,lo 7 6,ob 8 (.anD 166) 5 7,mv 4 8] 0 [4] .ret))
def at1:anH:=(s0 [ba 2 0 0,mf 4 false] 1 [1,2] [2] (sr [mv 5 1,fa 6 0 2,lo 7 6,ob 8 (.anD 170) 5 7,mv 4 8] 0 [4] .ret))
def avt:anH:=(sr [ba 1 0 0,mk 2 (.c (.nilPtr)),mi 3 0] 1 [1] (sw (sr [lw 5 17 1,oa 6 (.apl 107) 5,oa 7 pN 6] 0 [1,7] (cd 7 (sr [mk 2 (.c (.nilPtr)),mi 3 2] 0 [2,3] .ret) .skip)) (s0 [lw 8 17 1,oa 9 (.auN 108) 8,al 4 0 [zs,zs,zs,z0,z0,zs,z0,zs,z0,z0,z0,zs,z0,z0,z0,z0,z0],sk 17 4 9 0] 1 [4] [4] (sr [lw 10 17 4,oa 11 (.anD 109) 10,ob 12 (.build [.nilPtr,zs,zs,zs] [(0,1),(1,1)]) 4 11,ba 13 0 12,mv 2 13,mi 3 0] 1 [2,3] .ret))))
def asB:anH:=(sr [ba 2 0 0,ba 3 1 1,mi 4 0] 2 [2,3] (sw (sr [lo 9 2,oa 10 (.apl 69) 9,oa 11 pN 10] 0 [2,3,11] (cd 11 (sr [mi 4 1] 0 [4] .ret) .skip)) (sw (sr [lw 12 2 3,oa 13 (.apl 110) 12,oa 14 pN 13] 0 [2,3,14] (cd 14 (sr [mi 4 2] 0 [4] .ret) .skip)) (sw (sr [lo 15 2,oa 16 .an8 15,fa 17 2 16,lo 18 17,oa 19 .len 18,oi 20 pE 19 24] 0 [2,3,20] (cd 20 (sr [mi 4 3] 0 [4] .ret) .skip)) (s0 [lw 21 2 3,oa 22 (.auN 111) 21,al 5 0 [.nilIface],sk 1 5 22 0] 1 [2,3,5] [5] (sw (sr [lo 23 5,lo 24 2,ob 25 (.inv "tellurion/journeyman.fine") 23 24,oa 26 pN 25] 0 [2,3,5,26] (cd 26 (sr [mi 4 2] 0 [4] .ret) .skip)) (sr [ob 27 (.mkF (.func 112) 0) 5 2,oa 28 (.call 72) 27,mv 6 28] 0 [2,3,5,6] (sw (sr [mv 29 6,oi 30 pQ 29 0] 0 [2,3,5,6,30] (cd 30 (sr [mv 31 6,mv 4 31] 0 [4] .ret) .skip)) (sw (s0 [lo 33 5,oa 34 (.tas T.aoe (.agg [z0])) 33,mv 32 34,xa 35 0 32,xa 36 1 32,al 7 0 [z0],sk 1 7 35 0,mv 8 36] 1 [2,3,7,8] [7] (sr [mv 37 8] 0 [2,3,7,37] (cd 37 (r1 [ou 38 ld 2 2,oa 39 .an8 38,fu 40 3 39 2,ou 41 ld 40 2,fu 42 0 7 1,lv 43 42,ix 44 1 41 43,os (.store 1) [.t 44,.c (.bool true)] 3] 0 [2,3] []) .skip))) (sw (r1 [ou 45 ld 2 2,ou 46 ld 2 2,oa 47 .an8 46,fu 48 2 47 2,ou 49 ld 48 2,fu 50 0 3 2,ou 51 ld 50 2,fu 52 1 3 2,ou 53 ld 52 2,oa 54 (.auN 114) 53,ob 55 (.build [z0,zs] [(0,1),(1,1)]) 51 54,ou 56 (.aoM 2 [.agg [z0,zs]] [0]) 55 1,ob 57 (.app 2 false) 49 56,oa 58 .an8 45,fu 59 2 58 2,sk 1 59 57 0] 0 [2] []) (sw (r1 [ou 60 ld 2 2,ou 61 ld 2 2,oa 62 .an8 61,fu 63 3 62 2,ou 64 ld 63 2,of 65 (.aoM 1 [.bool false] [0]) [.c (.bool false)] 1,ob 66 (.app 1 true) 64 65,oa 67 .an8 60,fu 68 3 67 2,sk 1 68 66 0] 0 [] []) (sr [mi 4 0] 0 [4] .ret))))))))))))
structure Su where
 pc:Pc
 tg:List Fr
 lim:Int
 dvd:Dvd
 cal:Cal
 apM:apn
 fs:List Fs
 year:Int
 ao2:Int
 hours:Int
 aqJ:Int
 pct:Int
 deriving DecidableEq,Inhabited
def Su.cs (s:Su):List DV:=[sF (s.pc.links.map Lk.dv),sF (s.pc.hands.map anF),sF (s.tg.map Fr.dv),dI s.lim,dI s.dvd.aoG,sF (s.dvd.cir.map anF),dI s.cal.ep,sF (s.cal.cy.map anF),dI s.apM.n,dI s.apM.d,dI s.apM.ad,sF (s.fs.map Fs.dv),dI s.year,dI s.ao2,dI s.hours,dI s.aqJ,dI s.pct]
def Su.dv (s:Su):DV:= .agg s.cs
variable{s:Su}
def aq2:s.cs=[sF (s.pc.links.map Lk.dv),sF (s.pc.hands.map anF),sF (s.tg.map Fr.dv),dI s.lim,dI s.dvd.aoG,sF (s.dvd.cir.map anF),dI s.cal.ep,sF (s.cal.cy.map anF),dI s.apM.n,dI s.apM.d,dI s.apM.ad,sF (s.fs.map Fs.dv),dI s.year,dI s.ao2,dI s.hours,dI s.aqJ,dI s.pct]:=by rw[Su.cs]
def aoB:s.dv= .agg [sF (s.pc.links.map Lk.dv),sF (s.pc.hands.map anF),sF (s.tg.map Fr.dv),dI s.lim,dI s.dvd.aoG,sF (s.dvd.cir.map anF),dI s.cal.ep,sF (s.cal.cy.map anF),dI s.apM.n,dI s.apM.d,dI s.apM.ad,sF (s.fs.map Fs.dv),dI s.year,dI s.ao2,dI s.hours,dI s.aqJ,dI s.pct]:=by rw[Su.dv,Su.cs]
def Su.bil (s:Su)(aow:List Int):Bil:=⟨aow,s.ao2,s.hours,s.aqJ,s.pct,0⟩
def Su.ok (s:Su):Bool:=s.pc.ok&&decide (s.tg.length=s.pc.hands.length)&&inR s.lim 0 10800&&s.dvd.ok&&(s.cal.ok&&s.apM.ok&&aqb s.fs&&inR s.year 0 4000)&&(s.bil []).ok&&s.tg.all Fr.ok
def awN (n l h:Int):Pure C 70 [dI n,dI l,dI h] (.d (.bool (inR n l h))) []:=aw4 n l h
def aru (n:Int):Pure C 168 [dI n] (.d (.bool (anP n))) []:=by
 refine am6 auz anN ?_;simp only[auz,anN,RN,F]
 repeat' first
  |(refine anE (awN _ _ _) ?_;try simp only[RN,F,H,I,J,N,O])
  |(refine an7 (by rfl) (fun a=> ?_) (fun a=> ?_)<;>simp only[a,RN,F,H,I,J,N,O])
  |(refine aob (by rfl) (fun a=> ?_) (fun a=> ?_)<;>simp only[a,RN,F,H,I,J,N,O])
 all_goals(first|(simp only[anP, *,BSN];done)|(simp_all[anP];done)|(simp_all[anP];omega))
def aOp (f:Fr):Pure C 201 [f.dv] (.d (.bool f.ok)) []:=by
 refine am6 as5 anN ?_;simp only[as5,anN,aoa,RN,F,H,O]
 repeat' first
  |(refine anE (awN _ _ _) ?_;try simp only[aoa,RN,F,H,I,J,N,O])
  |(refine an7 (by rfl) (fun a=> ?_) (fun a=> ?_)<;>simp only[a,RN,F,H,O])
  |(refine aob (by rfl) (fun a=> ?_) (fun a=> ?_)<;>simp only[a,aoa,RN,F,H,I,J,N,O])
 all_goals(first|(simp only[Fr.ok, *,BSN];done)|(simp_all[Fr.ok];done)|(simp_all[Fr.ok];omega))
def aM5 (f:Fr):Pure C 200 [f.dv] (.d (.bool (!f.ok))) []:=by
 refine am6 atz anN ?_;simp only[atz,anN,aoa,RN,F,H,O];have h:=aOp f;rw[aoa]at h;refine anE h ?_;(try simp only[RN])
structure Su.Small (s:Su):Prop where
 l:s.pc.links.length<=1000
 h:s.pc.hands.length<=1000
 t:s.tg.length<=1000
 ci:s.dvd.cir.length<=1000
 cy:s.cal.cy.length<=1000
def aMK (c:Cal)(m:apn)(l:List Fs)(y:Int):∃d,auT c m l y= .tup [d,dI (if c.ok&&m.ok&&aqb l&&inR y 0 4000 then 0 else 2)]:=by
 unfold auT
 split<;>exact⟨_,rfl⟩
def aQd (d:Dvd):d.numbers.2=if d.ok then 0 else 2:=by unfold Dvd.numbers;split<;>rfl
def aW5 (b:Bil):b.aHj.2.2=if b.ok then 0 else 2:=by unfold Bil.aHj;split<;>rfl
def aH7 (s:Su)(hs:s.Small):Pure C 107 [s.dv] (.d (.bool s.ok)) []:=by
 refine am6 auy anN ?_;have h1:=aUe s.pc hs.l hs.h;rw[aot]at h1;have h2:=aO3 s.dvd hs.ci;rw[atm]at h2;have a:=aJS s.cal s.apM false s.fs s.year (by have:=hs.cy;omega);rw[aoJ,apz]at a;have b:=aQ4 (s.bil []) (by simp[Su.bil]);rw[aAY]at b;have o:=aHm s.tg 200 [] (fun f=> !f.ok) (by have:=hs.t;omega) (by kernel_rfl) fun f _=>aM5 f
 have z0:((0:Int) !=0)=false:=rfl;have p:((2:Int) !=0)=true:=rfl;have g:((0:Int)==0)=true:=rfl;have i:((2:Int)==0)=false:=rfl;simp only[auy,anN,aoB,RN,F,H,O];refine anE h1 ?_;cases j:s.pc.ok
 ·simp only[p,if_false,ae,RN,F]
  simp[Su.ok,j]
 simp only[z0,if_true,Q,RN,F,H,O]
 by_cases e:s.tg.length=s.pc.hands.length
 ·have z1:((s.tg.length:Int) !=(s.pc.hands.length:Int))=false:=by simp[e]
  simp only[z1,RN,F,H,O];refine anE (awN _ _ _) ?_;cases k:inR s.lim 0 10800
  ·(try simp only[RN,F])
   simp[Su.ok,k]
  (try simp only[RN,F,H,O]);obtain⟨q,c⟩:=aMK s.cal s.apM s.fs s.year;rw[c]at a;rw[aQd]at h2;rw[aW5]at b;refine anE h2 ?_;(try simp only[RN]);refine anE a ?_;(try simp only[RN]);refine anE b ?_;cases m:s.dvd.ok
  ·simp only[i,if_false,ae,RN,F]
   simp[Su.ok,m]
  cases n:s.cal.ok&&s.apM.ok&&aqb s.fs&&inR s.year 0 4000
  ·simp only[i,g,if_false,if_true,ae,RN,F]
   simp[Su.ok,n]
  cases k6:(s.bil []).ok
  ·simp only[i,g,if_false,if_true,ae,RN,F]
   simp[Su.ok,k6]
  simp only[g,if_true,RN,F,H,O];refine anE o ?_;simp only[axN,Bool.not_not,RN];rw[Su.ok,j,k,m,n,k6,decide_eq_true e];simp
 ·have z1:((s.tg.length:Int) !=(s.pc.hands.length:Int))=true:=by simp;omega
  simp only[z1,RN,F];simp[Su.ok,e]
def axR (xs:List DV)(hf:∀y∈xs,y.fits 1=true)(hl:xs.length<=1000000):Pure C 114 [.slice false xs] (.tsl 0 0 0) [⟨1,xs,0,0⟩]:=by
 refine ap3 avz anN ?_;simp only[avz,anN,RN,F,N];refine⟨fun _=> ?_,fun a b=> ?_⟩
 ·(try simp only[RN,F,H,I,J,N,O])
  exact⟨hf,by simp,by simp,by omega,auY (k:=1) (A:=⟨1,xs,0,0⟩) rfl rfl (V _) rfl⟩
 ·subst a
  cases b
  ·(try simp only[RN,F,N,O])
   (repeat(refine W (by first|assumption|rfl|(simp;done)|(simp;omega)) ?_))
   exact auY (k:=1) (A:=⟨1,[],0,0⟩) rfl rfl (V _) rfl
  ·(try simp only[RN,F,N])
   exact auY (k:=1) (A:=⟨1,[],0,0⟩) rfl rfl (V _) rfl
def aHQ (xs:List DV)(hf:∀y∈xs,y.fits 4=true)(hl:xs.length<=1000000):Pure C 204 [.slice false xs] (.tsl 0 0 0) [⟨4,xs,0,0⟩]:=by
 refine ap3 aq3 anN ?_;simp only[aq3,anN,RN,F,N];refine⟨fun _=> ?_,fun a b=> ?_⟩
 ·(try simp only[RN,F,H,I,J,N,O])
  exact⟨hf,by simp,by simp,by omega,auY (k:=1) (A:=⟨4,xs,0,0⟩) rfl rfl (V _) rfl⟩
 ·subst a
  cases b
  ·(try simp only[RN,F,N,O])
   (repeat(refine W (by first|assumption|rfl|(simp;done)|(simp;omega)) ?_))
   exact auY (k:=1) (A:=⟨4,[],0,0⟩) rfl rfl (V _) rfl
  ·(try simp only[RN,F,N])
   exact auY (k:=1) (A:=⟨4,[],0,0⟩) rfl rfl (V _) rfl
def aHP (xs:List DV)(hf:∀y∈xs,y.fits 2=true)(hl:xs.length<=1000000)(a:xs≠[]):Pure C 203 [.slice false xs] (.tsl 0 0 0) [⟨2,xs,0,1⟩]:=by
 refine ap3 aqr anN ?_;simp only[aqr,anN,RN,F,N];refine⟨fun _=> ?_,fun b=>absurd b a⟩;exact⟨hf,a,by simp,by omega,auY (k:=1) (A:=⟨2,xs,0,1⟩) rfl rfl (V _) rfl⟩
def Su.rows (s:Su):List Arr:=[⟨3,s.pc.links.map Lk.dv,0,1⟩,⟨1,s.pc.hands.map anF,0,0⟩,⟨2,s.tg.map Fr.dv,0,1⟩,⟨4,s.fs.map Fs.dv,0,0⟩,⟨1,s.dvd.cir.map anF,0,0⟩,⟨1,s.cal.cy.map anF,0,0⟩]
def Su.pv (s:Su):PV:= .agg [.tsl 0 0 0, .tsl 1 0 0, .tsl 2 0 0,pI s.lim,pI s.dvd.aoG, .tsl 4 0 0,pI s.cal.ep, .tsl 5 0 0,pI s.apM.n,pI s.apM.d,pI s.apM.ad, .tsl 3 0 0,pI s.year,pI s.ao2,pI s.hours,pI s.aqJ,pI s.pct]
structure Su.Some (s:Su):Prop where
 l:s.pc.links≠[]/\s.pc.links.length<=1000
 t:s.tg≠[]/\s.tg.length<=1000
 h:s.pc.hands.length<=1000
 f:s.fs.length<=1000
 ci:s.dvd.cir.length<=1000
 cy:s.cal.cy.length<=1000
def aqU {l:List Int}:∀y∈l.map anF,DV.fits 1 y=true:=by
 intro y a;simp only[an]at a;obtain⟨z,_,rfl⟩:=a;rfl
def aKb (s:Su)(hs:s.Some):Pure C 108 [s.dv] s.pv s.rows:=by
 have h1:=aDa (s.pc.links.map Lk.dv) (by intro y a;simp only[an]at a;obtain⟨z,_,rfl⟩:=a;rfl) (by have:=hs.l.2;simp;omega) (by simpa using hs.l.1);have h2:=axR (s.pc.hands.map anF) aqU (by have:=hs.h;simp;omega);have b:=aHP (s.tg.map Fr.dv) (by intro y a;simp only[an]at a;obtain⟨z,_,rfl⟩:=a;rfl) (by have:=hs.t.2;simp;omega) (by simpa using hs.t.1);have c:=aHQ (s.fs.map Fs.dv) (by intro y a;simp only[an]at a;obtain⟨z,_,rfl⟩:=a;rfl) (by have:=hs.f;simp;omega);have d:=axR (s.dvd.cir.map anF) aqU (by have:=hs.ci;simp;omega);have e:=axR (s.cal.cy.map anF) aqU (by have:=hs.cy;simp;omega);refine ap3 aqC aDB ?_;simp only[aqC,aDB,aoB,RN,F,H,N,O];refine arE rfl rfl h1 (by simp) ?_;simp only[PV.shift,apR,RN,H,O]
 (repeat(refine W (by first|assumption|rfl|(simp;done)|(simp;omega)) ?_))
 refine arE rfl rfl h2 (by simp) ?_;simp only[PV.shift,apR,aor,aox,RN,H,N,O]
 (repeat(refine W (by first|assumption|rfl|(simp;done)|(simp;omega)) ?_))
 refine arE rfl rfl b (by simp) ?_;simp only[PV.shift,apR,RN,H,O]
 (repeat(refine W (by first|assumption|rfl|(simp;done)|(simp;omega)) ?_))
 refine arE rfl rfl c (by simp) ?_;simp only[PV.shift,apR,aor,aox,RN,H,N,O]
 (repeat(refine W (by first|assumption|rfl|(simp;done)|(simp;omega)) ?_))
 refine arE rfl rfl d (by simp) ?_;simp only[PV.shift,apR,RN,H,O]
 (repeat(refine W (by first|assumption|rfl|(simp;done)|(simp;omega)) ?_))
 refine arE rfl rfl e (by simp) ?_;simp only[PV.shift,apR,aor,aox,RN,H,O]
 (repeat(refine W (by first|assumption|rfl|(simp;done)|(simp;omega)) ?_))
 simp only[an6,aoq,aoI,RN,H];exact⟨[(0,0),(1,0),(2,0),(3,0),(4,0),(5,0)],⟨by simp[auV],by decide⟩,rfl,rfl⟩
variable{x:DV}
def aQo {C:Ctx}{f:FuncId}{ds:List DV}{r:PV}{a:List Arr}(h:Pure C f ds r a)(hd:datum (rowsOf a) r=some x):Pure C f ds (.d x) []:=by
 intro X w c k n s p;refine(h X w c k n s p).mono fun e u m=> ?_
 obtain⟨v,t,rfl,h2,i,j⟩:=m;have g:av9 (rowsOf a) []:=⟨fun q o=>(by cases o),List.nodup_nil⟩
 exact⟨v,_,rfl,aJD h2 g,aFR i g, .d ((aqx (ps:=[r]) h2 j hd (by simp)).weaken fun b l=> .inl (azQ b l))⟩
def aRD (s:Su)(hs:s.Some):Pure C 108 [s.dv] (.d s.dv) []:=aQo (aKb s hs) (by rw[aoB];rfl)
def Su.dates (s:Su):List Int:=s.fs.map (aqT s.cal s.apM s.year)
def Su.works (s:Su)(n:Int):Bool:=(n+4).tmod 7 !=0&& !s.dates.contains n
def Su.first (s:Su):Int:=s.cal.first s.year.toNat
def Su.dur (s:Su):Nat:=(asl (s.cal.leap s.year)).toNat
def Su.asM (s:Su)(k:Nat):List (Int×Bool):=(aK k).map fun(i:Nat)=>(s.first+i,s.works (s.first+i))
def Su.days (s:Su):List (Int×Bool):=s.asM s.dur
def awJ (d:Int×Bool):DV:= .agg [dI d.1, .bool d.2]
def aMz {d:Int×Bool}:awJ d= .agg [dI d.1, .bool d.2]:=by rw[awJ]
def aKf (s:Su)(k:Nat):s.asM (k+1)=s.asM k++ [(s.first+k,s.works (s.first+k))]:=by simp[Su.asM,aM]
def Su.facts (h:s.ok=true):s.pc.ok=true/\s.tg.length=s.pc.hands.length/\inR s.lim 0 10800=true/\s.dvd.ok=true/\s.cal.ok=true/\s.apM.ok=true/\aqb s.fs=true/\(0<=s.year/\s.year<=4000)/\(s.bil []).ok=true/\∀f∈s.tg,f.ok=true:=by
 simp only[Su.ok,S,decide_eq_true_eq,aq]at h;obtain⟨⟨⟨⟨⟨⟨h1,h2⟩,b⟩,c⟩,⟨⟨d,e⟩,g⟩,i⟩,j⟩,a⟩:=h;exact⟨h1,h2,b,c,d,e,g,by simpa[inR]using i,j,a⟩
def Pc.avi {p:Pc}(h:p.ok=true):(1<=p.links.length/\p.links.length<=5)/\1<=p.hands.length/\p.hands.length<=4:=by
 simp only[Pc.ok,S,inR,decide_eq_true_eq]at h;omega
def Su.az7 (h:s.ok=true):s.Some:=by
 obtain⟨h1,h2,_,b,c,j,d,_⟩:=Su.facts h;obtain⟨a,f⟩:=Pc.avi h1;obtain⟨_,b1,_⟩:=Dvd.aGe b;obtain⟨_,g,_⟩:=Cal.facts c;obtain⟨i,_⟩:=atQ d;exact⟨⟨fun e=>by rw[e]at a;simp at a,by omega⟩,⟨fun e=>by rw[e]at h2;simp at h2;omega,by omega⟩,by omega,by omega,by omega,by omega⟩
def aMM {c:Cal}{y:Int}(hc:c.ok=true)(f:0<=y/\y<=4000):aKe c ⟨y,1,1⟩= .tup [dI (c.first y.toNat),dI 0]/\aKe c ⟨y,12,31⟩= .tup [dI (c.first y.toNat+asl (c.leap y) - 1),dI 0]:=by
 have d:inR y 0 4000=true:=by simp[inR];omega
 have b:(c.firsts 4002).getD y.toNat default=c.first y.toNat:=arW c (by omega);constructor
 ·have e:aqt c ⟨y,1,1⟩=true:=by cases a:c.leap y<;>simp[aqt,a,anV,inR]<;>omega
  rw[aKe,hc,e];simp only[aG,if_true,aw3,b];simp[aoA]
 ·have e:aqt c ⟨y,12,31⟩=true:=by cases a:c.leap y<;>simp[aqt,a,anV,inR]<;>omega
  rw[aKe,hc,e];simp only[aG,if_true,aw3,b];cases a:c.leap y<;>simp[aoA,anV,asl]<;>omega
def aUd (s:Su)(hs:s.ok=true):Pure C 109 [s.dv] (.d (sF (s.days.map awJ))) []:=by
 obtain⟨h1,h2,G,I,e,v,j,w,K,u⟩:=Su.facts hs;obtain⟨L,M,P⟩:=Cal.facts e;obtain⟨q,r⟩:=aMM e w;have l:=aWw s.cal ⟨s.year,1,1⟩ (by omega);have m:=aWw s.cal ⟨s.year,12,31⟩ (by omega);have n:=aJS s.cal s.apM false s.fs s.year (by omega);have f:auT s.cal s.apM s.fs s.year= .tup [sF (s.dates.map anF),dI 0]:=by
  rw[auT,e,v,j,show inR s.year 0 4000=true by simp[inR];omega];rfl
 rw[q,aoJ,arU]at l;rw[r,aoJ,arU]at m;rw[f,aoJ,apz]at n;have y:=s.cal.ap5 s.year.toNat;have hd:asl (s.cal.leap s.year)=s.dur:=by have:=aq7 (s.cal.leap s.year);unfold Su.dur;split at this<;>omega
 have x:s.dur<=366/\365<=s.dur:=by have:=aq7 (s.cal.leap s.year);unfold Su.dur;split at this<;>omega
 have o:a7 .i64 (s.cal.first s.year.toNat+asl (s.cal.leap s.year) - 1 - s.cal.first s.year.toNat)=(s.dur:Int) - 1:=by rw[anI (by omega)];omega
 have p:a7 .i64 ((s.dur:Int) - 1+1)=(s.dur:Int):=by rw[anI (by omega)];omega
 refine an9 (anJ awj anN ?_);simp only[awj,anN,aoB,RN,F,H,N,O];refine anE l ?_;(try simp only[RN]);refine anE m ?_;(try simp only[RN]);refine anE n ?_;simp only[o,p,RN];have a1f:s.dates.length<=6:=by
  have:=(atQ j).1;simp[Su.dates];omega
 refine anL s.dur (fun i (_:Unit)=>⟨[(3,pI (s.cal.first s.year.toNat)),(7, .d (sF (s.dates.map anF))),(9, .tsl 1 i 0),(45,pI s.dur),(46,pI i)],
   ⟨[some (s.cs.map .d)],[0],[some ⟨2,[],0,0⟩,some ⟨2,(s.asM i).map awJ,i,0⟩]⟩⟩)
  (fun _ _=>True) 0 () (V _) (by rw[aq2];rfl) trivial (fun i _ c _=> ?_) (fun _ _=> ?_)
 ·obtain⟨t,E,h⟩:=rng c (by omega)
  have A:a7 .i64 (s.cal.first s.year.toNat+(i:Int))=s.cal.first s.year.toNat+i:=anI (by omega);have B:a7 .i64 (s.cal.first s.year.toNat+(i:Int)+4)=s.cal.first s.year.toNat+i+4:=anI (by omega);have b1:0<=(s.cal.first s.year.toNat+(i:Int)+4).tmod 7:=aC 7 (by omega);have D:(s.cal.first s.year.toNat+(i:Int)+4).tmod 7<7:=ap _ (by decide);have R:a7 .i64 ((s.cal.first s.year.toNat+(i:Int)+4).tmod 7)=(s.cal.first s.year.toNat+(i:Int)+4).tmod 7:=anI (by omega);have z:¬((7:Int)=0):=by decide
  have b:(s.asM i).length=i:=by simp[Su.asM]
  have a:(s.asM i).map awJ++ [.agg [dI (s.cal.first s.year.toNat+i), .bool (s.works (s.cal.first s.year.toNat+i))]]=(s.asM (i+1)).map awJ:=by
   rw[aKf,aw];rfl
  simp only[t,A,B,z,RN,F];cases k:((s.cal.first s.year.toNat+(i:Int)+4).tmod 7 !=0)
  ·have g:s.works (s.cal.first s.year.toNat+i)=false:=by rw[Su.works,k];rfl
   rw[g]at a;simp only[h,DV.strip,forall_eq,b,Q,RN,F,H,J,N,O]
   (repeat(refine W (by first|assumption|rfl|(simp;done)|(simp;omega)) ?_))
   refine⟨by omega,?_⟩;rw[a];exact anT (len:=s.dur) (i:=i) () c rfl trivial
  ·have g:s.works (s.cal.first s.year.toNat+i)= !s.dates.contains (s.cal.first s.year.toNat+i):=by rw[Su.works,k];rfl
   rw[g]at a;(try simp only[RN,F,H,O]);refine aoQ rfl rfl (aHp s.dates _ (by omega)) ?_;simp only[h,DV.strip,forall_eq,b,Q,RN,F,H,J,N,O]
   (repeat(refine W (by first|assumption|rfl|(simp;done)|(simp;omega)) ?_))
   refine⟨by omega,?_⟩;rw[a];exact anT (len:=s.dur) (i:=i) () c rfl trivial
 ·simp only[ab,RN,F]
  simp[datum,Mem.row,Su.days]
structure En where
 kind:Int
 ns:List Int
 deriving DecidableEq,Inhabited
def En.dv (x:En):DV:= .agg [dI x.kind,sF (x.ns.map anF)]
def aon {x:En}:x.dv= .agg [dI x.kind,sF (x.ns.map anF)]:=by rw[En.dv]
inductive De where
 |cut (aow:Int)
 |change (c:Chg)
 |order (hand:Int) (f:Fr)
 |serve (hand aqy:Int)
 |set (day:Int)
 |strike (entry:Int)
 deriving DecidableEq,Inhabited
def De.cs:De->DV
 | .cut t=> .agg [.int .i64 t]
 | .change c=> .agg [.int .i64 c.link, .int .i64 c.pr.a, .int .i64 c.pr.b]
 | .order h f=> .agg [.int .i64 h, .int .i64 f.n, .int .i64 f.d]
 | .serve h c=> .agg [.int .i64 h, .int .i64 c]
 | .set d=> .agg [.int .i64 d]
 | .strike e=> .agg [.int .i64 e]
def De.ty:De->TypeId
 | .cut _=>T.aoZ
 | .change _=>T.aoh
 | .order _ _=>T.aoU
 | .serve _ _=>T.aoK
 | .set _=>T.ao0
 | .strike _=>T.aoe
def De.dv (x:De):DV:= .iface x.ty x.cs
def apG (k:Int):Nat:=if k=2\/k=3 then 3 else if k=4 then 2 else 1
def En.n (x:En)(i:Nat):Int:=x.ns.getD i default
def En.deed (x:En):De:=
 if x.kind=1 then .cut (x.n 0)else if x.kind=2 then .change ⟨x.n 0,⟨x.n 1,x.n 2⟩⟩else if x.kind=3 then .order (x.n 0) ⟨x.n 1,x.n 2⟩else if x.kind=4 then .serve (x.n 0) (x.n 1)else if x.kind=5 then .set (x.n 0)else .strike (x.n 0)
variable{base:Nat}{M:Mem}{K:PV->Mem->Prop}{KP:DV->Mem->Prop}
def aEb {C:Ctx}{t:TypeId}:anG C base (.mkI t) [.d x] M K KP=K (.d (.iface t x)) M:=by
 have:=ay3 (M:=M) (ds:=[x]);simp only[au,ay]at this;simp only[anG,datum,this]
def aFC (x:En)(g:apG x.kind<=x.ns.length):Pure C 111 [x.dv] (.d x.deed.dv) []:=by
 have k:(0:Int)<=1:=by omega
 have l:(0:Int)<=2:=by omega
 refine am6 au5 anN ?_;simp only[au5,anN,aon,RN,F,H,O]
 by_cases h1:x.kind=1
 ·have b1:(x.kind==1)=true:=by simp[h1]
  have a:0<x.ns.length:=by simp[apG,h1]at g;omega
  simp only[b1,j0,t0,a,Q,getD_map,anM,aEb,RN,F,O];simp only[De.dv,En.deed,h1,if_true,De.ty,De.cs,En.n]
 have b1:(x.kind==1)=false:=by simp[h1]
 by_cases h2:x.kind=2
 ·have b:(x.kind==2)=true:=by simp[h2]
  have a:0<x.ns.length/\1<x.ns.length/\2<x.ns.length:=by simp[apG,h2]at g;omega
  simp only[b1,b,j0,k,l,t0,t1,t2,a.1,a.2.1,a.2.2,Q,getD_map,anM,aEb,RN,F,H,O];simp only[De.dv,En.deed,h2,if_true,De.ty,De.cs,En.n]
  rfl
 have b:(x.kind==2)=false:=by simp[h2]
 by_cases c:x.kind=3
 ·have f:(x.kind==3)=true:=by simp[c]
  have a:0<x.ns.length/\1<x.ns.length/\2<x.ns.length:=by simp[apG,c]at g;omega
  simp only[b1,b,f,j0,k,l,t0,t1,t2,a.1,a.2.1,a.2.2,Q,getD_map,anM,aEb,RN,F,H,O];simp only[De.dv,En.deed,c,if_true,De.ty,De.cs,En.n]
  rfl
 have f:(x.kind==3)=false:=by simp[c]
 by_cases e:x.kind=4
 ·have h:(x.kind==4)=true:=by simp[e]
  have a:0<x.ns.length/\1<x.ns.length:=by simp[apG,e]at g;omega
  simp only[b1,b,f,h,j0,k,t0,t1,a.1,a.2,Q,getD_map,anM,aEb,RN,F,H,O];simp only[De.dv,En.deed,e,if_true,De.ty,De.cs,En.n]
  rfl
 have h:(x.kind==4)=false:=by simp[e]
 have a:0<x.ns.length:=by simp[apG,h2,c,e]at g;omega
 by_cases i:x.kind=5
 ·have j:(x.kind==5)=true:=by simp[i]
  simp only[b1,b,f,h,j,j0,t0,a,Q,getD_map,anM,aEb,RN,F,O];simp only[De.dv,En.deed,i,if_true,De.ty,De.cs,En.n]
  rfl
 have j:(x.kind==5)=false:=by simp[i]
 simp only[b1,b,f,h,j,j0,t0,a,Q,getD_map,anM,aEb,RN,F,O];simp only[De.dv,En.deed,h1,h2,c,e,i,if_false,De.ty,De.cs,En.n]
structure Sp where
 pc:Pc
 tg:List Fr
 aoN:List Int
 op:List (Int×Fr)
 aqy:Int
 sets:List Int
 deriving DecidableEq,Inhabited
def opD (l:List (Int×Fr)):List (DV×DV):=l.map fun p=>(dI p.1,p.2.dv)
def Sp.cells (a b:Bool)(s:Su)(t:Sp):List DV:=[sF (t.pc.links.map Lk.dv),sF (t.pc.hands.map anF),sF (t.tg.map Fr.dv),dI s.lim,dI s.dvd.aoG,sF (s.dvd.cir.map anF),dI s.cal.ep,sF (s.cal.cy.map anF),dI s.apM.n,dI s.apM.d,dI s.apM.ad,sF (s.fs.map Fs.dv),dI s.year,dI s.ao2,dI s.hours,dI s.aqJ,dI s.pct,
 sF (s.days.map awJ), .slice a (t.aoN.map anF), .map (some (opD t.op)),dI t.aqy, .slice b (t.sets.map anF)]
def aom {a b:Bool}{t:Sp}:t.cells a b s=[sF (t.pc.links.map Lk.dv),sF (t.pc.hands.map anF),sF (t.tg.map Fr.dv),dI s.lim,dI s.dvd.aoG,sF (s.dvd.cir.map anF),dI s.cal.ep,sF (s.cal.cy.map anF),dI s.apM.n,dI s.apM.d,dI s.apM.ad,sF (s.fs.map Fs.dv),dI s.year,dI s.ao2,dI s.hours,dI s.aqJ,dI s.pct,
 sF (s.days.map awJ), .slice a (t.aoN.map anF), .map (some (opD t.op)),dI t.aqy, .slice b (t.sets.map anF)]:=by rw[Sp.cells]
def aAj (s:Su)(t:Sp)(hand:Int)(f:Fr)(turns:Int):Bool:=inR (att t.pc hand f turns).1 (-s.lim) s.lim
def aSu (b c:Bool)(s:Su)(t:Sp)(hand:Int)(f:Fr)(turns:Int)(hl:t.pc.links.length<=1000)(hh:t.pc.hands.length<=1000)(g:0<=s.lim/\s.lim<=10800):Pure C 172 [.anY (t.cells b c s),dI hand,f.dv,dI turns] (.d (.bool (aAj s t hand f turns))) []:=by
 have a:=aN8 t.pc hl hh hand f turns;rw[aot,aoa]at a;have e:a7 .i64 (0 - s.lim)= -s.lim:=by rw[anI (by omega)];omega
 refine am6 as9 asQ ?_;simp only[as9,asQ,aom,aoa,RN,F,H,O];refine anE a ?_;simp only[e,RN];refine anE (awN _ _ _) ?_;simp only[aAj]
def aou (l:List Pr):List Int:=l.flatMap fun p=>[p.a,p.b]
def aya (s:Su)(t:Sp)(hand:Nat):Int:=(s.bil (aou (anX t.pc.links (t.pc.hands.getD hand default).toNat))).aHj.1
def asX (l:List Pr):(aou l).length=2*l.length:=by
 induction l with
 |nil=>rfl
 |cons x l a=>simp only[aou,List.flatMap_cons,List.length_append,aT,List.length_nil]at a⊢;omega
def axf {C:Ctx}{z1 c:DV}{k k':IntKind}{a b:Int}:anG C base (.aoM 1 [z1,c] [0,1]) [.d (.int k a), .d (.int k' b)] M K KP=K (.d (.slice true [.int k a, .int k' b])) M:=by
 have:=ay3 (M:=M) (ds:=[DV.int k a, .int k' b]);simp only[au,ay]at this;simp[anG,aos,datum,auq,this,DV.strip,DV.cells]
def prC:Nat->PV
 |0=> .d (.slice true [])
 |i+1=> .tsl 0 i 0
def prA (l:List Pr):Nat->List (Option Arr)
 |0=>[]
 |i+1=>[some ⟨1,(aou (l.take (i+1))).map anF,i,0⟩]
def aSY (s:Su)(l:List Pr)(i:Nat):St:=
 ⟨[(7, .ptr 0 0),(52, .d (sF (l.map Pr.dv))),(53,pI l.length),(54,pI i)],
  ⟨[some [prC i,pI s.ao2,pI s.hours,pI s.aqJ,pI s.pct,pI 0]],[],prA l i⟩⟩
def aOA (v w:Bool)(s:Su)(t:Sp)(hand:Nat)(j:t.pc.ok=true)(hh:hand<t.pc.hands.length):Pure C 167 [.anY (t.cells v w s),dI hand] (pI (aya s t hand)) []:=by
 have x:1<=t.pc.hands.getD hand default/\t.pc.hands.getD hand default<=t.pc.links.length:=by
  simp only[Pc.ok,S,aq]at j;have:=j.2 _ (getD_mem hh)
  simpa[inR]using this
 obtain⟨a,r⟩:∃a:Nat,t.pc.hands.getD hand default=a:=⟨(t.pc.hands.getD hand default).toNat,by omega⟩
 have u:=aUm t.pc j a (by omega) (by omega);rw[aot]at u;have j0:(0:Int)<=(hand:Int):=by omega
 refine am6 asJ anO ?_;simp only[asJ,anO,aom,j0,U,hh,Q,getD_map,anM,r,RN,F,H,I,O];refine anE u ?_;simp only[Q,RN,H,O];obtain⟨l,k⟩:∃l,l=anX t.pc.links a:=⟨_,rfl⟩
 have z:l.length<=3:=by rw[k,anX,Q];exact(Pc.good j).short a (by omega)
 have c:=aQ4 (s.bil (aou l)) (by simp only[Su.bil,asX];omega);rw[aAY]at c;have g:aya s t hand=(s.bil (aou l)).aHj.1:=by rw[aya,r,k];rfl
 simp only[<-k];refine anL l.length (fun i (_:Unit)=>aSY s l i) (fun _ _=>True) 0 () (V _) rfl trivial (fun i _ e _=> ?_) (fun _ _=> ?_)
 ·obtain⟨o,p,q⟩:=rng e (by omega)
  have h:(aou (l.take i)).map anF++ [dI (l.getD i default).a,dI (l.getD i default).b]=(aou (l.take (i+1))).map anF:=by
   rw[anR e];simp[aou,anF]
  have m:((aou (l.take i)).map anF).length<=2000000:=by simp only[Q,asX,aU];omega
  rcases i with _|i
  ·have a0A:[dI (l.getD 0 default).a,dI (l.getD 0 default).b]=(aou (l.take (0+1))).map anF:=by simpa[aou]using h
   simp only[aSY,prC,prA,o,p,e,Q,getD_map,U,aqA,axf,aor,aox,RN,F,H,J,N,O];refine⟨by rintro y (rfl|rfl)<;>rfl,by simp,by simp,?_⟩;rw[a0A,q];exact ao7 1 1 () e rfl trivial (by simp) (by simp) rfl rfl
  ·simp only[aSY,prC,prA,o,p,e,Q,getD_map,U,aqA,axf,aor,aox,RN,F,H,J,N,O]
   refine⟨by rintro y (rfl|rfl)<;>rfl,by simp,?_⟩
   (repeat(refine W (by first|assumption|rfl|(simp;done)|(simp;omega)) ?_))
   rw[h,q];refine⟨by simpa using aS m (by decide),?_⟩;exact ao7 1 1 () e rfl trivial (by simp) (by simp) rfl rfl
 ·rcases hln:l.length with _|i
  ·have f:l=[]:=List.eq_nil_of_length_eq_zero hln
   subst f;simp only[aSY,prC,prA,ab,RN,F,H,O];refine ap8 (asT rfl) rfl c rfl ?_;simp only[g,RN]
  ·have n:l.take (i+1)=l:=by rw[<-hln,aI]
   simp only[aSY,prC,prA,hln,ab,n,an6,aoq,RN,F,H,O];refine ap8 (asT (d:= .agg [sF ((aou l).map anF),dI s.ao2,dI s.hours,dI s.aqJ,dI s.pct,dI 0]) (by simp[datum,aoi,aoO,Mem.row])) rfl c rfl ?_;simp only[g,RN]
end Go.Tel
