/-
  Part 9 of a law of desks.
  Conditions: none.
-/
import Derived.Test.YtbefoehadfnkbaaGreatDoorJourneymanEntersM07
import Derived.Test.YtbefoehadfnkbaaGreatDoorJourneymanEntersM08
import Derived.Test.YtbefoehadfnkbaaGreatDoorRows
import Derived.Lay
import Derived.Handed
import Derived.LaidHandle
import Derived.Lib.LaidTab
set_option linter.all false
set_option maxRecDepth 10000
set_option maxHeartbeats 4000000
open Nat renaming reduceBEq->B,reduceAdd->F,reduceSub->I,reduceEqDiff->J,reduceLT->N,reduceLeDiff->O,zero_le->Z,le_trans->av,min_eq_right->bB,le_refl->bE,min_eq_left->bS,mul_le_mul->b6,lt_irrefl->b8
open List renaming length_map->Q,take_length->ae,length_take->am,length_append->an,length_filter_le->ap,map_append->aq,drop_length->aw,getD_eq_getElem?_getD->az,getElem?_append_left->aD,getElem?_eq_some_iff->aE,append_nil->aL,take_of_length_le->aM,mem_of_mem_take->a1,getElem?_concat_length->a6,getElem?_append_right->a8,length_cons->bc,range->bd,range_succ->be,getElem?_eq_none->bh,getElem?_set_ne->bi,mem_range->bj,flatMap_append->bk,map_cons->bo,filter_append->bp,flatMap_cons->bq,getElem?_map->bt,map_nil->bu,mem_map->bv,all_eq_true->bz,filter_cons->bA,any_append->bL,filter_nil->bN,mem_filter->bO,nil_append->bR,drop_zero->b4,find?_nil->b5,all_cons->b7,all_nil->cb
open Int renaming toNat_natCast->U,lt_irrefl->ab,natCast_zero->bw,add_zero->ca,le_refl->cf
open Bool renaming false_and->V,and_eq_true->ai,true_and->aR,false_eq_true->a7,false_or->bl,and_false->b1,not_false->b2,true_or->b9
open ByteArray renaming size_append->ax
open Option renaming map_none->bX
open Go.IntKind renaming wrap->cg
namespace Go.Tel
open Go.Am
def axY (b:Bool):(aY b).length=12:=by cases b<;>rfl
def ayo (b:Bool):dS (aY b) 0=wH b:=by cases b<;>rfl
def ayp (c:Cal)(hc:c.ok=true)(Y:Nat)(hY:Y<=4000)(day:Int)(h1:c.first Y<=day)(h2:day<c.first (Y+1)):Pure C 143 [c.dv,dI day] (.d (.tup [(SA c Y day).dv, .bool true])) []:=by
 obtain⟨he,hl,w⟩:=Cal.facts hc;have hb:=c.kG Y;have G:=c.kG (Y+1);have H:0<=day/\day<=2000000:=by omega
 have s:c.first 0=c.ep:=rfl;have g:=fun y:Int=>am9 c y (by omega) (fun n a=>by have:=w n a;omega)
 have f:=fun y:Int=>Rz c y (by omega) (fun n a=>by have:=w n a;omega)
 have r:=fun b=>mY b
 rw[fE]at g f;have V:cg .i64 (day - c.ep)=day - c.first 0:=by rw[s,aF (by omega)]
 have X:¬day - c.first 0<0:=by have:=Dx c (Z Y);omega
 refine bU (ayH aw5 OU ?_);rw[fE];simp only[aw5,OU,V,X,RN,B,F,O];refine aH (Y+1) (fun i (_:Unit)=>⟨[(2, .d (.aW [dI c.ep,sF (c.cy.map ay)])),(4, .ptr 1 0),(6,pI (day - c.first i)),(7,pI i)],⟨[some [pI c.ep, .d (sF (c.cy.map ay))],some [pI 0,pI 0,pI 0]],[0],[]⟩⟩)
  (fun i _=>i<=Y) 0 () (Z _) rfl (Z _) (fun i _ A _=> ?_) (fun _ h=>absurd h (by omega))
 have D:(i:Int)<=4000:=by omega
 have E:cg .i64 ((i:Int)+1)=((i+1:Nat):Int):=by rw[aF (by omega)];omega
 have K:c.first (i+1)=c.first i+wH (c.leap i):=rfl;have L:=Dx c (show 0<=i by omega);have j:=r (c.leap i);simp only[D,RN,B,F,O];refine ayG (g i) ?_
 by_cases M:i<Y
 ·have hm:=Dx c (show i+1<=Y by omega)
  have u:day - c.first i>=wH (c.leap i):=by omega
  have W:cg .i64 (day - c.first i - wH (c.leap i))=day - c.first (i+1):=by rw[aF (by split at j<;>omega)];omega
  simp only[u,W,E,RN,B,F];exact iQ () A rfl (by omega) (by simp) (by simp) rfl rfl
 obtain rfl:i=Y:=by omega
 have u:¬day - c.first i>=wH (c.leap i):=by omega
 simp only[u,RN,B,F];refine aH 12 (fun m (left:Int)=>⟨[(2, .d (.aW [dI c.ep,sF (c.cy.map ay)])),(4, .ptr 1 0),(6,pI left),(7,pI i),(9, .d (dI ((m:Int)+1)))],⟨[some [pI c.ep, .d (sF (c.cy.map ay))],some [pI 0,pI 0,pI 0]],[0],[]⟩⟩)
  (fun m left=>aaN (aY (c.leap i)) 0 (day - c.first i)=aaN ((aY (c.leap i)).drop m) m left/\0<=left/\left<=400/\left<dS ((aY (c.leap i)).drop m) 0) 0 (day - c.first i) (Z _) rfl ⟨rfl,by omega,by split at j<;>omega,by rw[b4,ayo];omega⟩ (fun m left Q q=> ?_) (fun left q=> ?_)
 ·obtain⟨e,T,U,p⟩:=q
  have R:(m:Int)+1<=12:=by omega
  have P:=axY (c.leap i);have S:cg .i64 ((m:Int)+1+1)=((m+1:Nat):Int)+1:=by rw[aF (by omega)];omega
  have v:=Xo (m:=(m:Int)+1) (by omega) (c.leap i);rw[show((m:Int)+1 - 1).toNat=m by omega]at v;have k:=drop_cons (l:=aY (c.leap i)) (show m<(aY (c.leap i)).length by omega);rw[k,dS,KN]at p;rw[k,aaN]at e;have z:0<=(aY (c.leap i)).getD m default/\(aY (c.leap i)).getD m default<=31:=by
   have:∀x∈aY (c.leap i),0<=x/\x<=31:=by cases c.leap i<;>decide
   exact this _ (getD_mem (by omega))
  simp only[R,RN,B,F,O];refine ayG (f i) ?_;(try simp only[RN,B,F,I,J,N,O]);refine ayG v ?_
  by_cases o:left<(aY (c.leap i)).getD m default
  ·rw[if_pos o]at e
   have t:cg .i64 (left+1)=left+1:=aF (by omega);simp only[o,t,RN,B,F,J,O];simp[SA,e,pY,datum]
  ·rw[if_neg o]at e
   have t:cg .i64 (left - (aY (c.leap i)).getD m default)=left - (aY (c.leap i)).getD m default:=aF (by omega);simp only[o,t,S,RN,B,F];exact iQ (left - (aY (c.leap i)).getD m default) Q rfl ⟨by rw[e];rfl,by omega,by omega,by omega⟩ (by simp) (by simp) rfl rfl
 ·obtain⟨e,T,U,p⟩:=q
  rw[List.drop_eq_nil_of_le (by rw[axY];exact bE _)]at p;simp only[dS]at p;omega
def axe (d y:Int):∀(l:List Int) (a:Int),WV (l++ [y]) d a=if y<=d then y else WV l d a
 | [],_=>rfl
 |x::l,a=>by rw[List.cons_append,WV,axe d y l,WV]
def axI {d b:Int}:∀{l:List Int} {a:Int},(∀y∈l,y<b)->a<b->WV l d a<b
 | [],_,_,h=>h
 |x::l,a,h1,h2=>by
  rw[WV];exact axI (fun y c=>h1 y (by simp[c])) (by split;exact h1 x (by simp);exact h2)
def axH {d:Int}:∀{l:List Int} {a:Int},a<=d->WV l d a<=d
 | [],_,h=>h
 |x::l,a,h=>by rw[WV];exact axH (by split<;>omega)
def ayt {s:Su}{l:List En}(hl:∀x∈l,x.Fit s):∀d∈Vg l,1<=d/\d<=366:=by
 intro d hd;simp only[Vg,bv,bO,beq_iff_eq]at hd;obtain⟨x,⟨a,k⟩,rfl⟩:=hd;have h:=(hl x a).df;rw[En.Pq k]at h;obtain⟨b,c⟩:=h;have:=yJ s;omega
def axO (s:Su)(hs:s.ok=true)(l:List En)(hl:∀x∈l,x.Fit s)(K:mJ s l=true)(S:l.length<=400)(h day:Int)(t:0<=h)(h1:h.toNat<s.pc.hands.length)(hd:1<=day/\day<=366):Pure C 140 [s.dv,sF (l.map En.dv),dI h,dI day] (.d (dI (aj6 (dG s l) h (RP s l h) (auq l day)))) []:=by
 have y:=(Su.facts hs).2.1;have E:=UM s hs l hl (by omega);have G:=ax5 s l h t (by omega) (fun x p=>Dz (hl x p)) (by omega);have w:=ahv hs l hl;have A:=auD hs l hl K t (by rw[y];exact h1);have R:=aus day (Vg l) 0 (ayt hl) (by omega);have c:=axH (d:=day) (l:=Vg l) (a:=0) (by omega);have H:=akB (dG s l) w h t (by rw[as5];exact h1) (RP s l h) A (auq l day) (by unfold auq;omega);have M:cg .i64 (day - WV (Vg l) day 0)=auq l day:=by rw[aF (by omega)];rfl
 rw[gU,dZ]at E;rw[gU,bW]at G;rw[dZ,bW]at H;refine ayF axi Bz ?_;rw[gU];simp only[axi,Bz,RN,B,F];refine aH l.length (fun i (_:Unit)=>⟨[(1, .d (sF (l.map En.dv))),(2,pI h),(3,pI day),(4, .d (.aW s.cs)),(9, .d (dI (WV (Vg (l.take i)) day 0))),(10,pI i)],⟨[some (s.cs.map .d)],[0],[]⟩⟩)
  (fun i _=>True) 0 () (Z _) rfl trivial (fun i _ f _=> ?_) (fun _ _=> ?_)
 ·obtain⟨P,q,r⟩:=rng f (by omega)
  obtain⟨x,b⟩:∃x,x=l.getD i default:=⟨_,rfl⟩
  have p:x.Fit s:=by rw[b];exact hl _ (getD_mem f)
  have m:=Dz p;have v:qh s (l.take i) x=true:=by rw[b];exact atE K f
  have g:Vg (l.take (i+1))=if x.kind=5 then Vg (l.take i)++ [x.n 0]else Vg (l.take i):=by rw[aS f,<-b,zC]
  simp only[P,q,f,getD_map,<-b,dM,U,Q,RN,B,F,O]
  by_cases j:x.kind=5
  ·have z:(x.kind==5)=true:=by simp[j]
   have l1:x.ns.length=1:=by rw[m,j];rfl
   have L:0<x.ns.length:=by omega
   have D:x.n 0=x.ns.getD 0 default:=rfl;have k:=p.df;rw[En.Pq j]at k;obtain⟨T,V⟩:=k;have o:=axI (d:=day) (auz j v).1 (show(0:Int)<x.n 0 by omega);rw[if_pos j]at g;have e:=axe day (x.n 0) (Vg (l.take i)) 0;rw[<-g,D]at e;rw[D]at o;simp only[z,q,f,getD_map,<-b,dM,U,Q,j0,t0,L,aI,RN,B,F,O]
   by_cases c:x.ns.getD 0 default<=day
   ·rw[if_pos c]at e
    have u:x.ns.getD 0 default>WV (Vg (l.take i)) day 0:=o;simp only[c,q,f,getD_map,<-b,dM,U,Q,j0,t0,L,aI,agP,if_pos u,r,RN,B,F,O];exact bn () f (by rw[e]) trivial
   ·rw[if_neg c]at e
    simp only[c,r,RN,B];exact bn () f (by rw[e]) trivial
  ·have z:(x.kind==5)=false:=beq_false_of_ne j
   rw[if_neg j]at g;simp only[z,r,RN,B];exact bn () f (by rw[g]) trivial
 ·simp only[uS,ab,Q,ae,M,RN,B,F,O]
  refine ayG E ?_;(try simp only[RN,B,F,I,J,N,O]);refine ayG G ?_
  try simp only[M,RN,B,F,I,J,N,O]
  refine ayG H ?_;(try simp only[])
def awr (s:Su)(l:List En)(a b c:Int):List Int×Int:=
 if inR a 0 ((s.pc.hands.length:Int) - 1)&&(aT b&&aT c&&decide (b<=c))&& !decide (c - b>10)then
  if(dA l a).2 then
   match axl (dG s l) a (dA l a).1 (O9 (dG s l) b (c - b+1).toNat (dG s l).links.length 0)with
   |some L=>(IW L,0)
   |none=>([],5)
  else([],7)
 else([],2)
variable{D:Dk}
def ayc {t:Sp}(h:D.Live)(q:D.state (-1)=some t)(a b c:Int):(if(uU D t a b c).2=0 then uU D t a b c else([],(uU D t a b c).2))=awr D.su (bC D (-1)) a b c:=by
 obtain⟨r,d,j,n⟩:=h.t;rw[q]at d;cases d;have m:=h.fits (-1);unfold uU awr;cases h1:inR a 0 ((D.su.pc.hands.length:Int) - 1)
 ·simp
 cases h2:aT b
 ·simp
 cases l:aT c
 ·simp
 by_cases e:b<=c
 case neg=>
  have:inR (c - b) 0 10=false:=by simp[inR];omega
  simp[this,e]
 by_cases f:c - b>10
 ·have:inR (c - b) 0 10=false:=by simp[inR];omega
  simp[this,f]
 have k:inR (c - b) 0 10=true:=adF (by omega);rw[j.op a];cases p:(dA (bC D (-1)) a).2
 ·simp[k,e,f]
 have g:=L6 _ a m p;have i:(dG D.su (bC D (-1))).ok=true:=by rw[<-j.pc];exact n.pc
 have o:=aw3 i h2 l e (by omega) (by rw[as5];exact h1) g;rw[j.pc,if_pos rfl];simp only[o,k,e,f,Bool.and_self,decide_true,decide_false,b2,if_true];cases axl (dG D.su (bC D (-1))) a (dA (bC D (-1)) a).1 (O9 (dG D.su (bC D (-1))) b (c - b+1).toNat (dG D.su (bC D (-1))).links.length 0)with
 |some L=>rfl
 |none=>rfl
def chP (p:Pc):DV:= .aW [sF (p.links.map Lk.dv),sF (p.hands.map ay)]
def chB (p:Pc)(f:Fr):List (Option (List PV)):=[some [.d (sF (p.links.map Lk.dv)), .d (sF (p.hands.map ay))],some [pI f.n,pI f.d]]
variable{i:Nat}
def axv {α:Type}[Inhabited α]{S:α->Bool}{l:List α}(h:i<l.length):(l.drop i).find? S=if S (l.getD i default)then some (l.getD i default)else(l.drop (i+1)).find? S:=by
 rw[drop_cons h,List.find?_cons];cases S (l.getD i default)<;>rfl
def axT (p:Pc)(w:p.ok=true)(a e hand:Int)(hl:aT a=true)(hm:aT e=true)(am:a<=e)(hw:e - a<=10)(h0:0<=hand)(h1:hand.toNat<p.hands.length)(f:Fr)(hf:f.ok=true):
  Pure C 230 [p.dv,dI a,dI e,dI hand,f.dv] (.d (.tup [.slice true (((axl p hand f (O9 p a (e - a+1).toNat p.links.length 0)).getD []).map Chg.dv), .bool (axl p hand f (O9 p a (e - a+1).toNat p.links.length 0)).isSome])) []:=by
 have g:=Pc.good w;have ax:4<=a/\a<=60:=by simpa[aT,inR]using hl
 have asW:4<=e/\e<=60:=by simpa[aT,inR]using hm
 have Y:=aye p w a e hl hm am hw;obtain⟨L,W⟩:∃L,L=O9 p a (e - a+1).toNat p.links.length 0:=⟨_,rfl⟩
 rw[<-W]at Y⊢;have l:∀c∈L,(0<=c.link/\c.link.toNat<p.links.length)/\c.pr.ok=true:=by
  intro c K;rw[W]at K;have:=aw1 K;refine⟨by omega,?_⟩;simp[Pr.ok,aT,inR];omega
 have az:L.length<=605:=by
  rw[W];refine av (aw0 _ _ _ _ _) (av (b6 g.l2 (b6 ?_ ?_)) (by decide:5*(11*11)<=605))<;>omega
 clear W;have E:=axP p p w w rfl hand h0 h1 f hf;have T:=fun(q:Pc) (hq:q.links.length=p.links.length) (c:Chg) (K:c∈L)=>Ky q c (by have:=g.l2;omega) (l c K).1.1 (by rw[hq];exact(l c K).1.2)
 have hS:=fun(q:Pc) (hq:q.ok=true) (an:q.links.length=p.links.length)=>axP p q w hq an hand h0 h1 f hf
 simp only[dZ,bW,sW]at Y E T hS;refine ayF awJ akM ?_;rw[dZ,bW];simp only[awJ,akM,RN,B,F,O];refine ayG E ?_;rw[axl];cases k0:OY p p hand f
 case true=>
  (try simp only[RN,B,F])
  rfl
 (try simp only[RN,B,F,O]);refine ayG Y ?_;(try simp only[]);refine aH L.length (fun i (_:Unit)=>⟨[(3,pI hand),(5, .d (chP p)),(9, .d (.aW [dI f.n,dI f.d])),(12, .d (sF (L.map Chg.dv))),(13,pI i)],⟨chB p f,[1,0],[]⟩⟩)
  (fun i _=>(L.find? fun c=>OY p (p.changed c) hand f)=(L.drop i).find? fun c=>OY p (p.changed c) hand f) 0 () (Z _) rfl rfl (fun i _ m b=> ?_) (fun _ b=> ?_)
 ·obtain⟨X,A,R⟩:=rng m (by omega)
  obtain⟨c,h⟩:∃c,c=L.getD i default:=⟨_,rfl⟩
  have r:c∈L:=by rw[h];exact getD_mem m
  rw[axv m,<-h]at b;have u:=T p rfl c r;have ao:=hS (p.changed c) (Dl w (l c r).2) (aww p c);simp only[chP,X,A,m,getD_map,<-h,sW,U,Q,RN,B,F,O];refine ayG u ?_
  try(try simp only[RN,B,F,I,J,N,O])
  refine ayG ao ?_;cases t:OY p (p.changed c) hand f
  ·rw[t]at b
   simp only[R,RN,B];exact bn () m rfl b
  ·rw[t,if_pos rfl]at b
   rw[b];simp only[A,m,getD_map,<-h,sW,U,Q,iC,DV.strip,RN,B,F,O];simp[sW]
 rw[aw,b5]at b;rw[b];obtain⟨S,G⟩:∃S:Chg->Chg->Bool,S=fun c k=>OY p ((p.changed c).changed k) hand f:=⟨_,rfl⟩
 have ac:=fun c k=>congrFun (congrFun G c) k
 simp only[<-G];simp only[ab,Q,RN,B];refine aH L.length (fun i (_:Unit)=>⟨[(3,pI hand),(5, .d (chP p)),(9, .d (.aW [dI f.n,dI f.d])),(12, .d (sF (L.map Chg.dv))),(14,pI i)],⟨chB p f,[1,0],[]⟩⟩)
  (fun i _=>awI S L=awI S (L.drop i)) 0 () (Z _) rfl rfl (fun i _ m b=> ?_) (fun _ b=> ?_)
 ·obtain⟨X,A,R⟩:=rng m (by omega)
  obtain⟨c,h⟩:∃c,c=L.getD i default:=⟨_,rfl⟩
  have r:c∈L:=by rw[h];exact getD_mem m
  rw[drop_cons m,<-h,awI]at b;have u:=T p rfl c r;have ai:=Dl w (l c r).2;have M:=T (p.changed c) (aww p c);have z:=fun k (hk:k∈L)=>hS ((p.changed c).changed k) (Dl ai (l k hk).2) (by rw[aww,aww])
  simp only[<-ac]at z;obtain⟨x,aq⟩:∃x,x=p.changed c:=⟨_,rfl⟩
  simp only[<-aq]at u M z;simp only[chP,X,A,m,getD_map,<-h,sW,U,Q,RN,B,F,I,O];refine ayG u ?_;simp only[chB,R,RN,B,F,J,O];obtain⟨Fn,D⟩:∃Fn:Chg->Bool,Fn=fun k=>decide (k.link>c.link)&&S c k:=⟨_,rfl⟩
  rw[<-D]at b;refine aH L.length (fun k (_:Unit)=>⟨[(3,pI hand),(5, .d (chP p)),(9, .d (.aW [dI f.n,dI f.d])),(12, .d (sF (L.map Chg.dv))),(14,pI i),(15, .d (chP x)),(16,pI k)],⟨chB p f++ [some [.d (sF (x.links.map Lk.dv)), .d (sF (x.hands.map ay))]],[2,1,0],[]⟩⟩)
   (fun k _=>(L.drop (i+1)).find? Fn=(L.drop k).find? Fn) (i+1) () m rfl rfl (fun k _ t j=> ?_) (fun _ j=> ?_)
  ·obtain⟨k2,k3,k6⟩:=rng t (by omega)
   obtain⟨y,s⟩:∃y,y=L.getD k default:=⟨_,rfl⟩
   have P:y∈L:=by rw[s];exact getD_mem t
   rw[axv t,<-s]at j;have ae:=M y P;have ap:=z y P;have o:Fn y=(decide (y.link>c.link)&&S c y):=by rw[D]
   simp only[chP,A,m,k2,k3,t,getD_map,<-h,<-s,sW,U,Q,RN,B,F,O]
   by_cases v:y.link>c.link
   case neg=>
    rw[decide_eq_false v,V]at o;rw[o]at j;simp only[v,k6,RN,B];exact bn () t rfl j
   rw[decide_eq_true v,aR]at o;simp only[v,k3,t,getD_map,<-s,sW,U,Q,RN,B,F,O];refine ayG ae ?_
   try(try simp only[RN,B,F,I,J,N,O])
   refine ayG ap ?_;cases H:S c y
   ·rw[o,H]at j
    simp only[k6,RN,B];exact bn () t rfl j
   ·rw[o,H,if_pos rfl]at j
    rw[j]at b;rw[b];simp only[A,m,k3,t,getD_map,<-h,<-s,sW,U,Q,RN,B,F,O];simp[sW,au,dF,datum,wI,DV.strip,DV.cells,iZ]
    rfl
  ·rw[aw,b5]at j
   rw[j]at b;simp only[ab,Q,R,RN,B];exact jv 2 0 () m rfl b (by simp) (by simp) rfl rfl
 ·rw[aw,awI]at b
  rw[b];simp only[ab,Q,RN,B]
  rfl
def ayr (s:Su)(hs:s.ok=true)(l:List En)(hl:∀x∈l,x.Fit s)(ap:l.length<=400)(ns:List Int)(hn:ns.length=3):Pure C 138 [s.dv,sF (l.map En.dv),sF (ns.map ay)] (.d (.tup [sF ((awr s l (ns.getD 0 default) (ns.getD 1 default) (ns.getD 2 default)).1.map ay),dI (awr s l (ns.getD 0 default) (ns.getD 1 default) (ns.getD 2 default)).2])) []:=by
 obtain⟨a,b,c,rfl⟩:∃a b c,ns=[a,b,c]:=by
  match ns,hn with
  | [a,b,c],_=>exact⟨a,b,c,rfl⟩
 have hg:=Pc.good (Su.facts hs).1;have S:=am6 s (by have:=hg.h2;omega) a;have hR:=ayg b c;have G:=UM s hs l hl (by omega);have T:=aku l a (fun x hx=>Dz (hl x hx)) (by omega);have t:=ahv hs l hl;rw[gU]at S G;rw[dZ]at G;rw[bW]at T;have z:(0:Int)<=1:=by omega
 have A:(0:Int)<=2:=by omega
 simp only[show[a,b,c].getD 0 default=a from rfl,show[a,b,c].getD 1 default=b from rfl,show[a,b,c].getD 2 default=c from rfl];refine bU (ayH aw8 QB ?_);rw[gU];simp only[aw8,QB,j0,t0,aI,RN,B,F,N,O];refine ayG S ?_;cases g:inR a 0 ((s.pc.hands.length:Int) - 1)
 ·have e:awr s l a b c=([],2):=by simp[awr,g]
  rw[e];(try simp only[RN,B,N])
  rfl
 simp only[z,A,t1,t2,RN,B,F,N,O];refine ayG hR ?_;cases K:aT b&&aT c&&decide (b<=c)
 ·have e:awr s l a b c=([],2):=by simp only[awr,K,b1,V,a7,if_false]
  rw[e];(try simp only[RN,B,N])
  rfl
 simp only[ai,decide_eq_true_eq]at K;obtain⟨⟨k,m⟩,f⟩:=K;have an:4<=b/\b<=60:=by simpa[aT,inR]using k
 have ao:4<=c/\c<=60:=by simpa[aT,inR]using m
 have w1:cg .i64 (c - b)=c - b:=aF (by omega);simp only[z,A,t1,t2,w1,RN,B,F,N,O]
 by_cases j:c - b>10
 ·have e:awr s l a b c=([],2):=by simp[awr,j]
  rw[e];simp only[j,RN,B,N]
  rfl
 have ha:0<=a/\a<=(s.pc.hands.length:Int) - 1:=by simpa[inR]using g
 simp only[j,j0,t0,RN,B,F,N,O];refine ayG T ?_;simp only[RN,B,F,J,O];cases D:(dA l a).2
 ·have e:awr s l a b c=([],7):=by simp[awr,g,k,m,f,j,D]
  rw[e];(try simp only[RN,B,F,N])
  rfl
 have q:=L6 l a hl D;have E:=axT (dG s l) t b c a k m f (by omega) ha.1 (by rw[as5];omega) (dA l a).1 q;rw[dZ,bW]at E;have P:axl (dG s l) a (dA l a).1 (O9 (dG s l) b (c - b+1).toNat (dG s l).links.length 0)=none->awr s l a b c=([],5):=fun h=>by simp[awr,g,k,m,f,j,D,h]
 have M:∀L,axl (dG s l) a (dA l a).1 (O9 (dG s l) b (c - b+1).toNat (dG s l).links.length 0)=some L->awr s l a b c=(IW L,0):=fun L h=>by simp[awr,g,k,m,f,j,D,h]
 obtain⟨R,o⟩:∃R,R=axl (dG s l) a (dA l a).1 (O9 (dG s l) b (c - b+1).toNat (dG s l).links.length 0):=⟨_,rfl⟩
 rw[<-o]at E P M;have H:∀L,R=some L->L.length<=2:=by
  intro L h;have adC:=aw3 t k m f (by omega) (show inR a 0 ((dG s l).hands.length - 1)=true by rw[as5];exact g) q;rw[<-o,h]at adC;have:=ZU (dG s l) b c a (dA l a).1;rw[adC]at this;exact this
 simp only[j0,z,A,t0,t1,t2,RN,B,F,N,O];refine ayG G ?_
 try simp only[j0,z,A,t0,t1,t2,aI,RN,B,F,I,J,N,O]
 refine ayG E ?_;cases R with
 |none=>
  rw[P rfl];simp only[Option.isSome_none,Option.getD_none,RN,B,N]
  rfl
 |some L=>
  have ac:=H L rfl;rw[M L rfl];simp only[Option.isSome_some,Option.getD_some,RN,B,N];refine aH L.length (fun i (v:Nat)=>⟨[(10, .d (.slice true (L.map Chg.dv))),(12, .tsl 1 v 0),(13,pI i)],
    ⟨[some (s.cs.map .d),some [pI ((dA l a).1.n),pI ((dA l a).1.d)]],[1,0],[some ⟨1,[],0,0⟩,some ⟨1,(IW (L.take i)).map ay,v,0⟩]⟩⟩)
   (fun _ _=>True) 0 0 (Z _) (by rw[uS];rfl) trivial (fun i v w _=> ?_) (fun v _=> ?_)
  ·obtain⟨W,X,Y⟩:=rng w (by omega)
   have u:IW (L.take (i+1))=IW (L.take i)++ [(L.getD i default).link,(L.getD i default).pr.a,(L.getD i default).pr.b]:=by rw[aS w,IW,bk];rfl
   have r:=agy (L.take i);rw[am]at r;obtain⟨c,p⟩:∃c,c=L.getD i default:=⟨_,rfl⟩
   rw[<-p]at u;simp only[W,X,w,getD_map,<-p,sW,U,Q,aah,Y,RN,B,F,J,N,O];refine⟨by rintro y (rfl|rfl|rfl)<;>rfl,by simp,by omega,?_⟩;refine iQ (v+1) w ?_ trivial (by simp) (by simp) rfl (by simp[uS,PV.upto]);rw[u,aq];rfl
  ·simp only[ab,Q,bI,dR,RN,B,F]
   rw[ae];simp[datum,cu,fA,Mem.row]
def akx (s:Su)(hs:s.ok=true)(x:En)(hx:x.formed=true)(y:x.kind≠6):Pure C 132 [s.dv,x.dv] (.d (.bool (KF s x))) []:=by
 have z:=En.BL hx;have a:x.ns.length=jc x.kind:=by
  simp only[En.formed,ai,decide_eq_true_eq]at hx;exact hx.1.2
 have A:0<jc x.kind:=by unfold jc;split;omega;split<;>omega
 obtain⟨o,_⟩:=Su.facts hs;have v:=(Pc.xA o).2;have m:=am6 s (by omega);have q:=aks s hs;have e:0<x.ns.length:=by omega
 have w:(0:Int)<=1:=by omega
 have t:(0:Int)<=2:=by omega
 refine ayF MV aJ ?_;rw[gU,dM];rw[gU]at m q;simp only[MV,aJ,RN,B,F,O];unfold KF
 by_cases g:x.kind=1
 ·have z1:(x.kind==1)=true:=by simp[g]
  rw[if_pos g];simp only[z1,j0,t0,e,Q,getD_map,aI,RN,B,F,O];refine ayG (He _) ?_;(try simp only[RN,B,F,I,J,N,O])
  rfl
 have z1:(x.kind==1)=false:=beq_false_of_ne g;rw[if_neg g]
 by_cases b:x.kind=2
 ·have f:(x.kind==2)=true:=by simp[b]
  have l1:1<x.ns.length:=by rw[a,b];decide
  have l2:2<x.ns.length:=by rw[a,b];decide
  rw[if_pos b];have k:x.n 0=x.ns.getD 0 default:=rfl;have u:x.n 1=x.ns.getD 1 default:=rfl;have l:x.n 2=x.ns.getD 2 default:=rfl;rw[k,u,l];simp only[z1,f,j0,t0,e,Q,getD_map,aI,RN,B,F,O]
  by_cases r:x.ns.getD 0 default<(s.pc.links.length:Int)
  ·have j:decide (x.ns.getD 0 default<(s.pc.links.length:Int))=true:=decide_eq_true r
   rw[j];simp only[w,t1,l1,Q,getD_map,aI,RN,B,O];refine ayG (He _) ?_;cases h1:aT (x.ns.getD 1 default)
   ·simp only[V,RN,B]
   ·simp only[t,t2,l2,Q,getD_map,aI,RN,B,O]
    refine ayG (He _) ?_;(try simp only[])
  ·have j:decide (x.ns.getD 0 default<(s.pc.links.length:Int))=false:=decide_eq_false r
   rw[j];simp only[V,RN,B]
 have f:(x.kind==2)=false:=beq_false_of_ne b;rw[if_neg b]
 by_cases c:x.kind=3
 ·have i:(x.kind==3)=true:=by simp[c]
  have l2:2<x.ns.length:=by rw[a,c];decide
  rw[if_pos c];have k:x.n 0=x.ns.getD 0 default:=rfl;have l:x.n 2=x.ns.getD 2 default:=rfl;rw[k,l];simp only[z1,f,i,j0,t0,e,Q,getD_map,aI,RN,B,F,O];refine ayG (m _) ?_;cases h1:inR (x.ns.getD 0 default) 0 ((s.pc.hands.length:Int) - 1)
  ·simp only[V,RN,B]
  ·simp only[t,t2,l2,Q,getD_map,aI,RN,B,O]
 have i:(x.kind==3)=false:=beq_false_of_ne c;rw[if_neg c]
 by_cases h:x.kind=4
 ·have p:(x.kind==4)=true:=by simp[h]
  rw[if_pos h];simp only[z1,f,i,p,j0,t0,e,Q,getD_map,aI,RN,B,F,O];refine ayG (m _) ?_;(try simp only[RN,B,F,I,J,N,O])
  rfl
 ·have p:(x.kind==4)=false:=beq_false_of_ne h
  rw[if_neg h];simp only[z1,f,i,p,j0,t0,e,Q,getD_map,aI,RN,B,F,O];refine ayG (q _) ?_;(try simp only[RN,B,F,I,J,N,O])
  rfl
def aoF {C:Ctx}{base:Nat}{M:Mem}{K:PV->Mem->Prop}{KP:DV->Mem->Prop}{a b c d:Int}:au C base (.Fe false [1,1]) [.d (.agg [dI a,dI b]), .d (.agg [dI c,dI d])] M K KP=K (.d (.bool ((a==c)&&(b==d)))) M:=by
 simp[au,dK]
def ab4 {p:Pc}{c:Chg}:(ni p c).length<=p.hands.length:=by
 rw[ni,Q];exact av (ap _ _) (by simp)
def afB (s:Su)(hs:s.ok=true)(l:List En)(hl:∀x∈l,x.Fit s)(am:l.length<=400)(x:En)(hx:x.Fit s):Pure C 133 [s.dv,sF (l.map En.dv),x.dv] (.d (.bool (qh s l x))) []:=by
 obtain⟨ap,av,L,ac,_⟩:=Su.facts hs;have asJ:0<=s.lim/\s.lim<=10800:=by simpa[inR]using L
 have hP:=UM s hs l hl (by omega);have hS:=aky s hs l hl am;have hO:=fun h=>aku l h (fun y hy=>Dz (hl y hy)) (by omega)
 have j:=ahv hs l hl;obtain⟨N,M⟩:=oL s l;have q:=Dz hx;have hm:0<jc x.kind:=by unfold jc;split;omega;split<;>omega
 have m:0<x.ns.length:=by omega
 have T:x.n 0=x.ns.getD 0 default:=rfl;obtain⟨p,hp⟩:∃p,p=dG s l:=⟨_,rfl⟩
 rw[<-hp]at hP j N M;refine ayF Qk jr ?_;simp only[bW]at hO;rw[gU]at hP hS;rw[dZ]at hP;rw[gU,dM];simp only[Qk,jr,RN,B,F,O];refine ayG hP ?_;(try simp only[RN,B,F,J,O]);unfold qh;rw[<-hp]
 by_cases R:x.kind=1
 ·have z1:(x.kind==1)=true:=by simp[R]
  have an:1<=x.n 0:=by
   have:=hx.te R;simp only[aT,inR,ai,decide_eq_true_eq]at this;omega
  have w:=ahK s.dvd (x.n 0) ac an;rw[sZ,EI]at w;rw[if_pos R];simp only[z1,j0,t0,m,Q,getD_map,aI,RN,B,F,I,O];refine ayG w ?_;cases hc:(s.dvd.first (x.n 0)).isSome
  ·simp only[V,RN,B,F,J,O]
  ·(try simp only[RN,B,F,J,O])
   refine ayG hS ?_;have e8:decide (((iI s l).length:Int)<8)=decide ((iI s l).length<8):=decide_eq_decide.2 (by omega);simp only[Q,e8,RN]
 have z1:(x.kind==1)=false:=beq_false_of_ne R;rw[if_neg R]
 by_cases u:x.kind=2
 ·have S:(x.kind==2)=true:=by simp[u]
  obtain⟨⟨r,W⟩,f3⟩:=BJ hx u;rw[T]at r W;have f:(x.ns.getD 0 default).toNat<p.links.length:=by rw[N];exact W
  have A:=akw x (by rw[q,u];decide);rw[dM]at A;have G:=afz (iI s l) (jH p x) x.chg.pr (by have:=KL s l;omega);rw[jJ,jJ]at G;have E:=ahF p x.chg j f3 r f;rw[dZ,sW]at E;have apu:=ab4 (p:=p) (c:=x.chg);have asY:=(Pc.xA j).2;rw[if_pos u];simp only[z1,S,j0,t0,m,Q,getD_map,aI,RN,B,F,I,O];refine ayG A ?_;simp only[j0,t0,m,Q,getD_map,aI,r,f,nI,aoF,RN,B,F,J,O]
  by_cases K:jH p x=x.chg.pr
  ·have z:(((p.links.getD (x.ns.getD 0 default).toNat default).pr.a==x.n 1)&&((p.links.getD (x.ns.getD 0 default).toNat default).pr.b==x.n 2))=true:=by
    have h1:(jH p x).a=x.n 1:=by rw[K];rfl
    have h2:(jH p x).b=x.n 2:=by rw[K];rfl
    have h1:(p.links.getD (x.ns.getD 0 default).toNat default).pr.a=x.n 1:=h1;have h2:(p.links.getD (x.ns.getD 0 default).toNat default).pr.b=x.n 2:=h2;rw[h1,h2];simp
   simp only[z,RN,B,F];simp[K]
  have z:(((p.links.getD (x.ns.getD 0 default).toNat default).pr.a==x.n 1)&&((p.links.getD (x.ns.getD 0 default).toNat default).pr.b==x.n 2))=false:=by
   rw[Bool.eq_false_iff];intro h;simp only[ai,beq_iff_eq]at h;apply K
   show(⟨(p.links.getD (x.ns.getD 0 default).toNat default).pr.a,(p.links.getD (x.ns.getD 0 default).toNat default).pr.b⟩:Pr)=⟨x.n 1,x.n 2⟩
   rw[h.1,h.2]
  have d1:decide (jH p x=x.chg.pr)=false:=decide_eq_false K;rw[d1];simp only[z,RN,B,F,O];refine ayG hS ?_;simp only[j0,t0,m,Q,getD_map,aI,r,f,nI,RN,F,O];refine ayG G ?_;cases aq:(gY (iI s l) (jH p x) x.chg.pr).2
  ·simp only[V,RN,B]
  (try simp only[RN,B,F,O]);refine ayG E ?_;simp only[];refine aH (ni p x.chg).length (fun i (_:Unit)=>⟨[(1, .d (sF (l.map En.dv))),(14, .d (sF ((ni p x.chg).map ay))),(15,pI i)],
    ⟨[some (s.cs.map .d),some [pI x.kind, .d (sF (x.ns.map ay))],some [.d (sF (p.links.map Lk.dv)), .d (sF (p.hands.map ay))],some [pI (x.ns.getD 0 default),pI (x.n 1),pI (x.n 2)]],[3,2,1,0],[]⟩⟩)
   (fun i _=>((ni p x.chg).all fun h=>(dA l h).2)=(((ni p x.chg).drop i).all fun h=>(dA l h).2)) 0 () (Z _) rfl rfl (fun i _ g e=> ?_) (fun _ e=> ?_)
  ·obtain⟨g2,X,Y⟩:=rng g (by omega)
   rw[drop_cons g,b7]at e;simp only[g2,X,g,getD_map,aI,U,Q,RN,B,F,O];refine ayG (hO _) ?_;cases hb:(dA l ((ni p x.chg).getD i default)).2
   ·rw[hb,V]at e
    simp only[e,RN,B,F,J,O]
   ·rw[hb,aR]at e
    simp only[Y,RN,B,F,J,O];exact jv 4 0 () g rfl e (by simp) (by simp) rfl rfl
  ·rw[aw,cb]at e
   simp only[ab,Q,e,RN,B,F]
 have S:(x.kind==2)=false:=beq_false_of_ne u;rw[if_neg u]
 by_cases k3:x.kind=3
 ·have z3:(x.kind==3)=true:=by simp[k3]
  rw[if_pos k3];simp only[z1,S,z3,j0,t0,m,Q,getD_map,aI,RN,B,F,O];refine ayG (hO _) ?_;(try simp only[RN,F,J,O])
  rfl
 have z3:(x.kind==3)=false:=beq_false_of_ne k3;rw[if_neg k3]
 by_cases v:x.kind=4
 ·have z4:(x.kind==4)=true:=by simp[v]
  obtain⟨r,W⟩:=hx.hd (.inr v);have f:(x.n 0).toNat<p.hands.length:=by rw[M];exact W
  have l1:1<x.ns.length:=by rw[q,v];decide
  have j1:(0:Int)<=1:=by omega
  have e1:x.n 1=x.ns.getD 1 default:=rfl;have D:=aer s hs p j (x.n 0) r f;rw[gU,dZ]at D;have w1:cg .i64 (0 - s.lim)= -s.lim:=by rw[aF (by omega)];omega
  rw[if_pos v];simp only[z1,S,z3,z4,j0,t0,m,Q,getD_map,aI,RN,B,F,O];refine ayG (hO _) ?_;rw[<-T];cases ho:(dA l (x.n 0)).2
  ·simp only[V,RN,B,F,J,O]
  have ae:=L6 l (x.n 0) hl ho;have H:=akB p j (x.n 0) r f (dA l (x.n 0)).1 ae 100 (by omega);rw[dZ,bW]at H;simp only[j0,t0,m,Q,getD_map,aI,<-T,RN,B,F,J,O];refine ayG H ?_;simp only[w1];refine ayG (afC _ _ _) ?_;cases hc:inR (aj6 p (x.n 0) (dA l (x.n 0)).1 100) (-s.lim) s.lim
  ·simp only[V,RN,B]
  simp only[j0,t0,m,j1,t1,l1,Q,getD_map,aI,<-T,RN,B,F,O];refine ayG D ?_;(try simp only[RN])
  rfl
 ·have z4:(x.kind==4)=false:=beq_false_of_ne v
  have k5:x.kind=5:=by have:=hx.k;omega
  have hd:=hx.df;rw[En.Pq k5]at hd;obtain⟨d1,d2⟩:=hd;have ao:=yJ s;have H:=akA s hs (x.n 0) (by omega);rw[gU]at H;rw[if_neg v];simp only[z1,S,z3,z4,RN,B,F];refine aH l.length (fun i (_:Unit)=>⟨[(1, .d (sF (l.map En.dv))),(3, .d (.aW s.cs)),(7, .d (sF (x.ns.map ay))),(22,pI i)],
    ⟨[some (s.cs.map .d),some [pI x.kind, .d (sF (x.ns.map ay))],some [.d (sF (p.links.map Lk.dv)), .d (sF (p.hands.map ay))]],[2,1,0],[]⟩⟩)
   (fun i _=>(l.any fun y=>y.kind==5&&decide (y.n 0>=x.n 0))=((l.drop i).any fun y=>y.kind==5&&decide (y.n 0>=x.n 0))) 0 () (Z _) rfl rfl (fun i _ g e=> ?_) (fun _ e=> ?_)
  ·obtain⟨g2,X,Y⟩:=rng g (by omega)
   have hy:=hl _ (getD_mem g);have P:=Dz hy;rw[drop_cons g,List.any_cons]at e;obtain⟨y,t⟩:∃y,y=l.getD i default:=⟨_,rfl⟩
   rw[<-t]at e hy P;simp only[g2,X,g,getD_map,<-t,dM,U,Q,RN,B,F,O]
   by_cases y5:y.kind=5
   ·have zy:(y.kind==5)=true:=by simp[y5]
    have ly:0<y.ns.length:=by rw[P,y5];decide
    rw[zy,aR]at e;simp only[zy,X,g,getD_map,<-t,dM,aI,U,Q,j0,t0,m,ly,RN,B,F,O]
    by_cases o:y.ns.getD 0 default>=x.ns.getD 0 default
    ·have dg:decide (y.n 0>=x.n 0)=true:=decide_eq_true o
     rw[dg,b9]at e;simp only[o,e,V,RN,B,F]
    ·have dg:decide (y.n 0>=x.n 0)=false:=decide_eq_false o
     rw[dg,bl]at e;simp only[o,Y,RN,B,F];exact bn () g rfl e
   ·have zy:(y.kind==5)=false:=beq_false_of_ne y5
    rw[zy,V,bl]at e;simp only[zy,Y,RN,B,F];exact bn () g rfl e
  ·rw[aw,List.any_nil]at e
   simp only[ab,Q,j0,t0,m,getD_map,aI,uS,RN,B,F,O];refine ayG H ?_;simp only[e,RN]
def akC (s:Su)(hs:s.ok=true)(l:List En)(hl:∀x∈l,x.Fit s)(o:l.length<=400):Pure C 131 [s.dv,sF (l.map En.dv)] (.d (.bool (mJ s l))) []:=by
 have k:=fun i (h:i<l.length)=>afB s hs (l.take i) (ach hl i) (by rw[am];omega) (l.getD i default) (hl _ (getD_mem h))
 refine ayF Nb aJ ?_;simp only[gU,dM (x:=l.getD _ default)]at k;rw[gU];simp only[Nb,aJ,RN,B,F];refine aH l.length (fun i (_:Unit)=>⟨[(1, .d (sF (l.map En.dv))),(2, .d (.aW s.cs)),(5,pI i)],⟨[some (s.cs.map .d)],[0],[]⟩⟩)
  (fun i _=>∀j,j<i->qh s (l.take j) (l.getD j default)=true) 0 () (Z _) rfl (fun j h=>by omega) (fun i _ b a=> ?_) (fun _ a=> ?_)
 ·obtain⟨c,f,m⟩:=rng b (by omega)
  have p:(0:Int)<=(i:Int):=by omega
  have q:(i:Int)<=((l.map En.dv).length:Int):=by rw[Q];omega
  simp only[c,f,b,getD_map,dM (x:=l.getD i default),U,Q,uS,RN,B,F,O];rw[yN (ai7 l) p q,<-List.map_take,U]
  try simp only[c,f,b,getD_map,dM (x:=l.getD i default),U,Q,RN,B,F,I,J,N,O]
  refine ayG (k i b) ?_;cases g:qh s (l.take i) (l.getD i default)
  ·have:mJ s l=false:=by
    rw[<-Bool.not_eq_true,mJ,bz];intro h;have:=h i (bj.2 b);rw[g]at this;cases this
   simp only[this,RN,B]
  ·simp only[m,RN,B]
   refine bn () b rfl fun j r=> ?_
   by_cases e:j=i
   ·rw[e];exact g
   ·exact a j (by omega)
 ·have:mJ s l=true:=by
   rw[mJ,bz];exact fun i n=>a i (bj.1 n)
  simp only[ab,Q,this,RN,B]
def abM (D:Dk):List DV:=[sF (D.su.pc.links.map Lk.dv),sF (D.su.pc.hands.map ay),sF (D.su.tg.map Fr.dv),dI D.su.lim,dI D.su.dvd.eF,sF (D.su.dvd.cir.map ay),dI D.su.cal.ep,sF (D.su.cal.cy.map ay),dI D.su.jf.n,dI D.su.jf.d,dI D.su.jf.ad,sF (D.su.fs.map Fs.dv),dI D.su.year,dI D.su.gq,dI D.su.hours,dI D.su.lC,dI D.su.pct,sF (D.es.map En.dv),sF (D.st.map .bool)]
def Y7 (D:Dk):DV:= .agg (abM D)
def ZY:abM D=[sF (D.su.pc.links.map Lk.dv),sF (D.su.pc.hands.map ay),sF (D.su.tg.map Fr.dv),dI D.su.lim,dI D.su.dvd.eF,sF (D.su.dvd.cir.map ay),dI D.su.cal.ep,sF (D.su.cal.cy.map ay),dI D.su.jf.n,dI D.su.jf.d,dI D.su.jf.ad,sF (D.su.fs.map Fs.dv),dI D.su.year,dI D.su.gq,dI D.su.hours,dI D.su.lC,dI D.su.pct,sF (D.es.map En.dv),sF (D.st.map .bool)]:=by rw[abM]
def IY:Y7 D= .agg [sF (D.su.pc.links.map Lk.dv),sF (D.su.pc.hands.map ay),sF (D.su.tg.map Fr.dv),dI D.su.lim,dI D.su.dvd.eF,sF (D.su.dvd.cir.map ay),dI D.su.cal.ep,sF (D.su.cal.cy.map ay),dI D.su.jf.n,dI D.su.jf.d,dI D.su.jf.ad,sF (D.su.fs.map Fs.dv),dI D.su.year,dI D.su.gq,dI D.su.hours,dI D.su.lC,dI D.su.pct,sF (D.es.map En.dv),sF (D.st.map .bool)]:=by rw[Y7,abM]
def afo (n:Nat):DV:=dI n
def ai6 {n:Nat}:afo n=dI n:=rfl
def zH (D:Dk)(n:Nat):List Nat:=(bd n).filter (ny D)
def Wi (D:Dk)(n:Nat):zH D (n+1)=zH D n++if ny D n then[n]else[]:=by
 rw[zH,be,bp,<-zH,bA,bN]
def NP (D:Dk)(n:Nat):(zH D n).length<=n:=av (ap _ _) (by simp)
def aeP (h:i∈iH D):i<D.es.length:=bj.1 (bO.1 h).1
def JO {l:List Bool}(h:i<l.length):(l.map DV.bool).getD i default= .bool (l.getD i default):=by rw[getD_map h]
def ahG (D:Dk)(hl:D.es.length=D.st.length)(m:D.es.length<=1000):Pure C 37 [Y7 D] (.d (sF ((iH D).map afo))) []:=by
 refine bU (ayH zk aK ?_);rw[IY];simp only[zk,aK,RN,B,N];refine aH D.es.length (fun i (v:Nat)=>⟨[(1, .d (.aW (abM D))),(3, .tsl 1 v 0),(4,pI i)],⟨[some ((abM D).map .d)],[0],[some ⟨1,[],0,0⟩,some ⟨1,(zH D i).map afo,v,0⟩]⟩⟩)
  (fun i _=>True) 0 0 (Z _) rfl trivial (fun i v b _=> ?_) (fun v _=> ?_)
 ·obtain⟨l,f,g⟩:=rng b (by omega)
  have h:i<D.st.length:=by omega
  have a:=Wi D i;have j:=NP D i;simp only[ZY,l,f,b,getD_map,dM,U,Q,RN,B,F,O]
  by_cases k:(D.es.getD i default).kind=6
  ·have z:((D.es.getD i default).kind !=6)=false:=by rw[k];rfl
   have c:ny D i=false:=by rw[ny,k];rfl
   rw[c,if_neg (by simp),aL]at a;simp only[z,g,RN,B];rw[<-a];exact iQ v b rfl trivial (by simp) (by simp) rfl rfl
  have z:((D.es.getD i default).kind !=6)=true:=bne_iff_ne.2 k;cases e:D.st.getD i default
  ·have c:ny D i=true:=by rw[ny,e,decide_eq_true k];rfl
   rw[c,if_pos rfl]at a;simp only[z,f,h,JO,e,kF,U,Q,iC,DV.strip,fits_int,forall_eq,g,RN,B,F,J,N,O];refine⟨by simp,by omega,?_⟩;refine iQ (v+1) b ?_ trivial (by simp) (by simp) rfl rfl;rw[a,aq]<;>rfl
  ·have c:ny D i=false:=by rw[ny,e,Bool.not_true,b1]
   rw[c,if_neg (by simp),aL]at a;simp only[z,f,h,JO,e,kF,U,Q,g,RN,B,F,O];rw[<-a];exact iQ v b rfl trivial (by simp) (by simp) rfl rfl
 ·have:zH D D.es.length=iH D:=rfl
  simp only[ZY,ab,Q,RN,B,F,O];rw[this];simp[datum,Mem.row]
def lQ (D:Dk)(w:Int)(n:Nat):List En:=(((iH D).take n).filter fun(i:Nat)=>decide ((i:Int)≠w)).map fun i=>D.es.getD i default
def Rf (D:Dk)(w:Int){n:Nat}(h:n<(iH D).length):lQ D w (n+1)=lQ D w n++if(((iH D).getD n default:Nat):Int)≠w then[D.es.getD ((iH D).getD n default) default]else[]:=by
 rw[lQ,aS h,bp,aq,<-lQ,bA,bN]
 congr 1
 by_cases e:(((iH D).getD n default:Nat):Int)≠w
 ·rw[if_pos (decide_eq_true e),if_pos e];rfl
 ·rw[if_neg (by rw[decide_eq_true_iff];exact e),if_neg e];rfl
def Vo (D:Dk)(w:Int)(n:Nat):(lQ D w n).length<=n:=by
 rw[lQ,Q];exact av (ap _ _) (by rw[am];omega)
def NM (D:Dk)(w:Int):(bC D w).length<=D.es.length:=by
 rw[bC,Q];exact av (ap _ _) (av (ap _ _) (by simp))
def Qw (D:Dk)(hl:D.es.length=D.st.length)(f:D.es.length<=1000)(w:Int):Pure C 22 [Y7 D,dI w] (.d (sF ((bC D w).map En.dv))) []:=by
 have k:=ahG D hl f;have o:(iH D).length<=D.es.length:=NP D _;refine bU (ayH wV aJ ?_);rw[IY]at k⊢;simp only[wV,aJ,RN,B,F,N,O];refine ayG k ?_;simp only[];refine aH (iH D).length (fun i (v:Nat)=>⟨[(1,pI w),(2, .d (.aW (abM D))),(5, .tsl 1 v 0),(6, .d (sF ((iH D).map afo))),(7,pI i)],⟨[some ((abM D).map .d)],[0],[some ⟨2,[],0,0⟩,some ⟨2,(lQ D w i).map En.dv,v,0⟩]⟩⟩)
  (fun i _=>True) 0 0 (Z _) rfl trivial (fun i v a _=> ?_) (fun v _=> ?_)
 ·obtain⟨m,h,j⟩:=rng a (by omega)
  have c:=Rf D w a;have l:=Vo D w i;have b:=aeP (getD_mem a);obtain⟨n,g⟩:∃n,n=(iH D).getD i default:=⟨_,rfl⟩
  rw[<-g]at c b;have p:(0:Int)<=(n:Int):=by omega
  simp only[m,h,a,getD_map,ai6,<-g,U,Q,RN,B,O]
  by_cases e:(n:Int)=w
  ·have z:((n:Int) !=w)=false:=by simp[e]
   rw[if_neg (by simp[e]),aL]at c;simp only[z,j,RN,B];rw[<-c];exact iQ v a rfl trivial (by simp) (by simp) rfl rfl
  ·have z:((n:Int) !=w)=true:=by simp[e]
   rw[if_pos e]at c;simp only[z,ZY,h,a,getD_map,ai6,<-g,p,b,dM,U,Q,iC,DV.strip,RN,B,F,J,N,O];refine⟨by rintro y rfl;rfl,by simp,by omega,?_⟩;rw[j];refine iQ (v+1) a ?_ trivial (by simp) (by simp) rfl rfl;rw[c,aq]<;>rfl
 ·have:lQ D w (iH D).length=bC D w:=by rw[lQ,ae];rfl
  simp only[ab,Q,RN,B];rw[this];simp[datum,Mem.row]
def am5 (h:D.Live)(x:En)(o:x.ns.length<=1000000):Pure C 50 [Y7 D,x.dv] (pI (xI D x)) []:=by
 have m:=h.ok.su;have H:=h.ok.len;have v:=h.ok.few;have s:=ahD x o;have c:=fun w=>Qw D H (by omega) w
 have b:∀w,∀y∈bC D w,y.Fit D.su:=fun w y E=>h.fit y (iY E).1 (iY E).2
 have j:=fun w=>NM D w
 have r:=fun w=>akC D.su m (bC D w) (b w) (by have:=j w;omega)
 refine ayF CG aJ ?_;rw[IY]at c⊢;rw[dM]at s⊢;rw[gU]at r;simp only[CG,aJ,RN,B,F,O];refine ayG s ?_;unfold xI;cases d:x.formed
 ·(try simp only[RN,B,F])
  rfl
 have A:x.ns.length=jc x.kind:=by
  simp only[En.formed,ai,decide_eq_true_eq]at d;exact d.1.2
 have K:0<jc x.kind:=by unfold jc;split;omega;split<;>omega
 have P:0<x.ns.length:=by omega
 have G:x.n 0=x.ns.getD 0 default:=rfl;have g:=yO d (i:=0) K;rw[if_neg (by simp)];simp only[Q,RN,B,F,O]
 by_cases e:D.es.length>=24
 ·have z:((D.es.length:Int)>=24):=by omega
  rw[if_pos e];simp only[z,RN,B,F]
 have z:¬((D.es.length:Int)>=24):=by omega
 rw[if_neg e];simp only[z,RN,B,F,O]
 by_cases k6:x.kind=6
 ·have p:(x.kind==6)=true:=by simp[k6]
  rw[if_pos k6];simp only[p,j0,t0,P,Q,getD_map,aI,RN,B,F,O];rw[<-G]
  by_cases a:x.n 0>=(D.es.length:Int)
  ·rw[if_pos (.inl a)]
   simp only[a,RN,B,F]
  have l:(x.n 0).toNat<D.es.length:=by omega
  have f:(x.n 0).toNat<D.st.length:=by omega
  simp only[a,g.1,l,getD_map,dM,Q,RN,B,F,O]
  by_cases k:(D.es.getD (x.n 0).toNat default).kind=6
  ·have zy:((D.es.getD (x.n 0).toNat default).kind==6)=true:=beq_iff_eq.2 k
   rw[if_pos (.inr k)];simp only[zy,RN,B,F]
  have zy:((D.es.getD (x.n 0).toNat default).kind==6)=false:=beq_false_of_ne k;rw[if_neg (by rintro(q|q)<;>first|exact q.elim|exact a q|exact k q)];simp only[zy,g.1,f,JO,kF,Q,RN,B,F,O];cases S:D.st.getD (x.n 0).toNat default
  ·(try simp only[RN,B,F,O])
   refine ayG (c _) ?_;(try simp only[RN,B,F,I,J,N,O]);refine ayG (r _) ?_;cases R:mJ D.su (bC D (x.n 0))
   ·(try simp only[RN,F])
    rfl
   ·(try simp only[RN,F])
    rfl
  ·(try simp only[RN,B,F])
   rfl
 have p:(x.kind==6)=false:=beq_false_of_ne k6;have u:=akx D.su m x d k6;rw[gU,dM]at u;rw[if_neg k6];simp only[p,RN,B,F,O];refine ayG u ?_;cases L:KF D.su x
 ·(try simp only[RN,B,F])
  rfl
 rw[if_neg (by simp)];have M:x.Fit D.su:=Yc d k6 (by rw[<-Eo d k6];exact L);have t:=afB D.su m (bC D (-1)) (b _) (by have:=j (-1);omega) x M;rw[gU,dM]at t;(try simp only[RN,B,F,O]);refine ayG (c _) ?_;(try simp only[RN,B,F,I,J,N,O]);refine ayG t ?_;cases T:qh D.su (bC D (-1)) x
 ·(try simp only[RN,F])
  rfl
 ·(try simp only[RN,F])
  rfl
end Go.Tel
namespace Go.Am
variable{bs:List (Option (List PV))}{fz:List Nat}{ar:List (Option Arr)}{sz:Nat}
def ajq {xs:List DV}:Mem.frz ⟨bs,fz,ar++ [some ⟨sz,xs,0,0⟩]⟩ [.tsl ar.length 0 0]=⟨bs,fz,ar++ [some ⟨sz,xs,0,2⟩]⟩:=by
 simp only[Mem.frz,lG,lF,bq,List.flatMap_nil,aL,bR,JM,List.foldl_cons,List.foldl_nil]
 congr 1
 apply List.ext_getElem?;intro i;rw[List.getElem?_modify]
 by_cases b:ar.length=i
 ·subst b
  rw[a6,a6];simp
 ·simp only[b,if_false]
  by_cases a:i<ar.length
  ·rw[aD a,aD a];simp
  ·rw[bh (by simp;omega),bh (by simp;omega)];rfl
def aja {C:Ctx}{K:PV->Mem->Prop}{base:Nat}{KP:DV->Mem->Prop}{ys:List DV}{ex:Bool}(a:0<sz)(hf:∀y∈ys,y.fits sz=true)(hl:ys.length<=1073741824)
  (b:K (.d (.slice false ys)) ⟨bs,fz,ar++ [some ⟨sz,ys,0,2⟩]⟩):au C base (.ZA sz) [.d (.slice true []), .d (.slice ex ys)] ⟨bs,fz,ar⟩ K KP:=by
 simp only[au,aix];refine⟨a,hf,by simp,by simp,by simpa using hl, .slice false ys,by simp[datum,Mem.row],?_⟩;simp only[bR,cond_false];rw[ajq];exact b
end Go.Am
namespace Go.Tel
open Go.Am
variable{D:Dk}
def ap4 {x:En}(hk:1<=x.kind/\x.kind<=6)(a:x.kind≠6):D.with x={D with es:=D.es++ [x],st:=D.st++ [false]}:=by
 rcases(show x.kind=1\/x.kind=2\/x.kind=3\/x.kind=4\/x.kind=5 by omega)with k|k|k|k|k
 ·unfold Dk.with;rw[En.deed1 k];rfl
 ·unfold Dk.with;rw[En.deed2 k];rfl
 ·unfold Dk.with;rw[En.deed3 k];rfl
 ·unfold Dk.with;rw[En.deed4 k];rfl
 ·unfold Dk.with;rw[En.Pq k];rfl
def al1 (xs:List En):∀y∈xs.map En.dv,y.fits 2=true:=by
 intro y a;obtain⟨z,_,rfl⟩:=bv.1 a;rw[dM];rfl
def af5 (xs:List Bool):∀y∈xs.map DV.bool,y.fits 1=true:=by
 intro y a;obtain⟨z,_,rfl⟩:=bv.1 a
 rfl
def anb (D:Dk)(x:En)(hl:D.es.length<=1000)(p:D.st.length<=1000)(t:x.ns.length<=1000)(h:x.kind=6->1<=x.ns.length/\0<=x.n 0/\(x.n 0).toNat<D.st.length)(hk:1<=x.kind/\x.kind<=6):Pure C 51 [Y7 D,x.dv] (.d (Y7 (D.with x))) []:=by
 refine bU (ayH CJ akW ?_);rw[IY (D:=D),dM];simp only[CJ,akW,RN,B,F,J,N,O];refine⟨al1 _,by simp,by simp,by simp;omega,?_⟩;refine aja (by decide) (FY _) (by simp;omega) ?_;have k:∀y:DV,y= .agg [dI x.kind,sF (x.ns.map ay)]->y.fits 2=true:=by rintro y rfl;rfl
 have i:=af5 D.st;have j:∀y:DV,y= .bool false->y.fits 1=true:=by rintro y rfl;rfl
 have l:(D.es.map En.dv).length<=1073741823:=by simp;omega
 have m:(D.st.map DV.bool).length<=1073741824:=by simp;omega
 have o:(D.st.map DV.bool).length<=1073741823:=by simp;omega
 simp only[DV.strip,bM,dB,RN,B,F,J,N,O]
 (repeat(refine And.intro (by first|assumption|rfl|(simp;done)|(simp;omega)) ?_))
 by_cases k6:x.kind=6
 ·obtain⟨u,r,s⟩:=h k6
  have g:(x.kind==6)=true:=by simp[k6]
  have q:0<x.ns.length:=by omega
  have e:0<=x.ns.getD 0 default:=r;have a:(x.ns.getD 0 default).toNat<D.st.length:=s;have f:(x.ns.getD 0 default).toNat<(D.st.map DV.bool++ [DV.bool false]).length:=by rw[an,Q];omega
  simp only[g,j0,t0,q,e,f,Q,getD_map,aI,RN,B,F,N,O];have b:(D.st.map DV.bool++ [DV.bool false]).getD (x.ns.getD 0 default).toNat default= .bool (D.st.getD (x.ns.getD 0 default).toNat default):=by
   rw[az,aD (by simpa using a),<-az,getD_map a]
  refine qU (ds:=[.bool true]) rfl rfl (by decide) rfl rfl (by rw[b];exact bE 1) ?_;have c:(D.st.map DV.bool++ [DV.bool false]).set (x.ns.getD 0 default).toNat (setCells ((D.st.map DV.bool++ [DV.bool false]).getD (x.ns.getD 0 default).toNat default) 0 [.bool true])=(D.st.set (x.ns.getD 0 default).toNat true++ [false]).map .bool:=by
   rw[b,List.set_append_left _ _ (by simpa using a),aq,List.map_set];rfl
  rw[c];simp only[dB,bI,bX,eP,gI,RN,F,J,O];rw[QL k6];simp[datum,cu,fA,Mem.row,IY,dM,En.n]
 ·have g:(x.kind==6)=false:=beq_false_of_ne k6
  simp only[g,dB,bI,bX,eP,gI,RN,B,F,J,O];rw[ap4 hk k6];simp[datum,cu,fA,Mem.row,IY,dM]
def akz (s:Su)(hs:s.Small)(e:s.fs.length<=1000000):Pure C 18 [s.dv] (.d (.bool s.ok)) []:=by
 have h1:=akv s.pc hs.l hs.h;have h2:=apT s.dvd (by have:=hs.ci;omega);have k:=apS s.cal (by have:=hs.cy;omega);have m:=anm s.jf;have y:=ahL s.fs e;have n:=afA s [] false;have o:=ahH (s.bil []) (by simp[Su.bil]);have b:=fun f:Fr=>anj f
 simp only[dZ,sZ,fE,iy,JI,bW,gU]at h1 h2 k m n o b;refine ayF MX aK ?_;rw[gU];simp only[MX,aK,RN,B,F,O];refine ayG h1 ?_;cases q:s.pc.ok
 ·(try simp only[RN,B])
  simp[Su.ok,q]
 simp only[Q,RN,B,F,O]
 by_cases j:s.tg.length=s.pc.hands.length
 case neg=>
  have z:((s.tg.length:Int) !=(s.pc.hands.length:Int))=true:=by simp;omega
  simp only[z,RN,B];simp[Su.ok,j]
 have z:((s.tg.length:Int) !=(s.pc.hands.length:Int))=false:=by simp[j]
 simp only[z,RN,B,F,O];refine ayG (akJ _) ?_;cases r:inR s.lim 0 10800
 ·(try simp only[RN,B])
  simp[Su.ok,r]
 (try simp only[RN,B,F,O]);refine ayG h2 ?_;cases u:s.dvd.ok
 ·(try simp only[RN,B])
  simp[Su.ok,u]
 simp only[RN,B];have A:=hs.t;refine aH s.tg.length (fun i (_:Unit)=>⟨[(1, .d (.aW s.cs)),(3,pI i)],⟨[some (s.cs.map .d)],[0],[]⟩⟩)
  (fun i _=>s.tg.all Fr.ok=(s.tg.drop i).all Fr.ok) 0 () (Z _) rfl rfl (fun i _ c a=> ?_) (fun _ a=> ?_)
 ·obtain⟨v,w,x⟩:=rng c (by omega)
  rw[drop_cons c,b7]at a;simp only[uS,v,w,c,getD_map,bW,U,Q,RN,B,F,O];refine ayG (b _) ?_;cases p:(s.tg.getD i default).ok
  ·rw[p,V]at a
   (try simp only[RN,B]);simp[Su.ok,a]
  ·rw[p,aR]at a
   simp only[x,RN,B];exact bn () c rfl a
 ·rw[aw,cb]at a
  have g:s.ok=(s.cal.ok&&s.jf.ok&&jA s.fs&&inR s.year 0 4000&&(s.bil []).ok):=by
   simp[Su.ok,q,j,r,u,a]
  rw[g];simp only[uS,ab,Q,RN,B,F,O];refine ayG k ?_;cases D:s.cal.ok
  ·simp only[V,RN,B]
  (try simp only[RN,B,F,O]);refine ayG m ?_;cases k6:s.jf.ok
  ·simp only[V,RN,B]
  (try simp only[RN,B,F,O]);refine ayG y ?_;cases E:jA s.fs
  ·simp only[V,RN,B]
  (try simp only[RN,B,F,O]);refine ayG (afE _) ?_;cases G:inR s.year 0 4000
  ·simp only[V,RN,B]
  (try simp only[RN,B,F,O]);refine ayG n ?_;(try simp only[RN]);refine ayG o ?_;(try simp only[])
def Su.short (s:Su):Bool:=decide (s.pc.links.length<=7)&&decide (s.pc.hands.length<=6)&&decide (s.tg.length<=6)&&decide (s.dvd.cir.length<=8)&&decide (s.cal.cy.length<=5)&&decide (s.fs.length<=8)
variable{s:Su}
def Su.ab1 (h:s.short=true):s.Small/\s.fs.length<=8:=by
 simp only[Su.short,ai,decide_eq_true_eq]at h;exact⟨⟨by omega,by omega,by omega,by omega,by omega⟩,by omega⟩
def wG {a b:Nat}:decide ((a:Int)<=(b:Int))=decide (a<=b):=decide_eq_decide.2 (by omega)
def anG (s:Su):Pure C 39 [s.dv] (.d (.bool s.short)) []:=by
 refine ayF MF aK ?_;rw[gU];simp only[MF,aK,Q,RN,B,F,O];have a:decide ((s.pc.links.length:Int)<=7)=decide (s.pc.links.length<=7):=wG;have c:decide ((s.pc.hands.length:Int)<=6)=decide (s.pc.hands.length<=6):=wG;have f:decide ((s.tg.length:Int)<=6)=decide (s.tg.length<=6):=wG;have h:decide ((s.dvd.cir.length:Int)<=8)=decide (s.dvd.cir.length<=8):=wG;have j:decide ((s.cal.cy.length:Int)<=5)=decide (s.cal.cy.length<=5):=wG;have l:decide ((s.fs.length:Int)<=8)=decide (s.fs.length<=8):=wG;rw[Su.short];cases b:decide (s.pc.links.length<=7)
 ·simp only[a,b,V,RN,B]
 cases e:decide (s.pc.hands.length<=6)
 ·simp only[a,b,c,e,V,Q,RN,B,F,O]
 cases g:decide (s.tg.length<=6)
 ·simp only[a,b,c,e,f,g,V,Q,RN,B,F,O]
 cases i:decide (s.dvd.cir.length<=8)
 ·simp only[a,b,c,e,f,g,h,i,V,Q,RN,B,F,O]
 cases k:decide (s.cal.cy.length<=5)
 ·simp only[a,b,c,e,f,g,h,i,j,k,V,Q,RN,B,F,O]
 ·simp only[a,b,c,e,f,g,h,i,j,k,l,Q,RN,B,F,O]
def AP (s:Su)(l:List En)(q:List Qn):Bool:= !((l.take 27).any fun x=>decide (x.ns.length>6))&& !((q.take 11).any fun x=>decide (x.ns.length>6))&&(s.short&&decide (l.length<=26)&&decide (q.length<=10))
def XP {l:List En}{q:List Qn}(h:AP s l q=true):s.short=true/\(l.length<=26/\∀x∈l,x.ns.length<=6)/\q.length<=10/\∀x∈q,x.ns.length<=6:=by
 simp only[AP,ai,Bool.not_eq_true',List.any_eq_false,decide_eq_true_eq]at h;obtain⟨⟨h1,h2⟩,⟨b,c⟩,d⟩:=h;rw[aM (by omega)]at h1 h2;exact⟨b,⟨c,fun x a=>by have:=h1 x a;omega⟩,d,fun x a=>by have:=h2 x a;omega⟩
def any_take_succ {α:Type}[Inhabited α](p:α->Bool)(l:List α){i:Nat}(h:i<l.length)(a:(l.take i).any p=false):(l.take (i+1)).any p=p (l.getD i default):=by
 rw[aS h,bL,a];simp
def O5 {α:Type}(p:α->Bool)(l:List α){i n:Nat}(a:i<=n)(h:(l.take i).any p=true):(l.take n).any p=true:=by
 rw[List.any_eq_true]at h⊢;obtain⟨x,c,b⟩:=h;exact⟨x,(List.take_sublist_take_left a).subset c,b⟩
def alP (s:Su)(l:List En)(q:List Qn):Pure C 17 [s.dv,sF (l.map En.dv),sF (q.map Qn.dv)] (.d (.bool (AP s l q))) []:=by
 have y:=anG s;refine ayF Me jr ?_;rw[gU]at y⊢;simp only[Me,jr,RN,B,F];refine aH (min l.length 27) (fun i (_:Unit)=>⟨[(1, .d (sF (l.map En.dv))),(2, .d (sF (q.map Qn.dv))),(3, .d (.aW s.cs)),(7,pI i)],⟨[some (s.cs.map .d)],[0],[]⟩⟩)
  (fun i _=>((l.take i).any fun x=>decide (x.ns.length>6))=false) 0 () (Z _) rfl rfl (fun i _ j a=> ?_) (fun _ a=> ?_)
 ·have k:(i:Int)<(l.length:Int):=by omega
  have n:(i:Int)<27:=by omega
  have m:(0:Int)<=(i:Int):=by omega
  have e:i<l.length:=by omega
  have o:cg .i64 ((i:Int)+1)=((i+1:Nat):Int):=by rw[aF (by omega)];omega
  have b:=any_take_succ (fun x:En=>decide (x.ns.length>6)) l e a;simp only[k,n,m,e,getD_map,dM,U,Q,RN,B,F,O]
  by_cases f:(l.getD i default).ns.length>6
  ·have z:((l.getD i default).ns.length:Int)>6:=by omega
   have r:AP s l q=false:=by
    rw[decide_eq_true f]at b;have:=O5 _ l (show i+1<=27 by omega) b;simp[AP,this]
   simp only[z,r,RN,B]
  ·have z:¬((l.getD i default).ns.length:Int)>6:=by omega
   rw[decide_eq_false f]at b;simp only[z,o,RN,B];exact bn () j rfl b
 have E:((l.take 27).any fun x=>decide (x.ns.length>6))=false:=by
  by_cases h:l.length<=27
  ·rw[bS h,ae]at a;rw[aM h];exact a
  ·rwa [bB (by omega)]at a
 have g:¬((min l.length 27:Nat):Int)<(l.length:Int)\/((min l.length 27:Nat):Int)<(l.length:Int)/\¬((min l.length 27:Nat):Int)<27:=by omega
 have I:∀v:Prop,v->v:=fun _ h=>h
 rcases g with t|⟨t,H⟩
 all_goals(
  first
   |(simp only[t,H,Q,RN,B])
   |(simp only[t,Q,RN,B])
  refine aH (min q.length 11) (fun i (_:Unit)=>⟨[(1, .d (sF (l.map En.dv))),(2, .d (sF (q.map Qn.dv))),(3, .d (.aW s.cs)),(8,pI i)],⟨[some (s.cs.map .d)],[0],[]⟩⟩)
   (fun i _=>((q.take i).any fun x=>decide (x.ns.length>6))=false) 0 () (Z _) rfl rfl (fun i _ j a=> ?_) (fun _ a=> ?_)
  ·have k:(i:Int)<(q.length:Int):=by omega
   have n:(i:Int)<11:=by omega
   have m:(0:Int)<=(i:Int):=by omega
   have e:i<q.length:=by omega
   have o:cg .i64 ((i:Int)+1)=((i+1:Nat):Int):=by rw[aF (by omega)];omega
   have b:=any_take_succ (fun x:Qn=>decide (x.ns.length>6)) q e a;simp only[k,n,m,e,getD_map,afa,U,Q,RN,B,F,O]
   by_cases f:(q.getD i default).ns.length>6
   ·have z:((q.getD i default).ns.length:Int)>6:=by omega
    have r:AP s l q=false:=by
     rw[decide_eq_true f]at b;have:=O5 _ q (show i+1<=11 by omega) b;simp[AP,this]
    simp only[z,r,RN,B]
   ·have z:¬((q.getD i default).ns.length:Int)>6:=by omega
    rw[decide_eq_false f]at b;simp only[z,o,RN,B];exact bn () j rfl b
  have G:((q.take 11).any fun x=>decide (x.ns.length>6))=false:=by
   by_cases h:q.length<=11
   ·rw[bS h,ae]at a;rw[aM h];exact a
   ·rwa [bB (by omega)]at a
  have p:AP s l q=(s.short&&decide (l.length<=26)&&decide (q.length<=10)):=by simp only[AP,E,G,b2,aR]
  rw[p];have aqz:¬((min q.length 11:Nat):Int)<(q.length:Int)\/((min q.length 11:Nat):Int)<(q.length:Int)/\¬((min q.length 11:Nat):Int)<11:=by omega
  have w:decide ((l.length:Int)<=26)=decide (l.length<=26):=wG;have D:decide ((q.length:Int)<=10)=decide (q.length<=10):=wG
  rcases aqz with c|⟨c,u⟩
  all_goals(
   first
    |(simp only[uS,c,u,Q,RN,B,F,O])
    |(simp only[uS,c,Q,RN,B,F,O])
   refine ayG y ?_;cases J:s.short
   ·simp only[V,RN,B]
   cases A:decide (l.length<=26)
   ·simp only[w,A,V,Q,RN,B]
   ·simp only[w,A,D,Q,RN,B]))
def avc (l:List En):ByteArray:=l.foldl (fun o x=>o++(x.line++nlB)) ⟨#[]⟩
def avf (l:List En)(x:En):avc (l++ [x])=avc l++(x.line++nlB):=by simp[avc]
def avr (l:List En)(h:∀x∈l,x.formed=true):(avc l).size<=40*l.length:=by
 induction l using uH with
 |h0=>exact bE 0
 |h1 l x b=>
  have h1:=b fun y a=>h y (by simp[a])
  have h2:=avg (h x (by simp));have c:nlB.size=1:=rfl;rw[avf,ax,ax,an,List.length_singleton];omega
def ave (b j:Bool)(D:Dk)(hf:∀x∈D.es,x.formed=true)(hl:D.es.length<=1000):Pure C 48 [uP b j D] (.d (.tup [.str (avc D.es),dI 0])) []:=by
 have k:=aaA b j D;refine ayF Dn Zb ?_;rw[uP,JG]at k⊢;simp only[Dn,Zb,RN,B];refine ayG k ?_;simp only[Q,RN,B,F,O];refine aH D.es.length (fun i (_:Unit)=>⟨[(4, .d (.str (avc (D.es.take i)))),(15, .d (.slice b (D.es.map En.dv))),(16,pI D.es.length),(17,pI i)],⟨[],[],[]⟩⟩)
  (fun i _=>True) 0 () (Z _) rfl trivial (fun i _ a _=> ?_) (fun _ _=> ?_)
 ·obtain⟨m,n,o⟩:=rng a (by omega)
  have l:=hf _ (getD_mem a);have c:=awc (D.es.getD i default);have h:=avr (D.es.take i) fun y q=>hf y (a1 q)
  rw[am]at h;have p:=avg l;have e:(D.es.getD i default).line.size+(⟨#[10]⟩:ByteArray).size<=9223372036854775807:=by have:(⟨#[10]⟩:ByteArray).size=1:=rfl;omega
  have f:(avc (D.es.take i)).size+((D.es.getD i default).line++(⟨#[10]⟩:ByteArray)).size<=9223372036854775807:=by have:(⟨#[10]⟩:ByteArray).size=1:=rfl;rw[ax];omega
  have g:avc (D.es.take (i+1))=avc (D.es.take i)++((D.es.getD i default).line++⟨#[10]⟩):=by rw[aS a,avf];rfl
  simp only[l,if_true]at c;rw[dM]at c;simp only[m,n,a,getD_map,dM,U,Q,RN,B,F,O];refine ayG c ?_;simp only[oD,Iq,e,f,o,RN];exact jv 0 0 () a (by rw[g];rfl) trivial (by simp) (by simp) rfl rfl
 ·simp only[ab,RN,B]
  rw[ae]
def axV (D:Dk)(hf:∀x∈D.es,x.formed=true)(hl:D.es.length<=1000):Pure C 130 [Y7 D] (.d (.str (avc D.es))) []:=by
 refine ayF awt aK ?_;rw[IY];simp only[awt,aK,RN,B];refine aH D.es.length (fun i (_:Unit)=>⟨[(1, .d (.aW (abM D))),(3, .d (.str (avc (D.es.take i)))),(4,pI i)],⟨[some ((abM D).map .d)],[0],[]⟩⟩)
  (fun i _=>True) 0 () (Z _) rfl trivial (fun i _ a _=> ?_) (fun _ _=> ?_)
 ·obtain⟨j,k,l⟩:=rng a (by omega)
  have h:=hf _ (getD_mem a);have g:=ayq (D.es.getD i default) h;have f:=avr (D.es.take i) fun y n=>hf y (a1 n)
  rw[am]at f;have m:=avg h;have b:(avc (D.es.take i)).size+(D.es.getD i default).line.size<=9223372036854775807:=by omega
  have c:(avc (D.es.take i)++(D.es.getD i default).line).size+(⟨#[10]⟩:ByteArray).size<=9223372036854775807:=by have:(⟨#[10]⟩:ByteArray).size=1:=rfl;rw[ax];omega
  have e:avc (D.es.take (i+1))=avc (D.es.take i)++(D.es.getD i default).line++⟨#[10]⟩:=by
   rw[aS a,avf,ByteArray.append_assoc];rfl
  rw[dM]at g;simp only[ZY,j,k,a,getD_map,dM,U,Q,RN,B,F,O];refine ayG g ?_;simp only[oD,Iq,b,c,l,RN];exact bn () a (by rw[e]<;>rfl) trivial
 ·simp only[ZY,ab,Q,RN,B,F,O]
  rw[ae]
def entered (D:Dk)(l:List En):Dk:=l.foldl (fun D x=>(D.enter x).1) D
def Dv (D:Dk)(l:List En)(x:En):entered D (l++ [x])=((entered D l).enter x).1:=by simp[entered]
def rdF (a b:Bool)(D:Dk):List DV:=[sF (D.su.pc.links.map Lk.dv),sF (D.su.pc.hands.map ay),sF (D.su.tg.map Fr.dv),dI D.su.lim,dI D.su.dvd.eF,sF (D.su.dvd.cir.map ay),dI D.su.cal.ep,sF (D.su.cal.cy.map ay),dI D.su.jf.n,dI D.su.jf.d,dI D.su.jf.ad,sF (D.su.fs.map Fs.dv),dI D.su.year,dI D.su.gq,dI D.su.hours,dI D.su.lC,dI D.su.pct, .slice a (D.es.map En.dv), .slice b (D.st.map .bool)]
def XY {a b:Bool}:rdF a b D=[sF (D.su.pc.links.map Lk.dv),sF (D.su.pc.hands.map ay),sF (D.su.tg.map Fr.dv),dI D.su.lim,dI D.su.dvd.eF,sF (D.su.dvd.cir.map ay),dI D.su.cal.ep,sF (D.su.cal.cy.map ay),dI D.su.jf.n,dI D.su.jf.d,dI D.su.jf.ad,sF (D.su.fs.map Fs.dv),dI D.su.year,dI D.su.gq,dI D.su.hours,dI D.su.lC,dI D.su.pct, .slice a (D.es.map En.dv), .slice b (D.st.map .bool)]:=by rw[rdF]
def oC.KG {d i:Nat}{ce cs:PV}{bs:List (Option (List PV))}{fz:List Nat}{ar:List (Option Arr)}{y:Option (List PV)}(h:oC D d ce cs ⟨bs,fz,ar⟩)(hi:i≠d):oC D d ce cs ⟨bs.set i y,fz,ar⟩:=
 ⟨⟨by simp only;rw[bi hi];exact h.box,h.ent,h.str⟩,h.dif,h.nb,h.fzb.set⟩
def Ld (hs:s.ok=true)(l:List En):(entered ⟨s,[],[]⟩ l).Live:=by
 induction l using uH with
 |h0=>exact ajW hs
 |h1 l x a=>rw[Dv];exact adb a x
def aeu (h:D.Live){x:En}(a:xI D x=0):Pure C 51 [Y7 D,x.dv] (.d (Y7 (D.with x))) []:=by
 have b:x.formed=true:=by cases e:x.formed with
  |true=>rfl
  |false=>unfold xI at a;rw[if_pos e]at a;cases a
 have l:=En.BL b;have g:=h.ok.few;have j:=h.ok.len;have o:=JL b;refine anb D x (by omega) (by omega) (by omega) (fun k6=> ?_) l;have f:=yO b (i:=0) (by rw[k6];decide);have m:x.ns.length=jc x.kind:=by
  simp only[En.formed,ai,decide_eq_true_eq]at b;exact b.1.2
 unfold xI at a;have c:¬D.es.length>=24:=fun e=>by rw[if_neg (by simp[b]),if_pos e]at a;cases a
 rw[if_neg (by simp[b]),if_neg c,if_pos k6]at a;have k:¬x.n 0>=(D.es.length:Int):=fun e=>by rw[if_pos (.inl e)]at a;cases a
 refine⟨by rw[m,k6];decide,f.1,by omega⟩
end Go.Tel
namespace Go.Am
def aoY {bs:List (Option (List PV))}{fz:List Nat}{ar:List (Option Arr)}{K:St->Prop}{k ver t sz st:Nat}{ts:List Nat}{xs:List DV}{env:List (Nat×PV)}(h:ar[k]?=some (some ⟨sz,xs,ver,st⟩)):
  QN (.tsl k ver 0) t ts K env ⟨bs,fz,ar⟩=tH ts K ⟨(t, .d (.slice false xs))::env,⟨bs,fz,ar.set k (some ⟨sz,xs,ver,2⟩)⟩⟩:=by
 rw[Go.Tel.Tf h,b4]
end Go.Am
namespace Go.Tel
open Go.Am
variable{M:Mem}{c:PV}
def ajp {bs:List (Option (List PV))}{fz:List Nat}{ar:List (Option Arr)}{L:List Int}{t:Nat}{ts:List Nat}{env:List (Nat×PV)}{K:St->Prop}(hc:slN 1 true c (L.map ay) ar)(a:∀k,kOf c=some k->M.aB.length<=k)(hf:Frm M ⟨bs,fz,ar⟩)
  (b:∀ex ar',Frm M ⟨bs,fz,ar'⟩->tH ts K ⟨(t, .d (.slice ex (L.map ay)))::env,⟨bs,fz,ar'⟩⟩):QN c t ts K env ⟨bs,fz,ar⟩:=by
 rcases hc with⟨rfl,h⟩|⟨k,ver,st,rfl,h,_⟩
 ·have:=b true ar hf
  rw[h]at this;exact this
 ·rw[aoY h]
  refine b false _ ⟨hf.len,by simpa using hf.bH,hf.box,hf.fz,fun j e=> ?_,hf.fzb⟩;have:=a k rfl;simp only;rw[bi (by omega)];exact hf.row j e
def ae5 {C:Ctx}{base:Nat}{K:PV->Mem->Prop}{KP:DV->Mem->Prop}{p:PV}{e:Int}(a:p= .tup [c,pI e]\/(p= .d (.tup [.slice true [],dI e])/\c= .d (.slice true []))):
  (au C base (.ext 0) [p] M K KP=K c M)/\au C base (.ext 1) [p] M K KP=K (pI e) M:=by
 rcases a with rfl|⟨rfl,rfl⟩
 ·exact⟨qc,qg⟩
 ·exact⟨propext ⟨id,id⟩,propext ⟨id,id⟩⟩
def atg {α:Type}(f g:α->Int)(l:List α):(l.flatMap fun x=>[f x,g x]).length=2*l.length:=by
 induction l with
 |nil=>rfl
 |cons x l a=>rw[bq,an,a];simp;omega
variable{D:Dk}
def aua (h:D.Ok)(q:Qn):(D.ask q).1.length<=1000:=by
 unfold Dk.ask
 split
 ·simp
 rename_i d
 split
 ·simp
 cases g:D.state (-1)with
 |none=>simp
 |some t=>
  simp only
  split
  ·have c:=h.Vp g
   have b:=Pc.good c.pc;have a:1<=q.kind/\q.kind<=12:=by simpa[inR]using d
   obtain⟨k,ns⟩:=q;simp only at a
   rcases XR a with rfl|rfl|rfl|rfl|rfl|rfl|rfl|rfl|rfl|rfl|rfl|rfl
   ·have e:(ajr t.pc).length=2*t.pc.hands.length:=atg _ _ _
    have:(D.answer t ⟨1,ns⟩).1=ajr t.pc:=rfl;rw[this,e];have:=b.h2;omega
   ·have:(D.answer t ⟨2,ns⟩).1=QG t.eH:=rfl
    rw[this,QG,List.length_mergeSort];have:=c.st;omega
   ·have:(D.answer t ⟨3,ns⟩).1=qo t.op t.pc.hands.length:=rfl
    rw[this];have:=L8 t.op t.pc.hands.length;have:=b.h2;omega
   ·simp only[Dk.answer];simp;split<;>simp
   ·simp only[Dk.answer,uU];simp
    split
    ·split
     ·simp
     ·rw[agy];have:=ZU t.pc (Qn.n ⟨5,ns⟩ 1) (Qn.n ⟨5,ns⟩ 2) (Qn.n ⟨5,ns⟩ 0);rename_i f _;have:=this f;omega
    ·simp
   ·simp only[Dk.answer];simp;split<;>simp
   ·simp[Dk.answer]
   ·simp only[Dk.answer];simp;split
    ·split<;>simp
    ·simp
   ·simp only[Dk.answer];simp;split<;>simp
   ·simp[Dk.answer]
   ·simp[Dk.answer]
   ·have:(D.answer t ⟨12,ns⟩).1=D.stands.map fun p=>(p.1:Int):=rfl
    rw[this,Q];exact av (av (Az _ _ _) h.few) (by decide)
  ·simp
def Two (D E:Dk)(d f:Nat)(M:Mem):Prop:=∃c cs a b,oC D d c cs M/\oC E f a b M/\d≠f/\∀k,ab7 c cs k->¬ab7 a b k
def oC.new {bs:List (Option (List PV))}{fz:List Nat}{ar:List (Option Arr)}(a:FzB ⟨bs,fz,ar⟩)(s:Su){x1 x2:Option (List PV)}:oC ⟨s,[],[]⟩ (bs.length+2) (.d (.slice true [])) (.d (.slice true [])) ⟨bs++ [x1,x2,some (iV s (.d (.slice true [])) (.d (.slice true [])))],(bs.length+1)::bs.length::fz,ar⟩:=by
 have b:Frm ⟨bs,fz,ar⟩ ⟨bs++ [x1,x2,some (iV s (.d (.slice true [])) (.d (.slice true [])))],(bs.length+1)::bs.length::fz,ar⟩:=Frm.new (xf:=[_,_]) (by intro i c;simp at c⊢;omega);refine⟨⟨?_, .inl ⟨rfl,rfl⟩, .inl ⟨rfl,rfl⟩⟩,(by intro k f;cases f),?_,b.fzb a⟩
 ·simp only;rw[a8 (by omega)];simp
 ·intro e
  simp only[List.mem_cons]at e
  rcases e with e|e|e
  ·omega
  ·omega
  ·have:=a _ e;simp only at this;omega
def allB (D:Dk)(p:Pc):List (Option (List PV)):=[some ((abM D).map .d),some (D.su.cs.map .d),some [.d (sF (p.links.map Lk.dv)), .d (sF (p.hands.map ay))]]
def awq (D:Dk)(p:Pc){m:Nat}:((allB D p).all fun c=>(c.getD []).all fun p=>p.upto 3 m)=true:=by simp[allB,PV.upto]
def awv (l:List En)(n:Nat):List Int:=(bd n).flatMap fun(i:Nat)=>if(dA l (i:Int)).2 then[(i:Int),(dA l (i:Int)).1.n,(dA l (i:Int)).1.d]else[]
def aw4 (l:List En)(n:Nat):awv l (n+1)=awv l n++if(dA l (n:Int)).2 then[(n:Int),(dA l (n:Int)).1.n,(dA l (n:Int)).1.d]else[]:=by simp[awv,be]
def axh (l:List En):∀n,(awv l n).length<=3*n
 |0=>by simp[awv]
 |n+1=>by
  have:=axh l n;rw[aw4,an]
  split<;>simp<;>omega
def axD (h:D.Live):D.ask ⟨3,[]⟩=(awv (bC D (-1)) D.su.pc.hands.length,0):=by
 obtain⟨t,c,b,a⟩:=h.t;rw[aop c (by decide) rfl];have e:qo t.op t.pc.hands.length=awv (bC D (-1)) D.su.pc.hands.length:=by
  rw[a.hh,qo,awv]
  congr 1
  funext i
  rw[Ii,b.op]
  split<;>simp_all
 simp[Dk.answer,e]
def ax2 {s:Su}(l:List En):(∀x∈l,x.Fit s)->0<=Sm l/\Sm l<=9999*(l.length:Int):=by
 induction l using uH with
 |h0=>exact fun _=>⟨cf _,cf _⟩
 |h1 l x b=>
  intro h;obtain⟨c,d⟩:=b fun y a=>h y (by simp[a])
  rw[wF,an];simp only[bc,List.length_nil]
  split
  ·rename_i k
   have:=yO (h x (by simp)).fm (i:=1) (by rw[k];decide);omega
  ·omega
def ayl (p:Nat->Bool)(k:Nat):(bd (k+1)).any p=((bd k).any p||p k):=by rw[be,bL];simp
def axE (D:Dk)(i k:Nat):Bool:=(bd k).any fun k=> !inR ((D.ask ⟨6,[(k:Int),(i:Int)+1]⟩).1.getD 0 0) (-D.su.lim) D.su.lim
def awR (p:Pc)(n:Nat):List Int:=(p.hands.take n).flatMap (Ef p)
def axR {p:Pc}{n:Nat}(h:n<p.hands.length):awR p (n+1)=awR p n++Ef p (p.hands.getD n default):=by rw[awR,aS h,bk];simp[awR]
def ayh (p:Pc){m:Int}(c:1<=m)(h1:m<=p.links.length):(mW p).getD m.toNat default=dP (bg p.links m.toNat):=by
 obtain⟨k,b⟩:∃k,m.toNat=k+1:=⟨m.toNat - 1,by omega⟩
 have a:k<p.links.length:=by omega
 rw[b,mW,List.getD_cons_succ,az,bt,List.getElem?_range a]
 rfl
def awQ (D:Dk)(k:Int):Bool:=if k=2 then stE (bC D (-1))else decide (k=7\/k=11)
def ayy (h:D.Live)(k:Int)(hk:k=1\/k=2\/k=3\/k=7\/k=11\/k=12):Pure C 147 [Y7 D,dI k] (.d (.slice (awQ D k) ((D.ask ⟨k,[]⟩).1.map ay))) []:=by
 obtain⟨A,q⟩:∃A,A=bC D (-1):=⟨_,rfl⟩
 have b:=h.fits (-1);have ai:=h.goes;rw[<-q]at b ai;have aug:A.length<=24:=by have:=NM D (-1);rw[<-q]at this;have:=h.ok.few;omega
 have R:=h.ok.su;have Y:=Qw D h.ok.len (by have:=h.ok.few;omega) (-1);rw[IY,<-q]at Y;have hP:=UM D.su R A b (by omega);obtain⟨p,f⟩:∃p,p=dG D.su A:=⟨_,rfl⟩
 have aw:p.ok=true:=by rw[f];exact ahv R A b
 have L:p.hands=D.su.pc.hands:=by rw[f];exact as5 _ _
 rw[<-f,gU,dZ]at hP;have g:=Pc.good aw;refine bU (ayH awE aJ ?_);rw[IY];simp only[awE,aJ,RN,B,F,I,N,O];refine ayG Y ?_;(try simp only[RN,B,F,J,O]);refine ayG hP ?_;(try simp only[RN,B,F,J,N,O]);have hR:=fun(i:Nat) (hi:i<p.hands.length)=>afy p aw (a:=(p.hands.getD i default).toNat) (by have:=g.hd _ (getD_mem hi);omega)
 simp only[dZ,bW]at hR;have aM:((1:Int)==1)=true:=rfl
 rcases hk with rfl|rfl|rfl|rfl|rfl|rfl
 ·rw[atf h,<-q,<-f]
  simp only[aM,RN,B,F];refine aH p.hands.length (fun i (v:Nat)=>⟨[(7, .d (chP p)),(8, .tsl 1 v 0),(9,pI i)],⟨allB D p,[2,1,0],[some ⟨1,[],0,0⟩,some ⟨1,(awR p i).map ay,v,0⟩]⟩⟩)
   (fun _ _=>True) 0 0 (Z _) rfl trivial (fun i v c _=> ?_) (fun v _=> ?_)
  ·obtain⟨T,V,o⟩:=rng c (by have:=g.h2;omega)
   have G:=g.hd _ (getD_mem c);have ax:=hR i c;rw[show(((p.hands.getD i default).toNat:Nat):Int)=p.hands.getD i default by omega]at ax;simp only[chP,allB,T,V,c,getD_map,aI,U,Q,RN,B,F,I,O];refine ayG ax ?_;simp only[Lh,o,Q,RN,B,F,J,N,O];have K:=aam p (p.hands.take i);rw[am]at K;have ayB:(awR p i).length<=8:=by have:=g.h2;rw[awR,K];omega
   refine⟨by rintro y (rfl|rfl)<;>rfl,by simp,by omega,?_⟩;refine jv 3 2 (v+1) c ?_ trivial (by simp) (by simp) rfl (awq D p);rw[axR c,aq,Ef,ayh p G.1 G.2]
   rfl
  ·simp only[chP,ab,Q,RN,B,F,O]
   have e:awR p p.hands.length=ajr p:=by rw[awR,ae];rfl
   have j:awQ D 1=false:=by simp[awQ]
   rw[e,j];simp[datum,Mem.row]
 ·rw[af4 h,<-q]
  have w:((2:Int)==1)=false:=rfl;have E:((2:Int)==2)=true:=rfl;have hK:=aky D.su R A b (by omega);have j:awQ D 2=stE A:=by rw[awQ,if_pos rfl,q]
  rw[gU]at hK;rw[j];simp only[w,E,RN,B,F,O];refine ayG hK ?_;(try simp only[RN,B,F,I,J,N,O])
  rfl
 ·have ao:=axD h
  rw[<-q,<-L]at ao;rw[ao];have w:((3:Int)==1)=false:=rfl;have E:((3:Int)==2)=false:=rfl;have P:((3:Int)==3)=true:=rfl;have W:=fun i=>aku A i (fun x hx=>Dz (b x hx)) (by omega)
  simp only[bW]at W;simp only[w,E,P,RN,B,F];refine aH p.hands.length (fun i (v:Nat)=>⟨[(6, .d (sF (A.map En.dv))),(7, .d (chP p)),(8, .tsl 1 v 0),(11,pI i)],⟨allB D p,[2,1,0],[some ⟨1,[],0,0⟩,some ⟨1,(awv A i).map ay,v,0⟩]⟩⟩)
   (fun _ _=>True) 0 0 (Z _) (by rw[show awv A 0=[] from by simp[awv]];rfl) trivial (fun i v c _=> ?_) (fun v _=> ?_)
  ·obtain⟨T,V,o⟩:=rng c (by have:=g.h2;omega)
   have l:=aw4 A i;have K:=axh A i;have a4:=g.h2;simp only[chP,allB,T,Q,RN,B,F,O];refine ayG (W i) ?_;simp only[RN,B,F,J,O];cases ko:(dA A i).2
   ·rw[ko]at l
    simp only[a7,if_false,aL]at l;simp only[o,RN,B,F];refine jv 3 2 v c ?_ trivial (by simp) (by simp) rfl (awq D p);rw[l]
    rfl
   ·rw[ko,if_pos rfl]at l
    simp only[aah,o,Q,RN,B,F,J,N,O];refine⟨by rintro y (rfl|rfl|rfl)<;>rfl,by simp,by omega,?_⟩;refine jv 3 2 (v+1) c ?_ trivial (by simp) (by simp) rfl (awq D p);rw[l,aq]
    rfl
  ·simp only[chP,ab,Q,RN,B,F,O]
   have j:awQ D 3=false:=by simp[awQ]
   rw[j];simp[datum,Mem.row]
 ·obtain⟨t,ht,aE⟩:=auF h
  have av:=fun(k:Nat) (d:Int) hk h0 h1=>auw h (k:=k) (d:=d) hk h0 h1
  have ac:=fun(i:Nat) hi=>bad_law h ht (i:=i) hi
  rw[aE];simp only[<-q,<-f]at av;have w:((7:Int)==1)=false:=rfl;have E:((7:Int)==2)=false:=rfl;have P:((7:Int)==3)=false:=rfl;have q7:((7:Int)==7)=true:=rfl;have j:awQ D 7=true:=by simp[awQ]
  have a3:=yJ D.su;have a2:=aiX D.su;have H:=am8 D.su R;rw[gU]at H;have W:=fun(k:Nat) (d:Int) (hk:k<D.su.pc.hands.length) (hd:1<=d/\d<=366)=>axO D.su R A b ai (by omega) (k:Int) d (by omega) (show((k:Int)).toNat<D.su.pc.hands.length by simpa using hk) hd
  simp only[gU,<-f]at W;have aR:0<=D.su.lim/\D.su.lim<=10800:=by have:=(Su.facts R).2.2.1;simpa[inR]using this
  have w1:cg .i64 (0 - D.su.lim)= -D.su.lim:=by rw[aF (by omega)];omega
  rw[j];simp only[w,E,P,q7,RN,B,F];refine aH D.su.days.length (fun i (_:Unit)=>⟨[(5, .d (.aW D.su.cs)),(6, .d (sF (A.map En.dv))),(7, .d (chP p)),(14,pI (vW D.su t i)),(15, .d (dI ((i:Int)+1)))],⟨allB D p,[2,1,0],[some ⟨1,[],0,0⟩,some ⟨1,[],0,0⟩]⟩⟩)
   (fun _ _=>True) 0 () (Z _) rfl trivial (fun i _ c _=> ?_) (fun _ _=> ?_)
  ·have y1:(i:Int)+1<=wH (D.su.cal.leap D.su.year):=by omega
   have o:cg .i64 ((i:Int)+1+1)=((i+1:Nat):Int)+1:=by rw[aF (by omega)];omega
   simp only[uS,RN,B,F,O];refine ayG H ?_;simp only[y1,RN,B];refine aH p.hands.length (fun k (_:Unit)=>⟨[(5, .d (.aW D.su.cs)),(6, .d (sF (A.map En.dv))),(7, .d (chP p)),(14,pI (vW D.su t i)),(15, .d (dI ((i:Int)+1))),(16, .d (.bool (axE D i k))),(17,pI k)],⟨allB D p,[2,1,0],[some ⟨1,[],0,0⟩,some ⟨1,[],0,0⟩]⟩⟩)
    (fun _ _=>True) 0 () (Z _) (by rw[uS];rfl) trivial (fun k _ k1 _=> ?_) (fun _ _=> ?_)
   ·obtain⟨k2,k3,k6⟩:=rng k1 (by have:=g.h2;omega)
    have an:k<D.su.pc.hands.length:=by rw[<-L];exact k1
    have hv:=av k ((i:Int)+1) an (by omega) (by omega);have aD:=W k ((i:Int)+1) an (by omega);have r:axE D i (k+1)=(axE D i k|| !inR (aj6 p k (RP D.su A k) (auq A ((i:Int)+1))) (-D.su.lim) D.su.lim):=by
     rw[axE,ayl,hv];rfl
    cases G:axE D i k
    ·rw[G,bl]at r
     simp only[chP,uS,k2,Q,RN,B,F,O];refine ayG aD ?_;simp only[w1];refine ayG (afC _ _ _) ?_;simp only[k6,RN];exact iQ () k1 (by rw[r];rfl) trivial (by simp[allB]) (by simp) rfl (awq D p)
    ·rw[G,b9]at r
     simp only[chP,uS,k2,Q,k6,RN,B,F,O];exact iQ () k1 (by rw[r];rfl) trivial (by simp[allB]) (by simp) rfl (awq D p)
   ·have az:XM D.su t i=axE D i p.hands.length:=by rw[ac i c,axE,L]
    have m:=acA D.su t i;rw[az]at m;have a5:=aic D.su t i;have w2:cg .i64 (vW D.su t i+1)=vW D.su t i+1:=aF (by omega);cases G:axE D i p.hands.length
    ·rw[G]at m
     simp only[chP,ab,Q,o,RN,B,F,O];exact iQ () c (by rw[m];rfl) trivial (by simp[allB]) (by simp) rfl (awq D p)
    ·rw[G]at m
     simp only[chP,ab,Q,w2,o,RN,B,F,O];exact iQ () c (by rw[m];rfl) trivial (by simp[allB]) (by simp) rfl (awq D p)
  ·have y1:¬(D.su.days.length:Int)+1<=wH (D.su.cal.leap D.su.year):=by omega
   simp only[uS,RN,B,F,O];refine ayG H ?_;simp only[y1,iC,DV.strip,RN,B]
   rfl
 ·rw[atC h,<-q]
  have w:((11:Int)==1)=false:=rfl;have E:((11:Int)==2)=false:=rfl;have P:((11:Int)==3)=false:=rfl;have q7:((11:Int)==7)=false:=rfl;have M:((11:Int)==11)=true:=rfl;have j:awQ D 11=true:=by simp[awQ]
  rw[j];simp only[w,E,P,q7,M,RN,B,F];refine aH A.length (fun i (_:Unit)=>⟨[(6, .d (sF (A.map En.dv))),(18, .d (dI (Sm (A.take i)))),(19,pI i)],⟨allB D p,[2,1,0],[some ⟨1,[],0,0⟩,some ⟨1,[],0,0⟩]⟩⟩)
   (fun _ _=>True) 0 () (Z _) rfl trivial (fun i _ c _=> ?_) (fun _ _=> ?_)
  ·obtain⟨T,V,o⟩:=rng c (by omega)
   obtain⟨x,u⟩:∃x,x=A.getD i default:=⟨_,rfl⟩
   have hx:x.Fit D.su:=by rw[u];exact b _ (getD_mem c)
   have ap:=Dz hx;have s:Sm (A.take (i+1))=if x.kind=4 then Sm (A.take i)+x.n 1 else Sm (A.take i):=by rw[aS c,<-u,wF]
   simp only[T,V,c,getD_map,<-u,dM,U,Q,RN,B,F,O]
   by_cases S:x.kind=4
   ·have z:(x.kind==4)=true:=by simp[S]
    have l2:x.ns.length=2:=by rw[ap,S];rfl
    have l1:1<x.ns.length:=by omega
    have j1:(0:Int)<=1:=by omega
    have a0:=ax2 (A.take i) fun y hy=>b y (a1 hy)
    have a6:(A.take i).length<=24:=by rw[am];omega
    have a8:0<=x.n 1/\x.n 1<=9999:=yO hx.fm (by rw[S];decide);have e1:x.ns.getD 1 default=x.n 1:=rfl;have w1:cg .i64 (Sm (A.take i)+x.n 1)=Sm (A.take i)+x.n 1:=aF (by omega);rw[if_pos S]at s;simp only[z,V,c,getD_map,<-u,dM,U,Q,j1,t1,l1,aI,e1,w1,o,RN,B,F,O];exact bn () c (by rw[s]) trivial
   ·have z:(x.kind==4)=false:=beq_false_of_ne S
    rw[if_neg S]at s;simp only[z,o,RN,B];exact bn () c (by rw[s]) trivial
  ·simp only[ab,Q,ae,iC,DV.strip,RN,B]
   rfl
 ·rw[atZ h]
  have w:((12:Int)==1)=false:=rfl;have E:((12:Int)==2)=false:=rfl;have P:((12:Int)==3)=false:=rfl;have q7:((12:Int)==7)=false:=rfl;have M:((12:Int)==11)=false:=rfl;have X:=ahG D h.ok.len (by have:=h.ok.few;omega);have auh:(iH D).map afo=((iH D).map fun(i:Nat)=>(i:Int)).map ay:=by rw[List.map_map];rfl
  have j:awQ D 12=false:=by simp[awQ]
  rw[auh,IY]at X;rw[j];simp only[w,E,P,q7,M,RN,B,F,O];refine ayG X ?_;(try simp only[RN,B,F,I,J,N,O])
  rfl
def awu (k:Int):Int:=if 1<=k/\k<=12 then(TK k:Int)else -1
def ayf (k:Int):Pure C 134 [dI k] (pI (awu k)) []:=by
 refine ayF awV aK ?_;simp only[awV,aK,RN,B];cases z1:(k==1)
 case true=>
  rw[show k=1 from by simpa using z1]
  (try(try simp only[RN,B]))
  rfl
 (try simp only[RN,B]);cases d:(k==2)
 case true=>
  rw[show k=2 from by simpa using d]
  (try(try simp only[RN,B]))
  rfl
 (try simp only[RN,B]);cases e:(k==3)
 case true=>
  rw[show k=3 from by simpa using e]
  (try(try simp only[RN,B]))
  rfl
 (try simp only[RN,B]);cases i:(k==7)
 case true=>
  rw[show k=7 from by simpa using i]
  (try(try simp only[RN,B]))
  rfl
 (try simp only[RN,B]);cases b:(k==11)
 case true=>
  rw[show k=11 from by simpa using b]
  (try(try simp only[RN,B]))
  rfl
 (try simp only[RN,B]);cases c:(k==12)
 case true=>
  rw[show k=12 from by simpa using c]
  (try(try simp only[RN,B]))
  rfl
 (try simp only[RN,B]);cases f:(k==4)
 case true=>
  rw[show k=4 from by simpa using f]
  (try(try simp only[RN,B]))
  rfl
 (try simp only[RN,B]);cases j:(k==8)
 case true=>
  rw[show k=8 from by simpa using j]
  (try(try simp only[RN,B]))
  rfl
 (try simp only[RN,B]);cases l:(k==9)
 case true=>
  rw[show k=9 from by simpa using l]
  (try(try simp only[RN,B]))
  rfl
 (try simp only[RN,B]);cases a:(k==10)
 case true=>
  rw[show k=10 from by simpa using a]
  (try(try simp only[RN,B]))
  rfl
 (try simp only[RN,B]);cases h:(k==6)
 case true=>
  rw[show k=6 from by simpa using h]
  (try(try simp only[RN,B]))
  rfl
 (try simp only[RN,B]);cases g:(k==5)
 case true=>
  rw[show k=5 from by simpa using g]
  (try(try simp only[RN]))
  rfl
 (try simp only[RN]);simp only[beq_eq_false_iff_ne,ne_eq]at z1 d e i b c f j l a h g;rw[awu,if_neg (by omega)]
def ax1 (h:D.Live)(n:Int):D.ask ⟨4,[n]⟩=if inR n 0 ((D.su.pc.hands.length:Int) - 1)then([UG D.su (dG D.su (bC D (-1))) n],0)else([],2):=by
 obtain⟨t,d,c,a⟩:=h.t;rw[aop d (by decide) rfl];cases k:inR n 0 ((D.su.pc.hands.length:Int) - 1)
 ·simp[Dk.answer,Qn.n,k]
 ·have b:0<=n/\n<=(D.su.pc.hands.length:Int) - 1:=by simpa[inR]using k
  have e:=ahx h.ok.su a.pc b.1 (by rw[a.hh];omega);simp[Dk.answer,Qn.n,k,e,c.pc]
def ax9 (h:D.Live)(a b c:Int):D.ask ⟨5,[a,b,c]⟩=awr D.su (bC D (-1)) a b c:=by
 obtain⟨t,d,g,f⟩:=h.t;rw[aop d (by decide) rfl,<-ayc h d];have e:D.answer t ⟨5,[a,b,c]⟩=uU D t a b c:=by simp[Dk.answer,Qn.n]
 rw[e]
def aya (h:D.Live)(a d:Int):D.ask ⟨6,[a,d]⟩=if inR a 0 ((D.su.pc.hands.length:Int) - 1)&&inR d 1 D.su.days.length then([aj6 (dG D.su (bC D (-1))) a (RP D.su (bC D (-1)) a) (auq (bC D (-1)) d)],0)else([],2):=by
 cases k:inR a 0 ((D.su.pc.hands.length:Int) - 1)&&inR d 1 D.su.days.length
 ·obtain⟨t,b,f,c⟩:=h.t
  rw[aop b (by decide) rfl];simp[Dk.answer,Qn.n,k]
 ·simp only[ai]at k
  have h1:0<=a/\a<=(D.su.pc.hands.length:Int) - 1:=by simpa[inR]using k.1
  have h2:1<=d/\d<=(D.su.days.length:Int):=by simpa[inR]using k.2
  have e:=auw h (k:=a.toNat) (d:=d) (by omega) h2.1 (by omega);rw[show((a.toNat:Nat):Int)=a by omega]at e;rw[e,if_pos rfl]
def ayv (o:Option Int):List Int×Int:=match o with|some d=>([d],0)|none=>([],5)
def axQ (h:D.Live)(n:Int):D.ask ⟨8,[n]⟩=if inR n 1 D.su.days.length then ayv (vK D.EF ((D.su.days.length:Int)+1 - n).toNat n)else([],2):=by
 obtain⟨t,a,d,c⟩:=h.t;rw[aop a (by decide) rfl];cases k:inR n 1 D.su.days.length
 ·simp[Dk.answer,Qn.n,k]
 ·cases b:vK D.EF ((D.su.days.length:Int)+1 - n).toNat n<;>simp[Dk.answer,Qn.n,k,b,ayv]
def ax8 (h:D.Live)(n:Int):D.ask ⟨9,[n]⟩=if inR n 1 D.su.days.length then([(SA D.su.cal D.su.year.toNat (D.su.first+(n - 1))).m,(SA D.su.cal D.su.year.toNat (D.su.first+(n - 1))).d],0)else([],2):=by
 obtain⟨t,a,c,b⟩:=h.t;rw[aop a (by decide) rfl];cases k:inR n 1 D.su.days.length<;>simp[Dk.answer,Qn.n,k]
def ax7 (h:D.Live)(n:Int):D.ask ⟨10,[n]⟩=if inR n 1 400 then(if(D.su.dvd.first n).isSome then([(asa (D.su.dvd.first n)).circle,(asa (D.su.dvd.first n)).turns,(asa (D.su.dvd.first n)).holes],0)else([],5))else([],2):=by
 obtain⟨t,a,c,b⟩:=h.t;have hd:=(Su.facts h.ok.su).2.2.2.1;rw[aop a (by decide) rfl];have e:D.answer t ⟨10,[n]⟩=([(D.su.dvd.cuts n).1.circle,(D.su.dvd.cuts n).1.turns,(D.su.dvd.cuts n).1.holes],(D.su.dvd.cuts n).2):=by simp[Dk.answer,Qn.n]
 rw[e,Dvd.cuts,hd,Dvd.first];cases k:inR n 1 400
 ·simp
 ·cases EH D.su.dvd.eF n 0 D.su.dvd.cir<;>simp[asa]
def aym {q:Qn}(h:(q.ns.length:Int)≠awu q.kind):D.ask q=([],2):=by
 unfold Dk.ask
 by_cases k:inR q.kind 1 12=false
 ·rw[if_pos k]
 ·rw[if_neg k]
  have a:1<=q.kind/\q.kind<=12:=by simpa[inR]using k
  rw[awu,if_pos a]at h;rw[if_pos (fun e=>h (by rw[e]))]
def awG (D:Dk)(q:Qn):Bool:=if q.kind=1\/q.kind=2\/q.kind=3\/q.kind=7\/q.kind=11\/q.kind=12 then(if(q.ns.length:Int)=awu q.kind then awQ D q.kind else true)else if q.kind=5 then decide ((q.ns.length:Int)≠awu q.kind)else true
def ayz (h:D.Live)(q:Qn):Pure C 54 [Y7 D,q.dv] (.d (.tup [.slice (awG D q) ((D.ask q).1.map ay),dI (D.ask q).2])) []:=by
 obtain⟨kind,ns⟩:=q;obtain⟨A,G⟩:∃A,A=bC D (-1):=⟨_,rfl⟩
 have j:=h.fits (-1);have W:=h.goes;rw[<-G]at j W;have aug:A.length<=24:=by have:=NM D (-1);rw[<-G]at this;have:=h.ok.few;omega
 have o:=h.ok.su;have R:=Qw D h.ok.len (by have:=h.ok.few;omega) (-1);rw[IY,<-G]at R;have hQ:=ayf kind;refine ayF awD dY ?_;rw[IY,afa];simp only[awD,dY,Q,RN,B,F,O];refine ayG hQ ?_
 by_cases u:(ns.length:Int)=awu kind
 case neg=>
  have z:((ns.length:Int) !=awu kind)=true:=by simp[u]
  have e:awG D ⟨kind,ns⟩=true:=by simp[awG,u]
  rw[aym u,e];simp only[z,RN,B,F]
  try rfl
 have z:((ns.length:Int) !=awu kind)=false:=by simp[u]
 simp only[z,RN,B,F,I,O];refine ayG R ?_;have H:1<=kind/\kind<=12:=by
  by_cases H:1<=kind/\kind<=12
  ·exact H
  ·rw[awu,if_neg H]at u;omega
 have x:ns.length=TK kind:=by rw[awu,if_pos H]at u;omega
 (try simp only[RN,B,F,J,O]);have j1:(0:Int)<=1:=by omega
 have hP:=UM D.su o A j (by omega);obtain⟨p,l⟩:∃p,p=dG D.su A:=⟨_,rfl⟩
 have Y:p.ok=true:=by rw[l];exact ahv o A j
 have X:p.hands=D.su.pc.hands:=by rw[l];exact as5 _ _
 rw[<-l,gU,dZ]at hP;have g:=Pc.good Y;have aw:=g.h2;have v:=fun n=>am6 D.su (by rw[<-X];omega) n
 have T:=aiX D.su;have ao:=yJ D.su;have r:=fun n=>aks D.su o n
 simp only[gU,<-T]at v r;cases z4:(kind==4)
 case true=>
  obtain rfl:kind=4:=by simpa using z4
  obtain⟨n,rfl⟩:∃n,ns=[n]:=by match ns,x with| [n],_=>exact⟨n,rfl⟩
  have e:awG D ⟨4,[n]⟩=true:=by simp[awG]
  rw[ax1 h,e,<-G,<-l];simp only[j0,t0,aI,RN,B,F,N,O];refine ayG (v n) ?_;cases k1:inR n 0 ((D.su.pc.hands.length:Int) - 1)
  ·(try simp only[RN,B,F])
   rfl
  have y:0<=n/\n<=(D.su.pc.hands.length:Int) - 1:=by simpa[inR]using k1
  have P:=aer D.su o p Y n y.1 (by rw[X];omega);rw[gU,dZ]at P;simp only[j0,t0,RN,B,F,N,O];refine ayG hP ?_
  try simp only[j0,t0,aI,RN,B,F,I,J,N,O]
  refine ayG P ?_;simp only[iC,DV.strip,RN]
  rfl
 simp only[RN,B,F];cases z5:(kind==5)
 case true=>
  obtain rfl:kind=5:=by simpa using z5
  obtain⟨a,b,c,rfl⟩:∃a b c,ns=[a,b,c]:=by match ns,x with| [a,b,c],_=>exact⟨a,b,c,rfl⟩
  have e:awG D ⟨5,[a,b,c]⟩=false:=by rw[awG,if_neg (by simp),if_pos rfl];exact decide_eq_false (fun h=>h u)
  have hN:=ayr D.su o A j (by omega) [a,b,c] rfl;rw[gU]at hN;rw[ax9 h,e,<-G];simp only[RN,B,F,O];refine ayG hN ?_;(try simp only[RN])
  try rfl
 simp only[RN,B,F];cases z6:(kind==6)
 case true=>
  obtain rfl:kind=6:=by simpa using z6
  obtain⟨a,d,rfl⟩:∃a d,ns=[a,d]:=by match ns,x with| [a,d],_=>exact⟨a,d,rfl⟩
  have e:awG D ⟨6,[a,d]⟩=true:=by simp[awG]
  rw[aya h,e,<-G,<-l];simp only[j0,t0,aI,RN,B,F,N,O];refine ayG (v a) ?_;cases k1:inR a 0 ((D.su.pc.hands.length:Int) - 1)
  ·simp only[V,RN,B,F]
   rfl
  simp only[j1,t1,RN,B,F,N,O];refine ayG (r d) ?_;cases E:inR d 1 D.su.days.length
  ·simp only[RN,B,F]
   rfl
  have ha:0<=a/\a<=(D.su.pc.hands.length:Int) - 1:=by simpa[inR]using k1
  have hd:1<=d/\d<=(D.su.days.length:Int):=by simpa[inR]using E
  have hO:=axO D.su o A j W (by omega) a d ha.1 (by omega) (by omega);rw[gU,<-l]at hO;simp only[j0,j1,t0,t1,RN,B,F,N,O];refine ayG hO ?_;simp only[iC,DV.strip,RN]
  rfl
 simp only[RN,B,F];cases z8:(kind==8)
 case true=>
  obtain rfl:kind=8:=by simpa using z8
  obtain⟨n,rfl⟩:∃n,ns=[n]:=by match ns,x with| [n],_=>exact⟨n,rfl⟩
  have e:awG D ⟨8,[n]⟩=true:=by simp[awG]
  rw[axQ h,e];simp only[j0,t0,aI,RN,B,F,N,O];refine ayG (r n) ?_;cases E:inR n 1 D.su.days.length
  ·(try simp only[RN,B,F])
   rfl
  have y:1<=n/\n<=(D.su.days.length:Int):=by simpa[inR]using E
  have w:=am8 D.su o;have S:=fun n y=>akA D.su o n y
  simp only[gU,<-T]at w S;obtain⟨m,ai⟩:∃m:Nat,m=((D.su.days.length:Int)+1 - n).toNat:=⟨_,rfl⟩
  rw[<-ai];simp only[if_true];simp only[j0,t0,RN,B,F,N,O];refine aH m (fun i (_:Unit)=>⟨[(6, .d (.aW D.su.cs)),(9,pI (n+i))],⟨[some ((abM D).map .d),some [pI 8, .d (.slice false [dI n])],some (D.su.cs.map .d)],[2,1,0],[]⟩⟩)
   (fun i _=>vK D.EF m n=vK D.EF (m - i) (n+i)) 0 () (Z _) (by rw[bw,ca];rfl) (by rw[Nat.sub_zero,bw,ca]) (fun i _ g1 f=> ?_) (fun _ f=> ?_)
  ·have y1:n+(i:Int)<=(D.su.days.length:Int):=by omega
   have g6:cg .i64 (n+(i:Int)+1)=n+((i+1:Nat):Int):=by rw[aF (by omega)];omega
   obtain⟨k,H⟩:∃k,m - i=k+1:=⟨m - i - 1,by omega⟩
   have ae:m - (i+1)=k:=by omega
   have am:D.EF (n+i)=D.su.works (D.su.first+(n+i) - 1):=by rw[Dk.EF,alZ (by omega) (by omega)]
   rw[H,vK,am]at f;simp only[uS,RN,B,F,O];refine ayG w ?_;simp only[y1,RN,B,F,O];refine ak rfl rfl (S (n+i) (by omega)) ?_;cases hw:D.su.works (D.su.first+(n+i) - 1)
   ·rw[hw]at f
    simp only[a7,if_false]at f;simp only[g6,RN,B,F];exact iQ () g1 rfl (by rw[ae,f];congr 1;omega) (by simp) (by simp) rfl (by simp[PV.upto])
   ·rw[hw,if_pos rfl]at f
    rw[f];simp only[iC,DV.strip,RN,B,F]
    rfl
  ·have y1:¬n+(m:Int)<=(D.su.days.length:Int):=by omega
   rw[Nat.sub_self,vK]at f;rw[f];simp only[uS,RN,B,F,O];refine ayG w ?_;simp only[y1,RN,B,F]
   rfl
 simp only[RN,B,F];cases z9:(kind==9)
 case true=>
  obtain rfl:kind=9:=by simpa using z9
  obtain⟨n,rfl⟩:∃n,ns=[n]:=by match ns,x with| [n],_=>exact⟨n,rfl⟩
  have e:awG D ⟨9,[n]⟩=true:=by simp[awG]
  rw[ax8 h,e];simp only[j0,t0,aI,RN,B,F,N,O];refine ayG (r n) ?_;cases E:inR n 1 D.su.days.length
  ·(try simp only[RN,B,F])
   rfl
  have y:1<=n/\n<=(D.su.days.length:Int):=by simpa[inR]using E
  obtain⟨h1,h2,h3,h4,h5,h6,h7,h8,h9,an⟩:=Su.facts o;have ap:=(Cal.facts h5).1;have av:D.su.cal.ep+365*D.su.year.toNat<=D.su.first/\D.su.first<=D.su.cal.ep+366*D.su.year.toNat:=D.su.cal.kG D.su.year.toNat;have hF:=abI D.su.cal h5 D.su.year.toNat (by omega);have ab:((D.su.year.toNat:Nat):Int)=D.su.year:=by omega
  have U:D.su.cal.first D.su.year.toNat=D.su.first:=rfl;have aq:D.su.cal.first (D.su.year.toNat+1)=D.su.first+wH (D.su.cal.leap D.su.year):=by rw[Cal.first,U,ab]
  have M:=ayp D.su.cal h5 D.su.year.toNat (by omega) (D.su.first+n - 1) (by omega) (by omega);rw[ab,U,fE]at hF;rw[fE,pY]at M;have w1:cg .i64 (D.su.first+n)=D.su.first+n:=aF (by omega);have w2:cg .i64 (D.su.first+n - 1)=D.su.first+n - 1:=aF (by omega);rw[show D.su.first+(n - 1)=D.su.first+n - 1 by omega];simp only[j0,t0,RN,B,F,I,N,O];refine ayG hF ?_;simp only[w1,w2,RN];refine ayG M ?_;simp only[Lh,RN,B,F,J,O]
  rfl
 simp only[RN,B,F];cases ac:(kind==10)
 case true=>
  obtain rfl:kind=10:=by simpa using ac
  obtain⟨n,rfl⟩:∃n,ns=[n]:=by match ns,x with| [n],_=>exact⟨n,rfl⟩
  have e:awG D ⟨10,[n]⟩=true:=by simp[awG]
  have hd:=(Su.facts o).2.2.2.1;rw[ax7 h,e];simp only[j0,t0,aI,RN,B,F,N,O];refine ayG (axW n) ?_;cases E:inR n 1 400
  ·(try simp only[RN,B,F])
   rfl
  have y:1<=n/\n<=400:=by simpa[inR]using E
  have L:=ahK D.su.dvd n hd y.1;rw[sZ,EI]at L;simp only[j0,t0,RN,B,F,I,N,O];refine ayG L ?_;cases k3:(D.su.dvd.first n).isSome
  ·(try simp only[RN,B,F,J,O])
   rfl
  simp only[aah,RN,B,F,J,O]
  rfl
 simp only[RN,B,F,O];simp only[beq_eq_false_iff_ne,ne_eq]at z4 z5 z6 z8 z9 ac;have s:kind=1\/kind=2\/kind=3\/kind=7\/kind=11\/kind=12:=by omega
 have K:=ayy h kind s;obtain rfl:ns=[]:=by
  refine List.eq_nil_of_length_eq_zero (x.trans ?_)
  rcases s with rfl|rfl|rfl|rfl|rfl|rfl<;>rfl
 have e:awG D ⟨kind,[]⟩=awQ D kind:=by rw[awG,if_pos s,if_pos u]
 have e0:(D.ask ⟨kind,[]⟩).2=0:=by
  rcases s with rfl|rfl|rfl|rfl|rfl|rfl
  ·rw[atf h]
  ·rw[af4 h]
  ·rw[axD h]
  ·obtain⟨t,_,hw⟩:=auF h;rw[hw]
  ·rw[atC h]
  ·rw[atZ h]
 rw[IY]at K;rw[e,e0];refine ayG K ?_;(try simp only[RN])
def awz {d:Nat}{ce cs:PV}(h:oC D d ce cs M)(a:D.Live)(m n:Bool)(q:List Qn)(X:q.length<=1000){KP:DV->Mem->Prop}:
  SC C 49 [.ptr d 0, .d (.agg (rdF m n D)), .d (sF (q.map Qn.dv))] M (fun p M'=>p= .d (.bool true)/\Frm M M') KP:=by
 obtain⟨bs,fz,ar⟩:=M;have S:bs.length∉fz:=fun e=>b8 _ (h.fzb _ e)
 refine ayH awN jr ?_;rw[XY];simp only[awN,jr,aQ,aV,an,RN,B,F];obtain⟨z,b⟩:∃z,z=DV.aW (rdF m n D):=⟨_,rfl⟩
 obtain⟨y,w⟩:∃y,y=some ((rdF m n D).map PV.d):=⟨_,rfl⟩
 rw[XY]at b w;simp only[bo,bu]at w;simp only[<-b,<-w];have o:Frm ⟨bs,fz,ar⟩ ⟨bs++ [y],bs.length::fz,ar⟩:=Frm.new (xf:=[bs.length]) (by simp);refine aH q.length (fun i (M:Mem)=>⟨[(0, .ptr d 0),(2, .d (sF (q.map Qn.dv))),(4, .d z),(7,pI i)],M⟩)
  (fun i M=>Frm ⟨bs,fz,ar⟩ M) 0 ⟨bs++ [y],bs.length::fz,ar⟩ (Z _) rfl o (fun i M l f=> ?_) (fun M f=> ?_)
 ·obtain⟨L,A,N⟩:=rng l (by omega)
  obtain⟨x,k⟩:∃x,x=q.getD i default:=⟨_,rfl⟩
  have E:=aii (h.frm f) a.ok x (KP:=KP);have r:=ayz a x;rw[afa]at E r;rw[IY]at r;simp only[L,A,l,getD_map,<-k,afa,U,Q,RN,B,F,O];refine SC.mono E ?_;rintro p ⟨H,K,ar6⟩ ⟨c,G,R,s,v⟩;simp only[(ae5 G).1,(ae5 G).2];refine ajp R s v fun ex ar7 u=> ?_
  have V:((D.ask x).2 !=(D.ask x).2)=false:=by simp
  have W:=aua a.ok x;have j:=apU (D.ask x).1 (D.ask x).1 (by omega) (by omega);rw[decide_eq_true rfl]at j;simp only[b,A,l,getD_map,<-k,afa,U,Q,RN,B,F,O];refine ayG r ?_;simp only[V,RN,B];refine ayG j ?_;simp only[N,RN,B];exact bn _ l rfl (f.trans u)
 ·obtain⟨I,J,t⟩:=Lc (h.frm f)
  have P:=ave I J D a.ok.formed (by have:=a.ok.few;omega);have g:=axV D a.ok.formed (by have:=a.ok.few;omega);rw[IY]at g;have T:((avc D.es).toList==(avc D.es).toList)=true:=beq_self_eq_true _;simp only[ab,Q,RN,B];refine kS (La t) rfl P rfl ?_;simp only[z1,b,RN,B,F,O];refine ayG g ?_;simp only[oD,RJ,T,RN];exact f
def ayP (s:Su)(hs:s.Small):Pure C 55 [s.dv] (pI (if s.ok then 0 else 2)) []:=by
 have a:=ag6 s hs;rw[gU]at a;refine ayF ayJ aK ?_;rw[gU];simp only[ayJ,aK,RN,B,F,O];refine ayG a ?_;cases s.ok
 ·(try simp only[RN])
  rfl
 ·(try simp only[RN])
  rfl
def ayR (s:Su)(l:List En)(q:List Qn):Pure C 14 [s.dv,sF (l.map En.dv),sF (q.map Qn.dv)] (.d (.bool true)) []:=by
 have hB:=alP s l q;have v:=fun h1 h2=>akz s h1 h2
 refine bU (ayH ar0 jr ?_);rw[gU]at hB v⊢;simp only[ar0,jr,RN,B,F,O];refine ayG hB ?_;cases hb:AP s l q
 ·(try simp only[RN,B])
  exact ayG Ry (by(try simp only[RN,B,F,I,J,N,O]);rfl)
 obtain⟨hs,⟨hl,hn⟩,hq, -⟩:=XP hb;obtain⟨A,ao⟩:=Su.ab1 hs;have K:=ayP s A;have hO:=fun X fz KP hX=>ae0 s A X fz [] KP hX
 have v:=v A (by omega);rw[gU]at K hO;(try simp only[RN,B,F,O]);refine ayG K ?_;(try simp only[RN]);refine SC.jU (SC.mono (hO _ _ (fun _ _=>False) (by intro i hi;simp at hi⊢;omega)) ?_) (fun _ _ h=>h.elim);have z0:((0:Int) !=0)=false:=rfl;rintro p M0 (⟨g,rfl⟩|⟨g,rfl,x1,x2,L⟩)
 ·rw[g]at v
  have z2:((2:Int)==2)=true:=rfl;have m:(if s.ok then(0:Int)else 2)=2:=by rw[g];rfl
  simp only[m,RN];refine ayG v ?_;simp only[z2,RN,B];refine ayG Ry ?_;(try simp only[RN,B,F,I,J,N,O])
  rfl
 rw[g]at v;have m:(if s.ok then(0:Int)else 2)=0:=by rw[g];rfl
 have hk:oC ⟨s,[],[]⟩ 3 (.d (.slice true [])) (.d (.slice true [])) M0:=by rw[L];exact oC.new (bs:=[_]) (fz:=[0]) (by intro i hi;simp at hi⊢;omega) s
 have ayQ:M0.boxes.length=4:=by rw[L];rfl
 obtain⟨W,Y,a0⟩:=M0;simp only at ayQ;have T:W.length∉Y:=fun e=>b8 _ (hk.fzb _ e)
 simp only[qc,qg,m,RN,F];refine ayG v ?_;simp only[z0,aQ,aV,T,RN,B,F,O];have am:(W++ [some ((rdF true true ⟨s,[],[]⟩).map PV.d)])[4]?=some (some ((rdF true true ⟨s,[],[]⟩).map PV.d)):=by rw[a8 (by omega)];simp[ayQ]
 have ac:oC ⟨s,[],[]⟩ 3 (.d (.slice true [])) (.d (.slice true [])) ⟨W++ [some ((rdF true true ⟨s,[],[]⟩).map PV.d)],Y,a0⟩:=hk.frm (Frm.new (xf:=[]) (by simp));have ayT:4∉Y:=by rw[<-ayQ];exact T
 refine aH l.length (fun i (M:Mem)=>⟨[(1, .d (sF (l.map En.dv))),(2, .d (sF (q.map Qn.dv))),(8, .ptr 3 0),(10, .ptr 4 0),(11,pI i)],M⟩)
  (fun i M=>∃ce cs H m,oC (entered ⟨s,[],[]⟩ (l.take i)) 3 ce cs M/\M.boxes[4]?=some (some ((rdF H m (entered ⟨s,[],[]⟩ (l.take i))).map PV.d))/\4∉M.fz) 0 ⟨W++ [some ((rdF true true ⟨s,[],[]⟩).map PV.d)],Y,a0⟩ (Z _) (by rw[XY,ayQ];rfl) ⟨_,_,true,true,ac,am,ayT⟩ (fun i M t hP=> ?_) (fun M hP=> ?_)
 ·obtain⟨ce,cs,H,m,P,j,z⟩:=hP
  obtain⟨b,f,a⟩:=M;simp only at j z;obtain⟨g2,g3,g6⟩:=rng t (by omega);obtain⟨x,r⟩:∃x,x=l.getD i default:=⟨_,rfl⟩
  obtain⟨D,hD⟩:∃D,D=entered ⟨s,[],[]⟩ (l.take i):=⟨_,rfl⟩
  have c:D.Live:=by rw[hD];exact Ld g _
  have n:entered ⟨s,[],[]⟩ (l.take (i+1))=(D.enter x).1:=by rw[hD,r,<-Dv,<-aS t]
  rw[<-hD]at P j;have k:4<b.length:=(aE.1 j).1;have ai:=j;rw[XY]at j;simp only[bo,bu]at j;have ap:=hn x (by rw[r];exact getD_mem t);have hG:=am5 c x (by omega);rw[IY,dM]at hG;have hE:=Zw P c.ok x (KP:=fun _ _=>False);rw[dM]at hE;simp only[g2,g3,t,getD_map,<-r,dM,U,Q,j,k,RN,B,F,O];refine ayG hG ?_;simp only[];refine SC.jU (SC.mono hE ?_) (fun _ _ h=>h.elim);rintro p ⟨b3,f3,a3⟩ ⟨rfl,E,G,R,w⟩;have ayS:=(w.box 4 k (by omega)).trans ai;have o:=(w.box 4 k (by omega)).trans j;simp only at o ayS;have S:4<b3.length:=(aE.1 o).1;have y:4∉f3:=fun e=>z ((w.fz 4 k).1 e)
  have he:(D.enter x).2=xI D x:=by rw[H7 c]
  have zc:((D.enter x).2 !=xI D x)=false:=by rw[he];simp
  by_cases V:xI D x=0
  ·have zz:(xI D x==0)=true:=by simp[V]
   have u:(D.enter x).1=D.with x:=by rw[H7 c];simp[V]
   have hW:=aeu c V;rw[IY (D:=D),dM,IY]at hW;simp only[zc,zz,g3,t,getD_map,<-r,dM,U,Q,o,S,RN,B,F,O];refine ayG hW ?_;simp only[o,y,g6,RN,F,O];refine bn (⟨b3.set 4 (some ((rdF false false (D.with x)).map PV.d)),f3,a3⟩:Mem) t (by rw[XY];rfl) ⟨E,G,false,false,?_,?_,y⟩
   ·rw[n];exact R.KG (by omega)
   ·rw[n,u];exact List.getElem?_set_self S
  ·have zz:(xI D x==0)=false:=beq_false_of_ne V
   have u:(D.enter x).1=D:=by rw[H7 c];simp[V]
   simp only[zc,zz,g6,RN,B];refine bn (⟨b3,f3,a3⟩:Mem) t rfl ⟨E,G,H,m,?_,?_,y⟩
   ·rw[n];exact R
   ·rw[n,u];exact ayS
 ·obtain⟨ce,cs,H,m,P,j,z⟩:=hP
  rw[ae]at P j;have c:=Ld g l;have k:4<M.boxes.length:=(aE.1 j).1;have hA:=awz P c H m q (by omega) (KP:=fun _ _=>False);rw[XY]at hA j;simp only[bo,bu]at j;simp only[ab,Q,j,RN,B,F,O];refine SC.jU (SC.mono hA ?_) (fun _ _ h=>h.elim);rintro p M7 ⟨rfl,an⟩;(try simp only[RN,B]);refine ayG Ry ?_;(try simp only[RN,B,F,I,J,N,O])
  rfl
end Go.Tel
namespace Go.Am
variable{ds:List DV}
def afg {k:IntKind}(h:Has (.int k) ds):∃n,ds=[.int k n]:=by cases h;exact⟨_,rfl⟩
def vZ (h:Has (.struct []) ds):ds=[]:=by cases h;rfl
variable{ts:List Ty}
def Lr {t:Ty}(h:Has (.struct (t::ts)) ds):∃a b,ds=a++b/\Has t a/\Has (.struct ts) b:=by cases h with|cons h c=>exact⟨_,_,rfl,h,c⟩
def rQ {k:IntKind}(h:Has (.struct (.int k::ts)) ds):∃n b,ds= .int k n::b/\Has (.struct ts) b:=by
 obtain⟨a,b,rfl,h1,h2⟩:=Lr h;obtain⟨n,rfl⟩:=afg h1;exact⟨n,b,rfl,h2⟩
def ait {α:Type}{e:Ty}{dv:α->DV}:∀{xs:List DV},(∀x∈xs,∃a,x=dv a)->∃l:List α,xs=l.map dv
 | [],_=>⟨[],rfl⟩
 |x::xs,h=>by
  obtain⟨a,rfl⟩:=h x List.mem_cons_self;obtain⟨l,rfl⟩:=ait (e:=e) fun y b=>h y (List.mem_cons_of_mem _ b)
  exact⟨a::l,rfl⟩
variable{e:Ty}
def aju {α:Type}{dv:α->DV}(hd:∀x,Has e x.cells->Shp e x->∃a,x=dv a){ds:List DV}(h:Has (.slice e) ds):∃l:List α,ds=[.slice false (l.map dv)]:=by
 cases h with
 |slice h c=>
  rename_i xs
  obtain⟨l,rfl⟩:=ait (e:=e) fun x b=>hd x (h x b) (c x b)
  exact⟨l,rfl⟩
def Tq {α:Type}{dv:α->DV}(hd:∀x,Has e x.cells->Shp e x->∃a,x=dv a){ts:List Ty}{ds:List DV}(h:Has (.struct (.slice e::ts)) ds):∃(l:List α) (b:List DV),ds= .slice false (l.map dv)::b/\Has (.struct ts) b:=by
 obtain⟨a,b,rfl,h1,h2⟩:=Lr h;obtain⟨l,rfl⟩:=aju hd h1;exact⟨l,b,rfl,h2⟩
variable{xs:List DV}
def an1 {T:Ty}{Ts:List Ty}(h:Df (T::Ts) xs):∃x l,xs=x::l/\afV T x/\Df Ts l:=by
 cases xs with
 |nil=>exact h.elim
 |cons x l=>exact⟨x,l,rfl,h.1,h.2⟩
def ao2 (h:Df [] xs):xs=[]:=by
 cases xs with
 |nil=>rfl
 |cons x l=>exact h.elim
end Go.Am
namespace Go.Tel
open Go.Am
abbrev adw:Ty:= .struct [.int .i64, .int .i64]
abbrev adS:Ty:= .struct [.int .i64, .struct [.int .i64, .int .i64]]
abbrev X9:Ty:= .struct [.bool, .int .i64, .int .i64, .int .i64]
abbrev Ir:Ty:= .struct [.struct [.slice adS, .slice (.int .i64)], .slice adw, .int .i64, .struct [.int .i64, .slice (.int .i64)], .struct [.int .i64, .slice (.int .i64)], .struct [.int .i64, .int .i64, .int .i64], .slice X9, .int .i64, .int .i64, .int .i64, .int .i64, .int .i64]
abbrev Ad:Ty:= .struct [.int .i64, .slice (.int .i64)]
variable{ds:List DV}
def Tt {fs ts:List Ty}(h:Has (.struct (.struct fs::ts)) ds):∃a b,ds=a++b/\Has (.struct fs) a/\Has (.struct ts) b:=Lr h
def ajt (h:Has .bool ds):∃b,ds=[.bool b]:=by cases h;exact⟨_,rfl⟩
def Yd (x:DV)(h:Has (.int .i64) x.cells)(hs:Shp (.int .i64) x):∃n:Int,x=ay n:=by
 obtain⟨n,h⟩:=afg h;rw[hs.2 rfl]at h;exact⟨n,(List.cons.inj h).1⟩
def ao4 (x:DV)(h:Has adw x.cells)(hs:Shp adw x):∃p:Fr,x=p.dv:=by
 obtain⟨cs,rfl⟩:=hs.1 rfl;obtain⟨a,_,c,h1⟩:=rQ h;obtain⟨b,_,rfl,h2⟩:=rQ h1;obtain rfl:=vZ h2;exact⟨⟨a,b⟩,by rw[Fr.dv];exact congrArg DV.agg c⟩
def ao6 (x:DV)(h:Has adS x.cells)(hs:Shp adS x):∃p:Lk,x=p.dv:=by
 obtain⟨cs,rfl⟩:=hs.1 rfl;obtain⟨a,_,d,h1⟩:=rQ h;obtain⟨_,_,rfl,h2,e⟩:=Tt h1;obtain rfl:=vZ e;obtain⟨b,_,rfl,f⟩:=rQ h2;obtain⟨c,_,rfl,g⟩:=rQ f;obtain rfl:=vZ g;exact⟨⟨a,⟨b,c⟩⟩,by rw[Lk.dv];exact congrArg DV.agg d⟩
def ao5 (x:DV)(h:Has X9 x.cells)(hs:Shp X9 x):∃p:Fs,x=p.dv:=by
 obtain⟨cs,rfl⟩:=hs.1 rfl;obtain⟨_,_,e,f,h1⟩:=Lr h;obtain⟨a,rfl⟩:=ajt f;obtain⟨b,_,rfl,h2⟩:=rQ h1;obtain⟨c,_,rfl,g⟩:=rQ h2;obtain⟨d,_,rfl,i⟩:=rQ g;obtain rfl:=vZ i;exact⟨⟨a,b,c,d⟩,by rw[Fs.dv];exact congrArg DV.agg e⟩
def ao3 (x:DV)(h:Has Ad x.cells)(hs:Shp Ad x):∃p:En,x=p.dv:=by
 obtain⟨cs,rfl⟩:=hs.1 rfl;obtain⟨a,_,c,h1⟩:=rQ h;obtain⟨b,_,rfl,h2⟩:=Tq Yd h1;obtain rfl:=vZ h2;exact⟨⟨a,b⟩,by rw[En.dv];exact congrArg DV.agg c⟩
def auc (x:DV)(h:Has Ad x.cells)(hs:Shp Ad x):∃p:Qn,x=p.dv:=by
 obtain⟨cs,rfl⟩:=hs.1 rfl;obtain⟨a,_,c,h1⟩:=rQ h;obtain⟨b,_,rfl,h2⟩:=Tq Yd h1;obtain rfl:=vZ h2;exact⟨⟨a,b⟩,by rw[Qn.dv];exact congrArg DV.agg c⟩
variable{x:DV}
def aqp (h:afV (.slice Ad) x):∃l:List En,x= .slice false (l.map En.dv):=by
 obtain⟨l,h1⟩:=aju ao3 h.1;rw[h.2.2 rfl]at h1;exact⟨l,(List.cons.inj h1).1⟩
def aud (h:afV (.slice Ad) x):∃l:List Qn,x= .slice false (l.map Qn.dv):=by
 obtain⟨l,h1⟩:=aju auc h.1;rw[h.2.2 rfl]at h1;exact⟨l,(List.cons.inj h1).1⟩
def arn (h:afV Ir x):∃s:Su,x=s.dv:=by
 obtain⟨h,F⟩:=h;obtain⟨cs,rfl⟩:=F.1 rfl;obtain⟨_,_,u,h1,h2⟩:=Tt h;obtain⟨l,_,rfl,v⟩:=Tq ao6 h1;obtain⟨hd,_,rfl,w⟩:=Tq Yd v;obtain rfl:=vZ w;obtain⟨tg,_,rfl,z⟩:=Tq ao4 h2;obtain⟨lim,_,rfl,A⟩:=rQ z;obtain⟨_,_,rfl,B,C⟩:=Tt A;obtain⟨wo,_,rfl,D⟩:=rQ B;obtain⟨ci,_,rfl,a⟩:=Tq Yd D;obtain rfl:=vZ a;obtain⟨_,_,rfl,b,c⟩:=Tt C;obtain⟨ep,_,rfl,d⟩:=rQ b;obtain⟨cy,_,rfl,e⟩:=Tq Yd d;obtain rfl:=vZ e;obtain⟨_,_,rfl,f,g⟩:=Tt c;obtain⟨I,_,rfl,i⟩:=rQ f;obtain⟨H,_,rfl,j⟩:=rQ i;obtain⟨G,_,rfl,k⟩:=rQ j;obtain rfl:=vZ k;obtain⟨fs,_,rfl,m⟩:=Tq ao5 g;obtain⟨y,_,rfl,n⟩:=rQ m;obtain⟨t,_,rfl,o⟩:=rQ n;obtain⟨E,_,rfl,p⟩:=rQ o;obtain⟨K,_,rfl,q⟩:=rQ p;obtain⟨J,_,rfl,r⟩:=rQ q;obtain rfl:=vZ r;exact⟨⟨⟨l,hd⟩,tg,lim,⟨wo,ci⟩,⟨ep,cy⟩,⟨I,H,G⟩,fs,y,t,E,K,J⟩,by rw[gU];exact congrArg DV.agg u⟩
end Go.Tel
namespace Go.Am
section
variable {H:Type}{enc:TypeId×Value->H}{P:Program}{w:World}{base:Nat}{spare:Nat->Bool}{held:Bool}
def QK:∀{ts:List TypeId} {vs:List Value} {ds:List (DataW H)} {ps:List MemPlace},DataW.TrodAll enc P w base spare held ts vs ds ps->ds.length=ts.length
 | [],[],[],_,_=>rfl
 |t::ts,v::vs,d::ds,ps,h=>by
  obtain⟨p,q,_,h2,_⟩:=h;rw[bc,bc,QK h2]
 | [],_::_,_,_,h=>by cases h
 | [],[],_::_,_,h=>by cases h
 | _::_,[],_,_,h=>by cases h
 | _::_,_::_,[],_,h=>by cases h
end
def aqX {α:Type}{l:List α}(h:l.length=1):∃a,l=[a]:=List.length_eq_one_iff.1 h
def aq0 {α:Type}{l:List α}{n:Nat}(h:l.length=n+1):∃a r,l=a::r/\r.length=n:=by
 cases l with
 |nil=>cases h
 |cons a r=>exact⟨a,r,rfl,by simpa using h⟩
def aqY {α:Type}{l:List α}(h:l.length=2):∃a b,l=[a,b]:=by
 obtain⟨a,r,rfl,h1⟩:=aq0 h;obtain⟨b,rfl⟩:=aqX h1;exact⟨a,b,rfl⟩
def auf {α:Type}{l:List α}(h:l.length=3):∃a b c,l=[a,b,c]:=by
 obtain⟨a,r,rfl,h1⟩:=aq0 h;obtain⟨b,c,rfl⟩:=aqY h1;exact⟨a,b,c,rfl⟩
variable{P:Program}{l:List (String×DataW Unit)}
def ajZ {w:World}(a:(l.filter fun x=>x.2.handleName?.isSome)=[])(h:laidMetH P l w):laidMet P l w:=by
 unfold laidMetH at h;rw[a]at h;exact h
def afQ {P:Program}{w:World}{n:String}{d:DataW Unit}:∀{l:List (String×DataW Unit)} {ps:List MemPlace},DataW.LaidVars P w l ps->(n,d)∈l->
  ∃g t cs a p,P.globalNamed n=some g/\(P.globals[g]?).map (·.type)=some t/\w.var? P n=some cs/\DataW.trod (fun _=>()) P w 0 (fun _=>true) false a t cs.toList=some (d,p)
 | [],_,_,h=>by cases h
 |(j,i)::l,ps,h,b=>by
  obtain⟨g,t,cs,a,p,q,h1,h2,c,e,f,_⟩:=h;cases b with
  |head=>exact⟨g,t,cs,a,p,h1,h2,c,e⟩
  |tail _ b=>exact afQ f b
def alp {W:World}{name:String}{k:IntKind}{zs:List Int}{g:Nat}{t e:TypeId}{n:Nat}
  (o:P.globalNamed name=some g)(i:(P.globals[g]?).map (·.type)=some t)(r:P.underlying t=some (.array n e))(m:P.underlying e=some (.int k))(b:P.cellsOf e=1)(c:P.cellsOf t=n)
  (h:laidMet P l W)(q:(name,Lib.tabData k zs)∈l):Lib.TabIs P W name k zs:=by
 obtain⟨v,s,_⟩:=h;obtain⟨u,w,cs,j,p,d,f,a,hd⟩:=afQ s q;obtain rfl:=Option.some.inj (o.symm.trans d);obtain rfl:=Option.some.inj (i.symm.trans f);unfold Lib.TabIs;rw[a,<-Lib.cells_of_tab r m b c hd]
end Go.Am
namespace Go.Tel
open Go.Am
def apE {W:World}(h:C.G W):∀b,C.low b->b<W.heap.size/\∀c T fz,W.heap[b]?=some (.cells c T fz)->∀(i:Nat) (n:Int),c[i]?≠some (.int .i64 n):=by
 intro b j;have e:Go.Proofs.Tryz.prog.globalNamed "internal/strconv.uint64pow10" =some b:=j;have a:W.var? Go.Proofs.Tryz.prog "internal/strconv.uint64pow10" =some (Go.Lib.pow10Tab.map fun z=>Value.int .u64 z).toArray:=h;unfold World.var? at a;rw[e]at a;simp only[Option.bind_some]at a;cases f:W.heap[b]? with
 |none=>rw[f]at a;cases a
 |some o=>
  rw[f]at a;refine⟨dw f,fun c T fz k i n d=> ?_⟩;cases k;simp only[Option.some.injEq]at a;subst a;rw[List.getElem?_toArray,bt]at d;cases g:Go.Lib.pow10Tab[i]? with
  |none=>rw[g]at d;cases d
  |some z=>rw[g]at d;cases d
end Go.Tel
namespace Go.Proofs.YtbefoehadfnkbaaGreatDoor
open Go.ChangeShapes Go.WideShapes Go.RowKit Go.Am
def gG {a b:Bool}(c:a=true)(hb:b=true):(a&&b)=true:=by rw[c,hb];rfl
def own:ownKnob Tryz.prog.godebug=none:=by kernel_rfl
def laidOut:laidOutB Tryz.prog=true:=by kernel_rfl
def I4:List (String×DataW Unit):=Rows.journeymanWheelsRow.laid
def laid_met (os:Os)(args:Array Value):laidMet Tryz.prog I4 ((World.laidAll Tryz.prog os I4).forCall (fun _ _=>0) ⟨#[],args,[]⟩).memory:=
 laidMet_laidAll args (by kernel_rfl) (by kernel_rfl)
def ag7 (os:Os)(args:Array Value):laidMetH Tryz.prog I4 ((World.laidAll Tryz.prog os I4).forCall (fun _ _=>0) ⟨#[],args,[]⟩).memory:=
 laidMetH_of_parts (laid_met os args) (by kernel_rfl)
def alo:(Rows.laid_internal_strconv_uint64pow10:DataW Unit)=Lib.tabData .u64 Lib.pow10Tab:=rfl
def anM:("internal/strconv.uint64pow10",(Rows.laid_internal_strconv_uint64pow10:DataW Unit))∈I4:=List.Mem.tail _ (List.Mem.tail _ (List.Mem.head _))
def apY {W:World}(h:laidMetH Tryz.prog I4 W):Go.Tel.C.G W:=
 alp (P:=Tryz.prog) (g:=1) (t:=390) (e:=372) (n:=20) (by kernel_rfl) (by kernel_rfl) (by kernel_rfl) (by kernel_rfl) (by kernel_rfl) (by kernel_rfl) (ajZ (by kernel_rfl) h) (alo▸anM)
end Go.Proofs.YtbefoehadfnkbaaGreatDoor
