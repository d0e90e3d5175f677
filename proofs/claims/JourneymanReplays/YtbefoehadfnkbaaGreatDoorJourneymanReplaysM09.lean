/-
  Part 9 of a law of desks.
  Conditions: none.
-/
import Derived.Test.YtbefoehadfnkbaaGreatDoorJourneymanReplaysM07
import Derived.Test.YtbefoehadfnkbaaGreatDoorJourneymanReplaysM08
import Derived.Test.YtbefoehadfnkbaaGreatDoorRows
import Derived.Lay
import Derived.Handed
import Derived.LaidHandle
import Derived.Lib.LaidTab
set_option linter.all false
set_option maxRecDepth 10000
set_option maxHeartbeats 4000000
open Nat renaming reduceBEq->B,reduceAdd->F,reduceSub->I,reduceEqDiff->J,reduceLT->N,reduceLeDiff->O,zero_le->ab,le_trans->aw,le_refl->aM,lt_irrefl->bj,add_sub_cancel->cg,min_eq_right->cr,min_eq_left->cz,not_lt_zero->cA,mul_le_mul->cE,sub_self->cK
open List renaming length_map->Q,length_append->V,mem_cons->ai,map_append->am,length_take->ap,take_of_length_le->aq,getElem?_eq_some_iff->av,drop_length->ax,take_length->az,getD_eq_getElem?_getD->aD,getElem?_append_left->aE,map_cons->aL,length_cons->aR,length_filter_le->a8,getElem?_set_ne->bc,eq_nil_of_length_eq_zero->bd,map_nil->be,append_nil->bh,length_set->bi,mem_of_mem_take->bk,length_nil->bl,mem_singleton->bo,getElem?_set_self->bq,length_singleton->bt,drop_append_of_le_length->bv,nil_append->bw,getElem?_concat_length->bz,mem_map->bA,drop_zero->bE,getElem?_append_right->bL,length->bN,getElem?_eq_getElem->bO,length_drop->bR,drop_eq_nil_of_le->bX,range->b0,range_succ->b2,getElem?_eq_none->b4,mem_cons_of_mem->b6,mem_of_mem_drop->b7,mem_range->b8,flatMap_append->b9,filter_append->cb,mem_cons_self->cf,append_assoc->ck,flatMap_cons->cl,getElem?_map->cm,all_eq_true->cp,filter_cons->cq,any_append->ct,filter_nil->cv,mem_filter->cw,find?_nil->cD,all_cons->cF,all_nil->cI,map_map->cJ
open Int renaming toNat_natCast->U,lt_irrefl->ae,eq_ofNat_of_zero_le->bp,natCast_zero->cn,add_zero->cH,le_refl->cL
open Bool renaming false_and->Z,and_eq_true->an,true_and->bu,false_eq_true->bB,and_false->b5,false_or->ca,not_false->cC,true_or->cG
open ByteArray renaming size_append->a7
open Option renaming getD_some->bS,isSome_none->ch,isSome_some->cj,map_none->cB
open Go.IntKind renaming wrap->cM
namespace Go.Tel
open Go.Am
def adf (b:Bool):(aS b).length=12:=by cases b<;>rfl
def akH (b:Bool):dM (aS b) 0=o7 b:=by cases b<;>rfl
def akU (c:Cal)(hc:c.ok=true)(Y:Nat)(Z:Y<=4000)(day:Int)(h1:c.first Y<=day)(h2:day<c.first (Y+1)):Pure C 143 [c.dv,dI day] (.d (.tup [(EM c Y day).dv, .bool true])) []:=by
 obtain⟨he,hl,w⟩:=Cal.facts hc;have hb:=c.jy Y;have G:=c.jy (Y+1);have H:0<=day/\day<=2000000:=by omega
 have s:c.first 0=c.ep:=rfl;have g:=fun y:Int=>adq c y (by omega) (fun n a=>by have:=w n a;omega)
 have f:=fun y:Int=>Lr c y (by omega) (fun n a=>by have:=w n a;omega)
 have r:=fun b=>lW b
 rw[dY]at g f;have V:cM .i64 (day - c.ep)=day - c.first 0:=by rw[s,aB (by omega)]
 have X:¬day - c.first 0<0:=by have:=rZ c (ab Y);omega
 refine bF (aC OM Gi ?_);rw[dY];simp only[OM,Gi,V,X,RN,B,F,O];refine aG (Y+1) (fun i (_:Unit)=>⟨[(2, .d (.aV [dI c.ep,sF (c.cy.map au)])),(4, .ptr 1 0),(6,pI (day - c.first i)),(7,pI i)],⟨[some [pI c.ep, .d (sF (c.cy.map au))],some [pI 0,pI 0,pI 0]],[0],[]⟩⟩)
  (fun i _=>i<=Y) 0 () (ab _) rfl (ab _) (fun i _ A _=> ?_) (fun _ h=>absurd h (by omega))
 have D:(i:Int)<=4000:=by omega
 have E:cM .i64 ((i:Int)+1)=((i+1:Nat):Int):=by rw[aB (by omega)];omega
 have K:c.first (i+1)=c.first i+o7 (c.leap i):=rfl;have L:=rZ c (show 0<=i by omega);have j:=r (c.leap i);simp only[D,RN,B,F,O];refine ak (g i) ?_
 by_cases M:i<Y
 ·have hm:=rZ c (show i+1<=Y by omega)
  have u:day - c.first i>=o7 (c.leap i):=by omega
  have W:cM .i64 (day - c.first i - o7 (c.leap i))=day - c.first (i+1):=by rw[aB (by split at j<;>omega)];omega
  simp only[u,W,E,RN,B,F];exact dF () A rfl (by omega) (by simp) (by simp) rfl rfl
 obtain rfl:i=Y:=by omega
 have u:¬day - c.first i>=o7 (c.leap i):=by omega
 simp only[u,RN,B,F];refine aG 12 (fun m (left:Int)=>⟨[(2, .d (.aV [dI c.ep,sF (c.cy.map au)])),(4, .ptr 1 0),(6,pI left),(7,pI i),(9, .d (dI ((m:Int)+1)))],⟨[some [pI c.ep, .d (sF (c.cy.map au))],some [pI 0,pI 0,pI 0]],[0],[]⟩⟩)
  (fun m left=>OC (aS (c.leap i)) 0 (day - c.first i)=OC ((aS (c.leap i)).drop m) m left/\0<=left/\left<=400/\left<dM ((aS (c.leap i)).drop m) 0) 0 (day - c.first i) (ab _) rfl ⟨rfl,by omega,by split at j<;>omega,by rw[bE,akH];omega⟩ (fun m left Q q=> ?_) (fun left q=> ?_)
 ·obtain⟨e,T,U,p⟩:=q
  have R:(m:Int)+1<=12:=by omega
  have P:=adf (c.leap i);have S:cM .i64 ((m:Int)+1+1)=((m+1:Nat):Int)+1:=by rw[aB (by omega)];omega
  have v:=Nw (m:=(m:Int)+1) (by omega) (c.leap i);rw[show((m:Int)+1 - 1).toNat=m by omega]at v;have k:=drop_cons (l:=aS (c.leap i)) (show m<(aS (c.leap i)).length by omega);rw[k,dM,DY]at p;rw[k,OC]at e;have z:0<=(aS (c.leap i)).getD m default/\(aS (c.leap i)).getD m default<=31:=by
   have:∀x∈aS (c.leap i),0<=x/\x<=31:=by cases c.leap i<;>decide
   exact this _ (getD_mem (by omega))
  simp only[R,RN,B,F,O];refine ak (f i) ?_;(try simp only[RN,B,F,I,J,N,O]);refine ak v ?_
  by_cases o:left<(aS (c.leap i)).getD m default
  ·rw[if_pos o]at e
   have t:cM .i64 (left+1)=left+1:=aB (by omega);simp only[o,t,RN,B,F,J,O];simp[EM,e,oh,datum]
  ·rw[if_neg o]at e
   have t:cM .i64 (left - (aS (c.leap i)).getD m default)=left - (aS (c.leap i)).getD m default:=aB (by omega);simp only[o,t,S,RN,B,F];exact dF (left - (aS (c.leap i)).getD m default) Q rfl ⟨by rw[e];rfl,by omega,by omega,by omega⟩ (by simp) (by simp) rfl rfl
 ·obtain⟨e,T,U,p⟩:=q
  rw[bX (by rw[adf];exact aM _)]at p;simp only[dM]at p;omega
def RI (d y:Int):∀(l:List Int) (a:Int),lF (l++ [y]) d a=if y<=d then y else lF l d a
 | [],_=>rfl
 |x::l,a=>by rw[List.cons_append,lF,RI d y l,lF]
def Y3 {d b:Int}:∀{l:List Int} {a:Int},(∀y∈l,y<b)->a<b->lF l d a<b
 | [],_,_,h=>h
 |x::l,a,h1,h2=>by
  rw[lF];exact Y3 (fun y c=>h1 y (by simp[c])) (by split;exact h1 x (by simp);exact h2)
def Y2 {d:Int}:∀{l:List Int} {a:Int},a<=d->lF l d a<=d
 | [],_,h=>h
 |x::l,a,h=>by rw[lF];exact Y2 (by split<;>omega)
def alp {s:Su}{l:List En}(hl:∀x∈l,x.Fit s):∀d∈rJ l,1<=d/\d<=366:=by
 intro d hd;simp only[rJ,bA,cw,beq_iff_eq]at hd;obtain⟨x,⟨a,k⟩,rfl⟩:=hd;have h:=(hl x a).df;rw[En.Hq k]at h;obtain⟨b,c⟩:=h;have:=mP s;omega
def ZJ (s:Su)(hs:s.ok=true)(l:List En)(hl:∀x∈l,x.Fit s)(K:lg s l=true)(S:l.length<=400)(h day:Int)(t:0<=h)(h1:h.toNat<s.pc.hands.length)(hd:1<=day/\day<=366):Pure C 140 [s.dv,sF (l.map En.dv),dI h,dI day] (.d (dI (RZ (bV s l) h (pK s l h) (zT l day)))) []:=by
 have y:=(Su.facts hs).2.1;have E:=wG s hs l hl (by omega);have G:=afs s l h t (by omega) (fun x p=>wK (hl x p)) (by omega);have w:=Cm hs l hl;have A:=XT hs l hl K t (by rw[y];exact h1);have R:=JV day (rJ l) 0 (alp hl) (by omega);have c:=Y2 (d:=day) (l:=rJ l) (a:=0) (by omega);have H:=ZP (bV s l) w h t (by rw[pz];exact h1) (pK s l h) A (zT l day) (by unfold zT;omega);have M:cM .i64 (day - lF (rJ l) day 0)=zT l day:=by rw[aB (by omega)];rfl
 rw[dR,dD]at E;rw[dR,bJ]at G;rw[dD,bJ]at H;refine ah SL qH ?_;rw[dR];simp only[SL,qH,RN,B,F];refine aG l.length (fun i (_:Unit)=>⟨[(1, .d (sF (l.map En.dv))),(2,pI h),(3,pI day),(4, .d (.aV s.cs)),(9, .d (dI (lF (rJ (l.take i)) day 0))),(10,pI i)],⟨[some (s.cs.map .d)],[0],[]⟩⟩)
  (fun i _=>True) 0 () (ab _) rfl trivial (fun i _ f _=> ?_) (fun _ _=> ?_)
 ·obtain⟨P,q,r⟩:=rng f (by omega)
  obtain⟨x,b⟩:∃x,x=l.getD i default:=⟨_,rfl⟩
  have p:x.Fit s:=by rw[b];exact hl _ (getD_mem f)
  have m:=wK p;have v:nJ s (l.take i) x=true:=by rw[b];exact af9 K f
  have g:rJ (l.take (i+1))=if x.kind=5 then rJ (l.take i)++ [x.n 0]else rJ (l.take i):=by rw[aP f,<-b,wI]
  simp only[P,q,f,getD_map,<-b,dA,U,Q,RN,B,F,O]
  by_cases j:x.kind=5
  ·have z:(x.kind==5)=true:=by simp[j]
   have l1:x.ns.length=1:=by rw[m,j];rfl
   have L:0<x.ns.length:=by omega
   have D:x.n 0=x.ns.getD 0 default:=rfl;have k:=p.df;rw[En.Hq j]at k;obtain⟨T,V⟩:=k;have o:=Y3 (d:=day) (aha j v).1 (show(0:Int)<x.n 0 by omega);rw[if_pos j]at g;have e:=RI day (x.n 0) (rJ (l.take i)) 0;rw[<-g,D]at e;rw[D]at o;simp only[z,q,f,getD_map,<-b,dA,U,Q,j0,t0,L,aH,RN,B,F,O]
   by_cases c:x.ns.getD 0 default<=day
   ·rw[if_pos c]at e
    have u:x.ns.getD 0 default>lF (rJ (l.take i)) day 0:=o;simp only[c,q,f,getD_map,<-b,dA,U,Q,j0,t0,L,aH,Vj,if_pos u,r,RN,B,F,O];exact aW () f (by rw[e]) trivial
   ·rw[if_neg c]at e
    simp only[c,r,RN,B];exact aW () f (by rw[e]) trivial
  ·have z:(x.kind==5)=false:=beq_false_of_ne j
   rw[if_neg j]at g;simp only[z,r,RN,B];exact aW () f (by rw[g]) trivial
 ·simp only[lS,ae,Q,az,M,RN,B,F,O]
  refine ak E ?_;(try simp only[RN,B,F,I,J,N,O]);refine ak G ?_
  try simp only[M,RN,B,F,I,J,N,O]
  refine ak H ?_;(try simp only[])
def wU (s:Su)(l:List En)(a b c:Int):List Int×Int:=
 if inR a 0 ((s.pc.hands.length:Int) - 1)&&(aK b&&aK c&&decide (b<=c))&& !decide (c - b>10)then
  if(bn l a).2 then
   match Uz (bV s l) a (bn l a).1 (iU (bV s l) b (c - b+1).toNat (bV s l).links.length 0)with
   |some L=>(xQ L,0)
   |none=>([],5)
  else([],7)
 else([],2)
variable{D:Dk}
def ahK {t:Sp}(h:D.Live)(q:D.state (-1)=some t)(a b c:Int):(if(nK D t a b c).2=0 then nK D t a b c else([],(nK D t a b c).2))=wU D.su (aN D (-1)) a b c:=by
 obtain⟨r,d,j,n⟩:=h.t;rw[q]at d;cases d;have m:=h.fits (-1);unfold nK wU;cases h1:inR a 0 ((D.su.pc.hands.length:Int) - 1)
 ·simp
 cases h2:aK b
 ·simp
 cases l:aK c
 ·simp
 by_cases e:b<=c
 case neg=>
  have:inR (c - b) 0 10=false:=by simp[inR];omega
  simp[this,e]
 by_cases f:c - b>10
 ·have:inR (c - b) 0 10=false:=by simp[inR];omega
  simp[this,f]
 have k:inR (c - b) 0 10=true:=Ja (by omega);rw[j.op a];cases p:(bn (aN D (-1)) a).2
 ·simp[k,e,f]
 have g:=zk _ a m p;have i:(bV D.su (aN D (-1))).ok=true:=by rw[<-j.pc];exact n.pc
 have o:=N8 i h2 l e (by omega) (by rw[pz];exact h1) g;rw[j.pc,if_pos rfl];simp only[o,k,e,f,Bool.and_self,decide_true,decide_false,cC,if_true];cases Uz (bV D.su (aN D (-1))) a (bn (aN D (-1)) a).1 (iU (bV D.su (aN D (-1))) b (c - b+1).toNat (bV D.su (aN D (-1))).links.length 0)with
 |some L=>rfl
 |none=>rfl
def chP (p:Pc):DV:= .aV [sF (p.links.map Lk.dv),sF (p.hands.map au)]
def chB (p:Pc)(f:Fr):List (Option (List PV)):=[some [.d (sF (p.links.map Lk.dv)), .d (sF (p.hands.map au))],some [pI f.n,pI f.d]]
variable{i:Nat}
def Vl {α:Type}[Inhabited α]{S:α->Bool}{l:List α}(h:i<l.length):(l.drop i).find? S=if S (l.getD i default)then some (l.getD i default)else(l.drop (i+1)).find? S:=by
 rw[drop_cons h,List.find?_cons];cases S (l.getD i default)<;>rfl
def ab8 (p:Pc)(w:p.ok=true)(a e hand:Int)(hl:aK a=true)(hm:aK e=true)(an:a<=e)(hw:e - a<=10)(h0:0<=hand)(h1:hand.toNat<p.hands.length)(f:Fr)(hf:f.ok=true):
  Pure C 230 [p.dv,dI a,dI e,dI hand,f.dv] (.d (.tup [.slice true (((Uz p hand f (iU p a (e - a+1).toNat p.links.length 0)).getD []).map Chg.dv), .bool (Uz p hand f (iU p a (e - a+1).toNat p.links.length 0)).isSome])) []:=by
 have g:=Pc.good w;have az:4<=a/\a<=60:=by simpa[aK,inR]using hl
 have aoC:4<=e/\e<=60:=by simpa[aK,inR]using hm
 have X:=ah3 p w a e hl hm an hw;obtain⟨L,V⟩:∃L,L=iU p a (e - a+1).toNat p.links.length 0:=⟨_,rfl⟩
 rw[<-V]at X⊢;have l:∀c∈L,(0<=c.link/\c.link.toNat<p.links.length)/\c.pr.ok=true:=by
  intro c K;rw[V]at K;have:=MO K;refine⟨by omega,?_⟩;simp[Pr.ok,aK,inR];omega
 have aD:L.length<=605:=by
  rw[V];refine aw (MN _ _ _ _ _) (aw (cE g.l2 (cE ?_ ?_)) (by decide:5*(11*11)<=605))<;>omega
 clear V;have E:=ZL p p w w rfl hand h0 h1 f hf;have T:=fun(q:Pc) (hq:q.links.length=p.links.length) (c:Chg) (K:c∈L)=>Ji q c (by have:=g.l2;omega) (l c K).1.1 (by rw[hq];exact(l c K).1.2)
 have Y:=fun(q:Pc) (hq:q.ok=true) (ao:q.links.length=p.links.length)=>ZL p q w hq ao hand h0 h1 f hf
 simp only[dD,bJ,jD]at X E T Y;refine ah FQ XE ?_;rw[dD,bJ];simp only[FQ,XE,RN,B,F,O];refine ak E ?_;rw[Uz];cases k0:kD p p hand f
 case true=>
  (try simp only[RN,B,F])
  rfl
 (try simp only[RN,B,F,O]);refine ak X ?_;(try simp only[]);refine aG L.length (fun i (_:Unit)=>⟨[(3,pI hand),(5, .d (chP p)),(9, .d (.aV [dI f.n,dI f.d])),(12, .d (sF (L.map Chg.dv))),(13,pI i)],⟨chB p f,[1,0],[]⟩⟩)
  (fun i _=>(L.find? fun c=>kD p (p.changed c) hand f)=(L.drop i).find? fun c=>kD p (p.changed c) hand f) 0 () (ab _) rfl rfl (fun i _ m b=> ?_) (fun _ b=> ?_)
 ·obtain⟨W,A,R⟩:=rng m (by omega)
  obtain⟨c,h⟩:∃c,c=L.getD i default:=⟨_,rfl⟩
  have r:c∈L:=by rw[h];exact getD_mem m
  rw[Vl m,<-h]at b;have u:=T p rfl c r;have ap:=Y (p.changed c) (rX w (l c r).2) (zZ p c);simp only[chP,W,A,m,getD_map,<-h,jD,U,Q,RN,B,F,O];refine ak u ?_
  try(try simp only[RN,B,F,I,J,N,O])
  refine ak ap ?_;cases t:kD p (p.changed c) hand f
  ·rw[t]at b
   simp only[R,RN,B];exact aW () m rfl b
  ·rw[t,if_pos rfl]at b
   rw[b];simp only[A,m,getD_map,<-h,jD,U,Q,eX,DV.strip,RN,B,F,O];simp[jD]
 rw[ax,cD]at b;rw[b];obtain⟨S,G⟩:∃S:Chg->Chg->Bool,S=fun c k=>kD p ((p.changed c).changed k) hand f:=⟨_,rfl⟩
 have ac:=fun c k=>congrFun (congrFun G c) k
 simp only[<-G];simp only[ae,Q,RN,B];refine aG L.length (fun i (_:Unit)=>⟨[(3,pI hand),(5, .d (chP p)),(9, .d (.aV [dI f.n,dI f.d])),(12, .d (sF (L.map Chg.dv))),(14,pI i)],⟨chB p f,[1,0],[]⟩⟩)
  (fun i _=>Fz S L=Fz S (L.drop i)) 0 () (ab _) rfl rfl (fun i _ m b=> ?_) (fun _ b=> ?_)
 ·obtain⟨W,A,R⟩:=rng m (by omega)
  obtain⟨c,h⟩:∃c,c=L.getD i default:=⟨_,rfl⟩
  have r:c∈L:=by rw[h];exact getD_mem m
  rw[drop_cons m,<-h,Fz]at b;have u:=T p rfl c r;have am:=rX w (l c r).2;have M:=T (p.changed c) (zZ p c);have z:=fun k (hk:k∈L)=>Y ((p.changed c).changed k) (rX am (l k hk).2) (by rw[zZ,zZ])
  simp only[<-ac]at z;obtain⟨x,av⟩:∃x,x=p.changed c:=⟨_,rfl⟩
  simp only[<-av]at u M z;simp only[chP,W,A,m,getD_map,<-h,jD,U,Q,RN,B,F,I,O];refine ak u ?_;simp only[chB,R,RN,B,F,J,O];obtain⟨Fn,D⟩:∃Fn:Chg->Bool,Fn=fun k=>decide (k.link>c.link)&&S c k:=⟨_,rfl⟩
  rw[<-D]at b;refine aG L.length (fun k (_:Unit)=>⟨[(3,pI hand),(5, .d (chP p)),(9, .d (.aV [dI f.n,dI f.d])),(12, .d (sF (L.map Chg.dv))),(14,pI i),(15, .d (chP x)),(16,pI k)],⟨chB p f++ [some [.d (sF (x.links.map Lk.dv)), .d (sF (x.hands.map au))]],[2,1,0],[]⟩⟩)
   (fun k _=>(L.drop (i+1)).find? Fn=(L.drop k).find? Fn) (i+1) () m rfl rfl (fun k _ t j=> ?_) (fun _ j=> ?_)
  ·obtain⟨k2,k3,k6⟩:=rng t (by omega)
   obtain⟨y,s⟩:∃y,y=L.getD k default:=⟨_,rfl⟩
   have P:y∈L:=by rw[s];exact getD_mem t
   rw[Vl t,<-s]at j;have ai:=M y P;have aq:=z y P;have o:Fn y=(decide (y.link>c.link)&&S c y):=by rw[D]
   simp only[chP,A,m,k2,k3,t,getD_map,<-h,<-s,jD,U,Q,RN,B,F,O]
   by_cases v:y.link>c.link
   case neg=>
    rw[decide_eq_false v,Z]at o;rw[o]at j;simp only[v,k6,RN,B];exact aW () t rfl j
   rw[decide_eq_true v,bu]at o;simp only[v,k3,t,getD_map,<-s,jD,U,Q,RN,B,F,O];refine ak ai ?_
   try(try simp only[RN,B,F,I,J,N,O])
   refine ak aq ?_;cases H:S c y
   ·rw[o,H]at j
    simp only[k6,RN,B];exact aW () t rfl j
   ·rw[o,H,if_pos rfl]at j
    rw[j]at b;rw[b];simp only[A,m,k3,t,getD_map,<-h,<-s,jD,U,Q,RN,B,F,O];simp[jD,ay,dL,datum,vF,DV.strip,DV.cells,je]
    rfl
  ·rw[ax,cD]at j
   rw[j]at b;simp only[ae,Q,R,RN,B];exact fF 2 0 () m rfl b (by simp) (by simp) rfl rfl
 ·rw[ax,Fz]at b
  rw[b];simp only[ae,Q,RN,B]
  rfl
def akY (s:Su)(hs:s.ok=true)(l:List En)(hl:∀x∈l,x.Fit s)(ao:l.length<=400)(ns:List Int)(hn:ns.length=3):Pure C 138 [s.dv,sF (l.map En.dv),sF (ns.map au)] (.d (.tup [sF ((wU s l (ns.getD 0 default) (ns.getD 1 default) (ns.getD 2 default)).1.map au),dI (wU s l (ns.getD 0 default) (ns.getD 1 default) (ns.getD 2 default)).2])) []:=by
 obtain⟨a,b,c,rfl⟩:∃a b c,ns=[a,b,c]:=by
  match ns,hn with
  | [a,b,c],_=>exact⟨a,b,c,rfl⟩
 have hg:=Pc.good (Su.facts hs).1;have S:=Xz s (by have:=hg.h2;omega) a;have hR:=aia b c;have G:=wG s hs l hl (by omega);have T:=Ls l a (fun x hx=>wK (hl x hx)) (by omega);have t:=Cm hs l hl;rw[dR]at S G;rw[dD]at G;rw[bJ]at T;have z:(0:Int)<=1:=by omega
 have A:(0:Int)<=2:=by omega
 simp only[show[a,b,c].getD 0 default=a from rfl,show[a,b,c].getD 1 default=b from rfl,show[a,b,c].getD 2 default=c from rfl];refine bF (aC Ph Iu ?_);rw[dR];simp only[Ph,Iu,j0,t0,aH,RN,B,F,N,O];refine ak S ?_;cases g:inR a 0 ((s.pc.hands.length:Int) - 1)
 ·have e:wU s l a b c=([],2):=by simp[wU,g]
  rw[e];(try simp only[RN,B,N])
  rfl
 simp only[z,A,t1,t2,RN,B,F,N,O];refine ak hR ?_;cases K:aK b&&aK c&&decide (b<=c)
 ·have e:wU s l a b c=([],2):=by simp only[wU,K,b5,Z,bB,if_false]
  rw[e];(try simp only[RN,B,N])
  rfl
 simp only[an,decide_eq_true_eq]at K;obtain⟨⟨k,m⟩,f⟩:=K;have ac:4<=b/\b<=60:=by simpa[aK,inR]using k
 have ai:4<=c/\c<=60:=by simpa[aK,inR]using m
 have w1:cM .i64 (c - b)=c - b:=aB (by omega);simp only[z,A,t1,t2,w1,RN,B,F,N,O]
 by_cases j:c - b>10
 ·have e:wU s l a b c=([],2):=by simp[wU,j]
  rw[e];simp only[j,RN,B,N]
  rfl
 have ha:0<=a/\a<=(s.pc.hands.length:Int) - 1:=by simpa[inR]using g
 simp only[j,j0,t0,RN,B,F,N,O];refine ak T ?_;simp only[RN,B,F,J,O];cases D:(bn l a).2
 ·have e:wU s l a b c=([],7):=by simp[wU,g,k,m,f,j,D]
  rw[e];(try simp only[RN,B,F,N])
  rfl
 have q:=zk l a hl D;have E:=ab8 (bV s l) t b c a k m f (by omega) ha.1 (by rw[pz];omega) (bn l a).1 q;rw[dD,bJ]at E;have P:Uz (bV s l) a (bn l a).1 (iU (bV s l) b (c - b+1).toNat (bV s l).links.length 0)=none->wU s l a b c=([],5):=fun h=>by simp[wU,g,k,m,f,j,D,h]
 have M:∀L,Uz (bV s l) a (bn l a).1 (iU (bV s l) b (c - b+1).toNat (bV s l).links.length 0)=some L->wU s l a b c=(xQ L,0):=fun L h=>by simp[wU,g,k,m,f,j,D,h]
 obtain⟨R,o⟩:∃R,R=Uz (bV s l) a (bn l a).1 (iU (bV s l) b (c - b+1).toNat (bV s l).links.length 0):=⟨_,rfl⟩
 rw[<-o]at E P M;have H:∀L,R=some L->L.length<=2:=by
  intro L h;have UJ:=N8 t k m f (by omega) (show inR a 0 ((bV s l).hands.length - 1)=true by rw[pz];exact g) q;rw[<-o,h]at UJ;have:=EK (bV s l) b c a (bn l a).1;rw[UJ]at this;exact this
 simp only[j0,z,A,t0,t1,t2,RN,B,F,N,O];refine ak G ?_
 try simp only[j0,z,A,t0,t1,t2,aH,RN,B,F,I,J,N,O]
 refine ak E ?_;cases R with
 |none=>
  rw[P rfl];simp only[ch,Option.getD_none,RN,B,N]
  rfl
 |some L=>
  have Y:=H L rfl;rw[M L rfl];simp only[cj,bS,RN,B,N];refine aG L.length (fun i (v:Nat)=>⟨[(10, .d (.slice true (L.map Chg.dv))),(12, .tsl 1 v 0),(13,pI i)],
    ⟨[some (s.cs.map .d),some [pI ((bn l a).1.n),pI ((bn l a).1.d)]],[1,0],[some ⟨1,[],0,0⟩,some ⟨1,(xQ (L.take i)).map au,v,0⟩]⟩⟩)
   (fun _ _=>True) 0 0 (ab _) (by rw[lS];rfl) trivial (fun i v w _=> ?_) (fun v _=> ?_)
  ·obtain⟨V,W,X⟩:=rng w (by omega)
   have u:xQ (L.take (i+1))=xQ (L.take i)++ [(L.getD i default).link,(L.getD i default).pr.a,(L.getD i default).pr.b]:=by rw[aP w,xQ,b9];rfl
   have r:=MR (L.take i);rw[ap]at r;obtain⟨c,p⟩:∃c,c=L.getD i default:=⟨_,rfl⟩
   rw[<-p]at u;simp only[V,W,w,getD_map,<-p,jD,U,Q,ER,X,RN,B,F,J,N,O];refine⟨by rintro y (rfl|rfl|rfl)<;>rfl,by simp,by omega,?_⟩;refine dF (v+1) w ?_ trivial (by simp) (by simp) rfl (by simp[lS,PV.upto]);rw[u,am];rfl
  ·simp only[ae,Q,bI,dP,RN,B,F]
   rw[az];simp[datum,cu,dW,Mem.row]
def aib (s:Su)(hs:s.ok=true)(x:En)(hx:x.formed=true)(y:x.kind≠6):Pure C 132 [s.dv,x.dv] (.d (.bool (Jp s x))) []:=by
 have z:=En.BF hx;have a:x.ns.length=gG x.kind:=by
  simp only[En.formed,an,decide_eq_true_eq]at hx;exact hx.1.2
 have A:0<gG x.kind:=by unfold gG;split;omega;split<;>omega
 obtain⟨o,_⟩:=Su.facts hs;have v:=(Pc.xJ o).2;have m:=Xz s (by omega);have q:=ZH s hs;have e:0<x.ns.length:=by omega
 have w:(0:Int)<=1:=by omega
 have t:(0:Int)<=2:=by omega
 refine ah KQ aI ?_;rw[dR,dA];rw[dR]at m q;simp only[KQ,aI,RN,B,F,O];unfold Jp
 by_cases g:x.kind=1
 ·have z1:(x.kind==1)=true:=by simp[g]
  rw[if_pos g];simp only[z1,j0,t0,e,Q,getD_map,aH,RN,B,F,O];refine ak (zJ _) ?_;(try simp only[RN,B,F,I,J,N,O])
  rfl
 have z1:(x.kind==1)=false:=beq_false_of_ne g;rw[if_neg g]
 by_cases b:x.kind=2
 ·have f:(x.kind==2)=true:=by simp[b]
  have l1:1<x.ns.length:=by rw[a,b];decide
  have l2:2<x.ns.length:=by rw[a,b];decide
  rw[if_pos b];have k:x.n 0=x.ns.getD 0 default:=rfl;have u:x.n 1=x.ns.getD 1 default:=rfl;have l:x.n 2=x.ns.getD 2 default:=rfl;rw[k,u,l];simp only[z1,f,j0,t0,e,Q,getD_map,aH,RN,B,F,O]
  by_cases r:x.ns.getD 0 default<(s.pc.links.length:Int)
  ·have j:decide (x.ns.getD 0 default<(s.pc.links.length:Int))=true:=decide_eq_true r
   rw[j];simp only[w,t1,l1,Q,getD_map,aH,RN,B,O];refine ak (zJ _) ?_;cases h1:aK (x.ns.getD 1 default)
   ·simp only[Z,RN,B]
   ·simp only[t,t2,l2,Q,getD_map,aH,RN,B,O]
    refine ak (zJ _) ?_;(try simp only[])
  ·have j:decide (x.ns.getD 0 default<(s.pc.links.length:Int))=false:=decide_eq_false r
   rw[j];simp only[Z,RN,B]
 have f:(x.kind==2)=false:=beq_false_of_ne b;rw[if_neg b]
 by_cases c:x.kind=3
 ·have i:(x.kind==3)=true:=by simp[c]
  have l2:2<x.ns.length:=by rw[a,c];decide
  rw[if_pos c];have k:x.n 0=x.ns.getD 0 default:=rfl;have l:x.n 2=x.ns.getD 2 default:=rfl;rw[k,l];simp only[z1,f,i,j0,t0,e,Q,getD_map,aH,RN,B,F,O];refine ak (m _) ?_;cases h1:inR (x.ns.getD 0 default) 0 ((s.pc.hands.length:Int) - 1)
  ·simp only[Z,RN,B]
  ·simp only[t,t2,l2,Q,getD_map,aH,RN,B,O]
 have i:(x.kind==3)=false:=beq_false_of_ne c;rw[if_neg c]
 by_cases h:x.kind=4
 ·have p:(x.kind==4)=true:=by simp[h]
  rw[if_pos h];simp only[z1,f,i,p,j0,t0,e,Q,getD_map,aH,RN,B,F,O];refine ak (m _) ?_;(try simp only[RN,B,F,I,J,N,O])
  rfl
 ·have p:(x.kind==4)=false:=beq_false_of_ne h
  rw[if_neg h];simp only[z1,f,i,p,j0,t0,e,Q,getD_map,aH,RN,B,F,O];refine ak (q _) ?_;(try simp only[RN,B,F,I,J,N,O])
  rfl
def amy {C:Ctx}{base:Nat}{M:Mem}{K:PV->Mem->Prop}{KP:DV->Mem->Prop}{a b c d:Int}:ay C base (.AO false [1,1]) [.d (.agg [dI a,dI b]), .d (.agg [dI c,dI d])] M K KP=K (.d (.bool ((a==c)&&(b==d)))) M:=by
 simp[ay,fC]
def aah {p:Pc}{c:Chg}:(nP p c).length<=p.hands.length:=by
 rw[nP,Q];exact aw (a8 _ _) (by simp)
def adu (s:Su)(hs:s.ok=true)(l:List En)(hl:∀x∈l,x.Fit s)(am:l.length<=400)(x:En)(hx:x.Fit s):Pure C 133 [s.dv,sF (l.map En.dv),x.dv] (.d (.bool (nJ s l x))) []:=by
 obtain⟨aq,aw,L,ac,_⟩:=Su.facts hs;have aqs:0<=s.lim/\s.lim<=10800:=by simpa[inR]using L
 have hP:=wG s hs l hl (by omega);have hS:=ZK s hs l hl am;have hO:=fun h=>Ls l h (fun y hy=>wK (hl y hy)) (by omega)
 have j:=Cm hs l hl;obtain⟨N,M⟩:=yH s l;have q:=wK hx;have hm:0<gG x.kind:=by unfold gG;split;omega;split<;>omega
 have m:0<x.ns.length:=by omega
 have V:x.n 0=x.ns.getD 0 default:=rfl;obtain⟨p,hp⟩:∃p,p=bV s l:=⟨_,rfl⟩
 rw[<-hp]at hP j N M;refine ah O7 tC ?_;simp only[bJ]at hO;rw[dR]at hP hS;rw[dD]at hP;rw[dR,dA];simp only[O7,tC,RN,B,F,O];refine ak hP ?_;(try simp only[RN,B,F,J,O]);unfold nJ;rw[<-hp]
 by_cases R:x.kind=1
 ·have z1:(x.kind==1)=true:=by simp[R]
  have ao:1<=x.n 0:=by
   have:=hx.te R;simp only[aK,inR,an,decide_eq_true_eq]at this;omega
  have w:=VU s.dvd (x.n 0) ac ao;rw[rY,JE]at w;rw[if_pos R];simp only[z1,j0,t0,m,Q,getD_map,aH,RN,B,F,I,O];refine ak w ?_;cases hc:(s.dvd.first (x.n 0)).isSome
  ·simp only[Z,RN,B,F,J,O]
  ·(try simp only[RN,B,F,J,O])
   refine ak hS ?_;have e8:decide (((jV s l).length:Int)<8)=decide ((jV s l).length<8):=decide_eq_decide.2 (by omega);simp only[Q,e8,RN]
 have z1:(x.kind==1)=false:=beq_false_of_ne R;rw[if_neg R]
 by_cases u:x.kind=2
 ·have S:(x.kind==2)=true:=by simp[u]
  obtain⟨⟨r,W⟩,f3⟩:=JI hx u;rw[V]at r W;have f:(x.ns.getD 0 default).toNat<p.links.length:=by rw[N];exact W
  have A:=ah9 x (by rw[q,u];decide);rw[dA]at A;have G:=adr (jV s l) (kC p x) x.chg.pr (by have:=Ju s l;omega);rw[kH,kH]at G;have E:=afr p x.chg j f3 r f;rw[dD,jD]at E;have YN:=aah (p:=p) (c:=x.chg);have aqF:=(Pc.xJ j).2;rw[if_pos u];simp only[z1,S,j0,t0,m,Q,getD_map,aH,RN,B,F,I,O];refine ak A ?_;simp only[j0,t0,m,Q,getD_map,aH,r,f,pW,amy,RN,B,F,J,O]
  by_cases K:kC p x=x.chg.pr
  ·have z:(((p.links.getD (x.ns.getD 0 default).toNat default).pr.a==x.n 1)&&((p.links.getD (x.ns.getD 0 default).toNat default).pr.b==x.n 2))=true:=by
    have h1:(kC p x).a=x.n 1:=by rw[K];rfl
    have h2:(kC p x).b=x.n 2:=by rw[K];rfl
    have h1:(p.links.getD (x.ns.getD 0 default).toNat default).pr.a=x.n 1:=h1;have h2:(p.links.getD (x.ns.getD 0 default).toNat default).pr.b=x.n 2:=h2;rw[h1,h2];simp
   simp only[z,RN,B,F];simp[K]
  have z:(((p.links.getD (x.ns.getD 0 default).toNat default).pr.a==x.n 1)&&((p.links.getD (x.ns.getD 0 default).toNat default).pr.b==x.n 2))=false:=by
   rw[Bool.eq_false_iff];intro h;simp only[an,beq_iff_eq]at h;apply K
   show(⟨(p.links.getD (x.ns.getD 0 default).toNat default).pr.a,(p.links.getD (x.ns.getD 0 default).toNat default).pr.b⟩:Pr)=⟨x.n 1,x.n 2⟩
   rw[h.1,h.2]
  have d1:decide (kC p x=x.chg.pr)=false:=decide_eq_false K;rw[d1];simp only[z,RN,B,F,O];refine ak hS ?_;simp only[j0,t0,m,Q,getD_map,aH,r,f,pW,RN,F,O];refine ak G ?_;cases av:(mZ (jV s l) (kC p x) x.chg.pr).2
  ·simp only[Z,RN,B]
  (try simp only[RN,B,F,O]);refine ak E ?_;simp only[];refine aG (nP p x.chg).length (fun i (_:Unit)=>⟨[(1, .d (sF (l.map En.dv))),(14, .d (sF ((nP p x.chg).map au))),(15,pI i)],
    ⟨[some (s.cs.map .d),some [pI x.kind, .d (sF (x.ns.map au))],some [.d (sF (p.links.map Lk.dv)), .d (sF (p.hands.map au))],some [pI (x.ns.getD 0 default),pI (x.n 1),pI (x.n 2)]],[3,2,1,0],[]⟩⟩)
   (fun i _=>((nP p x.chg).all fun h=>(bn l h).2)=(((nP p x.chg).drop i).all fun h=>(bn l h).2)) 0 () (ab _) rfl rfl (fun i _ g e=> ?_) (fun _ e=> ?_)
  ·obtain⟨g2,X,Y⟩:=rng g (by omega)
   rw[drop_cons g,cF]at e;simp only[g2,X,g,getD_map,aH,U,Q,RN,B,F,O];refine ak (hO _) ?_;cases hb:(bn l ((nP p x.chg).getD i default)).2
   ·rw[hb,Z]at e
    simp only[e,RN,B,F,J,O]
   ·rw[hb,bu]at e
    simp only[Y,RN,B,F,J,O];exact fF 4 0 () g rfl e (by simp) (by simp) rfl rfl
  ·rw[ax,cI]at e
   simp only[ae,Q,e,RN,B,F]
 have S:(x.kind==2)=false:=beq_false_of_ne u;rw[if_neg u]
 by_cases k3:x.kind=3
 ·have z3:(x.kind==3)=true:=by simp[k3]
  rw[if_pos k3];simp only[z1,S,z3,j0,t0,m,Q,getD_map,aH,RN,B,F,O];refine ak (hO _) ?_;(try simp only[RN,F,J,O])
  rfl
 have z3:(x.kind==3)=false:=beq_false_of_ne k3;rw[if_neg k3]
 by_cases v:x.kind=4
 ·have z4:(x.kind==4)=true:=by simp[v]
  obtain⟨r,W⟩:=hx.hd (.inr v);have f:(x.n 0).toNat<p.hands.length:=by rw[M];exact W
  have l1:1<x.ns.length:=by rw[q,v];decide
  have j1:(0:Int)<=1:=by omega
  have e1:x.n 1=x.ns.getD 1 default:=rfl;have D:=Ti s hs p j (x.n 0) r f;rw[dR,dD]at D;have w1:cM .i64 (0 - s.lim)= -s.lim:=by rw[aB (by omega)];omega
  rw[if_pos v];simp only[z1,S,z3,z4,j0,t0,m,Q,getD_map,aH,RN,B,F,O];refine ak (hO _) ?_;rw[<-V];cases ho:(bn l (x.n 0)).2
  ·simp only[Z,RN,B,F,J,O]
  have ai:=zk l (x.n 0) hl ho;have H:=ZP p j (x.n 0) r f (bn l (x.n 0)).1 ai 100 (by omega);rw[dD,bJ]at H;simp only[j0,t0,m,Q,getD_map,aH,<-V,RN,B,F,J,O];refine ak H ?_;simp only[w1];refine ak (ZU _ _ _) ?_;cases hc:inR (RZ p (x.n 0) (bn l (x.n 0)).1 100) (-s.lim) s.lim
  ·simp only[Z,RN,B]
  simp only[j0,t0,m,j1,t1,l1,Q,getD_map,aH,<-V,RN,B,F,O];refine ak D ?_;(try simp only[RN])
  rfl
 ·have z4:(x.kind==4)=false:=beq_false_of_ne v
  have k5:x.kind=5:=by have:=hx.k;omega
  have hd:=hx.df;rw[En.Hq k5]at hd;obtain⟨d1,d2⟩:=hd;have ap:=mP s;have H:=ZO s hs (x.n 0) (by omega);rw[dR]at H;rw[if_neg v];simp only[z1,S,z3,z4,RN,B,F];refine aG l.length (fun i (_:Unit)=>⟨[(1, .d (sF (l.map En.dv))),(3, .d (.aV s.cs)),(7, .d (sF (x.ns.map au))),(22,pI i)],
    ⟨[some (s.cs.map .d),some [pI x.kind, .d (sF (x.ns.map au))],some [.d (sF (p.links.map Lk.dv)), .d (sF (p.hands.map au))]],[2,1,0],[]⟩⟩)
   (fun i _=>(l.any fun y=>y.kind==5&&decide (y.n 0>=x.n 0))=((l.drop i).any fun y=>y.kind==5&&decide (y.n 0>=x.n 0))) 0 () (ab _) rfl rfl (fun i _ g e=> ?_) (fun _ e=> ?_)
  ·obtain⟨g2,X,Y⟩:=rng g (by omega)
   have hy:=hl _ (getD_mem g);have P:=wK hy;rw[drop_cons g,List.any_cons]at e;obtain⟨y,t⟩:∃y,y=l.getD i default:=⟨_,rfl⟩
   rw[<-t]at e hy P;simp only[g2,X,g,getD_map,<-t,dA,U,Q,RN,B,F,O]
   by_cases y5:y.kind=5
   ·have T:(y.kind==5)=true:=by simp[y5]
    have ly:0<y.ns.length:=by rw[P,y5];decide
    rw[T,bu]at e;simp only[T,X,g,getD_map,<-t,dA,aH,U,Q,j0,t0,m,ly,RN,B,F,O]
    by_cases o:y.ns.getD 0 default>=x.ns.getD 0 default
    ·have dg:decide (y.n 0>=x.n 0)=true:=decide_eq_true o
     rw[dg,cG]at e;simp only[o,e,Z,RN,B,F]
    ·have dg:decide (y.n 0>=x.n 0)=false:=decide_eq_false o
     rw[dg,ca]at e;simp only[o,Y,RN,B,F];exact aW () g rfl e
   ·have T:(y.kind==5)=false:=beq_false_of_ne y5
    rw[T,Z,ca]at e;simp only[T,Y,RN,B,F];exact aW () g rfl e
  ·rw[ax,List.any_nil]at e
   simp only[ae,Q,j0,t0,m,getD_map,aH,lS,RN,B,F,O];refine ak H ?_;simp only[e,RN]
def aie (s:Su)(hs:s.ok=true)(l:List En)(hl:∀x∈l,x.Fit s)(o:l.length<=400):Pure C 131 [s.dv,sF (l.map En.dv)] (.d (.bool (lg s l))) []:=by
 have k:=fun i (h:i<l.length)=>adu s hs (l.take i) (aao hl i) (by rw[ap];omega) (l.getD i default) (hl _ (getD_mem h))
 refine ah KX aI ?_;simp only[dR,dA (x:=l.getD _ default)]at k;rw[dR];simp only[KX,aI,RN,B,F];refine aG l.length (fun i (_:Unit)=>⟨[(1, .d (sF (l.map En.dv))),(2, .d (.aV s.cs)),(5,pI i)],⟨[some (s.cs.map .d)],[0],[]⟩⟩)
  (fun i _=>∀j,j<i->nJ s (l.take j) (l.getD j default)=true) 0 () (ab _) rfl (fun j h=>by omega) (fun i _ b a=> ?_) (fun _ a=> ?_)
 ·obtain⟨c,f,m⟩:=rng b (by omega)
  have p:(0:Int)<=(i:Int):=by omega
  have q:(i:Int)<=((l.map En.dv).length:Int):=by rw[Q];omega
  simp only[c,f,b,getD_map,dA (x:=l.getD i default),U,Q,lS,RN,B,F,O];rw[vX (aa9 l) p q,<-List.map_take,U]
  try simp only[c,f,b,getD_map,dA (x:=l.getD i default),U,Q,RN,B,F,I,J,N,O]
  refine ak (k i b) ?_;cases g:nJ s (l.take i) (l.getD i default)
  ·have:lg s l=false:=by
    rw[<-Bool.not_eq_true,lg,cp];intro h;have:=h i (b8.2 b);rw[g]at this;cases this
   simp only[this,RN,B]
  ·simp only[m,RN,B]
   refine aW () b rfl fun j r=> ?_
   by_cases e:j=i
   ·rw[e];exact g
   ·exact a j (by omega)
 ·have:lg s l=true:=by
   rw[lg,cp];exact fun i n=>a i (b8.1 n)
  simp only[ae,Q,this,RN,B]
def P6 (D:Dk):List DV:=[sF (D.su.pc.links.map Lk.dv),sF (D.su.pc.hands.map au),sF (D.su.tg.map Fr.dv),dI D.su.lim,dI D.su.dvd.eu,sF (D.su.dvd.cir.map au),dI D.su.cal.ep,sF (D.su.cal.cy.map au),dI D.su.jB.n,dI D.su.jB.d,dI D.su.jB.ad,sF (D.su.fs.map Fs.dv),dI D.su.year,dI D.su.gB,dI D.su.hours,dI D.su.lN,dI D.su.pct,sF (D.es.map En.dv),sF (D.st.map .bool)]
def Ny (D:Dk):DV:= .agg (P6 D)
def Yt:P6 D=[sF (D.su.pc.links.map Lk.dv),sF (D.su.pc.hands.map au),sF (D.su.tg.map Fr.dv),dI D.su.lim,dI D.su.dvd.eu,sF (D.su.dvd.cir.map au),dI D.su.cal.ep,sF (D.su.cal.cy.map au),dI D.su.jB.n,dI D.su.jB.d,dI D.su.jB.ad,sF (D.su.fs.map Fs.dv),dI D.su.year,dI D.su.gB,dI D.su.hours,dI D.su.lN,dI D.su.pct,sF (D.es.map En.dv),sF (D.st.map .bool)]:=by rw[P6]
def vw:Ny D= .agg [sF (D.su.pc.links.map Lk.dv),sF (D.su.pc.hands.map au),sF (D.su.tg.map Fr.dv),dI D.su.lim,dI D.su.dvd.eu,sF (D.su.dvd.cir.map au),dI D.su.cal.ep,sF (D.su.cal.cy.map au),dI D.su.jB.n,dI D.su.jB.d,dI D.su.jB.ad,sF (D.su.fs.map Fs.dv),dI D.su.year,dI D.su.gB,dI D.su.hours,dI D.su.lN,dI D.su.pct,sF (D.es.map En.dv),sF (D.st.map .bool)]:=by rw[Ny,P6]
def Zc (n:Nat):DV:=dI n
def agR {n:Nat}:Zc n=dI n:=rfl
def zO (D:Dk)(n:Nat):List Nat:=(b0 n).filter (nR D)
def UR (D:Dk)(n:Nat):zO D (n+1)=zO D n++if nR D n then[n]else[]:=by
 rw[zO,b2,cb,<-zO,cq,cv]
def L6 (D:Dk)(n:Nat):(zO D n).length<=n:=aw (a8 _ _) (by simp)
def acE (h:i∈fZ D):i<D.es.length:=b8.1 (cw.1 h).1
def I9 {l:List Bool}(h:i<l.length):(l.map DV.bool).getD i default= .bool (l.getD i default):=by rw[getD_map h]
def VP (D:Dk)(hl:D.es.length=D.st.length)(m:D.es.length<=1000):Pure C 37 [Ny D] (.d (sF ((fZ D).map Zc))) []:=by
 refine bF (aC zB aJ ?_);rw[vw];simp only[zB,aJ,RN,B,N];refine aG D.es.length (fun i (v:Nat)=>⟨[(1, .d (.aV (P6 D))),(3, .tsl 1 v 0),(4,pI i)],⟨[some ((P6 D).map .d)],[0],[some ⟨1,[],0,0⟩,some ⟨1,(zO D i).map Zc,v,0⟩]⟩⟩)
  (fun i _=>True) 0 0 (ab _) rfl trivial (fun i v b _=> ?_) (fun v _=> ?_)
 ·obtain⟨l,f,g⟩:=rng b (by omega)
  have h:i<D.st.length:=by omega
  have a:=UR D i;have j:=L6 D i;simp only[Yt,l,f,b,getD_map,dA,U,Q,RN,B,F,O]
  by_cases k:(D.es.getD i default).kind=6
  ·have z:((D.es.getD i default).kind !=6)=false:=by rw[k];rfl
   have c:nR D i=false:=by rw[nR,k];rfl
   rw[c,if_neg (by simp),bh]at a;simp only[z,g,RN,B];rw[<-a];exact dF v b rfl trivial (by simp) (by simp) rfl rfl
  have z:((D.es.getD i default).kind !=6)=true:=bne_iff_ne.2 k;cases e:D.st.getD i default
  ·have c:nR D i=true:=by rw[nR,e,decide_eq_true k];rfl
   rw[c,if_pos rfl]at a;simp only[z,f,h,I9,e,kG,U,Q,eX,DV.strip,fits_int,forall_eq,g,RN,B,F,J,N,O];refine⟨by simp,by omega,?_⟩;refine dF (v+1) b ?_ trivial (by simp) (by simp) rfl rfl;rw[a,am]<;>rfl
  ·have c:nR D i=false:=by rw[nR,e,Bool.not_true,b5]
   rw[c,if_neg (by simp),bh]at a;simp only[z,f,h,I9,e,kG,U,Q,g,RN,B,F,O];rw[<-a];exact dF v b rfl trivial (by simp) (by simp) rfl rfl
 ·have:zO D D.es.length=fZ D:=rfl
  simp only[Yt,ae,Q,RN,B,F,O];rw[this];simp[datum,Mem.row]
def mF (D:Dk)(w:Int)(n:Nat):List En:=(((fZ D).take n).filter fun(i:Nat)=>decide ((i:Int)≠w)).map fun i=>D.es.getD i default
def P7 (D:Dk)(w:Int){n:Nat}(h:n<(fZ D).length):mF D w (n+1)=mF D w n++if(((fZ D).getD n default:Nat):Int)≠w then[D.es.getD ((fZ D).getD n default) default]else[]:=by
 rw[mF,aP h,cb,am,<-mF,cq,cv]
 congr 1
 by_cases e:(((fZ D).getD n default:Nat):Int)≠w
 ·rw[if_pos (decide_eq_true e),if_pos e];rfl
 ·rw[if_neg (by rw[decide_eq_true_iff];exact e),if_neg e];rfl
def Uf (D:Dk)(w:Int)(n:Nat):(mF D w n).length<=n:=by
 rw[mF,Q];exact aw (a8 _ _) (by rw[ap];omega)
def DX (D:Dk)(w:Int):(aN D w).length<=D.es.length:=by
 rw[aN,Q];exact aw (a8 _ _) (aw (a8 _ _) (by simp))
def F9 (D:Dk)(hl:D.es.length=D.st.length)(f:D.es.length<=1000)(w:Int):Pure C 22 [Ny D,dI w] (.d (sF ((aN D w).map En.dv))) []:=by
 have k:=VP D hl f;have o:(fZ D).length<=D.es.length:=L6 D _;refine bF (aC xk aI ?_);rw[vw]at k⊢;simp only[xk,aI,RN,B,F,N,O];refine ak k ?_;simp only[];refine aG (fZ D).length (fun i (v:Nat)=>⟨[(1,pI w),(2, .d (.aV (P6 D))),(5, .tsl 1 v 0),(6, .d (sF ((fZ D).map Zc))),(7,pI i)],⟨[some ((P6 D).map .d)],[0],[some ⟨2,[],0,0⟩,some ⟨2,(mF D w i).map En.dv,v,0⟩]⟩⟩)
  (fun i _=>True) 0 0 (ab _) rfl trivial (fun i v a _=> ?_) (fun v _=> ?_)
 ·obtain⟨m,h,j⟩:=rng a (by omega)
  have c:=P7 D w a;have l:=Uf D w i;have b:=acE (getD_mem a);obtain⟨n,g⟩:∃n,n=(fZ D).getD i default:=⟨_,rfl⟩
  rw[<-g]at c b;have p:(0:Int)<=(n:Int):=by omega
  simp only[m,h,a,getD_map,agR,<-g,U,Q,RN,B,O]
  by_cases e:(n:Int)=w
  ·have z:((n:Int) !=w)=false:=by simp[e]
   rw[if_neg (by simp[e]),bh]at c;simp only[z,j,RN,B];rw[<-c];exact dF v a rfl trivial (by simp) (by simp) rfl rfl
  ·have z:((n:Int) !=w)=true:=by simp[e]
   rw[if_pos e]at c;simp only[z,Yt,h,a,getD_map,agR,<-g,p,b,dA,U,Q,eX,DV.strip,RN,B,F,J,N,O];refine⟨by rintro y rfl;rfl,by simp,by omega,?_⟩;rw[j];refine dF (v+1) a ?_ trivial (by simp) (by simp) rfl rfl;rw[c,am]<;>rfl
 ·have:mF D w (fZ D).length=aN D w:=by rw[mF,az];rfl
  simp only[ae,Q,RN,B];rw[this];simp[datum,Mem.row]
def akV (h:D.Live)(x:En)(o:x.ns.length<=1000000):Pure C 50 [Ny D,x.dv] (pI (Ai D x)) []:=by
 have m:=h.ok.su;have K:=h.ok.len;have A:=h.ok.few;have t:=VO x o;have c:=fun w=>F9 D K (by omega) w
 have b:∀w,∀y∈aN D w,y.Fit D.su:=fun w y G=>h.fit y (jw G).1 (jw G).2
 have j:=fun w=>DX D w
 have s:=fun w=>aie D.su m (aN D w) (b w) (by have:=j w;omega)
 refine ah BO aI ?_;rw[vw]at c⊢;rw[dA]at t⊢;rw[dR]at s;simp only[BO,aI,RN,B,F,O];refine ak t ?_;unfold Ai;cases d:x.formed
 ·(try simp only[RN,B,F])
  rfl
 have E:x.ns.length=gG x.kind:=by
  simp only[En.formed,an,decide_eq_true_eq]at d;exact d.1.2
 have L:0<gG x.kind:=by unfold gG;split;omega;split<;>omega
 have R:0<x.ns.length:=by omega
 have H:x.n 0=x.ns.getD 0 default:=rfl;have g:=uh d (i:=0) L;rw[if_neg (by simp)];simp only[Q,RN,B,F,O]
 by_cases e:D.es.length>=24
 ·have z:((D.es.length:Int)>=24):=by omega
  rw[if_pos e];simp only[z,RN,B,F]
 have z:¬((D.es.length:Int)>=24):=by omega
 rw[if_neg e];simp only[z,RN,B,F,O]
 by_cases k6:x.kind=6
 ·have p:(x.kind==6)=true:=by simp[k6]
  rw[if_pos k6];simp only[p,j0,t0,R,Q,getD_map,aH,RN,B,F,O];rw[<-H]
  by_cases a:x.n 0>=(D.es.length:Int)
  ·rw[if_pos (.inl a)]
   simp only[a,RN,B,F]
  have l:(x.n 0).toNat<D.es.length:=by omega
  have f:(x.n 0).toNat<D.st.length:=by omega
  simp only[a,g.1,l,getD_map,dA,Q,RN,B,F,O]
  by_cases k:(D.es.getD (x.n 0).toNat default).kind=6
  ·have r:((D.es.getD (x.n 0).toNat default).kind==6)=true:=beq_iff_eq.2 k
   rw[if_pos (.inr k)];simp only[r,RN,B,F]
  have r:((D.es.getD (x.n 0).toNat default).kind==6)=false:=beq_false_of_ne k;rw[if_neg (by rintro(q|q)<;>first|exact q.elim|exact a q|exact k q)];simp only[r,g.1,f,I9,kG,Q,RN,B,F,O];cases T:D.st.getD (x.n 0).toNat default
  ·(try simp only[RN,B,F,O])
   refine ak (c _) ?_;(try simp only[RN,B,F,I,J,N,O]);refine ak (s _) ?_;cases S:lg D.su (aN D (x.n 0))
   ·(try simp only[RN,F])
    rfl
   ·(try simp only[RN,F])
    rfl
  ·(try simp only[RN,B,F])
   rfl
 have p:(x.kind==6)=false:=beq_false_of_ne k6;have v:=aib D.su m x d k6;rw[dR,dA]at v;rw[if_neg k6];simp only[p,RN,B,F,O];refine ak v ?_;cases M:Jp D.su x
 ·(try simp only[RN,B,F])
  rfl
 rw[if_neg (by simp)];have P:x.Fit D.su:=WZ d k6 (by rw[<-DL d k6];exact M);have u:=adu D.su m (aN D (-1)) (b _) (by have:=j (-1);omega) x P;rw[dR,dA]at u;(try simp only[RN,B,F,O]);refine ak (c _) ?_;(try simp only[RN,B,F,I,J,N,O]);refine ak u ?_;cases U:nJ D.su (aN D (-1)) x
 ·(try simp only[RN,F])
  rfl
 ·(try simp only[RN,F])
  rfl
end Go.Tel
namespace Go.Am
variable{bs:List (Option (List PV))}{fz:List Nat}{ar:List (Option Arr)}{sz:Nat}
def ag8 {xs:List DV}:Mem.frz ⟨bs,fz,ar++ [some ⟨sz,xs,0,0⟩]⟩ [.tsl ar.length 0 0]=⟨bs,fz,ar++ [some ⟨sz,xs,0,2⟩]⟩:=by
 simp only[Mem.frz,lV,lU,cl,List.flatMap_nil,bh,bw,I8,List.foldl_cons,List.foldl_nil]
 congr 1
 apply List.ext_getElem?;intro i;rw[List.getElem?_modify]
 by_cases b:ar.length=i
 ·subst b
  rw[bz,bz];simp
 ·simp only[b,if_false]
  by_cases a:i<ar.length
  ·rw[aE a,aE a];simp
  ·rw[b4 (by simp;omega),b4 (by simp;omega)];rfl
def agT {C:Ctx}{K:PV->Mem->Prop}{base:Nat}{KP:DV->Mem->Prop}{ys:List DV}{ex:Bool}(a:0<sz)(hf:∀y∈ys,y.fits sz=true)(hl:ys.length<=1073741824)
  (b:K (.d (.slice false ys)) ⟨bs,fz,ar++ [some ⟨sz,ys,0,2⟩]⟩):ay C base (.X9 sz) [.d (.slice true []), .d (.slice ex ys)] ⟨bs,fz,ar⟩ K KP:=by
 simp only[ay,agf];refine⟨a,hf,by simp,by simp,by simpa using hl, .slice false ys,by simp[datum,Mem.row],?_⟩;simp only[bw,cond_false];rw[ag8];exact b
end Go.Am
namespace Go.Tel
open Go.Am
variable{D:Dk}
def anY {x:En}(hk:1<=x.kind/\x.kind<=6)(a:x.kind≠6):D.with x={D with es:=D.es++ [x],st:=D.st++ [false]}:=by
 rcases(show x.kind=1\/x.kind=2\/x.kind=3\/x.kind=4\/x.kind=5 by omega)with k|k|k|k|k
 ·unfold Dk.with;rw[En.deed1 k];rfl
 ·unfold Dk.with;rw[En.deed2 k];rfl
 ·unfold Dk.with;rw[En.deed3 k];rfl
 ·unfold Dk.with;rw[En.deed4 k];rfl
 ·unfold Dk.with;rw[En.Hq k];rfl
def ajN (xs:List En):∀y∈xs.map En.dv,y.fits 2=true:=by
 intro y a;obtain⟨z,_,rfl⟩:=bA.1 a;rw[dA];rfl
def ad4 (xs:List Bool):∀y∈xs.map DV.bool,y.fits 1=true:=by
 intro y a;obtain⟨z,_,rfl⟩:=bA.1 a
 rfl
def ak0 (D:Dk)(x:En)(hl:D.es.length<=1000)(p:D.st.length<=1000)(t:x.ns.length<=1000)(h:x.kind=6->1<=x.ns.length/\0<=x.n 0/\(x.n 0).toNat<D.st.length)(hk:1<=x.kind/\x.kind<=6):Pure C 51 [Ny D,x.dv] (.d (Ny (D.with x))) []:=by
 refine bF (aC BP aiE ?_);rw[vw (D:=D),dA];simp only[BP,aiE,RN,B,F,J,N,O];refine⟨ajN _,by simp,by simp,by simp;omega,?_⟩;refine agT (by decide) (Fa _) (by simp;omega) ?_;have k:∀y:DV,y= .agg [dI x.kind,sF (x.ns.map au)]->y.fits 2=true:=by rintro y rfl;rfl
 have i:=ad4 D.st;have j:∀y:DV,y= .bool false->y.fits 1=true:=by rintro y rfl;rfl
 have l:(D.es.map En.dv).length<=1073741823:=by simp;omega
 have m:(D.st.map DV.bool).length<=1073741824:=by simp;omega
 have o:(D.st.map DV.bool).length<=1073741823:=by simp;omega
 simp only[DV.strip,dN,eF,RN,B,F,J,N,O]
 (repeat(refine And.intro (by first|assumption|rfl|(simp;done)|(simp;omega)) ?_))
 by_cases k6:x.kind=6
 ·obtain⟨u,r,s⟩:=h k6
  have g:(x.kind==6)=true:=by simp[k6]
  have q:0<x.ns.length:=by omega
  have e:0<=x.ns.getD 0 default:=r;have a:(x.ns.getD 0 default).toNat<D.st.length:=s;have f:(x.ns.getD 0 default).toNat<(D.st.map DV.bool++ [DV.bool false]).length:=by rw[V,Q];omega
  simp only[g,j0,t0,q,e,f,Q,getD_map,aH,RN,B,F,N,O];have b:(D.st.map DV.bool++ [DV.bool false]).getD (x.ns.getD 0 default).toNat default= .bool (D.st.getD (x.ns.getD 0 default).toNat default):=by
   rw[aD,aE (by simpa using a),<-aD,getD_map a]
  refine zQ (ds:=[.bool true]) rfl rfl (by decide) rfl rfl (by rw[b];exact aM 1) ?_;have c:(D.st.map DV.bool++ [DV.bool false]).set (x.ns.getD 0 default).toNat (setCells ((D.st.map DV.bool++ [DV.bool false]).getD (x.ns.getD 0 default).toNat default) 0 [.bool true])=(D.st.set (x.ns.getD 0 default).toNat true++ [false]).map .bool:=by
   rw[b,List.set_append_left _ _ (by simpa using a),am,List.map_set];rfl
  rw[c];simp only[eF,bI,cB,fA,gY,RN,F,J,O];rw[PS k6];simp[datum,cu,dW,Mem.row,vw,dA,En.n]
 ·have g:(x.kind==6)=false:=beq_false_of_ne k6
  simp only[g,eF,bI,cB,fA,gY,RN,B,F,J,O];rw[anY hk k6];simp[datum,cu,dW,Mem.row,vw,dA]
def aic (s:Su)(hs:s.Small)(e:s.fs.length<=1000000):Pure C 18 [s.dv] (.d (.bool s.ok)) []:=by
 have h1:=ah8 s.pc hs.l hs.h;have h2:=anN s.dvd (by have:=hs.ci;omega);have k:=anM s.cal (by have:=hs.cy;omega);have m:=ak9 s.jB;have y:=afw s.fs e;have n:=ads s [] false;have o:=aft (s.bil []) (by simp[Su.bil]);have b:=fun f:Fr=>ak6 f
 simp only[dD,rY,dY,iI,IY,bJ,dR]at h1 h2 k m n o b;refine ah KT aJ ?_;rw[dR];simp only[KT,aJ,RN,B,F,O];refine ak h1 ?_;cases q:s.pc.ok
 ·(try simp only[RN,B])
  simp[Su.ok,q]
 simp only[Q,RN,B,F,O]
 by_cases j:s.tg.length=s.pc.hands.length
 case neg=>
  have z:((s.tg.length:Int) !=(s.pc.hands.length:Int))=true:=by simp;omega
  simp only[z,RN,B];simp[Su.ok,j]
 have z:((s.tg.length:Int) !=(s.pc.hands.length:Int))=false:=by simp[j]
 simp only[z,RN,B,F,O];refine ak (ais _) ?_;cases r:inR s.lim 0 10800
 ·(try simp only[RN,B])
  simp[Su.ok,r]
 (try simp only[RN,B,F,O]);refine ak h2 ?_;cases u:s.dvd.ok
 ·(try simp only[RN,B])
  simp[Su.ok,u]
 simp only[RN,B];have A:=hs.t;refine aG s.tg.length (fun i (_:Unit)=>⟨[(1, .d (.aV s.cs)),(3,pI i)],⟨[some (s.cs.map .d)],[0],[]⟩⟩)
  (fun i _=>s.tg.all Fr.ok=(s.tg.drop i).all Fr.ok) 0 () (ab _) rfl rfl (fun i _ c a=> ?_) (fun _ a=> ?_)
 ·obtain⟨v,w,x⟩:=rng c (by omega)
  rw[drop_cons c,cF]at a;simp only[lS,v,w,c,getD_map,bJ,U,Q,RN,B,F,O];refine ak (b _) ?_;cases p:(s.tg.getD i default).ok
  ·rw[p,Z]at a
   (try simp only[RN,B]);simp[Su.ok,a]
  ·rw[p,bu]at a
   simp only[x,RN,B];exact aW () c rfl a
 ·rw[ax,cI]at a
  have g:s.ok=(s.cal.ok&&s.jB.ok&&jE s.fs&&inR s.year 0 4000&&(s.bil []).ok):=by
   simp[Su.ok,q,j,r,u,a]
  rw[g];simp only[lS,ae,Q,RN,B,F,O];refine ak k ?_;cases D:s.cal.ok
  ·simp only[Z,RN,B]
  (try simp only[RN,B,F,O]);refine ak m ?_;cases k6:s.jB.ok
  ·simp only[Z,RN,B]
  (try simp only[RN,B,F,O]);refine ak y ?_;cases E:jE s.fs
  ·simp only[Z,RN,B]
  (try simp only[RN,B,F,O]);refine ak (adz _) ?_;cases G:inR s.year 0 4000
  ·simp only[Z,RN,B]
  (try simp only[RN,B,F,O]);refine ak n ?_;(try simp only[RN]);refine ak o ?_;(try simp only[])
def Su.short (s:Su):Bool:=decide (s.pc.links.length<=7)&&decide (s.pc.hands.length<=6)&&decide (s.tg.length<=6)&&decide (s.dvd.cir.length<=8)&&decide (s.cal.cy.length<=5)&&decide (s.fs.length<=8)
def Su.aaf {s:Su}(h:s.short=true):s.Small/\s.fs.length<=8:=by
 simp only[Su.short,an,decide_eq_true_eq]at h;exact⟨⟨by omega,by omega,by omega,by omega,by omega⟩,by omega⟩
def wQ {a b:Nat}:decide ((a:Int)<=(b:Int))=decide (a<=b):=decide_eq_decide.2 (by omega)
def alr (s:Su):Pure C 39 [s.dv] (.d (.bool s.short)) []:=by
 refine ah Kv aJ ?_;rw[dR];simp only[Kv,aJ,Q,RN,B,F,O];have a:decide ((s.pc.links.length:Int)<=7)=decide (s.pc.links.length<=7):=wQ;have c:decide ((s.pc.hands.length:Int)<=6)=decide (s.pc.hands.length<=6):=wQ;have f:decide ((s.tg.length:Int)<=6)=decide (s.tg.length<=6):=wQ;have h:decide ((s.dvd.cir.length:Int)<=8)=decide (s.dvd.cir.length<=8):=wQ;have j:decide ((s.cal.cy.length:Int)<=5)=decide (s.cal.cy.length<=5):=wQ;have l:decide ((s.fs.length:Int)<=8)=decide (s.fs.length<=8):=wQ;rw[Su.short];cases b:decide (s.pc.links.length<=7)
 ·simp only[a,b,Z,RN,B]
 cases e:decide (s.pc.hands.length<=6)
 ·simp only[a,b,c,e,Z,Q,RN,B,F,O]
 cases g:decide (s.tg.length<=6)
 ·simp only[a,b,c,e,f,g,Z,Q,RN,B,F,O]
 cases i:decide (s.dvd.cir.length<=8)
 ·simp only[a,b,c,e,f,g,h,i,Z,Q,RN,B,F,O]
 cases k:decide (s.cal.cy.length<=5)
 ·simp only[a,b,c,e,f,g,h,i,j,k,Z,Q,RN,B,F,O]
 ·simp only[a,b,c,e,f,g,h,i,j,k,l,Q,RN,B,F,O]
def AQ (s:Su)(l:List En)(q:List Qn):Bool:= !((l.take 27).any fun x=>decide (x.ns.length>6))&& !((q.take 11).any fun x=>decide (x.ns.length>6))&&(s.short&&decide (l.length<=26)&&decide (q.length<=10))
def WC {s:Su}{l:List En}{q:List Qn}(h:AQ s l q=true):s.short=true/\(l.length<=26/\∀x∈l,x.ns.length<=6)/\q.length<=10/\∀x∈q,x.ns.length<=6:=by
 simp only[AQ,an,Bool.not_eq_true',List.any_eq_false,decide_eq_true_eq]at h;obtain⟨⟨h1,h2⟩,⟨b,c⟩,d⟩:=h;rw[aq (by omega)]at h1 h2;exact⟨b,⟨c,fun x a=>by have:=h1 x a;omega⟩,d,fun x a=>by have:=h2 x a;omega⟩
def any_take_succ {α:Type}[Inhabited α](p:α->Bool)(l:List α){i:Nat}(h:i<l.length)(a:(l.take i).any p=false):(l.take (i+1)).any p=p (l.getD i default):=by
 rw[aP h,ct,a];simp
def NV {α:Type}(p:α->Bool)(l:List α){i n:Nat}(a:i<=n)(h:(l.take i).any p=true):(l.take n).any p=true:=by
 rw[List.any_eq_true]at h⊢;obtain⟨x,c,b⟩:=h;exact⟨x,(List.take_sublist_take_left a).subset c,b⟩
def ajC (s:Su)(l:List En)(q:List Qn):Pure C 17 [s.dv,sF (l.map En.dv),sF (q.map Qn.dv)] (.d (.bool (AQ s l q))) []:=by
 have y:=alr s;refine ah Kt tC ?_;rw[dR]at y⊢;simp only[Kt,tC,RN,B,F];refine aG (min l.length 27) (fun i (_:Unit)=>⟨[(1, .d (sF (l.map En.dv))),(2, .d (sF (q.map Qn.dv))),(3, .d (.aV s.cs)),(7,pI i)],⟨[some (s.cs.map .d)],[0],[]⟩⟩)
  (fun i _=>((l.take i).any fun x=>decide (x.ns.length>6))=false) 0 () (ab _) rfl rfl (fun i _ j a=> ?_) (fun _ a=> ?_)
 ·have k:(i:Int)<(l.length:Int):=by omega
  have n:(i:Int)<27:=by omega
  have m:(0:Int)<=(i:Int):=by omega
  have e:i<l.length:=by omega
  have o:cM .i64 ((i:Int)+1)=((i+1:Nat):Int):=by rw[aB (by omega)];omega
  have b:=any_take_succ (fun x:En=>decide (x.ns.length>6)) l e a;simp only[k,n,m,e,getD_map,dA,U,Q,RN,B,F,O]
  by_cases f:(l.getD i default).ns.length>6
  ·have z:((l.getD i default).ns.length:Int)>6:=by omega
   have r:AQ s l q=false:=by
    rw[decide_eq_true f]at b;have:=NV _ l (show i+1<=27 by omega) b;simp[AQ,this]
   simp only[z,r,RN,B]
  ·have z:¬((l.getD i default).ns.length:Int)>6:=by omega
   rw[decide_eq_false f]at b;simp only[z,o,RN,B];exact aW () j rfl b
 have E:((l.take 27).any fun x=>decide (x.ns.length>6))=false:=by
  by_cases h:l.length<=27
  ·rw[cz h,az]at a;rw[aq h];exact a
  ·rwa [cr (by omega)]at a
 have g:¬((min l.length 27:Nat):Int)<(l.length:Int)\/((min l.length 27:Nat):Int)<(l.length:Int)/\¬((min l.length 27:Nat):Int)<27:=by omega
 have I:∀v:Prop,v->v:=fun _ h=>h
 rcases g with t|⟨t,H⟩
 all_goals(
  first
   |(simp only[t,H,Q,RN,B])
   |(simp only[t,Q,RN,B])
  refine aG (min q.length 11) (fun i (_:Unit)=>⟨[(1, .d (sF (l.map En.dv))),(2, .d (sF (q.map Qn.dv))),(3, .d (.aV s.cs)),(8,pI i)],⟨[some (s.cs.map .d)],[0],[]⟩⟩)
   (fun i _=>((q.take i).any fun x=>decide (x.ns.length>6))=false) 0 () (ab _) rfl rfl (fun i _ j a=> ?_) (fun _ a=> ?_)
  ·have k:(i:Int)<(q.length:Int):=by omega
   have n:(i:Int)<11:=by omega
   have m:(0:Int)<=(i:Int):=by omega
   have e:i<q.length:=by omega
   have o:cM .i64 ((i:Int)+1)=((i+1:Nat):Int):=by rw[aB (by omega)];omega
   have b:=any_take_succ (fun x:Qn=>decide (x.ns.length>6)) q e a;simp only[k,n,m,e,getD_map,QO,U,Q,RN,B,F,O]
   by_cases f:(q.getD i default).ns.length>6
   ·have z:((q.getD i default).ns.length:Int)>6:=by omega
    have r:AQ s l q=false:=by
     rw[decide_eq_true f]at b;have:=NV _ q (show i+1<=11 by omega) b;simp[AQ,this]
    simp only[z,r,RN,B]
   ·have z:¬((q.getD i default).ns.length:Int)>6:=by omega
    rw[decide_eq_false f]at b;simp only[z,o,RN,B];exact aW () j rfl b
  have G:((q.take 11).any fun x=>decide (x.ns.length>6))=false:=by
   by_cases h:q.length<=11
   ·rw[cz h,az]at a;rw[aq h];exact a
   ·rwa [cr (by omega)]at a
  have p:AQ s l q=(s.short&&decide (l.length<=26)&&decide (q.length<=10)):=by simp only[AQ,E,G,cC,bu]
  rw[p];have aor:¬((min q.length 11:Nat):Int)<(q.length:Int)\/((min q.length 11:Nat):Int)<(q.length:Int)/\¬((min q.length 11:Nat):Int)<11:=by omega
  have w:decide ((l.length:Int)<=26)=decide (l.length<=26):=wQ;have D:decide ((q.length:Int)<=10)=decide (q.length<=10):=wQ
  rcases aor with c|⟨c,u⟩
  all_goals(
   first
    |(simp only[lS,c,u,Q,RN,B,F,O])
    |(simp only[lS,c,Q,RN,B,F,O])
   refine ak y ?_;cases J:s.short
   ·simp only[Z,RN,B]
   cases A:decide (l.length<=26)
   ·simp only[w,A,Z,Q,RN,B]
   ·simp only[w,A,D,Q,RN,B]))
def aaD (s:ByteArray)(hs:s.size<=1000000){bs:List (Option (List PV))}{fz:List Nat}{ar:List (Option Arr)}(q:FzB ⟨bs,fz,ar⟩){KP:DV->Mem->Prop}:
  SC C 236 [.d (.slice true []), .func (.func 211) [] [.ptr bs.length 0]] ⟨bs++ [some [.d (.str s)]],fz,ar⟩ (fun p M'=>slN 1 true p ((eP s).map .str) M'.aF/\Frm ⟨bs,fz,ar⟩ M'/\(∀k,kOf p=some k->ar.length<=k)) KP:=by
 have S:bs.length+1∉fz:=fun e=>by have:=q _ e;simp only at this;omega
 have T:bs.length∉fz:=fun e=>bj _ (q _ e)
 have ae:=Jd s;refine aC oL aI ?_;simp only[oL,aI,jL,mD,ck,V,RN,B,F];refine oP (Qu s bs.length hs) (fun _ h=>h) rfl (by kernel_rfl) (fun i b=>by have:=q i b;simp at this⊢;omega) (fun x w=>by obtain⟨y,_,rfl⟩:=bA.1 w;rfl) (fun i b=>by subst b;simp) (fun M' f=>⟨(f.box _ (by simp) id).trans (by simp),fun e=>T ((f.fz _ (by simp) id).1 e)⟩)
  (fun u z=>∃l r c,eP s=l++r/\u=l.map l7/\z.boxes[bs.length+1]?=some (some [c])/\bs.length+1∉z.fz/\slN 1 true c (l.map .str) z.aF/\Frm ⟨bs,fz,ar⟩ z/\(∀k,kOf c=some k->ar.length<=k)) ?_ ?_ ?_ ?_
 ·rintro u z M2 f ⟨l,r,c,g,v,n,E,G,a,H⟩
  simp only[V,aR,bl]at f;refine⟨l,r,c,g,v,(f.box _ (by omega) (by omega)).trans n,fun e=>E ((f.fz _ (by omega) (by omega)).1 e),by rw[f.aF];exact G,?_,H⟩;have R:=f.len;have h6:=a.len;exact⟨aw h6 R,by rw[f.aF];exact a.bH,fun i b=>by simp only at b;exact(f.box i (by omega) (by omega)).trans (a.box i b),fun i b=>by simp only at b;exact(f.fz i (by omega) (by omega)).trans (a.fz i b),fun k M=>by rw[f.aF];exact a.row k M,fun e=>f.fzb (a.fzb e)⟩
 ·exact⟨[],eP s,_,rfl,rfl,by simp,S, .inl ⟨rfl,rfl⟩,Frm.new (xf:=[]) (by simp),(fun k M=>by cases M)⟩
 ·rintro L cells u x ab ⟨o,K,J⟩ w t m D ⟨l,r,c,g,v,n,E,G,a,H⟩ M0
  simp only[V,aR,bl]at t m D n E⊢;obtain⟨p,I,rfl⟩:∃p I,r=p::I:=by
   cases r with
   |nil=>
    rw[g,v]at w;have:=congrArg bN w;simp at this
   |cons p I=>exact⟨p,I,rfl⟩
  have W:x=l7 p:=by
   rw[g,v,am,aL]at w;have:=List.append_cancel_left w;exact(List.cons.inj this).1.symm
  subst W;have A:bs.length+1<o.length:=by omega
  have Z:l.length<=1000000:=by have:=congrArg bN g;simp at this;omega
  simp only[l7,List.zip_cons_cons,List.zip_nil_left,aL,be,n,eX,DV.strip,dX,RN,B,F,O];refine LW G (by decide) (by intro y hy;simp only[bo]at hy;subst hy;rfl) (by simp) (by simp;omega) fun k ver st ac a1 a2 a3 X a5 a6=> ?_
  have U:=a6 rfl;subst U;simp only[n,E,dN,eF,uP,RN,O];have P:ar.length<=k:=by
   rcases a1 with a1|a1
   ·exact H k a1
   ·have:=a.bH;simp only at this;omega
  refine⟨by rw[bc (by omega)];exact m,D,Kept.Gj (by omega) (by omega) X (fun _ h=>h.elim),l++ [p],I, .tsl k ver 0,by rw[g];simp,by rw[v];simp[l7],by simp[A], .inr ⟨k,ver,1,rfl,by rw[a2];simp,by decide,fun _=> .inl rfl⟩,?_,(fun k' N=>by cases N;exact P)⟩;exact
  {len:=by have:=a.len;simpa using this
   bH:=aw a.bH X
   box:=fun i b=>by
    have:=a.box i b;simp only at b this⊢;rw[bc (by omega)];exact this
   fz:=a.fz
   row:=fun j Y=>by
    have:=a.row j Y;have Q:=a.bH;simp only at Y this Q⊢;rw[a3 j (by omega) (by omega)];exact this
   fzb:=fun e i b=>by have:=a.fzb e i b;simpa using this}
 ·rintro⟨o,K,J⟩ ⟨l,r,c,g,v,n,E,G,a,H⟩ t
  simp only[V,aR,bl]at t n;have hr:r=[]:=by
   have:=congrArg bN v;rw[g]at this;simp at this;exact this
  subst hr;rw[bh]at g;have A:bs.length+1<o.length:=by omega
  simp only[n,RN,O];rw[g];exact⟨G,a,H⟩
def Yq (s:ByteArray)(hs:s.size<=1000000){bs:List (Option (List PV))}{fz:List Nat}{ar:List (Option Arr)}(a:FzB ⟨bs,fz,ar⟩){KP:DV->Mem->Prop}:
  SC C 148 [.func (.func 211) [] [.ptr bs.length 0]] ⟨bs++ [some [.d (.str s)]],fz,ar⟩ (fun p M'=>slN 1 true p ((eP s).map .str) M'.aF/\Frm ⟨bs,fz,ar⟩ M'/\(∀k,kOf p=some k->ar.length<=k)) KP:=by
 refine aC rF aJ ?_;simp only[rF,aJ,RN,B];refine SC.jG (SC.mono (aaD s hs a (KP:=fun _ _=>False)) ?_) (fun _ _ h=>h.elim);rintro p ⟨c,e,b⟩ h;(try simp only[]);exact h
variable{s:ByteArray}
def agF (hs:s.size<=1000000):Pure C 237 [.str s, .str ⟨#[10]⟩] (.d (.tup [.str (bT s), .bool (lC s)])) []:=by
 refine ah rG bZ ?_;simp only[rG,bZ,RN,B,F];refine ak (Rk hs) ?_;have a:cM .i64 ((s.size:Int) - ((1:Nat):Int))=(s.size:Int) - 1:=by rw[aB (by omega)];omega
 unfold bT;cases h:lC s
 ·(try simp only[RN,B])
  simp
 ·have:1<=s.size:=by unfold lC at h;simp only[an,decide_eq_true_eq]at h;exact h.1
  have b:(0:Int)<=(s.size:Int) - 1:=by omega
  have c:(s.size:Int) - 1<=(s.size:Int):=by omega
  have e:((s.size:Int) - 1).toNat=s.size - 1:=by omega
  simp only[Qo,a,I4 b c,e,RN,B];simp
def agE (hs:s.size<=1000000):Pure C 149 [.str s, .str ⟨#[10]⟩] (.d (.tup [.str (bT s), .bool (lC s)])) []:=by
 refine ah xw bZ ?_;simp only[xw,bZ,RN,B,F];refine ak (agF hs) ?_;(try simp only[RN])
def jU:Dk->List ByteArray->Nat->Dk×Int×Int
 |D,[],_=>(D, -1,0)
 |D,y::a,i=>if lC y=false\/(bU (bT y)).2≠0 then(D,i,4)else
  if(D.enter (bU (bT y)).1).2≠0 then(D,i,(D.enter (bU (bT y)).1).2)else jU (D.enter (bU (bT y)).1).1 a (i+1)
def Sz (line:ByteArray):(bU line).2=0->(bU line).1.ns.length<=1000/\(bU line).1.formed=true:=by
 intro h;unfold bU at h⊢
 split at h
 ·cases h
 ·rename_i h1
  rw[if_neg h1]
  split at h
  ·rename_i a ns c
   simp only[];have b:ns.length<=1000/\(⟨1+a,ns⟩:En).formed=true:=by
    have:=(aaq c).1;exact⟨by have:=wu this;simp only at this;omega,this⟩
   exact b
  ·cases h
variable{d:Nat}{M:Mem}
def als {sz:Nat}{W:Bool}{c:PV}{xs:List DV}{ce cs ce' cs':PV}{M':Mem}(h:slN sz W c xs M.aF)(hf:FrD d ce cs ce' cs' M M')(hd:∀k,kOf c=some k->kOf ce≠some k/\kOf cs≠some k):slN sz W c xs M'.aF/\(∀k,kOf c=some k->kOf ce'≠some k/\kOf cs'≠some k):=by
 have b:∀k,kOf c=some k->k<M.aF.length:=by
  intro k a
  rcases h with⟨rfl,rfl⟩|⟨g,ver,st,rfl,h1,_⟩
  ·cases a
  ·cases a;exact(av.1 h1).1
 refine⟨xE h fun k A a f=>by rw[hf.row k (b k a) (hd k a).1 (hd k a).2];exact f,fun k a=>⟨fun e=> ?_,fun e=> ?_⟩⟩
 ·rcases hf.oe k e with h1|h1
  ·exact(hd k a).1 h1
  ·have:=b k a;omega
 ·rcases hf.os k e with h1|h1
  ·exact(hd k a).2 h1
  ·have:=b k a;omega
def ama (s:Su)(j:ByteArray)(M:Mem)(p:PV)(M':Mem):Prop:=
 (s.ok=false/\p= .d (.tup [.nilPtr,dI 0,dI 2]))\/
 (s.ok=true/\j.size>1500/\p= .d (.tup [.nilPtr,dI 0,dI 3]))\/
 (s.ok=true/\j.size<=1500/\(jU ⟨s,[],[]⟩ (eP j) 0).2.2≠0/\FzB M'/\p= .d (.tup [.nilPtr,dI (jU ⟨s,[],[]⟩ (eP j) 0).2.1,dI (jU ⟨s,[],[]⟩ (eP j) 0).2.2]))\/
 (s.ok=true/\j.size<=1500/\(jU ⟨s,[],[]⟩ (eP j) 0).2.2=0/\(jU ⟨s,[],[]⟩ (eP j) 0).1.Ok/\Frm M M'/\∃d a cs,p= .tup [.ptr d 0,pI (-1),pI 0]/\M.boxes.length<=d/\lQ (jU ⟨s,[],[]⟩ (eP j) 0).1 d a cs M'/\(∀k,kOf a=some k->M.aF.length<=k)/\(∀k,kOf cs=some k->M.aF.length<=k))
variable{bs:List (Option (List PV))}{fz:List Nat}{ar:List (Option Arr)}
def lQ.grow {ce cs:PV}(h:lQ D d ce cs ⟨bs,fz,ar⟩)(x:Option (List PV)):lQ D d ce cs ⟨bs++ [x],bs.length::fz,ar⟩:=by
 have hd:d<bs.length:=(av.1 h.box).1;refine⟨h.toDkRd.ext,h.dif,?_,?_⟩
 ·intro e
  rcases ai.1 e with e|e
  ·omega
  ·exact h.nb e
 ·intro i a
  rcases ai.1 a with rfl|a
  ·simp
  ·have:=h.fzb i a
   simp only at this;simp only[V,bt];omega
def Frm.grow (h:Frm M ⟨bs,fz,ar⟩)(x:Option (List PV)):Frm M ⟨bs++ [x],bs.length::fz,ar⟩:=
 h.trans (Frm.new (xf:=[bs.length]) (by simp))
def Frm.apa {g b:Mem}{ce cs ce' cs':PV}(h:Frm M g)(f:FrD d ce cs ce' cs' g b)(hd:M.boxes.length<=d)(h1:∀k,kOf ce=some k->M.aF.length<=k)(h2:∀k,kOf cs=some k->M.aF.length<=k)(m:FzB b):
  Frm M b/\(∀k,kOf ce'=some k->M.aF.length<=k)/\(∀k,kOf cs'=some k->M.aF.length<=k):=by
 have l:=h.len;have j:=h.bH;refine⟨⟨aw l f.len,aw j f.bH,fun i c=>(f.box i (by omega) (by omega)).trans (h.box i c),fun i c=>(f.fz i (by omega)).trans (h.fz i c),fun k a=>(f.row k (by omega) (fun e=>by have:=h1 k e;omega) (fun e=>by have:=h2 k e;omega)).trans (h.row k a),fun _=>m⟩,fun k a=> ?_,fun k a=> ?_⟩
 ·rcases f.oe k a with e|e
  ·exact h1 k e
  ·omega
 ·rcases f.os k a with e|e
  ·exact h2 k e
  ·omega
def adU (s:Su)(hs:s.Small)(j:ByteArray){bs:List (Option (List PV))}{fz:List Nat}{ar:List (Option Arr)}{KP:DV->Mem->Prop}(l:FzB ⟨bs,fz,ar⟩):
  SC C 56 [.d s.dv, .d (.str j)] ⟨bs,fz,ar⟩ (ama s j ⟨bs,fz,ar⟩) KP:=by
 have aE:bs.length∉fz:=fun e=>bj _ (l _ e)
 refine aC wW aix ?_;rw[dR];simp only[wW,aix,aY,bQ,V,RN,B,F,O];have hO:=fun X KP hX=>acO s hs X (bs.length::fz) ar KP hX
 rw[dR]at hO;refine SC.jG (SC.mono (hO _ (fun _ _=>False) (by
  intro i a
  rcases ai.1 a with rfl|a
  ·simp
  ·have:=l _ a
   simp only at this;simp only[V,aR,bl];omega)) ?_) (fun _ _ h=>h.elim)
 rintro p ⟨u,A,b⟩ (⟨h,rfl⟩|⟨o,rfl,x1,x2,h⟩)
 ·have z1:((2:Int) !=0)=true:=rfl
  simp only[z1,RN,B];exact .inl ⟨h,rfl⟩
 simp only[Mem.mk.injEq]at h;obtain⟨v,w,rfl⟩:=h;have G:u.length=bs.length+4:=by rw[v];simp
 have aol:u[bs.length+3]?=some (some (iH s (.d (.slice true [])) (.d (.slice true [])))):=by
  rw[v,bL (by simp)];simp
 have aov:FzB ⟨u,A,b⟩:=by
  intro i a;rw[w]at a;simp only[G]
  rcases ai.1 a with rfl|a
  ·simp
  rcases ai.1 a with rfl|a
  ·simp
  rcases ai.1 a with rfl|a
  ·omega
  ·have:=l _ a;simp only at this;omega
 have apQ:bs.length+3∉A:=by
  intro a;rw[w]at a
  rcases ai.1 a with h|a
  ·simp at h
  rcases ai.1 a with h|a
  ·simp at h
  rcases ai.1 a with h|a
  ·omega
  ·have:=l _ a;simp only at this;omega
 have R:Frm ⟨bs,fz,b⟩ ⟨u,A,b⟩:=by
  rw[v,w,ck];exact Frm.new (xf:=[_,_,_]) (by intro i a;simp at a⊢;omega)
 clear v w hO;have z1:((0:Int) !=0)=false:=rfl;simp only[qL,qM,z1,V,RN,B]
 by_cases hl:j.size>1500
 ·have z2:decide ((j.size:Int)>1500)=true:=decide_eq_true (by omega)
  simp only[z2,RN,B];exact .inr (.inl ⟨o,hl,rfl⟩)
 have z2:decide ((j.size:Int)>1500)=false:=decide_eq_false (by omega);simp only[z2,RN,B];refine SC.jG (SC.mono (X7 j (KP:=fun _ _=>False)) ?_) (fun _ _ h=>h.elim);rintro p M1 ⟨rfl,rfl⟩;(try simp only[RN,B,F,I,J,N,O]);refine SC.jG (SC.mono (Yq j (by omega) aov (KP:=fun _ _=>False)) ?_) (fun _ _ h=>h.elim);rintro c ⟨L,M,K⟩ ⟨c1,c2,c3⟩;(try simp only[RN,B,F,I,J,N,O]);rw[Qp c1];simp only[Q];have aw:=Jd j;have aq:lQ ⟨s,[],[]⟩ (bs.length+3) (.d (.slice true [])) (.d (.slice true [])) ⟨L,M,K⟩:=
  ⟨⟨(c2.box _ (by simp only;omega)).trans aol, .inl ⟨rfl,rfl⟩, .inl ⟨rfl,rfl⟩⟩,(by intro k hk;cases hk),fun e=>apQ ((c2.fz _ (by simp only;omega)).1 e),c2.fzb aov⟩
 obtain⟨f,H⟩:∃f,f=eP j:=⟨_,rfl⟩
 have S:∀y∈f,y.size<=1500:=fun y hy=>by have:=RP (s:=j) (x:=y) (by rw[<-H];exact hy);omega
 have hR:ama s j ⟨bs,fz,b⟩=fun p M'=>(s.ok=false/\p= .d (.tup [.nilPtr,dI 0,dI 2]))\/
   (s.ok=true/\j.size>1500/\p= .d (.tup [.nilPtr,dI 0,dI 3]))\/
   (s.ok=true/\j.size<=1500/\(jU ⟨s,[],[]⟩ f 0).2.2≠0/\FzB M'/\p= .d (.tup [.nilPtr,dI (jU ⟨s,[],[]⟩ f 0).2.1,dI (jU ⟨s,[],[]⟩ f 0).2.2]))\/
   (s.ok=true/\j.size<=1500/\(jU ⟨s,[],[]⟩ f 0).2.2=0/\(jU ⟨s,[],[]⟩ f 0).1.Ok/\Frm ⟨bs,fz,b⟩ M'/\∃d z cs,p= .tup [.ptr d 0,pI (-1),pI 0]/\bs.length<=d/\lQ (jU ⟨s,[],[]⟩ f 0).1 d z cs M'/\(∀k,kOf z=some k->b.length<=k)/\(∀k,kOf cs=some k->b.length<=k)):=by
  rw[H];rfl
 rw[hR];rw[<-H]at c1 aw⊢;clear hR;refine zH (fun m st=>∃(i:Nat) (D:Dk) (z cs:PV) (r:List (Option (List PV))) (t:List Nat) (q:List (Option Arr)),m=f.length - i/\i<=f.length/\st=⟨[(7, .ptr (bs.length+3) 0),(29,c),(30,pI f.length),(31,pI i)],⟨r,t,q⟩⟩/\jU ⟨s,[],[]⟩ f 0=jU D (f.drop i) i/\lQ D (bs.length+3) z cs ⟨r,t,q⟩/\D.Ok/\Frm ⟨bs,fz,b⟩ ⟨r,t,q⟩/\slN 1 true c (f.map .str) q/\(∀k,kOf c=some k->kOf z≠some k/\kOf cs≠some k)/\(∀k,kOf z=some k->b.length<=k)/\(∀k,kOf cs=some k->b.length<=k)) f.length
  ⟨0,⟨s,[],[]⟩, .d (.slice true []), .d (.slice true []),L,M,K,rfl,ab _,rfl,rfl,aq,⟨o,rfl,ab _,fun x h=>(by cases h),fun x h=>(by cases h)⟩,R.trans c2,c1,fun k _=>⟨fun e=>(by cases e),fun e=>(by cases e)⟩,fun k e=>(by cases e),fun k e=>(by cases e)⟩ ?_
 rintro m st ⟨i,D,z,cs,r,t,q,rfl,a,rfl,g,q2,q3,q4,q5,q6,q7,q8⟩
 by_cases n:i<f.length
 case neg=>
  have av:i=f.length:=by omega
  subst av;rw[ax,jU]at g;simp only[ae,RN,B];rw[g];exact .inr (.inr (.inr ⟨o,by omega,rfl,q3,q4,_,z,cs,rfl,by omega,q2,q7,q8⟩))
 obtain⟨g2,g3,g6⟩:=rng n (by omega);rw[drop_cons n,jU]at g;have hy:=S _ (getD_mem n);obtain⟨y,W⟩:∃y,y=f.getD i default:=⟨_,rfl⟩
 rw[<-W]at g hy;obtain⟨k,ver,st,rfl,hk,_,_⟩:=DU q5 (by intro e;rw[List.map_eq_nil_iff]at e;rw[e]at n;exact cA _ n);have aD:=Oa y;have hP:=acP (bT y);have T:=Sz (bT y);obtain⟨X,hX⟩:∃X,X=bU (bT y):=⟨_,rfl⟩
 rw[<-hX]at g hP T;obtain⟨x,e⟩:=X;simp only at g hP T;simp only[g2,g3,n,hk,getD_map,U,Q,dX,<-W,RN,B,O];refine eH rfl rfl (agE (by omega)) ?_;(try simp only[RN]);refine ak hP ?_;have az:r.length∉t:=fun e=>bj _ (q2.fzb _ e)
 simp only[A8,az,aY,bQ,jK,RN,B,F,O];cases P:lC y
 ·rw[if_pos (.inl P)]at g
  simp only[RN,B];exact .inr (.inr (.inl ⟨o,by omega,by rw[g];simp,(q4.grow _).fzb l,by rw[g]⟩))
 by_cases E:e=0
 case neg=>
  have Z:(e !=0)=true:=by simp[E]
  rw[if_pos (.inr E)]at g;simp only[Z,RN,B];exact .inr (.inr (.inl ⟨o,by omega,by rw[g];simp,(q4.grow _).fzb l,by rw[g]⟩))
 subst E;rw[if_neg (fun h=>h.elim (fun h=>by rw[P]at h;cases h) (fun h=>h rfl))]at g;have b3:decide ((0:Int)≠0)=false:=rfl;simp only[z1,RN,B,F,O];have hE:=XZ (q2.grow (some [pI x.kind, .d (sF (x.ns.map au))])) q3 x (KP:=fun _ _=>False);rw[dA]at hE;refine SC.jG (SC.mono hE ?_) (fun _ _ h=>h.elim);rintro p ⟨am,ap,ac⟩ ⟨rfl,an,ao,r1,r2⟩;obtain⟨f1,f2,f3⟩:=(q4.grow (some [pI x.kind, .d (sF (x.ns.map au))])).apa r2 (by simp only;omega) q7 q8 r1.fzb;obtain⟨t1,t2⟩:=als (c:= .tsl k ver 0) q5 r2 q6
 by_cases Y:(D.enter x).2=0
 ·have Z:((D.enter x).2 !=0)=false:=by simp[Y]
  rw[if_neg (fun h=>h Y)]at g;simp only[Z,g6,RN,B];exact⟨f.length - (i+1),_,by omega, .inl rfl,i+1,(D.enter x).1,an,ao,am,ap,ac,rfl,by omega,rfl,g,r1,QS q3 x,f1,t1,t2,f2,f3⟩
 ·have Z:((D.enter x).2 !=0)=true:=by simp[Y]
  rw[if_pos Y]at g;simp only[Z,RN,B];exact .inr (.inr (.inl ⟨o,by omega,by rw[g];exact Y,r1.fzb,by rw[g]⟩))
def Fg (l:List En):ByteArray:=l.foldl (fun o x=>o++(x.line++nlB)) ⟨#[]⟩
def Nh (l:List En)(x:En):Fg (l++ [x])=Fg l++(x.line++nlB):=by simp[Fg]
def Vx (l:List En)(h:∀x∈l,x.formed=true):(Fg l).size<=40*l.length:=by
 induction l using rO with
 |h0=>exact aM 0
 |h1 l x b=>
  have h1:=b fun y a=>h y (by simp[a])
  have h2:=GU (h x (by simp));have c:nlB.size=1:=rfl;rw[Nh,a7,a7,V,bt];omega
def adS (b j:Bool)(D:Dk)(hf:∀x∈D.es,x.formed=true)(hl:D.es.length<=1000):Pure C 48 [tN b j D] (.d (.tup [.str (Fg D.es),dI 0])) []:=by
 have k:=Rz b j D;refine ah oJ Bd ?_;rw[tN,Hf]at k⊢;simp only[oJ,Bd,RN,B];refine ak k ?_;simp only[Q,RN,B,F,O];refine aG D.es.length (fun i (_:Unit)=>⟨[(4, .d (.str (Fg (D.es.take i)))),(15, .d (.slice b (D.es.map En.dv))),(16,pI D.es.length),(17,pI i)],⟨[],[],[]⟩⟩)
  (fun i _=>True) 0 () (ab _) rfl trivial (fun i _ a _=> ?_) (fun _ _=> ?_)
 ·obtain⟨m,n,o⟩:=rng a (by omega)
  have l:=hf _ (getD_mem a);have c:=ajv (D.es.getD i default);have h:=Vx (D.es.take i) fun y q=>hf y (bk q)
  rw[ap]at h;have p:=GU l;have e:(D.es.getD i default).line.size+(⟨#[10]⟩:ByteArray).size<=9223372036854775807:=by have:(⟨#[10]⟩:ByteArray).size=1:=rfl;omega
  have f:(Fg (D.es.take i)).size+((D.es.getD i default).line++(⟨#[10]⟩:ByteArray)).size<=9223372036854775807:=by have:(⟨#[10]⟩:ByteArray).size=1:=rfl;rw[a7];omega
  have g:Fg (D.es.take (i+1))=Fg (D.es.take i)++((D.es.getD i default).line++⟨#[10]⟩):=by rw[aP a,Nh];rfl
  simp only[l,if_true]at c;rw[dA]at c;simp only[m,n,a,getD_map,dA,U,Q,RN,B,F,O];refine ak c ?_;simp only[fE,kZ,e,f,o,RN];exact fF 0 0 () a (by rw[g];rfl) trivial (by simp) (by simp) rfl rfl
 ·simp only[ae,RN,B]
  rw[az]
def acd (D:Dk)(hf:∀x∈D.es,x.formed=true)(hl:D.es.length<=1000):Pure C 130 [Ny D] (.d (.str (Fg D.es))) []:=by
 refine ah yg aJ ?_;rw[vw];simp only[yg,aJ,RN,B];refine aG D.es.length (fun i (_:Unit)=>⟨[(1, .d (.aV (P6 D))),(3, .d (.str (Fg (D.es.take i)))),(4,pI i)],⟨[some ((P6 D).map .d)],[0],[]⟩⟩)
  (fun i _=>True) 0 () (ab _) rfl trivial (fun i _ a _=> ?_) (fun _ _=> ?_)
 ·obtain⟨j,k,l⟩:=rng a (by omega)
  have h:=hf _ (getD_mem a);have g:=akX (D.es.getD i default) h;have f:=Vx (D.es.take i) fun y n=>hf y (bk n)
  rw[ap]at f;have m:=GU h;have b:(Fg (D.es.take i)).size+(D.es.getD i default).line.size<=9223372036854775807:=by omega
  have c:(Fg (D.es.take i)++(D.es.getD i default).line).size+(⟨#[10]⟩:ByteArray).size<=9223372036854775807:=by have:(⟨#[10]⟩:ByteArray).size=1:=rfl;rw[a7];omega
  have e:Fg (D.es.take (i+1))=Fg (D.es.take i)++(D.es.getD i default).line++⟨#[10]⟩:=by
   rw[aP a,Nh,ByteArray.append_assoc];rfl
  rw[dA]at g;simp only[Yt,j,k,a,getD_map,dA,U,Q,RN,B,F,O];refine ak g ?_;simp only[fE,kZ,b,c,l,RN];exact aW () a (by rw[e]<;>rfl) trivial
 ·simp only[Yt,ae,Q,RN,B,F,O]
  rw[az]
end Go.Tel
namespace Go.Am
def WV {C:Ctx}{base:Nat}{M:Mem}{K:PV->Mem->Prop}{KP:DV->Mem->Prop}{s:ByteArray}{k k':IntKind}{m n:Int}(a:0<=m)(h1:m<=n)(h2:n<=s.size):ay C base (.EG true true) [.d (.str s), .d (.int k m), .d (.int k' n)] M K KP=K (.d (.str (s.extract m.toNat n.toNat))) M:=by
 simp only[ay,wM,eU,bS];exact propext ⟨fun h=>h.2.2.2.2.2,fun h=>⟨trivial,trivial,a,h1,h2,h⟩⟩
end Go.Am
namespace Go.Tel
open Go.Am Go.Lib
def ES (s:ByteArray)(a b:Nat):(s.extract a b).data.toList=(s.data.toList.take b).drop a:=by
 rw[ByteArray.data_extract,Array.toList_extract,List.extract_eq_take_drop,List.drop_take]
variable{l:List UInt8}{f i:Nat}
def drop_at (h1:f<=i)(h2:i<l.length):l.drop f=(l.take i).drop f++l.getD i 0::l.drop (i+1):=by
 have e:l.drop f=(l.take i++l.drop i).drop f:=by rw[List.take_append_drop]
 have a:l.getD i 0=l[i]:=by rw[aD,bO h2];rfl
 rw[e,bv (by rw[ap];omega),List.drop_eq_getElem_cons h2,a]
def take_drop_succ (h1:f<=i)(h2:i<l.length):(l.take (i+1)).drop f=(l.take i).drop f++ [l.getD i 0]:=by
 have a:l.getD i 0=l[i]:=by rw[aD,bO h2];rfl
 rw[List.take_succ_eq_append_getElem h2,bv (by rw[ap];omega),a]
def apd {a b:UInt8}(h:((a.toNat:Nat):Int)=((b.toNat:Nat):Int)):a=b:=UInt8.toNat_inj.1 (by omega)
def ZX (s:ByteArray)(c:UInt8)(hs:s.size<=1000000):Pure C 119 [.str s, .int .u8 c.toNat] (.d (sF ((dJ s c).map .str))) []:=by
 have v:s.data.toList.length=s.size:=size_data s;refine bF (aC KZ aI ?_);simp only[KZ,aI,RN,B,F,N];refine aG s.size (fun i (q:List ByteArray×Nat×Nat)=>⟨[(0, .d (.str s)),(1, .d (.int .u8 c.toNat)),(5, .tsl 1 q.2.2 0),(6,pI q.2.1),(7,pI i)],⟨[],[],[some ⟨1,[],0,0⟩,some ⟨1,q.1.map .str,q.2.2,0⟩]⟩⟩)
  (fun i q=>(q.1.map (·.data.toList))++spl c (s.data.toList.drop q.2.1)=spl c s.data.toList/\c∉(s.data.toList.take i).drop q.2.1/\q.2.1<=i/\q.1.length<=i) 0 ([],0,0) (ab _) rfl ⟨rfl,by simp,aM _,aM _⟩ (fun i q b a=> ?_) (fun q a=> ?_)
 ·obtain⟨out,f,ver⟩:=q
  obtain⟨r1,r2,r3,r4⟩:=a;simp only at r1 r2 r3 r4;obtain⟨p,r,t⟩:=rng b (by omega);have e:=drop_at r3 (show i<s.data.toList.length by omega);have m:=take_drop_succ r3 (show i<s.data.toList.length by omega);have j:=Vt s i
  by_cases k:s.data.getD i 0=c
  ·have l:(((s.data.getD i 0).toNat:Int)==(c.toNat:Int))=true:=by rw[k];exact beq_self_eq_true _
   have n:(0:Int)<=f:=by omega
   have o:(f:Int)<=i:=by omega
   have u:(i:Int)<=s.size:=by omega
   simp only[p,r,b,U,l,WV n o u,eX,DV.strip,dX,Q5,forall_eq,Q,t,RN,B,J,N,O];refine⟨by simp,by omega,?_⟩;refine dF (out++ [s.extract f i],i+1,ver+1) b ?_ ⟨?_,?_,by simp,by simp;omega⟩ (by simp) (by simp) rfl rfl
   ·simp only[am,aL,be];rfl
   ·simp only[am,aL,be,ES]
    rw[<-j,k]at e;rw[e,Qs r2]at r1
    simpa using r1
   ·simp only
    rw[List.drop_of_length_le (by rw[ap];omega)];simp
  ·have l:(((s.data.getD i 0).toNat:Int)==(c.toNat:Int))=false:=beq_eq_false_iff_ne.2 fun h=>k (apd h)
   simp only[p,r,b,U,l,t,RN,B];refine dF (out,f,ver) b rfl ⟨r1,?_,by simp only;omega,by simp only;omega⟩ (by simp) (by simp) rfl rfl;simp only;rw[m,<-j];intro hh
   rcases List.mem_append.1 hh with hh|hh
   ·exact r2 hh
   ·exact k (bo.1 hh).symm
 ·obtain⟨out,f,ver⟩:=q
  obtain⟨r1,r2,r3,r4⟩:=a;simp only at r1 r2 r3 r4;have n:(0:Int)<=f:=by omega
  have o:(f:Int)<=s.size:=by omega
  have g:dJ s c=out++ [s.extract f s.size]:=by
   refine Dh ?_;rw[aq (by omega)]at r2;rw[LX r2]at r1;rw[tH,<-r1,am,aL,be,ES,aq (by omega)]
  simp only[ae,I5 n o,U,eX,DV.strip,dX,Q5,forall_eq,Q,RN,B,J,N,O];refine⟨by simp,by omega,?_⟩;rw[g,am];simp[datum,Mem.row]
def acV {w:ByteArray}(h:4<w.size):iL w=none:=by
 obtain⟨k,a⟩:∃k,w.size=k+1:=⟨w.size - 1,by omega⟩
 rw[iL,a,wV,if_neg (fun h=>by omega)]
def abG {n:Int}(h:0<=n/\n<=9999):(dS n).size<=4:=by
 obtain⟨m,rfl⟩:=bp h.1;have:=JD 3 m (by omega);rw[<-size_data,Jc];omega
def RY (o:Option (List Int)):DV:= .tup [sF ((o.getD []).map au), .bool o.isSome]
def ZV (ws:List ByteArray)(hl:ws.length<=1000000)(hw:∀w∈ws,w.size<=1000000):Pure C 129 [sF (ws.map .str)] (.d (RY (jg ws []))) []:=by
 refine bF (aC Em Bd ?_);simp only[Em,Bd,RN,B,N];refine aG ws.length (fun i (q:List Int×Nat)=>⟨[(0, .d (sF (ws.map .str))),(4, .tsl 1 q.2 0),(5,pI i)],⟨[],[],[some ⟨1,[],0,0⟩,some ⟨1,q.1.map au,q.2,0⟩]⟩⟩)
  (fun i q=>jg ws []=jg (ws.drop i) q.1/\q.1.length=i) 0 ([],0) (ab _) rfl ⟨rfl,rfl⟩ (fun i q c H=> ?_) (fun q H=> ?_)
 ·obtain⟨f,ver⟩:=q
  obtain⟨r1,r2⟩:=H;simp only at r1 r2;obtain⟨V,l,W⟩:=rng c hl;rw[drop_cons c,jg]at r1;have L:=hw _ (getD_mem c);obtain⟨w,a⟩:∃w,w=ws.getD i default:=⟨_,rfl⟩
  rw[<-a]at r1 L;have g:iL w=none->datum ⟨[],[],[some ⟨1,[],0,0⟩,some ⟨1,f.map au,ver,0⟩,some ⟨1,[],0,0⟩]⟩ (.tup [.tsl 2 0 0, .d (.bool false)])=some (RY (jg ws [])):=by
   intro h;rw[r1,h];simp[datum,cu,dW,Mem.row,RY]
  simp only[Q,V,RN,B];refine aG (min w.size 5) (fun k (n:Int)=>⟨[(0, .d (sF (ws.map .str))),(4, .tsl 1 ver 0),(5,pI i),(6,pI n),(7,pI k)],⟨[],[],[some ⟨1,[],0,0⟩,some ⟨1,f.map au,ver,0⟩]⟩⟩)
   (fun k n=>0<=n/\n<10 ^ k/\(w.size<=4->wV w w.size 0 0=wV w (w.size - k) k n)) 0 0 (ab _) rfl ⟨by decide,by decide,fun _=>rfl⟩ (fun k n k1 G=> ?_) (fun n G=> ?_)
  ·obtain⟨u,T,v⟩:=G
   have P:k<w.size:=by omega
   have k5:(k:Int)<5:=by omega
   have ks:(k:Int)<(w.size:Int):=by omega
   have R:(0:Int)<=(k:Int):=by omega
   have kp:cM .i64 ((k:Int)+1)=((k+1:Nat):Int):=by rw[aB (by omega)];omega
   simp only[Q,l,c,getD_map,U,dX,<-a,ks,k5,R,P,RN,B,O];obtain⟨b,s⟩:∃b,b=w.data.getD k 0:=⟨_,rfl⟩
   have X:b.toNat<256:=UInt8.toNat_lt _;have bad:¬(48<=b.toNat/\b.toNat<=57)->iL w=none:=by
    intro A
    by_cases o:w.size<=4
    ·have:=v o
     obtain⟨r,K⟩:∃r,w.size - k=r+1:=⟨w.size - k - 1,by omega⟩
     rw[K,wV,<-s,if_neg (fun h=>A ⟨h.1,h.2.1⟩)]at this;rw[iL,this]
    ·exact acV (by omega)
   by_cases c1:b.toNat<48
   ·have x:(b.toNat:Int)<48:=by omega
    simp only[<-s,x,RN,B,F,N];exact g (bad (by omega))
   have x:¬(b.toNat:Int)<48:=by omega
   by_cases c2:b.toNat>57
   ·have S:(b.toNat:Int)>57:=by omega
    simp only[Q,l,c,getD_map,U,dX,<-a,R,P,<-s,x,S,RN,B,F,N,O];exact g (bad (by omega))
   have S:¬(b.toNat:Int)>57:=by omega
   have t:(10:Int) ^ k<=10000:=by
    rcases k with _| _| _| _| _|k
    ·decide
    ·decide
    ·decide
    ·decide
    ·decide
    ·omega
   have w1:cM .i64 (10*n)=10*n:=aB (by omega);have w2:IntKind.u8.wrap ((b.toNat:Int) - 48)=(b.toNat:Int) - 48:=by
    obtain⟨m,Y⟩:∃m:Nat,(b.toNat:Int) - 48=m:=bp (by omega)
    have E:m<10:=by omega
    rw[Y];exact(by decide:∀m<10,IntKind.u8.wrap ((m:Nat):Int)=m) m E
   have w3:cM .i64 ((b.toNat:Int) - 48)=(b.toNat:Int) - 48:=aB (by omega);have w4:cM .i64 (10*n+((b.toNat:Int) - 48))=10*n+((b.toNat:Int) - 48):=aB (by omega);simp only[Q,l,c,getD_map,U,dX,<-a,R,P,<-s,x,S,w1,w2,w3,w4,kp,RN,B,O];refine dF (10*n+((b.toNat:Int) - 48)) k1 rfl ⟨by omega,by rw[Int.pow_succ];omega,fun o=> ?_⟩ (by simp) (by simp) rfl rfl;have:=v o;obtain⟨r,K⟩:∃r,w.size - k=r+1:=⟨w.size - k - 1,by omega⟩
   rw[K,wV,<-s,if_pos ⟨by omega,by omega,o⟩]at this;rw[this,show w.size - (k+1)=r by omega]
  ·obtain⟨u,T,v⟩:=G
   have Z:min w.size 5<=5:=Nat.min_le_right _ _;have t:(10:Int) ^ (min w.size 5)<=100000:=by
    generalize min w.size 5=z at*
    rcases z with _| _| _| _| _| _|z
    ·decide
    ·decide
    ·decide
    ·decide
    ·decide
    ·decide
    ·omega
   have D:iL w=if n>9999\/dS n≠w then none else some n:=by
    by_cases o:w.size<=4
    ·have:=v o
     rw[show min w.size 5=w.size by omega]at this t T;rw[cK,wV]at this;have j:¬n>9999:=by
      have:(10:Int) ^ w.size<=10000:=by
       generalize w.size=z at o
       rcases z with _| _| _| _| _|z
       ·decide
       ·decide
       ·decide
       ·decide
       ·decide
       ·omega
      omega
     rw[iL,this];simp only
     by_cases e:dS n=w
     ·have M:w.size≠0:=by
       intro M;obtain⟨m,rfl⟩:=bp u;have h1:=(JD 3 m (by omega)).2;rw[<-size_data,<-e,Jc]at M;omega
      rw[if_pos ⟨M,by rw[e]⟩,if_neg (by intro h;rcases h with h|h;exact j h;exact h e)]
     ·rw[if_neg (fun h=>e (QB h.2)),if_pos (.inr e)]
    ·rw[acV (by omega)]
     by_cases j:n>9999
     ·rw[if_pos (.inl j)]
     ·have:=abG (n:=n) ⟨u,by omega⟩
      rw[if_pos (.inr (fun e=>by rw[e]at this;omega))]
   have aos:((min w.size 5:Nat):Int)<(w.size:Int)->¬((min w.size 5:Nat):Int)<5:=by omega
   by_cases p:((min w.size 5:Nat):Int)<(w.size:Int)
   all_goals(
    (first
     |(have I:=aos p;simp only[Q,l,c,getD_map,U,dX,<-a,p,I,RN,B,O])
     |simp only[Q,l,c,getD_map,U,dX,<-a,p,RN,B,O])
    by_cases j:n>9999
    ·simp only[j,RN,B,F,N]
     exact g (by rw[D,if_pos (.inl j)])
    simp only[j,RN,B];refine eH rfl rfl (Jj ⟨u,by omega⟩) ?_
    by_cases e:dS n=w
    ·have y:((dS n).toList==w.toList)=true:=by rw[yR];exact decide_eq_true e
     simp only[Q,l,c,getD_map,U,dX,<-a,fE,Mc,y,eX,fits_int,forall_eq,DV.strip,jC,RN,B,J,N,O];refine⟨by simp,by omega,?_⟩;simp only[W];rw[D,if_neg (by intro h;rcases h with h|h;exact j h;exact h e)]at r1;refine fF 0 2 (f++ [n],ver+1) c ?_ ⟨r1,by simp[r2]⟩ (by simp) (by simp) rfl rfl;simp only[am,aL,be,aH];rfl
    ·have y:((dS n).toList==w.toList)=false:=by rw[yR];exact decide_eq_false e
     simp only[Q,l,c,getD_map,U,dX,<-a,fE,Mc,y,RN,B,F,N,O];exact g (by rw[D,if_pos (.inr e)]))
 ·obtain⟨f,ver⟩:=q
  obtain⟨r1,r2⟩:=H;simp only at r1 r2;rw[ax,jg]at r1;simp only[ae,Q,RN,B];rw[r1];simp[datum,cu,dW,Mem.row,aat,je,RY]
def yN (s:ByteArray):s.data.toList.length=s.size:=size_data s
def akJ (s:ByteArray):lC (s++nlB)=true/\bT (s++nlB)=s:=by
 have a:(s++nlB).size=s.size+1:=by rw[a7];rfl
 have b:lC (s++nlB)=true:=by
  rw[lC,a];have:(s++nlB).extract (s.size+1 - 1) (s.size+1)=⟨#[10]⟩:=by
   refine QB ?_;rw[ES,qJ,cg,aq (by rw[V,yN];exact aM _),<-yN s,List.drop_left]
   rfl
  rw[yR,this];simp
 refine⟨b,?_⟩;rw[bT,if_pos b,a,cg];refine QB ?_;rw[ES,qJ,bE,List.take_append_of_le_length (by rw[yN];exact aM _),aq (by rw[yN];exact aM _)]
def entered (D:Dk)(l:List En):Dk:=l.foldl (fun D x=>(D.enter x).1) D
def WS (D:Dk)(l:List En)(x:En):entered D (l++ [x])=((entered D l).enter x).1:=by simp[entered]
def rdF (a b:Bool)(D:Dk):List DV:=[sF (D.su.pc.links.map Lk.dv),sF (D.su.pc.hands.map au),sF (D.su.tg.map Fr.dv),dI D.su.lim,dI D.su.dvd.eu,sF (D.su.dvd.cir.map au),dI D.su.cal.ep,sF (D.su.cal.cy.map au),dI D.su.jB.n,dI D.su.jB.d,dI D.su.jB.ad,sF (D.su.fs.map Fs.dv),dI D.su.year,dI D.su.gB,dI D.su.hours,dI D.su.lN,dI D.su.pct, .slice a (D.es.map En.dv), .slice b (D.st.map .bool)]
variable{D:Dk}
def AV {a b:Bool}:rdF a b D=[sF (D.su.pc.links.map Lk.dv),sF (D.su.pc.hands.map au),sF (D.su.tg.map Fr.dv),dI D.su.lim,dI D.su.dvd.eu,sF (D.su.dvd.cir.map au),dI D.su.cal.ep,sF (D.su.cal.cy.map au),dI D.su.jB.n,dI D.su.jB.d,dI D.su.jB.ad,sF (D.su.fs.map Fs.dv),dI D.su.year,dI D.su.gB,dI D.su.hours,dI D.su.lN,dI D.su.pct, .slice a (D.es.map En.dv), .slice b (D.st.map .bool)]:=by rw[rdF]
def Uu:List DV:=[.slice true [], .slice true [], .slice true [],dI 0,dI 0, .slice true [],dI 0, .slice true [],dI 0,dI 0,dI 0, .slice true [],dI 0,dI 0,dI 0,dI 0,dI 0, .slice true [], .slice true []]
def Qd:Uu=[.slice true [], .slice true [], .slice true [],dI 0,dI 0, .slice true [],dI 0, .slice true [],dI 0,dI 0,dI 0, .slice true [],dI 0,dI 0,dI 0,dI 0,dI 0, .slice true [], .slice true []]:=rfl
def lQ.aiS {d:Nat}{ce cs:PV}{bs:List (Option (List PV))}{fz:List Nat}{ar:List (Option Arr)}{y:Option (List PV)}(h:lQ D d ce cs ⟨bs,fz,ar⟩)(hi:i≠d):lQ D d ce cs ⟨bs.set i y,fz,ar⟩:=
 ⟨⟨by simp only;rw[bc hi];exact h.box,h.ent,h.str⟩,h.dif,h.nb,h.fzb.set⟩
def JF {s:Su}(hs:s.ok=true)(l:List En):(entered ⟨s,[],[]⟩ l).Live:=by
 induction l using rO with
 |h0=>exact ahF hs
 |h1 l x a=>rw[WS];exact IZ a x
def ace (h:D.Live){x:En}(a:Ai D x=0):Pure C 51 [Ny D,x.dv] (.d (Ny (D.with x))) []:=by
 have b:x.formed=true:=by cases e:x.formed with
  |true=>rfl
  |false=>unfold Ai at a;rw[if_pos e]at a;cases a
 have l:=En.BF b;have g:=h.ok.few;have j:=h.ok.len;have o:=wu b;refine ak0 D x (by omega) (by omega) (by omega) (fun k6=> ?_) l;have f:=uh b (i:=0) (by rw[k6];decide);have m:x.ns.length=gG x.kind:=by
  simp only[En.formed,an,decide_eq_true_eq]at b;exact b.1.2
 unfold Ai at a;have c:¬D.es.length>=24:=fun e=>by rw[if_neg (by simp[b]),if_pos e]at a;cases a
 rw[if_neg (by simp[b]),if_neg c,if_pos k6]at a;have k:¬x.n 0>=(D.es.length:Int):=fun e=>by rw[if_pos (.inl e)]at a;cases a
 refine⟨by rw[m,k6];decide,f.1,by omega⟩
end Go.Tel
namespace Go.Am
def amS {bs:List (Option (List PV))}{fz:List Nat}{ar:List (Option Arr)}{K:St->Prop}{k ver t sz st:Nat}{ts:List Nat}{xs:List DV}{env:List (Nat×PV)}(h:ar[k]?=some (some ⟨sz,xs,ver,st⟩)):
  PY (.tsl k ver 0) t ts K env ⟨bs,fz,ar⟩=uj ts K ⟨(t, .d (.slice false xs))::env,⟨bs,fz,ar.set k (some ⟨sz,xs,ver,2⟩)⟩⟩:=by
 rw[Go.Tel.Xa h,bE]
end Go.Am
namespace Go.Tel
open Go.Am
variable{M:Mem}{c:PV}
def ag7 {bs:List (Option (List PV))}{fz:List Nat}{ar:List (Option Arr)}{L:List Int}{t:Nat}{ts:List Nat}{env:List (Nat×PV)}{K:St->Prop}(hc:slN 1 true c (L.map au) ar)(a:∀k,kOf c=some k->M.aF.length<=k)(hf:Frm M ⟨bs,fz,ar⟩)
  (b:∀ex ar',Frm M ⟨bs,fz,ar'⟩->uj ts K ⟨(t, .d (.slice ex (L.map au)))::env,⟨bs,fz,ar'⟩⟩):PY c t ts K env ⟨bs,fz,ar⟩:=by
 rcases hc with⟨rfl,h⟩|⟨k,ver,st,rfl,h,_⟩
 ·have:=b true ar hf
  rw[h]at this;exact this
 ·rw[amS h]
  refine b false _ ⟨hf.len,by simpa using hf.bH,hf.box,hf.fz,fun j e=> ?_,hf.fzb⟩;have:=a k rfl;simp only;rw[bc (by omega)];exact hf.row j e
variable{base:Nat}{K:PV->Mem->Prop}{KP:DV->Mem->Prop}
def acU {C:Ctx}{p:PV}{e:Int}(a:p= .tup [c,pI e]\/(p= .d (.tup [.slice true [],dI e])/\c= .d (.slice true []))):
  (ay C base (.ext 0) [p] M K KP=K c M)/\ay C base (.ext 1) [p] M K KP=K (pI e) M:=by
 rcases a with rfl|⟨rfl,rfl⟩
 ·exact⟨qL,qM⟩
 ·exact⟨propext ⟨id,id⟩,propext ⟨id,id⟩⟩
def aff {α:Type}(f g:α->Int)(l:List α):(l.flatMap fun x=>[f x,g x]).length=2*l.length:=by
 induction l with
 |nil=>rfl
 |cons x l a=>rw[cl,V,a];simp;omega
variable{D:Dk}
def ajA (h:D.Ok)(q:Qn):(D.ask q).1.length<=1000:=by
 unfold Dk.ask
 split
 ·simp
 rename_i d
 split
 ·simp
 cases g:D.state (-1)with
 |none=>simp
 |some t=>
  simp only
  split
  ·have c:=h.L9 g
   have b:=Pc.good c.pc;have a:1<=q.kind/\q.kind<=12:=by simpa[inR]using d
   obtain⟨k,ns⟩:=q;simp only at a
   rcases Qb a with rfl|rfl|rfl|rfl|rfl|rfl|rfl|rfl|rfl|rfl|rfl|rfl
   ·have e:(Nb t.pc).length=2*t.pc.hands.length:=aff _ _ _
    have:(D.answer t ⟨1,ns⟩).1=Nb t.pc:=rfl;rw[this,e];have:=b.h2;omega
   ·have:(D.answer t ⟨2,ns⟩).1=Iy t.eG:=rfl
    rw[this,Iy,List.length_mergeSort];have:=c.st;omega
   ·have:(D.answer t ⟨3,ns⟩).1=lH t.op t.pc.hands.length:=rfl
    rw[this];have:=Dv t.op t.pc.hands.length;have:=b.h2;omega
   ·simp only[Dk.answer];simp;split<;>simp
   ·simp only[Dk.answer,nK];simp
    split
    ·split
     ·simp
     ·rw[MR];have:=EK t.pc (Qn.n ⟨5,ns⟩ 1) (Qn.n ⟨5,ns⟩ 2) (Qn.n ⟨5,ns⟩ 0);rename_i f _;have:=this f;omega
    ·simp
   ·simp only[Dk.answer];simp;split<;>simp
   ·simp[Dk.answer]
   ·simp only[Dk.answer];simp;split
    ·split<;>simp
    ·simp
   ·simp only[Dk.answer];simp;split<;>simp
   ·simp[Dk.answer]
   ·simp[Dk.answer]
   ·have:(D.answer t ⟨12,ns⟩).1=D.stands.map fun p=>(p.1:Int):=rfl
    rw[this,Q];exact aw (aw (xG _ _ _) h.few) (by decide)
  ·simp
def Two (D E:Dk)(d f:Nat)(M:Mem):Prop:=∃c cs a b,lQ D d c cs M/\lQ E f a b M/\d≠f/\∀k,LZ c cs k->¬LZ a b k
def lQ.new {bs:List (Option (List PV))}{fz:List Nat}{ar:List (Option Arr)}(a:FzB ⟨bs,fz,ar⟩)(s:Su){x1 x2:Option (List PV)}:lQ ⟨s,[],[]⟩ (bs.length+2) (.d (.slice true [])) (.d (.slice true [])) ⟨bs++ [x1,x2,some (iH s (.d (.slice true [])) (.d (.slice true [])))],(bs.length+1)::bs.length::fz,ar⟩:=by
 have b:Frm ⟨bs,fz,ar⟩ ⟨bs++ [x1,x2,some (iH s (.d (.slice true [])) (.d (.slice true [])))],(bs.length+1)::bs.length::fz,ar⟩:=Frm.new (xf:=[_,_]) (by intro i c;simp at c⊢;omega);refine⟨⟨?_, .inl ⟨rfl,rfl⟩, .inl ⟨rfl,rfl⟩⟩,(by intro k f;cases f),?_,b.fzb a⟩
 ·simp only;rw[bL (by omega)];simp
 ·intro e
  simp only[ai]at e
  rcases e with e|e|e
  ·omega
  ·omega
  ·have:=a _ e;simp only at this;omega
def allB (D:Dk)(p:Pc):List (Option (List PV)):=[some ((P6 D).map .d),some (D.su.cs.map .d),some [.d (sF (p.links.map Lk.dv)), .d (sF (p.hands.map au))]]
def vT (D:Dk)(p:Pc){m:Nat}:((allB D p).all fun c=>(c.getD []).all fun p=>p.upto 3 m)=true:=by simp[allB,PV.upto]
def zi (l:List En)(n:Nat):List Int:=(b0 n).flatMap fun(i:Nat)=>if(bn l (i:Int)).2 then[(i:Int),(bn l (i:Int)).1.n,(bn l (i:Int)).1.d]else[]
def OE (l:List En)(n:Nat):zi l (n+1)=zi l n++if(bn l (n:Int)).2 then[(n:Int),(bn l (n:Int)).1.n,(bn l (n:Int)).1.d]else[]:=by simp[zi,b2]
def Sj (l:List En):∀n,(zi l n).length<=3*n
 |0=>by simp[zi]
 |n+1=>by
  have:=Sj l n;rw[OE,V]
  split<;>simp<;>omega
def Yc (h:D.Live):D.ask ⟨3,[]⟩=(zi (aN D (-1)) D.su.pc.hands.length,0):=by
 obtain⟨t,c,b,a⟩:=h.t;rw[vU c (by decide) rfl];have e:lH t.op t.pc.hands.length=zi (aN D (-1)) D.su.pc.hands.length:=by
  rw[a.hh,lH,zi]
  congr 1
  funext i
  rw[Du,b.op]
  split<;>simp_all
 simp[Dk.answer,e]
def aev {s:Su}(l:List En):(∀x∈l,x.Fit s)->0<=tY l/\tY l<=9999*(l.length:Int):=by
 induction l using rO with
 |h0=>exact fun _=>⟨cL _,cL _⟩
 |h1 l x b=>
  intro h;obtain⟨c,d⟩:=b fun y a=>h y (by simp[a])
  rw[nY,V];simp only[aR,bl]
  split
  ·rename_i k
   have:=uh (h x (by simp)).fm (i:=1) (by rw[k];decide);omega
  ·omega
def ajx (p:Nat->Bool)(k:Nat):(b0 (k+1)).any p=((b0 k).any p||p k):=by rw[b2,ct];simp
def Ye (D:Dk)(i k:Nat):Bool:=(b0 k).any fun k=> !inR ((D.ask ⟨6,[(k:Int),(i:Int)+1]⟩).1.getD 0 0) (-D.su.lim) D.su.lim
def JQ (p:Pc)(n:Nat):List Int:=(p.hands.take n).flatMap (xK p)
def aby {p:Pc}{n:Nat}(h:n<p.hands.length):JQ p (n+1)=JQ p n++xK p (p.hands.getD n default):=by rw[JQ,aP h,b9];simp[JQ]
def aii (p:Pc){m:Int}(c:1<=m)(h1:m<=p.links.length):(lI p).getD m.toNat default=bM (aU p.links m.toNat):=by
 obtain⟨k,b⟩:∃k,m.toNat=k+1:=⟨m.toNat - 1,by omega⟩
 have a:k<p.links.length:=by omega
 rw[b,lI,List.getD_cons_succ,aD,cm,List.getElem?_range a]
 rfl
def IK (D:Dk)(k:Int):Bool:=if k=2 then stE (aN D (-1))else decide (k=7\/k=11)
def anI (h:D.Live)(k:Int)(hk:k=1\/k=2\/k=3\/k=7\/k=11\/k=12):Pure C 147 [Ny D,dI k] (.d (.slice (IK D k) ((D.ask ⟨k,[]⟩).1.map au))) []:=by
 obtain⟨A,q⟩:∃A,A=aN D (-1):=⟨_,rfl⟩
 have b:=h.fits (-1);have ac:=h.goes;rw[<-q]at b ac;have apn:A.length<=24:=by have:=DX D (-1);rw[<-q]at this;have:=h.ok.few;omega
 have R:=h.ok.su;have Y:=F9 D h.ok.len (by have:=h.ok.few;omega) (-1);rw[vw,<-q]at Y;have hP:=wG D.su R A b (by omega);obtain⟨p,f⟩:∃p,p=bV D.su A:=⟨_,rfl⟩
 have av:p.ok=true:=by rw[f];exact Cm R A b
 have L:p.hands=D.su.pc.hands:=by rw[f];exact pz _ _
 rw[<-f,dR,dD]at hP;have g:=Pc.good av;refine bF (aC Ej aI ?_);rw[vw];simp only[Ej,aI,RN,B,F,I,N,O];refine ak Y ?_;(try simp only[RN,B,F,J,O]);refine ak hP ?_;(try simp only[RN,B,F,J,N,O]);have hR:=fun(i:Nat) (hi:i<p.hands.length)=>Lu p av (a:=(p.hands.getD i default).toNat) (by have:=g.hd _ (getD_mem hi);omega)
 simp only[dD,bJ]at hR;have aL:((1:Int)==1)=true:=rfl
 rcases hk with rfl|rfl|rfl|rfl|rfl|rfl
 ·rw[U2 h,<-q,<-f]
  simp only[aL,RN,B,F];refine aG p.hands.length (fun i (v:Nat)=>⟨[(7, .d (chP p)),(8, .tsl 1 v 0),(9,pI i)],⟨allB D p,[2,1,0],[some ⟨1,[],0,0⟩,some ⟨1,(JQ p i).map au,v,0⟩]⟩⟩)
   (fun _ _=>True) 0 0 (ab _) rfl trivial (fun i v c _=> ?_) (fun v _=> ?_)
  ·obtain⟨T,V,o⟩:=rng c (by have:=g.h2;omega)
   have G:=g.hd _ (getD_mem c);have aw:=hR i c;rw[show(((p.hands.getD i default).toNat:Nat):Int)=p.hands.getD i default by omega]at aw;simp only[chP,allB,T,V,c,getD_map,aH,U,Q,RN,B,F,I,O];refine ak aw ?_;simp only[Bz,o,Q,RN,B,F,J,N,O];have K:=Ot p (p.hands.take i);rw[ap]at K;have aox:(JQ p i).length<=8:=by have:=g.h2;rw[JQ,K];omega
   refine⟨by rintro y (rfl|rfl)<;>rfl,by simp,by omega,?_⟩;refine fF 3 2 (v+1) c ?_ trivial (by simp) (by simp) rfl (vT D p);rw[aby c,am,xK,aii p G.1 G.2]
   rfl
  ·simp only[chP,ae,Q,RN,B,F,O]
   have e:JQ p p.hands.length=Nb p:=by rw[JQ,az];rfl
   have j:IK D 1=false:=by simp[IK]
   rw[e,j];simp[datum,Mem.row]
 ·rw[U3 h,<-q]
  have w:((2:Int)==1)=false:=rfl;have E:((2:Int)==2)=true:=rfl;have hK:=ZK D.su R A b (by omega);have j:IK D 2=stE A:=by rw[IK,if_pos rfl,q]
  rw[dR]at hK;rw[j];simp only[w,E,RN,B,F,O];refine ak hK ?_;(try simp only[RN,B,F,I,J,N,O])
  rfl
 ·have ao:=Yc h
  rw[<-q,<-L]at ao;rw[ao];have w:((3:Int)==1)=false:=rfl;have E:((3:Int)==2)=false:=rfl;have P:((3:Int)==3)=true:=rfl;have W:=fun i=>Ls A i (fun x hx=>wK (b x hx)) (by omega)
  simp only[bJ]at W;simp only[w,E,P,RN,B,F];refine aG p.hands.length (fun i (v:Nat)=>⟨[(6, .d (sF (A.map En.dv))),(7, .d (chP p)),(8, .tsl 1 v 0),(11,pI i)],⟨allB D p,[2,1,0],[some ⟨1,[],0,0⟩,some ⟨1,(zi A i).map au,v,0⟩]⟩⟩)
   (fun _ _=>True) 0 0 (ab _) (by rw[show zi A 0=[] from by simp[zi]];rfl) trivial (fun i v c _=> ?_) (fun v _=> ?_)
  ·obtain⟨T,V,o⟩:=rng c (by have:=g.h2;omega)
   have l:=OE A i;have K:=Sj A i;have a2:=g.h2;simp only[chP,allB,T,Q,RN,B,F,O];refine ak (W i) ?_;simp only[RN,B,F,J,O];cases ko:(bn A i).2
   ·rw[ko]at l
    simp only[bB,if_false,bh]at l;simp only[o,RN,B,F];refine fF 3 2 v c ?_ trivial (by simp) (by simp) rfl (vT D p);rw[l]
    rfl
   ·rw[ko,if_pos rfl]at l
    simp only[ER,o,Q,RN,B,F,J,N,O];refine⟨by rintro y (rfl|rfl|rfl)<;>rfl,by simp,by omega,?_⟩;refine fF 3 2 (v+1) c ?_ trivial (by simp) (by simp) rfl (vT D p);rw[l,am]
    rfl
  ·simp only[chP,ae,Q,RN,B,F,O]
   have j:IK D 3=false:=by simp[IK]
   rw[j];simp[datum,Mem.row]
 ·obtain⟨t,ht,aE⟩:=U4 h
  have aq:=fun(k:Nat) (d:Int) hk h0 h1=>WA h (k:=k) (d:=d) hk h0 h1
  have Z:=fun(i:Nat) hi=>bad_law h ht (i:=i) hi
  rw[aE];simp only[<-q,<-f]at aq;have w:((7:Int)==1)=false:=rfl;have E:((7:Int)==2)=false:=rfl;have P:((7:Int)==3)=false:=rfl;have q7:((7:Int)==7)=true:=rfl;have j:IK D 7=true:=by simp[IK]
  have a1:=mP D.su;have a0:=QL D.su;have H:=XA D.su R;rw[dR]at H;have W:=fun(k:Nat) (d:Int) (hk:k<D.su.pc.hands.length) (hd:1<=d/\d<=366)=>ZJ D.su R A b ac (by omega) (k:Int) d (by omega) (show((k:Int)).toNat<D.su.pc.hands.length by simpa using hk) hd
  simp only[dR,<-f]at W;have aM:0<=D.su.lim/\D.su.lim<=10800:=by have:=(Su.facts R).2.2.1;simpa[inR]using this
  have w1:cM .i64 (0 - D.su.lim)= -D.su.lim:=by rw[aB (by omega)];omega
  rw[j];simp only[w,E,P,q7,RN,B,F];refine aG D.su.days.length (fun i (_:Unit)=>⟨[(5, .d (.aV D.su.cs)),(6, .d (sF (A.map En.dv))),(7, .d (chP p)),(14,pI (nI D.su t i)),(15, .d (dI ((i:Int)+1)))],⟨allB D p,[2,1,0],[some ⟨1,[],0,0⟩,some ⟨1,[],0,0⟩]⟩⟩)
   (fun _ _=>True) 0 () (ab _) rfl trivial (fun i _ c _=> ?_) (fun _ _=> ?_)
  ·have y1:(i:Int)+1<=o7 (D.su.cal.leap D.su.year):=by omega
   have o:cM .i64 ((i:Int)+1+1)=((i+1:Nat):Int)+1:=by rw[aB (by omega)];omega
   simp only[lS,RN,B,F,O];refine ak H ?_;simp only[y1,RN,B];refine aG p.hands.length (fun k (_:Unit)=>⟨[(5, .d (.aV D.su.cs)),(6, .d (sF (A.map En.dv))),(7, .d (chP p)),(14,pI (nI D.su t i)),(15, .d (dI ((i:Int)+1))),(16, .d (.bool (Ye D i k))),(17,pI k)],⟨allB D p,[2,1,0],[some ⟨1,[],0,0⟩,some ⟨1,[],0,0⟩]⟩⟩)
    (fun _ _=>True) 0 () (ab _) (by rw[lS];rfl) trivial (fun k _ k1 _=> ?_) (fun _ _=> ?_)
   ·obtain⟨k2,k3,k6⟩:=rng k1 (by have:=g.h2;omega)
    have ai:k<D.su.pc.hands.length:=by rw[<-L];exact k1
    have hv:=aq k ((i:Int)+1) ai (by omega) (by omega);have aD:=W k ((i:Int)+1) ai (by omega);have r:Ye D i (k+1)=(Ye D i k|| !inR (RZ p k (pK D.su A k) (zT A ((i:Int)+1))) (-D.su.lim) D.su.lim):=by
     rw[Ye,ajx,hv];rfl
    cases G:Ye D i k
    ·rw[G,ca]at r
     simp only[chP,lS,k2,Q,RN,B,F,O];refine ak aD ?_;simp only[w1];refine ak (ZU _ _ _) ?_;simp only[k6,RN];exact dF () k1 (by rw[r];rfl) trivial (by simp[allB]) (by simp) rfl (vT D p)
    ·rw[G,cG]at r
     simp only[chP,lS,k2,Q,k6,RN,B,F,O];exact dF () k1 (by rw[r];rfl) trivial (by simp[allB]) (by simp) rfl (vT D p)
   ·have ax:IL D.su t i=Ye D i p.hands.length:=by rw[Z i c,Ye,L]
    have m:=PU D.su t i;rw[ax]at m;have a3:=Ws D.su t i;have w2:cM .i64 (nI D.su t i+1)=nI D.su t i+1:=aB (by omega);cases G:Ye D i p.hands.length
    ·rw[G]at m
     simp only[chP,ae,Q,o,RN,B,F,O];exact dF () c (by rw[m];rfl) trivial (by simp[allB]) (by simp) rfl (vT D p)
    ·rw[G]at m
     simp only[chP,ae,Q,w2,o,RN,B,F,O];exact dF () c (by rw[m];rfl) trivial (by simp[allB]) (by simp) rfl (vT D p)
  ·have y1:¬(D.su.days.length:Int)+1<=o7 (D.su.cal.leap D.su.year):=by omega
   simp only[lS,RN,B,F,O];refine ak H ?_;simp only[y1,eX,DV.strip,RN,B]
   rfl
 ·rw[U1 h,<-q]
  have w:((11:Int)==1)=false:=rfl;have E:((11:Int)==2)=false:=rfl;have P:((11:Int)==3)=false:=rfl;have q7:((11:Int)==7)=false:=rfl;have M:((11:Int)==11)=true:=rfl;have j:IK D 11=true:=by simp[IK]
  rw[j];simp only[w,E,P,q7,M,RN,B,F];refine aG A.length (fun i (_:Unit)=>⟨[(6, .d (sF (A.map En.dv))),(18, .d (dI (tY (A.take i)))),(19,pI i)],⟨allB D p,[2,1,0],[some ⟨1,[],0,0⟩,some ⟨1,[],0,0⟩]⟩⟩)
   (fun _ _=>True) 0 () (ab _) rfl trivial (fun i _ c _=> ?_) (fun _ _=> ?_)
  ·obtain⟨T,V,o⟩:=rng c (by omega)
   obtain⟨x,u⟩:∃x,x=A.getD i default:=⟨_,rfl⟩
   have hx:x.Fit D.su:=by rw[u];exact b _ (getD_mem c)
   have an:=wK hx;have s:tY (A.take (i+1))=if x.kind=4 then tY (A.take i)+x.n 1 else tY (A.take i):=by rw[aP c,<-u,nY]
   simp only[T,V,c,getD_map,<-u,dA,U,Q,RN,B,F,O]
   by_cases S:x.kind=4
   ·have z:(x.kind==4)=true:=by simp[S]
    have l2:x.ns.length=2:=by rw[an,S];rfl
    have l1:1<x.ns.length:=by omega
    have j1:(0:Int)<=1:=by omega
    have aR:=aev (A.take i) fun y hy=>b y (bk hy)
    have a4:(A.take i).length<=24:=by rw[ap];omega
    have a5:0<=x.n 1/\x.n 1<=9999:=uh hx.fm (by rw[S];decide);have e1:x.ns.getD 1 default=x.n 1:=rfl;have w1:cM .i64 (tY (A.take i)+x.n 1)=tY (A.take i)+x.n 1:=aB (by omega);rw[if_pos S]at s;simp only[z,V,c,getD_map,<-u,dA,U,Q,j1,t1,l1,aH,e1,w1,o,RN,B,F,O];exact aW () c (by rw[s]) trivial
   ·have z:(x.kind==4)=false:=beq_false_of_ne S
    rw[if_neg S]at s;simp only[z,o,RN,B];exact aW () c (by rw[s]) trivial
  ·simp only[ae,Q,az,eX,DV.strip,RN,B]
   rfl
 ·rw[Qy h]
  have w:((12:Int)==1)=false:=rfl;have E:((12:Int)==2)=false:=rfl;have P:((12:Int)==3)=false:=rfl;have q7:((12:Int)==7)=false:=rfl;have M:((12:Int)==11)=false:=rfl;have X:=VP D h.ok.len (by have:=h.ok.few;omega);have apP:(fZ D).map Zc=((fZ D).map fun(i:Nat)=>(i:Int)).map au:=by rw[cJ];rfl
  have j:IK D 12=false:=by simp[IK]
  rw[apP,vw]at X;rw[j];simp only[w,E,P,q7,M,RN,B,F,O];refine ak X ?_;(try simp only[RN,B,F,I,J,N,O])
  rfl
def yP (k:Int):Int:=if 1<=k/\k<=12 then(JZ k:Int)else -1
def ah5 (k:Int):Pure C 134 [dI k] (pI (yP k)) []:=by
 refine ah KY aJ ?_;simp only[KY,aJ,RN,B];cases z1:(k==1)
 case true=>
  rw[show k=1 from by simpa using z1]
  (try(try simp only[RN,B]))
  rfl
 (try simp only[RN,B]);cases d:(k==2)
 case true=>
  rw[show k=2 from by simpa using d]
  (try(try simp only[RN,B]))
  rfl
 (try simp only[RN,B]);cases e:(k==3)
 case true=>
  rw[show k=3 from by simpa using e]
  (try(try simp only[RN,B]))
  rfl
 (try simp only[RN,B]);cases i:(k==7)
 case true=>
  rw[show k=7 from by simpa using i]
  (try(try simp only[RN,B]))
  rfl
 (try simp only[RN,B]);cases b:(k==11)
 case true=>
  rw[show k=11 from by simpa using b]
  (try(try simp only[RN,B]))
  rfl
 (try simp only[RN,B]);cases c:(k==12)
 case true=>
  rw[show k=12 from by simpa using c]
  (try(try simp only[RN,B]))
  rfl
 (try simp only[RN,B]);cases f:(k==4)
 case true=>
  rw[show k=4 from by simpa using f]
  (try(try simp only[RN,B]))
  rfl
 (try simp only[RN,B]);cases j:(k==8)
 case true=>
  rw[show k=8 from by simpa using j]
  (try(try simp only[RN,B]))
  rfl
 (try simp only[RN,B]);cases l:(k==9)
 case true=>
  rw[show k=9 from by simpa using l]
  (try(try simp only[RN,B]))
  rfl
 (try simp only[RN,B]);cases a:(k==10)
 case true=>
  rw[show k=10 from by simpa using a]
  (try(try simp only[RN,B]))
  rfl
 (try simp only[RN,B]);cases h:(k==6)
 case true=>
  rw[show k=6 from by simpa using h]
  (try(try simp only[RN,B]))
  rfl
 (try simp only[RN,B]);cases g:(k==5)
 case true=>
  rw[show k=5 from by simpa using g]
  (try(try simp only[RN]))
  rfl
 (try simp only[RN]);simp only[beq_eq_false_iff_ne,ne_eq]at z1 d e i b c f j l a h g;rw[yP,if_neg (by omega)]
def ad3 (h:D.Live)(n:Int):D.ask ⟨4,[n]⟩=if inR n 0 ((D.su.pc.hands.length:Int) - 1)then([Jh D.su (bV D.su (aN D (-1))) n],0)else([],2):=by
 obtain⟨t,d,c,a⟩:=h.t;rw[vU d (by decide) rfl];cases k:inR n 0 ((D.su.pc.hands.length:Int) - 1)
 ·simp[Dk.answer,Qn.n,k]
 ·have b:0<=n/\n<=(D.su.pc.hands.length:Int) - 1:=by simpa[inR]using k
  have e:=VJ h.ok.su a.pc b.1 (by rw[a.hh];omega);simp[Dk.answer,Qn.n,k,e,c.pc]
def agj (h:D.Live)(a b c:Int):D.ask ⟨5,[a,b,c]⟩=wU D.su (aN D (-1)) a b c:=by
 obtain⟨t,d,g,f⟩:=h.t;rw[vU d (by decide) rfl,<-ahK h d];have e:D.answer t ⟨5,[a,b,c]⟩=nK D t a b c:=by simp[Dk.answer,Qn.n]
 rw[e]
def agk (h:D.Live)(a d:Int):D.ask ⟨6,[a,d]⟩=if inR a 0 ((D.su.pc.hands.length:Int) - 1)&&inR d 1 D.su.days.length then([RZ (bV D.su (aN D (-1))) a (pK D.su (aN D (-1)) a) (zT (aN D (-1)) d)],0)else([],2):=by
 cases k:inR a 0 ((D.su.pc.hands.length:Int) - 1)&&inR d 1 D.su.days.length
 ·obtain⟨t,b,f,c⟩:=h.t
  rw[vU b (by decide) rfl];simp[Dk.answer,Qn.n,k]
 ·simp only[an]at k
  have h1:0<=a/\a<=(D.su.pc.hands.length:Int) - 1:=by simpa[inR]using k.1
  have h2:1<=d/\d<=(D.su.days.length:Int):=by simpa[inR]using k.2
  have e:=WA h (k:=a.toNat) (d:=d) (by omega) h2.1 (by omega);rw[show((a.toNat:Nat):Int)=a by omega]at e;rw[e,if_pos rfl]
def alM (o:Option Int):List Int×Int:=match o with|some d=>([d],0)|none=>([],5)
def aaG (h:D.Live)(n:Int):D.ask ⟨8,[n]⟩=if inR n 1 D.su.days.length then alM (lX D.pR ((D.su.days.length:Int)+1 - n).toNat n)else([],2):=by
 obtain⟨t,a,d,c⟩:=h.t;rw[vU a (by decide) rfl];cases k:inR n 1 D.su.days.length
 ·simp[Dk.answer,Qn.n,k]
 ·cases b:lX D.pR ((D.su.days.length:Int)+1 - n).toNat n<;>simp[Dk.answer,Qn.n,k,b,alM]
def agi (h:D.Live)(n:Int):D.ask ⟨9,[n]⟩=if inR n 1 D.su.days.length then([(EM D.su.cal D.su.year.toNat (D.su.first+(n - 1))).m,(EM D.su.cal D.su.year.toNat (D.su.first+(n - 1))).d],0)else([],2):=by
 obtain⟨t,a,c,b⟩:=h.t;rw[vU a (by decide) rfl];cases k:inR n 1 D.su.days.length<;>simp[Dk.answer,Qn.n,k]
def agh (h:D.Live)(n:Int):D.ask ⟨10,[n]⟩=if inR n 1 400 then(if(D.su.dvd.first n).isSome then([(ahv (D.su.dvd.first n)).circle,(ahv (D.su.dvd.first n)).turns,(ahv (D.su.dvd.first n)).holes],0)else([],5))else([],2):=by
 obtain⟨t,a,c,b⟩:=h.t;have hd:=(Su.facts h.ok.su).2.2.2.1;rw[vU a (by decide) rfl];have e:D.answer t ⟨10,[n]⟩=([(D.su.dvd.cuts n).1.circle,(D.su.dvd.cuts n).1.turns,(D.su.dvd.cuts n).1.holes],(D.su.dvd.cuts n).2):=by simp[Dk.answer,Qn.n]
 rw[e,Dvd.cuts,hd,Dvd.first];cases k:inR n 1 400
 ·simp
 ·cases Bo D.su.dvd.eu n 0 D.su.dvd.cir<;>simp[ahv]
def ajz {q:Qn}(h:(q.ns.length:Int)≠yP q.kind):D.ask q=([],2):=by
 unfold Dk.ask
 by_cases k:inR q.kind 1 12=false
 ·rw[if_pos k]
 ·rw[if_neg k]
  have a:1<=q.kind/\q.kind<=12:=by simpa[inR]using k
  rw[yP,if_pos a]at h;rw[if_pos (fun e=>h (by rw[e]))]
def EH (D:Dk)(q:Qn):Bool:=if q.kind=1\/q.kind=2\/q.kind=3\/q.kind=7\/q.kind=11\/q.kind=12 then(if(q.ns.length:Int)=yP q.kind then IK D q.kind else true)else if q.kind=5 then decide ((q.ns.length:Int)≠yP q.kind)else true
def anJ (h:D.Live)(q:Qn):Pure C 54 [Ny D,q.dv] (.d (.tup [.slice (EH D q) ((D.ask q).1.map au),dI (D.ask q).2])) []:=by
 obtain⟨kind,ns⟩:=q;obtain⟨A,G⟩:∃A,A=aN D (-1):=⟨_,rfl⟩
 have j:=h.fits (-1);have V:=h.goes;rw[<-G]at j V;have apn:A.length<=24:=by have:=DX D (-1);rw[<-G]at this;have:=h.ok.few;omega
 have o:=h.ok.su;have R:=F9 D h.ok.len (by have:=h.ok.few;omega) (-1);rw[vw,<-G]at R;have hQ:=ah5 kind;refine ah Ei bZ ?_;rw[vw,QO];simp only[Ei,bZ,Q,RN,B,F,O];refine ak hQ ?_
 by_cases u:(ns.length:Int)=yP kind
 case neg=>
  have z:((ns.length:Int) !=yP kind)=true:=by simp[u]
  have e:EH D ⟨kind,ns⟩=true:=by simp[EH,u]
  rw[ajz u,e];simp only[z,RN,B,F]
  try rfl
 have z:((ns.length:Int) !=yP kind)=false:=by simp[u]
 simp only[z,RN,B,F,I,O];refine ak R ?_;have H:1<=kind/\kind<=12:=by
  by_cases H:1<=kind/\kind<=12
  ·exact H
  ·rw[yP,if_neg H]at u;omega
 have x:ns.length=JZ kind:=by rw[yP,if_pos H]at u;omega
 (try simp only[RN,B,F,J,O]);have j1:(0:Int)<=1:=by omega
 have hP:=wG D.su o A j (by omega);obtain⟨p,l⟩:∃p,p=bV D.su A:=⟨_,rfl⟩
 have X:p.ok=true:=by rw[l];exact Cm o A j
 have W:p.hands=D.su.pc.hands:=by rw[l];exact pz _ _
 rw[<-l,dR,dD]at hP;have g:=Pc.good X;have aw:=g.h2;have v:=fun n=>Xz D.su (by rw[<-W];omega) n
 have T:=QL D.su;have ao:=mP D.su;have r:=fun n=>ZH D.su o n
 simp only[dR,<-T]at v r;cases z4:(kind==4)
 case true=>
  obtain rfl:kind=4:=by simpa using z4
  obtain⟨n,rfl⟩:∃n,ns=[n]:=by match ns,x with| [n],_=>exact⟨n,rfl⟩
  have e:EH D ⟨4,[n]⟩=true:=by simp[EH]
  rw[ad3 h,e,<-G,<-l];simp only[j0,t0,aH,RN,B,F,N,O];refine ak (v n) ?_;cases k1:inR n 0 ((D.su.pc.hands.length:Int) - 1)
  ·(try simp only[RN,B,F])
   rfl
  have y:0<=n/\n<=(D.su.pc.hands.length:Int) - 1:=by simpa[inR]using k1
  have P:=Ti D.su o p X n y.1 (by rw[W];omega);rw[dR,dD]at P;simp only[j0,t0,RN,B,F,N,O];refine ak hP ?_
  try simp only[j0,t0,aH,RN,B,F,I,J,N,O]
  refine ak P ?_;simp only[eX,DV.strip,RN]
  rfl
 simp only[RN,B,F];cases z5:(kind==5)
 case true=>
  obtain rfl:kind=5:=by simpa using z5
  obtain⟨a,b,c,rfl⟩:∃a b c,ns=[a,b,c]:=by match ns,x with| [a,b,c],_=>exact⟨a,b,c,rfl⟩
  have e:EH D ⟨5,[a,b,c]⟩=false:=by rw[EH,if_neg (by simp),if_pos rfl];exact decide_eq_false (fun h=>h u)
  have hN:=akY D.su o A j (by omega) [a,b,c] rfl;rw[dR]at hN;rw[agj h,e,<-G];simp only[RN,B,F,O];refine ak hN ?_;(try simp only[RN])
  try rfl
 simp only[RN,B,F];cases z6:(kind==6)
 case true=>
  obtain rfl:kind=6:=by simpa using z6
  obtain⟨a,d,rfl⟩:∃a d,ns=[a,d]:=by match ns,x with| [a,d],_=>exact⟨a,d,rfl⟩
  have e:EH D ⟨6,[a,d]⟩=true:=by simp[EH]
  rw[agk h,e,<-G,<-l];simp only[j0,t0,aH,RN,B,F,N,O];refine ak (v a) ?_;cases k1:inR a 0 ((D.su.pc.hands.length:Int) - 1)
  ·simp only[Z,RN,B,F]
   rfl
  simp only[j1,t1,RN,B,F,N,O];refine ak (r d) ?_;cases E:inR d 1 D.su.days.length
  ·simp only[RN,B,F]
   rfl
  have ha:0<=a/\a<=(D.su.pc.hands.length:Int) - 1:=by simpa[inR]using k1
  have hd:1<=d/\d<=(D.su.days.length:Int):=by simpa[inR]using E
  have hO:=ZJ D.su o A j V (by omega) a d ha.1 (by omega) (by omega);rw[dR,<-l]at hO;simp only[j0,j1,t0,t1,RN,B,F,N,O];refine ak hO ?_;simp only[eX,DV.strip,RN]
  rfl
 simp only[RN,B,F];cases z8:(kind==8)
 case true=>
  obtain rfl:kind=8:=by simpa using z8
  obtain⟨n,rfl⟩:∃n,ns=[n]:=by match ns,x with| [n],_=>exact⟨n,rfl⟩
  have e:EH D ⟨8,[n]⟩=true:=by simp[EH]
  rw[aaG h,e];simp only[j0,t0,aH,RN,B,F,N,O];refine ak (r n) ?_;cases E:inR n 1 D.su.days.length
  ·(try simp only[RN,B,F])
   rfl
  have y:1<=n/\n<=(D.su.days.length:Int):=by simpa[inR]using E
  have w:=XA D.su o;have S:=fun n y=>ZO D.su o n y
  simp only[dR,<-T]at w S;obtain⟨m,ai⟩:∃m:Nat,m=((D.su.days.length:Int)+1 - n).toNat:=⟨_,rfl⟩
  rw[<-ai];simp only[if_true];simp only[j0,t0,RN,B,F,N,O];refine aG m (fun i (_:Unit)=>⟨[(6, .d (.aV D.su.cs)),(9,pI (n+i))],⟨[some ((P6 D).map .d),some [pI 8, .d (.slice false [dI n])],some (D.su.cs.map .d)],[2,1,0],[]⟩⟩)
   (fun i _=>lX D.pR m n=lX D.pR (m - i) (n+i)) 0 () (ab _) (by rw[cn,cH];rfl) (by rw[Nat.sub_zero,cn,cH]) (fun i _ g1 f=> ?_) (fun _ f=> ?_)
  ·have y1:n+(i:Int)<=(D.su.days.length:Int):=by omega
   have g6:cM .i64 (n+(i:Int)+1)=n+((i+1:Nat):Int):=by rw[aB (by omega)];omega
   obtain⟨k,H⟩:∃k,m - i=k+1:=⟨m - i - 1,by omega⟩
   have ae:m - (i+1)=k:=by omega
   have am:D.pR (n+i)=D.su.works (D.su.first+(n+i) - 1):=by rw[Dk.pR,acZ (by omega) (by omega)]
   rw[H,lX,am]at f;simp only[lS,RN,B,F,O];refine ak w ?_;simp only[y1,RN,B,F,O];refine eH rfl rfl (S (n+i) (by omega)) ?_;cases hw:D.su.works (D.su.first+(n+i) - 1)
   ·rw[hw]at f
    simp only[bB,if_false]at f;simp only[g6,RN,B,F];exact dF () g1 rfl (by rw[ae,f];congr 1;omega) (by simp) (by simp) rfl (by simp[PV.upto])
   ·rw[hw,if_pos rfl]at f
    rw[f];simp only[eX,DV.strip,RN,B,F]
    rfl
  ·have y1:¬n+(m:Int)<=(D.su.days.length:Int):=by omega
   rw[cK,lX]at f;rw[f];simp only[lS,RN,B,F,O];refine ak w ?_;simp only[y1,RN,B,F]
   rfl
 simp only[RN,B,F];cases z9:(kind==9)
 case true=>
  obtain rfl:kind=9:=by simpa using z9
  obtain⟨n,rfl⟩:∃n,ns=[n]:=by match ns,x with| [n],_=>exact⟨n,rfl⟩
  have e:EH D ⟨9,[n]⟩=true:=by simp[EH]
  rw[agi h,e];simp only[j0,t0,aH,RN,B,F,N,O];refine ak (r n) ?_;cases E:inR n 1 D.su.days.length
  ·(try simp only[RN,B,F])
   rfl
  have y:1<=n/\n<=(D.su.days.length:Int):=by simpa[inR]using E
  obtain⟨h1,h2,h3,h4,h5,h6,h7,h8,h9,an⟩:=Su.facts o;have ap:=(Cal.facts h5).1;have av:D.su.cal.ep+365*D.su.year.toNat<=D.su.first/\D.su.first<=D.su.cal.ep+366*D.su.year.toNat:=D.su.cal.jy D.su.year.toNat;have hF:=Tf D.su.cal h5 D.su.year.toNat (by omega);have Y:((D.su.year.toNat:Nat):Int)=D.su.year:=by omega
  have U:D.su.cal.first D.su.year.toNat=D.su.first:=rfl;have aq:D.su.cal.first (D.su.year.toNat+1)=D.su.first+o7 (D.su.cal.leap D.su.year):=by rw[Cal.first,U,Y]
  have M:=akU D.su.cal h5 D.su.year.toNat (by omega) (D.su.first+n - 1) (by omega) (by omega);rw[Y,U,dY]at hF;rw[dY,oh]at M;have w1:cM .i64 (D.su.first+n)=D.su.first+n:=aB (by omega);have w2:cM .i64 (D.su.first+n - 1)=D.su.first+n - 1:=aB (by omega);rw[show D.su.first+(n - 1)=D.su.first+n - 1 by omega];simp only[j0,t0,RN,B,F,I,N,O];refine ak hF ?_;simp only[w1,w2,RN];refine ak M ?_;simp only[Bz,RN,B,F,J,O]
  rfl
 simp only[RN,B,F];cases ac:(kind==10)
 case true=>
  obtain rfl:kind=10:=by simpa using ac
  obtain⟨n,rfl⟩:∃n,ns=[n]:=by match ns,x with| [n],_=>exact⟨n,rfl⟩
  have e:EH D ⟨10,[n]⟩=true:=by simp[EH]
  have hd:=(Su.facts o).2.2.2.1;rw[agh h,e];simp only[j0,t0,aH,RN,B,F,N,O];refine ak (ach n) ?_;cases E:inR n 1 400
  ·(try simp only[RN,B,F])
   rfl
  have y:1<=n/\n<=400:=by simpa[inR]using E
  have L:=VU D.su.dvd n hd y.1;rw[rY,JE]at L;simp only[j0,t0,RN,B,F,I,N,O];refine ak L ?_;cases k3:(D.su.dvd.first n).isSome
  ·(try simp only[RN,B,F,J,O])
   rfl
  simp only[ER,RN,B,F,J,O]
  rfl
 simp only[RN,B,F,O];simp only[beq_eq_false_iff_ne,ne_eq]at z4 z5 z6 z8 z9 ac;have s:kind=1\/kind=2\/kind=3\/kind=7\/kind=11\/kind=12:=by omega
 have K:=anI h kind s;obtain rfl:ns=[]:=by
  refine bd (x.trans ?_)
  rcases s with rfl|rfl|rfl|rfl|rfl|rfl<;>rfl
 have e:EH D ⟨kind,[]⟩=IK D kind:=by rw[EH,if_pos s,if_pos u]
 have e0:(D.ask ⟨kind,[]⟩).2=0:=by
  rcases s with rfl|rfl|rfl|rfl|rfl|rfl
  ·rw[U2 h]
  ·rw[U3 h]
  ·rw[Yc h]
  ·obtain⟨t,_,hw⟩:=U4 h;rw[hw]
  ·rw[U1 h]
  ·rw[Qy h]
 rw[vw]at K;rw[e,e0];refine ak K ?_;(try simp only[RN])
def adX {d:Nat}{ce cs:PV}(h:lQ D d ce cs M)(a:D.Live)(m n:Bool)(q:List Qn)(hq:q.length<=1000){KP:DV->Mem->Prop}:
  SC C 49 [.ptr d 0, .d (.agg (rdF m n D)), .d (sF (q.map Qn.dv))] M (fun p M'=>p= .d (.bool true)/\Frm M M') KP:=by
 obtain⟨bs,fz,ar⟩:=M;have W:bs.length∉fz:=fun e=>bj _ (h.fzb _ e)
 refine aC H6 tC ?_;rw[AV];simp only[H6,tC,aY,bQ,V,RN,B,F];obtain⟨z,b⟩:∃z,z=DV.aV (rdF m n D):=⟨_,rfl⟩
 obtain⟨y,w⟩:∃y,y=some ((rdF m n D).map PV.d):=⟨_,rfl⟩
 rw[AV]at b w;simp only[aL,be]at w;simp only[<-b,<-w];have o:Frm ⟨bs,fz,ar⟩ ⟨bs++ [y],bs.length::fz,ar⟩:=Frm.new (xf:=[bs.length]) (by simp);refine aG q.length (fun i (M:Mem)=>⟨[(0, .ptr d 0),(2, .d (sF (q.map Qn.dv))),(4, .d z),(7,pI i)],M⟩)
  (fun i M=>Frm ⟨bs,fz,ar⟩ M) 0 ⟨bs++ [y],bs.length::fz,ar⟩ (ab _) rfl o (fun i M l f=> ?_) (fun M f=> ?_)
 ·obtain⟨P,A,R⟩:=rng l (by omega)
  obtain⟨x,k⟩:∃x,x=q.getD i default:=⟨_,rfl⟩
  have E:=afY (h.frm f) a.ok x (KP:=KP);have r:=anJ a x;rw[QO]at E r;rw[vw]at r;simp only[P,A,l,getD_map,<-k,QO,U,Q,RN,B,F,O];refine SC.mono E ?_;rintro p ⟨J,N,H⟩ ⟨c,G,T,s,v⟩;simp only[(acU G).1,(acU G).2];refine ag7 T s v fun ex I u=> ?_
  have Y:((D.ask x).2 !=(D.ask x).2)=false:=by simp
  have Z:=ajA a.ok x;have j:=anO (D.ask x).1 (D.ask x).1 (by omega) (by omega);rw[decide_eq_true rfl]at j;simp only[b,A,l,getD_map,<-k,QO,U,Q,RN,B,F,O];refine ak r ?_;simp only[Y,RN,B];refine ak j ?_;simp only[R,RN,B];exact aW _ l rfl (f.trans u)
 ·obtain⟨K,L,t⟩:=EO (h.frm f)
  have S:=adS K L D a.ok.formed (by have:=a.ok.few;omega);have g:=acd D a.ok.formed (by have:=a.ok.few;omega);rw[vw]at g;have X:((Fg D.es).toList==(Fg D.es).toList)=true:=beq_self_eq_true _;simp only[ae,Q,RN,B];refine kE (EN t) rfl S rfl ?_;simp only[z1,b,RN,B,F,O];refine ak g ?_;simp only[fE,yI,X,RN];exact f
def agX {C:Ctx}{x y z:PV}{l:List PV}:ay C base (.ext 2) [.tup (x::y::z::l)] M K KP=K z M:=px
end Go.Tel
namespace Go.Tel
open Go.Am Go.Lib
def isKind (w:ByteArray)(l:List Int)(k:Int):Bool:=decide (w=fwE k)&&(⟨k,l⟩:En).formed
variable{l:List Int}
def afN {line:ByteArray}{k:Int}(a:jg ((dJ line 32).drop 1) []=some l)(hk:1<=k/\k<=6)(h:isKind ((dJ line 32).getD 0 default) l k=true):kV line fmL=some (k - 1,l):=by
 simp only[isKind,an,decide_eq_true_eq]at h;obtain⟨h1,h2,d⟩:=wz h.2;obtain⟨ns,e,b⟩:=Df _ _ _ a;rw[bw]at e;subst e;simp only at h2 d;have c:(dJ line 32).length - 1=gG k:=by
  have:=congrArg bN b;rw[Q,bR]at this;omega
 rw[kV,h.1,c,ag9 hk,a,if_pos (by omega)]
def aeZ {line:ByteArray}{a:Int}(h:kV line fmL=some (a,l)):jg ((dJ line 32).drop 1) []=some l/\(1<=1+a/\1+a<=6)/\isKind ((dJ line 32).getD 0 default) l (1+a)=true:=by
 obtain⟨b,d⟩:=aaq h;obtain⟨h1,h2,e⟩:=wz b;have c:=acA b;rw[d]at c;refine⟨?_,h1,?_⟩
 ·rw[c,List.drop_succ_cons,bE,OA _ _ (BD b)];rfl
 ·rw[c,List.getD_cons_zero,isKind,decide_eq_true rfl,b];rfl
def V8 {line w:ByteArray}{c:UInt8}(h:w∈dJ line c):w.size<=line.size:=by
 have h1:w.data.toList∈spl c line.data.toList:=by rw[<-tH];exact bA.2 ⟨w,h,rfl⟩
 have e:∀(l x:List UInt8),x∈spl c l->x.length<=l.length:=by
  intro l
  induction l with
  |nil=>intro x a;simp[spl]at a;simp[a]
  |cons b l d=>
   intro x a;rw[spl]at a
   split at a
   ·rcases ai.1 a with a|a
    ·simp[a]
    ·have:=d x a;simp;omega
   ·split at a
    ·rename_i y r f
     rcases ai.1 a with a|a
     ·have:=d y (by rw[f];simp)
      rw[a];simp;omega
     ·have:=d x (by rw[f];simp[a])
      simp;omega
    ·simp only[bo]at a;rw[a];simp
 have:=e _ _ h1;rw[size_data,size_data]at this;exact this
def tDV:Option (Int×List Int)->DV
 |some (a,l)=> .tup [.agg [.int .i64 (1+a), .slice false (l.map au)], .bool true]
 |none=> .tup [.agg [.int .i64 0, .slice true []], .bool false]
def LG (line:ByteArray):DV:=tDV (kV line fmL)
def ah7 (line:ByteArray)(hl:line.size<=999999):Pure C 47 [.str line] (.d (LG line)) []:=by
 have K:=zM line 32;have E:=Go.Lib.countB_le ⟨#[32]⟩ (aM _) line.size line (aM _);have x:=ZV ((dJ line 32).drop 1) (by rw[bR];omega) (fun w Y=>by have:=V8 (b7 Y);omega);have YN:=ZX line 32 (by omega);have t:∀(l:List Int) (k:Int),jg ((dJ line 32).drop 1) []=some l->1<=k/\k<=6->isKind ((dJ line 32).getD 0 default) l k=true->kV line fmL=some (k - 1,l):=fun l k g U h=>afN g U h
 have p:∀a l,kV line fmL=some (a,l)->jg ((dJ line 32).drop 1) []=some l/\(1<=1+a/\1+a<=6)/\isKind ((dJ line 32).getD 0 default) l (1+a)=true:=fun a l h=>aeZ h
 have D:∀l,jg ((dJ line 32).drop 1) []=some l->l.length<=1000000:=by
  intro l g;obtain⟨ns,e,N⟩:=Df _ _ _ g;rw[bw]at e;have:=congrArg bN N;rw[Q,bR]at this;rw[e];omega
 obtain⟨T,M⟩:∃T,T=kV line fmL:=⟨_,rfl⟩
 rw[<-M]at t p;have c:LG line=tDV T:=by rw[M];rfl
 refine ah KL NH ?_;simp only[KL,NH,RN,B];refine ak YN ?_;have V:1<=(dJ line 32).length:=by omega
 have aox:(dJ line 32).length<=1000000:=by omega
 clear YN K E;generalize dJ line 32=ws at*;(try simp only[RN]);rw[yV (adG ws) (by decide) (by rw[Q];omega)];have G:(ws.map DV.str).drop (Int.toNat 1)=(ws.drop 1).map DV.str:=by rw[List.map_drop];rfl
 rw[G];refine ak x ?_;simp only[RY,RN];cases g:jg (ws.drop 1) []with
 |none=>
  have m:T=none:=by
   cases n:T with
   |none=>rfl
   |some q=>obtain⟨h1,_⟩:=p q.1 q.2 n;rw[g]at h1;cases h1
  simp only[ch];refine iR (fun(_:Unit)=>⟨[(2, .ptr 0 0),(4, .d (sF (ws.map .str))),(5, .d (.slice false [])),(6, .d (.bool false)),(7,pI 1)],⟨[some [pI 0, .d (.slice true [])]],[],[]⟩⟩)
   (fun _=>True) (fun _=>0) () rfl trivial (fun _ _=> ?_)
  simp only[jK,RN,B,F,O];rw[c,m,tDV]
 |some l=>
  have I:=D l g;simp only[cj,bS];refine aG 6 (fun i (_:Unit)=>⟨[(2, .ptr 0 0),(4, .d (sF (ws.map .str))),(5, .d (sF (l.map au))),(6, .d (.bool true)),(7, .d (dI ((i+1:Nat):Int)))],⟨[some [pI 0, .d (.slice true [])]],[],[]⟩⟩)
   (fun i _=>∀j:Nat,j<i->isKind (ws.getD 0 default) l ((j:Int)+1)=false) 0 () (ab _) rfl (fun j H=>absurd H (cA _)) (fun i _ L f=> ?_) (fun _ f=> ?_)
  ·have y:((i+1:Nat):Int)<=6:=by omega
   have P:(0:Int)<=0:=by decide
   have R:(0:Nat)<ws.length:=by omega
   have A:cM .i64 (((i+1:Nat):Int)+1)=((i+1+1:Nat):Int):=by rw[aB (by omega)];omega
   have r:(1:Int)<=((i+1:Nat):Int)/\((i+1:Nat):Int)<=6:=by omega
   have z:=VO ⟨((i+1:Nat):Int),l⟩ I;rw[dA]at z;simp only at z;obtain⟨k,u⟩:∃k:Int,k=((i+1:Nat):Int):=⟨_,rfl⟩
   rw[<-u]at y A r z;have v:(i:Int)+1=k:=by omega
   have W:=adw r;simp only[<-u,y,P,R,Q,Int.toNat_zero,getD_map,dX,RN,B,F,O];refine ak W ?_;have hd:=yR (a:=ws.getD 0 default) (b:=fwE k)
   by_cases e:ws.getD 0 default=fwE k
   ·rw[decide_eq_true e]at hd
    simp only[fE,yI,hd,RN,B,F,O];refine ak z ?_;cases s:(⟨k,l⟩:En).formed
    ·simp only[A,RN,B,F]
     refine fF 1 0 () L rfl (fun j H=> ?_) (by simp) (by simp) rfl rfl
     by_cases o:j=i
     ·subst o;rw[v,isKind,s,b5]
     ·exact f j (by omega)
    ·have X:=t l k g r (by rw[isKind,s,decide_eq_true e];rfl)
     simp only[jK,RN,B,F,J,O];rw[c,X,tDV];rw[show 1+(k - 1)=k by omega]
   ·rw[decide_eq_false e]at hd
    simp only[fE,yI,hd,A,RN,B,F];refine fF 1 0 () L rfl (fun j H=> ?_) (by simp) (by simp) rfl rfl
    by_cases o:j=i
    ·subst o;rw[v,isKind,decide_eq_false e];rfl
    ·exact f j (by omega)
  ·have m:T=none:=by
    cases n:T with
    |none=>rfl
    |some q=>
     obtain⟨h1,h2,S⟩:=p q.1 q.2 n;rw[g]at h1;cases h1;have:=f q.1.toNat (by omega);rw[show((q.1.toNat:Nat):Int)+1=1+q.1 by omega,S]at this;cases this
   have y:¬((6+1:Nat):Int)<=6:=by omega
   simp only[y,jK,RN,B,F,O];rw[c,m,tDV]
def lnS:List ByteArray->List ByteArray
 | []=>[]
 | [w]=>if w.size=0 then[]else[w]
 |w::x::r=>(w++nlB)::lnS (x::r)
def lnL:List (List UInt8)->List (List UInt8)
 | []=>[]
 | [w]=>if w=[]then[]else[w]
 |w::x::r=>(w++ [10])::lnL (x::r)
def aag (c:UInt8):∀l:List UInt8,∃x r,spl c l=x::r:=fun l=>by
 obtain⟨x,r,h,_⟩:=RD c l;exact⟨x,r,h⟩
def adb:∀l:List UInt8,lnL (spl 10 l)=uo l
 | []=>rfl
 |b::l=>by
  obtain⟨x,r,h⟩:=aag 10 l;have d:=adb l;rw[h]at d;rw[spl,uo,<-d,h]
  by_cases c:b=10
  ·rw[if_pos c,if_pos (by rw[c];rfl),c];rfl
  ·rw[if_neg c,if_neg (by simpa using c)]
   cases r with
   |nil=>
    cases x with
    |nil=>rfl
    |cons a x=>rfl
   |cons y r=>rfl
def aiZ (c:UInt8):∀l:List UInt8,∀w∈spl c l,c∉w
 | [],w,h=>by rw[spl,bo]at h;rw[h];simp
 |b::l,w,h=>by
  obtain⟨x,r,g⟩:=aag c l;have a:=aiZ c l;rw[g]at a;rw[spl]at h
  by_cases d:b=c
  ·rw[if_pos d,g]at h
   rcases ai.1 h with rfl|h
   ·simp
   ·exact a w h
  ·rw[if_neg d,g]at h
   rcases ai.1 h with rfl|h
   ·intro f
    rcases ai.1 f with e|f
    ·exact d e.symm
    ·exact a x cf f
   ·exact a w (b6 _ h)
def Y7:∀ws:List ByteArray,(lnS ws).map (·.data.toList)=lnL (ws.map (·.data.toList))
 | []=>rfl
 | [w]=>by
  rw[lnS,List.map_singleton,lnL];have:=yN w
  by_cases h:w.size=0
  ·rw[if_pos h,if_pos (bd (by omega))];rfl
  ·rw[if_neg h,if_neg (fun e=>h (by rw[e]at this;simp at this;omega))];rfl
 |w::x::r=>by
  have:=Y7 (x::r);rw[lnS,aL,this,qJ]
  rfl
def Xk (j:ByteArray):eP j=lnS (dJ j 10):=by
 refine Dh ?_;rw[Y7,tH,adb,eP,cJ]
 conv=>rhs;rw[<-List.map_id (uo _)]
 refine List.map_congr_left fun x _=> ?_
 simp
variable{w:ByteArray}
def akK (h:(10:UInt8)∉w.data.toList):lC w=false:=by
 cases a:lC w
 ·rfl
 ·exfalso
  rw[lC,an,decide_eq_true_eq,yR,decide_eq_true_eq]at a;have:=congrArg (fun b:ByteArray=>b.data.toList) a.2;simp only[ES]at this;have h2:(10:UInt8)∈(w.data.toList.take w.size).drop (w.size - 1):=by rw[this];simp
  exact h (bk (b7 h2))
variable{D:Dk}{i:Nat}
def aio (h:(10:UInt8)∉w.data.toList):jU D (lnS [w]) i=if w.size=0 then(D, -1,0)else(D,(i:Int),4):=by
 rw[lnS]
 split
 ·rfl
 ·rw[jU,if_pos (.inl (akK h))]
def aip {x:ByteArray}{r:List ByteArray}:jU D (lnS (w::x::r)) i=if(bU w).2≠0 then(D,(i:Int),4)else if(D.enter (bU w).1).2≠0 then(D,(i:Int),(D.enter (bU w).1).2)else jU (D.enter (bU w).1).1 (lnS (x::r)) (i+1):=by
 obtain⟨a,b⟩:=akJ w;rw[lnS,jU,a,b]
 by_cases h:(bU w).2≠0
 ·rw[if_pos (.inr h),if_pos h]
 ·rw[if_neg (by rintro(e|e);cases e;exact h e),if_neg h]
def rdE (D:Dk):List DV:=rdF D.es.isEmpty D.es.isEmpty D
def aij {x:En}:Ny (D.with x)= .agg (rdE (D.with x)):=by
 have:(D.with x).es.isEmpty=false:=by
  rw[Dk.with];split<;>simp
 rw[rdE,this,AV,vw]
def TF (r:Dk×Int×Int):DV:= .tup [.agg (if r.2.2=0 then rdE r.1 else Uu),dI r.2.1,dI r.2.2]
def afq (s:Su)(az:s.ok=true)(j:ByteArray)(hj:j.size<=999998):Pure C 57 [s.dv, .str j] (.d (TF (jU ⟨s,[],[]⟩ (eP j) 0))) []:=by
 have YN:=ZX j 10 (by omega);have aD:=zM j 10;have ao:=Go.Lib.countB_le ⟨#[10]⟩ (aM _) j.size j (aM _);have aR:∀w∈dJ j 10,w.size<=999999:=fun w hw=>by have:=V8 hw;omega
 have aq:∀w∈dJ j 10,(10:UInt8)∉w.data.toList:=by
  intro w hw;have:w.data.toList∈spl 10 j.data.toList:=by rw[<-tH];exact List.mem_map_of_mem hw
  exact aiZ _ _ _ this
 rw[Xk];have a2:1<=(dJ j 10).length:=by omega
 have aox:(dJ j 10).length<=1000000:=by omega
 clear aD ao;generalize dJ j 10=ws at*;obtain⟨R,hR⟩:∃R,R=jU ⟨s,[],[]⟩ (lnS ws) 0:=⟨_,rfl⟩
 rw[<-hR];refine bF (aC Ig aiF ?_);rw[dR];simp only[Ig,aiF,RN,B,F,J,O];refine ak YN ?_;(try simp only[]);refine aG ws.length (fun i (M:Mem)=>⟨[(4, .ptr 1 0),(7, .ptr 2 0),(8, .d (sF (ws.map .str))),(9,pI i)],M⟩)
  (fun i M=>∃D,D.Live/\R=jU D (lnS (ws.drop i)) i/\M.boxes[1]?=some (some (Uu.map PV.d))/\M.boxes[2]?=some (some ((rdE D).map PV.d))/\1∉M.fz/\2∉M.fz/\FzB M) 0 ⟨[some (s.cs.map PV.d),some (Uu.map PV.d),some ((rdE ⟨s,[],[]⟩).map PV.d)],[0],[]⟩ (ab _) (by rw[lS];rfl) ⟨⟨s,[],[]⟩,JF az [],hR,rfl,rfl,by simp,by simp,by intro i hi;simp at hi⊢;omega⟩ (fun i M E S=> ?_) (fun M S=> ?_)
 ·obtain⟨D,p,c,h1,h2,A,n2,K⟩:=S
  obtain⟨b,f,a⟩:=M;simp only at h1 h2 A n2;obtain⟨g2,W,g6⟩:=rng E (by omega);have g:1<b.length:=(av.1 h1).1;have o:2<b.length:=(av.1 h2).1;have v:b.length∉f:=fun e=>bj _ (K _ e)
  obtain⟨w,n⟩:∃w,w=ws.getD i default:=⟨_,rfl⟩
  have ac:w∈ws:=by rw[n];exact getD_mem E
  have S:=ah7 w (aR w ac);have aw:=aq w ac;have P:cM .i64 ((ws.length:Int) - 1)=(ws.length:Int) - 1:=by rw[aB (by omega)]
  rw[drop_cons E,<-n]at c;have an:=h1;have a0:=h2;rw[Qd]at h1;rw[rdE,AV]at h2;simp only[aL,be]at h1 h2;have g5:(i:Int)<(ws.length:Int):=by omega
  have l:∀y,(b.set 1 y)[1]?=some y:=fun y=>bq g
  have u:¬1=b.length:=by omega
  have am:¬2=b.length:=by omega
  have t:∀(e:Int) (D':Dk),e≠0->TF (D',(i:Int),e)= .tup [.agg Uu,dI i,dI e]:=fun e D' h=>by rw[TF,if_neg h]
  rw[Qd]at t
  by_cases a1:i+1=ws.length
  ·have N:((i:Int)==(ws.length:Int) - 1)=true:=by rw[beq_iff_eq];omega
   have ap:ws.drop (i+1)=[]:=bX (by omega);rw[ap,aio aw]at c;have G:(w.toList==(⟨#[]⟩:ByteArray).toList)=decide (w.size=0):=by
    rw[yR];congr 1;refine propext ⟨fun e=>by rw[e];rfl,fun e=>QB ?_⟩;have:=yN w;exact bd (by omega)
   by_cases H:w.size=0
   ·rw[if_pos H]at c
    rw[decide_eq_true H]at G;simp only[Q,E,g2,W,P,N,getD_map,U,dX,<-n,fE,yI,G,h1,h2,A,l,RN,B,F,O];rw[c,TF,if_pos rfl,rdE,AV]
    rfl
   ·rw[if_neg H]at c
    rw[decide_eq_false H]at G;simp only[Q,E,g2,W,P,N,getD_map,U,dX,<-n,fE,yI,G,RN,B,O];refine ak S ?_;rw[LG];cases hT:kV w fmL with
    |none=>
     simp only[tDV,cZ,aY,rV,bQ,V,bi,g,v,u,A,h1,l,RN,B,F,O];rw[c,t 4 _ (by decide)]
     rfl
    |some q=>
     obtain⟨k,ns⟩:=q;simp only[tDV,cZ,aY,rV,bQ,V,bi,g,v,u,A,h1,l,N,P,Q,RN,B,F,O];rw[c,t 4 _ (by decide)]
     rfl
  ·have N:((i:Int)==(ws.length:Int) - 1)=false:=by rw[beq_eq_false_iff_ne];omega
   obtain⟨y,r,Y⟩:∃y r,ws.drop (i+1)=y::r:=⟨ws.getD (i+1) default,ws.drop (i+2),drop_cons (by omega)⟩
   rw[Y,aip,<-Y]at c;simp only[Q,E,g2,W,P,N,getD_map,U,dX,<-n,RN,B,O];refine ak S ?_;rw[LG];cases hT:kV w fmL with
   |none=>
    have T:(bU w).2≠0:=by rw[bU,hT];split<;>simp
    rw[if_pos T]at c;simp only[tDV,cZ,aY,rV,bQ,V,bi,g,v,u,A,h1,l,RN,B,F,O];rw[c,t 4 _ (by decide)]
    rfl
   |some q=>
    obtain⟨k,ns⟩:=q
    by_cases X:(w.size:Int)>60
    ·have T:(bU w).2≠0:=by rw[bU,if_pos (by omega)];simp
     rw[if_pos T]at c;simp only[tDV,cZ,aY,rV,bQ,V,bi,g,v,u,A,h1,l,N,E,W,P,Q,getD_map,U,dX,<-n,X,RN,B,F,O];rw[c,t 4 _ (by decide)]
     rfl
    have T:bU w=(⟨1+k,ns⟩,0):=by rw[bU,if_neg (by omega),hT]
    have L:=(Sz w (by rw[T])).1;rw[T]at c L;obtain⟨x,z⟩:∃x:En,x=⟨1+k,ns⟩:=⟨_,rfl⟩
    rw[<-z]at c L;simp only at L;have hG:=akV p x (by omega);rw[vw,dA,z]at hG;rw[MX p,if_neg (by simp)]at c;simp only at c hG;rw[<-z]at hG;simp only[tDV,cZ,aY,bQ,V,o,v,h2,N,E,W,P,Q,getD_map,U,dX,<-n,X,RN,B,F,O];refine ak hG ?_
    by_cases I:Ai D x=0
    ·have zz:(Ai D x !=0)=false:=by simp[I]
     rw[if_neg (by simp[I]),if_pos I]at c;have hW:=ace p I;rw[vw (D:=D),dA,aij,z]at hW;simp only at hW;rw[<-z]at hW;simp only[cZ,V,zz,o,h2,RN,B,F,O];refine ak hW ?_;rw[rdE,AV];simp only[cZ,rV,o,am,n2,h2,g6,RN,F,O];have Z:(D.with x).Live:=by have:=IZ p x;rwa [MX p,if_pos I]at this
     refine aW (⟨b.set 2 (some ((rdE (D.with x)).map PV.d))++ [some [pI (1+k), .d (sF (ns.map au))]],b.length::f,a⟩:Mem) E (by rw[rdE,AV];rfl) ⟨D.with x,Z,c,?_,?_,?_,?_,?_⟩
     ·simp only;rw[aE (by simpa using g),bc (by decide)];exact an
     ·simp only;rw[aE (by simpa using o),bq o]
     ·simp only[ai];rintro(e|e);exact u e;exact A e
     ·simp only[ai];rintro(e|e);exact am e;exact n2 e
     ·intro m hm
      simp only[ai]at hm;simp only[V,bi,bt]
      rcases hm with e|e
      ·omega
      ·have:=K m e;simp only at this;omega
    ·have zz:(Ai D x !=0)=true:=by simpa using I
     rw[if_pos I]at c;simp only[cZ,rV,V,bi,zz,g,u,A,h1,l,RN,B,F,O];rw[c,t _ _ I]
     rfl
 ·obtain⟨D,p,c,h1,h2,A,n2,K⟩:=S
  obtain⟨b,f,a⟩:=M;simp only at h1 h2 A n2;have g:1<b.length:=(av.1 h1).1;have o:2<b.length:=(av.1 h2).1;have l:∀y,(b.set 1 y)[1]?=some y:=fun y=>bq g
  rw[Qd]at h1;rw[rdE,AV]at h2;simp only[aL,be]at h1 h2;rw[ax,lnS,jU]at c;simp only[ae,Q,h1,h2,A,l,RN,B,F,O];rw[c,TF,if_pos rfl,rdE,AV]
  rfl
def TG:∀(l:List ByteArray) {D:Dk} {i:Nat},D.Live->(jU D l i).1.Live
 | [],D,i,h=>h
 |y::l,D,i,h=>by
  rw[jU]
  split
  ·exact h
  split
  ·exact h
  ·exact TG l (IZ h _)
def alL (s:Su)(j:ByteArray)(q:List Qn):Pure C 15 [s.dv, .str j,sF (q.map Qn.dv)] (.d (.bool true)) []:=by
 have H:=ajC s [] q;have k:=fun h1 h2=>aic s h1 h2
 refine bF (aC rE tC ?_);rw[dR]at H k⊢;simp only[rE,tC,RN,B,F,O];refine ak H ?_;cases M:AQ s [] q
 ·(try simp only[RN,B])
  exact ak C9 (by(try simp only[RN,B,F,I,J,N,O]);rfl)
 obtain⟨T, -,hq, -⟩:=WC M;obtain⟨t,Q⟩:=Su.aaf T;have k:=k t (by omega);have n:=fun(bs:List (Option (List PV))) (fz:List Nat) (ar:List (Option Arr)) (A:FzB ⟨bs,fz,ar⟩)=>adU s t j (KP:=fun _ _=>False) A
 have c:=fun(h:s.ok=true) (h2:j.size<=1500)=>afq s h j (by omega)
 rw[dR]at n c
 by_cases E:(j.size:Int)>500/\(j.size:Int)<=1500
 ·simp only[E.1,E.2,RN,B]
  exact ak C9 (by(try simp only[RN,B,F,I,J,N,O]);rfl)
 by_cases o:(j.size:Int)>1600
 ·have w:(j.size:Int)>500:=by omega
  have x:¬(j.size:Int)<=1500:=by omega
  simp only[w,x,o,RN,B];exact ak C9 (by(try simp only[RN,B,F,I,J,N,O]);rfl)
 have U:(¬(j.size:Int)>500/\¬(j.size:Int)>1600)\/((j.size:Int)>500/\¬(j.size:Int)<=1500):=by omega
 obtain⟨L,y⟩:∃L,L=eP j:=⟨_,rfl⟩
 have W:((2:Int)==2)=true:=rfl;have X:((3:Int)==3)=true:=rfl;have z0:((0:Int) !=0)=false:=rfl;have D:((0:Int)==0)=true:=rfl;have zm:((-1:Int)== -1)=true:=rfl
 rcases U with⟨w,x⟩|⟨w,x⟩
 all_goals
  simp only[w,x,o,RN,B,F,O];refine SC.jG (SC.mono (n _ _ _ (by intro i S;simp at S⊢;omega)) ?_) (fun _ _ h=>h.elim);rintro p ⟨b,f,a⟩ K;simp only[ama,<-y]at K
  rcases K with⟨g,rfl⟩|⟨g,v,rfl⟩|⟨g,v,l,A,rfl⟩|⟨g,v,l, -, -,d,ce,cs,rfl, -,z, -⟩
  ·rw[g]at k
   simp only[RN];refine ak k ?_;simp only[W,D,RN,B];refine ak C9 ?_;(try simp only[RN,B,F,I,J,N,O])
   rfl
  ·rw[g]at k
   have u:(j.size:Int)>1500:=by omega
   simp only[RN];refine ak k ?_;simp only[u,X,D,RN,B];refine ak C9 ?_;(try simp only[RN,B,F,I,J,N,O])
   rfl
  ·rw[g]at k
   have u:¬(j.size:Int)>1500:=by omega
   have c:=c g v;rw[<-y]at c;obtain⟨R,n⟩:∃R,R=jU ⟨s,[],[]⟩ L 0:=⟨_,rfl⟩
   rw[<-n]at l c⊢;rw[TF,if_neg l,Qd]at c;have m:b.length∉f:=fun e=>bj _ (A _ e)
   have z1:(R.2.2 !=0)=true:=by simpa using l
   have Y:(R.2.2==R.2.2)=true:=by simp
   have Z:(R.2.1==R.2.1)=true:=by simp
   simp only[RN];refine ak k ?_;simp only[u,RN,B,F,O];refine ak c ?_;simp only[aY,bQ,V,m,z1,Y,Z,RN,B,F,O];refine ak C9 ?_;(try simp only[RN,B,F,I,J,N,O])
   rfl
  ·rw[g]at k
   have u:¬(j.size:Int)>1500:=by omega
   have c:=c g v;rw[<-y]at c;have r:(jU ⟨s,[],[]⟩ L 0).1.Live:=TG L (JF g []);obtain⟨R,n⟩:∃R,R=jU ⟨s,[],[]⟩ L 0:=⟨_,rfl⟩
   rw[<-n]at l c z r;rw[TF,if_pos l,l,rdE]at c;have G:=adX (z.grow (some ((rdF R.1.es.isEmpty R.1.es.isEmpty R.1).map PV.d))) r R.1.es.isEmpty R.1.es.isEmpty q (by omega) (KP:=fun _ _=>False);rw[AV]at c G;have m:b.length∉f:=fun e=>bj _ (z.fzb _ e)
   simp only[qL,qM,agX];refine ak k ?_;simp only[u,RN,B,F,O];refine ak c ?_;simp only[aY,bQ,V,m,z0,D,zm,RN,B,F,O];refine SC.jG (SC.mono G ?_) (fun _ _ h=>h.elim);rintro p M7 ⟨rfl,P⟩;(try simp only[RN,B]);refine ak C9 ?_;(try simp only[RN,B,F,I,J,N,O])
   rfl
end Go.Tel
namespace Go.Am
variable{ds:List DV}
def ac5 {k:IntKind}(h:Has (.int k) ds):∃n,ds=[.int k n]:=by cases h;exact⟨_,rfl⟩
def akf (h:Has .str ds):∃s,s.size<=maxLen/\ds=[.str s]:=by cases h with|str h=>exact⟨_,h,rfl⟩
def wL (h:Has (.struct []) ds):ds=[]:=by cases h;rfl
variable{ts:List Ty}
def JM {t:Ty}(h:Has (.struct (t::ts)) ds):∃a b,ds=a++b/\Has t a/\Has (.struct ts) b:=by cases h with|cons h c=>exact⟨_,_,rfl,h,c⟩
def sU {k:IntKind}(h:Has (.struct (.int k::ts)) ds):∃n b,ds= .int k n::b/\Has (.struct ts) b:=by
 obtain⟨a,b,rfl,h1,h2⟩:=JM h;obtain⟨n,rfl⟩:=ac5 h1;exact⟨n,b,rfl,h2⟩
def aga {α:Type}{e:Ty}{dv:α->DV}:∀{xs:List DV},(∀x∈xs,∃a,x=dv a)->∃l:List α,xs=l.map dv
 | [],_=>⟨[],rfl⟩
 |x::xs,h=>by
  obtain⟨a,rfl⟩:=h x cf;obtain⟨l,rfl⟩:=aga (e:=e) fun y b=>h y (b6 _ b)
  exact⟨a::l,rfl⟩
variable{e:Ty}
def ahd {α:Type}{dv:α->DV}(hd:∀x,Has e x.cells->Shp e x->∃a,x=dv a){ds:List DV}(h:Has (.slice e) ds):∃l:List α,ds=[.slice false (l.map dv)]:=by
 cases h with
 |slice h c=>
  rename_i xs
  obtain⟨l,rfl⟩:=aga (e:=e) fun x b=>hd x (h x b) (c x b)
  exact⟨l,rfl⟩
def Rl {α:Type}{dv:α->DV}(hd:∀x,Has e x.cells->Shp e x->∃a,x=dv a){ts:List Ty}{ds:List DV}(h:Has (.struct (.slice e::ts)) ds):∃(l:List α) (b:List DV),ds= .slice false (l.map dv)::b/\Has (.struct ts) b:=by
 obtain⟨a,b,rfl,h1,h2⟩:=JM h;obtain⟨l,rfl⟩:=ahd hd h1;exact⟨l,b,rfl,h2⟩
variable{xs:List DV}
def alR {T:Ty}{Ts:List Ty}(h:CJ (T::Ts) xs):∃x l,xs=x::l/\aaC T x/\CJ Ts l:=by
 cases xs with
 |nil=>exact h.elim
 |cons x l=>exact⟨x,l,rfl,h.1,h.2⟩
def amW (h:CJ [] xs):xs=[]:=by
 cases xs with
 |nil=>rfl
 |cons x l=>exact h.elim
end Go.Am
namespace Go.Tel
open Go.Am
abbrev abr:Ty:= .struct [.int .i64, .int .i64]
abbrev abL:Ty:= .struct [.int .i64, .struct [.int .i64, .int .i64]]
abbrev WW:Ty:= .struct [.bool, .int .i64, .int .i64, .int .i64]
abbrev He:Ty:= .struct [.struct [.slice abL, .slice (.int .i64)], .slice abr, .int .i64, .struct [.int .i64, .slice (.int .i64)], .struct [.int .i64, .slice (.int .i64)], .struct [.int .i64, .int .i64, .int .i64], .slice WW, .int .i64, .int .i64, .int .i64, .int .i64, .int .i64]
abbrev Ae:Ty:= .struct [.int .i64, .slice (.int .i64)]
variable{ds:List DV}
def Rn {fs ts:List Ty}(h:Has (.struct (.struct fs::ts)) ds):∃a b,ds=a++b/\Has (.struct fs) a/\Has (.struct ts) b:=JM h
def ahc (h:Has .bool ds):∃b,ds=[.bool b]:=by cases h;exact⟨_,rfl⟩
def Xb (x:DV)(h:Has (.int .i64) x.cells)(hs:Shp (.int .i64) x):∃n:Int,x=au n:=by
 obtain⟨n,h⟩:=ac5 h;rw[hs.2 rfl]at h;exact⟨n,(List.cons.inj h).1⟩
def amX (x:DV)(h:Has abr x.cells)(hs:Shp abr x):∃p:Fr,x=p.dv:=by
 obtain⟨cs,rfl⟩:=hs.1 rfl;obtain⟨a,_,c,h1⟩:=sU h;obtain⟨b,_,rfl,h2⟩:=sU h1;obtain rfl:=wL h2;exact⟨⟨a,b⟩,by rw[Fr.dv];exact congrArg DV.agg c⟩
def amZ (x:DV)(h:Has abL x.cells)(hs:Shp abL x):∃p:Lk,x=p.dv:=by
 obtain⟨cs,rfl⟩:=hs.1 rfl;obtain⟨a,_,d,h1⟩:=sU h;obtain⟨_,_,rfl,h2,e⟩:=Rn h1;obtain rfl:=wL e;obtain⟨b,_,rfl,f⟩:=sU h2;obtain⟨c,_,rfl,g⟩:=sU f;obtain rfl:=wL g;exact⟨⟨a,⟨b,c⟩⟩,by rw[Lk.dv];exact congrArg DV.agg d⟩
def amY (x:DV)(h:Has WW x.cells)(hs:Shp WW x):∃p:Fs,x=p.dv:=by
 obtain⟨cs,rfl⟩:=hs.1 rfl;obtain⟨_,_,e,f,h1⟩:=JM h;obtain⟨a,rfl⟩:=ahc f;obtain⟨b,_,rfl,h2⟩:=sU h1;obtain⟨c,_,rfl,g⟩:=sU h2;obtain⟨d,_,rfl,i⟩:=sU g;obtain rfl:=wL i;exact⟨⟨a,b,c,d⟩,by rw[Fs.dv];exact congrArg DV.agg e⟩
def am0 (x:DV)(h:Has Ae x.cells)(hs:Shp Ae x):∃p:Qn,x=p.dv:=by
 obtain⟨cs,rfl⟩:=hs.1 rfl;obtain⟨a,_,c,h1⟩:=sU h;obtain⟨b,_,rfl,h2⟩:=Rl Xb h1;obtain rfl:=wL h2;exact⟨⟨a,b⟩,by rw[Qn.dv];exact congrArg DV.agg c⟩
variable{x:DV}
def aoi (h:aaC .str x):∃s,s.size<=maxLen/\x= .str s:=by
 obtain⟨s,a,h1⟩:=akf h.1;rw[h.2.2 rfl]at h1;exact⟨s,a,(List.cons.inj h1).1⟩
def aoh (h:aaC (.slice Ae) x):∃l:List Qn,x= .slice false (l.map Qn.dv):=by
 obtain⟨l,h1⟩:=ahd am0 h.1;rw[h.2.2 rfl]at h1;exact⟨l,(List.cons.inj h1).1⟩
def apg (h:aaC He x):∃s:Su,x=s.dv:=by
 obtain⟨h,F⟩:=h;obtain⟨cs,rfl⟩:=F.1 rfl;obtain⟨_,_,u,h1,h2⟩:=Rn h;obtain⟨l,_,rfl,v⟩:=Rl amZ h1;obtain⟨hd,_,rfl,w⟩:=Rl Xb v;obtain rfl:=wL w;obtain⟨tg,_,rfl,z⟩:=Rl amX h2;obtain⟨lim,_,rfl,A⟩:=sU z;obtain⟨_,_,rfl,B,C⟩:=Rn A;obtain⟨wo,_,rfl,D⟩:=sU B;obtain⟨ci,_,rfl,a⟩:=Rl Xb D;obtain rfl:=wL a;obtain⟨_,_,rfl,b,c⟩:=Rn C;obtain⟨ep,_,rfl,d⟩:=sU b;obtain⟨cy,_,rfl,e⟩:=Rl Xb d;obtain rfl:=wL e;obtain⟨_,_,rfl,f,g⟩:=Rn c;obtain⟨I,_,rfl,i⟩:=sU f;obtain⟨H,_,rfl,j⟩:=sU i;obtain⟨G,_,rfl,k⟩:=sU j;obtain rfl:=wL k;obtain⟨fs,_,rfl,m⟩:=Rl amY g;obtain⟨y,_,rfl,n⟩:=sU m;obtain⟨t,_,rfl,o⟩:=sU n;obtain⟨E,_,rfl,p⟩:=sU o;obtain⟨K,_,rfl,q⟩:=sU p;obtain⟨J,_,rfl,r⟩:=sU q;obtain rfl:=wL r;exact⟨⟨⟨l,hd⟩,tg,lim,⟨wo,ci⟩,⟨ep,cy⟩,⟨I,H,G⟩,fs,y,t,E,K,J⟩,by rw[dR];exact congrArg DV.agg u⟩
end Go.Tel
namespace Go.Am
section
variable {H:Type}{enc:TypeId×Value->H}{P:Program}{w:World}{base:Nat}{spare:Nat->Bool}{held:Bool}
def PN:∀{ts:List TypeId} {vs:List Value} {ds:List (DataW H)} {ps:List MemPlace},DataW.TrodAll enc P w base spare held ts vs ds ps->ds.length=ts.length
 | [],[],[],_,_=>rfl
 |t::ts,v::vs,d::ds,ps,h=>by
  obtain⟨p,q,_,h2,_⟩:=h;rw[aR,aR,PN h2]
 | [],_::_,_,_,h=>by cases h
 | [],[],_::_,_,h=>by cases h
 | _::_,[],_,_,h=>by cases h
 | _::_,_::_,[],_,h=>by cases h
end
def aoT {α:Type}{l:List α}(h:l.length=1):∃a,l=[a]:=List.length_eq_one_iff.1 h
def alY {α:Type}{l:List α}{n:Nat}(h:l.length=n+1):∃a r,l=a::r/\r.length=n:=by
 cases l with
 |nil=>cases h
 |cons a r=>exact⟨a,r,rfl,by simpa using h⟩
def aoU {α:Type}{l:List α}(h:l.length=2):∃a b,l=[a,b]:=by
 obtain⟨a,r,rfl,h1⟩:=alY h;obtain⟨b,rfl⟩:=aoT h1;exact⟨a,b,rfl⟩
def aoV {α:Type}{l:List α}(h:l.length=3):∃a b c,l=[a,b,c]:=by
 obtain⟨a,r,rfl,h1⟩:=alY h;obtain⟨b,c,rfl⟩:=aoU h1;exact⟨a,b,c,rfl⟩
variable{P:Program}{l:List (String×DataW Unit)}
def ahI {w:World}(a:(l.filter fun x=>x.2.handleName?.isSome)=[])(h:laidMetH P l w):laidMet P l w:=by
 unfold laidMetH at h;rw[a]at h;exact h
def adN {P:Program}{w:World}{n:String}{d:DataW Unit}:∀{l:List (String×DataW Unit)} {ps:List MemPlace},DataW.LaidVars P w l ps->(n,d)∈l->
  ∃g t cs a p,P.globalNamed n=some g/\(P.globals[g]?).map (·.type)=some t/\w.var? P n=some cs/\DataW.trod (fun _=>()) P w 0 (fun _=>true) false a t cs.toList=some (d,p)
 | [],_,_,h=>by cases h
 |(j,i)::l,ps,h,b=>by
  obtain⟨g,t,cs,a,p,q,h1,h2,c,e,f,_⟩:=h;cases b with
  |head=>exact⟨g,t,cs,a,p,h1,h2,c,e⟩
  |tail _ b=>exact adN f b
def ai9 {W:World}{name:String}{k:IntKind}{zs:List Int}{g:Nat}{t e:TypeId}{n:Nat}
  (o:P.globalNamed name=some g)(i:(P.globals[g]?).map (·.type)=some t)(r:P.underlying t=some (.array n e))(m:P.underlying e=some (.int k))(b:P.cellsOf e=1)(c:P.cellsOf t=n)
  (h:laidMet P l W)(q:(name,Lib.tabData k zs)∈l):Lib.TabIs P W name k zs:=by
 obtain⟨v,s,_⟩:=h;obtain⟨u,w,cs,j,p,d,f,a,hd⟩:=adN s q;obtain rfl:=Option.some.inj (o.symm.trans d);obtain rfl:=Option.some.inj (i.symm.trans f);unfold Lib.TabIs;rw[a,<-Lib.cells_of_tab r m b c hd]
end Go.Am
namespace Go.Tel
open Go.Am
def anw {W:World}(h:C.G W):∀b,C.low b->b<W.heap.size/\∀c T fz,W.heap[b]?=some (.cells c T fz)->∀(i:Nat) (n:Int),c[i]?≠some (.int .i64 n):=by
 intro b j;have e:Go.Proofs.Tryz.prog.globalNamed "internal/strconv.uint64pow10" =some b:=j;have a:W.var? Go.Proofs.Tryz.prog "internal/strconv.uint64pow10" =some (Go.Lib.pow10Tab.map fun z=>Value.int .u64 z).toArray:=h;unfold World.var? at a;rw[e]at a;simp only[Option.bind_some]at a;cases f:W.heap[b]? with
 |none=>rw[f]at a;cases a
 |some o=>
  rw[f]at a;refine⟨dB f,fun c T fz k i n d=> ?_⟩;cases k;simp only[Option.some.injEq]at a;subst a;rw[List.getElem?_toArray,cm]at d;cases g:Go.Lib.pow10Tab[i]? with
  |none=>rw[g]at d;cases d
  |some z=>rw[g]at d;cases d
end Go.Tel
namespace Go.Proofs.YtbefoehadfnkbaaGreatDoor
open Go.ChangeShapes Go.WideShapes Go.RowKit Go.Am
def gX {a b:Bool}(c:a=true)(hb:b=true):(a&&b)=true:=by rw[c,hb];rfl
def own:ownKnob Tryz.prog.godebug=none:=by kernel_rfl
def laidOut:laidOutB Tryz.prog=true:=by kernel_rfl
def Hw:List (String×DataW Unit):=Rows.journeymanWheelsRow.laid
def laid_met (os:Os)(args:Array Value):laidMet Tryz.prog Hw ((World.laidAll Tryz.prog os Hw).forCall (fun _ _=>0) ⟨#[],args,[]⟩).memory:=
 laidMet_laidAll args (by kernel_rfl) (by kernel_rfl)
def ae0 (os:Os)(args:Array Value):laidMetH Tryz.prog Hw ((World.laidAll Tryz.prog os Hw).forCall (fun _ _=>0) ⟨#[],args,[]⟩).memory:=
 laidMetH_of_parts (laid_met os args) (by kernel_rfl)
def ai8:(Rows.laid_internal_strconv_uint64pow10:DataW Unit)=Lib.tabData .u64 Lib.pow10Tab:=rfl
def alz:("internal/strconv.uint64pow10",(Rows.laid_internal_strconv_uint64pow10:DataW Unit))∈Hw:=List.Mem.tail _ (List.Mem.tail _ (List.Mem.head _))
def anS {W:World}(h:laidMetH Tryz.prog Hw W):Go.Tel.C.G W:=
 ai9 (P:=Tryz.prog) (g:=1) (t:=390) (e:=372) (n:=20) (by kernel_rfl) (by kernel_rfl) (by kernel_rfl) (by kernel_rfl) (by kernel_rfl) (by kernel_rfl) (ahI (by kernel_rfl) h) (ai8▸alz)
end Go.Proofs.YtbefoehadfnkbaaGreatDoor
