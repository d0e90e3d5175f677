/-
  Part 9 of a law of desks.
  Conditions: none.
-/
import Derived.Test.YtbefoehadfnkbaaGreatDoorJourneymanConsolesM07
import Derived.Test.YtbefoehadfnkbaaGreatDoorJourneymanConsolesM08
import Derived.Test.YtbefoehadfnkbaaGreatDoorRows
import Derived.Lay
import Derived.Handed
import Derived.LaidHandle
import Derived.Lib.LaidTab
set_option linter.all false
set_option maxRecDepth 10000
set_option maxHeartbeats 4000000
open Nat renaming reduceBEq->B,reduceAdd->F,reduceSub->I,reduceEqDiff->J,reduceLT->N,reduceLeDiff->O,zero_le->ae,le_refl->av,le_trans->be,mul_le_mul->cg,add_sub_cancel->cm,not_lt_zero->cz,sub_self->cK
open List renaming length_map->Q,eq_nil_of_length_eq_zero->Z,getD_eq_getElem?_getD->ai,map_append->an,mem_cons->ap,length_append->aq,length_filter_le->aw,length_take->ax,mem_cons_of_mem->az,nil_append->aD,length_eq_one_iff->aE,drop_length->aL,length_cons->aM,length_drop->aR,not_mem_nil->a6,take_length->a7,getElem?_append_left->a8,getElem?_eq_getElem->bc,take_of_length_le->bd,map_cons->bj,all_eq_true->bk,append_nil->bo,mem_cons_self->bp,mem_singleton->bq,getElem?_map->bu,mem_range->bv,mem_flatMap->bz,drop_append_of_le_length->bA,getElem?_concat_length->bB,map_nil->bE,mem_map->bL,drop_zero->bR,getElem?_eq_some_iff->bS,mem_of_find?_eq_some->bX,length->b0,drop_eq_nil_of_le->b6,range->b7,mem_filter->b8,range_succ->b9,getElem?_eq_none->ca,length_singleton->cb,mem_of_mem_drop->cf,drop_succ_cons->ch,flatMap_append->cj,filter_append->cl,flatMap_cons->cn,cons_append->cq,filter_cons->cr,filter_nil->cv,length_nil->cw,find?_nil->cC,all_cons->cD,map_drop->cE,all_nil->cI,map_map->cJ
open Int renaming toNat_natCast->U,lt_irrefl->am,eq_ofNat_of_zero_le->bt,natCast_zero->cp,toNat_zero->cB,toNat->cF,add_zero->cH,le_refl->cL
open Bool renaming and_eq_true->V,false_and->ab,and_false->bN,false_eq_true->bO,true_and->b2,false_or->ck,eq_iff_iff->ct,true_or->cG
open Option renaming isSome_none->bh,isSome_some->bi,getD_some->bl,map_none->cA
open ByteArray renaming size_append->bw
open Go.IntKind renaming wrap->cM
namespace Go.Tel
open Go.Am
def ads (b:Bool):(aQ b).length=12:=by cases b<;>rfl
def akM (b:Bool):dN (aQ b) 0=o8 b:=by cases b<;>rfl
def akZ (c:Cal)(hc:c.ok=true)(Y:Nat)(Z:Y<=4000)(day:Int)(h1:c.first Y<=day)(h2:day<c.first (Y+1)):Pure C 143 [c.dv,dI day] (.d (.tup [(Ea c Y day).dv, .bool true])) []:=by
 obtain⟨he,hl,w⟩:=Cal.facts hc;have hb:=c.jC Y;have G:=c.jC (Y+1);have H:0<=day/\day<=2000000:=by omega
 have s:c.first 0=c.ep:=rfl;have g:=fun y:Int=>adC c y (by omega) (fun n a=>by have:=w n a;omega)
 have f:=fun y:Int=>Ls c y (by omega) (fun n a=>by have:=w n a;omega)
 have r:=fun b=>l9 b
 rw[dZ]at g f;have V:cM .i64 (day - c.ep)=day - c.first 0:=by rw[s,aB (by omega)]
 have X:¬day - c.first 0<0:=by have:=rX c (ae Y);omega
 refine bG (aC OM Gi ?_);rw[dZ];simp only[OM,Gi,V,X,RN,B,F,O];refine aG (Y+1) (fun i (_:Unit)=>⟨[(2, .d (.aV [dI c.ep,sF (c.cy.map au)])),(4, .ptr 1 0),(6,pI (day - c.first i)),(7,pI i)],⟨[some [pI c.ep, .d (sF (c.cy.map au))],some [pI 0,pI 0,pI 0]],[0],[]⟩⟩)
  (fun i _=>i<=Y) 0 () (ae _) rfl (ae _) (fun i _ A _=> ?_) (fun _ h=>absurd h (by omega))
 have D:(i:Int)<=4000:=by omega
 have E:cM .i64 ((i:Int)+1)=((i+1:Nat):Int):=by rw[aB (by omega)];omega
 have K:c.first (i+1)=c.first i+o8 (c.leap i):=rfl;have L:=rX c (show 0<=i by omega);have j:=r (c.leap i);simp only[D,RN,B,F,O];refine ak (g i) ?_
 by_cases M:i<Y
 ·have hm:=rX c (show i+1<=Y by omega)
  have u:day - c.first i>=o8 (c.leap i):=by omega
  have W:cM .i64 (day - c.first i - o8 (c.leap i))=day - c.first (i+1):=by rw[aB (by split at j<;>omega)];omega
  simp only[u,W,E,RN,B,F];exact dD () A rfl (by omega) (by simp) (by simp) rfl rfl
 obtain rfl:i=Y:=by omega
 have u:¬day - c.first i>=o8 (c.leap i):=by omega
 simp only[u,RN,B,F];refine aG 12 (fun m (left:Int)=>⟨[(2, .d (.aV [dI c.ep,sF (c.cy.map au)])),(4, .ptr 1 0),(6,pI left),(7,pI i),(9, .d (dI ((m:Int)+1)))],⟨[some [pI c.ep, .d (sF (c.cy.map au))],some [pI 0,pI 0,pI 0]],[0],[]⟩⟩)
  (fun m left=>yY (aQ (c.leap i)) 0 (day - c.first i)=yY ((aQ (c.leap i)).drop m) m left/\0<=left/\left<=400/\left<dN ((aQ (c.leap i)).drop m) 0) 0 (day - c.first i) (ae _) rfl ⟨rfl,by omega,by split at j<;>omega,by rw[bR,akM];omega⟩ (fun m left Q q=> ?_) (fun left q=> ?_)
 ·obtain⟨e,T,U,p⟩:=q
  have R:(m:Int)+1<=12:=by omega
  have P:=ads (c.leap i);have S:cM .i64 ((m:Int)+1+1)=((m+1:Nat):Int)+1:=by rw[aB (by omega)];omega
  have v:=ND (m:=(m:Int)+1) (by omega) (c.leap i);rw[show((m:Int)+1 - 1).toNat=m by omega]at v;have k:=drop_cons (l:=aQ (c.leap i)) (show m<(aQ (c.leap i)).length by omega);rw[k,dN,DY]at p;rw[k,yY]at e;have z:0<=(aQ (c.leap i)).getD m default/\(aQ (c.leap i)).getD m default<=31:=by
   have:∀x∈aQ (c.leap i),0<=x/\x<=31:=by cases c.leap i<;>decide
   exact this _ (getD_mem (by omega))
  simp only[R,RN,B,F,O];refine ak (f i) ?_;(try simp only[RN,B,F,I,J,N,O]);refine ak v ?_
  by_cases o:left<(aQ (c.leap i)).getD m default
  ·rw[if_pos o]at e
   have t:cM .i64 (left+1)=left+1:=aB (by omega);simp only[o,t,RN,B,F,J,O];simp[Ea,e,oG,datum]
  ·rw[if_neg o]at e
   have t:cM .i64 (left - (aQ (c.leap i)).getD m default)=left - (aQ (c.leap i)).getD m default:=aB (by omega);simp only[o,t,S,RN,B,F];exact dD (left - (aQ (c.leap i)).getD m default) Q rfl ⟨by rw[e];rfl,by omega,by omega,by omega⟩ (by simp) (by simp) rfl rfl
 ·obtain⟨e,T,U,p⟩:=q
  rw[b6 (by rw[ads];exact av _)]at p;simp only[dN]at p;omega
def Rt (d y:Int):∀(l:List Int) (a:Int),lQ (l++ [y]) d a=if y<=d then y else lQ l d a
 | [],_=>rfl
 |x::l,a=>by rw[cq,lQ,Rt d y l,lQ]
def Y0 {d b:Int}:∀{l:List Int} {a:Int},(∀y∈l,y<b)->a<b->lQ l d a<b
 | [],_,_,h=>h
 |x::l,a,h1,h2=>by
  rw[lQ];exact Y0 (fun y c=>h1 y (by simp[c])) (by split;exact h1 x (by simp);exact h2)
def YZ {d:Int}:∀{l:List Int} {a:Int},a<=d->lQ l d a<=d
 | [],_,h=>h
 |x::l,a,h=>by rw[lQ];exact YZ (by split<;>omega)
def alu {s:Su}{l:List En}(hl:∀x∈l,x.Fit s):∀d∈qJ l,1<=d/\d<=366:=by
 intro d hd;simp only[qJ,bL,b8,beq_iff_eq]at hd;obtain⟨x,⟨a,k⟩,rfl⟩:=hd;have h:=(hl x a).df;rw[En.Hu k]at h;obtain⟨b,c⟩:=h;have:=lK s;omega
def ZI (s:Su)(hs:s.ok=true)(l:List En)(hl:∀x∈l,x.Fit s)(K:kF s l=true)(S:l.length<=400)(h day:Int)(t:0<=h)(h1:h.toNat<s.pc.hands.length)(hd:1<=day/\day<=366):Pure C 140 [s.dv,sF (l.map En.dv),dI h,dI day] (.d (dI (Nu (bD s l) h (pX s l h) (xU l day)))) []:=by
 have y:=(Su.facts hs).2.1;have E:=wL s hs l hl (by omega);have G:=afD s l h t (by omega) (fun x p=>wR (hl x p)) (by omega);have w:=BU hs l hl;have A:=Qo hs l hl K t (by rw[y];exact h1);have R:=Fe day (qJ l) 0 (alu hl) (by omega);have c:=YZ (d:=day) (l:=qJ l) (a:=0) (by omega);have H:=ZP (bD s l) w h t (by rw[pJ];exact h1) (pX s l h) A (xU l day) (by unfold xU;omega);have M:cM .i64 (day - lQ (qJ l) day 0)=xU l day:=by rw[aB (by omega)];rfl
 rw[dF,dA]at E;rw[dF,bK]at G;rw[dA,bK]at H;refine ah RZ qO ?_;rw[dF];simp only[RZ,qO,RN,B,F];refine aG l.length (fun i (_:Unit)=>⟨[(1, .d (sF (l.map En.dv))),(2,pI h),(3,pI day),(4, .d (.aV s.cs)),(9, .d (dI (lQ (qJ (l.take i)) day 0))),(10,pI i)],⟨[some (s.cs.map .d)],[0],[]⟩⟩)
  (fun i _=>True) 0 () (ae _) rfl trivial (fun i _ f _=> ?_) (fun _ _=> ?_)
 ·obtain⟨P,q,r⟩:=rng f (by omega)
  obtain⟨x,b⟩:∃x,x=l.getD i default:=⟨_,rfl⟩
  have p:x.Fit s:=by rw[b];exact hl _ (getD_mem f)
  have m:=wR p;have v:lN s (l.take i) x=true:=by rw[b];exact agl K f
  have g:qJ (l.take (i+1))=if x.kind=5 then qJ (l.take i)++ [x.n 0]else qJ (l.take i):=by rw[aU f,<-b,wP]
  simp only[P,q,f,getD_map,<-b,dO,U,Q,RN,B,F,O]
  by_cases j:x.kind=5
  ·have z:(x.kind==5)=true:=by simp[j]
   have l1:x.ns.length=1:=by rw[m,j];rfl
   have L:0<x.ns.length:=by omega
   have D:x.n 0=x.ns.getD 0 default:=rfl;have k:=p.df;rw[En.Hu j]at k;obtain⟨T,V⟩:=k;have o:=Y0 (d:=day) (ahh j v).1 (show(0:Int)<x.n 0 by omega);rw[if_pos j]at g;have e:=Rt day (x.n 0) (qJ (l.take i)) 0;rw[<-g,D]at e;rw[D]at o;simp only[z,q,f,getD_map,<-b,dO,U,Q,j0,t0,L,aH,RN,B,F,O]
   by_cases c:x.ns.getD 0 default<=day
   ·rw[if_pos c]at e
    have u:x.ns.getD 0 default>lQ (qJ (l.take i)) day 0:=o;simp only[c,q,f,getD_map,<-b,dO,U,Q,j0,t0,L,aH,U3,if_pos u,r,RN,B,F,O];exact aX () f (by rw[e]) trivial
   ·rw[if_neg c]at e
    simp only[c,r,RN,B];exact aX () f (by rw[e]) trivial
  ·have z:(x.kind==5)=false:=beq_false_of_ne j
   rw[if_neg j]at g;simp only[z,r,RN,B];exact aX () f (by rw[g]) trivial
 ·simp only[nO,am,Q,a7,M,RN,B,F,O]
  refine ak E ?_;(try simp only[RN,B,F,I,J,N,O]);refine ak G ?_
  try simp only[M,RN,B,F,I,J,N,O]
  refine ak H ?_;(try simp only[])
def uF (s:Su)(l:List En)(a b c:Int):List Int×Int:=
 if inR a 0 ((s.pc.hands.length:Int) - 1)&&(aI b&&aI c&&decide (b<=c))&& !decide (c - b>10)then
  if(bg l a).2 then
   match PX (bD s l) a (bg l a).1 (iM (bD s l) b (c - b+1).toNat (bD s l).links.length 0)with
   |some L=>(sQ L,0)
   |none=>([],5)
  else([],7)
 else([],2)
variable{D:Dk}
def ahR {t:Sp}(h:D.Live)(q:D.state (-1)=some t)(a b c:Int):(if(oL D t a b c).2=0 then oL D t a b c else([],(oL D t a b c).2))=uF D.su (aJ D (-1)) a b c:=by
 obtain⟨r,d,j,n⟩:=h.t;rw[q]at d;cases d;have m:=h.fits (-1);unfold oL uF;cases h1:inR a 0 ((D.su.pc.hands.length:Int) - 1)
 ·simp
 cases h2:aI b
 ·simp
 cases l:aI c
 ·simp
 by_cases e:b<=c
 case neg=>
  have:inR (c - b) 0 10=false:=by simp[inR];omega
  simp[this,e]
 by_cases f:c - b>10
 ·have:inR (c - b) 0 10=false:=by simp[inR];omega
  simp[this,f]
 have k:inR (c - b) 0 10=true:=Jc (by omega);rw[j.op a];cases p:(bg (aJ D (-1)) a).2
 ·simp[k,e,f]
 have g:=zh _ a m p;have i:(bD D.su (aJ D (-1))).ok=true:=by rw[<-j.pc];exact n.pc
 have o:=Oa i h2 l e (by omega) (by rw[pJ];exact h1) g;rw[j.pc,if_pos rfl];simp only[o,k,e,f,Bool.and_self,decide_true,decide_false,Bool.not_false,if_true];cases PX (bD D.su (aJ D (-1))) a (bg (aJ D (-1)) a).1 (iM (bD D.su (aJ D (-1))) b (c - b+1).toNat (bD D.su (aJ D (-1))).links.length 0)with
 |some L=>rfl
 |none=>rfl
def chP (p:Pc):DV:= .aV [sF (p.links.map Lk.dv),sF (p.hands.map au)]
def chB (p:Pc)(f:Fr):List (Option (List PV)):=[some [.d (sF (p.links.map Lk.dv)), .d (sF (p.hands.map au))],some [pI f.n,pI f.d]]
variable{i:Nat}
def U5 {α:Type}[Inhabited α]{S:α->Bool}{l:List α}(h:i<l.length):(l.drop i).find? S=if S (l.getD i default)then some (l.getD i default)else(l.drop (i+1)).find? S:=by
 rw[drop_cons h,List.find?_cons];cases S (l.getD i default)<;>rfl
def aci (p:Pc)(w:p.ok=true)(a e hand:Int)(hl:aI a=true)(hm:aI e=true)(an:a<=e)(hw:e - a<=10)(h0:0<=hand)(h1:hand.toNat<p.hands.length)(f:Fr)(hf:f.ok=true):
  Pure C 230 [p.dv,dI a,dI e,dI hand,f.dv] (.d (.tup [.slice true (((PX p hand f (iM p a (e - a+1).toNat p.links.length 0)).getD []).map Chg.dv), .bool (PX p hand f (iM p a (e - a+1).toNat p.links.length 0)).isSome])) []:=by
 have g:=Pc.good w;have aw:4<=a/\a<=60:=by simpa[aI,inR]using hl
 have aox:4<=e/\e<=60:=by simpa[aI,inR]using hm
 have X:=aib p w a e hl hm an hw;obtain⟨L,V⟩:∃L,L=iM p a (e - a+1).toNat p.links.length 0:=⟨_,rfl⟩
 rw[<-V]at X⊢;have l:∀c∈L,(0<=c.link/\c.link.toNat<p.links.length)/\c.pr.ok=true:=by
  intro c K;rw[V]at K;have:=GI K;refine⟨by omega,?_⟩;simp[Pr.ok,aI,inR];omega
 have ax:L.length<=605:=by
  rw[V];refine be (MR _ _ _ _ _) (be (cg g.l2 (cg ?_ ?_)) (by decide:5*(11*11)<=605))<;>omega
 clear V;have E:=ZL p p w w rfl hand h0 h1 f hf;have T:=fun(q:Pc) (hq:q.links.length=p.links.length) (c:Chg) (K:c∈L)=>Ji q c (by have:=g.l2;omega) (l c K).1.1 (by rw[hq];exact(l c K).1.2)
 have Y:=fun(q:Pc) (hq:q.ok=true) (ao:q.links.length=p.links.length)=>ZL p q w hq ao hand h0 h1 f hf
 simp only[dA,bK,jI]at X E T Y;refine ah FN Xu ?_;rw[dA,bK];simp only[FN,Xu,RN,B,F,O];refine ak E ?_;rw[PX];cases k0:kJ p p hand f
 case true=>
  (try simp only[RN,B,F])
  rfl
 (try simp only[RN,B,F,O]);refine ak X ?_;(try simp only[]);refine aG L.length (fun i (_:Unit)=>⟨[(3,pI hand),(5, .d (chP p)),(9, .d (.aV [dI f.n,dI f.d])),(12, .d (sF (L.map Chg.dv))),(13,pI i)],⟨chB p f,[1,0],[]⟩⟩)
  (fun i _=>(L.find? fun c=>kJ p (p.changed c) hand f)=(L.drop i).find? fun c=>kJ p (p.changed c) hand f) 0 () (ae _) rfl rfl (fun i _ m b=> ?_) (fun _ b=> ?_)
 ·obtain⟨W,A,R⟩:=rng m (by omega)
  obtain⟨c,h⟩:∃c,c=L.getD i default:=⟨_,rfl⟩
  have r:c∈L:=by rw[h];exact getD_mem m
  rw[U5 m,<-h]at b;have u:=T p rfl c r;have ap:=Y (p.changed c) (rV w (l c r).2) (zY p c);simp only[chP,W,A,m,getD_map,<-h,jI,U,Q,RN,B,F,O];refine ak u ?_
  try(try simp only[RN,B,F,I,J,N,O])
  refine ak ap ?_;cases t:kJ p (p.changed c) hand f
  ·rw[t]at b
   simp only[R,RN,B];exact aX () m rfl b
  ·rw[t,if_pos rfl]at b
   rw[b];simp only[A,m,getD_map,<-h,jI,U,Q,fD,DV.strip,RN,B,F,O];simp[jI]
 rw[aL,cC]at b;rw[b];obtain⟨S,G⟩:∃S:Chg->Chg->Bool,S=fun c k=>kJ p ((p.changed c).changed k) hand f:=⟨_,rfl⟩
 have Z:=fun c k=>congrFun (congrFun G c) k
 simp only[<-G];simp only[am,Q,RN,B];refine aG L.length (fun i (_:Unit)=>⟨[(3,pI hand),(5, .d (chP p)),(9, .d (.aV [dI f.n,dI f.d])),(12, .d (sF (L.map Chg.dv))),(14,pI i)],⟨chB p f,[1,0],[]⟩⟩)
  (fun i _=>Bz S L=Bz S (L.drop i)) 0 () (ae _) rfl rfl (fun i _ m b=> ?_) (fun _ b=> ?_)
 ·obtain⟨W,A,R⟩:=rng m (by omega)
  obtain⟨c,h⟩:∃c,c=L.getD i default:=⟨_,rfl⟩
  have r:c∈L:=by rw[h];exact getD_mem m
  rw[drop_cons m,<-h,Bz]at b;have u:=T p rfl c r;have ai:=rV w (l c r).2;have M:=T (p.changed c) (zY p c);have z:=fun k (hk:k∈L)=>Y ((p.changed c).changed k) (rV ai (l k hk).2) (by rw[zY,zY])
  simp only[<-Z]at z;obtain⟨x,av⟩:∃x,x=p.changed c:=⟨_,rfl⟩
  simp only[<-av]at u M z;simp only[chP,W,A,m,getD_map,<-h,jI,U,Q,RN,B,F,I,O];refine ak u ?_;simp only[chB,R,RN,B,F,J,O];obtain⟨Fn,D⟩:∃Fn:Chg->Bool,Fn=fun k=>decide (k.link>c.link)&&S c k:=⟨_,rfl⟩
  rw[<-D]at b;refine aG L.length (fun k (_:Unit)=>⟨[(3,pI hand),(5, .d (chP p)),(9, .d (.aV [dI f.n,dI f.d])),(12, .d (sF (L.map Chg.dv))),(14,pI i),(15, .d (chP x)),(16,pI k)],⟨chB p f++ [some [.d (sF (x.links.map Lk.dv)), .d (sF (x.hands.map au))]],[2,1,0],[]⟩⟩)
   (fun k _=>(L.drop (i+1)).find? Fn=(L.drop k).find? Fn) (i+1) () m rfl rfl (fun k _ t j=> ?_) (fun _ j=> ?_)
  ·obtain⟨k2,k3,k6⟩:=rng t (by omega)
   obtain⟨y,s⟩:∃y,y=L.getD k default:=⟨_,rfl⟩
   have P:y∈L:=by rw[s];exact getD_mem t
   rw[U5 t,<-s]at j;have ac:=M y P;have aq:=z y P;have o:Fn y=(decide (y.link>c.link)&&S c y):=by rw[D]
   simp only[chP,A,m,k2,k3,t,getD_map,<-h,<-s,jI,U,Q,RN,B,F,O]
   by_cases v:y.link>c.link
   case neg=>
    rw[decide_eq_false v,ab]at o;rw[o]at j;simp only[v,k6,RN,B];exact aX () t rfl j
   rw[decide_eq_true v,b2]at o;simp only[v,k3,t,getD_map,<-s,jI,U,Q,RN,B,F,O];refine ak ac ?_
   try(try simp only[RN,B,F,I,J,N,O])
   refine ak aq ?_;cases H:S c y
   ·rw[o,H]at j
    simp only[k6,RN,B];exact aX () t rfl j
   ·rw[o,H,if_pos rfl]at j
    rw[j]at b;rw[b];simp only[A,m,k3,t,getD_map,<-h,<-s,jI,U,Q,RN,B,F,O];simp[jI,ay,dL,datum,vJ,DV.strip,DV.cells,ji]
    rfl
  ·rw[aL,cC]at j
   rw[j]at b;simp only[am,Q,R,RN,B];exact fC 2 0 () m rfl b (by simp) (by simp) rfl rfl
 ·rw[aL,Bz]at b
  rw[b];simp only[am,Q,RN,B]
  rfl
def ak2 (s:Su)(hs:s.ok=true)(l:List En)(hl:∀x∈l,x.Fit s)(ao:l.length<=400)(ns:List Int)(hn:ns.length=3):Pure C 138 [s.dv,sF (l.map En.dv),sF (ns.map au)] (.d (.tup [sF ((uF s l (ns.getD 0 default) (ns.getD 1 default) (ns.getD 2 default)).1.map au),dI (uF s l (ns.getD 0 default) (ns.getD 1 default) (ns.getD 2 default)).2])) []:=by
 obtain⟨a,b,c,rfl⟩:∃a b c,ns=[a,b,c]:=by
  match ns,hn with
  | [a,b,c],_=>exact⟨a,b,c,rfl⟩
 have hg:=Pc.good (Su.facts hs).1;have S:=Xo s (by have:=hg.h2;omega) a;have hR:=aik b c;have G:=wL s hs l hl (by omega);have T:=Lu l a (fun x hx=>wR (hl x hx)) (by omega);have t:=BU hs l hl;rw[dF]at S G;rw[dA]at G;rw[bK]at T;have z:(0:Int)<=1:=by omega
 have A:(0:Int)<=2:=by omega
 simp only[show[a,b,c].getD 0 default=a from rfl,show[a,b,c].getD 1 default=b from rfl,show[a,b,c].getD 2 default=c from rfl];refine bG (aC O9 Iy ?_);rw[dF];simp only[O9,Iy,j0,t0,aH,RN,B,F,N,O];refine ak S ?_;cases g:inR a 0 ((s.pc.hands.length:Int) - 1)
 ·have e:uF s l a b c=([],2):=by simp[uF,g]
  rw[e];(try simp only[RN,B,N])
  rfl
 simp only[z,A,t1,t2,RN,B,F,N,O];refine ak hR ?_;cases K:aI b&&aI c&&decide (b<=c)
 ·have e:uF s l a b c=([],2):=by simp only[uF,K,bN,ab,bO,if_false]
  rw[e];(try simp only[RN,B,N])
  rfl
 simp only[V,decide_eq_true_eq]at K;obtain⟨⟨k,m⟩,f⟩:=K;have ac:4<=b/\b<=60:=by simpa[aI,inR]using k
 have ai:4<=c/\c<=60:=by simpa[aI,inR]using m
 have w1:cM .i64 (c - b)=c - b:=aB (by omega);simp only[z,A,t1,t2,w1,RN,B,F,N,O]
 by_cases j:c - b>10
 ·have e:uF s l a b c=([],2):=by simp[uF,j]
  rw[e];simp only[j,RN,B,N]
  rfl
 have ha:0<=a/\a<=(s.pc.hands.length:Int) - 1:=by simpa[inR]using g
 simp only[j,j0,t0,RN,B,F,N,O];refine ak T ?_;simp only[RN,B,F,J,O];cases D:(bg l a).2
 ·have e:uF s l a b c=([],7):=by simp[uF,g,k,m,f,j,D]
  rw[e];(try simp only[RN,B,F,N])
  rfl
 have q:=zh l a hl D;have E:=aci (bD s l) t b c a k m f (by omega) ha.1 (by rw[pJ];omega) (bg l a).1 q;rw[dA,bK]at E;have P:PX (bD s l) a (bg l a).1 (iM (bD s l) b (c - b+1).toNat (bD s l).links.length 0)=none->uF s l a b c=([],5):=fun h=>by simp[uF,g,k,m,f,j,D,h]
 have M:∀L,PX (bD s l) a (bg l a).1 (iM (bD s l) b (c - b+1).toNat (bD s l).links.length 0)=some L->uF s l a b c=(sQ L,0):=fun L h=>by simp[uF,g,k,m,f,j,D,h]
 obtain⟨R,o⟩:∃R,R=PX (bD s l) a (bg l a).1 (iM (bD s l) b (c - b+1).toNat (bD s l).links.length 0):=⟨_,rfl⟩
 rw[<-o]at E P M;have H:∀L,R=some L->L.length<=2:=by
  intro L h;have Uo:=Oa t k m f (by omega) (show inR a 0 ((bD s l).hands.length - 1)=true by rw[pJ];exact g) q;rw[<-o,h]at Uo;have:=Ob (bD s l) b c a (bg l a).1;rw[Uo]at this;exact this
 simp only[j0,z,A,t0,t1,t2,RN,B,F,N,O];refine ak G ?_
 try simp only[j0,z,A,t0,t1,t2,aH,RN,B,F,I,J,N,O]
 refine ak E ?_;cases R with
 |none=>
  rw[P rfl];simp only[bh,Option.getD_none,RN,B,N]
  rfl
 |some L=>
  have Z:=H L rfl;rw[M L rfl];simp only[bi,bl,RN,B,N];refine aG L.length (fun i (v:Nat)=>⟨[(10, .d (.slice true (L.map Chg.dv))),(12, .tsl 1 v 0),(13,pI i)],
    ⟨[some (s.cs.map .d),some [pI ((bg l a).1.n),pI ((bg l a).1.d)]],[1,0],[some ⟨1,[],0,0⟩,some ⟨1,(sQ (L.take i)).map au,v,0⟩]⟩⟩)
   (fun _ _=>True) 0 0 (ae _) (by rw[nO];rfl) trivial (fun i v w _=> ?_) (fun v _=> ?_)
  ·obtain⟨W,X,Y⟩:=rng w (by omega)
   have u:sQ (L.take (i+1))=sQ (L.take i)++ [(L.getD i default).link,(L.getD i default).pr.a,(L.getD i default).pr.b]:=by rw[aU w,sQ,cj];rfl
   have r:=UO (L.take i);rw[ax]at r;obtain⟨c,p⟩:∃c,c=L.getD i default:=⟨_,rfl⟩
   rw[<-p]at u;simp only[W,X,w,getD_map,<-p,jI,U,Q,ER,Y,RN,B,F,J,N,O];refine⟨by rintro y (rfl|rfl|rfl)<;>rfl,by simp,by omega,?_⟩;refine dD (v+1) w ?_ trivial (by simp) (by simp) rfl (by simp[nO,PV.upto]);rw[u,an];rfl
  ·simp only[am,Q,bI,dS,RN,B,F]
   rw[a7];simp[datum,bY,dY,Mem.row]
def ail (s:Su)(hs:s.ok=true)(x:En)(hx:x.formed=true)(y:x.kind≠6):Pure C 132 [s.dv,x.dv] (.d (.bool (Jo s x))) []:=by
 have z:=En.Bl hx;have a:x.ns.length=gI x.kind:=by
  simp only[En.formed,V,decide_eq_true_eq]at hx;exact hx.1.2
 have A:0<gI x.kind:=by unfold gI;split;omega;split<;>omega
 obtain⟨o,_⟩:=Su.facts hs;have v:=(Pc.wH o).2;have m:=Xo s (by omega);have q:=ZG s hs;have e:0<x.ns.length:=by omega
 have w:(0:Int)<=1:=by omega
 have t:(0:Int)<=2:=by omega
 refine ah KR aK ?_;rw[dF,dO];rw[dF]at m q;simp only[KR,aK,RN,B,F,O];unfold Jo
 by_cases g:x.kind=1
 ·have z1:(x.kind==1)=true:=by simp[g]
  rw[if_pos g];simp only[z1,j0,t0,e,Q,getD_map,aH,RN,B,F,O];refine ak (zH _) ?_;(try simp only[RN,B,F,I,J,N,O])
  rfl
 have z1:(x.kind==1)=false:=beq_false_of_ne g;rw[if_neg g]
 by_cases b:x.kind=2
 ·have f:(x.kind==2)=true:=by simp[b]
  have l1:1<x.ns.length:=by rw[a,b];decide
  have l2:2<x.ns.length:=by rw[a,b];decide
  rw[if_pos b];have k:x.n 0=x.ns.getD 0 default:=rfl;have u:x.n 1=x.ns.getD 1 default:=rfl;have l:x.n 2=x.ns.getD 2 default:=rfl;rw[k,u,l];simp only[z1,f,j0,t0,e,Q,getD_map,aH,RN,B,F,O]
  by_cases r:x.ns.getD 0 default<(s.pc.links.length:Int)
  ·have j:decide (x.ns.getD 0 default<(s.pc.links.length:Int))=true:=decide_eq_true r
   rw[j];simp only[w,t1,l1,Q,getD_map,aH,RN,B,O];refine ak (zH _) ?_;cases h1:aI (x.ns.getD 1 default)
   ·simp only[ab,RN,B]
   ·simp only[t,t2,l2,Q,getD_map,aH,RN,B,O]
    refine ak (zH _) ?_;(try simp only[])
  ·have j:decide (x.ns.getD 0 default<(s.pc.links.length:Int))=false:=decide_eq_false r
   rw[j];simp only[ab,RN,B]
 have f:(x.kind==2)=false:=beq_false_of_ne b;rw[if_neg b]
 by_cases c:x.kind=3
 ·have i:(x.kind==3)=true:=by simp[c]
  have l2:2<x.ns.length:=by rw[a,c];decide
  rw[if_pos c];have k:x.n 0=x.ns.getD 0 default:=rfl;have l:x.n 2=x.ns.getD 2 default:=rfl;rw[k,l];simp only[z1,f,i,j0,t0,e,Q,getD_map,aH,RN,B,F,O];refine ak (m _) ?_;cases h1:inR (x.ns.getD 0 default) 0 ((s.pc.hands.length:Int) - 1)
  ·simp only[ab,RN,B]
  ·simp only[t,t2,l2,Q,getD_map,aH,RN,B,O]
 have i:(x.kind==3)=false:=beq_false_of_ne c;rw[if_neg c]
 by_cases h:x.kind=4
 ·have p:(x.kind==4)=true:=by simp[h]
  rw[if_pos h];simp only[z1,f,i,p,j0,t0,e,Q,getD_map,aH,RN,B,F,O];refine ak (m _) ?_;(try simp only[RN,B,F,I,J,N,O])
  rfl
 ·have p:(x.kind==4)=false:=beq_false_of_ne h
  rw[if_neg h];simp only[z1,f,i,p,j0,t0,e,Q,getD_map,aH,RN,B,F,O];refine ak (q _) ?_;(try simp only[RN,B,F,I,J,N,O])
  rfl
def amy {C:Ctx}{base:Nat}{M:Mem}{K:PV->Mem->Prop}{KP:DV->Mem->Prop}{a b c d:Int}:ay C base (.AL false [1,1]) [.d (.agg [dI a,dI b]), .d (.agg [dI c,dI d])] M K KP=K (.d (.bool ((a==c)&&(b==d)))) M:=by
 simp[ay,fA]
def aag {p:Pc}{c:Chg}:(nU p c).length<=p.hands.length:=by
 rw[nU,Q];exact be (aw _ _) (by simp)
def adG (s:Su)(hs:s.ok=true)(l:List En)(hl:∀x∈l,x.Fit s)(an:l.length<=400)(x:En)(hx:x.Fit s):Pure C 133 [s.dv,sF (l.map En.dv),x.dv] (.d (.bool (lN s l x))) []:=by
 obtain⟨aq,aw,L,ac,_⟩:=Su.facts hs;have aqj:0<=s.lim/\s.lim<=10800:=by simpa[inR]using L
 have hP:=wL s hs l hl (by omega);have hS:=ZK s hs l hl an;have hO:=fun h=>Lu l h (fun y hy=>wR (hl y hy)) (by omega)
 have j:=BU hs l hl;obtain⟨N,M⟩:=yK s l;have q:=wR hx;have hm:0<gI x.kind:=by unfold gI;split;omega;split<;>omega
 have m:0<x.ns.length:=by omega
 have W:x.n 0=x.ns.getD 0 default:=rfl;obtain⟨p,hp⟩:∃p,p=bD s l:=⟨_,rfl⟩
 rw[<-hp]at hP j N M;refine ah O5 Ar ?_;simp only[bK]at hO;rw[dF]at hP hS;rw[dA]at hP;rw[dF,dO];simp only[O5,Ar,RN,B,F,O];refine ak hP ?_;(try simp only[RN,B,F,J,O]);unfold lN;rw[<-hp]
 by_cases R:x.kind=1
 ·have z1:(x.kind==1)=true:=by simp[R]
  have ao:1<=x.n 0:=by
   have:=hx.te R;simp only[aI,inR,V,decide_eq_true_eq]at this;omega
  have w:=VK s.dvd (x.n 0) ac ao;rw[rW,JG]at w;rw[if_pos R];simp only[z1,j0,t0,m,Q,getD_map,aH,RN,B,F,I,O];refine ak w ?_;cases hc:(s.dvd.first (x.n 0)).isSome
  ·simp only[ab,RN,B,F,J,O]
  ·(try simp only[RN,B,F,J,O])
   refine ak hS ?_;have e8:decide (((jd s l).length:Int)<8)=decide ((jd s l).length<8):=decide_eq_decide.2 (by omega);simp only[Q,e8,RN]
 have z1:(x.kind==1)=false:=beq_false_of_ne R;rw[if_neg R]
 by_cases u:x.kind=2
 ·have S:(x.kind==2)=true:=by simp[u]
  obtain⟨⟨r,X⟩,f3⟩:=JK hx u;rw[W]at r X;have f:(x.ns.getD 0 default).toNat<p.links.length:=by rw[N];exact X
  have A:=aij x (by rw[q,u];decide);rw[dO]at A;have G:=adD (jd s l) (jQ p x) x.chg.pr (by have:=Jt s l;omega);rw[kP,kP]at G;have E:=afC p x.chg j f3 r f;rw[dA,jI]at E;have Q9:=aag (p:=p) (c:=x.chg);have aqx:=(Pc.wH j).2;rw[if_pos u];simp only[z1,S,j0,t0,m,Q,getD_map,aH,RN,B,F,I,O];refine ak A ?_;simp only[j0,t0,m,Q,getD_map,aH,r,f,qh,amy,RN,B,F,J,O]
  by_cases K:jQ p x=x.chg.pr
  ·have z:(((p.links.getD (x.ns.getD 0 default).toNat default).pr.a==x.n 1)&&((p.links.getD (x.ns.getD 0 default).toNat default).pr.b==x.n 2))=true:=by
    have h1:(jQ p x).a=x.n 1:=by rw[K];rfl
    have h2:(jQ p x).b=x.n 2:=by rw[K];rfl
    have h1:(p.links.getD (x.ns.getD 0 default).toNat default).pr.a=x.n 1:=h1;have h2:(p.links.getD (x.ns.getD 0 default).toNat default).pr.b=x.n 2:=h2;rw[h1,h2];simp
   simp only[z,RN,B,F];simp[K]
  have z:(((p.links.getD (x.ns.getD 0 default).toNat default).pr.a==x.n 1)&&((p.links.getD (x.ns.getD 0 default).toNat default).pr.b==x.n 2))=false:=by
   rw[Bool.eq_false_iff];intro h;simp only[V,beq_iff_eq]at h;apply K
   show(⟨(p.links.getD (x.ns.getD 0 default).toNat default).pr.a,(p.links.getD (x.ns.getD 0 default).toNat default).pr.b⟩:Pr)=⟨x.n 1,x.n 2⟩
   rw[h.1,h.2]
  have d1:decide (jQ p x=x.chg.pr)=false:=decide_eq_false K;rw[d1];simp only[z,RN,B,F,O];refine ak hS ?_;simp only[j0,t0,m,Q,getD_map,aH,r,f,qh,RN,F,O];refine ak G ?_;cases av:(iG (jd s l) (jQ p x) x.chg.pr).2
  ·simp only[ab,RN,B]
  (try simp only[RN,B,F,O]);refine ak E ?_;simp only[];refine aG (nU p x.chg).length (fun i (_:Unit)=>⟨[(1, .d (sF (l.map En.dv))),(14, .d (sF ((nU p x.chg).map au))),(15,pI i)],
    ⟨[some (s.cs.map .d),some [pI x.kind, .d (sF (x.ns.map au))],some [.d (sF (p.links.map Lk.dv)), .d (sF (p.hands.map au))],some [pI (x.ns.getD 0 default),pI (x.n 1),pI (x.n 2)]],[3,2,1,0],[]⟩⟩)
   (fun i _=>((nU p x.chg).all fun h=>(bg l h).2)=(((nU p x.chg).drop i).all fun h=>(bg l h).2)) 0 () (ae _) rfl rfl (fun i _ g e=> ?_) (fun _ e=> ?_)
  ·obtain⟨g2,Y,Z⟩:=rng g (by omega)
   rw[drop_cons g,cD]at e;simp only[g2,Y,g,getD_map,aH,U,Q,RN,B,F,O];refine ak (hO _) ?_;cases hb:(bg l ((nU p x.chg).getD i default)).2
   ·rw[hb,ab]at e
    simp only[e,RN,B,F,J,O]
   ·rw[hb,b2]at e
    simp only[Z,RN,B,F,J,O];exact fC 4 0 () g rfl e (by simp) (by simp) rfl rfl
  ·rw[aL,cI]at e
   simp only[am,Q,e,RN,B,F]
 have S:(x.kind==2)=false:=beq_false_of_ne u;rw[if_neg u]
 by_cases k3:x.kind=3
 ·have z3:(x.kind==3)=true:=by simp[k3]
  rw[if_pos k3];simp only[z1,S,z3,j0,t0,m,Q,getD_map,aH,RN,B,F,O];refine ak (hO _) ?_;(try simp only[RN,F,J,O])
  rfl
 have z3:(x.kind==3)=false:=beq_false_of_ne k3;rw[if_neg k3]
 by_cases v:x.kind=4
 ·have z4:(x.kind==4)=true:=by simp[v]
  obtain⟨r,X⟩:=hx.hd (.inr v);have f:(x.n 0).toNat<p.hands.length:=by rw[M];exact X
  have l1:1<x.ns.length:=by rw[q,v];decide
  have j1:(0:Int)<=1:=by omega
  have e1:x.n 1=x.ns.getD 1 default:=rfl;have D:=SE s hs p j (x.n 0) r f;rw[dF,dA]at D;have w1:cM .i64 (0 - s.lim)= -s.lim:=by rw[aB (by omega)];omega
  rw[if_pos v];simp only[z1,S,z3,z4,j0,t0,m,Q,getD_map,aH,RN,B,F,O];refine ak (hO _) ?_;rw[<-W];cases ho:(bg l (x.n 0)).2
  ·simp only[ab,RN,B,F,J,O]
  have ai:=zh l (x.n 0) hl ho;have H:=ZP p j (x.n 0) r f (bg l (x.n 0)).1 ai 100 (by omega);rw[dA,bK]at H;simp only[j0,t0,m,Q,getD_map,aH,<-W,RN,B,F,J,O];refine ak H ?_;simp only[w1];refine ak (ZV _ _ _) ?_;cases hc:inR (Nu p (x.n 0) (bg l (x.n 0)).1 100) (-s.lim) s.lim
  ·simp only[ab,RN,B]
  simp only[j0,t0,m,j1,t1,l1,Q,getD_map,aH,<-W,RN,B,F,O];refine ak D ?_;(try simp only[RN])
  rfl
 ·have z4:(x.kind==4)=false:=beq_false_of_ne v
  have k5:x.kind=5:=by have:=hx.k;omega
  have hd:=hx.df;rw[En.Hu k5]at hd;obtain⟨d1,d2⟩:=hd;have ap:=lK s;have H:=ZO s hs (x.n 0) (by omega);rw[dF]at H;rw[if_neg v];simp only[z1,S,z3,z4,RN,B,F];refine aG l.length (fun i (_:Unit)=>⟨[(1, .d (sF (l.map En.dv))),(3, .d (.aV s.cs)),(7, .d (sF (x.ns.map au))),(22,pI i)],
    ⟨[some (s.cs.map .d),some [pI x.kind, .d (sF (x.ns.map au))],some [.d (sF (p.links.map Lk.dv)), .d (sF (p.hands.map au))]],[2,1,0],[]⟩⟩)
   (fun i _=>(l.any fun y=>y.kind==5&&decide (y.n 0>=x.n 0))=((l.drop i).any fun y=>y.kind==5&&decide (y.n 0>=x.n 0))) 0 () (ae _) rfl rfl (fun i _ g e=> ?_) (fun _ e=> ?_)
  ·obtain⟨g2,Y,Z⟩:=rng g (by omega)
   have hy:=hl _ (getD_mem g);have P:=wR hy;rw[drop_cons g,List.any_cons]at e;obtain⟨y,t⟩:∃y,y=l.getD i default:=⟨_,rfl⟩
   rw[<-t]at e hy P;simp only[g2,Y,g,getD_map,<-t,dO,U,Q,RN,B,F,O]
   by_cases y5:y.kind=5
   ·have T:(y.kind==5)=true:=by simp[y5]
    have ly:0<y.ns.length:=by rw[P,y5];decide
    rw[T,b2]at e;simp only[T,Y,g,getD_map,<-t,dO,aH,U,Q,j0,t0,m,ly,RN,B,F,O]
    by_cases o:y.ns.getD 0 default>=x.ns.getD 0 default
    ·have dg:decide (y.n 0>=x.n 0)=true:=decide_eq_true o
     rw[dg,cG]at e;simp only[o,e,ab,RN,B,F]
    ·have dg:decide (y.n 0>=x.n 0)=false:=decide_eq_false o
     rw[dg,ck]at e;simp only[o,Z,RN,B,F];exact aX () g rfl e
   ·have T:(y.kind==5)=false:=beq_false_of_ne y5
    rw[T,ab,ck]at e;simp only[T,Z,RN,B,F];exact aX () g rfl e
  ·rw[aL,List.any_nil]at e
   simp only[am,Q,j0,t0,m,getD_map,aH,nO,RN,B,F,O];refine ak H ?_;simp only[e,RN]
def aio (s:Su)(hs:s.ok=true)(l:List En)(hl:∀x∈l,x.Fit s)(o:l.length<=400):Pure C 131 [s.dv,sF (l.map En.dv)] (.d (.bool (kF s l))) []:=by
 have k:=fun i (h:i<l.length)=>adG s hs (l.take i) (aap hl i) (by rw[ax];omega) (l.getD i default) (hl _ (getD_mem h))
 refine ah KY aK ?_;simp only[dF,dO (x:=l.getD _ default)]at k;rw[dF];simp only[KY,aK,RN,B,F];refine aG l.length (fun i (_:Unit)=>⟨[(1, .d (sF (l.map En.dv))),(2, .d (.aV s.cs)),(5,pI i)],⟨[some (s.cs.map .d)],[0],[]⟩⟩)
  (fun i _=>∀j,j<i->lN s (l.take j) (l.getD j default)=true) 0 () (ae _) rfl (fun j h=>by omega) (fun i _ b a=> ?_) (fun _ a=> ?_)
 ·obtain⟨c,f,m⟩:=rng b (by omega)
  have p:(0:Int)<=(i:Int):=by omega
  have q:(i:Int)<=((l.map En.dv).length:Int):=by rw[Q];omega
  simp only[c,f,b,getD_map,dO (x:=l.getD i default),U,Q,nO,RN,B,F,O];rw[wz (aa9 l) p q,<-List.map_take,U]
  try simp only[c,f,b,getD_map,dO (x:=l.getD i default),U,Q,RN,B,F,I,J,N,O]
  refine ak (k i b) ?_;cases g:lN s (l.take i) (l.getD i default)
  ·have:kF s l=false:=by
    rw[<-Bool.not_eq_true,kF,bk];intro h;have:=h i (bv.2 b);rw[g]at this;cases this
   simp only[this,RN,B]
  ·simp only[m,RN,B]
   refine aX () b rfl fun j r=> ?_
   by_cases e:j=i
   ·rw[e];exact g
   ·exact a j (by omega)
 ·have:kF s l=true:=by
   rw[kF,bk];exact fun i n=>a i (bv.1 n)
  simp only[am,Q,this,RN,B]
def Uw (D:Dk):List DV:=[sF (D.su.pc.links.map Lk.dv),sF (D.su.pc.hands.map au),sF (D.su.tg.map Fr.dv),dI D.su.lim,dI D.su.dvd.dK,sF (D.su.dvd.cir.map au),dI D.su.cal.ep,sF (D.su.cal.cy.map au),dI D.su.jG.n,dI D.su.jG.d,dI D.su.jG.ad,sF (D.su.fs.map Fs.dv),dI D.su.year,dI D.su.gG,dI D.su.hours,dI D.su.lW,dI D.su.pct,sF (D.es.map En.dv),sF (D.st.map .bool)]
def NG (D:Dk):DV:= .agg (Uw D)
def agM:Uw D=[sF (D.su.pc.links.map Lk.dv),sF (D.su.pc.hands.map au),sF (D.su.tg.map Fr.dv),dI D.su.lim,dI D.su.dvd.dK,sF (D.su.dvd.cir.map au),dI D.su.cal.ep,sF (D.su.cal.cy.map au),dI D.su.jG.n,dI D.su.jG.d,dI D.su.jG.ad,sF (D.su.fs.map Fs.dv),dI D.su.year,dI D.su.gG,dI D.su.hours,dI D.su.lW,dI D.su.pct,sF (D.es.map En.dv),sF (D.st.map .bool)]:=by rw[Uw]
def ug:NG D= .agg [sF (D.su.pc.links.map Lk.dv),sF (D.su.pc.hands.map au),sF (D.su.tg.map Fr.dv),dI D.su.lim,dI D.su.dvd.dK,sF (D.su.dvd.cir.map au),dI D.su.cal.ep,sF (D.su.cal.cy.map au),dI D.su.jG.n,dI D.su.jG.d,dI D.su.jG.ad,sF (D.su.fs.map Fs.dv),dI D.su.year,dI D.su.gG,dI D.su.hours,dI D.su.lW,dI D.su.pct,sF (D.es.map En.dv),sF (D.st.map .bool)]:=by rw[NG,Uw]
def Y9 (n:Nat):DV:=dI n
def ag0 {n:Nat}:Y9 n=dI n:=rfl
def zM (D:Dk)(n:Nat):List Nat:=(b7 n).filter (nV D)
def UA (D:Dk)(n:Nat):zM D (n+1)=zM D n++if nV D n then[n]else[]:=by
 rw[zM,b9,cl,<-zM,cr,cv]
def L6 (D:Dk)(n:Nat):(zM D n).length<=n:=be (aw _ _) (by simp)
def acM (h:i∈fH D):i<D.es.length:=bv.1 (b8.1 h).1
def Ja {l:List Bool}(h:i<l.length):(l.map DV.bool).getD i default= .bool (l.getD i default):=by rw[getD_map h]
def VG (D:Dk)(hl:D.es.length=D.st.length)(m:D.es.length<=1000):Pure C 37 [NG D] (.d (sF ((fH D).map Y9))) []:=by
 refine bG (aC zA aN ?_);rw[ug];simp only[zA,aN,RN,B,N];refine aG D.es.length (fun i (v:Nat)=>⟨[(1, .d (.aV (Uw D))),(3, .tsl 1 v 0),(4,pI i)],⟨[some ((Uw D).map .d)],[0],[some ⟨1,[],0,0⟩,some ⟨1,(zM D i).map Y9,v,0⟩]⟩⟩)
  (fun i _=>True) 0 0 (ae _) rfl trivial (fun i v b _=> ?_) (fun v _=> ?_)
 ·obtain⟨l,f,g⟩:=rng b (by omega)
  have h:i<D.st.length:=by omega
  have a:=UA D i;have j:=L6 D i;simp only[agM,l,f,b,getD_map,dO,U,Q,RN,B,F,O]
  by_cases k:(D.es.getD i default).kind=6
  ·have z:((D.es.getD i default).kind !=6)=false:=by rw[k];rfl
   have c:nV D i=false:=by rw[nV,k];rfl
   rw[c,if_neg (by simp),bo]at a;simp only[z,g,RN,B];rw[<-a];exact dD v b rfl trivial (by simp) (by simp) rfl rfl
  have z:((D.es.getD i default).kind !=6)=true:=bne_iff_ne.2 k;cases e:D.st.getD i default
  ·have c:nV D i=true:=by rw[nV,e,decide_eq_true k];rfl
   rw[c,if_pos rfl]at a;simp only[z,f,h,Ja,e,kN,U,Q,fD,DV.strip,fits_int,forall_eq,g,RN,B,F,J,N,O];refine⟨by simp,by omega,?_⟩;refine dD (v+1) b ?_ trivial (by simp) (by simp) rfl rfl;rw[a,an]<;>rfl
  ·have c:nV D i=false:=by rw[nV,e,Bool.not_true,bN]
   rw[c,if_neg (by simp),bo]at a;simp only[z,f,h,Ja,e,kN,U,Q,g,RN,B,F,O];rw[<-a];exact dD v b rfl trivial (by simp) (by simp) rfl rfl
 ·have:zM D D.es.length=fH D:=rfl
  simp only[agM,am,Q,RN,B,F,O];rw[this];simp[datum,Mem.row]
def mM (D:Dk)(w:Int)(n:Nat):List En:=(((fH D).take n).filter fun(i:Nat)=>decide ((i:Int)≠w)).map fun i=>D.es.getD i default
def P5 (D:Dk)(w:Int){n:Nat}(h:n<(fH D).length):mM D w (n+1)=mM D w n++if(((fH D).getD n default:Nat):Int)≠w then[D.es.getD ((fH D).getD n default) default]else[]:=by
 rw[mM,aU h,cl,an,<-mM,cr,cv]
 congr 1
 by_cases e:(((fH D).getD n default:Nat):Int)≠w
 ·rw[if_pos (decide_eq_true e),if_pos e];rfl
 ·rw[if_neg (by rw[decide_eq_true_iff];exact e),if_neg e];rfl
def TP (D:Dk)(w:Int)(n:Nat):(mM D w n).length<=n:=by
 rw[mM,Q];exact be (aw _ _) (by rw[ax];omega)
def yL (D:Dk)(w:Int):(aJ D w).length<=D.es.length:=by
 rw[aJ,Q];exact be (aw _ _) (be (aw _ _) (by simp))
def F9 (D:Dk)(hl:D.es.length=D.st.length)(f:D.es.length<=1000)(w:Int):Pure C 22 [NG D,dI w] (.d (sF ((aJ D w).map En.dv))) []:=by
 have k:=VG D hl f;have o:(fH D).length<=D.es.length:=L6 D _;refine bG (aC xB aK ?_);rw[ug]at k⊢;simp only[xB,aK,RN,B,F,N,O];refine ak k ?_;simp only[];refine aG (fH D).length (fun i (v:Nat)=>⟨[(1,pI w),(2, .d (.aV (Uw D))),(5, .tsl 1 v 0),(6, .d (sF ((fH D).map Y9))),(7,pI i)],⟨[some ((Uw D).map .d)],[0],[some ⟨2,[],0,0⟩,some ⟨2,(mM D w i).map En.dv,v,0⟩]⟩⟩)
  (fun i _=>True) 0 0 (ae _) rfl trivial (fun i v a _=> ?_) (fun v _=> ?_)
 ·obtain⟨m,h,j⟩:=rng a (by omega)
  have c:=P5 D w a;have l:=TP D w i;have b:=acM (getD_mem a);obtain⟨n,g⟩:∃n,n=(fH D).getD i default:=⟨_,rfl⟩
  rw[<-g]at c b;have p:(0:Int)<=(n:Int):=by omega
  simp only[m,h,a,getD_map,ag0,<-g,U,Q,RN,B,O]
  by_cases e:(n:Int)=w
  ·have z:((n:Int) !=w)=false:=by simp[e]
   rw[if_neg (by simp[e]),bo]at c;simp only[z,j,RN,B];rw[<-c];exact dD v a rfl trivial (by simp) (by simp) rfl rfl
  ·have z:((n:Int) !=w)=true:=by simp[e]
   rw[if_pos e]at c;simp only[z,agM,h,a,getD_map,ag0,<-g,p,b,dO,U,Q,fD,DV.strip,RN,B,F,J,N,O];refine⟨by rintro y rfl;rfl,by simp,by omega,?_⟩;rw[j];refine dD (v+1) a ?_ trivial (by simp) (by simp) rfl rfl;rw[c,an]<;>rfl
 ·have:mM D w (fH D).length=aJ D w:=by rw[mM,a7];rfl
  simp only[am,Q,RN,B];rw[this];simp[datum,Mem.row]
def ak0 (h:D.Live)(x:En)(o:x.ns.length<=1000000):Pure C 50 [NG D,x.dv] (pI (Ae D x)) []:=by
 have m:=h.ok.su;have K:=h.ok.len;have A:=h.ok.few;have t:=VF x o;have c:=fun w=>F9 D K (by omega) w
 have b:∀w,∀y∈aJ D w,y.Fit D.su:=fun w y G=>h.fit y (jA G).1 (jA G).2
 have j:=fun w=>yL D w
 have s:=fun w=>aio D.su m (aJ D w) (b w) (by have:=j w;omega)
 refine ah BH aK ?_;rw[ug]at c⊢;rw[dO]at t⊢;rw[dF]at s;simp only[BH,aK,RN,B,F,O];refine ak t ?_;unfold Ae;cases d:x.formed
 ·(try simp only[RN,B,F])
  rfl
 have E:x.ns.length=gI x.kind:=by
  simp only[En.formed,V,decide_eq_true_eq]at d;exact d.1.2
 have L:0<gI x.kind:=by unfold gI;split;omega;split<;>omega
 have R:0<x.ns.length:=by omega
 have H:x.n 0=x.ns.getD 0 default:=rfl;have g:=uw d (i:=0) L;rw[if_neg (by simp)];simp only[Q,RN,B,F,O]
 by_cases e:D.es.length>=24
 ·have z:((D.es.length:Int)>=24):=by omega
  rw[if_pos e];simp only[z,RN,B,F]
 have z:¬((D.es.length:Int)>=24):=by omega
 rw[if_neg e];simp only[z,RN,B,F,O]
 by_cases k6:x.kind=6
 ·have p:(x.kind==6)=true:=by simp[k6]
  rw[if_pos k6];simp only[p,j0,t0,R,Q,getD_map,aH,RN,B,F,O];rw[<-H]
  by_cases a:x.n 0>=(D.es.length:Int)
  ·rw[if_pos (.inl a)]
   simp only[a,RN,B,F]
  have l:(x.n 0).toNat<D.es.length:=by omega
  have f:(x.n 0).toNat<D.st.length:=by omega
  simp only[a,g.1,l,getD_map,dO,Q,RN,B,F,O]
  by_cases k:(D.es.getD (x.n 0).toNat default).kind=6
  ·have r:((D.es.getD (x.n 0).toNat default).kind==6)=true:=beq_iff_eq.2 k
   rw[if_pos (.inr k)];simp only[r,RN,B,F]
  have r:((D.es.getD (x.n 0).toNat default).kind==6)=false:=beq_false_of_ne k;rw[if_neg (by rintro(q|q)<;>first|exact q.elim|exact a q|exact k q)];simp only[r,g.1,f,Ja,kN,Q,RN,B,F,O];cases T:D.st.getD (x.n 0).toNat default
  ·(try simp only[RN,B,F,O])
   refine ak (c _) ?_;(try simp only[RN,B,F,I,J,N,O]);refine ak (s _) ?_;cases S:kF D.su (aJ D (x.n 0))
   ·(try simp only[RN,F])
    rfl
   ·(try simp only[RN,F])
    rfl
  ·(try simp only[RN,B,F])
   rfl
 have p:(x.kind==6)=false:=beq_false_of_ne k6;have v:=ail D.su m x d k6;rw[dF,dO]at v;rw[if_neg k6];simp only[p,RN,B,F,O];refine ak v ?_;cases M:Jo D.su x
 ·(try simp only[RN,B,F])
  rfl
 rw[if_neg (by simp)];have P:x.Fit D.su:=WS d k6 (by rw[<-DN d k6];exact M);have u:=adG D.su m (aJ D (-1)) (b _) (by have:=j (-1);omega) x P;rw[dF,dO]at u;(try simp only[RN,B,F,O]);refine ak (c _) ?_;(try simp only[RN,B,F,I,J,N,O]);refine ak u ?_;cases U:lN D.su (aJ D (-1)) x
 ·(try simp only[RN,F])
  rfl
 ·(try simp only[RN,F])
  rfl
end Go.Tel
namespace Go.Am
variable{bs:List (Option (List PV))}{fz:List Nat}{ar:List (Option Arr)}{sz:Nat}
def ahf {xs:List DV}:Mem.frz ⟨bs,fz,ar++ [some ⟨sz,xs,0,0⟩]⟩ [.tsl ar.length 0 0]=⟨bs,fz,ar++ [some ⟨sz,xs,0,2⟩]⟩:=by
 simp only[Mem.frz,l7,lZ,cn,List.flatMap_nil,bo,aD,I9,List.foldl_cons,List.foldl_nil]
 congr 1
 apply List.ext_getElem?;intro i;rw[List.getElem?_modify]
 by_cases b:ar.length=i
 ·subst b
  rw[bB,bB];simp
 ·simp only[b,if_false]
  by_cases a:i<ar.length
  ·rw[a8 a,a8 a];simp
  ·rw[ca (by simp;omega),ca (by simp;omega)];rfl
def ag2 {C:Ctx}{K:PV->Mem->Prop}{base:Nat}{KP:DV->Mem->Prop}{ys:List DV}{ex:Bool}(a:0<sz)(hf:∀y∈ys,y.fits sz=true)(hl:ys.length<=1073741824)
  (b:K (.d (.slice false ys)) ⟨bs,fz,ar++ [some ⟨sz,ys,0,2⟩]⟩):ay C base (.XV sz) [.d (.slice true []), .d (.slice ex ys)] ⟨bs,fz,ar⟩ K KP:=by
 simp only[ay,agr];refine⟨a,hf,by simp,by simp,by simpa using hl, .slice false ys,by simp[datum,Mem.row],?_⟩;simp only[aD,cond_false];rw[ahf];exact b
end Go.Am
namespace Go.Tel
open Go.Am
variable{D:Dk}
def anX {x:En}(hk:1<=x.kind/\x.kind<=6)(a:x.kind≠6):D.with x={D with es:=D.es++ [x],st:=D.st++ [false]}:=by
 rcases(show x.kind=1\/x.kind=2\/x.kind=3\/x.kind=4\/x.kind=5 by omega)with k|k|k|k|k
 ·unfold Dk.with;rw[En.deed1 k];rfl
 ·unfold Dk.with;rw[En.deed2 k];rfl
 ·unfold Dk.with;rw[En.deed3 k];rfl
 ·unfold Dk.with;rw[En.deed4 k];rfl
 ·unfold Dk.with;rw[En.Hu k];rfl
def ajS (xs:List En):∀y∈xs.map En.dv,y.fits 2=true:=by
 intro y a;obtain⟨z,_,rfl⟩:=bL.1 a;rw[dO];rfl
def aec (xs:List Bool):∀y∈xs.map DV.bool,y.fits 1=true:=by
 intro y a;obtain⟨z,_,rfl⟩:=bL.1 a
 rfl
def ak4 (D:Dk)(x:En)(hl:D.es.length<=1000)(p:D.st.length<=1000)(t:x.ns.length<=1000)(h:x.kind=6->1<=x.ns.length/\0<=x.n 0/\(x.n 0).toNat<D.st.length)(hk:1<=x.kind/\x.kind<=6):Pure C 51 [NG D,x.dv] (.d (NG (D.with x))) []:=by
 refine bG (aC BI aiG ?_);rw[ug (D:=D),dO];simp only[BI,aiG,RN,B,F,J,N,O];refine⟨ajS _,by simp,by simp,by simp;omega,?_⟩;refine ag2 (by decide) (Fa _) (by simp;omega) ?_;have k:∀y:DV,y= .agg [dI x.kind,sF (x.ns.map au)]->y.fits 2=true:=by rintro y rfl;rfl
 have i:=aec D.st;have j:∀y:DV,y= .bool false->y.fits 1=true:=by rintro y rfl;rfl
 have l:(D.es.map En.dv).length<=1073741823:=by simp;omega
 have m:(D.st.map DV.bool).length<=1073741824:=by simp;omega
 have o:(D.st.map DV.bool).length<=1073741823:=by simp;omega
 simp only[DV.strip,dX,fB,RN,B,F,J,N,O]
 (repeat(refine And.intro (by first|assumption|rfl|(simp;done)|(simp;omega)) ?_))
 by_cases k6:x.kind=6
 ·obtain⟨u,r,s⟩:=h k6
  have g:(x.kind==6)=true:=by simp[k6]
  have q:0<x.ns.length:=by omega
  have e:0<=x.ns.getD 0 default:=r;have a:(x.ns.getD 0 default).toNat<D.st.length:=s;have f:(x.ns.getD 0 default).toNat<(D.st.map DV.bool++ [DV.bool false]).length:=by rw[aq,Q];omega
  simp only[g,j0,t0,q,e,f,Q,getD_map,aH,RN,B,F,N,O];have b:(D.st.map DV.bool++ [DV.bool false]).getD (x.ns.getD 0 default).toNat default= .bool (D.st.getD (x.ns.getD 0 default).toNat default):=by
   rw[ai,a8 (by simpa using a),<-ai,getD_map a]
  refine zN (ds:=[.bool true]) rfl rfl (by decide) rfl rfl (by rw[b];exact av 1) ?_;have c:(D.st.map DV.bool++ [DV.bool false]).set (x.ns.getD 0 default).toNat (setCells ((D.st.map DV.bool++ [DV.bool false]).getD (x.ns.getD 0 default).toNat default) 0 [.bool true])=(D.st.set (x.ns.getD 0 default).toNat true++ [false]).map .bool:=by
   rw[b,List.set_append_left _ _ (by simpa using a),an,List.map_set];rfl
  rw[c];simp only[fB,bI,cA,eU,ig,RN,F,J,O];rw[PS k6];simp[datum,bY,dY,Mem.row,ug,dO,En.n]
 ·have g:(x.kind==6)=false:=beq_false_of_ne k6
  simp only[g,fB,bI,cA,eU,ig,RN,B,F,J,O];rw[anX hk k6];simp[datum,bY,dY,Mem.row,ug,dO]
def ain (s:Su)(hs:s.Small)(e:s.fs.length<=1000000):Pure C 18 [s.dv] (.d (.bool s.ok)) []:=by
 have h1:=aii s.pc hs.l hs.h;have h2:=anN s.dvd (by have:=hs.ci;omega);have k:=anM s.cal (by have:=hs.cy;omega);have m:=ald s.jG;have y:=afH s.fs e;have n:=adE s [] false;have o:=afE (s.bil []) (by simp[Su.bil]);have b:=fun f:Fr=>ala f
 simp only[dA,rW,dZ,iO,I5,bK,dF]at h1 h2 k m n o b;refine ah KU aN ?_;rw[dF];simp only[KU,aN,RN,B,F,O];refine ak h1 ?_;cases q:s.pc.ok
 ·(try simp only[RN,B])
  simp[Su.ok,q]
 simp only[Q,RN,B,F,O]
 by_cases j:s.tg.length=s.pc.hands.length
 case neg=>
  have z:((s.tg.length:Int) !=(s.pc.hands.length:Int))=true:=by simp;omega
  simp only[z,RN,B];simp[Su.ok,j]
 have z:((s.tg.length:Int) !=(s.pc.hands.length:Int))=false:=by simp[j]
 simp only[z,RN,B,F,O];refine ak (aiv _) ?_;cases r:inR s.lim 0 10800
 ·(try simp only[RN,B])
  simp[Su.ok,r]
 (try simp only[RN,B,F,O]);refine ak h2 ?_;cases u:s.dvd.ok
 ·(try simp only[RN,B])
  simp[Su.ok,u]
 simp only[RN,B];have A:=hs.t;refine aG s.tg.length (fun i (_:Unit)=>⟨[(1, .d (.aV s.cs)),(3,pI i)],⟨[some (s.cs.map .d)],[0],[]⟩⟩)
  (fun i _=>s.tg.all Fr.ok=(s.tg.drop i).all Fr.ok) 0 () (ae _) rfl rfl (fun i _ c a=> ?_) (fun _ a=> ?_)
 ·obtain⟨v,w,x⟩:=rng c (by omega)
  rw[drop_cons c,cD]at a;simp only[nO,v,w,c,getD_map,bK,U,Q,RN,B,F,O];refine ak (b _) ?_;cases p:(s.tg.getD i default).ok
  ·rw[p,ab]at a
   (try simp only[RN,B]);simp[Su.ok,a]
  ·rw[p,b2]at a
   simp only[x,RN,B];exact aX () c rfl a
 ·rw[aL,cI]at a
  have g:s.ok=(s.cal.ok&&s.jG.ok&&jK s.fs&&inR s.year 0 4000&&(s.bil []).ok):=by
   simp[Su.ok,q,j,r,u,a]
  rw[g];simp only[nO,am,Q,RN,B,F,O];refine ak k ?_;cases D:s.cal.ok
  ·simp only[ab,RN,B]
  (try simp only[RN,B,F,O]);refine ak m ?_;cases k6:s.jG.ok
  ·simp only[ab,RN,B]
  (try simp only[RN,B,F,O]);refine ak y ?_;cases E:jK s.fs
  ·simp only[ab,RN,B]
  (try simp only[RN,B,F,O]);refine ak (adJ _) ?_;cases G:inR s.year 0 4000
  ·simp only[ab,RN,B]
  (try simp only[RN,B,F,O]);refine ak n ?_;(try simp only[RN]);refine ak o ?_;(try simp only[])
def Su.short (s:Su):Bool:=decide (s.pc.links.length<=7)&&decide (s.pc.hands.length<=6)&&decide (s.tg.length<=6)&&decide (s.dvd.cir.length<=8)&&decide (s.cal.cy.length<=5)&&decide (s.fs.length<=8)
def Su.aae {s:Su}(h:s.short=true):s.Small/\s.fs.length<=8:=by
 simp only[Su.short,V,decide_eq_true_eq]at h;exact⟨⟨by omega,by omega,by omega,by omega,by omega⟩,by omega⟩
def Bc {a b:Nat}:decide ((a:Int)<=(b:Int))=decide (a<=b):=decide_eq_decide.2 (by omega)
def alx (s:Su):Pure C 39 [s.dv] (.d (.bool s.short)) []:=by
 refine ah Kw aN ?_;rw[dF];simp only[Kw,aN,Q,RN,B,F,O];have a:decide ((s.pc.links.length:Int)<=7)=decide (s.pc.links.length<=7):=Bc;have c:decide ((s.pc.hands.length:Int)<=6)=decide (s.pc.hands.length<=6):=Bc;have f:decide ((s.tg.length:Int)<=6)=decide (s.tg.length<=6):=Bc;have h:decide ((s.dvd.cir.length:Int)<=8)=decide (s.dvd.cir.length<=8):=Bc;have j:decide ((s.cal.cy.length:Int)<=5)=decide (s.cal.cy.length<=5):=Bc;have l:decide ((s.fs.length:Int)<=8)=decide (s.fs.length<=8):=Bc;rw[Su.short];cases b:decide (s.pc.links.length<=7)
 ·simp only[a,b,ab,RN,B]
 cases e:decide (s.pc.hands.length<=6)
 ·simp only[a,b,c,e,ab,Q,RN,B,F,O]
 cases g:decide (s.tg.length<=6)
 ·simp only[a,b,c,e,f,g,ab,Q,RN,B,F,O]
 cases i:decide (s.dvd.cir.length<=8)
 ·simp only[a,b,c,e,f,g,h,i,ab,Q,RN,B,F,O]
 cases k:decide (s.cal.cy.length<=5)
 ·simp only[a,b,c,e,f,g,h,i,j,k,ab,Q,RN,B,F,O]
 ·simp only[a,b,c,e,f,g,h,i,j,k,l,Q,RN,B,F,O]
def ab8 (line:ByteArray):(dP line).2=0->(dP line).1.ns.length<=1000/\(dP line).1.formed=true:=by
 intro h;unfold dP at h⊢
 split at h
 ·cases h
 ·rename_i h1
  rw[if_neg h1]
  split at h
  ·rename_i a ns c
   simp only[];have b:ns.length<=1000/\(⟨1+a,ns⟩:En).formed=true:=by
    have:=(aar c).1;exact⟨by have:=CS this;simp only at this;omega,this⟩
   exact b
  ·cases h
variable{bs:List (Option (List PV))}{fz:List Nat}{ar:List (Option Arr)}
def nZ.grow {d:Nat}{ce cs:PV}(h:nZ D d ce cs ⟨bs,fz,ar⟩)(x:Option (List PV)):nZ D d ce cs ⟨bs++ [x],bs.length::fz,ar⟩:=by
 have hd:d<bs.length:=(bS.1 h.box).1;refine⟨h.toDkRd.ext,h.dif,?_,?_⟩
 ·intro e
  rcases ap.1 e with e|e
  ·omega
  ·exact h.nb e
 ·intro i a
  rcases ap.1 a with rfl|a
  ·simp
  ·have:=h.fzb i a
   simp only at this;simp only[aq,cb];omega
def Frm.grow {M:Mem}(h:Frm M ⟨bs,fz,ar⟩)(x:Option (List PV)):Frm M ⟨bs++ [x],bs.length::fz,ar⟩:=
 h.trans (Frm.new (xf:=[bs.length]) (by simp))
end Go.Tel
namespace Go.Am
def WM {C:Ctx}{base:Nat}{M:Mem}{K:PV->Mem->Prop}{KP:DV->Mem->Prop}{s:ByteArray}{k k':IntKind}{m n:Int}(a:0<=m)(h1:m<=n)(h2:n<=s.size):ay C base (.EJ true true) [.d (.str s), .d (.int k m), .d (.int k' n)] M K KP=K (.d (.str (s.extract m.toNat n.toNat))) M:=by
 simp only[ay,wU,eH,bl];exact propext ⟨fun h=>h.2.2.2.2.2,fun h=>⟨trivial,trivial,a,h1,h2,h⟩⟩
end Go.Am
namespace Go.Tel
open Go.Am Go.Lib
def Bh (s:ByteArray)(a b:Nat):(s.extract a b).data.toList=(s.data.toList.take b).drop a:=by
 rw[ByteArray.data_extract,Array.toList_extract,List.extract_eq_take_drop,List.drop_take]
variable{l:List UInt8}{f i:Nat}
def drop_at (h1:f<=i)(h2:i<l.length):l.drop f=(l.take i).drop f++l.getD i 0::l.drop (i+1):=by
 have e:l.drop f=(l.take i++l.drop i).drop f:=by rw[List.take_append_drop]
 have a:l.getD i 0=l[i]:=by rw[ai,bc h2];rfl
 rw[e,bA (by rw[ax];omega),List.drop_eq_getElem_cons h2,a]
def take_drop_succ (h1:f<=i)(h2:i<l.length):(l.take (i+1)).drop f=(l.take i).drop f++ [l.getD i 0]:=by
 have a:l.getD i 0=l[i]:=by rw[ai,bc h2];rfl
 rw[List.take_succ_eq_append_getElem h2,bA (by rw[ax];omega),a]
def ao6 {a b:UInt8}(h:((a.toNat:Nat):Int)=((b.toNat:Nat):Int)):a=b:=UInt8.toNat_inj.1 (by omega)
def Tj (s:ByteArray)(c:UInt8)(hs:s.size<=1000000):Pure C 119 [.str s, .int .u8 c.toNat] (.d (sF ((aY s c).map .str))) []:=by
 have v:s.data.toList.length=s.size:=size_data s;refine bG (aC La aK ?_);simp only[La,aK,RN,B,F,N];refine aG s.size (fun i (q:List ByteArray×Nat×Nat)=>⟨[(0, .d (.str s)),(1, .d (.int .u8 c.toNat)),(5, .tsl 1 q.2.2 0),(6,pI q.2.1),(7,pI i)],⟨[],[],[some ⟨1,[],0,0⟩,some ⟨1,q.1.map .str,q.2.2,0⟩]⟩⟩)
  (fun i q=>(q.1.map (·.data.toList))++spl c (s.data.toList.drop q.2.1)=spl c s.data.toList/\c∉(s.data.toList.take i).drop q.2.1/\q.2.1<=i/\q.1.length<=i) 0 ([],0,0) (ae _) rfl ⟨rfl,by simp,av _,av _⟩ (fun i q b a=> ?_) (fun q a=> ?_)
 ·obtain⟨out,f,ver⟩:=q
  obtain⟨r1,r2,r3,r4⟩:=a;simp only at r1 r2 r3 r4;obtain⟨p,r,t⟩:=rng b (by omega);have e:=drop_at r3 (show i<s.data.toList.length by omega);have m:=take_drop_succ r3 (show i<s.data.toList.length by omega);have j:=Ve s i
  by_cases k:s.data.getD i 0=c
  ·have l:(((s.data.getD i 0).toNat:Int)==(c.toNat:Int))=true:=by rw[k];exact beq_self_eq_true _
   have n:(0:Int)<=f:=by omega
   have o:(f:Int)<=i:=by omega
   have u:(i:Int)<=s.size:=by omega
   simp only[p,r,b,U,l,WM n o u,fD,DV.strip,gy,QV,forall_eq,Q,t,RN,B,J,N,O];refine⟨by simp,by omega,?_⟩;refine dD (out++ [s.extract f i],i+1,ver+1) b ?_ ⟨?_,?_,by simp,by simp;omega⟩ (by simp) (by simp) rfl rfl
   ·simp only[an,bj,bE];rfl
   ·simp only[an,bj,bE,Bh]
    rw[<-j,k]at e;rw[e,Qm r2]at r1
    simpa using r1
   ·simp only
    rw[List.drop_of_length_le (by rw[ax];omega)];simp
  ·have l:(((s.data.getD i 0).toNat:Int)==(c.toNat:Int))=false:=beq_eq_false_iff_ne.2 fun h=>k (ao6 h)
   simp only[p,r,b,U,l,t,RN,B];refine dD (out,f,ver) b rfl ⟨r1,?_,by simp only;omega,by simp only;omega⟩ (by simp) (by simp) rfl rfl;simp only;rw[m,<-j];intro hh
   rcases List.mem_append.1 hh with hh|hh
   ·exact r2 hh
   ·exact k (bq.1 hh).symm
 ·obtain⟨out,f,ver⟩:=q
  obtain⟨r1,r2,r3,r4⟩:=a;simp only at r1 r2 r3 r4;have n:(0:Int)<=f:=by omega
  have o:(f:Int)<=s.size:=by omega
  have g:aY s c=out++ [s.extract f s.size]:=by
   refine Df ?_;rw[bd (by omega)]at r2;rw[LX r2]at r1;rw[tH,<-r1,an,bj,bE,Bh,bd (by omega)]
  simp only[am,CP n o,U,fD,DV.strip,gy,QV,forall_eq,Q,RN,B,J,N,O];refine⟨by simp,by omega,?_⟩;rw[g,an];simp[datum,Mem.row]
def ac0 {w:ByteArray}(h:4<w.size):iR w=none:=by
 obtain⟨k,a⟩:∃k,w.size=k+1:=⟨w.size - 1,by omega⟩
 rw[iR,a,xk,if_neg (fun h=>by omega)]
def abJ {n:Int}(h:0<=n/\n<=9999):(eu n).size<=4:=by
 obtain⟨m,rfl⟩:=bt h.1;have:=Qa 3 m (by omega);rw[<-size_data,Nk];omega
def Ns (o:Option (List Int)):DV:= .tup [sF ((o.getD []).map au), .bool o.isSome]
def Py (ws:List ByteArray)(hl:ws.length<=1000000)(hw:∀w∈ws,w.size<=1000000):Pure C 129 [sF (ws.map .str)] (.d (Ns (fV ws []))) []:=by
 refine bG (aC Es Gj ?_);simp only[Es,Gj,RN,B,N];refine aG ws.length (fun i (q:List Int×Nat)=>⟨[(0, .d (sF (ws.map .str))),(4, .tsl 1 q.2 0),(5,pI i)],⟨[],[],[some ⟨1,[],0,0⟩,some ⟨1,q.1.map au,q.2,0⟩]⟩⟩)
  (fun i q=>fV ws []=fV (ws.drop i) q.1/\q.1.length=i) 0 ([],0) (ae _) rfl ⟨rfl,rfl⟩ (fun i q c H=> ?_) (fun q H=> ?_)
 ·obtain⟨f,ver⟩:=q
  obtain⟨r1,r2⟩:=H;simp only at r1 r2;obtain⟨V,l,W⟩:=rng c hl;rw[drop_cons c,fV]at r1;have L:=hw _ (getD_mem c);obtain⟨w,a⟩:∃w,w=ws.getD i default:=⟨_,rfl⟩
  rw[<-a]at r1 L;have g:iR w=none->datum ⟨[],[],[some ⟨1,[],0,0⟩,some ⟨1,f.map au,ver,0⟩,some ⟨1,[],0,0⟩]⟩ (.tup [.tsl 2 0 0, .d (.bool false)])=some (Ns (fV ws [])):=by
   intro h;rw[r1,h];simp[datum,bY,dY,Mem.row,Ns]
  simp only[Q,V,RN,B];refine aG (min w.size 5) (fun k (n:Int)=>⟨[(0, .d (sF (ws.map .str))),(4, .tsl 1 ver 0),(5,pI i),(6,pI n),(7,pI k)],⟨[],[],[some ⟨1,[],0,0⟩,some ⟨1,f.map au,ver,0⟩]⟩⟩)
   (fun k n=>0<=n/\n<10 ^ k/\(w.size<=4->xk w w.size 0 0=xk w (w.size - k) k n)) 0 0 (ae _) rfl ⟨by decide,by decide,fun _=>rfl⟩ (fun k n k1 G=> ?_) (fun n G=> ?_)
  ·obtain⟨u,T,v⟩:=G
   have P:k<w.size:=by omega
   have k5:(k:Int)<5:=by omega
   have ks:(k:Int)<(w.size:Int):=by omega
   have R:(0:Int)<=(k:Int):=by omega
   have kp:cM .i64 ((k:Int)+1)=((k+1:Nat):Int):=by rw[aB (by omega)];omega
   simp only[Q,l,c,getD_map,U,gy,<-a,ks,k5,R,P,RN,B,O];obtain⟨b,s⟩:∃b,b=w.data.getD k 0:=⟨_,rfl⟩
   have X:b.toNat<256:=UInt8.toNat_lt _;have bad:¬(48<=b.toNat/\b.toNat<=57)->iR w=none:=by
    intro A
    by_cases o:w.size<=4
    ·have:=v o
     obtain⟨r,K⟩:∃r,w.size - k=r+1:=⟨w.size - k - 1,by omega⟩
     rw[K,xk,<-s,if_neg (fun h=>A ⟨h.1,h.2.1⟩)]at this;rw[iR,this]
    ·exact ac0 (by omega)
   by_cases c1:b.toNat<48
   ·have x:(b.toNat:Int)<48:=by omega
    simp only[<-s,x,RN,B,F,N];exact g (bad (by omega))
   have x:¬(b.toNat:Int)<48:=by omega
   by_cases c2:b.toNat>57
   ·have S:(b.toNat:Int)>57:=by omega
    simp only[Q,l,c,getD_map,U,gy,<-a,R,P,<-s,x,S,RN,B,F,N,O];exact g (bad (by omega))
   have S:¬(b.toNat:Int)>57:=by omega
   have t:(10:Int) ^ k<=10000:=by
    rcases k with _| _| _| _| _|k
    ·decide
    ·decide
    ·decide
    ·decide
    ·decide
    ·omega
   have w1:cM .i64 (10*n)=10*n:=aB (by omega);have w2:IntKind.u8.wrap ((b.toNat:Int) - 48)=(b.toNat:Int) - 48:=by
    obtain⟨m,Y⟩:∃m:Nat,(b.toNat:Int) - 48=m:=bt (by omega)
    have E:m<10:=by omega
    rw[Y];exact(by decide:∀m<10,IntKind.u8.wrap ((m:Nat):Int)=m) m E
   have w3:cM .i64 ((b.toNat:Int) - 48)=(b.toNat:Int) - 48:=aB (by omega);have w4:cM .i64 (10*n+((b.toNat:Int) - 48))=10*n+((b.toNat:Int) - 48):=aB (by omega);simp only[Q,l,c,getD_map,U,gy,<-a,R,P,<-s,x,S,w1,w2,w3,w4,kp,RN,B,O];refine dD (10*n+((b.toNat:Int) - 48)) k1 rfl ⟨by omega,by rw[Int.pow_succ];omega,fun o=> ?_⟩ (by simp) (by simp) rfl rfl;have:=v o;obtain⟨r,K⟩:∃r,w.size - k=r+1:=⟨w.size - k - 1,by omega⟩
   rw[K,xk,<-s,if_pos ⟨by omega,by omega,o⟩]at this;rw[this,show w.size - (k+1)=r by omega]
  ·obtain⟨u,T,v⟩:=G
   have Z:min w.size 5<=5:=Nat.min_le_right _ _;have t:(10:Int) ^ (min w.size 5)<=100000:=by
    generalize min w.size 5=z at*
    rcases z with _| _| _| _| _| _|z
    ·decide
    ·decide
    ·decide
    ·decide
    ·decide
    ·decide
    ·omega
   have D:iR w=if n>9999\/eu n≠w then none else some n:=by
    by_cases o:w.size<=4
    ·have:=v o
     rw[show min w.size 5=w.size by omega]at this t T;rw[cK,xk]at this;have j:¬n>9999:=by
      have:(10:Int) ^ w.size<=10000:=by
       generalize w.size=z at o
       rcases z with _| _| _| _| _|z
       ·decide
       ·decide
       ·decide
       ·decide
       ·decide
       ·omega
      omega
     rw[iR,this];simp only
     by_cases e:eu n=w
     ·have M:w.size≠0:=by
       intro M;obtain⟨m,rfl⟩:=bt u;have h1:=(Qa 3 m (by omega)).2;rw[<-size_data,<-e,Nk]at M;omega
      rw[if_pos ⟨M,by rw[e]⟩,if_neg (by intro h;rcases h with h|h;exact j h;exact h e)]
     ·rw[if_neg (fun h=>e (ML h.2)),if_pos (.inr e)]
    ·rw[ac0 (by omega)]
     by_cases j:n>9999
     ·rw[if_pos (.inl j)]
     ·have:=abJ (n:=n) ⟨u,by omega⟩
      rw[if_pos (.inr (fun e=>by rw[e]at this;omega))]
   have aop:((min w.size 5:Nat):Int)<(w.size:Int)->¬((min w.size 5:Nat):Int)<5:=by omega
   by_cases p:((min w.size 5:Nat):Int)<(w.size:Int)
   all_goals(
    (first
     |(have I:=aop p;simp only[Q,l,c,getD_map,U,gy,<-a,p,I,RN,B,O])
     |simp only[Q,l,c,getD_map,U,gy,<-a,p,RN,B,O])
    by_cases j:n>9999
    ·simp only[j,RN,B,F,N]
     exact g (by rw[D,if_pos (.inl j)])
    simp only[j,RN,B];refine eG rfl rfl (DF ⟨u,by omega⟩) ?_
    by_cases e:eu n=w
    ·have y:((eu n).toList==w.toList)=true:=by rw[qQ];exact decide_eq_true e
     simp only[Q,l,c,getD_map,U,gy,<-a,dM,Hf,y,fD,fits_int,forall_eq,DV.strip,jH,RN,B,J,N,O];refine⟨by simp,by omega,?_⟩;simp only[W];rw[D,if_neg (by intro h;rcases h with h|h;exact j h;exact h e)]at r1;refine fC 0 2 (f++ [n],ver+1) c ?_ ⟨r1,by simp[r2]⟩ (by simp) (by simp) rfl rfl;simp only[an,bj,bE,aH];rfl
    ·have y:((eu n).toList==w.toList)=false:=by rw[qQ];exact decide_eq_false e
     simp only[Q,l,c,getD_map,U,gy,<-a,dM,Hf,y,RN,B,F,N,O];exact g (by rw[D,if_pos (.inr e)]))
 ·obtain⟨f,ver⟩:=q
  obtain⟨r1,r2⟩:=H;simp only at r1 r2;rw[aL,fV]at r1;simp only[am,Q,RN,B];rw[r1];simp[datum,bY,dY,Mem.row,aau,ji,Ns]
def pO (s:ByteArray):s.data.toList.length=s.size:=size_data s
def akO (s:ByteArray):uh (s++nlB)=true/\dw (s++nlB)=s:=by
 have a:(s++nlB).size=s.size+1:=by rw[bw];rfl
 have b:uh (s++nlB)=true:=by
  rw[uh,a];have:(s++nlB).extract (s.size+1 - 1) (s.size+1)=⟨#[10]⟩:=by
   refine ML ?_;rw[Bh,tV,cm,bd (by rw[aq,pO];exact av _),<-pO s,List.drop_left]
   rfl
  rw[qQ,this];simp
 refine⟨b,?_⟩;rw[dw,if_pos b,a,cm];refine ML ?_;rw[Bh,tV,bR,List.take_append_of_le_length (by rw[pO];exact av _),bd (by rw[pO];exact av _)]
def entered (D:Dk)(l:List En):Dk:=l.foldl (fun D x=>(D.enter x).1) D
def WI (D:Dk)(l:List En)(x:En):entered D (l++ [x])=((entered D l).enter x).1:=by simp[entered]
def rdF (a b:Bool)(D:Dk):List DV:=[sF (D.su.pc.links.map Lk.dv),sF (D.su.pc.hands.map au),sF (D.su.tg.map Fr.dv),dI D.su.lim,dI D.su.dvd.dK,sF (D.su.dvd.cir.map au),dI D.su.cal.ep,sF (D.su.cal.cy.map au),dI D.su.jG.n,dI D.su.jG.d,dI D.su.jG.ad,sF (D.su.fs.map Fs.dv),dI D.su.year,dI D.su.gG,dI D.su.hours,dI D.su.lW,dI D.su.pct, .slice a (D.es.map En.dv), .slice b (D.st.map .bool)]
variable{D:Dk}
def agN {a b:Bool}:rdF a b D=[sF (D.su.pc.links.map Lk.dv),sF (D.su.pc.hands.map au),sF (D.su.tg.map Fr.dv),dI D.su.lim,dI D.su.dvd.dK,sF (D.su.dvd.cir.map au),dI D.su.cal.ep,sF (D.su.cal.cy.map au),dI D.su.jG.n,dI D.su.jG.d,dI D.su.jG.ad,sF (D.su.fs.map Fs.dv),dI D.su.year,dI D.su.gG,dI D.su.hours,dI D.su.lW,dI D.su.pct, .slice a (D.es.map En.dv), .slice b (D.st.map .bool)]:=by rw[rdF]
def nZ.aiU {d:Nat}{ce cs:PV}{bs:List (Option (List PV))}{fz:List Nat}{ar:List (Option Arr)}{y:Option (List PV)}(h:nZ D d ce cs ⟨bs,fz,ar⟩)(hi:i≠d):nZ D d ce cs ⟨bs.set i y,fz,ar⟩:=
 ⟨⟨by simp only;rw[List.getElem?_set_ne hi];exact h.box,h.ent,h.str⟩,h.dif,h.nb,h.fzb.set⟩
variable{s:Su}
def JH (hs:s.ok=true)(l:List En):(entered ⟨s,[],[]⟩ l).Live:=by
 induction l using ni with
 |h0=>exact ahL hs
 |h1 l x a=>rw[WI];exact I7 a x
def aco (h:D.Live){x:En}(a:Ae D x=0):Pure C 51 [NG D,x.dv] (.d (NG (D.with x))) []:=by
 have b:x.formed=true:=by cases e:x.formed with
  |true=>rfl
  |false=>unfold Ae at a;rw[if_pos e]at a;cases a
 have l:=En.Bl b;have g:=h.ok.few;have j:=h.ok.len;have o:=CS b;refine ak4 D x (by omega) (by omega) (by omega) (fun k6=> ?_) l;have f:=uw b (i:=0) (by rw[k6];decide);have m:x.ns.length=gI x.kind:=by
  simp only[En.formed,V,decide_eq_true_eq]at b;exact b.1.2
 unfold Ae at a;have c:¬D.es.length>=24:=fun e=>by rw[if_neg (by simp[b]),if_pos e]at a;cases a
 rw[if_neg (by simp[b]),if_neg c,if_pos k6]at a;have k:¬x.n 0>=(D.es.length:Int):=fun e=>by rw[if_pos (.inl e)]at a;cases a
 refine⟨by rw[m,k6];decide,f.1,by omega⟩
def Two (D E:Dk)(d f:Nat)(M:Mem):Prop:=∃c cs a b,nZ D d c cs M/\nZ E f a b M/\d≠f/\∀k,LZ c cs k->¬LZ a b k
def nZ.new {bs:List (Option (List PV))}{fz:List Nat}{ar:List (Option Arr)}(a:FzB ⟨bs,fz,ar⟩)(s:Su){x1 x2:Option (List PV)}:nZ ⟨s,[],[]⟩ (bs.length+2) (.d (.slice true [])) (.d (.slice true [])) ⟨bs++ [x1,x2,some (je s (.d (.slice true [])) (.d (.slice true [])))],(bs.length+1)::bs.length::fz,ar⟩:=by
 have b:Frm ⟨bs,fz,ar⟩ ⟨bs++ [x1,x2,some (je s (.d (.slice true [])) (.d (.slice true [])))],(bs.length+1)::bs.length::fz,ar⟩:=Frm.new (xf:=[_,_]) (by intro i c;simp at c⊢;omega);refine⟨⟨?_, .inl ⟨rfl,rfl⟩, .inl ⟨rfl,rfl⟩⟩,(by intro k f;cases f),?_,b.fzb a⟩
 ·simp only;rw[List.getElem?_append_right (by omega)];simp
 ·intro e
  simp only[ap]at e
  rcases e with e|e|e
  ·omega
  ·omega
  ·have:=a _ e;simp only at this;omega
def allB (D:Dk)(p:Pc):List (Option (List PV)):=[some ((Uw D).map .d),some (D.su.cs.map .d),some [.d (sF (p.links.map Lk.dv)), .d (sF (p.hands.map au))]]
def vW (D:Dk)(p:Pc){m:Nat}:((allB D p).all fun c=>(c.getD []).all fun p=>p.upto 3 m)=true:=by simp[allB,PV.upto]
def wI (l:List En)(n:Nat):List Int:=(b7 n).flatMap fun(i:Nat)=>if(bg l (i:Int)).2 then[(i:Int),(bg l (i:Int)).1.n,(bg l (i:Int)).1.d]else[]
def OG (l:List En)(n:Nat):wI l (n+1)=wI l n++if(bg l (n:Int)).2 then[(n:Int),(bg l (n:Int)).1.n,(bg l (n:Int)).1.d]else[]:=by simp[wI,b9]
def Jg (l:List En):∀n,(wI l n).length<=3*n
 |0=>by simp[wI]
 |n+1=>by
  have:=Jg l n;rw[OG,aq]
  split<;>simp<;>omega
def Qs (h:D.Live):D.ask ⟨3,[]⟩=(wI (aJ D (-1)) D.su.pc.hands.length,0):=by
 obtain⟨t,c,b,a⟩:=h.t;rw[vX c (by decide) rfl];have e:mZ t.op t.pc.hands.length=wI (aJ D (-1)) D.su.pc.hands.length:=by
  rw[a.hh,mZ,wI]
  congr 1
  funext i
  rw[Du,b.op]
  split<;>simp_all
 simp[Dk.answer,e]
def UR (l:List En):(∀x∈l,x.Fit s)->0<=tY l/\tY l<=9999*(l.length:Int):=by
 induction l using ni with
 |h0=>exact fun _=>⟨cL _,cL _⟩
 |h1 l x b=>
  intro h;obtain⟨c,d⟩:=b fun y a=>h y (by simp[a])
  rw[oC,aq];simp only[aM,cw]
  split
  ·rename_i k
   have:=uw (h x (by simp)).fm (i:=1) (by rw[k];decide);omega
  ·omega
def ajE (p:Nat->Bool)(k:Nat):(b7 (k+1)).any p=((b7 k).any p||p k):=by rw[b9,List.any_append];simp
def Ya (D:Dk)(i k:Nat):Bool:=(b7 k).any fun k=> !inR ((D.ask ⟨6,[(k:Int),(i:Int)+1]⟩).1.getD 0 0) (-D.su.lim) D.su.lim
def JU (p:Pc)(n:Nat):List Int:=(p.hands.take n).flatMap (wM p)
def abA {p:Pc}{n:Nat}(h:n<p.hands.length):JU p (n+1)=JU p n++wM p (p.hands.getD n default):=by rw[JU,aU h,cj];simp[JU]
def ZQ (p:Pc){m:Int}(c:1<=m)(h1:m<=p.links.length):(lS p).getD m.toNat default=bQ (aP p.links m.toNat):=by
 obtain⟨k,b⟩:∃k,m.toNat=k+1:=⟨m.toNat - 1,by omega⟩
 have a:k<p.links.length:=by omega
 rw[b,lS,List.getD_cons_succ,ai,bu,List.getElem?_range a]
 rfl
def IL (D:Dk)(k:Int):Bool:=if k=2 then stE (aJ D (-1))else decide (k=7\/k=11)
def anI (h:D.Live)(k:Int)(hk:k=1\/k=2\/k=3\/k=7\/k=11\/k=12):Pure C 147 [NG D,dI k] (.d (.slice (IL D k) ((D.ask ⟨k,[]⟩).1.map au))) []:=by
 obtain⟨A,q⟩:∃A,A=aJ D (-1):=⟨_,rfl⟩
 have b:=h.fits (-1);have ab:=h.goes;rw[<-q]at b ab;have apf:A.length<=24:=by have:=yL D (-1);rw[<-q]at this;have:=h.ok.few;omega
 have R:=h.ok.su;have Y:=F9 D h.ok.len (by have:=h.ok.few;omega) (-1);rw[ug,<-q]at Y;have hP:=wL D.su R A b (by omega);obtain⟨p,f⟩:∃p,p=bD D.su A:=⟨_,rfl⟩
 have aq:p.ok=true:=by rw[f];exact BU R A b
 have L:p.hands=D.su.pc.hands:=by rw[f];exact pJ _ _
 rw[<-f,dF,dA]at hP;have g:=Pc.good aq;refine bG (aC Eo aK ?_);rw[ug];simp only[Eo,aK,RN,B,F,I,N,O];refine ak Y ?_;(try simp only[RN,B,F,J,O]);refine ak hP ?_;(try simp only[RN,B,F,J,N,O]);have hR:=fun(i:Nat) (hi:i<p.hands.length)=>LC p aq (a:=(p.hands.getD i default).toNat) (by have:=g.hd _ (getD_mem hi);omega)
 simp only[dA,bK]at hR;have aE:((1:Int)==1)=true:=rfl
 rcases hk with rfl|rfl|rfl|rfl|rfl|rfl
 ·rw[MI h,<-q,<-f]
  simp only[aE,RN,B,F];refine aG p.hands.length (fun i (v:Nat)=>⟨[(7, .d (chP p)),(8, .tsl 1 v 0),(9,pI i)],⟨allB D p,[2,1,0],[some ⟨1,[],0,0⟩,some ⟨1,(JU p i).map au,v,0⟩]⟩⟩)
   (fun _ _=>True) 0 0 (ae _) rfl trivial (fun i v c _=> ?_) (fun v _=> ?_)
  ·obtain⟨T,V,o⟩:=rng c (by have:=g.h2;omega)
   have G:=g.hd _ (getD_mem c);have av:=hR i c;rw[show(((p.hands.getD i default).toNat:Nat):Int)=p.hands.getD i default by omega]at av;simp only[chP,allB,T,V,c,getD_map,aH,U,Q,RN,B,F,I,O];refine ak av ?_;simp only[Bg,o,Q,RN,B,F,J,N,O];have K:=EZ p (p.hands.take i);rw[ax]at K;have anf:(JU p i).length<=8:=by have:=g.h2;rw[JU,K];omega
   refine⟨by rintro y (rfl|rfl)<;>rfl,by simp,by omega,?_⟩;refine fC 3 2 (v+1) c ?_ trivial (by simp) (by simp) rfl (vW D p);rw[abA c,an,wM,ZQ p G.1 G.2]
   rfl
  ·simp only[chP,am,Q,RN,B,F,O]
   have e:JU p p.hands.length=Jb p:=by rw[JU,a7];rfl
   have j:IL D 1=false:=by simp[IL]
   rw[e,j];simp[datum,Mem.row]
 ·rw[MJ h,<-q]
  have w:((2:Int)==1)=false:=rfl;have E:((2:Int)==2)=true:=rfl;have hK:=ZK D.su R A b (by omega);have j:IL D 2=stE A:=by rw[IL,if_pos rfl,q]
  rw[dF]at hK;rw[j];simp only[w,E,RN,B,F,O];refine ak hK ?_;(try simp only[RN,B,F,I,J,N,O])
  rfl
 ·have ao:=Qs h
  rw[<-q,<-L]at ao;rw[ao];have w:((3:Int)==1)=false:=rfl;have E:((3:Int)==2)=false:=rfl;have P:((3:Int)==3)=true:=rfl;have W:=fun i=>Lu A i (fun x hx=>wR (b x hx)) (by omega)
  simp only[bK]at W;simp only[w,E,P,RN,B,F];refine aG p.hands.length (fun i (v:Nat)=>⟨[(6, .d (sF (A.map En.dv))),(7, .d (chP p)),(8, .tsl 1 v 0),(11,pI i)],⟨allB D p,[2,1,0],[some ⟨1,[],0,0⟩,some ⟨1,(wI A i).map au,v,0⟩]⟩⟩)
   (fun _ _=>True) 0 0 (ae _) (by rw[show wI A 0=[] from by simp[wI]];rfl) trivial (fun i v c _=> ?_) (fun v _=> ?_)
  ·obtain⟨T,V,o⟩:=rng c (by have:=g.h2;omega)
   have l:=OG A i;have K:=Jg A i;have a1:=g.h2;simp only[chP,allB,T,Q,RN,B,F,O];refine ak (W i) ?_;simp only[RN,B,F,J,O];cases ko:(bg A i).2
   ·rw[ko]at l
    simp only[bO,if_false,bo]at l;simp only[o,RN,B,F];refine fC 3 2 v c ?_ trivial (by simp) (by simp) rfl (vW D p);rw[l]
    rfl
   ·rw[ko,if_pos rfl]at l
    simp only[ER,o,Q,RN,B,F,J,N,O];refine⟨by rintro y (rfl|rfl|rfl)<;>rfl,by simp,by omega,?_⟩;refine fC 3 2 (v+1) c ?_ trivial (by simp) (by simp) rfl (vW D p);rw[l,an]
    rfl
  ·simp only[chP,am,Q,RN,B,F,O]
   have j:IL D 3=false:=by simp[IL]
   rw[j];simp[datum,Mem.row]
 ·obtain⟨t,ht,aD⟩:=MK h
  have ap:=fun(k:Nat) (d:Int) hk h0 h1=>Wq h (k:=k) (d:=d) hk h0 h1
  have Z:=fun(i:Nat) hi=>bad_law h ht (i:=i) hi
  rw[aD];simp only[<-q,<-f]at ap;have w:((7:Int)==1)=false:=rfl;have E:((7:Int)==2)=false:=rfl;have P:((7:Int)==3)=false:=rfl;have q7:((7:Int)==7)=true:=rfl;have j:IL D 7=true:=by simp[IL]
  have a0:=lK D.su;have aR:=QH D.su;have H:=Xp D.su R;rw[dF]at H;have W:=fun(k:Nat) (d:Int) (hk:k<D.su.pc.hands.length) (hd:1<=d/\d<=366)=>ZI D.su R A b ab (by omega) (k:Int) d (by omega) (show((k:Int)).toNat<D.su.pc.hands.length by simpa using hk) hd
  simp only[dF,<-f]at W;have aL:0<=D.su.lim/\D.su.lim<=10800:=by have:=(Su.facts R).2.2.1;simpa[inR]using this
  have w1:cM .i64 (0 - D.su.lim)= -D.su.lim:=by rw[aB (by omega)];omega
  rw[j];simp only[w,E,P,q7,RN,B,F];refine aG D.su.days.length (fun i (_:Unit)=>⟨[(5, .d (.aV D.su.cs)),(6, .d (sF (A.map En.dv))),(7, .d (chP p)),(14,pI (nN D.su t i)),(15, .d (dI ((i:Int)+1)))],⟨allB D p,[2,1,0],[some ⟨1,[],0,0⟩,some ⟨1,[],0,0⟩]⟩⟩)
   (fun _ _=>True) 0 () (ae _) rfl trivial (fun i _ c _=> ?_) (fun _ _=> ?_)
  ·have y1:(i:Int)+1<=o8 (D.su.cal.leap D.su.year):=by omega
   have o:cM .i64 ((i:Int)+1+1)=((i+1:Nat):Int)+1:=by rw[aB (by omega)];omega
   simp only[nO,RN,B,F,O];refine ak H ?_;simp only[y1,RN,B];refine aG p.hands.length (fun k (_:Unit)=>⟨[(5, .d (.aV D.su.cs)),(6, .d (sF (A.map En.dv))),(7, .d (chP p)),(14,pI (nN D.su t i)),(15, .d (dI ((i:Int)+1))),(16, .d (.bool (Ya D i k))),(17,pI k)],⟨allB D p,[2,1,0],[some ⟨1,[],0,0⟩,some ⟨1,[],0,0⟩]⟩⟩)
    (fun _ _=>True) 0 () (ae _) (by rw[nO];rfl) trivial (fun k _ k1 _=> ?_) (fun _ _=> ?_)
   ·obtain⟨k2,k3,k6⟩:=rng k1 (by have:=g.h2;omega)
    have ac:k<D.su.pc.hands.length:=by rw[<-L];exact k1
    have hv:=ap k ((i:Int)+1) ac (by omega) (by omega);have az:=W k ((i:Int)+1) ac (by omega);have r:Ya D i (k+1)=(Ya D i k|| !inR (Nu p k (pX D.su A k) (xU A ((i:Int)+1))) (-D.su.lim) D.su.lim):=by
     rw[Ya,ajE,hv];rfl
    cases G:Ya D i k
    ·rw[G,ck]at r
     simp only[chP,nO,k2,Q,RN,B,F,O];refine ak az ?_;simp only[w1];refine ak (ZV _ _ _) ?_;simp only[k6,RN];exact dD () k1 (by rw[r];rfl) trivial (by simp[allB]) (by simp) rfl (vW D p)
    ·rw[G,cG]at r
     simp only[chP,nO,k2,Q,k6,RN,B,F,O];exact dD () k1 (by rw[r];rfl) trivial (by simp[allB]) (by simp) rfl (vW D p)
   ·have aw:IU D.su t i=Ya D i p.hands.length:=by rw[Z i c,Ya,L]
    have m:=PU D.su t i;rw[aw]at m;have a2:=NU D.su t i;have w2:cM .i64 (nN D.su t i+1)=nN D.su t i+1:=aB (by omega);cases G:Ya D i p.hands.length
    ·rw[G]at m
     simp only[chP,am,Q,o,RN,B,F,O];exact dD () c (by rw[m];rfl) trivial (by simp[allB]) (by simp) rfl (vW D p)
    ·rw[G]at m
     simp only[chP,am,Q,w2,o,RN,B,F,O];exact dD () c (by rw[m];rfl) trivial (by simp[allB]) (by simp) rfl (vW D p)
  ·have y1:¬(D.su.days.length:Int)+1<=o8 (D.su.cal.leap D.su.year):=by omega
   simp only[nO,RN,B,F,O];refine ak H ?_;simp only[y1,fD,DV.strip,RN,B]
   rfl
 ·rw[MH h,<-q]
  have w:((11:Int)==1)=false:=rfl;have E:((11:Int)==2)=false:=rfl;have P:((11:Int)==3)=false:=rfl;have q7:((11:Int)==7)=false:=rfl;have M:((11:Int)==11)=true:=rfl;have j:IL D 11=true:=by simp[IL]
  rw[j];simp only[w,E,P,q7,M,RN,B,F];refine aG A.length (fun i (_:Unit)=>⟨[(6, .d (sF (A.map En.dv))),(18, .d (dI (tY (A.take i)))),(19,pI i)],⟨allB D p,[2,1,0],[some ⟨1,[],0,0⟩,some ⟨1,[],0,0⟩]⟩⟩)
   (fun _ _=>True) 0 () (ae _) rfl trivial (fun i _ c _=> ?_) (fun _ _=> ?_)
  ·obtain⟨T,V,o⟩:=rng c (by omega)
   obtain⟨x,u⟩:∃x,x=A.getD i default:=⟨_,rfl⟩
   have hx:x.Fit D.su:=by rw[u];exact b _ (getD_mem c)
   have ai:=wR hx;have s:tY (A.take (i+1))=if x.kind=4 then tY (A.take i)+x.n 1 else tY (A.take i):=by rw[aU c,<-u,oC]
   simp only[T,V,c,getD_map,<-u,dO,U,Q,RN,B,F,O]
   by_cases S:x.kind=4
   ·have z:(x.kind==4)=true:=by simp[S]
    have l2:x.ns.length=2:=by rw[ai,S];rfl
    have l1:1<x.ns.length:=by omega
    have j1:(0:Int)<=1:=by omega
    have aM:=UR (A.take i) fun y hy=>b y (List.mem_of_mem_take hy)
    have a3:(A.take i).length<=24:=by rw[ax];omega
    have a4:0<=x.n 1/\x.n 1<=9999:=uw hx.fm (by rw[S];decide);have e1:x.ns.getD 1 default=x.n 1:=rfl;have w1:cM .i64 (tY (A.take i)+x.n 1)=tY (A.take i)+x.n 1:=aB (by omega);rw[if_pos S]at s;simp only[z,V,c,getD_map,<-u,dO,U,Q,j1,t1,l1,aH,e1,w1,o,RN,B,F,O];exact aX () c (by rw[s]) trivial
   ·have z:(x.kind==4)=false:=beq_false_of_ne S
    rw[if_neg S]at s;simp only[z,o,RN,B];exact aX () c (by rw[s]) trivial
  ·simp only[am,Q,a7,fD,DV.strip,RN,B]
   rfl
 ·rw[IQ h]
  have w:((12:Int)==1)=false:=rfl;have E:((12:Int)==2)=false:=rfl;have P:((12:Int)==3)=false:=rfl;have q7:((12:Int)==7)=false:=rfl;have M:((12:Int)==11)=false:=rfl;have X:=VG D h.ok.len (by have:=h.ok.few;omega);have apI:(fH D).map Y9=((fH D).map fun(i:Nat)=>(i:Int)).map au:=by rw[cJ];rfl
  have j:IL D 12=false:=by simp[IL]
  rw[apI,ug]at X;rw[j];simp only[w,E,P,q7,M,RN,B,F,O];refine ak X ?_;(try simp only[RN,B,F,I,J,N,O])
  rfl
def xM (k:Int):Int:=if 1<=k/\k<=12 then(xg k:Int)else -1
def ZF (k:Int):Pure C 134 [dI k] (pI (xM k)) []:=by
 refine ah KZ aN ?_;simp only[KZ,aN,RN,B];cases z1:(k==1)
 case true=>
  rw[show k=1 from by simpa using z1]
  (try(try simp only[RN,B]))
  rfl
 (try simp only[RN,B]);cases d:(k==2)
 case true=>
  rw[show k=2 from by simpa using d]
  (try(try simp only[RN,B]))
  rfl
 (try simp only[RN,B]);cases e:(k==3)
 case true=>
  rw[show k=3 from by simpa using e]
  (try(try simp only[RN,B]))
  rfl
 (try simp only[RN,B]);cases i:(k==7)
 case true=>
  rw[show k=7 from by simpa using i]
  (try(try simp only[RN,B]))
  rfl
 (try simp only[RN,B]);cases b:(k==11)
 case true=>
  rw[show k=11 from by simpa using b]
  (try(try simp only[RN,B]))
  rfl
 (try simp only[RN,B]);cases c:(k==12)
 case true=>
  rw[show k=12 from by simpa using c]
  (try(try simp only[RN,B]))
  rfl
 (try simp only[RN,B]);cases f:(k==4)
 case true=>
  rw[show k=4 from by simpa using f]
  (try(try simp only[RN,B]))
  rfl
 (try simp only[RN,B]);cases j:(k==8)
 case true=>
  rw[show k=8 from by simpa using j]
  (try(try simp only[RN,B]))
  rfl
 (try simp only[RN,B]);cases l:(k==9)
 case true=>
  rw[show k=9 from by simpa using l]
  (try(try simp only[RN,B]))
  rfl
 (try simp only[RN,B]);cases a:(k==10)
 case true=>
  rw[show k=10 from by simpa using a]
  (try(try simp only[RN,B]))
  rfl
 (try simp only[RN,B]);cases h:(k==6)
 case true=>
  rw[show k=6 from by simpa using h]
  (try(try simp only[RN,B]))
  rfl
 (try simp only[RN,B]);cases g:(k==5)
 case true=>
  rw[show k=5 from by simpa using g]
  (try(try simp only[RN]))
  rfl
 (try simp only[RN]);simp only[beq_eq_false_iff_ne,ne_eq]at z1 d e i b c f j l a h g;rw[xM,if_neg (by omega)]
def UJ (h:D.Live)(n:Int):D.ask ⟨4,[n]⟩=if inR n 0 ((D.su.pc.hands.length:Int) - 1)then([Dy D.su (bD D.su (aJ D (-1))) n],0)else([],2):=by
 obtain⟨t,d,c,a⟩:=h.t;rw[vX d (by decide) rfl];cases k:inR n 0 ((D.su.pc.hands.length:Int) - 1)
 ·simp[Dk.answer,Qn.n,k]
 ·have b:0<=n/\n<=(D.su.pc.hands.length:Int) - 1:=by simpa[inR]using k
  have e:=VA h.ok.su a.pc b.1 (by rw[a.hh];omega);simp[Dk.answer,Qn.n,k,e,c.pc]
def X7 (h:D.Live)(a b c:Int):D.ask ⟨5,[a,b,c]⟩=uF D.su (aJ D (-1)) a b c:=by
 obtain⟨t,d,g,f⟩:=h.t;rw[vX d (by decide) rfl,<-ahR h d];have e:D.answer t ⟨5,[a,b,c]⟩=oL D t a b c:=by simp[Dk.answer,Qn.n]
 rw[e]
def X8 (h:D.Live)(a d:Int):D.ask ⟨6,[a,d]⟩=if inR a 0 ((D.su.pc.hands.length:Int) - 1)&&inR d 1 D.su.days.length then([Nu (bD D.su (aJ D (-1))) a (pX D.su (aJ D (-1)) a) (xU (aJ D (-1)) d)],0)else([],2):=by
 cases k:inR a 0 ((D.su.pc.hands.length:Int) - 1)&&inR d 1 D.su.days.length
 ·obtain⟨t,b,f,c⟩:=h.t
  rw[vX b (by decide) rfl];simp[Dk.answer,Qn.n,k]
 ·simp only[V]at k
  have h1:0<=a/\a<=(D.su.pc.hands.length:Int) - 1:=by simpa[inR]using k.1
  have h2:1<=d/\d<=(D.su.days.length:Int):=by simpa[inR]using k.2
  have e:=Wq h (k:=a.toNat) (d:=d) (by omega) h2.1 (by omega);rw[show((a.toNat:Nat):Int)=a by omega]at e;rw[e,if_pos rfl]
def alO (o:Option Int):List Int×Int:=match o with|some d=>([d],0)|none=>([],5)
def Qu (h:D.Live)(n:Int):D.ask ⟨8,[n]⟩=if inR n 1 D.su.days.length then alO (kH D.nX ((D.su.days.length:Int)+1 - n).toNat n)else([],2):=by
 obtain⟨t,a,d,c⟩:=h.t;rw[vX a (by decide) rfl];cases k:inR n 1 D.su.days.length
 ·simp[Dk.answer,Qn.n,k]
 ·cases b:kH D.nX ((D.su.days.length:Int)+1 - n).toNat n<;>simp[Dk.answer,Qn.n,k,b,alO]
def X0 (h:D.Live)(n:Int):D.ask ⟨9,[n]⟩=if inR n 1 D.su.days.length then([(Ea D.su.cal D.su.year.toNat (D.su.first+(n - 1))).m,(Ea D.su.cal D.su.year.toNat (D.su.first+(n - 1))).d],0)else([],2):=by
 obtain⟨t,a,c,b⟩:=h.t;rw[vX a (by decide) rfl];cases k:inR n 1 D.su.days.length<;>simp[Dk.answer,Qn.n,k]
def XZ (h:D.Live)(n:Int):D.ask ⟨10,[n]⟩=if inR n 1 400 then(if(D.su.dvd.first n).isSome then([(ae9 (D.su.dvd.first n)).circle,(ae9 (D.su.dvd.first n)).turns,(ae9 (D.su.dvd.first n)).holes],0)else([],5))else([],2):=by
 obtain⟨t,a,c,b⟩:=h.t;have hd:=(Su.facts h.ok.su).2.2.2.1;rw[vX a (by decide) rfl];have e:D.answer t ⟨10,[n]⟩=([(D.su.dvd.cuts n).1.circle,(D.su.dvd.cuts n).1.turns,(D.su.dvd.cuts n).1.holes],(D.su.dvd.cuts n).2):=by simp[Dk.answer,Qn.n]
 rw[e,Dvd.cuts,hd,Dvd.first];cases k:inR n 1 400
 ·simp
 ·cases xX D.su.dvd.dK n 0 D.su.dvd.cir<;>simp[ae9]
def ajG {q:Qn}(h:(q.ns.length:Int)≠xM q.kind):D.ask q=([],2):=by
 unfold Dk.ask
 by_cases k:inR q.kind 1 12=false
 ·rw[if_pos k]
 ·rw[if_neg k]
  have a:1<=q.kind/\q.kind<=12:=by simpa[inR]using k
  rw[xM,if_pos a]at h;rw[if_pos (fun e=>h (by rw[e]))]
def EL (D:Dk)(q:Qn):Bool:=if q.kind=1\/q.kind=2\/q.kind=3\/q.kind=7\/q.kind=11\/q.kind=12 then(if(q.ns.length:Int)=xM q.kind then IL D q.kind else true)else if q.kind=5 then decide ((q.ns.length:Int)≠xM q.kind)else true
def anJ (h:D.Live)(q:Qn):Pure C 54 [NG D,q.dv] (.d (.tup [.slice (EL D q) ((D.ask q).1.map au),dI (D.ask q).2])) []:=by
 obtain⟨kind,ns⟩:=q;obtain⟨A,G⟩:∃A,A=aJ D (-1):=⟨_,rfl⟩
 have j:=h.fits (-1);have V:=h.goes;rw[<-G]at j V;have apf:A.length<=24:=by have:=yL D (-1);rw[<-G]at this;have:=h.ok.few;omega
 have o:=h.ok.su;have R:=F9 D h.ok.len (by have:=h.ok.few;omega) (-1);rw[ug,<-G]at R;have hQ:=ZF kind;refine ah Em bW ?_;rw[ug,ac7];simp only[Em,bW,Q,RN,B,F,O];refine ak hQ ?_
 by_cases u:(ns.length:Int)=xM kind
 case neg=>
  have z:((ns.length:Int) !=xM kind)=true:=by simp[u]
  have e:EL D ⟨kind,ns⟩=true:=by simp[EL,u]
  rw[ajG u,e];simp only[z,RN,B,F]
  try rfl
 have z:((ns.length:Int) !=xM kind)=false:=by simp[u]
 simp only[z,RN,B,F,I,O];refine ak R ?_;have H:1<=kind/\kind<=12:=by
  by_cases H:1<=kind/\kind<=12
  ·exact H
  ·rw[xM,if_neg H]at u;omega
 have x:ns.length=xg kind:=by rw[xM,if_pos H]at u;omega
 (try simp only[RN,B,F,J,O]);have j1:(0:Int)<=1:=by omega
 have hP:=wL D.su o A j (by omega);obtain⟨p,l⟩:∃p,p=bD D.su A:=⟨_,rfl⟩
 have X:p.ok=true:=by rw[l];exact BU o A j
 have W:p.hands=D.su.pc.hands:=by rw[l];exact pJ _ _
 rw[<-l,dF,dA]at hP;have g:=Pc.good X;have ax:=g.h2;have v:=fun n=>Xo D.su (by rw[<-W];omega) n
 have T:=QH D.su;have ap:=lK D.su;have r:=fun n=>ZG D.su o n
 simp only[dF,<-T]at v r;cases z4:(kind==4)
 case true=>
  obtain rfl:kind=4:=by simpa using z4
  obtain⟨n,rfl⟩:∃n,ns=[n]:=by match ns,x with| [n],_=>exact⟨n,rfl⟩
  have e:EL D ⟨4,[n]⟩=true:=by simp[EL]
  rw[UJ h,e,<-G,<-l];simp only[j0,t0,aH,RN,B,F,N,O];refine ak (v n) ?_;cases k1:inR n 0 ((D.su.pc.hands.length:Int) - 1)
  ·(try simp only[RN,B,F])
   rfl
  have y:0<=n/\n<=(D.su.pc.hands.length:Int) - 1:=by simpa[inR]using k1
  have P:=SE D.su o p X n y.1 (by rw[W];omega);rw[dF,dA]at P;simp only[j0,t0,RN,B,F,N,O];refine ak hP ?_
  try simp only[j0,t0,aH,RN,B,F,I,J,N,O]
  refine ak P ?_;simp only[fD,DV.strip,RN]
  rfl
 simp only[RN,B,F];cases z5:(kind==5)
 case true=>
  obtain rfl:kind=5:=by simpa using z5
  obtain⟨a,b,c,rfl⟩:∃a b c,ns=[a,b,c]:=by match ns,x with| [a,b,c],_=>exact⟨a,b,c,rfl⟩
  have e:EL D ⟨5,[a,b,c]⟩=false:=by rw[EL,if_neg (by simp),if_pos rfl];exact decide_eq_false (fun h=>h u)
  have hN:=ak2 D.su o A j (by omega) [a,b,c] rfl;rw[dF]at hN;rw[X7 h,e,<-G];simp only[RN,B,F,O];refine ak hN ?_;(try simp only[RN])
  try rfl
 simp only[RN,B,F];cases z6:(kind==6)
 case true=>
  obtain rfl:kind=6:=by simpa using z6
  obtain⟨a,d,rfl⟩:∃a d,ns=[a,d]:=by match ns,x with| [a,d],_=>exact⟨a,d,rfl⟩
  have e:EL D ⟨6,[a,d]⟩=true:=by simp[EL]
  rw[X8 h,e,<-G,<-l];simp only[j0,t0,aH,RN,B,F,N,O];refine ak (v a) ?_;cases k1:inR a 0 ((D.su.pc.hands.length:Int) - 1)
  ·simp only[ab,RN,B,F]
   rfl
  simp only[j1,t1,RN,B,F,N,O];refine ak (r d) ?_;cases E:inR d 1 D.su.days.length
  ·simp only[RN,B,F]
   rfl
  have ha:0<=a/\a<=(D.su.pc.hands.length:Int) - 1:=by simpa[inR]using k1
  have hd:1<=d/\d<=(D.su.days.length:Int):=by simpa[inR]using E
  have hO:=ZI D.su o A j V (by omega) a d ha.1 (by omega) (by omega);rw[dF,<-l]at hO;simp only[j0,j1,t0,t1,RN,B,F,N,O];refine ak hO ?_;simp only[fD,DV.strip,RN]
  rfl
 simp only[RN,B,F];cases z8:(kind==8)
 case true=>
  obtain rfl:kind=8:=by simpa using z8
  obtain⟨n,rfl⟩:∃n,ns=[n]:=by match ns,x with| [n],_=>exact⟨n,rfl⟩
  have e:EL D ⟨8,[n]⟩=true:=by simp[EL]
  rw[Qu h,e];simp only[j0,t0,aH,RN,B,F,N,O];refine ak (r n) ?_;cases E:inR n 1 D.su.days.length
  ·(try simp only[RN,B,F])
   rfl
  have y:1<=n/\n<=(D.su.days.length:Int):=by simpa[inR]using E
  have w:=Xp D.su o;have S:=fun n y=>ZO D.su o n y
  simp only[dF,<-T]at w S;obtain⟨m,am⟩:∃m:Nat,m=((D.su.days.length:Int)+1 - n).toNat:=⟨_,rfl⟩
  rw[<-am];simp only[if_true];simp only[j0,t0,RN,B,F,N,O];refine aG m (fun i (_:Unit)=>⟨[(6, .d (.aV D.su.cs)),(9,pI (n+i))],⟨[some ((Uw D).map .d),some [pI 8, .d (.slice false [dI n])],some (D.su.cs.map .d)],[2,1,0],[]⟩⟩)
   (fun i _=>kH D.nX m n=kH D.nX (m - i) (n+i)) 0 () (ae _) (by rw[cp,cH];rfl) (by rw[Nat.sub_zero,cp,cH]) (fun i _ g1 f=> ?_) (fun _ f=> ?_)
  ·have y1:n+(i:Int)<=(D.su.days.length:Int):=by omega
   have g6:cM .i64 (n+(i:Int)+1)=n+((i+1:Nat):Int):=by rw[aB (by omega)];omega
   obtain⟨k,H⟩:∃k,m - i=k+1:=⟨m - i - 1,by omega⟩
   have ai:m - (i+1)=k:=by omega
   have an:D.nX (n+i)=D.su.works (D.su.first+(n+i) - 1):=by rw[Dk.nX,ac5 (by omega) (by omega)]
   rw[H,kH,an]at f;simp only[nO,RN,B,F,O];refine ak w ?_;simp only[y1,RN,B,F,O];refine eG rfl rfl (S (n+i) (by omega)) ?_;cases hw:D.su.works (D.su.first+(n+i) - 1)
   ·rw[hw]at f
    simp only[bO,if_false]at f;simp only[g6,RN,B,F];exact dD () g1 rfl (by rw[ai,f];congr 1;omega) (by simp) (by simp) rfl (by simp[PV.upto])
   ·rw[hw,if_pos rfl]at f
    rw[f];simp only[fD,DV.strip,RN,B,F]
    rfl
  ·have y1:¬n+(m:Int)<=(D.su.days.length:Int):=by omega
   rw[cK,kH]at f;rw[f];simp only[nO,RN,B,F,O];refine ak w ?_;simp only[y1,RN,B,F]
   rfl
 simp only[RN,B,F];cases z9:(kind==9)
 case true=>
  obtain rfl:kind=9:=by simpa using z9
  obtain⟨n,rfl⟩:∃n,ns=[n]:=by match ns,x with| [n],_=>exact⟨n,rfl⟩
  have e:EL D ⟨9,[n]⟩=true:=by simp[EL]
  rw[X0 h,e];simp only[j0,t0,aH,RN,B,F,N,O];refine ak (r n) ?_;cases E:inR n 1 D.su.days.length
  ·(try simp only[RN,B,F])
   rfl
  have y:1<=n/\n<=(D.su.days.length:Int):=by simpa[inR]using E
  obtain⟨h1,h2,h3,h4,h5,h6,h7,h8,h9,ao⟩:=Su.facts o;have aq:=(Cal.facts h5).1;have aw:D.su.cal.ep+365*D.su.year.toNat<=D.su.first/\D.su.first<=D.su.cal.ep+366*D.su.year.toNat:=D.su.cal.jC D.su.year.toNat;have hF:=SB D.su.cal h5 D.su.year.toNat (by omega);have Y:((D.su.year.toNat:Nat):Int)=D.su.year:=by omega
  have U:D.su.cal.first D.su.year.toNat=D.su.first:=rfl;have av:D.su.cal.first (D.su.year.toNat+1)=D.su.first+o8 (D.su.cal.leap D.su.year):=by rw[Cal.first,U,Y]
  have M:=akZ D.su.cal h5 D.su.year.toNat (by omega) (D.su.first+n - 1) (by omega) (by omega);rw[Y,U,dZ]at hF;rw[dZ,oG]at M;have w1:cM .i64 (D.su.first+n)=D.su.first+n:=aB (by omega);have w2:cM .i64 (D.su.first+n - 1)=D.su.first+n - 1:=aB (by omega);rw[show D.su.first+(n - 1)=D.su.first+n - 1 by omega];simp only[j0,t0,RN,B,F,I,N,O];refine ak hF ?_;simp only[w1,w2,RN];refine ak M ?_;simp only[Bg,RN,B,F,J,O]
  rfl
 simp only[RN,B,F];cases ac:(kind==10)
 case true=>
  obtain rfl:kind=10:=by simpa using ac
  obtain⟨n,rfl⟩:∃n,ns=[n]:=by match ns,x with| [n],_=>exact⟨n,rfl⟩
  have e:EL D ⟨10,[n]⟩=true:=by simp[EL]
  have hd:=(Su.facts o).2.2.2.1;rw[XZ h,e];simp only[j0,t0,aH,RN,B,F,N,O];refine ak (acu n) ?_;cases E:inR n 1 400
  ·(try simp only[RN,B,F])
   rfl
  have y:1<=n/\n<=400:=by simpa[inR]using E
  have L:=VK D.su.dvd n hd y.1;rw[rW,JG]at L;simp only[j0,t0,RN,B,F,I,N,O];refine ak L ?_;cases k3:(D.su.dvd.first n).isSome
  ·(try simp only[RN,B,F,J,O])
   rfl
  simp only[ER,RN,B,F,J,O]
  rfl
 simp only[RN,B,F,O];simp only[beq_eq_false_iff_ne,ne_eq]at z4 z5 z6 z8 z9 ac;have s:kind=1\/kind=2\/kind=3\/kind=7\/kind=11\/kind=12:=by omega
 have K:=anI h kind s;obtain rfl:ns=[]:=by
  refine Z (x.trans ?_)
  rcases s with rfl|rfl|rfl|rfl|rfl|rfl<;>rfl
 have e:EL D ⟨kind,[]⟩=IL D kind:=by rw[EL,if_pos s,if_pos u]
 have e0:(D.ask ⟨kind,[]⟩).2=0:=by
  rcases s with rfl|rfl|rfl|rfl|rfl|rfl
  ·rw[MI h]
  ·rw[MJ h]
  ·rw[Qs h]
  ·obtain⟨t,_,hw⟩:=MK h;rw[hw]
  ·rw[MH h]
  ·rw[IQ h]
 rw[ug]at K;rw[e,e0];refine ak K ?_;(try simp only[RN])
end Go.Tel
namespace Go.Tel
open Go.Am Go.Lib
def isKind (w:ByteArray)(l:List Int)(k:Int):Bool:=decide (w=fwE k)&&(⟨k,l⟩:En).formed
def afX {line:ByteArray}{l:List Int}{k:Int}(a:fV ((aY line 32).drop 1) []=some l)(hk:1<=k/\k<=6)(h:isKind ((aY line 32).getD 0 default) l k=true):iZ line fmL=some (k - 1,l):=by
 simp only[isKind,V,decide_eq_true_eq]at h;obtain⟨h1,h2,d⟩:=CU h.2;obtain⟨ns,e,b⟩:=rZ _ _ _ a;rw[aD]at e;subst e;simp only at h2 d;have c:(aY line 32).length - 1=gI k:=by
  have:=congrArg b0 b;rw[Q,aR]at this;omega
 rw[iZ,h.1,c,ahg hk,a,if_pos (by omega)]
def afa {line:ByteArray}{l:List Int}{a:Int}(h:iZ line fmL=some (a,l)):fV ((aY line 32).drop 1) []=some l/\(1<=1+a/\1+a<=6)/\isKind ((aY line 32).getD 0 default) l (1+a)=true:=by
 obtain⟨b,d⟩:=aar h;obtain⟨h1,h2,e⟩:=CU b;have c:=acI b;rw[d]at c;refine⟨?_,h1,?_⟩
 ·rw[c,ch,bR,OC _ _ (Va b)];rfl
 ·rw[c,List.getD_cons_zero,isKind,decide_eq_true rfl,b];rfl
def NR {line w:ByteArray}{c:UInt8}(h:w∈aY line c):w.size<=line.size:=by
 have h1:w.data.toList∈spl c line.data.toList:=by rw[<-tH];exact bL.2 ⟨w,h,rfl⟩
 have e:∀(l x:List UInt8),x∈spl c l->x.length<=l.length:=by
  intro l
  induction l with
  |nil=>intro x a;simp[spl]at a;simp[a]
  |cons b l d=>
   intro x a;rw[spl]at a
   split at a
   ·rcases ap.1 a with a|a
    ·simp[a]
    ·have:=d x a;simp;omega
   ·split at a
    ·rename_i y r f
     rcases ap.1 a with a|a
     ·have:=d y (by rw[f];simp)
      rw[a];simp;omega
     ·have:=d x (by rw[f];simp[a])
      simp;omega
    ·simp only[bq]at a;rw[a];simp
 have:=e _ _ h1;rw[size_data,size_data]at this;exact this
def tDV:Option (Int×List Int)->DV
 |some (a,l)=> .tup [.agg [.int .i64 (1+a), .slice false (l.map au)], .bool true]
 |none=> .tup [.agg [.int .i64 0, .slice true []], .bool false]
def Tf (line:ByteArray):DV:=tDV (iZ line fmL)
def aif (line:ByteArray)(hl:line.size<=999999):Pure C 47 [.str line] (.d (Tf line)) []:=by
 have K:=sK line 32;have E:=Go.Lib.countB_le ⟨#[32]⟩ (av _) line.size line (av _);have x:=Py ((aY line 32).drop 1) (by rw[aR];omega) (fun w Y=>by have:=NR (cf Y);omega);have Q9:=Tj line 32 (by omega);have t:∀(l:List Int) (k:Int),fV ((aY line 32).drop 1) []=some l->1<=k/\k<=6->isKind ((aY line 32).getD 0 default) l k=true->iZ line fmL=some (k - 1,l):=fun l k g U h=>afX g U h
 have p:∀a l,iZ line fmL=some (a,l)->fV ((aY line 32).drop 1) []=some l/\(1<=1+a/\1+a<=6)/\isKind ((aY line 32).getD 0 default) l (1+a)=true:=fun a l h=>afa h
 have D:∀l,fV ((aY line 32).drop 1) []=some l->l.length<=1000000:=by
  intro l g;obtain⟨ns,e,N⟩:=rZ _ _ _ g;rw[aD]at e;have:=congrArg b0 N;rw[Q,aR]at this;rw[e];omega
 obtain⟨T,M⟩:∃T,T=iZ line fmL:=⟨_,rfl⟩
 rw[<-M]at t p;have c:Tf line=tDV T:=by rw[M];rfl
 refine ah KN Gl ?_;simp only[KN,Gl,RN,B];refine ak Q9 ?_;have V:1<=(aY line 32).length:=by omega
 have anf:(aY line 32).length<=1000000:=by omega
 clear Q9 K E;generalize aY line 32=ws at*;(try simp only[RN]);rw[wB (XJ ws) (by decide) (by rw[Q];omega)];have G:(ws.map DV.str).drop (cF 1)=(ws.drop 1).map DV.str:=by rw[cE];rfl
 rw[G];refine ak x ?_;simp only[Ns,RN];cases g:fV (ws.drop 1) []with
 |none=>
  have m:T=none:=by
   cases n:T with
   |none=>rfl
   |some q=>obtain⟨h1,_⟩:=p q.1 q.2 n;rw[g]at h1;cases h1
  simp only[bh];refine iE (fun(_:Unit)=>⟨[(2, .ptr 0 0),(4, .d (sF (ws.map .str))),(5, .d (.slice false [])),(6, .d (.bool false)),(7,pI 1)],⟨[some [pI 0, .d (.slice true [])]],[],[]⟩⟩)
   (fun _=>True) (fun _=>0) () rfl trivial (fun _ _=> ?_)
  simp only[gV,RN,B,F,O];rw[c,m,tDV]
 |some l=>
  have I:=D l g;simp only[bi,bl];refine aG 6 (fun i (_:Unit)=>⟨[(2, .ptr 0 0),(4, .d (sF (ws.map .str))),(5, .d (sF (l.map au))),(6, .d (.bool true)),(7, .d (dI ((i+1:Nat):Int)))],⟨[some [pI 0, .d (.slice true [])]],[],[]⟩⟩)
   (fun i _=>∀j:Nat,j<i->isKind (ws.getD 0 default) l ((j:Int)+1)=false) 0 () (ae _) rfl (fun j H=>absurd H (cz _)) (fun i _ L f=> ?_) (fun _ f=> ?_)
  ·have y:((i+1:Nat):Int)<=6:=by omega
   have P:(0:Int)<=0:=by decide
   have R:(0:Nat)<ws.length:=by omega
   have A:cM .i64 (((i+1:Nat):Int)+1)=((i+1+1:Nat):Int):=by rw[aB (by omega)];omega
   have r:(1:Int)<=((i+1:Nat):Int)/\((i+1:Nat):Int)<=6:=by omega
   have z:=VF ⟨((i+1:Nat):Int),l⟩ I;rw[dO]at z;simp only at z;obtain⟨k,u⟩:∃k:Int,k=((i+1:Nat):Int):=⟨_,rfl⟩
   rw[<-u]at y A r z;have v:(i:Int)+1=k:=by omega
   have W:=alo r;simp only[<-u,y,P,R,Q,cB,getD_map,gy,RN,B,F,O];refine ak W ?_;have hd:=qQ (a:=ws.getD 0 default) (b:=fwE k)
   by_cases e:ws.getD 0 default=fwE k
   ·rw[decide_eq_true e]at hd
    simp only[dM,pW,hd,RN,B,F,O];refine ak z ?_;cases s:(⟨k,l⟩:En).formed
    ·simp only[A,RN,B,F]
     refine fC 1 0 () L rfl (fun j H=> ?_) (by simp) (by simp) rfl rfl
     by_cases o:j=i
     ·subst o;rw[v,isKind,s,bN]
     ·exact f j (by omega)
    ·have X:=t l k g r (by rw[isKind,s,decide_eq_true e];rfl)
     simp only[gV,RN,B,F,J,O];rw[c,X,tDV];rw[show 1+(k - 1)=k by omega]
   ·rw[decide_eq_false e]at hd
    simp only[dM,pW,hd,A,RN,B,F];refine fC 1 0 () L rfl (fun j H=> ?_) (by simp) (by simp) rfl rfl
    by_cases o:j=i
    ·subst o;rw[v,isKind,decide_eq_false e];rfl
    ·exact f j (by omega)
  ·have m:T=none:=by
    cases n:T with
    |none=>rfl
    |some q=>
     obtain⟨h1,h2,S⟩:=p q.1 q.2 n;rw[g]at h1;cases h1;have:=f q.1.toNat (by omega);rw[show((q.1.toNat:Nat):Int)+1=1+q.1 by omega,S]at this;cases this
   have y:¬((6+1:Nat):Int)<=6:=by omega
   simp only[y,gV,RN,B,F,O];rw[c,m,tDV]
def lnS:List ByteArray->List ByteArray
 | []=>[]
 | [w]=>if w.size=0 then[]else[w]
 |w::x::r=>(w++nlB)::lnS (x::r)
def lnL:List (List UInt8)->List (List UInt8)
 | []=>[]
 | [w]=>if w=[]then[]else[w]
 |w::x::r=>(w++ [10])::lnL (x::r)
def ai1 (c:UInt8):∀l:List UInt8,∃x r,spl c l=x::r:=fun l=>by
 obtain⟨x,r,h,_⟩:=JW c l;exact⟨x,r,h⟩
def adn:∀l:List UInt8,lnL (spl 10 l)=uD l
 | []=>rfl
 |b::l=>by
  obtain⟨x,r,h⟩:=ai1 10 l;have d:=adn l;rw[h]at d;rw[spl,uD,<-d,h]
  by_cases c:b=10
  ·rw[if_pos c,if_pos (by rw[c];rfl),c];rfl
  ·rw[if_neg c,if_neg (by simpa using c)]
   cases r with
   |nil=>
    cases x with
    |nil=>rfl
    |cons a x=>rfl
   |cons y r=>rfl
def Y4:∀ws:List ByteArray,(lnS ws).map (·.data.toList)=lnL (ws.map (·.data.toList))
 | []=>rfl
 | [w]=>by
  rw[lnS,List.map_singleton,lnL];have:=pO w
  by_cases h:w.size=0
  ·rw[if_pos h,if_pos (Z (by omega))];rfl
  ·rw[if_neg h,if_neg (fun e=>h (by rw[e]at this;simp at this;omega))];rfl
 |w::x::r=>by
  have:=Y4 (x::r);rw[lnS,bj,this,tV]
  rfl
def Xb (j:ByteArray):jo j=lnS (aY j 10):=by
 refine Df ?_;rw[Y4,tH,adn,jo,cJ]
 conv=>rhs;rw[<-List.map_id (uD _)]
 refine List.map_congr_left fun x _=> ?_
 simp
def Fits (l:List Int):Prop:=l.length<=1000/\∀n∈l, -4611686018427387904<=n/\n<=4611686018427387904
def mV:Fits []:=⟨by simp,by simp⟩
def uq {n:Int}(h: -4611686018427387904<=n/\n<=4611686018427387904):Fits [n]:=⟨by simp,by intro m a;rw[bq]at a;rw[a];exact h⟩
variable{p:Pc}
def ae4 (g:p.ok=true):Fits (Jb p):=by
 have c:=Pc.good g;have h1:=c.h2;refine⟨by rw[Jb,EZ];omega,fun n b=> ?_⟩;simp only[Jb,bz]at b;obtain⟨m,f,b⟩:=b;have d:=c.hd m f;have h:=c.al4 (a:=m.toNat) (by omega) (by omega);obtain⟨_,t1,t2⟩:=rO h;have e:=Ho t1 t2;rw[wM,ZQ p d.1 d.2]at b;simp only[ap,a6,or_false]at b
 rcases b with rfl|rfl<;>omega
variable{s:Su}{l:List En}
def afp (hf:∀x∈l,x.Fit s)(h:Int):(bg l h).2=true->(bg l h).1.ok=true:=by
 induction l using ni with
 |h0=>intro e;cases e
 |h1 l x a=>
  have a:=a fun y f=>hf y (List.mem_append_left _ f)
  have d:=hf x (by simp);rw[lX,lC]
  by_cases b:x.kind=3/\x.n 0=h
  ·rw[if_pos b];intro _;exact d.fr b.1
  ·rw[if_neg b]
   by_cases c:x.kind=4/\x.n 0=h
   ·rw[if_pos c];intro e;cases e
   ·rw[if_neg c];exact a
def ah0 (hf:∀x∈l,x.Fit s){k:Nat}(hk:k<=100):Fits (wI l k):=by
 have:=Jg l k;refine⟨by omega,fun n a=> ?_⟩;simp only[wI,bz,bv]at a;obtain⟨i,d,a⟩:=a
 split at a
 ·rename_i c
  have b:=afp hf (i:Int) c;simp only[Fr.ok,inR,V,decide_eq_true_eq,ge_iff_le]at b;simp only[ap,a6,or_false]at a
  rcases a with rfl|rfl|rfl<;>omega
 ·cases a
def aft (hs:s.ok=true){p:Pc}(i:p.ok=true){h:Int}(e:0<=h)(h1:h.toNat<p.hands.length):Fits [Dy s p h]:=by
 have a:=(Su.facts hs).2.2.2.2.2.2.2.2.1;have c:=D5 i e h1;simp only[lI,inR,V,decide_eq_true_eq,bk]at c;obtain⟨⟨_,m⟩,f⟩:=c;have g:(s.bil (bZ (aP p.links (p.hands.getD h.toNat default).toNat))).ok=true:=by
  simp only[Bil.ok,Su.bil,V]at a⊢;refine⟨⟨⟨⟨⟨?_,a.1.1.1.1.2⟩,a.1.1.1.2⟩,a.1.1.2⟩,a.1.2⟩,a.2⟩;simp only[pY,V,decide_eq_true_eq,bk];refine⟨by rw[nH];omega,fun x b=> ?_⟩;simp only[bZ,bz]at b;obtain⟨q,j,b⟩:=b;have:=f q j;simp only[Pr.ok,V]at this;simp only[ap,a6,or_false]at b
  rcases b with rfl|rfl
  ·exact this.1
  ·exact this.2
 obtain⟨_,_,k,l,d⟩:=Bil.bds g;have:=XL d.1;refine uq ?_;rw[Dy,Bil.price];omega
def aeB (g:p.links.length<=5){b c:Int}(hb:4<=b)(hc:c<=60)(f:c - b<=10){l:List Chg}(hl:l.length<=2)(h:∀y∈l,y∈iM p b (c - b+1).toNat p.links.length 0):Fits (sQ l):=by
 refine⟨?_,fun n a=> ?_⟩
 ·have:(sQ l).length=3*l.length:=by
   rw[sQ];induction l with
   |nil=>rfl
   |cons x l e=>simp only[cn,aq,aM,agH,cw]at e⊢;have:=e (by simp at hl;omega) (fun y d=>h y (az _ d));omega
  omega
 ·simp only[sQ,bz,agH]at a
  obtain⟨y,d,a⟩:=a;have:=GI (h y d);simp only[ap,a6,or_false]at a
  rcases a with rfl|rfl|rfl<;>omega
def Vx {f:Chg->Chg->Bool}:∀{all:List Chg} {l:List Chg},Bz f all=some l->l.length<=2/\∀y∈l,y∈all
 | [],l,h=>by cases h
 |c::cs,l,h=>by
  rw[Bz]at h
  split at h
  ·rename_i k b
   cases h;refine⟨by simp,fun y a=> ?_⟩;simp only[ap,a6,or_false]at a
   rcases a with rfl|rfl
   ·exact bp
   ·exact az _ (bX b)
  ·obtain⟨h1,h2⟩:=Vx h
   exact⟨h1,fun y a=>az _ (h2 y a)⟩
def agI {hand:Int}{f:Fr}{all l:List Chg}(h:PX p hand f all=some l):l.length<=2/\∀y∈l,y∈all:=by
 unfold PX at h
 split at h
 ·cases h;exact⟨by simp,by simp⟩
 ·split at h
  ·rename_i c b
   cases h;exact⟨by simp,by intro y a;rw[bq]at a;rw[a];exact bX b⟩
  ·exact Vx h
def ahQ (f:(bD s l).links.length<=5)(a b c:Int):Fits (uF s l a b c).1:=by
 unfold uF
 split
 ·rename_i e
  simp only[aI,inR,V,decide_eq_true_eq,Bool.not_eq_true',decide_eq_false_iff_not,ge_iff_le]at e
  split
  ·split
   ·rename_i L d
    obtain⟨g,h⟩:=agI d;exact aeB f (b:=b) (c:=c) (by omega) (by omega) (by omega) g h
   ·exact mV
  ·exact mV
 ·exact mV
def akP (b:p.ok=true){h:Int}(a:0<=h)(h1:h.toNat<p.hands.length){f:Fr}(hf:f.ok=true){t:Int}(i:t.natAbs<=10000):Fits [Nu p h f t]:=by
 obtain⟨_,t1,t2⟩:=rO (D5 b a h1);obtain⟨c,j⟩:=V8 t1 t2 hf;refine uq ?_;rw[Nu,ab5];have e:=kU ((kK (aP p.links (p.hands.getD h.toNat default).toNat) f).n*t) (kK (aP p.links (p.hands.getD h.toNat default).toNat) f).d;have g:((kK (aP p.links (p.hands.getD h.toNat default).toNat) f).n*t).natAbs<=233280000000000*10000:=by
  rw[Int.natAbs_mul];exact cg c (by omega)
 omega
def ac4 {dK t:Int}(b:1<=dK/\dK<=60):∀{l:List Int} {i:Nat} {x:Ix},(∀n∈l,1<=n/\n<=120)->xX dK t i l=some x->(0<=x.circle/\x.circle<=i+l.length)/\x.turns.natAbs<=7200/\x.holes.natAbs<=7200
 | [],i,x,_,h=>by cases h
 |n::l,i,x,a,h=>by
  rw[xX]at h
  split at h
  ·cases h
   have d:=a n bp;have h1:=Int.mul_le_mul b.2 d.2 (by omega) (by omega);have h2:=Int.mul_nonneg (show 0<=dK by omega) (show 0<=n by omega);have e:=kU (dK*n) t;have f:=kU ((dK*n).tdiv t) n;have g:(((dK*n).tdiv t).tmod n).natAbs<=((dK*n).tdiv t).natAbs:=by rw[Int.natAbs_tmod];exact Nat.mod_le _ _
   refine⟨⟨by simp[UU],by simp[UU];omega⟩,?_,?_⟩<;>simp only[UU]<;>omega
  ·have:=ac4 b (fun m c=>a m (az _ c)) h
   simp only[aM];omega
def adr:∀(l:List Int) (i left:Int),0<=i->0<=left->(0<=(yY l i left).1/\(yY l i left).1<=i+l.length)/\0<=(yY l i left).2/\(yY l i left).2<=left+1\/∃n∈l,n<0
 | [],i,left,h,h2=> .inl ⟨by simp[yY];omega,by simp[yY];omega⟩
 |n::l,i,left,h,h2=>by
  by_cases d:n<0
  ·exact .inr ⟨n,bp,d⟩
  rw[yY]
  by_cases b:left<n
  ·rw[if_pos b]
   refine .inl ⟨?_,?_⟩<;>simp only[aM]<;>omega
  ·rw[if_neg b]
   rcases adr l (i+1) (left - n) (by omega) (by omega)with a|⟨m,c,a⟩
   ·simp only[aM]
    exact .inl ⟨by omega,by omega⟩
   ·exact .inr ⟨m,az _ c,a⟩
def QU {p:Int->Bool}:∀{k:Nat} {n d:Int},kH p k n=some d->n<=d/\d<=n+k
 |0,n,d,h=>by cases h
 |k+1,n,d,h=>by
  rw[kH]at h
  split at h
  ·cases h;omega
  ·have:=QU h;omega
def agE {k:Int}(h:inR k 1 12=true):k=1\/k=2\/k=3\/k=4\/k=5\/k=6\/k=7\/k=8\/k=9\/k=10\/k=11\/k=12:=by
 simp only[inR,V,decide_eq_true_eq,ge_iff_le]at h;omega
def X6 {D:Dk}(h:D.Live)(q:Qn):Fits (D.ask q).1:=by
 obtain⟨t,O,u,p⟩:=h.t;have s:=h.fits (-1);have j:=h.ok.su;have o:(bD D.su (aJ D (-1))).ok=true:=by rw[<-u.pc];exact p.pc
 have J:=Pc.wH o;have F:(bD D.su (aJ D (-1))).hands.length=D.su.pc.hands.length:=by rw[<-u.pc,p.hh]
 have E:=lK D.su;have K:=(Su.facts j).2.1
 by_cases r:inR q.kind 1 12=false
 ·rw[Dk.ask,if_pos r];exact mV
 by_cases f:q.ns.length≠xg q.kind
 ·rw[Dk.ask,if_neg r,if_pos f];exact mV
 obtain⟨k,ns⟩:=q;simp only[ne_eq,Decidable.not_not]at f;have r:=agE (k:=k) (by simpa using r)
 rcases r with rfl|rfl|rfl|rfl|rfl|rfl|rfl|rfl|rfl|rfl|rfl|rfl
 ·obtain rfl:ns=[]:=Z f
  rw[MI h];exact ae4 o
 ·obtain rfl:ns=[]:=Z f
  rw[MJ h];have w:=u.st.length_eq;have y:=p.st;have v:=h.ok.few;refine⟨by simp only;omega,fun n g=> ?_⟩;have:=aam j s h.goes n g;simp only[aI,inR,V,decide_eq_true_eq,ge_iff_le]at this;omega
 ·obtain rfl:ns=[]:=Z f
  rw[Qs h];exact ah0 s (by omega)
 ·obtain⟨a,rfl⟩:∃a,ns=[a]:=aE.1 f
  rw[UJ h]
  split
  ·rename_i l
   simp only[inR,V,decide_eq_true_eq,ge_iff_le]at l;exact aft j o l.1 (by omega)
  ·exact mV
 ·obtain⟨a,b,c,rfl⟩:∃a b c,ns=[a,b,c]:=match ns,f with| [a,b,c],_=>⟨a,b,c,rfl⟩
  rw[X7 h];exact ahQ (by omega) a b c
 ·obtain⟨a,b,rfl⟩:∃a b,ns=[a,b]:=match ns,f with| [a,b],_=>⟨a,b,rfl⟩
  rw[X8 h]
  split
  ·rename_i l
   simp only[inR,V,decide_eq_true_eq,ge_iff_le]at l;have H:=Fe b (qJ (aJ D (-1))) 0 (by rw[<-u.se];exact p.sv) (by omega);refine akP o l.1.1 (by omega) (Qo j _ s h.goes l.1.1 (by omega)) ?_;rw[xU];omega
  ·exact mV
 ·obtain rfl:ns=[]:=Z f
  obtain⟨M,_,e⟩:=MK h;rw[e];have:=NU D.su M D.su.days.length;exact uq (by omega)
 ·obtain⟨a,rfl⟩:∃a,ns=[a]:=aE.1 f
  rw[Qu h]
  split
  ·rename_i l
   simp only[inR,V,decide_eq_true_eq,ge_iff_le]at l;cases L:kH D.nX ((D.su.days.length:Int)+1 - a).toNat a with
   |none=>exact mV
   |some d=>
    have:=QU L;exact uq (by omega)
  ·exact mV
 ·obtain⟨a,rfl⟩:∃a,ns=[a]:=aE.1 f
  rw[X0 h]
  split
  ·rename_i l
   simp only[inR,V,decide_eq_true_eq,ge_iff_le]at l;have G:D.su.first+(a - 1) - D.su.cal.first D.su.year.toNat=a - 1:=by rw[Su.first];omega
   have I:=mF (D.su.cal.leap D.su.year.toNat)
   rcases adr (aQ (D.su.cal.leap D.su.year.toNat)) 0 (D.su.first+(a - 1) - D.su.cal.first D.su.year.toNat) (by omega) (by omega)with C|⟨m,g,C⟩
   ·refine⟨by simp,fun n g=> ?_⟩
    simp only[Ea,ap,a6,or_false]at g
    rcases g with rfl|rfl<;>omega
   ·have:=kL _ _ g;omega
  ·exact mV
 ·obtain⟨a,rfl⟩:∃a,ns=[a]:=aE.1 f
  rw[XZ h]
  split
  ·split
   ·rename_i y
    obtain⟨x,z⟩:=Option.isSome_iff_exists.1 y;obtain⟨A,N,B⟩:=Dvd.J7 (Su.facts j).2.2.2.1;have:=ac4 A B (show xX D.su.dvd.dK a 0 D.su.dvd.cir=some x from z);rw[z];refine⟨by simp,fun n g=> ?_⟩;simp only[ae9,bl,ap,a6,or_false]at g
    rcases g with rfl|rfl|rfl<;>omega
   ·exact mV
  ·exact mV
 ·obtain rfl:ns=[]:=Z f
  rw[MH h];have:=UR _ s;have w:=yL D (-1);have v:=h.ok.few;exact uq (by omega)
 ·obtain rfl:ns=[]:=Z f
  rw[IQ h];have v:=h.ok.few;have w:(fH D).length<=D.es.length:=be (aw _ _) (by simp);refine⟨by simp only[Q];omega,fun n g=> ?_⟩;simp only[bL,fH,b8,bv]at g;obtain⟨i,⟨p,_⟩,rfl⟩:=g;omega
end Go.Tel
namespace Go.Tel
open Go.Am Go.Lib
def Hz (w:ByteArray)(l:List Int)(k:Int):Bool:=decide (w=fwQ k)&&decide (l.length=xg k)
def YL {α:Type}[Inhabited α](p:α->Bool):∀(l:List α) (i:Nat),0<=jS p l i->∃j:Nat,jS p l i=((i+j:Nat):Int)/\j<l.length/\p (l.getD j default)=true
 | [],i,h=>by simp[jS]at h
 |x::l,i,h=>by
  rw[jS]at h⊢
  by_cases a:p x=true
  ·rw[if_pos a];exact⟨0,by simp,by simp,a⟩
  ·rw[if_neg a]at h⊢
   obtain⟨j,h1,h2,b⟩:=YL p l (i+1) h;exact⟨j+1,by rw[h1];omega,by simp;omega,by simpa using b⟩
def amO {k:Int}(hk:1<=k/\k<=12):jS (jJ (fwQ k) (xg k)) amL 0=k - 1:=by
 rcases JB hk with rfl|rfl|rfl|rfl|rfl|rfl|rfl|rfl|rfl|rfl|rfl|rfl
 all_goals kernel_rfl
variable{l:List Int}
def ajh {line:ByteArray}{k:Int}(a:fV ((aY line 32).drop 1) []=some l)(hk:1<=k/\k<=12)(h:Hz ((aY line 32).getD 0 default) l k=true):iZ line amL=some (k - 1,l):=by
 simp only[Hz,V,decide_eq_true_eq]at h;obtain⟨ns,e,b⟩:=rZ _ _ _ a;rw[aD]at e;subst e;have c:(aY line 32).length - 1=xg k:=by
  have:=congrArg b0 b;rw[Q,aR]at this;omega
 rw[iZ,h.1,c,amO hk,a,if_pos (by omega)]
def ags {line:ByteArray}{a:Int}(h:iZ line amL=some (a,l)):fV ((aY line 32).drop 1) []=some l/\(1<=1+a/\1+a<=12)/\Hz ((aY line 32).getD 0 default) l (1+a)=true:=by
 unfold iZ at h
 split at h
 ·rename_i b
  cases c:fV ((aY line 32).drop 1) []with
  |none=>rw[c]at h;cases h
  |some L=>
   rw[c]at h;simp only[Option.some.injEq,Prod.mk.injEq]at h;obtain⟨h1,rfl⟩:=h;obtain⟨j,m,n,f⟩:=YL _ amL 0 b;rw[h1]at m;have d:amL.length=12:=rfl;obtain⟨ns,e,g⟩:=rZ _ _ _ c;rw[aD]at e;subst e;have i:=congrArg b0 g;rw[Q,aR]at i;rw[jJ,qQ,V,decide_eq_true_eq,beq_iff_eq]at f;have k:(1+a - 1).toNat=j:=by omega
   refine⟨rfl,by omega,?_⟩;rw[Hz,fwQ,xg,k,decide_eq_true f.1,decide_eq_true (by omega)];rfl
 ·cases h
def acr {k:Int}(hk:1<=k/\k<=12):Pure C 275 [dI k] (.d (.str (fwQ k))) []:=by
 refine ah FT aN ?_;simp only[FT,aN,RN,B];refine Di rfl rfl rfl ?_
 rcases JB hk with rfl|rfl|rfl|rfl|rfl|rfl|rfl|rfl|rfl|rfl|rfl|rfl
 all_goals((try simp only[RN,F]);exact⟨by decide,by decide,rfl,av 1,rfl⟩)
def Ti (line:ByteArray):DV:=tDV (iZ line amL)
def ZJ (line:ByteArray)(hl:line.size<=999999):Pure C 216 [.str line] (.d (Ti line)) []:=by
 have I:=sK line 32;have D:=Go.Lib.countB_le ⟨#[32]⟩ (av _) line.size line (av _);have x:=Py ((aY line 32).drop 1) (by rw[aR];omega) (fun w Y=>by have:=NR (cf Y);omega);have Q9:=Tj line 32 (by omega);have t:∀(l:List Int) (k:Int),fV ((aY line 32).drop 1) []=some l->1<=k/\k<=12->Hz ((aY line 32).getD 0 default) l k=true->iZ line amL=some (k - 1,l):=fun l k m S h=>ajh m S h
 have r:∀a l,iZ line amL=some (a,l)->fV ((aY line 32).drop 1) []=some l/\(1<=1+a/\1+a<=12)/\Hz ((aY line 32).getD 0 default) l (1+a)=true:=fun a l h=>ags h
 have A:∀l,fV ((aY line 32).drop 1) []=some l->l.length<=1000000:=by
  intro l m;obtain⟨ns,e,M⟩:=rZ _ _ _ m;rw[aD]at e;have:=congrArg b0 M;rw[Q,aR]at this;rw[e];omega
 obtain⟨T,L⟩:∃T,T=iZ line amL:=⟨_,rfl⟩
 rw[<-L]at t r;have c:Ti line=tDV T:=by rw[L];rfl
 refine ah Ep Gl ?_;simp only[Ep,Gl,RN,B];refine ak Q9 ?_;have V:1<=(aY line 32).length:=by omega
 have anf:(aY line 32).length<=1000000:=by omega
 clear Q9 I D;generalize aY line 32=ws at*;(try simp only[RN]);rw[wB (XJ ws) (by decide) (by rw[Q];omega)];have E:(ws.map DV.str).drop (cF 1)=(ws.drop 1).map DV.str:=by rw[cE];rfl
 rw[E];refine ak x ?_;simp only[Ns,RN];cases m:fV (ws.drop 1) []with
 |none=>
  have n:T=none:=by
   cases o:T with
   |none=>rfl
   |some q=>obtain⟨h1,_⟩:=r q.1 q.2 o;rw[m]at h1;cases h1
  simp only[bh];refine iE (fun(_:Unit)=>⟨[(2, .ptr 0 0),(4, .d (sF (ws.map .str))),(5, .d (.slice false [])),(6, .d (.bool false)),(7,pI 1)],⟨[some [pI 0, .d (.slice true [])]],[],[]⟩⟩)
   (fun _=>True) (fun _=>0) () rfl trivial (fun _ _=> ?_)
  simp only[gV,RN,B,F,O];rw[c,n,tDV]
 |some l=>
  have U:=A l m;simp only[bi,bl];refine aG 12 (fun i (_:Unit)=>⟨[(2, .ptr 0 0),(4, .d (sF (ws.map .str))),(5, .d (sF (l.map au))),(6, .d (.bool true)),(7, .d (dI ((i+1:Nat):Int)))],⟨[some [pI 0, .d (.slice true [])]],[],[]⟩⟩)
   (fun i _=>∀j:Nat,j<i->Hz (ws.getD 0 default) l ((j:Int)+1)=false) 0 () (ae _) rfl (fun j G=>absurd G (cz _)) (fun i _ J f=> ?_) (fun _ f=> ?_)
  ·have y:((i+1:Nat):Int)<=12:=by omega
   have N:(0:Int)<=0:=by decide
   have P:(0:Nat)<ws.length:=by omega
   have z:cM .i64 (((i+1:Nat):Int)+1)=((i+1+1:Nat):Int):=by rw[aB (by omega)];omega
   have g:(1:Int)<=((i+1:Nat):Int)/\((i+1:Nat):Int)<=12:=by omega
   obtain⟨k,u⟩:∃k:Int,k=((i+1:Nat):Int):=⟨_,rfl⟩
   rw[<-u]at y z g;have K:=ZF k;rw[xM,if_pos g]at K;have H:((l.length:Int)==(xg k:Int))=decide (l.length=xg k):=by rw[ct,beq_iff_eq,decide_eq_true_eq];omega
   have v:(i:Int)+1=k:=by omega
   have W:=acr g;simp only[<-u,y,N,P,Q,cB,getD_map,gy,RN,B,O];refine ak W ?_;have hd:=qQ (a:=ws.getD 0 default) (b:=fwQ k)
   by_cases e:ws.getD 0 default=fwQ k
   ·rw[decide_eq_true e]at hd
    simp only[dM,pW,hd,RN,B];refine ak K ?_;simp only[Q,H,RN];cases s:decide (l.length=xg k)
    ·simp only[z,RN,B]
     refine fC 1 0 () J rfl (fun j G=> ?_) (by simp) (by simp) rfl rfl
     by_cases p:j=i
     ·subst p;rw[v,Hz,s,bN]
     ·exact f j (by omega)
    ·have X:=t l k m g (by rw[Hz,s,decide_eq_true e];rfl)
     simp only[gV,RN,B,F,O];rw[c,X,tDV];rw[show 1+(k - 1)=k by omega]
   ·rw[decide_eq_false e]at hd
    simp only[dM,pW,hd,z,RN,B];refine fC 1 0 () J rfl (fun j G=> ?_) (by simp) (by simp) rfl rfl
    by_cases p:j=i
    ·subst p;rw[v,Hz,decide_eq_false e];rfl
    ·exact f j (by omega)
  ·have n:T=none:=by
    cases o:T with
    |none=>rfl
    |some q=>
     obtain⟨h1,h2,R⟩:=r q.1 q.2 o;rw[m]at h1;cases h1;have:=f q.1.toNat (by omega);rw[show((q.1.toNat:Nat):Int)+1=1+q.1 by omega,R]at this;cases this
   have y:¬((12+1:Nat):Int)<=12:=by omega
   simp only[y,gV,RN,B,F,O];rw[c,n,tDV]
end Go.Tel
namespace Go.Tel
open Go.Am Go.Lib
def WY {l:List Int}(h:l≠[]):(MG ⟨#[]⟩ l).extract 1 (MG ⟨#[]⟩ l).size=CX l/\1<=(MG ⟨#[]⟩ l).size:=by
 cases l with
 |nil=>exact absurd rfl h
 |cons n ns=>
  have hd:=UG (n::ns) ⟨#[]⟩;have a:=pO (MG ⟨#[]⟩ (n::ns));simp only[bj,List.flatten_cons,cq]at hd;rw[aD]at hd;refine⟨ML ?_,?_⟩
  ·rw[Bh,<-a,a7,hd,ch,bR,Oy]
  ·rw[<-a,hd];simp
variable{D:Dk}
def VU (h:D.Live)(line:ByteArray):∃a s,D.said line=some (a,s)/\a.Live:=by
 have b:=X6 h (gB line).1;unfold Dk.said
 split
 ·split
  ·exact⟨_,_,rfl,I7 h _⟩
  ·exact⟨_,_,rfl,I7 h _⟩
 split
 ·exact⟨_,_,rfl,h⟩
 split
 ·split
  ·exact⟨_,_,rfl,h⟩
  split
  ·exact⟨_,_,rfl,h⟩
  have c:((D.ask (gB line).1).1.all aht&&decide ((D.ask (gB line).1).1.length<=1000))=true:=by
   simp only[V,bk,decide_eq_true_eq,aht];exact⟨fun n d=>by have:=b.2 n d;omega,b.1⟩
  rw[if_pos c];exact⟨_,_,rfl,h⟩
 ·exact⟨_,_,rfl,h⟩
def ajc (T:Option (Int×List Int)):∃k ex l,tDV T= .tup [.agg [dI k, .slice ex (l.map au)], .bool T.isSome]/\∀a ns,T=some (a,ns)->k=1+a/\l=ns:=by
 cases T with
 |none=>exact⟨0,true,[],rfl,fun a ns h=>by cases h⟩
 |some q=>exact⟨1+q.1,false,q.2,rfl,fun a ns h=>by cases h;exact⟨rfl,rfl⟩⟩
def afy {I:Dk}{s:ByteArray}(h:D.Live){line:ByteArray}(hl:line.size<=999998)(hs:D.said line=some (I,s)):Pure C 120 [NG D, .str line] (.d (.tup [NG I, .str s])) []:=by
 have K:=aif line (by omega);have M:=ZJ line (by omega);have r:=fun(n:Int) (N:0<=n/\n<=7)=>DF (n:=n) (by omega)
 have f:=fun(n:Int) (N:0<=n/\n<=7)=>wG (n:=n) ⟨by omega,by omega⟩
 have S:(⟨#[101,114,114,111,114,32]⟩:ByteArray).size=6:=rfl;obtain⟨U,W,l1,z,E⟩:=ajc (iZ line fmL);obtain⟨V,X,l2,A,G⟩:=ajc (iZ line amL);rw[Tf,z]at K;rw[Ti,A]at M;refine ah zx aiI ?_;rw[ug];simp only[zx,aiI,RN,B,F];refine ak K ?_;(try simp only[RN,B,F,J,O]);refine ak M ?_;unfold Dk.said dP gB at hs
 by_cases b:(line.size:Int)>60
 ·rw[if_pos (show line.size>60 by omega)]at hs
  simp only[show¬((3:Int)=0) by decide,if_true,if_false,Option.some.injEq,Prod.mk.injEq]at hs;obtain⟨rfl,rfl⟩:=hs;have:=f 3 (by decide);simp only[b,RN,B,F,J,O];refine eG rfl rfl (r 3 (by decide)) ?_;simp only[dM,lH,RN,F,J,O];refine⟨by omega,?_⟩
  rfl
 rw[if_neg (show¬line.size>60 by omega)]at hs;cases p:iZ line fmL with
 |some q=>
  obtain⟨k,ns⟩:=q;obtain⟨rfl,rfl⟩:=E _ _ p;have j:=(ab8 line (by rw[dP,if_neg (by omega),p])).1;have j:l1.length<=1000:=by rw[dP,if_neg (by omega),p]at j;exact j
  rw[p]at hs;simp only[if_true]at hs;have t:=ak0 h ⟨1+k,l1⟩ (by simp only;omega);rw[ug,dO]at t;simp only at t;rw[Nb h]at hs;have a:=Na D ⟨1+k,l1⟩;rw[Nb h]at a;simp only at hs a;obtain⟨x,y⟩:∃x:En,x=⟨1+k,l1⟩:=⟨_,rfl⟩
  rw[<-y]at hs t a;simp only[b,bi,RN,B,F,J,O];refine ak t ?_
  by_cases l:Ae D x=0
  ·have i:(Ae D x==0)=true:=by simp[l]
   have u:=aco h l;rw[ug (D:=D),dO,y]at u;simp only at u;rw[<-y]at u;rw[if_pos l,if_pos l]at hs;simp only[Option.some.injEq,Prod.mk.injEq]at hs;obtain⟨rfl,rfl⟩:=hs;simp only[i,RN,B,F,O];refine ak u ?_;rw[ug];(try simp only[RN,F,J,O])
   rfl
  ·have i:(Ae D x==0)=false:=by simp[l]
   rw[if_neg l,if_neg l]at hs;simp only[Option.some.injEq,Prod.mk.injEq]at hs;obtain⟨rfl,rfl⟩:=hs;have:=f _ a;simp only[i,RN,B,F,O];refine ak (r _ a) ?_;simp only[dM,lH,RN,F,J,O];refine⟨by omega,?_⟩
   rfl
 |none=>
  rw[p]at hs;simp only[show¬((4:Int)=0) by decide,show¬((4:Int)=3) by decide,if_false]at hs;cases v:iZ line amL with
  |none=>
   rw[v]at hs;simp only[show¬((4:Int)=0) by decide,if_false,Option.some.injEq,Prod.mk.injEq]at hs;obtain⟨rfl,rfl⟩:=hs;have:=f 4 (by decide);simp only[b,bh,RN,B,F,J,O];refine eG rfl rfl (r 4 (by decide)) ?_;simp only[dM,lH,RN,F,J,O];refine⟨by omega,?_⟩
   rfl
  |some q=>
   obtain⟨k,ns⟩:=q;obtain⟨rfl,rfl⟩:=G _ _ v;rw[v]at hs;simp only[if_true]at hs;have m:=anJ h ⟨1+k,l2⟩;have c:=Wp D ⟨1+k,l2⟩;have g:=X6 h ⟨1+k,l2⟩;rw[ug,ac7]at m;simp only at m;generalize D.ask ⟨1+k,l2⟩=R at hs m c g;obtain⟨L,e⟩:=R;simp only at hs m c g;simp only[b,bh,bi,RN,B,F,J,O];refine ak m ?_
   by_cases w:e=0
   ·subst w
    simp only[ne_eq,not_true_eq_false,if_false]at hs;have i:((0:Int)==0)=true:=rfl
    by_cases o:L=[]
    ·rw[if_pos o]at hs
     simp only[Option.some.injEq,Prod.mk.injEq]at hs;obtain⟨rfl,rfl⟩:=hs;have H:((L.length:Int)==0)=true:=by rw[o];rfl
     simp only[i,H,Q,RN,B,F,J,O]
     rfl
    ·rw[if_neg o]at hs
     split at hs
     ·simp only[Option.some.injEq,Prod.mk.injEq]at hs
      obtain⟨rfl,rfl⟩:=hs;have H:((L.length:Int)==0)=false:=by
       rw[beq_eq_false_iff_ne];intro e;exact o (Z (by omega))
      obtain⟨P,T⟩:=WY o;simp only[i,H,Q,RN,B,F,O];refine ak (aiR L g.1 g.2) ?_;rw[CP (by decide) (by omega),show(cF 1)=1 from rfl,P];(try simp only[RN,F,J,O])
     ·cases hs
   ·have i:(e==0)=false:=by simp[w]
    rw[if_pos w]at hs;simp only[Option.some.injEq,Prod.mk.injEq]at hs;obtain⟨rfl,rfl⟩:=hs;have:=f _ c;simp only[i,RN,B,F,O];refine ak (r _ c) ?_;simp only[dM,lH,RN,F,J,O];refine⟨by omega,?_⟩
    rfl
end Go.Tel
namespace Go.Tel
open Go.Am Go.Lib
def Yn:∀(l:List ByteArray) {D:Dk} {out:ByteArray},D.Live->∃a o,sS D l out=some (a,o)
 | [],D,out,_=>⟨D,out,rfl⟩
 |y::l,D,out,h=>by
  obtain⟨a,s,h1,h2⟩:=VU h (dw y);rw[sS,h1];exact Yn l h2
def ado:∀{ws:List ByteArray},(ws.getD (ws.length - 1) default).size=0->lnS ws=ws.dropLast.map (·++nlB)
 | [],_=>rfl
 | [w],h=>by
  rw[lnS,if_pos (by simpa using h)];rfl
 |w::x::r,h=>by
  rw[lnS,ado (ws:=x::r) (by simpa using h)];rfl
def aaf:∀l:List UInt8,((spl 10 l).getD ((spl 10 l).length - 1) default=[]↔l=[]\/l.drop (l.length - 1)=[10])
 | []=>by simp[spl]
 |b::l=>by
  obtain⟨x,r,d,j⟩:=JW 10 l;have f:=aaf l;have hd:l≠[]->(b::l).drop ((b::l).length - 1)=l.drop (l.length - 1):=by
   intro h;cases l with
   |nil=>exact absurd rfl h
   |cons y l=>simp
  rw[d]at f;rw[spl,d]
  by_cases c:b=10
  ·rw[if_pos c]
   have e:(([]:List UInt8)::x::r).getD (([]::x::r).length - 1) default=(x::r).getD ((x::r).length - 1) default:=by simp
   rw[e,f]
   by_cases a:l=[]
   ·rw[a,c];simp
   ·rw[hd a];simp[a]
  ·rw[if_neg c]
   cases r with
   |nil=>
    have g:l=x:=by rw[j];simp
    have i:([b::x].getD ([b::x].length - 1) default=[]↔False):=by simp
    simp only;rw[i,false_iff];rintro(h|h)
    ·cases h
    ·by_cases a:l=[]
     ·rw[a]at h;simp at h;exact c h
     ·rw[hd a]at h
      have:=f.2 (.inr h);simp at this;rw[g]at a;exact a this
   |cons y r=>
    have e:((b::x)::y::r).getD (((b::x)::y::r).length - 1) default=(x::y::r).getD ((x::y::r).length - 1) default:=by simp
    simp only;rw[e,f]
    by_cases a:l=[]
    ·rw[a]at d;simp[spl]at d
    ·rw[hd a];simp[a]
def ai2 {j:ByteArray}:((j.toList==(⟨#[]⟩:ByteArray).toList)||uh j)=decide (((aY j 10).getD ((aY j 10).length - 1) default).size=0):=by
 have f:=pO j;have h1:(((aY j 10).getD ((aY j 10).length - 1) default).size=0↔(spl 10 j.data.toList).getD ((spl 10 j.data.toList).length - 1) default=[]):=by
  have b:=pO ((aY j 10).getD ((aY j 10).length - 1) default);have g:=sK j 10;have e:(spl 10 j.data.toList).getD ((spl 10 j.data.toList).length - 1) default=((aY j 10).getD ((aY j 10).length - 1) default).data.toList:=by
   have a:(aY j 10).length - 1<(aY j 10).length:=by omega
   rw[<-tH,Q,ai,bu,ai,bc a]
   rfl
  rw[e];constructor
  ·intro h;exact Z (by omega)
  ·intro h;rw[h]at b;simpa using b.symm
 rw[ct,decide_eq_true_eq,h1,aaf,Bool.or_eq_true,qQ,decide_eq_true_eq,uh,V,decide_eq_true_eq,qQ,decide_eq_true_eq];have c:j=⟨#[]⟩↔j.data.toList=[]:=⟨fun h=>by rw[h],fun h=>ML h⟩
 have d:j.extract (j.size - 1) j.size=⟨#[10]⟩↔j.data.toList.drop (j.data.toList.length - 1)=[10]:=by
  have ex:(j.extract (j.size - 1) j.size).data.toList=j.data.toList.drop (j.data.toList.length - 1):=by rw[Bh,<-f,a7]
  constructor
  ·intro h;rw[<-ex,h]
  ·intro h;exact ML (by rw[ex,h])
 rw[c,d];constructor
 ·rintro(h|⟨_,h⟩)
  ·exact .inl h
  ·exact .inr h
 ·rintro(h|h)
  ·exact .inl h
  ·refine .inr ⟨?_,h⟩
   by_cases i:j.size=0
   ·rw[Z (show j.data.toList.length=0 by omega)]at h;simp at h
   ·omega
def ad5 (s:Su)(hs:s.Small)(a:s.ok=false)(bs:List (Option (List PV)))(fz:List Nat)(ar:List (Option Arr))(KP:DV->Mem->Prop)(c:∀i∈fz,i<bs.length):
  SC C 36 [.d s.dv] ⟨bs,fz,ar⟩ (fun p M'=>p= .d (.tup [.nilPtr,dI 2])/\∃x1,M'=⟨bs++ [x1],bs.length::fz,ar⟩) KP:=by
 have b:=Vj s hs;rw[dF]at b;refine aC mG Gj ?_;simp only[mG,Gj,dF,bJ,dB,aq,RN,B,F,O];refine ak b ?_;rw[a];(try simp only[RN,B]);exact⟨_,rfl⟩
def ad2 (s:Su)(hs:s.Small){script:ByteArray}(hl:script.size<=1000000){e:Int}(g:(s.ok=false/\e=2)\/(s.ok=true/\script.size>1500/\e=3)\/(s.ok=true/\script.size<=1500/\(script.toList==(⟨#[]⟩:ByteArray).toList)=false/\uh script=false/\e=4)):
  Pure C 40 [s.dv, .str script] (.d (.tup [.str ⟨#[]⟩,dI e])) []:=by
 refine ah ku bW ?_;rw[dF];simp only[ku,bW,RN,B,F,O];have z1:((0:Int) !=0)=false:=rfl;have z0:((2:Int) !=0)=true:=rfl;cases a:s.ok
 ·have b:=fun X c=>ad5 s hs a [X,none] [0] [] c (by simp)
  rw[dF]at b;refine SC.kZ (SC.mono (b _ (fun _ _=>False)) ?_) (fun _ _ h=>h);rintro p i ⟨rfl,l,rfl⟩
  rcases g with⟨_,rfl⟩|⟨h2,_⟩|⟨h2,_⟩
  ·simp only[gV,z0,RN,B,F,J,O]
   exact⟨rfl,rfl⟩
  ·rw[a]at h2;cases h2
  ·rw[a]at h2;cases h2
 have b:=fun X c=>acW s hs [X,none] [0] [] c (by simp)
 rw[dF]at b;refine SC.kZ (SC.mono (b _ (fun _ _=>False)) ?_) (fun _ _ h=>h);rintro p i (⟨h,_⟩|⟨h,rfl,l,m,rfl⟩)
 ·rw[a]at h;cases h
 rcases g with⟨h2,_⟩|⟨_,h2,rfl⟩|⟨_,h2,j,k,rfl⟩
 ·rw[h]at h2;cases h2
 ·have f:decide ((script.size:Int)>1500)=true:=decide_eq_true (by omega)
  simp only[uj,um,gV,z1,f,vY,GX,RN,B,F,J,O]
 ·have f:decide ((script.size:Int)>1500)=false:=decide_eq_false (by omega)
  simp only[uj,um,gV,z1,f,dM,Hf,vY,GX,j,RN,B,F,J,O];refine eG rfl rfl (YG (by omega)) ?_;simp only[k,RN,B,F]
def acj (s:Su)(R:s.ok=true)(j:ByteArray)(hj:j.size<=10000){Y:Dk}{out:ByteArray}(v:sS ⟨s,[],[]⟩ ((aY j 10).dropLast.map (·++nlB)) ⟨#[]⟩=some (Y,out)):
  Pure C 41 [s.dv, .str j] (.d (.tup [.str out, .bool (decide (((aY j 10).getD ((aY j 10).length - 1) default).size=0))])) []:=by
 have Q9:=Tj j 10 (by omega);have T:=sK j 10;have M:=Go.Lib.countB_le ⟨#[10]⟩ (av _) j.size j (av _);have V:∀w∈aY j 10,w.size<=10000:=fun w hw=>by have:=NR hw;omega
 have ac:1<=(aY j 10).length:=by omega
 have anf:(aY j 10).length<=20000:=by omega
 clear T M;generalize aY j 10=ws at*;refine bG (aC FP bW ?_);rw[dF];simp only[FP,bW,RN,B,F,J,O];refine ak Q9 ?_;(try simp only[]);have g4:cM .i64 ((ws.length:Int) - 1)=((ws.length - 1:Nat):Int):=by rw[aB (by omega)];omega
 have r:(ws.dropLast.map (·++nlB)).length=ws.length - 1:=by simp
 refine aG (ws.length - 1) (fun i (q:Mem×ByteArray)=>⟨[(6, .ptr 1 0),(7, .d (sF (ws.map .str))),(8, .d (.str q.2)),(9,pI i)],q.1⟩)
  (fun i q=>∃D G H,D.Live/\sS D ((ws.dropLast.map (·++nlB)).drop i) q.2=some (Y,out)/\q.1.boxes[1]?=some (some ((rdF G H D).map PV.d))/\1∉q.1.fz/\FzB q.1/\q.2.size<=30001*i) 0 (⟨[some (s.cs.map PV.d),some ((rdF true true ⟨s,[],[]⟩).map PV.d)],[0],[]⟩,⟨#[]⟩) (ae _) (by rw[nO];rfl) ⟨⟨s,[],[]⟩,true,true,JH R [],v,rfl,by simp,by intro i hi;simp at hi⊢;omega,av _⟩ (fun i q z L=> ?_) (fun q L=> ?_)
 ·obtain⟨⟨b,f,a⟩,o⟩:=q
  obtain⟨D,G,H,l,c,h1,x,k,P⟩:=L;simp only at h1 x c P;have h:i<ws.length:=by omega
  have A:cM .i64 ((i:Int)+1)=((i+1:Nat):Int):=by rw[aB (by omega)];omega
  have g2:((i+1:Nat):Int)<(ws.length:Int):=by omega
  have g5:(i:Int)<(ws.length:Int):=by omega
  have K:(0:Int)<=(i:Int):=by omega
  have g:1<b.length:=(bS.1 h1).1;have N:b.length∉f:=fun e=>Nat.lt_irrefl _ (k _ e)
  have y:¬1=b.length:=by omega
  obtain⟨w,p⟩:∃w,w=ws.getD i default:=⟨_,rfl⟩
  have X:w∈ws:=by rw[p];exact getD_mem h
  have W:(ws.dropLast.map (·++nlB)).getD i default=w++nlB:=by
   rw[ai,bu,List.getElem?_dropLast,if_pos (by omega),p,ai,bc h];rfl
  rw[drop_cons (by rw[r];exact z),W]at c;obtain⟨m1,m2⟩:=akO w;rw[sS,m2]at c;obtain⟨E,t,n,u⟩:=VU l w;have ao:=VT n;rw[n]at c;simp only at c;have hA:=afy l (by have:=V w X;omega) n;rw[ug (D:=D),ug]at hA;have ab:=h1;rw[agN]at h1;simp only[bj,bE]at h1;have an:(⟨#[10]⟩:ByteArray).size=1:=rfl;simp only[dQ,h,g2,K,A,h1,g,getD_map,U,Q,gy,<-p,RN,B,F,I,O];refine ak hA ?_;simp only[dQ,bJ,DU,dB,aq,g,N,y,x,h1,dM,lH,RN,B,F,O];refine⟨by omega,by rw[bw];omega,?_⟩;rw[A];refine aX ((⟨b.set 1 (some ((rdF false false E).map PV.d))++ [some ((rdF false false E).map PV.d)],b.length::f,a⟩:Mem),o++t++nlB) z (by rw[agN];rfl) ⟨E,false,false,u,?_,?_,?_,?_,?_⟩
  ·rw[ByteArray.append_assoc];exact c
  ·simp only;rw[a8 (by simpa using g),List.getElem?_set_self g]
  ·simp only[ap];rintro(e|e);exact y e;exact x e
  ·intro m hm
   simp only[ap]at hm;simp only[aq,List.length_set,cb]
   rcases hm with e|e
   ·omega
   ·have:=k m e;simp only at this;omega
  ·have:nlB.size=1:=rfl
   simp only[bw];omega
 ·obtain⟨⟨b,f,a⟩,o⟩:=q
  obtain⟨D,G,H,l,c,h1,x,k,P⟩:=L;simp only at h1 x c P;rw[b6 (by rw[r];exact av _),sS]at c;simp only[Option.some.injEq,Prod.mk.injEq]at c;obtain⟨rfl,rfl⟩:=c;have A:cM .i64 (((ws.length - 1:Nat):Int)+1)=(ws.length:Int):=by rw[aB (by omega)];omega
  have z:ws.length - 1<ws.length:=by omega
  have g2:((ws.length - 1:Nat):Int)<(ws.length:Int):=by omega
  have K:(0:Int)<=((ws.length - 1:Nat):Int):=by omega
  have S:((ws.getD (ws.length - 1) default).toList==(⟨#[]⟩:ByteArray).toList)=decide ((ws.getD (ws.length - 1) default).size=0):=by
   rw[qQ];congr 1;refine propext ⟨fun e=>by rw[e];rfl,fun e=>ML ?_⟩;have:=pO (ws.getD (ws.length - 1) default);exact Z (by omega)
  simp only[A,am,Q,z,K,g4,getD_map,U,gy,dM,pW,S,RN,B,O]
  rfl
def ajv (s:Su)(j:ByteArray):Pure C 8 [s.dv, .str j] (.d (.bool true)) []:=by
 have q:=alx s;have f:=fun h1 h2=>ain s h1 h2
 refine bG (aC qH aK ?_);rw[dF]at q f⊢;simp only[qH,aK,RN,B,F,O];refine ak q ?_;cases r:s.short
 ·(try simp only[RN,B])
  exact ak CZ (by(try simp only[RN,B,F,I,J,N,O]);rfl)
 obtain⟨g,u⟩:=Su.aae r;have f:=f g (by omega)
 by_cases p:(j.size:Int)>500/\(j.size:Int)<=1500
 ·simp only[p.1,p.2,RN,B]
  exact ak CZ (by(try simp only[RN,B,F,I,J,N,O]);rfl)
 by_cases h:(j.size:Int)>1600
 ·have k:(j.size:Int)>500:=by omega
  have l:¬(j.size:Int)<=1500:=by omega
  simp only[k,l,h,RN,B];exact ak CZ (by(try simp only[RN,B,F,I,J,N,O]);rfl)
 have v:(¬(j.size:Int)>500/\¬(j.size:Int)>1600)\/((j.size:Int)>500/\¬(j.size:Int)<=1500):=by omega
 have m:=fun(e:Int) t=>ad2 s g (script:=j) (by omega) (e:=e) t
 have Vh:=ai2 (j:=j);have w:((2:Int)==2)=true:=rfl;have x:((3:Int)==3)=true:=rfl;have y:((4:Int)==4)=true:=rfl;have z0:((0:Int)==0)=true:=rfl;have ze:((⟨#[]⟩:ByteArray).toList==(⟨#[]⟩:ByteArray).toList)=true:=by simp
 rcases v with⟨k,l⟩|⟨k,l⟩
 all_goals
  simp only[k,l,h,RN,B,F,O];cases a:s.ok
  ·have b:=m 2 (.inl ⟨a,rfl⟩)
   rw[dF]at b;rw[a]at f;refine ak b ?_;(try simp only[RN]);refine ak f ?_;simp only[w,ze,dM,pW,RN,B];refine ak CZ ?_;(try simp only[RN,B,F,I,J,N,O])
   rfl
  rw[a]at f
  by_cases n:(j.size:Int)>1500
  ·have b:=m 3 (.inr (.inl ⟨a,by omega,rfl⟩))
   rw[dF]at b;refine ak b ?_;(try simp only[RN]);refine ak f ?_;simp only[n,x,ze,dM,pW,RN,B];refine ak CZ ?_;(try simp only[RN,B,F,I,J,N,O])
   rfl
  obtain⟨A,out,c⟩:=Yn ((aY j 10).dropLast.map (·++nlB)) (out:=⟨#[]⟩) (JH a []);have i:=acj s a j (by omega) c;rw[dF]at i
  by_cases o:((aY j 10).getD ((aY j 10).length - 1) default).size=0
  ·rw[decide_eq_true o]at Vh i
   rw[<-ado o,<-Xb]at c;have b:=UE s g a (by omega) Vh c;rw[dF]at b;have z:(out.toList==out.toList)=true:=by simp
   refine ak b ?_;(try simp only[RN]);refine ak f ?_;simp only[n,RN,B,F,O];refine ak i ?_;simp only[z0,z,dM,pW,RN,B];refine ak CZ ?_;(try simp only[RN,B,F,I,J,N,O])
   rfl
  ·rw[decide_eq_false o]at Vh i
   rw[Bool.or_eq_false_iff]at Vh;have b:=m 4 (.inr (.inr ⟨a,by omega,Vh.1,Vh.2,rfl⟩));rw[dF]at b;refine ak b ?_;(try simp only[RN]);refine ak f ?_;simp only[n,RN,B,F,O];refine ak i ?_;simp only[y,ze,dM,pW,RN,B];refine ak CZ ?_;(try simp only[RN,B,F,I,J,N,O])
   rfl
end Go.Tel
namespace Go.Am
variable{ds:List DV}
def adf {k:IntKind}(h:Has (.int k) ds):∃n,ds=[.int k n]:=by cases h;exact⟨_,rfl⟩
def akk (h:Has .str ds):∃s,s.size<=maxLen/\ds=[.str s]:=by cases h with|str h=>exact⟨_,h,rfl⟩
def yG (h:Has (.struct []) ds):ds=[]:=by cases h;rfl
variable{ts:List Ty}
def JQ {t:Ty}(h:Has (.struct (t::ts)) ds):∃a b,ds=a++b/\Has t a/\Has (.struct ts) b:=by cases h with|cons h c=>exact⟨_,_,rfl,h,c⟩
def uy {k:IntKind}(h:Has (.struct (.int k::ts)) ds):∃n b,ds= .int k n::b/\Has (.struct ts) b:=by
 obtain⟨a,b,rfl,h1,h2⟩:=JQ h;obtain⟨n,rfl⟩:=adf h1;exact⟨n,b,rfl,h2⟩
def agm {α:Type}{e:Ty}{dv:α->DV}:∀{xs:List DV},(∀x∈xs,∃a,x=dv a)->∃l:List α,xs=l.map dv
 | [],_=>⟨[],rfl⟩
 |x::xs,h=>by
  obtain⟨a,rfl⟩:=h x bp;obtain⟨l,rfl⟩:=agm (e:=e) fun y b=>h y (az _ b)
  exact⟨a::l,rfl⟩
variable{e:Ty}
def am0 {α:Type}{dv:α->DV}(hd:∀x,Has e x.cells->Shp e x->∃a,x=dv a){ds:List DV}(h:Has (.slice e) ds):∃l:List α,ds=[.slice false (l.map dv)]:=by
 cases h with
 |slice h c=>
  rename_i xs
  obtain⟨l,rfl⟩:=agm (e:=e) fun x b=>hd x (h x b) (c x b)
  exact⟨l,rfl⟩
def Vg {α:Type}{dv:α->DV}(hd:∀x,Has e x.cells->Shp e x->∃a,x=dv a){ts:List Ty}{ds:List DV}(h:Has (.struct (.slice e::ts)) ds):∃(l:List α) (b:List DV),ds= .slice false (l.map dv)::b/\Has (.struct ts) b:=by
 obtain⟨a,b,rfl,h1,h2⟩:=JQ h;obtain⟨l,rfl⟩:=am0 hd h1;exact⟨l,b,rfl,h2⟩
variable{xs:List DV}
def alS {T:Ty}{Ts:List Ty}(h:Ce (T::Ts) xs):∃x l,xs=x::l/\ad3 T x/\Ce Ts l:=by
 cases xs with
 |nil=>exact h.elim
 |cons x l=>exact⟨x,l,rfl,h.1,h.2⟩
def amW (h:Ce [] xs):xs=[]:=by
 cases xs with
 |nil=>rfl
 |cons x l=>exact h.elim
end Go.Am
namespace Go.Tel
open Go.Am
abbrev abr:Ty:= .struct [.int .i64, .int .i64]
abbrev abQ:Ty:= .struct [.int .i64, .struct [.int .i64, .int .i64]]
abbrev WO:Ty:= .struct [.bool, .int .i64, .int .i64, .int .i64]
abbrev Hg:Ty:= .struct [.struct [.slice abQ, .slice (.int .i64)], .slice abr, .int .i64, .struct [.int .i64, .slice (.int .i64)], .struct [.int .i64, .slice (.int .i64)], .struct [.int .i64, .int .i64, .int .i64], .slice WO, .int .i64, .int .i64, .int .i64, .int .i64, .int .i64]
variable{ds:List DV}
def Q8 {fs ts:List Ty}(h:Has (.struct (.struct fs::ts)) ds):∃a b,ds=a++b/\Has (.struct fs) a/\Has (.struct ts) b:=JQ h
def ahi (h:Has .bool ds):∃b,ds=[.bool b]:=by cases h;exact⟨_,rfl⟩
def abx (x:DV)(h:Has (.int .i64) x.cells)(hs:Shp (.int .i64) x):∃n:Int,x=au n:=by
 obtain⟨n,h⟩:=adf h;rw[hs.2 rfl]at h;exact⟨n,(List.cons.inj h).1⟩
def amX (x:DV)(h:Has abr x.cells)(hs:Shp abr x):∃p:Fr,x=p.dv:=by
 obtain⟨cs,rfl⟩:=hs.1 rfl;obtain⟨a,_,c,h1⟩:=uy h;obtain⟨b,_,rfl,h2⟩:=uy h1;obtain rfl:=yG h2;exact⟨⟨a,b⟩,by rw[Fr.dv];exact congrArg DV.agg c⟩
def amZ (x:DV)(h:Has abQ x.cells)(hs:Shp abQ x):∃p:Lk,x=p.dv:=by
 obtain⟨cs,rfl⟩:=hs.1 rfl;obtain⟨a,_,d,h1⟩:=uy h;obtain⟨_,_,rfl,h2,e⟩:=Q8 h1;obtain rfl:=yG e;obtain⟨b,_,rfl,f⟩:=uy h2;obtain⟨c,_,rfl,g⟩:=uy f;obtain rfl:=yG g;exact⟨⟨a,⟨b,c⟩⟩,by rw[Lk.dv];exact congrArg DV.agg d⟩
def amY (x:DV)(h:Has WO x.cells)(hs:Shp WO x):∃p:Fs,x=p.dv:=by
 obtain⟨cs,rfl⟩:=hs.1 rfl;obtain⟨_,_,e,f,h1⟩:=JQ h;obtain⟨a,rfl⟩:=ahi f;obtain⟨b,_,rfl,h2⟩:=uy h1;obtain⟨c,_,rfl,g⟩:=uy h2;obtain⟨d,_,rfl,i⟩:=uy g;obtain rfl:=yG i;exact⟨⟨a,b,c,d⟩,by rw[Fs.dv];exact congrArg DV.agg e⟩
variable{x:DV}
def aoh (h:ad3 .str x):∃s,s.size<=maxLen/\x= .str s:=by
 obtain⟨s,a,h1⟩:=akk h.1;rw[h.2.2 rfl]at h1;exact⟨s,a,(List.cons.inj h1).1⟩
def ao9 (h:ad3 Hg x):∃s:Su,x=s.dv:=by
 obtain⟨h,F⟩:=h;obtain⟨cs,rfl⟩:=F.1 rfl;obtain⟨_,_,u,h1,h2⟩:=Q8 h;obtain⟨l,_,rfl,v⟩:=Vg amZ h1;obtain⟨hd,_,rfl,w⟩:=Vg abx v;obtain rfl:=yG w;obtain⟨tg,_,rfl,z⟩:=Vg amX h2;obtain⟨lim,_,rfl,A⟩:=uy z;obtain⟨_,_,rfl,B,C⟩:=Q8 A;obtain⟨wo,_,rfl,D⟩:=uy B;obtain⟨ci,_,rfl,a⟩:=Vg abx D;obtain rfl:=yG a;obtain⟨_,_,rfl,b,c⟩:=Q8 C;obtain⟨ep,_,rfl,d⟩:=uy b;obtain⟨cy,_,rfl,e⟩:=Vg abx d;obtain rfl:=yG e;obtain⟨_,_,rfl,f,g⟩:=Q8 c;obtain⟨I,_,rfl,i⟩:=uy f;obtain⟨H,_,rfl,j⟩:=uy i;obtain⟨G,_,rfl,k⟩:=uy j;obtain rfl:=yG k;obtain⟨fs,_,rfl,m⟩:=Vg amY g;obtain⟨y,_,rfl,n⟩:=uy m;obtain⟨t,_,rfl,o⟩:=uy n;obtain⟨E,_,rfl,p⟩:=uy o;obtain⟨K,_,rfl,q⟩:=uy p;obtain⟨J,_,rfl,r⟩:=uy q;obtain rfl:=yG r;exact⟨⟨⟨l,hd⟩,tg,lim,⟨wo,ci⟩,⟨ep,cy⟩,⟨I,H,G⟩,fs,y,t,E,K,J⟩,by rw[dF];exact congrArg DV.agg u⟩
end Go.Tel
namespace Go.Am
section
variable {H:Type}{enc:TypeId×Value->H}{P:Program}{w:World}{base:Nat}{spare:Nat->Bool}{held:Bool}
def PN:∀{ts:List TypeId} {vs:List Value} {ds:List (DataW H)} {ps:List MemPlace},DataW.TrodAll enc P w base spare held ts vs ds ps->ds.length=ts.length
 | [],[],[],_,_=>rfl
 |t::ts,v::vs,d::ds,ps,h=>by
  obtain⟨p,q,_,h2,_⟩:=h;rw[aM,aM,PN h2]
 | [],_::_,_,_,h=>by cases h
 | [],[],_::_,_,h=>by cases h
 | _::_,[],_,_,h=>by cases h
 | _::_,_::_,[],_,h=>by cases h
end
def aoO {α:Type}{l:List α}(h:l.length=1):∃a,l=[a]:=aE.1 h
def aoR {α:Type}{l:List α}{n:Nat}(h:l.length=n+1):∃a r,l=a::r/\r.length=n:=by
 cases l with
 |nil=>cases h
 |cons a r=>exact⟨a,r,rfl,by simpa using h⟩
def aoP {α:Type}{l:List α}(h:l.length=2):∃a b,l=[a,b]:=by
 obtain⟨a,r,rfl,h1⟩:=aoR h;obtain⟨b,rfl⟩:=aoO h1;exact⟨a,b,rfl⟩
variable{P:Program}{l:List (String×DataW Unit)}
def ahO {w:World}(a:(l.filter fun x=>x.2.handleName?.isSome)=[])(h:laidMetH P l w):laidMet P l w:=by
 unfold laidMetH at h;rw[a]at h;exact h
def adX {P:Program}{w:World}{n:String}{d:DataW Unit}:∀{l:List (String×DataW Unit)} {ps:List MemPlace},DataW.LaidVars P w l ps->(n,d)∈l->
  ∃g t cs a p,P.globalNamed n=some g/\(P.globals[g]?).map (·.type)=some t/\w.var? P n=some cs/\DataW.trod (fun _=>()) P w 0 (fun _=>true) false a t cs.toList=some (d,p)
 | [],_,_,h=>by cases h
 |(j,i)::l,ps,h,b=>by
  obtain⟨g,t,cs,a,p,q,h1,h2,c,e,f,_⟩:=h;cases b with
  |head=>exact⟨g,t,cs,a,p,h1,h2,c,e⟩
  |tail _ b=>exact adX f b
def aje {W:World}{name:String}{k:IntKind}{zs:List Int}{g:Nat}{t e:TypeId}{n:Nat}
  (o:P.globalNamed name=some g)(i:(P.globals[g]?).map (·.type)=some t)(r:P.underlying t=some (.array n e))(m:P.underlying e=some (.int k))(b:P.cellsOf e=1)(c:P.cellsOf t=n)
  (h:laidMet P l W)(q:(name,Lib.tabData k zs)∈l):Lib.TabIs P W name k zs:=by
 obtain⟨v,s,_⟩:=h;obtain⟨u,w,cs,j,p,d,f,a,hd⟩:=adX s q;obtain rfl:=Option.some.inj (o.symm.trans d);obtain rfl:=Option.some.inj (i.symm.trans f);unfold Lib.TabIs;rw[a,<-Lib.cells_of_tab r m b c hd]
end Go.Am
namespace Go.Tel
open Go.Am
def anw {W:World}(h:C.G W):∀b,C.low b->b<W.heap.size/\∀c T fz,W.heap[b]?=some (.cells c T fz)->∀(i:Nat) (n:Int),c[i]?≠some (.int .i64 n):=by
 intro b j;have e:Go.Proofs.Tryz.prog.globalNamed "internal/strconv.uint64pow10" =some b:=j;have a:W.var? Go.Proofs.Tryz.prog "internal/strconv.uint64pow10" =some (Go.Lib.pow10Tab.map fun z=>Value.int .u64 z).toArray:=h;unfold World.var? at a;rw[e]at a;simp only[Option.bind_some]at a;cases f:W.heap[b]? with
 |none=>rw[f]at a;cases a
 |some o=>
  rw[f]at a;refine⟨dh f,fun c T fz k i n d=> ?_⟩;cases k;simp only[Option.some.injEq]at a;subst a;rw[List.getElem?_toArray,bu]at d;cases g:Go.Lib.pow10Tab[i]? with
  |none=>rw[g]at d;cases d
  |some z=>rw[g]at d;cases d
end Go.Tel
namespace Go.Proofs.YtbefoehadfnkbaaGreatDoor
open Go.ChangeShapes Go.WideShapes Go.RowKit Go.Am
def gZ {a b:Bool}(c:a=true)(hb:b=true):(a&&b)=true:=by rw[c,hb];rfl
def own:ownKnob Tryz.prog.godebug=none:=by kernel_rfl
def laidOut:laidOutB Tryz.prog=true:=by kernel_rfl
def H6:List (String×DataW Unit):=Rows.journeymanWheelsRow.laid
def laid_met (os:Os)(args:Array Value):laidMet Tryz.prog H6 ((World.laidAll Tryz.prog os H6).forCall (fun _ _=>0) ⟨#[],args,[]⟩).memory:=
 laidMet_laidAll args (by kernel_rfl) (by kernel_rfl)
def afb (os:Os)(args:Array Value):laidMetH Tryz.prog H6 ((World.laidAll Tryz.prog os H6).forCall (fun _ _=>0) ⟨#[],args,[]⟩).memory:=
 laidMetH_of_parts (laid_met os args) (by kernel_rfl)
def ajd:(Rows.laid_internal_strconv_uint64pow10:DataW Unit)=Lib.tabData .u64 Lib.pow10Tab:=rfl
def alC:("internal/strconv.uint64pow10",(Rows.laid_internal_strconv_uint64pow10:DataW Unit))∈H6:=List.Mem.tail _ (List.Mem.tail _ (List.Mem.head _))
def anR {W:World}(h:laidMetH Tryz.prog H6 W):Go.Tel.C.G W:=
 aje (P:=Tryz.prog) (g:=1) (t:=390) (e:=372) (n:=20) (by kernel_rfl) (by kernel_rfl) (by kernel_rfl) (by kernel_rfl) (by kernel_rfl) (by kernel_rfl) (ahO (by kernel_rfl) h) (ajd▸alC)
end Go.Proofs.YtbefoehadfnkbaaGreatDoor
