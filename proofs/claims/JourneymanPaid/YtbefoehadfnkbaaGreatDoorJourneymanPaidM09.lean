/-
  Part 9 of a law of desks.
  Conditions: none.
-/
import Derived.Test.YtbefoehadfnkbaaGreatDoorJourneymanPaidM07
import Derived.Test.YtbefoehadfnkbaaGreatDoorJourneymanPaidM08
import Derived.Test.YtbefoehadfnkbaaGreatDoorRows
import Derived.Lay
import Derived.Handed
import Derived.LaidHandle
import Derived.Lib.LaidTab
set_option linter.all false
set_option maxRecDepth 10000
set_option maxHeartbeats 4000000
open Nat renaming reduceBEq->F,reduceAdd->I,reduceSub->J,reduceEqDiff->O,reduceLT->Q,reduceLeDiff->S,zero_le->aq,add_assoc->aD,le_trans->aL,le_refl->bi,sub_self->bX,lt_irrefl->b7,min_eq_right->cl,min_eq_left->cv
open List renaming length_map->U,length_append->Z,getElem?_append_left->ae,getD_eq_getElem?_getD->ai,append_assoc->am,take_length->ao,getElem?_eq_some_iff->ap,length_set->av,length_cons->aw,length_take->ax,getElem?_set_self->az,getElem?_concat_length->aE,getElem?_append_right->aM,mem_range->aR,getElem?_eq_none->a1,length_filter_le->a6,mem_cons->a7,all_eq_true->a8,append_nil->bc,length_nil->bd,map_append->be,getElem?_map->bh,filter_cons->bj,getElem?_range->bk,mem_filter->bp,filter_append->bq,take_of_length_le->bt,getElem?_set_ne->bu,mem_of_mem_take->bv,range'->bw,filter_nil->bz,getD_cons_zero->bB,map_congr_left->bE,ext_getElem?->bL,filter_congr->bN,map_cons->bO,drop_length->bR,mem_map->bS,length_singleton->b3,replicate->b4,getD_cons_succ->b5,map_take->b6,filter_filter->b9,mem_singleton->ca,getElem?_set->cb,map_nil->cf,map_set->cg,mem_flatMap->cj,not_mem_nil->ck,mem_append->cq,nil_append->cr,range_succ->ct,range->cz,all_cons->cC,all_nil->cD,map_map->cE,map->cH,set->cI
open Int renaming toNat_natCast->V,lt_irrefl->an,le_refl->cF
open Bool renaming and_eq_true->Y,false_and->ab,true_and->bl,false_eq_true->b8,not_eq_true->ch,eq_iff_iff->cp,not_false->cw,false_or->cA,not_true->cB
open Option renaming isSome_iff_exists->bo,map_none->bA,map_some->b0,bind_some->cm,getD_some->cn
open And renaming intro->cG
open Go.IntKind renaming wrap->cJ
namespace Go.Am
def aiz {C:Ctx}{M:Mem}{K:PV->Mem->Prop}{base:Nat}{KP:DV->Mem->Prop}{f:FuncId}{args:List PV}{ds ds':List DV}{x:DV}(h1:dF M args=some ds)(h2:ds.map DV.strip=ds')(b:Pure C f ds' (.d x) [])(a:∀M',K (.d x) M'):au C base (.rZ f) args M K KP:=
 ⟨ds,h1, .d x,[],h2▸b, .inr ⟨fun A h=>(by cases h),a _⟩⟩
end Go.Am
namespace Go.Tel
open Go.Am
def zI (l:List Int)(n:Int):(dH l n).1.length<=l.length:=by
 unfold dH
 split
 ·exact List.length_erase_le
 ·exact bi _
def afz (l:List Int)(c f:Pr)(k:l.length<=900):Pure C 224 [sF (l.map ay),c.dv,f.dv] (.d (.tup [sF ((gY l c f).1.map ay), .bool (gY l c f).2])) []:=by
 have m:=zI l f.a;have n:=zI l f.b;have o:=zI (dH l f.a).1 f.b;refine ah mixed rfl Ud ?_;rw[jJ,jJ];simp only[GK,QB,RN,F,I,J,O,Q,S]
 by_cases h:c.a=f.a
 ·have j:(c.a !=f.a)=false:=by simp[h]
  by_cases g:c.b=f.b
  ·have i:(c.b !=f.b)=false:=by simp[g]
   have e:gY l c f=(l,true):=by simp[gY,h,g]
   rw[e];simp only[j,i,RN,F,I,J,O,Q,S]
  ·have i:(c.b !=f.b)=true:=by simp[g]
   have e:gY l c f=(oM (dH l f.b).1 c.b,(dH l f.b).2):=by simp[gY,h,g]
   rw[e];simp only[j,i,RN,F,I,J,O,Q,S];refine ak rfl rfl (Ns l f.b (by omega)) ?_;(try simp only[RN,F,I,J,O,Q,S]);refine ak rfl rfl (G5 _ _ (by omega)) ?_;(try simp only[RN,F,I,J,O,Q,S])
 ·have j:(c.a !=f.a)=true:=by simp[h]
  by_cases g:c.b=f.b
  ·have i:(c.b !=f.b)=false:=by simp[g]
   have e:gY l c f=(oM (dH l f.a).1 c.a,(dH l f.a).2):=by simp[gY,h,g]
   rw[e];simp only[j,i,RN,F,I,J,O,Q,S];refine ak rfl rfl (Ns l f.a (by omega)) ?_;cases h1:(dH l f.a).2
   ·(try simp only[RN,F,I,J,O,Q,S])
    refine ak rfl rfl (G5 _ _ (by omega)) ?_;(try simp only[RN,F,I,J,O,Q,S])
   ·(try simp only[RN,F,I,J,O,Q,S])
    refine ak rfl rfl (G5 _ _ (by omega)) ?_;(try simp only[RN,F,I,J,O,Q,S])
  ·have i:(c.b !=f.b)=true:=by simp[g]
   simp only[j,i,RN,F,I,J,O,Q,S];refine ak rfl rfl (Ns l f.a (by omega)) ?_;cases h1:(dH l f.a).2
   ·have e:gY l c f=(oM (oM (dH l f.a).1 c.a) c.b,false):=by simp[gY,h,g,h1]
    rw[e];(try simp only[RN,F,I,J,O,Q,S]);refine ak rfl rfl (G5 _ _ (by omega)) ?_;(try simp only[RN,F,I,J,O,Q,S]);refine ak rfl rfl (G5 _ _ (by rw[GY];omega)) ?_;(try simp only[RN,F,I,J,O,Q,S])
   ·have e:gY l c f=(oM (oM (dH (dH l f.a).1 f.b).1 c.a) c.b,(dH (dH l f.a).1 f.b).2):=by simp[gY,h,g,h1]
    rw[e];(try simp only[RN,F,I,J,O,Q,S]);refine ak rfl rfl (Ns _ f.b (by omega)) ?_;(try simp only[RN,F,I,J,O,Q,S]);refine ak rfl rfl (G5 _ _ (by omega)) ?_;(try simp only[RN,F,I,J,O,Q,S]);refine ak rfl rfl (G5 _ _ (by rw[GY];omega)) ?_;(try simp only[RN,F,I,J,O,Q,S])
def ah1 (l:List Int)(a b:Pr):(gY l a b).1.length<=l.length+2:=by
 have h1:(if a.a≠b.a then dH l b.a else(l,true)).1.length<=l.length:=by split;exact zI _ _;exact bi _
 unfold gY;simp only;generalize (if a.a≠b.a then dH l b.a else(l,true))=r1 at h1;have h2:(if r1.2=true/\a.b≠b.b then dH r1.1 b.b else r1).1.length<=l.length:=by
  split
  ·exact aL (zI _ _) h1
  ·exact h1
 generalize (if r1.2=true/\a.b≠b.b then dH r1.1 b.b else r1)=r2 at h2;have c:(if a.a≠b.a then oM r2.1 a.a else r2.1).length<=l.length+1:=by
  split
  ·rw[GY];omega
  ·omega
 split
 ·rw[GY];omega
 ·omega
def KL (s:Su)(l:List En):(iI s l).length<=2*l.length:=by
 induction l using uH with
 |h0=>simp[iI]
 |h1 l x a=>
  rw[gX,Z,b3]
  split
  ·rw[GY];omega
  ·split
   ·have:=ah1 (iI s l) (jH (dG s l) x) x.chg.pr;omega
   ·omega
variable{s:Su}
def ach {l:List En}(hl:∀x∈l,x.Fit s)(i:Nat):∀x∈l.take i,x.Fit s:=fun x a=>hl x (bv a)
def stE (l:List En):Bool:=l.all fun x=>x.kind !=1&&x.kind !=2
def alf (l:List En)(x:En):stE (l++ [x])=(stE l&&(x.kind !=1&&x.kind !=2)):=by simp[stE]
def aky (s:Su)(hs:s.ok=true)(l:List En)(hl:∀x∈l,x.Fit s)(B:l.length<=400):Pure C 222 [s.dv,sF (l.map En.dv)] (.d (.slice (stE l) ((iI s l).map ay))) []:=by
 have y:=fun i=>UM s hs (l.take i) (ach hl i) (by rw[ax];omega)
 have o:=fun i (x:En)=>afz (iI s (l.take i)) (jH (dG s (l.take i)) x) x.chg.pr (by have:=KL s (l.take i);rw[ax]at this;omega)
 simp only[dZ,gU,jJ]at y o;refine ah mixed rfl YS ?_;rw[gU];simp only[MW,aJ,U,RN,F,I,J,O,Q,S];refine aH l.length (fun i (_:Unit)=>⟨[(1, .d (sF (l.map En.dv))),(2, .d (.aW s.cs)),(5, .d (.slice (stE (l.take i)) ((iI s (l.take i)).map ay))),(6,pI i)],⟨[some (s.cs.map .d)],[0],[]⟩⟩)
  (fun i _=>True) 0 () (aq _) rfl trivial (fun i _ e _=> ?_) (fun _ _=> ?_)
 ·obtain⟨j,k,t⟩:=rng e (by omega)
  have v:=hl _ (getD_mem e);have c:=Dz v;have u:=KL s (l.take i);rw[ax]at u;have a:=gX s (l.take i) (l.getD i default);rw[<-aS e]at a;have f:=alf (l.take i) (l.getD i default);rw[<-aS e]at f;obtain⟨x,b⟩:∃x,x=l.getD i default:=⟨_,rfl⟩
  rw[<-b]at v c a f;simp only[j,k,e,getD_map,<-b,dM,V,U,RN,F,I,J,O,Q,S]
  by_cases h:x.kind=1
  ·have z1:(x.kind==1)=true:=by simp[h]
   have p:(x.kind==2)=false:=by simp[h]
   have w:0<x.ns.length:=by rw[c,h];decide
   rw[if_pos h]at a;simp only[z1,j,k,e,getD_map,<-b,dM,V,U,j0,t0,w,aI,RN,F,I,J,O,Q,S];refine ak rfl rfl (G5 (iI s (l.take i)) (x.n 0) (by omega)) ?_;simp only[p,j,k,e,getD_map,<-b,dM,V,U,t,RN,F,I,J,O,Q,S];exact bn () e (by rw[a,f];simp[h]) trivial
  have z1:(x.kind==1)=false:=beq_false_of_ne h;rw[if_neg h]at a
  by_cases g:x.kind=2
  ·have p:(x.kind==2)=true:=by simp[g]
   have w:0<x.ns.length:=by rw[c,g];decide
   have m:=akw x (by rw[c,g];decide);rw[dM]at m;obtain⟨⟨z,A⟩,_⟩:=BJ v g;have q:(0:Int)<=x.ns.getD 0 default:=z;have r:(x.ns.getD 0 default).toNat<(dG s (l.take i)).links.length:=by rw[(oL _ _).1];exact A
   rw[if_pos g]at a;have D:(0:Int)<=(i:Int):=by omega
   have E:(i:Int)<=((l.map En.dv).length:Int):=by rw[U];omega
   simp only[z1,p,uS,j,k,e,getD_map,<-b,dM,V,U,RN,F,I,J,O,Q,S];rw[yN (ai7 l) D E,<-b6,V];(try simp only[RN,F,I,J,O,Q,S]);refine ak rfl rfl (y i) ?_;simp only[j,k,e,getD_map,<-b,dM,nI,V,U,j0,t0,w,aI,q,r,RN,F,I,J,O,Q,S];refine ak rfl rfl m ?_;(try simp only[RN,F,I,J,O,Q,S]);refine ak rfl rfl (o i x) ?_;simp only[t,RN,F,I,J,O,Q,S];exact bn () e (by rw[a,f];simp[g]) trivial
  ·have p:(x.kind==2)=false:=beq_false_of_ne g
   rw[if_neg g]at a;simp only[z1,p,j,k,e,getD_map,<-b,dM,V,U,t,RN,F,I,J,O,Q,S];exact bn () e (by rw[a,f];simp[h,g]) trivial
 ·simp only[an,U,RN,F,I,J,O,Q,S]
  rw[ao]
def aku (l:List En)(h:Int)(hl:∀x∈l,x.ns.length=jc x.kind)(y:l.length<=1000):Pure C 226 [sF (l.map En.dv),dI h] (.d (.tup [(dA l h).1.dv, .bool (dA l h).2])) []:=by
 refine ah mixed rfl YO ?_;rw[bW];simp only[MQ,akZ,U,RN,F,I,J,O,Q,S];refine aH l.length (fun i (_:Unit)=>⟨[(0, .d (sF (l.map En.dv))),(1,pI h),(4, .ptr 0 0),(6, .ptr 1 0),(7, .d (.bool (dA (l.take i) h).2)),(8,pI i)],
   ⟨[some [pI 0,pI 0],some [.d (dI (dA (l.take i) h).1.n), .d (dI (dA (l.take i) h).1.d)]],[],[]⟩⟩)
  (fun i _=>True) 0 () (aq _) rfl trivial (fun i _ c _=> ?_) (fun _ _=> ?_)
 ·obtain⟨k,m,r⟩:=rng c (by omega)
  have e:=hl _ (getD_mem c);have a:dA (l.take (i+1)) h=lM h (dA (l.take i) h) (l.getD i default):=by rw[aS c,nR]
  obtain⟨x,b⟩:∃x,x=l.getD i default:=⟨_,rfl⟩
  rw[<-b]at e a;have z:(0:Int)<=1:=by omega
  have A:(0:Int)<=2:=by omega
  have s:x.n 0=x.ns.getD 0 default:=rfl;simp only[k,m,c,getD_map,<-b,dM,V,U,RN,F,I,J,O,Q,S]
  by_cases o:x.kind=3
  ·have p:(x.kind==3)=true:=by simp[o]
   have g:(x.kind==4)=false:=by simp[o]
   have w:x.ns.length=3:=by rw[e,o];rfl
   have u:0<x.ns.length:=by omega
   have l1:1<x.ns.length:=by omega
   have l2:2<x.ns.length:=by omega
   by_cases f:x.n 0=h
   ·have j:(x.ns.getD 0 default==h)=true:=by rw[<-s,f];exact beq_self_eq_true _
    rw[lM,if_pos ⟨o,f⟩]at a;simp only[p,j,g,k,m,c,getD_map,<-b,dM,V,U,j0,t0,u,z,t1,l1,A,t2,l2,aI,r,RN,F,I,J,O,Q,S];exact bn () c (by rw[a];rfl) trivial
   ·have j:(x.ns.getD 0 default==h)=false:=beq_false_of_ne f
    rw[lM,if_neg (fun q=>f q.2),if_neg (by omega)]at a;simp only[p,j,g,k,m,c,getD_map,<-b,dM,V,U,j0,t0,u,aI,r,RN,F,I,J,O,Q,S];exact bn () c (by rw[a]) trivial
  have p:(x.kind==3)=false:=beq_false_of_ne o
  by_cases t:x.kind=4
  ·have g:(x.kind==4)=true:=by simp[t]
   have v:x.ns.length=2:=by rw[e,t];rfl
   have u:0<x.ns.length:=by omega
   by_cases f:x.n 0=h
   ·have j:(x.ns.getD 0 default==h)=true:=by rw[<-s,f];exact beq_self_eq_true _
    rw[lM,if_neg (by omega),if_pos ⟨t,f⟩]at a;simp only[p,j,g,k,m,c,getD_map,<-b,dM,V,U,j0,t0,u,aI,r,RN,F,I,J,O,Q,S];exact bn () c (by rw[a]) trivial
   ·have j:(x.ns.getD 0 default==h)=false:=beq_false_of_ne f
    rw[lM,if_neg (by omega),if_neg (fun q=>f q.2)]at a;simp only[p,j,g,k,m,c,getD_map,<-b,dM,V,U,j0,t0,u,aI,r,RN,F,I,J,O,Q,S];exact bn () c (by rw[a]) trivial
  ·have g:(x.kind==4)=false:=beq_false_of_ne t
   rw[lM,if_neg (fun q=>o q.1),if_neg (fun q=>t q.1)]at a;simp only[p,g,k,m,c,getD_map,<-b,dM,V,U,r,RN,F,I,J,O,Q,S];exact bn () c (by rw[a]) trivial
 ·simp only[an,U,RN,F,I,J,O,Q,S]
  rw[ao]
def akB (p:Pc)(e:p.ok=true)(h:Int)(d:0<=h)(h1:h.toNat<p.hands.length)(f:Fr)(hf:f.ok=true)(t:Int)(i:0<=t/\t<=10000):Pure C 227 [p.dv,dI h,f.dv,dI t] (pI (aj6 p h f t)) []:=by
 have g:=Pc.good e;have j:=g.hd _ (getD_mem h1);have b:=UN p g.lk (by have:=g.l2;omega) (a:=(p.hands.getD h.toNat default).toNat) (by omega);rw[show(((p.hands.getD h.toNat default).toNat:Nat):Int)=p.hands.getD h.toNat default by omega]at b;have c:=apR (bg p.links (p.hands.getD h.toNat default).toNat) f t (by rw[bg,U];exact g.short _ (by omega)) (yG g.lk g.pr (by omega)) hf i;refine ah mixed rfl YX ?_;rw[dZ]at b⊢;rw[bW]at c⊢;simp only[Nc,Bz,d,h1,getD_map,aI,U,RN,F,I,J,O,Q,S];refine ak rfl rfl b ?_;(try simp only[RN,F,I,J,O,Q,S]);refine ak rfl rfl c ?_;(try simp only[RN,F,I,J,O,Q,S])
 rfl
def aer (s:Su)(hs:s.ok=true)(p:Pc)(D:p.ok=true)(h:Int)(B:0<=h)(h1:h.toNat<p.hands.length):Pure C 136 [s.dv,p.dv,dI h] (pI (UG s p h)) []:=by
 have g:=Pc.good D;have K:=g.hd _ (getD_mem h1);have m:=UN p g.lk (by have:=g.l2;omega) (a:=(p.hands.getD h.toNat default).toNat) (by omega);rw[show(((p.hands.getD h.toNat default).toNat:Nat):Int)=p.hands.getD h.toNat default by omega]at m;obtain⟨t,e⟩:∃t,t=bg p.links (p.hands.getD h.toNat default).toNat:=⟨_,rfl⟩
 have G:t.length<=3:=by rw[e,bg,U];exact g.short _ (by omega)
 have v:∀q∈t,q.ok=true:=by rw[e];exact yG g.lk g.pr (by omega)
 have r:UG s p h=(s.bil (cZ t)).price:=by rw[e];rfl
 rw[<-e]at m;have c:=(Su.facts hs).2.2.2.2.2.2.2.2.1;have o:(s.bil (cZ t)).ok=true:=by
  simp only[Bil.ok,Su.bil,Y]at c⊢;refine⟨⟨⟨⟨⟨?_,c.1.1.1.1.2⟩,c.1.1.1.2⟩,c.1.1.2⟩,c.1.2⟩,c.2⟩;simp only[qY,Y,decide_eq_true_eq,a8];refine⟨by rw[qp];omega,fun x k=> ?_⟩;simp only[cZ,cj]at k;obtain⟨q,E,k⟩:=k;have:=v q E;simp only[Pr.ok,Y]at this;simp only[a7,ck,or_false]at k
  rcases k with rfl|rfl
  ·exact this.1
  ·exact this.2
 have j:=ahE _ o;rw[JI,<-r]at j;have f:=afA s (cZ t) false;refine ah mixed rfl YQ ?_;rw[gU]at f⊢;rw[dZ]at m⊢;simp only[MS,jr,B,h1,getD_map,aI,U,RN,F,I,J,O,Q,S];refine ak rfl rfl m ?_;simp only[U,RN,F,I,J,O,Q,S];refine aH t.length (fun i (_:Unit)=>⟨[(3, .d (.aW s.cs)),(7, .tsl 0 i 0),(8, .d (sF (t.map Pr.dv))),(9,pI i)],
   ⟨[some (s.cs.map .d),some [.d (sF (p.links.map Lk.dv)), .d (sF (p.hands.map ay))]],[1,0],[some ⟨1,(cZ (t.take i)).map ay,i,0⟩]⟩⟩)
  (fun i _=>True) 0 () (aq _) rfl trivial (fun i _ l _=> ?_) (fun _ _=> ?_)
 ·obtain⟨w,z,A⟩:=rng l (by omega)
  have u:(cZ (t.take i)).map ay++ [dI (t.getD i default).a,dI (t.getD i default).b]=(cZ (t.take (i+1))).map ay:=by
   rw[aS l];simp[cZ,ay]
  have n:((cZ (t.take i)).map ay).length<=2000000:=by simp only[U,qp,ax];omega
  simp only[w,z,l,U,getD_map,V,jJ,Lh,RN,F,I,J,O,Q,S];refine⟨by rintro y (rfl|rfl)<;>rfl,by simp,?_⟩
  (repeat(refine cG (by first|assumption|rfl|(simp;done)|(simp;omega)) ?_))
  refine⟨by simpa using aL n (by decide),?_⟩;rw[u,A];exact iQ () l rfl trivial (by simp) (by simp) rfl rfl
 ·rw[ao]
  simp only[an,U,uS,RN,F,I,J,O,Q,S];refine aiz (ds:=[.agg s.cs,sF ((cZ t).map ay)]) (by rw[uS];simp[dF,datum,Mem.row]) (by rw[uS];rfl) f fun H=> ?_
  (try simp only[RN,F,I,J,O,Q,S]);refine ak rfl rfl j ?_;(try simp only[RN,F,I,J,O,Q,S])
def ny (D:Dk)(i:Nat):Bool:=decide ((D.es.getD i default).kind≠6)&& !D.st.getD i default
def iH (D:Dk):List Nat:=(cz D.es.length).filter (ny D)
def bC (D:Dk)(w:Int):List En:=((iH D).filter fun(i:Nat)=>decide ((i:Int)≠w)).map fun i=>D.es.getD i default
def Vm:∀(es:List En) (st:List Bool) (i:Nat),es.length=st.length->kJ es st i=((bw i es.length).filter fun j=>decide ((es.getD (j - i) default).kind≠6)&& !st.getD (j - i) default).map fun j=>(j,(es.getD (j - i) default).deed)
 | [],[],_,_=>rfl
 | [],_::_,_,h=>by simp at h
 | _::_,[],_,h=>by simp at h
 |x::es,b::st,i,h=>by
  have g:=Vm es st (i+1) (by simpa using h);rw[kJ,g,aw,List.range'_succ,bj];have e:∀j∈bw (i+1) es.length,(decide (((x::es).getD (j - i) default).kind≠6)&& !(b::st).getD (j - i) default)=(decide ((es.getD (j - (i+1)) default).kind≠6)&& !st.getD (j - (i+1)) default)/\(x::es).getD (j - i) default=es.getD (j - (i+1)) default:=fun j a=>by
   have:=(List.mem_range'_1.1 a).1;rw[show j - i=(j - (i+1))+1 by omega,b5,b5];exact⟨rfl,rfl⟩
  have f:(bw (i+1) es.length).filter (fun j=>decide (((x::es).getD (j - i) default).kind≠6)&& !(b::st).getD (j - i) default)=(bw (i+1) es.length).filter (fun j=>decide ((es.getD (j - (i+1)) default).kind≠6)&& !st.getD (j - (i+1)) default):=bN fun j a=>(e j a).1
  have c:((bw (i+1) es.length).filter (fun j=>decide ((es.getD (j - (i+1)) default).kind≠6)&& !st.getD (j - (i+1)) default)).map (fun j=>(j,((x::es).getD (j - i) default).deed))=((bw (i+1) es.length).filter (fun j=>decide ((es.getD (j - (i+1)) default).kind≠6)&& !st.getD (j - (i+1)) default)).map (fun j=>(j,(es.getD (j - (i+1)) default).deed)):=bE fun j a=>by rw[(e j (bp.1 a).1).2]
  rw[f,bX,bB,bB]
  by_cases d:x.kind=6
  ·simp only[d,ne_eq,not_true_eq_false,false_and,if_false,decide_false,ab,b8]
   exact c.symm
  ·cases b
   ·simp only[d,ne_eq,not_false_eq_true,and_self,if_true,decide_true,bl,cw,bO,c,bX,bB]
   ·simp only[d,ne_eq,not_false_eq_true,Bool.true_eq_false,and_false,if_false,decide_true,bl,cB,b8]
    exact c.symm
variable{D:Dk}
def ahY (h:D.es.length=D.st.length):D.stands=(iH D).map fun i=>(i,(D.es.getD i default).deed):=by
 rw[Dk.stands,Vm _ _ _ h,iH,List.range_eq_range']
 rfl
def zJ (h:D.es.length=D.st.length)(w:Int):D.without w=(bC D w).map En.deed:=by
 rw[Dk.without,ahY h,bC,List.filter_map,cE,cE]
 rfl
def KF (s:Su)(x:En):Bool:=
 if x.kind=1 then aT (x.n 0)
 else if x.kind=2 then decide (x.n 0<(s.pc.links.length:Int))&&aT (x.n 1)&&aT (x.n 2)
 else if x.kind=3 then inR (x.n 0) 0 ((s.pc.hands.length:Int) - 1)&&decide (x.n 2>0)
 else if x.kind=4 then inR (x.n 0) 0 ((s.pc.hands.length:Int) - 1)
 else inR (x.n 0) 1 (wH (s.cal.leap s.year))
def xI (D:Dk)(x:En):Int:=
 if x.formed=false then 2 else if D.es.length>=24 then 3
 else if x.kind=6 then(if x.n 0>=(D.es.length:Int)\/(D.es.getD (x.n 0).toNat default).kind=6 then 2 else if D.st.getD (x.n 0).toNat default=true\/mJ D.su (bC D (x.n 0))=false then 7 else 0)
 else if KF D.su x=false then 2 else if qh D.su (bC D (-1)) x=false then 7 else 0
structure Dk.Live (D:Dk):Prop where
 ok:D.Ok
 fit:∀x∈D.es,x.kind≠6->x.Fit D.su
 live:(D.state (-1)).isSome=true
variable{w:Int}
def acd:D.state w=pX D.su (D.without w) D.su.sp0:=rfl
def aiX (s:Su):(s.days.length:Int)=wH (s.cal.leap s.year):=by
 have:=mY (s.cal.leap s.year);have e:s.days.length=s.dur:=by simp[Su.days,Su.pJ]
 rw[e,Su.dur,this]
 split<;>rfl
variable{x:En}
def En.anZ (h:x.kind=6):x.deed= .strike (x.n 0):=by simp[En.deed,h]
def Eo (hf:x.formed=true)(k:x.kind≠6):KF D.su x=D.gB x.deed:=by
 have l:=En.BL hf;have c:=fun h=>yO hf (i:=0) h
 have f:0<jc x.kind:=by unfold jc;split;omega;split<;>omega
 have c:=c f;unfold KF
 by_cases a:x.kind=1
 ·rw[if_pos a,En.deed1 a];rfl
 by_cases d:x.kind=2
 ·rw[if_neg a,if_pos d,En.deed2 d]
  simp only[Dk.gB,Pr.ok,En.chg,Bool.and_assoc]
  congr 1
  rw[cp];simp only[inR,Y,decide_eq_true_eq];omega
 by_cases b:x.kind=3
 ·have g:=yO hf (i:=1) (by simp[jc,b])
  have j:=yO hf (i:=2) (by simp[jc,b]);rw[if_neg a,if_neg d,if_pos b,En.deed3 b];simp only[Dk.gB,Fr.ok]
  congr 1
  rw[cp];simp only[inR,Y,decide_eq_true_eq];omega
 by_cases e:x.kind=4
 ·rw[if_neg a,if_neg d,if_neg b,if_pos e,En.deed4 e];rfl
 ·rw[if_neg a,if_neg d,if_neg b,if_neg e,En.Pq (by omega)]
  simp only[Dk.gB,aiX]
def Yc (hf:x.formed=true)(a:x.kind≠6)(hb:D.gB x.deed=true):x.Fit D.su:=
 {fm:=hf,k6:=a
  te:=fun k=>by rw[En.deed1 k]at hb;exact hb
  hd:=fun k=>by
   have:inR (x.n 0) 0 ((D.su.pc.hands.length:Int) - 1)=true:=by
    rcases k with k|k
    ·rw[En.deed3 k]at hb;simp only[Dk.gB,Y]at hb;exact hb.1
    ·rw[En.deed4 k]at hb;exact hb
   simp only[inR,Y,decide_eq_true_eq]at this;omega
  fr:=fun k=>by rw[En.deed3 k]at hb;simp only[Dk.gB,Y]at hb;exact hb.2
  df:=Yb hf hb}
def iY (h:x∈bC D w):x∈D.es/\x.kind≠6:=by
 simp only[bC,bS,bp,iH,aR,ny,Y,decide_eq_true_eq]at h;obtain⟨i,⟨⟨a,h1,_⟩,_⟩,rfl⟩:=h;exact⟨getD_mem a,h1⟩
def Dk.Live.all (h:D.Live)(w:Int):mJ D.su (bC D w)=(D.state w).isSome/\∀t,D.state w=some t->Rel D.su (bC D w) t/\zK D.su (bC D w).length t:=by
 have:=anf h.ok.su (bC D w) fun x a=>h.fit x (iY a).1 (iY a).2
 rwa [<-zJ h.ok.len]at this
def ab9 (h:D.es.length=D.st.length)(x:En):iH {D with es:=D.es++ [x],st:=D.st++ [false]}=iH D++if x.kind=6 then[]else[D.es.length]:=by
 have e:(ny {D with es:=D.es++ [x],st:=D.st++ [false]} D.es.length)=decide (x.kind≠6):=by
  simp only[ny,ai,aE,cn];rw[h,aE];simp
 simp only[iH,Z,b3,ct,bq]
 congr 1
 ·refine bN fun i a=> ?_
  have a:=aR.1 a;simp only[ny,ai,ae a,ae (show i<D.st.length by omega)]
 ·rw[bj,e,bz]
  by_cases b:x.kind=6<;>simp[b]
def Ju (h:D.es.length=D.st.length)(x:En):bC {D with es:=D.es++ [x],st:=D.st++ [false]} (-1)=bC D (-1)++if x.kind=6 then[]else[x]:=by
 unfold bC;rw[ab9 h,bq,be]
 congr 1
 ·refine bE fun i a=> ?_
  have a:=(bp.1 a).1;have a:=aR.1 (bp.1 a).1;simp only[ai,ae a]
 ·by_cases b:x.kind=6
  ·simp[b]
  ·rw[if_neg b,if_neg b,bj,if_pos (by simp),bz]
   simp[ai]
def Wj (h:D.es.length=D.st.length){n:Nat}:iH {D with st:=D.st.set n true}=(iH D).filter fun(i:Nat)=>decide ((i:Int)≠(n:Int)):=by
 simp only[iH,b9];refine bN fun i a=> ?_
 have a:=aR.1 a;simp only[ny,ai,cb]
 by_cases e:n=i
 ·subst e
  simp[show n<D.st.length by omega]
 ·have b:¬(i:Int)=(n:Int):=by omega
  simp[e,b]
def Rh (h:D.es.length=D.st.length){n:Nat}:bC {D with st:=D.st.set n true} (-1)=bC D n:=by
 unfold bC;rw[Wj h,b9]
 congr 1
def alz (hf:x.formed=true)(a:x.kind≠6):D.with x={D with es:=D.es++ [x],st:=D.st++ [false]}:=by
 have b:=En.BL hf
 rcases(show x.kind=1\/x.kind=2\/x.kind=3\/x.kind=4\/x.kind=5 by omega)with k|k|k|k|k
 ·unfold Dk.with;rw[En.deed1 k];rfl
 ·unfold Dk.with;rw[En.deed2 k];rfl
 ·unfold Dk.with;rw[En.deed3 k];rfl
 ·unfold Dk.with;rw[En.deed4 k];rfl
 ·unfold Dk.with;rw[En.Pq k];rfl
def QL (a:x.kind=6):D.with x={D with es:=D.es++ [x],st:=D.st.set (x.n 0).toNat true++ [false]}:=by
 unfold Dk.with;rw[En.anZ a];rfl
def WT (h:D.Live)(hf:x.formed=true)(c:x.kind≠6)(hb:D.gB x.deed=true):D.goes x.deed=qh D.su (bC D (-1)) x:=by
 obtain⟨t,a⟩:=bo.1 h.live;obtain⟨e,d⟩:=(h.all (-1)).2 t a;have f:=Yc hf c hb;have:=UW h.ok.su e d (fun k=>L6 _ k fun y b=>h.fit y (iY b).1 (iY b).2) f;have g:=En.BL hf;rw[this]
 rcases(show x.kind=1\/x.kind=2\/x.kind=3\/x.kind=4\/x.kind=5 by omega)with k|k|k|k|k
 ·rw[En.deed1 k];simp only[Dk.goes,a]
 ·rw[En.deed2 k];simp only[Dk.goes,a]
 ·rw[En.deed3 k];simp only[Dk.goes,a]
 ·rw[En.deed4 k];simp only[Dk.goes,a]
 ·rw[En.Pq k];simp only[Dk.goes,a]
def H7 (h:D.Live)(x:En):D.enter x=(if xI D x=0 then D.with x else D,xI D x):=by
 have k:=h.ok.len;have j:=h.ok.few;unfold Dk.enter xI
 by_cases f:x.formed=false
 ·simp[f]
 by_cases c:D.es.length=24
 ·simp[f,c]
 have ars:¬D.es.length>=24:=by omega
 have a:x.formed=true:=by simpa using f
 rw[if_neg f,if_neg c,if_neg f,if_neg ars]
 by_cases b:x.kind=6
 ·rw[if_pos b,En.anZ b]
  have l:=yO a (i:=0) (by rw[b];decide)
  by_cases hc:x.n 0>=(D.es.length:Int)\/(D.es.getD (x.n 0).toNat default).kind=6
  ·have d:D.gB (.strike (x.n 0))=false:=by
    rw[<-ch];simp only[Dk.gB,inR,Y,decide_eq_true_eq];rintro⟨h1,h2⟩
    rcases hc with hc|hc
    ·omega
    ·exact h2 hc
   rw[if_pos d,if_pos hc];rfl
  ·have d:¬D.gB (.strike (x.n 0))=false:=by
    rw[Bool.not_eq_false];simp only[Dk.gB,inR,Y,decide_eq_true_eq];refine⟨by omega,fun e=>hc (.inr e)⟩
   rw[if_neg d,if_neg hc];have g:=(h.all (x.n 0)).1;simp only[Dk.goes,<-g];cases D.st.getD (x.n 0).toNat default<;>cases mJ D.su (bC D (x.n 0))<;>simp
 ·rw[if_neg b,Eo a b]
  cases d:D.gB x.deed
  ·rfl
  ·rw[WT h a b d]
   cases qh D.su (bC D (-1)) x<;>rfl
def adb (h:D.Live)(x:En):(D.enter x).1.Live:=by
 have b:=aac h.ok x;have j:=h.ok.len;rw[H7 h]at b⊢;simp only at b⊢
 split
 ·rename_i a
  rw[if_pos a]at b;have d:x.formed=true:=by cases e:x.formed with
   |true=>rfl
   |false=>unfold xI at a;rw[if_pos e]at a;cases a
  have m:¬D.es.length>=24:=fun e=>by unfold xI at a;rw[if_neg (by simp[d]),if_pos e]at a;cases a
  unfold xI at a;rw[if_neg (by simp[d]),if_neg m]at a
  by_cases c:x.kind=6
  ·rw[if_pos c]at a
   rw[QL c]at b⊢
   by_cases q:x.n 0>=(D.es.length:Int)\/(D.es.getD (x.n 0).toNat default).kind=6
   ·rw[if_pos q]at a;cases a
   rw[if_neg q]at a;have w:=yO d (i:=0) (by rw[c];decide);have g:mJ D.su (bC D (x.n 0))=true:=by
    cases e:mJ D.su (bC D (x.n 0))with
    |true=>rfl
    |false=>rw[if_pos (.inr e)]at a;cases a
   refine⟨b,fun y hy f=> ?_,?_⟩
   ·rcases cq.1 hy with hy|hy
    ·exact h.fit y hy f
    ·simp only[ca]at hy;subst hy;exact absurd c f
   ·have e:bC {D with es:=D.es++ [x],st:=D.st.set (x.n 0).toNat true++ [false]} (-1)=bC D (x.n 0):=by
     have p:=Ju (D:={D with st:=D.st.set (x.n 0).toNat true}) (by simpa using j) x;rw[if_pos c,bc,Rh j]at p;rw[p]
     congr 1;omega
    rw[acd,zJ b.len,e,<-zJ j];have:=(h.all (x.n 0)).1;rw[g]at this;exact this.symm
  ·rw[if_neg c]at a
   rw[alz d c]at b⊢;have l:D.gB x.deed=true:=by
    rw[<-Eo d c];cases e:KF D.su x with
    |true=>rfl
    |false=>rw[if_pos e]at a;cases a
   have g:qh D.su (bC D (-1)) x=true:=by
    cases e:qh D.su (bC D (-1)) x with
    |true=>rfl
    |false=>rw[Eo d c,if_neg (by simp[l]),if_pos e]at a;cases a
   refine⟨b,fun y hy f=> ?_,?_⟩
   ·rcases cq.1 hy with hy|hy
    ·exact h.fit y hy f
    ·simp only[ca]at hy;subst hy;exact Yc (D:=D) d c l
   ·have e:=Ju j x
    rw[if_neg c]at e;obtain⟨t,r⟩:=bo.1 h.live;have hd:=WT h d c l;have o:pX D.su (D.without (-1)) D.su.sp0=some t:=r;rw[acd,zJ b.len,e,be,<-zJ j,bO,cf,JH];simp only[o,cm];obtain⟨u,s⟩:=(h.all (-1)).2 t r;have v:=Yc d c l;rw[<-UW h.ok.su u s (fun k=>L6 _ k fun y hy=>h.fit y (iY hy).1 (iY hy).2) v];exact g
 ·exact h
def ajW (hs:s.ok=true):Dk.Live ⟨s,[],[]⟩:=
 ⟨⟨hs,rfl,by simp,by simp,by simp⟩,by simp,rfl⟩
end Go.Tel
namespace Go.Tel
open Go.Am
def akx (s:Su)(hs:s.ok=true)(x:En)(hx:x.formed=true)(y:x.kind≠6):Pure C 132 [s.dv,x.dv] (.d (.bool (KF s x))) []:=by
 have z:=En.BL hx;have a:x.ns.length=jc x.kind:=by
  simp only[En.formed,Y,decide_eq_true_eq]at hx;exact hx.1.2
 have A:0<jc x.kind:=by unfold jc;split;omega;split<;>omega
 obtain⟨p,_⟩:=Su.facts hs;have v:=(Pc.xA p).2;have o:=am6 s (by omega);have r:=aks s hs;have e:0<x.ns.length:=by omega
 have w:(0:Int)<=1:=by omega
 have t:(0:Int)<=2:=by omega
 refine ah mixed rfl YR ?_;rw[gU,dM];rw[gU]at o r;simp only[MV,aJ,RN,F,I,J,O,Q,S];unfold KF
 by_cases h:x.kind=1
 ·have z1:(x.kind==1)=true:=by simp[h]
  rw[if_pos h];simp only[z1,j0,t0,e,U,getD_map,aI,RN,F,I,J,O,Q,S];refine ak rfl rfl (He _) ?_;(try simp only[RN,F,I,J,O,Q,S])
  rfl
 have z1:(x.kind==1)=false:=beq_false_of_ne h;rw[if_neg h]
 by_cases b:x.kind=2
 ·have f:(x.kind==2)=true:=by simp[b]
  have l1:1<x.ns.length:=by rw[a,b];decide
  have l2:2<x.ns.length:=by rw[a,b];decide
  rw[if_pos b];have l:x.n 0=x.ns.getD 0 default:=rfl;have u:x.n 1=x.ns.getD 1 default:=rfl;have m:x.n 2=x.ns.getD 2 default:=rfl;rw[l,u,m];simp only[z1,f,j0,t0,e,U,getD_map,aI,RN,F,I,J,O,Q,S]
  by_cases g:x.ns.getD 0 default<(s.pc.links.length:Int)
  ·have k:decide (x.ns.getD 0 default<(s.pc.links.length:Int))=true:=decide_eq_true g
   rw[k];simp only[g,w,t1,l1,U,getD_map,aI,RN,F,I,J,O,Q,S];refine ak rfl rfl (He _) ?_;cases h1:aT (x.ns.getD 1 default)
   ·simp only[ab,RN,F,I,J,O,Q,S]
   ·simp only[t,t2,l2,U,getD_map,aI,RN,F,I,J,O,Q,S]
    refine ak rfl rfl (He _) ?_;(try simp only[RN,F,I,J,O,Q,S])
  ·have k:decide (x.ns.getD 0 default<(s.pc.links.length:Int))=false:=decide_eq_false g
   rw[k];simp only[g,ab,RN,F,I,J,O,Q,S]
 have f:(x.kind==2)=false:=beq_false_of_ne b;rw[if_neg b]
 by_cases c:x.kind=3
 ·have j:(x.kind==3)=true:=by simp[c]
  have l2:2<x.ns.length:=by rw[a,c];decide
  rw[if_pos c];have l:x.n 0=x.ns.getD 0 default:=rfl;have m:x.n 2=x.ns.getD 2 default:=rfl;rw[l,m];simp only[z1,f,j,j0,t0,e,U,getD_map,aI,RN,F,I,J,O,Q,S];refine ak rfl rfl (o _) ?_;cases h1:inR (x.ns.getD 0 default) 0 ((s.pc.hands.length:Int) - 1)
  ·simp only[ab,RN,F,I,J,O,Q,S]
  ·simp only[t,t2,l2,U,getD_map,aI,RN,F,I,J,O,Q,S]
 have j:(x.kind==3)=false:=beq_false_of_ne c;rw[if_neg c]
 by_cases i:x.kind=4
 ·have q:(x.kind==4)=true:=by simp[i]
  rw[if_pos i];simp only[z1,f,j,q,j0,t0,e,U,getD_map,aI,RN,F,I,J,O,Q,S];refine ak rfl rfl (o _) ?_;(try simp only[RN,F,I,J,O,Q,S])
  rfl
 ·have q:(x.kind==4)=false:=beq_false_of_ne i
  rw[if_neg i];simp only[z1,f,j,q,j0,t0,e,U,getD_map,aI,RN,F,I,J,O,Q,S];refine ak rfl rfl (r _) ?_;(try simp only[RN,F,I,J,O,Q,S])
  rfl
def aoF {C:Ctx}{base:Nat}{M:Mem}{K:PV->Mem->Prop}{KP:DV->Mem->Prop}{a b c d:Int}:au C base (.Fe false [1,1]) [.d (.agg [dI a,dI b]), .d (.agg [dI c,dI d])] M K KP=K (.d (.bool ((a==c)&&(b==d)))) M:=by
 simp[au,dK]
def ab4 {p:Pc}{c:Chg}:(ni p c).length<=p.hands.length:=by
 rw[ni,U];exact aL (a6 _ _) (by simp)
def afB (s:Su)(hs:s.ok=true)(l:List En)(hl:∀x∈l,x.Fit s)(ai:l.length<=400)(x:En)(hx:x.Fit s):Pure C 133 [s.dv,sF (l.map En.dv),x.dv] (.d (.bool (qh s l x))) []:=by
 obtain⟨ap,aw,K,ac,_⟩:=Su.facts hs;have asJ:0<=s.lim/\s.lim<=10800:=by simpa[inR]using K
 have hP:=UM s hs l hl (by omega);have hS:=aky s hs l hl ai;have hO:=fun h=>aku l h (fun y hy=>Dz (hl y hy)) (by omega)
 have j:=ahv hs l hl;obtain⟨M,L⟩:=oL s l;have q:=Dz hx;have hm:0<jc x.kind:=by unfold jc;split;omega;split<;>omega
 have m:0<x.ns.length:=by omega
 have T:x.n 0=x.ns.getD 0 default:=rfl;obtain⟨p,hp⟩:∃p,p=dG s l:=⟨_,rfl⟩
 rw[<-hp]at hP j M L;refine ah mixed rfl abf ?_;simp only[bW]at hO;rw[gU]at hP hS;rw[dZ]at hP;rw[gU,dM];simp only[Qk,jr,RN,F,I,J,O,Q,S];refine ak rfl rfl hP ?_;(try simp only[RN,F,I,J,O,Q,S]);unfold qh;rw[<-hp]
 by_cases P:x.kind=1
 ·have z1:(x.kind==1)=true:=by simp[P]
  have am:1<=x.n 0:=by
   have:=hx.te P;simp only[aT,inR,Y,decide_eq_true_eq]at this;omega
  have w:=ahK s.dvd (x.n 0) ac am;rw[sZ,EI]at w;rw[if_pos P];simp only[z1,j0,t0,m,U,getD_map,aI,RN,F,I,J,O,Q,S];refine ak rfl rfl w ?_;cases hc:(s.dvd.first (x.n 0)).isSome
  ·simp only[ab,RN,F,I,J,O,Q,S]
  ·(try simp only[RN,F,I,J,O,Q,S])
   refine ak rfl rfl hS ?_;have e8:decide (((iI s l).length:Int)<8)=decide ((iI s l).length<8):=decide_eq_decide.2 (by omega);simp only[U,e8,RN,F,I,J,O,Q,S]
 have z1:(x.kind==1)=false:=beq_false_of_ne P;rw[if_neg P]
 by_cases u:x.kind=2
 ·have R:(x.kind==2)=true:=by simp[u]
  obtain⟨⟨r,W⟩,f3⟩:=BJ hx u;rw[T]at r W;have f:(x.ns.getD 0 default).toNat<p.links.length:=by rw[M];exact W
  have A:=akw x (by rw[q,u];decide);rw[dM]at A;have E:=afz (iI s l) (jH p x) x.chg.pr (by have:=KL s l;omega);rw[jJ,jJ]at E;have D:=ahF p x.chg j f3 r f;rw[dZ,sW]at D;have apu:=ab4 (p:=p) (c:=x.chg);have asY:=(Pc.xA j).2;rw[if_pos u];simp only[z1,R,j0,t0,m,U,getD_map,aI,RN,F,I,J,O,Q,S];refine ak rfl rfl A ?_;simp only[j0,t0,m,U,getD_map,aI,r,f,nI,aoF,RN,F,I,J,O,Q,S]
  by_cases H:jH p x=x.chg.pr
  ·have z:(((p.links.getD (x.ns.getD 0 default).toNat default).pr.a==x.n 1)&&((p.links.getD (x.ns.getD 0 default).toNat default).pr.b==x.n 2))=true:=by
    have h1:(jH p x).a=x.n 1:=by rw[H];rfl
    have h2:(jH p x).b=x.n 2:=by rw[H];rfl
    have h1:(p.links.getD (x.ns.getD 0 default).toNat default).pr.a=x.n 1:=h1;have h2:(p.links.getD (x.ns.getD 0 default).toNat default).pr.b=x.n 2:=h2;rw[h1,h2];simp
   simp only[z,RN,F,I,J,O,Q,S];simp[H]
  have z:(((p.links.getD (x.ns.getD 0 default).toNat default).pr.a==x.n 1)&&((p.links.getD (x.ns.getD 0 default).toNat default).pr.b==x.n 2))=false:=by
   rw[Bool.eq_false_iff];intro h;simp only[Y,beq_iff_eq]at h;apply H
   show(⟨(p.links.getD (x.ns.getD 0 default).toNat default).pr.a,(p.links.getD (x.ns.getD 0 default).toNat default).pr.b⟩:Pr)=⟨x.n 1,x.n 2⟩
   rw[h.1,h.2]
  have d1:decide (jH p x=x.chg.pr)=false:=decide_eq_false H;rw[d1];simp only[z,RN,F,I,J,O,Q,S];refine ak rfl rfl hS ?_;simp only[j0,t0,m,U,getD_map,aI,r,f,nI,RN,F,I,J,O,Q,S];refine ak rfl rfl E ?_;cases av:(gY (iI s l) (jH p x) x.chg.pr).2
  ·simp only[ab,RN,F,I,J,O,Q,S]
  (try simp only[RN,F,I,J,O,Q,S]);refine ak rfl rfl D ?_;simp only[U,RN,F,I,J,O,Q,S];refine aH (ni p x.chg).length (fun i (_:Unit)=>⟨[(1, .d (sF (l.map En.dv))),(14, .d (sF ((ni p x.chg).map ay))),(15,pI i)],
    ⟨[some (s.cs.map .d),some [pI x.kind, .d (sF (x.ns.map ay))],some [.d (sF (p.links.map Lk.dv)), .d (sF (p.hands.map ay))],some [pI (x.ns.getD 0 default),pI (x.n 1),pI (x.n 2)]],[3,2,1,0],[]⟩⟩)
   (fun i _=>((ni p x.chg).all fun h=>(dA l h).2)=(((ni p x.chg).drop i).all fun h=>(dA l h).2)) 0 () (aq _) rfl rfl (fun i _ g e=> ?_) (fun _ e=> ?_)
  ·obtain⟨X,Z,g6⟩:=rng g (by omega)
   rw[drop_cons g,cC]at e;simp only[X,Z,g,getD_map,aI,V,U,RN,F,I,J,O,Q,S];refine ak rfl rfl (hO _) ?_;cases hb:(dA l ((ni p x.chg).getD i default)).2
   ·rw[hb,ab]at e
    simp only[e,RN,F,I,J,O,Q,S]
   ·rw[hb,bl]at e
    simp only[g6,RN,F,I,J,O,Q,S];exact jv 4 0 () g rfl e (by simp) (by simp) rfl rfl
  ·rw[bR,cD]at e
   simp only[an,U,e,RN,F,I,J,O,Q,S]
 have R:(x.kind==2)=false:=beq_false_of_ne u;rw[if_neg u]
 by_cases k3:x.kind=3
 ·have z3:(x.kind==3)=true:=by simp[k3]
  rw[if_pos k3];simp only[z1,R,z3,j0,t0,m,U,getD_map,aI,RN,F,I,J,O,Q,S];refine ak rfl rfl (hO _) ?_;(try simp only[RN,F,I,J,O,Q,S])
  rfl
 have z3:(x.kind==3)=false:=beq_false_of_ne k3;rw[if_neg k3]
 by_cases v:x.kind=4
 ·have z4:(x.kind==4)=true:=by simp[v]
  obtain⟨r,W⟩:=hx.hd (.inr v);have f:(x.n 0).toNat<p.hands.length:=by rw[L];exact W
  have l1:1<x.ns.length:=by rw[q,v];decide
  have j1:(0:Int)<=1:=by omega
  have e1:x.n 1=x.ns.getD 1 default:=rfl;have B:=aer s hs p j (x.n 0) r f;rw[gU,dZ]at B;have w1:cJ .i64 (0 - s.lim)= -s.lim:=by rw[aF (by omega)];omega
  rw[if_pos v];simp only[z1,R,z3,z4,j0,t0,m,U,getD_map,aI,RN,F,I,J,O,Q,S];refine ak rfl rfl (hO _) ?_;rw[<-T];cases ho:(dA l (x.n 0)).2
  ·simp only[ab,RN,F,I,J,O,Q,S]
  have ae:=L6 l (x.n 0) hl ho;have G:=akB p j (x.n 0) r f (dA l (x.n 0)).1 ae 100 (by omega);rw[dZ,bW]at G;simp only[j0,t0,m,U,getD_map,aI,<-T,RN,F,I,J,O,Q,S];refine ak rfl rfl G ?_;simp only[w1,RN,F,I,J,O,Q,S];refine ak rfl rfl (afC _ _ _) ?_;cases hc:inR (aj6 p (x.n 0) (dA l (x.n 0)).1 100) (-s.lim) s.lim
  ·simp only[ab,RN,F,I,J,O,Q,S]
  simp only[j0,t0,m,j1,t1,l1,U,getD_map,aI,<-T,RN,F,I,J,O,Q,S];refine ak rfl rfl B ?_;(try simp only[RN,F,I,J,O,Q,S])
  rfl
 ·have z4:(x.kind==4)=false:=beq_false_of_ne v
  have k5:x.kind=5:=by have:=hx.k;omega
  have hd:=hx.df;rw[En.Pq k5]at hd;obtain⟨d1,d2⟩:=hd;have ao:=yJ s;have G:=akA s hs (x.n 0) (by omega);rw[gU]at G;rw[if_neg v];simp only[z1,R,z3,z4,j0,t0,m,U,getD_map,aI,RN,F,I,J,O,Q,S];refine aH l.length (fun i (_:Unit)=>⟨[(1, .d (sF (l.map En.dv))),(3, .d (.aW s.cs)),(7, .d (sF (x.ns.map ay))),(22,pI i)],
    ⟨[some (s.cs.map .d),some [pI x.kind, .d (sF (x.ns.map ay))],some [.d (sF (p.links.map Lk.dv)), .d (sF (p.hands.map ay))]],[2,1,0],[]⟩⟩)
   (fun i _=>(l.any fun y=>y.kind==5&&decide (y.n 0>=x.n 0))=((l.drop i).any fun y=>y.kind==5&&decide (y.n 0>=x.n 0))) 0 () (aq _) rfl rfl (fun i _ g e=> ?_) (fun _ e=> ?_)
  ·obtain⟨X,Z,g6⟩:=rng g (by omega)
   have hy:=hl _ (getD_mem g);have N:=Dz hy;rw[drop_cons g,List.any_cons]at e;obtain⟨y,t⟩:∃y,y=l.getD i default:=⟨_,rfl⟩
   rw[<-t]at e hy N;simp only[X,Z,g,getD_map,<-t,dM,V,U,RN,F,I,J,O,Q,S]
   by_cases y5:y.kind=5
   ·have zy:(y.kind==5)=true:=by simp[y5]
    have ly:0<y.ns.length:=by rw[N,y5];decide
    rw[zy,bl]at e;simp only[zy,X,Z,g,getD_map,<-t,dM,aI,V,U,j0,t0,m,ly,RN,F,I,J,O,Q,S]
    by_cases o:y.ns.getD 0 default>=x.ns.getD 0 default
    ·have dg:decide (y.n 0>=x.n 0)=true:=decide_eq_true o
     rw[dg,Bool.true_or]at e;simp only[o,e,ab,RN,F,I,J,O,Q,S]
    ·have dg:decide (y.n 0>=x.n 0)=false:=decide_eq_false o
     rw[dg,cA]at e;simp only[o,g6,RN,F,I,J,O,Q,S];exact bn () g rfl e
   ·have zy:(y.kind==5)=false:=beq_false_of_ne y5
    rw[zy,ab,cA]at e;simp only[zy,g6,RN,F,I,J,O,Q,S];exact bn () g rfl e
  ·rw[bR,List.any_nil]at e
   simp only[an,U,j0,t0,m,getD_map,aI,uS,RN,F,I,J,O,Q,S];refine ak rfl rfl G ?_;simp only[e,RN,F,I,J,O,Q,S]
def akC (s:Su)(hs:s.ok=true)(l:List En)(hl:∀x∈l,x.Fit s)(o:l.length<=400):Pure C 131 [s.dv,sF (l.map En.dv)] (.d (.bool (mJ s l))) []:=by
 have k:=fun i (h:i<l.length)=>afB s hs (l.take i) (ach hl i) (by rw[ax];omega) (l.getD i default) (hl _ (getD_mem h))
 refine ah mixed rfl YW ?_;simp only[gU,dM (x:=l.getD _ default)]at k;rw[gU];simp only[Nb,aJ,U,RN,F,I,J,O,Q,S];refine aH l.length (fun i (_:Unit)=>⟨[(1, .d (sF (l.map En.dv))),(2, .d (.aW s.cs)),(5,pI i)],⟨[some (s.cs.map .d)],[0],[]⟩⟩)
  (fun i _=>∀j,j<i->qh s (l.take j) (l.getD j default)=true) 0 () (aq _) rfl (fun j h=>by omega) (fun i _ b a=> ?_) (fun _ a=> ?_)
 ·obtain⟨c,f,m⟩:=rng b (by omega)
  have p:(0:Int)<=(i:Int):=by omega
  have q:(i:Int)<=((l.map En.dv).length:Int):=by rw[U];omega
  simp only[c,f,b,getD_map,dM (x:=l.getD i default),V,U,uS,RN,F,I,J,O,Q,S];rw[yN (ai7 l) p q,<-b6,V]
  try simp only[c,f,b,getD_map,dM (x:=l.getD i default),V,U,RN,F,I,J,O,Q,S]
  refine ak rfl rfl (k i b) ?_;cases g:qh s (l.take i) (l.getD i default)
  ·have:mJ s l=false:=by
    rw[<-ch,mJ,a8];intro h;have:=h i (aR.2 b);rw[g]at this;cases this
   simp only[this,RN,F,I,J,O,Q,S]
  ·simp only[m,RN,F,I,J,O,Q,S]
   refine bn () b rfl fun j r=> ?_
   by_cases e:j=i
   ·rw[e];exact g
   ·exact a j (by omega)
 ·have:mJ s l=true:=by
   rw[mJ,a8];exact fun i n=>a i (aR.1 n)
  simp only[an,U,this,RN,F,I,J,O,Q,S]
end Go.Tel
namespace Go.Tel
open Go.Am
def abM (D:Dk):List DV:=[sF (D.su.pc.links.map Lk.dv),sF (D.su.pc.hands.map ay),sF (D.su.tg.map Fr.dv),dI D.su.lim,dI D.su.dvd.eF,sF (D.su.dvd.cir.map ay),dI D.su.cal.ep,sF (D.su.cal.cy.map ay),dI D.su.jf.n,dI D.su.jf.d,dI D.su.jf.ad,sF (D.su.fs.map Fs.dv),dI D.su.year,dI D.su.gq,dI D.su.hours,dI D.su.lC,dI D.su.pct,sF (D.es.map En.dv),sF (D.st.map .bool)]
def Y7 (D:Dk):DV:= .agg (abM D)
variable{D:Dk}
def ZY:abM D=[sF (D.su.pc.links.map Lk.dv),sF (D.su.pc.hands.map ay),sF (D.su.tg.map Fr.dv),dI D.su.lim,dI D.su.dvd.eF,sF (D.su.dvd.cir.map ay),dI D.su.cal.ep,sF (D.su.cal.cy.map ay),dI D.su.jf.n,dI D.su.jf.d,dI D.su.jf.ad,sF (D.su.fs.map Fs.dv),dI D.su.year,dI D.su.gq,dI D.su.hours,dI D.su.lC,dI D.su.pct,sF (D.es.map En.dv),sF (D.st.map .bool)]:=by rw[abM]
def IY:Y7 D= .agg [sF (D.su.pc.links.map Lk.dv),sF (D.su.pc.hands.map ay),sF (D.su.tg.map Fr.dv),dI D.su.lim,dI D.su.dvd.eF,sF (D.su.dvd.cir.map ay),dI D.su.cal.ep,sF (D.su.cal.cy.map ay),dI D.su.jf.n,dI D.su.jf.d,dI D.su.jf.ad,sF (D.su.fs.map Fs.dv),dI D.su.year,dI D.su.gq,dI D.su.hours,dI D.su.lC,dI D.su.pct,sF (D.es.map En.dv),sF (D.st.map .bool)]:=by rw[Y7,abM]
def afo (n:Nat):DV:=dI n
def ai6 {n:Nat}:afo n=dI n:=rfl
def zH (D:Dk)(n:Nat):List Nat:=(cz n).filter (ny D)
def Wi (D:Dk)(n:Nat):zH D (n+1)=zH D n++if ny D n then[n]else[]:=by
 rw[zH,ct,bq,<-zH,bj,bz]
def NP (D:Dk)(n:Nat):(zH D n).length<=n:=aL (a6 _ _) (by simp)
variable{i:Nat}
def aeP (h:i∈iH D):i<D.es.length:=aR.1 (bp.1 h).1
def JO {l:List Bool}(h:i<l.length):(l.map DV.bool).getD i default= .bool (l.getD i default):=by rw[getD_map h]
def ahG (D:Dk)(hl:D.es.length=D.st.length)(m:D.es.length<=1000):Pure C 37 [Y7 D] (.d (sF ((iH D).map afo))) []:=by
 refine bU (aG mixed rfl Ko ?_);rw[IY];simp only[zk,aK,U,RN,F,I,J,O,Q,S];refine aH D.es.length (fun i (v:Nat)=>⟨[(1, .d (.aW (abM D))),(3, .tsl 1 v 0),(4,pI i)],⟨[some ((abM D).map .d)],[0],[some ⟨1,[],0,0⟩,some ⟨1,(zH D i).map afo,v,0⟩]⟩⟩)
  (fun i _=>True) 0 0 (aq _) rfl trivial (fun i v a _=> ?_) (fun v _=> ?_)
 ·obtain⟨f,g,h⟩:=rng a (by omega)
  have j:i<D.st.length:=by omega
  have b:=Wi D i;have l:=NP D i;simp only[ZY,f,g,a,getD_map,dM,V,U,RN,F,I,J,O,Q,S]
  by_cases k:(D.es.getD i default).kind=6
  ·have z:((D.es.getD i default).kind !=6)=false:=by rw[k];rfl
   have c:ny D i=false:=by rw[ny,k];rfl
   rw[c,if_neg (by simp),bc]at b;simp only[z,h,RN,F,I,J,O,Q,S];rw[<-b];exact iQ v a rfl trivial (by simp) (by simp) rfl rfl
  have z:((D.es.getD i default).kind !=6)=true:=bne_iff_ne.2 k;cases e:D.st.getD i default
  ·have c:ny D i=true:=by rw[ny,e,decide_eq_true k];rfl
   rw[c,if_pos rfl]at b;simp only[z,ZY,f,g,a,j,JO,e,kF,V,U,iC,DV.strip,fits_int,forall_eq,h,RN,F,I,J,O,Q,S];refine⟨by simp,by omega,?_⟩;refine iQ (v+1) a ?_ trivial (by simp) (by simp) rfl rfl;rw[b,be]<;>rfl
  ·have c:ny D i=false:=by rw[ny,e,cB,Bool.and_false]
   rw[c,if_neg (by simp),bc]at b;simp only[z,ZY,f,g,a,j,JO,e,kF,V,U,h,RN,F,I,J,O,Q,S];rw[<-b];exact iQ v a rfl trivial (by simp) (by simp) rfl rfl
 ·have:zH D D.es.length=iH D:=rfl
  simp only[ZY,an,U,RN,F,I,J,O,Q,S];rw[this];simp[datum,Mem.row]
def lQ (D:Dk)(w:Int)(n:Nat):List En:=(((iH D).take n).filter fun(i:Nat)=>decide ((i:Int)≠w)).map fun i=>D.es.getD i default
def Rf (D:Dk)(w:Int){n:Nat}(h:n<(iH D).length):lQ D w (n+1)=lQ D w n++if(((iH D).getD n default:Nat):Int)≠w then[D.es.getD ((iH D).getD n default) default]else[]:=by
 rw[lQ,aS h,bq,be,<-lQ,bj,bz]
 congr 1
 by_cases e:(((iH D).getD n default:Nat):Int)≠w
 ·rw[if_pos (decide_eq_true e),if_pos e];rfl
 ·rw[if_neg (by rw[decide_eq_true_iff];exact e),if_neg e];rfl
def Vo (D:Dk)(w:Int)(n:Nat):(lQ D w n).length<=n:=by
 rw[lQ,U];exact aL (a6 _ _) (by rw[ax];omega)
def NM (D:Dk)(w:Int):(bC D w).length<=D.es.length:=by
 rw[bC,U];exact aL (a6 _ _) (aL (a6 _ _) (by simp))
def Qw (D:Dk)(hl:D.es.length=D.st.length)(f:D.es.length<=1000)(w:Int):Pure C 22 [Y7 D,dI w] (.d (sF ((bC D w).map En.dv))) []:=by
 have l:=ahG D hl f;have o:(iH D).length<=D.es.length:=NP D _;refine bU (aG mixed rfl Gi ?_);rw[IY]at l⊢;simp only[wV,aJ,RN,F,I,J,O,Q,S];refine ak rfl rfl l ?_;simp only[U,RN,F,I,J,O,Q,S];refine aH (iH D).length (fun i (v:Nat)=>⟨[(1,pI w),(2, .d (.aW (abM D))),(5, .tsl 1 v 0),(6, .d (sF ((iH D).map afo))),(7,pI i)],⟨[some ((abM D).map .d)],[0],[some ⟨2,[],0,0⟩,some ⟨2,(lQ D w i).map En.dv,v,0⟩]⟩⟩)
  (fun i _=>True) 0 0 (aq _) rfl trivial (fun i v a _=> ?_) (fun v _=> ?_)
 ·obtain⟨h,j,k⟩:=rng a (by omega)
  have c:=Rf D w a;have m:=Vo D w i;have b:=aeP (getD_mem a);obtain⟨n,g⟩:∃n,n=(iH D).getD i default:=⟨_,rfl⟩
  rw[<-g]at c b;have p:(0:Int)<=(n:Int):=by omega
  simp only[h,j,a,getD_map,ai6,<-g,V,U,RN,F,I,J,O,Q,S]
  by_cases e:(n:Int)=w
  ·have z:((n:Int) !=w)=false:=by simp[e]
   rw[if_neg (by simp[e]),bc]at c;simp only[z,k,RN,F,I,J,O,Q,S];rw[<-c];exact iQ v a rfl trivial (by simp) (by simp) rfl rfl
  ·have z:((n:Int) !=w)=true:=by simp[e]
   rw[if_pos e]at c;simp only[z,ZY,h,j,a,getD_map,ai6,<-g,p,b,dM,V,U,iC,DV.strip,RN,F,I,J,O,Q,S];refine⟨by rintro y rfl;rfl,by simp,by omega,?_⟩;rw[k];refine iQ (v+1) a ?_ trivial (by simp) (by simp) rfl rfl;rw[c,be]<;>rfl
 ·have:lQ D w (iH D).length=bC D w:=by rw[lQ,ao];rfl
  simp only[an,U,RN,F,I,J,O,Q,S];rw[this];simp[datum,Mem.row]
def am5 (h:D.Live)(x:En)(o:x.ns.length<=1000000):Pure C 50 [Y7 D,x.dv] (pI (xI D x)) []:=by
 have m:=h.ok.su;have G:=h.ok.len;have v:=h.ok.few;have s:=ahD x o;have c:=fun w=>Qw D G (by omega) w
 have b:∀w,∀y∈bC D w,y.Fit D.su:=fun w y B=>h.fit y (iY B).1 (iY B).2
 have j:=fun w=>NM D w
 have r:=fun w=>akC D.su m (bC D w) (b w) (by have:=j w;omega)
 refine ah mixed rfl Ov ?_;rw[IY]at c⊢;rw[dM]at s⊢;rw[gU]at r;simp only[CG,aJ,RN,F,I,J,O,Q,S];refine ak rfl rfl s ?_;unfold xI;cases d:x.formed
 ·(try simp only[RN,F,I,J,O,Q,S])
  rfl
 have A:x.ns.length=jc x.kind:=by
  simp only[En.formed,Y,decide_eq_true_eq]at d;exact d.1.2
 have H:0<jc x.kind:=by unfold jc;split;omega;split<;>omega
 have M:0<x.ns.length:=by omega
 have E:x.n 0=x.ns.getD 0 default:=rfl;have g:=yO d (i:=0) H;rw[if_neg (by simp)];simp only[U,RN,F,I,J,O,Q,S]
 by_cases e:D.es.length>=24
 ·have z:((D.es.length:Int)>=24):=by omega
  rw[if_pos e];simp only[z,RN,F,I,J,O,Q,S]
 have z:¬((D.es.length:Int)>=24):=by omega
 rw[if_neg e];simp only[z,RN,F,I,J,O,Q,S]
 by_cases k6:x.kind=6
 ·have p:(x.kind==6)=true:=by simp[k6]
  rw[if_pos k6];simp only[p,j0,t0,M,U,getD_map,aI,RN,F,I,J,O,Q,S];rw[<-E]
  by_cases a:x.n 0>=(D.es.length:Int)
  ·rw[if_pos (.inl a)]
   simp only[a,RN,F,I,J,O,Q,S]
  have l:(x.n 0).toNat<D.es.length:=by omega
  have f:(x.n 0).toNat<D.st.length:=by omega
  simp only[a,g.1,l,getD_map,dM,U,RN,F,I,J,O,Q,S]
  by_cases k:(D.es.getD (x.n 0).toNat default).kind=6
  ·have zy:((D.es.getD (x.n 0).toNat default).kind==6)=true:=beq_iff_eq.2 k
   rw[if_pos (.inr k)];simp only[zy,RN,F,I,J,O,Q,S]
  have zy:((D.es.getD (x.n 0).toNat default).kind==6)=false:=beq_false_of_ne k;rw[if_neg (by rintro(q|q)<;>first|exact q.elim|exact a q|exact k q)];simp only[zy,g.1,f,JO,kF,U,RN,F,I,J,O,Q,S];cases P:D.st.getD (x.n 0).toNat default
  ·(try simp only[RN,F,I,J,O,Q,S])
   refine ak rfl rfl (c _) ?_;(try simp only[RN,F,I,J,O,Q,S]);refine ak rfl rfl (r _) ?_;cases N:mJ D.su (bC D (x.n 0))
   ·(try simp only[RN,F,I,J,O,Q,S])
    rfl
   ·(try simp only[RN,F,I,J,O,Q,S])
    rfl
  ·(try simp only[RN,F,I,J,O,Q,S])
   rfl
 have p:(x.kind==6)=false:=beq_false_of_ne k6;have u:=akx D.su m x d k6;rw[gU,dM]at u;rw[if_neg k6];simp only[p,RN,F,I,J,O,Q,S];refine ak rfl rfl u ?_;cases K:KF D.su x
 ·(try simp only[RN,F,I,J,O,Q,S])
  rfl
 rw[if_neg (by simp)];have L:x.Fit D.su:=Yc d k6 (by rw[<-Eo d k6];exact K);have t:=afB D.su m (bC D (-1)) (b _) (by have:=j (-1);omega) x L;rw[gU,dM]at t;(try simp only[RN,F,I,J,O,Q,S]);refine ak rfl rfl (c _) ?_;(try simp only[RN,F,I,J,O,Q,S]);refine ak rfl rfl t ?_;cases R:qh D.su (bC D (-1)) x
 ·(try simp only[RN,F,I,J,O,Q,S])
  rfl
 ·(try simp only[RN,F,I,J,O,Q,S])
  rfl
end Go.Tel
namespace Go.Am
variable{bs:List (Option (List PV))}{fz:List Nat}{ar:List (Option Arr)}{sz:Nat}
def ajq {xs:List DV}:Mem.frz ⟨bs,fz,ar++ [some ⟨sz,xs,0,0⟩]⟩ [.tsl ar.length 0 0]=⟨bs,fz,ar++ [some ⟨sz,xs,0,2⟩]⟩:=by
 simp only[Mem.frz,lG,lF,List.flatMap_cons,List.flatMap_nil,bc,cr,JM,List.foldl_cons,List.foldl_nil]
 congr 1
 apply bL;intro i;rw[List.getElem?_modify]
 by_cases b:ar.length=i
 ·subst b
  rw[aE,aE];simp
 ·simp only[b,if_false]
  by_cases a:i<ar.length
  ·rw[ae a,ae a];simp
  ·rw[a1 (by simp;omega),a1 (by simp;omega)];rfl
def aja {C:Ctx}{K:PV->Mem->Prop}{base:Nat}{KP:DV->Mem->Prop}{ys:List DV}{ex:Bool}(a:0<sz)(hf:∀y∈ys,y.fits sz=true)(hl:ys.length<=1073741824)
  (b:K (.d (.slice false ys)) ⟨bs,fz,ar++ [some ⟨sz,ys,0,2⟩]⟩):au C base (.ZA sz) [.d (.slice true []), .d (.slice ex ys)] ⟨bs,fz,ar⟩ K KP:=by
 simp only[au,aix];refine⟨a,hf,by simp,by simp,by simpa using hl, .slice false ys,by simp[datum,Mem.row],?_⟩;simp only[cr,cond_false];rw[ajq];exact b
end Go.Am
namespace Go.Tel
open Go.Am
def ap4 {D:Dk}{x:En}(hk:1<=x.kind/\x.kind<=6)(a:x.kind≠6):D.with x={D with es:=D.es++ [x],st:=D.st++ [false]}:=by
 rcases(show x.kind=1\/x.kind=2\/x.kind=3\/x.kind=4\/x.kind=5 by omega)with k|k|k|k|k
 ·unfold Dk.with;rw[En.deed1 k];rfl
 ·unfold Dk.with;rw[En.deed2 k];rfl
 ·unfold Dk.with;rw[En.deed3 k];rfl
 ·unfold Dk.with;rw[En.deed4 k];rfl
 ·unfold Dk.with;rw[En.Pq k];rfl
def al1 (xs:List En):∀y∈xs.map En.dv,y.fits 2=true:=by
 intro y a;obtain⟨z,_,rfl⟩:=bS.1 a;rw[dM];rfl
def af5 (xs:List Bool):∀y∈xs.map DV.bool,y.fits 1=true:=by
 intro y a;obtain⟨z,_,rfl⟩:=bS.1 a
 rfl
def anb (D:Dk)(x:En)(hl:D.es.length<=1000)(p:D.st.length<=1000)(t:x.ns.length<=1000)(h:x.kind=6->1<=x.ns.length/\0<=x.n 0/\(x.n 0).toNat<D.st.length)(hk:1<=x.kind/\x.kind<=6):Pure C 51 [Y7 D,x.dv] (.d (Y7 (D.with x))) []:=by
 refine bU (aG mixed rfl Ox ?_);rw[IY (D:=D),dM];simp only[CJ,akX,RN,F,I,J,O,Q,S];refine⟨al1 _,by simp,by simp,by simp;omega,?_⟩;refine aja (by decide) (FY _) (by simp;omega) ?_;have k:∀y:DV,y= .agg [dI x.kind,sF (x.ns.map ay)]->y.fits 2=true:=by rintro y rfl;rfl
 have i:=af5 D.st;have j:∀y:DV,y= .bool false->y.fits 1=true:=by rintro y rfl;rfl
 have l:(D.es.map En.dv).length<=1073741823:=by simp;omega
 have m:(D.st.map DV.bool).length<=1073741824:=by simp;omega
 have o:(D.st.map DV.bool).length<=1073741823:=by simp;omega
 simp only[DV.strip,bM,dB,RN,F,I,J,O,Q,S]
 (repeat(refine cG (by first|assumption|rfl|(simp;done)|(simp;omega)) ?_))
 by_cases k6:x.kind=6
 ·obtain⟨u,r,s⟩:=h k6
  have g:(x.kind==6)=true:=by simp[k6]
  have q:0<x.ns.length:=by omega
  have e:0<=x.ns.getD 0 default:=r;have a:(x.ns.getD 0 default).toNat<D.st.length:=s;have f:(x.ns.getD 0 default).toNat<(D.st.map DV.bool++ [DV.bool false]).length:=by rw[Z,U];omega
  simp only[g,bM,dB,j0,t0,q,e,f,U,getD_map,aI,RN,F,I,J,O,Q,S];have b:(D.st.map DV.bool++ [DV.bool false]).getD (x.ns.getD 0 default).toNat default= .bool (D.st.getD (x.ns.getD 0 default).toNat default):=by
   rw[ai,ae (by simpa using a),<-ai,getD_map a]
  refine qU (ds:=[.bool true]) rfl rfl (by decide) rfl rfl (by rw[b];exact bi 1) ?_;have c:(D.st.map DV.bool++ [DV.bool false]).set (x.ns.getD 0 default).toNat (setCells ((D.st.map DV.bool++ [DV.bool false]).getD (x.ns.getD 0 default).toNat default) 0 [.bool true])=(D.st.set (x.ns.getD 0 default).toNat true++ [false]).map .bool:=by
   rw[b,List.set_append_left _ _ (by simpa using a),be,cg];rfl
  rw[c];simp only[bM,dB,bI,bA,eP,gI,RN,F,I,J,O,Q,S];rw[QL k6];simp[datum,cu,fA,Mem.row,IY,dM,En.n]
 ·have g:(x.kind==6)=false:=beq_false_of_ne k6
  simp only[g,bM,dB,bI,bA,eP,gI,RN,F,I,J,O,Q,S];rw[ap4 hk k6];simp[datum,cu,fA,Mem.row,IY,dM]
end Go.Tel
namespace Go.Tel
open Go.Am
def akz (s:Su)(hs:s.Small)(e:s.fs.length<=1000000):Pure C 18 [s.dv] (.d (.bool s.ok)) []:=by
 have h1:=akv s.pc hs.l hs.h;have h2:=apT s.dvd (by have:=hs.ci;omega);have k:=apS s.cal (by have:=hs.cy;omega);have m:=anm s.jf;have y:=ahL s.fs e;have n:=afA s [] false;have o:=ahH (s.bil []) (by simp[Su.bil]);have b:=fun f:Fr=>anj f
 simp only[dZ,sZ,fE,iy,JI,bW,gU]at h1 h2 k m n o b;refine ah mixed rfl YT ?_;rw[gU];simp only[MX,aK,RN,F,I,J,O,Q,S];refine ak rfl rfl h1 ?_;cases q:s.pc.ok
 ·(try simp only[RN,F,I,J,O,Q,S])
  simp[Su.ok,q]
 simp only[U,RN,F,I,J,O,Q,S]
 by_cases j:s.tg.length=s.pc.hands.length
 case neg=>
  have z:((s.tg.length:Int) !=(s.pc.hands.length:Int))=true:=by simp;omega
  simp only[z,RN,F,I,J,O,Q,S];simp[Su.ok,j]
 have z:((s.tg.length:Int) !=(s.pc.hands.length:Int))=false:=by simp[j]
 simp only[z,RN,F,I,J,O,Q,S];refine ak rfl rfl (akJ _) ?_;cases r:inR s.lim 0 10800
 ·(try simp only[RN,F,I,J,O,Q,S])
  simp[Su.ok,r]
 (try simp only[RN,F,I,J,O,Q,S]);refine ak rfl rfl h2 ?_;cases u:s.dvd.ok
 ·(try simp only[RN,F,I,J,O,Q,S])
  simp[Su.ok,u]
 simp only[U,RN,F,I,J,O,Q,S];have A:=hs.t;refine aH s.tg.length (fun i (_:Unit)=>⟨[(1, .d (.aW s.cs)),(3,pI i)],⟨[some (s.cs.map .d)],[0],[]⟩⟩)
  (fun i _=>s.tg.all Fr.ok=(s.tg.drop i).all Fr.ok) 0 () (aq _) rfl rfl (fun i _ c a=> ?_) (fun _ a=> ?_)
 ·obtain⟨v,w,x⟩:=rng c (by omega)
  rw[drop_cons c,cC]at a;simp only[uS,v,w,c,getD_map,bW,V,U,RN,F,I,J,O,Q,S];refine ak rfl rfl (b _) ?_;cases p:(s.tg.getD i default).ok
  ·rw[p,ab]at a
   (try simp only[RN,F,I,J,O,Q,S]);simp[Su.ok,a]
  ·rw[p,bl]at a
   simp only[x,RN,F,I,J,O,Q,S];exact bn () c rfl a
 ·rw[bR,cD]at a
  have g:s.ok=(s.cal.ok&&s.jf.ok&&jA s.fs&&inR s.year 0 4000&&(s.bil []).ok):=by
   simp[Su.ok,q,j,r,u,a]
  rw[g];simp only[uS,an,U,RN,F,I,J,O,Q,S];refine ak rfl rfl k ?_;cases B:s.cal.ok
  ·simp only[ab,RN,F,I,J,O,Q,S]
  (try simp only[RN,F,I,J,O,Q,S]);refine ak rfl rfl m ?_;cases k6:s.jf.ok
  ·simp only[ab,RN,F,I,J,O,Q,S]
  (try simp only[RN,F,I,J,O,Q,S]);refine ak rfl rfl y ?_;cases D:jA s.fs
  ·simp only[ab,RN,F,I,J,O,Q,S]
  (try simp only[RN,F,I,J,O,Q,S]);refine ak rfl rfl (afE _) ?_;cases E:inR s.year 0 4000
  ·simp only[ab,RN,F,I,J,O,Q,S]
  (try simp only[RN,F,I,J,O,Q,S]);refine ak rfl rfl n ?_;(try simp only[RN,F,I,J,O,Q,S]);refine ak rfl rfl o ?_;(try simp only[RN,F,I,J,O,Q,S])
def Su.short (s:Su):Bool:=decide (s.pc.links.length<=7)&&decide (s.pc.hands.length<=6)&&decide (s.tg.length<=6)&&decide (s.dvd.cir.length<=8)&&decide (s.cal.cy.length<=5)&&decide (s.fs.length<=8)
variable{s:Su}
def Su.ab1 (h:s.short=true):s.Small/\s.fs.length<=8:=by
 simp only[Su.short,Y,decide_eq_true_eq]at h;exact⟨⟨by omega,by omega,by omega,by omega,by omega⟩,by omega⟩
def wG {a b:Nat}:decide ((a:Int)<=(b:Int))=decide (a<=b):=decide_eq_decide.2 (by omega)
def anG (s:Su):Pure C 39 [s.dv] (.d (.bool s.short)) []:=by
 refine ah mixed rfl YD ?_;rw[gU];simp only[MF,aK,U,RN,F,I,J,O,Q,S];have a:decide ((s.pc.links.length:Int)<=7)=decide (s.pc.links.length<=7):=wG;have c:decide ((s.pc.hands.length:Int)<=6)=decide (s.pc.hands.length<=6):=wG;have f:decide ((s.tg.length:Int)<=6)=decide (s.tg.length<=6):=wG;have h:decide ((s.dvd.cir.length:Int)<=8)=decide (s.dvd.cir.length<=8):=wG;have j:decide ((s.cal.cy.length:Int)<=5)=decide (s.cal.cy.length<=5):=wG;have l:decide ((s.fs.length:Int)<=8)=decide (s.fs.length<=8):=wG;rw[Su.short];cases b:decide (s.pc.links.length<=7)
 ·simp only[a,b,ab,RN,F,I,J,O,Q,S]
 cases e:decide (s.pc.hands.length<=6)
 ·simp only[a,b,c,e,ab,U,RN,F,I,J,O,Q,S]
 cases g:decide (s.tg.length<=6)
 ·simp only[a,b,c,e,f,g,ab,U,RN,F,I,J,O,Q,S]
 cases i:decide (s.dvd.cir.length<=8)
 ·simp only[a,b,c,e,f,g,h,i,ab,U,RN,F,I,J,O,Q,S]
 cases k:decide (s.cal.cy.length<=5)
 ·simp only[a,b,c,e,f,g,h,i,j,k,ab,U,RN,F,I,J,O,Q,S]
 ·simp only[a,b,c,e,f,g,h,i,j,k,l,ab,U,RN,F,I,J,O,Q,S]
def AP (s:Su)(l:List En)(q:List Qn):Bool:= !((l.take 27).any fun x=>decide (x.ns.length>6))&& !((q.take 11).any fun x=>decide (x.ns.length>6))&&(s.short&&decide (l.length<=26)&&decide (q.length<=10))
variable{l:List En}
def XP {q:List Qn}(h:AP s l q=true):s.short=true/\(l.length<=26/\∀x∈l,x.ns.length<=6)/\q.length<=10/\∀x∈q,x.ns.length<=6:=by
 simp only[AP,Y,Bool.not_eq_true',List.any_eq_false,decide_eq_true_eq]at h;obtain⟨⟨h1,h2⟩,⟨b,c⟩,d⟩:=h;rw[bt (by omega)]at h1 h2;exact⟨b,⟨c,fun x a=>by have:=h1 x a;omega⟩,d,fun x a=>by have:=h2 x a;omega⟩
def any_take_succ {α:Type}[Inhabited α](p:α->Bool)(l:List α){i:Nat}(h:i<l.length)(a:(l.take i).any p=false):(l.take (i+1)).any p=p (l.getD i default):=by
 rw[aS h,List.any_append,a];simp
def O5 {α:Type}(p:α->Bool)(l:List α){i n:Nat}(a:i<=n)(h:(l.take i).any p=true):(l.take n).any p=true:=by
 rw[List.any_eq_true]at h⊢;obtain⟨x,c,b⟩:=h;exact⟨x,(List.take_sublist_take_left a).subset c,b⟩
def alP (s:Su)(l:List En)(q:List Qn):Pure C 17 [s.dv,sF (l.map En.dv),sF (q.map Qn.dv)] (.d (.bool (AP s l q))) []:=by
 have y:=anG s;refine ah mixed rfl YA ?_;rw[gU]at y⊢;simp only[Me,jr,RN,F,I,J,O,Q,S];refine aH (min l.length 27) (fun i (_:Unit)=>⟨[(1, .d (sF (l.map En.dv))),(2, .d (sF (q.map Qn.dv))),(3, .d (.aW s.cs)),(7,pI i)],⟨[some (s.cs.map .d)],[0],[]⟩⟩)
  (fun i _=>((l.take i).any fun x=>decide (x.ns.length>6))=false) 0 () (aq _) rfl rfl (fun i _ j a=> ?_) (fun _ a=> ?_)
 ·have k:(i:Int)<(l.length:Int):=by omega
  have n:(i:Int)<27:=by omega
  have m:(0:Int)<=(i:Int):=by omega
  have e:i<l.length:=by omega
  have o:cJ .i64 ((i:Int)+1)=((i+1:Nat):Int):=by rw[aF (by omega)];omega
  have b:=any_take_succ (fun x:En=>decide (x.ns.length>6)) l e a;simp only[k,n,m,e,getD_map,dM,V,U,RN,F,I,J,O,Q,S]
  by_cases f:(l.getD i default).ns.length>6
  ·have z:((l.getD i default).ns.length:Int)>6:=by omega
   have r:AP s l q=false:=by
    rw[decide_eq_true f]at b;have:=O5 _ l (show i+1<=27 by omega) b;simp[AP,this]
   simp only[z,r,RN,F,I,J,O,Q,S]
  ·have z:¬((l.getD i default).ns.length:Int)>6:=by omega
   rw[decide_eq_false f]at b;simp only[z,o,RN,F,I,J,O,Q,S];exact bn () j rfl b
 have D:((l.take 27).any fun x=>decide (x.ns.length>6))=false:=by
  by_cases h:l.length<=27
  ·rw[cv h,ao]at a;rw[bt h];exact a
  ·rwa [cl (by omega)]at a
 have g:¬((min l.length 27:Nat):Int)<(l.length:Int)\/((min l.length 27:Nat):Int)<(l.length:Int)/\¬((min l.length 27:Nat):Int)<27:=by omega
 have H:∀v:Prop,v->v:=fun _ h=>h
 rcases g with t|⟨t,G⟩
 all_goals(
  first
   |(simp only[t,G,U,RN,F,I,J,O,Q,S])
   |(simp only[t,U,RN,F,I,J,O,Q,S])
  refine aH (min q.length 11) (fun i (_:Unit)=>⟨[(1, .d (sF (l.map En.dv))),(2, .d (sF (q.map Qn.dv))),(3, .d (.aW s.cs)),(8,pI i)],⟨[some (s.cs.map .d)],[0],[]⟩⟩)
   (fun i _=>((q.take i).any fun x=>decide (x.ns.length>6))=false) 0 () (aq _) rfl rfl (fun i _ j a=> ?_) (fun _ a=> ?_)
  ·have k:(i:Int)<(q.length:Int):=by omega
   have n:(i:Int)<11:=by omega
   have m:(0:Int)<=(i:Int):=by omega
   have e:i<q.length:=by omega
   have o:cJ .i64 ((i:Int)+1)=((i+1:Nat):Int):=by rw[aF (by omega)];omega
   have b:=any_take_succ (fun x:Qn=>decide (x.ns.length>6)) q e a;simp only[k,n,m,e,getD_map,afa,V,U,RN,F,I,J,O,Q,S]
   by_cases f:(q.getD i default).ns.length>6
   ·have z:((q.getD i default).ns.length:Int)>6:=by omega
    have r:AP s l q=false:=by
     rw[decide_eq_true f]at b;have:=O5 _ q (show i+1<=11 by omega) b;simp[AP,this]
    simp only[z,r,RN,F,I,J,O,Q,S]
   ·have z:¬((q.getD i default).ns.length:Int)>6:=by omega
    rw[decide_eq_false f]at b;simp only[z,o,RN,F,I,J,O,Q,S];exact bn () j rfl b
  have E:((q.take 11).any fun x=>decide (x.ns.length>6))=false:=by
   by_cases h:q.length<=11
   ·rw[cv h,ao]at a;rw[bt h];exact a
   ·rwa [cl (by omega)]at a
  have p:AP s l q=(s.short&&decide (l.length<=26)&&decide (q.length<=10)):=by simp only[AP,D,E,cw,bl]
  rw[p];have aqz:¬((min q.length 11:Nat):Int)<(q.length:Int)\/((min q.length 11:Nat):Int)<(q.length:Int)/\¬((min q.length 11:Nat):Int)<11:=by omega
  have w:decide ((l.length:Int)<=26)=decide (l.length<=26):=wG;have B:decide ((q.length:Int)<=10)=decide (q.length<=10):=wG
  rcases aqz with c|⟨c,u⟩
  all_goals(
   first
    |(simp only[uS,c,u,U,RN,F,I,J,O,Q,S])
    |(simp only[uS,c,U,RN,F,I,J,O,Q,S])
   refine ak rfl rfl y ?_;cases K:s.short
   ·simp only[ab,RN,F,I,J,O,Q,S]
   cases A:decide (l.length<=26)
   ·simp only[w,A,ab,U,RN,F,I,J,O,Q,S]
   ·simp only[w,A,B,U,RN,F,I,J,O,Q,S]))
def Frm.arf {M g b:Mem}{d:Nat}{ce cs ce' cs':PV}(h:Frm M g)(f:FrD d ce cs ce' cs' g b)(hd:M.boxes.length<=d)(h1:∀k,kOf ce=some k->M.aB.length<=k)(h2:∀k,kOf cs=some k->M.aB.length<=k)(m:FzB b):
  Frm M b/\(∀k,kOf ce'=some k->M.aB.length<=k)/\(∀k,kOf cs'=some k->M.aB.length<=k):=by
 have l:=h.len;have j:=h.bH;refine⟨⟨aL l f.len,aL j f.bH,fun i c=>(f.box i (by omega) (by omega)).trans (h.box i c),fun i c=>(f.fz i (by omega)).trans (h.fz i c),fun k a=>(f.row k (by omega) (fun e=>by have:=h1 k e;omega) (fun e=>by have:=h2 k e;omega)).trans (h.row k a),fun _=>m⟩,fun k a=> ?_,fun k a=> ?_⟩
 ·rcases f.oe k a with e|e
  ·exact h1 k e
  ·omega
 ·rcases f.os k a with e|e
  ·exact h2 k e
  ·omega
def entered (D:Dk)(l:List En):Dk:=l.foldl (fun D x=>(D.enter x).1) D
def Dv (D:Dk)(l:List En)(x:En):entered D (l++ [x])=((entered D l).enter x).1:=by simp[entered]
def anT (D:Dk)(x:En):(D.with x).es=D.es++ [x]/\(D.with x).su=D.su:=by
 unfold Dk.with
 split<;>exact⟨rfl,rfl⟩
def ai8 (D:Dk)(x:En):((D.enter x).2=0/\(D.enter x).1=D.with x/\x.formed=true)\/((D.enter x).2≠0/\(D.enter x).1=D):=by
 unfold Dk.enter
 split
 ·exact .inr ⟨(show(2:Int)≠0 by decide),rfl⟩
 rename_i a
 split
 ·exact .inr ⟨(show(3:Int)≠0 by decide),rfl⟩
 split
 ·exact .inr ⟨(show(2:Int)≠0 by decide),rfl⟩
 split
 ·exact .inl ⟨rfl,rfl,by simpa using a⟩
 ·exact .inr ⟨(show(7:Int)≠0 by decide),rfl⟩
def ade (D:Dk)(l:List En):(entered D l).su=D.su:=by
 induction l using uH with
 |h0=>rfl
 |h1 l x a=>
  rw[Dv]
  rcases ai8 (entered D l) x with⟨_,h,_⟩|⟨_,h⟩
  ·rw[h,(anT _ _).2,a]
  ·rw[h,a]
def ind (a v:Int):Nat:=if a=v then 1 else 0
def as5 (s:Su)(l:List En):(dG s l).hands=s.pc.hands:=by
 induction l using uH with
 |h0=>rfl
 |h1 l x a=>rw[je,mV];split<;>exact a
def atl (l:List En)(h:Int):Fr:=if(dA l h).2 then(dA l h).1 else⟨0,0⟩
def atj (l:List En)(n:Nat):List Fr:=(cz n).map fun(i:Nat)=>atl l (i:Int)
variable{h:Int}
def atv {n:Nat}(a:0<=h)(h1:h.toNat<n):(atj l n).getD h.toNat default=atl l h:=by
 rw[atj,ai,bh,bk h1];simp only[b0,cn];rw[show((h.toNat:Nat):Int)=h by omega]
def atu {b:List En}{n:Nat}{f:Fr}(d:0<=h)(h1:atl b h=f)(h2:∀k:Int,k≠h->atl b k=atl l k):(atj l n).set h.toNat f=atj b n:=by
 apply bL;intro i;rw[cb,atj,atj,bh,bh,U,List.length_range]
 by_cases c:h.toNat=i
 ·subst c
  by_cases a:h.toNat<n
  ·rw[if_pos rfl,if_pos a,bk a]
   simp only[b0];rw[show((h.toNat:Nat):Int)=h by omega,h1]
  ·rw[if_pos rfl,if_neg a,a1 (by simp;omega)];rfl
 ·rw[if_neg c]
  by_cases a:i<n
  ·rw[bk a]
   simp only[b0];rw[h2 i (by omega)]
  ·rw[a1 (by simp;omega)];rfl
variable{x:En}
def atz (k:x.kind=3):atl (l++ [x]) (x.n 0)=⟨x.n 1,x.n 2⟩/\∀h:Int,h≠x.n 0->atl (l++ [x]) h=atl l h:=by
 refine⟨?_,fun h a=> ?_⟩
 ·have e:dA (l++ [x]) (x.n 0)=(⟨x.n 1,x.n 2⟩,true):=by rw[nR,lM,if_pos ⟨k,rfl⟩]
  rw[atl,e];rfl
 ·have e:dA (l++ [x]) h=dA l h:=by rw[nR,lM,if_neg (fun q=>a q.2.symm),if_neg (by omega)]
  rw[atl,e];rfl
def atB (k:x.kind=4):atl (l++ [x]) (x.n 0)=⟨0,0⟩/\∀h:Int,h≠x.n 0->atl (l++ [x]) h=atl l h:=by
 refine⟨?_,fun h a=> ?_⟩
 ·have e:dA (l++ [x]) (x.n 0)=((dA l (x.n 0)).1,false):=by rw[nR,lM,if_neg (by omega),if_pos ⟨k,rfl⟩]
  rw[atl,e];rfl
 ·have e:dA (l++ [x]) h=dA l h:=by rw[nR,lM,if_neg (by omega),if_neg (fun q=>a q.2.symm)]
  rw[atl,e];rfl
def atA (a:x.kind≠3)(b:x.kind≠4)(n:Nat):atj (l++ [x]) n=atj l n:=by
 unfold atj atl;refine bE fun i _=> ?_
 rw[Uk a b]
def atx (k:x.kind=3)(a:qh s l x=true):atl l (x.n 0)=⟨0,0⟩:=by
 unfold qh at a;rw[if_neg (by omega),if_neg (by omega),if_pos k]at a;rw[atl,if_neg (by simpa using a)]
def aty (k:x.kind=4)(a:qh s l x=true):(dA l (x.n 0)).2=true/\atl l (x.n 0)=(dA l (x.n 0)).1/\(-s.lim<=aj6 (dG s l) (x.n 0) (atl l (x.n 0)) 100/\aj6 (dG s l) (x.n 0) (atl l (x.n 0)) 100<=s.lim)/\x.n 1>=UG s (dG s l) (x.n 0):=by
 unfold qh at a;rw[if_neg (by omega),if_neg (by omega),if_neg (by omega),if_pos k]at a;simp only[Y,decide_eq_true_eq]at a;obtain⟨⟨h1,h2⟩,b⟩:=a;have e:atl l (x.n 0)=(dA l (x.n 0)).1:=by rw[atl,if_pos h1]
 refine⟨h1,e,?_,b⟩;rw[e]
 simpa[inR]using h2
def atE (h:mJ s l=true){i:Nat}(hi:i<l.length):qh s (l.take i) (l.getD i default)=true:=by
 rw[mJ,a8]at h;exact h i (aR.2 hi)
def Dk.Live.t {D:Dk}(h:D.Live):∃t,D.state (-1)=some t/\Rel D.su (bC D (-1)) t/\zK D.su 24 t:=by
 obtain⟨t,a⟩:=bo.1 h.live;exact⟨t,a,((h.all (-1)).2 t a).1,h.ok.Vp a⟩
variable{D:Dk}
def Dk.Live.goes (h:D.Live):mJ D.su (bC D (-1))=true:=by rw[(h.all (-1)).1];exact h.live
def Dk.Live.fits (h:D.Live)(w:Int):∀x∈bC D w,x.Fit D.su:=fun x a=>h.fit x (iY a).1 (iY a).2
def aop {t:Sp}(b:D.state (-1)=some t){k:Int}{ns:List Int}(hk:1<=k/\k<=12)(a:ns.length=TK k):D.ask ⟨k,ns⟩=if(D.answer t ⟨k,ns⟩).2=0 then D.answer t ⟨k,ns⟩else([],(D.answer t ⟨k,ns⟩).2):=by
 have h1:inR k 1 12=true:=adF hk;simp only[Dk.ask,h1,a,b];simp
def atC (h:D.Live):D.ask ⟨11,[]⟩=([Sm (bC D (-1))],0):=by
 obtain⟨t,b,a,_⟩:=h.t;rw[aop b (by decide) rfl,<-a.co];simp[Dk.answer]
end Go.Tel
namespace Go.Tel
open Go.Am
def rdF (a b:Bool)(D:Dk):List DV:=[sF (D.su.pc.links.map Lk.dv),sF (D.su.pc.hands.map ay),sF (D.su.tg.map Fr.dv),dI D.su.lim,dI D.su.dvd.eF,sF (D.su.dvd.cir.map ay),dI D.su.cal.ep,sF (D.su.cal.cy.map ay),dI D.su.jf.n,dI D.su.jf.d,dI D.su.jf.ad,sF (D.su.fs.map Fs.dv),dI D.su.year,dI D.su.gq,dI D.su.hours,dI D.su.lC,dI D.su.pct, .slice a (D.es.map En.dv), .slice b (D.st.map .bool)]
variable{D:Dk}
def XY {a b:Bool}:rdF a b D=[sF (D.su.pc.links.map Lk.dv),sF (D.su.pc.hands.map ay),sF (D.su.tg.map Fr.dv),dI D.su.lim,dI D.su.dvd.eF,sF (D.su.dvd.cir.map ay),dI D.su.cal.ep,sF (D.su.cal.cy.map ay),dI D.su.jf.n,dI D.su.jf.d,dI D.su.jf.ad,sF (D.su.fs.map Fs.dv),dI D.su.year,dI D.su.gq,dI D.su.hours,dI D.su.lC,dI D.su.pct, .slice a (D.es.map En.dv), .slice b (D.st.map .bool)]:=by rw[rdF]
def Zu:List DV:=[.slice true [], .slice true [], .slice true [],dI 0,dI 0, .slice true [],dI 0, .slice true [],dI 0,dI 0,dI 0, .slice true [],dI 0,dI 0,dI 0,dI 0,dI 0, .slice true [], .slice true []]
def alX:Zu=[.slice true [], .slice true [], .slice true [],dI 0,dI 0, .slice true [],dI 0, .slice true [],dI 0,dI 0,dI 0, .slice true [],dI 0,dI 0,dI 0,dI 0,dI 0, .slice true [], .slice true []]:=rfl
def oC.KG {d i:Nat}{ce cs:PV}{bs:List (Option (List PV))}{fz:List Nat}{ar:List (Option Arr)}{y:Option (List PV)}(h:oC D d ce cs ⟨bs,fz,ar⟩)(hi:i≠d):oC D d ce cs ⟨bs.set i y,fz,ar⟩:=
 ⟨⟨by simp only;rw[bu hi];exact h.box,h.ent,h.str⟩,h.dif,h.nb,h.fzb.set⟩
def Ld {s:Su}(hs:s.ok=true)(l:List En):(entered ⟨s,[],[]⟩ l).Live:=by
 induction l using uH with
 |h0=>exact ajW hs
 |h1 l x a=>rw[Dv];exact adb a x
def aeu (h:D.Live){x:En}(a:xI D x=0):Pure C 51 [Y7 D,x.dv] (.d (Y7 (D.with x))) []:=by
 have b:x.formed=true:=by cases e:x.formed with
  |true=>rfl
  |false=>unfold xI at a;rw[if_pos e]at a;cases a
 have l:=En.BL b;have g:=h.ok.few;have j:=h.ok.len;have o:=JL b;refine anb D x (by omega) (by omega) (by omega) (fun k6=> ?_) l;have f:=yO b (i:=0) (by rw[k6];decide);have m:x.ns.length=jc x.kind:=by
  simp only[En.formed,Y,decide_eq_true_eq]at b;exact b.1.2
 unfold xI at a;have c:¬D.es.length>=24:=fun e=>by rw[if_neg (by simp[b]),if_pos e]at a;cases a
 rw[if_neg (by simp[b]),if_neg c,if_pos k6]at a;have k:¬x.n 0>=(D.es.length:Int):=fun e=>by rw[if_pos (.inl e)]at a;cases a
 refine⟨by rw[m,k6];decide,f.1,by omega⟩
def ah7 (s:Su)(hs:s.ok=true)(a1:s.Small)(l:List En)(hl:l.length<=1000)(hn:∀x∈l,x.ns.length<=1000){bs:List (Option (List PV))}{fz:List Nat}{ar:List (Option Arr)}(t:FzB ⟨bs,fz,ar⟩){KP:DV->Mem->Prop}:
  SC C 20 [.d s.dv, .d (sF (l.map En.dv))] ⟨bs,fz,ar⟩ (fun p M'=>Frm ⟨bs,fz,ar⟩ M'/\∃d ce cs K L,p= .tup [.ptr d 0, .d (.agg (rdF K L (entered ⟨s,[],[]⟩ l)))]/\bs.length<=d/\oC (entered ⟨s,[],[]⟩ l) d ce cs M'/\(∀k,kOf ce=some k->ar.length<=k)/\(∀k,kOf cs=some k->ar.length<=k)) KP:=by
 have aE:bs.length∉fz:=fun e=>b7 _ (t _ e)
 have aL:∀k,bs.length+k∉fz:=fun k e=>by have:=t _ e;simp only at this;omega
 have aR:¬bs.length+1=bs.length:=by omega
 have a0:¬bs.length+2=bs.length:=by omega
 refine aG mixed rfl VP ?_;rw[gU];simp only[Je,akU,bD,bQ,aQ,bV,dh,aV,am,Z,aD,aE,aL,aR,a0,av,RN,F,I,J,O,Q,S];have hO:=fun X fz KP hX=>ae0 s a1 X fz ar KP hX
 rw[gU]at hO;refine SC.jU (SC.mono (hO _ _ (fun _ _=>False) (by
  intro i j
  rcases a7.1 j with rfl|j
  ·simp
  ·have:=t _ j
   simp only at this;simp only[Z,aw,bd];omega)) ?_) (fun _ _ h=>h.elim)
 rintro p ⟨c,q,b⟩ (⟨h,_⟩|⟨_,rfl,x1,x2,h⟩)
 ·rw[hs]at h;cases h
 simp only[Mem.mk.injEq]at h;obtain⟨g,v,rfl⟩:=h;have z1:((0:Int) !=0)=false:=rfl;have H:c.length=bs.length+6:=by rw[g];simp
 have aqu:c[bs.length+5]?=some (some (iV s (.d (.slice true [])) (.d (.slice true [])))):=by
  rw[g,aM (by simp)];simp
 have h5:c[bs.length+1]?=some (some (Zu.map .d)):=by
  rw[g,ae (by simp),aM (by simp)];simp[Zu]
 have M:c[bs.length+2]?=some (some ((rdF true true ⟨s,[],[]⟩).map .d)):=by
  rw[g,ae (by simp),aM (by simp)];simp[rdF]
 have arP:FzB ⟨c,q,b⟩:=by
  intro i j;rw[v]at j;simp only[H];simp only[a7,Z,aw,bd]at j
  rcases j with rfl|rfl|rfl|j
  ·omega
  ·omega
  ·omega
  ·have:=t _ j;simp only at this;omega
 have A:∀i,i=bs.length+1\/i=bs.length+2\/i=bs.length+5->i∉q:=by
  intro i j E;rw[v]at E;simp only[a7,Z,aw,bd]at E
  rcases E with E|E|E|E
  ·omega
  ·omega
  ·omega
  ·have:=t _ E;simp only at this;omega
 have Y:Frm ⟨bs,fz,b⟩ ⟨c,q,b⟩:=by
  rw[g,v,am];exact Frm.new (xf:=[_,_,_]) (by intro i j;simp at j⊢;omega)
 have ac:oC ⟨s,[],[]⟩ (bs.length+5) (.d (.slice true [])) (.d (.slice true [])) ⟨c,q,b⟩:=
  ⟨⟨aqu, .inl ⟨rfl,rfl⟩, .inl ⟨rfl,rfl⟩⟩,(by intro k hk;cases hk),A _ (.inr (.inr rfl)),arP⟩
 have a3:=A _ (.inl rfl);have a4:=A _ (.inr (.inl rfl));clear g v hO A;simp only[qc,qg,z1,mD,wu,Z,RN,F,I,J,O,Q,S];refine zu (fun m st=>∃(i:Nat) (ce cs:PV) (K L:Bool) (a:List (Option (List PV))) (f:List Nat) (u:List (Option Arr)),m=l.length - i/\i<=l.length/\st=⟨[(1, .d (sF (l.map En.dv))),(5, .ptr (bs.length+1) 0),(6, .ptr (bs.length+2) 0),(7, .ptr (bs.length+5) 0),(9,pI i)],⟨a,f,u⟩⟩/\
   a[bs.length+1]?=some (some (Zu.map .d))/\a[bs.length+2]?=some (some ((rdF K L (entered ⟨s,[],[]⟩ (l.take i))).map .d))/\bs.length+1∉f/\bs.length+2∉f/\oC (entered ⟨s,[],[]⟩ (l.take i)) (bs.length+5) ce cs ⟨a,f,u⟩/\Frm ⟨bs,fz,b⟩ ⟨a,f,u⟩/\(∀k,kOf ce=some k->b.length<=k)/\(∀k,kOf cs=some k->b.length<=k)) l.length
  ⟨0, .d (.slice true []), .d (.slice true []),true,true,c,q,b,rfl,aq _,rfl,h5,M,a3,a4,ac,Y,fun k e=>(by cases e),fun k e=>(by cases e)⟩ ?_
 rintro m st ⟨i,ce,cs,K,L,a,f,u,rfl,j,rfl,q5,N,w5,w6,qd,qf,qe,qs⟩;obtain⟨D,W⟩:∃D,D=entered ⟨s,[],[]⟩ (l.take i):=⟨_,rfl⟩
 have o:D.Live:=by rw[W];exact Ld hs _
 rw[<-W]at N qd;have a6:bs.length+5<a.length:=(ap.1 qd.box).1;have w:bs.length+1<a.length:=by omega
 have y:bs.length+2<a.length:=by omega
 rw[XY]at N;simp only[bO,cf]at N
 by_cases n:i<l.length
 case neg=>
  have ai:i=l.length:=by omega
  subst ai;rw[ao]at W;rw[alX]at q5;simp only[bO,cf]at q5;simp only[an,U,q5,N,w5,w,y,mD,wu,az w,av,RN,F,I,J,O,Q,S];rw[<-W];simp only[lU,bA,dR,RN,F,I,J,O,Q,S];exact⟨qf.KG (by simp only;omega),bs.length+5,ce,cs,K,L,by rw[XY],by omega,qd.KG (by omega),qe,qs⟩
 obtain⟨g2,g3,g6⟩:=rng n (by omega);have r:entered ⟨s,[],[]⟩ (l.take (i+1))=(D.enter (l.getD i default)).1:=by rw[aS n,Dv,<-W]
 have a2:=hn _ (getD_mem n);obtain⟨x,B⟩:∃x,x=l.getD i default:=⟨_,rfl⟩
 rw[<-B]at r a2;have hG:=am5 o x (by omega);have hE:=fun KP=>Zw qd o.ok x (KP:=KP)
 rw[IY,dM]at hG;rw[dM]at hE;simp only[g2,g3,n,getD_map,<-B,dM,V,U,N,y,RN,F,I,J,O,Q,S];refine ak rfl rfl hG ?_;simp only[g2,g3,n,getD_map,<-B,dM,V,U,RN,F,I,J,O,Q,S];refine SC.jU (SC.mono (hE (fun _ _=>False)) ?_) (fun _ _ h=>h.elim);rintro p ⟨ab,T,a5⟩ ⟨rfl,P,R,r1,r2⟩;have he:(D.enter x).2=xI D x:=by rw[H7 o]
 have z:((D.enter x).2 !=xI D x)=false:=by rw[he];simp
 have ax:=r2.len;simp only at ax;have h5:=(r2.box (bs.length+1) w (by omega)).trans q5;have M:=(r2.box (bs.length+2) y (by omega)).trans N;have v5:bs.length+1∉T:=fun e=>w5 ((r2.fz _ w).1 e)
 have v6:bs.length+2∉T:=fun e=>w6 ((r2.fz _ y).1 e)
 have apl:bs.length+2<ab.length:=by omega
 obtain⟨n1,n2,n3⟩:=qf.arf r2 (by simp only;omega) qe qs r1.fzb;simp only at M
 by_cases hz:xI D x=0
 ·have zz:(xI D x==0)=true:=by simp[hz]
  have G:(D.enter x).1=D.with x:=by rw[H7 o];simp[hz]
  have hW:=aeu o hz;rw[IY (D:=D),dM,IY]at hW;simp only[z,zz,g2,g3,n,getD_map,<-B,dM,V,U,M,apl,RN,F,I,J,O,Q,S];refine ak rfl rfl hW ?_;simp only[M,v6,apl,g6,RN,F,I,J,O,Q,S];refine⟨l.length - (i+1),_,by omega, .inl rfl,i+1,P,R,false,false,_,_,_,rfl,by omega,rfl,?_,?_,v5,v6,?_,?_,n2,n3⟩
  ·rw[bu (by omega)];exact h5
  ·rw[az apl,r,G];simp[rdF]
  ·rw[r];exact r1.KG (by omega)
  ·exact n1.KG (by simp only;omega)
 ·have zz:(xI D x==0)=false:=beq_false_of_ne hz
  have G:(D.enter x).1=D:=by rw[H7 o];simp[hz]
  simp only[z,zz,g6,RN,F,I,J,O,Q,S];refine⟨l.length - (i+1),_,by omega, .inl rfl,i+1,P,R,K,L,_,_,_,rfl,by omega,rfl,h5,?_,v5,v6,?_,n1,n2,n3⟩
  ·rw[r,G,M];simp[rdF]
  ·rw[r];exact r1
end Go.Tel
namespace Go.Am
variable{bs:List (Option (List PV))}{fz:List Nat}{ar:List (Option Arr)}
def ajf {C:Ctx}{base:Nat}{L:PV->Mem->Prop}{KP:DV->Mem->Prop}{sz:Nat}{z:DV}{k k':IntKind}{n:Int}:au C base (.mkRow sz z) [.d (.int k n), .d (.int k' n)] ⟨bs,fz,ar⟩ L KP=(0<=n/\n<=1048576/\0<sz/\z.fits sz=true/\L (.tsl ar.length 0 0) ⟨bs,fz,ar++ [some ⟨sz,b4 n.toNat z,0,1⟩]⟩):=by
 simp[au]
def aoY {K:St->Prop}{k ver t sz st:Nat}{ts:List Nat}{xs:List DV}{env:List (Nat×PV)}(h:ar[k]?=some (some ⟨sz,xs,ver,st⟩)):
  QN (.tsl k ver 0) t ts K env ⟨bs,fz,ar⟩=tH ts K ⟨(t, .d (.slice false xs))::env,⟨bs,fz,ar.set k (some ⟨sz,xs,ver,2⟩)⟩⟩:=by
 rw[Go.Tel.Tf h,List.drop_zero]
end Go.Am
namespace Go.Tel
open Go.Am
variable{M:Mem}{bs:List (Option (List PV))}{fz:List Nat}{ar:List (Option Arr)}{c:PV}
def ajp {L:List Int}{t:Nat}{ts:List Nat}{env:List (Nat×PV)}{K:St->Prop}(hc:slN 1 true c (L.map ay) ar)(a:∀k,kOf c=some k->M.aB.length<=k)(hf:Frm M ⟨bs,fz,ar⟩)
  (b:∀ex ar',Frm M ⟨bs,fz,ar'⟩->tH ts K ⟨(t, .d (.slice ex (L.map ay)))::env,⟨bs,fz,ar'⟩⟩):QN c t ts K env ⟨bs,fz,ar⟩:=by
 rcases hc with⟨rfl,h⟩|⟨k,ver,st,rfl,h,_⟩
 ·have:=b true ar hf
  rw[h]at this;exact this
 ·rw[aoY h]
  refine b false _ ⟨hf.len,by simpa using hf.bH,hf.box,hf.fz,fun j e=> ?_,hf.fzb⟩;have:=a k rfl;simp only;rw[bu (by omega)];exact hf.row j e
variable{K:PV->Mem->Prop}{KP:DV->Mem->Prop}{p:PV}{e:Int}
def ae5 {C:Ctx}{base:Nat}(a:p= .tup [c,pI e]\/(p= .d (.tup [.slice true [],dI e])/\c= .d (.slice true []))):
  (au C base (.ext 0) [p] M K KP=K c M)/\au C base (.ext 1) [p] M K KP=K (pI e) M:=by
 rcases a with rfl|⟨rfl,rfl⟩
 ·exact⟨qc,qg⟩
 ·exact⟨propext ⟨id,id⟩,propext ⟨id,id⟩⟩
def apJ (a:p= .tup [c,pI e]\/(p= .d (.tup [.slice true [],dI e])/\c= .d (.slice true []))):p.qZ=false:=by
 rcases a with rfl|⟨rfl,_⟩<;>rfl
def ajP (s:Su)(hs:s.ok=true)(l:List En)(hl:∀x∈l,x.Fit s)(n:l.length<=1000):Pure C 25 [s.dv,sF (l.map En.dv)] (.d (dG s l).dv) []:=by
 have o:=(Pc.good (Su.facts hs).1).l2;have b:=fun i (x:En) (f:x.Fit s) (k:x.kind=2)=>Ky (dG s (l.take i)) x.chg (by rw[(oL _ _).1];omega) (BJ f k).1.1 (by rw[(oL _ _).1];exact(BJ f k).1.2)
 simp only[dZ,sW]at b;refine ah mixed rfl YC ?_;rw[gU];simp only[MC,yg,U,RN,F,I,J,O,Q,S];refine aH l.length (fun i (_:Unit)=>⟨[(1, .d (sF (l.map En.dv))),(4, .ptr 1 0),(5, .ptr 2 0),(6,pI i)],
   ⟨[some (s.cs.map .d),some [.d (.slice true []), .d (.slice true [])],some [.d (sF ((dG s (l.take i)).links.map Lk.dv)), .d (sF ((dG s (l.take i)).hands.map ay))]],[0],[]⟩⟩)
  (fun i _=>True) 0 () (aq _) rfl trivial (fun i _ a _=> ?_) (fun _ _=> ?_)
 ·obtain⟨g,h,j⟩:=rng a (by omega)
  have f:=hl _ (getD_mem a);have c:=Dz f;have e:dG s (l.take (i+1))=mV (dG s (l.take i)) (l.getD i default):=by rw[aS a,je]
  simp only[g,h,a,getD_map,dM,V,U,RN,F,I,J,O,Q,S]
  by_cases k:(l.getD i default).kind=2
  ·have z:((l.getD i default).kind==2)=true:=beq_iff_eq.2 k
   have q:(l.getD i default).ns.length=3:=by rw[c,k];rfl
   have m:=b i _ f k;have p:0<(l.getD i default).ns.length:=by omega
   have l1:1<(l.getD i default).ns.length:=by omega
   have l2:2<(l.getD i default).ns.length:=by omega
   simp only[z,g,h,a,getD_map,dM,V,U,j0,t0,t1,t2,p,l1,l2,aI,RN,F,I,J,O,Q,S];refine⟨by decide,by decide,ak rfl rfl m ?_⟩;simp only[j,RN,F,I,J,O,Q,S];exact bn () a (by rw[e,mV,if_pos k]) trivial
  ·have z:((l.getD i default).kind==2)=false:=beq_false_of_ne k
   simp only[z,j,RN,F,I,J,O,Q,S];exact bn () a (by rw[e,mV,if_neg k]) trivial
 ·simp only[an,U,RN,F,I,J,O,Q,S]
  rw[ao,dZ]
def oC.rd {D:Dk}{d i:Nat}{ce cs:PV}{y:Option (List PV)}(h:oC D d ce cs ⟨bs,fz,ar⟩)(hi:i<bs.length)(hd:i<d):oC D d ce cs ⟨bs.set i y,i::fz,ar⟩:=by
 obtain⟨h1,h2,a,b⟩:=h.KG (y:=y) (i:=i) (by omega);refine⟨⟨h1.box,h1.ent,h1.str⟩,h2,fun e=> ?_,fun j c=> ?_⟩
 ·rcases a7.1 e with e|e
  ·omega
  ·exact a e
 ·rcases a7.1 c with rfl|e
  ·simpa using hi
  ·exact b j e
def ahQ {f:FuncId}{x:DV}{a:PV}{args:List PV}(h:SC C f (a:: .d x.strip::args) M K KP):SC C f (a:: .d x::args) M K KP:=by
 intro X w E b g e;cases e with
 |cons c t=>cases t with
  |cons h1 t=>cases h1 with
   |d hd=>exact h X w E _ g (.cons c (.cons (.d hd.strip) t))
end Go.Tel
namespace Go.Tel
open Go.Am
variable{s:Su}
def atG (hs:s.ok=true){p:Pc}(g:p.ok=true){h:Int}(d:0<=h)(h1:h.toNat<p.hands.length):(s.bil (cZ (bg p.links (p.hands.getD h.toNat default).toNat))).VB.1=UG s p h/\(s.bil (cZ (bg p.links (p.hands.getD h.toNat default).toNat))).VB.2.2=0:=by
 have a:=(Su.facts hs).2.2.2.2.2.2.2.2.1;have c:=Vx g d h1;simp only[lS,inR,Y,decide_eq_true_eq,a8]at c;obtain⟨⟨_,j⟩,e⟩:=c;have f:(s.bil (cZ (bg p.links (p.hands.getD h.toNat default).toNat))).ok=true:=by
  simp only[Bil.ok,Su.bil,Y]at a⊢;refine⟨⟨⟨⟨⟨?_,a.1.1.1.1.2⟩,a.1.1.1.2⟩,a.1.1.2⟩,a.1.2⟩,a.2⟩;simp only[qY,Y,decide_eq_true_eq,a8];refine⟨by rw[qp];omega,fun x b=> ?_⟩;simp only[cZ,cj]at b;obtain⟨q,i,b⟩:=b;have:=e q i;simp only[Pr.ok,Y]at this;simp only[a7,ck,or_false]at b
  rcases b with rfl|rfl
  ·exact this.1
  ·exact this.2
 simp only[UG,Bil.VB];rw[if_pos f];exact⟨rfl,rfl⟩
def atH (l:List En):(∀x∈l,x.Fit s)->0<=Sm l/\Sm l<=9999*(l.length:Int):=by
 induction l using uH with
 |h0=>exact fun _=>⟨cF _,cF _⟩
 |h1 l x b=>
  intro h;obtain⟨c,d⟩:=b fun y a=>h y (by simp[a])
  rw[wF,Z];simp only[aw,bd]
  split
  ·rename_i k
   have:=yO (h x (by simp)).fm (i:=1) (by rw[k];decide);omega
  ·omega
def atF (n:Nat):Nat->PV
 |0=> .d (.slice true [])
 |i+1=> .tsl n i 0
def atD (n:Nat):atj [] n=b4 n ⟨0,0⟩:=by
 apply bL;intro i;rw[atj,bh,List.getElem?_replicate]
 by_cases h:i<n
 ·rw[bk h,if_pos h];rfl
 ·rw[a1 (by simpa using h),if_neg h];rfl
def att (l:List En)(n:Nat):(atj l n).length=n:=by simp[atj]
def atI (s:Su)(l:List En):Pure C 5 [s.dv,sF (l.map En.dv)] (.d (.bool true)) []:=by
 have hB:=alP s l [];have hS:=fun h1 h2=>akz s h1 h2
 refine bU (aG mixed rfl ato ?_);rw[gU]at hB hS⊢;simp only[atm,aJ,mD,wu,RN,F,I,J,O,Q,S];refine ak rfl rfl hB ?_;cases hb:AP s l []
 ·(try simp only[RN,F,I,J,O,Q,S])
  exact ak rfl rfl Ry (by(try simp only[RN,F,I,J,O,Q,S]);rfl)
 obtain⟨hs,⟨hl,hn⟩, -⟩:=XP hb;obtain⟨bR,ct⟩:=Su.ab1 hs;simp only[U,RN,F,I,J,O,Q,S]
 by_cases bo:(l.length:Int)>20
 ·simp only[bo,RN,F,I,J,O,Q,S]
  exact ak rfl rfl Ry (by(try simp only[RN,F,I,J,O,Q,S]);rfl)
 simp only[bo,RN,F,I,J,O,Q,S];refine ak rfl rfl (hS bR (by omega)) ?_;cases u:s.ok
 ·(try simp only[RN,F,I,J,O,Q,S])
  exact ak rfl rfl Ry (by(try simp only[RN,F,I,J,O,Q,S]);rfl)
 have hW:=fun bs fz (h:FzB ⟨bs,fz,[]⟩)=>ah7 s u bR l (by omega) (fun x hx=>by have:=hn x hx;omega) h (KP:=fun _ _=>False)
 rw[gU]at hW;(try simp only[RN,F,I,J,O,Q,S]);refine SC.jU (SC.mono (hW _ _ (by intro i hi;simp at hi;simp[hi])) ?_) (fun _ _ h=>h.elim);rintro p ⟨bs,fz,ar⟩ ⟨qf,d,ce,cs,e1,e2,rfl,qd,qk,qe,qs⟩;obtain⟨D,hD⟩:∃D,D=entered ⟨s,[],[]⟩ l:=⟨_,rfl⟩
 have r:D.Live:=by rw[hD];exact Ld u _
 have cm:D.su=s:=by rw[hD];exact ade _ _
 rw[<-hD]at qk⊢;clear hW hS hB;have bu:bs[1]?=some none:=qf.box 1 (by simp);have aE:1<bs.length:=(ap.1 bu).1;have cf:1∉fz:=fun e=>by simpa using(qf.fz 1 (by simp)).1 e
 simp only[qc,qg,bu,aE,cf,az aE,av,mD,wu,List.set_set,XY,RN,F,I,J,O,Q,S];have bz:1<d:=by simp at qd;omega
 have hA:=fun y=>aii (qk.rd (y:=y) aE bz) r.ok ⟨11,[]⟩ (KP:=fun _ _=>False)
 rw[afa,atC r]at hA;refine ahQ (SC.jU (SC.mono (hA _) ?_) (fun _ _ h=>h.elim));rintro p ⟨a5,a6,ar4⟩ ⟨c,hp,hc,bw,hf⟩;simp only[apJ hp,(ae5 hp).1,(ae5 hp).2,RN,F,I,J,O,Q,S];obtain⟨A,a8⟩:∃A,A=bC D (-1):=⟨_,rfl⟩
 have q:=r.fits (-1);have bj:=r.goes;have bL:(dG D.su (bC D (-1))).ok=true:=by obtain⟨t,_,hr,cb⟩:=r.t;rw[<-hr.pc];exact cb.pc
 have aru:A.length<=26:=by have:=NM D (-1);rw[<-a8]at this;have:=r.ok.few;omega
 refine ajp hc bw hf fun ex ar5 bB=> ?_
 have FX:FzB ⟨a5,a6,ar5⟩:=bB.fzb (qk.rd (y:=_) aE bz).fzb;have ac:=Qw D r.ok.len (by have:=r.ok.few;omega) (-1);rw[IY]at ac;rw[cm]at q bj bL;rw[<-a8]at q bj bL ac;rw[<-a8];have cl:=(Su.facts u).1;have z0:((0:Int) !=0)=false:=rfl;(try simp only[RN,F,I,J,O,Q,S]);refine ak rfl rfl ac ?_;clear hA qk qf hc hf bB ac bw hp;simp only[ajf,U,RN,F,I,J,O,Q,S];have hg:=Pc.good cl;have cv:=hg.h2;refine⟨by omega,by omega,rfl,?_⟩;obtain⟨n,W⟩:∃n,n=s.pc.hands.length:=⟨_,rfl⟩
 have bN:b4 ((s.pc.hands.length:Int)).toNat (DV.agg [dI 0,dI 0])=(atj [] n).map Fr.dv:=by
  rw[V,<-W,atD,List.map_replicate,bW]
 rw[bN];have b9:FzB ⟨a5,a6,ar5⟩:=FX;obtain⟨N,hN⟩:∃N,N=ar5.length:=⟨_,rfl⟩
 simp only[<-hN];refine aH A.length (fun i (M:Mem)=>⟨[(2, .d (.aW s.cs)),(7, .d (.slice ex [ay (Sm A)])),(8,pI 0),(9, .d (sF (A.map En.dv))),(10, .tsl N 0 0),(11, .d (dI (Sm (A.take i)))),(12,pI i)],M⟩)
  (fun i M=>M.aB[N]?=some (some ⟨2,(atj (A.take i) n).map Fr.dv,0,1⟩)/\FzB M) 0 ⟨a5,a6,ar5++ [some ⟨2,(atj [] n).map Fr.dv,0,1⟩]⟩ (aq _) (by rw[uS];rfl) ⟨by rw[hN];simp,fun i hi=>b9 i hi⟩ ?_ ?_
 ·rintro i ⟨b,f,a⟩ H ⟨g,T⟩
  obtain⟨g2,g3,g6⟩:=rng H (by omega);obtain⟨x,w⟩:∃x,x=A.getD i default:=⟨_,rfl⟩
  have hx:x.Fit s:=by rw[w];exact q _ (getD_mem H)
  have a3:=Dz hx;have bE:qh s (A.take i) x=true:=by rw[w];exact atE bj H
  have a2:A.take (i+1)=A.take i++ [x]:=by rw[aS H,w]
  have o:=wF (A.take i) x;rw[<-a2]at o;simp only at g;simp only[g2,g3,H,getD_map,<-w,dM,V,U,RN,F,I,J,O,Q,S]
  by_cases Y:x.kind=3
  ·have z3:(x.kind==3)=true:=beq_iff_eq.2 Y
   have z4:(x.kind !=4)=true:=by simp[Y]
   have h3:x.ns.length=3:=by rw[a3,Y];rfl
   have l0:0<x.ns.length:=by omega
   have l1:1<x.ns.length:=by omega
   have l2:2<x.ns.length:=by omega
   obtain⟨d0,d1⟩:=hx.hd (.inl Y);have e0:x.n 0=x.ns.getD 0 default:=rfl;have cj:=atx Y bE;have R:=atv (l:=A.take i) (n:=n) d0 (by rw[W];exact d1);rw[cj,e0]at R;rw[e0]at d0 d1;have d2:(x.ns.getD 0 default).toNat<(atj (A.take i) n).length:=by rw[att,W];exact d1
   have cp:((0:Int) !=0)=false:=rfl;rw[if_neg (by omega)]at o;simp only[z3,z4,g2,g3,H,getD_map,<-w,dM,V,U,j0,t0,t1,t2,l0,l1,l2,aI,g,d0,d2,R,bW,cp,RN,F,I,J,O,Q,S];refine⟨by decide,by decide,qU (ds:=[dI _,dI _]) g rfl (by decide) rfl rfl (by rw[getD_map d2];exact bi 2) ?_⟩;obtain⟨o1,o2⟩:=atz (l:=A.take i) Y;rw[<-a2]at o1 o2;have a1:=atu (n:=n) (f:=⟨x.n 1,x.n 2⟩) (e0▸d0) o1 o2;have E:((atj (A.take i) n).map Fr.dv).set (x.ns.getD 0 default).toNat (setCells (((atj (A.take i) n).map Fr.dv).getD (x.ns.getD 0 default).toNat default) 0 [dI (x.ns.getD 1 default),dI (x.ns.getD 2 default)])=(atj (A.take (i+1)) n).map Fr.dv:=by
    rw[<-a1,cg,getD_map d2];rfl
   rw[E];simp only[g6,RN,F,I,J,O,Q,S];exact bn (⟨b,f,a.set N (some ⟨2,(atj (A.take (i+1)) n).map Fr.dv,0,1⟩)⟩:Mem) H (by rw[o]) ⟨by simp only;rw[az (ap.1 g).1],fun j hj=>T j hj⟩
  ·have z3:(x.kind==3)=false:=beq_false_of_ne Y
   by_cases k4:x.kind=4
   ·have z4:(x.kind !=4)=false:=by simp[k4]
    have h2:x.ns.length=2:=by rw[a3,k4];rfl
    have l0:0<x.ns.length:=by omega
    have l1:1<x.ns.length:=by omega
    obtain⟨d0,d1⟩:=hx.hd (.inr k4);have e0:x.n 0=x.ns.getD 0 default:=rfl;obtain⟨v1,v2,v3,v4⟩:=aty k4 bE;have R:=atv (l:=A.take i) (n:=n) d0 (by rw[W];exact d1);have hP:=ajP s u (A.take i) (fun y hy=>q y (bv hy)) (by rw[ax];omega);rw[gU,dZ]at hP;rw[if_pos k4]at o;have gi:¬(i:Int)>(A.length:Int):=by omega
    simp only[z3,z4,g2,g3,H,getD_map,<-w,dM,V,U,uS,RN,F,I,J,O,Q,S];have bO:=fun base M K KP=>yN (C:=C) (base:=base) (sz:=2) (M:=M) (K:=K) (KP:=KP) (xs:=A.map En.dv) (k:= .i64) (n:=(i:Int)) (by intro y hy;simp only[bS]at hy;obtain⟨z,_,rfl⟩:=hy;rfl) (by omega) (by rw[U];omega)
    simp only[V,<-b6]at bO;have ch:b.length∉f:=fun e=>b7 _ (T _ e)
    rw[bO];refine ak rfl rfl hP ?_;have P:=e0▸d0;have G:(x.ns.getD 0 default).toNat<(atj (A.take i) n).length:=by rw[att,W];exact d1
    rw[e0]at R;simp only[bD,bQ,aQ,bV,dh,aV,am,Z,aD,av,ch,mD,wu,g2,g3,H,l0,l1,j0,t0,t1,aI,getD_map,U,g,P,G,R,bW,RN,F,I,J,O,Q,S];obtain⟨p,X⟩:∃p,p=dG s (A.take i):=⟨_,rfl⟩
    have be:∀y∈A.take i,y.Fit s:=fun y hy=>q y (bv hy)
    have a0:p.ok=true:=by rw[X];exact ahv u _ be
    have aR:=Pc.good a0;have ck:p.hands=s.pc.hands:=by rw[X];exact as5 s _
    have ab:(x.ns.getD 0 default).toNat<p.hands.length:=by rw[ck];exact d1
    obtain⟨fr,bh⟩:∃fr,fr=atl (A.take i) (x.ns.getD 0 default):=⟨_,rfl⟩
    have ca:fr.ok=true:=by rw[bh,<-e0,v2];exact L6 _ _ be v1
    have cn:=aif a0 P ab ca (show(0:Int)<=100/\(100:Int)<=10000 by omega);have bt:=ae3 p (by have:=aR.l2;omega) (by have:=aR.h2;omega) (x.ns.getD 0 default) fr 100;rw[cn,dZ,bW]at bt;have hm:=aR.hd _ (getD_mem ab);obtain⟨m,bk⟩:∃m:Nat,(m:Int)=p.hands.getD (x.ns.getD 0 default).toNat default:=⟨(p.hands.getD (x.ns.getD 0 default).toNat default).toNat,by omega⟩
    rw[<-bk]at hm;have br:=alK p a0 m (by omega) (by omega);rw[dZ]at br;rw[<-X,e0,<-bh]at v3;rw[<-X,e0]at v4;simp only[<-X,<-bh];refine ak rfl rfl bt ?_;simp only[ab,getD_map,aI,<-bk,U,RN,F,I,J,O,Q,S];refine ak rfl rfl br ?_;obtain⟨t,bl⟩:∃t,t=bg p.links m:=⟨_,rfl⟩
    have b3:t.length<=3:=by rw[bl,bg,U];exact aR.short m (by omega)
    have w1:cJ .i64 (0 - s.lim)= -s.lim:=by have:=(Su.facts u).2.2.1;rw[aF (by simp[inR]at this;omega)];omega
    have y1:¬aj6 p (x.ns.getD 0 default) fr 100< -s.lim:=by omega
    have y2:¬aj6 p (x.ns.getD 0 default) fr 100>s.lim:=by omega
    have y3:¬(t.length:Int)>3:=by omega
    simp only[<-bl];simp only[z0,w1,y1,y2,y3,U,RN,F,I,J,O,Q,S];obtain⟨B,hB⟩:∃B,B=b++ [some [PV.d (DV.slice false (cH Lk.dv p.links)),PV.d (DV.slice false (cH ay p.hands))]]:=⟨_,rfl⟩
    have cq:B.length=b.length+1:=by rw[hB];simp
    obtain⟨F',bp⟩:∃F',F'=b.length::f:=⟨_,rfl⟩
    have a9:∀j∈F',j<B.length:=by
     rw[bp];intro j hj
     rcases a7.1 hj with rfl|hj
     ·omega
     ·have:=T j hj;simp only at this;omega
    have L:B.length∉F':=fun e=>b7 _ (a9 _ e)
    simp only[<-hB,<-bp];simp only[bD,bQ,aQ,bV,dh,aV,am,Z,aD,av,L,mD,wu,RN,F,I,J,O,Q,S];have ai:=aij (s.bil (cZ t)) (by simp only[Su.bil,qp];omega);rw[JI]at ai;obtain⟨b1,b2⟩:=atG u a0 P ab;rw[<-bk,V,<-bl]at b1 b2;refine aH t.length (fun k (_:Unit)=>⟨[(2, .d (.aW s.cs)),(7, .d (.slice ex [ay (Sm A)])),(8,pI 0),(9, .d (sF (A.map En.dv))),(10, .tsl N 0 0),(11, .d (dI (Sm (A.take i)))),(12,pI i),(13, .d (sF (x.ns.map ay))),(17, .d (sF (t.map Pr.dv))),(19, .ptr B.length 0),(20,pI k)],
      ⟨B++ [some [atF a.length k,pI s.gq,pI s.hours,pI s.lC,pI s.pct,pI 0]],F',a++prA t k⟩⟩)
     (fun _ _=>True) 0 () (aq _) (by rw[uS,prA,bc];rfl) trivial (fun k _ k1 _=> ?_) (fun _ _=> ?_)
    ·obtain⟨k2,Y,k6⟩:=rng k1 (by omega)
     have b0:(cZ (t.take k)).map ay++ [dI (t.getD k default).a,dI (t.getD k default).b]=(cZ (t.take (k+1))).map ay:=by
      rw[aS k1];simp[cZ,ay]
     have cc:((cZ (t.take k)).map ay).length<=2000000:=by simp only[U,qp,ax];omega
     have y5:B.length<B.length+1:=by omega
     have g0:cJ .i64 (((0:Nat):Int)+1)=((0+1:Nat):Int):=by rw[aF (by omega)];rfl
     rcases k with _|k
     ·have ar8:[dI (t.getD 0 default).a,dI (t.getD 0 default).b]=(cZ (t.take (0+1))).map ay:=by simpa[cZ]using b0
      simp only[atF,prA,k2,Y,k1,y5,U,getD_map,V,jJ,Lh,bM,dB,bD,bQ,aQ,bV,dh,aV,am,Z,aD,av,L,mD,wu,RN,F,I,J,O,Q,S];refine⟨by rintro y (rfl|rfl)<;>rfl,by simp,by simp,?_⟩;rw[ar8,g0];exact bn () k1 rfl trivial
     ·simp only[atF,prA,k2,Y,k1,y5,U,getD_map,V,jJ,Lh,bM,dB,bD,bQ,aQ,bV,dh,aV,am,Z,aD,av,L,mD,wu,RN,F,I,J,O,Q,S]
      refine⟨by rintro y (rfl|rfl)<;>rfl,by simp,?_⟩;rw[aM (bi _),bX];refine⟨rfl,rfl,by simp,by simpa using aL cc (by decide),?_⟩;rw[List.set_append_right _ _ (bi _),bX];simp only[bD,bQ,aQ,bV,dh,aV,am,Z,aD,av,L,k6,bM,dB,RN,F,I,J,O,Q,S];refine bn () k1 ?_ trivial;rw[b0]
    ·have y6:¬x.ns.getD 1 default<UG s p (x.ns.getD 0 default):=by have e:x.n 1=x.ns.getD 1 default:=rfl;omega
     have b5:(0:Int)<=1:=by omega
     obtain⟨o1,o2⟩:=atB (l:=A.take i) k4;rw[<-a2]at o1 o2;have a1:=atu (n:=n) (f:=⟨0,0⟩) d0 o1 o2;rw[e0]at a1;have E:((atj (A.take i) n).map Fr.dv).set (x.ns.getD 0 default).toNat (setCells (((atj (A.take i) n).map Fr.dv).getD (x.ns.getD 0 default).toNat default) 0 [dI 0,dI 0])=(atj (A.take (i+1)) n).map Fr.dv:=by
      rw[<-a1,cg,getD_map G];rfl
     have cr:=atH (A.take i) be;have cz:0<=x.n 1/\x.n 1<=9999:=yO hx.fm (by rw[k4];decide);have cw:(A.take i).length<=26:=by rw[ax];omega
     have w2:cJ .i64 (Sm (A.take i)+x.ns.getD 1 default)=Sm (A.take i)+x.n 1:=by rw[aF (by have e:x.n 1=x.ns.getD 1 default:=rfl;omega)];rfl
     have b8:N<a.length:=(ap.1 g).1
     rcases hln:t.length with _|k
     ·have a4:t=[]:=List.eq_nil_of_length_eq_zero hln
      rw[a4]at ai b1 b2;rw[a4];simp only[atF,prA,an,bD,bQ,aQ,bV,dh,aV,am,Z,aD,av,L,mD,wu,RN,F,I,J,O,Q,S];refine kS (La rfl) rfl ai rfl ?_;simp only[b1,b2,z0,y6,l0,l1,j0,t0,t1,b5,getD_map,aI,U,P,G,g,bD,bQ,aQ,am,Z,aD,RN,F,I,J,O,Q,S];refine qU (ds:=[dI 0,dI 0]) g rfl (by decide) rfl rfl (by rw[getD_map G];exact bi 2) ?_;rw[E];simp only[g6,w2,RN,F,I,J,O,Q,S];exact bn (⟨B++ [some [.d (.slice true []),pI s.gq,pI s.hours,pI s.lC,pI s.pct,pI 0]],F',cI a N (some ⟨2,(atj (A.take (i+1)) n).map Fr.dv,0,1⟩)⟩:Mem) H (by rw[o,uS]) ⟨by simp only;rw[az (ap.1 g).1],fun j hj=>by have:=a9 j hj;simp only[Z,aw,bd];omega⟩
     ·have b3:t.take (k+1)=t:=by rw[<-hln,ao]
      have v:=(ae (l₂:=[some (⟨1,(cZ t).map ay,k,0⟩:Arr)]) b8).trans g;simp only[atF,prA,hln,b3,an,U,bD,bQ,aQ,bV,dh,aV,am,Z,aD,av,L,mD,wu,bI,bA,eP,RN,F,I,J,O,Q,S];refine kS (La (d:= .agg [sF ((cZ t).map ay),dI s.gq,dI s.hours,dI s.lC,dI s.pct,dI 0]) (by simp[datum,cu,fA,Mem.row])) rfl ai rfl ?_;simp only[b1,b2,z0,y6,l0,l1,j0,t0,t1,b5,getD_map,aI,U,P,G,v,bD,bQ,aQ,am,Z,aD,RN,F,I,J,O,Q,S];refine qU (ds:=[dI 0,dI 0]) v rfl (by decide) rfl rfl (by rw[getD_map G];exact bi 2) ?_;rw[E];simp only[g6,w2,RN,F,I,J,O,Q,S];exact bn (⟨B++ [some [.tsl a.length k 0,pI s.gq,pI s.hours,pI s.lC,pI s.pct,pI 0]],F',cI (a++ [some ⟨1,(cZ t).map ay,k,0⟩]) N (some ⟨2,(atj (A.take (i+1)) n).map Fr.dv,0,1⟩)⟩:Mem) H (by rw[o,uS]) ⟨by simp only;rw[az (ap.1 v).1],fun j hj=>by have:=a9 j hj;simp only[Z,aw,bd];omega⟩
   ·have z4:(x.kind !=4)=true:=by simp[k4]
    rw[if_neg k4]at o;have atJ:=atA (l:=A.take i) Y k4 n;rw[<-a2]at atJ;simp only[z3,z4,g2,g3,H,getD_map,<-w,dM,V,U,g6,RN,F,I,J,O,Q,S];exact bn _ H (by rw[o]) ⟨by rw[atJ];exact g,T⟩
 ·rintro⟨b,f,a⟩ ⟨g,T⟩
  have bq:=apU [Sm A] [Sm A] (by simp) (by simp);rw[decide_eq_true rfl]at bq;simp only[an,U,ao,RN,F,I,J,O,Q,S];simp only[z1,iC,DV.strip,RN,F,I,J,O,Q,S];refine ak rfl rfl bq ?_;(try simp only[RN,F,I,J,O,Q,S]);refine ak rfl rfl Ry ?_;(try simp only[RN,F,I,J,O,Q,S])
  rfl
end Go.Tel
namespace Go.Am
variable{ds:List DV}
def afg {k:IntKind}(h:Has (.int k) ds):∃n,ds=[.int k n]:=by cases h;exact⟨_,rfl⟩
def vZ (h:Has (.struct []) ds):ds=[]:=by cases h;rfl
variable{ts:List Ty}
def Lr {t:Ty}(h:Has (.struct (t::ts)) ds):∃a b,ds=a++b/\Has t a/\Has (.struct ts) b:=by cases h with|cons h c=>exact⟨_,_,rfl,h,c⟩
def rQ {k:IntKind}(h:Has (.struct (.int k::ts)) ds):∃n b,ds= .int k n::b/\Has (.struct ts) b:=by
 obtain⟨a,b,rfl,h1,h2⟩:=Lr h;obtain⟨n,rfl⟩:=afg h1;exact⟨n,b,rfl,h2⟩
def ait {α:Type}{e:Ty}{dv:α->DV}:∀{xs:List DV},(∀x∈xs,∃a,x=dv a)->∃l:List α,xs=l.map dv
 | [],_=>⟨[],rfl⟩
 |x::xs,h=>by
  obtain⟨a,rfl⟩:=h x List.mem_cons_self;obtain⟨l,rfl⟩:=ait (e:=e) fun y b=>h y (List.mem_cons_of_mem _ b)
  exact⟨a::l,rfl⟩
variable{e:Ty}
def aju {α:Type}{dv:α->DV}(hd:∀x,Has e x.cells->Shp e x->∃a,x=dv a){ds:List DV}(h:Has (.slice e) ds):∃l:List α,ds=[.slice false (l.map dv)]:=by
 cases h with
 |slice h c=>
  rename_i xs
  obtain⟨l,rfl⟩:=ait (e:=e) fun x b=>hd x (h x b) (c x b)
  exact⟨l,rfl⟩
def Tq {α:Type}{dv:α->DV}(hd:∀x,Has e x.cells->Shp e x->∃a,x=dv a){ts:List Ty}{ds:List DV}(h:Has (.struct (.slice e::ts)) ds):∃(l:List α) (b:List DV),ds= .slice false (l.map dv)::b/\Has (.struct ts) b:=by
 obtain⟨a,b,rfl,h1,h2⟩:=Lr h;obtain⟨l,rfl⟩:=aju hd h1;exact⟨l,b,rfl,h2⟩
variable{xs:List DV}
def an1 {T:Ty}{Ts:List Ty}(h:Df (T::Ts) xs):∃x l,xs=x::l/\afV T x/\Df Ts l:=by
 cases xs with
 |nil=>exact h.elim
 |cons x l=>exact⟨x,l,rfl,h.1,h.2⟩
def ao2 (h:Df [] xs):xs=[]:=by
 cases xs with
 |nil=>rfl
 |cons x l=>exact h.elim
end Go.Am
namespace Go.Tel
open Go.Am
abbrev adw:Ty:= .struct [.int .i64, .int .i64]
abbrev adS:Ty:= .struct [.int .i64, .struct [.int .i64, .int .i64]]
abbrev X9:Ty:= .struct [.bool, .int .i64, .int .i64, .int .i64]
abbrev Ir:Ty:= .struct [.struct [.slice adS, .slice (.int .i64)], .slice adw, .int .i64, .struct [.int .i64, .slice (.int .i64)], .struct [.int .i64, .slice (.int .i64)], .struct [.int .i64, .int .i64, .int .i64], .slice X9, .int .i64, .int .i64, .int .i64, .int .i64, .int .i64]
abbrev Ad:Ty:= .struct [.int .i64, .slice (.int .i64)]
variable{ds:List DV}
def Tt {fs ts:List Ty}(h:Has (.struct (.struct fs::ts)) ds):∃a b,ds=a++b/\Has (.struct fs) a/\Has (.struct ts) b:=Lr h
def ajt (h:Has .bool ds):∃b,ds=[.bool b]:=by cases h;exact⟨_,rfl⟩
def Yd (x:DV)(h:Has (.int .i64) x.cells)(hs:Shp (.int .i64) x):∃n:Int,x=ay n:=by
 obtain⟨n,h⟩:=afg h;rw[hs.2 rfl]at h;exact⟨n,(List.cons.inj h).1⟩
def ao4 (x:DV)(h:Has adw x.cells)(hs:Shp adw x):∃p:Fr,x=p.dv:=by
 obtain⟨cs,rfl⟩:=hs.1 rfl;obtain⟨a,_,c,h1⟩:=rQ h;obtain⟨b,_,rfl,h2⟩:=rQ h1;obtain rfl:=vZ h2;exact⟨⟨a,b⟩,by rw[Fr.dv];exact congrArg DV.agg c⟩
def ao6 (x:DV)(h:Has adS x.cells)(hs:Shp adS x):∃p:Lk,x=p.dv:=by
 obtain⟨cs,rfl⟩:=hs.1 rfl;obtain⟨a,_,d,h1⟩:=rQ h;obtain⟨_,_,rfl,h2,e⟩:=Tt h1;obtain rfl:=vZ e;obtain⟨b,_,rfl,f⟩:=rQ h2;obtain⟨c,_,rfl,g⟩:=rQ f;obtain rfl:=vZ g;exact⟨⟨a,⟨b,c⟩⟩,by rw[Lk.dv];exact congrArg DV.agg d⟩
def ao5 (x:DV)(h:Has X9 x.cells)(hs:Shp X9 x):∃p:Fs,x=p.dv:=by
 obtain⟨cs,rfl⟩:=hs.1 rfl;obtain⟨_,_,e,f,h1⟩:=Lr h;obtain⟨a,rfl⟩:=ajt f;obtain⟨b,_,rfl,h2⟩:=rQ h1;obtain⟨c,_,rfl,g⟩:=rQ h2;obtain⟨d,_,rfl,i⟩:=rQ g;obtain rfl:=vZ i;exact⟨⟨a,b,c,d⟩,by rw[Fs.dv];exact congrArg DV.agg e⟩
def ao3 (x:DV)(h:Has Ad x.cells)(hs:Shp Ad x):∃p:En,x=p.dv:=by
 obtain⟨cs,rfl⟩:=hs.1 rfl;obtain⟨a,_,c,h1⟩:=rQ h;obtain⟨b,_,rfl,h2⟩:=Tq Yd h1;obtain rfl:=vZ h2;exact⟨⟨a,b⟩,by rw[En.dv];exact congrArg DV.agg c⟩
variable{x:DV}
def aqp (h:afV (.slice Ad) x):∃l:List En,x= .slice false (l.map En.dv):=by
 obtain⟨l,h1⟩:=aju ao3 h.1;rw[h.2.2 rfl]at h1;exact⟨l,(List.cons.inj h1).1⟩
def arn (h:afV Ir x):∃s:Su,x=s.dv:=by
 obtain⟨h,F⟩:=h;obtain⟨cs,rfl⟩:=F.1 rfl;obtain⟨_,_,u,h1,h2⟩:=Tt h;obtain⟨l,_,rfl,v⟩:=Tq ao6 h1;obtain⟨hd,_,rfl,w⟩:=Tq Yd v;obtain rfl:=vZ w;obtain⟨tg,_,rfl,z⟩:=Tq ao4 h2;obtain⟨lim,_,rfl,A⟩:=rQ z;obtain⟨_,_,rfl,B,C⟩:=Tt A;obtain⟨wo,_,rfl,D⟩:=rQ B;obtain⟨ci,_,rfl,a⟩:=Tq Yd D;obtain rfl:=vZ a;obtain⟨_,_,rfl,b,c⟩:=Tt C;obtain⟨ep,_,rfl,d⟩:=rQ b;obtain⟨cy,_,rfl,e⟩:=Tq Yd d;obtain rfl:=vZ e;obtain⟨_,_,rfl,f,g⟩:=Tt c;obtain⟨I,_,rfl,i⟩:=rQ f;obtain⟨H,_,rfl,j⟩:=rQ i;obtain⟨G,_,rfl,k⟩:=rQ j;obtain rfl:=vZ k;obtain⟨fs,_,rfl,m⟩:=Tq ao5 g;obtain⟨y,_,rfl,n⟩:=rQ m;obtain⟨t,_,rfl,o⟩:=rQ n;obtain⟨E,_,rfl,p⟩:=rQ o;obtain⟨K,_,rfl,q⟩:=rQ p;obtain⟨J,_,rfl,r⟩:=rQ q;obtain rfl:=vZ r;exact⟨⟨⟨l,hd⟩,tg,lim,⟨wo,ci⟩,⟨ep,cy⟩,⟨I,H,G⟩,fs,y,t,E,K,J⟩,by rw[gU];exact congrArg DV.agg u⟩
end Go.Tel
namespace Go.Am
section
variable {H:Type}{enc:TypeId×Value->H}{P:Program}{w:World}{base:Nat}{spare:Nat->Bool}{held:Bool}
def QK:∀{ts:List TypeId} {vs:List Value} {ds:List (DataW H)} {ps:List MemPlace},DataW.TrodAll enc P w base spare held ts vs ds ps->ds.length=ts.length
 | [],[],[],_,_=>rfl
 |t::ts,v::vs,d::ds,ps,h=>by
  obtain⟨p,q,_,h2,_⟩:=h;rw[aw,aw,QK h2]
 | [],_::_,_,_,h=>by cases h
 | [],[],_::_,_,h=>by cases h
 | _::_,[],_,_,h=>by cases h
 | _::_,_::_,[],_,h=>by cases h
end
def aqX {α:Type}{l:List α}(h:l.length=1):∃a,l=[a]:=List.length_eq_one_iff.1 h
def aq0 {α:Type}{l:List α}{n:Nat}(h:l.length=n+1):∃a r,l=a::r/\r.length=n:=by
 cases l with
 |nil=>cases h
 |cons a r=>exact⟨a,r,rfl,by simpa using h⟩
def aqY {α:Type}{l:List α}(h:l.length=2):∃a b,l=[a,b]:=by
 obtain⟨a,r,rfl,h1⟩:=aq0 h;obtain⟨b,rfl⟩:=aqX h1;exact⟨a,b,rfl⟩
variable{P:Program}{l:List (String×DataW Unit)}
def ajZ {w:World}(a:(l.filter fun x=>x.2.handleName?.isSome)=[])(h:laidMetH P l w):laidMet P l w:=by
 unfold laidMetH at h;rw[a]at h;exact h
def afQ {P:Program}{w:World}{n:String}{d:DataW Unit}:∀{l:List (String×DataW Unit)} {ps:List MemPlace},DataW.LaidVars P w l ps->(n,d)∈l->
  ∃g t cs a p,P.globalNamed n=some g/\(P.globals[g]?).map (·.type)=some t/\w.var? P n=some cs/\DataW.trod (fun _=>()) P w 0 (fun _=>true) false a t cs.toList=some (d,p)
 | [],_,_,h=>by cases h
 |(j,i)::l,ps,h,b=>by
  obtain⟨g,t,cs,a,p,q,h1,h2,c,e,f,_⟩:=h;cases b with
  |head=>exact⟨g,t,cs,a,p,h1,h2,c,e⟩
  |tail _ b=>exact afQ f b
def alp {W:World}{name:String}{k:IntKind}{zs:List Int}{g:Nat}{t e:TypeId}{n:Nat}
  (o:P.globalNamed name=some g)(i:(P.globals[g]?).map (·.type)=some t)(r:P.underlying t=some (.array n e))(m:P.underlying e=some (.int k))(b:P.cellsOf e=1)(c:P.cellsOf t=n)
  (h:laidMet P l W)(q:(name,Lib.tabData k zs)∈l):Lib.TabIs P W name k zs:=by
 obtain⟨v,s,_⟩:=h;obtain⟨u,w,cs,j,p,d,f,a,hd⟩:=afQ s q;obtain rfl:=Option.some.inj (o.symm.trans d);obtain rfl:=Option.some.inj (i.symm.trans f);unfold Lib.TabIs;rw[a,<-Lib.cells_of_tab r m b c hd]
end Go.Am
namespace Go.Tel
open Go.Am
def apE {W:World}(h:C.G W):∀b,C.low b->b<W.heap.size/\∀c T fz,W.heap[b]?=some (.cells c T fz)->∀(i:Nat) (n:Int),c[i]?≠some (.int .i64 n):=by
 intro b j;have e:Go.Proofs.Tryz.prog.globalNamed "internal/strconv.uint64pow10" =some b:=j;have a:W.var? Go.Proofs.Tryz.prog "internal/strconv.uint64pow10" =some (Go.Lib.pow10Tab.map fun z=>Value.int .u64 z).toArray:=h;unfold World.var? at a;rw[e]at a;simp only[cm]at a;cases f:W.heap[b]? with
 |none=>rw[f]at a;cases a
 |some o=>
  rw[f]at a;refine⟨dw f,fun c T fz k i n d=> ?_⟩;cases k;simp only[Option.some.injEq]at a;subst a;rw[List.getElem?_toArray,bh]at d;cases g:Go.Lib.pow10Tab[i]? with
  |none=>rw[g]at d;cases d
  |some z=>rw[g]at d;cases d
end Go.Tel
namespace Go.Proofs.YtbefoehadfnkbaaGreatDoor
open Go.ChangeShapes Go.WideShapes Go.RowKit Go.Am
def gG {a b:Bool}(c:a=true)(hb:b=true):(a&&b)=true:=by rw[c,hb];rfl
def own:ownKnob Tryz.prog.godebug=none:=by kernel_rfl
def laidOut:laidOutB Tryz.prog=true:=by kernel_rfl
def I4:List (String×DataW Unit):=Rows.journeymanWheelsRow.laid
def laid_met (os:Os)(args:Array Value):laidMet Tryz.prog I4 ((World.laidAll Tryz.prog os I4).forCall (fun _ _=>0) ⟨#[],args,[]⟩).memory:=
 laidMet_laidAll args (by kernel_rfl) (by kernel_rfl)
def ag7 (os:Os)(args:Array Value):laidMetH Tryz.prog I4 ((World.laidAll Tryz.prog os I4).forCall (fun _ _=>0) ⟨#[],args,[]⟩).memory:=
 laidMetH_of_parts (laid_met os args) (by kernel_rfl)
def alo:(Rows.laid_internal_strconv_uint64pow10:DataW Unit)=Lib.tabData .u64 Lib.pow10Tab:=rfl
def anM:("internal/strconv.uint64pow10",(Rows.laid_internal_strconv_uint64pow10:DataW Unit))∈I4:=List.Mem.tail _ (List.Mem.tail _ (List.Mem.head _))
def apY {W:World}(h:laidMetH Tryz.prog I4 W):Go.Tel.C.G W:=
 alp (P:=Tryz.prog) (g:=1) (t:=390) (e:=372) (n:=20) (by kernel_rfl) (by kernel_rfl) (by kernel_rfl) (by kernel_rfl) (by kernel_rfl) (by kernel_rfl) (ajZ (by kernel_rfl) h) (alo▸anM)
end Go.Proofs.YtbefoehadfnkbaaGreatDoor
