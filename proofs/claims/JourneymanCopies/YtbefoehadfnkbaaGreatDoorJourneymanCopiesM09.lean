/-
  Part 9 of a law of desks.
  Conditions: none.
-/
import Derived.Test.YtbefoehadfnkbaaGreatDoorJourneymanCopiesM07
import Derived.Test.YtbefoehadfnkbaaGreatDoorJourneymanCopiesM08
import Derived.Test.YtbefoehadfnkbaaGreatDoorRows
import Derived.Lay
import Derived.Handed
import Derived.LaidHandle
import Derived.Lib.LaidTab
set_option linter.all false
set_option maxRecDepth 10000
set_option maxHeartbeats 4000000
open Nat renaming reduceBEq->B,reduceAdd->F,reduceSub->I,reduceEqDiff->J,reduceLT->N,reduceLeDiff->O,zero_le->ae,sub_zero->an,le_trans->aq,le_refl->aS,lt_irrefl->aT,zero_add->bl,min_eq_right->bt,min_eq_left->bw,mul_le_mul->bE
open List renaming length_map->U,length_append->Z,getElem?_eq_some_iff->ai,take_length->ak,length_take->am,getElem?_append_left->ap,getD_eq_getElem?_getD->au,length_filter_le->av,map_append->aw,getElem?_set_ne->ax,mem_of_mem_take->ay,drop_length->az,length_cons->aB,mem_map->aC,map_cons->aD,append_nil->aE,nil_append->aF,length_eq_zero_iff->aG,mem_range->aH,take_of_length_le->aI,all_eq_true->aJ,range->aK,mem_cons->aM,length_nil->aN,getElem?_concat_length->aO,map_nil->aP,mem_cons_self->aR,cons_append->aU,mem_filter->aV,range_succ->aW,getElem?_eq_none->aX,length_singleton->aY,flatMap_append->aZ,getD_cons_succ->a8,map_take->bd,filter_append->be,pairwise_cons->bf,any_eq_false->bh,append_assoc->bi,flatMap_cons->bj,getElem?_map->bk,any_eq_true->bo,filter_cons->bp,not_mem_nil->bq,any_append->bu,filter_nil->bv,drop_zero->bC,find?_nil->bD,all_cons->bF,any_cons->bG,all_nil->bJ,map_map->bK,map->bN
open Int renaming toNat_natCast->V,lt_irrefl->ab,natCast_zero->bn,add_zero->bI,le_refl->bL
open Bool renaming false_and->ah,and_eq_true->aj,true_and->aL,false_eq_true->aQ,false_or->bc,not_eq_true'->bg,and_false->bA,not_false->bB,true_or->bH
open ByteArray renaming size_append->aA
open Option renaming map_none->bz
open And renaming intro->bM
open Go.IntKind renaming wrap->bO
namespace Go.Am
def aW6 {C:Ctx}{M:Mem}{K:PV->Mem->Prop}{base:Nat}{KP:DV->Mem->Prop}{f:FuncId}{args:List PV}{ds ds':List DV}{x:DV}(h1:aos M args=some ds)(h2:ds.map DV.strip=ds')(b:Pure C f ds' (.d x) [])(a:∀M',K (.d x) M'):anG C base (.atD f) args M K KP:=
 ⟨ds,h1, .d x,[],h2▸b, .inr ⟨fun A h=>(by cases h),a _⟩⟩
end Go.Am
namespace Go.Tel
open Go.Am
def awy (l:List Int)(n:Int):(apb l n).1.length<=l.length:=by
 unfold apb
 split
 ·exact List.length_erase_le
 ·exact aS _
def aOD (l:List Int)(c f:Pr)(k:l.length<=900):Pure C 224 [sF (l.map anF),c.dv,f.dv] (.d (.tup [sF ((arx l c f).1.map anF), .bool (arx l c f).2])) []:=by
 have m:=awy l f.a;have n:=awy l f.b;have o:=awy (apb l f.a).1 f.b;refine am6 azr aAF ?_;rw[aqA,aqA];simp only[azr,aAF,RN,B,F,O]
 by_cases h:c.a=f.a
 ·have j:(c.a !=f.a)=false:=by simp[h]
  by_cases g:c.b=f.b
  ·have i:(c.b !=f.b)=false:=by simp[g]
   have e:arx l c f=(l,true):=by simp[arx,h,g]
   rw[e];simp only[j,i,RN,B,F]
  ·have i:(c.b !=f.b)=true:=by simp[g]
   have e:arx l c f=(auO (apb l f.b).1 c.b,(apb l f.b).2):=by simp[arx,h,g]
   rw[e];simp only[j,i,RN,B,F,O];refine aoQ rfl rfl (aCC l f.b (by omega)) ?_;(try simp only[RN,F]);refine aoQ rfl rfl (azA _ _ (by omega)) ?_;(try simp only[RN])
 ·have j:(c.a !=f.a)=true:=by simp[h]
  by_cases g:c.b=f.b
  ·have i:(c.b !=f.b)=false:=by simp[g]
   have e:arx l c f=(auO (apb l f.a).1 c.a,(apb l f.a).2):=by simp[arx,h,g]
   rw[e];simp only[j,i,RN,B,F,O];refine aoQ rfl rfl (aCC l f.a (by omega)) ?_;cases h1:(apb l f.a).2
   ·(try simp only[RN,B,F,O])
    refine aoQ rfl rfl (azA _ _ (by omega)) ?_;(try simp only[RN])
   ·(try simp only[RN,B,F,O])
    refine aoQ rfl rfl (azA _ _ (by omega)) ?_;(try simp only[RN])
  ·have i:(c.b !=f.b)=true:=by simp[g]
   simp only[j,i,RN,B,F,O];refine aoQ rfl rfl (aCC l f.a (by omega)) ?_;cases h1:(apb l f.a).2
   ·have e:arx l c f=(auO (auO (apb l f.a).1 c.a) c.b,false):=by simp[arx,h,g,h1]
    rw[e];(try simp only[RN,B,F,O]);refine aoQ rfl rfl (azA _ _ (by omega)) ?_;(try simp only[RN,F]);refine aoQ rfl rfl (azA _ _ (by rw[azy];omega)) ?_;(try simp only[RN])
   ·have e:arx l c f=(auO (auO (apb (apb l f.a).1 f.b).1 c.a) c.b,(apb (apb l f.a).1 f.b).2):=by simp[arx,h,g,h1]
    rw[e];(try simp only[RN,B,F,O]);refine aoQ rfl rfl (aCC _ f.b (by omega)) ?_;(try simp only[RN,F]);refine aoQ rfl rfl (azA _ _ (by omega)) ?_;(try simp only[RN,F]);refine aoQ rfl rfl (azA _ _ (by rw[azy];omega)) ?_;(try simp only[RN])
def aQS (l:List Int)(a b:Pr):(arx l a b).1.length<=l.length+2:=by
 have h1:(if a.a≠b.a then apb l b.a else(l,true)).1.length<=l.length:=by split;exact awy _ _;exact aS _
 unfold arx;simp only;generalize (if a.a≠b.a then apb l b.a else(l,true))=r1 at h1;have h2:(if r1.2=true/\a.b≠b.b then apb r1.1 b.b else r1).1.length<=l.length:=by
  split
  ·exact aq (awy _ _) h1
  ·exact h1
 generalize (if r1.2=true/\a.b≠b.b then apb r1.1 b.b else r1)=r2 at h2;have c:(if a.a≠b.a then auO r2.1 a.a else r2.1).length<=l.length+1:=by
  split
  ·rw[azy];omega
  ·omega
 split
 ·rw[azy];omega
 ·omega
def aBl (s:Su)(l:List En):(aqn s l).length<=2*l.length:=by
 induction l using ate with
 |h0=>simp[aqn]
 |h1 l x a=>
  rw[apP,Z,aY]
  split
  ·rw[azy];omega
  ·split
   ·have:=aQS (aqn s l) (aqu (aog s l) x) x.chg.pr;omega
   ·omega
variable{s:Su}{l:List En}
def aLQ (hl:∀x∈l,x.Fit s)(i:Nat):∀x∈l.take i,x.Fit s:=fun x a=>hl x (ay a)
def stE (l:List En):Bool:=l.all fun x=>x.kind !=1&&x.kind !=2
def aTS (l:List En)(x:En):stE (l++ [x])=(stE l&&(x.kind !=1&&x.kind !=2)):=by simp[stE]
def aLo (s:Su)(hs:s.ok=true)(l:List En)(hl:∀x∈l,x.Fit s)(D:l.length<=400):Pure C 222 [s.dv,sF (l.map En.dv)] (.d (.slice (stE l) ((aqn s l).map anF))) []:=by
 have w:=fun i=>auP s hs (l.take i) (aLQ hl i) (by rw[am];omega)
 have k:=fun i (x:En)=>aOD (aqn s (l.take i)) (aqu (aog s (l.take i)) x) x.chg.pr (by have:=aBl s (l.take i);rw[am]at this;omega)
 simp only[aot,aoB,aqA]at w k;refine am6 aCk anO ?_;rw[aoB];simp only[aCk,anO,RN,B,F];refine anL l.length (fun i (_:Unit)=>⟨[(1, .d (sF (l.map En.dv))),(2, .d (.anY s.cs)),(5, .d (.slice (stE (l.take i)) ((aqn s (l.take i)).map anF))),(6,pI i)],⟨[some (s.cs.map .d)],[0],[]⟩⟩)
  (fun i _=>True) 0 () (ae _) rfl trivial (fun i _ c _=> ?_) (fun _ _=> ?_)
 ·obtain⟨A,o,r⟩:=rng c (by omega)
  have u:=hl _ (getD_mem c);have b:=auU u;have t:=aBl s (l.take i);rw[am]at t;have a:=apP s (l.take i) (l.getD i default);rw[<-anR c]at a;have e:=aTS (l.take i) (l.getD i default);rw[<-anR c]at e;obtain⟨x,f⟩:∃x,x=l.getD i default:=⟨_,rfl⟩
  rw[<-f]at u b a e;simp only[A,o,c,getD_map,<-f,aon,V,U,RN,B,F,O]
  by_cases h:x.kind=1
  ·have z1:(x.kind==1)=true:=by simp[h]
   have m:(x.kind==2)=false:=by simp[h]
   have v:0<x.ns.length:=by rw[b,h];decide
   rw[if_pos h]at a;simp only[z1,o,c,getD_map,<-f,aon,V,U,j0,t0,v,anM,RN,B,F,O];refine aoQ rfl rfl (azA (aqn s (l.take i)) (x.n 0) (by omega)) ?_;simp only[m,r,RN,B];exact anT () c (by rw[a,e];simp[h]) trivial
  have z1:(x.kind==1)=false:=beq_false_of_ne h;rw[if_neg h]at a
  by_cases g:x.kind=2
  ·have m:(x.kind==2)=true:=by simp[g]
   have v:0<x.ns.length:=by rw[b,g];decide
   have j:=aS9 x (by rw[b,g];decide);rw[aon]at j;obtain⟨⟨y,z⟩,_⟩:=aBB u g;have p:(0:Int)<=x.ns.getD 0 default:=y;have q:(x.ns.getD 0 default).toNat<(aog s (l.take i)).links.length:=by rw[(avM _ _).1];exact z
   rw[if_pos g]at a;have E:(0:Int)<=(i:Int):=by omega
   have G:(i:Int)<=((l.map En.dv).length:Int):=by rw[U];omega
   simp only[z1,m,aq2,o,c,getD_map,<-f,aon,V,U,RN,B,F,O];rw[auG (aMB l) E G,<-bd,V];(try simp only[RN,B,F,I,J,N,O]);refine anE (w i) ?_;simp only[getD_map,asA,U,j0,t0,v,anM,p,q,RN,F,O];refine anE j ?_;(try simp only[RN,B,F,I,J,N,O]);refine anE (k i x) ?_;simp only[r,RN];exact anT () c (by rw[a,e];simp[g]) trivial
  ·have m:(x.kind==2)=false:=beq_false_of_ne g
   rw[if_neg g]at a;simp only[z1,m,o,c,getD_map,<-f,aon,V,U,r,RN,B,F,O];exact anT () c (by rw[a,e];simp[h,g]) trivial
 ·simp only[ab,U,RN,B]
  rw[ak]
def aCA (l:List En)(h:Int)(hl:∀x∈l,x.ns.length=apG x.kind)(w:l.length<=1000):Pure C 226 [sF (l.map En.dv),dI h] (.d (.tup [(an4 l h).1.dv, .bool (an4 l h).2])) []:=by
 refine am6 aCg aTx ?_;rw[aoa];simp only[aCg,aTx,RN,B,F,O];refine anL l.length (fun i (_:Unit)=>⟨[(0, .d (sF (l.map En.dv))),(1,pI h),(4, .ptr 0 0),(6, .ptr 1 0),(7, .d (.bool (an4 (l.take i) h).2)),(8,pI i)],
   ⟨[some [pI 0,pI 0],some [.d (dI (an4 (l.take i) h).1.n), .d (dI (an4 (l.take i) h).1.d)]],[],[]⟩⟩)
  (fun i _=>True) 0 () (ae _) rfl trivial (fun i _ c _=> ?_) (fun _ _=> ?_)
 ·obtain⟨t,j,o⟩:=rng c (by omega)
  have e:=hl _ (getD_mem c);have a:an4 (l.take (i+1)) h=ara h (an4 (l.take i) h) (l.getD i default):=by rw[anR c,ar0]
  obtain⟨x,b⟩:∃x,x=l.getD i default:=⟨_,rfl⟩
  rw[<-b]at e a;have y:(0:Int)<=1:=by omega
  have z:(0:Int)<=2:=by omega
  have p:x.n 0=x.ns.getD 0 default:=rfl;simp only[t,j,c,getD_map,<-b,aon,V,U,RN,B,F,O]
  by_cases k:x.kind=3
  ·have m:(x.kind==3)=true:=by simp[k]
   have g:(x.kind==4)=false:=by simp[k]
   have v:x.ns.length=3:=by rw[e,k];rfl
   have s:0<x.ns.length:=by omega
   have l1:1<x.ns.length:=by omega
   have l2:2<x.ns.length:=by omega
   by_cases f:x.n 0=h
   ·have ze:(x.ns.getD 0 default==h)=true:=by rw[<-p,f];exact beq_self_eq_true _
    rw[ara,if_pos ⟨k,f⟩]at a;simp only[m,ze,g,j,c,getD_map,<-b,aon,V,U,j0,t0,s,y,t1,l1,z,t2,l2,anM,o,RN,B,F,O];exact anT () c (by rw[a];rfl) trivial
   ·have ze:(x.ns.getD 0 default==h)=false:=beq_false_of_ne f
    rw[ara,if_neg (fun q=>f q.2),if_neg (by omega)]at a;simp only[m,ze,g,j,c,getD_map,<-b,aon,V,U,j0,t0,s,anM,o,RN,B,F,O];exact anT () c (by rw[a]) trivial
  have m:(x.kind==3)=false:=beq_false_of_ne k
  by_cases r:x.kind=4
  ·have g:(x.kind==4)=true:=by simp[r]
   have u:x.ns.length=2:=by rw[e,r];rfl
   have s:0<x.ns.length:=by omega
   by_cases f:x.n 0=h
   ·have ze:(x.ns.getD 0 default==h)=true:=by rw[<-p,f];exact beq_self_eq_true _
    rw[ara,if_neg (by omega),if_pos ⟨r,f⟩]at a;simp only[m,ze,g,j,c,getD_map,<-b,aon,V,U,j0,t0,s,anM,o,RN,B,F,O];exact anT () c (by rw[a]) trivial
   ·have ze:(x.ns.getD 0 default==h)=false:=beq_false_of_ne f
    rw[ara,if_neg (by omega),if_neg (fun q=>f q.2)]at a;simp only[m,ze,g,j,c,getD_map,<-b,aon,V,U,j0,t0,s,anM,o,RN,B,F,O];exact anT () c (by rw[a]) trivial
  ·have g:(x.kind==4)=false:=beq_false_of_ne r
   rw[ara,if_neg (fun q=>k q.1),if_neg (fun q=>r q.1)]at a;simp only[m,g,j,c,getD_map,<-b,aon,V,U,o,RN,B,F,O];exact anT () c (by rw[a]) trivial
 ·simp only[ab,U,RN,B,F,O]
  rw[ak]
def aQy (s:Su)(l:List En)(h:Int)(u:0<=h)(h1:h.toNat<s.tg.length)(hl:∀x∈l,x.ns.length=apG x.kind)(w:l.length<=1000):Pure C 231 [s.dv,sF (l.map En.dv),dI h] (.d (asw s l h).dv) []:=by
 have p:=fun i=>aCA (l.take i) h (fun x y=>hl x (ay y)) (by rw[am];omega)
 simp only[aoa]at p;refine am6 aAw aTy ?_;rw[aoa,aoB];simp only[aAw,aTy,U,u,h1,getD_map,aoa,RN,B,F,J,O];refine anL l.length (fun i (_:Unit)=>⟨[(1, .d (sF (l.map En.dv))),(2,pI h),(6, .ptr 1 0),(7, .ptr 2 0),(8,pI i)],
   ⟨[some (s.cs.map .d),some [pI 0,pI 0],some [.d (dI (asw s (l.take i) h).n), .d (dI (asw s (l.take i) h).d)]],[0],[]⟩⟩)
  (fun i _=>True) 0 () (ae _) rfl trivial (fun i _ b _=> ?_) (fun _ _=> ?_)
 ·obtain⟨t,k,m⟩:=rng b (by omega)
  have e:=hl _ (getD_mem b);have a:=ari s (l.take i) h (l.getD i default);rw[<-anR b]at a;obtain⟨x,c⟩:∃x,x=l.getD i default:=⟨_,rfl⟩
  rw[<-c]at e a;have o:x.n 0=x.ns.getD 0 default:=rfl;have z:(0:Int)<=(i:Int):=by omega
  have A:(i:Int)<=((l.map En.dv).length:Int):=by rw[U];omega
  simp only[t,k,b,getD_map,<-c,aon,V,U,RN,B,F,O]
  by_cases f:x.kind=4
  ·have j:(x.kind==4)=true:=by simp[f]
   have v:x.ns.length=2:=by rw[e,f];rfl
   have r:0<x.ns.length:=by omega
   by_cases g:x.n 0=h
   ·have ze:(x.ns.getD 0 default==h)=true:=by rw[<-o,g];exact beq_self_eq_true _
    rw[if_pos ⟨f,g⟩]at a;simp only[ze,j,k,b,getD_map,<-c,aon,V,U,j0,t0,r,anM,RN,B,F,O];rw[auG (aMB l) z A,<-bd,V];(try simp only[RN,B,F,I,J,N,O]);refine anE (p i) ?_;simp only[m,RN,F,J,O];exact anT () b (by rw[a]) trivial
   ·have ze:(x.ns.getD 0 default==h)=false:=beq_false_of_ne g
    rw[if_neg (fun q=>g q.2)]at a;simp only[ze,j,k,b,getD_map,<-c,aon,V,U,j0,t0,r,anM,m,RN,B,F,O];exact anT () b (by rw[a]) trivial
  ·have j:(x.kind==4)=false:=beq_false_of_ne f
   rw[if_neg (fun q=>f q.1)]at a;simp only[j,m,RN,B,F];exact anT () b (by rw[a]) trivial
 ·simp only[ab,U,RN,B,F,J,O]
  rw[ak]
def aLt (p:Pc)(e:p.ok=true)(h:Int)(d:0<=h)(h1:h.toNat<p.hands.length)(f:Fr)(hf:f.ok=true)(t:Int)(i:0<=t/\t<=10000):Pure C 227 [p.dv,dI h,f.dv,dI t] (pI (aGd p h f t)) []:=by
 have g:=Pc.good e;have j:=g.hd _ (getD_mem h1);have b:=aGD p g.lk (by have:=g.l2;omega) (a:=(p.hands.getD h.toNat default).toNat) (by omega);rw[show(((p.hands.getD h.toNat default).toNat:Nat):Int)=p.hands.getD h.toNat default by omega]at b;have c:=aYv (anX p.links (p.hands.getD h.toNat default).toNat) f t (by rw[anX,U];exact g.short _ (by omega)) (asx g.lk g.pr (by omega)) hf i;refine am6 aCr asQ ?_;rw[aot]at b⊢;rw[aoa]at c⊢;simp only[aCr,asQ,d,h1,getD_map,anM,U,RN,B,F,O];refine anE b ?_;(try simp only[RN,B,F,I,J,N,O]);refine anE c ?_;(try simp only[RN,B,F,I,J,N,O])
 rfl
def aGB (s:Su)(hs:s.ok=true)(p:Pc)(E:p.ok=true)(h:Int)(D:0<=h)(h1:h.toNat<p.hands.length):Pure C 136 [s.dv,p.dv,dI h] (pI (aA8 s p h)) []:=by
 have g:=Pc.good E;have L:=g.hd _ (getD_mem h1);have m:=aGD p g.lk (by have:=g.l2;omega) (a:=(p.hands.getD h.toNat default).toNat) (by omega);rw[show(((p.hands.getD h.toNat default).toNat:Nat):Int)=p.hands.getD h.toNat default by omega]at m;obtain⟨t,e⟩:∃t,t=anX p.links (p.hands.getD h.toNat default).toNat:=⟨_,rfl⟩
 have H:t.length<=3:=by rw[e,anX,U];exact g.short _ (by omega)
 have v:∀q∈t,q.ok=true:=by rw[e];exact asx g.lk g.pr (by omega)
 have r:aA8 s p h=(s.bil (aou t)).price:=by rw[e];rfl
 rw[<-e]at m;have c:=(Su.facts hs).2.2.2.2.2.2.2.2.1;have o:(s.bil (aou t)).ok=true:=by
  simp only[Bil.ok,Su.bil,aj]at c⊢;refine⟨⟨⟨⟨⟨?_,c.1.1.1.1.2⟩,c.1.1.1.2⟩,c.1.1.2⟩,c.1.2⟩,c.2⟩;simp only[ati,aj,decide_eq_true_eq,aJ];refine⟨by rw[asX];omega,fun x k=> ?_⟩;simp only[aou,List.mem_flatMap]at k;obtain⟨q,G,k⟩:=k;have:=v q G;simp only[Pr.ok,aj]at this;simp only[aM,bq,or_false]at k
  rcases k with rfl|rfl
  ·exact this.1
  ·exact this.2
 have j:=aQw _ o;rw[aAY,<-r]at j;have f:=aOE s (aou t) false;refine am6 aCi atF ?_;rw[aoB]at f⊢;rw[aot]at m⊢;simp only[aCi,atF,D,h1,getD_map,anM,U,RN,B,F,N,O];refine anE m ?_;simp only[];refine anL t.length (fun i (_:Unit)=>⟨[(3, .d (.anY s.cs)),(7, .tsl 0 i 0),(8, .d (sF (t.map Pr.dv))),(9,pI i)],
   ⟨[some (s.cs.map .d),some [.d (sF (p.links.map Lk.dv)), .d (sF (p.hands.map anF))]],[1,0],[some ⟨1,(aou (t.take i)).map anF,i,0⟩]⟩⟩)
  (fun i _=>True) 0 () (ae _) rfl trivial (fun i _ l _=> ?_) (fun _ _=> ?_)
 ·obtain⟨w,z,A⟩:=rng l (by omega)
  have u:(aou (t.take i)).map anF++ [dI (t.getD i default).a,dI (t.getD i default).b]=(aou (t.take (i+1))).map anF:=by
   rw[anR l];simp[aou,anF]
  have n:((aou (t.take i)).map anF).length<=2000000:=by simp only[U,asX,am];omega
  simp only[w,z,l,U,getD_map,V,aqA,axf,RN,B,F,J,N,O];refine⟨by rintro y (rfl|rfl)<;>rfl,by simp,?_⟩
  (repeat(refine bM (by first|assumption|rfl|(simp;done)|(simp;omega)) ?_))
  refine⟨by simpa using aq n (by decide),?_⟩;rw[u,A];exact aoD () l rfl trivial (by simp) (by simp) rfl rfl
 ·rw[ak]
  simp only[ab,U,aq2,RN,B,F,O];refine aW6 (ds:=[.agg s.cs,sF ((aou t).map anF)]) (by rw[aq2];simp[aos,datum,Mem.row]) (by rw[aq2];rfl) f fun K=> ?_
  (try simp only[RN,B,F,I,J,N,O]);refine anE j ?_;(try simp only[])
def ind (a v:Int):Nat:=if a=v then 1 else 0
def aWS:∀{l m:List Int},l.Perm m->Up l->Up m->l=m
 | [],m,h,_,_=>h.nil_eq
 |x::l,[],h,_,_=>by have:=h.length_eq;simp at this
 |x::l,y::m,h,h1,h2=>by
  have d:=bf.1 h1;have f:=bf.1 h2;have c:x=y:=by
   have a:x∈y::m:=h.mem_iff.1 aR;have b:y∈x::l:=h.mem_iff.2 aR
   rcases aM.1 a with e|a
   ·exact e
   rcases aM.1 b with e|b
   ·exact e.symm
   ·have:=f.1 x a
    have:=d.1 y b;omega
  subst c;rw[aWS (h.cons_inv) d.2 f.2]
def asr (s:Su)(l:List En):(aog s l).hands=s.pc.hands:=by
 induction l using ate with
 |h0=>rfl
 |h1 l x a=>rw[aqE,atV];split<;>exact a
def aK6 (l:List En)(h:Int):Fr:=if(an4 l h).2 then(an4 l h).1 else⟨0,0⟩
variable{x:En}
def aMT (k:x.kind=4)(a:arI s l x=true):(an4 l (x.n 0)).2=true/\aK6 l (x.n 0)=(an4 l (x.n 0)).1/\(-s.lim<=aGd (aog s l) (x.n 0) (aK6 l (x.n 0)) 100/\aGd (aog s l) (x.n 0) (aK6 l (x.n 0)) 100<=s.lim)/\x.n 1>=aA8 s (aog s l) (x.n 0):=by
 unfold arI at a;rw[if_neg (by omega),if_neg (by omega),if_neg (by omega),if_pos k]at a;simp only[aj,decide_eq_true_eq]at a;obtain⟨⟨h1,h2⟩,b⟩:=a;have e:aK6 l (x.n 0)=(an4 l (x.n 0)).1:=by rw[aK6,if_pos h1]
 refine⟨h1,e,?_,b⟩;rw[e]
 simpa[inR]using h2
def aRe (h:aqS s l=true){i:Nat}(hi:i<l.length):arI s (l.take i) (l.getD i default)=true:=by
 rw[aqS,aJ]at h;exact h i (aH.2 hi)
def aSa (k:x.kind=5)(a:arI s l x=true):(∀y∈atc l,y<x.n 0)/\s.works (s.first+x.n 0 - 1)=true:=by
 unfold arI at a;rw[if_neg (by omega),if_neg (by omega),if_neg (by omega),if_neg (by omega)]at a;simp only[aj,bg,bh]at a;refine⟨fun y b=> ?_,a.2⟩;simp only[atc,aC,aV]at b;obtain⟨z,⟨c,d⟩,rfl⟩:=b;have:=a.1 z c;rw[d]at this
 simpa using this
def aNP {l st:List Int}(h:l.Perm st)(d:Up l):aAH st=l:=by
 refine aWS ((List.mergeSort_perm _ _).trans h.symm) ?_ d;have:=List.pairwise_mergeSort (le:=fun x y:Int=>decide (x<=y)) (fun a b c h1 h2=>by simp only[decide_eq_true_eq]at*;omega) (fun a b=>by simp only[Bool.or_eq_true,decide_eq_true_eq];omega) st;exact this.imp fun h=>by simpa using h
def Dk.Live.t {D:Dk}(h:D.Live):∃t,D.state (-1)=some t/\Rel D.su (anQ D (-1)) t/\awD D.su 24 t:=by
 obtain⟨t,a⟩:=Option.isSome_iff_exists.1 h.live;exact⟨t,a,((h.all (-1)).2 t a).1,h.ok.aCT a⟩
variable{D:Dk}
def Dk.Live.goes (h:D.Live):aqS D.su (anQ D (-1))=true:=by rw[(h.all (-1)).1];exact h.live
def Dk.Live.fits (h:D.Live)(w:Int):∀x∈anQ D w,x.Fit D.su:=fun x a=>h.fit x (ap4 a).1 (ap4 a).2
def auE {t:Sp}(b:D.state (-1)=some t){k:Int}{ns:List Int}(hk:1<=k/\k<=12)(a:ns.length=aBQ k):D.ask ⟨k,ns⟩=if(D.answer t ⟨k,ns⟩).2=0 then D.answer t ⟨k,ns⟩else([],(D.answer t ⟨k,ns⟩).2):=by
 have h1:inR k 1 12=true:=aA2 hk;simp only[Dk.ask,h1,a,b];simp
def aHI (h:D.Live):D.ask ⟨1,[]⟩=(aDh (aog D.su (anQ D (-1))),0):=by
 obtain⟨t,b,a,_⟩:=h.t;rw[auE b (by decide) rfl,<-a.pc];simp[Dk.answer]
def aHJ (h:D.Live):D.ask ⟨2,[]⟩=(aqn D.su (anQ D (-1)),0):=by
 obtain⟨t,b,a,_⟩:=h.t;rw[auE b (by decide) rfl,<-aNP a.st a.up];simp[Dk.answer]
def aHH (h:D.Live):D.ask ⟨11,[]⟩=([atL (anQ D (-1))],0):=by
 obtain⟨t,b,a,_⟩:=h.t;rw[auE b (by decide) rfl,<-a.co];simp[Dk.answer]
def aFp (h:D.Live):D.ask ⟨12,[]⟩=((ao6 D).map fun(i:Nat)=>(i:Int),0):=by
 obtain⟨t,a,b,_⟩:=h.t;rw[auE a (by decide) rfl];have:(D.stands.map fun p=>(p.1:Int))=(ao6 D).map fun(i:Nat)=>(i:Int):=by rw[aIB h.ok.len,bK];rfl
 simp[Dk.answer,this]
def aJL (hs:s.ok=true)(l:List En)(hl:∀x∈l,x.Fit s)(b:aqS s l=true){h:Int}(h0:0<=h)(h1:h.toNat<s.tg.length):(asw s l h).ok=true:=by
 induction l using ate with
 |h0=>exact(Su.facts hs).2.2.2.2.2.2.2.2.2 _ (getD_mem h1)
 |h1 l x d=>
  rw[aDL,aj]at b;have a:∀y∈l,y.Fit s:=fun y c=>hl y (by simp[c])
  rw[ari]
  split
  ·rename_i k
   have:=(aMT k.1 b.2).1;rw[k.2]at this;exact awd l h a this
  ·exact d a b.1
def awz (l:List En)(d:Int):Int:=d - aqV (atc l) d 0
def aIN (h:D.Live){k:Nat}{d:Int}(hk:k<D.su.pc.hands.length)(v:1<=d)(h1:d.toNat<=D.su.days.length):D.ask ⟨6,[(k:Int),d]⟩=([aGd (aog D.su (anQ D (-1))) k (asw D.su (anQ D (-1)) k) (awz (anQ D (-1)) d)],0):=by
 obtain⟨t,q,f,g⟩:=h.t;have b:=(Su.facts h.ok.su).2.1;have h2:inR d 1 D.su.days.length=true:=aA2 (by omega);have o:inR (k:Int) 0 ((D.su.pc.hands.length:Int) - 1)=true:=aA2 (by omega);have p:=arn D.su;have r:=aBM d t.sets 0 g.sv (by omega);have s:0<=t.turns d/\t.turns d<=366:=by
  have:aqV t.sets d 0<=d:=by
   have:∀(l:List Int) (a:Int),a<=d->aqV l d a<=d:=by
    intro l
    induction l with
    |nil=>exact fun a j=>j
    |cons y l u=>intro a j;rw[aqV];exact u _ (by split<;>omega)
   exact this _ 0 (by omega)
  unfold Sp.turns;omega
 have i:(t.tg.getD k default).ok=true:=by
  have:=aJL h.ok.su _ (h.fits (-1)) h.goes (h:=(k:Int)) (by omega) (by rw[b];simpa using hk);rw[<-f.tg k (by omega) (by rw[b];simpa using hk)]at this
  simpa using this
 have m:=aDI g.pc (h:=(k:Int)) (by omega) (by rw[g.hh];simpa using hk) i (show 0<=t.turns d/\t.turns d<=10000 by omega);have c:=f.tg k (by omega) (by rw[b];simpa using hk);rw[auE q (by decide) rfl];simp only[V]at c;have e:awz (anQ D (-1)) d=t.turns d:=by rw[awz,<-f.se];rfl
 rw[e,<-f.pc,<-c];simp only[au]at m;simp[Dk.answer,Qn.n,h2,o,m]
def aHL (s:Su)(t:Sp)(turns:Int):∀(l:List Fr) (h:Nat),aFr s t turns l h=(aK l.length).any fun k=> !aAj s t ((h+k:Nat):Int) (l.getD k default) turns
 | [],_=>rfl
 |f::l,h=>by
  rw[aFr,aHL s t turns l (h+1),aB,List.range_succ_eq_map,bG,List.any_map]
  congr 1
  congr 1
  funext k
  simp only[Function.comp_apply,a8];rw[show h+1+k=h+(k+1) by omega]
def bad_law (h:D.Live){t:Sp}(s:D.state (-1)=some t){i:Nat}(hi:i<D.su.days.length):aAQ D.su t i=(aK D.su.pc.hands.length).any fun k=> !inR ((D.ask ⟨6,[(k:Int),(i:Int)+1]⟩).1.getD 0 0) (-D.su.lim) D.su.lim:=by
 obtain⟨x,f,m,c⟩:=h.t;rw[s]at f;cases f;have d:=(Su.facts h.ok.su).2.1;rw[aAQ,aHL,c.tl];rw[Bool.eq_iff_iff];simp only[bo,aH];have j:∀k,k<D.su.pc.hands.length->(!aAj D.su t ((0+k:Nat):Int) (t.tg.getD k default) (t.turns ((i:Int)+1)))=(!inR ((D.ask ⟨6,[(k:Int),(i:Int)+1]⟩).1.getD 0 0) (-D.su.lim) D.su.lim):=by
  intro k b;rw[aIN h b (by omega) (by omega)];have g:=m.tg k (by omega) (by rw[d];simpa using b);simp only[V]at g;have o:(t.tg.getD k default).ok=true:=by
   have:=aJL h.ok.su _ (h.fits (-1)) h.goes (h:=(k:Int)) (by omega) (by rw[d];simpa using b);rw[<-m.tg k (by omega) (by rw[d];simpa using b)]at this
   simpa using this
  have r:=arn D.su;have p:0<=t.turns ((i:Int)+1)/\t.turns ((i:Int)+1)<=10000:=by
   have u:=aBM ((i:Int)+1) t.sets 0 c.sv (by omega);have:aqV t.sets ((i:Int)+1) 0<=(i:Int)+1:=by
    have:∀(l:List Int) (a:Int),a<=(i:Int)+1->aqV l ((i:Int)+1) a<=(i:Int)+1:=by
     intro l
     induction l with
     |nil=>exact fun a q=>q
     |cons y l w=>intro a q;rw[aqV];exact w _ (by split<;>omega)
    exact this _ 0 (by omega)
   unfold Sp.turns;omega
  have v:=aDI c.pc (h:=(k:Int)) (by omega) (by rw[c.hh];simpa using b) o p;have e:awz (anQ D (-1)) ((i:Int)+1)=t.turns ((i:Int)+1):=by rw[awz,<-m.se];rfl
  rw[bl,aAj,v,e,<-m.pc,<-g]
  rfl
 constructor
 ·rintro⟨k,b,n⟩;exact⟨k,b,by rw[<-j k b];exact n⟩
 ·rintro⟨k,b,n⟩;exact⟨k,b,by rw[j k b];exact n⟩
def aHK (h:D.Live):∃t,D.state (-1)=some t/\D.ask ⟨7,[]⟩=([arH D.su t D.su.days.length],0):=by
 obtain⟨t,a,b,_⟩:=h.t;refine⟨t,a,?_⟩;rw[auE a (by decide) rfl];simp[Dk.answer]
def aOt (b:Bool):(anV b).length=12:=by cases b<;>rfl
def aVv (b:Bool):aoA (anV b) 0=asl b:=by cases b<;>rfl
def aVG (c:Cal)(hc:c.ok=true)(Y:Nat)(Z:Y<=4000)(day:Int)(h1:c.first Y<=day)(h2:day<c.first (Y+1)):Pure C 143 [c.dv,dI day] (.d (.tup [(ayT c Y day).dv, .bool true])) []:=by
 obtain⟨he,hl,w⟩:=Cal.facts hc;have hb:=c.ap5 Y;have G:=c.ap5 (Y+1);have H:0<=day/\day<=2000000:=by omega
 have s:c.first 0=c.ep:=rfl;have g:=fun y:Int=>aOC c y (by omega) (fun n a=>by have:=w n a;omega)
 have f:=fun y:Int=>aCz c y (by omega) (fun n a=>by have:=w n a;omega)
 have r:=fun b=>aq7 b
 rw[aoJ]at g f;have V:bO .i64 (day - c.ep)=day - c.first 0:=by rw[s,anI (by omega)]
 have X:¬day - c.first 0<0:=by have:=atn c (ae Y);omega
 refine an9 (anJ aEk azF ?_);rw[aoJ];simp only[aEk,azF,V,X,RN,B,F,O];refine anL (Y+1) (fun i (_:Unit)=>⟨[(2, .d (.anY [dI c.ep,sF (c.cy.map anF)])),(4, .ptr 1 0),(6,pI (day - c.first i)),(7,pI i)],⟨[some [pI c.ep, .d (sF (c.cy.map anF))],some [pI 0,pI 0,pI 0]],[0],[]⟩⟩)
  (fun i _=>i<=Y) 0 () (ae _) rfl (ae _) (fun i _ A _=> ?_) (fun _ h=>absurd h (by omega))
 have D:(i:Int)<=4000:=by omega
 have E:bO .i64 ((i:Int)+1)=((i+1:Nat):Int):=by rw[anI (by omega)];omega
 have K:c.first (i+1)=c.first i+asl (c.leap i):=rfl;have L:=atn c (show 0<=i by omega);have j:=r (c.leap i);simp only[D,RN,B,F,O];refine anE (g i) ?_
 by_cases M:i<Y
 ·have hm:=atn c (show i+1<=Y by omega)
  have u:day - c.first i>=asl (c.leap i):=by omega
  have W:bO .i64 (day - c.first i - asl (c.leap i))=day - c.first (i+1):=by rw[anI (by split at j<;>omega)];omega
  simp only[u,W,E,RN,B,F];exact aoD () A rfl (by omega) (by simp) (by simp) rfl rfl
 obtain rfl:i=Y:=by omega
 have u:¬day - c.first i>=asl (c.leap i):=by omega
 simp only[u,RN,B,F];refine anL 12 (fun m (left:Int)=>⟨[(2, .d (.anY [dI c.ep,sF (c.cy.map anF)])),(4, .ptr 1 0),(6,pI left),(7,pI i),(9, .d (dI ((m:Int)+1)))],⟨[some [pI c.ep, .d (sF (c.cy.map anF))],some [pI 0,pI 0,pI 0]],[0],[]⟩⟩)
  (fun m left=>aEc (anV (c.leap i)) 0 (day - c.first i)=aEc ((anV (c.leap i)).drop m) m left/\0<=left/\left<=400/\left<aoA ((anV (c.leap i)).drop m) 0) 0 (day - c.first i) (ae _) rfl ⟨rfl,by omega,by split at j<;>omega,by rw[bC,aVv];omega⟩ (fun m left Q q=> ?_) (fun left q=> ?_)
 ·obtain⟨e,T,U,p⟩:=q
  have R:(m:Int)+1<=12:=by omega
  have P:=aOt (c.leap i);have S:bO .i64 ((m:Int)+1+1)=((m+1:Nat):Int)+1:=by rw[anI (by omega)];omega
  have v:=aDv (m:=(m:Int)+1) (by omega) (c.leap i);rw[show((m:Int)+1 - 1).toNat=m by omega]at v;have k:=drop_cons (l:=anV (c.leap i)) (show m<(anV (c.leap i)).length by omega);rw[k,aoA,ayo]at p;rw[k,aEc]at e;have z:0<=(anV (c.leap i)).getD m default/\(anV (c.leap i)).getD m default<=31:=by
   have:∀x∈anV (c.leap i),0<=x/\x<=31:=by cases c.leap i<;>decide
   exact this _ (getD_mem (by omega))
  simp only[R,RN,B,F,O];refine anE (f i) ?_;(try simp only[RN,B,F,I,J,N,O]);refine anE v ?_
  by_cases o:left<(anV (c.leap i)).getD m default
  ·rw[if_pos o]at e
   have t:bO .i64 (left+1)=left+1:=anI (by omega);simp only[o,t,RN,B,F,J,O];simp[ayT,e,arU,datum]
  ·rw[if_neg o]at e
   have t:bO .i64 (left - (anV (c.leap i)).getD m default)=left - (anV (c.leap i)).getD m default:=anI (by omega);simp only[o,t,S,RN,B,F];exact aoD (left - (anV (c.leap i)).getD m default) Q rfl ⟨by rw[e];rfl,by omega,by omega,by omega⟩ (by simp) (by simp) rfl rfl
 ·obtain⟨e,T,U,p⟩:=q
  rw[List.drop_eq_nil_of_le (by rw[aOt];exact aS _)]at p;simp only[aoA]at p;omega
def aF6 (d y:Int):∀(l:List Int) (a:Int),aqV (l++ [y]) d a=if y<=d then y else aqV l d a
 | [],_=>rfl
 |x::l,a=>by rw[aU,aqV,aF6 d y l,aqV]
def aKL {d b:Int}:∀{l:List Int} {a:Int},(∀y∈l,y<b)->a<b->aqV l d a<b
 | [],_,_,h=>h
 |x::l,a,h1,h2=>by
  rw[aqV];exact aKL (fun y c=>h1 y (by simp[c])) (by split;exact h1 x (by simp);exact h2)
def aKK {d:Int}:∀{l:List Int} {a:Int},a<=d->aqV l d a<=d
 | [],_,h=>h
 |x::l,a,h=>by rw[aqV];exact aKK (by split<;>omega)
def aWc (hl:∀x∈l,x.Fit s):∀d∈atc l,1<=d/\d<=366:=by
 intro d hd;simp only[atc,aC,aV,beq_iff_eq]at hd;obtain⟨x,⟨a,k⟩,rfl⟩:=hd;have h:=(hl x a).df;rw[En.aAf k]at h;obtain⟨b,c⟩:=h;have:=arn s;omega
def aLn (s:Su)(hs:s.ok=true)(l:List En)(hl:∀x∈l,x.Fit s)(K:aqS s l=true)(R:l.length<=400)(h day:Int)(t:0<=h)(h1:h.toNat<s.pc.hands.length)(hd:1<=day/\day<=366):Pure C 140 [s.dv,sF (l.map En.dv),dI h,dI day] (.d (dI (aGd (aog s l) h (asw s l h) (awz l day)))) []:=by
 have y:=(Su.facts hs).2.1;have E:=auP s hs l hl (by omega);have G:=aQy s l h t (by omega) (fun x p=>auU (hl x p)) (by omega);have w:=axD hs l hl;have A:=aJL hs l hl K t (by rw[y];exact h1);have Q:=aBM day (atc l) 0 (aWc hl) (by omega);have c:=aKK (d:=day) (l:=atc l) (a:=0) (by omega);have H:=aLt (aog s l) w h t (by rw[asr];exact h1) (asw s l h) A (awz l day) (by unfold awz;omega);have M:bO .i64 (day - aqV (atc l) day 0)=awz l day:=by rw[anI (by omega)];rfl
 rw[aoB,aot]at E;rw[aoB,aoa]at G;rw[aot,aoa]at H;refine am6 aGq asQ ?_;rw[aoB];simp only[aGq,asQ,RN,B,F];refine anL l.length (fun i (_:Unit)=>⟨[(1, .d (sF (l.map En.dv))),(2,pI h),(3,pI day),(4, .d (.anY s.cs)),(9, .d (dI (aqV (atc (l.take i)) day 0))),(10,pI i)],⟨[some (s.cs.map .d)],[0],[]⟩⟩)
  (fun i _=>True) 0 () (ae _) rfl trivial (fun i _ f _=> ?_) (fun _ _=> ?_)
 ·obtain⟨P,q,r⟩:=rng f (by omega)
  obtain⟨x,b⟩:∃x,x=l.getD i default:=⟨_,rfl⟩
  have p:x.Fit s:=by rw[b];exact hl _ (getD_mem f)
  have m:=auU p;have v:arI s (l.take i) x=true:=by rw[b];exact aRe K f
  have g:atc (l.take (i+1))=if x.kind=5 then atc (l.take i)++ [x.n 0]else atc (l.take i):=by rw[anR f,<-b,auR]
  simp only[P,q,f,getD_map,<-b,aon,V,U,RN,B,F,O]
  by_cases j:x.kind=5
  ·have z:(x.kind==5)=true:=by simp[j]
   have l1:x.ns.length=1:=by rw[m,j];rfl
   have L:0<x.ns.length:=by omega
   have D:x.n 0=x.ns.getD 0 default:=rfl;have k:=p.df;rw[En.aAf j]at k;obtain⟨S,T⟩:=k;have o:=aKL (d:=day) (aSa j v).1 (show(0:Int)<x.n 0 by omega);rw[if_pos j]at g;have e:=aF6 day (x.n 0) (atc (l.take i)) 0;rw[<-g,D]at e;rw[D]at o;simp only[z,q,f,getD_map,<-b,aon,V,U,j0,t0,L,anM,RN,B,F,O]
   by_cases c:x.ns.getD 0 default<=day
   ·rw[if_pos c]at e
    have u:x.ns.getD 0 default>aqV (atc (l.take i)) day 0:=o;simp only[c,q,f,getD_map,<-b,aon,V,U,j0,t0,L,anM,aHY,if_pos u,r,RN,B,F,O];exact anT () f (by rw[e]) trivial
   ·rw[if_neg c]at e
    simp only[c,r,RN,B];exact anT () f (by rw[e]) trivial
  ·have z:(x.kind==5)=false:=beq_false_of_ne j
   rw[if_neg j]at g;simp only[z,r,RN,B];exact anT () f (by rw[g]) trivial
 ·simp only[aq2,ab,U,ak,M,RN,B,F,O]
  refine anE E ?_;(try simp only[RN,B,F,I,J,N,O]);refine anE G ?_
  try simp only[M,RN,B,F,I,J,N,O]
  refine anE H ?_;(try simp only[])
def au4 (s:Su)(l:List En)(a b c:Int):List Int×Int:=
 if inR a 0 ((s.pc.hands.length:Int) - 1)&&(anP b&&anP c&&decide (b<=c))&& !decide (c - b>10)then
  if(an4 l a).2 then
   match aHl (aog s l) a (an4 l a).1 (apN (aog s l) b (c - b+1).toNat (aog s l).links.length 0)with
   |some L=>(avn L,0)
   |none=>([],5)
  else([],7)
 else([],2)
def aSI {t:Sp}(h:D.Live)(q:D.state (-1)=some t)(a b c:Int):(if(arJ D t a b c).2=0 then arJ D t a b c else([],(arJ D t a b c).2))=au4 D.su (anQ D (-1)) a b c:=by
 obtain⟨r,d,j,n⟩:=h.t;rw[q]at d;cases d;have m:=h.fits (-1);unfold arJ au4;cases h1:inR a 0 ((D.su.pc.hands.length:Int) - 1)
 ·simp
 cases h2:anP b
 ·simp
 cases l:anP c
 ·simp
 by_cases e:b<=c
 case neg=>
  have:inR (c - b) 0 10=false:=by simp[inR];omega
  simp[this,e]
 by_cases f:c - b>10
 ·have:inR (c - b) 0 10=false:=by simp[inR];omega
  simp[this,f]
 have k:inR (c - b) 0 10=true:=aA2 (by omega);rw[j.op a];cases p:(an4 (anQ D (-1)) a).2
 ·simp[k,e,f]
 have g:=awd _ a m p;have i:(aog D.su (anQ D (-1))).ok=true:=by rw[<-j.pc];exact n.pc
 have o:=aDS i h2 l e (by omega) (by rw[asr];exact h1) g;rw[j.pc,if_pos rfl];simp only[o,k,e,f,Bool.and_self,decide_true,decide_false,bB,if_true];cases aHl (aog D.su (anQ D (-1))) a (an4 (anQ D (-1)) a).1 (apN (aog D.su (anQ D (-1))) b (c - b+1).toNat (aog D.su (anQ D (-1))).links.length 0)with
 |some L=>rfl
 |none=>rfl
def chP (p:Pc):DV:= .anY [sF (p.links.map Lk.dv),sF (p.hands.map anF)]
def chB (p:Pc)(f:Fr):List (Option (List PV)):=[some [.d (sF (p.links.map Lk.dv)), .d (sF (p.hands.map anF))],some [pI f.n,pI f.d]]
variable{i:Nat}
def aH1 {α:Type}[Inhabited α]{S:α->Bool}{l:List α}(h:i<l.length):(l.drop i).find? S=if S (l.getD i default)then some (l.getD i default)else(l.drop (i+1)).find? S:=by
 rw[drop_cons h,List.find?_cons];cases S (l.getD i default)<;>rfl
def aNx (p:Pc)(w:p.ok=true)(a e hand:Int)(hl:anP a=true)(hm:anP e=true)(aj:a<=e)(hw:e - a<=10)(h0:0<=hand)(h1:hand.toNat<p.hands.length)(f:Fr)(hf:f.ok=true):
  Pure C 230 [p.dv,dI a,dI e,dI hand,f.dv] (.d (.tup [.slice true (((aHl p hand f (apN p a (e - a+1).toNat p.links.length 0)).getD []).map Chg.dv), .bool (aHl p hand f (apN p a (e - a+1).toNat p.links.length 0)).isSome])) []:=by
 have g:=Pc.good w;have ap:4<=a/\a<=60:=by simpa[anP,inR]using hl
 have aZg:4<=e/\e<=60:=by simpa[anP,inR]using hm
 have X:=aS3 p w a e hl hm aj hw;obtain⟨L,T⟩:∃L,L=apN p a (e - a+1).toNat p.links.length 0:=⟨_,rfl⟩
 rw[<-T]at X⊢;have l:∀c∈L,(0<=c.link/\c.link.toNat<p.links.length)/\c.pr.ok=true:=by
  intro c K;rw[T]at K;have:=aC7 K;refine⟨by omega,?_⟩;simp[Pr.ok,anP,inR];omega
 have au:L.length<=605:=by
  rw[T];refine aq (aC6 _ _ _ _ _) (aq (bE g.l2 (bE ?_ ?_)) (by decide:5*(11*11)<=605))<;>omega
 clear T;have E:=aLp p p w w rfl hand h0 h1 f hf;have R:=fun(q:Pc) (hq:q.links.length=p.links.length) (c:Chg) (K:c∈L)=>aA9 q c (by have:=g.l2;omega) (l c K).1.1 (by rw[hq];exact(l c K).1.2)
 have Y:=fun(q:Pc) (hq:q.ok=true) (ak:q.links.length=p.links.length)=>aLp p q w hq ak hand h0 h1 f hf
 simp only[aot,aoa,ap9]at X E R Y;refine am6 azp aJu ?_;rw[aot,aoa];simp only[azp,aJu,RN,B,F,O];refine anE E ?_;rw[aHl];cases k0:aqw p p hand f
 case true=>
  (try simp only[RN,B,F])
  rfl
 (try simp only[RN,B,F,O]);refine anE X ?_;(try simp only[]);refine anL L.length (fun i (_:Unit)=>⟨[(3,pI hand),(5, .d (chP p)),(9, .d (.anY [dI f.n,dI f.d])),(12, .d (sF (L.map Chg.dv))),(13,pI i)],⟨chB p f,[1,0],[]⟩⟩)
  (fun i _=>(L.find? fun c=>aqw p (p.changed c) hand f)=(L.drop i).find? fun c=>aqw p (p.changed c) hand f) 0 () (ae _) rfl rfl (fun i _ m b=> ?_) (fun _ b=> ?_)
 ·obtain⟨W,A,Q⟩:=rng m (by omega)
  obtain⟨c,h⟩:∃c,c=L.getD i default:=⟨_,rfl⟩
  have r:c∈L:=by rw[h];exact getD_mem m
  rw[aH1 m,<-h]at b;have u:=R p rfl c r;have am:=Y (p.changed c) (atj w (l c r).2) (awH p c);simp only[chP,W,A,m,getD_map,<-h,ap9,V,U,RN,B,F,O];refine anE u ?_
  try(try simp only[RN,B,F,I,J,N,O])
  refine anE am ?_;cases t:aqw p (p.changed c) hand f
  ·rw[t]at b
   simp only[Q,RN,B];exact anT () m rfl b
  ·rw[t,if_pos rfl]at b
   rw[b];simp only[A,m,getD_map,<-h,ap9,V,U,ao8,DV.strip,RN,B,F,O];simp[ap9]
 rw[az,bD]at b;rw[b];obtain⟨S,G⟩:∃S:Chg->Chg->Bool,S=fun c k=>aqw p ((p.changed c).changed k) hand f:=⟨_,rfl⟩
 have Z:=fun c k=>congrFun (congrFun G c) k
 simp only[<-G];simp only[ab,U,RN,B];refine anL L.length (fun i (_:Unit)=>⟨[(3,pI hand),(5, .d (chP p)),(9, .d (.anY [dI f.n,dI f.d])),(12, .d (sF (L.map Chg.dv))),(14,pI i)],⟨chB p f,[1,0],[]⟩⟩)
  (fun i _=>azf S L=azf S (L.drop i)) 0 () (ae _) rfl rfl (fun i _ m b=> ?_) (fun _ b=> ?_)
 ·obtain⟨W,A,Q⟩:=rng m (by omega)
  obtain⟨c,h⟩:∃c,c=L.getD i default:=⟨_,rfl⟩
  have r:c∈L:=by rw[h];exact getD_mem m
  rw[drop_cons m,<-h,azf]at b;have u:=R p rfl c r;have ai:=atj w (l c r).2;have M:=R (p.changed c) (awH p c);have z:=fun k (hk:k∈L)=>Y ((p.changed c).changed k) (atj ai (l k hk).2) (by rw[awH,awH])
  simp only[<-Z]at z;obtain⟨x,ao⟩:∃x,x=p.changed c:=⟨_,rfl⟩
  simp only[<-ao]at u M z;simp only[chP,W,A,m,getD_map,<-h,ap9,V,U,RN,B,F,I,O];refine anE u ?_;simp only[chB,Q,RN,B,F,J,O];obtain⟨Fn,D⟩:∃Fn:Chg->Bool,Fn=fun k=>decide (k.link>c.link)&&S c k:=⟨_,rfl⟩
  rw[<-D]at b;refine anL L.length (fun k (_:Unit)=>⟨[(3,pI hand),(5, .d (chP p)),(9, .d (.anY [dI f.n,dI f.d])),(12, .d (sF (L.map Chg.dv))),(14,pI i),(15, .d (chP x)),(16,pI k)],⟨chB p f++ [some [.d (sF (x.links.map Lk.dv)), .d (sF (x.hands.map anF))]],[2,1,0],[]⟩⟩)
   (fun k _=>(L.drop (i+1)).find? Fn=(L.drop k).find? Fn) (i+1) () m rfl rfl (fun k _ t j=> ?_) (fun _ j=> ?_)
  ·obtain⟨k2,k3,k6⟩:=rng t (by omega)
   obtain⟨y,s⟩:∃y,y=L.getD k default:=⟨_,rfl⟩
   have P:y∈L:=by rw[s];exact getD_mem t
   rw[aH1 t,<-s]at j;have ac:=M y P;have an:=z y P;have o:Fn y=(decide (y.link>c.link)&&S c y):=by rw[D]
   simp only[chP,A,m,k2,k3,t,getD_map,<-h,<-s,ap9,V,U,RN,B,F,O]
   by_cases v:y.link>c.link
   case neg=>
    rw[decide_eq_false v,ah]at o;rw[o]at j;simp only[v,k6,RN,B];exact anT () t rfl j
   rw[decide_eq_true v,aL]at o;simp only[v,k3,t,getD_map,<-s,ap9,V,U,RN,B,F,O];refine anE ac ?_
   try(try simp only[RN,B,F,I,J,N,O])
   refine anE an ?_;cases H:S c y
   ·rw[o,H]at j
    simp only[k6,RN,B];exact anT () t rfl j
   ·rw[o,H,if_pos rfl]at j
    rw[j]at b;rw[b];simp only[A,m,k3,t,getD_map,<-h,<-s,ap9,V,U,RN,B,F,O];simp[ap9,anG,aos,datum,auq,DV.strip,DV.cells,apx]
    rfl
  ·rw[az,bD]at j
   rw[j]at b;simp only[ab,U,Q,RN,B];exact ao7 2 0 () m rfl b (by simp) (by simp) rfl rfl
 ·rw[az,azf]at b
  rw[b];simp only[ab,U,RN,B]
  rfl
def aVK (s:Su)(hs:s.ok=true)(l:List En)(hl:∀x∈l,x.Fit s)(an:l.length<=400)(ns:List Int)(hn:ns.length=3):Pure C 138 [s.dv,sF (l.map En.dv),sF (ns.map anF)] (.d (.tup [sF ((au4 s l (ns.getD 0 default) (ns.getD 1 default) (ns.getD 2 default)).1.map anF),dI (au4 s l (ns.getD 0 default) (ns.getD 1 default) (ns.getD 2 default)).2])) []:=by
 obtain⟨a,b,c,rfl⟩:∃a b c,ns=[a,b,c]:=by
  match ns,hn with
  | [a,b,c],_=>exact⟨a,b,c,rfl⟩
 have hg:=Pc.good (Su.facts hs).1;have Q:=aJp s (by have:=hg.h2;omega) a;have Z:=aTa b c;have G:=auP s hs l hl (by omega);have S:=aCA l a (fun x hx=>auU (hl x hx)) (by omega);have t:=axD hs l hl;rw[aoB]at Q G;rw[aot]at G;rw[aoa]at S;have z:(0:Int)<=1:=by omega
 have A:(0:Int)<=2:=by omega
 simp only[show[a,b,c].getD 0 default=a from rfl,show[a,b,c].getD 1 default=b from rfl,show[a,b,c].getD 2 default=c from rfl];refine an9 (anJ aEC aAF ?_);rw[aoB];simp only[aEC,aAF,j0,t0,anM,RN,B,F,N,O];refine anE Q ?_;cases g:inR a 0 ((s.pc.hands.length:Int) - 1)
 ·have e:au4 s l a b c=([],2):=by simp[au4,g]
  rw[e];(try simp only[RN,B,N])
  rfl
 simp only[z,A,t1,t2,RN,B,F,N,O];refine anE Z ?_;cases K:anP b&&anP c&&decide (b<=c)
 ·have e:au4 s l a b c=([],2):=by simp only[au4,K,bA,ah,aQ,if_false]
  rw[e];(try simp only[RN,B,N])
  rfl
 simp only[aj,decide_eq_true_eq]at K;obtain⟨⟨k,m⟩,f⟩:=K;have ac:4<=b/\b<=60:=by simpa[anP,inR]using k
 have ai:4<=c/\c<=60:=by simpa[anP,inR]using m
 have w1:bO .i64 (c - b)=c - b:=anI (by omega);simp only[z,A,t1,t2,w1,RN,B,F,N,O]
 by_cases j:c - b>10
 ·have e:au4 s l a b c=([],2):=by simp[au4,j]
  rw[e];simp only[j,RN,B,N]
  rfl
 have ha:0<=a/\a<=(s.pc.hands.length:Int) - 1:=by simpa[inR]using g
 simp only[j,j0,t0,RN,B,F,N,O];refine anE S ?_;simp only[RN,B,F,J,O];cases D:(an4 l a).2
 ·have e:au4 s l a b c=([],7):=by simp[au4,g,k,m,f,j,D]
  rw[e];(try simp only[RN,B,F,N])
  rfl
 have q:=awd l a hl D;have E:=aNx (aog s l) t b c a k m f (by omega) ha.1 (by rw[asr];omega) (an4 l a).1 q;rw[aot,aoa]at E;have P:aHl (aog s l) a (an4 l a).1 (apN (aog s l) b (c - b+1).toNat (aog s l).links.length 0)=none->au4 s l a b c=([],5):=fun h=>by simp[au4,g,k,m,f,j,D,h]
 have M:∀L,aHl (aog s l) a (an4 l a).1 (apN (aog s l) b (c - b+1).toNat (aog s l).links.length 0)=some L->au4 s l a b c=(avn L,0):=fun L h=>by simp[au4,g,k,m,f,j,D,h]
 obtain⟨R,o⟩:∃R,R=aHl (aog s l) a (an4 l a).1 (apN (aog s l) b (c - b+1).toNat (aog s l).links.length 0):=⟨_,rfl⟩
 rw[<-o]at E P M;have H:∀L,R=some L->L.length<=2:=by
  intro L h;have aHt:=aDS t k m f (by omega) (show inR a 0 ((aog s l).hands.length - 1)=true by rw[asr];exact g) q;rw[<-o,h]at aHt;have:=ayR (aog s l) b c a (an4 l a).1;rw[aHt]at this;exact this
 simp only[j0,z,A,t0,t1,t2,RN,B,F,N,O];refine anE G ?_
 try simp only[j0,z,A,t0,t1,t2,anM,RN,B,F,I,J,N,O]
 refine anE E ?_;cases R with
 |none=>
  rw[P rfl];simp only[Option.isSome_none,Option.getD_none,RN,B,N]
  rfl
 |some L=>
  have Y:=H L rfl;rw[M L rfl];simp only[Option.isSome_some,Option.getD_some,RN,B,N];refine anL L.length (fun i (v:Nat)=>⟨[(10, .d (.slice true (L.map Chg.dv))),(12, .tsl 1 v 0),(13,pI i)],
    ⟨[some (s.cs.map .d),some [pI ((an4 l a).1.n),pI ((an4 l a).1.d)]],[1,0],[some ⟨1,[],0,0⟩,some ⟨1,(avn (L.take i)).map anF,v,0⟩]⟩⟩)
   (fun _ _=>True) 0 0 (ae _) (by rw[aq2];rfl) trivial (fun i v w _=> ?_) (fun v _=> ?_)
  ·obtain⟨T,W,X⟩:=rng w (by omega)
   have u:avn (L.take (i+1))=avn (L.take i)++ [(L.getD i default).link,(L.getD i default).pr.a,(L.getD i default).pr.b]:=by rw[anR w,avn,aZ];rfl
   have r:=aC9 (L.take i);rw[am]at r;obtain⟨c,p⟩:∃c,c=L.getD i default:=⟨_,rfl⟩
   rw[<-p]at u;simp only[T,W,w,getD_map,<-p,ap9,V,U,ayY,X,RN,B,F,J,N,O];refine⟨by rintro y (rfl|rfl|rfl)<;>rfl,by simp,by omega,?_⟩;refine aoD (v+1) w ?_ trivial (by simp) (by simp) rfl (by simp[aq2,PV.upto]);rw[u,aw];rfl
  ·simp only[ab,U,an6,aoz,RN,B,F]
   rw[ak];simp[datum,aoi,aoO,Mem.row]
def aTb (s:Su)(hs:s.ok=true)(x:En)(hx:x.formed=true)(y:x.kind≠6):Pure C 132 [s.dv,x.dv] (.d (.bool (aBf s x))) []:=by
 have z:=En.axi hx;have a:x.ns.length=apG x.kind:=by
  simp only[En.formed,aj,decide_eq_true_eq]at hx;exact hx.1.2
 have A:0<apG x.kind:=by unfold apG;split;omega;split<;>omega
 obtain⟨o,_⟩:=Su.facts hs;have v:=(Pc.avi o).2;have m:=aJp s (by omega);have q:=aLl s hs;have e:0<x.ns.length:=by omega
 have w:(0:Int)<=1:=by omega
 have t:(0:Int)<=2:=by omega
 refine am6 aCj anO ?_;rw[aoB,aon];rw[aoB]at m q;simp only[aCj,anO,RN,B,F,O];unfold aBf
 by_cases g:x.kind=1
 ·have z1:(x.kind==1)=true:=by simp[g]
  rw[if_pos g];simp only[z1,j0,t0,e,U,getD_map,anM,RN,B,F,O];refine anE (awr _) ?_;(try simp only[RN,B,F,I,J,N,O])
  rfl
 have z1:(x.kind==1)=false:=beq_false_of_ne g;rw[if_neg g]
 by_cases b:x.kind=2
 ·have f:(x.kind==2)=true:=by simp[b]
  have l1:1<x.ns.length:=by rw[a,b];decide
  have l2:2<x.ns.length:=by rw[a,b];decide
  rw[if_pos b];have k:x.n 0=x.ns.getD 0 default:=rfl;have u:x.n 1=x.ns.getD 1 default:=rfl;have l:x.n 2=x.ns.getD 2 default:=rfl;rw[k,u,l];simp only[z1,f,j0,t0,e,U,getD_map,anM,RN,B,F,O]
  by_cases r:x.ns.getD 0 default<(s.pc.links.length:Int)
  ·have j:decide (x.ns.getD 0 default<(s.pc.links.length:Int))=true:=decide_eq_true r
   rw[j];simp only[w,t1,l1,U,getD_map,anM,RN,B,O];refine anE (awr _) ?_;cases h1:anP (x.ns.getD 1 default)
   ·simp only[ah,RN,B]
   ·simp only[t,t2,l2,U,getD_map,anM,RN,B,O]
    refine anE (awr _) ?_;(try simp only[])
  ·have j:decide (x.ns.getD 0 default<(s.pc.links.length:Int))=false:=decide_eq_false r
   rw[j];simp only[ah,RN,B]
 have f:(x.kind==2)=false:=beq_false_of_ne b;rw[if_neg b]
 by_cases c:x.kind=3
 ·have i:(x.kind==3)=true:=by simp[c]
  have l2:2<x.ns.length:=by rw[a,c];decide
  rw[if_pos c];have k:x.n 0=x.ns.getD 0 default:=rfl;have l:x.n 2=x.ns.getD 2 default:=rfl;rw[k,l];simp only[z1,f,i,j0,t0,e,U,getD_map,anM,RN,B,F,O];refine anE (m _) ?_;cases h1:inR (x.ns.getD 0 default) 0 ((s.pc.hands.length:Int) - 1)
  ·simp only[ah,RN,B]
  ·simp only[t,t2,l2,U,getD_map,anM,RN,B,O]
 have i:(x.kind==3)=false:=beq_false_of_ne c;rw[if_neg c]
 by_cases h:x.kind=4
 ·have p:(x.kind==4)=true:=by simp[h]
  rw[if_pos h];simp only[z1,f,i,p,j0,t0,e,U,getD_map,anM,RN,B,F,O];refine anE (m _) ?_;(try simp only[RN,B,F,I,J,N,O])
  rfl
 ·have p:(x.kind==4)=false:=beq_false_of_ne h
  rw[if_neg h];simp only[z1,f,i,p,j0,t0,e,U,getD_map,anM,RN,B,F,O];refine anE (q _) ?_;(try simp only[RN,B,F,I,J,N,O])
  rfl
def aXm {C:Ctx}{base:Nat}{M:Mem}{K:PV->Mem->Prop}{KP:DV->Mem->Prop}{a b c d:Int}:anG C base (.awZ false [1,1]) [.d (.agg [dI a,dI b]), .d (.agg [dI c,dI d])] M K KP=K (.d (.bool ((a==c)&&(b==d)))) M:=by
 simp[anG,aoR]
def aLJ {p:Pc}{c:Chg}:(arM p c).length<=p.hands.length:=by
 rw[arM,U];exact aq (av _ _) (by simp)
def aOG (s:Su)(hs:s.ok=true)(l:List En)(hl:∀x∈l,x.Fit s)(ak:l.length<=400)(x:En)(hx:x.Fit s):Pure C 133 [s.dv,sF (l.map En.dv),x.dv] (.d (.bool (arI s l x))) []:=by
 obtain⟨ao,aq,L,ac,_⟩:=Su.facts hs;have a06:0<=s.lim/\s.lim<=10800:=by simpa[inR]using L
 have hP:=auP s hs l hl (by omega);have hS:=aLo s hs l hl ak;have Z:=fun h=>aCA l h (fun y hy=>auU (hl y hy)) (by omega)
 have j:=axD hs l hl;obtain⟨N,M⟩:=avM s l;have q:=auU hx;have hm:0<apG x.kind:=by unfold apG;split;omega;split<;>omega
 have m:0<x.ns.length:=by omega
 have T:x.n 0=x.ns.getD 0 default:=rfl;obtain⟨p,hp⟩:∃p,p=aog s l:=⟨_,rfl⟩
 rw[<-hp]at hP j N M;refine am6 aEy atF ?_;simp only[aoa]at Z;rw[aoB]at hP hS;rw[aot]at hP;rw[aoB,aon];simp only[aEy,atF,RN,B,F,O];refine anE hP ?_;(try simp only[RN,B,F,J,O]);unfold arI;rw[<-hp]
 by_cases Q:x.kind=1
 ·have z1:(x.kind==1)=true:=by simp[Q]
  have am:1<=x.n 0:=by
   have:=hx.te Q;simp only[anP,inR,aj,decide_eq_true_eq]at this;omega
  have w:=aIt s.dvd (x.n 0) ac am;rw[atm,aBv]at w;rw[if_pos Q];simp only[z1,j0,t0,m,U,getD_map,anM,RN,B,F,I,O];refine anE w ?_;cases hc:(s.dvd.first (x.n 0)).isSome
  ·simp only[ah,RN,B,F,J,O]
  ·(try simp only[RN,B,F,J,O])
   refine anE hS ?_;have e8:decide (((aqn s l).length:Int)<8)=decide ((aqn s l).length<8):=decide_eq_decide.2 (by omega);simp only[U,e8,RN]
 have z1:(x.kind==1)=false:=beq_false_of_ne Q;rw[if_neg Q]
 by_cases u:x.kind=2
 ·have R:(x.kind==2)=true:=by simp[u]
  obtain⟨⟨r,W⟩,f3⟩:=aBB hx u;rw[T]at r W;have f:(x.ns.getD 0 default).toNat<p.links.length:=by rw[N];exact W
  have A:=aS9 x (by rw[q,u];decide);rw[aon]at A;have G:=aOD (aqn s l) (aqu p x) x.chg.pr (by have:=aBl s l;omega);rw[aqA,aqA]at G;have E:=aQx p x.chg j f3 r f;rw[aot,ap9]at E;have aX8:=aLJ (p:=p) (c:=x.chg);have a1k:=(Pc.avi j).2;rw[if_pos u];simp only[z1,R,j0,t0,m,U,getD_map,anM,RN,B,F,I,O];refine anE A ?_;simp only[j0,t0,m,U,getD_map,anM,r,f,asA,aXm,RN,B,F,J,O]
  by_cases K:aqu p x=x.chg.pr
  ·have z:(((p.links.getD (x.ns.getD 0 default).toNat default).pr.a==x.n 1)&&((p.links.getD (x.ns.getD 0 default).toNat default).pr.b==x.n 2))=true:=by
    have h1:(aqu p x).a=x.n 1:=by rw[K];rfl
    have h2:(aqu p x).b=x.n 2:=by rw[K];rfl
    have h1:(p.links.getD (x.ns.getD 0 default).toNat default).pr.a=x.n 1:=h1;have h2:(p.links.getD (x.ns.getD 0 default).toNat default).pr.b=x.n 2:=h2;rw[h1,h2];simp
   simp only[z,RN,B,F];simp[K]
  have z:(((p.links.getD (x.ns.getD 0 default).toNat default).pr.a==x.n 1)&&((p.links.getD (x.ns.getD 0 default).toNat default).pr.b==x.n 2))=false:=by
   rw[Bool.eq_false_iff];intro h;simp only[aj,beq_iff_eq]at h;apply K
   show(⟨(p.links.getD (x.ns.getD 0 default).toNat default).pr.a,(p.links.getD (x.ns.getD 0 default).toNat default).pr.b⟩:Pr)=⟨x.n 1,x.n 2⟩
   rw[h.1,h.2]
  have d1:decide (aqu p x=x.chg.pr)=false:=decide_eq_false K;rw[d1];simp only[z,RN,B,F,O];refine anE hS ?_;simp only[j0,t0,m,U,getD_map,anM,r,f,asA,RN,F,O];refine anE G ?_;cases ap:(arx (aqn s l) (aqu p x) x.chg.pr).2
  ·simp only[ah,RN,B]
  (try simp only[RN,B,F,O]);refine anE E ?_;simp only[];refine anL (arM p x.chg).length (fun i (_:Unit)=>⟨[(1, .d (sF (l.map En.dv))),(14, .d (sF ((arM p x.chg).map anF))),(15,pI i)],
    ⟨[some (s.cs.map .d),some [pI x.kind, .d (sF (x.ns.map anF))],some [.d (sF (p.links.map Lk.dv)), .d (sF (p.hands.map anF))],some [pI (x.ns.getD 0 default),pI (x.n 1),pI (x.n 2)]],[3,2,1,0],[]⟩⟩)
   (fun i _=>((arM p x.chg).all fun h=>(an4 l h).2)=(((arM p x.chg).drop i).all fun h=>(an4 l h).2)) 0 () (ae _) rfl rfl (fun i _ g e=> ?_) (fun _ e=> ?_)
  ·obtain⟨g2,X,Y⟩:=rng g (by omega)
   rw[drop_cons g,bF]at e;simp only[g2,X,g,getD_map,anM,V,U,RN,B,F,O];refine anE (Z _) ?_;cases hb:(an4 l ((arM p x.chg).getD i default)).2
   ·rw[hb,ah]at e
    simp only[e,RN,B,F,J,O]
   ·rw[hb,aL]at e
    simp only[Y,RN,B,F,J,O];exact ao7 4 0 () g rfl e (by simp) (by simp) rfl rfl
  ·rw[az,bJ]at e
   simp only[ab,U,e,RN,B,F]
 have R:(x.kind==2)=false:=beq_false_of_ne u;rw[if_neg u]
 by_cases k3:x.kind=3
 ·have z3:(x.kind==3)=true:=by simp[k3]
  rw[if_pos k3];simp only[z1,R,z3,j0,t0,m,U,getD_map,anM,RN,B,F,O];refine anE (Z _) ?_;(try simp only[RN,F,J,O])
  rfl
 have z3:(x.kind==3)=false:=beq_false_of_ne k3;rw[if_neg k3]
 by_cases v:x.kind=4
 ·have z4:(x.kind==4)=true:=by simp[v]
  obtain⟨r,W⟩:=hx.hd (.inr v);have f:(x.n 0).toNat<p.hands.length:=by rw[M];exact W
  have l1:1<x.ns.length:=by rw[q,v];decide
  have j1:(0:Int)<=1:=by omega
  have e1:x.n 1=x.ns.getD 1 default:=rfl;have D:=aGB s hs p j (x.n 0) r f;rw[aoB,aot]at D;have w1:bO .i64 (0 - s.lim)= -s.lim:=by rw[anI (by omega)];omega
  rw[if_pos v];simp only[z1,R,z3,z4,j0,t0,m,U,getD_map,anM,RN,B,F,O];refine anE (Z _) ?_;rw[<-T];cases ho:(an4 l (x.n 0)).2
  ·simp only[ah,RN,B,F,J,O]
  have ai:=awd l (x.n 0) hl ho;have H:=aLt p j (x.n 0) r f (an4 l (x.n 0)).1 ai 100 (by omega);rw[aot,aoa]at H;simp only[j0,t0,m,U,getD_map,anM,<-T,RN,B,F,J,O];refine anE H ?_;simp only[w1];refine anE (aLx _ _ _) ?_;cases hc:inR (aGd p (x.n 0) (an4 l (x.n 0)).1 100) (-s.lim) s.lim
  ·simp only[ah,RN,B]
  simp only[j0,t0,m,j1,t1,l1,U,getD_map,anM,<-T,RN,B,F,O];refine anE D ?_;(try simp only[RN])
  rfl
 ·have z4:(x.kind==4)=false:=beq_false_of_ne v
  have k5:x.kind=5:=by have:=hx.k;omega
  have hd:=hx.df;rw[En.aAf k5]at hd;obtain⟨d1,d2⟩:=hd;have an:=arn s;have H:=aLs s hs (x.n 0) (by omega);rw[aoB]at H;rw[if_neg v];simp only[z1,R,z3,z4,RN,B,F];refine anL l.length (fun i (_:Unit)=>⟨[(1, .d (sF (l.map En.dv))),(3, .d (.anY s.cs)),(7, .d (sF (x.ns.map anF))),(22,pI i)],
    ⟨[some (s.cs.map .d),some [pI x.kind, .d (sF (x.ns.map anF))],some [.d (sF (p.links.map Lk.dv)), .d (sF (p.hands.map anF))]],[2,1,0],[]⟩⟩)
   (fun i _=>(l.any fun y=>y.kind==5&&decide (y.n 0>=x.n 0))=((l.drop i).any fun y=>y.kind==5&&decide (y.n 0>=x.n 0))) 0 () (ae _) rfl rfl (fun i _ g e=> ?_) (fun _ e=> ?_)
  ·obtain⟨g2,X,Y⟩:=rng g (by omega)
   have hy:=hl _ (getD_mem g);have P:=auU hy;rw[drop_cons g,bG]at e;obtain⟨y,t⟩:∃y,y=l.getD i default:=⟨_,rfl⟩
   rw[<-t]at e hy P;simp only[g2,X,g,getD_map,<-t,aon,V,U,RN,B,F,O]
   by_cases y5:y.kind=5
   ·have S:(y.kind==5)=true:=by simp[y5]
    have ly:0<y.ns.length:=by rw[P,y5];decide
    rw[S,aL]at e;simp only[S,X,g,getD_map,<-t,aon,anM,V,U,j0,t0,m,ly,RN,B,F,O]
    by_cases o:y.ns.getD 0 default>=x.ns.getD 0 default
    ·have dg:decide (y.n 0>=x.n 0)=true:=decide_eq_true o
     rw[dg,bH]at e;simp only[o,e,ah,RN,B,F]
    ·have dg:decide (y.n 0>=x.n 0)=false:=decide_eq_false o
     rw[dg,bc]at e;simp only[o,Y,RN,B,F];exact anT () g rfl e
   ·have S:(y.kind==5)=false:=beq_false_of_ne y5
    rw[S,ah,bc]at e;simp only[S,Y,RN,B,F];exact anT () g rfl e
  ·rw[az,List.any_nil]at e
   simp only[ab,U,j0,t0,m,getD_map,anM,aq2,RN,B,F,O];refine anE H ?_;simp only[e,RN]
def aTd (s:Su)(hs:s.ok=true)(l:List En)(hl:∀x∈l,x.Fit s)(o:l.length<=400):Pure C 131 [s.dv,sF (l.map En.dv)] (.d (.bool (aqS s l))) []:=by
 have k:=fun i (h:i<l.length)=>aOG s hs (l.take i) (aLQ hl i) (by rw[am];omega) (l.getD i default) (hl _ (getD_mem h))
 refine am6 aCo anO ?_;simp only[aoB,aon (x:=l.getD _ default)]at k;rw[aoB];simp only[aCo,anO,RN,B,F];refine anL l.length (fun i (_:Unit)=>⟨[(1, .d (sF (l.map En.dv))),(2, .d (.anY s.cs)),(5,pI i)],⟨[some (s.cs.map .d)],[0],[]⟩⟩)
  (fun i _=>∀j,j<i->arI s (l.take j) (l.getD j default)=true) 0 () (ae _) rfl (fun j h=>by omega) (fun i _ b a=> ?_) (fun _ a=> ?_)
 ·obtain⟨c,f,m⟩:=rng b (by omega)
  have p:(0:Int)<=(i:Int):=by omega
  have q:(i:Int)<=((l.map En.dv).length:Int):=by rw[U];omega
  simp only[c,f,b,getD_map,aon (x:=l.getD i default),V,U,aq2,RN,B,F,O];rw[auG (aMB l) p q,<-bd,V]
  try simp only[c,f,b,getD_map,aon (x:=l.getD i default),V,U,RN,B,F,I,J,N,O]
  refine anE (k i b) ?_;cases g:arI s (l.take i) (l.getD i default)
  ·have:aqS s l=false:=by
    rw[<-Bool.not_eq_true,aqS,aJ];intro h;have:=h i (aH.2 b);rw[g]at this;cases this
   simp only[this,RN,B]
  ·simp only[m,RN,B]
   refine anT () b rfl fun j r=> ?_
   by_cases e:j=i
   ·rw[e];exact g
   ·exact a j (by omega)
 ·have:aqS s l=true:=by
   rw[aqS,aJ];exact fun i n=>a i (aH.1 n)
  simp only[ab,U,this,RN,B]
def aE0 (D:Dk):List DV:=[sF (D.su.pc.links.map Lk.dv),sF (D.su.pc.hands.map anF),sF (D.su.tg.map Fr.dv),dI D.su.lim,dI D.su.dvd.aoG,sF (D.su.dvd.cir.map anF),dI D.su.cal.ep,sF (D.su.cal.cy.map anF),dI D.su.apM.n,dI D.su.apM.d,dI D.su.apM.ad,sF (D.su.fs.map Fs.dv),dI D.su.year,dI D.su.ao2,dI D.su.hours,dI D.su.aqJ,dI D.su.pct,sF (D.es.map En.dv),sF (D.st.map .bool)]
def aE1 (D:Dk):DV:= .agg (aE0 D)
def aKc:aE0 D=[sF (D.su.pc.links.map Lk.dv),sF (D.su.pc.hands.map anF),sF (D.su.tg.map Fr.dv),dI D.su.lim,dI D.su.dvd.aoG,sF (D.su.dvd.cir.map anF),dI D.su.cal.ep,sF (D.su.cal.cy.map anF),dI D.su.apM.n,dI D.su.apM.d,dI D.su.apM.ad,sF (D.su.fs.map Fs.dv),dI D.su.year,dI D.su.ao2,dI D.su.hours,dI D.su.aqJ,dI D.su.pct,sF (D.es.map En.dv),sF (D.st.map .bool)]:=by rw[aE0]
def atN:aE1 D= .agg [sF (D.su.pc.links.map Lk.dv),sF (D.su.pc.hands.map anF),sF (D.su.tg.map Fr.dv),dI D.su.lim,dI D.su.dvd.aoG,sF (D.su.dvd.cir.map anF),dI D.su.cal.ep,sF (D.su.cal.cy.map anF),dI D.su.apM.n,dI D.su.apM.d,dI D.su.apM.ad,sF (D.su.fs.map Fs.dv),dI D.su.year,dI D.su.ao2,dI D.su.hours,dI D.su.aqJ,dI D.su.pct,sF (D.es.map En.dv),sF (D.st.map .bool)]:=by rw[aE1,aE0]
def aKT (n:Nat):DV:=dI n
def aRR {n:Nat}:aKT n=dI n:=rfl
def aww (D:Dk)(n:Nat):List Nat:=(aK n).filter (arN D)
def aHA (D:Dk)(n:Nat):aww D (n+1)=aww D n++if arN D n then[n]else[]:=by
 rw[aww,aW,be,<-aww,bp,bv]
def aCR (D:Dk)(n:Nat):(aww D n).length<=n:=aq (av _ _) (by simp)
def aNV (h:i∈ao6 D):i<D.es.length:=aH.1 (aV.1 h).1
def aA1 {l:List Bool}(h:i<l.length):(l.map DV.bool).getD i default= .bool (l.getD i default):=by rw[getD_map h]
def aIp (D:Dk)(hl:D.es.length=D.st.length)(m:D.es.length<=1000):Pure C 37 [aE1 D] (.d (sF ((ao6 D).map aKT))) []:=by
 refine an9 (anJ awl anN ?_);rw[atN];simp only[awl,anN,RN,B,N];refine anL D.es.length (fun i (v:Nat)=>⟨[(1, .d (.anY (aE0 D))),(3, .tsl 1 v 0),(4,pI i)],⟨[some ((aE0 D).map .d)],[0],[some ⟨1,[],0,0⟩,some ⟨1,(aww D i).map aKT,v,0⟩]⟩⟩)
  (fun i _=>True) 0 0 (ae _) rfl trivial (fun i v b _=> ?_) (fun v _=> ?_)
 ·obtain⟨l,f,g⟩:=rng b (by omega)
  have h:i<D.st.length:=by omega
  have a:=aHA D i;have j:=aCR D i;simp only[aKc,l,f,b,getD_map,aon,V,U,RN,B,F,O]
  by_cases k:(D.es.getD i default).kind=6
  ·have z:((D.es.getD i default).kind !=6)=false:=by rw[k];rfl
   have c:arN D i=false:=by rw[arN,k];rfl
   rw[c,if_neg (by simp),aE]at a;simp only[z,g,RN,B];rw[<-a];exact aoD v b rfl trivial (by simp) (by simp) rfl rfl
  have z:((D.es.getD i default).kind !=6)=true:=bne_iff_ne.2 k;cases e:D.st.getD i default
  ·have c:arN D i=true:=by rw[arN,e,decide_eq_true k];rfl
   rw[c,if_pos rfl]at a;simp only[z,f,h,aA1,e,aqz,V,U,ao8,DV.strip,fits_int,forall_eq,g,RN,B,F,J,N,O];refine⟨by simp,by omega,?_⟩;refine aoD (v+1) b ?_ trivial (by simp) (by simp) rfl rfl;rw[a,aw]<;>rfl
  ·have c:arN D i=false:=by rw[arN,e,Bool.not_true,bA]
   rw[c,if_neg (by simp),aE]at a;simp only[z,f,h,aA1,e,aqz,V,U,g,RN,B,F,O];rw[<-a];exact aoD v b rfl trivial (by simp) (by simp) rfl rfl
 ·have:aww D D.es.length=ao6 D:=rfl
  simp only[aKc,ab,U,RN,B,F,O];rw[this];simp[datum,Mem.row]
def arf (D:Dk)(w:Int)(n:Nat):List En:=(((ao6 D).take n).filter fun(i:Nat)=>decide ((i:Int)≠w)).map fun i=>D.es.getD i default
def aE2 (D:Dk)(w:Int){n:Nat}(h:n<(ao6 D).length):arf D w (n+1)=arf D w n++if(((ao6 D).getD n default:Nat):Int)≠w then[D.es.getD ((ao6 D).getD n default) default]else[]:=by
 rw[arf,anR h,be,aw,<-arf,bp,bv]
 congr 1
 by_cases e:(((ao6 D).getD n default:Nat):Int)≠w
 ·rw[if_pos (decide_eq_true e),if_pos e];rfl
 ·rw[if_neg (by rw[decide_eq_true_iff];exact e),if_neg e];rfl
def aG4 (D:Dk)(w:Int)(n:Nat):(arf D w n).length<=n:=by
 rw[arf,U];exact aq (av _ _) (by rw[am];omega)
def ayn (D:Dk)(w:Int):(anQ D w).length<=D.es.length:=by
 rw[anQ,U];exact aq (av _ _) (aq (av _ _) (by simp))
def azB (D:Dk)(hl:D.es.length=D.st.length)(f:D.es.length<=1000)(w:Int):Pure C 22 [aE1 D,dI w] (.d (sF ((anQ D w).map En.dv))) []:=by
 have k:=aIp D hl f;have o:(ao6 D).length<=D.es.length:=aCR D _;refine an9 (anJ au8 anO ?_);rw[atN]at k⊢;simp only[au8,anO,RN,B,F,N,O];refine anE k ?_;simp only[];refine anL (ao6 D).length (fun i (v:Nat)=>⟨[(1,pI w),(2, .d (.anY (aE0 D))),(5, .tsl 1 v 0),(6, .d (sF ((ao6 D).map aKT))),(7,pI i)],⟨[some ((aE0 D).map .d)],[0],[some ⟨2,[],0,0⟩,some ⟨2,(arf D w i).map En.dv,v,0⟩]⟩⟩)
  (fun i _=>True) 0 0 (ae _) rfl trivial (fun i v a _=> ?_) (fun v _=> ?_)
 ·obtain⟨m,h,j⟩:=rng a (by omega)
  have c:=aE2 D w a;have l:=aG4 D w i;have b:=aNV (getD_mem a);obtain⟨n,g⟩:∃n,n=(ao6 D).getD i default:=⟨_,rfl⟩
  rw[<-g]at c b;have p:(0:Int)<=(n:Int):=by omega
  simp only[m,h,a,getD_map,aRR,<-g,V,U,RN,B,O]
  by_cases e:(n:Int)=w
  ·have z:((n:Int) !=w)=false:=by simp[e]
   rw[if_neg (by simp[e]),aE]at c;simp only[z,j,RN,B];rw[<-c];exact aoD v a rfl trivial (by simp) (by simp) rfl rfl
  ·have z:((n:Int) !=w)=true:=by simp[e]
   rw[if_pos e]at c;simp only[z,aKc,h,a,getD_map,aRR,<-g,p,b,aon,V,U,ao8,DV.strip,RN,B,F,J,N,O];refine⟨by rintro y rfl;rfl,by simp,by omega,?_⟩;rw[j];refine aoD (v+1) a ?_ trivial (by simp) (by simp) rfl rfl;rw[c,aw]<;>rfl
 ·have:arf D w (ao6 D).length=anQ D w:=by rw[arf,ak];rfl
  simp only[ab,U,RN,B];rw[this];simp[datum,Mem.row]
def aVH (h:D.Live)(x:En)(o:x.ns.length<=1000000):Pure C 50 [aE1 D,x.dv] (pI (avo D x)) []:=by
 have m:=h.ok.su;have K:=h.ok.len;have A:=h.ok.few;have t:=aQv x o;have c:=fun w=>azB D K (by omega) w
 have b:∀w,∀y∈anQ D w,y.Fit D.su:=fun w y G=>h.fit y (ap4 G).1 (ap4 G).2
 have j:=fun w=>ayn D w
 have s:=fun w=>aTd D.su m (anQ D w) (b w) (by have:=j w;omega)
 refine am6 axr anO ?_;rw[atN]at c⊢;rw[aon]at t⊢;rw[aoB]at s;simp only[axr,anO,RN,B,F,O];refine anE t ?_;unfold avo;cases d:x.formed
 ·(try simp only[RN,B,F])
  rfl
 have E:x.ns.length=apG x.kind:=by
  simp only[En.formed,aj,decide_eq_true_eq]at d;exact d.1.2
 have L:0<apG x.kind:=by unfold apG;split;omega;split<;>omega
 have Q:0<x.ns.length:=by omega
 have H:x.n 0=x.ns.getD 0 default:=rfl;have g:=atS d (i:=0) L;rw[if_neg (by simp)];simp only[U,RN,B,F,O]
 by_cases e:D.es.length>=24
 ·have z:((D.es.length:Int)>=24):=by omega
  rw[if_pos e];simp only[z,RN,B,F]
 have z:¬((D.es.length:Int)>=24):=by omega
 rw[if_neg e];simp only[z,RN,B,F,O]
 by_cases k6:x.kind=6
 ·have p:(x.kind==6)=true:=by simp[k6]
  rw[if_pos k6];simp only[p,j0,t0,Q,U,getD_map,anM,RN,B,F,O];rw[<-H]
  by_cases a:x.n 0>=(D.es.length:Int)
  ·rw[if_pos (.inl a)]
   simp only[a,RN,B,F]
  have l:(x.n 0).toNat<D.es.length:=by omega
  have f:(x.n 0).toNat<D.st.length:=by omega
  simp only[a,g.1,l,getD_map,aon,U,RN,B,F,O]
  by_cases k:(D.es.getD (x.n 0).toNat default).kind=6
  ·have r:((D.es.getD (x.n 0).toNat default).kind==6)=true:=beq_iff_eq.2 k
   rw[if_pos (.inr k)];simp only[r,RN,B,F]
  have r:((D.es.getD (x.n 0).toNat default).kind==6)=false:=beq_false_of_ne k;rw[if_neg (by rintro(q|q)<;>first|exact q.elim|exact a q|exact k q)];simp only[r,g.1,f,aA1,aqz,U,RN,B,F,O];cases S:D.st.getD (x.n 0).toNat default
  ·(try simp only[RN,B,F,O])
   refine anE (c _) ?_;(try simp only[RN,B,F,I,J,N,O]);refine anE (s _) ?_;cases R:aqS D.su (anQ D (x.n 0))
   ·(try simp only[RN,F])
    rfl
   ·(try simp only[RN,F])
    rfl
  ·(try simp only[RN,B,F])
   rfl
 have p:(x.kind==6)=false:=beq_false_of_ne k6;have v:=aTb D.su m x d k6;rw[aoB,aon]at v;rw[if_neg k6];simp only[p,RN,B,F,O];refine anE v ?_;cases M:aBf D.su x
 ·(try simp only[RN,B,F])
  rfl
 rw[if_neg (by simp)];have P:x.Fit D.su:=aI3 d k6 (by rw[<-ayi d k6];exact M);have u:=aOG D.su m (anQ D (-1)) (b _) (by have:=j (-1);omega) x P;rw[aoB,aon]at u;(try simp only[RN,B,F,O]);refine anE (c _) ?_;(try simp only[RN,B,F,I,J,N,O]);refine anE u ?_;cases T:arI D.su (anQ D (-1)) x
 ·(try simp only[RN,F])
  rfl
 ·(try simp only[RN,F])
  rfl
end Go.Tel
namespace Go.Am
variable{bs:List (Option (List PV))}{fz:List Nat}{ar:List (Option Arr)}{sz:Nat}
def aR9 {xs:List DV}:Mem.frz ⟨bs,fz,ar++ [some ⟨sz,xs,0,0⟩]⟩ [.tsl ar.length 0 0]=⟨bs,fz,ar++ [some ⟨sz,xs,0,2⟩]⟩:=by
 simp only[Mem.frz,aq5,aq4,bj,List.flatMap_nil,aE,aF,aA0,List.foldl_cons,List.foldl_nil]
 congr 1
 apply List.ext_getElem?;intro i;rw[List.getElem?_modify]
 by_cases b:ar.length=i
 ·subst b
  rw[aO,aO];simp
 ·simp only[b,if_false]
  by_cases a:i<ar.length
  ·rw[ap a,ap a];simp
  ·rw[aX (by simp;omega),aX (by simp;omega)];rfl
def aRV {C:Ctx}{K:PV->Mem->Prop}{base:Nat}{KP:DV->Mem->Prop}{ys:List DV}{ex:Bool}(a:0<sz)(hf:∀y∈ys,y.fits sz=true)(hl:ys.length<=1073741824)
  (b:K (.d (.slice false ys)) ⟨bs,fz,ar++ [some ⟨sz,ys,0,2⟩]⟩):anG C base (.aJV sz) [.d (.slice true []), .d (.slice ex ys)] ⟨bs,fz,ar⟩ K KP:=by
 simp only[anG,aRj];refine⟨a,hf,by simp,by simp,by simpa using hl, .slice false ys,by simp[datum,Mem.row],?_⟩;simp only[aF,cond_false];rw[aR9];exact b
end Go.Am
namespace Go.Tel
open Go.Am
variable{D:Dk}
def aYI {x:En}(hk:1<=x.kind/\x.kind<=6)(a:x.kind≠6):D.with x={D with es:=D.es++ [x],st:=D.st++ [false]}:=by
 rcases(show x.kind=1\/x.kind=2\/x.kind=3\/x.kind=4\/x.kind=5 by omega)with k|k|k|k|k
 ·unfold Dk.with;rw[En.deed1 k];rfl
 ·unfold Dk.with;rw[En.deed2 k];rfl
 ·unfold Dk.with;rw[En.deed3 k];rfl
 ·unfold Dk.with;rw[En.deed4 k];rfl
 ·unfold Dk.with;rw[En.aAf k];rfl
def aUG (xs:List En):∀y∈xs.map En.dv,y.fits 2=true:=by
 intro y a;obtain⟨z,_,rfl⟩:=aC.1 a;rw[aon];rfl
def aPc (xs:List Bool):∀y∈xs.map DV.bool,y.fits 1=true:=by
 intro y a;obtain⟨z,_,rfl⟩:=aC.1 a
 rfl
def aVM (D:Dk)(x:En)(hl:D.es.length<=1000)(p:D.st.length<=1000)(t:x.ns.length<=1000)(h:x.kind=6->1<=x.ns.length/\0<=x.n 0/\(x.n 0).toNat<D.st.length)(hk:1<=x.kind/\x.kind<=6):Pure C 51 [aE1 D,x.dv] (.d (aE1 (D.with x))) []:=by
 refine an9 (anJ axt aTv ?_);rw[atN (D:=D),aon];simp only[axt,aTv,RN,B,F,J,N,O];refine⟨aUG _,by simp,by simp,by simp;omega,?_⟩;refine aRV (by decide) (ay6 _) (by simp;omega) ?_;have k:∀y:DV,y= .agg [dI x.kind,sF (x.ns.map anF)]->y.fits 2=true:=by rintro y rfl;rfl
 have i:=aPc D.st;have j:∀y:DV,y= .bool false->y.fits 1=true:=by rintro y rfl;rfl
 have l:(D.es.map En.dv).length<=1073741823:=by simp;omega
 have m:(D.st.map DV.bool).length<=1073741824:=by simp;omega
 have o:(D.st.map DV.bool).length<=1073741823:=by simp;omega
 simp only[DV.strip,aor,aox,RN,B,F,J,N,O]
 (repeat(refine bM (by first|assumption|rfl|(simp;done)|(simp;omega)) ?_))
 by_cases k6:x.kind=6
 ·obtain⟨u,r,s⟩:=h k6
  have g:(x.kind==6)=true:=by simp[k6]
  have q:0<x.ns.length:=by omega
  have e:0<=x.ns.getD 0 default:=r;have a:(x.ns.getD 0 default).toNat<D.st.length:=s;have f:(x.ns.getD 0 default).toNat<(D.st.map DV.bool++ [DV.bool false]).length:=by rw[Z,U];omega
  simp only[g,j0,t0,q,e,f,U,getD_map,anM,RN,B,F,N,O];have b:(D.st.map DV.bool++ [DV.bool false]).getD (x.ns.getD 0 default).toNat default= .bool (D.st.getD (x.ns.getD 0 default).toNat default):=by
   rw[au,ap (by simpa using a),<-au,getD_map a]
  refine awx (ds:=[.bool true]) rfl rfl (by decide) rfl rfl (by rw[b];exact aS 1) ?_;have c:(D.st.map DV.bool++ [DV.bool false]).set (x.ns.getD 0 default).toNat (setCells ((D.st.map DV.bool++ [DV.bool false]).getD (x.ns.getD 0 default).toNat default) 0 [.bool true])=(D.st.set (x.ns.getD 0 default).toNat true++ [false]).map .bool:=by
   rw[b,List.set_append_left _ _ (by simpa using a),aw,List.map_set];rfl
  rw[c];simp only[aox,an6,bz,aoq,aoI,RN,F,J,O];rw[aEU k6];simp[datum,aoi,aoO,Mem.row,atN,aon,En.n]
 ·have g:(x.kind==6)=false:=beq_false_of_ne k6
  simp only[g,aox,an6,bz,aoq,aoI,RN,B,F,J,O];rw[aYI hk k6];simp[datum,aoi,aoO,Mem.row,atN,aon]
def aTc (s:Su)(hs:s.Small)(e:s.fs.length<=1000000):Pure C 18 [s.dv] (.d (.bool s.ok)) []:=by
 have h1:=aS8 s.pc hs.l hs.h;have h2:=aYx s.dvd (by have:=hs.ci;omega);have k:=aYw s.cal (by have:=hs.cy;omega);have m:=aVV s.apM;have y:=aQC s.fs e;have n:=aOE s [] false;have o:=aQz (s.bil []) (by simp[Su.bil]);have b:=fun f:Fr=>aVS f
 simp only[aot,atm,aoJ,apz,aAY,aoa,aoB]at h1 h2 k m n o b;refine am6 aCl anN ?_;rw[aoB];simp only[aCl,anN,RN,B,F,O];refine anE h1 ?_;cases q:s.pc.ok
 ·(try simp only[RN,B])
  simp[Su.ok,q]
 simp only[U,RN,B,F,O]
 by_cases j:s.tg.length=s.pc.hands.length
 case neg=>
  have z:((s.tg.length:Int) !=(s.pc.hands.length:Int))=true:=by simp;omega
  simp only[z,RN,B];simp[Su.ok,j]
 have z:((s.tg.length:Int) !=(s.pc.hands.length:Int))=false:=by simp[j]
 simp only[z,RN,B,F,O];refine anE (aTl _) ?_;cases r:inR s.lim 0 10800
 ·(try simp only[RN,B])
  simp[Su.ok,r]
 (try simp only[RN,B,F,O]);refine anE h2 ?_;cases u:s.dvd.ok
 ·(try simp only[RN,B])
  simp[Su.ok,u]
 simp only[RN,B];have A:=hs.t;refine anL s.tg.length (fun i (_:Unit)=>⟨[(1, .d (.anY s.cs)),(3,pI i)],⟨[some (s.cs.map .d)],[0],[]⟩⟩)
  (fun i _=>s.tg.all Fr.ok=(s.tg.drop i).all Fr.ok) 0 () (ae _) rfl rfl (fun i _ c a=> ?_) (fun _ a=> ?_)
 ·obtain⟨v,w,x⟩:=rng c (by omega)
  rw[drop_cons c,bF]at a;simp only[aq2,v,w,c,getD_map,aoa,V,U,RN,B,F,O];refine anE (b _) ?_;cases p:(s.tg.getD i default).ok
  ·rw[p,ah]at a
   (try simp only[RN,B]);simp[Su.ok,a]
  ·rw[p,aL]at a
   simp only[x,RN,B];exact anT () c rfl a
 ·rw[az,bJ]at a
  have g:s.ok=(s.cal.ok&&s.apM.ok&&aqb s.fs&&inR s.year 0 4000&&(s.bil []).ok):=by
   simp[Su.ok,q,j,r,u,a]
  rw[g];simp only[aq2,ab,U,RN,B,F,O];refine anE k ?_;cases D:s.cal.ok
  ·simp only[ah,RN,B]
  (try simp only[RN,B,F,O]);refine anE m ?_;cases k6:s.apM.ok
  ·simp only[ah,RN,B]
  (try simp only[RN,B,F,O]);refine anE y ?_;cases E:aqb s.fs
  ·simp only[ah,RN,B]
  (try simp only[RN,B,F,O]);refine anE (aOK _) ?_;cases G:inR s.year 0 4000
  ·simp only[ah,RN,B]
  (try simp only[RN,B,F,O]);refine anE n ?_;(try simp only[RN]);refine anE o ?_;(try simp only[])
def Su.short (s:Su):Bool:=decide (s.pc.links.length<=7)&&decide (s.pc.hands.length<=6)&&decide (s.tg.length<=6)&&decide (s.dvd.cir.length<=8)&&decide (s.cal.cy.length<=5)&&decide (s.fs.length<=8)
variable{s:Su}
def Su.aLI (h:s.short=true):s.Small/\s.fs.length<=8:=by
 simp only[Su.short,aj,decide_eq_true_eq]at h;exact⟨⟨by omega,by omega,by omega,by omega,by omega⟩,by omega⟩
def au1 {a b:Nat}:decide ((a:Int)<=(b:Int))=decide (a<=b):=decide_eq_decide.2 (by omega)
def aWe (s:Su):Pure C 39 [s.dv] (.d (.bool s.short)) []:=by
 refine am6 aB3 anN ?_;rw[aoB];simp only[aB3,anN,U,RN,B,F,O];have a:decide ((s.pc.links.length:Int)<=7)=decide (s.pc.links.length<=7):=au1;have c:decide ((s.pc.hands.length:Int)<=6)=decide (s.pc.hands.length<=6):=au1;have f:decide ((s.tg.length:Int)<=6)=decide (s.tg.length<=6):=au1;have h:decide ((s.dvd.cir.length:Int)<=8)=decide (s.dvd.cir.length<=8):=au1;have j:decide ((s.cal.cy.length:Int)<=5)=decide (s.cal.cy.length<=5):=au1;have l:decide ((s.fs.length:Int)<=8)=decide (s.fs.length<=8):=au1;rw[Su.short];cases b:decide (s.pc.links.length<=7)
 ·simp only[a,b,ah,RN,B]
 cases e:decide (s.pc.hands.length<=6)
 ·simp only[a,b,c,e,ah,U,RN,B,F,O]
 cases g:decide (s.tg.length<=6)
 ·simp only[a,b,c,e,f,g,ah,U,RN,B,F,O]
 cases i:decide (s.dvd.cir.length<=8)
 ·simp only[a,b,c,e,f,g,h,i,ah,U,RN,B,F,O]
 cases k:decide (s.cal.cy.length<=5)
 ·simp only[a,b,c,e,f,g,h,i,j,k,ah,U,RN,B,F,O]
 ·simp only[a,b,c,e,f,g,h,i,j,k,l,U,RN,B,F,O]
def aw1 (s:Su)(l:List En)(q:List Qn):Bool:= !((l.take 27).any fun x=>decide (x.ns.length>6))&& !((q.take 11).any fun x=>decide (x.ns.length>6))&&(s.short&&decide (l.length<=26)&&decide (q.length<=10))
def aIP {l:List En}{q:List Qn}(h:aw1 s l q=true):s.short=true/\(l.length<=26/\∀x∈l,x.ns.length<=6)/\q.length<=10/\∀x∈q,x.ns.length<=6:=by
 simp only[aw1,aj,bg,bh,decide_eq_true_eq]at h;obtain⟨⟨h1,h2⟩,⟨b,c⟩,d⟩:=h;rw[aI (by omega)]at h1 h2;exact⟨b,⟨c,fun x a=>by have:=h1 x a;omega⟩,d,fun x a=>by have:=h2 x a;omega⟩
def any_take_succ {α:Type}[Inhabited α](p:α->Bool)(l:List α){i:Nat}(h:i<l.length)(a:(l.take i).any p=false):(l.take (i+1)).any p=p (l.getD i default):=by
 rw[anR h,bu,a];simp
def aDM {α:Type}(p:α->Bool)(l:List α){i n:Nat}(a:i<=n)(h:(l.take i).any p=true):(l.take n).any p=true:=by
 rw[bo]at h⊢;obtain⟨x,c,b⟩:=h;exact⟨x,(List.take_sublist_take_left a).subset c,b⟩
def aUu (s:Su)(l:List En)(q:List Qn):Pure C 17 [s.dv,sF (l.map En.dv),sF (q.map Qn.dv)] (.d (.bool (aw1 s l q))) []:=by
 have y:=aWe s;refine am6 aB1 atF ?_;rw[aoB]at y⊢;simp only[aB1,atF,RN,B,F];refine anL (min l.length 27) (fun i (_:Unit)=>⟨[(1, .d (sF (l.map En.dv))),(2, .d (sF (q.map Qn.dv))),(3, .d (.anY s.cs)),(7,pI i)],⟨[some (s.cs.map .d)],[0],[]⟩⟩)
  (fun i _=>((l.take i).any fun x=>decide (x.ns.length>6))=false) 0 () (ae _) rfl rfl (fun i _ j a=> ?_) (fun _ a=> ?_)
 ·have k:(i:Int)<(l.length:Int):=by omega
  have n:(i:Int)<27:=by omega
  have m:(0:Int)<=(i:Int):=by omega
  have e:i<l.length:=by omega
  have o:bO .i64 ((i:Int)+1)=((i+1:Nat):Int):=by rw[anI (by omega)];omega
  have b:=any_take_succ (fun x:En=>decide (x.ns.length>6)) l e a;simp only[k,n,m,e,getD_map,aon,V,U,RN,B,F,O]
  by_cases f:(l.getD i default).ns.length>6
  ·have z:((l.getD i default).ns.length:Int)>6:=by omega
   have r:aw1 s l q=false:=by
    rw[decide_eq_true f]at b;have:=aDM _ l (show i+1<=27 by omega) b;simp[aw1,this]
   simp only[z,r,RN,B]
  ·have z:¬((l.getD i default).ns.length:Int)>6:=by omega
   rw[decide_eq_false f]at b;simp only[z,o,RN,B];exact anT () j rfl b
 have E:((l.take 27).any fun x=>decide (x.ns.length>6))=false:=by
  by_cases h:l.length<=27
  ·rw[bw h,ak]at a;rw[aI h];exact a
  ·rwa [bt (by omega)]at a
 have g:¬((min l.length 27:Nat):Int)<(l.length:Int)\/((min l.length 27:Nat):Int)<(l.length:Int)/\¬((min l.length 27:Nat):Int)<27:=by omega
 have I:∀v:Prop,v->v:=fun _ h=>h
 rcases g with t|⟨t,H⟩
 all_goals(
  first
   |(simp only[t,H,U,RN,B])
   |(simp only[t,U,RN,B])
  refine anL (min q.length 11) (fun i (_:Unit)=>⟨[(1, .d (sF (l.map En.dv))),(2, .d (sF (q.map Qn.dv))),(3, .d (.anY s.cs)),(8,pI i)],⟨[some (s.cs.map .d)],[0],[]⟩⟩)
   (fun i _=>((q.take i).any fun x=>decide (x.ns.length>6))=false) 0 () (ae _) rfl rfl (fun i _ j a=> ?_) (fun _ a=> ?_)
  ·have k:(i:Int)<(q.length:Int):=by omega
   have n:(i:Int)<11:=by omega
   have m:(0:Int)<=(i:Int):=by omega
   have e:i<q.length:=by omega
   have o:bO .i64 ((i:Int)+1)=((i+1:Nat):Int):=by rw[anI (by omega)];omega
   have b:=any_take_succ (fun x:Qn=>decide (x.ns.length>6)) q e a;simp only[k,n,m,e,getD_map,aBw,V,U,RN,B,F,O]
   by_cases f:(q.getD i default).ns.length>6
   ·have z:((q.getD i default).ns.length:Int)>6:=by omega
    have r:aw1 s l q=false:=by
     rw[decide_eq_true f]at b;have:=aDM _ q (show i+1<=11 by omega) b;simp[aw1,this]
    simp only[z,r,RN,B]
   ·have z:¬((q.getD i default).ns.length:Int)>6:=by omega
    rw[decide_eq_false f]at b;simp only[z,o,RN,B];exact anT () j rfl b
  have G:((q.take 11).any fun x=>decide (x.ns.length>6))=false:=by
   by_cases h:q.length<=11
   ·rw[bw h,ak]at a;rw[aI h];exact a
   ·rwa [bt (by omega)]at a
  have p:aw1 s l q=(s.short&&decide (l.length<=26)&&decide (q.length<=10)):=by simp only[aw1,E,G,bB,aL]
  rw[p];have aY8:¬((min q.length 11:Nat):Int)<(q.length:Int)\/((min q.length 11:Nat):Int)<(q.length:Int)/\¬((min q.length 11:Nat):Int)<11:=by omega
  have w:decide ((l.length:Int)<=26)=decide (l.length<=26):=au1;have D:decide ((q.length:Int)<=10)=decide (q.length<=10):=au1
  rcases aY8 with c|⟨c,u⟩
  all_goals(
   first
    |(simp only[aq2,c,u,U,RN,B,F,O])
    |(simp only[aq2,c,U,RN,B,F,O])
   refine anE y ?_;cases J:s.short
   ·simp only[ah,RN,B]
   cases A:decide (l.length<=26)
   ·simp only[w,A,ah,U,RN,B]
   ·simp only[w,A,D,U,RN,B]))
def ay9 (l:List En):ByteArray:=l.foldl (fun o x=>o++(x.line++nlB)) ⟨#[]⟩
def aDj (l:List En)(x:En):ay9 (l++ [x])=ay9 l++(x.line++nlB):=by simp[ay9]
def aH9 (l:List En)(h:∀x∈l,x.formed=true):(ay9 l).size<=40*l.length:=by
 induction l using ate with
 |h0=>exact aS 0
 |h1 l x b=>
  have h1:=b fun y a=>h y (by simp[a])
  have h2:=azY (h x (by simp));have c:nlB.size=1:=rfl;rw[aDj,aA,aA,Z,aY];omega
def aO2 (b j:Bool)(D:Dk)(hf:∀x∈D.es,x.formed=true)(hl:D.es.length<=1000):Pure C 48 [atI b j D] (.d (.tup [.str (ay9 D.es),dI 0])) []:=by
 have k:=aF3 b j D;refine am6 ar5 aw7 ?_;rw[atI,aAa]at k⊢;simp only[ar5,aw7,RN,B];refine anE k ?_;simp only[U,RN,B,F,O];refine anL D.es.length (fun i (_:Unit)=>⟨[(4, .d (.str (ay9 (D.es.take i)))),(15, .d (.slice b (D.es.map En.dv))),(16,pI D.es.length),(17,pI i)],⟨[],[],[]⟩⟩)
  (fun i _=>True) 0 () (ae _) rfl trivial (fun i _ a _=> ?_) (fun _ _=> ?_)
 ·obtain⟨m,n,o⟩:=rng a (by omega)
  have l:=hf _ (getD_mem a);have c:=aUo (D.es.getD i default);have h:=aH9 (D.es.take i) fun y q=>hf y (ay q)
  rw[am]at h;have p:=azY l;have e:(D.es.getD i default).line.size+(⟨#[10]⟩:ByteArray).size<=9223372036854775807:=by have:(⟨#[10]⟩:ByteArray).size=1:=rfl;omega
  have f:(ay9 (D.es.take i)).size+((D.es.getD i default).line++(⟨#[10]⟩:ByteArray)).size<=9223372036854775807:=by have:(⟨#[10]⟩:ByteArray).size=1:=rfl;rw[aA];omega
  have g:ay9 (D.es.take (i+1))=ay9 (D.es.take i)++((D.es.getD i default).line++⟨#[10]⟩):=by rw[anR a,aDj];rfl
  simp only[l,if_true]at c;rw[aon]at c;simp only[m,n,a,getD_map,aon,V,U,RN,B,F,O];refine anE c ?_;simp only[apu,aqQ,e,f,o,RN];exact ao7 0 0 () a (by rw[g];rfl) trivial (by simp) (by simp) rfl rfl
 ·simp only[ab,RN,B]
  rw[ak]
def aNz (D:Dk)(hf:∀x∈D.es,x.formed=true)(hl:D.es.length<=1000):Pure C 130 [aE1 D] (.d (.str (ay9 D.es))) []:=by
 refine am6 avx anN ?_;rw[atN];simp only[avx,anN,RN,B];refine anL D.es.length (fun i (_:Unit)=>⟨[(1, .d (.anY (aE0 D))),(3, .d (.str (ay9 (D.es.take i)))),(4,pI i)],⟨[some ((aE0 D).map .d)],[0],[]⟩⟩)
  (fun i _=>True) 0 () (ae _) rfl trivial (fun i _ a _=> ?_) (fun _ _=> ?_)
 ·obtain⟨j,k,l⟩:=rng a (by omega)
  have h:=hf _ (getD_mem a);have g:=aVJ (D.es.getD i default) h;have f:=aH9 (D.es.take i) fun y n=>hf y (ay n)
  rw[am]at f;have m:=azY h;have b:(ay9 (D.es.take i)).size+(D.es.getD i default).line.size<=9223372036854775807:=by omega
  have c:(ay9 (D.es.take i)++(D.es.getD i default).line).size+(⟨#[10]⟩:ByteArray).size<=9223372036854775807:=by have:(⟨#[10]⟩:ByteArray).size=1:=rfl;rw[aA];omega
  have e:ay9 (D.es.take (i+1))=ay9 (D.es.take i)++(D.es.getD i default).line++⟨#[10]⟩:=by
   rw[anR a,aDj,ByteArray.append_assoc];rfl
  rw[aon]at g;simp only[aKc,j,k,a,getD_map,aon,V,U,RN,B,F,O];refine anE g ?_;simp only[apu,aqQ,b,c,l,RN];exact anT () a (by rw[e]<;>rfl) trivial
 ·simp only[aKc,ab,U,RN,B,F,O]
  rw[ak]
def entered (D:Dk)(l:List En):Dk:=l.foldl (fun D x=>(D.enter x).1) D
def aBy (D:Dk)(l:List En)(x:En):entered D (l++ [x])=((entered D l).enter x).1:=by simp[entered]
def rdF (a b:Bool)(D:Dk):List DV:=[sF (D.su.pc.links.map Lk.dv),sF (D.su.pc.hands.map anF),sF (D.su.tg.map Fr.dv),dI D.su.lim,dI D.su.dvd.aoG,sF (D.su.dvd.cir.map anF),dI D.su.cal.ep,sF (D.su.cal.cy.map anF),dI D.su.apM.n,dI D.su.apM.d,dI D.su.apM.ad,sF (D.su.fs.map Fs.dv),dI D.su.year,dI D.su.ao2,dI D.su.hours,dI D.su.aqJ,dI D.su.pct, .slice a (D.es.map En.dv), .slice b (D.st.map .bool)]
def aAT {a b:Bool}:rdF a b D=[sF (D.su.pc.links.map Lk.dv),sF (D.su.pc.hands.map anF),sF (D.su.tg.map Fr.dv),dI D.su.lim,dI D.su.dvd.aoG,sF (D.su.dvd.cir.map anF),dI D.su.cal.ep,sF (D.su.cal.cy.map anF),dI D.su.apM.n,dI D.su.apM.d,dI D.su.apM.ad,sF (D.su.fs.map Fs.dv),dI D.su.year,dI D.su.ao2,dI D.su.hours,dI D.su.aqJ,dI D.su.pct, .slice a (D.es.map En.dv), .slice b (D.st.map .bool)]:=by rw[rdF]
def aqR.aNM {d i:Nat}{ce cs:PV}{bs:List (Option (List PV))}{fz:List Nat}{ar:List (Option Arr)}{y:Option (List PV)}(h:aqR D d ce cs ⟨bs,fz,ar⟩)(hi:i≠d):aqR D d ce cs ⟨bs.set i y,fz,ar⟩:=
 ⟨⟨by simp only;rw[ax hi];exact h.box,h.ent,h.str⟩,h.dif,h.nb,h.fzb.set⟩
def aBx (hs:s.ok=true)(l:List En):(entered ⟨s,[],[]⟩ l).Live:=by
 induction l using ate with
 |h0=>exact aSD hs
 |h1 l x a=>rw[aBy];exact aMC a x
def aNA (h:D.Live){x:En}(a:avo D x=0):Pure C 51 [aE1 D,x.dv] (.d (aE1 (D.with x))) []:=by
 have b:x.formed=true:=by cases e:x.formed with
  |true=>rfl
  |false=>unfold avo at a;rw[if_pos e]at a;cases a
 have l:=En.axi b;have g:=h.ok.few;have j:=h.ok.len;have o:=avY b;refine aVM D x (by omega) (by omega) (by omega) (fun k6=> ?_) l;have f:=atS b (i:=0) (by rw[k6];decide);have m:x.ns.length=apG x.kind:=by
  simp only[En.formed,aj,decide_eq_true_eq]at b;exact b.1.2
 unfold avo at a;have c:¬D.es.length>=24:=fun e=>by rw[if_neg (by simp[b]),if_pos e]at a;cases a
 rw[if_neg (by simp[b]),if_neg c,if_pos k6]at a;have k:¬x.n 0>=(D.es.length:Int):=fun e=>by rw[if_pos (.inl e)]at a;cases a
 refine⟨by rw[m,k6];decide,f.1,by omega⟩
end Go.Tel
namespace Go.Am
def aXE {bs:List (Option (List PV))}{fz:List Nat}{ar:List (Option Arr)}{K:St->Prop}{k ver t sz st:Nat}{ts:List Nat}{xs:List DV}{env:List (Nat×PV)}(h:ar[k]?=some (some ⟨sz,xs,ver,st⟩)):
  aEY (.tsl k ver 0) t ts K env ⟨bs,fz,ar⟩=atT ts K ⟨(t, .d (.slice false xs))::env,⟨bs,fz,ar.set k (some ⟨sz,xs,ver,2⟩)⟩⟩:=by
 rw[Go.Tel.aI5 h,bC]
end Go.Am
namespace Go.Tel
open Go.Am
variable{M:Mem}{bs:List (Option (List PV))}{fz:List Nat}{ar:List (Option Arr)}{c:PV}
def aR8 {L:List Int}{t:Nat}{ts:List Nat}{env:List (Nat×PV)}{K:St->Prop}(hc:slN 1 true c (L.map anF) ar)(a:∀k,kOf c=some k->M.anK.length<=k)(hf:Frm M ⟨bs,fz,ar⟩)
  (b:∀ex ar',Frm M ⟨bs,fz,ar'⟩->atT ts K ⟨(t, .d (.slice ex (L.map anF)))::env,⟨bs,fz,ar'⟩⟩):aEY c t ts K env ⟨bs,fz,ar⟩:=by
 rcases hc with⟨rfl,h⟩|⟨k,ver,st,rfl,h,_⟩
 ·have:=b true ar hf
  rw[h]at this;exact this
 ·rw[aXE h]
  refine b false _ ⟨hf.len,by simpa using hf.aoc,hf.box,hf.fz,fun j e=> ?_,hf.fzb⟩;have:=a k rfl;simp only;rw[ax (by omega)];exact hf.row j e
variable{base:Nat}{K:PV->Mem->Prop}{KP:DV->Mem->Prop}
def aE5 {C:Ctx}{p:PV}{e:Int}(a:p= .tup [c,pI e]\/(p= .d (.tup [.slice true [],dI e])/\c= .d (.slice true []))):
  (anG C base (.ext 0) [p] M K KP=K c M)/\anG C base (.ext 1) [p] M K KP=K (pI e) M:=by
 rcases a with rfl|⟨rfl,rfl⟩
 ·exact⟨atO,atP⟩
 ·exact⟨propext ⟨id,id⟩,propext ⟨id,id⟩⟩
def aQk {α:Type}(f g:α->Int)(l:List α):(l.flatMap fun x=>[f x,g x]).length=2*l.length:=by
 induction l with
 |nil=>rfl
 |cons x l a=>rw[bj,Z,a];simp;omega
variable{D:Dk}
def aOa (h:D.Ok)(q:Qn):(D.ask q).1.length<=1000:=by
 unfold Dk.ask
 split
 ·simp
 rename_i d
 split
 ·simp
 cases g:D.state (-1)with
 |none=>simp
 |some t=>
  simp only
  split
  ·have c:=h.aCT g
   have b:=Pc.good c.pc;have a:1<=q.kind/\q.kind<=12:=by simpa[inR]using d
   obtain⟨k,ns⟩:=q;simp only at a
   rcases aE7 a with rfl|rfl|rfl|rfl|rfl|rfl|rfl|rfl|rfl|rfl|rfl|rfl
   ·have e:(aDh t.pc).length=2*t.pc.hands.length:=aQk _ _ _
    have:(D.answer t ⟨1,ns⟩).1=aDh t.pc:=rfl;rw[this,e];have:=b.h2;omega
   ·have:(D.answer t ⟨2,ns⟩).1=aAH t.aoN:=rfl
    rw[this,aAH,List.length_mergeSort];have:=c.st;omega
   ·have:(D.answer t ⟨3,ns⟩).1=aqX t.op t.pc.hands.length:=rfl
    rw[this];have:=ax7 t.op t.pc.hands.length;have:=b.h2;omega
   ·simp only[Dk.answer];simp;split<;>simp
   ·simp only[Dk.answer,arJ];simp
    split
    ·split
     ·simp
     ·rw[aC9];have:=ayR t.pc (Qn.n ⟨5,ns⟩ 1) (Qn.n ⟨5,ns⟩ 2) (Qn.n ⟨5,ns⟩ 0);rename_i f _;have:=this f;omega
    ·simp
   ·simp only[Dk.answer];simp;split<;>simp
   ·simp[Dk.answer]
   ·simp only[Dk.answer];simp;split
    ·split<;>simp
    ·simp
   ·simp only[Dk.answer];simp;split<;>simp
   ·simp[Dk.answer]
   ·simp[Dk.answer]
   ·have:(D.answer t ⟨12,ns⟩).1=D.stands.map fun p=>(p.1:Int):=rfl
    rw[this,U];exact aq (aq (avf _ _ _) h.few) (by decide)
  ·simp
def Two (D E:Dk)(d f:Nat)(M:Mem):Prop:=∃c cs a b,aqR D d c cs M/\aqR E f a b M/\d≠f/\∀k,aCQ c cs k->¬aCQ a b k
def aqR.new {bs:List (Option (List PV))}{fz:List Nat}{ar:List (Option Arr)}(a:FzB ⟨bs,fz,ar⟩)(s:Su){x1 x2:Option (List PV)}:aqR ⟨s,[],[]⟩ (bs.length+2) (.d (.slice true [])) (.d (.slice true [])) ⟨bs++ [x1,x2,some (apg s (.d (.slice true [])) (.d (.slice true [])))],(bs.length+1)::bs.length::fz,ar⟩:=by
 have b:Frm ⟨bs,fz,ar⟩ ⟨bs++ [x1,x2,some (apg s (.d (.slice true [])) (.d (.slice true [])))],(bs.length+1)::bs.length::fz,ar⟩:=Frm.new (xf:=[_,_]) (by intro i c;simp at c⊢;omega);refine⟨⟨?_, .inl ⟨rfl,rfl⟩, .inl ⟨rfl,rfl⟩⟩,(by intro k f;cases f),?_,b.fzb a⟩
 ·simp only;rw[List.getElem?_append_right (by omega)];simp
 ·intro e
  simp only[aM]at e
  rcases e with e|e|e
  ·omega
  ·omega
  ·have:=a _ e;simp only at this;omega
def allB (D:Dk)(p:Pc):List (Option (List PV)):=[some ((aE0 D).map .d),some (D.su.cs.map .d),some [.d (sF (p.links.map Lk.dv)), .d (sF (p.hands.map anF))]]
def auC (D:Dk)(p:Pc){m:Nat}:((allB D p).all fun c=>(c.getD []).all fun p=>p.upto 3 m)=true:=by simp[allB,PV.upto]
def awc (l:List En)(n:Nat):List Int:=(aK n).flatMap fun(i:Nat)=>if(an4 l (i:Int)).2 then[(i:Int),(an4 l (i:Int)).1.n,(an4 l (i:Int)).1.d]else[]
def aEe (l:List En)(n:Nat):awc l (n+1)=awc l n++if(an4 l (n:Int)).2 then[(n:Int),(an4 l (n:Int)).1.n,(an4 l (n:Int)).1.d]else[]:=by simp[awc,aW]
def aGf (l:List En):∀n,(awc l n).length<=3*n
 |0=>by simp[awc]
 |n+1=>by
  have:=aGf l n;rw[aEe,Z]
  split<;>simp<;>omega
def aJY (h:D.Live):D.ask ⟨3,[]⟩=(awc (anQ D (-1)) D.su.pc.hands.length,0):=by
 obtain⟨t,c,b,a⟩:=h.t;rw[auE c (by decide) rfl];have e:aqX t.op t.pc.hands.length=awc (anQ D (-1)) D.su.pc.hands.length:=by
  rw[a.hh,aqX,awc]
  congr 1
  funext i
  rw[ax6,b.op]
  split<;>simp_all
 simp[Dk.answer,e]
def aPA {s:Su}(l:List En):(∀x∈l,x.Fit s)->0<=atL l/\atL l<=9999*(l.length:Int):=by
 induction l using ate with
 |h0=>exact fun _=>⟨bL _,bL _⟩
 |h1 l x b=>
  intro h;obtain⟨c,d⟩:=b fun y a=>h y (by simp[a])
  rw[arS,Z];simp only[aB,aN]
  split
  ·rename_i k
   have:=atS (h x (by simp)).fm (i:=1) (by rw[k];decide);omega
  ·omega
def aUq (p:Nat->Bool)(k:Nat):(aK (k+1)).any p=((aK k).any p||p k):=by rw[aW,bu];simp
def aJ0 (D:Dk)(i k:Nat):Bool:=(aK k).any fun k=> !inR ((D.ask ⟨6,[(k:Int),(i:Int)+1]⟩).1.getD 0 0) (-D.su.lim) D.su.lim
def aBI (p:Pc)(n:Nat):List Int:=(p.hands.take n).flatMap (avj p)
def aMZ {p:Pc}{n:Nat}(h:n<p.hands.length):aBI p (n+1)=aBI p n++avj p (p.hands.getD n default):=by rw[aBI,anR h,aZ];simp[aBI]
def aTf (p:Pc){m:Int}(c:1<=m)(h1:m<=p.links.length):(aqZ p).getD m.toNat default=aod (anX p.links m.toNat):=by
 obtain⟨k,b⟩:∃k,m.toNat=k+1:=⟨m.toNat - 1,by omega⟩
 have a:k<p.links.length:=by omega
 rw[b,aqZ,a8,au,bk,List.getElem?_range a]
 rfl
def aAP (D:Dk)(k:Int):Bool:=if k=2 then stE (anQ D (-1))else decide (k=7\/k=11)
def aYt (h:D.Live)(k:Int)(hk:k=1\/k=2\/k=3\/k=7\/k=11\/k=12):Pure C 147 [aE1 D,dI k] (.d (.slice (aAP D k) ((D.ask ⟨k,[]⟩).1.map anF))) []:=by
 obtain⟨A,q⟩:∃A,A=anQ D (-1):=⟨_,rfl⟩
 have b:=h.fits (-1);have ac:=h.goes;rw[<-q]at b ac;have aZ1:A.length<=24:=by have:=ayn D (-1);rw[<-q]at this;have:=h.ok.few;omega
 have Q:=h.ok.su;have Y:=azB D h.ok.len (by have:=h.ok.few;omega) (-1);rw[atN,<-q]at Y;have hP:=auP D.su Q A b (by omega);obtain⟨p,f⟩:∃p,p=aog D.su A:=⟨_,rfl⟩
 have an:p.ok=true:=by rw[f];exact axD Q A b
 have L:p.hands=D.su.pc.hands:=by rw[f];exact asr _ _
 rw[<-f,aoB,aot]at hP;have g:=Pc.good an;refine an9 (anJ ayD anO ?_);rw[atN];simp only[ayD,anO,RN,B,F,I,N,O];refine anE Y ?_;(try simp only[RN,B,F,J,O]);refine anE hP ?_;(try simp only[RN,B,F,J,N,O]);have hR:=fun(i:Nat) (hi:i<p.hands.length)=>aCB p an (a:=(p.hands.getD i default).toNat) (by have:=g.hd _ (getD_mem hi);omega)
 simp only[aot,aoa]at hR;have ax:((1:Int)==1)=true:=rfl
 rcases hk with rfl|rfl|rfl|rfl|rfl|rfl
 ·rw[aHI h,<-q,<-f]
  simp only[ax,RN,B,F];refine anL p.hands.length (fun i (v:Nat)=>⟨[(7, .d (chP p)),(8, .tsl 1 v 0),(9,pI i)],⟨allB D p,[2,1,0],[some ⟨1,[],0,0⟩,some ⟨1,(aBI p i).map anF,v,0⟩]⟩⟩)
   (fun _ _=>True) 0 0 (ae _) rfl trivial (fun i v c _=> ?_) (fun v _=> ?_)
  ·obtain⟨S,T,o⟩:=rng c (by have:=g.h2;omega)
   have G:=g.hd _ (getD_mem c);have ap:=hR i c;rw[show(((p.hands.getD i default).toNat:Nat):Int)=p.hands.getD i default by omega]at ap;simp only[chP,allB,S,T,c,getD_map,anM,V,U,RN,B,F,I,O];refine anE ap ?_;simp only[axf,o,U,RN,B,F,J,N,O];have K:=aD4 p (p.hands.take i);rw[am]at K;have a1i:(aBI p i).length<=8:=by have:=g.h2;rw[aBI,K];omega
   refine⟨by rintro y (rfl|rfl)<;>rfl,by simp,by omega,?_⟩;refine ao7 3 2 (v+1) c ?_ trivial (by simp) (by simp) rfl (auC D p);rw[aMZ c,aw,avj,aTf p G.1 G.2]
   rfl
  ·simp only[chP,ab,U,RN,B,F,O]
   have e:aBI p p.hands.length=aDh p:=by rw[aBI,ak];rfl
   have j:aAP D 1=false:=by simp[aAP]
   rw[e,j];simp[datum,Mem.row]
 ·rw[aHJ h,<-q]
  have w:((2:Int)==1)=false:=rfl;have E:((2:Int)==2)=true:=rfl;have hK:=aLo D.su Q A b (by omega);have j:aAP D 2=stE A:=by rw[aAP,if_pos rfl,q]
  rw[aoB]at hK;rw[j];simp only[w,E,RN,B,F,O];refine anE hK ?_;(try simp only[RN,B,F,I,J,N,O])
  rfl
 ·have ao:=aJY h
  rw[<-q,<-L]at ao;rw[ao];have w:((3:Int)==1)=false:=rfl;have E:((3:Int)==2)=false:=rfl;have P:((3:Int)==3)=true:=rfl;have W:=fun i=>aCA A i (fun x hx=>auU (b x hx)) (by omega)
  simp only[aoa]at W;simp only[w,E,P,RN,B,F];refine anL p.hands.length (fun i (v:Nat)=>⟨[(6, .d (sF (A.map En.dv))),(7, .d (chP p)),(8, .tsl 1 v 0),(11,pI i)],⟨allB D p,[2,1,0],[some ⟨1,[],0,0⟩,some ⟨1,(awc A i).map anF,v,0⟩]⟩⟩)
   (fun _ _=>True) 0 0 (ae _) (by rw[show awc A 0=[] from by simp[awc]];rfl) trivial (fun i v c _=> ?_) (fun v _=> ?_)
  ·obtain⟨S,T,o⟩:=rng c (by have:=g.h2;omega)
   have l:=aEe A i;have K:=aGf A i;have aD:=g.h2;simp only[chP,allB,S,U,RN,B,F,O];refine anE (W i) ?_;simp only[RN,B,F,J,O];cases ko:(an4 A i).2
   ·rw[ko]at l
    simp only[aQ,if_false,aE]at l;simp only[o,RN,B,F];refine ao7 3 2 v c ?_ trivial (by simp) (by simp) rfl (auC D p);rw[l]
    rfl
   ·rw[ko,if_pos rfl]at l
    simp only[ayY,o,U,RN,B,F,J,N,O];refine⟨by rintro y (rfl|rfl|rfl)<;>rfl,by simp,by omega,?_⟩;refine ao7 3 2 (v+1) c ?_ trivial (by simp) (by simp) rfl (auC D p);rw[l,aw]
    rfl
  ·simp only[chP,ab,U,RN,B,F,O]
   have j:aAP D 3=false:=by simp[aAP]
   rw[j];simp[datum,Mem.row]
 ·obtain⟨t,ht,av⟩:=aHK h
  have aj:=fun(k:Nat) (d:Int) hk h0 h1=>aIN h (k:=k) (d:=d) hk h0 h1
  have Z:=fun(i:Nat) hi=>bad_law h ht (i:=i) hi
  rw[av];simp only[<-q,<-f]at aj;have w:((7:Int)==1)=false:=rfl;have E:((7:Int)==2)=false:=rfl;have P:((7:Int)==3)=false:=rfl;have q7:((7:Int)==7)=true:=rfl;have j:aAP D 7=true:=by simp[aAP]
  have aC:=arn D.su;have aB:=aFB D.su;have H:=aJq D.su Q;rw[aoB]at H;have W:=fun(k:Nat) (d:Int) (hk:k<D.su.pc.hands.length) (hd:1<=d/\d<=366)=>aLn D.su Q A b ac (by omega) (k:Int) d (by omega) (show((k:Int)).toNat<D.su.pc.hands.length by simpa using hk) hd
  simp only[aoB,<-f]at W;have az:0<=D.su.lim/\D.su.lim<=10800:=by have:=(Su.facts Q).2.2.1;simpa[inR]using this
  have w1:bO .i64 (0 - D.su.lim)= -D.su.lim:=by rw[anI (by omega)];omega
  rw[j];simp only[w,E,P,q7,RN,B,F];refine anL D.su.days.length (fun i (_:Unit)=>⟨[(5, .d (.anY D.su.cs)),(6, .d (sF (A.map En.dv))),(7, .d (chP p)),(14,pI (arH D.su t i)),(15, .d (dI ((i:Int)+1)))],⟨allB D p,[2,1,0],[some ⟨1,[],0,0⟩,some ⟨1,[],0,0⟩]⟩⟩)
   (fun _ _=>True) 0 () (ae _) rfl trivial (fun i _ c _=> ?_) (fun _ _=> ?_)
  ·have y1:(i:Int)+1<=asl (D.su.cal.leap D.su.year):=by omega
   have o:bO .i64 ((i:Int)+1+1)=((i+1:Nat):Int)+1:=by rw[anI (by omega)];omega
   simp only[aq2,RN,B,F,O];refine anE H ?_;simp only[y1,RN,B];refine anL p.hands.length (fun k (_:Unit)=>⟨[(5, .d (.anY D.su.cs)),(6, .d (sF (A.map En.dv))),(7, .d (chP p)),(14,pI (arH D.su t i)),(15, .d (dI ((i:Int)+1))),(16, .d (.bool (aJ0 D i k))),(17,pI k)],⟨allB D p,[2,1,0],[some ⟨1,[],0,0⟩,some ⟨1,[],0,0⟩]⟩⟩)
    (fun _ _=>True) 0 () (ae _) (by rw[aq2];rfl) trivial (fun k _ k1 _=> ?_) (fun _ _=> ?_)
   ·obtain⟨k2,k3,k6⟩:=rng k1 (by have:=g.h2;omega)
    have ah:k<D.su.pc.hands.length:=by rw[<-L];exact k1
    have hv:=aj k ((i:Int)+1) ah (by omega) (by omega);have au:=W k ((i:Int)+1) ah (by omega);have r:aJ0 D i (k+1)=(aJ0 D i k|| !inR (aGd p k (asw D.su A k) (awz A ((i:Int)+1))) (-D.su.lim) D.su.lim):=by
     rw[aJ0,aUq,hv];rfl
    cases G:aJ0 D i k
    ·rw[G,bc]at r
     simp only[chP,aq2,k2,U,RN,B,F,O];refine anE au ?_;simp only[w1];refine anE (aLx _ _ _) ?_;simp only[k6,RN];exact aoD () k1 (by rw[r];rfl) trivial (by simp[allB]) (by simp) rfl (auC D p)
    ·rw[G,bH]at r
     simp only[chP,aq2,k2,U,k6,RN,B,F,O];exact aoD () k1 (by rw[r];rfl) trivial (by simp[allB]) (by simp) rfl (auC D p)
   ·have aq:aAQ D.su t i=aJ0 D i p.hands.length:=by rw[Z i c,aJ0,L]
    have m:=aEV D.su t i;rw[aq]at m;have aF:=aIH D.su t i;have w2:bO .i64 (arH D.su t i+1)=arH D.su t i+1:=anI (by omega);cases G:aJ0 D i p.hands.length
    ·rw[G]at m
     simp only[chP,ab,U,o,RN,B,F,O];exact aoD () c (by rw[m];rfl) trivial (by simp[allB]) (by simp) rfl (auC D p)
    ·rw[G]at m
     simp only[chP,ab,U,w2,o,RN,B,F,O];exact aoD () c (by rw[m];rfl) trivial (by simp[allB]) (by simp) rfl (auC D p)
  ·have y1:¬(D.su.days.length:Int)+1<=asl (D.su.cal.leap D.su.year):=by omega
   simp only[aq2,RN,B,F,O];refine anE H ?_;simp only[y1,ao8,DV.strip,RN,B]
   rfl
 ·rw[aHH h,<-q]
  have w:((11:Int)==1)=false:=rfl;have E:((11:Int)==2)=false:=rfl;have P:((11:Int)==3)=false:=rfl;have q7:((11:Int)==7)=false:=rfl;have M:((11:Int)==11)=true:=rfl;have j:aAP D 11=true:=by simp[aAP]
  rw[j];simp only[w,E,P,q7,M,RN,B,F];refine anL A.length (fun i (_:Unit)=>⟨[(6, .d (sF (A.map En.dv))),(18, .d (dI (atL (A.take i)))),(19,pI i)],⟨allB D p,[2,1,0],[some ⟨1,[],0,0⟩,some ⟨1,[],0,0⟩]⟩⟩)
   (fun _ _=>True) 0 () (ae _) rfl trivial (fun i _ c _=> ?_) (fun _ _=> ?_)
  ·obtain⟨S,T,o⟩:=rng c (by omega)
   obtain⟨x,u⟩:∃x,x=A.getD i default:=⟨_,rfl⟩
   have hx:x.Fit D.su:=by rw[u];exact b _ (getD_mem c)
   have ai:=auU hx;have s:atL (A.take (i+1))=if x.kind=4 then atL (A.take i)+x.n 1 else atL (A.take i):=by rw[anR c,<-u,arS]
   simp only[S,T,c,getD_map,<-u,aon,V,U,RN,B,F,O]
   by_cases R:x.kind=4
   ·have z:(x.kind==4)=true:=by simp[R]
    have l2:x.ns.length=2:=by rw[ai,R];rfl
    have l1:1<x.ns.length:=by omega
    have j1:(0:Int)<=1:=by omega
    have aA:=aPA (A.take i) fun y hy=>b y (ay hy)
    have aG:(A.take i).length<=24:=by rw[am];omega
    have aH:0<=x.n 1/\x.n 1<=9999:=atS hx.fm (by rw[R];decide);have e1:x.ns.getD 1 default=x.n 1:=rfl;have w1:bO .i64 (atL (A.take i)+x.n 1)=atL (A.take i)+x.n 1:=anI (by omega);rw[if_pos R]at s;simp only[z,T,c,getD_map,<-u,aon,V,U,j1,t1,l1,anM,e1,w1,o,RN,B,F,O];exact anT () c (by rw[s]) trivial
   ·have z:(x.kind==4)=false:=beq_false_of_ne R
    rw[if_neg R]at s;simp only[z,o,RN,B];exact anT () c (by rw[s]) trivial
  ·simp only[ab,U,ak,ao8,DV.strip,RN,B]
   rfl
 ·rw[aFp h]
  have w:((12:Int)==1)=false:=rfl;have E:((12:Int)==2)=false:=rfl;have P:((12:Int)==3)=false:=rfl;have q7:((12:Int)==7)=false:=rfl;have M:((12:Int)==11)=false:=rfl;have X:=aIp D h.ok.len (by have:=h.ok.few;omega);have a0t:(ao6 D).map aKT=((ao6 D).map fun(i:Nat)=>(i:Int)).map anF:=by rw[bK];rfl
  have j:aAP D 12=false:=by simp[aAP]
  rw[a0t,atN]at X;rw[j];simp only[w,E,P,q7,M,RN,B,F,O];refine anE X ?_;(try simp only[RN,B,F,I,J,N,O])
  rfl
def avU (k:Int):Int:=if 1<=k/\k<=12 then(aBQ k:Int)else -1
def aS6 (k:Int):Pure C 134 [dI k] (pI (avU k)) []:=by
 refine am6 aCp anN ?_;simp only[aCp,anN,RN,B];cases z1:(k==1)
 case true=>
  rw[show k=1 from by simpa using z1]
  (try(try simp only[RN,B]))
  rfl
 (try simp only[RN,B]);cases d:(k==2)
 case true=>
  rw[show k=2 from by simpa using d]
  (try(try simp only[RN,B]))
  rfl
 (try simp only[RN,B]);cases e:(k==3)
 case true=>
  rw[show k=3 from by simpa using e]
  (try(try simp only[RN,B]))
  rfl
 (try simp only[RN,B]);cases i:(k==7)
 case true=>
  rw[show k=7 from by simpa using i]
  (try(try simp only[RN,B]))
  rfl
 (try simp only[RN,B]);cases b:(k==11)
 case true=>
  rw[show k=11 from by simpa using b]
  (try(try simp only[RN,B]))
  rfl
 (try simp only[RN,B]);cases c:(k==12)
 case true=>
  rw[show k=12 from by simpa using c]
  (try(try simp only[RN,B]))
  rfl
 (try simp only[RN,B]);cases f:(k==4)
 case true=>
  rw[show k=4 from by simpa using f]
  (try(try simp only[RN,B]))
  rfl
 (try simp only[RN,B]);cases j:(k==8)
 case true=>
  rw[show k=8 from by simpa using j]
  (try(try simp only[RN,B]))
  rfl
 (try simp only[RN,B]);cases l:(k==9)
 case true=>
  rw[show k=9 from by simpa using l]
  (try(try simp only[RN,B]))
  rfl
 (try simp only[RN,B]);cases a:(k==10)
 case true=>
  rw[show k=10 from by simpa using a]
  (try(try simp only[RN,B]))
  rfl
 (try simp only[RN,B]);cases h:(k==6)
 case true=>
  rw[show k=6 from by simpa using h]
  (try(try simp only[RN,B]))
  rfl
 (try simp only[RN,B]);cases g:(k==5)
 case true=>
  rw[show k=5 from by simpa using g]
  (try(try simp only[RN]))
  rfl
 (try simp only[RN]);simp only[beq_eq_false_iff_ne,ne_eq]at z1 d e i b c f j l a h g;rw[avU,if_neg (by omega)]
def aPb (h:D.Live)(n:Int):D.ask ⟨4,[n]⟩=if inR n 0 ((D.su.pc.hands.length:Int) - 1)then([aA8 D.su (aog D.su (anQ D (-1))) n],0)else([],2):=by
 obtain⟨t,d,c,a⟩:=h.t;rw[auE d (by decide) rfl];cases k:inR n 0 ((D.su.pc.hands.length:Int) - 1)
 ·simp[Dk.answer,Qn.n,k]
 ·have b:0<=n/\n<=(D.su.pc.hands.length:Int) - 1:=by simpa[inR]using k
  have e:=aIm h.ok.su a.pc b.1 (by rw[a.hh];omega);simp[Dk.answer,Qn.n,k,e,c.pc]
def aRm (h:D.Live)(a b c:Int):D.ask ⟨5,[a,b,c]⟩=au4 D.su (anQ D (-1)) a b c:=by
 obtain⟨t,d,g,f⟩:=h.t;rw[auE d (by decide) rfl,<-aSI h d];have e:D.answer t ⟨5,[a,b,c]⟩=arJ D t a b c:=by simp[Dk.answer,Qn.n]
 rw[e]
def aRn (h:D.Live)(a d:Int):D.ask ⟨6,[a,d]⟩=if inR a 0 ((D.su.pc.hands.length:Int) - 1)&&inR d 1 D.su.days.length then([aGd (aog D.su (anQ D (-1))) a (asw D.su (anQ D (-1)) a) (awz (anQ D (-1)) d)],0)else([],2):=by
 cases k:inR a 0 ((D.su.pc.hands.length:Int) - 1)&&inR d 1 D.su.days.length
 ·obtain⟨t,b,f,c⟩:=h.t
  rw[auE b (by decide) rfl];simp[Dk.answer,Qn.n,k]
 ·simp only[aj]at k
  have h1:0<=a/\a<=(D.su.pc.hands.length:Int) - 1:=by simpa[inR]using k.1
  have h2:1<=d/\d<=(D.su.days.length:Int):=by simpa[inR]using k.2
  have e:=aIN h (k:=a.toNat) (d:=d) (by omega) h2.1 (by omega);rw[show((a.toNat:Nat):Int)=a by omega]at e;rw[e,if_pos rfl]
def aWx (o:Option Int):List Int×Int:=match o with|some d=>([d],0)|none=>([],5)
def aL7 (h:D.Live)(n:Int):D.ask ⟨8,[n]⟩=if inR n 1 D.su.days.length then aWx (aq8 D.asy ((D.su.days.length:Int)+1 - n).toNat n)else([],2):=by
 obtain⟨t,a,d,c⟩:=h.t;rw[auE a (by decide) rfl];cases k:inR n 1 D.su.days.length
 ·simp[Dk.answer,Qn.n,k]
 ·cases b:aq8 D.asy ((D.su.days.length:Int)+1 - n).toNat n<;>simp[Dk.answer,Qn.n,k,b,aWx]
def aRl (h:D.Live)(n:Int):D.ask ⟨9,[n]⟩=if inR n 1 D.su.days.length then([(ayT D.su.cal D.su.year.toNat (D.su.first+(n - 1))).m,(ayT D.su.cal D.su.year.toNat (D.su.first+(n - 1))).d],0)else([],2):=by
 obtain⟨t,a,c,b⟩:=h.t;rw[auE a (by decide) rfl];cases k:inR n 1 D.su.days.length<;>simp[Dk.answer,Qn.n,k]
def aRk (h:D.Live)(n:Int):D.ask ⟨10,[n]⟩=if inR n 1 400 then(if(D.su.dvd.first n).isSome then([(aSt (D.su.dvd.first n)).circle,(aSt (D.su.dvd.first n)).turns,(aSt (D.su.dvd.first n)).holes],0)else([],5))else([],2):=by
 obtain⟨t,a,c,b⟩:=h.t;have hd:=(Su.facts h.ok.su).2.2.2.1;rw[auE a (by decide) rfl];have e:D.answer t ⟨10,[n]⟩=([(D.su.dvd.cuts n).1.circle,(D.su.dvd.cuts n).1.turns,(D.su.dvd.cuts n).1.holes],(D.su.dvd.cuts n).2):=by simp[Dk.answer,Qn.n]
 rw[e,Dvd.cuts,hd,Dvd.first];cases k:inR n 1 400
 ·simp
 ·cases axc D.su.dvd.aoG n 0 D.su.dvd.cir<;>simp[aSt]
def aUs {q:Qn}(h:(q.ns.length:Int)≠avU q.kind):D.ask q=([],2):=by
 unfold Dk.ask
 by_cases k:inR q.kind 1 12=false
 ·rw[if_pos k]
 ·rw[if_neg k]
  have a:1<=q.kind/\q.kind<=12:=by simpa[inR]using k
  rw[avU,if_pos a]at h;rw[if_pos (fun e=>h (by rw[e]))]
def ayO (D:Dk)(q:Qn):Bool:=if q.kind=1\/q.kind=2\/q.kind=3\/q.kind=7\/q.kind=11\/q.kind=12 then(if(q.ns.length:Int)=avU q.kind then aAP D q.kind else true)else if q.kind=5 then decide ((q.ns.length:Int)≠avU q.kind)else true
def aS5 (h:D.Live)(q:Qn):Pure C 54 [aE1 D,q.dv] (.d (.tup [.slice (ayO D q) ((D.ask q).1.map anF),dI (D.ask q).2])) []:=by
 obtain⟨kind,ns⟩:=q;obtain⟨A,G⟩:∃A,A=anQ D (-1):=⟨_,rfl⟩
 have j:=h.fits (-1);have V:=h.goes;rw[<-G]at j V;have aZ1:A.length<=24:=by have:=ayn D (-1);rw[<-G]at this;have:=h.ok.few;omega
 have o:=h.ok.su;have Q:=azB D h.ok.len (by have:=h.ok.few;omega) (-1);rw[atN,<-G]at Q;have hQ:=aS6 kind;refine am6 ayC aoj ?_;rw[atN,aBw];simp only[ayC,aoj,U,RN,B,F,O];refine anE hQ ?_
 by_cases u:(ns.length:Int)=avU kind
 case neg=>
  have z:((ns.length:Int) !=avU kind)=true:=by simp[u]
  have e:ayO D ⟨kind,ns⟩=true:=by simp[ayO,u]
  rw[aUs u,e];simp only[z,RN,B,F]
  try rfl
 have z:((ns.length:Int) !=avU kind)=false:=by simp[u]
 simp only[z,RN,B,F,I,O];refine anE Q ?_;have H:1<=kind/\kind<=12:=by
  by_cases H:1<=kind/\kind<=12
  ·exact H
  ·rw[avU,if_neg H]at u;omega
 have x:ns.length=aBQ kind:=by rw[avU,if_pos H]at u;omega
 (try simp only[RN,B,F,J,O]);have j1:(0:Int)<=1:=by omega
 have hP:=auP D.su o A j (by omega);obtain⟨p,l⟩:∃p,p=aog D.su A:=⟨_,rfl⟩
 have X:p.ok=true:=by rw[l];exact axD o A j
 have W:p.hands=D.su.pc.hands:=by rw[l];exact asr _ _
 rw[<-l,aoB,aot]at hP;have g:=Pc.good X;have aq:=g.h2;have v:=fun n=>aJp D.su (by rw[<-W];omega) n
 have S:=aFB D.su;have ak:=arn D.su;have r:=fun n=>aLl D.su o n
 simp only[aoB,<-S]at v r;cases z4:(kind==4)
 case true=>
  obtain rfl:kind=4:=by simpa using z4
  obtain⟨n,rfl⟩:∃n,ns=[n]:=by match ns,x with| [n],_=>exact⟨n,rfl⟩
  have e:ayO D ⟨4,[n]⟩=true:=by simp[ayO]
  rw[aPb h,e,<-G,<-l];simp only[j0,t0,anM,RN,B,F,N,O];refine anE (v n) ?_;cases k1:inR n 0 ((D.su.pc.hands.length:Int) - 1)
  ·(try simp only[RN,B,F])
   rfl
  have y:0<=n/\n<=(D.su.pc.hands.length:Int) - 1:=by simpa[inR]using k1
  have P:=aGB D.su o p X n y.1 (by rw[W];omega);rw[aoB,aot]at P;simp only[j0,t0,RN,B,F,N,O];refine anE hP ?_
  try simp only[j0,t0,anM,RN,B,F,I,J,N,O]
  refine anE P ?_;simp only[ao8,DV.strip,RN]
  rfl
 simp only[RN,B,F];cases z5:(kind==5)
 case true=>
  obtain rfl:kind=5:=by simpa using z5
  obtain⟨a,b,c,rfl⟩:∃a b c,ns=[a,b,c]:=by match ns,x with| [a,b,c],_=>exact⟨a,b,c,rfl⟩
  have e:ayO D ⟨5,[a,b,c]⟩=false:=by rw[ayO,if_neg (by simp),if_pos rfl];exact decide_eq_false (fun h=>h u)
  have hN:=aVK D.su o A j (by omega) [a,b,c] rfl;rw[aoB]at hN;rw[aRm h,e,<-G];simp only[RN,B,F,O];refine anE hN ?_;(try simp only[RN])
  try rfl
 simp only[RN,B,F];cases z6:(kind==6)
 case true=>
  obtain rfl:kind=6:=by simpa using z6
  obtain⟨a,d,rfl⟩:∃a d,ns=[a,d]:=by match ns,x with| [a,d],_=>exact⟨a,d,rfl⟩
  have e:ayO D ⟨6,[a,d]⟩=true:=by simp[ayO]
  rw[aRn h,e,<-G,<-l];simp only[j0,t0,anM,RN,B,F,N,O];refine anE (v a) ?_;cases k1:inR a 0 ((D.su.pc.hands.length:Int) - 1)
  ·simp only[ah,RN,B,F]
   rfl
  simp only[j1,t1,RN,B,F,N,O];refine anE (r d) ?_;cases E:inR d 1 D.su.days.length
  ·simp only[RN,B,F]
   rfl
  have ha:0<=a/\a<=(D.su.pc.hands.length:Int) - 1:=by simpa[inR]using k1
  have hd:1<=d/\d<=(D.su.days.length:Int):=by simpa[inR]using E
  have hO:=aLn D.su o A j V (by omega) a d ha.1 (by omega) (by omega);rw[aoB,<-l]at hO;simp only[j0,j1,t0,t1,RN,B,F,N,O];refine anE hO ?_;simp only[ao8,DV.strip,RN]
  rfl
 simp only[RN,B,F];cases z8:(kind==8)
 case true=>
  obtain rfl:kind=8:=by simpa using z8
  obtain⟨n,rfl⟩:∃n,ns=[n]:=by match ns,x with| [n],_=>exact⟨n,rfl⟩
  have e:ayO D ⟨8,[n]⟩=true:=by simp[ayO]
  rw[aL7 h,e];simp only[j0,t0,anM,RN,B,F,N,O];refine anE (r n) ?_;cases E:inR n 1 D.su.days.length
  ·(try simp only[RN,B,F])
   rfl
  have y:1<=n/\n<=(D.su.days.length:Int):=by simpa[inR]using E
  have w:=aJq D.su o;have R:=fun n y=>aLs D.su o n y
  simp only[aoB,<-S]at w R;obtain⟨m,ac⟩:∃m:Nat,m=((D.su.days.length:Int)+1 - n).toNat:=⟨_,rfl⟩
  rw[<-ac];simp only[if_true];simp only[j0,t0,RN,B,F,N,O];refine anL m (fun i (_:Unit)=>⟨[(6, .d (.anY D.su.cs)),(9,pI (n+i))],⟨[some ((aE0 D).map .d),some [pI 8, .d (.slice false [dI n])],some (D.su.cs.map .d)],[2,1,0],[]⟩⟩)
   (fun i _=>aq8 D.asy m n=aq8 D.asy (m - i) (n+i)) 0 () (ae _) (by rw[bn,bI];rfl) (by rw[an,bn,bI]) (fun i _ g1 f=> ?_) (fun _ f=> ?_)
  ·have y1:n+(i:Int)<=(D.su.days.length:Int):=by omega
   have g6:bO .i64 (n+(i:Int)+1)=n+((i+1:Nat):Int):=by rw[anI (by omega)];omega
   obtain⟨k,H⟩:∃k,m - i=k+1:=⟨m - i - 1,by omega⟩
   have ab:m - (i+1)=k:=by omega
   have ai:D.asy (n+i)=D.su.works (D.su.first+(n+i) - 1):=by rw[Dk.asy,aOg (by omega) (by omega)]
   rw[H,aq8,ai]at f;simp only[aq2,RN,B,F,O];refine anE w ?_;simp only[y1,RN,B,F,O];refine aoQ rfl rfl (R (n+i) (by omega)) ?_;cases hw:D.su.works (D.su.first+(n+i) - 1)
   ·rw[hw]at f
    simp only[aQ,if_false]at f;simp only[g6,RN,B,F];exact aoD () g1 rfl (by rw[ab,f];congr 1;omega) (by simp) (by simp) rfl (by simp[PV.upto])
   ·rw[hw,if_pos rfl]at f
    rw[f];simp only[ao8,DV.strip,RN,B,F]
    rfl
  ·have y1:¬n+(m:Int)<=(D.su.days.length:Int):=by omega
   rw[Nat.sub_self,aq8]at f;rw[f];simp only[aq2,RN,B,F,O];refine anE w ?_;simp only[y1,RN,B,F]
   rfl
 simp only[RN,B,F];cases z9:(kind==9)
 case true=>
  obtain rfl:kind=9:=by simpa using z9
  obtain⟨n,rfl⟩:∃n,ns=[n]:=by match ns,x with| [n],_=>exact⟨n,rfl⟩
  have e:ayO D ⟨9,[n]⟩=true:=by simp[ayO]
  rw[aRl h,e];simp only[j0,t0,anM,RN,B,F,N,O];refine anE (r n) ?_;cases E:inR n 1 D.su.days.length
  ·(try simp only[RN,B,F])
   rfl
  have y:1<=n/\n<=(D.su.days.length:Int):=by simpa[inR]using E
  obtain⟨h1,h2,h3,h4,h5,h6,h7,h8,h9,aj⟩:=Su.facts o;have am:=(Cal.facts h5).1;have ap:D.su.cal.ep+365*D.su.year.toNat<=D.su.first/\D.su.first<=D.su.cal.ep+366*D.su.year.toNat:=D.su.cal.ap5 D.su.year.toNat;have hF:=aGA D.su.cal h5 D.su.year.toNat (by omega);have Y:((D.su.year.toNat:Nat):Int)=D.su.year:=by omega
  have T:D.su.cal.first D.su.year.toNat=D.su.first:=rfl;have ao:D.su.cal.first (D.su.year.toNat+1)=D.su.first+asl (D.su.cal.leap D.su.year):=by rw[Cal.first,T,Y]
  have M:=aVG D.su.cal h5 D.su.year.toNat (by omega) (D.su.first+n - 1) (by omega) (by omega);rw[Y,T,aoJ]at hF;rw[aoJ,arU]at M;have w1:bO .i64 (D.su.first+n)=D.su.first+n:=anI (by omega);have w2:bO .i64 (D.su.first+n - 1)=D.su.first+n - 1:=anI (by omega);rw[show D.su.first+(n - 1)=D.su.first+n - 1 by omega];simp only[j0,t0,RN,B,F,I,N,O];refine anE hF ?_;simp only[w1,w2,RN];refine anE M ?_;simp only[axf,RN,B,F,J,O]
  rfl
 simp only[RN,B,F];cases Z:(kind==10)
 case true=>
  obtain rfl:kind=10:=by simpa using Z
  obtain⟨n,rfl⟩:∃n,ns=[n]:=by match ns,x with| [n],_=>exact⟨n,rfl⟩
  have e:ayO D ⟨10,[n]⟩=true:=by simp[ayO]
  have hd:=(Su.facts o).2.2.2.1;rw[aRk h,e];simp only[j0,t0,anM,RN,B,F,N,O];refine anE (aND n) ?_;cases E:inR n 1 400
  ·(try simp only[RN,B,F])
   rfl
  have y:1<=n/\n<=400:=by simpa[inR]using E
  have L:=aIt D.su.dvd n hd y.1;rw[atm,aBv]at L;simp only[j0,t0,RN,B,F,I,N,O];refine anE L ?_;cases k3:(D.su.dvd.first n).isSome
  ·(try simp only[RN,B,F,J,O])
   rfl
  simp only[ayY,RN,B,F,J,O]
  rfl
 simp only[RN,B,F,O];simp only[beq_eq_false_iff_ne,ne_eq]at z4 z5 z6 z8 z9 Z;have s:kind=1\/kind=2\/kind=3\/kind=7\/kind=11\/kind=12:=by omega
 have K:=aYt h kind s;obtain rfl:ns=[]:=by
  refine List.eq_nil_of_length_eq_zero (x.trans ?_)
  rcases s with rfl|rfl|rfl|rfl|rfl|rfl<;>rfl
 have e:ayO D ⟨kind,[]⟩=aAP D kind:=by rw[ayO,if_pos s,if_pos u]
 have e0:(D.ask ⟨kind,[]⟩).2=0:=by
  rcases s with rfl|rfl|rfl|rfl|rfl|rfl
  ·rw[aHI h]
  ·rw[aHJ h]
  ·rw[aJY h]
  ·obtain⟨t,_,hw⟩:=aHK h;rw[hw]
  ·rw[aHH h]
  ·rw[aFp h]
 rw[atN]at K;rw[e,e0];refine anE K ?_;(try simp only[RN])
variable{d:Nat}
def aO6 {ce cs:PV}(h:aqR D d ce cs M)(a:D.Live)(m n:Bool)(q:List Qn)(hq:q.length<=1000){KP:DV->Mem->Prop}:
  SC C 49 [.ptr d 0, .d (.agg (rdF m n D)), .d (sF (q.map Qn.dv))] M (fun p M'=>p= .d (.bool true)/\Frm M M') KP:=by
 obtain⟨bs,fz,ar⟩:=M;have T:bs.length∉fz:=fun e=>aT _ (h.fzb _ e)
 refine anJ aAo atF ?_;rw[aAT];simp only[aAo,atF,anZ,aoo,Z,RN,B,F];obtain⟨z,b⟩:∃z,z=DV.anY (rdF m n D):=⟨_,rfl⟩
 obtain⟨y,w⟩:∃y,y=some ((rdF m n D).map PV.d):=⟨_,rfl⟩
 rw[aAT]at b w;simp only[aD,aP]at w;simp only[<-b,<-w];have o:Frm ⟨bs,fz,ar⟩ ⟨bs++ [y],bs.length::fz,ar⟩:=Frm.new (xf:=[bs.length]) (by simp);refine anL q.length (fun i (M:Mem)=>⟨[(0, .ptr d 0),(2, .d (sF (q.map Qn.dv))),(4, .d z),(7,pI i)],M⟩)
  (fun i M=>Frm ⟨bs,fz,ar⟩ M) 0 ⟨bs++ [y],bs.length::fz,ar⟩ (ae _) rfl o (fun i M l f=> ?_) (fun M f=> ?_)
 ·obtain⟨P,A,Q⟩:=rng l (by omega)
  obtain⟨x,k⟩:∃x,x=q.getD i default:=⟨_,rfl⟩
  have E:=aL1 (h.frm f) a.ok x (KP:=KP);have r:=aS5 a x;rw[aBw]at E r;rw[atN]at r;simp only[P,A,l,getD_map,<-k,aBw,V,U,RN,B,F,O];refine SC.mono E ?_;rintro p ⟨J,N,H⟩ ⟨c,G,S,s,v⟩;simp only[(aE5 G).1,(aE5 G).2];refine aR8 S s v fun ex I u=> ?_
  have X:((D.ask x).2 !=(D.ask x).2)=false:=by simp
  have Y:=aOa a.ok x;have j:=aTG (D.ask x).1 (D.ask x).1 (by omega) (by omega);rw[decide_eq_true rfl]at j;simp only[b,A,l,getD_map,<-k,aBw,V,U,RN,B,F,O];refine anE r ?_;simp only[X,RN,B];refine anE j ?_;simp only[Q,RN,B];exact anT _ l rfl (f.trans u)
 ·obtain⟨K,L,t⟩:=ayV (h.frm f)
  have R:=aO2 K L D a.ok.formed (by have:=a.ok.few;omega);have g:=aNz D a.ok.formed (by have:=a.ok.few;omega);rw[atN]at g;have W:((ay9 D.es).toList==(ay9 D.es).toList)=true:=beq_self_eq_true _;simp only[ab,U,RN,B];refine ap8 (asT t) rfl R rfl ?_;simp only[z1,b,RN,B,F,O];refine anE g ?_;simp only[apu,aCU,W,RN];exact f
def Fits (l:List Int):Prop:=l.length<=1000/\∀n∈l, -4611686018427387904<=n/\n<=4611686018427387904
def aBD {n:Int}(h: -4611686018427387904<=n/\n<=4611686018427387904):Fits [n]:=⟨by simp,by intro m a;rw[List.mem_singleton]at a;rw[a];exact h⟩
def avI (s:Su):List Arr:=[⟨3,s.pc.links.map Lk.dv,0,av7 (s.pc.links.map Lk.dv)⟩,⟨1,s.pc.hands.map anF,0,av7 (s.pc.hands.map anF)⟩,⟨2,s.tg.map Fr.dv,0,av7 (s.tg.map Fr.dv)⟩,⟨1,s.dvd.cir.map anF,0,av7 (s.dvd.cir.map anF)⟩,⟨1,s.cal.cy.map anF,0,av7 (s.cal.cy.map anF)⟩,⟨4,s.fs.map Fs.dv,0,av7 (s.fs.map Fs.dv)⟩]
def aoL (s:Su):List PV:=[.tsl 0 0 0, .tsl 1 0 0, .tsl 2 0 0,pI s.lim,pI s.dvd.aoG, .tsl 3 0 0,pI s.cal.ep, .tsl 4 0 0,pI s.apM.n,pI s.apM.d,pI s.apM.ad, .tsl 5 0 0,pI s.year,pI s.ao2,pI s.hours,pI s.aqJ,pI s.pct]
def aQj (s:Su)(bs:List (Option (List PV)))(fz:List Nat):datum ⟨bs,fz,(avI s).map some⟩ (.agg (aoL s))=some s.dv:=by
 rw[aoB];rfl
def aQ9 (s:Su)(hs:s.Small)(bs:List (Option (List PV)))(fz:List Nat)(KP:DV->Mem->Prop)(b:∀i∈fz,i<bs.length):
  SC C 36 [.agg (aoL s)] ⟨bs,fz,(avI s).map some⟩ (fun p M'=>(s.ok=false/\p= .d (.tup [.nilPtr,dI 2]))\/(s.ok=true/\p= .tup [.ptr (bs.length+2) 0,pI 0]/\∃x1 x2,M'=⟨bs++ [x1,x2,some (apg s (.d (.slice true [])) (.d (.slice true [])))],(bs.length+1)::fz,(avI s).map some⟩)) KP:=by
 have o:=aH7 s hs;have q:bs.length∉fz:=fun e=>aT _ (b _ e)
 have j:∀k,bs.length+k∉fz:=fun k e=>by have:=b _ e;omega
 have r:¬bs.length+1=bs.length:=by omega
 have a:=fun g h=>aQj s g h
 obtain⟨R,m⟩:∃R,R=(avI s).map some:=⟨_,rfl⟩
 rw[<-m]at a⊢;refine anJ avt aw7 ?_;simp only[avt,aw7,aoL,anZ,aoo,Z,aoI,an6,aoq,RN,B,F,O];have f:s.dv.strip=s.dv:=by rw[aoB];rfl
 refine⟨rfl,ap8 (asT (a _ _)) (by simp only[bN,f]) o rfl ?_⟩;cases c:s.ok
 ·(try simp only[RN,B])
  exact .inl trivial
 ·simp only[anZ,bi,Z,RN,B,F,O]
  simp only[an6,aoq];have n:=aRE s (Su.az7 c);have l:=aUd s c;refine aOd (asT (a _ _)) (by simp only[bN,f]) n rfl (aNH s) (x:=s.dv) (by rw[aoB];rfl) ?_;rw[aoB]at l⊢;simp only[j,apA,aqP,bi,Z,RN,B,F,O];refine anE l ?_;simp only[apA,aqP,aDR,arl,aoz,RN,B,F,O];exact .inr ⟨_,_,by rw[apg,aq2]⟩
def aLb (a b d e f g:Bool):anH:=(.seq (.region false [oa 1 (.box 0) 0,on 2 (.alloc 1 [.slice true [], .slice true [], .slice true [],dI 0,dI 0, .slice true [],dI 0, .slice true [],dI 0,dI 0,dI 0, .slice true [],dI 0,dI 0,dI 0,dI 0,dI 0]) []] 2 [1,2] [1]) (.seq (rg [oa 4 (.load true 17) 1,on 3 (.alloc 0 [.slice true [], .slice true [], .slice true [],dI 0,dI 0, .slice true [],dI 0, .slice true [],dI 0,dI 0,dI 0, .slice true [],dI 0,dI 0,dI 0,dI 0,dI 0]) [],os (.store 17) [.t 3, .t 4] 0] 1 [1,2,3]) (.seq (.region true [of 5 (.fld 0) [.t 1] 1,of 6 (.fld 0) [.t 5] 1,of 7 (.load false 1) [.t 6] 1,on 8 (.app 3 a) [.c (.slice true []), .t 7],of 9 (.fld 0) [.t 1] 1,of 10 (.fld 1) [.t 9] 1,of 11 (.load false 1) [.t 10] 1,on 12 (.app 1 b) [.c (.slice true []), .t 11],ob 13 (.build [.slice true [], .slice true []] [(0,1),(1,1)]) 8 12,of 14 (.fld 0) [.t 3] 2,os (.store 2) [.t 14, .t 13] 0] 0 [1,2,3] []) (.seq (rg [oa 15 (.fld 2) 1,lo 16 15,on 17 (.app 2 d) [.c (.slice true []), .t 16],oa 18 (.fld 2) 3,os (.store 1) [.t 18, .t 17] 0] 0 [1,2,3]) (.seq (rg [oa 19 (.fld 4) 1,oa 20 (.fld 1) 19,lo 21 20,on 22 (.app 1 e) [.c (.slice true []), .t 21],oa 23 (.fld 4) 3,oa 24 (.fld 1) 23,os (.store 1) [.t 24, .t 22] 0] 0 [1,2,3]) (.seq (rg [oa 25 (.fld 6) 1,oa 26 (.fld 1) 25,lo 27 26,on 28 (.app 1 f) [.c (.slice true []), .t 27],oa 29 (.fld 6) 3,oa 30 (.fld 1) 29,os (.store 1) [.t 30, .t 28] 0] 0 [1,2,3]) (.seq (rg [oa 31 (.fld 11) 1,lo 32 31,on 33 (.app 4 g) [.c (.slice true []), .t 32],oa 34 (.fld 11) 3,os (.store 1) [.t 34, .t 33] 0] 0 [2,3]) (.seq (rg [oa 35 (.load true 17) 3,os (.store 17) [.t 2, .t 35] 0] 0 [2]) .ret))))))))
def aNp (a b c d e f:Bool):aBt C.P 52 1 (aLb a b c d e f) aDB=true:=by kernel_rfl
def a05 {α:Type}(l:List α):(bif !l.isEmpty then 1 else 0)=av7 l:=by cases l<;>rfl
def aQc {α:Type}{l:List α}:((!l.isEmpty)=true->l≠[]):=by cases l<;>simp
variable{sz:Nat}
def aUS {α:Type}{f:α->DV}(h:∀x,(f x).fits sz=true)(l:List α):∀y∈l.map f,y.fits sz=true:=by
 intro y a;simp only[aC]at a;obtain⟨z,_,rfl⟩:=a;exact h z
def aDq {α:Type}{f:α->DV}{l:List α}(hl:l.length<=1000)(h:∀x,(f x).fits sz=true):∃q,q=l.map f/\(∀y∈q,y.fits sz=true)/\q.length<=1073741824:=
 ⟨_,rfl,aUS h _,by rw[U];omega⟩
def aP4 (s:Su)(hs:s.Some):Pure C 52 [s.dv] (.agg (aoL s)) (avI s):=by
 obtain⟨q,a,i,w⟩:=aDq (f:=Lk.dv) (sz:=3) hs.l.2 fun _=>rfl
 obtain⟨l1,b,j,x⟩:=aDq (f:=anF) (sz:=1) hs.h fun _=>rfl
 obtain⟨l2,c,k,A⟩:=aDq (f:=Fr.dv) (sz:=2) hs.t.2 fun _=>rfl
 obtain⟨r,d,m,D⟩:=aDq (f:=anF) (sz:=1) hs.ci fun _=>rfl
 obtain⟨u,e,o,E⟩:=aDq (f:=anF) (sz:=1) hs.cy fun _=>rfl
 obtain⟨v,g,p,G⟩:=aDq (f:=Fs.dv) (sz:=4) hs.f fun _=>rfl
 refine aEI mixed rfl (aNp (!q.isEmpty) (!l1.isEmpty) (!l2.isEmpty) (!r.isEmpty) (!u.isEmpty) (!v.isEmpty)) ?_;rw[avI,<-a,<-b,<-c,<-d,<-e,<-g];simp only[aLb,aDB,aoB,<-a,<-b,<-c,<-d,<-e,<-g,a05,aor,aox,an6,aoq,aoI,aHZ,splice,RN,B,F,J,N,O];have z:∀n y,False->DV.fits n y=true:=fun _ _ h=>h.elim
 exact⟨i,aQc,z _,w,j,aQc,z _,x,k,aQc,z _,A,m,aQc,z _,D,o,aQc,z _,E,p,aQc,z _,G,[(0,0),(1,0),(2,0),(3,0),(4,0),(5,0)],⟨by simp[auV],by decide⟩,rfl,rfl⟩
variable{v:PV}{xs ds:List DV}
def aDF {sz n k ver i t:Nat}{K:Mem->Prop}(h:ar[k]?=some (some ⟨sz,xs,ver,t⟩))(g:xs≠[]->t=1)(hi:i<xs.length)(hc:∀x∈xs,x.cells.length=sz)(hv:apx v.cells=some ds)(f:n=sz)(hl:ds.length=sz)(b:0<sz)(h1:ds.all DV.one=true)
  (c:∀ys,ys.length=xs.length->(∀y∈ys,y.cells.length=sz)->K ⟨bs,fz,ar.set k (some ⟨sz,ys,ver,t⟩)⟩):apJ n (.aqf k ver i 0) v ⟨bs,fz,ar⟩ K:=by
 subst f;obtain rfl:=g (fun e=>by rw[e]at hi;cases hi);have d:=hc _ (getD_mem hi);simp only[apJ,Mem.row,h,if_true,hv];refine⟨trivial,b,hl,h1,by omega,c _ (by simp) fun y a=> ?_⟩
 rcases List.mem_or_eq_of_mem_set a with a|rfl
 ·exact hc y a
 ·rw[azG (by omega) (by omega) h1,splice]
  simp only[Z,am,List.length_drop];omega
def aq6 (n sz t:Nat)(l:List DV):Prop:=l.length=n/\(∀x∈l,x.cells.length=sz)/\(l≠[]->t=1)
def axH {α:Type}{f:α->DV}{l:List α}(hl:l.length<=1000)(h:∀x,(f x).cells.length=sz):aq6 (l.map f).length sz (av7 (l.map f)) (l.map f)/\(l.map f).length<=1000:=
 ⟨⟨rfl,fun x a=>by simp only[aC]at a;obtain⟨z,_,rfl⟩:=a;exact h z,fun h=>by cases l with|nil=>exact absurd rfl h|cons=>rfl⟩,by rw[U];exact hl⟩
def axI {m n sz t i k ver:Nat}{l:List DV}{K:Mem->Prop}(a:aq6 n sz t l)(b:i<n)(h:ar[k]?=some (some ⟨sz,l,ver,t⟩))(hv:apx v.cells=some ds)(g:m=sz)(hl:ds.length=sz)(d:0<sz)(h1:ds.all DV.one=true)
  (f:∀ys,aq6 n sz t ys->K ⟨bs,fz,ar.set k (some ⟨sz,ys,ver,t⟩)⟩):i<n/\apJ m (.aqf k ver i 0) v ⟨bs,fz,ar⟩ K:=
 ⟨b,aDF h a.2.2 (by rw[a.1];exact b) a.2.1 hv g hl d h1 fun ys c j=>f ys ⟨c.trans a.1,j,fun h=>a.2.2 (fun e=>h (aG.1 (by rw[c,e];rfl)))⟩⟩
def aWg (s:Su){r t u v w y t0 t1 t2 j k m:Nat}{A z q p o n:List DV}(J:aq6 r 3 t0 A/\r<=1000)(K:aq6 t 1 t1 z/\t<=1000)(L:aq6 u 2 t2 q/\u<=1000)(M:aq6 v 1 j p/\v<=1000)(N:aq6 w 1 k o/\w<=1000)(P:aq6 y 4 m n/\y<=1000)(bs:List (Option (List PV)))(fz:List Nat)(KP:DV->Mem->Prop)(I:bs.length∉fz):
  SC C 53 [.agg (aoL s)] ⟨bs,fz,[some ⟨3,A,0,t0⟩,some ⟨1,z,0,t1⟩,some ⟨2,q,0,t2⟩,some ⟨1,p,0,j⟩,some ⟨1,o,0,k⟩,some ⟨4,n,0,m⟩]⟩ (fun _ M'=>∃x ar',M'=⟨bs++ [x],fz,ar'⟩/\ar'.length=6) KP:=by
 refine anJ aB4 apc ?_;simp only[aB4,apc,aoL,anZ,aoo,aoI,axW,RN,B,F];refine anL r (fun i (l:List DV)=>⟨[(1, .ptr bs.length 0),(2,pI i)],⟨bs++ [some (aoL s)],fz,[some ⟨3,l,0,t0⟩,some ⟨1,z,0,t1⟩,some ⟨2,q,0,t2⟩,some ⟨1,p,0,j⟩,some ⟨1,o,0,k⟩,some ⟨4,n,0,m⟩]⟩⟩)
  (fun _ l=>aq6 r 3 t0 l) 0 A (ae _) rfl J.1 (fun i l b a=> ?_) (fun r0 D=> ?_)
 ·obtain⟨c,d,e⟩:=rng b (by omega)
  have g:=a.1;simp only[aoL,anZ,Z,g,c,d,an,V,RN,B,F,O];refine axI a b (by rfl) (by rfl) (by rfl) (by rfl) (by decide) (by rfl) fun h f=> ?_
  simp only[e,RN];exact anT h b rfl f
 have z0:=D.1;simp only[aoL,anZ,Z,z0,ab,an,RN,B,F,O];refine anL t (fun i (l:List DV)=>⟨[(1, .ptr bs.length 0),(3,pI i)],⟨bs++ [some (aoL s)],fz,[some ⟨3,r0,0,t0⟩,some ⟨1,l,0,t1⟩,some ⟨2,q,0,t2⟩,some ⟨1,p,0,j⟩,some ⟨1,o,0,k⟩,some ⟨4,n,0,m⟩]⟩⟩)
  (fun _ l=>aq6 t 1 t1 l) 0 z (ae _) rfl K.1 (fun i l b a=> ?_) (fun r1 h1=> ?_)
 ·obtain⟨c,d,e⟩:=rng b (by omega)
  have g:=a.1;simp only[aoL,anZ,Z,g,c,d,an,V,RN,B,F,O];refine axI a b (by rfl) (by rfl) (by rfl) (by rfl) (by decide) (by rfl) fun h f=> ?_
  simp only[e,RN];exact anT h b rfl f
 have z1:=h1.1;simp only[aoL,anZ,Z,z1,ab,an,RN,B,F,O];refine anL u (fun i (l:List DV)=>⟨[(1, .ptr bs.length 0),(4,pI i)],⟨bs++ [some (aoL s)],fz,[some ⟨3,r0,0,t0⟩,some ⟨1,r1,0,t1⟩,some ⟨2,l,0,t2⟩,some ⟨1,p,0,j⟩,some ⟨1,o,0,k⟩,some ⟨4,n,0,m⟩]⟩⟩)
  (fun _ l=>aq6 u 2 t2 l) 0 q (ae _) rfl L.1 (fun i l b a=> ?_) (fun r2 h2=> ?_)
 ·obtain⟨c,d,e⟩:=rng b (by omega)
  have g:=a.1;simp only[aoL,anZ,Z,g,c,d,an,V,RN,B,F,O];refine axI a b (by rfl) (by rfl) (by rfl) (by rfl) (by decide) (by rfl) fun h f=> ?_
  simp only[e,RN];exact anT h b rfl f
 have Q:=h2.1;simp only[aoL,anZ,Z,Q,ab,an,RN,B,F,O];refine anL v (fun i (l:List DV)=>⟨[(1, .ptr bs.length 0),(5,pI i)],⟨bs++ [some (aoL s)],fz,[some ⟨3,r0,0,t0⟩,some ⟨1,r1,0,t1⟩,some ⟨2,r2,0,t2⟩,some ⟨1,l,0,j⟩,some ⟨1,o,0,k⟩,some ⟨4,n,0,m⟩]⟩⟩)
  (fun _ l=>aq6 v 1 j l) 0 p (ae _) rfl M.1 (fun i l b a=> ?_) (fun r3 E=> ?_)
 ·obtain⟨c,d,e⟩:=rng b (by omega)
  have g:=a.1;simp only[aoL,anZ,Z,g,c,d,an,V,RN,B,F,O];refine axI a b (by rfl) (by rfl) (by rfl) (by rfl) (by decide) (by rfl) fun h f=> ?_
  simp only[e,RN];exact anT h b rfl f
 have R:=E.1;simp only[aoL,anZ,Z,R,ab,an,RN,B,F,O];refine anL w (fun i (l:List DV)=>⟨[(1, .ptr bs.length 0),(6,pI i)],⟨bs++ [some (aoL s)],fz,[some ⟨3,r0,0,t0⟩,some ⟨1,r1,0,t1⟩,some ⟨2,r2,0,t2⟩,some ⟨1,r3,0,j⟩,some ⟨1,l,0,k⟩,some ⟨4,n,0,m⟩]⟩⟩)
  (fun _ l=>aq6 w 1 k l) 0 o (ae _) rfl N.1 (fun i l b a=> ?_) (fun r4 G=> ?_)
 ·obtain⟨c,d,e⟩:=rng b (by omega)
  have g:=a.1;simp only[aoL,anZ,Z,g,c,d,an,V,RN,B,F,O];refine axI a b (by rfl) (by rfl) (by rfl) (by rfl) (by decide) (by rfl) fun h f=> ?_
  simp only[e,RN];exact anT h b rfl f
 have S:=G.1;simp only[aoL,anZ,Z,S,ab,an,RN,B,F,O];refine anL y (fun i (l:List DV)=>⟨[(1, .ptr bs.length 0),(7,pI i)],⟨bs++ [some (aoL s)],fz,[some ⟨3,r0,0,t0⟩,some ⟨1,r1,0,t1⟩,some ⟨2,r2,0,t2⟩,some ⟨1,r3,0,j⟩,some ⟨1,r4,0,k⟩,some ⟨4,l,0,m⟩]⟩⟩)
  (fun _ l=>aq6 y 4 m l) 0 n (ae _) rfl P.1 (fun i l b a=> ?_) (fun r5 H=> ?_)
 ·obtain⟨c,d,e⟩:=rng b (by omega)
  have g:=a.1;simp only[aoL,anZ,Z,g,c,d,an,V,RN,B,F,O];refine axI a b (by rfl) (by rfl) (by rfl) (by rfl) (by decide) (by rfl) fun h f=> ?_
  simp only[e,RN];exact anT h b rfl f
 have T:=H.1;simp only[aoL,anZ,Z,T,ab,an,RN,B,F,O];exact⟨_,_,rfl,rfl⟩
def aTQ (s:Su)(hs:s.Some)(bs:List (Option (List PV)))(fz:List Nat)(KP:DV->Mem->Prop)(a:∀i∈fz,i<bs.length):
  SC C 53 [.agg (aoL s)] ⟨bs,fz,(avI s).map some⟩ (fun _ M'=>∃x ar',M'=⟨bs++ [x],fz,ar'⟩/\ar'.length=6) KP:=
 aWg s (axH hs.l.2 fun _=>rfl) (axH hs.h fun _=>rfl) (axH hs.t.2 fun _=>rfl) (axH hs.ci fun _=>rfl) (axH hs.cy fun _=>rfl) (axH hs.f fun _=>rfl) bs fz KP fun e=>aT _ (a _ e)
def NewAt (c:PV)(xs:List DV)(ar:List (Option Arr)):Prop:=(∃ex,c= .d (.slice ex [])/\xs=[])\/∃k v t,c= .tsl k v 0/\ar[k]?=some (some ⟨1,xs,v,t⟩)/\(xs≠[]->t=1)
def aBU (h:NewAt c xs ar):PV.one c=true/\PV.cells c=[c]/\c.asO=false:=by
 rcases h with⟨ex,rfl,_⟩|⟨k,v,t,rfl,_⟩<;>exact⟨rfl,rfl,rfl⟩
def aFg {K:Int->Prop}(h:NewAt c xs ar):asc c ⟨bs,fz,ar⟩ K=K xs.length:=by
 rcases h with⟨ex,rfl,rfl⟩|⟨k,v,t,rfl,h,_⟩
 ·rfl
 ·simp[asc,Mem.row,h]
variable{ar':List (Option Arr)}
def aSL (h:NewAt c xs ar)(hk:∀k,kOf c=some k->k<ar.length->ar'[k]?=ar[k]?):NewAt c xs ar':=by
 rcases h with h|⟨k,v,t,rfl,h,a⟩
 ·exact .inl h
 ·exact .inr ⟨k,v,t,rfl,(hk k rfl (ai.1 h).1).trans h,a⟩
def aW0 {C:Ctx}{ex:Bool}{ys:List DV}(h1:sz=1)(hf:∀y∈ys,y.fits 1=true)(hl:ys.length<=1073741824)
  (b:∀c z,NewAt c ys (ar++ [z])->(∀k,kOf c=some k->k=ar.length)->K c ⟨bs,fz,ar++ [z]⟩):anG C base (.aHi sz) [.d (.slice true []), .d (.slice ex ys)] ⟨bs,fz,ar⟩ K KP:=by
 subst h1;simp only[anG,aCE,auD];refine⟨by decide,hf,hl,?_⟩;cases ys with
 |nil=>exact b _ _ (.inl ⟨false,rfl,rfl⟩) (fun k a=>by cases a)
 |cons y l=>exact b _ _ (.inr ⟨ar.length,0,1,rfl,by simp,fun _=>rfl⟩) (fun k a=>by cases a;rfl)
def aWM:anH:=(.loop (.seq (.seq (rg [mv 91 14,oa 92 (.fld 1) 12,lo 93 92,oa 94 .len 93,ob 95 (.bin .lss) 91 94] 0 [1,2,8,10,11,12,14,95]) (.cond (.t 95) .skip (.exit 2))) (.seq (.block 3 (rg [oa 98 (.fld 1) 12,lo 99 98,mv 100 14,ob 101 (.anU 1) 99 100,os (.store 1) [.t 101,kI 99] 0] 0 [1,2,8,10,11,12,14])) (rg [mv 96 14,oc 97 (.bin .add) 96 (kI 1),mv 14 97] 0 [1,2,8,10,11,12,14]))))
def aWL:anH:=(.loop (.seq (.seq (rg [mv 135 20,mv 136 16,oa 137 .len 136,ob 138 (.bin .lss) 135 137] 0 [2,8,10,15,16,20,138]) (.cond (.t 138) .skip (.exit 6))) (.seq (.block 7 (rg [mv 141 16,mv 142 20,ob 143 (.anU 1) 141 142,os (.store 1) [.t 143,kI (-7)] 0] 0 [2,8,10,15,16,20])) (rg [mv 139 20,oc 140 (.bin .add) 139 (kI 1),mv 20 140] 0 [2,8,10,15,16,20]))))
def aTP {kd:Int}{w:Nat}(o:bs[w]?=some (some [pI kd,c]))(hc:NewAt c xs ar)(hx:∀x∈xs,x.cells.length=1)(hl:xs.length<=1000){s u y g l:PV}{nb na:Nat}{Q:Ex->St->Prop}
  (K:∀ar',ar'.length=ar.length->(∀j,kOf c≠some j->ar'[j]?=ar[j]?)->Q (.exit 2) ⟨[(1,s),(2,u),(8,y),(10,g),(11,l),(12, .ptr w 0),(14,pI xs.length),(95, .d (.bool false))],⟨bs,fz,ar'⟩⟩):
  pwp C nb na aWM Q ⟨[(1,s),(2,u),(8,y),(10,g),(11,l),(12, .ptr w 0),(14,pI 0)],⟨bs,fz,ar⟩⟩:=by
 rw[aWM];have L:w<bs.length:=(ai.1 o).1;refine anL xs.length (fun i (q:List DV×List (Option Arr))=>⟨[(1,s),(2,u),(8,y),(10,g),(11,l),(12, .ptr w 0),(14,pI i)],⟨bs,fz,q.2⟩⟩)
  (fun _ q=>NewAt c q.1 q.2/\q.1.length=xs.length/\(∀x∈q.1,x.cells.length=1)/\q.2.length=ar.length/\∀j,kOf c≠some j->q.2[j]?=ar[j]?) 0 (xs,ar) (ae _) rfl ⟨hc,rfl,hx,rfl,fun _ _=>rfl⟩ (fun i q A f=> ?_) (fun q f=> ?_)
 ·obtain⟨z,a⟩:=q
  obtain⟨H,I,J⟩:=rng A (by omega);obtain⟨b,h1,h2,m,n⟩:=f;simp only at b h1 h2 m n;obtain⟨M,N,P⟩:=aBU b;simp only[o,RN,B,F,O];rw[aFg b];simp only[h1,H,o,RN,B,F,O]
  rcases b with⟨ex,rfl,rfl⟩|⟨k,v,t,rfl,p,E⟩
  ·simp only[aN]at h1;omega
  have G:i<z.length:=by omega
  have r:=(ai.1 p).1;simp only[p,I,G,V,bl,RN];refine aDF (xs:=z) p E G h2 (by rfl) (by rfl) (by rfl) (by decide) (by rfl) fun zs R S=> ?_
  simp only[J];refine anT (zs,a.set k (some ⟨1,zs,v,t⟩)) A rfl ⟨.inr ⟨k,v,t,rfl,by simp[r],fun h=>E (fun e=>h (aG.1 (by rw[R,e];rfl)))⟩,by simp only;omega,S,by simpa using m,fun j D=> ?_⟩;simp only;rw[ax (fun e=>D (by rw[<-e];rfl))];exact n j D
 ·obtain⟨z,a⟩:=q
  obtain⟨b,h1,h2,m,n⟩:=f;simp only at b h1 h2 m n;obtain⟨M,N,P⟩:=aBU b;simp only[o,RN,B,F,O];rw[aFg b];simp only[h1,ab,RN,B];exact K _ m n
def aYA (hc:NewAt c xs ar)(hx:∀x∈xs,x.cells.length=1)(hl:xs.length<=1000){r s g l:PV}{nb na:Nat}{Q:Ex->St->Prop}
  (G:∀ar',ar'.length=ar.length->(∀j,kOf c≠some j->ar'[j]?=ar[j]?)->Q (.exit 6) ⟨[(2,r),(8,s),(10,g),(15,l),(16,c),(20,pI xs.length),(138, .d (.bool false))],⟨bs,fz,ar'⟩⟩):
  pwp C nb na aWL Q ⟨[(2,r),(8,s),(10,g),(15,l),(16,c),(20,pI 0)],⟨bs,fz,ar⟩⟩:=by
 rw[aWL];refine anL xs.length (fun i (q:List DV×List (Option Arr))=>⟨[(2,r),(8,s),(10,g),(15,l),(16,c),(20,pI i)],⟨bs,fz,q.2⟩⟩)
  (fun _ q=>NewAt c q.1 q.2/\q.1.length=xs.length/\(∀x∈q.1,x.cells.length=1)/\q.2.length=ar.length/\∀j,kOf c≠some j->q.2[j]?=ar[j]?) 0 (xs,ar) (ae _) rfl ⟨hc,rfl,hx,rfl,fun _ _=>rfl⟩ (fun i q w f=> ?_) (fun q f=> ?_)
 ·obtain⟨u,a⟩:=q
  obtain⟨D,E,F⟩:=rng w (by omega);obtain⟨b,h1,h2,m,n⟩:=f;simp only at b h1 h2 m n;obtain⟨H,I,J⟩:=aBU b;simp only[RN,B];rw[aFg b];simp only[h1,D,RN,B]
  rcases b with⟨ex,rfl,rfl⟩|⟨k,v,t,rfl,o,z⟩
  ·simp only[aN]at h1;omega
  have A:i<u.length:=by omega
  have p:=(ai.1 o).1;simp only[o,E,A,V,bl,RN];refine aDF (xs:=u) o z A h2 (by rfl) (by rfl) (by rfl) (by decide) (by rfl) fun zs K L=> ?_
  simp only[F];refine anT (zs,a.set k (some ⟨1,zs,v,t⟩)) w rfl ⟨.inr ⟨k,v,t,rfl,by simp[p],fun h=>z (fun e=>h (aG.1 (by rw[K,e];rfl)))⟩,by simp only;omega,L,by simpa using m,fun j y=> ?_⟩;simp only;rw[ax (fun e=>y (by rw[<-e];rfl))];exact n j y
 ·obtain⟨u,a⟩:=q
  obtain⟨b,h1,h2,m,n⟩:=f;simp only at b h1 h2 m n;obtain⟨H,I,J⟩:=aBU b;simp only[RN,B];rw[aFg b];simp only[h1,ab,RN,B];exact G _ m n
def aqR.arr {ce cs:PV}(h:aqR D d ce cs ⟨bs,fz,ar⟩)(hk:∀k,kOf ce=some k\/kOf cs=some k->ar'[k]?=ar[k]?):aqR D d ce cs ⟨bs,fz,ar'⟩:=
 ⟨⟨h.box,auj h.ent fun k A h1 h2=>(hk k (.inl h1)).trans h2,auj h.str fun k A h1 h2=>(hk k (.inr h1)).trans h2⟩,h.dif,h.nb,h.fzb⟩
def aYm (h:slN 1 true c xs ar):NewAt c xs ar:=by
 rcases h with⟨rfl,h⟩|⟨k,v,st,rfl,b,h2,a⟩
 ·exact .inl ⟨true,rfl,h⟩
 ·exact .inr ⟨k,v,st,rfl,b,fun d=>(a rfl).resolve_right d⟩
def aA3 (l:List Int):∀x∈l.map anF,x.cells.length=1:=by
 intro x a;simp only[aC]at a;obtain⟨z,_,rfl⟩:=a;rfl
def aSK (h:NewAt c xs ar):aJR c xs ar:=by
 rcases h with⟨ex,rfl,rfl⟩|⟨k,v,t,rfl,a,_⟩
 ·exact .inl ⟨ex,rfl⟩
 ·exact .inr ⟨k,v,t,rfl,a⟩
def aWT (s:Su)(l:List En)(q:List Qn):Pure C 13 [s.dv,sF (l.map En.dv),sF (q.map Qn.dv)] (.d (.bool true)) []:=by
 have hB:=aUu s l q;have hS:=fun h1 h2=>aTc s h1 h2
 have G:=fun h=>aP4 s h
 refine an9 (anJ atA atF ?_);rw[aoB]at hB hS G⊢;simp only[atA,atF,RN,B,F,O];refine anE hB ?_;cases hb:aw1 s l q
 ·(try simp only[RN,B])
  exact anE aFf (by(try simp only[RN,B,F,I,J,N,O]);rfl)
 obtain⟨hs,⟨hl,hn⟩,hq, -⟩:=aIP hb;obtain⟨aH,aX⟩:=Su.aLI hs;simp only[U,RN,B]
 by_cases av:(l.length:Int)>16
 ·simp only[av,RN,B]
  exact anE aFf (by(try simp only[RN,B,F,I,J,N,O]);rfl)
 simp only[av,RN,B,F,O];refine aoQ rfl rfl (hS aH (by omega)) ?_;cases L:s.ok
 ·(try simp only[RN,B])
  exact anE aFf (by(try simp only[RN,B,F,I,J,N,O]);rfl)
 have aI:=Su.az7 L;obtain⟨R,hR⟩:∃R,R=avI s:=⟨_,rfl⟩
 have G:=G aI;(try simp only[RN,B,F,O]);refine arE rfl rfl G (by rw[avI];intro A S;simp only[aM,bq,or_false]at S;rcases S with rfl|rfl|rfl|rfl|rfl|rfl<;>exact aGc _) ?_;simp only[PV.shift,apR,aoL,aD,aox,aoI,aoq,an6,aF,RN,F,J,O];have hO:=fun X fz KP hX=>aQ9 s aH X fz KP hX
 refine SC.aqk (SC.mono (hO _ _ (fun _ _=>False) (by intro i H;simp at H⊢;omega)) ?_) (fun _ _ h=>h.elim);rintro p M0 (⟨aG,rfl⟩|⟨-,rfl,x1,x2,aJ⟩)
 ·exact absurd (L.symm.trans aG) (by decide)
 have z0:((0:Int) !=0)=false:=rfl;have aK:=fun X fz KP hX=>aTQ s aI X fz KP hX
 subst aJ;simp only[atO,atP,z0,aU,aF,RN,B,F,O];refine SC.aqk (SC.mono (aK _ _ (fun _ _=>False) (by intro i H;simp at H⊢;omega)) ?_) (fun _ _ h=>h.elim);rintro p M1 ⟨x,ar,rfl,aV⟩;simp only[aU,aF,RN,F,J,O];have aR:aqR ⟨s,[],[]⟩ 4 (.d (.slice true [])) (.d (.slice true [])) ⟨[some [.d (sF (s.pc.links.map Lk.dv)), .d (sF (s.pc.hands.map anF)), .d (sF (s.tg.map Fr.dv)),pI s.lim,pI s.dvd.aoG, .d (sF (s.dvd.cir.map anF)),pI s.cal.ep, .d (sF (s.cal.cy.map anF)),pI s.apM.n,pI s.apM.d,pI s.apM.ad, .d (sF (s.fs.map Fs.dv)),pI s.year,pI s.ao2,pI s.hours,pI s.aqJ,pI s.pct],some (aoL s),x1,x2,some (apg s (.d (.slice true [])) (.d (.slice true []))),x,some ((rdF true true ⟨s,[],[]⟩).map PV.d)],[3,0],ar⟩:=
  ⟨⟨rfl, .inl ⟨rfl,rfl⟩, .inl ⟨rfl,rfl⟩⟩,(by intro k m;cases m),(by simp),(by intro i H;simp at H⊢;omega)⟩
 refine anL l.length (fun i (M:Mem)=>⟨[(1, .d (sF (l.map En.dv))),(2, .d (sF (q.map Qn.dv))),(8, .ptr 4 0),(10, .ptr 6 0),(11,pI i)],M⟩)
  (fun i M=>∃ce cs Y E,aqR (entered ⟨s,[],[]⟩ (l.take i)) 4 ce cs M/\M.boxes[6]?=some (some ((rdF Y E (entered ⟨s,[],[]⟩ (l.take i))).map PV.d))/\6∉M.fz) 0 _ (ae _) rfl ⟨_,_,true,true,aR,rfl,by simp⟩ (fun i M y hP=> ?_) (fun M hP=> ?_)
 ·obtain⟨ce,cs,Y,E,r,j,ao⟩:=hP
  obtain⟨b,f,a⟩:=M;simp only at j ao;obtain⟨g2,g3,g6⟩:=rng y (by omega);obtain⟨x,w⟩:∃x,x=l.getD i default:=⟨_,rfl⟩
  obtain⟨D,hD⟩:∃D,D=entered ⟨s,[],[]⟩ (l.take i):=⟨_,rfl⟩
  have g:D.Live:=by rw[hD];exact aBx L _
  have P:entered ⟨s,[],[]⟩ (l.take (i+1))=(D.enter x).1:=by rw[hD,w,<-aBy,<-anR y]
  rw[<-hD]at r j;have o:6<b.length:=(ai.1 j).1;have v:=j;rw[aAT]at j;simp only[aD,aP]at j;have aY:=hn x (by rw[w];exact getD_mem y);have hG:=aVH g x (by omega);rw[atN,aon]at hG;simp only[g2,g3,y,getD_map,<-w,aon,V,U,RN,B,F,I,O];refine aW0 rfl aqU (by rw[U];omega) fun c z hc u=> ?_
  obtain⟨o1,o2,o3⟩:=aBU hc;obtain⟨y1,m1, -, -⟩:=aRS (aSK hc) x.kind;have aS:b.length∉f:=fun e=>aT _ (r.fzb _ e)
  simp only[aE9 o2 o3,splice,o,j,aS,aoF,anZ,aoo,Z,RN,F,O];have k7:6<b.length+1:=by omega
  simp only[m1,o1,k7,RN,F];refine anE hG ?_;simp only[anZ,RN,F,O];have ah:Frm ⟨b,f,a⟩ ⟨b++ [some [pI x.kind,c]],f,a++ [z]⟩:=
   ⟨by simp,by simp,fun i H=>ap H,fun _ _=>Iff.rfl,fun k m=>ap m,fun h i H=>by have:=h i H;simp at this⊢;omega⟩
  have K:∀k,kOf ce=some k\/kOf cs=some k->k<a.length:=fun k m=>m.elim (aw8 r.ent) (aw8 r.str)
  have hE:=aHD (r.frm ah) g.ok x (aSK hc) (fun k h1 h2=>by have:=u k h1;have:=K k (.inr h2);omega) (KP:=fun _ _=>False);rw[y1]at hE;refine SC.aqk (SC.mono hE ?_) (fun _ _ h=>h.elim);rintro p ⟨b3,f3,a3⟩ ⟨rfl,T,W,aA,t⟩;have aj:6<(b++ [some [pI x.kind,c]]).length:=by simp;omega
  have aO:b.length<(b++ [some [pI x.kind,c]]).length:=by simp
  have aZu:=(t.box 6 aj (by omega)).trans ((ah.box 6 o).trans v);have Q:=(t.box 6 aj (by omega)).trans ((ah.box 6 o).trans j);have aq:=(t.box b.length aO (by omega)).trans (by simp:(b++ [some [pI x.kind,c]])[b.length]?=some (some [pI x.kind,c]));simp only at Q aZu aq;have aC:6<b3.length:=(ai.1 Q).1;have an:6∉f3:=fun e=>ao ((t.fz 6 aj).1 e)
  have ay:NewAt c (x.ns.map anF) a3:=aSL hc fun k h1 h2=>t.row k h2 (fun e=>by have:=u k h1;have:=K k (.inl e);omega) (fun e=>by have:=u k h1;have:=K k (.inr e);omega)
  have az:∀k,kOf T=some k\/kOf W=some k->kOf c≠some k:=by
   intro k m h1;have Y:=u k h1;have E:kOf ce=some k\/kOf cs=some k\/(a++ [z]).length<=k:=by
    rcases m with m|m
    ·rcases t.oe k m with e|e
     ·exact .inl e
     ·exact .inr (.inr e)
    ·rcases t.os k m with e|e
     ·exact .inr (.inl e)
     ·exact .inr (.inr e)
   simp only[Z,aB,aN]at E;have:=K k
   rcases E with e|e|e
   ·have:=this (.inl e);omega
   ·have:=this (.inr e);omega
   ·omega
  have aE:(x.ns.map anF).length<=1000:=by rw[U];omega
  have he:(D.enter x).2=avo D x:=by rw[azU g]
  have zc:((D.enter x).2 !=avo D x)=false:=by rw[he];simp
  by_cases hz:avo D x=0
  ·have zz:(avo D x==0)=true:=by simp[hz]
   have ac:(D.enter x).1=D.with x:=by rw[azU g];simp[hz]
   have hW:=aNA g hz;rw[atN (D:=D),aon,atN]at hW;simp only[zc,zz,g3,y,getD_map,<-w,aon,V,U,Q,aC,RN,B,F,O];refine anE hW ?_;simp only[Q,an,RN,F,O];refine aTP (by rw[ax (by omega)];exact aq) ay (aA3 _) aE fun a4 h1 h2=> ?_
   simp only[g6,RN,B];refine anT (⟨b3.set 6 (some ((rdF false false (D.with x)).map PV.d)),f3,a4⟩:Mem) y (by rw[aAT];rfl) ⟨T,W,false,false,?_,?_,an⟩
   ·rw[P];exact(aA.aNM (by omega)).arr fun k m=>h2 k (az k m)
   ·rw[P,ac];exact List.getElem?_set_self aC
  ·have zz:(avo D x==0)=false:=beq_false_of_ne hz
   have ac:(D.enter x).1=D:=by rw[azU g];simp[hz]
   simp only[zc,zz,RN,B];refine aTP aq ay (aA3 _) aE fun a4 h1 h2=> ?_
   simp only[g6,RN,B];refine anT (⟨b3,f3,a4⟩:Mem) y rfl ⟨T,W,Y,E,?_,?_,an⟩
   ·rw[P];exact aA.arr fun k m=>h2 k (az k m)
   ·rw[P,ac];exact aZu
 ·obtain⟨ce,cs,Y,E,r,j,ao⟩:=hP
  rw[ak]at r j;have g:=aBx L l;obtain⟨D,hD⟩:∃D,D=entered ⟨s,[],[]⟩ l:=⟨_,rfl⟩
  rw[<-hD]at r j g;have o:6<M.boxes.length:=(ai.1 j).1;have v:=j;rw[aAT]at j;simp only[aD,aP]at j;simp only[ab,U,RN,B];refine anL q.length (fun i (M:Mem)=>⟨[(2, .d (sF (q.map Qn.dv))),(8, .ptr 4 0),(10, .ptr 6 0),(15,pI i)],M⟩)
   (fun i M=>aqR D 4 ce cs M/\M.boxes[6]?=some (some ((rdF Y E D).map PV.d))) 0 _ (ae _) rfl ⟨r,v⟩ (fun i M y hP=> ?_) (fun M hP=> ?_)
  ·obtain⟨r,v⟩:=hP
   obtain⟨b,f,a⟩:=M;obtain⟨g2,g3,g6⟩:=rng y (by omega);obtain⟨x,w⟩:∃x,x=q.getD i default:=⟨_,rfl⟩
   have j:=v;rw[aAT]at j;simp only[aD,aP]at j;have o:6<b.length:=(ai.1 j).1;have S:=aL1 r g.ok x (KP:=fun _ _=>False);have hR:=aS5 g x;rw[aBw]at S hR;rw[atN]at hR;simp only[g2,g3,y,getD_map,<-w,aBw,V,U,RN,B,F,O];refine SC.aqk (SC.mono S ?_) (fun _ _ h=>h.elim);rintro p ⟨b6,f6,a6⟩ ⟨c,hp,hc,u,am⟩;simp only[(aE5 hp).1,(aE5 hp).2];have aZw:=(am.box 6 o).trans v;have au:=(am.box 6 o).trans j;simp only at au aZw;have a0o:6<b6.length:=(ai.1 au).1;have zz:((D.ask x).2 !=(D.ask x).2)=false:=by simp
   have hl:=aOa g.ok x;have aw:=aTG (D.ask x).1 (D.ask x).1 (by omega) (by omega);rw[decide_eq_true rfl]at aw;obtain⟨ex,aQ⟩:=aQL (bs:=b6) (fz:=f6) hc;simp only[au,a0o,RN,F,O];refine anE hR ?_;simp only[zz,RN,B];refine ap8 (asU aQ) rfl aw rfl ?_;(try simp only[RN,B]);have aL:=r.frm am;refine aYA (aYm hc) (aA3 _) (by rw[U];omega) fun a7 h1 h2=> ?_
   simp only[g6,RN,B];refine anT (⟨b6,f6,a7⟩:Mem) y rfl ⟨aL.arr fun k m=>h2 k fun e=> ?_,aZw⟩;have:=u k e;have:k<a.length:=m.elim (aw8 r.ent) (aw8 r.str);simp only at*;omega
  ·obtain⟨r,j⟩:=hP
   have o:6<M.boxes.length:=(ai.1 j).1;have S:=aO6 r g Y E q (by omega) (KP:=fun _ _=>False);rw[aAT]at S j;simp only[aD,aP]at j;simp only[ab,U,j,RN,B,F,O];refine SC.aqk (SC.mono S ?_) (fun _ _ h=>h.elim);rintro p M7 ⟨rfl,aW⟩;(try simp only[RN,B]);refine anE aFf ?_;(try simp only[RN,B,F,I,J,N,O])
   rfl
end Go.Tel
namespace Go.Am
variable{ds:List DV}
def aOm {k:IntKind}(h:Has (.int k) ds):∃n,ds=[.int k n]:=by cases h;exact⟨_,rfl⟩
def atU (h:Has (.struct []) ds):ds=[]:=by cases h;rfl
variable{ts:List Ty}
def aBG {t:Ty}(h:Has (.struct (t::ts)) ds):∃a b,ds=a++b/\Has t a/\Has (.struct ts) b:=by cases h with|cons h c=>exact⟨_,_,rfl,h,c⟩
def asW {k:IntKind}(h:Has (.struct (.int k::ts)) ds):∃n b,ds= .int k n::b/\Has (.struct ts) b:=by
 obtain⟨a,b,rfl,h1,h2⟩:=aBG h;obtain⟨n,rfl⟩:=aOm h1;exact⟨n,b,rfl,h2⟩
def aRf {α:Type}{e:Ty}{dv:α->DV}:∀{xs:List DV},(∀x∈xs,∃a,x=dv a)->∃l:List α,xs=l.map dv
 | [],_=>⟨[],rfl⟩
 |x::xs,h=>by
  obtain⟨a,rfl⟩:=h x aR;obtain⟨l,rfl⟩:=aRf (e:=e) fun y b=>h y (List.mem_cons_of_mem _ b)
  exact⟨a::l,rfl⟩
variable{e:Ty}
def aMW {α:Type}{dv:α->DV}(hd:∀x,Has e x.cells->Shp e x->∃a,x=dv a){ds:List DV}(h:Has (.slice e) ds):∃l:List α,ds=[.slice false (l.map dv)]:=by
 cases h with
 |slice h c=>
  rename_i xs
  obtain⟨l,rfl⟩:=aRf (e:=e) fun x b=>hd x (h x b) (c x b)
  exact⟨l,rfl⟩
def aD5 {α:Type}{dv:α->DV}(hd:∀x,Has e x.cells->Shp e x->∃a,x=dv a){ts:List Ty}{ds:List DV}(h:Has (.struct (.slice e::ts)) ds):∃(l:List α) (b:List DV),ds= .slice false (l.map dv)::b/\Has (.struct ts) b:=by
 obtain⟨a,b,rfl,h1,h2⟩:=aBG h;obtain⟨l,rfl⟩:=aMW hd h1;exact⟨l,b,rfl,h2⟩
variable{xs:List DV}
def aWC {T:Ty}{Ts:List Ty}(h:axL (T::Ts) xs):∃x l,xs=x::l/\aL3 T x/\axL Ts l:=by
 cases xs with
 |nil=>exact h.elim
 |cons x l=>exact⟨x,l,rfl,h.1,h.2⟩
def aXI (h:axL [] xs):xs=[]:=by
 cases xs with
 |nil=>rfl
 |cons x l=>exact h.elim
end Go.Am
namespace Go.Tel
open Go.Am
abbrev aMS:Ty:= .struct [.int .i64, .int .i64]
abbrev aNd:Ty:= .struct [.int .i64, .struct [.int .i64, .int .i64]]
abbrev aI1:Ty:= .struct [.bool, .int .i64, .int .i64, .int .i64]
abbrev az9:Ty:= .struct [.struct [.slice aNd, .slice (.int .i64)], .slice aMS, .int .i64, .struct [.int .i64, .slice (.int .i64)], .struct [.int .i64, .slice (.int .i64)], .struct [.int .i64, .int .i64, .int .i64], .slice aI1, .int .i64, .int .i64, .int .i64, .int .i64, .int .i64]
abbrev aqL:Ty:= .struct [.int .i64, .slice (.int .i64)]
variable{ds:List DV}
def aFV {fs ts:List Ty}(h:Has (.struct (.struct fs::ts)) ds):∃a b,ds=a++b/\Has (.struct fs) a/\Has (.struct ts) b:=aBG h
def aSc (h:Has .bool ds):∃b,ds=[.bool b]:=by cases h;exact⟨_,rfl⟩
def aFU (x:DV)(h:Has (.int .i64) x.cells)(hs:Shp (.int .i64) x):∃n:Int,x=anF n:=by
 obtain⟨n,h⟩:=aOm h;rw[hs.2 rfl]at h;exact⟨n,(List.cons.inj h).1⟩
def aXK (x:DV)(h:Has aMS x.cells)(hs:Shp aMS x):∃p:Fr,x=p.dv:=by
 obtain⟨cs,rfl⟩:=hs.1 rfl;obtain⟨a,_,c,h1⟩:=asW h;obtain⟨b,_,rfl,h2⟩:=asW h1;obtain rfl:=atU h2;exact⟨⟨a,b⟩,by rw[Fr.dv];exact congrArg DV.agg c⟩
def aXM (x:DV)(h:Has aNd x.cells)(hs:Shp aNd x):∃p:Lk,x=p.dv:=by
 obtain⟨cs,rfl⟩:=hs.1 rfl;obtain⟨a,_,d,h1⟩:=asW h;obtain⟨_,_,rfl,h2,e⟩:=aFV h1;obtain rfl:=atU e;obtain⟨b,_,rfl,f⟩:=asW h2;obtain⟨c,_,rfl,g⟩:=asW f;obtain rfl:=atU g;exact⟨⟨a,⟨b,c⟩⟩,by rw[Lk.dv];exact congrArg DV.agg d⟩
def aXL (x:DV)(h:Has aI1 x.cells)(hs:Shp aI1 x):∃p:Fs,x=p.dv:=by
 obtain⟨cs,rfl⟩:=hs.1 rfl;obtain⟨_,_,e,f,h1⟩:=aBG h;obtain⟨a,rfl⟩:=aSc f;obtain⟨b,_,rfl,h2⟩:=asW h1;obtain⟨c,_,rfl,g⟩:=asW h2;obtain⟨d,_,rfl,i⟩:=asW g;obtain rfl:=atU i;exact⟨⟨a,b,c,d⟩,by rw[Fs.dv];exact congrArg DV.agg e⟩
def aXJ (x:DV)(h:Has aqL x.cells)(hs:Shp aqL x):∃p:En,x=p.dv:=by
 obtain⟨cs,rfl⟩:=hs.1 rfl;obtain⟨a,_,c,h1⟩:=asW h;obtain⟨b,_,rfl,h2⟩:=aD5 aFU h1;obtain rfl:=atU h2;exact⟨⟨a,b⟩,by rw[En.dv];exact congrArg DV.agg c⟩
def aXN (x:DV)(h:Has aqL x.cells)(hs:Shp aqL x):∃p:Qn,x=p.dv:=by
 obtain⟨cs,rfl⟩:=hs.1 rfl;obtain⟨a,_,c,h1⟩:=asW h;obtain⟨b,_,rfl,h2⟩:=aD5 aFU h1;obtain rfl:=atU h2;exact⟨⟨a,b⟩,by rw[Qn.dv];exact congrArg DV.agg c⟩
variable{x:DV}
def aYZ (h:aL3 (.slice aqL) x):∃l:List En,x= .slice false (l.map En.dv):=by
 obtain⟨l,h1⟩:=aMW aXJ h.1;rw[h.2.2 rfl]at h1;exact⟨l,(List.cons.inj h1).1⟩
def aY0 (h:aL3 (.slice aqL) x):∃l:List Qn,x= .slice false (l.map Qn.dv):=by
 obtain⟨l,h1⟩:=aMW aXN h.1;rw[h.2.2 rfl]at h1;exact⟨l,(List.cons.inj h1).1⟩
def aZV (h:aL3 az9 x):∃s:Su,x=s.dv:=by
 obtain⟨h,F⟩:=h;obtain⟨cs,rfl⟩:=F.1 rfl;obtain⟨_,_,u,h1,h2⟩:=aFV h;obtain⟨l,_,rfl,v⟩:=aD5 aXM h1;obtain⟨hd,_,rfl,w⟩:=aD5 aFU v;obtain rfl:=atU w;obtain⟨tg,_,rfl,z⟩:=aD5 aXK h2;obtain⟨lim,_,rfl,A⟩:=asW z;obtain⟨_,_,rfl,B,C⟩:=aFV A;obtain⟨wo,_,rfl,D⟩:=asW B;obtain⟨ci,_,rfl,a⟩:=aD5 aFU D;obtain rfl:=atU a;obtain⟨_,_,rfl,b,c⟩:=aFV C;obtain⟨ep,_,rfl,d⟩:=asW b;obtain⟨cy,_,rfl,e⟩:=aD5 aFU d;obtain rfl:=atU e;obtain⟨_,_,rfl,f,g⟩:=aFV c;obtain⟨I,_,rfl,i⟩:=asW f;obtain⟨H,_,rfl,j⟩:=asW i;obtain⟨G,_,rfl,k⟩:=asW j;obtain rfl:=atU k;obtain⟨fs,_,rfl,m⟩:=aD5 aXL g;obtain⟨y,_,rfl,n⟩:=asW m;obtain⟨t,_,rfl,o⟩:=asW n;obtain⟨E,_,rfl,p⟩:=asW o;obtain⟨K,_,rfl,q⟩:=asW p;obtain⟨J,_,rfl,r⟩:=asW q;obtain rfl:=atU r;exact⟨⟨⟨l,hd⟩,tg,lim,⟨wo,ci⟩,⟨ep,cy⟩,⟨I,H,G⟩,fs,y,t,E,K,J⟩,by rw[aoB];exact congrArg DV.agg u⟩
end Go.Tel
namespace Go.Am
section
variable {H:Type}{enc:TypeId×Value->H}{P:Program}{w:World}{base:Nat}{spare:Nat->Bool}{held:Bool}
def aET:∀{ts:List TypeId} {vs:List Value} {ds:List (DataW H)} {ps:List MemPlace},DataW.TrodAll enc P w base spare held ts vs ds ps->ds.length=ts.length
 | [],[],[],_,_=>rfl
 |t::ts,v::vs,d::ds,ps,h=>by
  obtain⟨p,q,_,h2,_⟩:=h;rw[aB,aB,aET h2]
 | [],_::_,_,_,h=>by cases h
 | [],[],_::_,_,h=>by cases h
 | _::_,[],_,_,h=>by cases h
 | _::_,_::_,[],_,h=>by cases h
end
def aZA {α:Type}{l:List α}(h:l.length=1):∃a,l=[a]:=List.length_eq_one_iff.1 h
def aWJ {α:Type}{l:List α}{n:Nat}(h:l.length=n+1):∃a r,l=a::r/\r.length=n:=by
 cases l with
 |nil=>cases h
 |cons a r=>exact⟨a,r,rfl,by simpa using h⟩
def aZB {α:Type}{l:List α}(h:l.length=2):∃a b,l=[a,b]:=by
 obtain⟨a,r,rfl,h1⟩:=aWJ h;obtain⟨b,rfl⟩:=aZA h1;exact⟨a,b,rfl⟩
def aZC {α:Type}{l:List α}(h:l.length=3):∃a b c,l=[a,b,c]:=by
 obtain⟨a,r,rfl,h1⟩:=aWJ h;obtain⟨b,c,rfl⟩:=aZB h1;exact⟨a,b,c,rfl⟩
variable{P:Program}{l:List (String×DataW Unit)}
def aSG {w:World}(a:(l.filter fun x=>x.2.handleName?.isSome)=[])(h:laidMetH P l w):laidMet P l w:=by
 unfold laidMetH at h;rw[a]at h;exact h
def aOX {P:Program}{w:World}{n:String}{d:DataW Unit}:∀{l:List (String×DataW Unit)} {ps:List MemPlace},DataW.LaidVars P w l ps->(n,d)∈l->
  ∃g t cs a p,P.globalNamed n=some g/\(P.globals[g]?).map (·.type)=some t/\w.var? P n=some cs/\DataW.trod (fun _=>()) P w 0 (fun _=>true) false a t cs.toList=some (d,p)
 | [],_,_,h=>by cases h
 |(j,i)::l,ps,h,b=>by
  obtain⟨g,t,cs,a,p,q,h1,h2,c,e,f,_⟩:=h;cases b with
  |head=>exact⟨g,t,cs,a,p,h1,h2,c,e⟩
  |tail _ b=>exact aOX f b
def aT0 {W:World}{name:String}{k:IntKind}{zs:List Int}{g:Nat}{t e:TypeId}{n:Nat}
  (o:P.globalNamed name=some g)(i:(P.globals[g]?).map (·.type)=some t)(r:P.underlying t=some (.array n e))(m:P.underlying e=some (.int k))(b:P.cellsOf e=1)(c:P.cellsOf t=n)
  (h:laidMet P l W)(q:(name,Lib.tabData k zs)∈l):Lib.TabIs P W name k zs:=by
 obtain⟨v,s,_⟩:=h;obtain⟨u,w,cs,j,p,d,f,a,hd⟩:=aOX s q;obtain rfl:=Option.some.inj (o.symm.trans d);obtain rfl:=Option.some.inj (i.symm.trans f);unfold Lib.TabIs;rw[a,<-Lib.cells_of_tab r m b c hd]
end Go.Am
namespace Go.Tel
open Go.Am
def aYh {W:World}(h:C.G W):∀b,C.low b->b<W.heap.size/\∀c T fz,W.heap[b]?=some (.cells c T fz)->∀(i:Nat) (n:Int),c[i]?≠some (.int .i64 n):=by
 intro b j;have e:Go.Proofs.Tryz.prog.globalNamed "internal/strconv.uint64pow10" =some b:=j;have a:W.var? Go.Proofs.Tryz.prog "internal/strconv.uint64pow10" =some (Go.Lib.pow10Tab.map fun z=>Value.int .u64 z).toArray:=h;unfold World.var? at a;rw[e]at a;simp only[Option.bind_some]at a;cases f:W.heap[b]? with
 |none=>rw[f]at a;cases a
 |some o=>
  rw[f]at a;refine⟨aop f,fun c T fz k i n d=> ?_⟩;cases k;simp only[Option.some.injEq]at a;subst a;rw[List.getElem?_toArray,bk]at d;cases g:Go.Lib.pow10Tab[i]? with
  |none=>rw[g]at d;cases d
  |some z=>rw[g]at d;cases d
end Go.Tel
namespace Go.Proofs.YtbefoehadfnkbaaGreatDoor
open Go.ChangeShapes Go.WideShapes Go.RowKit Go.Am
def apk {a b:Bool}(c:a=true)(hb:b=true):(a&&b)=true:=by rw[c,hb];rfl
def own:ownKnob Tryz.prog.godebug=none:=by kernel_rfl
def laidOut:laidOutB Tryz.prog=true:=by kernel_rfl
def aAk:List (String×DataW Unit):=Rows.journeymanCopiesRow.laid
def laid_met (os:Os)(args:Array Value):laidMet Tryz.prog aAk ((World.laidAll Tryz.prog os aAk).forCall (fun _ _=>0) ⟨#[],args,[]⟩).memory:=
 laidMet_laidAll args (by kernel_rfl) (by kernel_rfl)
def aP2 (os:Os)(args:Array Value):laidMetH Tryz.prog aAk ((World.laidAll Tryz.prog os aAk).forCall (fun _ _=>0) ⟨#[],args,[]⟩).memory:=
 laidMetH_of_parts (laid_met os args) (by kernel_rfl)
def aTZ:(Rows.laid_internal_strconv_uint64pow10:DataW Unit)=Lib.tabData .u64 Lib.pow10Tab:=rfl
def aWl:("internal/strconv.uint64pow10",(Rows.laid_internal_strconv_uint64pow10:DataW Unit))∈aAk:=List.Mem.tail _ (List.Mem.tail _ (List.Mem.head _))
def aYC {W:World}(h:laidMetH Tryz.prog aAk W):Go.Tel.C.G W:=
 aT0 (P:=Tryz.prog) (g:=1) (t:=390) (e:=372) (n:=20) (by kernel_rfl) (by kernel_rfl) (by kernel_rfl) (by kernel_rfl) (by kernel_rfl) (by kernel_rfl) (aSG (by kernel_rfl) h) (aTZ▸aWl)
end Go.Proofs.YtbefoehadfnkbaaGreatDoor
