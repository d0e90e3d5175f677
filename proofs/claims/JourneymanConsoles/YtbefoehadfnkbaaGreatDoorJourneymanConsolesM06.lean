/-
  Part 6 of a law of desks.
  Conditions: none.
-/
import Derived.Test.YtbefoehadfnkbaaGreatDoorJourneymanConsolesM04
import Derived.Test.YtbefoehadfnkbaaGreatDoorJourneymanConsolesM05
import Derived.Shelf.Lays2
import Derived.Shelf.RegionOpenPlain
import Derived.Deep.LoopGhost
import Derived.Deep.RegionLaw
import Derived.Lib.Walk
import Derived.Sort.WalkB12
import Derived.Lib.SliceRun
import Derived.Lib.SlicesDelete
import Derived.Ground.NamesProg
import Derived.Shelf.Strings.Split
import Derived.Shelf.Strings.OnBuilder
import Derived.Shelf.Strconv.Itoa3
import Derived.Shelf.Strings.Cut
import Derived.Shelf.Sort.Plain
import Derived.Ground.Names2Prog
import Derived.Shelf.Small.Strs
import Derived.Test.YtbefoehadfnkbaaGreatDoorChecked
import Derived.Shelf.Slices.In.SortNone
set_option linter.all false
set_option maxRecDepth 10000
set_option maxHeartbeats 4000000
open Nat renaming reduceBEq->F,reduceAdd->H,reduceSub->I,reduceEqDiff->J,reduceLT->N,reduceLeDiff->S,lt_irrefl->am,le_trans->ao,lt_of_lt_of_le->az,le_refl->aL,add_assoc->a8,zero_le->bk,mul_one->b7,sub_zero->cv,add_zero->cI
open List renaming getElem?_eq_some_iff->U,length_map->V,length_append->Y,getElem?_append_left->ab,getElem?_set_ne->ae,length_cons->an,mem_singleton->ap,mem_append->av,append_assoc->aw,length_nil->ax,mem_cons->aR,not_mem_nil->bc,getElem?_map->bi,mem_cons_of_mem->bj,map_cons->bl,drop_zero->bp,getD_eq_getElem?_getD->bq,append_nil->br,map_append->bt,mem_cons_self->bu,length->bv,getElem?_set_self->bw,length_range->bz,mem_map->bA,length_filter_le->bE,length_set->bL,filter_append->bO,getElem?_append_right->bR,getElem?_drop->bS,ext_getElem?->bX,flatMap_cons->b0,getElem?_eq_getElem->ca,append_cancel_left->cb,drop_length->cf,take_length->cg,map_nil->ch,getElem?_eq_none->ck,set_append_right->cl,getElem?_take->cn,zip_cons_cons->cp,getElem?_set->cq,map_set->cr,zip_nil_left->ct,filter_cons->cw,length_take->cz,mem_filter->cA,range_succ->cB,range->cD,replicate->cE,all_cons->cG,all_nil->cH,map->cJ,drop->cK,take->cL
open Int renaming toNat_natCast->ai,lt_irrefl->a7
open Bool renaming and_eq_true->aq,false_and->bd,and_self->b8,true_and->b9,and_false->cm,not_false->cC,not_true->cF
open Option renaming isSome_none->aD,isSome_some->aE,getD_some->aM,map_none->be,map_some->bh,getD_none->bo
open Array renaming getElem?_toList->bB,getElem?_modify->cj
open Iff renaming rfl->bN
open Go.IntKind renaming wrap->cM
namespace Go.Tel
open Go.Am
structure Wj (s:Su) (t:Sp):Prop where
 ok:s.ok=true
 pc:t.pc.ok=true
 tl:t.tg.length=t.pc.hands.length
 st:t.eP.length<=100000
 se:t.sets.length<=100000
 co:0<=t.kM/\t.kM<=1000000000000
section
variable {bs xs:List (Option (List PV))}{b n k:Nat}{y:Option (List PV)}
def dQ (h:b<bs.length):(bs++xs)[b]?=bs[b]?:=ab h
def jY (h:bs.length=n):(bs++xs)[n+k]?=xs[k]?:=by rw[<-h,bR (by omega)];congr 1;omega
def bJ (h:bs.length=n):(bs++xs)[n]?=xs[0]?:=by rw[<-h,bR (by omega)];congr 1;omega
def DU (h:b<bs.length):(bs++xs).set b y=bs.set b y++xs:=List.set_append_left _ _ h
def nS (h:bs.length=n):(bs++xs).set (n+k) y=bs++xs.set k y:=by rw[<-h,cl _ _ (by omega)];congr 2;omega
def dB (h:bs.length=n):(bs++xs).set n y=bs++xs.set 0 y:=by rw[<-h,cl _ _ (by omega)];congr 2;omega
end
variable{s:Su}{a b mb:Nat}{cst cse:PV}{bs:List (Option (List PV))}{fz:List Nat}{ar:List (Option Arr)}
def gK.ext {t:Sp}{xs:List (Option (List PV))}{xf:List Nat}(h:gK s a b mb cst cse t ⟨bs,fz,ar⟩)(hf:∀i∈xf,bs.length<=i/\i<bs.length+xs.length):gK s a b mb cst cse t ⟨bs++xs,xf++fz,ar⟩/\FrS a b mb ⟨bs,fz,ar⟩ ⟨bs++xs,xf++fz,ar⟩:=by
 have d:b<bs.length:=(U.1 h.box).1;have f:mb<bs.length:=(U.1 h.map).1;constructor
 ·exact
  {box:=by simp only;rw[ab d];exact h.box
   map:=by simp only;rw[ab f];exact h.map
   r0:=h.r0,r1:=h.r1,r2:=h.r2,r3:=h.r3,r4:=h.r4,r5:=h.r5,stk:=h.stk,set:=h.set,kst:=h.kst,kse:=h.kse,dif:=h.dif
   nb:=fun e=>by
    rcases av.1 e with e|e
    ·have:=hf _ e;omega
    ·exact h.nb e
   nm:=fun e=>by
    rcases av.1 e with e|e
    ·have:=hf _ e;omega
    ·exact h.nm e
   bm:=h.bm
   fzb:=fun i e=>by
    simp only[Y]
    rcases av.1 e with e|e
    ·have:=hf _ e;omega
    ·have:=h.fzb i e;simp only at this;omega}
 ·exact
  {len:=by simp
   fzb:=fun g i c=>by
    simp only[Y]
    rcases av.1 c with e|e
    ·exact(hf _ e).2
    ·have:=g i e;simp only at this;omega
   bP:=aL _
   box:=fun i c _ _=>ab c
   fz:=fun i c=>by
    simp only[av];refine⟨fun e=>e.elim (fun e=> ?_) id, .inr⟩;have:=hf _ e;simp only at c;omega
   row:=fun _ _=>rfl}
variable{W:Bool}{c:PV}
def adQ {xs:List DV}{K:Int->Prop}(h:slR W c xs ar):sH c ⟨bs,fz,ar⟩ K=K xs.length:=by
 rcases h with⟨rfl,rfl⟩|⟨k,ver,st,rfl,a,_⟩
 ·rfl
 ·simp[sH,Mem.row,a]
def adP {st1:Bool}{xs ys:List DV}{ex:Bool}{K:PV->Mem->Prop}(h:slR W c xs ar)(m:∀y∈ys,y.fits 1=true)(p:∀y∈xs,y.fits 1=true)(l:st1=true->ys≠[])(hl:xs.length+ys.length<=1073741824)
  (f:∀k ver st ar',(kOf c=some k\/k=ar.length)->ar'[k]?=some (some ⟨1,xs++ys,ver,st⟩)->(∀j,j≠k->j<ar.length->ar'[j]?=ar[j]?)->ar.length<=ar'.length->st≠2->(st1=true->st=1)->(st1=false->kOf c=some k->W=true->st=1\/xs=[])->(st1=false->kOf c=none->st=0)->K (.tsl k ver 0) ⟨bs,fz,ar'⟩):
  lT 1 st1 c (.d (.slice ex ys)) ⟨bs,fz,ar⟩ K:=by
 rcases h with⟨rfl,rfl⟩|⟨k,ver,st,rfl,i,h2,n⟩
 ·simp only[lT,yQ]
  refine⟨by decide,m,l,trivial,by simp,by simpa using hl,?_⟩;refine f _ _ _ _ (.inr rfl) (by simp;rfl) (fun j g a=>by rw[ab a]) (by simp) (by cases st1<;>simp) (fun e=>by simp[e]) (fun _ e=>by cases e) (fun e _=>by simp[e])
 ·have b:k<ar.length:=(U.1 i).1
  simp only[lT,yQ,Mem.row,i,if_true];refine⟨by decide,m,l,trivial,h2,hl,?_⟩;refine f k (ver+1) _ _ (.inl rfl) (by simp[b];rfl) (fun j g _=>ae (Ne.symm g)) (by simp) (by cases st1<;>simp[h2]) (fun e=>by simp[e]) (fun e _ o=>by simpa[e]using n o) (fun _ e=>by cases e)
def De.one (x:De):PV.cells (.d x.dv)=[.d x.dv]/\x.dv.one=true:=⟨rfl,rfl⟩
def ams {t:Sp}{M:Mem}(h:gK s a b mb cst cse t M)(V:Wj s t)(n:Int):
  SC C 113 [.ptr b 0, .d (De.cut n).dv] M (fun p M'=>∃t' tK,doS s t (.cut n)=some t'/\gK s a b mb tK cse t' M'/\FrS a b mb M M') (fun d M'=>doS s t (.cut n)=none/\IJ d/\FrS a b mb M M'):=by
 obtain⟨bs,fz,ar⟩:=M;have c:=h.box;rw[iU]at c;have u:=h.nb;have v:=h.r4;simp only at c u v;have f:b<bs.length:=(U.1 c).1;obtain⟨o1,o2,o3⟩:=GY h.stk;have r:=(De.one (.cut n)).1;have A:=(De.one (.cut n)).2;have W:(De.cut n).dv= .iface T.fM (.agg [dI n]):=rfl;refine aC aZ gY ?_;rw[W]at r A⊢;have R:bs.length∉fz:=fun e=>am _ (h.fzb _ e)
 have j:∀k,bs.length+k∉fz:=fun k e=>by have:=h.fzb _ e;simp only at this;omega
 have x:¬b=bs.length:=by omega
 have z:∀k,¬b=bs.length+k:=fun k=>by omega
 have m:∀k,b<bs.length+k:=fun k=>by omega
 have l:¬bs.length+1=bs.length:=by omega
 have o:=aaC s.dvd n (by have:=(Su.Qk V.ok).ci;omega);rw[rW,JG]at o;simp only[aZ,gY,r,nD,f,c,dQ,bJ,dB,aw,Y,a8,j,m,l,bI,be,eU,RN,F,H,I,S];refine lu (uf (d:= .agg [dI s.dvd.dK,sF (s.dvd.cir.map au)]) (by simp[datum,bY,dY,Mem.row,v])) rfl o rfl ?_;have z0:((0:Int)==0)=true:=rfl
 by_cases g:(s.dvd.cuts n).2=0
 ·have am6:((s.dvd.cuts n).2==0)=true:=by simp[g]
  simp only[am6,f,c,dQ,jY,nS,j,l,fQ,RN,F,H,J,S];refine⟨by simp,?_⟩;rw[adQ h.stk]
  by_cases E:t.eP.length<8
  ·have i:decide (((t.eP.map au).length:Int)<8)=true:=by simp;omega
   rw[i];refine⟨by kernel_rfl,DZ ?_⟩;simp only[f,c,dQ,m,Y,DV.strip,jH,RN,H,S];refine adP h.stk (fun y G=>by simp only[ap]at G;subst G;rfl) wE (by simp) (by simp;omega) fun k ver st ar' e1 e2 K L X N _ _=> ?_
   have w:=N rfl;subst w;obtain⟨O,P⟩:=h.ext (xs:=[some [PV.d (DV.iface T.fM (DV.agg [dI n]))],some [PV.d (dI n)],some [PV.d (dI (s.dvd.cuts n).fst.circle),PV.d (dI (s.dvd.cuts n).fst.turns),PV.d (dI (s.dvd.cuts n).fst.holes)]]) (xf:=[bs.length+1,bs.length]) (by simp);have Q:a+5<ar.length:=(U.1 h.r5).1;obtain⟨B,D⟩:=O.Ry (k:=k) (ver:=ver) (st:=1) (xs:=t.eP++ [n]) (ar':=ar') (by
     rcases e1 with e1|e1
     ·exact h.kst k e1
     ·omega) (fun e=>by
     rcases e1 with e1|e1
     ·exact h.dif k e1 e
     ·rcases h.set with⟨rfl,_⟩|⟨Z,_,_,rfl,q,_⟩
      ·cases e
      ·cases e
       have:=(U.1 q).1;simp only at this;omega) (by rw[e2];simp[au]) K L ⟨by decide, .inl rfl⟩
   simp only[f,c,dQ,DU,x,z,u,dX,fB,RN,H,S];rw[DU f]at B D;exact⟨_,_,by simp[doS,g,E],B,P.trans D⟩
  ·have i:decide (((t.eP.map au).length:Int)<8)=false:=by simp;omega
   rw[i];refine⟨by kernel_rfl,xR ⟨rfl,rfl⟩ ⟨by simp[doS,E],⟨_,rfl,rfl,rfl⟩,?_⟩⟩;exact(h.ext (xf:=[bs.length+1,bs.length]) (by simp)).2
 ·have am6:((s.dvd.cuts n).2==0)=false:=by simp[g]
  simp only[am6,jY,nS,j,l,fQ,RN,F,H,J,S];refine⟨by simp,by kernel_rfl,xR ⟨rfl,rfl⟩ ⟨by simp[doS,g],⟨_,rfl,rfl,rfl⟩,?_⟩⟩;exact(h.ext (xf:=[bs.length+1,bs.length]) (by simp)).2
section
variable {C:Ctx}{base:Nat}{KP:DV->Mem->Prop}
variable{ks:List Nat}{b:Nat}{M:Mem}{K:PV->Mem->Prop}
def anz {k v:DV}(l a:List (DV×DV))(hb:M.box b=some [.jr l])(hf:b∉M.fz)(h1:iY ks k k=some true)(h2:Ed ks l k v=some a)(c:K .dead {M with boxes:=M.boxes.set b (some [.jr a])}):
  ay C base (.abV ks) [.mref b, .d k, .d v] M K KP:=by
 simp only[ay,hb,h1,h2];exact⟨hf,c⟩
def anx {k:DV}(l a:List (DV×DV))(hb:M.box b=some [.jr l])(hf:b∉M.fz)(h1:iY ks k k=some true)(h2:Ec ks l k=some a)(c:K (.d (.tup [])) {M with boxes:=M.boxes.set b (some [.jr a])}):
  ay C base (.abT ks) [.mref b, .d k] M K KP:=by
 simp only[ay,hb,h1,h2];exact⟨hf,c⟩
end
def wZ (h:Int):iY [] (dI h) (dI h)=some true:=by simp[iY]
variable{s:Su}{a b mb:Nat}{cst cse:PV}{bs:List (Option (List PV))}{fz:List Nat}{ar:List (Option Arr)}
def gK.alZ {t:Sp}(h:gK s a b mb cst cse t ⟨bs,fz,ar⟩)(c:List (Int×Fr)):
  gK s a b mb cst cse {t with op:=c} ⟨bs.set mb (some [.jr (opD c)]),fz,ar⟩/\FrS a b mb ⟨bs,fz,ar⟩ ⟨bs.set mb (some [.jr (opD c)]),fz,ar⟩:=by
 have d:mb<bs.length:=(U.1 h.map).1;constructor
 ·exact
  {box:=by simp only;rw[ae (Ne.symm h.bm)];exact h.box
   map:=by simp[d]
   r0:=h.r0,r1:=h.r1,r2:=h.r2,r3:=h.r3,r4:=h.r4,r5:=h.r5,stk:=h.stk,set:=h.set,kst:=h.kst,kse:=h.kse,dif:=h.dif
   nb:=h.nb,nm:=h.nm,bm:=h.bm
   fzb:=fun i e=>by simpa using h.fzb i e}
 ·exact
  {len:=by simp
   fzb:=fun f i g=>by have:=f i g;simpa using this
   bP:=aL _
   box:=fun i _ _ h2=>by simp only;rw[ae (Ne.symm h2)]
   fz:=fun _ _=>bN
   row:=fun _ _=>rfl}
variable{M:Mem}
def agW {t:Sp}(h:gK s a b mb cst cse t M)(n:Int)(f:Fr):
  SC C 113 [.ptr b 0, .d (De.order n f).dv] M (fun p M'=>∃t' tK Ba,doS s t (.order n f)=some t'/\gK s a b mb tK Ba t' M'/\FrS a b mb M M') (fun d M'=>doS s t (.order n f)=none/\IJ d/\FrS a b mb M M'):=by
 obtain⟨bs,fz,ar⟩:=M;have c:=h.box;rw[iU]at c;have v:=h.nb;have g:=h.map;simp only at c v g;have m:b<bs.length:=(U.1 c).1;have q:mb<bs.length:=(U.1 g).1;obtain⟨N,O,P⟩:=GY h.stk;have o:=(De.one (.order n f)).1;have r:=(De.one (.order n f)).2;have K:(De.order n f).dv= .iface T.fF (.agg [dI n,dI f.n,dI f.d]):=rfl;rw[K]at o r⊢;have G:bs.length∉fz:=fun e=>am _ (h.fzb _ e)
 have i:∀k,bs.length+k∉fz:=fun k e=>by have:=h.fzb _ e;simp only at this;omega
 have D:¬b=bs.length:=by omega
 have E:∀k,¬b=bs.length+k:=fun k=>by omega
 have l:∀k,b<bs.length+k:=fun k=>by omega
 have j:¬bs.length+1=bs.length:=by omega
 have x:(T.fF==T.fM)=false:=by decide
 have y:(T.fF==T.bV)=false:=by decide
 refine aC aZ gY ?_;simp only[aZ,gY,o,nD,fU x,fU y,m,c,dQ,bJ,dB,aw,Y,a8,i,l,j,RN,F,H,I,S];refine Rx (opD t.op) ((gq t.op n).map Fr.dv) (by simp[Mem.box,ab q,g]) (wZ n) (GZ _ _) ?_;obtain⟨w,z⟩:=h.ext (xs:=[some [PV.d (DV.iface T.fF (DV.agg [dI n,dI f.n,dI f.d]))],some [PV.d (dI n),pI f.n,pI f.d],some [pI 0,pI 0]]) (xf:=[bs.length+1,bs.length]) (by simp);cases u:gq t.op n with
 |none=>
  simp only[EY,be,bo,aD,jY,nS,i,j,fQ,RN,H,J,S];refine⟨by simp,by kernel_rfl,DZ ?_⟩;simp only[m,c,dQ,Y,l,RN,H,S];refine anz (opD t.op) (opD (t.op++ [(n,f)])) (by simp[Mem.box,ab q,g]) w.nm (wZ n) (by rw[<-bK];exact anE _ _ _ u) ?_;obtain⟨A,B⟩:=w.alZ (t.op++ [(n,f)]);exact⟨_,_,_,by simp[doS,u],A,z.trans B⟩
 |some L=>
  simp only[EY,bh,aM,aE,jY,nS,i,j,fQ,bK,RN,H,J,S];refine⟨by simp,by kernel_rfl,xR ⟨rfl,rfl⟩ ⟨by simp[doS,u],⟨_,rfl,rfl,rfl⟩,?_⟩⟩;exact(h.ext (xf:=[bs.length+1,bs.length]) (by simp)).2
def gK.akN {t:Sp}{ar':List (Option Arr)}(h:gK s a b mb cst cse t ⟨bs,fz,ar⟩){k ver st:Nat}{xs:List Int}(hk:a+6<=k)(hd:kOf cst≠some k)
  (h1:ar'[k]?=some (some ⟨1,xs.map au,ver,st⟩))(h2:∀j,j≠k->j<ar.length->ar'[j]?=ar[j]?)(hl:ar.length<=ar'.length)(hst:st≠2):
  gK s a b mb cst (.tsl k ver 0) {t with sets:=xs} ⟨bs.set b (some (iU s a mb cst (.tsl k ver 0) t.kM)),fz,ar'⟩/\FrS a b mb ⟨bs,fz,ar⟩ ⟨bs.set b (some (iU s a mb cst (.tsl k ver 0) t.kM)),fz,ar'⟩:=by
 have g:b<bs.length:=(U.1 h.box).1;have d:∀(j:Nat) (A:Arr),j≠k->ar[j]?=some (some A)->ar'[j]?=some (some A):=fun j A c f=>by
  rw[h2 j c (U.1 f).1];exact f
 constructor
 ·exact
  {box:=by simp[g]
   map:=by
    have:=h.map;have n:=h.bm;simp only at this⊢;rw[ae n];exact this
   r0:=d _ _ (by omega) h.r0
   r1:=d _ _ (by omega) h.r1
   r2:=d _ _ (by omega) h.r2
   r3:=d _ _ (by omega) h.r3
   r4:=d _ _ (by omega) h.r4
   r5:=d _ _ (by omega) h.r5
   stk:=rM h.stk fun j A c f=>d j A (fun e=>hd (e▸c)) f
   set:= .inr ⟨k,ver,st,rfl,h1,hst,fun e=>by cases e⟩
   kst:=h.kst
   kse:=fun j c=>by cases c;exact hk
   dif:=fun j c e=>by cases e;exact hd c
   nb:=h.nb
   nm:=h.nm
   bm:=h.bm
   fzb:=fun i l=>by simpa using h.fzb i l}
 ·exact
  {len:=by simp
   fzb:=fun p i l=>by have:=p i l;simpa using this
   bP:=hl
   box:=fun i _ o _=>by simp only;rw[ae (Ne.symm o)]
   fz:=fun _ _=>bN
   row:=fun j c=>by
    by_cases m:j<ar.length
    ·exact h2 j (by omega) m
    ·exact absurd (U.1 h.r0).1 (by simp only;omega)}
def amu {t:Sp}(h:gK s a b mb cst cse t M)(P:Wj s t)(n:Nat)(hn:n<s.days.length):
  SC C 113 [.ptr b 0, .d (De.set (n+1:Nat)).dv] M (fun p M'=>∃t' tK Ba,doS s t (.set (n+1:Nat))=some t'/\gK s a b mb tK Ba t' M'/\FrS a b mb M M') (fun d M'=>doS s t (.set (n+1:Nat))=none/\IJ d/\FrS a b mb M M'):=by
 obtain⟨bs,fz,ar⟩:=M;have c:=h.box;rw[iU]at c;have u:=h.nb;simp only at c u;have f:b<bs.length:=(U.1 c).1;obtain⟨o1,o2,o3⟩:=GY h.set;have r:=(De.one (.set (n+1:Nat))).1;have D:=(De.one (.set (n+1:Nat))).2;have hx:(De.set (n+1:Nat)).dv= .iface T.fO (.agg [dI (n+1:Nat)]):=rfl;rw[hx]at r D⊢;have ae:bs.length∉fz:=fun e=>am _ (h.fzb _ e)
 have I:∀k,bs.length+k∉fz:=fun k e=>by have:=h.fzb _ e;simp only at this;omega
 have z:¬b=bs.length:=by omega
 have A:∀k,¬b=bs.length+k:=fun k=>by omega
 have g:∀k,b<bs.length+k:=fun k=>by omega
 have J:¬bs.length+1=bs.length:=by omega
 have R:(T.fO==T.fM)=false:=by decide
 have W:(T.fO==T.bV)=false:=by decide
 have X:(T.fO==T.fF)=false:=by decide
 have Z:(T.fO==T.eF)=false:=by decide
 have ac:s.days.length<=366:=by
  have:=l9 (s.cal.leap s.year);simp only[Su.days,Su.qK,V,bz,Su.dur]
  split at this<;>omega
 have e1:cM .i64 (((n+1:Nat):Int) - 1)=(n:Int):=by rw[aB (by omega)];omega
 have e2:(0:Int)<=(n:Int):=by omega
 have m:((((n+1:Nat):Int) - 1).toNat)=n:=by omega
 refine aC aZ gY ?_;simp only[aZ,gY,r,nD,fU R,fU W,fU X,fU Z,f,c,dQ,bJ,dB,aw,Y,a8,I,g,J,e1,e2,ai,hn,V,getD_map,aa7,RN,F,H,S];obtain⟨g1,g2⟩:=h.ext (xs:=[some [PV.d (DV.iface T.fO (DV.agg [dI (n+1:Nat)]))],some [PV.d (dI (n+1:Nat))]]) (xf:=[bs.length+1,bs.length]) (by simp);have ab:a+5<ar.length:=(U.1 h.r5).1;have j:∀(KP:DV->Mem->Prop),doS s t (.set (n+1:Nat))=some {t with sets:=t.sets++ [((n+1:Nat):Int)]}->
   lT 1 false cse (PV.d (DV.slice true [dI (n+1:Nat)])) ⟨bs++ [some [PV.d (DV.iface T.fO (DV.agg [dI (n+1:Nat)]))],some [PV.d (dI (n+1:Nat))]],(bs.length+1)::bs.length::fz,ar⟩ (fun v x=>
    jP 1 (PV.ptr b 21) v x fun M'=>∃t' tK Ba,doS s t (.set (n+1:Nat))=some t'/\gK s a b mb tK Ba t' M'/\FrS a b mb ⟨bs,fz,ar⟩ M'):=by
  intro _ E;refine adP h.set (fun y Q=>by simp only[ap]at Q;subst Q;rfl) wE (by simp) (by have:=P.se;simp;omega) fun k ver st ar' e1 e2 m e4 e5 e6 _ _=> ?_
  obtain⟨K,L⟩:=g1.akN (k:=k) (ver:=ver) (st:=st) (xs:=t.sets++ [((n+1:Nat):Int)]) (ar':=ar') (by
    rcases e1 with e1|e1
    ·exact h.kse k e1
    ·omega) (fun e=>by
    rcases e1 with e1|e1
    ·exact h.dif k e e1
    ·rcases h.stk with⟨rfl,_⟩|⟨k',_,_,rfl,q,_⟩
     ·cases e
     ·cases e
      have:=(U.1 q).1;simp only at this;omega) (by rw[e2];simp[au]) m e4 e5
  simp only[f,c,dQ,DU,z,A,u,dX,fB,RN,H,S];rw[DU f]at K L;exact⟨_,_,_,E,K,g2.trans L⟩
 cases w:(s.days.getD n default).2
 ·simp only[fQ,RN,F,S]
  refine⟨by kernel_rfl,xR ⟨rfl,rfl⟩ ⟨by simp only[doS,m,w,bd];rfl,⟨_,rfl,rfl,rfl⟩,?_⟩⟩;exact(h.ext (xf:=[bs.length+1,bs.length]) (by simp)).2
 ·by_cases o:t.sets=[]
  ·have l:(((t.sets.map au).length:Int)==0)=true:=by simp[o]
   simp only[f,c,dQ,g,fQ,adQ h.set,l,RN,F,H,S];refine⟨by kernel_rfl,DZ ?_⟩;simp only[f,c,dQ,Y,g,DV.strip,jH,RN,H,S];exact j (fun _ _=>True) (by simp only[doS,m,w,o];rfl)
  ·have l:((t.sets.length:Int)==0)=false:=by simp[o]
   rcases h.set with⟨_,hh⟩|⟨k,ver,st,B,N,_⟩
   ·exact absurd (by simpa using hh) o
   simp only at N;have O:0<t.sets.length:=List.length_pos_iff.2 o;have q1:cM .i64 ((t.sets.length:Int) - 1)=((t.sets.length - 1:Nat):Int):=by rw[aB (by have:=P.se;omega)];omega
   have q2:(0:Int)<=((t.sets.length - 1:Nat):Int):=by omega
   have q3:t.sets.length - 1<t.sets.length:=by omega
   simp only[f,c,dQ,g,fQ,B,cv,l,q1,q2,q3,N,ai,V,getD_map,aH,RN,F,H,S];refine⟨by kernel_rfl,?_⟩
   by_cases i:((n+1:Nat):Int)>t.sets.getD (t.sets.length - 1) default
   ·rw[decide_eq_true i]
    refine DZ ?_;simp only[f,c,dQ,Y,g,DV.strip,jH,RN,H,S];exact j (fun _ _=>True) (by simp only[doS,m,w,decide_eq_true i,Bool.or_true,b8,if_true])
   ·rw[decide_eq_false i]
    have G:t.sets.isEmpty=false:=by simpa using o
    refine xR ⟨rfl,rfl⟩ ⟨by simp only[doS,m,w,decide_eq_false i,G,Bool.or_false,cm];rfl,⟨_,rfl,rfl,rfl⟩,?_⟩;exact(h.ext (xf:=[bs.length+1,bs.length]) (by simp)).2
variable{ds:List DV}
def Oi {p:PV}{d:DV}{ps:List PV}(h:datum M p=some d)(a:dL M ps=some ds):dL M (p::ps)=some (d::ds):=by
 simp only[dL,h,a]
def gK.aoW {t:Sp}(h:gK s a b mb cst cse t ⟨bs,fz,ar⟩)(c:List Fr):
  gK s a b mb cst cse {t with tg:=c} ⟨bs,fz,ar.set (a+2) (some ⟨2,c.map Fr.dv,0,1⟩)⟩/\FrS a b mb ⟨bs,fz,ar⟩ ⟨bs,fz,ar.set (a+2) (some ⟨2,c.map Fr.dv,0,1⟩)⟩:=by
 have g:a+2<ar.length:=(U.1 h.r2).1;have d:∀(j:Nat) (A:Arr),j≠a+2->ar[j]?=some (some A)->(ar.set (a+2) (some ⟨2,c.map Fr.dv,0,1⟩))[j]?=some (some A):=fun j A e f=>by
  rw[ae (Ne.symm e)];exact f
 constructor
 ·exact
  {box:=h.box
   map:=h.map
   r0:=d _ _ (by omega) h.r0
   r1:=d _ _ (by omega) h.r1
   r2:=by simp[g]
   r3:=d _ _ (by omega) h.r3
   r4:=d _ _ (by omega) h.r4
   r5:=d _ _ (by omega) h.r5
   stk:=rM h.stk fun j A e f=>d j A (by have:=h.kst j e;omega) f
   set:=rM h.set fun j A e f=>d j A (by have:=h.kse j e;omega) f
   kst:=h.kst,kse:=h.kse,dif:=h.dif,nb:=h.nb,nm:=h.nm,bm:=h.bm,fzb:=h.fzb}
 ·exact
  {len:=aL _
   fzb:=fun k i l=>by have:=k i l;simpa using this
   bP:=by simp
   box:=fun _ _ _ _=>rfl
   fz:=fun _ _=>bN
   row:=fun j e=>by simp only;rw[ae (by omega)]}
def gK.ahS {t:Sp}(h:gK s a b mb cst cse t ⟨bs,fz,ar⟩)(c:Int):
  gK s a b mb cst cse {t with kM:=c} ⟨bs.set b (some (iU s a mb cst cse c)),fz,ar⟩/\FrS a b mb ⟨bs,fz,ar⟩ ⟨bs.set b (some (iU s a mb cst cse c)),fz,ar⟩:=by
 have d:b<bs.length:=(U.1 h.box).1;constructor
 ·exact
  {box:=by simp[d]
   map:=by
    have:=h.map;have f:=h.bm;simp only at this⊢;rw[ae f];exact this
   r0:=h.r0,r1:=h.r1,r2:=h.r2,r3:=h.r3,r4:=h.r4,r5:=h.r5,stk:=h.stk,set:=h.set
   kst:=h.kst,kse:=h.kse,dif:=h.dif,nb:=h.nb,nm:=h.nm,bm:=h.bm
   fzb:=fun i e=>by simpa using h.fzb i e}
 ·exact
  {len:=by simp
   fzb:=fun j i e=>by have:=j i e;simpa using this
   bP:=aL _
   box:=fun i _ g _=>by simp only;rw[ae (Ne.symm g)]
   fz:=fun _ _=>bN
   row:=fun _ _=>rfl}
def agX {t:Sp}(h:gK s a b mb cst cse t M)(v:Wj s t)(n:Nat)(hn:n<t.pc.hands.length)(c:Int)(hc:0<=c/\c<=1000000000):
  SC C 113 [.ptr b 0, .d (De.serve n c).dv] M (fun p M'=>∃t' tK Ba,doS s t (.serve n c)=some t'/\gK s a b mb tK Ba t' M'/\FrS a b mb M M') (fun d M'=>doS s t (.serve n c)=none/\IJ d/\FrS a b mb M M'):=by
 obtain⟨bs,fz,ar⟩:=M;have g:=h.box;rw[iU]at g;have W:=h.nb;have i:=h.map;have q:=h.r2;simp only at g W i q;have z:b<bs.length:=(U.1 g).1;have E:mb<bs.length:=(U.1 i).1;obtain⟨o1,o2,o3⟩:=GY h.stk;have A:=(De.one (.serve n c)).1;have R:=(De.one (.serve n c)).2;have hx:(De.serve n c).dv= .iface T.eF (.agg [dI n,dI c]):=rfl;rw[hx]at A R⊢;have ao:bs.length∉fz:=fun e=>am _ (h.fzb _ e)
 have o:∀k,bs.length+k∉fz:=fun k e=>by have:=h.fzb _ e;simp only at this;omega
 have ac:¬b=bs.length:=by omega
 have ae:∀k,¬b=bs.length+k:=fun k=>by omega
 have y:∀k,b<bs.length+k:=fun k=>by omega
 have r:¬bs.length+1=bs.length:=by omega
 have c1:(T.eF==T.fM)=false:=by decide
 have c2:(T.eF==T.bV)=false:=by decide
 have c3:(T.eF==T.fF)=false:=by decide
 have an:=(Pc.wH v.pc).2;have ap:=(Pc.wH v.pc).1;have D:0<=s.lim/\s.lim<=10800:=by simpa[inR]using(Su.facts v.ok).2.2.1
 refine aC aZ gY ?_;simp only[aZ,gY,A,nD,fU c1,fU c2,fU c3,z,g,dQ,bJ,dB,aw,Y,a8,o,y,r,RN,F,H,I,S];refine Rx (opD t.op) ((gq t.op n).map Fr.dv) (by simp[Mem.box,ab E,i]) (wZ n) (GZ _ _) ?_;cases N:gq t.op n with
 |none=>
  simp only[EY,be,bo,aD,jY,nS,Y,o,r,fQ,RN,F,H,J,S];refine⟨by simp,by kernel_rfl,xR ⟨rfl,rfl⟩ ⟨by simp[doS,N],⟨_,rfl,rfl,rfl⟩,?_⟩⟩;exact(h.ext (xf:=[bs.length+2,bs.length+1,bs.length]) (by simp)).2
 |some f=>
  obtain⟨O,P⟩:=h.ext (xs:=[some [PV.d (DV.iface T.eF (DV.agg [dI n,dI c]))],some [PV.d (dI n),pI c],some [pI f.n,pI f.d]]) (xf:=[bs.length+2,bs.length+1,bs.length]) (by simp);obtain⟨e1,e2,K⟩:=aai O;have hk:=ahC e1 e2 s t n f 100 (by omega) (by omega) D;have hp:=adA e1 e2 s t n v.pc hn;rw[bK,cZ]at hk;rw[cZ]at hp;simp only[EY,bh,aM,aE,jY,nS,Y,o,r,bK,RN,F,H,J,S];refine⟨by simp,?_⟩;refine lu (Oi K rfl) rfl hk rfl ?_;cases m:HY s t n f 100
  ·simp only[fQ,RN,F,H,S]
   exact⟨by kernel_rfl,xR ⟨rfl,rfl⟩ ⟨by simp[doS,N,m],⟨_,rfl,rfl,rfl⟩,P⟩⟩
  ·simp only[RN,F,H,S]
   refine lu (Oi K rfl) rfl hp rfl ?_;simp only[fQ,RN];refine⟨by kernel_rfl,?_⟩
   by_cases l:c>=Dx s t n
   ·rw[decide_eq_true l]
    refine DZ ?_;simp only[z,g,dQ,Y,y,RN,H,S];refine anx (opD t.op) (opD (Bq t.op n)) (by simp[Mem.box,ab E,i]) O.nm (wZ n) (anD _ _) ?_;obtain⟨L,X⟩:=O.alZ (Bq t.op n);obtain⟨B,Z⟩:∃B,B=(bs++ [some [PV.d (DV.iface T.eF (DV.agg [dI n,dI c]))],some [PV.d (dI n),pI c],some [pI f.n,pI f.d]]).set mb (some [.jr (opD (Bq t.op n))]):=⟨_,rfl⟩
    rw[<-Z]at L X;simp only[<-Z];have j:=L.box;rw[iU]at j;have w:b<B.length:=(U.1 j).1;have x:=L.nb;simp only at j x;have u:n<t.tg.length:=by rw[v.tl];exact hn
    have j0:(0:Int)<=(n:Int):=by omega
    simp only[j,w,q,j0,u,ai,V,RN,H,S];have G:(t.tg.map Fr.dv).set n (setCells ((t.tg.map Fr.dv).getD n default) 0 [dI f.n,dI f.d])=(t.tg.set n f).map Fr.dv:=by
     rw[cr,getD_map u];rfl
    have Q:cM .i64 (t.kM+c)=t.kM+c:=aB (by have:=v.co;omega);refine zN (ds:=[dI f.n,dI f.d]) q rfl (by decide) rfl rfl (by rw[getD_map u];exact aL 2) ?_;rw[G];obtain⟨g5,g6⟩:=L.aoW (t.tg.set n f);obtain⟨g7,g8⟩:=g5.ahS (t.kM+c);simp only[j,w,Q,RN,H,S];refine⟨by simpa using x,{t with op:=Bq t.op n,tg:=t.tg.set n f,kM:=t.kM+c},cst,cse,by simp[doS,N,m,l],g7,?_⟩;exact((P.trans X).trans g6).trans g8
   ·rw[decide_eq_false l]
    exact xR ⟨rfl,rfl⟩ ⟨by simp[doS,N,m,l],⟨_,rfl,rfl,rfl⟩,P⟩
def aeL {t:Sp}(h:gK s a b mb cst cse t M)(n:Int):
  SC C 113 [.ptr b 0, .d (De.strike n).dv] M (fun p M'=>∃t' tK Ba,doS s t (.strike n)=some t'/\gK s a b mb tK Ba t' M'/\FrS a b mb M M') (fun d M'=>doS s t (.strike n)=none/\IJ d/\FrS a b mb M M'):=by
 obtain⟨bs,fz,ar⟩:=M;have c:=(De.one (.strike n)).1;have e:=(De.one (.strike n)).2;have o:(De.strike n).dv= .iface T.bT (.agg [dI n]):=rfl;rw[o]at c e⊢;have f:(T.bT==T.fM)=false:=by decide
 have g:(T.bT==T.bV)=false:=by decide
 have i:(T.bT==T.fF)=false:=by decide
 have j:(T.bT==T.eF)=false:=by decide
 have k:(T.bT==T.fO)=false:=by decide
 refine aC aZ gY ?_;simp only[aZ,gY,c,bJ,fU f,fU g,fU i,fU j,fU k,dB,Y,RN,F,H,S];obtain⟨l,m⟩:=h.ext (xs:=[some [PV.d (DV.iface T.bT (DV.agg [dI n]))]]) (xf:=[bs.length]) (by simp);exact⟨t,cst,cse,rfl,l,m⟩
def Yc {base:Nat}{KP:DV->Mem->Prop}{f:FuncId}{args:List PV}{ds':List DV}{r:PV}{c:List Arr}(h:Pure C f ds' r c)(g:YD r=true)(a:c.all mg=true){K:PV->Mem->Prop}
  (b:dL M args=some ds)(e:ds.map DV.strip=ds')(d:K (r.shift M.aF.length) {M with aF:=M.aF++c.map some}):ay C base (.Jy f) args M K KP:=
 ⟨_,_,Z5 h g a b e ⟨rfl,rfl⟩,d⟩
def gK.rows {t:Sp}{xs:List (Option Arr)}(h:gK s a b mb cst cse t ⟨bs,fz,ar⟩):gK s a b mb cst cse t ⟨bs,fz,ar++xs⟩/\FrS a b mb ⟨bs,fz,ar⟩ ⟨bs,fz,ar++xs⟩:=by
 have c:∀(j:Nat) (A:Arr),ar[j]?=some (some A)->(ar++xs)[j]?=some (some A):=fun j A d=>by
  rw[ab (U.1 d).1];exact d
 constructor
 ·exact
  {box:=h.box,map:=h.map
   r0:=c _ _ h.r0,r1:=c _ _ h.r1,r2:=c _ _ h.r2,r3:=c _ _ h.r3,r4:=c _ _ h.r4,r5:=c _ _ h.r5
   stk:=rM h.stk fun j A _ d=>c j A d
   set:=rM h.set fun j A _ d=>c j A d
   kst:=h.kst,kse:=h.kse,dif:=h.dif,nb:=h.nb,nm:=h.nm,bm:=h.bm,fzb:=h.fzb}
 ·exact
  {len:=aL _
   fzb:=fun e i f=>by have:=e i f;simpa using this
   bP:=by simp
   box:=fun _ _ _ _=>rfl
   fz:=fun _ _=>bN
   row:=fun j g=>by
    have:=(U.1 h.r0).1;simp only at this⊢;rw[ab (by omega)]}
def gK.other {t:Sp}(h:gK s a b mb cst cse t ⟨bs,fz,ar⟩){k:Nat}{A:Arr}(hk:a+6<=k)(h1:kOf cst≠some k)(h2:kOf cse≠some k):
  gK s a b mb cst cse t ⟨bs,fz,ar.set k (some A)⟩/\FrS a b mb ⟨bs,fz,ar⟩ ⟨bs,fz,ar.set k (some A)⟩:=by
 have c:∀(j:Nat) (B:Arr),j≠k->ar[j]?=some (some B)->(ar.set k (some A))[j]?=some (some B):=fun j B d g=>by
  rw[ae (Ne.symm d)];exact g
 constructor
 ·exact
  {box:=h.box,map:=h.map
   r0:=c _ _ (by omega) h.r0
   r1:=c _ _ (by omega) h.r1
   r2:=c _ _ (by omega) h.r2
   r3:=c _ _ (by omega) h.r3
   r4:=c _ _ (by omega) h.r4
   r5:=c _ _ (by omega) h.r5
   stk:=rM h.stk fun j B d f=>c j B (fun e=>h1 (e▸d)) f
   set:=rM h.set fun j B d f=>c j B (fun e=>h2 (e▸d)) f
   kst:=h.kst,kse:=h.kse,dif:=h.dif,nb:=h.nb,nm:=h.nm,bm:=h.bm,fzb:=h.fzb}
 ·exact
  {len:=aL _
   fzb:=fun l i m=>by have:=l i m;simpa using this
   bP:=by simp
   box:=fun _ _ _ _=>rfl
   fz:=fun _ _=>bN
   row:=fun j d=>by simp only;rw[ae (by omega)]}
def gK.aoU {t:Sp}(h:gK s a b mb cst cse t ⟨bs,fz,ar⟩)(p:Pc)(l:p.hands=t.pc.hands):
  gK s a b mb cst cse {t with pc:=p} ⟨bs,fz,ar.set a (some ⟨3,p.links.map Lk.dv,0,1⟩)⟩/\FrS a b mb ⟨bs,fz,ar⟩ ⟨bs,fz,ar.set a (some ⟨3,p.links.map Lk.dv,0,1⟩)⟩:=by
 have f:a<ar.length:=(U.1 h.r0).1;have c:∀(j:Nat) (A:Arr),j≠a->ar[j]?=some (some A)->(ar.set a (some ⟨3,p.links.map Lk.dv,0,1⟩))[j]?=some (some A):=fun j A d e=>by
  rw[ae (Ne.symm d)];exact e
 constructor
 ·exact
  {box:=h.box,map:=h.map
   r0:=by simp[f]
   r1:=c _ _ (by omega) (by rw[l];exact h.r1)
   r2:=c _ _ (by omega) h.r2
   r3:=c _ _ (by omega) h.r3
   r4:=c _ _ (by omega) h.r4
   r5:=c _ _ (by omega) h.r5
   stk:=rM h.stk fun j A d e=>c j A (by have:=h.kst j d;omega) e
   set:=rM h.set fun j A d e=>c j A (by have:=h.kse j d;omega) e
   kst:=h.kst,kse:=h.kse,dif:=h.dif,nb:=h.nb,nm:=h.nm,bm:=h.bm,fzb:=h.fzb}
 ·exact
  {len:=aL _
   fzb:=fun g i k=>by have:=g i k;simpa using this
   bP:=by simp
   box:=fun _ _ _ _=>rfl
   fz:=fun _ _=>bN
   row:=fun j d=>by simp only;rw[ae (by omega)]}
section
variable {C:Ctx}{base:Nat}{KP:DV->Mem->Prop}{K:PV->Mem->Prop}{M:Mem}{x y:PV}{l:List PV}
def uj:ay C base (.ext 0) [.tup (x::l)] M K KP=K x M:=px
def um:ay C base (.ext 1) [.tup (x::y::l)] M K KP=K y M:=px
end
variable{f:FuncId}{args:List PV}{M:Mem}{K:PV->Mem->Prop}{KP:DV->Mem->Prop}
def TF (h:SC C f args M K (fun _ _=>False)):SC C f args M K KP:=by
 intro X w E a i g;refine(h X w E a i g).mono fun e l b=> ?_
 cases e with
 |returned v=>exact b
 |panicked c=>
  obtain⟨v,d,k,j,_,hh,_⟩:=b;exact hh.elim
 |outgrown=>exact b.elim
def acK (p q:Pc):(p.lV q).length<=p.hands.length:=LY _ _ _ _
def JM (l:List Int):mg ⟨1,l.map au,0,xQ l⟩=true:=by
 cases l with
 |nil=>rfl
 |cons x l=>
  have:∀l:List Int,(flat (l.map au)).all ac9=true:=by
   intro l
   induction l with
   |nil=>rfl
   |cons x l a=>simp only[flat,bl,b0,List.all_append]at a⊢;rw[a];rfl
  simp only[mg,this (x::l)]
  rfl
variable{bs:List (Option (List PV))}{b:Nat}
def akg {y:Option (List PV)}(h:b<bs.length):(bs.set b y)[b]?=some y:=by simp[h]
variable{W:Bool}{c:PV}{xs:List DV}{fz:List Nat}{ar:List (Option Arr)}
def aiX {x:PV}{ys:List DV}(h:slR W c xs ar)(hx:yQ 1 x ⟨bs,fz,ar⟩=some ys)(g:∀y∈ys,y.fits 1=true)(hl:xs.length+ys.length<=1073741824)
  (e:∀k ver st ar',((kOf c=some k/\(∃l,ar[k]?=some (some ⟨1,xs,l,st⟩))/\(W=true->st=1\/xs=[]))\/(kOf c=none/\k=ar.length/\st=0/\xs=[]))->ar'[k]?=some (some ⟨1,xs++ys,ver,st⟩)->(∀j,j≠k->j<ar.length->ar'[j]?=ar[j]?)->ar.length<=ar'.length->st≠2->K (.tsl k ver 0) ⟨bs,fz,ar'⟩):
  lT 1 false c x ⟨bs,fz,ar⟩ K:=by
 rcases h with⟨rfl,rfl⟩|⟨k,ver,st,rfl,b,h2,i⟩
 ·simp only[lT,hx]
  refine⟨by decide,g,by simp,trivial,by simp,by simpa using hl,?_⟩;exact e _ _ 0 _ (.inr ⟨rfl,rfl,rfl,rfl⟩) (by simp) (fun j f a=>by rw[ab a]) (by simp) (by simp)
 ·have d:k<ar.length:=(U.1 b).1
  simp only[lT,hx,Mem.row,b,if_true];refine⟨by decide,g,by simp,trivial,h2,hl,?_⟩;exact e k (ver+1) st _ (.inl ⟨rfl,⟨ver,b⟩,i⟩) (by simp[d]) (fun j f _=>ae (Ne.symm f)) (by simp) h2
def ajM (s:Su)(a b mb:Nat)(cst cse:PV)(t:Sp)(bs:List (Option (List PV)))(fz:List Nat)(ar:List (Option Arr))(g:Nat)(o v:Int)(P:Nat->Nat->Prop)(c:Chg)(h:Pr)(r:Option (List Int×List Int))(e:Ex)(st:St):Prop:=
 match e with
 | .normal=>∃s1 p1 WB ver i f ex,r=some (s1,p1)/\st=⟨[(0, .ptr b 0),(4, .d (.func (.func 207) [] [.aV [.iface T.bV (.agg [.int .i64 c.link, .int .i64 c.pr.a, .int .i64 c.pr.b])]])),(8, .d (.aV [.int .i64 c.link, .int .i64 c.pr.a, .int .i64 c.pr.b])),(15, .d (.aV [.int .i64 h.a, .int .i64 h.b])),(16, .tsl g ver 0)]++ex,f⟩/\
   gK s a b mb WB cse {t with eP:=s1} f/\FrS a b mb ⟨bs,fz,ar⟩ f/\f.aF[g]?=some (some ⟨1,p1.map au,ver,i⟩)/\i≠2/\kOf WB≠some g/\g<f.aF.length/\kOf cse≠some g/\(p1=[]\/∃k ver,WB= .tsl k ver 0/\f.aF[k]?=some (some ⟨1,s1.map au,ver,1⟩))
 | .panic d=>r=none/\IJ d/\FrS a b mb ⟨bs,fz,ar⟩ st.mem
 | _=>False
def agG (s:Su)(a b mb:Nat)(cse:PV)(t:Sp)(bs:List (Option (List PV)))(fz:List Nat)(ar:List (Option Arr))(g:Nat)(c:Chg)(r:Option (List Int×List Int))(e:Ex)(st:St):Prop:=
 match e with
 | .normal=>∃s1 p1 WB ver h env f,r=some (s1,p1)/\st=⟨env,f⟩/\Am.look env 0= .ptr b 0/\Am.look env 8= .d (.aV [.int .i64 c.link, .int .i64 c.pr.a, .int .i64 c.pr.b])/\Am.look env 16= .tsl g ver 0/\
   gK s a b mb WB cse {t with eP:=s1} f/\FrS a b mb ⟨bs,fz,ar⟩ f/\f.aF[g]?=some (some ⟨1,p1.map au,ver,h⟩)/\h≠2/\kOf WB≠some g/\g<f.aF.length/\kOf cse≠some g/\(p1=[]\/∃k ver,WB= .tsl k ver 0/\f.aF[k]?=some (some ⟨1,s1.map au,ver,1⟩))
 | .panic d=>r=none/\IJ d/\FrS a b mb ⟨bs,fz,ar⟩ st.mem
 | _=>False
variable{s1 p1:List Int}
def V4 {st ps:List Int}{o v:Int}(h:oW st ps o v=some (s1,p1)):s1.length<=st.length/\p1.length<=ps.length+1:=by
 unfold oW at h
 split at h
 ·cases h;omega
 ·split at h
  ·cases h
   simp only[Y,an,ax];exact⟨List.length_erase_le,by omega⟩
  ·cases h
def U0 (R:aga){s:Su}{a b mb:Nat}{cst cse:PV}{t:Sp}{M:Mem}(h:gK s a b mb cst cse t M)(ht:Wj s t)(c:Chg)(hc:t.pc.EO c=true):
  SC C 113 [.ptr b 0, .d (De.change c).dv] M (fun p M'=>∃t' tK Ba,doS s t (.change c)=some t'/\gK s a b mb tK Ba t' M'/\FrS a b mb M M') (fun d M'=>doS s t (.change c)=none/\IJ d/\FrS a b mb M M'):=by
 obtain⟨bs,fz,ar⟩:=M;have w:=h.box;rw[iU]at w;have bv:=h.nb;have W:=h.map;have a4:=h.r0;have a5:=h.r1;simp only at w bv W a4 a5;have bi:b<bs.length:=(U.1 w).1;have bO:mb<bs.length:=(U.1 W).1;have a1:=(De.one (.change c)).1;have bq:=(De.one (.change c)).2;have hx:(De.change c).dv= .iface T.bV (.agg [dI c.link,dI c.pr.a,dI c.pr.b]):=rfl;rw[hx]at a1 bq⊢;have bR:bs.length∉fz:=fun e=>am _ (h.fzb _ e)
 have bu:∀k,bs.length+k∉fz:=fun k e=>by have:=h.fzb _ e;simp only at this;omega
 have bB:¬b=bs.length:=by omega
 have bE:∀k,¬b=bs.length+k:=fun k=>by omega
 have bc:∀k,b<bs.length+k:=fun k=>by omega
 have bz:¬bs.length+1=bs.length:=by omega
 have c1:(T.bV==T.fM)=false:=by decide
 have ax:=agh t.pc c hc;rw[dA,jI]at ax;refine aC aZ gY ?_;simp only[aZ,gY,a1,nD,fU c1,bi,w,dQ,bJ,dB,aw,Y,a8,bu,bc,bz,bI,eU,RN,F,H,S];obtain⟨sp,akn⟩:∃sp,sp=t.pc.lV (t.pc.changed c):=⟨_,rfl⟩
 rw[<-akn]at ax;refine Yc ax rfl (by simp only[cG,cH,Bool.and_true];exact JM sp) (uf (d:= .agg [sF (t.pc.links.map Lk.dv),sF (t.pc.hands.map au)]) (by simp[datum,bY,dY,Mem.row,a4,a5])) rfl ?_;obtain⟨g1,g2⟩:=h.ext (xs:=[some [PV.d (DV.iface T.bV (DV.agg [dI c.link,dI c.pr.a,dI c.pr.b]))],some [PV.d (dI c.link),PV.d (dI c.pr.a),PV.d (dI c.pr.b)]]) (xf:=[bs.length+1,bs.length]) (by simp);obtain⟨g3,g4⟩:=g1.rows (xs:=[some ⟨1,sp.map au,0,xQ sp⟩]);have y0:((0:Int)==0)=true:=rfl;have a2:(ar++ [some (⟨1,sp.map au,0,xQ sp⟩:Arr)])[ar.length]?=some (some ⟨1,sp.map au,0,xQ sp⟩):=by simp
 simp only[PV.shift,TI,kY,y0,fQ,uj,um,RN];refine⟨by kernel_rfl,DZ ?_⟩;have Q9:sp.length<=4:=by
  have:=(Pc.wH ht.pc).2.2;rw[akn];exact ao (acK _ _) this
 simp only[a2,cv,V,RN];refine aG sp.length (fun i (y:Mem)=>⟨[(0, .ptr b 0),(4, .d (.func (.func 207) [] [.aV [.iface T.bV (.agg [dI c.link,dI c.pr.a,dI c.pr.b])]])),(8, .d (.aV [dI c.link,dI c.pr.a,dI c.pr.b])),(83, .tsl ar.length 0 0),(84,pI sp.length),(85,pI i)],y⟩)
  (fun i y=>gK s a b mb cst cse t y/\FrS a b mb ⟨bs,fz,ar⟩ y/\y.aF[ar.length]?=some (some ⟨1,sp.map au,0,xQ sp⟩)/\(sp.all fun h=>(gq t.op h).isSome)=((sp.drop i).all fun h=>(gq t.op h).isSome)) 0 _ (bk _) rfl ⟨g3,g2.trans g4,a2,rfl⟩ (fun i y k1 an=> ?_) (fun y an=> ?_)
 ·obtain⟨k2,k3,k6⟩:=rng k1 (by omega)
  obtain⟨p1,p2,p3,Z⟩:=an;rw[drop_cons k1,cG]at Z;obtain⟨g,z,j⟩:=y;have yV:=p1.box;rw[iU]at yV;have l:=p1.map;simp only at yV l p3;have am1:b<g.length:=(U.1 yV).1;have aow:mb<g.length:=(U.1 l).1;have O:g.length∉z:=fun e=>am _ (p1.fzb _ e)
  have br:∀k,g.length+k∉z:=fun k e=>by have:=p1.fzb _ e;simp only at this;omega
  have bj:¬b=g.length:=by omega
  have bl:∀k,¬b=g.length+k:=fun k=>by omega
  have bp:∀k,b<g.length+k:=fun k=>by omega
  simp only[k2,k3,k1,p3,V,getD_map,ai,aH,am1,yV,dQ,RN,F,H,S];refine Rx (opD t.op) ((gq t.op (sp.getD i default)).map Fr.dv) (by simp[Mem.box,ab aow,l]) (wZ _) (GZ _ _) ?_;cases hg:gq t.op (sp.getD i default)with
  |none=>
   rw[hg,aD,bd]at Z;simp only[EY,be,bo,aD,bJ,dB,O,fQ,RN,H,S];refine⟨by kernel_rfl,xR ⟨rfl,rfl⟩ ⟨by simp only[doS,<-akn,Z,cm];rfl,⟨_,rfl,rfl,rfl⟩,?_⟩⟩;exact p2.trans (p1.ext (xf:=[]) (by simp)).2
  |some f0=>
   rw[hg,aE,b9]at Z;simp only[EY,bh,aM,aE,bJ,dB,O,fQ,bK,RN,H,S];refine⟨by kernel_rfl,DZ ?_⟩;simp only[k6];obtain⟨x1,x2⟩:=p1.ext (xs:=[some [pI f0.n,pI f0.d]]) (xf:=[]) (by simp);exact aX (len:=sp.length) (i:=i) _ k1 rfl ⟨x1,p2.trans x2,p3,Z⟩
 ·obtain⟨p1,p2,p3,Z⟩:=an
  rw[cf,cH]at Z;obtain⟨g,z,j⟩:=y;have yV:=p1.box;rw[iU]at yV;have l:=p1.map;have aoE:=p1.r0;simp only at yV l p3 aoE;have am1:b<g.length:=(U.1 yV).1;have aow:mb<g.length:=(U.1 l).1;have O:g.length∉z:=fun e=>am _ (p1.fzb _ e)
  have br:∀k,g.length+k∉z:=fun k e=>by have:=p1.fzb _ e;simp only at this;omega
  have bj:¬b=g.length:=by omega
  have bl:∀k,¬b=g.length+k:=fun k=>by omega
  have bp:∀k,b<g.length+k:=fun k=>by omega
  have a3:0<=c.link/\c.link.toNat<t.pc.links.length:=by
   simp only[Pc.EO,aq,inR,decide_eq_true_eq]at hc;omega
  obtain⟨j0,L⟩:=a3;obtain⟨f,x⟩:∃f,f=(t.pc.links.getD c.link.toNat default).pr:=⟨_,rfl⟩
  simp only[a7,am1,yV,dQ,bJ,dB,Y,O,aoE,j0,L,V,getD_map,qh,<-x,RN,F,H,I,N,S];obtain⟨x1,x2⟩:=p1.ext (xs:=[some [pI f.a,pI f.b]]) (xf:=[g.length]) (by simp);obtain⟨x3,x4⟩:=x1.rows (xs:=[some ⟨1,[],0,0⟩]);have x5:=(p2.trans x2).trans x4;have E:∀k,kOf cst=some k->k≠j.length:=fun k hk e=>by
   rcases p1.stk with⟨rfl,_⟩|⟨k',_,_,rfl,q,_⟩
   ·cases hk
   ·cases hk
    have:=(U.1 q).1;simp only at this;omega
  have anj:∀k,kOf cse=some k->k≠j.length:=fun k hk e=>by
   rcases p1.set with⟨rfl,_⟩|⟨k',_,_,rfl,q,_⟩
   ·cases hk
   ·cases hk
    have:=(U.1 q).1;simp only at this;omega
  have apm:a+5<j.length:=(U.1 p1.r5).1;refine oQ (Q:=ajM s a b mb cst cse t bs fz ar j.length f.a c.pr.a (fun _ _=>True) c f (oW t.eP [] f.a c.pr.a)) (fun e st K=> ?_) ?_
  ·cases e with
   |normal=>
    obtain⟨s1,r,WB,ver,sn,y,ex,G,rfl,y1,y2,y3,y4,y5,y6,y7,y8⟩:=K;have D:=V4 G;have bS:=ht.st;have aqw:=y5;(try simp only[RN,F,H,S]);refine oQ (Q:=agG s a b mb cse t bs fz ar j.length c (oW s1 r f.b c.pr.b)) (fun e st K=> ?_) ?_
    ·cases e with
     |normal=>
      obtain⟨s2,az,aqn,acR,bX,aqo,M2,X,rfl,l0,l8,bA,P,w2,w3,w4,w5,w6,w7,w8⟩:=K;have ap:=V4 X;obtain⟨ac,aR,u⟩:=M2;have YJ:=P.box;rw[iU]at YJ;have aoB:=P.nb;simp only at YJ aoB w3;have apo:b<ac.length:=(U.1 YJ).1;obtain⟨o1,o2,o3⟩:=GY P.stk;have bN:a+5<u.length:=(U.1 P.r5).1;simp only[l0,l8,bA,YJ,RN,F,H,S];refine aiX (ys:=az.map au) P.stk (by simp[yQ,Mem.row,w3]) wE (by have:=D;have:=ap;simp at*;omega) fun k ver st ar' e1 e2 e3 e4 e5=> ?_
      have a9:st=1\/s2++az=[]:=by
       rcases w8 with hp|⟨k8,v8,a0,h8⟩
       ·subst hp
        rcases e1 with⟨_,_,e1⟩|⟨_,_,_,e1⟩
        ·exact(e1 rfl).imp id fun e=>by simpa using e
        ·exact .inr (by simpa using e1)
       ·rcases e1 with⟨e0,⟨v0,e1⟩,_⟩|⟨e1,_⟩
        ·rw[a0]at e0
         cases e0;simp only at h8;rw[e1]at h8;simp at h8;exact .inl h8.2
        ·rw[a0]at e1;cases e1
      obtain⟨g5,g6⟩:=P.Ry (k:=k) (ver:=ver) (st:=st) (xs:=s2++az) (ar':=ar') (by
        rcases e1 with⟨e1,_⟩|⟨_,e1,_⟩
        ·exact P.kst k e1
        ·omega) (fun e=>by
        rcases e1 with⟨e1,_⟩|⟨_,e1,_⟩
        ·exact P.dif k e1 e
        ·rcases P.set with⟨rfl,_⟩|⟨k',_,_,rfl,q,_⟩
         ·cases e
         ·cases e
          have:=(U.1 q).1;simp only at this;omega) (by rw[e2];simp) e3 e4 ⟨e5,a9⟩
      have av:=g5.r0;simp only at av;simp only[YJ,apo,aoB,akg,bL,dX,fB,av,j0,L,V,RN,H,S];have a6:(t.pc.links.map Lk.dv).set c.link.toNat (setCells ((t.pc.links.map Lk.dv).getD c.link.toNat default) 1 [dI c.pr.a,dI c.pr.b])=(t.pc.changed c).links.map Lk.dv:=by
       rw[Pc.changed,cr,getD_map L];rfl
      refine zN (ds:=[dI c.pr.a,dI c.pr.b]) av rfl (by decide) rfl rfl (by rw[getD_map L];exact aL 3) ?_;rw[a6];obtain⟨g7,g8⟩:=g5.aoU (t.pc.changed c) rfl;exact⟨_,_,_,by simp only[doS,hc,<-akn,Z,b8,if_true,<-x,G,X],g7,((w2.trans g6).trans g8)⟩
     |panic d=>
      obtain⟨h1,h2,h3⟩:=K;(try simp only[RN]);refine⟨?_,h2,h3⟩;simp only[doS,<-x,G,h1]
      split<;>rfl
     |ret=>exact K.elim
     |exit id=>exact K.elim
    ·by_cases m:f.b=c.pr.b
     ·have v:(f.b !=c.pr.b)=false:=by simp[m]
      simp only[v,RN,F];refine⟨s1,r,WB,ver,sn,_,y,by rw[oW,if_pos m],rfl,rfl,rfl,rfl,y1,y2,y3,y4,y5,y6,y7,y8⟩
     ·have v:(f.b !=c.pr.b)=true:=by simp[m]
      simp only[v,RN,F,H,N,S];refine TF (SC.mono (adS R y1 c.pr.b (by simp only;omega)) ?_);rintro p M2 (⟨q1,rfl,rfl⟩|⟨q1,rfl,tK,q2,q3,q4,⟨kk,kv,rfl,q8⟩,q5⟩)
      ·simp only[fQ,RN]
       refine⟨by kernel_rfl,xR ⟨rfl,rfl⟩ ?_⟩;refine⟨by rw[oW,if_neg m,if_neg q1],⟨_,rfl,rfl,rfl⟩,y2⟩
      ·obtain⟨ac,aR,u⟩:=M2
       simp only[fQ,RN];refine⟨by kernel_rfl,DZ ?_⟩;have o:u[j.length]?=some (some ⟨1,r.map au,ver,sn⟩):=by
        have:=q5 j.length y5;simp only at this;rw[this];exact y3
       have B:j.length<u.length:=(U.1 o).1;simp only[o,DV.strip,jH,fits_int,forall_eq,y4,V,RN,S];obtain⟨q6,q7⟩:=q2.other (k:=j.length) (A:=⟨1,(r++ [f.b]).map au,ver+1,sn⟩) (by omega) (by rw[q4];exact y5) y7;have bw:r.length<=1073741823:=by have:=D.2;simp at this;omega
       have bt:r.map au++ [dI f.b]=(r++ [f.b]).map au:=by simp[au]
       rw[bt];refine⟨by simp,bw,s1.erase c.pr.b,r++ [f.b], .tsl kk kv 0,ver+1,sn,_,_,by rw[oW,if_neg m,if_pos q1],rfl,rfl,rfl,rfl,q6,(y2.trans q3).trans q7,by simp[B],y4,by rw[q4];exact y5,by simp;exact B,y7, .inr ⟨kk,kv,rfl,?_⟩⟩;simp only;rw[ae (fun e=>y5 (by rw[<-q4,e];rfl))];exact q8
   |panic d=>
    obtain⟨h1,h2,h3⟩:=K;(try simp only[RN]);refine⟨?_,h2,h3⟩;simp only[doS,<-x,h1]
    split<;>rfl
   |ret=>exact K.elim
   |exit id=>exact K.elim
  ·by_cases m:f.a=c.pr.a
   ·have v:(f.a !=c.pr.a)=false:=by simp[m]
    simp only[v,RN,F];refine⟨t.eP,[],cst,0,0,_,[_],by rw[oW,if_pos m],rfl,x3,x5,by simp,by decide,fun e=>E _ e rfl,by simp,fun e=>anj _ e rfl, .inl rfl⟩
   ·have v:(f.a !=c.pr.a)=true:=by simp[m]
    simp only[v,RN,F,H,N,S];refine TF (SC.mono (adS R x3 c.pr.a (by have:=ht.st;omega)) ?_);rintro p M2 (⟨q1,rfl,rfl⟩|⟨q1,rfl,tK,q2,q3,q4,⟨kk,kv,rfl,q8⟩,q5⟩)
    ·simp only[fQ,RN]
     refine⟨by kernel_rfl,xR ⟨rfl,rfl⟩ ?_⟩;refine⟨by rw[oW,if_neg m,if_neg q1],⟨_,rfl,rfl,rfl⟩,x5⟩
    ·obtain⟨ac,aR,u⟩:=M2
     simp only[fQ,RN];refine⟨by kernel_rfl,DZ ?_⟩;have o:u[j.length]?=some (some ⟨1,[],0,0⟩):=by
      have:=q5 j.length (fun e=>E _ e rfl);simp only at this;rw[this];simp
     simp only[o,DV.strip,jH,fits_int,forall_eq,RN,J,S];have B:j.length<u.length:=(U.1 o).1;obtain⟨q6,q7⟩:=q2.other (k:=j.length) (A:=⟨1,[dI f.a],1,0⟩) (by omega) (fun e=>E _ (q4▸e) rfl) (fun e=>anj _ e rfl);refine⟨by simp,t.eP.erase c.pr.a,[f.a], .tsl kk kv 0,1,0,_,[],by rw[oW,if_neg m,if_pos q1];rfl,rfl,q6,(x5.trans q3).trans q7,by simp[B,au],by decide,fun e=>E _ (q4▸e) rfl,by simp;exact B,fun e=>anj _ e rfl, .inr ⟨kk,kv,rfl,by simp only;rw[ae (fun e=>E _ (q4▸rfl) e.symm)];exact q8⟩⟩
def apa (s:Su)(t:Sp):De->Prop
 | .change c=>t.pc.EO c=true
 | .serve h c=>(0<=h/\h.toNat<t.pc.hands.length)/\0<=c/\c<=1000000000
 | .set d=>1<=d/\d.toNat<=s.days.length
 | _=>True
def Yu (e:aga){s:Su}{a b mb:Nat}{cst cse:PV}{t:Sp}{M:Mem}(h:gK s a b mb cst cse t M)(g:Wj s t)(x:De)(hx:apa s t x):
  SC C 113 [.ptr b 0, .d x.dv] M (fun p M'=>∃t' tK Ba,doS s t x=some t'/\gK s a b mb tK Ba t' M'/\FrS a b mb M M') (fun d M'=>doS s t x=none/\IJ d/\FrS a b mb M M'):=by
 cases x with
 |cut n=>
  refine SC.mono (ams h g n) fun p M' l=> ?_
  obtain⟨t',tK,h1,h2,i⟩:=l;exact⟨t',tK,cse,h1,h2,i⟩
 |change c=>exact U0 e h g c hx
 |order n f=>exact agW h n f
 |serve n c=>
  obtain⟨⟨h1,h2⟩,i⟩:=hx;obtain⟨k,rfl⟩:=Int.eq_ofNat_of_zero_le h1;exact agX h g k (by simpa using h2) c i
 |set d=>
  obtain⟨h1,h2⟩:=hx;obtain⟨k,j⟩:∃k:Nat,d=((k+1:Nat):Int):=⟨(d - 1).toNat,by omega⟩
  subst j;exact amu h g k (by omega)
 |strike n=>exact aeL h n
def XU (p:Pc)(c:Chg)(k:p.ok=true)(l:inR c.link 0 (p.links.length - 1)=true)(hc:c.pr.ok=true)(m:c.pr=(p.links.getD c.link.toNat default).pr):Pure C 208 [p.dv,c.dv] (.d (.tup [.slice true [],dI 2])) []:=by
 have g:=Pc.good k;have i:0<=c.link/\c.link<=(p.links.length:Int) - 1:=by simpa[inR]using l
 have h:c.link.toNat<p.links.length:=by have:=g.l1;omega
 have o:=g.l2;have n:=g.h2;have j:=wF p (by omega) (by omega);have f:=XG c.pr;have e1:cM .i64 ((p.links.length:Int) - 1)=(p.links.length:Int) - 1:=aB (by omega);have e:((c.pr.a==(p.links.getD c.link.toNat default).pr.a)&&(c.pr.b==(p.links.getD c.link.toNat default).pr.b))=true:=by rw[adz];simpa using m
 refine ah FW bW ?_;simp only[dA,jI,kP]at j f⊢;simp only[FW,bW,RN,F,H,S];refine ak j ?_;simp only[k,V,e1,RN,F,H,S];refine ak (Gp _ _ _) ?_;simp only[l,RN,F,H,S];refine ak f ?_;simp only[hc,i.1,h,getD_map,qh,V,QL,e,ac1,RN,F,H,S]
def yZ (n:Int):DV:= .tup [.slice true [],dI n]
def adt {w w':World}{O O':Nat->Prop}{v:Value}{n:Int}(h:bU w O v (yZ n)):bU w' O' v (yZ n):=by
 unfold yZ at*;cases h with|tup h=>
 generalize a:Array.toList _=vs at h;cases h with|cons h1 h2=>
 cases h2 with|cons d e=>
 cases e;cases d;refine .tup ?_;rw[a];refine .cons ?_ (.cons (.int _ _) .nil);cases h1 with
 |empty b=>exact .empty b
 |slice f i c j g b hh=>
  simp only[ax]at c;subst c;exact .empty b
variable{ds ds':List DV}
def anO {n:Int}(h:Pure C f ds' (.d (yZ n)) [])(k:dL M args=some ds)(l:ds.map DV.strip=ds')(p:K (.d (yZ n)) M):SC C f args M K KP:=by
 subst l;intro X w E c a o;have i:=nT a args;have hd:=(wu a o k (fun q r=>r)).strip;refine(h (away X (M.frz args) E) w c a.glob (fun b j=> .inl (a.iW b j)) (fun b j=>i.yB j) hd).mono fun e z l=> ?_
 obtain⟨v,x,rfl,g,m,s⟩:=l;obtain⟨t,u,y⟩:=Gn a (G8 a g m rfl) m (by simp);exact⟨_,_,_,(by simpa using p),t,u, .d (adt s.toD)⟩
def aee {base:Nat}{n:Int}(h:Pure C f ds' (.d (yZ n)) [])(a:dL M args=some ds)(c:ds.map DV.strip=ds')(b:K (.d (yZ n)) M):ay C base (.Jy f) args M K KP:=
 ⟨_,_,anO h a c ⟨rfl,rfl⟩,b⟩
variable{s:Su}
def ajR {a mb:Nat}{cst cse:PV}{t:Sp}(h:gK s a b mb cst cse t M)(D:Wj s t)(c:Chg)(B:inR c.link 0 (t.pc.links.length - 1)=true)(hc:c.pr.ok=true)(w:c.pr=(t.pc.links.getD c.link.toNat default).pr):
  SC C 113 [.ptr b 0, .d (De.change c).dv] M (fun p M'=>∃t' tK Ba,doS s t (.change c)=some t'/\gK s a b mb tK Ba t' M'/\FrS a b mb M M') (fun d M'=>doS s t (.change c)=none/\IJ d/\FrS a b mb M M'):=by
 have u:t.pc.EO c=false:=by simp[Pc.EO,w]
 obtain⟨bs,fz,ar⟩:=M;have f:=h.box;rw[iU]at f;have i:=h.r0;have j:=h.r1;simp only at f i j;have o:b<bs.length:=(U.1 f).1;have g:=(De.one (.change c)).1;have q:=(De.one (.change c)).2;have E:(De.change c).dv= .iface T.bV (.agg [dI c.link,dI c.pr.a,dI c.pr.b]):=rfl;rw[E]at g q⊢;have A:bs.length∉fz:=fun e=>am _ (h.fzb _ e)
 have r:∀k,bs.length+k∉fz:=fun k e=>by have:=h.fzb _ e;simp only at this;omega
 have y:¬b=bs.length:=by omega
 have z:∀k,¬b=bs.length+k:=fun k=>by omega
 have m:∀k,b<bs.length+k:=fun k=>by omega
 have v:¬bs.length+1=bs.length:=by omega
 have x:(T.bV==T.fM)=false:=by decide
 have l:=XU t.pc c D.pc B hc w;rw[dA,jI]at l;refine aC aZ gY ?_;simp only[aZ,gY,g,nD,fU x,o,f,dQ,bJ,dB,aw,Y,a8,r,m,v,bI,eU,RN,F,H,S];refine aee (n:=2) l (uf (d:= .agg [sF (t.pc.links.map Lk.dv),sF (t.pc.hands.map au)]) (by simp[datum,bY,dY,Mem.row,i,j])) rfl ?_;have G:((2:Int)==0)=false:=rfl;simp only[yZ,G,fQ,RN];refine⟨by kernel_rfl,xR ⟨rfl,rfl⟩ ⟨by simp[doS,u],⟨_,rfl,rfl,rfl⟩,?_⟩⟩;exact(h.ext (xf:=[bs.length+1,bs.length]) (by simp)).2
def kV (s:Su)(t:Sp):De->Prop
 | .change c=>inR c.link 0 (t.pc.links.length - 1)=true/\c.pr.ok=true
 | .serve h c=>(0<=h/\h.toNat<t.pc.hands.length)/\0<=c/\c<=1000000000
 | .set d=>1<=d/\d.toNat<=s.days.length
 | _=>True
def agV (e:aga){s:Su}{a b mb:Nat}{cst cse:PV}{t:Sp}{M:Mem}(h:gK s a b mb cst cse t M)(g:Wj s t)(x:De)(hx:kV s t x):
  SC C 113 [.ptr b 0, .d x.dv] M (fun p M'=>∃t' tK Ba,doS s t x=some t'/\gK s a b mb tK Ba t' M'/\FrS a b mb M M') (fun d M'=>doS s t x=none/\IJ d/\FrS a b mb M M'):=by
 cases x with
 |change c=>
  obtain⟨h1,h2⟩:=hx
  by_cases i:c.pr=(t.pc.links.getD c.link.toNat default).pr
  ·exact ajR h g c h1 h2 i
  ·refine U0 e h g c ?_
   simp only[Pc.EO,g.pc,h1,h2,decide_eq_false i,b8,cC]
 |cut n=>exact Yu e h g _ trivial
 |order n f=>exact Yu e h g _ trivial
 |serve n c=>exact Yu e h g _ hx
 |set d=>exact Yu e h g _ hx
 |strike n=>exact Yu e h g _ trivial
def Yi {l:List DV}:PV.cells (.d (.aV l))=[.d (.aV l)]:=rfl
def je (s:Su)(ce cs:PV):List PV:=[.d (.aV s.cs), .d (sF (s.days.map zZ)),ce,cs]
def acW (s:Su)(hs:s.Small)(bs:List (Option (List PV)))(fz:List Nat)(ar:List (Option Arr))(KP:DV->Mem->Prop)(a:∀i∈fz,i<bs.length):
  SC C 36 [.d s.dv] ⟨bs,fz,ar⟩ (fun p M'=>(s.ok=false/\p= .d (.tup [.nilPtr,dI 2]))\/(s.ok=true/\p= .tup [.ptr (bs.length+2) 0,pI 0]/\∃x1 x2,M'=⟨bs++ [x1,x2,some (je s (.d (.slice true [])) (.d (.slice true [])))],(bs.length+1)::bs.length::fz,ar⟩)) KP:=by
 have h:=Vj s hs;rw[dF]at h;refine aC mG Gj ?_;simp only[mG,Gj,dF,bJ,dB,Y,RN,F,H,S];refine ak h ?_;cases b:s.ok
 ·(try simp only[RN,F])
  exact .inl trivial
 ·(try simp only[RN,F,H,S])
  have g:=agL s (Su.Qk b);have j:=anZ s b;rw[dF]at g j;refine ak g ?_;simp only[jY,nS,aw,Y,RN,F,H,S];have l:bs.length∉fz:=fun e=>am _ (a _ e)
  have c:∀k,bs.length+k∉fz:=fun k e=>by have:=a _ e;omega
  have f:¬bs.length+1=bs.length:=by omega
  simp only[c,f,RN];refine ak j ?_;simp only[jY,nS,Yi,oh,dS,RN,F,H,S];exact .inr ⟨_,_,by rw[je,nO]⟩
def Zr {ls ms:List Lk}(h:∀i,(ls.getD i default).fr=(ms.getD i default).fr):∀(k a:Nat),vK ls k a=vK ms k a
 |0,_=>rfl
 | _+1,0=>rfl
 |k+1,a+1=>by simp only[vK,h a];rw[Zr h k]
def akf {ls ms:List Lk}(h:ls.map (·.fr)=ms.map (·.fr))(i:Nat):(ls.getD i default).fr=(ms.getD i default).fr:=by
 have h1:=congrArg (fun l=>l[i]?) h;simp only[bi]at h1;simp only[bq];cases h2:ls[i]?<;>cases a:ms[i]?<;>simp_all
def Rw:∀(ls b pre a:List Lk),ls.map (·.fr)=b.map (·.fr)->pre.map (·.fr)=a.map (·.fr)->(∀l∈b,l.pr.ok=true)->jZ pre ls=true->jZ a b=true
 | [],[],_,_,_,_,_,_=>rfl
 | [],_::_,_,_,h,_,_,_=>by simp at h
 | _::_,[],_,_,h,_,_,_=>by simp at h
 |l::ls,j::b,pre,a,h,f,d,g=>by
  simp only[bl,List.cons.injEq]at h;obtain⟨h1,h2⟩:=h;have c:pre.length=a.length:=by simpa using congrArg bv f
  simp only[jZ,aq,nM]at g⊢;obtain⟨⟨⟨k,_⟩,m⟩,n⟩:=g;refine⟨⟨⟨?_,d j bu⟩,?_⟩,Rw ls b _ _ h2 (by simp[f,h1]) (fun x i=>d x (bj _ i)) n⟩
  ·rw[<-h1,<-c];exact k
  ·have e:fP a l.fr.toNat=fP pre l.fr.toNat:=(Zr (akf f) _ _).symm
   rw[<-h1]
   simpa only[e]using m
def rV {p:Pc}{c:Chg}(h:p.ok=true)(hc:c.pr.ok=true):(p.changed c).ok=true:=by
 have e:=Pc.good h;have f:(p.changed c).links.length=p.links.length:=by simp[Pc.changed]
 have a:=h;simp only[Pc.ok,aq]at a⊢;obtain⟨⟨⟨g,j⟩,k⟩,l⟩:=a;rw[f];refine⟨⟨⟨g,j⟩,Rw p.links _ [] [] ?_ rfl (CG e hc).2.2 k⟩,l⟩;apply bX;intro i;simp only[Pc.changed,bi,cq]
 by_cases b:c.link.toNat=i
 ·subst b
  by_cases d:c.link.toNat<p.links.length
  ·simp[d,bq]
  ·simp[ck (Nat.le_of_not_lt d)];omega
 ·simp[b]
structure zS (s:Su) (n:Nat) (t:Sp):Prop where
 ok:s.ok=true
 pc:t.pc.ok=true
 ll:t.pc.links.length=s.pc.links.length
 hh:t.pc.hands=s.pc.hands
 tl:t.tg.length=s.pc.hands.length
 st:t.eP.length<=n
 se:t.sets.length<=n
 co:0<=t.kM/\t.kM<=(n:Int)*1000000000
 sv:∀d∈t.sets,1<=d/\d<=366
def lK (s:Su):s.days.length<=366:=by
 have:=l9 (s.cal.leap s.year);simp only[Su.days,Su.qK,V,bz,Su.dur]
 split at this<;>omega
def zS.sp {n:Nat}{t:Sp}(h:zS s n t)(a:n<=1000):Wj s t:=⟨h.ok,h.pc,by rw[h.tl,h.hh],by have:=h.st;omega,by have:=h.se;omega,by have:=h.co;omega⟩
def kV.same {n:Nat}{t t':Sp}(h:t.pc.links.length=t'.pc.links.length)(hh:t.pc.hands=t'.pc.hands){x:De}(hx:kV s t x):kV s t' x:=by
 cases x<;>simp only[kV,h,hh]at hx⊢<;>exact hx
def V5 {eP c:List Int}{a b:Int}(h:oW eP c a b=some (s1,p1)):s1.length+p1.length=eP.length+c.length:=by
 unfold oW at h
 split at h
 ·cases h;rfl
 ·split at h
  ·rename_i d
   cases h;have:=List.length_erase_of_mem d;have e:=List.length_pos_of_mem d;simp;omega
  ·cases h
def agU {n:Nat}{t t':Sp}(h:zS s n t){x:De}(hx:kV s t x)(hd:doS s t x=some t'):zS s (n+1) t':=by
 have r:=h.co;have k:=h.st;have j:=h.se;cases x with
 |cut m=>
  simp only[doS]at hd
  split at hd
  ·cases hd;exact⟨h.ok,h.pc,h.ll,h.hh,h.tl,by simp;omega,by simp only;omega,by simp only;omega,h.sv⟩
  ·cases hd
 |change c=>
  obtain⟨h1,h2⟩:=hx;simp only[doS]at hd
  split at hd
  ·generalize a:oW t.eP [] _ _=g at hd
   cases g with
   |none=>cases hd
   |some g=>
    obtain⟨s1,p1⟩:=g;simp only at hd;generalize b:oW s1 p1 _ _=i at hd;cases i with
    |none=>cases hd
    |some i=>
     obtain⟨p,l⟩:=i;simp only at hd;cases hd;have e1:=V5 a;have e2:=V5 b;have q:p.length+l.length=t.eP.length:=by simpa[e1]using e2
     exact⟨h.ok,rV h.pc h2,by simp[Pc.changed,h.ll],h.hh,h.tl,by simp;omega,by simp only;omega,by simp only;omega,h.sv⟩
  ·cases hd
 |order m f=>
  simp only[doS]at hd
  split at hd
  ·cases hd
  ·cases hd;exact⟨h.ok,h.pc,h.ll,h.hh,h.tl,by simp only;omega,by simp only;omega,by simp only;omega,h.sv⟩
 |serve m c=>
  obtain⟨_,h2⟩:=hx;simp only[doS]at hd;generalize gq t.op m=o at hd;cases o with
  |none=>cases hd
  |some f=>
   simp only at hd
   split at hd
   ·cases hd;exact⟨h.ok,h.pc,h.ll,h.hh,by simp[h.tl],by simp only;omega,by simp only;omega,by simp only;omega,h.sv⟩
   ·cases hd
 |set d=>
  simp only[doS]at hd
  split at hd
  ·cases hd;exact⟨h.ok,h.pc,h.ll,h.hh,h.tl,by simp only;omega,by simp;omega,by simp only;omega,fun x hm=>by
    rcases av.1 hm with hm|hm
    ·exact h.sv x hm
    ·simp only[ap]at hm
     obtain⟨h1,h2⟩:=hx;have:=lK s;rw[hm];omega⟩
  ·cases hd
 |strike e=>
  simp only[doS]at hd;cases hd;exact⟨h.ok,h.pc,h.ll,h.hh,h.tl,by omega,by omega,by omega,h.sv⟩
structure Dk where
 su:Su
 es:List En
 st:List Bool
 deriving DecidableEq,Inhabited
def kS:List En->List Bool->Nat->List (Nat×De)
 |x::xs,b::bs,i=>if x.kind≠6/\b=false then(i,x.deed)::kS xs bs (i+1)else kS xs bs (i+1)
 | _,_,_=>[]
def Dk.stands (d:Dk):List (Nat×De):=kS d.es d.st 0
def Su.sp0 (s:Su):Sp:=⟨s.pc,s.tg,[],[],0,[]⟩
def qR (s:Su):List De->Sp->Option Sp
 | [],t=>some t
 |x::l,t=>(doS s t x).bind (qR s l)
def Dk.without (d:Dk)(w:Int):List De:=(d.stands.filter fun p=>decide ((p.1:Int)≠w)).map (·.2)
def Dk.state (d:Dk)(w:Int):Option Sp:=qR d.su (d.without w) d.su.sp0
def En.formed (x:En):Bool:=inR x.kind 1 6&&decide (x.ns.length=gI x.kind)&&x.ns.all fun n=>inR n 0 9999
def Dk.gX (d:Dk):De->Bool
 | .cut n=>aI n
 | .change c=>inR c.link 0 (d.su.pc.links.length - 1)&&c.pr.ok
 | .order h f=>inR h 0 (d.su.pc.hands.length - 1)&&f.ok
 | .serve h _=>inR h 0 (d.su.pc.hands.length - 1)
 | .set n=>inR n 1 d.su.days.length
 | .strike e=>inR e 0 (d.es.length - 1)&&decide ((d.es.getD e.toNat default).kind≠6)
structure Dk.Ok (d:Dk):Prop where
 su:d.su.ok=true
 len:d.es.length=d.st.length
 few:d.es.length<=24
 formed:∀x∈d.es,x.formed=true
 fine:∀x∈d.es,kV d.su d.su.sp0 x.deed
variable{d:Dk}
def WR {x:En}(hx:x.formed=true)(hf:d.gX x.deed=true):kV d.su d.su.sp0 x.deed:=by
 simp only[En.formed,aq,decide_eq_true_eq,List.all_eq_true]at hx;obtain⟨⟨h1,h2⟩,g⟩:=hx;have k:∀i,i<x.ns.length->0<=x.n i/\x.n i<=9999:=fun i j=>by
  have:=g _ (getD_mem j)
  simpa[inR,En.n]using this
 unfold En.deed at hf⊢
 split
 ·trivial
 ·split
  ·rename_i a b
   rw[if_neg a,if_pos b]at hf
   simpa[Dk.gX,kV,Su.sp0]using hf
  ·split
   ·trivial
   ·split
    ·rename_i a b f c
     rw[if_neg a,if_neg b,if_neg f,if_pos c]at hf;have e:x.ns.length=2:=by rw[h2,gI,c];rfl
     have l:=k 1 (by omega);simp only[Dk.gX,inR,aq,decide_eq_true_eq]at hf;refine⟨⟨by omega,by simp only[Su.sp0];omega⟩,by omega,by omega⟩
    ·split
     ·rename_i a b f c h
      rw[if_neg a,if_neg b,if_neg f,if_neg c,if_pos h]at hf;simp only[Dk.gX,inR,aq,decide_eq_true_eq]at hf;exact⟨by omega,by omega⟩
     ·trivial
def xJ:∀(es:List En) (st:List Bool) (i:Nat) (p:Nat×De),p∈kS es st i->∃x∈es,p.2=x.deed
 | [],_,_,_,h=>by simp[kS]at h
 | _::_,[],_,_,h=>by simp[kS]at h
 |x::xs,b::bs,i,p,h=>by
  simp only[kS]at h
  split at h
  ·rcases aR.1 h with h|h
   ·exact⟨x,bu,by rw[h]⟩
   ·obtain⟨y,a,e⟩:=xJ xs bs _ p h
    exact⟨y,bj _ a,e⟩
  ·obtain⟨y,a,e⟩:=xJ xs bs _ p h
   exact⟨y,bj _ a,e⟩
def AA:∀(es:List En) (st:List Bool) (i:Nat),(kS es st i).length<=es.length
 | [],_,_=>by simp[kS]
 | _::_,[],_=>by simp[kS]
 |x::xs,b::bs,i=>by
  have:=AA xs bs (i+1);simp only[kS]
  split<;>simp<;>omega
def acH (h:s.ok=true):zS s 0 s.sp0:=by
 obtain⟨h1,h2,_⟩:=Su.facts h;exact⟨h,h1,rfl,rfl,h2,by simp[Su.sp0],by simp[Su.sp0],by simp[Su.sp0],by simp[Su.sp0]⟩
def QJ {s:Su}:∀(l:List De) (n:Nat) (t t':Sp),zS s n t->(∀x∈l,kV s s.sp0 x)->qR s l t=some t'->zS s (n+l.length) t'
 | [],n,t,t',h,_,hd=>by cases hd;exact h
 |x::l,n,t,t',h,a,hd=>by
  simp only[qR]at hd;cases h1:doS s t x with
  |none=>rw[h1]at hd;cases hd
  |some t1=>
   rw[h1]at hd;have:=QJ l (n+1) t1 t' (agU h (kV.same (n:=n) h.ll.symm h.hh.symm (a x bu)) h1) (fun y b=>a y (bj _ b)) hd
   simpa[a8,Nat.add_comm 1]using this
def Dk.Ok.XP (h:d.Ok)(w:Int):∀x∈d.without w,kV d.su d.su.sp0 x:=by
 intro x a;simp only[Dk.without,bA,cA]at a;obtain⟨p,⟨b,_⟩,rfl⟩:=a;obtain⟨y,c,e⟩:=xJ _ _ _ _ b;rw[e];exact h.fine y c
def Dk.aaz (d:Dk)(w:Int):(d.without w).length<=d.es.length:=by
 simp only[Dk.without,V];exact ao (bE _ _) (AA _ _ _)
def Dk.Ok.TQ (h:d.Ok){w:Int}{t:Sp}(a:d.state w=some t):zS d.su 24 t:=by
 have h1:=QJ _ 0 _ t (acH h.su) (h.XP w) a;have h2:=d.aaz w;have b:=h.few;have c:=h1.co;exact⟨h1.ok,h1.pc,h1.ll,h1.hh,h1.tl,by have:=h1.st;omega,by have:=h1.se;omega,by omega,h1.sv⟩
def slN (sz:Nat)(W:Bool)(c:PV)(xs:List DV)(ar:List (Option Arr)):Prop:=
 (c= .d (.slice true [])/\xs=[])\/∃k ver st,c= .tsl k ver 0/\ar[k]?=some (some ⟨sz,xs,ver,st⟩)/\st≠2/\(W=true->st=1\/xs=[])
variable{sz:Nat}
def XF {K:Int->Prop}(h:slN sz W c xs ar):sH c ⟨bs,fz,ar⟩ K=K xs.length:=by
 rcases h with⟨rfl,rfl⟩|⟨k,ver,st,rfl,a,_⟩
 ·rfl
 ·simp[sH,Mem.row,a]
def adO (h:slN sz W c xs ar):PV.one c=true/\PV.cells c=[c]/\c.uz=false:=by
 rcases h with⟨rfl,rfl⟩|⟨k,ver,st,rfl,_⟩<;>exact⟨rfl,rfl,rfl⟩
def zK {ar':List (Option Arr)}(h:slN sz W c xs ar)(hk:∀k A,kOf c=some k->ar[k]?=some (some A)->ar'[k]?=some (some A)):slN sz W c xs ar':=by
 rcases h with⟨rfl,rfl⟩|⟨k,ver,st,rfl,h1,h2⟩
 ·exact .inl ⟨rfl,rfl⟩
 ·exact .inr ⟨k,ver,st,rfl,hk _ _ rfl h1,h2⟩
def G9 (h:slN sz W c xs ar)(hx:xs≠[]):∃k ver st,c= .tsl k ver 0/\ar[k]?=some (some ⟨sz,xs,ver,st⟩)/\st≠2/\(W=true->st=1):=by
 rcases h with⟨_,rfl⟩|⟨k,ver,st,rfl,h,h2,a⟩
 ·exact absurd rfl hx
 ·exact⟨k,ver,st,rfl,h,h2,fun b=>(a b).resolve_right hx⟩
structure DkRd (D:Dk) (d:Nat) (ce cs:PV) (M:Mem):Prop where
 box:M.boxes[d]?=some (some (je D.su ce cs))
 ent:slN 2 false ce (D.es.map En.dv) M.aF
 str:slN 1 true cs (D.st.map .bool) M.aF
structure nZ (D:Dk) (d:Nat) (ce cs:PV) (M:Mem):Prop extends DkRd D d ce cs M where
 dif:∀k,kOf ce=some k->kOf cs≠some k
 nb:d∉M.fz
 fzb:FzB M
def pR (p:Nat×De):List DV:=[dI p.1,p.2.dv]
def LZ (ce cs:PV)(k:Nat):Prop:=kOf ce=some k\/kOf cs=some k
variable{D:Dk}{M':Mem}
def DkRd.kept {d n:Nat}{ce cs:PV}(h:DkRd D d ce cs M)(hk:Kept n (·=d) (LZ ce cs) M M'):DkRd D d ce cs M':=
 ⟨(hk.box d (.inr rfl) (U.1 h.box).1).trans h.box,zK h.ent fun k A h1 h2=>(hk.row k (.inl h1)).trans h2,zK h.str fun k A h1 h2=>(hk.row k (.inr h1)).trans h2⟩
def DkRd.ext {d:Nat}{ce cs:PV}{xs:List (Option (List PV))}{a:List Nat}(h:DkRd D d ce cs ⟨bs,fz,ar⟩):DkRd D d ce cs ⟨bs++xs,a,ar⟩:=
 ⟨by have:=h.box;simp only at this⊢;rw[ab (U.1 this).1];exact this,h.ent,h.str⟩
def DkRd.moved {d n:Nat}{ce cs:PV}(h:DkRd D d ce cs M)(hd:d<n)(a:Moved n (fun _=>False) M M'):DkRd D d ce cs M':=
 ⟨(a.box d hd id).trans h.box,by rw[a.aF];exact h.ent,by rw[a.aF];exact h.str⟩
def dG (D:Dk)(i:Nat):List (List DV):=(kS (D.es.drop i) (D.st.drop i) i).map pR
def Gs (hl:D.es.length=D.st.length){i:Nat}(hi:i<D.es.length):
  dG D i=if(D.es.getD i default).kind≠6/\D.st.getD i default=false then pR (i,(D.es.getD i default).deed)::dG D (i+1)else dG D (i+1):=by
 rw[dG,drop_cons hi,drop_cons (by omega:i<D.st.length),kS]
 split<;>rfl
def kN {b:Bool}:DV.cells (.bool b)=[.bool b]:=rfl
def aaj {d:Nat}{ce cs:PV}(hl:D.es.length=D.st.length)(ap:D.es.length<=1000)(hf:∀x∈D.es,gI x.kind<=x.ns.length):
  UF C 163 [.ptr d 0] [] (dG D 0) (·=d) no (LZ ce cs) (DkRd D d ce cs):=by
 rintro⟨bs,fz,ar⟩ b n R stop K KP aq av hn O E ab mD h0 G M;simp only at hn O;have l:=E.box;rw[je]at l;simp only at l;have az:d<bs.length:=(U.1 l).1;refine aC jg gY ?_;simp only[jg,gY,l,RN,F,H,S];rw[XF E.ent];simp only[V];refine BX (fun m s=>∃(i:Nat) (g:List (List DV)) (L:Mem),m=D.es.length - i/\i<=D.es.length/\s=⟨[(0, .ptr d 0),(1, .qg b),(9,ce),(10,pI D.es.length),(11,pI i)],L⟩/\n<=L.boxes.length/\FzB L/\DkRd D d ce cs L/\dG D 0=g++dG D i/\R g L)
  D.es.length ⟨0,[],_,rfl,bk _,rfl,hn,O,E,rfl,h0⟩ ?_
 rintro m s ⟨i,g,⟨c,r,y⟩,rfl,hi,rfl,t,v,o,f,hR⟩;simp only at t;have yV:=o.box;rw[je]at yV;simp only at yV;have aoo:d<c.length:=(U.1 yV).1;have ac:c.length∉r:=fun e=>am _ (v _ e)
 by_cases h:i<D.es.length
 case neg=>
  have X:i=D.es.length:=by omega
  subst X;simp only[a7,RN,F];refine M _ _ t ?_;rw[f];have:dG D D.es.length=[]:=by simp[dG,kS]
  rw[this,br];exact hR
 obtain⟨k,ver,st,rfl,hk,_⟩:=G9 o.ent (by intro e;simp at e;rw[e]at h;simp at h);obtain⟨k2,acR,aD,rfl,A,_⟩:=G9 o.str (by intro e;simp at e;rw[e]at hl;simp at hl;rw[hl]at h;simp at h);simp only at hk A;have P:(i:Int)<(D.es.length:Int):=by omega
 have w:i<D.st.length:=by omega
 have j0:(0:Int)<=(i:Int):=by omega
 have w1:cM .i64 ((i:Int)+1)=((i+1:Nat):Int):=by rw[aB (by omega)];omega
 have a:=Gs hl h;obtain⟨x,hx⟩:∃x,x=D.es.getD i default:=⟨_,rfl⟩
 have ao:x∈D.es:=by rw[hx];exact getD_mem h
 have YK:=QI x (hf x ao);rw[<-hx]at a;rw[dO]at YK;have z:R g ⟨c++ [some [pI x.kind, .d (sF (x.ns.map au))]],c.length::r,y⟩:=
  ab g _ _ (Moved.ext (xf:=[c.length]) (xb:=[_]) t (by simpa using t)) hR
 have q:DkRd D d (.tsl k ver 0) (.tsl k2 acR 0) ⟨c++ [some [pI x.kind, .d (sF (x.ns.map au))]],c.length::r,y⟩:=o.ext;have abz:FzB ⟨c++ [some [pI x.kind, .d (sF (x.ns.map au))]],c.length::r,y⟩:=by
  intro j hj;simp only[aR]at hj;simp only[Y,an,ax]
  rcases hj with rfl|hj
  ·omega
  ·have:=v j hj;simp only at this;omega
 simp only[P,h,j0,hk,ai,V,getD_map,<-hx,dO,ac,bJ,dB,Y,RN,F,H,S]
 by_cases T:x.kind=6
 ·have Q:(x.kind !=6)=false:=by simp[T]
  rw[if_neg (by simp[T])]at a;simp only[Q,w1,RN,F];refine⟨D.es.length - (i+1),_,by omega, .inl rfl,i+1,g,_,rfl,by omega,rfl,by simp;omega,abz,q,by rw[f,a],z⟩
 have Q:(x.kind !=6)=true:=by simp[T]
 cases u:D.st.getD i default
 case true=>
  rw[if_neg (fun e=>by rw[u]at e;cases e.2)]at a;simp only[Q,yV,aoo,dQ,A,w,j0,ai,V,getD_map,kN,u,w1,RN,F,H,S];refine⟨D.es.length - (i+1),_,by omega, .inl rfl,i+1,g,_,rfl,by omega,rfl,by simp;omega,abz,q,by rw[f,a],z⟩
 rw[if_pos ⟨T,u⟩]at a;simp only[Q,yV,aoo,dQ,A,w,j0,ai,V,getD_map,kN,u,RN,F,H,S];refine ak YK ?_;(try simp only[RN,F,H,I,J,N,S]);refine Bf ?_;refine SY.mono (mD g (pR (i,x.deed)) (dG D (i+1)) _ (by rw[f,a]) (by simp;omega) z) ?_;rintro p M3 ⟨B,hp⟩
 rcases hp with⟨rfl,W⟩|⟨rfl,ae⟩
 ·simp only[w1,RN,F]
  have Z:=B.len;simp only[Y,an,ax]at Z;refine⟨D.es.length - (i+1),_,by omega, .inl rfl,i+1,_,M3,rfl,by omega,rfl,by omega,B.fzb abz,q.kept B,by rw[f,a,aw];rfl,W⟩
 ·(try simp only[RN,F])
  exact G _ _ ae
end Go.Tel
namespace Go.Proofs
open Go.Shelf Go.RowKit Go.Lib Go.Sort
section
variable {P:Program}{ρ:Ren}
set_option maxRecDepth 1000000 in
def amq (L:Lays2.n23 P ρ)(blk off cap i:Nat)(d:Array Int)(w:World)(n:Holds (Value.int .i64) w blk off d)(B:d.size<=cap)(hi:i<d.size):
  Calls P (ρ.f 23) #[.slice (some ⟨blk,off,none⟩) d.size cap, .int .i64 i, .int .i64 (i+1:Nat)] w fun e w'=>
   e= .returned (.slice (some ⟨blk,off,none⟩) (d.size - 1) cap)/\∃q,w'=putRow (Value.int .i64) (Sort.ahead w q) blk off (d.toList.take i++d.toList.drop (i+1)++ [0]).toArray:=by
 have mixed:=L.mixed;have t0:=L.t0;have Y:=L.a0;have z0:=L.z0;have v0:=L.v0;have t3:=L.t3;have Z:=L.a3;have z3:=L.z3;have V:=L.v3;have t4:=L.t4;have a4:=L.a4;have z4:=L.z4;have v4:=L.v4;have r:=L.t22;have D:=L.a22;have W:=L.z22;have T:=L.v22;obtain⟨Q,s,N,y,O⟩:=info_parts L.i3;obtain⟨tl,c⟩:∃tl,tl=(d.toList.drop (i+1)).map (Value.int .i64):=⟨_,rfl⟩
 have b:tl.length=d.size - (i+1):=by rw[c];simp
 have C:∀t,t<d.size - (i+1)->tl[t]?=some (Value.int .i64 d[i+1+t]!):=by
  intro t o;rw[c,bi,bS,bB,getElem!_pos d (i+1+t) (by omega),Array.getElem?_eq_getElem (by omega)]
  rfl
 have z:∃A:Addr,(if cap=i+1 then some (⟨blk,off,none⟩:Addr)else some ⟨blk,off+(i+1),none⟩)=some A/\Hid (∀t u,tl[t]?=some u->w.drew.cell? (A.add t)=some u):=by
  by_cases h:cap=i+1
  ·refine⟨⟨blk,off,none⟩,by simp[h],fun t u k=> ?_⟩
   have E:tl.length=0:=by rw[b];omega
   rw[List.length_eq_zero_iff.1 E]at k;simp at k
  ·refine⟨⟨blk,off+(i+1),none⟩,by simp[h],fun t u k=> ?_⟩
   have o:t<d.size - (i+1):=by
    have:=(U.1 k).1
    rwa [b]at this
   rw[C t o]at k;rw[Addr.add_lit,show off+(i+1)+t=off+(i+1+t) by omega];exact(n (i+1+t) (by omega)).1.trans k
 obtain⟨A,z,p⟩:=z;have s1:Hid (tl.length=(d.size - (i+1))*1):=by rw[b7];exact b
 have R:Hid (∀u∈tl,u.oneCell'=true):=by
  intro u k;rw[c]at k;obtain⟨x,_,rfl⟩:=bA.1 k
  rfl
 have S:Hid (∀t,t<tl.length->(w.drew.cell? ⟨blk,off+i*1+t,none⟩).isSome=true/\w.drew.frozen? ⟨blk,off+i*1+t,none⟩=false):=by
  intro t o;rw[b]at o;rw[b7,a8];exact⟨by show(w.cell? _).isSome=true;rw[(n (i+t) (by omega)).1];rfl,(n (i+t) (by omega)).2⟩
 obtain⟨g,m⟩:∃g,g=w.drew.setCells blk (off+i*1) tl:=⟨_,rfl⟩
 have a:g=putRow (Value.int .i64) (Sort.ahead w 1) blk off (lay d i (d.toList.drop (i+1))):=by
  rw[m,c,b7,<-putRow_setCells (Value.int .i64) (Sort.ahead w 1) blk off _ d i (by simp;omega),putRow_self (Value.int .i64) (Sort.ahead w 1) blk off d (holds_ahead (Value.int .i64) w 1 blk off d n)]
  rfl
 have l:Holds (Value.int .i64) g blk off (lay d i (d.toList.drop (i+1))):=by rw[a];exact holds_putRow (Value.int .i64) _ blk off d _ (holds_ahead (Value.int .i64) w 1 blk off d n) (lay_size _ _ _)
 have G:∀ty,(Builtin.clear_ #[ρ.t 22] ty #[.slice (some ⟨blk,off+(i+(d.size - (i+1))),none⟩) (d.size - (i+(d.size - (i+1)))) (cap - (i+(d.size - (i+1))))]).run P g= .ok (.tuple #[]) (g.setCells blk (off+(i+(d.size - (i+1)))) (cE (d.size - (i+(d.size - (i+1)))) (Value.int .i64 0))):=
  fun ty=>Lib.run_clear_slice g _ _ ty _ r V rfl rfl blk (off+(i+(d.size - (i+1)))) _ _ (by omega) (fun t o=>by rw[show off+(i+(d.size - (i+1)))+t=off+(i+(d.size - (i+1))+t) by omega,(l _ (by rw[lay_size];omega)).1];rfl) (fun t o=>by rw[show off+(i+(d.size - (i+1)))+t=off+(i+(d.size - (i+1))+t) by omega];exact(l _ (by rw[lay_size];omega)).2)
 have X:Aside (g=putRow (Value.int .i64) (Sort.ahead w 1) blk off (lay d i (d.toList.drop (i+1)))):=a;have F:Hid (g=w.drew.setCells blk (off+i*1) tl):=m;have H:i<=cap:=by omega
 have J:i+1<=cap:=by omega
 have v:i<=i+1:=by omega
 have I:i+1<=d.size:=by omega
 generalize K:i+1=j at*;have M:i<j:=by omega
 clear m a l n C c b
 go_enter L.f23,Body2.n23_ntmps ρ
 go_wp2_with fail
 go_region_law_o (refine step_append_room rfl (.tmp 22) (.tmp 25) (ρ.t 22) rfl (ρ.t 3) Q 1 r s y blk off i cap (by simp[Act.eval,Act.put]) A (d.size - j) (cap - j) tl (by simp[Act.eval,Act.put]) s1.out p.out R.out (by omega) S.out ?_;rw[<-F.out])
 go_wp2
 go_ret
 refine⟨by rw[show d.size - 1=i+(d.size - j) by omega];rfl,1,?_⟩;have hd:=delete_arr d i j 0 v I;rw[show j - i=1 by omega]at hd;rw[show([0]:List Int)=cE 1 0 from rfl,<-hd,<-putRow_setCells (Value.int .i64) _ blk off _ _ (i+(d.size - j)) (by rw[lay_size];simp;omega),<-X.out,List.map_replicate,show d.size - (i+(d.size - j))=1 by omega]
end
end Go.Proofs
namespace Go.Am
open Go.Sort Go.RowKit
section
variable {C:Ctx}
def amr {ρ:Go.Shelf.Ren}(Ly:Go.Proofs.Lays2.n23 C.P ρ){k ver i:Nat}{zs:List Int}{bs:List (Option (List PV))}{fz:List Nat}{ar:List (Option Arr)}{K:PV->Mem->Prop}{KP:DV->Mem->Prop}
  (h:ar[k]?=some (some ⟨1,zs.map (DV.int .i64),ver,1⟩))(hi:i<zs.length)
  (hK:K (.tsl k (ver+1) 0) ⟨bs,fz,ar.set k (some ⟨1,(zs.take i++zs.drop (i+1)).map (DV.int .i64),ver+1,1⟩)⟩):SC C (ρ.f 23) [.tsl k ver 0, .d (.int .i64 i), .d (.int .i64 (i+1:Nat))] ⟨bs,fz,ar⟩ K KP:=by
 intro X w E ai M I;cases I with|cons hr H=>
 cases H with|cons O H=>
 cases H with|cons B H=>
 cases H;cases O with|d O=>
 cases O;cases B with|d B=>
 cases B;cases hr with|tsl m hh=>
 obtain⟨_,u⟩:=hh _ h;obtain⟨an,s,N⟩:=u rfl;obtain⟨s1,s2,s3,s4⟩:=M.arr k _ h;obtain⟨q,J⟩:=s3 rfl;rw[J]at s;cases s;obtain⟨a,o,e⟩:=q;obtain⟨hX,v,T,z,g3,g4,L⟩:=s4 a o e J;obtain⟨_,N⟩:=N
 rcases N with⟨ac,he,p,r⟩|⟨h0,_⟩
 case inr=>simp at h0;rw[h0]at hi;simp at hi
 cases he;simp only[V,b7,cv,cI,Nat.zero_add]at g3 L p r⊢;rw[ET]at L;have g:=DL L;have hH:Holds (Value.int .i64) w a o zs.toArray:=by
  intro j D;have t:j<zs.length:=by simpa using D
  have u:v[o+j]?=some (.int .i64 zs[j]):=by
   have:=congrArg (fun l=>l[j]?) g;simp only[cn,t,if_true,bS,bB,bi,ca t,bh]at this;exact this
  refine⟨?_,?_⟩
  ·rw[cell_of_row w a (o+j) v T.ty T.fr z,u]
   simp[t]
  ·have m:o+j<v.size:=(Array.getElem?_eq_some_iff.1 u).1
   obtain⟨ty,⟨f1,f2⟩,Y⟩:=T;simp only at Y z;simp[World.frozen?,z];intro hh;omega
 have ae:a<w.heap.size:=dh z;have c:=Go.Proofs.amq Ly a o _ i zs.toArray w hH (by simpa using p) (by simpa using hi);simp only[List.size_toArray]at c;refine c.mono ?_;rintro en w' ⟨rfl,n,rfl⟩;generalize Z:zs.take i++zs.drop (i+1)=ss at*;have am:ss.length+1=zs.length:=by rw[<-Z];simp;omega
 have F:((putCells (Value.int .i64) o (ss++ [0]).toArray v).toList.drop o).take ss.length=ss.map (Value.int .i64):=by
  apply bX;intro j;rw[cn,bS,bB,bi]
  by_cases D:j<ss.length
  ·rw[if_pos D]
   have u:o+j<v.size:=by omega
   have R:j<ss.length+1:=by omega
   simp[putCells,u,D,R]
  ·rw[if_neg D,ck (by omega)];rfl
 have G:=zJ (A':=⟨1,ss.map (DV.int .i64),ver+1,1⟩) (loc:=some (a,o,e)) (w':=putRow (Value.int .i64) (Go.Sort.ahead w n) a o (ss++ [0]).toArray) M h (by simp) rfl rfl rfl (by simp[putRow,mapBlock,Go.Sort.ahead])
  (fun b ob B W=>by
   have S:b≠a:=by rintro rfl;exact B o e J
   simp[putRow,mapBlock,Go.Sort.ahead,cj,Ne.symm S,W])
  (by simp) (Nat.zero_lt_one) (by intro x hx;obtain⟨y,_,rfl⟩:=bA.1 hx;rfl) (by simp)
  (fun ab o' e' Q=>by
   cases Q;refine⟨.inr ⟨o,e,J⟩,putCells (Value.int .i64) o (ss++ [0]).toArray v,TM.cast (by simp[putCells]) T,?_,by simp;omega,by simp[putCells];omega,?_⟩
   ·simp[putRow,mapBlock,Go.Sort.ahead,cj,z,onCells,TM.cast]
   ·simp only[V,b7]
    rw[ET,F];exact SV ss)
 refine⟨_,_,_,hK,G.1,G.2,?_⟩;refine .tsl (by simpa using(U.1 h).1) fun A I=> ?_
 have m:k<ar.length:=(U.1 h).1;simp only[bw m,Option.some.injEq]at I;subst I;refine⟨aL _,fun _=>⟨some (a,o,e),?_,?_⟩⟩
 ·have:=M.bP
  simp only at this;simp[this▸m]
 ·have e1:zs.length - 1=(ss.map (DV.int .i64)).length - 0:=by simp;omega
  refine⟨bk _, .inl ⟨_,by rw[e1,Nat.zero_mul,cI],?_,by simpa using r⟩⟩
  show(ss.map (DV.int .i64)).length - 0<=_
  rw[<-e1];omega
end
end Go.Am
namespace Go.Proofs
open Go.Shelf
def Tryz.laysSplit_ren:Go.Shelf.Ren:=⟨fun|146=>219|221=>279|268=>303|138=>304|143=>305|195=>330|197=>331|218=>332|219=>333|260=>348|217=>272|225=>349|224=>350|267=>351|266=>299|314=>356|n=>n,fun|9=>9|31=>181|3=>3|4=>4|0=>0|105=>381|21=>21|5=>5|46=>343|119=>395|139=>398|138=>397|146=>399|51=>370|n=>n,fun|1=>0|3=>2|4=>3|n=>n⟩
def Tryz.laysSplit:Go.Proofs.Lays.n146 Tryz.prog Tryz.laysSplit_ren:={
 mixed:=by kernel_rfl
 f138:=Tryz.func304.trans (congrArg some (by kernel_rfl))
 f143:=Tryz.func305.trans (congrArg some (by kernel_rfl))
 f146:=Tryz.func219.trans (congrArg some (by kernel_rfl))
 f195:=Tryz.func330.trans (congrArg some (by kernel_rfl))
 f197:=Tryz.func331.trans (congrArg some (by kernel_rfl))
 f217:=Tryz.func272.trans (congrArg some (by kernel_rfl))
 f218:=Tryz.func332.trans (congrArg some (by kernel_rfl))
 f219:=Tryz.func333.trans (congrArg some (by kernel_rfl))
 f221:=Tryz.func279.trans (congrArg some (by kernel_rfl))
 f224:=Tryz.func350.trans (congrArg some (by kernel_rfl))
 f225:=Tryz.func349.trans (congrArg some (by kernel_rfl))
 f260:=Tryz.func348.trans (congrArg some (by kernel_rfl))
 f266:=Tryz.func299.trans (congrArg some (by kernel_rfl))
 f267:=Tryz.func351.trans (congrArg some (by kernel_rfl))
 f268:=Tryz.func303.trans (congrArg some (by kernel_rfl))
 f314:=Tryz.func356.trans (congrArg some (by kernel_rfl))
 t0:=Tryz.underlying0
 a0:=Tryz.isAgg0
 z0:=Tryz.sizeOf0
 v0:=Tryz.zeroValue0
 t3:=Tryz.underlying3
 a3:=Tryz.isAgg3
 z3:=Tryz.sizeOf3
 v3:=Tryz.zeroValue3
 t4:=Tryz.underlying4
 a4:=Tryz.isAgg4
 z4:=Tryz.sizeOf4
 v4:=Tryz.zeroValue4
 t5:=Tryz.underlying5
 a5:=Tryz.isAgg5
 z5:=Tryz.sizeOf5
 v5:=Tryz.zeroValue5
 t9:=Tryz.underlying9
 a9:=Tryz.isAgg9
 z9:=Tryz.sizeOf9
 v9:=Tryz.zeroValue9
 t21:=Tryz.underlying21
 a21:=Tryz.isAgg21
 z21:=Tryz.sizeOf21
 v21:=Tryz.zeroValue21
 t31:=Tryz.underlying181
 a31:=Tryz.isAgg181
 z31:=Tryz.sizeOf181
 v31:=Tryz.zeroValue181
 t46:=Tryz.underlying343
 a46:=Tryz.isAgg343
 z46:=Tryz.sizeOf343
 v46:=Tryz.zeroValue343
 t51:=Tryz.underlying370
 a51:=Tryz.isAgg370
 z51:=Tryz.sizeOf370
 v51:=Tryz.zeroValue370
 t105:=Tryz.underlying381
 a105:=Tryz.isAgg381
 z105:=Tryz.sizeOf381
 v105:=Tryz.zeroValue381
 t119:=Tryz.underlying395
 a119:=Tryz.isAgg395
 z119:=Tryz.sizeOf395
 t138:=Tryz.underlying397
 a138:=Tryz.isAgg397
 z138:=Tryz.sizeOf397
 v138:=Tryz.zeroValue397
 t139:=Tryz.underlying398
 a139:=Tryz.isAgg398
 z139:=Tryz.sizeOf398
 v139:=Tryz.zeroValue398
 t146:=Tryz.underlying399
 a146:=Tryz.isAgg399
 z146:=Tryz.sizeOf399
 v146:=Tryz.zeroValue399
 g1:=by kernel_rfl
 g3:=by kernel_rfl
 g4:=by kernel_rfl}
def Tryz.laysItoa_ren:Go.Shelf.Ren:=⟨fun|171=>213|243=>273|246=>300|283=>324|284=>325|285=>326|286=>327|129=>322|317=>344|318=>345|319=>346|320=>347|337=>354|338=>355|n=>n,fun|3=>3|9=>9|2=>2|4=>4|171=>373|0=>0|53=>372|37=>324|5=>5|173=>375|212=>390|51=>370|20=>20|213=>391|46=>343|232=>401|233=>402|n=>n,fun|17=>1|18=>4|19=>5|n=>n⟩
def Tryz.laysItoa:Go.Proofs.LaysM.n171 Tryz.prog Tryz.laysItoa_ren:={
 mixed:=by kernel_rfl
 f129:=Tryz.func322.trans (congrArg some (by kernel_rfl))
 f171:=Tryz.func213.trans (congrArg some (by kernel_rfl))
 f243:=Tryz.func273.trans (congrArg some (by kernel_rfl))
 f246:=Tryz.func300.trans (congrArg some (by kernel_rfl))
 f283:=Tryz.func324.trans (congrArg some (by kernel_rfl))
 f284:=Tryz.func325.trans (congrArg some (by kernel_rfl))
 f285:=Tryz.func326.trans (congrArg some (by kernel_rfl))
 f286:=Tryz.func327.trans (congrArg some (by kernel_rfl))
 f317:=Tryz.func344.trans (congrArg some (by kernel_rfl))
 f318:=Tryz.func345.trans (congrArg some (by kernel_rfl))
 f319:=Tryz.func346.trans (congrArg some (by kernel_rfl))
 f320:=Tryz.func347.trans (congrArg some (by kernel_rfl))
 f337:=Tryz.func354.trans (congrArg some (by kernel_rfl))
 f338:=Tryz.func355.trans (congrArg some (by kernel_rfl))
 t0:=Tryz.underlying0
 a0:=Tryz.isAgg0
 z0:=Tryz.sizeOf0
 v0:=Tryz.zeroValue0
 t2:=Tryz.underlying2
 a2:=Tryz.isAgg2
 z2:=Tryz.sizeOf2
 v2:=Tryz.zeroValue2
 t3:=Tryz.underlying3
 a3:=Tryz.isAgg3
 z3:=Tryz.sizeOf3
 v3:=Tryz.zeroValue3
 t4:=Tryz.underlying4
 a4:=Tryz.isAgg4
 z4:=Tryz.sizeOf4
 v4:=Tryz.zeroValue4
 t5:=Tryz.underlying5
 a5:=Tryz.isAgg5
 z5:=Tryz.sizeOf5
 v5:=Tryz.zeroValue5
 t9:=Tryz.underlying9
 a9:=Tryz.isAgg9
 z9:=Tryz.sizeOf9
 v9:=Tryz.zeroValue9
 t20:=Tryz.underlying20
 a20:=Tryz.isAgg20
 z20:=Tryz.sizeOf20
 v20:=Tryz.zeroValue20
 t37:=Tryz.underlying324
 a37:=Tryz.isAgg324
 z37:=Tryz.sizeOf324
 v37:=Tryz.zeroValue324
 t46:=Tryz.underlying343
 a46:=Tryz.isAgg343
 z46:=Tryz.sizeOf343
 v46:=Tryz.zeroValue343
 t51:=Tryz.underlying370
 a51:=Tryz.isAgg370
 z51:=Tryz.sizeOf370
 v51:=Tryz.zeroValue370
 t53:=Tryz.underlying372
 a53:=Tryz.isAgg372
 z53:=Tryz.sizeOf372
 v53:=Tryz.zeroValue372
 t171:=Tryz.underlying373
 a171:=Tryz.isAgg373
 z171:=Tryz.sizeOf373
 v171:=Tryz.zeroValue373
 t173:=Tryz.underlying375
 a173:=Tryz.isAgg375
 z173:=Tryz.sizeOf375
 v173:=Tryz.zeroValue375
 t212:=Tryz.underlying390
 a212:=Tryz.isAgg390
 z212:=Tryz.sizeOf390
 v212:=Tryz.zeroValue390
 t213:=Tryz.underlying391
 a213:=Tryz.isAgg391
 z213:=Tryz.sizeOf391
 t232:=Tryz.underlying401
 a232:=Tryz.isAgg401
 z232:=Tryz.sizeOf401
 v232:=Tryz.zeroValue401
 t233:=Tryz.underlying402
 a233:=Tryz.isAgg402
 z233:=Tryz.sizeOf402
 v233:=Tryz.zeroValue402
 g17:=by kernel_rfl
 g18:=by kernel_rfl
 g19:=by kernel_rfl
 i0:=by kernel_rfl
 i2:=by kernel_rfl
 i3:=by kernel_rfl
 i4:=by kernel_rfl
 i5:=by kernel_rfl
 i9:=by kernel_rfl
 i20:=by kernel_rfl
 i37:=by kernel_rfl
 i46:=by kernel_rfl
 i51:=by kernel_rfl
 i53:=by kernel_rfl
 i171:=by kernel_rfl
 i173:=by kernel_rfl
 i212:=by kernel_rfl
 i232:=by kernel_rfl
 i233:=by kernel_rfl
 m17:=by kernel_rfl
 m18:=by kernel_rfl
 m19:=by kernel_rfl}
def Tryz.laysJoin_ren:Go.Shelf.Ren:=⟨fun|156=>218|165=>276|166=>277|169=>278|240=>301|241=>302|276=>328|277=>329|n=>n,fun|31=>181|9=>9|3=>3|4=>4|0=>0|20=>20|72=>327|76=>331|70=>325|37=>324|75=>330|127=>352|164=>377|5=>5|80=>196|n=>n,fun|n=>n⟩
def Tryz.laysJoin:Go.Proofs.Lays.n156 Tryz.prog Tryz.laysJoin_ren:={
 mixed:=by kernel_rfl
 f156:=Tryz.func218.trans (congrArg some (by kernel_rfl))
 f165:=Tryz.func276.trans (congrArg some (by kernel_rfl))
 f166:=Tryz.func277.trans (congrArg some (by kernel_rfl))
 f169:=Tryz.func278.trans (congrArg some (by kernel_rfl))
 f240:=Tryz.func301.trans (congrArg some (by kernel_rfl))
 f241:=Tryz.func302.trans (congrArg some (by kernel_rfl))
 f276:=Tryz.func328.trans (congrArg some (by kernel_rfl))
 f277:=Tryz.func329.trans (congrArg some (by kernel_rfl))
 t0:=Tryz.underlying0
 a0:=Tryz.isAgg0
 z0:=Tryz.sizeOf0
 v0:=Tryz.zeroValue0
 t3:=Tryz.underlying3
 a3:=Tryz.isAgg3
 z3:=Tryz.sizeOf3
 v3:=Tryz.zeroValue3
 t4:=Tryz.underlying4
 a4:=Tryz.isAgg4
 z4:=Tryz.sizeOf4
 v4:=Tryz.zeroValue4
 t9:=Tryz.underlying9
 a9:=Tryz.isAgg9
 z9:=Tryz.sizeOf9
 v9:=Tryz.zeroValue9
 t20:=Tryz.underlying20
 a20:=Tryz.isAgg20
 z20:=Tryz.sizeOf20
 v20:=Tryz.zeroValue20
 t31:=Tryz.underlying181
 a31:=Tryz.isAgg181
 z31:=Tryz.sizeOf181
 v31:=Tryz.zeroValue181
 t37:=Tryz.underlying324
 a37:=Tryz.isAgg324
 z37:=Tryz.sizeOf324
 v37:=Tryz.zeroValue324
 t70:=Tryz.underlying325
 a70:=Tryz.isAgg325
 z70:=Tryz.sizeOf325
 v70:=Tryz.zeroValue325
 t72:=Tryz.underlying327
 a72:=Tryz.isAgg327
 z72:=Tryz.sizeOf327
 v72:=Tryz.zeroValue327
 t75:=Tryz.underlying330
 a75:=Tryz.isAgg330
 z75:=Tryz.sizeOf330
 v75:=Tryz.zeroValue330
 t76:=Tryz.underlying331
 a76:=Tryz.isAgg331
 z76:=Tryz.sizeOf331
 v76:=Tryz.zeroValue331
 t127:=Tryz.underlying352
 a127:=Tryz.isAgg352
 z127:=Tryz.sizeOf352
 v127:=Tryz.zeroValue352
 t164:=Tryz.underlying377
 a164:=Tryz.isAgg377
 z164:=Tryz.sizeOf377
 v164:=Tryz.zeroValue377}
def Tryz.laysSort_ren:Go.Shelf.Ren:=⟨fun|189=>240|125=>290|257=>289|128=>321|129=>322|294=>312|295=>313|296=>314|297=>315|298=>316|299=>317|216=>318|300=>319|301=>320|328=>338|329=>339|330=>340|331=>341|332=>342|215=>343|343=>353|n=>n,fun|28=>23|3=>3|46=>343|0=>0|51=>370|53=>372|4=>4|183=>364|182=>363|131=>81|5=>5|9=>9|218=>383|222=>387|228=>393|229=>355|n=>n,fun|n=>n⟩
def Tryz.laysSort:Go.Proofs.Lays.n189 Tryz.prog Tryz.laysSort_ren:={
 mixed:=by kernel_rfl
 f125:=Tryz.func290.trans (congrArg some (by kernel_rfl))
 f128:=Tryz.func321.trans (congrArg some (by kernel_rfl))
 f129:=Tryz.func322.trans (congrArg some (by kernel_rfl))
 f189:=Tryz.func240.trans (congrArg some (by kernel_rfl))
 f215:=Tryz.func343.trans (congrArg some (by kernel_rfl))
 f216:=Tryz.func318.trans (congrArg some (by kernel_rfl))
 f257:=Tryz.func289.trans (congrArg some (by kernel_rfl))
 f294:=Tryz.func312.trans (congrArg some (by kernel_rfl))
 f295:=Tryz.func313.trans (congrArg some (by kernel_rfl))
 f296:=Tryz.func314.trans (congrArg some (by kernel_rfl))
 f297:=Tryz.func315.trans (congrArg some (by kernel_rfl))
 f298:=Tryz.func316.trans (congrArg some (by kernel_rfl))
 f299:=Tryz.func317.trans (congrArg some (by kernel_rfl))
 f300:=Tryz.func319.trans (congrArg some (by kernel_rfl))
 f301:=Tryz.func320.trans (congrArg some (by kernel_rfl))
 f328:=Tryz.func338.trans (congrArg some (by kernel_rfl))
 f329:=Tryz.func339.trans (congrArg some (by kernel_rfl))
 f330:=Tryz.func340.trans (congrArg some (by kernel_rfl))
 f331:=Tryz.func341.trans (congrArg some (by kernel_rfl))
 f332:=Tryz.func342.trans (congrArg some (by kernel_rfl))
 f343:=Tryz.func353.trans (congrArg some (by kernel_rfl))
 t0:=Tryz.underlying0
 a0:=Tryz.isAgg0
 z0:=Tryz.sizeOf0
 v0:=Tryz.zeroValue0
 t3:=Tryz.underlying3
 a3:=Tryz.isAgg3
 z3:=Tryz.sizeOf3
 v3:=Tryz.zeroValue3
 t4:=Tryz.underlying4
 a4:=Tryz.isAgg4
 z4:=Tryz.sizeOf4
 v4:=Tryz.zeroValue4
 t5:=Tryz.underlying5
 a5:=Tryz.isAgg5
 z5:=Tryz.sizeOf5
 v5:=Tryz.zeroValue5
 t9:=Tryz.underlying9
 a9:=Tryz.isAgg9
 z9:=Tryz.sizeOf9
 v9:=Tryz.zeroValue9
 t28:=Tryz.underlying23
 a28:=Tryz.isAgg23
 z28:=Tryz.sizeOf23
 v28:=Tryz.zeroValue23
 t46:=Tryz.underlying343
 a46:=Tryz.isAgg343
 z46:=Tryz.sizeOf343
 v46:=Tryz.zeroValue343
 t51:=Tryz.underlying370
 a51:=Tryz.isAgg370
 z51:=Tryz.sizeOf370
 v51:=Tryz.zeroValue370
 t53:=Tryz.underlying372
 a53:=Tryz.isAgg372
 z53:=Tryz.sizeOf372
 v53:=Tryz.zeroValue372
 t131:=Tryz.underlying81
 a131:=Tryz.isAgg81
 z131:=Tryz.sizeOf81
 v131:=Tryz.zeroValue81
 t182:=Tryz.underlying363
 a182:=Tryz.isAgg363
 z182:=Tryz.sizeOf363
 v182:=Tryz.zeroValue363
 t183:=Tryz.underlying364
 a183:=Tryz.isAgg364
 z183:=Tryz.sizeOf364
 v183:=Tryz.zeroValue364
 t218:=Tryz.underlying383
 a218:=Tryz.isAgg383
 z218:=Tryz.sizeOf383
 v218:=Tryz.zeroValue383
 t222:=Tryz.underlying387
 a222:=Tryz.isAgg387
 z222:=Tryz.sizeOf387
 v222:=Tryz.zeroValue387
 t228:=Tryz.underlying393
 a228:=Tryz.isAgg393
 z228:=Tryz.sizeOf393
 v228:=Tryz.zeroValue393
 t229:=Tryz.underlying355
 a229:=Tryz.isAgg355
 z229:=Tryz.sizeOf355
 v229:=Tryz.zeroValue355}
def Tryz.laysDel_ren:Go.Shelf.Ren:=⟨fun|23=>271|n=>n,fun|22=>23|3=>3|4=>4|0=>0|n=>n,fun|n=>n⟩
def Tryz.laysDel:Go.Proofs.Lays2.n23 Tryz.prog Tryz.laysDel_ren:={
 mixed:=by kernel_rfl
 f23:=Tryz.func271.trans (congrArg some (by kernel_rfl))
 t0:=Tryz.underlying0
 a0:=Tryz.isAgg0
 z0:=Tryz.sizeOf0
 v0:=Tryz.zeroValue0
 t3:=Tryz.underlying3
 a3:=Tryz.isAgg3
 z3:=Tryz.sizeOf3
 v3:=Tryz.zeroValue3
 t4:=Tryz.underlying4
 a4:=Tryz.isAgg4
 z4:=Tryz.sizeOf4
 v4:=Tryz.zeroValue4
 t22:=Tryz.underlying23
 a22:=Tryz.isAgg23
 z22:=Tryz.sizeOf23
 v22:=Tryz.zeroValue23
 i3:=by kernel_rfl}
def Tryz.laysIndexB_ren:Go.Shelf.Ren:=⟨fun|137=>212|217=>272|266=>299|n=>n,fun|9=>9|5=>5|3=>3|n=>n,fun|n=>n⟩
def Tryz.laysIndexB:Go.Proofs.Lays.n137 Tryz.prog Tryz.laysIndexB_ren:={
 mixed:=by kernel_rfl
 f137:=Tryz.func212.trans (congrArg some (by kernel_rfl))
 f217:=Tryz.func272.trans (congrArg some (by kernel_rfl))
 f266:=Tryz.func299.trans (congrArg some (by kernel_rfl))
 t3:=Tryz.underlying3
 a3:=Tryz.isAgg3
 z3:=Tryz.sizeOf3
 v3:=Tryz.zeroValue3
 t5:=Tryz.underlying5
 a5:=Tryz.isAgg5
 z5:=Tryz.sizeOf5
 v5:=Tryz.zeroValue5
 t9:=Tryz.underlying9
 a9:=Tryz.isAgg9
 z9:=Tryz.sizeOf9
 v9:=Tryz.zeroValue9}
end Go.Proofs
namespace Go.Tel
open Go.Am
def YP:au=DV.int .i64:=rfl
def alQ:aga:=by
 intro k ver i zs bs fz ar K KP h b a;exact amr (C:=C) Go.Proofs.Tryz.laysDel (by rw[<-YP];exact h) b (by rw[<-YP];exact a)
structure Frm (M M':Mem):Prop where
 len:M.boxes.length<=M'.boxes.length
 bP:M.aF.length<=M'.aF.length
 box:∀i,i<M.boxes.length->M'.boxes[i]?=M.boxes[i]?
 fz:∀i,i<M.boxes.length->(i∈M'.fz↔i∈M.fz)
 row:∀k,k<M.aF.length->M'.aF[k]?=M.aF[k]?
 fzb:FzB M->FzB M'
def Frm.trans {M M' M'':Mem}(h:Frm M M')(h':Frm M' M''):Frm M M'':=
 ⟨ao h.len h'.len,ao h.bP h'.bP,fun i a=>(h'.box i (az a h.len)).trans (h.box i a),fun i a=>(h'.fz i (az a h.len)).trans (h.fz i a),
  fun k b=>(h'.row k (az b h.bP)).trans (h.row k b),fun e=>h'.fzb (h.fzb e)⟩
variable{bs:List (Option (List PV))}{fz:List Nat}
def Frm.ext {xb:List (Option (List PV))}{xf:List Nat}{ar xa:List (Option Arr)}(hx:∀i∈xf,bs.length<=i/\i<bs.length+xb.length):Frm ⟨bs,fz,ar⟩ ⟨bs++xb,xf++fz,ar++xa⟩:=
 ⟨by simp,by simp,fun i a=>ab a,fun i a=>by
  simp only[av];exact⟨fun e=>e.elim (fun e=>absurd (hx i e).1 (by simp only at a;omega)) id, .inr⟩,fun k c=>ab c,fun b i a=>by
  simp only[Y]
  rcases av.1 a with e|e
  ·exact(hx i e).2
  ·have:=b i e;simp only at this;omega⟩
variable{M M' M'':Mem}
def Frm.frs {a b mb:Nat}(h:Frm M M')(h':FrS a b mb M' M'')(hb:M.boxes.length<=b)(g:M.boxes.length<=mb)(f:M.aF.length<=a):Frm M M'':=
 ⟨ao h.len h'.len,ao h.bP h'.bP,fun i c=>(h'.box i (az c h.len) (by omega) (by omega)).trans (h.box i c),fun i c=>(h'.fz i (az c h.len)).trans (h.fz i c),
  fun k d=>(h'.row k (by omega)).trans (h.row k d),fun e=>h'.fzb (h.fzb e)⟩
variable{sz:Nat}{W:Bool}{c:PV}{xs:List DV}{ar:List (Option Arr)}
def NQ (h:slN sz W c xs ar){k:Nat}(hk:kOf c=some k):k<ar.length:=by
 rcases h with⟨rfl,_⟩|⟨a,_,_,rfl,h,_⟩
 ·cases hk
 ·cases hk;exact(U.1 h).1
variable{D:Dk}{d:Nat}
def nZ.frm {ce cs:PV}(h:nZ D d ce cs M)(hf:Frm M M'):nZ D d ce cs M':=
 {box:=(hf.box d (U.1 h.box).1).trans h.box
  ent:=zK h.ent fun k A h1 h2=>(hf.row k (NQ h.ent h1)).trans h2
  str:=zK h.str fun k A h1 h2=>(hf.row k (NQ h.str h1)).trans h2
  dif:=h.dif
  nb:=fun e=>h.nb ((hf.fz d (U.1 h.box).1).1 e)
  fzb:=hf.fzb h.fzb}
variable{s:Su}
def gK.moved {a b mb n:Nat}{cst cse:PV}{t:Sp}(h:gK s a b mb cst cse t M)(c:Moved n no M M')(hb:b<n)(d:mb<n):gK s a b mb cst cse t M':=
 {box:=(c.box b hb id).trans h.box
  map:=(c.box mb d id).trans h.map
  r0:=by rw[c.aF];exact h.r0
  r1:=by rw[c.aF];exact h.r1
  r2:=by rw[c.aF];exact h.r2
  r3:=by rw[c.aF];exact h.r3
  r4:=by rw[c.aF];exact h.r4
  r5:=by rw[c.aF];exact h.r5
  stk:=by rw[c.aF];exact h.stk
  set:=by rw[c.aF];exact h.set
  kst:=h.kst,kse:=h.kse,dif:=h.dif
  nb:=fun e=>h.nb ((c.fz b hb id).1 e)
  nm:=fun e=>h.nm ((c.fz mb d id).1 e)
  bm:=h.bm
  fzb:=c.fzb h.fzb}
def Frm.moved {n:Nat}(h:Frm M M')(a:Moved n no M' M'')(d:M.boxes.length<=n):Frm M M'':=
 ⟨ao h.len a.len,by rw[a.aF];exact h.bP,fun i b=>(a.box i (by omega) id).trans (h.box i b),fun i b=>(a.fz i (by omega) id).trans (h.fz i b),fun k c=>by rw[a.aF];exact h.row k c,fun e=>a.fzb (h.fzb e)⟩
def yD (s:Su):∀(l m:List De) (t:Sp),qR s (l++m) t=(qR s l t).bind (qR s m)
 | [],_,_=>rfl
 |x::l,m,t=>by
  simp only[List.cons_append,qR];cases doS s t x with
  |none=>rfl
  |some t1=>exact yD s l m t1
def wo (w:Int)(l:List (Nat×De)):List De:=(l.filter fun p=>decide ((p.1:Int)≠w)).map (·.2)
def acU (w:Int)(l:List (Nat×De))(p:Nat×De):wo w (l++ [p])=if(p.1:Int)=w then wo w l else wo w l++ [p.2]:=by
 simp only[wo,bO,bt]
 by_cases h:(p.1:Int)=w<;>simp[h]
def ajq (w:Int)(l:List (Nat×De))(p:Nat×De)(r:List (Nat×De)):wo w (l++p::r)=wo w (l++ [p])++wo w r:=by
 simp[wo,bO,bt,cw]
 split<;>simp
def anY (w:Int)(l:List (Nat×De)):(wo w l).length<=l.length:=by
 simp only[wo,V];exact bE _ _
def gK.new {x0 x3:Option (List PV)}(a:∀i∈fz,i<bs.length):
  gK s ar.length (bs.length+2) (bs.length+1) (.d (.slice true [])) (.d (.slice true [])) s.sp0 ⟨bs++ [x0,some [.jr []],some (iU s ar.length (bs.length+1) (.d (.slice true [])) (.d (.slice true [])) 0),x3],bs.length::fz,ar++s.rows.map some⟩:=
 {box:=by simp only;rw[jY rfl];rfl
  map:=by simp only;rw[jY rfl];rfl
  r0:=by simp[Su.rows,Su.sp0]
  r1:=by simp[Su.rows,Su.sp0]
  r2:=by simp[Su.rows,Su.sp0]
  r3:=by simp[Su.rows]
  r4:=by simp[Su.rows]
  r5:=by simp[Su.rows]
  stk:= .inl ⟨rfl,rfl⟩
  set:= .inl ⟨rfl,rfl⟩
  kst:=fun k b=>by cases b
  kse:=fun k b=>by cases b
  dif:=fun k b=>by cases b
  nb:=fun e=>by
   rcases aR.1 e with e|e
   ·omega
   ·have:=a _ e;omega
  nm:=fun e=>by
   rcases aR.1 e with e|e
   ·omega
   ·have:=a _ e;omega
  bm:=by omega
  fzb:=fun i e=>by
   simp only[Y,an,ax]
   rcases aR.1 e with e|e
   ·omega
   ·have:=a _ e;omega}
def Ac {x:En}(h:x.formed=true):gI x.kind<=x.ns.length:=by
 simp only[En.formed,aq,decide_eq_true_eq]at h;omega
def MZ {ce cs:PV}(h:nZ D d ce cs M)(f:D.Ok)(w:Int):
  SC C 74 [.ptr d 0,pI w] M
   (fun p M'=>∃t b mb a cst cse,p= .ptr b 0/\D.state w=some t/\gK D.su a b mb cst cse t M'/\Frm M M'/\M.boxes.length<=b/\M.boxes.length<=mb/\M.aF.length<=a)
   (fun dd M'=>D.state w=none/\IJ dd/\Frm M M'):=by
 obtain⟨bs,fz,ar⟩:=M;have c:=h.box;rw[je]at c;simp only at c;have Z:d<bs.length:=(U.1 c).1;have E8:∀i∈fz,i<bs.length:=h.fzb
 have a6:bs.length∉fz:=fun e=>am _ (E8 _ e)
 have aM:∀k,bs.length+k∉fz:=fun k e=>by have:=E8 _ e;omega
 have a3:¬d=bs.length:=by omega
 have a4:∀k,¬d=bs.length+k:=fun k=>by omega
 have ai:∀k,d<bs.length+k:=fun k=>by omega
 have a7:¬bs.length+1=bs.length:=by omega
 have a9:¬bs.length+2=bs.length:=by omega
 have aR:¬bs.length+3=bs.length:=by omega
 have X:=Yo D.su (Su.Qk f.su);rw[dF]at X;refine aC qX aK ?_;simp only[qX,aK,c,Z,nO,dQ,bJ,dB,aw,Y,a8,ai,RN,F,H,I,S];refine yR rfl rfl X (by simp[Su.rows]) ?_;simp only[Su.pv,PV.shift,kY,RN];simp only[QM,c,Z,dQ,jY,nS,aM,aR,bI,aeU,I8,eU,ig,Jd,oh,vY,GX,RN,F,H,S];have J:Frm ⟨bs,fz,ar⟩ ⟨bs++ [some [PV.d (dI w)],some [PV.jr []],some (iU D.su ar.length (bs.length+1) (.d (.slice true [])) (.d (.slice true [])) 0),some [PV.ptr (bs.length+2) 0]],bs.length::fz,ar++D.su.rows.map some⟩:=Frm.ext (xf:=[bs.length]) (by simp);have am7:=h.frm J;have aq:∀l r p,D.stands=l++p::r->kV D.su D.su.sp0 p.2:=fun l r p hl=>by
  obtain⟨y,hy,e⟩:=xJ D.es D.st 0 p (by rw[Dk.stands]at hl;rw[hl];simp);rw[e];exact f.fine y hy
 have W:∀l,(∃r,D.stands=l++r)->∀x∈wo w l,kV D.su D.su.sp0 x:=fun l hl x o=>by
  obtain⟨r,hr⟩:=hl;simp only[wo,bA,cA]at o;obtain⟨p,⟨hp,_⟩,rfl⟩:=o;obtain⟨y,hy,e⟩:=xJ D.es D.st 0 p (by rw[Dk.stands]at hr;rw[hr];simp[hp]);rw[e];exact f.fine y hy
 have aql:D.stands.length<=24:=ao (AA _ _ _) f.few;have aoH:D.state w=qR D.su (wo w D.stands) D.su.sp0:=rfl;rw[iU]at J am7;refine sG (aaj (ce:=ce) (cs:=cs) f.len (by have:=f.few;omega) (fun x o=>Ac (f.formed x o))) (fun _ h=>h.elim) rfl (by kernel_rfl) (fun i hi=> ?_) (fun x o=> ?_) (fun i hi=> ?_) (fun M' P=>am7.toDkRd.moved (by simp;omega) P)
  (fun Q q=>∃l r t cst cse,D.stands=l++r/\Q=l.map pR/\qR D.su (wo w l) D.su.sp0=some t/\gK D.su ar.length (bs.length+2) (bs.length+1) cst cse t q/\Frm ⟨bs,fz,ar⟩ q/\q.boxes[bs.length+3]?=some (some [.ptr (bs.length+2) 0])/\bs.length+4<=q.boxes.length) ?_ ?_ ?_ ?_
 ·exact am7.fzb i hi
 ·simp only[dG,bA]at o
  obtain⟨p,_,rfl⟩:=o
  rfl
 ·subst hi;simp;omega
 ·rintro Q q M2 P ⟨l,r,t,cst,cse,j,A,B,T,R,z,V⟩
  simp only[Y,an,ax]at P;refine⟨l,r,t,cst,cse,j,A,B,T.moved P (by omega) (by omega),R.moved P (by simp),(P.box _ (by omega) id).trans z,ao V P.len⟩
 ·refine⟨[],D.stands,D.su.sp0, .d (.slice true []), .d (.slice true []),rfl,rfl,rfl,?_,J,?_,?_⟩
  ·have:=gK.new (s:=D.su) (ar:=ar) (x0:=some [PV.d (dI w)]) (x3:=some [PV.ptr (bs.length+2) 0]) E8
   rw[iU]at this;exact this
  ·simp only;rw[jY rfl];rfl
  ·simp
 ·rintro L cells Q x a2 q o O g u ⟨l,r,t,cst,cse,j,A,B,T,R,z,V⟩ M0
  simp only[Y,an,ax]at O g u⊢;obtain⟨p,E,rfl⟩:∃p E,r=p::E:=by
   cases r with
   |nil=>
    rw[br]at j;rw[dG,bp,bp,<-Dk.stands,j,A]at o;have:=congrArg bv o;simp at this
   |cons p E=>exact⟨p,E,rfl⟩
  have a1:x=pR p:=by
   rw[dG,bp,bp,<-Dk.stands,j,A,bt,bl]at o;have:=cb o;exact(List.cons.inj this).1.symm
  subst a1;obtain⟨G,ae,ac⟩:=q;simp only at O g u z V;have aE:bs.length+3<G.length:=by omega
  have ab:D.stands=(l++ [p])++E:=by rw[j];simp
  simp only[pR,cp,ct,bl,ch,RN,F,H,S]
  by_cases hw:(p.1:Int)=w
  ·have hb:((p.1:Int) !=w)=false:=by simp[hw]
   simp only[hb,wS,RN,F];refine⟨g,u, .refl _,l++ [p],E,t,cst,cse,ab,by rw[A];simp[pR],by rw[acU,if_pos hw];exact B,T,R,z,V⟩
  ·have hb:((p.1:Int) !=w)=true:=by simp[hw]
   have N:=QJ _ 0 _ t (acH f.su) (W l ⟨_,j⟩) B;have bc:=anY w l;have a5:l.length<=24:=by
    have:=congrArg bv j;simp at this;omega
   have a0:Wj D.su t:=N.sp (by omega);have av:kV D.su t p.2:=kV.same (n:=0) N.ll.symm N.hh.symm (aq l E p j);simp only[hb,z,RN,F,S];have ap:=agV alQ T a0 p.2 av;refine SC.kZ (SC.mono ap ?_) ?_
   ·rintro v M3 ⟨t',tK,Ba,g1,g2,m⟩
    have az:Frm ⟨bs,fz,ar⟩ M3:=R.frs m (by simp) (by simp) (by simp);have aD:=m.len;simp only at aD;simp only[wS];refine⟨(m.box _ (by simp only;omega) (by omega) (by omega)).trans g,fun e=>u ((m.fz _ (by simp only;omega)).1 e),⟨m.len,m.bP,fun i hi K=>m.box i K (by omega) (by omega),fun i hi K=>m.fz i K,fun k hk=> ?_,m.fzb⟩,?_⟩
    ·refine m.row k ?_
     rcases hk with hk|hk
     ·have:=NQ h.ent hk;simpa using this
     ·have:=NQ h.str hk;simpa using this
    ·refine⟨l++ [p],E,t',tK,Ba,ab,by rw[A];simp[pR],?_,g2,az,(m.box _ (by simp only;omega) (by omega) (by omega)).trans z,by omega⟩
     rw[acU,if_neg hw,yD,B];simp[qR,g1]
   ·rintro dd M3 ⟨g1,g2,m⟩
    simp only[wS,RN];refine⟨?_,g2,R.frs m (by simp) (by simp) (by simp)⟩;rw[aoH,j,ajq,acU,if_neg hw,yD,yD,B];simp[qR,g1]
 ·rintro q ⟨l,r,t,cst,cse,j,A,B,T,R,z,V⟩ O
  have hr:r=[]:=by
   have:=congrArg bv A;rw[dG,bp,bp,<-Dk.stands,j]at this;simp at this;exact this
  subst hr;rw[br]at j;obtain⟨G,ae,ac⟩:=q;simp only at z V;have aE:bs.length+3<G.length:=by omega
  simp only[z,RN,F,S];exact⟨t,_,_,_,cst,cse,rfl,by rw[aoH,j];exact B,T,R,by omega,by omega,aL _⟩
def fmL:List (ByteArray×Nat):=[(⟨#[99,117,116]⟩,1),(⟨#[99,104,97,110,103,101]⟩,3),(⟨#[111,114,100,101,114]⟩,3),(⟨#[115,101,114,118,101]⟩,2),(⟨#[115,101,116]⟩,1),(⟨#[115,116,114,105,107,101]⟩,1)]
def abp (p:ByteArray×Nat):DV:= .agg [.str p.1,dI (p.2:Int)]
def Um (l:List (ByteArray×Nat)):List DV:=l.flatMap fun p=>[.str p.1,dI (p.2:Int)]
def adb:Um fmL=[.str ⟨#[99,117,116]⟩,dI 1, .str ⟨#[99,104,97,110,103,101]⟩,dI 3, .str ⟨#[111,114,100,101,114]⟩,dI 3, .str ⟨#[115,101,114,118,101]⟩,dI 2, .str ⟨#[115,101,116]⟩,dI 1, .str ⟨#[115,116,114,105,107,101]⟩,dI 1]:=rfl
def ade:Pure C 121 [] (.d (.agg (Um fmL))) []:=by
 refine ah yj aiC ?_;simp only[yj,aiC,adb,GL,RN,F,H,S]
def YS (n:Int):Pure C 206 [dI n] (.d (.bool (!inR n 0 9999))) []:=by
 refine ah ru aN ?_;simp only[ru,aN,RN,F];refine ak (Af _ _ _) ?_;(try simp only[RN])
def fwE (k:Int):ByteArray:=(fmL.getD (k - 1).toNat default).1
def MV {k:Int}(h:1<=k/\k<=6):k=1\/k=2\/k=3\/k=4\/k=5\/k=6:=by omega
def aob {k:Int}(h:1<=k/\k<=6):agj (ji (cL 2 (cK ((k - 1).toNat*2) (cJ PV.d (Um fmL))))) (cL 2 (cK ((k - 1).toNat*2) (cJ PV.d (Um fmL))))= .d (.agg [.str (fwE k),dI (gI k)])/\(k - 1).toNat*2+2<=(cJ PV.d (Um fmL)).length/\cM .i64 (k - 1)=k - 1:=by
 rcases MV h with rfl|rfl|rfl|rfl|rfl|rfl<;>exact⟨rfl,by decide,by decide⟩
def adp (k:Int):gI k<=3:=by
 unfold gI;split
 ·omega
 ·split<;>omega
def abG (x:En):Pure C 110 [x.dv] (.d (.bool x.formed)) []:=by
 refine ah uI aN ?_;simp only[uI,aN,dO,RN,F,H,S];refine ak (Af _ _ _) ?_;cases c:inR x.kind 1 6
 ·(try simp only[RN,F])
  simp only[En.formed,c,bd]
 have e:1<=x.kind/\x.kind<=6:=by simpa[inR]using c
 simp only[V,RN,F,H,S];refine ak ade ?_;obtain⟨e1,e2,f⟩:=aob e;have g:=adp x.kind;simp only[f,e1,RN,H,S];refine⟨by omega,by omega,e2,?_⟩
 by_cases b:x.ns.length=gI x.kind
 ·have a:((x.ns.length:Int) !=(gI x.kind:Int))=false:=by simp[b]
  simp only[a,RN,F,H,S];refine eG rfl rfl (tZ x.ns 206 [] (fun n=> !inR n 0 9999) (by omega) (by kernel_rfl) fun n _=>YS n) ?_;simp only[Cj,Bool.not_not,RN];simp[En.formed,c,b]
 ·have a:((x.ns.length:Int) !=(gI x.kind:Int))=true:=by simp;omega
  simp only[a,RN,F];simp[En.formed,b]
def IZ (e1 e2:Bool)(D:Dk):List DV:=[.aV D.su.cs,sF (D.su.days.map zZ), .slice e1 (D.es.map En.dv), .slice e2 (D.st.map .bool)]
def vG (e1 e2:Bool)(D:Dk):DV:= .aV (IZ e1 e2 D)
def TJ (h:slN sz W c xs ar):∃ex,dY ⟨bs,fz,ar⟩ c=some (.slice ex xs):=by
 rcases h with⟨rfl,rfl⟩|⟨k,ver,st,rfl,h,_⟩
 ·exact⟨true,rfl⟩
 ·exact⟨false,by simp[dY,Mem.row,h]⟩
def JF {ce cs:PV}(h:nZ D d ce cs M):∃e1 e2,datum M (.ptr d 0)=some (vG e1 e2 D):=by
 obtain⟨bs,fz,ar⟩:=M;have h1:=h.box;rw[je]at h1;obtain⟨e1,a⟩:=TJ (bs:=bs) (fz:=fz) h.ent;obtain⟨e2,b⟩:=TJ (bs:=bs) (fz:=fz) h.str;simp only at h1 a b;refine⟨e1,e2,?_⟩;have hd:∀x,dY ⟨bs,fz,ar⟩ (.d x)=some x:=fun _=>rfl
 have c:bY ⟨bs,fz,ar⟩ [.d (.aV D.su.cs), .d (sF (D.su.days.map zZ)),ce,cs]=some (IZ e1 e2 D):=by
  simp only[bY,hd,a,b];rfl
 simp only[datum,Mem.box,h1,c]
 rfl
def Fb (e1 e2:Bool)(D:Dk)(hh:D.su.pc.hands.length<=1000)(n:Int):Pure C 166 [vG e1 e2 D,dI n] (.d (.bool (inR n 0 (D.su.pc.hands.length - 1)))) []:=by
 refine ah ql aK ?_;have a:cM .i64 ((D.su.pc.hands.length:Int) - 1)=(D.su.pc.hands.length:Int) - 1:=aB (by omega);simp only[ql,aK,vG,IZ,nO,V,a,RN,F,H,S];refine ak (Af _ _ _) ?_;(try simp only[])
def Qg (e1 e2:Bool)(D:Dk)(n:Int):Pure C 170 [vG e1 e2 D,dI n] (.d (.bool (inR n 1 D.su.days.length))) []:=by
 refine ah qW aK ?_;simp only[qW,aK,vG,IZ,V,RN,F,H,S];refine ak (Af _ _ _) ?_;(try simp only[])
def YT (e1 e2:Bool)(D:Dk):Pure C 69 [vG e1 e2 D] (.d (.bool true)) []:=by
 refine ah qm aN ?_;simp only[qm,aN,vG,IZ,RN,F,H,S]
def adK {f:FuncId}{args:List PV}{ds ds':List DV}{x:DV}{K:PV->Mem->Prop}{KP:DV->Mem->Prop}(h:Pure C f ds' (.d x) [])(hx:YD (.d x)=true)(a:dL M args=some ds)(c:ds.map DV.strip=ds')(b:K (.d x) M):SC C f args M K KP:=
 Z5 h hx rfl a c (by simpa[PV.shift,kY]using b)
section
variable (e1 e2:Bool)(D:Dk)
def aeH (n:Int):Pure C 375 [(De.cut n).cs,vG e1 e2 D] (.d (.bool (D.gX (.cut n)))) []:=by
 refine ah uH aK ?_;simp only[uH,aK,De.cs,vG,RN,F,H,S];refine ak (mY _) ?_;simp only[Dk.gX]
def Wy (hl:D.su.pc.links.length<=1000)(c:Chg):Pure C 376 [(De.change c).cs,vG e1 e2 D] (.d (.bool (D.gX (.change c)))) []:=by
 refine ah qx aK ?_;have b:cM .i64 ((D.su.pc.links.length:Int) - 1)=(D.su.pc.links.length:Int) - 1:=aB (by omega);simp only[qx,aK,De.cs,vG,IZ,nO,V,b,RN,F,H,S];refine ak (Af _ _ _) ?_;cases h1:inR c.link 0 ((D.su.pc.links.length:Int) - 1)
 ·(try simp only[RN,F])
  simp only[Dk.gX,h1,bd]
 (try simp only[RN,F,H,S]);refine ak (mY _) ?_;cases h2:aI c.pr.a
 ·(try simp only[RN,F])
  simp only[Dk.gX,h1,Pr.ok,h2,bd,cm]
 (try simp only[RN,F,H,S]);refine ak (mY _) ?_;(try simp only[RN,F,H,I,J,N,S]);simp only[Dk.gX,h1,Pr.ok,h2,b9]
def Zo (hh:D.su.pc.hands.length<=1000)(n:Int)(f:Fr):Pure C 377 [(De.order n f).cs,vG e1 e2 D] (.d (.bool (D.gX (.order n f)))) []:=by
 refine ah rD aK ?_;have b:=Fb e1 e2 D hh n;have a:=adi f;rw[bK]at a;rw[vG]at b⊢;simp only[rD,aK,De.cs,RN,F,H,S];refine ak b ?_;cases h1:inR n 0 ((D.su.pc.hands.length:Int) - 1)
 ·(try simp only[RN,F])
  simp only[Dk.gX,h1,bd]
 (try simp only[RN,F,H,S]);refine ak a ?_;(try simp only[RN,F,H,I,J,N,S]);simp only[Dk.gX,h1,b9]
def aad (hh:D.su.pc.hands.length<=1000)(n c:Int):Pure C 378 [(De.serve n c).cs,vG e1 e2 D] (.d (.bool (D.gX (.serve n c)))) []:=by
 refine ah rF aK ?_;have a:=Fb e1 e2 D hh n;rw[vG]at a⊢;simp only[rF,aK,De.cs,RN,F,H,S];refine ak a ?_;simp only[Dk.gX]
def afN (n:Int):Pure C 379 [(De.set n).cs,vG e1 e2 D] (.d (.bool (D.gX (.set n)))) []:=by
 refine ah uK aK ?_;have a:=Qg e1 e2 D n;rw[vG]at a⊢;simp only[uK,aK,De.cs,RN,F,H,S];refine ak a ?_;simp only[Dk.gX]
def XI (hl:D.es.length<=1000)(n:Int):Pure C 373 [(De.strike n).cs,vG e1 e2 D] (.d (.bool (D.gX (.strike n)))) []:=by
 refine ah qG aK ?_;have c:cM .i64 ((D.es.length:Int) - 1)=(D.es.length:Int) - 1:=aB (by omega);simp only[qG,aK,De.cs,vG,IZ,V,c,RN,F,H,S];refine ak (Af _ _ _) ?_;cases h1:inR n 0 ((D.es.length:Int) - 1)
 ·(try simp only[RN,F])
  simp only[Dk.gX,h1,bd]
 have a:0<=n/\n<=(D.es.length:Int) - 1:=by simpa[inR]using h1
 have b:n.toNat<D.es.length:=by omega
 simp only[a.1,b,V,getD_map,dO,RN,F,H,S];have:((D.es.getD n.toNat default).kind !=6)=decide ((D.es.getD n.toNat default).kind≠6):=by
  by_cases h:(D.es.getD n.toNat default).kind=6
  ·rw[h];rfl
  ·rw[decide_eq_true h];exact bne_iff_ne.2 h
 simp only[Dk.gX,h1,b9,this]
end
def De.ag9:De->FuncId
 | .cut _=>375
 | .change _=>376
 | .order _ _=>377
 | .serve _ _=>378
 | .set _=>379
 | .strike _=>373
variable{D:Dk}
def Dk.Ok.small (h:D.Ok):D.su.pc.links.length<=5/\D.su.pc.hands.length<=4:=by
 have:=Pc.wH (Su.facts h.su).1;omega
def amG (e1 e2:Bool){D:Dk}(h:D.Ok)(x:De):Pure C x.ag9 [x.cs,vG e1 e2 D] (.d (.bool (D.gX x))) []:=by
 obtain⟨h1,h2⟩:=h.small;cases x with
 |cut n=>exact aeH _ _ _ _
 |change c=>exact Wy _ _ _ (by omega) _
 |order n f=>exact Zo _ _ _ (by omega) _ _
 |serve n c=>exact aad _ _ _ (by omega) _ _
 |set n=>exact afN _ _ _ _
 |strike n=>exact XI _ _ _ (by have:=h.few;omega) _
def ahb (x:De):GU C.P x.ty "tellurion/journeyman.fine" =some x.ag9/\callable C.P x.ag9=true:=by
 cases x<;>exact⟨by kernel_rfl,by kernel_rfl⟩
def agO (x:De):x.cs.strip=x.cs:=by cases x<;>rfl
def aha {d:Nat}{ce cs:PV}{M:Mem}(h:nZ D d ce cs M)(a:D.Ok)(x:De){base:Nat}{K:PV->Mem->Prop}{KP:DV->Mem->Prop}(b:K (.d (.bool (D.gX x))) M):
  ay C base (.inv "tellurion/journeyman.fine") [.d x.dv, .ptr d 0] M K KP:=by
 obtain⟨e1,e2,hd⟩:=JF h;obtain⟨c,e⟩:=ahb x;refine⟨_,c,e,adK (ds:=[x.cs,vG e1 e2 D]) (ds':=[x.cs,vG e1 e2 D]) (amG e1 e2 a x) rfl ?_ ?_ b⟩
 ·simp only[dL,hd];rfl
 ·simp only[bl,ch,agO];rfl
def Qp (d:DV):Prop:=∃s,d= .iface T.rP (.agg [.str s])
variable{bs:List (Option (List PV))}
def aiW {b:Nat}{y:Option (List PV)}(h:bs[b]?=some y):bs.set b y=bs:=by
 apply bX;intro i;rw[cq]
 by_cases a:b=i
 ·subst a
  have:=(U.1 h).1;simp[this];have h2:=h;rw[ca this]at h2
  simpa using h2.symm
 ·simp[a]
def Qh {g:FuncId}{fs cs:List PV}{fz:List Nat}{ar:List (Option Arr)}{K:PV->Mem->Prop}{KP:DV->Mem->Prop}(j:FzB ⟨bs,fz,ar⟩)(hc:callable C.P g=true)
  (h:SC C g (fs++cs) ⟨bs++ [some [pI 0]],fz,ar⟩
   (fun _ M'=>M'.boxes[bs.length]?=some (some [pI 0])/\bs.length∉M'.fz/\K (pI 0) M')
   (fun d M'=>M'.boxes[bs.length]?=some (some [pI 0])/\bs.length∉M'.fz/\M'.boxes.length∉M'.fz/\
    ((IJ d/\∀x,K (pI 7) ⟨(M'.boxes++ [x]).set bs.length (some [pI 7]),M'.fz,M'.aF⟩)\/
     (Qp d/\∀x,K (pI 4) ⟨(M'.boxes++ [x]).set bs.length (some [pI 4]),M'.fz,M'.aF⟩)))):
  SC C 72 [.func (.func g) fs cs] ⟨bs,fz,ar⟩ K KP:=by
 have n:bs.length∉fz:=fun e=>am _ (j _ e)
 refine aji mixed J8 ?_;simp only[lD,bJ,dB,Y,RN,F];refine⟨bs.length,rfl,?_⟩;simp only[lF,U2,RN,F];refine⟨hc,SC.kZ (SC.mono h ?_) ?_⟩
 ·rintro v ⟨a,f,ar'⟩ ⟨h1,h2,c⟩
  simp only at h1 h2;have k:=(U.1 h1).1;simp only[h1,h2,aiW h1,RN,S];simp only[aas,kC,Om,wW,h1,RN,F,S];exact c
 ·rintro d ⟨a,f,ar'⟩ ⟨h1,h2,c,l⟩
  simp only at h1 h2 c l;have k:=(U.1 h1).1
  rcases l with⟨⟨y,rfl,p,o⟩,i⟩|⟨⟨s,rfl⟩,i⟩
  ·have b:bs.length<(a++ [some [PV.d y]]).length:=by simp;omega
   simp only[TY,kC,Ol,nD,wW,bJ,dB,c,o,dQ k,h1,h2,bw b,RN,F,S];exact i _
  ·have b:bs.length<(a++ [some [PV.d (.str s)]]).length:=by simp;omega
   have m:(T.rP==T.jm)=false:=by decide
   simp only[TY,kC,Ol,fU m,nD,wW,bJ,dB,c,dQ k,h1,h2,bw b,RN,F,S];exact i _
end Go.Tel
namespace Go.Am
section
variable {C:Ctx}{base:Nat}{KP:DV->Mem->Prop}{K:PV->Mem->Prop}{M:Mem}
variable{agg:Bool}{f:FuncId}{rest:List PV}
def ajJ {n:Nat}{cs:List DV}(hl:n<=cs.length)(h:SC C f rest M K KP):ay C base (.D8 agg n f) (.d (.aV cs)::rest) M K KP:=by
 simp only[ay,cO];exact⟨hl,SC.mono h fun p M' hh=>⟨⟨hl,trivial⟩,hh⟩⟩
def ajI {n b off:Nat}{cs:List PV}(hb:M.boxes[b]?=some (some cs))(hl:off+n<=cs.length)(h:SC C f rest M (fun p M'=>M'.boxes[b]?=M.boxes[b]?/\K p M') KP):ay C base (.D8 agg n f) (.ptr b off::rest) M K KP:=by
 have a:M.box b=some cs:=by simp[Mem.box,hb]
 simp only[ay,cO,a];refine⟨hl,SC.mono h fun p M' hh=>⟨?_,hh.2⟩⟩;have apq:M'.box b=some cs:=by simp[Mem.box,hh.1,hb]
 simp only[apq];exact⟨hl,trivial⟩
end
end Go.Am
namespace Go.Tel
open Go.Am
def Dk.goes (D:Dk):De->Bool
 | .strike n=> !D.st.getD n.toNat default&&(D.state n).isSome
 |y=>match D.state (-1)with
  |none=>false
  |some t=>(doS D.su t y).isSome
variable{D:Dk}
def Q7 {y:De}(a:∀n,y≠ .strike n):D.goes y=match D.state (-1)with|none=>false|some t=>(doS D.su t y).isSome:=by
 cases y with
 |strike n=>exact absurd rfl (a n)
 | _=>rfl
def al5 {y:De}(a:∀n,y≠ .strike n):(y.ty==T.bT)=false:=by
 cases y with
 |strike n=>exact absurd rfl (a n)
 | _=>rfl
variable{bs:List (Option (List PV))}{fz:List Nat}{ar:List (Option Arr)}
def Frm.new {xb:List (Option (List PV))}{xf:List Nat}(hx:∀i∈xf,bs.length<=i/\i<bs.length+xb.length):Frm ⟨bs,fz,ar⟩ ⟨bs++xb,xf++fz,ar⟩:=by
 have:=Frm.ext (bs:=bs) (xb:=xb) (fz:=fz) (xf:=xf) (ar:=ar) (xa:=[]) hx
 simpa using this
variable{d:Nat}{M:Mem}
def aeM {ce cs:PV}(h:nZ D d ce cs M)(i:D.Ok)(y:De)(hf:D.gX y=true)(L:kV D.su D.su.sp0 y){pb:Nat}(r:M.boxes[pb]?=some (some [.ptr d 0])):
  SC C 112 [.d (.aV [y.dv]), .ptr pb 0] M (fun _ M'=>D.goes y=true/\Frm M M') (fun w M'=>D.goes y=false/\IJ w/\Frm M M'):=by
 obtain⟨bs,fz,ar⟩:=M;have f:=h.box;rw[je]at f;simp only at f r;have O:d<bs.length:=(U.1 f).1;have m:pb<bs.length:=(U.1 r).1;have q:bs.length∉fz:=fun e=>am _ (h.fzb _ e)
 have K:∀k,d<bs.length+k:=fun k=>by omega
 have s:∀k,pb<bs.length+k:=fun k=>by omega
 have c:∀x,Frm ⟨bs,fz,ar⟩ ⟨bs++ [x],bs.length::fz,ar⟩:=fun x=>Frm.new (xf:=[bs.length]) (by simp)
 refine aC jW gY ?_
 by_cases hs:∃n,y= .strike n
 ·obtain⟨n,rfl⟩:=hs
  have A:(De.strike n).dv= .iface T.bT (.agg [dI n]):=rfl;have z:(0<=n/\n<=(D.es.length:Int) - 1)/\n.toNat<D.st.length:=by
   simp only[Dk.gX,inR,aq,decide_eq_true_eq]at hf;have:=i.len;omega
  rw[A];simp only[jW,gY,nD,r,m,O,K,s,f,dQ,bJ,dB,q,Y,RN,F,H,S];obtain⟨k2,acR,ai,rfl,p,_⟩:=G9 h.str (by intro e;simp at e;rw[e]at z;simp at z);simp only at p;simp only[p,z.1.1,z.2,V,getD_map,kN,RN,S];cases u:D.st.getD n.toNat default
  ·simp only[r,m,dQ,Y,RN,F,S]
   refine SC.kZ (SC.mono (MZ (h.frm (c _)) i n) ?_) ?_
   ·rintro v M' ⟨t,b,mb,a,cst,cse,rfl,g,o,j,_⟩
    obtain⟨E,G,ar'⟩:=M';(try simp only[RN,F,H,I,J,N,S]);exact⟨by simp only[Dk.goes,u,g];rfl,(c _).trans j⟩
   ·rintro w M' ⟨g,o,j⟩
    exact⟨by simp[Dk.goes,g],o,(c _).trans j⟩
  ·simp only[RN,F,S]
   exact⟨by simp only[Dk.goes,u,cF,bd],⟨_,rfl,rfl,rfl⟩,c _⟩
 ·have B:∀n,y≠ .strike n:=fun n e=>hs ⟨n,e⟩
  have A:y.dv= .iface y.ty y.cs:=rfl;rw[A];simp only[jW,gY,fU (al5 B),r,m,s,dQ,bJ,dB,q,Y,RN,F,H,S];refine ajJ (by simp) ?_;refine SC.kZ (SC.mono (MZ (h.frm (c _)) i (-1)) ?_) ?_
  ·rintro v M' ⟨t,b,mb,a,cst,cse,rfl,g,o,j,W,X,Z⟩
   obtain⟨E,G,ar'⟩:=M';have l:=i.TQ g;(try simp only[RN,F,H,I,J,N,S]);rw[<-A];refine SC.kZ (SC.mono (agV alQ o (l.sp (by decide)) y (kV.same (n:=0) l.ll.symm l.hh.symm L)) ?_) ?_
   ·rintro v R ⟨t',tK,Ba,P,q2,Q⟩
    obtain⟨ac,ae,ab⟩:=R;(try simp only[RN,F,H,I,J,N,S]);exact⟨by rw[Q7 B,g];simp[P],(c _).trans (j.frs Q W X Z)⟩
   ·rintro w R ⟨P,q2,Q⟩
    exact⟨by rw[Q7 B,g];simp[P],q2,(c _).trans (j.frs Q W X Z)⟩
  ·rintro w M' ⟨g,o,j⟩
   exact⟨by rw[Q7 B,g],o,(c _).trans j⟩
variable{K:PV->Mem->Prop}
def Qj {sz:Nat}{W st1:Bool}{c:PV}{xs ys:List DV}{ex:Bool}(h:slN sz W c xs ar)(a:0<sz)(n:∀y∈ys,y.fits sz=true)(m:st1=true->ys≠[])(hl:xs.length+ys.length<=1073741824)
  (g:∀k ver st ar',(kOf c=some k\/k=ar.length)->ar'[k]?=some (some ⟨sz,xs++ys,ver,st⟩)->(∀j,j≠k->j<ar.length->ar'[j]?=ar[j]?)->ar.length<=ar'.length->st≠2->(st1=true->st=1)->K (.tsl k ver 0) ⟨bs,fz,ar'⟩):
  lT sz st1 c (.d (.slice ex ys)) ⟨bs,fz,ar⟩ K:=by
 rcases h with⟨rfl,rfl⟩|⟨k,ver,st,rfl,l,h2,o⟩
 ·simp only[lT,yQ]
  refine⟨a,n,m,trivial,by simp,by simpa using hl,?_⟩;exact g _ _ _ _ (.inr rfl) (by simp;rfl) (fun j i b=>by rw[ab b]) (by simp) (by cases st1<;>simp) (fun e=>by simp[e])
 ·have f:k<ar.length:=(U.1 l).1
  simp only[lT,yQ,Mem.row,l,if_true];refine⟨a,n,m,trivial,h2,hl,?_⟩;exact g k (ver+1) _ _ (.inl rfl) (by simp[f];rfl) (fun j i _=>ae (Ne.symm i)) (by simp) (by cases st1<;>simp[h2]) (fun e=>by simp[e])
structure FrD (d:Nat) (ce cs ce' cs':PV) (M M':Mem):Prop where
 len:M.boxes.length<=M'.boxes.length
 bP:M.aF.length<=M'.aF.length
 box:∀i,i<M.boxes.length->i≠d->M'.boxes[i]?=M.boxes[i]?
 fz:∀i,i<M.boxes.length->(i∈M'.fz↔i∈M.fz)
 row:∀k,k<M.aF.length->kOf ce≠some k->kOf cs≠some k->M'.aF[k]?=M.aF[k]?
 oe:∀k,kOf ce'=some k->kOf ce=some k\/M.aF.length<=k
 os:∀k,kOf cs'=some k->kOf cs=some k\/M.aF.length<=k
def FrD.trans {d:Nat}{ce cs ce' cs' b c:PV}{M M' M'':Mem}(h:FrD d ce cs ce' cs' M M')(h':FrD d ce' cs' b c M' M''):FrD d ce cs b c M M'':=
 {len:=ao h.len h'.len
  bP:=ao h.bP h'.bP
  box:=fun i f hd=>(h'.box i (az f h.len) hd).trans (h.box i f hd)
  fz:=fun i f=>(h'.fz i (az f h.len)).trans (h.fz i f)
  row:=fun k a h1 h2=>(h'.row k (az a h.bP) (fun e=>(h.oe k e).elim h1 (by omega)) (fun e=>(h.os k e).elim h2 (by omega))).trans (h.row k a h1 h2)
  oe:=fun k a=>(h'.oe k a).elim (fun e=>h.oe k e) (fun e=> .inr (ao h.bP e))
  os:=fun k a=>(h'.os k a).elim (fun e=>h.os k e) (fun e=> .inr (ao h.bP e))}
def Frm.frD {ce cs:PV}{M':Mem}(h:Frm M M'):FrD d ce cs ce cs M M':=
 ⟨h.len,h.bP,fun i a _=>h.box i a,h.fz,fun k b _ _=>h.row k b,fun _=> .inl,fun _=> .inl⟩
variable{ar':List (Option Arr)}
def nZ.aoT {ce cs:PV}(h:nZ D d ce cs ⟨bs,fz,ar⟩){k ver st:Nat}{es:List En}(hk:kOf ce=some k\/k=ar.length)(h1:ar'[k]?=some (some ⟨2,es.map En.dv,ver,st⟩))
  (h2:∀j,j≠k->j<ar.length->ar'[j]?=ar[j]?)(hl:ar.length<=ar'.length)(hst:st≠2):
  nZ {D with es:=es} d (.tsl k ver 0) cs ⟨bs.set d (some (je D.su (.tsl k ver 0) cs)),fz,ar'⟩/\FrD d ce cs (.tsl k ver 0) cs ⟨bs,fz,ar⟩ ⟨bs.set d (some (je D.su (.tsl k ver 0) cs)),fz,ar'⟩:=by
 have c:d<bs.length:=(U.1 h.box).1;have b:∀j,kOf cs=some j->j≠k:=fun j a e=>by
  subst e
  rcases hk with hk|hk
  ·exact h.dif j hk a
  ·have:=NQ h.str a;simp only at this;omega
 constructor
 ·exact
  {box:=by simp[c]
   ent:= .inr ⟨k,ver,st,rfl,h1,hst,fun e=>by cases e⟩
   str:=zK h.str fun j A a f=>(h2 j (b j a) (U.1 f).1).trans f
   dif:=fun j a e=>by cases a;exact b _ e rfl
   nb:=h.nb
   fzb:=fun i l=>by have:=h.fzb i l;simpa using this}
 ·exact
  {len:=by simp
   bP:=hl
   box:=fun i _ hd=>by simp only;rw[ae (Ne.symm hd)]
   fz:=fun _ _=>bN
   row:=fun j a g _=>h2 j (fun e=>by
    subst e
    rcases hk with hk|hk
    ·exact g hk
    ·simp only at a;omega) a
   oe:=fun j a=>by
    cases a
    rcases hk with hk|hk
    ·exact .inl hk
    ·exact .inr (by simp only;omega)
   os:=fun _=> .inl}
def nZ.aoV {ce cs:PV}(h:nZ D d ce cs ⟨bs,fz,ar⟩){k ver:Nat}{l:List Bool}(hk:kOf cs=some k\/k=ar.length)(h1:ar'[k]?=some (some ⟨1,l.map .bool,ver,1⟩))
  (h2:∀j,j≠k->j<ar.length->ar'[j]?=ar[j]?)(hl:ar.length<=ar'.length):
  nZ {D with st:=l} d ce (.tsl k ver 0) ⟨bs.set d (some (je D.su ce (.tsl k ver 0))),fz,ar'⟩/\FrD d ce cs ce (.tsl k ver 0) ⟨bs,fz,ar⟩ ⟨bs.set d (some (je D.su ce (.tsl k ver 0))),fz,ar'⟩:=by
 have c:d<bs.length:=(U.1 h.box).1;have b:∀j,kOf ce=some j->j≠k:=fun j a e=>by
  subst e
  rcases hk with hk|hk
  ·exact h.dif j a hk
  ·have:=NQ h.ent a;simp only at this;omega
 constructor
 ·exact
  {box:=by simp[c]
   ent:=zK h.ent fun j A a f=>(h2 j (b j a) (U.1 f).1).trans f
   str:= .inr ⟨k,ver,1,rfl,h1,by decide,fun _=> .inl rfl⟩
   dif:=fun j a e=>by cases e;exact b _ a rfl
   nb:=h.nb
   fzb:=fun i m=>by have:=h.fzb i m;simpa using this}
 ·exact
  {len:=by simp
   bP:=hl
   box:=fun i _ hd=>by simp only;rw[ae (Ne.symm hd)]
   fz:=fun _ _=>bN
   row:=fun j a _ g=>h2 j (fun e=>by
    subst e
    rcases hk with hk|hk
    ·exact g hk
    ·simp only at a;omega) a
   oe:=fun _=> .inl
   os:=fun j a=>by
    cases a
    rcases hk with hk|hk
    ·exact .inl hk
    ·exact .inr (by simp only;omega)}
def RQ:aA:=
     (.seq
     (.region true [
      of 45 (.load false 1) [.t 2] 2,
      of 46 (.load false 1) [.t 2] 2,
      oa 47 .bH 46,
      of 48 (.fld 2) [.t 47] 2,
      of 49 (.load false 1) [.t 48] 2,
      of 50 (.fld 0) [.t 3] 1,
      of 51 (.load false 1) [.t 50] 1,
      of 52 (.fld 1) [.t 3] 1,
      of 53 (.load false 1) [.t 52] 1,
      oa 54 (.aj 114) 53,
      ob 55 (.build [dI 0, .slice true []] [(0,1),(1,1)]) 51 54,
      of 56 (.dV 2 [.agg [dI 0, .slice true []]] [0]) [.t 55] 1,
      ob 57 (.app 2 false) 49 56,
      oa 58 .bH 45,
      of 59 (.fld 2) [.t 58] 2,
      os (.store 1) [.t 59, .t 57] 0] 0 [2] [])
     (.seq
      (.region true [
       of 60 (.load false 1) [.t 2] 2,
       of 61 (.load false 1) [.t 2] 2,
       oa 62 .bH 61,
       of 63 (.fld 3) [.t 62] 2,
       of 64 (.load false 1) [.t 63] 2,
       of 65 (.dV 1 [.bool false] [0]) [.c (.bool false)] 1,
       ob 66 (.app 1 true) 64 65,
       oa 67 .bH 60,
       of 68 (.fld 3) [.t 67] 2,
       os (.store 1) [.t 68, .t 66] 0] 0 [] [])
      (.seq
      (rg [
       mk 4 (kI 0)] 0 [4])
      .ret)))
def QK {ce cs:PV}(h:nZ D d ce cs ⟨bs,fz,ar⟩)(x:En)(hx:x.ns.length<=1000)(R:D.es.length<=1000)(T:D.st.length<=1000){pb:Nat}(t:bs[pb]?=some (some [.ptr d 0]))(u:pb≠d){nb na:Nat}{Q:Ex->St->Prop}
  (P:∀ce' cs' M',nZ {D with es:=D.es++ [x],st:=D.st++ [false]} d ce' cs' M'->FrD d ce cs ce' cs' ⟨bs,fz,ar⟩ M'->Q .ret ⟨[(4,pI 0)],M'⟩):
  pwp C nb na RQ Q ⟨[(2, .ptr pb 0),(3, .d (.aV [dI x.kind,sF (x.ns.map au)]))],⟨bs,fz,ar⟩⟩:=by
 have a:=h.box;rw[je]at a;simp only at a;have s:d<bs.length:=(U.1 a).1;have v:pb<bs.length:=(U.1 t).1;have g:=h.nb;simp only at g;obtain⟨Y,Z,o3⟩:=adO h.ent;obtain⟨u1,u2,u3⟩:=adO h.str;have r:Pure C 114 [sF (x.ns.map au)] (.d (sF (x.ns.map au))) []:=VD (CJ (x.ns.map au) wE (by simp;omega)) rfl;rw[RQ];simp only[t,v,s,a,RN,F,H,S];refine ak r ?_;simp only[DV.strip,RN,F,H,S];refine Qj h.ent (by decide) (by intro y j;simp only[ap]at j;subst j;rfl) (by simp) (by simp;omega) fun k ver st m z A E G I _=> ?_
 obtain⟨c,w⟩:=h.aoT (k:=k) (ver:=ver) (st:=st) (es:=D.es++ [x]) (ar':=m) z (by rw[A];simp[dO]) E G I;simp only[a,g,dX,fB,RN,H,S];obtain⟨B,o⟩:∃B,B=bs.set d (some (je D.su (.tsl k ver 0) cs)):=⟨_,rfl⟩
 have p:bs.set d (some [.d (.aV D.su.cs), .d (sF (D.su.days.map zZ)), .tsl k ver 0,cs])=B:=by rw[o,je]
 rw[<-o]at c w;simp only[p];have b:=c.box;rw[je]at b;simp only at b;have q:d<B.length:=(U.1 b).1;have e:=c.nb;simp only at e;have f:B[pb]?=some (some [.ptr d 0]):=by rw[o,ae (Ne.symm u)];exact t
 have apj:pb<B.length:=(U.1 f).1;simp only[f,apj,q,b,kN,RN,H,S];refine Qj c.str (by decide) (by intro y j;simp only[ap]at j;subst j;rfl) (by simp) (by simp;omega) fun V acR W n b1 J K L X M=> ?_
 have i:=M rfl;subst i;obtain⟨N,O⟩:=c.aoV (k:=V) (ver:=acR) (l:=D.st++ [false]) (ar':=n) b1 (by rw[J];simp) K L;simp only[b,e,dX,fB,RN,H,S];refine P _ _ _ N ?_;rw[<-je];exact w.trans O
def De.YU:De->Option Nat
 | .strike n=>some n.toNat
 | _=>none
def Dk.with (D:Dk)(x:En):Dk:=match x.deed.YU with
 |some n=>{D with es:=D.es++ [x],st:=D.st.set n true++ [false]}
 |none=>{D with es:=D.es++ [x],st:=D.st++ [false]}
def Dk.enter (D:Dk)(x:En):Dk×Int:=
 if x.formed=false then(D,2)else if D.es.length=24 then(D,3)else if D.gX x.deed=false then(D,2)else if D.goes x.deed then(D.with x,0)else(D,7)
def Frm.aiV {a:List (Option (List PV))}{b:List Nat}{x y:Option (List PV)}{i:Nat}(h:Frm M ⟨a,b,ar'⟩)(hi:M.boxes.length<=i):Frm M ⟨(a++ [x]).set i y,b,ar'⟩:=
 {len:=by have:=h.len;simp only[bL,Y]at this⊢;omega
  bP:=h.bP
  box:=fun j c=>by
   have h1:=h.len;have h2:=h.box j c;simp only at h1 h2⊢;rw[ae (by omega),ab (by omega)];exact h2
  fz:=h.fz
  row:=h.row
  fzb:=fun e j c=>by have:=h.fzb e j c;simp only[bL,Y]at this⊢;omega}
def aeN (h:D.Ok)(x:En)(hf:x.formed=true)(hb:D.gX x.deed=true)(hl:D.es.length≠24):(D.with x).Ok:=by
 have b:=WR hf hb;have h1:=h.few;unfold Dk.with
 cases x.deed.YU<;>simp only
 ·exact⟨h.su,by simp[h.len],by simp;omega,fun y a=>by
   rcases av.1 a with a|a
   ·exact h.formed y a
   ·simp only[ap]at a;rw[a];exact hf,fun y a=>by
   rcases av.1 a with a|a
   ·exact h.fine y a
   ·simp only[ap]at a;rw[a];exact b⟩
 ·exact⟨h.su,by simp[h.len],by simp;omega,fun y a=>by
   rcases av.1 a with a|a
   ·exact h.formed y a
   ·simp only[ap]at a;rw[a];exact hf,fun y a=>by
   rcases av.1 a with a|a
   ·exact h.fine y a
   ·simp only[ap]at a;rw[a];exact b⟩
def Yw (h:D.Ok)(x:En):(D.enter x).1.Ok:=by
 unfold Dk.enter
 split
 ·exact h
 split
 ·exact h
 split
 ·exact h
 split
 ·rename_i h1 h2 a _
  exact aeN h x (by simpa using h1) (by simpa using a) h2
 ·exact h
def nZ.row {D:Dk}{d k ver:Nat}{ce:PV}{bs:List (Option (List PV))}{fz:List Nat}{ar:List (Option Arr)}(h:nZ D d ce (.tsl k ver 0) ⟨bs,fz,ar⟩)(hk:k<ar.length)(l:List Bool):
  nZ {D with st:=l} d ce (.tsl k ver 0) ⟨bs,fz,ar.set k (some ⟨1,l.map .bool,ver,1⟩)⟩/\FrD d ce (.tsl k ver 0) ce (.tsl k ver 0) ⟨bs,fz,ar⟩ ⟨bs,fz,ar.set k (some ⟨1,l.map .bool,ver,1⟩)⟩:=by
 constructor
 ·exact
  {box:=h.box
   ent:=zK h.ent fun j A a c=>by
    simp only;rw[ae (fun e=>by subst e;exact h.dif _ a rfl)];exact c
   str:= .inr ⟨k,ver,1,rfl,by simp[hk],by decide,fun _=> .inl rfl⟩
   dif:=h.dif
   nb:=h.nb
   fzb:=h.fzb}
 ·exact
  {len:=aL _
   bP:=by simp
   box:=fun _ _ _=>rfl
   fz:=fun _ _=>bN
   row:=fun j a _ b=>by simp only;rw[ae (fun e=>b (by rw[e];rfl))]
   oe:=fun _=> .inl
   os:=fun _=> .inl}
def CS {x:En}(h:x.formed=true):x.ns.length<=3:=by
 simp only[En.formed,aq,decide_eq_true_eq]at h;have:=adp x.kind;omega
def Zt:aA:=
(.seq
 (.region false [
  oa 2 (.box 0) 0,
  oa 3 (.box 1) 1,
  mk 4 (kI 0)] 2 [2,3] [3])
 (.seq
 (.seq
  (rg [
   lo 9 2,
   oa 10 (.jE 69) 9,
   oa 11 (.un .not) 10] 0 [2,3,11])
  (.cond (.t 11)
  (.seq
   (rg [
    mk 4 (kI 1)] 0 [4])
   .ret)
  .skip))
 (.seq
  (.seq
  (rg [
   oa 12 (.load true 2) 3,
   oa 13 (.aj 110) 12,
   oa 14 (.un .not) 13] 0 [2,3,14])
  (.cond (.t 14)
   (.seq
   (rg [
    mk 4 (kI 2)] 0 [4])
   .ret)
   .skip))
  (.seq
  (.seq
   (rg [
    lo 15 2,
    oa 16 .bH 15,
    oa 17 (.fld 2) 16,
    lo 18 17,
    oa 19 .len 18,
    oc 20 (.bin .eql) 19 (kI 24)] 0 [2,3,20])
   (.cond (.t 20)
   (.seq
    (rg [
     mk 4 (kI 3)] 0 [4])
    .ret)
   .skip))
  (.seq
   (.region false [
    oa 21 (.load true 2) 3,
    oa 22 (.aj 111) 21,
    on 5 (.alloc 0 [.nilIface]) [],
    os (.store 1) [.t 5, .t 22] 0] 1 [2,3,5] [5])
   (.seq
   (.seq
    (rg [
     lo 23 5,
     lo 24 2,
     ob 25 (.inv "tellurion/journeyman.fine") 23 24,
     oa 26 (.un .not) 25] 0 [2,3,5,26])
    (.cond (.t 26)
    (.seq
     (rg [
      mk 4 (kI 2)] 0 [4])
     .ret)
    .skip))
   (.seq
    (rg [
     ob 27 (.mkF (.func 112) 0) 5 2,
     oa 28 (.call 72) 27,
     mv 6 28] 0 [2,3,5,6])
    (.seq
    (.seq
     (rg [
      mv 29 6,
      oc 30 (.bin .neq) 29 (kI 0)] 0 [2,3,5,6,30])
     (.cond (.t 30)
     (.seq
      (rg [
       mv 31 6,
       mv 4 31] 0 [4])
      .ret)
     .skip))
    (.seq
     (.seq
     (.region false [
      lo 33 5,
      oa 34 (.tas T.bT (.agg [dI 0])) 33,
      mv 32 34,
      oa 35 (.ext 0) 32,
      oa 36 (.ext 1) 32,
      on 7 (.alloc 0 [dI 0]) [],
      os (.store 1) [.t 7, .t 35] 0,
      mv 8 36] 1 [2,3,7,8] [7])
     (.seq
      (rg [
       mv 37 8] 0 [2,3,7,37])
      (.cond (.t 37)
      (.region true [
       of 38 (.load false 1) [.t 2] 2,
       oa 39 .bH 38,
       of 40 (.fld 3) [.t 39] 2,
       of 41 (.load false 1) [.t 40] 2,
       of 42 (.fld 0) [.t 7] 1,
       of 43 (.load false 1) [.t 42] 1,
       ob 44 (.aS 1) 41 43,
       os (.store 1) [.t 44, .c (.bool true)] 3] 0 [2,3] [])
      .skip)))
     RQ)))))))))
def ace:qV=Zt:=rfl
def agb {ce cs:PV}(h:nZ D d ce cs M)(o:D.Ok)(x:En){KP:DV->Mem->Prop}:
  SC C 38 [.ptr d 0, .d x.dv] M (fun p M'=>p= .d (dI (D.enter x).2)/\∃ce' cs',nZ (D.enter x).1 d ce' cs' M'/\FrD d ce cs ce' cs' M M') KP:=by
 obtain⟨bs,fz,ar⟩:=M;have m:=h.box;rw[je]at m;simp only at m;have av:d<bs.length:=(U.1 m).1;have E8:∀i∈fz,i<bs.length:=h.fzb
 have a1:bs.length∉fz:=fun e=>am _ (E8 _ e)
 have aD:∀k,bs.length+k∉fz:=fun k e=>by have:=E8 _ e;omega
 have aM:¬d=bs.length:=by omega
 have aR:∀k,¬d=bs.length+k:=fun k=>by omega
 have a0:∀k,d<bs.length+k:=fun k=>by omega
 have a2:¬bs.length+1=bs.length:=by omega
 have a3:¬bs.length+2=bs.length:=by omega
 have aE:¬bs.length+2=bs.length+1:=by omega
 have r:Frm ⟨bs,fz,ar⟩ ⟨bs++ [some [.ptr d 0],some [pI x.kind, .d (sF (x.ns.map au))]],(bs.length+1)::fz,ar⟩:=Frm.new (xf:=[bs.length+1]) (by simp);obtain⟨e1,e2,az⟩:=JF (h.frm r);have Q:=abG x;rw[dO]at Q;have P:D.es.length<=24:=o.few;have ac:D.st.length<=24:=by rw[<-o.len];exact o.few
 refine aC qV aK ?_;rw[ace];simp only[Zt,aK,dO,jY,bJ,nS,dB,Y,vY,Rl,RN,F,H,S];refine lu (JE az) rfl (YT e1 e2 D) rfl ?_;(try simp only[RN,F,H,S]);refine ak Q ?_;cases b:x.formed
 ·(try simp only[RN,F])
  have t:D.enter x=(D,2):=by simp[Dk.enter,b]
  rw[t];exact⟨rfl,_,_,h.frm r,r.frD⟩
 simp only[m,av,dQ,bJ,Y,RN,F,H,S];rw[XF h.ent]
 by_cases q:D.es.length=24
 ·have hb:(((D.es.map En.dv).length:Int)==24)=true:=by simp[q]
  simp only[hb,RN,F];have t:D.enter x=(D,3):=by simp[Dk.enter,b,q]
  rw[t];exact⟨rfl,_,_,h.frm r,r.frD⟩
 have hb:(((D.es.map En.dv).length:Int)==24)=false:=by simp;omega
 have O:=QI x (Ac b);rw[dO]at O;simp only[hb,RN,F,H,S];refine ak O ?_;have apw:=(De.one x.deed).1;have apx:=(De.one x.deed).2;simp only[apw,apx,jY,bJ,nS,aw,Y,aD,aE,RN,F,H,S];have f:Frm ⟨bs,fz,ar⟩ ⟨bs++ [some [.ptr d 0],some [pI x.kind, .d (sF (x.ns.map au))],some [.d x.deed.dv]],(bs.length+2)::(bs.length+1)::fz,ar⟩:=Frm.new (xf:=[bs.length+2,bs.length+1]) (by simp);refine aha (h.frm f) o x.deed ?_;cases l:D.gX x.deed
 ·(try simp only[RN,F])
  have t:D.enter x=(D,2):=by simp[Dk.enter,b,q,l]
  rw[t];exact⟨rfl,_,_,h.frm f,f.frD⟩
 have ap:kV D.su D.su.sp0 x.deed:=WR b l;simp only[oh,be,RN,F];obtain⟨B,hB⟩:∃B,B=bs++ [some [.ptr d 0],some [pI x.kind, .d (sF (x.ns.map au))],some [.d x.deed.dv]]:=⟨_,rfl⟩
 obtain⟨Z,hZ⟩:∃Z,Z=(bs.length+2)::(bs.length+1)::fz:=⟨_,rfl⟩
 have ae:B.length=bs.length+3:=by rw[hB];simp
 have L:B[bs.length]?=some (some [.ptr d 0]):=by rw[hB,bJ rfl];rfl
 rw[<-hB,<-hZ]at f;simp only[<-hB,<-hZ];have ai:Frm ⟨B,Z,ar⟩ ⟨B++ [some [pI 0]],Z,ar⟩:=Frm.new (xf:=[]) (by simp);have abv:=f.trans ai;have z0:((0:Int) !=0)=false:=rfl;have z7:((7:Int) !=0)=true:=rfl;refine Qh (fs:=[]) (cs:=[.d (.aV [x.deed.dv]), .ptr bs.length 0]) (f.fzb h.fzb) (by kernel_rfl) ?_;refine SC.kZ (SC.mono (aeM (h.frm abv) o x.deed l ap (pb:=bs.length) ?_) ?_) ?_
 ·simp only;rw[ab (by omega)];exact L
 ·rintro v ⟨a,c,ar'⟩ ⟨g1,I⟩
  have g:=abv.trans I;have N:=h.frm g;have G:=g.len;simp only at G;have w:a[bs.length]?=some (some [.ptr d 0]):=by
   have:=I.box bs.length (by simp only[Y,ae];omega);simp only at this;rw[this,ab (by omega)];exact L
  have z:a[B.length]?=some (some [pI 0]):=by
   have:=I.box B.length (by simp);simp only at this;rw[this,bJ rfl];rfl
  have A:B.length∉c:=fun e=>by
   have:=(I.fz B.length (by simp)).1 e;simp only at this;have h5:=f.fzb h.fzb _ this;simp only at h5;omega
  refine⟨z,A,?_⟩;have t:D.enter x=(D.with x,0):=by simp[Dk.enter,b,q,l,g1]
  rw[t];have ahm:=N.fzb;have u:a.length∉c:=fun e=>am _ (ahm _ e)
  have W:bs.length≠d:=by omega
  have ank:bs.length<a.length:=(U.1 w).1;simp only[z0,RN,F,S]
  by_cases K:∃n,x.deed= .strike n
  ·obtain⟨n,K⟩:=K
   have hx:(De.strike n).dv= .iface T.bT (.agg [dI n]):=rfl;have J:(0<=n/\n<=(D.es.length:Int) - 1)/\n.toNat<D.st.length:=by
    rw[K]at l;simp only[Dk.gX,inR,aq,decide_eq_true_eq]at l;have:=o.len;omega
   have am3:=N.box;rw[je]at am3;simp only at am3;have apu:d<a.length:=by omega
   obtain⟨k2,acR,a4,rfl,R,_,s⟩:=G9 h.str (by intro e;simp at e;rw[e]at J;simp at J);have s:=s rfl;subst s;have E:ar'[k2]?=some (some ⟨1,D.st.map .bool,acR,1⟩):=(g.row k2 (U.1 R).1).trans R;have apD:=(U.1 E).1;have apv:∀k,d<a.length+k:=fun k=>by omega
   have apO:∀k,bs.length<a.length+k:=fun k=>by omega
   rw[K,hx];simp only[nD,w,am3,apu,ank,apv,apO,dQ,bJ,dB,u,Y,E,J.1.1,J.2,V,RN,F,H,S];refine zN (ds:=[.bool true]) E rfl (by decide) rfl rfl (by rw[getD_map J.2];exact aL 1) ?_;have X:(D.st.map DV.bool).set n.toNat (setCells ((D.st.map DV.bool).getD n.toNat default) 0 [.bool true])=(D.st.set n.toNat true).map .bool:=by
    rw[cr,getD_map J.2];rfl
   rw[X];have j:Frm ⟨bs,fz,ar⟩ ⟨a++ [some [pI n]],a.length::c,ar'⟩:=g.trans (Frm.new (xf:=[a.length]) (by simp));obtain⟨q3,q4⟩:=(h.frm j).row apD (D.st.set n.toNat true);refine QK q3 x (by have:=CS b;omega) (ao P (by decide)) (by rw[bL];exact ao ac (by decide)) (pb:=bs.length) (by rw[ab ank];exact w) W fun ce' cs' M' q1 q2=> ?_
   (try simp only[RN]);have hw:D.with x={D with es:=D.es++ [x],st:=D.st.set n.toNat true++ [false]}:=by
    unfold Dk.with
    rw[K];rfl
   rw[hw];exact⟨_,_,q1,(j.frD.trans q4).trans q2⟩
  ·have hy:∀n,x.deed≠ .strike n:=fun n e=>K ⟨n,e⟩
   have hx:x.deed.dv= .iface x.deed.ty x.deed.cs:=rfl;rw[hx];simp only[fU (al5 hy),bJ,dB,u,Y,RN,F,S];have j:Frm ⟨bs,fz,ar⟩ ⟨a++ [some [pI 0]],a.length::c,ar'⟩:=g.trans (Frm.new (xf:=[a.length]) (by simp));refine QK (h.frm j) x (by have:=CS b;omega) (ao P (by decide)) (ao ac (by decide)) (pb:=bs.length) (by rw[ab ank];exact w) W fun ce' cs' M' q1 q2=> ?_
   (try simp only[RN]);have hw:D.with x={D with es:=D.es++ [x],st:=D.st++ [false]}:=by
    unfold Dk.with
    cases hd:x.deed with
    |strike n=>exact absurd hd (hy n)
    | _=>rfl
   rw[hw];exact⟨_,_,q1,j.frD.trans q2⟩
 ·rintro dd ⟨a,c,ar'⟩ ⟨g1,I,g3⟩
  have g:=abv.trans g3;have G:=g3.len;simp only[Y,an,ax]at G;have z:a[B.length]?=some (some [pI 0]):=by
   have:=g3.box B.length (by simp);simp only at this;rw[this,bJ rfl];rfl
  have A:B.length∉c:=fun e=>by
   have:=(g3.fz B.length (by simp)).1 e;simp only at this;have h5:=f.fzb h.fzb _ this;simp only at h5;omega
  have ahm:=g.fzb h.fzb;have u:a.length∉c:=fun e=>am _ (ahm _ e)
  have t:D.enter x=(D,7):=by simp[Dk.enter,b,q,l,g1]
  refine⟨z,A,u, .inl ⟨I,fun y=> ?_⟩⟩;rw[t];simp only[z7,RN,F];have j:Frm ⟨bs,fz,ar⟩ ⟨(a++ [y]).set B.length (some [pI 7]),c,ar'⟩:=g.aiV (by simp only;omega);exact⟨_,_,h.frm j,j.frD⟩
def oq (f1 f2 e1 e2:Bool)(D:Dk)(t:Sp):List DV:=[.aV (t.cells f1 f2 D.su), .aV (IZ e1 e2 D)]
def xW (f1 f2 e1 e2:Bool)(D:Dk)(t:Sp):DV:= .agg (oq f1 f2 e1 e2 D t)
def jc {f1 f2 e1 e2:Bool}{t:Sp}:xW f1 f2 e1 e2 D t= .agg [.aV (t.cells f1 f2 D.su), .aV (IZ e1 e2 D)]:=rfl
def Ans (f:FuncId)(ds:List DV)(l:List Int)(e:Int):Prop:=
 Pure C f ds (.tup [.tsl 0 0 0,pI e]) [⟨1,l.map au,0,xQ l⟩]\/(l=[]/\Pure C f ds (.d (.tup [.slice true [],dI e])) [])
variable{f:FuncId}{ds:List DV}{l:List Int}{e:Int}
def iC (a:SC C f (ds.map .d) cu (fun p M=>∃c,p= .tup [c,pI e]/\Jv M c 1 (l.map au) (xQ l)) (fun _ _=>False)):Ans f ds l e:=by
 refine .inl (DC (SC.mono a fun p M h=> ?_));obtain⟨c,rfl,k,ver,rfl,h⟩:=h;refine⟨[(k,0)],⟨fun q b=>by simp only[ap]at b;subst b;simp[Ah,h],by simp⟩,?_,?_⟩
 ·simp[ren,ais,SS,Mem.row,h,LG]
 ·simp[mkRow,h]
def zX (hl:l=[])(h:Pure C f ds (.d (.tup [.slice true [],dI e])) []):Ans f ds l e:= .inr ⟨hl,h⟩
variable{base:Nat}{KP:DV->Mem->Prop}
def yU {C:Ctx}{z:DV}{k:IntKind}{n:Int}:ay C base (.oK 1 [z] [0]) [.d (.int k n)] M K KP=K (.tsl M.aF.length 0 0) {M with aF:=M.aF++ [some ⟨1,[.int k n],0,1⟩]}:=
 GK rfl (by decide)
def abe {C:Ctx}{z1 b:DV}{k k':IntKind}{n a:Int}:ay C base (.oK 1 [z1,b] [0,1]) [.d (.int k n), .d (.int k' a)] M K KP=K (.tsl M.aF.length 0 0) {M with aF:=M.aF++ [some ⟨1,[.int k n, .int k' a],0,1⟩]}:=by
 simp[ay,ji,vJ,DV.strip,DV.cells,DV.fits,DV.one]
def abf {C:Ctx}{z1 e f:DV}{k k' a:IntKind}{n b c:Int}:ay C base (.oK 1 [z1,e,f] [0,1,2]) [.d (.int k n), .d (.int k' b), .d (.int a c)] M K KP=K (.tsl M.aF.length 0 0) {M with aF:=M.aF++ [some ⟨1,[.int k n, .int k' b, .int a c],0,1⟩]}:=by
 simp[ay,ji,vJ,DV.strip,DV.cells,DV.fits,DV.one]
section
variable (f1 f2 e1 e2:Bool){D:Dk}{t:Sp}(ns:List Int)
def anG:Ans 85 [xW f1 f2 e1 e2 D t,sF (ns.map au)] [t.kM] 0:=by
 refine iC (aC qZ bW ?_);simp only[qZ,bW,jc,cZ,yU,bI,dS,RN,F,H,S];exact⟨_,rfl,0,0,rfl,rfl⟩
def aml (a:D.Ok)(d:ns.length=1):Ans 84 [xW f1 f2 e1 e2 D t,sF (ns.map au)] [(D.su.dvd.cuts (ns.getD 0 default)).1.circle,(D.su.dvd.cuts (ns.getD 0 default)).1.turns,(D.su.dvd.cuts (ns.getD 0 default)).1.holes] (D.su.dvd.cuts (ns.getD 0 default)).2:=by
 have b:=aaC D.su.dvd (ns.getD 0 default) (by have:=(Su.Qk a.su).ci;omega);rw[rW,JG]at b;have c:0<ns.length:=by omega
 refine iC (aC qY bW ?_);simp only[qY,bW,jc,cZ,j0,t0,c,V,getD_map,aH,RN,F,H,I,S];refine ak b ?_;simp only[abf,bc,bI,dS,RN,F,H,J,S];exact⟨_,rfl,0,0,rfl,rfl⟩
def amk (d:D.Ok)(f:zS D.su 24 t)(h:ns.length=1):Ans 78 [xW f1 f2 e1 e2 D t,sF (ns.map au)]
  (if inR (ns.getD 0 default) 0 (D.su.pc.hands.length - 1)then[Dx D.su t (ns.getD 0 default).toNat]else[]) (if inR (ns.getD 0 default) 0 (D.su.pc.hands.length - 1)then 0 else 2):=by
 have b:=Fb e1 e2 D (by have:=d.small;omega) (ns.getD 0 default);rw[vG]at b;have e:0<ns.length:=by omega
 cases h1:inR (ns.getD 0 default) 0 ((D.su.pc.hands.length:Int) - 1)
 ·refine zX (by simp) (ah jv bW ?_)
  simp only[jv,bW,jc,j0,t0,e,V,getD_map,aH,RN,F,H,S];refine ak b ?_;simp only[h1,RN,F];simp
 ·have hh:0<=ns.getD 0 default/\ns.getD 0 default<=(D.su.pc.hands.length:Int) - 1:=by simpa[inR]using h1
  obtain⟨a,c⟩:∃a:Nat,ns.getD 0 default=a:=⟨(ns.getD 0 default).toNat,by omega⟩
  have g:=adA f1 f2 D.su t a f.pc (by rw[f.hh];omega);rw[c]at h1 b⊢;refine iC (aC jv bW ?_);simp only[jv,bW,jc,j0,t0,e,V,getD_map,aH,c,RN,F,H,S];refine ak b ?_;simp only[h1,j0,t0,e,V,getD_map,aH,c,RN,F,H,S];refine ak g ?_;simp only[yU,bI,dS,if_true,ai,RN];exact⟨_,rfl,0,0,rfl,rfl⟩
end
def lQ:List Int->Int->Int->Int
 | [],_,l=>l
 |s::r,a,l=>lQ r a (if s<=a then s else l)
def Sp.turns (t:Sp)(day:Int):Int:=day - lQ t.sets day 0
def Fe (day:Int):∀(l:List Int) (a:Int),(∀d∈l,1<=d/\d<=366)->0<=a/\a<=366->0<=lQ l day a/\lQ l day a<=366
 | [],_,_,h=>h
 |s::r,a,b,h=>by
  have c:=b s bu;rw[lQ];refine Fe day r _ (fun d hd=>b d (bj _ hd)) ?_
  split<;>omega
section
variable (f1 f2 e1 e2:Bool){D:Dk}{t:Sp}(ns:List Int)
def X9 (h:zS D.su 24 t)(day:Int)(hd:0<=day/\day<=1000000):Pure C 171 [xW f1 f2 e1 e2 D t,dI day] (pI (t.turns day)) []:=by
 have n:=h.se;refine ah qp aK ?_;simp only[qp,aK,jc,cZ,V,RN,F,H,S];refine aG t.sets.length (fun i (a:Int)=>⟨[(1,pI day),(5,pI a),(12, .d (.slice f2 (t.sets.map au))),(13,pI t.sets.length),(14,pI i)],⟨[some [.d (.aV (t.cells f1 f2 D.su)), .d (.aV (IZ e1 e2 D))]],[0],[]⟩⟩)
  (fun i a=>lQ t.sets day 0=lQ (t.sets.drop i) day a/\0<=a/\a<=366) 0 0 (bk _) (by rw[cZ];rfl) ⟨rfl,by decide,by decide⟩ (fun i a f e=> ?_) (fun a e=> ?_)
 ·obtain⟨l,m,g⟩:=rng f (by omega)
  obtain⟨c,j,k⟩:=e;rw[drop_cons f,lQ]at c;have p:=h.sv _ (getD_mem f);simp only[l,m,f,getD_map,aH,ai,V,RN,F,S]
  by_cases b:t.sets.getD i default<=day
  ·rw[if_pos b]at c
   simp only[b,g,RN,F];exact aX (t.sets.getD i default) f rfl ⟨c,by omega,by omega⟩
  ·rw[if_neg b]at c
   simp only[b,g,RN,F];exact aX a f rfl ⟨c,j,k⟩
 ·obtain⟨c,j,k⟩:=e
  rw[cf,lQ]at c;have o:cM .i64 (day - a)=day - a:=aB (by omega);simp only[a7,o,RN,F];simp only[Sp.turns,c]
def aoX (b:D.Ok)(f:zS D.su 24 t)(m:ns.length=2):Ans 80 [xW f1 f2 e1 e2 D t,sF (ns.map au)]
  (if inR (ns.getD 0 default) 0 (D.su.pc.hands.length - 1)&&inR (ns.getD 1 default) 1 D.su.days.length then[(sN t.pc (ns.getD 0 default) (t.tg.getD (ns.getD 0 default).toNat default) (t.turns (ns.getD 1 default))).1]else[])
  (if inR (ns.getD 0 default) 0 (D.su.pc.hands.length - 1)&&inR (ns.getD 1 default) 1 D.su.days.length then(sN t.pc (ns.getD 0 default) (t.tg.getD (ns.getD 0 default).toNat default) (t.turns (ns.getD 1 default))).2 else 2):=by
 have c:=Fb e1 e2 D (by have:=b.small;omega) (ns.getD 0 default);have hd:=Qg e1 e2 D (ns.getD 1 default);rw[vG]at c hd;have g:(0:Int)<=1:=by omega
 have d:0<ns.length:=by omega
 have l1:1<ns.length:=by omega
 have l:=b.small;cases h1:inR (ns.getD 0 default) 0 ((D.su.pc.hands.length:Int) - 1)
 ·refine zX (by simp) (ah fK bW ?_)
  simp only[fK,bW,jc,j0,t0,d,V,getD_map,aH,RN,F,H,S];refine ak c ?_;simp only[h1,RN,F];simp
 cases h2:inR (ns.getD 1 default) 1 (D.su.days.length:Int)
 ·refine zX (by simp) (ah fK bW ?_)
  simp only[fK,bW,jc,j0,t0,d,V,getD_map,aH,RN,F,H,S];refine ak c ?_;simp only[h1,g,t1,l1,V,getD_map,aH,RN,F,H,S];refine ak hd ?_;simp only[h2,RN,F];simp
 have hh:0<=ns.getD 0 default/\ns.getD 0 default<=(D.su.pc.hands.length:Int) - 1:=by simpa[inR]using h1
 have j:1<=ns.getD 1 default/\ns.getD 1 default<=(D.su.days.length:Int):=by simpa[inR]using h2
 have i:=lK D.su;have k:=Pc.wH f.pc;have a:=X9 f1 f2 e1 e2 (D:=D) f (ns.getD 1 default) (by omega);have h:=acZ t.pc (by omega) (by omega) (ns.getD 0 default) (t.tg.getD (ns.getD 0 default).toNat default) (t.turns (ns.getD 1 default));have e:(ns.getD 0 default).toNat<t.tg.length:=by rw[f.tl];omega
 rw[jc]at a;rw[dA,bK]at h;simp only[b8,if_true];refine iC (aC fK bW ?_);simp only[fK,bW,jc,j0,t0,d,V,getD_map,aH,RN,F,H,S];refine ak c ?_;simp only[h1,g,t1,l1,V,getD_map,aH,RN,F,H,S];refine ak hd ?_;rw[cZ]at a;simp only[h2,cZ,j0,t0,d,g,t1,l1,V,getD_map,aH,hh.1,e,bK,RN,F,H,S];refine ak a ?_;(try simp only[RN,F,H,I,J,N,S]);refine ak h ?_;simp only[yU,bI,dS,RN];exact⟨_,rfl,0,0,rfl,rfl⟩
def amn (h:D.Ok)(s:ns.length=1):Ans 83 [xW f1 f2 e1 e2 D t,sF (ns.map au)]
  (if inR (ns.getD 0 default) 1 D.su.days.length then[(Ea D.su.cal D.su.year.toNat (D.su.first+(ns.getD 0 default - 1))).m,(Ea D.su.cal D.su.year.toNat (D.su.first+(ns.getD 0 default - 1))).d]else[])
  (if inR (ns.getD 0 default) 1 D.su.days.length then 0 else 2):=by
 have hd:=Qg e1 e2 D (ns.getD 0 default);rw[vG]at hd;have j:0<ns.length:=by omega
 cases h2:inR (ns.getD 0 default) 1 (D.su.days.length:Int)
 ·refine zX (by simp) (ah jw bW ?_)
  simp only[jw,bW,jc,j0,t0,j,V,getD_map,aH,RN,F,H,S];refine ak hd ?_;simp only[h2,RN,F];simp
 have n:1<=ns.getD 0 default/\ns.getD 0 default<=(D.su.days.length:Int):=by simpa[inR]using h2
 have l:=lK D.su;obtain⟨a,e⟩:∃a:Nat,ns.getD 0 default=((a+1:Nat):Int):=⟨(ns.getD 0 default - 1).toNat,by omega⟩
 have b:a<D.su.days.length:=by omega
 have r:cM .i64 (((a+1:Nat):Int) - 1)=(a:Int):=by rw[aB (by omega)];omega
 have p:(0:Int)<=(a:Int):=by omega
 have f:a<D.su.dur:=by simpa[Su.days,Su.qK]using b
 have g:D.su.days.getD a default=(D.su.first+a,D.su.works (D.su.first+a)):=by
  simp only[Su.days,Su.qK,bq,bi,List.getElem?_range f,bh,aM]
 obtain⟨v,_,_,_,q,_,_,w,_⟩:=Su.facts h.su;have o:=CQ D.su.cal D.su.year.toNat;have k:=D.su.cal.jC D.su.year.toNat;have c:=al8 D.su.cal D.su.year.toNat (D.su.first+a) q (by omega) (by simp only[Su.first];omega) (by
  have e1:D.su.cal.first (D.su.year.toNat+1)=D.su.cal.first D.su.year.toNat+o8 (D.su.cal.leap D.su.year):=by
   rw[Cal.first];rw[show((D.su.year.toNat:Nat):Int)=D.su.year by omega]
  have e2:(D.su.dur:Int)=o8 (D.su.cal.leap D.su.year):=by
   have:=l9 (D.su.cal.leap D.su.year);simp only[Su.dur];split at this<;>omega
  rw[e1,<-e2,Su.first];omega)
 have u:(ns.getD 0 default - 1)=(a:Int):=by omega
 rw[dZ,oG]at c;rw[e]at hd h2;refine iC (aC jw bW ?_);simp only[jw,bW,jc,j0,t0,j,V,getD_map,aH,e,RN,F,H,S];refine ak hd ?_;simp only[h2,cZ,j0,t0,j,V,getD_map,aH,e,r,p,b,ai,aa7,g,RN,F,H,I,S];refine ak c ?_;simp only[abe,bc,bI,dS,if_true,RN,F,H,J,S];refine⟨_,rfl,0,0,rfl,?_⟩;have i:(((a+1:Nat):Int) - 1)=(a:Int):=by omega
 rw[i]
 rfl
end
def kH (p:Int->Bool):Nat->Int->Option Int
 |0,_=>none
 |k+1,n=>if p n then some n else kH p k (n+1)
def Dk.nX (D:Dk)(d:Int):Bool:=(D.su.days.getD (d - 1).toNat default).2
section
variable (f1 f2 e1 e2:Bool){D:Dk}{t:Sp}(ns:List Int)
def ajr (d:Int)(hd:1<=d/\d<=D.su.days.length):Pure C 174 [dI d, .aV (oq f1 f2 e1 e2 D t)] (.d (.bool (D.nX d))) []:=by
 have a:=lK D.su;have c:cM .i64 (d - 1)=d - 1:=aB (by omega);have j0:0<=d - 1:=by omega
 have b:(d - 1).toNat<D.su.days.length:=by omega
 refine ah nP Xv ?_;simp only[nP,Xv,oq,cZ,c,j0,b,V,getD_map,aa7,RN,F,H,S]
 rfl
def abl (a b:Int)(fn:FuncId)(c:List DV)(p:Int->Bool)(o:1<=a/\a<=b/\b<=1000000)(hc:callable C.P fn=true)(j:∀x,1<=x->x<=b->Pure C fn ([dI x]++c.map DV.strip) (.d (.bool (p x))) []):
  Pure C 173 [dI a,dI b, .func (.func fn) [] c] (.d (.tup [dI ((kH p (b+1 - a).toNat a).getD 0), .bool (kH p (b+1 - a).toNat a).isSome])) []:=by
 refine ah sZ Iy ?_;simp only[sZ,Iy,RN,F,H];refine iE (fun(n:Int)=>⟨[(1,pI b),(2, .d (.func (.func fn) [] c)),(8,pI n)],⟨[],[],[]⟩⟩)
  (fun n=>1<=n/\n<=b+1/\kH p (b+1 - a).toNat a=kH p (b+1 - n).toNat n) (fun n=>(b+1 - n).toNat) a rfl ⟨by omega,by omega,rfl⟩ (fun n i=> ?_)
 obtain⟨l,q,e⟩:=i
 by_cases f:n<=b
 ·obtain⟨k,h⟩:∃k,(b+1 - n).toNat=k+1:=⟨(b - n).toNat,by omega⟩
  rw[h,kH]at e;have m:cM .i64 (n+1)=n+1:=aB (by omega);simp only[f,RN,F];refine JA rfl hc rfl (j n l f) ?_;cases g:p n
  ·rw[g]at e
   simp only[Bool.false_eq_true,if_false]at e;simp only[m,RN,F];exact vF (a:=n) (μ:=fun n=>(b+1 - n).toNat) (n+1) (by show(b+1 - (n+1)).toNat<(b+1 - n).toNat;omega) rfl ⟨by omega,by omega,by rw[e,show(b+1 - (n+1)).toNat=k by omega]⟩
  ·rw[g]at e
   simp only[if_true]at e;simp only[e,aM,aE,RN,F]
 ·rw[show(b+1 - n).toNat=0 by omega,kH]at e
  simp only[f,e,bo,aD,RN,F]
def alJ (g:D.Ok)(h:ns.length=1):Ans 82 [xW f1 f2 e1 e2 D t,sF (ns.map au)]
  (if inR (ns.getD 0 default) 1 D.su.days.length then(match kH D.nX ((D.su.days.length:Int)+1 - ns.getD 0 default).toNat (ns.getD 0 default)with|some d=>[d]|none=>[])else[])
  (if inR (ns.getD 0 default) 1 D.su.days.length then(match kH D.nX ((D.su.days.length:Int)+1 - ns.getD 0 default).toNat (ns.getD 0 default)with|some _=>0|none=>5)else 2):=by
 have hd:=Qg e1 e2 D (ns.getD 0 default);rw[vG]at hd;have b:0<ns.length:=by omega
 cases h2:inR (ns.getD 0 default) 1 (D.su.days.length:Int)
 ·refine zX (by simp) (ah eX bW ?_)
  simp only[eX,bW,jc,j0,t0,b,V,getD_map,aH,RN,F,H,S];refine ak hd ?_;simp only[h2,RN,F];simp
 have f:1<=ns.getD 0 default/\ns.getD 0 default<=(D.su.days.length:Int):=by simpa[inR]using h2
 have e:=lK D.su;have a:=abl (ns.getD 0 default) (D.su.days.length:Int) 174 [.aV (oq f1 f2 e1 e2 D t)] D.nX (by omega) (by kernel_rfl) (fun x h1 h2=>ajr f1 f2 e1 e2 x ⟨h1,h2⟩);simp only[if_true];cases c:kH D.nX ((D.su.days.length:Int)+1 - ns.getD 0 default).toNat (ns.getD 0 default)with
 |none=>
  rw[c]at a;refine zX rfl (ah eX bW ?_);simp only[eX,bW,jc,j0,t0,b,V,getD_map,aH,RN,F,H,S];refine ak hd ?_;simp only[h2,cZ,j0,t0,b,V,getD_map,aH,RN,F,H,S];rw[oq,cZ]at a;refine ak a ?_;simp only[aD,RN,F]
 |some x=>
  rw[c]at a;refine iC (aC eX bW ?_);simp only[eX,bW,jc,j0,t0,b,V,getD_map,aH,RN,F,H,S];refine ak hd ?_;simp only[h2,cZ,j0,t0,b,V,getD_map,aH,RN,F,H,S];rw[oq,cZ]at a;refine ak a ?_;simp only[aE,aM,yU,bI,dS,RN,F];exact⟨_,rfl,0,0,rfl,rfl⟩
def Qw (s:Su)(t:Sp)(turns:Int):List Fr->Nat->Bool
 | [],_=>false
 |f::l,h=> !HY s t h f turns||Qw s t turns l (h+1)
def IU (s:Su)(t:Sp)(i:Nat):Bool:=Qw s t (t.turns ((i:Int)+1)) t.tg 0
def nN (s:Su)(t:Sp)(n:Nat):Int:=(((cD n).filter (IU s t)).length:Nat)
def PU (s:Su)(t:Sp)(n:Nat):nN s t (n+1)=if IU s t n then nN s t n+1 else nN s t n:=by
 simp only[nN,cB,bO,Y,cw,List.filter_nil]
 split<;>simp
def NU (s:Su)(t:Sp)(n:Nat):0<=nN s t n/\nN s t n<=n:=by
 have:=bE (IU s t) (cD n);simp only[bz]at this;simp only[nN];omega
def alM (m:D.Ok)(g:zS D.su 24 t):Ans 81 [xW f1 f2 e1 e2 D t,sF (ns.map au)] [nN D.su t D.su.days.length] 0:=by
 have p:=lK D.su;have q:=Pc.wH g.pc;have f:0<=D.su.lim/\D.su.lim<=10800:=by simpa[inR]using(Su.facts m.su).2.2.1
 have r:t.tg.length<=4:=by rw[g.tl,<-g.hh];omega
 refine iC (aC qw bW ?_);simp only[qw,bW,jc,cZ,V,RN,F,H,S];refine aG D.su.days.length (fun i (_:Unit)=>⟨[(2, .d (.aV (oq f1 f2 e1 e2 D t))),(6,pI (nN D.su t i)),(15,pI D.su.days.length),(16,pI i)],⟨[some ((oq f1 f2 e1 e2 D t).map .d)],[0],[]⟩⟩)
  (fun _ _=>True) 0 () (bk _) (by rw[oq,cZ];rfl) trivial (fun i _ k _=> ?_) (fun _ _=> ?_)
 ·obtain⟨o,y,n⟩:=rng k (by omega)
  have s:=NU D.su t i;have w:cM .i64 (nN D.su t i+1)=nN D.su t i+1:=aB (by omega);have x:cM .i64 ((i:Int)+1)=(i:Int)+1:=aB (by omega);have c:=X9 f1 f2 e1 e2 (D:=D) g ((i:Int)+1) (by omega);rw[jc]at c;have b:=PU D.su t i;simp only[o,oq,cZ,V,RN,F,H,S];refine aG t.tg.length (fun h (_:Unit)=>⟨[(2, .d (.aV (oq f1 f2 e1 e2 D t))),(6,pI (nN D.su t i)),(7,pI i),(15,pI D.su.days.length),(16,pI i),(24, .d (sF (t.tg.map Fr.dv))),(25,pI t.tg.length),(26,pI h)],⟨[some ((oq f1 f2 e1 e2 D t).map .d)],[0],[]⟩⟩)
   (fun h _=>IU D.su t i=Qw D.su t (t.turns ((i:Int)+1)) (t.tg.drop h) h) 0 () (bk _) (by rw[oq,cZ];rfl) rfl (fun h _ j a=> ?_) (fun _ a=> ?_)
  ·obtain⟨u,v,k6⟩:=rng j (by omega)
   rw[drop_cons j,Qw]at a;have l:=ahC f1 f2 D.su t h (t.tg.getD h default) (t.turns ((i:Int)+1)) (by omega) (by omega) f;rw[bK]at l;rw[cZ]at c l;simp only[oq,cZ,u,v,j,getD_map,bK,ai,V,x,RN,F,H,J,S];refine ak c ?_;(try simp only[RN,F,H,I,J,N,S]);refine ak l ?_;cases e:HY D.su t h (t.tg.getD h default) (t.turns ((i:Int)+1))
   ·rw[e]at a
    simp only[cC,Bool.true_or]at a;rw[if_pos a]at b;simp only[w,n,RN,F,H];refine fC 1 0 () k ?_ trivial (by simp) (by simp) rfl rfl;rw[b];rfl
   ·rw[e]at a
    simp only[cF,Bool.false_or]at a;simp only[k6,RN,F,H];exact fC 1 0 () j rfl a (by simp) (by simp) rfl rfl
  ·rw[cf,Qw]at a
   rw[if_neg (by rw[a];simp)]at b;simp only[a7,n,RN,F];refine aX () k ?_ trivial;rw[b,oq,cZ];rfl
 ·simp only[a7,yU,bI,dS,RN,F]
  exact⟨_,rfl,0,0,rfl,rfl⟩
end
end Go.Tel
namespace Go.Am
section
variable {C:Ctx}{base:Nat}{KP:DV->Mem->Prop}{K:PV->Mem->Prop}{M:Mem}
def abU {ok:Bool}{ks:List Nat}{z k:DV}{l:List (DV×DV)}(r:Option DV)(h1:iY ks k k=some true)(h2:qM ks l k=some r)(a:K (.d (EY ok z r)) M):ay C base (.Hr ok ks z) [.d (.map (some l)), .d k] M K KP:=by
 simp only[ay,h1,h2];exact a
def ER {z1 h i:DV}{e f g:IntKind}{a b c:Int}:ay C base (.dV 1 [z1,h,i] [0,1,2]) [.d (.int e a), .d (.int f b), .d (.int g c)] M K KP=K (.d (.slice true [.int e a, .int f b, .int g c])) M:=by
 have:=EX (M:=M) (ds:=[DV.int e a, .int f b, .int g c]);simp only[bl,ch]at this;simp[ay,dL,datum,vJ,this,DV.strip,DV.cells]
end
end Go.Am
namespace Go.Tel
open Go.Am
def ai6 {α:Type}{l:List α}{x y:α}:xQ (l++ [x,y])=1:=by cases l<;>rfl
def TL {α:Type}{l:List α}{x y z:α}:xQ (l++ [x,y,z])=1:=by cases l<;>rfl
def wM (p:Pc)(h:Int):List Int:=[((lS p).getD h.toNat default).n,((lS p).getD h.toNat default).d]
def Jb (p:Pc):List Int:=p.hands.flatMap (wM p)
def Du (op:List (Int×Fr))(i:Nat):List Int:=match gq op i with|some f=>[(i:Int),f.n,f.d]|none=>[]
def mZ (op:List (Int×Fr))(n:Nat):List Int:=(cD n).flatMap (Du op)
def H8 (op:List (Int×Fr))(n:Nat):mZ op (n+1)=mZ op n++Du op n:=by simp[mZ,cB]
def Kq (op:List (Int×Fr)):∀n,(mZ op n).length<=3*n
 |0=>by simp[mZ]
 |n+1=>by
  have:=Kq op n;have h:(Du op n).length<=3:=by unfold Du;split<;>simp
  rw[H8,Y];omega
def agH (c:Chg):List Int:=[c.link,c.pr.a,c.pr.b]
def sQ (l:List Chg):List Int:=l.flatMap agH
def UO (l:List Chg):(sQ l).length=3*l.length:=by
 induction l with
 |nil=>rfl
 |cons x l a=>simp only[sQ,b0,Y,an]at a⊢;rw[a];simp[agH];omega
def EZ (p:Pc)(l:List Int):(l.flatMap (wM p)).length=2*l.length:=by
 induction l with
 |nil=>rfl
 |cons x l a=>simp only[b0,Y,an,a];simp[wM];omega
section
variable (f1 f2 e1 e2:Bool){D:Dk}{t:Sp}(ns:List Int)
def aki (f:zS D.su 24 t):Ans 75 [xW f1 f2 e1 e2 D t,sF (ns.map au)] (Jb t.pc) 0:=by
 have m:=Pc.wH f.pc;have l:=Pc.good f.pc;have g:=ajx t.pc f.pc;rw[dA]at g;refine iC (aC qo bW ?_);simp only[qo,bW,jc,cZ,V,RN,F,H,N,S];refine ak g ?_;simp only[RN];refine aG t.pc.hands.length (fun i (v:Nat)=>⟨[(6, .d (sF ((lS t.pc).map Fr.dv))),(8,pI 0),(9, .tsl 1 v 0),(29, .d (sF (t.pc.hands.map au))),(30,pI t.pc.hands.length),(31,pI i)],
   ⟨[some ((oq f1 f2 e1 e2 D t).map .d)],[0],[some ⟨1,[],0,0⟩,some ⟨1,((t.pc.hands.take i).flatMap (wM t.pc)).map au,v,xQ ((t.pc.hands.take i).flatMap (wM t.pc))⟩]⟩⟩)
  (fun _ _=>True) 0 0 (bk _) (by rw[oq,cZ];rfl) trivial (fun i v a _=> ?_) (fun v _=> ?_)
 ·obtain⟨h,j,k⟩:=rng a (by omega)
  have hh:=l.hd _ (getD_mem a);have o:0<=t.pc.hands.getD i default:=by omega
  have p:(t.pc.hands.getD i default).toNat<(lS t.pc).length:=by simp only[lS,an,V,bz];omega
  have e:(t.pc.hands.take (i+1)).flatMap (wM t.pc)=(t.pc.hands.take i).flatMap (wM t.pc)++ [((lS t.pc).getD (t.pc.hands.getD i default).toNat default).n,((lS t.pc).getD (t.pc.hands.getD i default).toNat default).d]:=by
   rw[aU a];simp[wM]
  have b:=EZ t.pc (t.pc.hands.take i);have c:¬xQ ((t.pc.hands.take i).flatMap (wM t.pc))=2:=He;simp only[h,j,a,o,p,getD_map,aH,bK,ai,V,Bg,c,RN,F,H,N,S];refine⟨by rintro y (rfl|rfl)<;>rfl,by simp,by rw[b];simp only[cz];omega,?_⟩;simp only[k];refine aX (v+1) a ?_ trivial;rw[e,ai6];simp[au]
 ·simp only[a7,bI,dS,RN,F]
  rw[cg];exact⟨_,rfl,1,v,rfl,rfl⟩
def ah2 (l:zS D.su 24 t):Ans 77 [xW f1 f2 e1 e2 D t,sF (ns.map au)] (mZ t.op t.pc.hands.length) 0:=by
 have j:=Pc.wH l.pc;refine iC (aC oN bW ?_);simp only[oN,bW,jc,cZ,V,RN,F,H,N,S];refine aG t.pc.hands.length (fun i (v:Nat)=>⟨[(2, .d (.aV (oq f1 f2 e1 e2 D t))),(6, .tsl 1 v 0),(17,pI t.pc.hands.length),(18,pI i)],
   ⟨[some ((oq f1 f2 e1 e2 D t).map .d)],[0],[some ⟨1,[],0,0⟩,some ⟨1,(mZ t.op i).map au,v,xQ (mZ t.op i)⟩]⟩⟩)
  (fun _ _=>True) 0 0 (bk _) (by rw[oq,cZ];rfl) trivial (fun i v b _=> ?_) (fun v _=> ?_)
 ·obtain⟨h,m,e⟩:=rng b (by omega)
  have k:=Kq t.op i;have c:¬xQ (mZ t.op i)=2:=He;have a:=H8 t.op i;simp only[h,oq,cZ,RN,F,H,S];refine abU ((gq t.op i).map Fr.dv) (wZ i) (GZ _ _) ?_;cases g:gq t.op i with
  |none=>
   rw[Du,g,br]at a;simp only[EY,be,bo,aD,aR,bc,e,RN,F,H,J,S];refine fC 1 2 v b ?_ trivial (by simp) (by simp) rfl rfl;rw[a];rfl
  |some f=>
   rw[Du,g]at a;simp only[EY,bh,aM,aE,bK,aR,bc,or_false,ER,c,V,RN,F,H,J,N,S];refine⟨by rintro y (rfl|rfl|rfl)<;>rfl,by simp,by omega,?_⟩;simp only[e];refine fC 1 2 (v+1) b ?_ trivial (by simp) (by simp) rfl rfl;rw[a,TL];simp[au]
 ·simp only[a7,bI,dS,RN,F]
  exact⟨_,rfl,1,v,rfl,rfl⟩
def oL (D:Dk)(t:Sp)(hand a b:Int):List Int×Int:=
 if inR hand 0 (D.su.pc.hands.length - 1)&&aI a&&aI b&&inR (b - a) 0 10 then
  (match gq t.op hand with
  |none=>([],7)
  |some f=>(sQ (t.pc.changes a b hand f).1,(t.pc.changes a b hand f).2))
 else([],2)
def Ob (p:Pc)(a b h:Int)(f:Fr):(p.changes a b h f).1.length<=2:=by
 unfold Pc.changes
 split
 ·split
  ·rename_i c;have:=xI c;simp only;omega
  ·split
   ·rename_i c;have:=xI c;simp only;omega
   ·split
    ·rename_i c;have:=xI c;simp only;omega
    ·simp
 ·simp
def anB (E:D.Ok)(Q:zS D.su 24 t)(R:ns.length=3):Ans 79 [xW f1 f2 e1 e2 D t,sF (ns.map au)]
  (oL D t (ns.getD 0 default) (ns.getD 1 default) (ns.getD 2 default)).1 (oL D t (ns.getD 0 default) (ns.getD 1 default) (ns.getD 2 default)).2:=by
 have P:=Pc.wH Q.pc;have j:=Fb e1 e2 D (by have:=E.small;omega) (ns.getD 0 default);rw[vG]at j;have u:0<ns.length:=by omega
 have q:(0:Int)<=1:=by omega
 have l1:1<ns.length:=by omega
 have s:(0:Int)<=2:=by omega
 have l2:2<ns.length:=by omega
 generalize m:ns.getD 0 default=A at*;generalize o:ns.getD 1 default=B at*;generalize p:ns.getD 2 default=Cc at*;cases h1:inR A 0 ((D.su.pc.hands.length:Int) - 1)
 ·have c:oL D t A B Cc=([],2):=by simp[oL,h1]
  rw[c];refine iC (aC bC bW ?_);simp only[bC,bW,jc,j0,t0,u,q,t1,l1,s,t2,l2,V,getD_map,aH,m,o,p,RN,F,H,N,S];refine ak j ?_;simp only[h1,bI,dS,RN,F,N];exact⟨_,rfl,1,0,rfl,rfl⟩
 cases h2:aI B
 ·have c:oL D t A B Cc=([],2):=by simp[oL,h2]
  rw[c];refine iC (aC bC bW ?_);simp only[bC,bW,jc,j0,t0,u,q,t1,l1,s,t2,l2,V,getD_map,aH,m,o,p,RN,F,H,N,S];refine ak j ?_;simp only[h1,RN,F];refine ak (mY _) ?_;simp only[h2,bI,dS,RN,F,N];exact⟨_,rfl,1,0,rfl,rfl⟩
 cases g:aI Cc
 ·have c:oL D t A B Cc=([],2):=by simp[oL,g]
  rw[c];refine iC (aC bC bW ?_);simp only[bC,bW,jc,j0,t0,u,q,t1,l1,s,t2,l2,V,getD_map,aH,m,o,p,RN,F,H,N,S];refine ak j ?_;simp only[h1,RN,F];refine ak (mY _) ?_;simp only[h2,RN,F];refine ak (mY _) ?_;simp only[g,bI,dS,RN,F,N];exact⟨_,rfl,1,0,rfl,rfl⟩
 have b1: -1000000<=B/\B<=1000000:=by simp only[aI,inR,aq,decide_eq_true_eq]at h2;omega
 have K: -1000000<=Cc/\Cc<=1000000:=by simp only[aI,inR,aq,decide_eq_true_eq]at g;omega
 have I:cM .i64 (Cc - B)=Cc - B:=aB (by omega);cases k:inR (Cc - B) 0 10
 ·have c:oL D t A B Cc=([],2):=by simp[oL,k]
  rw[c];refine iC (aC bC bW ?_);simp only[bC,bW,jc,j0,t0,u,q,t1,l1,s,t2,l2,V,getD_map,aH,m,o,p,RN,F,H,N,S];refine ak j ?_;simp only[h1,RN,F];refine ak (mY _) ?_;simp only[h2,RN,F];refine ak (mY _) ?_;simp only[g,I,RN,F];refine ak (Af _ _ _) ?_;simp only[k,bI,dS,RN,F,N];exact⟨_,rfl,1,0,rfl,rfl⟩
 cases x:gq t.op A with
 |none=>
  have c:oL D t A B Cc=([],7):=by simp[oL,h1,h2,g,k,x]
  rw[c];refine iC (aC bC bW ?_);simp only[bC,bW,jc,j0,t0,u,q,t1,l1,s,t2,l2,V,getD_map,aH,m,o,p,RN,F,H,N,S];refine ak j ?_;simp only[h1,RN,F];refine ak (mY _) ?_;simp only[h2,RN,F];refine ak (mY _) ?_;simp only[g,I,RN,F];refine ak (Af _ _ _) ?_;simp only[k,cZ,RN,F,H,S];refine abU ((gq t.op A).map Fr.dv) (wZ A) (GZ _ _) ?_;simp only[x,EY,be,bo,aD,aR,bc,bI,dS,RN,F,H,J,N,S];exact⟨_,rfl,1,0,rfl,rfl⟩
 |some f=>
  have h:=ad1 t.pc B Cc A f (by omega) (by omega) K b1;have z:=Ob t.pc B Cc A f;rw[dA,bK]at h;have c:oL D t A B Cc=(sQ (t.pc.changes B Cc A f).1,(t.pc.changes B Cc A f).2):=by simp[oL,h1,h2,g,k,x]
  rw[c];generalize T:t.pc.changes B Cc A f=r at*;obtain⟨l,e⟩:=r;simp only at h z⊢;refine iC (aC bC bW ?_);simp only[bC,bW,jc,j0,t0,u,q,t1,l1,s,t2,l2,V,getD_map,aH,m,o,p,RN,F,H,N,S];refine ak j ?_;simp only[h1,RN,F];refine ak (mY _) ?_;simp only[h2,RN,F];refine ak (mY _) ?_;simp only[g,I,RN,F];refine ak (Af _ _ _) ?_;simp only[k,cZ,RN,F,H,S];refine abU ((gq t.op A).map Fr.dv) (wZ A) (GZ _ _) ?_;simp only[x,EY,bh,aM,aE,bK,aR,bc,RN,F,H,J,N,S];refine ak h ?_;simp only[V,RN];refine aG l.length (fun i (v:Nat)=>⟨[(12,pI e),(13, .tsl 1 v 0),(73, .d (.slice (e !=0) (l.map Chg.dv))),(74,pI l.length),(75,pI i)],
    ⟨[some ((oq f1 f2 e1 e2 D t).map .d),some [pI f.n,pI f.d]],[1,0],[some ⟨1,[],0,0⟩,some ⟨1,(sQ (l.take i)).map au,v,xQ (sQ (l.take i))⟩]⟩⟩)
   (fun _ _=>True) 0 0 (bk _) (by rw[oq,cZ];rfl) trivial (fun i v w _=> ?_) (fun v _=> ?_)
  ·obtain⟨L,M,O⟩:=rng w (by omega)
   have G:sQ (l.take (i+1))=sQ (l.take i)++ [(l.getD i default).link,(l.getD i default).pr.a,(l.getD i default).pr.b]:=by
    rw[aU w];simp[sQ,agH]
   have C:=UO (l.take i);have c:¬xQ (sQ (l.take i))=2:=He;simp only[L,M,w,getD_map,jI,ai,V,ER,c,aR,bc,or_false,RN,F,H,J,N,S];refine⟨by rintro y (rfl|rfl|rfl)<;>rfl,by simp,by rw[C];simp only[cz];omega,?_⟩;simp only[O];refine fC 2 2 (v+1) w ?_ trivial (by simp) (by simp) rfl rfl;rw[G,TL];simp[au]
  ·simp only[a7,bI,dS,RN,F,H]
   rw[cg];exact⟨_,rfl,1,v,rfl,rfl⟩
end
def J9 (n:Int):List DV:=[dI n]
def aay (xs:List Int)(ex:Bool)(hl:xs.length<=1000000):
  UF C 241 [] [.d (.aV [.slice ex (xs.map au)])] (xs.map J9) no no no (fun _=>True):=by
 rintro⟨bs,fz,ar⟩ b n R stop K KP B D r E _ G mD A e f;simp only at r;refine aC uN gY ?_;simp only[uN,gY,V,RN,F,H,S];refine BX (fun m s=>∃(i:Nat) (g:Mem),m=xs.length - i/\i<=xs.length/\s=⟨[(0, .qg b),(5, .d (.slice ex (xs.map au))),(6,pI xs.length),(7,pI i)],g⟩/\n<=g.boxes.length/\R ((xs.take i).map J9) g)
  xs.length ⟨0,_,rfl,bk _,rfl,r,A⟩ ?_
 rintro m s ⟨i,⟨v,w,u⟩,rfl,J,rfl,c,h⟩
 by_cases a:i<xs.length
 case neg=>
  have k:i=xs.length:=by omega
  subst k;simp only[a7,RN,F];rw[cg]at h;exact f _ _ c h
 obtain⟨x,y,z⟩:=rng a hl;simp only[x,y,a,getD_map,aH,ai,V,RN,F,S];refine Bf ?_;refine SY.mono (mD ((xs.take i).map J9) (J9 (xs.getD i default)) ((xs.drop (i+1)).map J9) _ (by
  conv=>lhs;rw[<-List.take_append_drop i xs,drop_cons a]
  simp) c h) ?_
 rintro p t ⟨l,I⟩;have o:=l.len;simp only at o c
 rcases I with⟨rfl,j⟩|⟨rfl,q⟩
 ·simp only[z,RN,F]
  refine⟨xs.length - (i+1),_,by omega, .inl rfl,i+1,t,rfl,by omega,rfl,by omega,?_⟩;rw[aU a,bt];exact j
 ·(try simp only[RN,F])
  exact e _ _ q
def Cb (ex:Bool)(xs:List Int):DV:= .func (.func 241) [] [.aV [.slice ex (xs.map au)]]
def aeb (xs:List Int)(ex:Bool)(hl:xs.length<=1000000){bs:List (Option (List PV))}{fz:List Nat}{ar:List (Option Arr)}(w:FzB ⟨bs,fz,ar⟩){KP:DV->Mem->Prop}:
  SC C 288 [.d (.slice true []), .d (Cb ex xs)] ⟨bs,fz,ar⟩ (fun p M'=>slN 1 true p (xs.map au) M'.aF/\Frm ⟨bs,fz,ar⟩ M'/\(∀k,kOf p=some k->ar.length<=k)/\(xs=[]->p= .d (.slice true []))) KP:=by
 have P:bs.length∉fz:=fun e=>am _ (w _ e)
 refine aC tu aK ?_;simp only[tu,aK,Cb,bJ,dB,RN,F,H];refine sG (aay xs ex hl) (fun _ h=>h) rfl (by kernel_rfl) (fun i s=>by have:=w i s;simp at this⊢;omega) (fun x t=>by obtain⟨i,_,rfl⟩:=bA.1 t;rfl) (fun _ h=>h.elim) (fun _ _=>trivial)
  (fun o u=>∃l r c,xs=l++r/\o=l.map J9/\u.boxes[bs.length]?=some (some [c])/\bs.length∉u.fz/\slN 1 true c (l.map au) u.aF/\Frm ⟨bs,fz,ar⟩ u/\(∀k,kOf c=some k->ar.length<=k)/\(l=[]->c= .d (.slice true []))) ?_ ?_ ?_ ?_
 ·rintro o u M2 z ⟨l,r,c,b,q,g,B,D,a,E,I⟩
  simp only[Y,an,ax]at z;exact⟨l,r,c,b,q,(z.box _ (by omega) id).trans g,fun e=>B ((z.fz _ (by omega) id).1 e),by rw[z.aF];exact D,a.moved z (by simp),E,I⟩
 ·exact⟨[],xs,_,rfl,rfl,by simp only;rw[bJ rfl];rfl,P, .inl ⟨rfl,rfl⟩,Frm.new (xf:=[]) (by simp),(fun k hk=>by cases hk),fun _=>rfl⟩
 ·rintro L cells o x X ⟨m,K,J⟩ t n f A ⟨l,r,c,b,q,g,B,D,a,E,I⟩ M0
  simp only[Y,an,ax]at n f A g B⊢;obtain⟨p,G,rfl⟩:∃p G,r=p::G:=by
   cases r with
   |nil=>
    rw[b,q]at t;have:=congrArg bv t;simp at this
   |cons p G=>exact⟨p,G,rfl⟩
  have R:x=J9 p:=by
   rw[b,q,bt,bl]at t;have:=cb t;exact(List.cons.inj this).1.symm
  subst R;have v:bs.length<m.length:=by omega
  have V:l.length<=1000000:=by have:=congrArg bv b;simp at this;omega
  simp only[J9,cp,ct,bl,ch,g,fD,DV.strip,RN,F,S];refine Qj D (by decide) (by intro y W;simp only[ap]at W;subst W;rfl) (by simp) (by simp;omega) fun k ver st ab a1 Z a3 T a5 a6=> ?_
  have Q:=a6 rfl;subst Q;simp only[g,B,dX,fB,wS,RN,S];have N:ar.length<=k:=by
   rcases a1 with a1|a1
   ·exact E k a1
   ·have:=a.bP;simp only at this;omega
  refine⟨by rw[ae (by omega)];exact f,A,Kept.LQ (by omega) id T (fun _ h=>h.elim),l++ [p],G, .tsl k ver 0,by rw[b];simp,by rw[q];simp[J9],by simp[v], .inr ⟨k,ver,1,rfl,by rw[Z];simp[au],by decide,fun _=> .inl rfl⟩,?_,(fun k' M=>by cases M;exact N),fun e=>by simp at e⟩;exact
  {len:=by have:=a.len;simpa using this
   bP:=ao a.bP T
   box:=fun i s=>by
    have:=a.box i s;simp only at s this⊢;rw[ae (by omega)];exact this
   fz:=a.fz
   row:=fun j U=>by
    have:=a.row j U;have O:=a.bP;simp only at U this O⊢;rw[a3 j (by omega) (by omega)];exact this
   fzb:=fun e i s=>by have:=a.fzb e i s;simpa using this}
 ·rintro⟨m,K,J⟩ ⟨l,r,c,b,q,g,B,D,a,E,I⟩ n
  simp only[Y,an,ax]at n g;have hr:r=[]:=by
   have:=congrArg bv q;rw[b]at this;simp at this;exact this
  subst hr;rw[br]at b;subst b;have v:bs.length<m.length:=by omega
  simp only[g,RN,S];exact⟨D,a,E,I⟩
end Go.Tel
namespace Go.Proofs
open Go.Shelf
end Go.Proofs
namespace Go.Tel
open Go.Am
def ajy {k ver:Nat}{zs:List Int}{bs:List (Option (List PV))}{fz:List Nat}{ar:List (Option Arr)}{K:PV->Mem->Prop}{KP:DV->Mem->Prop}
  (h:ar[k]?=some (some ⟨1,zs.map (DV.int .i64),ver,1⟩))(b:zs≠[])(hl:zs.length<4611686018427387904)
  (a:K (.d (.tup [])) ⟨bs,fz,ar.set k (some ⟨1,(zs.mergeSort fun x y=>decide (x<=y)).map (DV.int .i64),ver,1⟩)⟩):SC Go.Tel.C 240 [.tsl k ver 0] ⟨bs,fz,ar⟩ K KP:=
 aly (C:=Go.Tel.C) Go.Proofs.Tryz.laysSort h b hl a
end Go.Tel
