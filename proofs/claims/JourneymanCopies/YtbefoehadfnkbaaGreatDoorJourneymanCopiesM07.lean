/-
  Part 7 of a law of desks.
  Conditions: none.
-/
import Derived.Test.YtbefoehadfnkbaaGreatDoorJourneymanCopiesM04
import Derived.Test.YtbefoehadfnkbaaGreatDoorJourneymanCopiesM06
import Derived.Shelf.Slices.In.SortNone
import Derived.Ground.NamesProg
import Derived.Shelf.Strings.Split
import Derived.Shelf.Strings.OnBuilder
import Derived.Shelf.Strconv.Itoa3
import Derived.Lib.ItoaLen
import Derived.Laws.RangeString
import Derived.Laws.RangeAny
import Derived.Shelf.Small.Strs
set_option linter.all false
set_option maxRecDepth 10000
set_option maxHeartbeats 4000000
open Nat renaming reduceBEq->F,reduceAdd->H,reduceSub->I,reduceEqDiff->J,reduceLT->N,reduceLeDiff->Q,zero_le->aw,lt_irrefl->aD,le_refl->aH,div_mul_cancel->a7,sub_self->bF,mul_div_mul_right->bK,gcd_dvd_right->b4,le_trans->b5,sub_zero->b7,gcd_dvd_left->ca,mul_one->cf,mul_comm->cq,succ_mul->cr
open List renaming length_map->U,getD_eq_getElem?_getD->V,length_append->W,length_cons->ae,getElem?_eq_some_iff->ah,mem_cons->ai,map_cons->aj,getElem?_append_left->ak,length_nil->am,getElem?_set_ne->ao,all_eq_true->au,not_mem_nil->av,map_append->ax,mem_singleton->ay,drop_zero->az,mem_map->aA,map_nil->aC,append_nil->aF,filter_congr->aG,range'->aL,mem_append->aP,getElem?_concat_length->aS,length->aT,perm_append_singleton->aU,cons_append->aV,filter_cons->aW,take_length->aX,getD_cons_zero->aY,range->aZ,append_cancel_left->a8,append_assoc->bc,getElem?_set_self->bd,mem_range->be,mem_range'_1->bf,length_singleton->bg,range_eq_range'->bh,take_append_of_le_length->bi,foldl_cons->bj,mem_filter->bk,range_succ->bl,getD_cons_succ->bo,map_eq_nil_iff->bp,filter_append->bu,pairwise_cons->bv,zip_cons_cons->bw,flatMap_cons->bz,zip_nil_left->bA,drop_length->bC,take_of_length_le->bE,filter_nil->bG,find?_cons->bH,length_set->bI,nodup_cons->bJ,mem_cons_of_mem->bM,pairwise_append->bN,findSome?_cons->bO,map_congr_left->bP,all_cons->bS,filter_filter->bT,mem_cons_self->bU,any_eq_false->bW,foldl_append->bX,getElem?_map->bY,length_range->bZ,map_map->b0,size_toArray->b3,length_take->b8,range'_succ->b9,nil_append->cg,foldl_nil->cl,map->cm,all_nil->cp,drop->ct,take->cu
open Bool renaming and_eq_true->Y,false_eq_true->aE,true_and->aI,eq_iff_iff->aO,false_and->bq,and_self->bQ,and_true->bR,not_eq_true'->bV,not_false->cj,not_true->cn
open Int renaming toNat_natCast->ap,lt_irrefl->aB,mul_nonneg->br,natAbs_mul->bt,le_refl->bL
open Option renaming getD_some->aq,getD_none->aK,isSome_none->aM,isSome_some->aN,map_none->aQ,map_some->bn,isSome_iff_exists->bB,bind_some->cb
open Array renaming length_toList->aJ
open ByteArray renaming size_append->aR,data_extract->bD,size->ck
open Go.IntKind renaming wrap->cv
namespace Go.Tel
open Go.Am
def aq8 (p:Int->Bool):Nat->Int->Option Int
 |0,_=>none
 |k+1,n=>if p n then some n else aq8 p k (n+1)
def Dk.asy (D:Dk)(d:Int):Bool:=(D.su.days.getD (d - 1).toNat default).2
section
variable (f1 f2 e1 e2:Bool){D:Dk}{t:Sp}(ns:List Int)
def aUb (d:Int)(hd:1<=d/\d<=D.su.days.length):Pure C 174 [dI d, .anY (arQ f1 f2 e1 e2 D t)] (.d (.bool (D.asy d))) []:=by
 have a:=arn D.su;have c:cv .i64 (d - 1)=d - 1:=anI (by omega);have j0:0<=d - 1:=by omega
 have b:(d - 1).toNat<D.su.days.length:=by omega
 refine am6 arK aJv ?_;simp only[arK,aJv,arQ,aom,c,j0,b,U,getD_map,aMz,RN,F,H,Q]
 rfl
def aML (a b:Int)(fn:FuncId)(c:List DV)(p:Int->Bool)(o:1<=a/\a<=b/\b<=1000000)(hc:callable C.P fn=true)(j:∀x,1<=x->x<=b->Pure C fn ([dI x]++c.map DV.strip) (.d (.bool (p x))) []):
  Pure C 173 [dI a,dI b, .func (.func fn) [] c] (.d (.tup [dI ((aq8 p (b+1 - a).toNat a).getD 0), .bool (aq8 p (b+1 - a).toNat a).isSome])) []:=by
 refine am6 aty aAF ?_;simp only[aty,aAF,RN,F,H];refine apW (fun(n:Int)=>⟨[(1,pI b),(2, .d (.func (.func fn) [] c)),(8,pI n)],⟨[],[],[]⟩⟩)
  (fun n=>1<=n/\n<=b+1/\aq8 p (b+1 - a).toNat a=aq8 p (b+1 - n).toNat n) (fun n=>(b+1 - n).toNat) a rfl ⟨by omega,by omega,rfl⟩ (fun n i=> ?_)
 obtain⟨l,q,e⟩:=i
 by_cases f:n<=b
 ·obtain⟨k,h⟩:∃k,(b+1 - n).toNat=k+1:=⟨(b - n).toNat,by omega⟩
  rw[h,aq8]at e;have m:cv .i64 (n+1)=n+1:=anI (by omega);simp only[f,RN,F];refine aBr rfl hc rfl (j n l f) ?_;cases g:p n
  ·rw[g]at e
   simp only[aE,if_false]at e;simp only[m,RN,F];exact aun (a:=n) (μ:=fun n=>(b+1 - n).toNat) (n+1) (by show(b+1 - (n+1)).toNat<(b+1 - n).toNat;omega) rfl ⟨by omega,by omega,by rw[e,show(b+1 - (n+1)).toNat=k by omega]⟩
  ·rw[g]at e
   simp only[if_true]at e;simp only[e,aq,aN,RN,F]
 ·rw[show(b+1 - n).toNat=0 by omega,aq8]at e
  simp only[f,e,aK,aM,RN,F]
def aWs (g:D.Ok)(h:ns.length=1):Ans 82 [avm f1 f2 e1 e2 D t,sF (ns.map anF)]
  (if inR (ns.getD 0 default) 1 D.su.days.length then(match aq8 D.asy ((D.su.days.length:Int)+1 - ns.getD 0 default).toNat (ns.getD 0 default)with|some d=>[d]|none=>[])else[])
  (if inR (ns.getD 0 default) 1 D.su.days.length then(match aq8 D.asy ((D.su.days.length:Int)+1 - ns.getD 0 default).toNat (ns.getD 0 default)with|some _=>0|none=>5)else 2):=by
 have hd:=aFd e1 e2 D (ns.getD 0 default);rw[atI]at hd;have b:0<ns.length:=by omega
 cases h2:inR (ns.getD 0 default) 1 (D.su.days.length:Int)
 ·refine awG (by simp) (am6 aoP aoj ?_)
  simp only[aoP,aoj,apQ,j0,t0,b,U,getD_map,anM,RN,F,H,Q];refine anE hd ?_;simp only[h2,RN,F];simp
 have f:1<=ns.getD 0 default/\ns.getD 0 default<=(D.su.days.length:Int):=by simpa[inR]using h2
 have e:=arn D.su;have a:=aML (ns.getD 0 default) (D.su.days.length:Int) 174 [.anY (arQ f1 f2 e1 e2 D t)] D.asy (by omega) (by kernel_rfl) (fun x h1 h2=>aUb f1 f2 e1 e2 x ⟨h1,h2⟩);simp only[if_true];cases c:aq8 D.asy ((D.su.days.length:Int)+1 - ns.getD 0 default).toNat (ns.getD 0 default)with
 |none=>
  rw[c]at a;refine awG rfl (am6 aoP aoj ?_);simp only[aoP,aoj,apQ,j0,t0,b,U,getD_map,anM,RN,F,H,Q];refine anE hd ?_;simp only[h2,aom,j0,t0,b,U,getD_map,anM,RN,F,H,Q];rw[arQ,aom]at a;refine anE a ?_;simp only[aM,RN,F]
 |some x=>
  rw[c]at a;refine apq (anJ aoP aoj ?_);simp only[aoP,aoj,apQ,j0,t0,b,U,getD_map,anM,RN,F,H,Q];refine anE hd ?_;simp only[h2,aom,j0,t0,b,U,getD_map,anM,RN,F,H,Q];rw[arQ,aom]at a;refine anE a ?_;simp only[aN,aq,avX,an6,aoz,RN,F];exact⟨_,rfl,0,0,rfl,rfl⟩
def aFr (s:Su)(t:Sp)(turns:Int):List Fr->Nat->Bool
 | [],_=>false
 |f::l,h=> !aAj s t h f turns||aFr s t turns l (h+1)
def aAQ (s:Su)(t:Sp)(i:Nat):Bool:=aFr s t (t.turns ((i:Int)+1)) t.tg 0
def arH (s:Su)(t:Sp)(n:Nat):Int:=(((aZ n).filter (aAQ s t)).length:Nat)
def aEV (s:Su)(t:Sp)(n:Nat):arH s t (n+1)=if aAQ s t n then arH s t n+1 else arH s t n:=by
 simp only[arH,bl,bu,W,aW,bG]
 split<;>simp
def aIH (s:Su)(t:Sp)(n:Nat):0<=arH s t n/\arH s t n<=n:=by
 have:=List.length_filter_le (aAQ s t) (aZ n);simp only[bZ]at this;simp only[arH];omega
def aWv (m:D.Ok)(g:awD D.su 24 t):Ans 81 [avm f1 f2 e1 e2 D t,sF (ns.map anF)] [arH D.su t D.su.days.length] 0:=by
 have p:=arn D.su;have q:=Pc.avi g.pc;have f:0<=D.su.lim/\D.su.lim<=10800:=by simpa[inR]using(Su.facts m.su).2.2.1
 have r:t.tg.length<=4:=by rw[g.tl,<-g.hh];omega
 refine apq (anJ asH aoj ?_);simp only[asH,aoj,apQ,aom,U,RN,F,H,Q];refine anL D.su.days.length (fun i (_:Unit)=>⟨[(2, .d (.anY (arQ f1 f2 e1 e2 D t))),(6,pI (arH D.su t i)),(15,pI D.su.days.length),(16,pI i)],⟨[some ((arQ f1 f2 e1 e2 D t).map .d)],[0],[]⟩⟩)
  (fun _ _=>True) 0 () (aw _) (by rw[arQ,aom];rfl) trivial (fun i _ k _=> ?_) (fun _ _=> ?_)
 ·obtain⟨o,y,n⟩:=rng k (by omega)
  have s:=aIH D.su t i;have w:cv .i64 (arH D.su t i+1)=arH D.su t i+1:=anI (by omega);have x:cv .i64 ((i:Int)+1)=(i:Int)+1:=anI (by omega);have c:=aJZ f1 f2 e1 e2 (D:=D) g ((i:Int)+1) (by omega);rw[apQ]at c;have b:=aEV D.su t i;simp only[o,arQ,aom,U,RN,F,H,Q];refine anL t.tg.length (fun h (_:Unit)=>⟨[(2, .d (.anY (arQ f1 f2 e1 e2 D t))),(6,pI (arH D.su t i)),(7,pI i),(15,pI D.su.days.length),(16,pI i),(24, .d (sF (t.tg.map Fr.dv))),(25,pI t.tg.length),(26,pI h)],⟨[some ((arQ f1 f2 e1 e2 D t).map .d)],[0],[]⟩⟩)
   (fun h _=>aAQ D.su t i=aFr D.su t (t.turns ((i:Int)+1)) (t.tg.drop h) h) 0 () (aw _) (by rw[arQ,aom];rfl) rfl (fun h _ j a=> ?_) (fun _ a=> ?_)
  ·obtain⟨u,v,k6⟩:=rng j (by omega)
   rw[drop_cons j,aFr]at a;have l:=aSu f1 f2 D.su t h (t.tg.getD h default) (t.turns ((i:Int)+1)) (by omega) (by omega) f;rw[aoa]at l;rw[aom]at c l;simp only[arQ,aom,u,v,j,getD_map,aoa,ap,U,x,RN,F,H,J,Q];refine anE c ?_;(try simp only[RN,F,H,I,J,N,Q]);refine anE l ?_;cases e:aAj D.su t h (t.tg.getD h default) (t.turns ((i:Int)+1))
   ·rw[e]at a
    simp only[cj,Bool.true_or]at a;rw[if_pos a]at b;simp only[w,n,RN,F,H];refine ao7 1 0 () k ?_ trivial (by simp) (by simp) rfl rfl;rw[b];rfl
   ·rw[e]at a
    simp only[cn,Bool.false_or]at a;simp only[k6,RN,F,H];exact ao7 1 0 () j rfl a (by simp) (by simp) rfl rfl
  ·rw[bC,aFr]at a
   rw[if_neg (by rw[a];simp)]at b;simp only[aB,n,RN,F];refine anT () k ?_ trivial;rw[b,arQ,aom];rfl
 ·simp only[aB,avX,an6,aoz,RN,F]
  exact⟨_,rfl,0,0,rfl,rfl⟩
end
end Go.Tel
namespace Go.Am
section
variable {C:Ctx}{base:Nat}{KP:DV->Mem->Prop}{K:PV->Mem->Prop}{M:Mem}
def aNh {ok:Bool}{ks:List Nat}{z k:DV}{l:List (DV×DV)}(r:Option DV)(h1:apO ks k k=some true)(h2:asP ks l k=some r)(a:K (.d (ay4 ok z r)) M):anG C base (.aAd ok ks z) [.d (.map (some l)), .d k] M K KP:=by
 simp only[anG,h1,h2];exact a
def ayY {z1 h i:DV}{e f g:IntKind}{a b c:Int}:anG C base (.aoM 1 [z1,h,i] [0,1,2]) [.d (.int e a), .d (.int f b), .d (.int g c)] M K KP=K (.d (.slice true [.int e a, .int f b, .int g c])) M:=by
 have:=ay3 (M:=M) (ds:=[DV.int e a, .int f b, .int g c]);simp only[aj,aC]at this;simp[anG,aos,datum,auq,this,DV.strip,DV.cells]
end
end Go.Am
namespace Go.Tel
open Go.Am
def aTU {α:Type}{l:List α}{x y:α}:avk (l++ [x,y])=1:=by cases l<;>rfl
def aG2 {α:Type}{l:List α}{x y z:α}:avk (l++ [x,y,z])=1:=by cases l<;>rfl
def avj (p:Pc)(h:Int):List Int:=[((aqZ p).getD h.toNat default).n,((aqZ p).getD h.toNat default).d]
def aDh (p:Pc):List Int:=p.hands.flatMap (avj p)
def ax6 (op:List (Int×Fr))(i:Nat):List Int:=match ao9 op i with|some f=>[(i:Int),f.n,f.d]|none=>[]
def aqX (op:List (Int×Fr))(n:Nat):List Int:=(aZ n).flatMap (ax6 op)
def aAm (op:List (Int×Fr))(n:Nat):aqX op (n+1)=aqX op n++ax6 op n:=by simp[aqX,bl]
def ax7 (op:List (Int×Fr)):∀n,(aqX op n).length<=3*n
 |0=>by simp[aqX]
 |n+1=>by
  have:=ax7 op n;have h:(ax6 op n).length<=3:=by unfold ax6;split<;>simp
  rw[aAm,W];omega
def aW8 (c:Chg):List Int:=[c.link,c.pr.a,c.pr.b]
def avn (l:List Chg):List Int:=l.flatMap aW8
def aC9 (l:List Chg):(avn l).length=3*l.length:=by
 induction l with
 |nil=>rfl
 |cons x l a=>simp only[avn,bz,W,ae]at a⊢;rw[a];simp[aW8];omega
def aD4 (p:Pc)(l:List Int):(l.flatMap (avj p)).length=2*l.length:=by
 induction l with
 |nil=>rfl
 |cons x l a=>simp only[bz,W,ae,a];simp[avj];omega
section
variable (f1 f2 e1 e2:Bool){D:Dk}{t:Sp}(ns:List Int)
def aU3 (f:awD D.su 24 t):Ans 75 [avm f1 f2 e1 e2 D t,sF (ns.map anF)] (aDh t.pc) 0:=by
 have m:=Pc.avi f.pc;have l:=Pc.good f.pc;have g:=aUi t.pc f.pc;rw[aot]at g;refine apq (anJ asF aoj ?_);simp only[asF,aoj,apQ,aom,U,RN,F,H,N,Q];refine anE g ?_;simp only[RN];refine anL t.pc.hands.length (fun i (v:Nat)=>⟨[(6, .d (sF ((aqZ t.pc).map Fr.dv))),(8,pI 0),(9, .tsl 1 v 0),(29, .d (sF (t.pc.hands.map anF))),(30,pI t.pc.hands.length),(31,pI i)],
   ⟨[some ((arQ f1 f2 e1 e2 D t).map .d)],[0],[some ⟨1,[],0,0⟩,some ⟨1,((t.pc.hands.take i).flatMap (avj t.pc)).map anF,v,avk ((t.pc.hands.take i).flatMap (avj t.pc))⟩]⟩⟩)
  (fun _ _=>True) 0 0 (aw _) (by rw[arQ,aom];rfl) trivial (fun i v a _=> ?_) (fun v _=> ?_)
 ·obtain⟨h,j,k⟩:=rng a (by omega)
  have hh:=l.hd _ (getD_mem a);have o:0<=t.pc.hands.getD i default:=by omega
  have p:(t.pc.hands.getD i default).toNat<(aqZ t.pc).length:=by simp only[aqZ,ae,U,bZ];omega
  have e:(t.pc.hands.take (i+1)).flatMap (avj t.pc)=(t.pc.hands.take i).flatMap (avj t.pc)++ [((aqZ t.pc).getD (t.pc.hands.getD i default).toNat default).n,((aqZ t.pc).getD (t.pc.hands.getD i default).toNat default).d]:=by
   rw[anR a];simp[avj]
  have b:=aD4 t.pc (t.pc.hands.take i);have c:¬avk ((t.pc.hands.take i).flatMap (avj t.pc))=2:=az8;simp only[h,j,a,o,p,getD_map,anM,aoa,ap,U,axf,c,RN,F,H,N,Q];refine⟨by rintro y (rfl|rfl)<;>rfl,by simp,by rw[b];simp only[b8];omega,?_⟩;simp only[k];refine anT (v+1) a ?_ trivial;rw[e,aTU];simp[anF]
 ·simp only[aB,an6,aoz,RN,F]
  rw[aX];exact⟨_,rfl,1,v,rfl,rfl⟩
def aSU (l:awD D.su 24 t):Ans 77 [avm f1 f2 e1 e2 D t,sF (ns.map anF)] (aqX t.op t.pc.hands.length) 0:=by
 have j:=Pc.avi l.pc;refine apq (anJ ar8 aoj ?_);simp only[ar8,aoj,apQ,aom,U,RN,F,H,N,Q];refine anL t.pc.hands.length (fun i (v:Nat)=>⟨[(2, .d (.anY (arQ f1 f2 e1 e2 D t))),(6, .tsl 1 v 0),(17,pI t.pc.hands.length),(18,pI i)],
   ⟨[some ((arQ f1 f2 e1 e2 D t).map .d)],[0],[some ⟨1,[],0,0⟩,some ⟨1,(aqX t.op i).map anF,v,avk (aqX t.op i)⟩]⟩⟩)
  (fun _ _=>True) 0 0 (aw _) (by rw[arQ,aom];rfl) trivial (fun i v b _=> ?_) (fun v _=> ?_)
 ·obtain⟨h,m,e⟩:=rng b (by omega)
  have k:=ax7 t.op i;have c:¬avk (aqX t.op i)=2:=az8;have a:=aAm t.op i;simp only[h,arQ,aom,RN,F,H,Q];refine aNh ((ao9 t.op i).map Fr.dv) (au3 i) (az2 _ _) ?_;cases g:ao9 t.op i with
  |none=>
   rw[ax6,g,aF]at a;simp only[ay4,aQ,aK,aM,ai,av,e,RN,F,H,J,Q];refine ao7 1 2 v b ?_ trivial (by simp) (by simp) rfl rfl;rw[a];rfl
  |some f=>
   rw[ax6,g]at a;simp only[ay4,bn,aq,aN,aoa,ai,av,or_false,ayY,c,U,RN,F,H,J,N,Q];refine⟨by rintro y (rfl|rfl|rfl)<;>rfl,by simp,by omega,?_⟩;simp only[e];refine ao7 1 2 (v+1) b ?_ trivial (by simp) (by simp) rfl rfl;rw[a,aG2];simp[anF]
 ·simp only[aB,an6,aoz,RN,F]
  exact⟨_,rfl,1,v,rfl,rfl⟩
def arJ (D:Dk)(t:Sp)(hand a b:Int):List Int×Int:=
 if inR hand 0 (D.su.pc.hands.length - 1)&&anP a&&anP b&&inR (b - a) 0 10 then
  (match ao9 t.op hand with
  |none=>([],7)
  |some f=>(avn (t.pc.changes a b hand f).1,(t.pc.changes a b hand f).2))
 else([],2)
def ayR (p:Pc)(a b h:Int)(f:Fr):(p.changes a b h f).1.length<=2:=by
 unfold Pc.changes
 split
 ·split
  ·rename_i c;have:=ave c;simp only;omega
  ·split
   ·rename_i c;have:=ave c;simp only;omega
   ·split
    ·rename_i c;have:=ave c;simp only;omega
    ·simp
 ·simp
def aYl (E:D.Ok)(R:awD D.su 24 t)(S:ns.length=3):Ans 79 [avm f1 f2 e1 e2 D t,sF (ns.map anF)]
  (arJ D t (ns.getD 0 default) (ns.getD 1 default) (ns.getD 2 default)).1 (arJ D t (ns.getD 0 default) (ns.getD 1 default) (ns.getD 2 default)).2:=by
 have P:=Pc.avi R.pc;have j:=ay7 e1 e2 D (by have:=E.small;omega) (ns.getD 0 default);rw[atI]at j;have u:0<ns.length:=by omega
 have q:(0:Int)<=1:=by omega
 have l1:1<ns.length:=by omega
 have s:(0:Int)<=2:=by omega
 have l2:2<ns.length:=by omega
 generalize m:ns.getD 0 default=A at*;generalize o:ns.getD 1 default=B at*;generalize p:ns.getD 2 default=Cc at*;cases h1:inR A 0 ((D.su.pc.hands.length:Int) - 1)
 ·have c:arJ D t A B Cc=([],2):=by simp[arJ,h1]
  rw[c];refine apq (anJ an5 aoj ?_);simp only[an5,aoj,apQ,j0,t0,u,q,t1,l1,s,t2,l2,U,getD_map,anM,m,o,p,RN,F,H,N,Q];refine anE j ?_;simp only[h1,an6,aoz,RN,F,N];exact⟨_,rfl,1,0,rfl,rfl⟩
 cases h2:anP B
 ·have c:arJ D t A B Cc=([],2):=by simp[arJ,h2]
  rw[c];refine apq (anJ an5 aoj ?_);simp only[an5,aoj,apQ,j0,t0,u,q,t1,l1,s,t2,l2,U,getD_map,anM,m,o,p,RN,F,H,N,Q];refine anE j ?_;simp only[h1,RN,F];refine anE (aru _) ?_;simp only[h2,an6,aoz,RN,F,N];exact⟨_,rfl,1,0,rfl,rfl⟩
 cases g:anP Cc
 ·have c:arJ D t A B Cc=([],2):=by simp[arJ,g]
  rw[c];refine apq (anJ an5 aoj ?_);simp only[an5,aoj,apQ,j0,t0,u,q,t1,l1,s,t2,l2,U,getD_map,anM,m,o,p,RN,F,H,N,Q];refine anE j ?_;simp only[h1,RN,F];refine anE (aru _) ?_;simp only[h2,RN,F];refine anE (aru _) ?_;simp only[g,an6,aoz,RN,F,N];exact⟨_,rfl,1,0,rfl,rfl⟩
 have b1: -1000000<=B/\B<=1000000:=by simp only[anP,inR,Y,decide_eq_true_eq]at h2;omega
 have K: -1000000<=Cc/\Cc<=1000000:=by simp only[anP,inR,Y,decide_eq_true_eq]at g;omega
 have I:cv .i64 (Cc - B)=Cc - B:=anI (by omega);cases k:inR (Cc - B) 0 10
 ·have c:arJ D t A B Cc=([],2):=by simp[arJ,k]
  rw[c];refine apq (anJ an5 aoj ?_);simp only[an5,aoj,apQ,j0,t0,u,q,t1,l1,s,t2,l2,U,getD_map,anM,m,o,p,RN,F,H,N,Q];refine anE j ?_;simp only[h1,RN,F];refine anE (aru _) ?_;simp only[h2,RN,F];refine anE (aru _) ?_;simp only[g,I,RN,F];refine anE (awN _ _ _) ?_;simp only[k,an6,aoz,RN,F,N];exact⟨_,rfl,1,0,rfl,rfl⟩
 cases x:ao9 t.op A with
 |none=>
  have c:arJ D t A B Cc=([],7):=by simp[arJ,h1,h2,g,k,x]
  rw[c];refine apq (anJ an5 aoj ?_);simp only[an5,aoj,apQ,j0,t0,u,q,t1,l1,s,t2,l2,U,getD_map,anM,m,o,p,RN,F,H,N,Q];refine anE j ?_;simp only[h1,RN,F];refine anE (aru _) ?_;simp only[h2,RN,F];refine anE (aru _) ?_;simp only[g,I,RN,F];refine anE (awN _ _ _) ?_;simp only[k,aom,RN,F,H,Q];refine aNh ((ao9 t.op A).map Fr.dv) (au3 A) (az2 _ _) ?_;simp only[x,ay4,aQ,aK,aM,ai,av,an6,aoz,RN,F,H,J,N,Q];exact⟨_,rfl,1,0,rfl,rfl⟩
 |some f=>
  have h:=aO0 t.pc B Cc A f (by omega) (by omega) K b1;have z:=ayR t.pc B Cc A f;rw[aot,aoa]at h;have c:arJ D t A B Cc=(avn (t.pc.changes B Cc A f).1,(t.pc.changes B Cc A f).2):=by simp[arJ,h1,h2,g,k,x]
  rw[c];generalize T:t.pc.changes B Cc A f=r at*;obtain⟨l,e⟩:=r;simp only at h z⊢;refine apq (anJ an5 aoj ?_);simp only[an5,aoj,apQ,j0,t0,u,q,t1,l1,s,t2,l2,U,getD_map,anM,m,o,p,RN,F,H,N,Q];refine anE j ?_;simp only[h1,RN,F];refine anE (aru _) ?_;simp only[h2,RN,F];refine anE (aru _) ?_;simp only[g,I,RN,F];refine anE (awN _ _ _) ?_;simp only[k,aom,RN,F,H,Q];refine aNh ((ao9 t.op A).map Fr.dv) (au3 A) (az2 _ _) ?_;simp only[x,ay4,bn,aq,aN,aoa,ai,av,RN,F,H,J,N,Q];refine anE h ?_;simp only[U,RN];refine anL l.length (fun i (v:Nat)=>⟨[(12,pI e),(13, .tsl 1 v 0),(73, .d (.slice (e !=0) (l.map Chg.dv))),(74,pI l.length),(75,pI i)],
    ⟨[some ((arQ f1 f2 e1 e2 D t).map .d),some [pI f.n,pI f.d]],[1,0],[some ⟨1,[],0,0⟩,some ⟨1,(avn (l.take i)).map anF,v,avk (avn (l.take i))⟩]⟩⟩)
   (fun _ _=>True) 0 0 (aw _) (by rw[arQ,aom];rfl) trivial (fun i v w _=> ?_) (fun v _=> ?_)
  ·obtain⟨L,M,O⟩:=rng w (by omega)
   have G:avn (l.take (i+1))=avn (l.take i)++ [(l.getD i default).link,(l.getD i default).pr.a,(l.getD i default).pr.b]:=by
    rw[anR w];simp[avn,aW8]
   have C:=aC9 (l.take i);have c:¬avk (avn (l.take i))=2:=az8;simp only[L,M,w,getD_map,ap9,ap,U,ayY,c,ai,av,or_false,RN,F,H,J,N,Q];refine⟨by rintro y (rfl|rfl|rfl)<;>rfl,by simp,by rw[C];simp only[b8];omega,?_⟩;simp only[O];refine ao7 2 2 (v+1) w ?_ trivial (by simp) (by simp) rfl rfl;rw[G,aG2];simp[anF]
  ·simp only[aB,an6,aoz,RN,F,H]
   rw[aX];exact⟨_,rfl,1,v,rfl,rfl⟩
end
def aBX (n:Int):List DV:=[dI n]
def aLX (xs:List Int)(ex:Bool)(hl:xs.length<=1000000):
  aHE C 241 [] [.d (.anY [.slice ex (xs.map anF)])] (xs.map aBX) no no no (fun _=>True):=by
 rintro⟨bs,fz,ar⟩ b n R stop K KP B D r E _ G aq9 A e f;simp only at r;refine anJ at7 apc ?_;simp only[at7,apc,U,RN,F,H,Q];refine axE (fun m s=>∃(i:Nat) (g:Mem),m=xs.length - i/\i<=xs.length/\s=⟨[(0, .asz b),(5, .d (.slice ex (xs.map anF))),(6,pI xs.length),(7,pI i)],g⟩/\n<=g.boxes.length/\R ((xs.take i).map aBX) g)
  xs.length ⟨0,_,rfl,aw _,rfl,r,A⟩ ?_
 rintro m s ⟨i,⟨v,w,u⟩,rfl,J,rfl,c,h⟩
 by_cases a:i<xs.length
 case neg=>
  have k:i=xs.length:=by omega
  subst k;simp only[aB,RN,F];rw[aX]at h;exact f _ _ c h
 obtain⟨x,y,z⟩:=rng a hl;simp only[x,y,a,getD_map,anM,ap,U,RN,F,Q];refine axe ?_;refine SY.mono (aq9 ((xs.take i).map aBX) (aBX (xs.getD i default)) ((xs.drop (i+1)).map aBX) _ (by
  conv=>lhs;rw[<-List.take_append_drop i xs,drop_cons a]
  simp) c h) ?_
 rintro p t ⟨l,I⟩;have o:=l.len;simp only at o c
 rcases I with⟨rfl,j⟩|⟨rfl,q⟩
 ·simp only[z,RN,F]
  refine⟨xs.length - (i+1),_,by omega, .inl rfl,i+1,t,rfl,by omega,rfl,by omega,?_⟩;rw[anR a,ax];exact j
 ·(try simp only[RN,F])
  exact e _ _ q
def axK (ex:Bool)(xs:List Int):DV:= .func (.func 241) [] [.anY [.slice ex (xs.map anF)]]
def aPa (xs:List Int)(ex:Bool)(hl:xs.length<=1000000){bs:List (Option (List PV))}{fz:List Nat}{ar:List (Option Arr)}(w:FzB ⟨bs,fz,ar⟩){KP:DV->Mem->Prop}:
  SC C 288 [.d (.slice true []), .d (axK ex xs)] ⟨bs,fz,ar⟩ (fun p M'=>slN 1 true p (xs.map anF) M'.anK/\Frm ⟨bs,fz,ar⟩ M'/\(∀k,kOf p=some k->ar.length<=k)/\(xs=[]->p= .d (.slice true []))) KP:=by
 have P:bs.length∉fz:=fun e=>aD _ (w _ e)
 refine anJ atB anO ?_;simp only[atB,anO,axK,anZ,aoo,RN,F,H];refine atq (aLX xs ex hl) (fun _ h=>h) rfl (by kernel_rfl) (fun i s=>by have:=w i s;simp at this⊢;omega) (fun x t=>by obtain⟨i,_,rfl⟩:=aA.1 t;rfl) (fun _ h=>h.elim) (fun _ _=>trivial)
  (fun o u=>∃l r c,xs=l++r/\o=l.map aBX/\u.boxes[bs.length]?=some (some [c])/\bs.length∉u.fz/\slN 1 true c (l.map anF) u.anK/\Frm ⟨bs,fz,ar⟩ u/\(∀k,kOf c=some k->ar.length<=k)/\(l=[]->c= .d (.slice true []))) ?_ ?_ ?_ ?_
 ·rintro o u M2 z ⟨l,r,c,b,q,g,B,D,a,E,I⟩
  simp only[W,ae,am]at z;exact⟨l,r,c,b,q,(z.box _ (by omega) id).trans g,fun e=>B ((z.fz _ (by omega) id).1 e),by rw[z.anK];exact D,a.moved z (by simp),E,I⟩
 ·exact⟨[],xs,_,rfl,rfl,by simp only;rw[anZ rfl];rfl,P, .inl ⟨rfl,rfl⟩,Frm.new (xf:=[]) (by simp),(fun k hk=>by cases hk),fun _=>rfl⟩
 ·rintro L cells o x Y ⟨m,K,J⟩ t n f A ⟨l,r,c,b,q,g,B,D,a,E,I⟩ M0
  simp only[W,ae,am]at n f A g B⊢;obtain⟨p,G,rfl⟩:∃p G,r=p::G:=by
   cases r with
   |nil=>
    rw[b,q]at t;have:=congrArg aT t;simp at this
   |cons p G=>exact⟨p,G,rfl⟩
  have S:x=aBX p:=by
   rw[b,q,ax,aj]at t;have:=a8 t;exact(List.cons.inj this).1.symm
  subst S;have v:bs.length<m.length:=by omega
  have V:l.length<=1000000:=by have:=congrArg aT b;simp at this;omega
  simp only[aBX,bw,bA,aj,aC,g,ao8,DV.strip,RN,F,Q];refine aFj D (by decide) (by intro y X;simp only[ay]at X;subst X;rfl) (by simp) (by simp;omega) fun k ver st ab a1 Z a3 T a5 a6=> ?_
  have R:=a6 rfl;subst R;simp only[g,B,aor,aox,auW,RN,Q];have N:ar.length<=k:=by
   rcases a1 with a1|a1
   ·exact E k a1
   ·have:=a.aoc;simp only at this;omega
  refine⟨by rw[ao (by omega)];exact f,A,Kept.aCK (by omega) id T (fun _ h=>h.elim),l++ [p],G, .tsl k ver 0,by rw[b];simp,by rw[q];simp[aBX],by simp[v], .inr ⟨k,ver,1,rfl,by rw[Z];simp[anF],by decide,fun _=> .inl rfl⟩,?_,(fun k' M=>by cases M;exact N),fun e=>by simp at e⟩;exact
  {len:=by have:=a.len;simpa using this
   aoc:=b5 a.aoc T
   box:=fun i s=>by
    have:=a.box i s;simp only at s this⊢;rw[ao (by omega)];exact this
   fz:=a.fz
   row:=fun j U=>by
    have:=a.row j U;have O:=a.aoc;simp only at U this O⊢;rw[a3 j (by omega) (by omega)];exact this
   fzb:=fun e i s=>by have:=a.fzb e i s;simpa using this}
 ·rintro⟨m,K,J⟩ ⟨l,r,c,b,q,g,B,D,a,E,I⟩ n
  simp only[W,ae,am]at n g;have hr:r=[]:=by
   have:=congrArg aT q;rw[b]at this;simp at this;exact this
  subst hr;rw[aF]at b;subst b;have v:bs.length<m.length:=by omega
  simp only[g,RN,Q];exact⟨D,a,E,I⟩
end Go.Tel
namespace Go.Proofs
open Go.Shelf
end Go.Proofs
namespace Go.Tel
open Go.Am
def aUj {k ver:Nat}{zs:List Int}{bs:List (Option (List PV))}{fz:List Nat}{ar:List (Option Arr)}{K:PV->Mem->Prop}{KP:DV->Mem->Prop}
  (h:ar[k]?=some (some ⟨1,zs.map (DV.int .i64),ver,1⟩))(b:zs≠[])(hl:zs.length<4611686018427387904)
  (a:K (.d (.tup [])) ⟨bs,fz,ar.set k (some ⟨1,(zs.mergeSort fun x y=>decide (x<=y)).map (DV.int .i64),ver,1⟩)⟩):SC Go.Tel.C 240 [.tsl k ver 0] ⟨bs,fz,ar⟩ K KP:=
 aWf (C:=Go.Tel.C) Go.Proofs.Tryz.laysSort h b hl a
def aRa (ex:Bool):Pure C 240 [.slice ex []] (.d (.tup [])) []:=by
 refine atb fun X w g l j i=> ?_
 cases i with|cons h1 t1=>
 cases t1;have b:∀a cap,Calls C.P 240 #[.slice a 0 cap] w fun e c=>∃v,e= .returned v/\Later w c/\aof c X v (.tup []):=by
  intro a cap;refine(Go.Proofs.Any.slices_Sort_int_none Go.Proofs.Tryz.laysSort a cap w).mono ?_;rintro e c ⟨rfl,rfl⟩;exact⟨_,rfl,Later.refl _, .tup .nil⟩
 cases h1 with
 |empty j=>exact b _ _
 |slice m o f p n k h=>
  simp only[am]at f;subst f;exact b _ _
def aFz (xs:List Int)(ex:Bool)(hl:xs.length<=1000000){bs:List (Option (List PV))}{fz:List Nat}{ar:List (Option Arr)}(a:FzB ⟨bs,fz,ar⟩){KP:DV->Mem->Prop}:
  SC C 239 [.d (axK ex xs)] ⟨bs,fz,ar⟩ (fun p M'=>slN 1 true p (xs.map anF) M'.anK/\Frm ⟨bs,fz,ar⟩ M'/\(∀k,kOf p=some k->ar.length<=k)/\(xs=[]->p= .d (.slice true []))) KP:=by
 refine anJ auA anN ?_;simp only[auA,anN,RN,F];refine SC.aqk (SC.mono (aPa xs ex hl a (KP:=fun _ _=>False)) ?_) (fun _ _ h=>h.elim);rintro p ⟨c,e,b⟩ h;(try simp only[]);exact h
def aAH (xs:List Int):List Int:=xs.mergeSort fun x y=>decide (x<=y)
def aQN:aAH []=[]:=by simp[aAH]
def aTN {xs:List Int}(h:xs≠[]):aAH xs≠[]:=fun e=>h (by
 have:=congrArg aT e;simp only[aAH,List.length_mergeSort,am]at this;exact List.eq_nil_of_length_eq_zero this)
def aER {α:Type}{l:List α}(h:l≠[]):avk l=1:=by cases l with|nil=>exact absurd rfl h|cons _ _=>rfl
def aTO (xs:List Int)(ex:Bool)(hl:xs.length<=1000000)(hx:xs≠[]):Pure C 164 [axK ex xs] (.tsl 0 0 0) [⟨1,(aAH xs).map anF,0,1⟩]:=by
 refine aEJ (anJ aqD anN ?_);simp only[aqD,anN,RN,F];refine SC.aqk (SC.mono (aFz xs ex hl (bs:=[]) (fz:=[]) (ar:=[]) (by intro i f;simp at f) (KP:=fun _ _=>False)) ?_) (fun _ _ h=>h.elim);rintro p ⟨d,e,c⟩ ⟨h1,h2,g,j⟩;obtain⟨k,ver,st,rfl,b,_,a⟩:=az6 h1 (by simpa using hx);have a:=a rfl;subst a;simp only at b;(try simp only[]);refine aUj (zs:=xs) b hx (by omega) ?_;(try simp only[]);exact⟨k,ver,rfl,by simp only;rw[bd (ah.1 b).1];rfl⟩
def aNQ (ex:Bool):Pure C 164 [axK ex []] (.d (.slice true [])) []:=by
 refine an9 (anJ aqD anN ?_);simp only[aqD,anN,RN,F];refine SC.aqk (SC.mono (aFz [] ex (by simp) (bs:=[]) (fz:=[]) (ar:=[]) (by intro i f;simp at f) (KP:=fun _ _=>False)) ?_) (fun _ _ h=>h.elim);rintro p ⟨b,c,a⟩ ⟨h1,h2,j,e⟩;have g:=e rfl;subst g;(try simp only[]);refine aOL (aRa false) rfl (ds:=[.slice true []]) rfl rfl ?_;(try simp only[])
 rfl
def aT5 (xs:List Int)(ex:Bool):Pure C 165 [.slice ex (xs.map anF)] (.d (axK ex xs)) []:=by
 refine am6 avb anN ?_;simp only[avb,anN,RN,F]
 rfl
section
variable (f1 f2 e1 e2:Bool){D:Dk}{t:Sp}(ns:List Int)
def aT8 (e:awD D.su 24 t):Ans 76 [avm f1 f2 e1 e2 D t,sF (ns.map anF)] (aAH t.aoN) 0:=by
 have d:=e.st;have c:=aT5 t.aoN false
 by_cases a:t.aoN=[]
 ·have b:=aNQ false
  rw[a]at c⊢;refine awG aQN (am6 apH aoj ?_);simp only[apH,aoj,apQ,aom,a,RN,F,H,Q];refine anE c ?_;(try simp only[RN,F,H,I,J,N,Q]);refine arE rfl rfl b (by simp) ?_;simp only[PV.shift,apR,RN]
 ·have b:=aTO t.aoN false (by omega) a
  refine apq (anJ apH aoj ?_);simp only[apH,aoj,apQ,aom,RN,F,H,Q];refine anE c ?_;(try simp only[RN,F,H,I,J,N,Q]);refine arE rfl rfl b (by simp) ?_;simp only[PV.shift,apR,an6,aoz,RN];exact⟨_,rfl,0,0,rfl,by rw[aER (aTN a)];rfl⟩
def aCS {D:Dk}(hl:D.es.length=D.st.length)(ab:D.es.length<=1000)(hf:∀x∈D.es,apG x.kind<=x.ns.length):
  aHE C 163 [.d (.anY (aAa e1 e2 D))] [] (aov D 0) no no no (fun _=>True):=by
 rintro⟨bs,fz,ar⟩ b n R stop K KP ac ah hn y aj P aq9 h0 u w;simp only at hn y;refine anJ apT apc ?_;simp only[apT,apc,aAa,U,RN,F,H,Q];refine axE (fun m s=>∃(i:Nat) (f:List (List DV)) (B:Mem),m=D.es.length - i/\i<=D.es.length/\s=⟨[(0, .d (.anY (aAa e1 e2 D))),(1, .asz b),(9, .d (.slice e1 (D.es.map En.dv))),(10,pI D.es.length),(11,pI i)],B⟩/\n<=B.boxes.length/\FzB B/\aov D 0=f++aov D i/\R f B)
  D.es.length ⟨0,[],_,rfl,aw _,rfl,hn,y,rfl,h0⟩ ?_
 rintro m s ⟨i,f,⟨g,q,v⟩,rfl,hi,rfl,h,l,c,Z⟩;simp only at h;have S:g.length∉q:=fun e=>aD _ (l _ e)
 by_cases t:i<D.es.length
 case neg=>
  have M:i=D.es.length:=by omega
  subst M;simp only[aB,RN,F];refine w _ _ h ?_;rw[c];have:aov D D.es.length=[]:=by simp[aov,aqF]
  rw[this,aF];exact Z
 have A:(i:Int)<(D.es.length:Int):=by omega
 have o:i<D.st.length:=by omega
 have j0:(0:Int)<=(i:Int):=by omega
 have Y:cv .i64 ((i:Int)+1)=((i+1:Nat):Int):=by rw[anI (by omega)];omega
 have a:=azL hl t;obtain⟨x,V⟩:∃x,x=D.es.getD i default:=⟨_,rfl⟩
 have X:x∈D.es:=by rw[V];exact getD_mem t
 have aKw:=aFC x (hf x X);rw[<-V]at a;rw[aon]at aKw;have r:R f ⟨g++ [some [pI x.kind, .d (sF (x.ns.map anF))]],g.length::q,v⟩:=
  P f _ _ (Moved.ext (xf:=[g.length]) (xb:=[_]) h (by simpa using h)) Z
 have aMY:FzB ⟨g++ [some [pI x.kind, .d (sF (x.ns.map anF))]],g.length::q,v⟩:=by
  intro j hj;simp only[ai]at hj;simp only[W,ae,am]
  rcases hj with rfl|hj
  ·omega
  ·have:=l j hj;simp only at this;omega
 simp only[A,t,j0,ap,U,getD_map,<-V,aon,S,anZ,aoo,W,RN,F,H,Q]
 by_cases G:x.kind=6
 ·have E:(x.kind !=6)=false:=by simp[G]
  rw[if_neg (by simp[G])]at a;simp only[E,Y,RN,F];refine⟨D.es.length - (i+1),_,by omega, .inl rfl,i+1,f,_,rfl,by omega,rfl,by simp;omega,aMY,by rw[c,a],r⟩
 have E:(x.kind !=6)=true:=by simp[G]
 cases k:D.st.getD i default
 case true=>
  rw[if_neg (fun e=>by rw[k]at e;cases e.2)]at a;simp only[aAa,E,o,j0,ap,U,getD_map,aqz,k,Y,RN,F,H,Q];refine⟨D.es.length - (i+1),_,by omega, .inl rfl,i+1,f,_,rfl,by omega,rfl,by simp;omega,aMY,by rw[c,a],r⟩
 rw[if_pos ⟨G,k⟩]at a;simp only[aAa,E,o,j0,ap,U,getD_map,aqz,k,RN,F,H,Q];refine anE aKw ?_;(try simp only[RN,F,H,I,J,N,Q]);refine axe ?_;refine SY.mono (aq9 f (asu (i,x.deed)) (aov D (i+1)) _ (by rw[c,a]) (by simp;omega) r) ?_;rintro p M3 ⟨z,hp⟩
 rcases hp with⟨rfl,L⟩|⟨rfl,T⟩
 ·simp only[Y,RN,F]
  have O:=z.len;simp only[W,ae,am]at O;refine⟨D.es.length - (i+1),_,by omega, .inl rfl,i+1,_,M3,rfl,by omega,rfl,by omega,z.fzb aMY,by rw[c,a,bc];rfl,L⟩
 ·(try simp only[RN,F])
  exact u _ _ T
def aNU (b:D.Ok):Ans 86 [avm f1 f2 e1 e2 D t,sF (ns.map anF)] (D.stands.map fun p=>(p.1:Int)) 0:=by
 have X:D.stands.length<=24:=b5 (avf _ _ _) b.few
 by_cases u:D.stands=[]
 ·refine awG (by rw[u];rfl) (an9 (anJ aph aoj ?_))
  simp only[aph,aoj,apQ,RN,F,H,Q];refine atq (aCS e1 e2 b.len (by have:=b.few;omega) (fun x a=>awL (b.formed x a))) (fun _ h=>h) rfl (by kernel_rfl) (fun i B=>by simp at B;simp[B]) (fun x a=>by simp only[aov,aA]at a;obtain⟨p,_,rfl⟩:=a;rfl) (fun _ h=>h.elim) (fun _ _=>trivial)
   (fun f o=>o.boxes[1]?=some (some [.d (.slice true [])])) ?_ rfl ?_ ?_
  ·intro f o R C h
   exact(C.box 1 (by simp) id).trans h
  ·intro L cells f x G o a
   rw[aov,az,az,<-Dk.stands,u]at a;simp at a
  ·rintro⟨m,z,w⟩ h n
   simp only at h;simp only[h,RN,F,Q]
   rfl
 ·refine apq (anJ aph aoj ?_)
  simp only[aph,aoj,apQ,RN,F,H,Q];refine atq (aCS e1 e2 b.len (by have:=b.few;omega) (fun x a=>awL (b.formed x a))) (fun _ h=>h) rfl (by kernel_rfl) (fun i B=>by simp at B;simp[B]) (fun x a=>by simp only[aov,aA]at a;obtain⟨p,_,rfl⟩:=a;rfl) (fun _ h=>h.elim) (fun _ _=>trivial)
   (fun f o=>∃l r c,D.stands=l++r/\f=l.map asu/\o.boxes[1]?=some (some [c])/\1∉o.fz/\slN 1 true c (l.map fun p=>dI (p.1:Int)) o.anK) ?_ ⟨[],D.stands,_,rfl,rfl,rfl,by simp, .inl ⟨rfl,rfl⟩⟩ ?_ ?_
  ·rintro f o R C ⟨l,r,c,g,v,s,I,J⟩
   exact⟨l,r,c,g,v,(C.box 1 (by simp) id).trans s,fun e=>I ((C.fz 1 (by simp) id).1 e),by rw[C.anK];exact J⟩
  ·rintro L cells f x G ⟨m,z,w⟩ a n q E ⟨l,r,c,g,v,s,I,J⟩ Y
   simp only[ae,am]at n q E s I⊢;obtain⟨p,K,rfl⟩:∃p K,r=p::K:=by
    cases r with
    |nil=>
     rw[aov,az,az,<-Dk.stands,g,v]at a;have:=congrArg aT a;simp at this
    |cons p K=>exact⟨p,K,rfl⟩
   have M:x=asu p:=by
    rw[aov,az,az,<-Dk.stands,g,v,ax,aj]at a;exact(List.cons.inj (a8 a)).1.symm
   subst M;have A:1<m.length:=by omega
   have O:l.length<=24:=by have:=congrArg aT g;simp at this;omega
   simp only[asu,bw,bA,aj,aC,s,ao8,DV.strip,RN,F,H,Q];refine aFj J (by decide) (by intro y P;simp only[ay]at P;subst P;rfl) (by simp) (by simp;omega) fun k ver st V Z S a3 T a5 U=> ?_
   have j:=U rfl;subst j;simp only[s,I,aor,aox,auW,RN,H,Q];exact⟨by rw[ao (by omega)];exact q,E,Kept.aCK (by omega) id T (fun _ h=>h.elim),l++ [p],K, .tsl k ver 0,by rw[g];simp,by rw[v];simp[asu],by simp[A], .inr ⟨k,ver,1,rfl,by rw[S];simp,by decide,fun _=> .inl rfl⟩⟩
  ·rintro⟨m,z,w⟩ ⟨l,r,c,g,v,s,I,J⟩ n
   simp only[ae,am]at n s;have W:r=[]:=by
    have:=congrArg aT v;rw[aov,az,az,<-Dk.stands,g]at this;simp at this;exact this
   subst W;rw[aF]at g;have aZc:l≠[]:=by rw[<-g];exact u
   obtain⟨k,ver,st,rfl,N,_,j⟩:=az6 J (by simpa using aZc);have j:=j rfl;subst j;simp only at N;have A:1<m.length:=by omega
   simp only[s,an6,aoz,RN,F,Q];refine⟨_,rfl,k,ver,rfl,?_⟩;rw[aER (by rw[g];simpa using aZc)];simp only[N,g,b0]
   rfl
end
end Go.Tel
namespace Go.Am
section
variable {C:Ctx}
def aII (C:Ctx)(M:Mem)(args qs:List PV)(ds:List DV):Prop:=∀X w E a,Sim C X w M E->anW w (away X M E) M E a args->an3 w (away X (M.frz qs) E) a ds
variable{M:Mem}
def aL6 {a b:PV}{e f y:DV}(h:aos M [a,b, .d y]=some [e,f,y]):aII C M [.agg [a,b], .d y] [a,b, .d y] [.agg [e,f],y]:=by
 intro X w E g m k;cases k with|cons h1 t1=>
 cases t1 with|cons h2 t2=>
 cases t2;cases h1 with|agg hh=>
 rename_i z
 generalize c:z.toList=l at hh;cases hh with|cons i s=>
 cases s with|cons j t=>
 cases t;have hd:=atl (ps:=[a,b, .d y]) m (.cons i (.cons j (.cons h2 .nil))) h (fun q n=>n);cases hd with|cons o u=>
 cases u with|cons p v=>
 cases v with|cons r x=>
 cases x;exact .cons (.agg (by rw[c];exact .cons o (.cons p .nil))) (.cons r .nil)
def aQG {f:FuncId}{args qs:List PV}{ds ds':List DV}{r:PV}{k:List Arr}(h:Pure C f ds' r k)(u:aFN r=true)(d:k.all apY=true){K:PV->Mem->Prop}{KP:DV->Mem->Prop}
  (m:aII C M args qs ds)(n:ds.map DV.strip=ds')(s:K (r.shift M.anK.length) {M with anK:=M.anK++k.map some}):SC C f args M K KP:=by
 subst n;intro X w E a c q;have l:=ard c qs;have hd:=(m X w E a c q).strip;refine(h (away X (M.frz qs) E) w a c.glob (fun b i=> .inl (c.apF b i)) (fun b i=>l.auS i) hd).mono fun e F n=> ?_
 obtain⟨v,D,rfl,g,p,x⟩:=n;have o:∀A∈k,A.st≠2:=fun A t e=>by
  have j:=au.1 d A t;simp only[apY,Y]at j
  rcases Bool.or_eq_true_iff.1 j.1 with h|h
  ·rw[e]at h;simp at h
  ·rw[e]at h;simp at h
 obtain⟨y,z,B⟩:=azI c (axF c g p d) p o;exact⟨_,_,_,s,y,z,aDy c.aoc (fun b i=>(B b).1 i) (aDw g d u x)⟩
end
end Go.Am
namespace Go.Tel
open Go.Am
variable{f:FuncId}{args qs:List PV}{M:Mem}{ds ds':List DV}{K:PV->Mem->Prop}{KP:DV->Mem->Prop}
def aWb {n:Int}(h:Pure C f ds' (.d (av6 n)) [])(k:aII C M args qs ds)(l:ds.map DV.strip=ds')(p:K (.d (av6 n)) M):SC C f args M K KP:=by
 subst l;intro X w E a c o;have i:=ard c qs;have hd:=(k X w E a c o).strip;refine(h (away X (M.frz qs) E) w a c.glob (fun b j=> .inl (c.apF b j)) (fun b j=>i.auS j) hd).mono fun e x l=> ?_
 obtain⟨v,t,rfl,g,m,q⟩:=l;obtain⟨r,s,u⟩:=azI c (axF c g m rfl) m (by simp);exact⟨_,_,_,(by simpa using p),r,s, .d (aOu q.toD)⟩
variable{l:List Int}
def aWZ {e:Int}(h:Ans f ds' l e)(a:aII C M args qs ds)(i:ds.map DV.strip=ds')
  (g:∀p c xa,(p= .tup [c,pI e]\/(p= .d (.tup [.slice true [],dI e])/\c= .d (.slice true [])))->slN 1 true c (l.map anF) (M.anK++xa)->(∀k,kOf c=some k->M.anK.length<=k)->K p ⟨M.boxes,M.fz,M.anK++xa⟩):SC C f args M K KP:=by
 rcases h with h|⟨rfl,h⟩
 ·refine aQG h rfl ?_ a i ?_
  ·simp only[bS,cp,bR];exact aBE l
  ·refine g _ (.tsl M.anK.length 0 0) [some ⟨1,l.map anF,0,avk l⟩] (.inl ?_) (.inr ⟨_,0,avk l,rfl,by simp,az8,fun _=> ?_⟩) (fun k b=>by cases b;exact aH _)
   ·simp[PV.shift,apR,aG0]
   ·cases l with
    |nil=>exact .inr rfl
    |cons x l=>exact .inl rfl
 ·refine aWb h a i ?_
  have:=g (.d (av6 e)) (.d (.slice true [])) [] (.inr ⟨rfl,rfl⟩) (.inl ⟨rfl,rfl⟩) (fun k b=>by cases b)
  simpa using this
structure Qn where
 kind:Int
 ns:List Int
 deriving DecidableEq,Inhabited
def Qn.dv (x:Qn):DV:= .agg [dI x.kind,sF (x.ns.map anF)]
def aBw {x:Qn}:x.dv= .agg [dI x.kind,sF (x.ns.map anF)]:=by rw[Qn.dv]
def Qn.n (x:Qn)(i:Nat):Int:=x.ns.getD i default
def amL:List (ByteArray×Nat):=[(⟨#[104,97,110,100,115]⟩,0),(⟨#[115,116,111,99,107]⟩,0),(⟨#[111,112,101,110]⟩,0),(⟨#[112,114,105,99,101]⟩,1),(⟨#[110,101,101,100]⟩,3),(⟨#[111,102,102]⟩,2),(⟨#[119,114,111,110,103]⟩,0),(⟨#[119,111,114,107,115]⟩,1),(⟨#[100,97,116,101]⟩,1),(⟨#[99,117,116,115]⟩,1),(⟨#[99,111,105,110,115]⟩,0),(⟨#[115,116,97,110,100,115]⟩,0)]
def fwQ (k:Int):ByteArray:=(amL.getD (k - 1).toNat default).1
def aBQ (k:Int):Nat:=(amL.getD (k - 1).toNat default).2
def aE7 {k:Int}(h:1<=k/\k<=12):k=1\/k=2\/k=3\/k=4\/k=5\/k=6\/k=7\/k=8\/k=9\/k=10\/k=11\/k=12:=by omega
def aYN {k:Int}(h:1<=k/\k<=12):aIL (apx (cu 2 (ct ((k - 1).toNat*2) (cm PV.d (aHs amL))))) (cu 2 (ct ((k - 1).toNat*2) (cm PV.d (aHs amL))))= .d (.agg [.str (fwQ k),dI (aBQ k)])/\(k - 1).toNat*2+2<=(cm PV.d (aHs amL)).length/\cv .i64 (k - 1)=k - 1:=by
 rcases aE7 h with rfl|rfl|rfl|rfl|rfl|rfl|rfl|rfl|rfl|rfl|rfl|rfl<;>exact⟨rfl,by decide,by decide⟩
def aOk:aHs amL=[.str ⟨#[104,97,110,100,115]⟩,dI 0, .str ⟨#[115,116,111,99,107]⟩,dI 0, .str ⟨#[111,112,101,110]⟩,dI 0, .str ⟨#[112,114,105,99,101]⟩,dI 1, .str ⟨#[110,101,101,100]⟩,dI 3, .str ⟨#[111,102,102]⟩,dI 2, .str ⟨#[119,114,111,110,103]⟩,dI 0, .str ⟨#[119,111,114,107,115]⟩,dI 1, .str ⟨#[100,97,116,101]⟩,dI 1, .str ⟨#[99,117,116,115]⟩,dI 1, .str ⟨#[99,111,105,110,115]⟩,dI 0, .str ⟨#[115,116,97,110,100,115]⟩,dI 0]:=rfl
def aRo:Pure C 71 [] (.d (.agg (aHs amL))) []:=by
 refine am6 awh aTq ?_;simp only[awh,aTq,aOk,azW,RN,F,H,Q]
def aW2 (k:Int):FuncId:=([75,76,77,78,79,80,81,82,83,84,85,86]:List FuncId).getD (k - 1).toNat default
def Dk.answer (D:Dk)(t:Sp)(q:Qn):List Int×Int:=
 if q.kind=1 then(aDh t.pc,0)else if q.kind=2 then(aAH t.aoN,0)else if q.kind=3 then(aqX t.op t.pc.hands.length,0)
 else if q.kind=4 then(if inR (q.n 0) 0 (D.su.pc.hands.length - 1)then[aya D.su t (q.n 0).toNat]else[],if inR (q.n 0) 0 (D.su.pc.hands.length - 1)then 0 else 2)
 else if q.kind=5 then arJ D t (q.n 0) (q.n 1) (q.n 2)
 else if q.kind=6 then(if inR (q.n 0) 0 (D.su.pc.hands.length - 1)&&inR (q.n 1) 1 D.su.days.length then[(att t.pc (q.n 0) (t.tg.getD (q.n 0).toNat default) (t.turns (q.n 1))).1]else[],
  if inR (q.n 0) 0 (D.su.pc.hands.length - 1)&&inR (q.n 1) 1 D.su.days.length then(att t.pc (q.n 0) (t.tg.getD (q.n 0).toNat default) (t.turns (q.n 1))).2 else 2)
 else if q.kind=7 then([arH D.su t D.su.days.length],0)
 else if q.kind=8 then(if inR (q.n 0) 1 D.su.days.length then(match aq8 D.asy ((D.su.days.length:Int)+1 - q.n 0).toNat (q.n 0)with|some d=>[d]|none=>[])else[],
  if inR (q.n 0) 1 D.su.days.length then(match aq8 D.asy ((D.su.days.length:Int)+1 - q.n 0).toNat (q.n 0)with|some _=>0|none=>5)else 2)
 else if q.kind=9 then(if inR (q.n 0) 1 D.su.days.length then[(ayT D.su.cal D.su.year.toNat (D.su.first+(q.n 0 - 1))).m,(ayT D.su.cal D.su.year.toNat (D.su.first+(q.n 0 - 1))).d]else[],if inR (q.n 0) 1 D.su.days.length then 0 else 2)
 else if q.kind=10 then([(D.su.dvd.cuts (q.n 0)).1.circle,(D.su.dvd.cuts (q.n 0)).1.turns,(D.su.dvd.cuts (q.n 0)).1.holes],(D.su.dvd.cuts (q.n 0)).2)
 else if q.kind=11 then([t.aqy],0)
 else(D.stands.map fun p=>(p.1:Int),0)
def aRg (f1 f2 e1 e2:Bool){D:Dk}{t:Sp}(a:D.Ok)(c:awD D.su 24 t)(q:Qn)(hk:1<=q.kind/\q.kind<=12)(b:q.ns.length=aBQ q.kind):
  Ans (aW2 q.kind) [avm f1 f2 e1 e2 D t,sF (q.ns.map anF)] (D.answer t q).1 (D.answer t q).2:=by
 obtain⟨k,ns⟩:=q;simp only at hk b⊢
 rcases aE7 hk with rfl|rfl|rfl|rfl|rfl|rfl|rfl|rfl|rfl|rfl|rfl|rfl
 ·exact aU3 _ _ _ _ _ c
 ·exact aT8 _ _ _ _ _ c
 ·exact aSU _ _ _ _ _ c
 ·exact aW9 _ _ _ _ _ a c b
 ·exact aYl _ _ _ _ _ a c b
 ·exact aZJ _ _ _ _ _ a c b
 ·exact aWv _ _ _ _ _ a c
 ·exact aWs _ _ _ _ _ a b
 ·exact aXc _ _ _ _ _ a b
 ·exact aXa _ _ _ _ _ a b
 ·exact aYr _ _ _ _ _
 ·exact aNU _ _ _ _ _ a
def Dk.ask (D:Dk)(q:Qn):List Int×Int:=
 if inR q.kind 1 12=false then([],2)else if q.ns.length≠aBQ q.kind then([],2)else
  match D.state (-1)with
  |none=>([],7)
  |some t=>if(D.answer t q).2=0 then D.answer t q else([],(D.answer t q).2)
variable{s:Su}{a b:Nat}
def ape.same {mb:Nat}{cst cse:PV}{t:Sp}{M':Mem}(h:ape s a b mb cst cse t M)(hb:M'.boxes[b]?=M.boxes[b]?)(g:M'.boxes[mb]?=M.boxes[mb]?)(c:M'.anK=M.anK)(d:b∉M'.fz)(e:mb∉M'.fz)(f:FzB M'):ape s a b mb cst cse t M':=
 {box:=hb.trans h.box
  map:=g.trans h.map
  r0:=by rw[c];exact h.r0
  r1:=by rw[c];exact h.r1
  r2:=by rw[c];exact h.r2
  r3:=by rw[c];exact h.r3
  r4:=by rw[c];exact h.r4
  r5:=by rw[c];exact h.r5
  stk:=by rw[c];exact h.stk
  set:=by rw[c];exact h.set
  kst:=h.kst,kse:=h.kse,dif:=h.dif,nb:=d,nm:=e,bm:=h.bm,fzb:=f}
def Frm.aNM {a:List (Option (List PV))}{b:List Nat}{ar':List (Option Arr)}{y:Option (List PV)}{i:Nat}(h:Frm M ⟨a,b,ar'⟩)(hi:M.boxes.length<=i):Frm M ⟨a.set i y,b,ar'⟩:=
 {len:=by have:=h.len;simp only[bI]at this⊢;omega
  aoc:=h.aoc
  box:=fun j c=>by
   have h2:=h.box j c;simp only at h2⊢;rw[ao (by omega)];exact h2
  fz:=h.fz
  row:=h.row
  fzb:=fun e j c=>by have:=h.fzb e j c;simp only[bI]at this⊢;exact this}
variable{D:Dk}{d:Nat}
def aUr {ce cs:PV}(h:aqR D d ce cs M)(n:D.Ok){pb ab:Nat}(o:M.boxes[pb]?=some (some [.ptr d 0]))(m:M.boxes[ab]?=some (some [.d .nilPtr, .ptr d 0]))(j:ab∉M.fz):
  SC C 73 [.ptr pb 0, .ptr ab 0] M
   (fun _ M'=>∃t b mb a cst cse c f g,D.state (-1)=some t/\ape D.su a b mb cst cse t ⟨c,f,g⟩/\Frm M ⟨c,f,g⟩/\M.boxes.length<=b/\M.boxes.length<=mb/\M'=⟨c.set ab (some [.ptr b 0, .ptr d 0]),f,g⟩)
   (fun p M'=>D.state (-1)=none/\aAN p/\Frm M M'):=by
 have w:=h;obtain⟨bs,fz,ar⟩:=M;simp only at o m j;have x:pb<bs.length:=(ah.1 o).1;have k:ab<bs.length:=(ah.1 m).1;refine anJ asY apc ?_;simp only[asY,apc,o,RN,F,H,Q];refine SC.mono (aDd w n (-1)) ?_;rintro v ⟨c,f,g⟩ ⟨t,b,mb,a,cst,cse,rfl,q,r,l,s,u,y⟩;have i:c[ab]?=some (some [.d .nilPtr, .ptr d 0]):=(l.box ab k).trans m;have aZ7:ab<c.length:=(ah.1 i).1;have aZ6:ab∉f:=fun e=>j ((l.fz ab k).1 e)
 simp only[i,aZ6,axa,aFh,RN,H,Q];exact⟨t,b,mb,a,cst,cse,c,f,g,q,r,l,s,u,rfl⟩
def aW3 {k:Int}(h:1<=k/\k<=12):(cm PV.d [DV.func (.func 75) [] [], .func (.func 76) [] [], .func (.func 77) [] [], .func (.func 78) [] [], .func (.func 79) [] [], .func (.func 80) [] [], .func (.func 81) [] [], .func (.func 82) [] [], .func (.func 83) [] [], .func (.func 84) [] [], .func (.func 85) [] [], .func (.func 86) [] []]).getD (k - 1).toNat .dead= .d (.func (.func (aW2 k)) [] [])/\callable C.P (aW2 k)=true:=by
 rcases aE7 h with rfl|rfl|rfl|rfl|rfl|rfl|rfl|rfl|rfl|rfl|rfl|rfl<;>exact⟨rfl,by kernel_rfl⟩
def aL1 {ce cs:PV}(h:aqR D d ce cs M)(S:D.Ok)(q:Qn){KP:DV->Mem->Prop}:
  SC C 21 [.ptr d 0, .d q.dv] M (fun p M'=>∃c,(p= .tup [c,pI ((D.ask q).2)]\/(p= .d (.tup [.slice true [],dI (D.ask q).2])/\c= .d (.slice true [])))/\slN 1 true c ((D.ask q).1.map anF) M'.anK/\(∀k,kOf c=some k->M.anK.length<=k)/\Frm M M') KP:=by
 obtain⟨bs,fz,ar⟩:=M;have u:=h.box;rw[apg]at u;simp only at u;have aT:d<bs.length:=(ah.1 u).1;have ay5:∀i∈fz,i<bs.length:=h.fzb
 have aU:bs.length∉fz:=fun e=>aD _ (ay5 _ e)
 have ap:∀k,bs.length+k∉fz:=fun k e=>by have:=ay5 _ e;omega
 have aO:¬d=bs.length:=by omega
 have aP:∀k,¬d=bs.length+k:=fun k=>by omega
 have aR:∀k,d<bs.length+k:=fun k=>by omega
 have aV:¬bs.length+1=bs.length:=by omega
 have aW:¬bs.length+2=bs.length:=by omega
 have aK:¬bs.length+2=bs.length+1:=by omega
 have K:Frm ⟨bs,fz,ar⟩ ⟨bs++ [some [.ptr d 0],some [pI q.kind, .d (sF (q.ns.map anF))]],(bs.length+1)::fz,ar⟩:=Frm.new (xf:=[bs.length+1]) (by simp);obtain⟨e1,e2,aE⟩:=ayV (h.frm K);refine anJ atW aoj ?_;simp only[atW,aoj,aBw,apA,anZ,aqP,aoo,W,axa,aF0,RN,F,H,Q];refine ap8 (asT aE) rfl (aF3 e1 e2 D) rfl ?_;(try simp only[RN,F,H,Q]);refine anE (awN _ _ _) ?_;cases g:inR q.kind 1 12
 ·(try simp only[RN,F])
  have Y:D.ask q=([],2):=by simp[Dk.ask,g]
  rw[Y];exact⟨_, .inr ⟨rfl,rfl⟩, .inl ⟨rfl,rfl⟩,(fun k g=>by cases g),K⟩
 have O:1<=q.kind/\q.kind<=12:=by simpa[inR]using g
 simp only[U,RN,F,H,Q];refine anE aRo ?_;obtain⟨a1,a2,a3⟩:=aYN O;simp only[a3,a1,RN,H,Q];refine⟨by omega,by omega,a2,?_⟩
 by_cases hn:q.ns.length=aBQ q.kind
 case neg=>
  have hb:((q.ns.length:Int) !=(aBQ q.kind:Int))=true:=by simp;omega
  simp only[hb,RN,F];have Y:D.ask q=([],2):=by simp[Dk.ask,g,hn]
  rw[Y];exact⟨_, .inr ⟨rfl,rfl⟩, .inl ⟨rfl,rfl⟩,(fun k g=>by cases g),K⟩
 have hb:((q.ns.length:Int) !=(aBQ q.kind:Int))=false:=by simp[hn]
 simp only[hb,apA,anZ,aqP,bc,W,ap,aK,aFh,aPR,arl,aQ,aoq,aoI,RN,F,H,Q];refine⟨rfl,?_⟩;obtain⟨B,T⟩:∃B,B=bs++ [some [.ptr d 0],some [pI q.kind, .d (sF (q.ns.map anF))],some [.d .nilPtr, .ptr d 0]]:=⟨_,rfl⟩
 obtain⟨Z,hZ⟩:∃Z,Z=(bs.length+1)::fz:=⟨_,rfl⟩
 have aN:B.length=bs.length+3:=by rw[T];simp
 have ax:B[bs.length]?=some (some [.ptr d 0]):=by rw[T,anZ rfl];rfl
 have aw:B[bs.length+2]?=some (some [.d .nilPtr, .ptr d 0]):=by rw[T,apA rfl];rfl
 have x:Frm ⟨bs,fz,ar⟩ ⟨B,Z,ar⟩:=by rw[T,hZ];exact Frm.new (xf:=[bs.length+1]) (by simp)
 have az:bs.length+2∉Z:=by
  rw[hZ];intro e
  rcases ai.1 e with e|e
  ·omega
  ·exact ap _ e
 simp only[<-T,<-hZ];have ay:Frm ⟨B,Z,ar⟩ ⟨B++ [some [pI 0]],Z,ar⟩:=Frm.new (xf:=[]) (by simp);have aMU:=x.trans ay;have z0:((0:Int) !=0)=false:=rfl;have z7:((7:Int) !=0)=true:=rfl;refine aFe (fs:=[]) (cs:=[.ptr bs.length 0, .ptr (bs.length+2) 0]) (x.fzb h.fzb) (by kernel_rfl) ?_;refine SC.aqk (SC.mono (aUr (h.frm aMU) S (pb:=bs.length) (ab:=bs.length+2) ?_ ?_ az) ?_) ?_
 ·simp only;rw[ak (by omega)];exact ax
 ·simp only;rw[ak (by omega)];exact aw
 ·rintro v M' ⟨t,b,mb,a,av,au,o,f,j,g1,J,w,g4,g5,rfl⟩
  simp only[W,ae,am]at g4 g5;have z:=aMU.trans w;have aI:=w.len;simp only[W,ae,am]at aI;have L:o[B.length]?=some (some [pI 0]):=by
   have:=w.box B.length (by simp);simp only at this;rw[this,anZ rfl];rfl
  have N:B.length∉f:=fun e=>by
   have:=(w.fz B.length (by simp)).1 e;simp only at this;have h5:=x.fzb h.fzb _ this;simp only at h5;omega
  obtain⟨n,m⟩:∃n,n=o.set (bs.length+2) (some [.ptr b 0, .ptr d 0]):=⟨_,rfl⟩
  have a1e:n.length=o.length:=by rw[m];simp
  have aZ2:n[bs.length+2]?=some (some [.ptr b 0, .ptr d 0]):=by rw[m,bd (by omega)]
  have aZ3:n[B.length]?=some (some [pI 0]):=by rw[m,ao (by omega)];exact L
  have A:Frm ⟨bs,fz,ar⟩ ⟨n,f,j⟩:=by rw[m];exact z.aNM (by simp only;omega)
  have an:FzB ⟨n,f,j⟩:=A.fzb h.fzb;have R:n.length∉f:=fun e=>aD _ (an _ e)
  rw[<-m];refine⟨aZ3,N,?_⟩;have aA:bs.length+2<n.length:=by omega
  have jk:0<=q.kind - 1:=by omega
  have aX:q.kind - 1<12:=by omega
  have aY:(q.kind - 1).toNat+1<=12:=by omega
  obtain⟨ac,aF⟩:=aW3 O;simp only[aj,aC]at ac;simp only[z0,azW,aoF,anZ,aoo,R,aZ2,aA,W,a3,Nat.zero_add,cf,RN,F,H,Q];refine⟨rfl,by omega,by omega,by omega,by omega,by omega,?_⟩;rw[ac];simp only[arl,aoq,ao3,RN];refine⟨aF,?_⟩;obtain⟨X,hX⟩:∃X,X=[some [PV.d (DV.func (Fn.func 75) [] []),PV.d (DV.func (Fn.func 76) [] []),PV.d (DV.func (Fn.func 77) [] []),PV.d (DV.func (Fn.func 78) [] []),PV.d (DV.func (Fn.func 79) [] []),PV.d (DV.func (Fn.func 80) [] []),PV.d (DV.func (Fn.func 81) [] []),PV.d (DV.func (Fn.func 82) [] []),PV.d (DV.func (Fn.func 83) [] []),PV.d (DV.func (Fn.func 84) [] []),PV.d (DV.func (Fn.func 85) [] []),PV.d (DV.func (Fn.func 86) [] [])]]:=⟨_,rfl⟩
  simp only[<-hX];have E:Frm ⟨bs,fz,ar⟩ ⟨n++X,f,j⟩:=A.trans (Frm.new (xf:=[]) (by simp));have aS:b<o.length/\mb<o.length:=⟨(ah.1 J.box).1,(ah.1 J.map).1⟩
  have aL:ape D.su a b mb av au t ⟨n++X,f,j⟩:=J.same (by
    simp only;rw[ak (by omega),m,ao (by omega)]) (by
    simp only;rw[ak (by omega),m,ao (by omega)]) rfl J.nb J.nm (E.fzb h.fzb)
  obtain⟨f1,f2,aM⟩:=aLL aL;obtain⟨d1,d2,aB⟩:=ayV (h.frm E);have aG:=S.aCT g1;have hA:=aRg f1 f2 d1 d2 S aG q O hn;have hL:aos ⟨n++X,f,j⟩ [.ptr b 0, .ptr d 0, .d (sF (q.ns.map anF))]=some [.anY (t.cells f1 f2 D.su),atI d1 d2 D,sF (q.ns.map anF)]:=by
   simp only[aos,aM,aB];rfl
  have V:D.ask q=if(D.answer t q).2=0 then D.answer t q else([],(D.answer t q).2):=by
   simp only[Dk.ask,g,hn,g1];simp
  rw[V];generalize D.answer t q=r at*;obtain⟨l,e⟩:=r;simp only at hA⊢;refine aWZ (ds:=[avm f1 f2 d1 d2 D t,sF (q.ns.map anF)]) hA (aL6 hL) rfl fun p c xa hp hs aH=> ?_
  have s:Frm ⟨bs,fz,ar⟩ ⟨n++X,f,j++xa⟩:=E.trans (by have:=Frm.ext (bs:=n++X) (xb:=[]) (fz:=f) (xf:=[]) (ar:=j) (xa:=xa) (by simp);simpa using this);have P:∀k,kOf c=some k->ar.length<=k:=fun k g=>b5 E.aoc (aH k g)
  by_cases hr:e=0
  ·subst hr
   simp only[if_true]
   rcases hp with rfl|⟨rfl,rfl⟩
   ·rcases hs with⟨rfl,hl⟩|⟨k,ver,st,rfl,hl⟩
    ·simp only[atO,atP,z0,RN,F]
     exact⟨_, .inr rfl, .inl ⟨rfl,hl⟩,P,s⟩
    ·simp only[atO,atP,z0,an6,aoz,RN,F]
     exact⟨_, .inl rfl, .inr ⟨k,ver,st,rfl,hl⟩,P,s⟩
   ·simp only[z0,RN,F]
    exact⟨_, .inr rfl,hs,P,s⟩
  ·have hz:(e !=0)=true:=by simp[hr]
   rw[if_neg hr]
   rcases hp with rfl|⟨rfl,rfl⟩
   ·simp only[atO,atP,hz,RN,F]
    exact⟨_, .inr rfl, .inl ⟨rfl,rfl⟩,(fun k g=>by cases g),s⟩
   ·simp only[hz,RN,F]
    exact⟨_, .inr rfl, .inl ⟨rfl,rfl⟩,(fun k g=>by cases g),s⟩
 ·rintro dd ⟨G,I,aq⟩ ⟨g1,J,w⟩
  have z:=aMU.trans w;have aJ:=w.len;simp only[W,ae,am]at aJ;have L:G[B.length]?=some (some [pI 0]):=by
   have:=w.box B.length (by simp);simp only at this;rw[this,anZ rfl];rfl
  have N:B.length∉I:=fun e=>by
   have:=(w.fz B.length (by simp)).1 e;simp only at this;have h5:=x.fzb h.fzb _ this;simp only at h5;omega
  have aSg:=z.fzb h.fzb;have R:G.length∉I:=fun e=>aD _ (aSg _ e)
  have Y:D.ask q=([],7):=by simp[Dk.ask,g,hn,g1]
  refine⟨L,N,R, .inl ⟨J,fun y=> ?_⟩⟩;rw[Y];simp only[z7,RN,F];have A:Frm ⟨bs,fz,ar⟩ ⟨(G++ [y]).set B.length (some [pI 7]),I,aq⟩:=z.aTJ (by simp only;omega);exact⟨_, .inr rfl, .inl ⟨rfl,rfl⟩,(fun k g=>by cases g),A⟩
def En.chg (x:En):Chg:=⟨x.n 0,⟨x.n 1,x.n 2⟩⟩
def atV (p:Pc)(x:En):Pc:=if x.kind=2 then p.changed x.chg else p
def aog (s:Su)(l:List En):Pc:=l.foldl atV s.pc
def auO:List Int->Int->List Int
 | [],n=>[n]
 |x::l,n=>if x<=n then x::auO l n else n::x::l
def apb (l:List Int)(n:Int):List Int×Bool:=if n∈l then(l.erase n,true)else(l,false)
def arx (st:List Int)(c d:Pr):List Int×Bool:=
 let r1:=if c.a≠d.a then apb st d.a else(st,true)
 let r2:=if r1.2=true/\c.b≠d.b then apb r1.1 d.b else r1
 let e:=if c.a≠d.a then auO r2.1 c.a else r2.1
 (if c.b≠d.b then auO e c.b else e,r2.2)
def aqu (p:Pc)(x:En):Pr:=(p.links.getD (x.n 0).toNat default).pr
def aDE (r:Pc×List Int)(x:En):Pc×List Int:=
 (atV r.1 x,if x.kind=1 then auO r.2 (x.n 0)else if x.kind=2 then(arx r.2 (aqu r.1 x) x.chg.pr).1 else r.2)
def aqn (s:Su)(l:List En):List Int:=(l.foldl aDE (s.pc,[])).2
def ara (h:Int)(r:Fr×Bool)(x:En):Fr×Bool:=
 if x.kind=3/\x.n 0=h then(⟨x.n 1,x.n 2⟩,true)else if x.kind=4/\x.n 0=h then(r.1,false)else r
def an4 (l:List En)(h:Int):Fr×Bool:=l.foldl (ara h) (⟨0,0⟩,false)
def aHa (h:Int)(r:Fr×(Fr×Bool))(x:En):Fr×(Fr×Bool):=
 (if x.kind=4/\x.n 0=h then r.2.1 else r.1,ara h r.2 x)
def asw (s:Su)(l:List En)(h:Int):Fr:=(l.foldl (aHa h) (s.tg.getD h.toNat default,(⟨0,0⟩,false))).1
def atL (l:List En):Int:=l.foldl (fun n x=>if x.kind=4 then n+x.n 1 else n) 0
def atc (l:List En):List Int:=(l.filter fun x=>x.kind==5).map fun x=>x.n 0
def aqE (s:Su)(l:List En)(x:En):aog s (l++ [x])=atV (aog s l) x:=by simp[aog]
def aQP (s:Su)(l:List En):(l.foldl aDE (s.pc,[])).1=aog s l:=by
 unfold aog;generalize s.pc=p;generalize ([]:List Int)=st
 induction l generalizing p st with
 |nil=>rfl
 |cons x l a=>simp only[bj];rw[<-a];rfl
def apP (s:Su)(l:List En)(x:En):aqn s (l++ [x])=if x.kind=1 then auO (aqn s l) (x.n 0)else if x.kind=2 then(arx (aqn s l) (aqu (aog s l) x) x.chg.pr).1 else aqn s l:=by
 unfold aqn;simp only[bX,bj,cl,aDE,aQP]
def ar0 (l:List En)(h:Int)(x:En):an4 (l++ [x]) h=ara h (an4 l h) x:=by simp[an4]
def aT1 (s:Su)(l:List En)(h:Int)(f:Fr):(l.foldl (aHa h) (f,(⟨0,0⟩,false))).2=an4 l h:=by
 unfold an4;generalize ((⟨0,0⟩,false):Fr×Bool)=o
 induction l generalizing f o with
 |nil=>rfl
 |cons x l a=>simp only[bj];rw[<-a];rfl
def ari (s:Su)(l:List En)(h:Int)(x:En):asw s (l++ [x]) h=if x.kind=4/\x.n 0=h then(an4 l h).1 else asw s l h:=by
 unfold asw;simp only[bX,bj,cl,aHa,aT1 s]
def arS (l:List En)(x:En):atL (l++ [x])=if x.kind=4 then atL l+x.n 1 else atL l:=by simp[atL]
def auR (l:List En)(x:En):atc (l++ [x])=if x.kind=5 then atc l++ [x.n 0]else atc l:=by
 unfold atc
 by_cases h:x.kind=5<;>simp[h]
def arM (p:Pc)(c:Chg):List Int:=((aZ p.hands.length).filter fun i=>decide (aod (anX p.links (p.hands.getD i default).toNat)≠aod (anX (p.changed c).links (p.hands.getD i default).toNat))).map fun(i:Nat)=>(i:Int)
def aA8 (s:Su)(p:Pc)(h:Int):Int:=(s.bil (aou (anX p.links (p.hands.getD h.toNat default).toNat))).price
def aGd (p:Pc)(h:Int)(f:Fr)(turns:Int):Int:=aQe (anX p.links (p.hands.getD h.toNat default).toNat) f turns
def arI (s:Su)(l:List En)(x:En):Bool:=
 if x.kind=1 then(s.dvd.first (x.n 0)).isSome&&decide ((aqn s l).length<8)
 else if x.kind=2 then !decide (aqu (aog s l) x=x.chg.pr)&&(arx (aqn s l) (aqu (aog s l) x) x.chg.pr).2&&(arM (aog s l) x.chg).all fun h=>(an4 l h).2
 else if x.kind=3 then !(an4 l (x.n 0)).2
 else if x.kind=4 then(an4 l (x.n 0)).2&&inR (aGd (aog s l) (x.n 0) (an4 l (x.n 0)).1 100) (-s.lim) s.lim&&decide (x.n 1>=aA8 s (aog s l) (x.n 0))
 else !((l.any fun y=>y.kind==5&&decide (y.n 0>=x.n 0)))&&s.works (s.first+x.n 0 - 1)
def aqS (s:Su)(l:List En):Bool:=(aZ l.length).all fun i=>arI s (l.take i) (l.getD i default)
def aDL (s:Su)(l:List En)(x:En):aqS s (l++ [x])=(aqS s l&&arI s l x):=by
 unfold aqS;rw[W,bg,bl,List.all_append,bS,cp,bR]
 congr 1
 ·rw[aO]
  simp only[au,be];constructor
  ·intro h i a
   have:=h i a
   rwa [bi (by omega),V,ak a,<-V]at this
  ·intro h i a
   have:=h i a
   rwa [bi (by omega),V,ak a,<-V]
 ·simp[V]
def atE:∀(l:List Int) (n:Int),(auO l n).Perm (n::l)
 | [],n=>List.Perm.refl _
 |x::l,n=>by
  unfold auO
  split
  ·exact((atE l n).cons x).trans (List.Perm.swap n x l)
  ·exact List.Perm.refl _
def Up (l:List Int):Prop:=l.Pairwise (·<=·)
def aJn {n:Int}(h:Up l):Up (auO l n):=by
 induction l with
 |nil=>simp[auO,Up]
 |cons x l d=>
  simp only[Up,bv]at h;unfold auO
  split
  ·rename_i c
   simp only[Up,bv];refine⟨fun a b=> ?_,d h.2⟩
   rcases ai.1 ((atE l n).mem_iff.1 b)with rfl|b
   ·exact c
   ·exact h.1 a b
  ·rename_i c
   simp only[Up,bv];refine⟨fun a b=> ?_,h.1,h.2⟩
   rcases ai.1 b with rfl|b
   ·omega
   ·have:=h.1 a b;omega
def aIG {n:Int}(h:Up l):Up (apb l n).1:=by
 unfold apb
 split
 ·exact List.Pairwise.sublist List.erase_sublist h
 ·exact h
def aTW {a b:Pr}(h:Up l):Up (arx l a b).1:=by
 have h1:Up (if a.a≠b.a then apb l b.a else(l,true)).1:=by split;exact aIG h;exact h
 unfold arx;simp only;generalize (if a.a≠b.a then apb l b.a else(l,true))=r1 at h1;have h2:Up (if r1.2=true/\a.b≠b.b then apb r1.1 b.b else r1).1:=by split;exact aIG h1;exact h1
 generalize (if r1.2=true/\a.b≠b.b then apb r1.1 b.b else r1)=r2 at h2;have c:Up (if a.a≠b.a then auO r2.1 a.a else r2.1):=by split;exact aJn h2;exact h2
 split
 ·exact aJn c
 ·exact c
def aLP {st:List Int}(h:l.Perm st)(c d:Pr):match ash st [] c.a d.a with
  |none=>(arx l c d).2=false
  |some (o,m)=>match ash o m c.b d.b with
   |none=>(arx l c d).2=false
   |some (p,n)=>(arx l c d).2=true/\(arx l c d).1.Perm (p++n):=by
 unfold ash arx apb
 by_cases k:c.a=d.a
 ·simp only[k,ne_eq,not_true_eq_false,if_true,if_false,true_and]
  by_cases j:c.b=d.b
  ·simp only[j,not_true_eq_false,if_true,if_false]
   exact⟨trivial,by simpa using h⟩
  ·simp only[j,not_false_eq_true,if_true,if_false]
   by_cases g:d.b∈st
   ·have f:d.b∈l:=h.mem_iff.2 g
    simp only[g,f,if_true,cg];refine⟨trivial,(atE _ _).trans ?_⟩;exact((h.erase d.b).cons c.b).trans (aU c.b _).symm
   ·have f:d.b∉l:=fun e=>g (h.mem_iff.1 e)
    simp only[g,f,if_false]
 ·simp only[k,ne_eq,not_false_eq_true,if_true,if_false]
  by_cases g:d.a∈st
  ·have f:d.a∈l:=h.mem_iff.2 g
   have h1:=h.erase d.a;simp only[g,f,if_true,cg,true_and]
   by_cases j:c.b=d.b
   ·simp only[j,not_true_eq_false,if_true,if_false]
    exact⟨trivial,(atE _ _).trans ((h1.cons c.a).trans (aU c.a _).symm)⟩
   ·simp only[j,not_false_eq_true,if_true,if_false]
    by_cases i:d.b∈st.erase d.a
    ·have aX1:d.b∈l.erase d.a:=h1.mem_iff.2 i
     simp only[i,aX1,if_true];refine⟨trivial,(atE _ _).trans ?_⟩;refine((atE _ _).cons c.b).trans ?_;refine(((h1.erase d.b).cons c.a).cons c.b).trans ?_;have:(c.b::c.a::(st.erase d.a).erase d.b).Perm ([c.a,c.b]++(st.erase d.a).erase d.b):=List.Perm.swap _ _ _;exact this.trans List.perm_append_comm
    ·have aX1:d.b∉l.erase d.a:=fun e=>i (h1.mem_iff.1 e)
     simp only[i,aX1,if_false]
  ·have f:d.a∉l:=fun e=>g (h.mem_iff.1 e)
   simp only[g,f,if_false,aE,false_and]
def aLw {a b k:Nat}(hk:0<k):awE (a*k) (b*k)=awE a b:=by
 unfold awE;rw[Nat.gcd_mul_right,bK _ _ hk,bK _ _ hk]
def aOF {c:Nat}(hb:0<b)(hd:0<d):awE a b=awE c d↔a*d=c*b:=by
 constructor
 ·intro h
  unfold awE at h;simp only[Fr.mk.injEq,Int.natCast_inj]at h;have e1:=a7 (ca a b);have e2:=a7 (b4 a b);have e:=a7 (ca c d);have f:=a7 (b4 c d);rw[<-f]
  conv=>lhs;lhs;rw[<-e1]
  conv=>rhs;rw[<-e];rhs;rw[<-e2]
  rw[h.1,h.2];simp only[cq,Nat.mul_left_comm]
 ·intro h
  rw[<-aLw (a:=a) (b:=b) hd,h,cq b d,aLw hb]
def aGx:∀(l:List Int) (x p:Int),aqm (l++ [x]) p=aqm l p*x
 | [],_,_=>rfl
 |y::l,x,p=>by simp only[aV,aqm];exact aGx l x (p*y)
def apa (l:List Pr):Fr:=⟨aqm (l.map (·.a)) 1,aqm (l.map (·.b)) 1⟩
def aGv (l:List Pr)(x:Pr):apa (l++ [x])=mulR (apa l) x:=by simp[apa,mulR,aGx]
variable{ls:List Lk}
def aES (h:linked ls){a:Nat}(b:a<ls.length):anX ls (a+1)=anX ls (ls.getD a default).fr.toNat++ [(ls.getD a default).pr]:=by
 rw[anX,ar4 h b,ax];rfl
def aGG {ls:List Lk}(h:linked ls):∀(k i:Nat) (a:List Fr),i+k=ls.length->a.length=i+1->(∀j,j<=i->a.getD j default=apa (anX ls j))->∀j,j<=ls.length->(ath (ls.drop i) a).getD j default=apa (anX ls j)
 |0,i,a,g,c,b,j,f=>by
  rw[List.drop_eq_nil_of_le (by omega),ath];exact b j (by omega)
 |k+1,i,a,g,c,b,j,f=>by
  have d:i<ls.length:=by omega
  have l:=h i d;rw[drop_cons d,ath];refine aGG h k (i+1) _ (by omega) (by simp[c]) (fun m n=> ?_) j f
  by_cases e:m<=i
  ·rw[V,ak (by omega),<-V];exact b m e
  ·have:m=i+1:=by omega
   subst this;rw[V,<-c,aS,aq,b _ (by omega),c,aES h d,aGv]
def azC (h:linked ls){a:Nat}(b:a<=ls.length):(aoX ls).getD a default=apa (anX ls a):=by
 have:=aGG h ls.length 0 [⟨1,1⟩] (by omega) rfl (fun j c=>by
  have:j=0:=by omega
  subst this;simp[apa,anX,ao1,aur,aqm]) a b
 simpa[aoX]using this
def aDu {l:List Pr}(h:∀p∈l,p.ok=true):1<=(apa l).n/\1<=(apa l).d:=by
 have f:∀p∈l,1<=p.a/\1<=p.b:=fun p c=>by
  have:=h p c;simp only[Pr.ok,anP,inR,Y,decide_eq_true_eq,ge_iff_le]at this;omega
 exact⟨ayb _ 1 (fun x e=>by obtain⟨p,c,rfl⟩:=aA.1 e;exact(f p c).1) (by omega),ayb _ 1 (fun x e=>by obtain⟨p,c,rfl⟩:=aA.1 e;exact(f p c).2) (by omega)⟩
def aHe {l m:List Pr}(hl:∀p∈l,p.ok=true)(b:∀p∈m,p.ok=true):awW (apa l) (apa m)=decide (aod l=aod m):=by
 obtain⟨c,e⟩:=aDu hl;obtain⟨b1,f⟩:=aDu b;have a:∀l,aod l=awE (apa l).n.natAbs (apa l).d.natAbs:=fun _=>rfl
 rw[a,a,aO,decide_eq_true_iff,aOF (by omega) (by omega)];simp only[awW,beq_iff_eq];rw[<-bt,<-bt];have g:0<=(apa l).n*(apa m).d:=br (by omega) (by omega);have h:0<=(apa m).n*(apa l).d:=br (by omega) (by omega);omega
def asx (h:linked ls)(e:∀l∈ls,l.pr.ok=true){a:Nat}(b:a<=ls.length):∀p∈anX ls a,p.ok=true:=by
 intro p c;simp only[anX,aA]at c;obtain⟨i,d,rfl⟩:=c;exact e _ (getD_mem (Nat.lt_of_lt_of_le (aGk h b i d) b))
def azK (a b:List Fr):∀(hs:List Int) (i:Nat),aum a b hs i=((aL i hs.length).filter fun j=> !awW (a.getD (hs.getD (j - i) default).toNat default) (b.getD (hs.getD (j - i) default).toNat default)).map fun(j:Nat)=>(j:Int)
 | [],i=>rfl
 |h::hs,i=>by
  rw[aum,azK a b hs (i+1),ae,b9,aW];have e:(aL (i+1) hs.length).filter (fun j=> !awW (a.getD ((h::hs).getD (j - i) default).toNat default) (b.getD ((h::hs).getD (j - i) default).toNat default))=(aL (i+1) hs.length).filter (fun j=> !awW (a.getD (hs.getD (j - (i+1)) default).toNat default) (b.getD (hs.getD (j - (i+1)) default).toNat default)):=by
   refine aG fun j c=> ?_
   have:=(bf.1 c).1;rw[show j - i=(j - (i+1))+1 by omega,bo]
  simp only[bF,aY];rw[e];cases awW (a.getD h.toNat default) (b.getD h.toNat default)<;>simp
variable{p:Pc}
def aNS {c:Chg}(a:p.ok=true)(hc:c.pr.ok=true):p.aq1 (p.changed c)=arM p c:=by
 have i:=atj a hc;have g:=Pc.good a;have b:=Pc.good i;rw[Pc.aq1,azK,arM,bh]
 congr 1
 refine aG fun j h=> ?_
 have d:j<p.hands.length:=by simpa using(bf.1 h)
 have e:inR (p.hands.getD j default) 1 p.links.length=true:=by
  simp only[Pc.ok,Y,au]at a;exact a.2 _ (getD_mem d)
 have f:1<=p.hands.getD j default/\p.hands.getD j default<=p.links.length:=by simpa[inR]using e
 have k:(p.changed c).links.length=p.links.length:=by simp[Pc.changed]
 rw[b7,azC g.lk (by omega),azC b.lk (by omega),aHe (asx g.lk g.pr (by omega)) (asx b.lk b.pr (by omega))];simp
structure Rel (s:Su) (l:List En) (t:Sp):Prop where
 pc:t.pc=aog s l
 op:∀h,ao9 t.op h=if(an4 l h).2 then some (an4 l h).1 else none
 nd:(t.op.map (·.1)).Nodup
 tl:t.tg.length=s.tg.length
 tg:∀h:Int,0<=h->h.toNat<s.tg.length->t.tg.getD h.toNat default=asw s l h
 st:(aqn s l).Perm t.aoN
 up:Up (aqn s l)
 co:t.aqy=atL l
 se:t.sets=atc l
 inc:t.sets.Pairwise (·<·)
def aVP (s:Su):Rel s [] s.sp0:=
 {pc:=rfl,op:=fun _=>rfl,nd:=List.nodup_nil,tl:=rfl,tg:=fun _ _ _=>rfl,st:=List.Perm.refl _,up:=List.Pairwise.nil,co:=rfl,se:=rfl,inc:=List.Pairwise.nil}
variable{x:En}
def En.deed1 (h:x.kind=1):x.deed= .cut (x.n 0):=by simp[En.deed,h]
def En.deed2 (h:x.kind=2):x.deed= .change x.chg:=by simp[En.deed,h,En.chg]
def En.deed3 (h:x.kind=3):x.deed= .order (x.n 0) ⟨x.n 1,x.n 2⟩:=by simp[En.deed,h]
def En.deed4 (h:x.kind=4):x.deed= .serve (x.n 0) (x.n 1):=by simp[En.deed,h]
def En.aAf (h:x.kind=5):x.deed= .set (x.n 0):=by simp[En.deed,h]
structure En.Fit (s:Su) (x:En):Prop where
 fm:x.formed=true
 k6:x.kind≠6
 te:x.kind=1->anP (x.n 0)=true
 hd:x.kind=3\/x.kind=4->0<=x.n 0/\(x.n 0).toNat<s.pc.hands.length
 fr:x.kind=3->(⟨x.n 1,x.n 2⟩:Fr).ok=true
 df:aqG s s.sp0 x.deed
def En.axi (h:x.formed=true):1<=x.kind/\x.kind<=6:=by
 simp only[En.formed,Y,decide_eq_true_eq]at h
 simpa[inR]using h.1.1
def atS (h:x.formed=true){i:Nat}(hi:i<apG x.kind):0<=x.n i/\x.n i<=9999:=by
 simp only[En.formed,Y,decide_eq_true_eq,au]at h;have:=h.2 _ (getD_mem (show i<x.ns.length by omega))
 simpa[inR,En.n]using this
def En.Fit.k (h:x.Fit s):x.kind=1\/x.kind=2\/x.kind=3\/x.kind=4\/x.kind=5:=by
 have:=En.axi h.fm;have:=h.k6;omega
variable{h:Int}
def aSw {l:List (Int×Fr)}(b:(l.map (·.1)).Nodup):((axk l h).map (·.1)).Nodup/\(∀h',ao9 (axk l h) h'=if h'=h then none else ao9 l h')/\∀k∈(axk l h).map (·.1),k∈l.map (·.1):=by
 induction l with
 |nil=>exact⟨b,fun h'=>by simp[axk,ao9],fun k a=>a⟩
 |cons p l f=>
  simp only[aj,bJ]at b;obtain⟨i,j,g⟩:=f b.2;have d:∀(l:List (Int×Fr)) (k:Int),k∉l.map (·.1)->ao9 l k=none:=by
   intro l k a
   induction l with
   |nil=>rfl
   |cons q l f=>simp only[aj,ai,not_or]at a;rw[ao9,if_neg a.1];exact f a.2
  unfold axk
  by_cases c:h=p.1
  ·rw[if_pos c]
   refine⟨b.2,fun h'=> ?_,fun k a=>by simp only[aj,ai];exact .inr a⟩
   by_cases e:h'=h
   ·rw[if_pos e,e,c];exact d l _ b.1
   ·rw[if_neg e,ao9,if_neg (by rw[<-c];exact e)]
  ·rw[if_neg c]
   refine⟨?_,fun h'=> ?_,fun k a=> ?_⟩
   ·simp only[aj,bJ];exact⟨fun e=>b.1 (g _ e),i⟩
   ·rw[ao9,ao9,j h']
    by_cases e:h'=p.1
    ·rw[if_pos e,if_pos e,if_neg (by rw[e];exact Ne.symm c)]
    ·rw[if_neg e,if_neg e]
   ·simp only[aj,ai]at a⊢;exact a.imp id (g k)
def aNq {l:List (Int×Fr)}{f:Fr}(a:ao9 l h=none)(h':Int):ao9 (l++ [(h,f)]) h'=if h'=h then some f else ao9 l h':=by
 induction l with
 |nil=>simp[ao9]
 |cons p l c=>
  rw[ao9]at a
  by_cases b:h=p.1
  ·rw[if_pos b]at a;cases a
  ·rw[if_neg b]at a
   rw[aV,ao9,ao9,c a]
   by_cases e:h'=p.1
   ·rw[if_pos e,if_pos e,if_neg (by rw[e];exact Ne.symm b)]
   ·rw[if_neg e,if_neg e]
def aQg {l:List (Int×Fr)}(a:ao9 l h=none):h∉l.map (·.1):=by
 induction l with
 |nil=>simp
 |cons p l c=>
  rw[ao9]at a
  by_cases b:h=p.1
  ·rw[if_pos b]at a;cases a
  ·rw[if_neg b]at a
   simp only[aj,ai,not_or];exact⟨b,c a⟩
def aMu {d:Dvd}(hd:d.ok=true){n:Int}(a:anP n=true):(d.cuts n).2=0↔(d.first n).isSome=true:=by
 have h1:inR n 1 400=true:=by simp only[anP,inR,Y,decide_eq_true_eq]at a⊢;omega
 unfold Dvd.cuts Dvd.first;rw[hd,h1];simp only[bQ,if_true];cases axc d.aoG n 0 d.cir<;>simp
def aHb (f:p.ok=true){h:Int}(j:0<=h)(h1:h.toNat<p.hands.length):arj (anX p.links (p.hands.getD h.toNat default).toNat)=true:=by
 have g:=Pc.good f;have k:=g.hd _ (getD_mem h1);have c:(p.hands.getD h.toNat default).toNat<=p.links.length:=by omega
 have i:=g.short _ c;have b:=asx g.lk g.pr c;have l:1<=(anX p.links (p.hands.getD h.toNat default).toNat).length:=by
  obtain⟨a,e⟩:∃a,(p.hands.getD h.toNat default).toNat=a+1:=⟨(p.hands.getD h.toNat default).toNat - 1,by omega⟩
  rw[e,aES g.lk (by omega)];simp
 have d:(anX p.links (p.hands.getD h.toNat default).toNat).length<=3:=by rw[anX,U];exact i
 simp only[arj,inR,Y,decide_eq_true_eq,au,ge_iff_le];exact⟨⟨by omega,by omega⟩,b⟩
def aA2 {n a b:Int}(h:a<=n/\n<=b):inR n a b=true:=by
 simp only[inR,Y,decide_eq_true_eq];omega
def aDI (a:p.ok=true){h:Int}(b:0<=h)(h1:h.toNat<p.hands.length){f:Fr}(hf:f.ok=true){t:Int}(e:0<=t/\t<=10000):att p h f t=(aGd p h f t,0):=by
 have h2:inR h 0 ((p.hands.length:Int) - 1)=true:=aA2 (by omega);have c:=aHb a b h1;have d:=aA2 e;simp only[att,aNo,aGd,a,h2,c,d,hf,bQ,if_true]
def aIm (hs:s.ok=true){t:Sp}(g:t.pc.ok=true){h:Int}(d:0<=h)(h1:h.toNat<t.pc.hands.length):aya s t h.toNat=aA8 s t.pc h:=by
 have a:=(Su.facts hs).2.2.2.2.2.2.2.2.1;have c:=aHb g d h1;simp only[arj,inR,Y,decide_eq_true_eq,au]at c;obtain⟨⟨_,j⟩,e⟩:=c;have f:(s.bil (aou (anX t.pc.links (t.pc.hands.getD h.toNat default).toNat))).ok=true:=by
  simp only[Bil.ok,Su.bil,Y]at a⊢;refine⟨⟨⟨⟨⟨?_,a.1.1.1.1.2⟩,a.1.1.1.2⟩,a.1.1.2⟩,a.1.2⟩,a.2⟩;simp only[ati,Y,decide_eq_true_eq,au];refine⟨by rw[asX];omega,fun x b=> ?_⟩;simp only[aou,List.mem_flatMap]at b;obtain⟨q,i,b⟩:=b;have:=e q i;simp only[Pr.ok,Y]at this;simp only[ai,av,or_false]at b
  rcases b with rfl|rfl
  ·exact this.1
  ·exact this.2
 simp only[aya,aA8,Bil.aHj,f,if_true]
def aOg {d:Int}(b:1<=d)(h1:d.toNat<=s.days.length):s.days.getD (d - 1).toNat default=(s.first+d - 1,s.works (s.first+d - 1)):=by
 have c:s.days.length=s.dur:=by simp[Su.days,Su.asM]
 have a:(d - 1).toNat<s.dur:=by omega
 rw[Su.days,Su.asM,V,bY,List.getElem?_range a];simp only[bn,aq];rw[show(((d - 1).toNat:Nat):Int)=d - 1 by omega,show s.first+(d - 1)=s.first+d - 1 by omega]
def aKM (h:l.Pairwise (·<·))(d:Int):(l.isEmpty||decide (d>l.getD (l.length - 1) default))= !(l.any fun y=>decide (y>=d)):=by
 rcases List.eq_nil_or_concat l with rfl|⟨m,x,rfl⟩
 ·rfl
 ·have e:(m++ [x]).getD ((m++ [x]).length - 1) default=x:=by simp[V]
  rw[List.concat_eq_append]at h⊢;rw[e];have b:∀y∈m,y<x:=fun y a=>(bN.1 h).2.2 y a x (by simp)
  rw[aO];simp only[Bool.or_eq_true,List.isEmpty_iff,List.append_eq_nil_iff,List.cons_ne_self,and_false,false_or,decide_eq_true_eq,bV,bW,aP,ay];constructor
  ·rintro h1 y (a|rfl)
   ·have:=b y a;omega
   ·omega
  ·intro hh
   have:=hh x (.inr rfl);omega
def aRh (l:List En)(d:Int):((atc l).any fun y=>decide (y>=d))=l.any fun y=>y.kind==5&&decide (y.n 0>=d):=by
 unfold atc;rw[List.any_map,List.any_filter]
 rfl
def aGI (hs:s.ok=true){n:Nat}{l:List En}{t:Sp}(d:Rel s l t)(hi:awD s n t)(o:∀h,(an4 l h).2=true->(an4 l h).1.ok=true){x:En}(hx:x.Fit s):arI s l x=(doS s t x.deed).isSome:=by
 obtain⟨w,y,u,j,_⟩:=Su.facts hs;have f:t.aoN.length=(aqn s l).length:=d.st.length_eq.symm
 rcases hx.k with k|k|k|k|k
 ·rw[En.deed1 k]
  unfold arI;rw[if_pos k];simp only[doS,aMu j (hx.te k),f]
  by_cases h1:(s.dvd.first (x.n 0)).isSome=true<;>by_cases h2:(aqn s l).length<8<;>simp[h1,h2]
 ·rw[En.deed2 k]
  have hd:=hx.df;rw[En.deed2 k]at hd;obtain⟨i,g⟩:=hd;unfold arI;rw[if_neg (by omega),if_pos k,<-d.pc];have e1:t.pc.ayS x.chg= !decide (aqu t.pc x=x.chg.pr):=by
   have:inR x.chg.link 0 ((t.pc.links.length:Int) - 1)=true:=by rw[hi.ll];exact i
   simp only[Pc.ayS,hi.pc,g,this,bQ,aI]
   congr 1
   exact decide_eq_decide.2 ⟨fun h=>h.symm,fun h=>h.symm⟩
  have e2:((t.pc.aq1 (t.pc.changed x.chg)).all fun h=>(ao9 t.op h).isSome)=((arM t.pc x.chg).all fun h=>(an4 l h).2):=by
   rw[aNS hi.pc g]
   congr 1
   funext h
   rw[d.op];cases(an4 l h).2<;>rfl
  simp only[doS,e1,e2];have c:=aLP d.st (aqu t.pc x) x.chg.pr;have m:(t.pc.links.getD x.chg.link.toNat default).pr=aqu t.pc x:=rfl;rw[m];cases h1:(!decide (aqu t.pc x=x.chg.pr))<;>cases h2:((arM t.pc x.chg).all fun h=>(an4 l h).2)<;>simp only[bq,Bool.and_false,aI,bR,aE,if_false,if_true,aM]
  revert c
  generalize ash t.aoN [] (aqu t.pc x).a x.chg.pr.a=p;cases p with
  |none=>intro c;simp only at c⊢;rw[c];rfl
  |some p=>
   obtain⟨A,z⟩:=p;simp only;generalize ash A z (aqu t.pc x).b x.chg.pr.b=q;cases q with
   |none=>intro c;simp only at c⊢;rw[c];rfl
   |some q=>intro c;obtain⟨C,B⟩:=q;simp only at c⊢;rw[c.1];rfl
 ·rw[En.deed3 k]
  unfold arI;rw[if_neg (by omega),if_neg (by omega),if_pos k];simp only[doS,d.op];cases(an4 l (x.n 0)).2<;>rfl
 ·rw[En.deed4 k]
  obtain⟨r,h1⟩:=hx.hd (.inr k);have e:(x.n 0).toNat<t.pc.hands.length:=by rw[hi.hh];exact h1
  unfold arI;rw[if_neg (by omega),if_neg (by omega),if_neg (by omega),if_pos k,<-d.pc];simp only[doS,d.op];cases v:(an4 l (x.n 0)).2
  ·rfl
  ·simp only[if_true,aI,aAj,aDI hi.pc r e (o _ v) (show(0:Int)<=100/\(100:Int)<=10000 by omega),aIm hs hi.pc r e]
   split<;>simp_all
 ·rw[En.aAf k]
  have hd:=hx.df;rw[En.aAf k]at hd;obtain⟨i,g⟩:=hd;unfold arI;rw[if_neg (by omega),if_neg (by omega),if_neg (by omega),if_neg (by omega)];simp only[doS,aOg i g,aKM d.inc];rw[d.se,aRh,Bool.and_comm]
  split<;>simp_all
def aGg {l:List En}(a:x.kind≠3)(b:x.kind≠4):an4 (l++ [x]) h=an4 l h:=by
 rw[ar0,ara,if_neg (fun e=>a e.1),if_neg (fun e=>b e.1)]
def rel_step (hs:s.ok=true){n:Nat}{l:List En}{t t':Sp}(c:Rel s l t)(hi:awD s n t){x:En}(hx:x.Fit s)(hd:doS s t x.deed=some t'):Rel s (l++ [x]) t':=by
 obtain⟨E,y,B,D,_⟩:=Su.facts hs
 rcases hx.k with k|k|k|k|k
 ·rw[En.deed1 k]at hd
  simp only[doS]at hd
  split at hd
  ·cases hd
   exact
   {pc:=by rw[aqE,atV,if_neg (by omega)];exact c.pc
    op:=fun h=>by rw[aGg (by omega) (by omega)];exact c.op h
    nd:=c.nd,tl:=c.tl
    tg:=fun h g h1=>by rw[ari,if_neg (by omega)];exact c.tg h g h1
    st:=by rw[apP,if_pos k];exact(atE _ _).trans ((c.st.cons _).trans (aU _ _).symm)
    up:=by rw[apP,if_pos k];exact aJn c.up
    co:=by rw[arS,if_neg (by omega)];exact c.co
    se:=by rw[auR,if_neg (by omega)];exact c.se
    inc:=c.inc}
  ·cases hd
 ·rw[En.deed2 k]at hd
  simp only[doS]at hd
  split at hd
  ·have j:=aLP c.st (aqu t.pc x) x.chg.pr
   have u:(t.pc.links.getD x.chg.link.toNat default).pr=aqu t.pc x:=rfl;rw[u]at hd
   revert j hd
   generalize ash t.aoN [] (aqu t.pc x).a x.chg.pr.a=z;cases z with
   |none=>intro hd _;cases hd
   |some z=>
    obtain⟨I,H⟩:=z;simp only;generalize ash I H (aqu t.pc x).b x.chg.pr.b=A;cases A with
    |none=>intro hd _;cases hd
    |some A=>
     obtain⟨M,L⟩:=A;intro hd j;simp only at j hd;cases hd;exact
     {pc:=by rw[aqE,atV,if_pos k,c.pc]
      op:=fun h=>by rw[aGg (by omega) (by omega)];exact c.op h
      nd:=c.nd,tl:=c.tl
      tg:=fun h g h1=>by rw[ari,if_neg (by omega)];exact c.tg h g h1
      st:=by rw[apP,if_neg (by omega),if_pos k,<-c.pc];exact j.2
      up:=by rw[apP,if_neg (by omega),if_pos k];exact aTW c.up
      co:=by rw[arS,if_neg (by omega)];exact c.co
      se:=by rw[auR,if_neg (by omega)];exact c.se
      inc:=c.inc}
  ·cases hd
 ·rw[En.deed3 k]at hd
  simp only[doS]at hd
  split at hd
  ·cases hd
  ·rename_i i
   have i:ao9 t.op (x.n 0)=none:=by simpa using i
   cases hd;exact
   {pc:=by rw[aqE,atV,if_neg (by omega)];exact c.pc
    op:=fun h=>by
     rw[aNq i]
     by_cases e:x.n 0=h
     ·have e2:an4 (l++ [x]) h=(⟨x.n 1,x.n 2⟩,true):=by rw[ar0,ara,if_pos ⟨k,e⟩]
      rw[if_pos e.symm,e2];rfl
     ·have e2:an4 (l++ [x]) h=an4 l h:=by rw[ar0,ara,if_neg (fun q=>e q.2),if_neg (by omega)]
      rw[if_neg (Ne.symm e),e2];exact c.op h
    nd:=by
     simp only[ax,aj,aC];rw[List.nodup_append];exact⟨c.nd,by simp,fun a p b m=>by simp only[ay]at m;subst m;rintro rfl;exact aQg i p⟩
    tl:=c.tl
    tg:=fun h g h1=>by rw[ari,if_neg (by omega)];exact c.tg h g h1
    st:=by rw[apP,if_neg (by omega),if_neg (by omega)];exact c.st
    up:=by rw[apP,if_neg (by omega),if_neg (by omega)];exact c.up
    co:=by rw[arS,if_neg (by omega)];exact c.co
    se:=by rw[auR,if_neg (by omega)];exact c.se
    inc:=c.inc}
 ·rw[En.deed4 k]at hd
  obtain⟨J,C⟩:=hx.hd (.inr k);simp only[doS]at hd;have d:=c.op (x.n 0)
  revert hd d
  generalize ao9 t.op (x.n 0)=o;cases o with
  |none=>intro hd;cases hd
  |some f=>
   intro hd d;simp only at hd
   split at hd
   ·cases hd
    have v:(an4 l (x.n 0)).2=true:=by
     cases h:(an4 l (x.n 0)).2 with
     |true=>rfl
     |false=>rw[h]at d;simp at d
    rw[v,if_pos rfl]at d;have w:f=(an4 l (x.n 0)).1:=Option.some.inj d;obtain⟨F,G,K⟩:=aSw (h:=x.n 0) c.nd;exact
    {pc:=by rw[aqE,atV,if_neg (by omega)];exact c.pc
     op:=fun h=>by
      rw[G]
      by_cases e:x.n 0=h
      ·have e2:an4 (l++ [x]) h=((an4 l h).1,false):=by rw[ar0,ara,if_neg (by omega),if_pos ⟨k,e⟩]
       rw[if_pos e.symm,e2];rfl
      ·have e2:an4 (l++ [x]) h=an4 l h:=by rw[ar0,ara,if_neg (by omega),if_neg (fun q=>e q.2)]
       rw[if_neg (Ne.symm e),e2];exact c.op h
     nd:=F
     tl:=by simp[c.tl]
     tg:=fun h g h1=>by
      rw[ari]
      by_cases e:x.n 0=h
      ·rw[if_pos ⟨k,e⟩,<-e,<-w]
       simp only[V,bd (show(x.n 0).toNat<t.tg.length by rw[c.tl,y];exact C),aq]
      ·rw[if_neg (fun q=>e q.2),<-c.tg h g h1]
       have:(x.n 0).toNat≠h.toNat:=by omega
       simp only[V,ao this]
     st:=by rw[apP,if_neg (by omega),if_neg (by omega)];exact c.st
     up:=by rw[apP,if_neg (by omega),if_neg (by omega)];exact c.up
     co:=by rw[arS,if_pos k,<-c.co]
     se:=by rw[auR,if_neg (by omega)];exact c.se
     inc:=c.inc}
   ·cases hd
 ·rw[En.aAf k]at hd
  simp only[doS]at hd
  split at hd
  ·rename_i r
   cases hd;rw[aKM c.inc]at r;simp only[Y,bV,bW,decide_eq_true_eq]at r;exact
   {pc:=by rw[aqE,atV,if_neg (by omega)];exact c.pc
    op:=fun h=>by rw[aGg (by omega) (by omega)];exact c.op h
    nd:=c.nd,tl:=c.tl
    tg:=fun h g h1=>by rw[ari,if_neg (by omega)];exact c.tg h g h1
    st:=by rw[apP,if_neg (by omega),if_neg (by omega)];exact c.st
    up:=by rw[apP,if_neg (by omega),if_neg (by omega)];exact c.up
    co:=by rw[arS,if_neg (by omega)];exact c.co
    se:=by rw[auR,if_pos k,c.se]
    inc:=by
     rw[bN];exact⟨c.inc,List.pairwise_singleton _ _,fun a p b m=>by simp only[ay]at m;have:=r.2 a p;omega⟩}
  ·cases hd
def ate {α:Type}{P:List α->Prop}(h0:P [])(h1:∀l x,P l->P (l++ [x]))(l:List α):P l:=by
 have:∀m:List α,P m.reverse:=by
  intro m
  induction m with
  |nil=>exact h0
  |cons x m ih=>rw[List.reverse_cons];exact h1 _ _ ih
 have h:=this l.reverse
 rwa [List.reverse_reverse]at h
def awd (l:List En)(h:Int):(∀x∈l,x.Fit s)->(an4 l h).2=true->(an4 l h).1.ok=true:=by
 induction l using ate with
 |h0=>intro _ e;simp[an4]at e
 |h1 l x a=>
  intro b;rw[ar0,ara];have c:=b x (by simp);have a:=a fun y d=>b y (by simp[d])
  split
  ·rename_i e;intro _;exact c.fr e.1
  ·split
   ·intro e;cases e
   ·exact a
def aAX (s:Su):∀(l:List De) (x:De) (t:Sp),asV s (l++ [x]) t=(asV s l t).bind fun t=>doS s t x
 | [],x,t=>by simp[asV]
 |y::l,x,t=>by
  simp only[aV,asV];cases doS s t y with
  |none=>rfl
  |some t1=>exact aAX s l x t1
def aVO (hs:s.ok=true)(l:List En):(∀x∈l,x.Fit s)->aqS s l=(asV s (l.map En.deed) s.sp0).isSome/\∀t,asV s (l.map En.deed) s.sp0=some t->Rel s l t/\awD s l.length t:=by
 induction l using ate with
 |h0=>exact fun _=>⟨rfl,fun t e=>by cases e;exact⟨aVP s,aNR hs⟩⟩
 |h1 l x p=>
  intro g;have a:∀y∈l,y.Fit s:=fun y k=>g y (by simp[k])
  have f:=g x (by simp);obtain⟨m,o⟩:=p a;rw[aDL,ax,aj,aC,aAX,m];cases hd:asV s (l.map En.deed) s.sp0 with
  |none=>exact⟨by simp,fun t e=>by cases e⟩
  |some t=>
   obtain⟨i,b⟩:=o t hd;have j:=aGI hs i b (fun h=>awd l h a) f;simp only[aN,aI,cb];refine⟨j,fun q c=> ?_⟩;have d:=aqG.same (n:=l.length) (t:=s.sp0) (t':=t) b.ll.symm b.hh.symm f.df;exact⟨rel_step hs i b f c,by rw[W,bg];exact aRL b d c⟩
def arN (D:Dk)(i:Nat):Bool:=decide ((D.es.getD i default).kind≠6)&& !D.st.getD i default
def ao6 (D:Dk):List Nat:=(aZ D.es.length).filter (arN D)
def anQ (D:Dk)(w:Int):List En:=((ao6 D).filter fun(i:Nat)=>decide ((i:Int)≠w)).map fun i=>D.es.getD i default
def aG3:∀(es:List En) (st:List Bool) (i:Nat),es.length=st.length->aqF es st i=((aL i es.length).filter fun j=>decide ((es.getD (j - i) default).kind≠6)&& !st.getD (j - i) default).map fun j=>(j,(es.getD (j - i) default).deed)
 | [],[],_,_=>rfl
 | [],_::_,_,h=>by simp at h
 | _::_,[],_,h=>by simp at h
 |x::es,b::st,i,h=>by
  have d:=aG3 es st (i+1) (by simpa using h);rw[aqF,d,ae,b9,aW];have e:∀j∈aL (i+1) es.length,(decide (((x::es).getD (j - i) default).kind≠6)&& !(b::st).getD (j - i) default)=(decide ((es.getD (j - (i+1)) default).kind≠6)&& !st.getD (j - (i+1)) default)/\(x::es).getD (j - i) default=es.getD (j - (i+1)) default:=fun j a=>by
   have:=(bf.1 a).1;rw[show j - i=(j - (i+1))+1 by omega,bo,bo];exact⟨rfl,rfl⟩
  have e1:(aL (i+1) es.length).filter (fun j=>decide (((x::es).getD (j - i) default).kind≠6)&& !(b::st).getD (j - i) default)=(aL (i+1) es.length).filter (fun j=>decide ((es.getD (j - (i+1)) default).kind≠6)&& !st.getD (j - (i+1)) default):=aG fun j a=>(e j a).1
  have e2:((aL (i+1) es.length).filter (fun j=>decide ((es.getD (j - (i+1)) default).kind≠6)&& !st.getD (j - (i+1)) default)).map (fun j=>(j,((x::es).getD (j - i) default).deed))=((aL (i+1) es.length).filter (fun j=>decide ((es.getD (j - (i+1)) default).kind≠6)&& !st.getD (j - (i+1)) default)).map (fun j=>(j,(es.getD (j - (i+1)) default).deed)):=bP fun j a=>by rw[(e j (bk.1 a).1).2]
  rw[e1,bF,aY,aY]
  by_cases c:x.kind=6
  ·simp only[c,ne_eq,not_true_eq_false,false_and,if_false,decide_false,bq,aE]
   exact e2.symm
  ·cases b
   ·simp only[c,ne_eq,not_false_eq_true,and_self,if_true,decide_true,aI,cj,aj,e2,bF,aY]
   ·simp only[c,ne_eq,not_false_eq_true,Bool.true_eq_false,and_false,if_false,decide_true,aI,cn,aE]
    exact e2.symm
def aIB (h:D.es.length=D.st.length):D.stands=(ao6 D).map fun i=>(i,(D.es.getD i default).deed):=by
 rw[Dk.stands,aG3 _ _ _ h,ao6,bh]
 rfl
def awC (h:D.es.length=D.st.length)(w:Int):D.without w=(anQ D w).map En.deed:=by
 rw[Dk.without,aIB h,anQ,List.filter_map,b0,b0]
 rfl
def aBf (s:Su)(x:En):Bool:=
 if x.kind=1 then anP (x.n 0)
 else if x.kind=2 then decide (x.n 0<(s.pc.links.length:Int))&&anP (x.n 1)&&anP (x.n 2)
 else if x.kind=3 then inR (x.n 0) 0 ((s.pc.hands.length:Int) - 1)&&decide (x.n 2>0)
 else if x.kind=4 then inR (x.n 0) 0 ((s.pc.hands.length:Int) - 1)
 else inR (x.n 0) 1 (asl (s.cal.leap s.year))
def avo (D:Dk)(x:En):Int:=
 if x.formed=false then 2 else if D.es.length>=24 then 3
 else if x.kind=6 then(if x.n 0>=(D.es.length:Int)\/(D.es.getD (x.n 0).toNat default).kind=6 then 2 else if D.st.getD (x.n 0).toNat default=true\/aqS D.su (anQ D (x.n 0))=false then 7 else 0)
 else if aBf D.su x=false then 2 else if arI D.su (anQ D (-1)) x=false then 7 else 0
structure Dk.Live (D:Dk):Prop where
 ok:D.Ok
 fit:∀x∈D.es,x.kind≠6->x.Fit D.su
 live:(D.state (-1)).isSome=true
variable{w:Int}
def aLO:D.state w=asV D.su (D.without w) D.su.sp0:=rfl
def aFB (s:Su):(s.days.length:Int)=asl (s.cal.leap s.year):=by
 have:=aq7 (s.cal.leap s.year);have e:s.days.length=s.dur:=by simp[Su.days,Su.asM]
 rw[e,Su.dur,this]
 split<;>rfl
def En.aWy (h:x.kind=6):x.deed= .strike (x.n 0):=by simp[En.deed,h]
def ayi (hf:x.formed=true)(k:x.kind≠6):aBf D.su x=D.apj x.deed:=by
 have l:=En.axi hf;have c:=fun h=>atS hf (i:=0) h
 have f:0<apG x.kind:=by unfold apG;split;omega;split<;>omega
 have c:=c f;unfold aBf
 by_cases a:x.kind=1
 ·rw[if_pos a,En.deed1 a];rfl
 by_cases d:x.kind=2
 ·rw[if_neg a,if_pos d,En.deed2 d]
  simp only[Dk.apj,Pr.ok,En.chg,Bool.and_assoc]
  congr 1
  rw[aO];simp only[inR,Y,decide_eq_true_eq];omega
 by_cases b:x.kind=3
 ·have g:=atS hf (i:=1) (by simp[apG,b])
  have j:=atS hf (i:=2) (by simp[apG,b]);rw[if_neg a,if_neg d,if_pos b,En.deed3 b];simp only[Dk.apj,Fr.ok]
  congr 1
  rw[aO];simp only[inR,Y,decide_eq_true_eq];omega
 by_cases e:x.kind=4
 ·rw[if_neg a,if_neg d,if_neg b,if_pos e,En.deed4 e];rfl
 ·rw[if_neg a,if_neg d,if_neg b,if_neg e,En.aAf (by omega)]
  simp only[Dk.apj,aFB]
def aI3 (hf:x.formed=true)(a:x.kind≠6)(hb:D.apj x.deed=true):x.Fit D.su:=
 {fm:=hf,k6:=a
  te:=fun k=>by rw[En.deed1 k]at hb;exact hb
  hd:=fun k=>by
   have:inR (x.n 0) 0 ((D.su.pc.hands.length:Int) - 1)=true:=by
    rcases k with k|k
    ·rw[En.deed3 k]at hb;simp only[Dk.apj,Y]at hb;exact hb.1
    ·rw[En.deed4 k]at hb;exact hb
   simp only[inR,Y,decide_eq_true_eq]at this;omega
  fr:=fun k=>by rw[En.deed3 k]at hb;simp only[Dk.apj,Y]at hb;exact hb.2
  df:=aI2 hf hb}
def ap4 (h:x∈anQ D w):x∈D.es/\x.kind≠6:=by
 simp only[anQ,aA,bk,ao6,be,arN,Y,decide_eq_true_eq]at h;obtain⟨i,⟨⟨a,h1,_⟩,_⟩,rfl⟩:=h;exact⟨getD_mem a,h1⟩
def Dk.Live.all (h:D.Live)(w:Int):aqS D.su (anQ D w)=(D.state w).isSome/\∀t,D.state w=some t->Rel D.su (anQ D w) t/\awD D.su (anQ D w).length t:=by
 have:=aVO h.ok.su (anQ D w) fun x a=>h.fit x (ap4 a).1 (ap4 a).2
 rwa [<-awC h.ok.len]at this
def aLN (h:D.es.length=D.st.length)(x:En):ao6 {D with es:=D.es++ [x],st:=D.st++ [false]}=ao6 D++if x.kind=6 then[]else[D.es.length]:=by
 have e:(arN {D with es:=D.es++ [x],st:=D.st++ [false]} D.es.length)=decide (x.kind≠6):=by
  simp only[arN,V,aS,aq];rw[h,aS];simp
 simp only[ao6,W,bg,bl,bu]
 congr 1
 ·refine aG fun i a=> ?_
  have a:=be.1 a;simp only[arN,V,ak a,ak (show i<D.st.length by omega)]
 ·rw[aW,e,bG]
  by_cases b:x.kind=6<;>simp[b]
def aAI (h:D.es.length=D.st.length)(x:En):anQ {D with es:=D.es++ [x],st:=D.st++ [false]} (-1)=anQ D (-1)++if x.kind=6 then[]else[x]:=by
 unfold anQ;rw[aLN h,bu,ax]
 congr 1
 ·refine bP fun i a=> ?_
  have a:=(bk.1 a).1;have a:=be.1 (bk.1 a).1;simp only[V,ak a]
 ·by_cases b:x.kind=6
  ·simp[b]
  ·rw[if_neg b,if_neg b,aW,if_pos (by simp),bG]
   simp[V]
def aHB (h:D.es.length=D.st.length){n:Nat}:ao6 {D with st:=D.st.set n true}=(ao6 D).filter fun(i:Nat)=>decide ((i:Int)≠(n:Int)):=by
 simp only[ao6,bT];refine aG fun i a=> ?_
 have a:=be.1 a;simp only[arN,V,List.getElem?_set]
 by_cases e:n=i
 ·subst e
  simp[show n<D.st.length by omega]
 ·have b:¬(i:Int)=(n:Int):=by omega
  simp[e,b]
def aE3 (h:D.es.length=D.st.length){n:Nat}:anQ {D with st:=D.st.set n true} (-1)=anQ D n:=by
 unfold anQ;rw[aHB h,bT]
 congr 1
def aT9 (hf:x.formed=true)(a:x.kind≠6):D.with x={D with es:=D.es++ [x],st:=D.st++ [false]}:=by
 have b:=En.axi hf
 rcases(show x.kind=1\/x.kind=2\/x.kind=3\/x.kind=4\/x.kind=5 by omega)with k|k|k|k|k
 ·unfold Dk.with;rw[En.deed1 k];rfl
 ·unfold Dk.with;rw[En.deed2 k];rfl
 ·unfold Dk.with;rw[En.deed3 k];rfl
 ·unfold Dk.with;rw[En.deed4 k];rfl
 ·unfold Dk.with;rw[En.aAf k];rfl
def aEU (a:x.kind=6):D.with x={D with es:=D.es++ [x],st:=D.st.set (x.n 0).toNat true++ [false]}:=by
 unfold Dk.with;rw[En.aWy a];rfl
def aH6 (h:D.Live)(hf:x.formed=true)(c:x.kind≠6)(hb:D.apj x.deed=true):D.goes x.deed=arI D.su (anQ D (-1)) x:=by
 obtain⟨t,a⟩:=bB.1 h.live;obtain⟨e,d⟩:=(h.all (-1)).2 t a;have f:=aI3 hf c hb;have:=aGI h.ok.su e d (fun k=>awd _ k fun y b=>h.fit y (ap4 b).1 (ap4 b).2) f;have g:=En.axi hf;rw[this]
 rcases(show x.kind=1\/x.kind=2\/x.kind=3\/x.kind=4\/x.kind=5 by omega)with k|k|k|k|k
 ·rw[En.deed1 k];simp only[Dk.goes,a]
 ·rw[En.deed2 k];simp only[Dk.goes,a]
 ·rw[En.deed3 k];simp only[Dk.goes,a]
 ·rw[En.deed4 k];simp only[Dk.goes,a]
 ·rw[En.aAf k];simp only[Dk.goes,a]
def azU (h:D.Live)(x:En):D.enter x=(if avo D x=0 then D.with x else D,avo D x):=by
 have k:=h.ok.len;have j:=h.ok.few;unfold Dk.enter avo
 by_cases f:x.formed=false
 ·simp[f]
 by_cases c:D.es.length=24
 ·simp[f,c]
 have aZZ:¬D.es.length>=24:=by omega
 have a:x.formed=true:=by simpa using f
 rw[if_neg f,if_neg c,if_neg f,if_neg aZZ]
 by_cases b:x.kind=6
 ·rw[if_pos b,En.aWy b]
  have l:=atS a (i:=0) (by rw[b];decide)
  by_cases hc:x.n 0>=(D.es.length:Int)\/(D.es.getD (x.n 0).toNat default).kind=6
  ·have d:D.apj (.strike (x.n 0))=false:=by
    rw[<-Bool.not_eq_true];simp only[Dk.apj,inR,Y,decide_eq_true_eq];rintro⟨h1,h2⟩
    rcases hc with hc|hc
    ·omega
    ·exact h2 hc
   rw[if_pos d,if_pos hc];rfl
  ·have d:¬D.apj (.strike (x.n 0))=false:=by
    rw[Bool.not_eq_false];simp only[Dk.apj,inR,Y,decide_eq_true_eq];refine⟨by omega,fun e=>hc (.inr e)⟩
   rw[if_neg d,if_neg hc];have g:=(h.all (x.n 0)).1;simp only[Dk.goes,<-g];cases D.st.getD (x.n 0).toNat default<;>cases aqS D.su (anQ D (x.n 0))<;>simp
 ·rw[if_neg b,ayi a b]
  cases d:D.apj x.deed
  ·rfl
  ·rw[aH6 h a b d]
   cases arI D.su (anQ D (-1)) x<;>rfl
def aMC (h:D.Live)(x:En):(D.enter x).1.Live:=by
 have b:=aKj h.ok x;have j:=h.ok.len;rw[azU h]at b⊢;simp only at b⊢
 split
 ·rename_i a
  rw[if_pos a]at b;have d:x.formed=true:=by cases e:x.formed with
   |true=>rfl
   |false=>unfold avo at a;rw[if_pos e]at a;cases a
  have m:¬D.es.length>=24:=fun e=>by unfold avo at a;rw[if_neg (by simp[d]),if_pos e]at a;cases a
  unfold avo at a;rw[if_neg (by simp[d]),if_neg m]at a
  by_cases c:x.kind=6
  ·rw[if_pos c]at a
   rw[aEU c]at b⊢
   by_cases p:x.n 0>=(D.es.length:Int)\/(D.es.getD (x.n 0).toNat default).kind=6
   ·rw[if_pos p]at a;cases a
   rw[if_neg p]at a;have v:=atS d (i:=0) (by rw[c];decide);have g:aqS D.su (anQ D (x.n 0))=true:=by
    cases e:aqS D.su (anQ D (x.n 0))with
    |true=>rfl
    |false=>rw[if_pos (.inr e)]at a;cases a
   refine⟨b,fun y hy f=> ?_,?_⟩
   ·rcases aP.1 hy with hy|hy
    ·exact h.fit y hy f
    ·simp only[ay]at hy;subst hy;exact absurd c f
   ·have e:anQ {D with es:=D.es++ [x],st:=D.st.set (x.n 0).toNat true++ [false]} (-1)=anQ D (x.n 0):=by
     have e1:=aAI (D:={D with st:=D.st.set (x.n 0).toNat true}) (by simpa using j) x;rw[if_pos c,aF,aE3 j]at e1;rw[e1]
     congr 1;omega
    rw[aLO,awC b.len,e,<-awC j];have:=(h.all (x.n 0)).1;rw[g]at this;exact this.symm
  ·rw[if_neg c]at a
   rw[aT9 d c]at b⊢;have l:D.apj x.deed=true:=by
    rw[<-ayi d c];cases e:aBf D.su x with
    |true=>rfl
    |false=>rw[if_pos e]at a;cases a
   have g:arI D.su (anQ D (-1)) x=true:=by
    cases e:arI D.su (anQ D (-1)) x with
    |true=>rfl
    |false=>rw[ayi d c,if_neg (by simp[l]),if_pos e]at a;cases a
   refine⟨b,fun y hy f=> ?_,?_⟩
   ·rcases aP.1 hy with hy|hy
    ·exact h.fit y hy f
    ·simp only[ay]at hy;subst hy;exact aI3 (D:=D) d c l
   ·have e:=aAI j x
    rw[if_neg c]at e;obtain⟨t,q⟩:=bB.1 h.live;have hd:=aH6 h d c l;have o:asV D.su (D.without (-1)) D.su.sp0=some t:=q;rw[aLO,awC b.len,e,ax,<-awC j,aj,aC,aAX];simp only[o,cb];obtain⟨s,r⟩:=(h.all (-1)).2 t q;have u:=aI3 d c l;rw[<-aGI h.ok.su s r (fun k=>awd _ k fun y hy=>h.fit y (ap4 hy).1 (ap4 hy).2) u];exact g
 ·exact h
def aSD (hs:s.ok=true):Dk.Live ⟨s,[],[]⟩:=
 ⟨⟨hs,rfl,by simp,by simp,by simp⟩,by simp,rfl⟩
def aSR (h:Int):∀l:List Int,(match l with| []=>true| [x]=>x==h| _=>false)=(l.all fun x=>x==h)\/¬l.Nodup
 | []=> .inl rfl
 | [x]=> .inl (by simp)
 |x::y::l=>by
  by_cases a:(x::y::l).Nodup
  case neg=>exact .inr a
  refine .inl ?_;rw[bJ]at a;have b:x≠y:=fun e=>a.1 (by rw[e];simp)
  simp only[bS]
  by_cases c:x=h
  ·by_cases d:y=h
   ·exact absurd (c.trans d.symm) b
   ·simp[d]
  ·simp[c]
def aNX (p q:Pc)(hand:Int)(f:Fr):Bool:=decide (aod (anX q.links (p.hands.getD hand.toNat default).toNat)=awE f.n.natAbs f.d.natAbs)&&(aZ p.hands.length).all fun(i:Nat)=>decide ((i:Int)=hand)||decide (aod (anX p.links (p.hands.getD i default).toNat)=aod (anX q.links (p.hands.getD i default).toNat))
def aQQ {q:Pc}(t:p.ok=true)(u:q.ok=true)(hl:q.links.length=p.links.length){hand:Int}(h1:hand.toNat<p.hands.length){f:Fr}(hf:f.ok=true):aqw p q hand f=aNX p q hand f:=by
 have g:=Pc.good t;have a:=Pc.good u;have m:∀j,j<p.hands.length->1<=p.hands.getD j default/\p.hands.getD j default<=p.links.length:=fun j b=>g.hd _ (getD_mem b)
 have s:0<=f.n/\1<=f.d:=by
  have:(0<=f.n/\f.n<=50000)/\1<=f.d/\f.d<=50000:=by simpa[Fr.ok,inR]using hf
  omega
 have e1:awW ((aoX q.links).getD (p.hands.getD hand.toNat default).toNat default) f=decide (aod (anX q.links (p.hands.getD hand.toNat default).toNat)=awE f.n.natAbs f.d.natAbs):=by
  obtain⟨b1,o⟩:=m _ h1;rw[azC a.lk (by omega)];obtain⟨w,y⟩:=aDu (asx a.lk a.pr (show(p.hands.getD hand.toNat default).toNat<=q.links.length by omega));have v:∀l,aod l=awE (apa l).n.natAbs (apa l).d.natAbs:=fun _=>rfl
  rw[v,aO,decide_eq_true_iff,aOF (by omega) (by omega)];simp only[awW,beq_iff_eq];rw[<-bt,<-bt];have z:0<=(apa (anX q.links (p.hands.getD hand.toNat default).toNat)).n*f.d:=br (by omega) (by omega);have A:0<=f.n*(apa (anX q.links (p.hands.getD hand.toNat default).toNat)).d:=br (by omega) (by omega);omega
 have e2:p.aq1 q=((aZ p.hands.length).filter fun(j:Nat)=> !decide (aod (anX p.links (p.hands.getD j default).toNat)=aod (anX q.links (p.hands.getD j default).toNat))).map fun(j:Nat)=>(j:Int):=by
  rw[Pc.aq1,azK,bh]
  congr 1
  refine aG fun j b=> ?_
  have c:j<p.hands.length:=by simpa using(bf.1 b)
  obtain⟨b1,o⟩:=m j c;rw[b7,azC g.lk (by omega),azC a.lk (by omega),aHe (asx g.lk g.pr (by omega)) (asx a.lk a.pr (by omega))]
 have k:(p.aq1 q).Nodup:=by
  rw[e2];rw[List.Nodup,List.pairwise_map];exact(List.Pairwise.filter _ List.nodup_range).imp fun h e=>h (by omega)
 have r:=(aSR hand (p.aq1 q)).resolve_right (fun h=>h k);refine(show aqw p q hand f=(decide (aod (anX q.links (p.hands.getD hand.toNat default).toNat)=awE f.n.natAbs f.d.natAbs)&&(p.aq1 q).all fun x=>x==hand) from congr (congrArg and e1) r).trans ?_;rw[aNX,e2,List.all_map,List.all_filter]
 congr 1
 congr 1
 funext i
 simp only[Function.comp_apply]
 by_cases h:(i:Int)=hand<;>simp[h]
def awH (p:Pc)(c:Chg):(p.changed c).links.length=p.links.length:=by simp[Pc.changed]
def aHM {p:Pc}{link:Nat}{a:Int}{c:Chg}:∀{k:Nat} {b:Int},c∈auo p link a k b->c.link=(link:Int)/\c.pr.a=a/\b<=c.pr.b/\c.pr.b<b+k
 |0,b,h=>by cases h
 |k+1,b,h=>by
  rw[auo]at h
  rcases aP.1 h with h|h
  ·split at h
   ·cases h
   ·cases ay.1 h
    exact⟨rfl,rfl,bL _,by simp only;omega⟩
  ·have:=aHM h
   omega
def aC5 {p:Pc}{d:Int}{w link:Nat}{c:Chg}:∀{k:Nat} {a:Int},c∈atu p d w link k a->c.link=(link:Int)/\(a<=c.pr.a/\c.pr.a<a+k)/\d<=c.pr.b/\c.pr.b<d+w
 |0,a,h=>by cases h
 |k+1,a,h=>by
  rw[atu]at h
  rcases aP.1 h with h|h
  ·have:=aHM h;omega
  ·have:=aC5 h;omega
def aC7 {p:Pc}{d:Int}{w:Nat}{c:Chg}:∀{k link:Nat},c∈apN p d w k link->((link:Int)<=c.link/\c.link<link+k)/\(d<=c.pr.a/\c.pr.a<d+w)/\d<=c.pr.b/\c.pr.b<d+w
 |0,link,h=>by cases h
 |k+1,link,h=>by
  rw[apN]at h
  rcases aP.1 h with h|h
  ·have:=aC5 h;omega
  ·have:=aC7 h;omega
def azf (S:Chg->Chg->Bool):List Chg->Option (List Chg)
 | []=>none
 |c::cs=>match cs.find? fun k=>decide (k.link>c.link)&&S c k with
  |some k=>some [c,k]
  |none=>azf S cs
def find_none_of {α:Type}{p:α->Bool}{l:List α}(h:∀x∈l,p x=false):l.find? p=none:=by
 rw[List.find?_eq_none];intro x a;rw[h x a];decide
def find_congr {α:Type}{p q:α->Bool}:∀{l:List α},(∀x∈l,p x=q x)->l.find? p=l.find? q
 | [],_=>rfl
 |x::l,h=>by
  rw[bH,bH,h x (by simp),find_congr fun y a=>h y (by simp[a])]
def aK8 {S:Chg->Chg->Bool}{R:List Chg}{i:Int}{g:Chg->Option (List Chg)}(d:∀k∈R,k.link>i)(f:∀c,c.link=i->g c=(R.find? (S c)).map fun k=>[c,k])(j:azf S R=R.findSome? g):∀A:List Chg,(∀c∈A,c.link=i)->azf S (A++R)=(A++R).findSome? g
 | [],_=>j
 |c::A,h=>by
  have b:=h c (by simp);have e:(A++R).find? (fun k=>decide (k.link>c.link)&&S c k)=R.find? (S c):=by
   rw[List.find?_append,find_none_of (l:=A) (fun x a=>by rw[b,h x (by simp[a])];simp),Option.none_or];exact find_congr fun x a=>by rw[b,decide_eq_true (d x a),aI]
  rw[aV,azf,e,bO,f c b];cases R.find? (S c)with
  |some k=>rfl
  |none=>exact aK8 d f j A fun x a=>h x (by simp[a])
def aKq {α β:Type}(p:α->Bool)(f:α->β):∀l:List α,(l.findSome? fun x=>if p x then some (f x)else none)=(l.find? p).map f
 | []=>rfl
 |x::l=>by
  rw[bO,bH,aKq p f l];cases p x<;>simp
def aHl (p:Pc)(hand:Int)(f:Fr)(all:List Chg):Option (List Chg):=
 if aqw p p hand f then some []else match all.find? fun c=>aqw p (p.changed c) hand f with
  |some c=>some [c]
  |none=>azf (fun c k=>aqw p ((p.changed c).changed k) hand f) all
def aOM (p:Pc)(hand:Int)(f:Fr)(a:Int)(w:Nat)(now:Pc)(fr:Nat):apd p hand f a w 1 now fr=((apN p a w (p.links.length - fr) fr).find? fun c=>aqw p (now.changed c) hand f).map fun c=>[c]:=by
 rw[apd,<-aKq]
 congr 1
 funext c
 simp only[apd]
 split<;>rfl
def aON (p:Pc)(hand:Int)(f:Fr)(a:Int)(w:Nat):∀(k i:Nat),i+k=p.links.length->azf (fun c k=>aqw p ((p.changed c).changed k) hand f) (apN p a w k i)=(apN p a w k i).findSome? fun c=>(apd p hand f a w 1 (p.changed c) (c.link.toNat+1)).map (c::·)
 |0,i,_=>rfl
 |k+1,i,h=>by
  rw[apN];refine aK8 (i:=(i:Int)) (fun c b=> ?_) (fun c b=> ?_) (aON p hand f a w k (i+1) (by omega)) _ fun c b=>(aC5 b).1
  ·have:=(aC7 b).1.1;omega
  ·rw[b,aOM,ap,show p.links.length - (i+1)=k by omega,Option.map_map]
   rfl
def aDS (i:p.ok=true){a b hand:Int}(hl:anP a=true)(h:anP b=true)(d:a<=b)(j:b - a<=10)(e:inR hand 0 (p.hands.length - 1)=true){f:Fr}(hf:f.ok=true):
  p.changes a b hand f=match aHl p hand f (apN p a (b - a+1).toNat p.links.length 0)with|some l=>(l,0)|none=>([],5):=by
 have g:(p.ok&&(anP a&&anP b&&decide (a<=b))&&decide (b - a<=10)&&inR hand 0 (p.hands.length - 1)&&f.ok)=true:=by simp[i,hl,h,d,j,e,hf]
 rw[Pc.changes,if_pos g,aOM,apd,aHl];rw[show apd p hand f a (b - a+1).toNat 2 p 0=azf (fun c k=>aqw p ((p.changed c).changed k) hand f) (apN p a (b - a+1).toNat p.links.length 0) from by rw[aON _ _ _ _ _ _ _ (by omega),apd];rfl];rw[b7];cases m:aqw p p hand f
 ·simp only[aE,if_false]
  cases((apN p a (b - a+1).toNat p.links.length 0).find? fun c=>aqw p (p.changed c) hand f)with
  |some c=>rfl
  |none=>rfl
 ·simp
end Go.Tel
namespace Go.Proofs
open Go.Shelf Go.RowKit Go.Lib
def Tryz.joinExtra:Builder.Extra Tryz.prog Tryz.laysJoin_ren:={
 sizeBuilder:=by kernel_rfl
 liesBuilder:=by kernel_rfl
 t5:=by kernel_rfl
 a5:=Tryz.isAgg5
 z5:=Tryz.sizeOf5
 v5:=Tryz.zeroValue5
 infoByte:=by kernel_rfl
 cellsByte:=by kernel_rfl
 sizeByte:=by kernel_rfl
 neB5:=by decide}
section
variable {P:Program}{ρ:Ren}
def aQO (L:Lays.n146 P ρ)(h:(P.info? (ρ.t 9)).map (fun i=>(i.zero,i.size,i.bytes))=some (some (.string ByteArray.empty),1,16))(s:ByteArray)(a:UInt8)(w:World)(hs:s.size<4294967281):
  Calls P (ρ.f 146) #[.string s, .string ⟨#[a]⟩] w fun e w'=>
   e= .returned (.slice (some ⟨w.heap.size,0,none⟩) (Lib.countB s ⟨#[a]⟩+1) (Lib.countB s ⟨#[a]⟩+1))/\w'=w.alloc (.cells ((Lib.splitB ⟨#[a]⟩ 0 (Lib.countB s ⟨#[a]⟩) s).map Value.string).toArray (ρ.t 9)):=by
 have h1:1<=(⟨#[a]⟩:ByteArray).size:=aH _;have l:=Lib.countB_le ⟨#[a]⟩ h1 s.size s (aH _);have b:=Lib.splitB_all ⟨#[a]⟩ h1 0 _ s rfl;have c:=Any.strings_genSplit_core {L with} h s ⟨#[a]⟩ 0 (-1) (Lib.countB s ⟨#[a]⟩+1) w hs h1 (aw _)
  (fun x cs _=>(Any.strings_Index_one {L with} x a _).mono fun e w' ⟨g,d⟩=>⟨by rw[g];show _=Ending.returned (Value.int .i64 (Lib.index x.data.toList [a]));rw[Lib.index_one],d⟩)
  ((Any.strings_Count_one {L with} s a w).mono fun e w' ⟨g,d⟩=>⟨by rw[g];show _=Ending.returned (Value.int .i64 ((Lib.count s.data.toList [a]:Nat):Int));rw[Lib.count_one];rfl,d⟩)
  (by decide) (by decide) (by rw[if_pos (by decide)];omega)
 rw[Nat.add_sub_cancel,b]at c;have e2:Lib.cellsOf (Lib.splitB ⟨#[a]⟩ 0 (Lib.countB s ⟨#[a]⟩) s) (Lib.countB s ⟨#[a]⟩+1)=((Lib.splitB ⟨#[a]⟩ 0 (Lib.countB s ⟨#[a]⟩) s).map Value.string).toArray:=by rw[<-b];exact Lib.cellsOf_full _
 rw[e2]at c;have r:=L.t3;have u:=L.t9;have m:=L.t31;have p:=L.a3;have q:=L.a9;have k:=L.a31;have z:=L.z3;have v:=L.v3;have A:=L.z9;have y:=L.v9;have o:=L.z31;have n:=L.v31;have j:∀args w,(callFunc (ρ.f 221) args).run P w= .ok (.enter (ρ.f 221) args) w:=enters_of L.f221 (by kernel_rfl) rfl
 go_enter L.f146,Body.n146_ntmps ρ
 go_wp2_with (go_at_fn (ρ.f 221);refine c.mono ?_;rintro e w' ⟨rfl,d⟩;rw[d])
 go_ret
 exact⟨rfl,rfl⟩
end
end Go.Proofs
namespace Go.Tel
open Go.Am
def arG (s:ByteArray)(c:UInt8):List ByteArray:=Go.Lib.splitB ⟨#[c]⟩ 0 (Go.Lib.countB s ⟨#[c]⟩) s
def aBk (s:ByteArray)(c:UInt8):(arG s c).length=Go.Lib.countB s ⟨#[c]⟩+1:=Go.Lib.splitB_all ⟨#[c]⟩ (aH _) 0 _ s rfl
def aIw {w:World}{O:Nat->Prop}:∀xs:List ByteArray,an3 w O (xs.map Value.string) (xs.map DV.str)
 | []=> .nil
 |x::xs=> .cons (.str _) (aIw xs)
def aDf:∀xs:List ByteArray,flat (xs.map DV.str)=xs.map DV.str
 | []=>rfl
 |x::xs=>by
  have:=aDf xs;simp only[flat]at this⊢;simp only[aj,bz,this]
  rfl
def aUk (s:ByteArray)(c:UInt8)(hs:s.size<=1000000):Am.Pure Go.Tel.C 219 [.str s, .str ⟨#[c]⟩] (.d (.slice false ((arG s c).map .str))) []:=by
 refine atb fun X w b g a f=> ?_
 cases f with|cons h1 t1=>
 cases t1 with|cons h2 t2=>
 cases t2;cases h1;cases h2;refine(Go.Proofs.aQO Go.Proofs.Tryz.laysSplit (by kernel_rfl) s c w (by omega)).mono ?_;rintro e i ⟨rfl,rfl⟩;refine⟨_,rfl,Later.alloc w _,?_⟩;refine .slice (sz:=1) (T:=Go.Proofs.Tryz.laysSplit_ren.t 9) (fz:=(0,0)) (cs:=((arG s c).map Value.string).toArray) ?_ (fun h=>aD _ (a _ h)) (by simp[aBk]) (by intro x a;obtain⟨y,_,rfl⟩:=aA.1 a;rfl) (aH _) (fun h=>by cases h) ?_
 ·show(w.heap.push _)[w.heap.size]?=_
  rw[Array.getElem?_push_size];rfl
 ·rw[aDf]
  simp only[az,cf];rw[bE (by simp[aBk])];exact aIw _
def aWV (n:Int)(c: -9223372036854775808<=n)(h1:n<=9223372036854775807):Am.Pure Go.Tel.C 213 [.int .i64 n] (.d (.str ⟨(Go.Lib.itoa n).toArray⟩)) []:=by
 refine atb fun X w a f i h=> ?_
 cases h with|cons h2 t2=>
 cases t2;cases h2;refine(Go.Proofs.Any.strconv_Itoa Go.Proofs.Tryz.laysItoa n c h1 w f).mono ?_;rintro e j ⟨rfl,k,os,rfl⟩;exact⟨_,rfl,⟨rfl,rfl,rfl,by simp[Go.Sort.grow],fun b g=>by simp only[Go.Sort.grow];rw[Array.getElem?_append_left (by exact g)];rfl⟩, .str _⟩
def aOq (xs:List ByteArray)(a:ByteArray):ByteArray:=⟨(Go.Lib.join (xs.map (·.data.toList)) a.data.toList).toArray⟩
def aAD {w:World}{O:Nat->Prop}:∀{vs:List Value} {xs:List ByteArray},an3 w O vs (xs.map DV.str)->vs=xs.map Value.string
 | _,[], .nil=>rfl
 | _,x::xs, .cons h t=>by
  cases h;rw[aAD t]
  rfl
end Go.Tel
namespace Go.Am
section
variable {C:Ctx}{base:Nat}{M:Mem}{K:PV->Mem->Prop}{KP:DV->Mem->Prop}
variable{a b:ByteArray}
def apu {op:BinOp}{K:DV->Prop}:aDN op (.d (.str a)) (.d (.str b)) K=aw0 op a b K:=px
def aqQ {K:DV->Prop}:aw0 .add a b K=(a.size+b.size<=9223372036854775807/\K (.str (a++b))):=px
def aCU {K:DV->Prop}:aw0 .eql a b K=K (.bool (a.toList==b.toList)):=px
def aJI {K:DV->Prop}:aw0 .neq a b K=K (.bool (!(a.toList==b.toList))):=px
end
end Go.Am
namespace Go.Tel
open Go.Am
def size_data (b:ByteArray):b.data.toList.length=b.size:=aJ
def aWW (xs:List ByteArray)(b:ByteArray)(F:xs.length<=1000000)(hl:(Go.Lib.join (xs.map (·.data.toList)) b.data.toList).length<=1000000000):
  Am.Pure Go.Tel.C 218 [sF (xs.map .str), .str b] (.d (.str (aOq xs b))) []:=by
 refine atb fun X w u E H A=> ?_
 cases A with|cons h1 t1=>
 cases t1 with|cons y t2=>
 cases t2;cases y;generalize h:xs.map DV.str=ys at h1;cases h1 with
 |empty=>
  rw[bp]at h;subst h;refine(Go.Proofs.Any.strings_Join_none Go.Proofs.Tryz.laysJoin Go.Proofs.Tryz.joinExtra _ _ b w).mono ?_;rintro e v ⟨rfl,rfl⟩;exact⟨_,rfl,Later.refl _, .str _⟩
 |slice q G f B z D g=>
 rename_i i k len cap sz cs T fz
 subst h;rw[U]at f;subst f
 by_cases s:xs=[]
 ·subst s
  refine(Go.Proofs.Any.strings_Join_none Go.Proofs.Tryz.laysJoin Go.Proofs.Tryz.joinExtra _ _ b w).mono ?_;rintro e v ⟨rfl,rfl⟩;exact⟨_,rfl,Later.refl _, .str _⟩
 have o:sz=1:=by
  obtain⟨p,l,rfl⟩:∃p l,xs=p::l:=by
   cases xs with
   |nil=>exact absurd rfl s
   |cons a t=>exact⟨a,t,rfl⟩
  rw[<-B (.str p) (by simp)];rfl
 subst o;rw[aDf,cf]at g;have n:=aAD g;refine(Go.Proofs.Any.strings_Join Go.Proofs.Tryz.laysJoin Go.Proofs.Tryz.joinExtra i k cap xs b w (fun j x r=> ?_) (aop q) (by omega) z (by omega)).mono ?_
 ·have m:j<xs.length:=(ah.1 r).1
  rw[cell_of_row w i (k+j) cs T fz q];have:=congrArg (fun l=>l[j]?) n;simp only[List.getElem?_take,m,if_true,List.getElem?_drop,Array.getElem?_toList,bY,r,bn]at this;exact this
 ·rintro e v ⟨rfl,c⟩
  exact⟨_,rfl,⟨c.os,c.tape,c.output,c.size,c.block⟩, .str _⟩
def apC (n:Int):ByteArray:=⟨(Go.Lib.itoa n).toArray⟩
def I64 (n:Int):Prop:= -9223372036854775808<=n/\n<=9223372036854775807
def aAL {n:Int}(h:I64 n):Pure C 213 [dI n] (.d (.str (apC n))) []:=aWV n h.1 h.2
def av3 {n:Int}(h:I64 n):(apC n).size<=21:=by
 have:=Go.Lib.itoa_length_le n h.1 h.2
 simpa[apC,ck]using this
def aD7 {B:Nat}(a:UInt8):∀(r:List (List UInt8)),(∀x∈r,x.length<=B)->(Go.Lib.joinTail [a] r).length<=r.length*(B+1)
 | [],_=>by simp[Go.Lib.joinTail]
 |x::r,h=>by
  have c:=aD7 a r (fun y b=>h y (bM _ b));have d:=h x bU;simp only[Go.Lib.joinTail,aj,List.flatten_cons,W,ae,am]at c⊢;rw[cr];omega
def join_le {B:Nat}(a:UInt8)(xs:List (List UInt8))(h:∀x∈xs,x.length<=B):(Go.Lib.join xs [a]).length<=xs.length*(B+1):=by
 cases xs with
 |nil=>simp[Go.Lib.join_nil]
 |cons x r=>
  rw[Go.Lib.join_cons,W,ae,cr];have:=aD7 a r (fun y b=>h y (bM _ b));have:=h x bU;omega
def aM7 (xs:List ByteArray)(c:UInt8):(aOq xs ⟨#[c]⟩).size=(Go.Lib.join (xs.map (·.data.toList)) [c]).length:=by
 unfold aOq
 show(List.toArray _).size=_
 rw[b3]
def azX (ns:List Int):ByteArray:=aOq (ns.map apC) ⟨#[32]⟩
variable{ns:List Int}
def aF4 (h:∀n∈ns,I64 n):(Go.Lib.join ((ns.map apC).map (·.data.toList)) [32]).length<=ns.length*22:=by
 have:=join_le (B:=21) 32 ((ns.map apC).map (·.data.toList)) (fun x a=>by
  simp only[aA]at a;obtain⟨y,⟨n,b,rfl⟩,rfl⟩:=a;rw[size_data];exact av3 (h n b))
 simpa using this
def aBL (h:∀n∈ns,I64 n):(azX ns).size<=ns.length*22:=by
 rw[azX,aM7];exact aF4 h
variable{s:ByteArray}
def aAW:DV.cells (.str s)=[.str s]:=rfl
def aR5:DV.fits 1 (.str s)=true:=rfl
def aKG (ns:List Int)(hl:ns.length<=1000)(h:∀n∈ns,I64 n):Pure C 122 [sF (ns.map anF)] (.d (.str (azX ns))) []:=by
 refine am6 au6 anN ?_;simp only[au6,anN,U,RN,F,N];refine anL ns.length (fun i (v:Nat)=>⟨[(3, .tsl 0 v 0),(6, .d (sF (ns.map anF))),(7,pI ns.length),(8,pI i)],⟨[],[],[some ⟨1,((ns.take i).map apC).map .str,v,0⟩]⟩⟩)
  (fun _ _=>True) 0 0 (aw _) rfl trivial (fun i v a _=> ?_) (fun v _=> ?_)
 ·obtain⟨b,c,e⟩:=rng a (by omega)
  simp only[b,c,a,getD_map,anM,ap,U,RN,F,Q];refine anE (aAL (h _ (getD_mem a))) ?_;simp only[ao8,DV.strip,aAW,aR5,forall_eq,U,RN,J,N,Q];refine⟨by simp,by simp;omega,?_⟩;simp only[e];refine anT (v+1) a ?_ trivial;rw[anR a];simp
 ·simp only[aB,RN,F]
  rw[aX];refine ap8 (asU (d:=sF ((ns.map apC).map .str)) (by simp[datum,Mem.row])) rfl (aWW (ns.map apC) ⟨#[32]⟩ (by simp;omega) (by have:=aF4 h;simp only at this⊢;omega)) rfl ?_;(try simp only[RN,F,H,I,J,N,Q])
  rfl
def En.line (x:En):ByteArray:=fwE x.kind++⟨#[32]⟩++azX x.ns
def aDg {x:En}(h:x.formed=true):∀n∈x.ns,0<=n/\n<=9999:=by
 simp only[En.formed,Y,decide_eq_true_eq,au]at h;intro n a
 simpa[inR]using h.2 n a
def aKs (k:Int):(fwE k).size<=6:=by
 unfold fwE;have:∀p∈fmL,p.1.size<=6:=by decide
 by_cases h:(k - 1).toNat<fmL.length
 ·exact this _ (getD_mem h)
 ·rw[V,List.getElem?_eq_none (by omega)];decide
def aUo (x:En):Pure C 42 [x.dv] (.d (.tup [.str (if x.formed then x.line else⟨#[]⟩),dI (if x.formed then 0 else 2)])) []:=by
 have e:=aF2 x;rw[aon]at e;refine am6 avv aw7 ?_;simp only[avv,aw7,aon,RN,F,H,Q];refine anE e ?_;cases a:x.formed
 ·(try simp only[RN,F])
  rfl
 have k:1<=x.kind/\x.kind<=6:=by
  simp only[En.formed,Y,inR,decide_eq_true_eq]at a;omega
 have b:=aDg a;have f:=avY a;obtain⟨g,h,i⟩:=aWA k;have c:∀n∈x.ns,I64 n:=fun n l=>by have:=b n l;exact⟨by omega,by omega⟩
 have j:=aBL c;have p:=aKs x.kind;have m:(⟨#[32]⟩:ByteArray).size=1:=rfl;have o:(fwE x.kind++(⟨#[32]⟩:ByteArray)).size<=7:=by rw[aR];omega
 (try simp only[RN,F,H,Q]);refine anE aI4 ?_;simp only[i,g,RN,H,Q];refine⟨by omega,by omega,h,?_⟩;simp only[apu,aqQ];refine⟨by omega,?_⟩;refine aoQ rfl rfl (aKG x.ns (by omega) c) ?_;simp only[apu,aqQ];refine⟨by omega,?_⟩
 rfl
end Go.Tel
namespace Go.Am
section
variable {C:Ctx}{base:Nat}{L:PV->Mem->Prop}{KP:DV->Mem->Prop}{bs:List (Option (List PV))}{fz:List Nat}{ar:List (Option Arr)}
variable{s:ByteArray}
def aUR {i:Nat}:anG C base (.rngS i) [.d (.str s)] ⟨bs,fz,ar⟩ L KP=(bs[base+i]?=some none/\L (.av1 (base+i)) ⟨bs.set (base+i) (some [.ayN s 0]),fz,ar⟩):=px
def aMJ {b pos c n:Nat}(h:bs[b]?=some (some [.ayN s pos]))(hf:b∉fz)(e:pos<s.size)(hd:Utf8.decode s pos=(c,n))(a:L (.d (.tup [.bool true,dI pos, .int .i32 c])) ⟨bs.set b (some [.ayN s (pos+n)]),fz,ar⟩):
  anG C base .aKY [.av1 b] ⟨bs,fz,ar⟩ L KP:=by
 simp only[anG,Mem.box,h,hd];exact⟨hf,by rw[if_pos e];exact a⟩
def aKo {b pos:Nat}(h:bs[b]?=some (some [.ayN s pos]))(hf:b∉fz)(c:¬pos<s.size)(a:L (.d (.tup [.bool false])) ⟨bs,fz,ar⟩):
  anG C base .aKY [.av1 b] ⟨bs,fz,ar⟩ L KP:=by
 simp only[anG,Mem.box,h];exact⟨hf,by rw[if_neg c];exact a⟩
variable{M:Mem}{K:PV->Mem->Prop}
def axU {sz:Nat}{xs:List DV}{k:IntKind}{n:Int}(hs:∀x∈xs,x.cells.length=sz)(a:0<=n)(h1:n<=xs.length):
  anG C base (.axG sz true false false) [.d (.slice false xs), .d (.int k n)] M K KP=K (.d (sF (xs.drop n.toNat))) M:=by
 simp only[anG,awV,aoS,aq,aK,ap,aX,bq,Bool.or_false];refine propext ⟨fun h=>h.2.2.2.2.2.2,fun h=>⟨trivial,hs,a,h1,bL _,fun c b=>b,h⟩⟩
def aRX {neq:Bool}{a c:ByteArray}{b d:Int}:anG C base (.awZ neq [2,1]) [.d (.agg [.str a,dI b]), .d (.agg [.str c,dI d])] M K KP=K (.d (.bool (((a.toList==c.toList)&&(b==d)) !=neq))) M:=by
 rw[aOj (t:=(a.toList==c.toList)&&(b==d))];simp[aoR]
end
end Go.Am
namespace Go.Tel
open Go.Am
def aWh (xs:List ByteArray):∀y∈xs.map DV.str,y.cells.length=1:=by
 intro y a;obtain⟨n,_,rfl⟩:=aA.1 a;rfl
def aYO {p:ByteArray×Nat}:aMQ p= .agg [.str p.1,dI (p.2:Int)]:=rfl
def auI (s:ByteArray)(n:Nat)(p:ByteArray×Nat):Bool:=(s.toList==p.1.toList)&&((n:Int)==(p.2:Int))
def aKz (l:List (ByteArray×Nat))(hl:l.length<=1000)(s:ByteArray)(n:Nat):Pure C 220 [sF (l.map aMQ), .agg [.str s,dI (n:Int)]] (.d (dI (arq (auI s n) l 0))) []:=by
 refine am6 aqK anO ?_;simp only[aqK,anO,U,RN,F,H];refine anL l.length (fun i (_:Unit)=>⟨[(0, .d (sF (l.map aMQ))),(3, .d (.anY [.str s,dI (n:Int)])),(7,pI l.length),(8,pI i)],⟨[some [.d (.str s),pI (n:Int)]],[0],[]⟩⟩)
  (fun i _=>arq (auI s n) l 0=arq (auI s n) (l.drop i) i) 0 () (aw _) rfl rfl (fun i _ h1 a=> ?_) (fun _ a=> ?_)
 ·obtain⟨h2,c,e⟩:=rng h1 (by omega)
  rw[drop_cons h1,arq]at a;simp only[h2,c,h1,getD_map,ap,U,aYO,aRX,aOb,RN,F,H,Q];cases b:auI s n (l.getD i default)
  ·rw[if_neg (fun h=>by rw[b]at h;cases h)]at a
   rw[auI]at b;simp only[b,e,RN,F];exact anT () h1 rfl a
  ·rw[if_pos b]at a
   rw[auI]at b;simp only[b,RN,F];rw[a]
 ·rw[bC,arq]at a
  simp only[aB,a,RN,F]
variable{M:Mem}
def au2 {b:Bool}{s:ByteArray}{K:PV->Mem->Prop}{KP:DV->Mem->Prop}(c:b=true->K (.d (.tup [])) M)(e:b=false->∀d,aFl d->KP d M):SC C 221 [.d (.bool b), .d (.str s)] M K KP:=by
 refine Go.Am.aGY (ds:=[.bool b, .str s]) (Kr:=fun x=>b=true/\x= .tup []) (Kp:=fun d=>b=false/\aFl d) ?_ (fun x a=>by rw[a.2];exact c a.1) (fun d hd=>e hd.1 d hd.2);refine anJ atp apc ?_;cases b
 ·simp only[atp,apc,aEb,aFG,RN,F,H,Q]
  exact⟨s,rfl⟩
 ·simp only[atp,apc,RN,F,H]
  exact⟨_,rfl,rfl⟩
def aId (w:ByteArray):Nat->Nat->Int->Option Int
 |0,_,n=>some n
 |k+1,pos,n=>if 48<=(w.data.getD pos 0).toNat/\(w.data.getD pos 0).toNat<=57/\w.size<=4 then aId w k (pos+1) (10*n+(((w.data.getD pos 0).toNat:Int) - 48))else none
def awP (w:ByteArray):Option Int:=match aId w w.size 0 0 with
 |some n=>if w.size≠0/\(apC n).data.toList=w.data.toList then some n else none
 |none=>none
def aA6:List ByteArray->List Int->Option (List Int)
 | [],a=>some a
 |x::l,a=>match awP x with
  |some n=>aA6 l (a++ [n])
  |none=>none
def awX (line:ByteArray)(fm:List (ByteArray×Nat)):Option (Int×List Int):=
 if arq (auI ((arG line 32).getD 0 default) ((arG line 32).length - 1)) fm 0>=0 then
  (match aA6 ((arG line 32).drop 1) []with
  |some l=>some (arq (auI ((arG line 32).getD 0 default) ((arG line 32).length - 1)) fm 0,l)
  |none=>none)
 else none
def aI7 {α:Type}(p:α->Bool):∀(l:List α) (i:Nat), -1<=arq p l i/\arq p l i<=(i+l.length:Nat)
 | [],i=>by simp only[arq];omega
 |x::l,i=>by
  simp only[arq]
  split
  ·simp;omega
  ·have:=aI7 p l (i+1);simp only[ae];omega
def aOV {line:ByteArray}(hr:line.size<=1000000)(fm:List (ByteArray×Nat))(B:fm.length<=1000)(ex:Bool){M:Mem}{K:PV->Mem->Prop}{KP:DV->Mem->Prop}
  (Z:∀o ns,awX line fm=some (o,ns)->K (.d (.tup [dI o,sF (ns.map anF)])) M)(hP:awX line fm=none->∀d,aFl d->KP d M):SC C 126 [.d (.str line), .d (.slice ex (fm.map aMQ))] M K KP:=by
 refine Go.Am.aGY (ds:=[.str line, .slice ex (fm.map aMQ)]) (Kr:=fun x=>∃a ns,awX line fm=some (a,ns)/\x= .tup [dI a,sF (ns.map anF)]) (Kp:=fun d=>awX line fm=none/\aFl d) ?_ (fun x hx=>by obtain⟨a,ns,h1,rfl⟩:=hx;exact Z a ns h1) (fun d hd=>hP hd.1 d hd.2);have hl:=aBk line 32;have ab:=Go.Lib.countB_le ⟨#[32]⟩ (aH _) line.size line (aH _);have aX8:=aUk line 32 hr;refine anJ awi aoj ?_;simp only[awi,aoj,RN,F,H,N];refine anE aX8 ?_;have aOU:awX line fm=if arq (auI ((arG line 32).getD 0 default) ((arG line 32).length - 1)) fm 0>=0 then(match aA6 ((arG line 32).drop 1) []with|some l=>some (arq (auI ((arG line 32).getD 0 default) ((arG line 32).length - 1)) fm 0,l)|none=>none)else none:=rfl
 have ae:(arG line 32).length<=1000001:=by omega
 have ac:1<=(arG line 32).length:=by omega
 generalize arG line 32=ws at*;have i0:(0:Int)<=0:=by decide
 have l0:0<ws.length:=by omega
 have R:cv .i64 ((ws.length:Int) - 1)=((ws.length - 1:Nat):Int):=by rw[anI (by omega)];omega
 have D:=aKz fm B (ws.getD 0 default) (ws.length - 1);have a1h:=aI7 (auI (ws.getD 0 default) (ws.length - 1)) fm 0;simp only[U,i0,l0,Int.toNat_zero,getD_map,aAW,R,RN,F,H,Q];refine anE D ?_;(try simp only[RN]);generalize arq (auI (ws.getD 0 default) (ws.length - 1)) fm 0=ix at*;refine au2 (fun e2=> ?_) (fun e2 d b=>⟨by rw[aOU,if_neg (of_decide_eq_false e2)],b⟩);rw[if_pos (of_decide_eq_true e2)]at aOU;(try simp only[RN]);rw[axU (aWh ws) (by decide) (by rw[U];omega)];have A:(ws.map DV.str).drop (Int.toNat 1)=(ws.drop 1).map DV.str:=by rw[List.map_drop];rfl
 rw[A];have O:(ws.drop 1).length<=1000000:=by simp;omega
 generalize ws.drop 1=xs at*;simp only[U,RN];refine anL xs.length (fun i (q:List Int×Nat)=>⟨[(0, .d (.str line)),(7,pI ix),(8, .tsl 1 q.2 0),(30, .d (sF (xs.map .str))),(31,pI xs.length),(32,pI i)],⟨[],[],[some ⟨1,[],0,0⟩,some ⟨1,q.1.map anF,q.2,0⟩]⟩⟩)
  (fun i q=>aA6 xs []=aA6 (xs.drop i) q.1/\q.1.length=i) 0 ([],0) (aw _) rfl ⟨rfl,rfl⟩ (fun i q s p=> ?_) (fun q p=> ?_)
 ·obtain⟨f,ver⟩:=q
  obtain⟨r1,r2⟩:=p;simp only at r1 r2;obtain⟨W,X,Y⟩:=rng s O;rw[drop_cons s,aA6]at r1;obtain⟨w,S⟩:∃w,w=xs.getD i default:=⟨_,rfl⟩
  rw[<-S]at r1;have e:awP w=none->awX line fm=none:=fun h=>by rw[aOU,r1,h]
  simp only[W,X,s,getD_map,ap,U,aAW,<-S,aUR,RN,F,Q];refine apW (fun(q:Nat×Int)=>⟨[(0, .d (.str line)),(7,pI ix),(8, .tsl 1 ver 0),(10, .d (.str w)),(11,pI q.2),(30, .d (sF (xs.map .str))),(31,pI xs.length),(32,pI i),(37, .av1 0)],⟨[some [.ayN w q.1]],[],[some ⟨1,[],0,0⟩,some ⟨1,f.map anF,ver,0⟩]⟩⟩)
   (fun q=>q.1<=w.size/\aId w w.size 0 0=aId w (w.size - q.1) q.1 q.2/\0<=q.2/\q.2<10 ^ q.1/\(0<q.1->w.size<=4)) (fun q=>w.size - q.1) (0,0) rfl ⟨aw _,rfl,by decide,by decide,by simp⟩ (fun q p=> ?_)
  obtain⟨pos,n⟩:=q;obtain⟨q1,g,q3,q4,V⟩:=p;simp only at q1 g q3 q4 V
  by_cases j:pos<w.size
  ·obtain⟨c,y,hd⟩:∃c y,Utf8.decode w pos=(c,y):=⟨_,_,rfl⟩
   have hg:w.data.getD pos 0=w[pos]'j:=by
    rw[Array.getD_eq_getD_getElem?,Array.getElem?_eq_getElem (show pos<w.data.size from j)];rfl
   have z:(48<=(w.data.getD pos 0).toNat/\(w.data.getD pos 0).toNat<=57↔48<=c/\c<=57)/\(c<=57->c=(w.data.getD pos 0).toNat/\y=1):=by
    rw[hg]
    by_cases ha:(w[pos]'j).toNat<128
    ·have:=decode_ascii w pos j ha
     rw[hd]at this;cases this;exact⟨Iff.rfl,fun _=>⟨rfl,rfl⟩⟩
    ·have:=(decode_high w pos j (by omega)).1
     rw[hd]at this;simp only at this;exact⟨by omega,by omega⟩
   obtain⟨k,hk⟩:∃k,w.size - pos=k+1:=⟨w.size - pos - 1,by omega⟩
   rw[hk,aId]at g;have bad:¬(48<=c/\c<=57/\w.size<=4)->awP w=none:=by
    intro G;rw[if_neg (by intro hh;exact G ⟨(z.1.1 ⟨hh.1,hh.2.1⟩).1,(z.1.1 ⟨hh.1,hh.2.1⟩).2,hh.2.2⟩)]at g;rw[awP,g]
   (try simp only[RN,F]);refine aMJ rfl (by simp) j hd ?_
   by_cases v:(c:Int)>=48
   case neg=>
    simp only[v,RN,F];exact au2 (fun h=>by cases h) (fun _ d b=>⟨e (bad (by omega)),b⟩)
   by_cases P:(c:Int)<=57
   case neg=>
    simp only[v,P,RN,F];exact au2 (fun h=>by cases h) (fun _ d b=>⟨e (bad (by omega)),b⟩)
   by_cases T:(w.size:Int)<=4
   case neg=>
    simp only[v,P,T,RN,F];exact au2 (fun h=>by cases h) (fun _ d b=>⟨e (bad (by omega)),b⟩)
   simp only[v,P,T,RN,F];refine au2 (fun _=> ?_) (fun h=>by cases h);obtain⟨hc,rfl⟩:=z.2 (by omega);rw[if_pos ⟨by omega,by omega,by omega⟩,<-hc]at g;have L:(10:Int) ^ pos<=1000:=by
    rcases pos with _| _| _| _|pos
    ·decide
    ·decide
    ·decide
    ·decide
    ·omega
   have R:cv .i64 (10*n)=10*n:=anI (by omega);have w2:IntKind.i32.wrap ((c:Int) - 48)=(c:Int) - 48:=by
    obtain⟨m,hm⟩:∃m:Nat,(c:Int) - 48=m:=Int.eq_ofNat_of_zero_le (by omega)
    have E:m<10:=by omega
    rw[hm];exact(by decide:∀m<10,IntKind.i32.wrap ((m:Nat):Int)=m) m E
   have w3:cv .i64 ((c:Int) - 48)=(c:Int) - 48:=anI (by omega);have w4:cv .i64 (10*n+((c:Int) - 48))=10*n+((c:Int) - 48):=anI (by omega);simp only[R,w2,w3,w4];refine aC0 (a:=(pos,n)) (μ:=fun q=>w.size - q.1) (pos+1,10*n+((c:Int) - 48)) (by simp only;omega) rfl ⟨by simp only;omega,?_,by simp only;omega,?_,fun _=>by omega⟩ (by simp) (by simp) rfl rfl
   ·simp only
    rw[g,show w.size - (pos+1)=k by omega]
   ·simp only[Int.pow_succ];omega
  ·have I:pos=w.size:=by omega
   rw[I,bF,aId]at g;(try simp only[RN,F]);refine aKo rfl (by simp) j ?_;have r:(w.toList==(⟨#[]⟩:ByteArray).toList)=decide (w.size=0):=by
    rw[Go.Lib.toList_data,Go.Lib.toList_data,<-size_data];cases w.data.toList<;>simp
   by_cases u:w.size=0
   ·rw[decide_eq_true u]at r
    simp only[apu,aJI,r,RN,F,N];exact au2 (fun h=>by cases h) (fun _ d b=>⟨e (by rw[awP,g];simp[u]),b⟩)
   ·rw[decide_eq_false u]at r
    have ah:w.size<=4:=V (by omega);have L:(10:Int) ^ pos<=10000:=by
     rcases pos with _| _| _| _| _|pos
     ·decide
     ·decide
     ·decide
     ·decide
     ·decide
     ·omega
    simp only[apu,aJI,r,RN,F,N];refine aoQ rfl rfl (aAL ⟨by omega,by omega⟩) ?_
    by_cases t:(apC n).data.toList=w.data.toList
    ·have e1:((apC n).toList==w.toList)=true:=by rw[Go.Lib.toList_data,Go.Lib.toList_data];exact beq_iff_eq.2 t
     have G:awP w=some n:=by rw[awP,g];simp only;rw[if_pos ⟨u,t⟩]
     rw[G]at r1;simp only[apu,aCU,e1];refine au2 (fun _=> ?_) (fun h=>by cases h);simp only[fits_int,forall_eq,DV.strip,aqi,U,RN,J,Q];refine⟨by simp,by omega,?_⟩;simp only[Y];refine ao7 0 2 (f++ [n],ver+1) s ?_ ⟨r1,by simp[r2]⟩ (by simp) (by simp) rfl rfl;simp only[ax,aj,aC,anM];rfl
    ·have e1:((apC n).toList==w.toList)=false:=by rw[Go.Lib.toList_data,Go.Lib.toList_data];exact beq_eq_false_iff_ne.2 t
     simp only[apu,aCU,e1];exact au2 (fun h=>by cases h) (fun _ d b=>⟨e (by rw[awP,g];simp only;rw[if_neg (fun hh=>t hh.2)]),b⟩)
 ·obtain⟨f,ver⟩:=q
  obtain⟨r1,r2⟩:=p;simp only at r1 r2;rw[bC,aA6]at r1;simp only[aB,an6,aoz,aQ,RN,F];exact⟨.tup [dI ix,sF (f.map anF)],by simp[datum,aoi,aoO,Mem.row],ix,f,by rw[aOU,r1],rfl⟩
def aoW (line:ByteArray):En×Int:=
 if line.size>60 then(⟨0,[]⟩,3)else match awX line fmL with
  |some (a,ns)=>(⟨1+a,ns⟩,0)
  |none=>(⟨0,[]⟩,4)
def apI (line:ByteArray):Qn×Int:=match awX line amL with
 |some (a,ns)=>(⟨1+a,ns⟩,0)
 |none=>(⟨0,[]⟩,4)
def axZ (k:Int)(ns:List Int)(e:Int):DV:= .tup [.agg [dI k, .slice (decide (e≠0)) (ns.map anF)],dI e]
def aLR {line:ByteArray}{fm:List (ByteArray×Nat)}{a:Int}{ns:List Int}(h:awX line fm=some (a,ns)):0<=a/\a<=fm.length:=by
 unfold awX at h
 split at h
 ·rename_i b
  have c:=(aI7 (auI ((arG line 32).getD 0 default) ((arG line 32).length - 1)) fm 0).2
  split at h
  ·cases h;omega
  ·cases h
 ·cases h
def aQl {line:ByteArray}(n:line.size<=1000000){bs:List (Option (List PV))}{fz:List Nat}{ar:List (Option Arr)}(b:FzB ⟨bs,fz,ar⟩){xb:Nat}{j l:PV}(hx:bs[xb]?=some (some [j,l]))(f:xb∉fz):
  SC C 125 [.d (.anY [.str line]), .ptr xb 0] ⟨bs,fz,ar⟩
   (fun _ M'=>∃a ns y,awX line fmL=some (a,ns)/\M'=⟨bs.set xb (some [pI (1+a), .d (sF (ns.map anF))])++ [y],bs.length::fz,ar⟩)
   (fun d M'=>awX line fmL=none/\aFl d/\∃y,M'=⟨bs++ [y],bs.length::fz,ar⟩):=by
 have c:bs.length∉fz:=fun e=>aD _ (b _ e)
 have g:xb<bs.length:=(ah.1 hx).1;have a0D:∀k,xb<bs.length+k:=fun k=>by omega
 have i:¬xb=bs.length:=by omega
 refine anJ auw apc ?_;simp only[auw,apc,RN,F,H];refine anE aI4 ?_;rw[aOl];simp only[anZ,aoo,c,W,aI0,RN,F,H,J,Q];refine⟨(fun h=>by cases h),?_⟩
 show SC C 126 [.d (.str line), .d (.slice true (fmL.map aMQ))] _ _ _
 refine aOV n fmL (by decide) true (fun a ns h=> ?_) (fun h d hd=> ?_)
 ·have p:=aLR h
  have m:(fmL:List (ByteArray×Nat)).length<=12:=by decide
  have o:cv .i64 (1+a)=1+a:=anI (by omega);simp only[o,aoF,g,hx,az5,f,i,ai,azW,RN,F,H,Q];exact⟨a,ns,_,h,rfl⟩
 ·exact⟨h,hd,_,rfl⟩
def aQs {line:ByteArray}(n:line.size<=1000000){bs:List (Option (List PV))}{fz:List Nat}{ar:List (Option Arr)}(b:FzB ⟨bs,fz,ar⟩){xb:Nat}{j l:PV}(hx:bs[xb]?=some (some [j,l]))(f:xb∉fz):
  SC C 274 [.d (.anY [.str line]), .ptr xb 0] ⟨bs,fz,ar⟩
   (fun _ M'=>∃a ns y,awX line amL=some (a,ns)/\M'=⟨bs.set xb (some [pI (1+a), .d (sF (ns.map anF))])++ [y],bs.length::fz,ar⟩)
   (fun d M'=>awX line amL=none/\aFl d/\∃y,M'=⟨bs++ [y],bs.length::fz,ar⟩):=by
 have c:bs.length∉fz:=fun e=>aD _ (b _ e)
 have g:xb<bs.length:=(ah.1 hx).1;have a0D:∀k,xb<bs.length+k:=fun k=>by omega
 have i:¬xb=bs.length:=by omega
 refine anJ as7 apc ?_;simp only[as7,apc,RN,F,H];refine anE aRo ?_;rw[aOk];simp only[anZ,aoo,c,W,aI0,RN,F,H,J,Q];refine⟨(fun h=>by cases h),?_⟩
 show SC C 126 [.d (.str line), .d (.slice true (amL.map aMQ))] _ _ _
 refine aOV n amL (by decide) true (fun a ns h=> ?_) (fun h d hd=> ?_)
 ·have p:=aLR h
  have m:(amL:List (ByteArray×Nat)).length<=12:=by decide
  have o:cv .i64 (1+a)=1+a:=anI (by omega);simp only[o,aoF,g,hx,az5,f,i,ai,azW,RN,F,H,Q];exact⟨a,ns,_,h,rfl⟩
 ·exact⟨h,hd,_,rfl⟩
def aUh (line:ByteArray):Pure C 44 [.str line] (.d (axZ (aoW line).1.kind (aoW line).1.ns (aoW line).2)) []:=by
 refine am6 avu aJy ?_;simp only[avu,aJy,RN,F,H,Q]
 by_cases f:line.size>60
 ·have e:decide ((line.size:Int)>60)=true:=by simp;omega
  have c:aoW line=(⟨0,[]⟩,3):=by rw[aoW,if_pos f]
  simp only[e,c,axZ,RN,F,H,J,Q]
  rfl
 ·have e:decide ((line.size:Int)>60)=false:=by simp;omega
  simp only[e,arl,aQ,RN,F,H];have z0:((0:Int) !=0)=false:=rfl;have j:((4:Int) !=0)=true:=rfl;refine aFe (fs:=[]) (cs:=[.d (.anY [.str line]), .ptr 2 0]) (fun i b=>by simp at b;simp[b]) (by kernel_rfl) ?_;refine SC.aqk (SC.mono (aQl (line:=line) (by omega) (fun i b=>by simp at b;simp[b]) (xb:=2) rfl (by simp)) ?_) ?_
  ·rintro v g ⟨a,ns,y,h,rfl⟩
   have c:aoW line=(⟨1+a,ns⟩,0):=by rw[aoW,if_neg f,h]
   refine⟨rfl,by simp,?_⟩;simp only[z0,c,axZ,ai,av,RN,F,H,J,Q];simp
  ·rintro d g ⟨h,hd,y,rfl⟩
   have c:aoW line=(⟨0,[]⟩,4):=by rw[aoW,if_neg f,h]
   refine⟨rfl,by simp,by simp, .inr ⟨hd,fun x=> ?_⟩⟩;simp only[j,c,axZ,ai,av,RN,F,H,J,Q]
   rfl
def aNw (line:ByteArray)(hl:line.size<=1000000):Pure C 214 [.str line] (.d (axZ (apI line).1.kind (apI line).1.ns (apI line).2)) []:=by
 refine am6 atZ aJy ?_;simp only[atZ,aJy,arl,aQ,RN,F,H];refine aFe (fs:=[]) (cs:=[.d (.anY [.str line]), .ptr 2 0]) (fun i b=>by simp at b;simp[b]) (by kernel_rfl) ?_;refine SC.aqk (SC.mono (aQs (line:=line) hl (fun i b=>by simp at b;simp[b]) (xb:=2) rfl (by simp)) ?_) ?_
 ·rintro v e ⟨a,ns,y,h,rfl⟩
  have c:apI line=(⟨1+a,ns⟩,0):=by rw[apI,h]
  refine⟨rfl,by simp,?_⟩;simp only[c,axZ,ai,av,RN,H,J,Q];simp
 ·rintro d e ⟨h,hd,y,rfl⟩
  have c:apI line=(⟨0,[]⟩,4):=by rw[apI,h]
  refine⟨rfl,by simp,by simp, .inr ⟨hd,fun x=> ?_⟩⟩;simp only[c,axZ,ai,av,RN,H,J,Q]
  rfl
def aPJ:ByteArray:=⟨#[101,114,114,111,114,32]⟩
def aSN:ByteArray:=⟨#[110,111,116,101,100]⟩
def aKW:ByteArray:=⟨#[110,111,116,104,105,110,103]⟩
def aYb (n:Int):Bool:=decide (-9223372036854775808<=n)&&decide (n<=9223372036854775807)
def Dk.said (D:Dk)(line:ByteArray):Option (Dk×ByteArray):=
 if(aoW line).2=0 then(if(D.enter (aoW line).1).2=0 then some ((D.enter (aoW line).1).1,aSN)else some ((D.enter (aoW line).1).1,aPJ++apC (D.enter (aoW line).1).2))
 else if(aoW line).2=3 then some (D,aPJ++apC 3)
 else if(apI line).2=0 then
  (if(D.ask (apI line).1).2≠0 then some (D,aPJ++apC (D.ask (apI line).1).2)
  else if(D.ask (apI line).1).1=[]then some (D,aKW)
  else if(D.ask (apI line).1).1.all aYb&&decide ((D.ask (apI line).1).1.length<=1000)then some (D,azX (D.ask (apI line).1).1)else none)
 else some (D,aPJ++apC (apI line).2)
def aHW (D:Dk)(x:En):0<=(D.enter x).2/\(D.enter x).2<=7:=by
 unfold Dk.enter
 repeat' split
 all_goals simp
def aRH (d:Dvd)(n:Int):0<=(d.cuts n).2/\(d.cuts n).2<=7:=by
 unfold Dvd.cuts
 split
 ·split<;>simp
 ·simp
def aIo (line:ByteArray):0<=(apI line).2/\(apI line).2<=7:=by
 unfold apI;split<;>simp
def aQm (line:ByteArray):0<=(aoW line).2/\(aoW line).2<=7:=by
 unfold aoW;split
 ·simp
 ·split<;>simp
def aQ3 (p:Pc)(h:Int)(f:Fr)(n:Int):0<=(att p h f n).2/\(att p h f n).2<=7:=by
 unfold att aNo
 repeat' split
 all_goals simp
def aJ8 (p:Pc)(a b h:Int)(f:Fr):0<=(p.changes a b h f).2/\(p.changes a b h f).2<=7:=by
 have pr:∀(l:List Chg) (n:Int),0<=n/\n<=7->0<=(l,n).2/\(l,n).2<=7:=fun _ _ h=>h
 unfold Pc.changes
 split
 ·split
  ·exact pr _ 0 (by decide)
  split
  ·exact pr _ 0 (by decide)
  split
  ·exact pr _ 0 (by decide)
  ·exact pr _ 5 (by decide)
 ·exact pr _ 2 (by decide)
def aSH (D:Dk)(t:Sp)(a b c:Int):0<=(arJ D t a b c).2/\(arJ D t a b c).2<=7:=by
 unfold arJ
 split
 ·split
  ·simp
  ·exact aJ8 _ _ _ _ _
 ·simp
def aQ7 (r:List Int×Int):Prop:=0<=r.2/\r.2<=7
variable{c:Prop}
def arV [Decidable c]{a b:List Int×Int}(d:aQ7 a)(hb:aQ7 b):aQ7 (if c then a else b):=by
 by_cases h:c
 ·rw[if_pos h];exact d
 ·rw[if_neg h];exact hb
def avW (l:List Int){n:Int}(h:0<=n/\n<=7):aQ7 (l,n):=h
def aUH [Decidable c]{a b:Int}(d:0<=a/\a<=7)(hb:0<=b/\b<=7):0<=(if c then a else b)/\(if c then a else b)<=7:=by
 by_cases h:c
 ·rw[if_pos h];exact d
 ·rw[if_neg h];exact hb
def aFo (D:Dk)(t:Sp)(q:Qn):0<=(D.answer t q).2/\(D.answer t q).2<=7:=by
 refine(?_:aQ7 (D.answer t q));unfold Dk.answer;refine arV (avW _ (by decide)) ?_;refine arV (avW _ (by decide)) ?_;refine arV (avW _ (by decide)) ?_;refine arV (avW _ (aUH (by decide) (by decide))) ?_;refine arV (aSH _ _ _ _ _) ?_;refine arV (avW _ (aUH (aQ3 _ _ _ _) (by decide))) ?_;refine arV (avW _ (by decide)) ?_;refine arV (avW _ (aUH ?_ (by decide))) ?_
 ·generalize aq8 _ _ _=o
  cases o with
  |none=>exact(by decide:(0:Int)<=5/\(5:Int)<=7)
  |some x=>exact(by decide:(0:Int)<=0/\(0:Int)<=7)
 refine arV (avW _ (aUH (by decide) (by decide))) ?_;refine arV (avW _ (aRH _ _)) ?_;exact arV (avW _ (by decide)) (avW _ (by decide))
def aN9 (D:Dk)(q:Qn):0<=(D.ask q).2/\(D.ask q).2<=7:=by
 unfold Dk.ask
 split
 ·simp
 split
 ·simp
 split
 ·simp
 ·split
  ·exact aFo _ _ _
  ·exact aFo _ _ _
variable{D D':Dk}
def aV9 {line s:ByteArray}(a:D.Ok)(h:D.said line=some (D',s)):D'.Ok:=by
 unfold Dk.said at h
 repeat' split at h
 all_goals first|(cases h;done)|(cases h;first|exact aKj a _|exact a)
def aQF {line s:ByteArray}(h:D.said line=some (D',s)):s.size<=30000:=by
 have e1:aPJ.size=6:=rfl;have e2:aSN.size=5:=rfl;have d:aKW.size=7:=rfl;have a:∀n:Int,0<=n/\n<=7->(aPJ++apC n).size<=30000:=fun n c=>by
  have:=av3 (n:=n) ⟨by omega,by omega⟩;rw[aR];omega
 unfold Dk.said at h
 split at h
 ·split at h
  ·cases h;omega
  ·cases h;exact a _ (aHW _ _)
 split at h
 ·cases h;exact a 3 (by decide)
 split at h
 ·split at h
  ·cases h;exact a _ (aN9 _ _)
  split at h
  ·cases h;omega
  split at h
  ·rename_i b
   cases h;simp only[Y,au,decide_eq_true_eq,aYb]at b;have:=aBL (ns:=(D.ask (apI line).1).1) (fun n c=>b.1 n c);omega
  ·cases h
 ·cases h;exact a _ (aIo _)
def aO8 {d:Nat}{ce cs:PV}(h:aqR D d ce cs M)(I:D.Ok){line s:ByteArray}(hl:line.size<=1000000)(hs:D.said line=some (D',s)){KP:DV->Mem->Prop}:
  SC C 117 [.ptr d 0, .d (.str line)] M (fun p M'=>p= .d (.str s)/\∃ce' cs',aqR D' d ce' cs' M'/\FrD d ce cs ce' cs' M M'/\FzB M') KP:=by
 obtain⟨bs,fz,ar⟩:=M;have ay5:∀i∈fz,i<bs.length:=h.fzb
 have Z:bs.length∉fz:=fun e=>aD _ (ay5 _ e)
 have ab:∀k,bs.length+k∉fz:=fun k e=>by have:=ay5 _ e;omega
 have ah:¬bs.length+1=bs.length:=by omega
 have J:=aQm line;have K:=aIo line;have g:∀n:Int,0<=n/\n<=7->I64 n:=fun n hn=>⟨by omega,by omega⟩
 have q:∀n:Int,0<=n/\n<=7->(apC n).size<=21:=fun n hn=>av3 (g n hn)
 have e1:(⟨#[101,114,114,111,114,32]⟩:ByteArray).size=6:=rfl;refine anJ asC anO ?_;simp only[asC,anO,RN,F,H];refine anE (aUh line) ?_;simp only[axZ,anZ,aoo,Z,W,RN,F,H,Q];unfold Dk.said at hs
 by_cases B:(aoW line).2=0
 ·rw[if_pos B]at hs
  have L:((aoW line).2==0)=true:=by simp[B]
  have hd:decide ((aoW line).2≠0)=false:=by simp[B]
  have z:Frm ⟨bs,fz,ar⟩ ⟨bs++ [some [pI ((aoW line).1.kind), .d (sF ((aoW line).1.ns.map anF))]],bs.length::fz,ar⟩:=Frm.new (xf:=[bs.length]) (by simp);have G:=aHW D (aoW line).1;have hE:=aQ6 (h.frm z) I (aoW line).1 (KP:=KP);rw[aon]at hE;simp only[L,hd,RN,F,H,Q];refine SC.aqk (SC.mono hE ?_) (fun _ _ h=>h);rintro p ⟨R,S,P⟩ ⟨rfl,ce',cs',O,q2⟩;have b:=z.frD (d:=d) (ce:=ce) (cs:=cs)|>.trans q2
  by_cases t:(D.enter (aoW line).1).2=0
  ·rw[if_pos t]at hs
   have u:((D.enter (aoW line).1).2==0)=true:=by simp[t]
   cases hs;simp only[u,RN,F];exact⟨rfl,ce',cs',O,b,O.fzb⟩
  ·rw[if_neg t]at hs
   have u:((D.enter (aoW line).1).2==0)=false:=by simp[t]
   have:=q _ G;cases hs;simp only[u,RN,F];refine anE (aAL (g _ G)) ?_;simp only[apu,aqQ];exact⟨by omega,rfl,ce',cs',O,b,O.fzb⟩
 rw[if_neg B]at hs;have L:((aoW line).2==0)=false:=by simp[B]
 have hd:decide ((aoW line).2≠0)=true:=by simp[B]
 have z:∀x,Frm ⟨bs,fz,ar⟩ ⟨bs++ [x],bs.length::fz,ar⟩:=fun x=>Frm.new (xf:=[bs.length]) (by simp)
 by_cases E:(aoW line).2=3
 ·rw[if_pos E]at hs
  have v:((aoW line).2==3)=true:=by simp[E]
  have:=q _ J;rw[<-E]at hs;cases hs;simp only[L,v,RN,F];refine anE (aAL (g _ J)) ?_;simp only[apu,aqQ];exact⟨by omega,rfl,ce,cs,h.frm (z _),(z _).frD,(z _).fzb h.fzb⟩
 rw[if_neg E]at hs;have v:((aoW line).2==3)=false:=by simp[E]
 simp only[L,v,RN,F];refine anE (aNw line hl) ?_;simp only[axZ,apA,aqP,ab,ah,bc,W,RN,F,H,Q];have j:∀x y,Frm ⟨bs,fz,ar⟩ ⟨bs++ [x,y],(bs.length+1)::bs.length::fz,ar⟩:=fun x y=>Frm.new (xf:=[bs.length+1,bs.length]) (by simp)
 by_cases A:(apI line).2=0
 case neg=>
  rw[if_neg A]at hs;have w:((apI line).2==0)=false:=by simp[A]
  have ae:((apI line).2 !=0)=true:=by simp[A]
  have:=q _ K;cases hs;simp only[w,ae,RN,F];refine anE (aAL (g _ K)) ?_;simp only[apu,aqQ];exact⟨by omega,rfl,ce,cs,h.frm (j _ _),(j _ _).frD,(j _ _).fzb h.fzb⟩
 rw[if_pos A]at hs;have w:((apI line).2==0)=true:=by simp[A]
 have ac:decide ((apI line).2≠0)=false:=by simp[A]
 have o:=aN9 D (apI line).1;have hA:=aL1 (h.frm (j (some [pI ((aoW line).1.kind), .d (.slice (decide ((aoW line).2≠0)) ((aoW line).1.ns.map anF))]) (some [pI ((apI line).1.kind), .d (sF ((apI line).1.ns.map anF))]))) I (apI line).1 (KP:=KP);rw[aBw]at hA;simp only[w,ac,RN,F,H,Q];refine SC.aqk (SC.mono hA ?_) (fun _ _ h=>h);rintro p ⟨R,S,P⟩ ⟨c,hp,N,ai,q2⟩;have b:=(j _ _).trans q2;generalize D.ask (apI line).1=r at*;obtain⟨l,e⟩:=r;simp only at hs hp N o
 by_cases T:e=0
 case neg=>
  rw[if_pos T]at hs;have m:(e !=0)=true:=by simp[T]
  have:=q _ o;cases hs
  rcases hp with rfl|⟨rfl,rfl⟩
  ·simp only[atO,atP,m,RN,F]
   refine anE (aAL (g _ o)) ?_;simp only[apu,aqQ];exact⟨by omega,rfl,ce,cs,h.frm b,b.frD,b.fzb h.fzb⟩
  ·simp only[m,RN,F]
   refine anE (aAL (g _ o)) ?_;simp only[apu,aqQ];exact⟨by omega,rfl,ce,cs,h.frm b,b.frD,b.fzb h.fzb⟩
 subst T;have m:((0:Int) !=0)=false:=rfl;rw[if_neg (by simp)]at hs;have aZj:(((0:Nat):Int)==0)=true:=rfl
 rcases hp with rfl|⟨rfl,rfl⟩
 case inr=>
  have f:l=[]:=by
   rcases N with⟨_,h1⟩|⟨k,ver,st,h1,_⟩
   ·exact bp.1 h1
   ·cases h1
  subst f;rw[if_pos rfl]at hs;cases hs;simp only[m,aZj,RN,F];exact⟨rfl,ce,cs,h.frm b,b.frD,b.fzb h.fzb⟩
 simp only[atO,atP,m,aJF N,U,RN,F]
 by_cases f:l=[]
 ·rw[if_pos f]at hs
  cases hs;simp only[f,am,aZj,RN,F];exact⟨rfl,ce,cs,h.frm b,b.frD,b.fzb h.fzb⟩
 rw[if_neg f]at hs;have X:((l.length:Int)==0)=false:=by cases l with|nil=>exact absurd rfl f|cons a l=>simp;omega
 split at hs
 case isFalse=>cases hs
 rename_i V
 simp only[Y,au,decide_eq_true_eq,aYb]at V;cases hs
 rcases N with⟨_,h1⟩|⟨k,ver,st,rfl,h1,_⟩
 ·exact absurd (bp.1 h1) f
 simp only[X,RN,F];refine aE6 h1 (by simpa only[az]using aKG l V.2 V.1) rfl ?_;(try simp only[RN]);exact⟨ce,cs,h.frm b,b.frD,b.fzb h.fzb⟩
end Go.Tel
namespace Go.Am
section
variable {C:Ctx}{base:Nat}{M:Mem}{K:PV->Mem->Prop}{KP:DV->Mem->Prop}
variable{s:ByteArray}
def aFH {k:IntKind}{n:Int}(a:0<=n)(h1:n<=s.size):anG C base (.aCO false true) [.d (.str s), .d (.int k n)] M K KP=K (.d (.str (s.extract 0 n.toNat))) M:=by
 simp only[anG,avN,aoS,aq,aK];exact propext ⟨fun h=>h.2.2.2.2.2,fun h=>⟨trivial,trivial,bL _,a,h1,h⟩⟩
def aFI {k:IntKind}{n:Int}(a:0<=n)(h1:n<=s.size):anG C base (.aCO true false) [.d (.str s), .d (.int k n)] M K KP=K (.d (.str (s.extract n.toNat s.size))) M:=by
 simp only[anG,avN,aoS,aq,aK,ap];exact propext ⟨fun h=>h.2.2.2.2.2,fun h=>⟨trivial,trivial,a,h1,bL _,h⟩⟩
end
end Go.Am
namespace Go.Tel
open Go.Am
def aJT (s:ByteArray):Pure C 212 [.str s, .int .u8 10] (pI (Go.Lib.indexByte s.data.toList 10)) []:=by
 refine atb fun X w a d f c=> ?_
 cases c with|cons h1 t1=>
 cases t1 with|cons b t2=>
 cases t2;cases h1;cases b;refine(Go.Proofs.Any.strings_IndexByte Go.Proofs.Tryz.laysIndexB s 10 w).mono ?_;rintro e g ⟨rfl,rfl⟩;exact⟨_,rfl,Later.refl _, .int _ _⟩
def ayX (s:ByteArray):Bool:=decide (1<=s.size)&&((s.extract (s.size - 1) s.size).toList==(⟨#[10]⟩:ByteArray).toList)
def aoy (s:ByteArray):ByteArray:=if ayX s then s.extract 0 (s.size - 1)else s
def aJE:(⟨#[10]⟩:ByteArray).size=1:=rfl
variable{s:ByteArray}
def aKt (hs:s.size<=1000000):Pure C 210 [.str s, .str ⟨#[10]⟩] (.d (.bool (ayX s))) []:=by
 refine am6 aqI anO ?_;have b:cv .i64 ((s.size:Int) - ((1:Nat):Int))=(s.size:Int) - 1:=by rw[anI (by omega)];omega
 unfold ayX
 by_cases h:1<=s.size
 ·have a:decide (((1:Nat):Int)<=(s.size:Int))=true:=by simp;omega
  have hd:decide (1<=s.size)=true:=by simp[h]
  have c:(0:Int)<=(s.size:Int) - 1:=by omega
  have e:(s.size:Int) - 1<=(s.size:Int):=by omega
  have f:((s.size:Int) - 1).toNat=s.size - 1:=by omega
  simp only[aqI,anO,aJE,a,hd,b,aFI c e,f,apu,aCU,aI,RN,F,H]
 ·have a:decide (((1:Nat):Int)<=(s.size:Int))=false:=by simp;omega
  have hd:decide (1<=s.size)=false:=by simp[h]
  simp only[aqI,anO,aJE,a,hd,bq,RN,F,H]
def aSb (hs:s.size<=1000000):Pure C 115 [.str s, .str ⟨#[10]⟩] (.d (.bool (ayX s))) []:=by
 refine am6 avc anO ?_;simp only[avc,anO,RN,F,H];refine anE (aKt hs) ?_;(try simp only[])
def aQV (hs:s.size<=1000000):Pure C 215 [.str s, .str ⟨#[10]⟩] (.d (.str (aoy s))) []:=by
 refine am6 asL anO ?_;simp only[asL,anO,RN,F,H];refine anE (aKt hs) ?_;have a:cv .i64 ((s.size:Int) - ((1:Nat):Int))=(s.size:Int) - 1:=by rw[anI (by omega)];omega
 unfold aoy;cases h:ayX s
 ·(try simp only[RN,F])
  simp
 ·have:1<=s.size:=by unfold ayX at h;simp only[Y,decide_eq_true_eq]at h;exact h.1
  have b:(0:Int)<=(s.size:Int) - 1:=by omega
  have c:(s.size:Int) - 1<=(s.size:Int):=by omega
  have e:((s.size:Int) - 1).toNat=s.size - 1:=by omega
  simp only[aJE,a,aFH b c,e,RN,F];simp
def aQU (hs:s.size<=1000000):Pure C 118 [.str s, .str ⟨#[10]⟩] (.d (.str (aoy s))) []:=by
 refine am6 auB anO ?_;simp only[auB,anO,RN,F,H];refine anE (aQV hs) ?_;(try simp only[])
def av4:List UInt8->List (List UInt8)
 | []=>[]
 |b::l=>if b==10 then[b]::av4 l else match av4 l with| []=>[[b]]|x::a=>(b::x)::a
def aF7:∀(l:List UInt8),(Go.Lib.indexByte l 10= -1/\(l=[]\/av4 l=[l]))\/∃i:Nat,Go.Lib.indexByte l 10=(i:Int)/\i<l.length/\av4 l=l.take (i+1)::av4 (l.drop (i+1))
 | []=> .inl ⟨rfl, .inl rfl⟩
 |b::l=>by
  rw[Go.Lib.indexByte,av4]
  by_cases a:(b==10)=true
  ·rw[if_pos a,if_pos a]
   exact .inr ⟨0,rfl,by simp,rfl⟩
  rw[if_neg a,if_neg a]
  rcases aF7 l with⟨h1,h2⟩|⟨i,h1,h2,c⟩
  ·refine .inl ⟨by simp[h1], .inr ?_⟩
   rcases h2 with rfl|h2
   ·rfl
   ·rw[h2]
  ·refine .inr ⟨i+1,?_,by simpa using h2,by rw[c];simp⟩
   rw[if_neg (by rw[h1];simp),h1];omega
def aqa (s:ByteArray):List ByteArray:=(av4 s.data.toList).map fun l=>⟨l.toArray⟩
def ato (s:ByteArray):List DV:=[.str s]
def aNa (s:ByteArray)(hs:0<s.size):(Go.Lib.indexByte s.data.toList 10= -1/\aqa s=[s])\/∃i:Nat,Go.Lib.indexByte s.data.toList 10=(i:Int)/\i<s.size/\aqa s=s.extract 0 (i+1)::aqa (s.extract (i+1) s.size):=by
 have a:s.data.toList.length=s.size:=aJ
 rcases aF7 s.data.toList with⟨h1,h2⟩|⟨i,h1,h2,b⟩
 ·refine .inl ⟨h1,?_⟩
  rcases h2 with h2|h2
  ·rw[h2]at a;simp at a;omega
  ·unfold aqa;rw[h2];simp
 ·refine .inr ⟨i,h1,by omega,?_⟩
  unfold aqa;rw[b,aj];have e1:(s.extract 0 (i+1)).data.toList=s.data.toList.take (i+1):=by simp[bD]
  have e2:(s.extract (i+1) s.size).data.toList=s.data.toList.drop (i+1):=by
   simp only[bD,Array.toList_extract,List.extract_eq_take_drop,<-a];rw[bE (by simp)]
  rw[e2,<-e1]
def aWX (s:ByteArray)(c:Nat)(M:Mem):Prop:=M.boxes[c]?=some (some [.d (.str s)])/\c∉M.fz
def aL4 (s:ByteArray)(c:Nat)(hs:s.size<=1000000):aHE C 211 [] [.ptr c 0] ((aqa s).map ato) (·=c) (·=c) no (aWX s c):=by
 rintro⟨bs,fz,ar⟩ b n R stop K KP ab ac Z B N M aq9 y f A;simp only at Z B;obtain⟨Y,z⟩:=N;simp only at Y z;refine anJ awo apc ?_;simp only[awo,apc,RN,H];refine axE (fun m st=>∃(t:ByteArray) (a:List (List DV)) (x:Mem) (U:List (Nat×PV)),m=t.size/\t.size<=s.size/\st=⟨(0, .asz b)::(1, .ptr c 0)::U,x⟩/\n<=x.boxes.length/\FzB x/\aWX t c x/\(aqa s).map ato=a++(aqa t).map ato/\R a x)
  s.size ⟨s,[],_,[],rfl,aH _,rfl,Z,B,⟨Y,z⟩,rfl,y⟩ ?_
 rintro m st ⟨t,a,⟨g,r,q⟩,U,rfl,ht,rfl,u,D,⟨e,aU6⟩,k,X⟩;simp only at u e aU6;have j:c<g.length:=(ah.1 e).1
 by_cases y:0<t.size
 case neg=>
  have I:decide ((t.size:Int)>0)=false:=decide_eq_false (by omega);simp only[e,I,RN,F,Q];refine A _ _ u ?_;have:t.data.toList=[]:=List.length_eq_zero_iff.1 (by have:t.data.toList.length=t.size:=aJ;omega);have e0:aqa t=[]:=by unfold aqa;rw[this];rfl
  rw[k,e0,aC,aF];exact X
 have I:decide ((t.size:Int)>0)=true:=decide_eq_true (by omega);have aOn:∀(l o:ByteArray),aqa t=l::aqa o->o.size<t.size->SY C b [.d (.str l)] ⟨g.set c (some [.d (.str o)]),r,q⟩
   (fun p w=>n<=w.boxes.length/\FzB w/\aWX o c w/\((p= .d (.bool true)/\(aqa s).map ato=(a++ [ato l])++(aqa o).map ato/\R (a++ [ato l]) w)\/(p= .d (.bool false)/\stop w))) KP:=by
  intro l o hl ae;have a0q:Moved n (·=c) ⟨g,r,q⟩ ⟨g.set c (some [.d (.str o)]),r,q⟩:=Moved.set (.inr rfl);have aWG:(aqa s).map ato=a++ato l::(aqa o).map ato:=by rw[k,hl];rfl
  refine SY.mono (aq9 a (ato l) _ _ aWG (by simpa using u) (M a _ _ a0q X)) ?_;rintro p E ⟨G,hp⟩;have L:=G.len;simp only[bI]at L;refine⟨by omega,G.fzb D.set,⟨?_,?_⟩,?_⟩
  ·rw[G.box c (.inr rfl) (by simpa using j)];simp[j]
  ·exact fun h=>aU6 ((G.fz c (.inr rfl) (by simpa using j)).1 h)
  ·rcases hp with⟨rfl,h⟩|h
   ·exact .inl ⟨rfl,by rw[aWG,bc];rfl,h⟩
   ·exact .inr h
 simp only[e,I,RN,F,Q];refine anE (aJT t) ?_
 rcases aNa t y with⟨V,W⟩|⟨i,V,W,g3⟩
 ·have J:decide (Go.Lib.indexByte t.data.toList 10>=0)=false:=decide_eq_false (by omega)
  simp only[e,J,aU6,RN,F,Q];refine axe ?_;refine SY.mono (aOn t ⟨#[]⟩ (by rw[W];rfl) y) ?_;rintro p E ⟨O,P,S,⟨rfl,v,T⟩|⟨rfl,v⟩⟩
  ·(try simp only[RN,F])
   exact⟨0,_,y, .inl rfl,⟨#[]⟩,_,E,_,rfl,aw _,rfl,O,P,S,v,T⟩
  ·(try simp only[RN,F])
   exact f _ _ v
 ·have J:decide ((i:Int)>=0)=true:=decide_eq_true (by omega)
  have w1:cv .i64 ((i:Int)+1)=(i:Int)+1:=by rw[anI (by omega)]
  have x1:(0:Int)<=(i:Int)+1:=by omega
  have x2:(i:Int)+1<=(t.size:Int):=by omega
  have x3:((i:Int)+1).toNat=i+1:=by omega
  have x4:(t.extract (i+1) t.size).size<t.size:=by simp;omega
  rw[V];simp only[e,j,J,aU6,w1,aFH x1 x2,aFI x1 x2,x3,RN,F,Q];refine axe ?_;refine SY.mono (aOn _ _ g3 x4) ?_;rintro p E ⟨O,P,S,⟨rfl,v,T⟩|⟨rfl,v⟩⟩
  ·(try simp only[RN,F])
   exact⟨_,_,x4, .inl rfl,_,_,E,_,rfl,by omega,rfl,O,P,S,v,T⟩
  ·(try simp only[RN,F])
   exact f _ _ v
def aQ8 (s:ByteArray){bs:List (Option (List PV))}{fz:List Nat}{ar:List (Option Arr)}{KP:DV->Mem->Prop}:
  SC C 116 [.d (.str s)] ⟨bs,fz,ar⟩ (fun p M'=>p= .func (.func 211) [] [.ptr bs.length 0]/\M'=⟨bs++ [some [.d (.str s)]],fz,ar⟩) KP:=by
 refine anJ axw anN ?_;simp only[axw,anN,anZ,aoo,arl,RN,F]
def nlB:ByteArray:=⟨#[10]⟩
def awI:Dk->List ByteArray->ByteArray->Option (Dk×ByteArray)
 |D,[],out=>some (D,out)
 |D,l::ls,out=>match D.said (aoy l)with|none=>none|some q=>awI q.1 ls (out++(q.2++nlB))
def aDb:∀(l1 l2:List ByteArray) (D:Dk) (out:ByteArray),awI D (l1++l2) out=match awI D l1 out with|none=>none|some q=>awI q.1 l2 q.2
 | [],l2,D,out=>rfl
 |l::ls,l2,D,out=>by
  rw[aV,awI,awI];cases D.said (aoy l)with
  |none=>rfl
  |some q=>exact aDb ls l2 _ _
def FrD.kept {d n c:Nat}{ce cs ce' cs':PV}{M M':Mem}(h:FrD d ce cs ce' cs' M M')(hf:FzB M->FzB M')(hd:d<n)(hc:d≠c):Kept n (·=c) no M M':=
 ⟨h.len,h.aoc,fun i a b=>h.box i b (fun e=>a.elim (fun a=>by omega) fun a=>hc (by rw[<-e];exact a)),fun i _ b=>h.fz i b,fun _ h=>h.elim,hf⟩
def aNb (s:ByteArray):(aqa s).length<=s.size:=by
 have:∀l:List UInt8,(av4 l).length<=l.length:=by
  intro l
  induction l with
  |nil=>exact aH _
  |cons b l a=>
   rw[av4]
   split
   ·simpa using a
   ·split
    ·simp
    ·rename_i h;rw[h]at a;simp at a⊢;omega
 unfold aqa;rw[U];have h1:=this s.data.toList;have:s.data.toList.length=s.size:=aJ;omega
def ax0:∀(l:List UInt8) (x:List UInt8),x∈av4 l->x.length<=l.length
 | [],x,h=>by cases h
 |b::l,x,h=>by
  rw[av4]at h
  split at h
  ·rcases ai.1 h with rfl|h
   ·simp
   ·have:=ax0 l x h;simp;omega
  ·split at h
   ·simp at h;subst h;simp
   ·rename_i y c a
    rcases ai.1 h with rfl|h
    ·have:=ax0 l y (by rw[a];simp);simp;omega
    ·have:=ax0 l x (by rw[a];simp[h]);simp;omega
def aNc {x:ByteArray}(h:x∈aqa s):x.size<=s.size:=by
 simp only[aqa,aA]at h;obtain⟨l,a,rfl⟩:=h;have:=ax0 _ _ a;have e:s.data.toList.length=s.size:=aJ;simp only[ck,b3]at e⊢;rw[<-e];exact this
def aJ9 (s:ByteArray):(aoy s).size<=s.size:=by
 unfold aoy
 split
 ·simp
 ·exact aH _
def aUf (s:Su)(a:ByteArray)(pre:List (List DV))(b:Mem):Prop:=
 ∃ls e D c cs o,aqa a=ls++e/\pre=ls.map ato/\awI ⟨s,[],[]⟩ ls ⟨#[]⟩=some (D,o)/\aqR D 4 c cs b/\D.Ok/\b.boxes[1]?=some (some [.ptr 4 0])/\b.boxes[5]?=some (some [.d (.str o)])/\5∉b.fz/\o.size<=30001*ls.length
def aUf.moved {s:Su}{a:ByteArray}{pre:List (List DV)}{d f:Mem}{n:Nat}(h:aUf s a pre d)(r:6<=n)(b:Moved n (·=6) d f):aUf s a pre f:=by
 obtain⟨ls,q,D,g,cs,o,h1,h2,i,c,j,k,l,m,p⟩:=h;refine⟨ls,q,D,g,cs,o,h1,h2,i,?_,j,(b.box 1 (by omega) (by simp)).trans k,(b.box 5 (by omega) (by simp)).trans l,fun e=>m ((b.fz 5 (by omega) (by simp)).1 e),p⟩;exact⟨⟨(b.box 4 (by omega) (by simp)).trans c.box,by rw[b.anK];exact c.ent,by rw[b.anK];exact c.str⟩,c.dif,fun e=>c.nb ((b.fz 4 (by omega) (by simp)).1 e),b.fzb c.fzb⟩
def aO1 (s:Su)(hs:s.Small)(K:s.ok=true){a out:ByteArray}(hl:a.size<=1500)(G:(a.toList==(⟨#[]⟩:ByteArray).toList||ayX a)=true){D':Dk}(b:awI ⟨s,[],[]⟩ (aqa a) ⟨#[]⟩=some (D',out)):
  Pure C 40 [s.dv, .str a] (.d (.tup [.str out,dI 0])) []:=by
 refine am6 auv aoj ?_;rw[aoB];simp only[auv,aoj,RN,F,H,Q];have hO:=fun X KP=>aUg s hs [X,none] [0] [] KP (by simp)
 rw[aoB]at hO;refine SC.aqk (SC.mono (hO _ (fun _ _=>False)) ?_) (fun _ _ h=>h);rintro p M' (⟨h,_⟩|⟨_,rfl,x1,x2,rfl⟩)
 ·rw[K]at h;cases h
 have z1:((0:Int) !=0)=false:=rfl;have z2:decide ((a.size:Int)>1500)=false:=decide_eq_false (by omega);simp only[atO,atP,arw,z1,z2,apu,aJI,axa,aFh,RN,F,H,J,Q];have a0u:(a.toList==(⟨#[]⟩:ByteArray).toList)=false->ayX a=true:=fun h=>by rw[h]at G;exact G
 cases aq:(a.toList==(⟨#[]⟩:ByteArray).toList)
 all_goals first
  |(simp only[RN,F,H,J,Q];refine aoQ rfl rfl (aSb (by omega)) ?_;rw[a0u aq])
  |skip
 all_goals simp only[arw,RN,F,H,J,Q]
 all_goals refine SC.aqk (SC.mono (aQ8 a (KP:=fun _ _=>False)) ?_) (fun _ _ h=>h)
 all_goals rintro p M' ⟨rfl,rfl⟩
 all_goals(try simp only[RN,H])
 all_goals(
  refine atq (aL4 a 6 (by omega)) (fun _ h=>h) rfl (by kernel_rfl) (fun i A=>by simp at A;simp;omega) (fun x t=>by obtain⟨y,_,rfl⟩:=aA.1 t;rfl) (fun i A=>by subst A;simp) (fun M' T=>⟨(T.box 6 (by simp) id).trans rfl,fun e=>by have:=(T.fz 6 (by simp) id).1 e;simp at this⟩)
   (aUf s a) (fun au M1 M2 T h=>h.moved (by simp) T) ⟨[],aqa a,⟨s,[],[]⟩,_,_,_,rfl,rfl,rfl,⟨⟨rfl, .inl ⟨rfl,rfl⟩, .inl ⟨rfl,rfl⟩⟩,(by intro k hk;cases hk),by simp,by intro i A;simp at A;simp;omega⟩,⟨K,rfl,aw _,fun x h=>(by cases h),fun x h=>(by cases h)⟩,rfl,rfl,by simp,aw _⟩ ?_ ?_
  ·rintro L cells au x av ⟨g,ac,Y⟩ t r l E ⟨ls,U,D,ce,cs,o,h1,h2,R,h4,h5,w,n,S,h9⟩ M0
   simp only[ae,am]at r l E w n S⊢;obtain⟨y,f,rfl,rfl⟩:∃y f,U=y::f/\x=ato y:=by
    rw[h1,h2,ax]at t;have t:=a8 t;cases U with
    |nil=>cases t
    |cons y f=>exact⟨y,f,rfl,(List.cons.inj t).1.symm⟩
   rw[h1,aDb,R]at b;simp only[awI]at b;cases c:D.said (aoy y)with
   |none=>rw[c]at b;cases b
   |some q=>
   obtain⟨D2,V⟩:=q;have hy:y.size<=a.size:=aNc (by rw[h1];simp);have B:=aNb a;rw[h1]at B;simp only[W,ae]at B;have aB:=aJ9 y;have az:=aQF c;have j:5<g.length:=by omega
   have v:1<g.length:=by omega
   simp only[ato,bw,bA,aj,aC,w,n,v,RN,F,H,Q];refine aoQ rfl rfl (aQU (by omega)) ?_;(try simp only[RN,F,H,I,J,N,Q]);refine aUw n (by simp) ?_;refine SC.aqk (SC.mono (aO8 h4 h5 (by omega) c (KP:=fun _ _=>False)) ?_) (fun _ _ h=>h.elim);rintro p ⟨u,ah,ay⟩ ⟨rfl,Z,ab,P,m,q3⟩;have ai:u[5]?=some (some [.d (.str o)]):=(m.box 5 j (by decide)).trans n;have ak:=m.len;simp only at ak;have aZ0:5<u.length:=by omega
   have z:¬5∈ah:=fun e=>S ((m.fz 5 j).1 e)
   refine⟨m.box 5 j (by decide),?_⟩;have M:V.size+nlB.size<=9223372036854775807:=by have:nlB.size=1:=rfl;omega
   have O:o.size+(V++nlB).size<=9223372036854775807:=by have:nlB.size=1:=rfl;rw[aR];omega
   rw[nlB]at M O;simp only[apu,aqQ,M,O,ai,z,auW,RN,H,Q];refine⟨by rw[ao (by decide)];exact(m.box 7 (by simp only;omega) (by decide)).trans l,fun e=>E ((m.fz 7 (by simp only;omega)).1 e),(FrD.kept m (fun _=>q3) (by decide) (by decide)).set2 (by decide) (by decide),ls++ [y],f,D2,Z,ab,o++(V++nlB),by rw[h1];simp,by rw[h2];simp[ato],?_,
    ⟨⟨by simp only;rw[ao (by decide)];exact P.box,P.ent,P.str⟩,P.dif,P.nb,q3.set⟩,aV9 h5 c,?_,by simp[aZ0];rfl,z,?_⟩
   ·rw[aDb,R]
    simp only[awI,c]
   ·simp only;rw[ao (by decide)];exact(m.box 1 v (by decide)).trans w
   ·have:nlB.size=1:=rfl
    simp only[aR,W,ae,am];omega
  ·rintro⟨g,ac,Y⟩ ⟨ls,U,D,ce,cs,o,h1,h2,R,h4,h5,w,n,S,h9⟩ r
   simp only[ae,am]at r w n S;have ap:U=[]:=by
    have:=congrArg aT h2;rw[h1]at this;simp at this;exact this
   subst ap;rw[h1,aF,R]at b;cases b;have j:5<g.length:=by omega
   simp only[n,RN,F,Q])
def arh:Su:=⟨⟨[⟨0,⟨10,20⟩⟩,⟨1,⟨12,18⟩⟩,⟨1,⟨15,10⟩⟩],[2,3]⟩,[⟨1,3⟩,⟨1499,2000⟩],100,⟨40,[15,21,27]⟩,⟨0,[4]⟩,⟨59,2,0⟩,[⟨true,0,0,0⟩,⟨false,1,6,0⟩],1,3,6,4,10⟩
def aJB:ByteArray:=⟨#[104,97,110,100,115,10,111,114,100,101,114,32,48,32,50,32,53,10,111,114,100,101,114,32,48,32,49,32,50,10,110,101,101,100,32,48,32,49,48,32,50,48,10,110,101,101,100,32,49,32,49,48,32,50,48,10,99,104,97,110,103,101,32,49,32,49,50,32,49,53,10,99,117,116,32,51,55,10,99,117,116,32,49,53,10,115,116,111,99,107,10,99,104,97,110,103,101,32,49,32,49,50,32,49,53,10,115,116,111,99,107,10,112,114,105,99,101,32,48,10,115,101,114,118,101,32,48,32,53,54,10,115,101,114,118,101,32,48,32,53,55,10,111,112,101,110,10,99,111,105,110,115,10,111,102,102,32,49,32,57,10,111,102,102,32,49,32,49,48,10,119,114,111,110,103,10,115,101,116,32,54,10,115,101,116,32,57,10,115,101,116,32,56,10,115,101,116,32,56,10,119,111,114,107,115,32,57,10,100,97,116,101,32,52,48,10,119,114,111,110,103,10,99,117,116,115,32,51,54,10,115,116,114,105,107,101,32,49,10,115,116,114,105,107,101,32,52,10,115,116,114,105,107,101,32,51,10,99,111,105,110,115,10,111,112,101,110,10,115,116,97,110,100,115,10,115,116,114,105,107,101,32,48,10,115,116,114,105,107,101,32,57,10,115,101,114,118,101,32,48,10]⟩
def aBo:ByteArray:=⟨#[49,32,51,32,51,32,52,10,110,111,116,101,100,10,101,114,114,111,114,32,55,10,49,32,49,50,32,49,53,10,101,114,114,111,114,32,55,10,101,114,114,111,114,32,55,10,101,114,114,111,114,32,55,10,110,111,116,101,100,10,49,53,10,110,111,116,101,100,10,49,56,10,53,55,10,101,114,114,111,114,32,55,10,110,111,116,101,100,10,110,111,116,104,105,110,103,10,53,55,10,57,55,10,49,48,56,10,51,53,54,10,101,114,114,111,114,32,55,10,101,114,114,111,114,32,55,10,110,111,116,101,100,10,101,114,114,111,114,32,55,10,49,48,10,50,32,57,10,51,52,56,10,50,32,49,32,51,10,101,114,114,111,114,32,55,10,110,111,116,101,100,10,110,111,116,101,100,10,48,10,48,32,50,32,53,10,48,32,49,32,50,10,101,114,114,111,114,32,55,10,101,114,114,111,114,32,50,10,101,114,114,111,114,32,52,10]⟩
def an2 {D D':Dk}{l a out:ByteArray}{ls:List ByteArray}{r:Option (Dk×ByteArray)}(h:D.said (aoy l)=some (D',a))(b:awI D' ls (out++(a++nlB))=r):awI D (l::ls) out=r:=by
 rw[awI,h];exact b
def lsK:List ByteArray:=[⟨#[104,97,110,100,115,10]⟩,⟨#[111,114,100,101,114,32,48,32,50,32,53,10]⟩,⟨#[111,114,100,101,114,32,48,32,49,32,50,10]⟩,⟨#[110,101,101,100,32,48,32,49,48,32,50,48,10]⟩,⟨#[110,101,101,100,32,49,32,49,48,32,50,48,10]⟩,⟨#[99,104,97,110,103,101,32,49,32,49,50,32,49,53,10]⟩,⟨#[99,117,116,32,51,55,10]⟩,⟨#[99,117,116,32,49,53,10]⟩,⟨#[115,116,111,99,107,10]⟩,⟨#[99,104,97,110,103,101,32,49,32,49,50,32,49,53,10]⟩,⟨#[115,116,111,99,107,10]⟩,⟨#[112,114,105,99,101,32,48,10]⟩,⟨#[115,101,114,118,101,32,48,32,53,54,10]⟩,⟨#[115,101,114,118,101,32,48,32,53,55,10]⟩,⟨#[111,112,101,110,10]⟩,⟨#[99,111,105,110,115,10]⟩,⟨#[111,102,102,32,49,32,57,10]⟩,⟨#[111,102,102,32,49,32,49,48,10]⟩,⟨#[119,114,111,110,103,10]⟩,⟨#[115,101,116,32,54,10]⟩,⟨#[115,101,116,32,57,10]⟩,⟨#[115,101,116,32,56,10]⟩,⟨#[115,101,116,32,56,10]⟩,⟨#[119,111,114,107,115,32,57,10]⟩,⟨#[100,97,116,101,32,52,48,10]⟩,⟨#[119,114,111,110,103,10]⟩,⟨#[99,117,116,115,32,51,54,10]⟩,⟨#[115,116,114,105,107,101,32,49,10]⟩,⟨#[115,116,114,105,107,101,32,52,10]⟩,⟨#[115,116,114,105,107,101,32,51,10]⟩,⟨#[99,111,105,110,115,10]⟩,⟨#[111,112,101,110,10]⟩,⟨#[115,116,97,110,100,115,10]⟩,⟨#[115,116,114,105,107,101,32,48,10]⟩,⟨#[115,116,114,105,107,101,32,57,10]⟩,⟨#[115,101,114,118,101,32,48,10]⟩]
def aVm:aqa aJB=lsK:=by kernel_rfl
def kd0:Dk:=⟨arh,[],[]⟩
def kd1:Dk:=⟨arh,[⟨3,[0,2,5]⟩],[false]⟩
def kd2:Dk:=⟨arh,[⟨3,[0,2,5]⟩,⟨1,[15]⟩],[false,false]⟩
def kd3:Dk:=⟨arh,[⟨3,[0,2,5]⟩,⟨1,[15]⟩,⟨2,[1,12,15]⟩],[false,false,false]⟩
def kd4:Dk:=⟨arh,[⟨3,[0,2,5]⟩,⟨1,[15]⟩,⟨2,[1,12,15]⟩,⟨4,[0,57]⟩],[false,false,false,false]⟩
def kd5:Dk:=⟨arh,[⟨3,[0,2,5]⟩,⟨1,[15]⟩,⟨2,[1,12,15]⟩,⟨4,[0,57]⟩,⟨5,[8]⟩],[false,false,false,false,false]⟩
def kd6:Dk:=⟨arh,[⟨3,[0,2,5]⟩,⟨1,[15]⟩,⟨2,[1,12,15]⟩,⟨4,[0,57]⟩,⟨5,[8]⟩,⟨6,[4]⟩],[false,false,false,false,true,false]⟩
def kd7:Dk:=⟨arh,[⟨3,[0,2,5]⟩,⟨1,[15]⟩,⟨2,[1,12,15]⟩,⟨4,[0,57]⟩,⟨5,[8]⟩,⟨6,[4]⟩,⟨6,[3]⟩],[false,false,false,true,true,false,false]⟩
def k_1:kd0.said (aoy (lsK.getD 0 default))=some (kd0,⟨#[49,32,51,32,51,32,52]⟩):=by kernel_rfl
def k_2:kd0.said (aoy (lsK.getD 1 default))=some (kd1,⟨#[110,111,116,101,100]⟩):=by kernel_rfl
def k_3:kd1.said (aoy (lsK.getD 2 default))=some (kd1,⟨#[101,114,114,111,114,32,55]⟩):=by kernel_rfl
def k_4:kd1.said (aoy (lsK.getD 3 default))=some (kd1,⟨#[49,32,49,50,32,49,53]⟩):=by kernel_rfl
def k_5:kd1.said (aoy (lsK.getD 4 default))=some (kd1,⟨#[101,114,114,111,114,32,55]⟩):=by kernel_rfl
def k_6:kd1.said (aoy (lsK.getD 5 default))=some (kd1,⟨#[101,114,114,111,114,32,55]⟩):=by kernel_rfl
def k_7:kd1.said (aoy (lsK.getD 6 default))=some (kd1,⟨#[101,114,114,111,114,32,55]⟩):=by kernel_rfl
def k_8:kd1.said (aoy (lsK.getD 7 default))=some (kd2,⟨#[110,111,116,101,100]⟩):=by kernel_rfl
def k_9:kd2.said (aoy (lsK.getD 8 default))=some (kd2,⟨#[49,53]⟩):=by kernel_rfl
def a0E:kd2.said (aoy (lsK.getD 9 default))=some (kd3,⟨#[110,111,116,101,100]⟩):=by kernel_rfl
def a0F:kd3.said (aoy (lsK.getD 10 default))=some (kd3,⟨#[49,56]⟩):=by kernel_rfl
def a0G:kd3.said (aoy (lsK.getD 11 default))=some (kd3,⟨#[53,55]⟩):=by kernel_rfl
def a0H:kd3.said (aoy (lsK.getD 12 default))=some (kd3,⟨#[101,114,114,111,114,32,55]⟩):=by kernel_rfl
def a0I:kd3.said (aoy (lsK.getD 13 default))=some (kd4,⟨#[110,111,116,101,100]⟩):=by kernel_rfl
def a0J:kd4.said (aoy (lsK.getD 14 default))=some (kd4,⟨#[110,111,116,104,105,110,103]⟩):=by kernel_rfl
def a0K:kd4.said (aoy (lsK.getD 15 default))=some (kd4,⟨#[53,55]⟩):=by kernel_rfl
def a0L:kd4.said (aoy (lsK.getD 16 default))=some (kd4,⟨#[57,55]⟩):=by kernel_rfl
def a0M:kd4.said (aoy (lsK.getD 17 default))=some (kd4,⟨#[49,48,56]⟩):=by kernel_rfl
def a0N:kd4.said (aoy (lsK.getD 18 default))=some (kd4,⟨#[51,53,54]⟩):=by kernel_rfl
def a0O:kd4.said (aoy (lsK.getD 19 default))=some (kd4,⟨#[101,114,114,111,114,32,55]⟩):=by kernel_rfl
def a0P:kd4.said (aoy (lsK.getD 20 default))=some (kd4,⟨#[101,114,114,111,114,32,55]⟩):=by kernel_rfl
def a0Q:kd4.said (aoy (lsK.getD 21 default))=some (kd5,⟨#[110,111,116,101,100]⟩):=by kernel_rfl
def a0R:kd5.said (aoy (lsK.getD 22 default))=some (kd5,⟨#[101,114,114,111,114,32,55]⟩):=by kernel_rfl
def a0S:kd5.said (aoy (lsK.getD 23 default))=some (kd5,⟨#[49,48]⟩):=by kernel_rfl
def a0T:kd5.said (aoy (lsK.getD 24 default))=some (kd5,⟨#[50,32,57]⟩):=by kernel_rfl
def a0U:kd5.said (aoy (lsK.getD 25 default))=some (kd5,⟨#[51,52,56]⟩):=by kernel_rfl
def a0V:kd5.said (aoy (lsK.getD 26 default))=some (kd5,⟨#[50,32,49,32,51]⟩):=by kernel_rfl
def a0W:kd5.said (aoy (lsK.getD 27 default))=some (kd5,⟨#[101,114,114,111,114,32,55]⟩):=by kernel_rfl
def a0X:kd5.said (aoy (lsK.getD 28 default))=some (kd6,⟨#[110,111,116,101,100]⟩):=by kernel_rfl
def a0Y:kd6.said (aoy (lsK.getD 29 default))=some (kd7,⟨#[110,111,116,101,100]⟩):=by kernel_rfl
def a0Z:kd7.said (aoy (lsK.getD 30 default))=some (kd7,⟨#[48]⟩):=by kernel_rfl
def a00:kd7.said (aoy (lsK.getD 31 default))=some (kd7,⟨#[48,32,50,32,53]⟩):=by kernel_rfl
def a01:kd7.said (aoy (lsK.getD 32 default))=some (kd7,⟨#[48,32,49,32,50]⟩):=by kernel_rfl
def a02:kd7.said (aoy (lsK.getD 33 default))=some (kd7,⟨#[101,114,114,111,114,32,55]⟩):=by kernel_rfl
def a03:kd7.said (aoy (lsK.getD 34 default))=some (kd7,⟨#[101,114,114,111,114,32,50]⟩):=by kernel_rfl
def a04:kd7.said (aoy (lsK.getD 35 default))=some (kd7,⟨#[101,114,114,111,114,32,52]⟩):=by kernel_rfl
def aZz:awI ⟨arh,[],[]⟩ (aqa aJB) ⟨#[]⟩=some (kd7,aBo):=by
 rw[aVm];refine an2 k_1 ?_;refine an2 k_2 ?_;refine an2 k_3 ?_;refine an2 k_4 ?_;refine an2 k_5 ?_;refine an2 k_6 ?_;refine an2 k_7 ?_;refine an2 k_8 ?_;refine an2 k_9 ?_;refine an2 a0E ?_;refine an2 a0F ?_;refine an2 a0G ?_;refine an2 a0H ?_;refine an2 a0I ?_;refine an2 a0J ?_;refine an2 a0K ?_;refine an2 a0L ?_;refine an2 a0M ?_;refine an2 a0N ?_;refine an2 a0O ?_;refine an2 a0P ?_;refine an2 a0Q ?_;refine an2 a0R ?_;refine an2 a0S ?_;refine an2 a0T ?_;refine an2 a0U ?_;refine an2 a0V ?_;refine an2 a0W ?_;refine an2 a0X ?_;refine an2 a0Y ?_;refine an2 a0Z ?_;refine an2 a00 ?_;refine an2 a01 ?_;refine an2 a02 ?_;refine an2 a03 ?_;refine an2 a04 ?_
 kernel_rfl
def atA:anH:=(s0 [ba 3 0 0,mf 6 false] 1 [1,2,3] [3] (sw (sr [lw 21 17 3,mv 22 1,mv 23 2,on 24 (.anD 17) [.t 21,.t 22,.t 23],oa 25 pN 24,mv 26 25,ow 27 .mov 1 26 0,ow 28 .len 27 26 0,oF 29 pG [.t 28,kI 16] 26 0,pt 30 26 29,mv 31 30,ow 32 (.load true 17) 3 31 0,ow 33 (.anD 18) 32 31 0,ow 34 pN 33 31 0,pt 35 31 34] 0 [1,2,3,35] (cd 35 (sr [on 36 (.anD 19) [],mv 6 36] 0 [6] .ret) .skip)) (sr [lw 37 17 3,oa 38 (.atD 52) 37,al 7 0 [zs,zs,zs,z0,z0,zs,z0,zs,z0,z0,z0,zs,z0,z0,z0,z0,z0],sk 17 7 38 0] 1 [1,2,3,7] (sr [lw 40 17 7,oa 41 (.call 36) 40,mv 39 41,xa 42 0 39,xa 43 1 39,mv 8 42,mv 9 43] 0 [1,2,3,7,8,9] (sw (sr [mv 44 9,oi 45 pQ 44 0,mv 46 45,ow 47 .mov 8 46 0,oF 48 (.auJ false) [.t 47,.c (.nilPtr)] 46 0,pt 49 46 48] 0 [1,2,3,7,8,49] (cd 49 (sr [mf 6 false] 0 [6] .ret) .skip)) (sr [lw 50 17 7,oa 51 (.call 53) 50] 0 [1,2,3,8] (sr [lw 52 17 3,oa 53 (.build zd [(0,17)]) 52,al 10 0 zd,sk 19 10 53 0] 1 [1,2,8,10] (sw (sr [mi 11 0] 0 [1,2,8,10,11] (lp (sw (sr [mv 54 11,mv 55 1,oa 56 .len 55,ob 57 pL 54 56] 0 [1,2,8,10,11,57] (cx 57 0)) (sw (b1 (sw (r1 [mv 60 1,mv 61 11,ob1 62 (.anU 2) 60 61 1,fu 63 0 62 1,lv 64 63,mv 65 1,mv 66 11,ob1 67 (.anU 2) 65 66 1,fu 68 1 67 1,lv 69 68,on 70 (.aHi 1) [cS,.t 69],ob 71 (.build [z0,zs] [(0,1),(1,1)]) 64 70,al 12 0 [z0,zs],sk 2 12 71 4] 1 [1,2,8,10,11,12] []) (sw (r1 [ou 72 (.load true 19) 10 2,mv 73 1,mv 74 11,ob1 75 (.anU 2) 73 74 1,ou 76 (.load true 2) 75 1,ob 77 (.anD 50) 72 76,mv 13 77] 0 [1,2,8,10,11,12,13] []) (sw (sr [mv 78 8,lw 79 2 12,ob 80 (.call 38) 78 79,mv 81 13,ob 82 pQ 80 81] 0 [1,2,8,10,11,12,13,82] (cd 82 (sr [mf 6 false] 0 [6] .ret) .skip)) (sw (sr [mv 83 13,oi 84 pE 83 0] 0 [1,2,8,10,11,12,84] (cd 84 (r1 [ou 85 (.load true 19) 10 2,mv 86 1,mv 87 11,ob1 88 (.anU 2) 86 87 1,ou 89 (.load true 2) 88 1,ob 90 (.anD 51) 85 89,sk 19 10 90 0] 0 [1,2,8,10,11,12] []) .skip)) (sr [mi 14 0] 0 [1,2,8,10,11,12,14] (.block 2 (.loop (sw (sr [mv 91 14,fa 92 1 12,lo 93 92,oa 94 .len 93,ob 95 pL 91 94] 0 [1,2,8,10,11,12,14,95] (cx 95 2)) (sw (.block 3 (rg [fa 98 1 12,lo 99 98,mv 100 14,ix 101 1 99 100,os (.store 1) [.t 101,kI 99] 0] 0 [1,2,8,10,11,12,14])) (rg [mv 96 14,oi 97 pA 96 1,mv 14 97] 0 [1,2,8,10,11,12,14]))))))))))) (rg [mv 58 11,oi 59 pA 58 1,mv 11 59] 0 [1,2,8,10,11]))))) (sw (sr [mi 15 0] 0 [2,8,10,15] (.block 4 (.loop (sw (sr [mv 102 15,mv 103 2,oa 104 .len 103,ob 105 pL 102 104] 0 [2,8,10,15,105] (cx 105 4)) (sw (.block 5 (sr [mv 109 8,mv 110 2,mv 111 15,ix 112 2 110 111,lw 113 2 112,ob 114 (.call 21) 109 113,mv 108 114,xa 115 0 108,xa 116 1 108,mv 16 115,mv 17 116] 0 [2,8,10,15,16,17] (sw (r1 [ou 118 (.load true 19) 10 2,mv 119 2,mv 120 15,ob1 121 (.anU 2) 119 120 1,ou 122 (.load true 2) 121 1,ob 123 (.anD 54) 118 122,mv 117 123,xa 124 0 117,xa 125 1 117,mv 18 124,mv 19 125] 0 [2,8,10,15,16,17,18,19] []) (sw (sr [mv 126 17,mv 127 19,ob 128 pQ 126 127,mv 129 128,ow 130 .mov 16 129 0,ow 131 .mov 18 129 0,obF 132 (.apl 23) 130 131 129 0,ow 133 pN 132 129 0,pt 134 129 133] 0 [2,8,10,15,16,134] (cd 134 (sr [mf 6 false] 0 [6] .ret) .skip)) (sr [mi 20 0] 0 [2,8,10,15,16,20] (.block 6 (.loop (sw (sr [mv 135 20,mv 136 16,oa 137 .len 136,ob 138 pL 135 137] 0 [2,8,10,15,16,20,138] (cx 138 6)) (sw (.block 7 (rg [mv 141 16,mv 142 20,ix 143 1 141 142,os (.store 1) [.t 143,kI (-7)] 0] 0 [2,8,10,15,16,20])) (rg [mv 139 20,oi 140 pA 139 1,mv 20 140] 0 [2,8,10,15,16,20])))))))))) (rg [mv 106 15,oi 107 pA 106 1,mv 15 107] 0 [2,8,10,15])))))) (sr [mv 144 8,lw 145 19 10,mv 146 2,on 147 (.call 49) [.t 144,.t 145,.t 146],mv 148 147,ot 149 (.anD 19) [] 148 0,pf 150 148 149,mv 6 150] 0 [6] .ret))))))))))
def aB1:anH:=(s0 [ba 3 0 0,mf 6 false] 1 [1,2,3] [3] (sw (sr [mi 7 0] 0 [1,2,3,7] (lp (sw (sr [mv 9 7,mv 10 1,oa 11 .len 10,ob 12 pL 9 11,mv 13 12,ov 14 .mov 7 13 0,ot 15 pL [.t 14,kI 27] 13 0,pf 16 13 15] 0 [1,2,3,7,16] (cx 16 0)) (sw (b1 (sr [mv 19 1,mv 20 7,ix 21 2 19 20,fa 22 1 21,lo 23 22,oa 24 .len 23,oi 25 pG 24 6] 0 [1,2,3,7,25] (cd 25 (sr [mf 6 false] 0 [6] .ret) .skip))) (rg [mv 17 7,oi 18 pA 17 1,mv 7 18] 0 [1,2,3,7]))))) (sw (sr [mi 8 0] 0 [1,2,3,8] (.block 2 (.loop (sw (sr [mv 26 8,mv 27 2,oa 28 .len 27,ob 29 pL 26 28,mv 30 29,ov 31 .mov 8 30 0,ot 32 pL [.t 31,kI 11] 30 0,pf 33 30 32] 0 [1,2,3,8,33] (cx 33 2)) (sw (.block 3 (sr [mv 36 2,mv 37 8,ix 38 2 36 37,fa 39 1 38,lo 40 39,oa 41 .len 40,oi 42 pG 41 6] 0 [1,2,3,8,42] (cd 42 (sr [mf 6 false] 0 [6] .ret) .skip))) (rg [mv 34 8,oi 35 pA 34 1,mv 8 35] 0 [1,2,3,8])))))) (sr [lw 43 17 3,oa 44 (.anD 39) 43,mv 45 44,ov 46 .mov 1 45 0,ov 47 .len 46 45 0,ot 48 (.bin .leq) [.t 47,kI 26] 45 0,pf 49 45 48,mv 50 49,ov 51 .mov 2 50 0,ov 52 .len 51 50 0,ot 53 (.bin .leq) [.t 52,kI 10] 50 0,pf 54 50 53,mv 6 54] 0 [6] .ret))))
def aB2:anH:=(sr [mf 0 false] 0 [] (sr [on 4 (.anD 68) [],oc 5 (.anD 40) 4 (.c (.str ⟨#[104,97,110,100,115,10,111,114,100,101,114,32,48,32,50,32,53,10,111,114,100,101,114,32,48,32,49,32,50,10,110,101,101,100,32,48,32,49,48,32,50,48,10,110,101,101,100,32,49,32,49,48,32,50,48,10,99,104,97,110,103,101,32,49,32,49,50,32,49,53,10,99,117,116,32,51,55,10,99,117,116,32,49,53,10,115,116,111,99,107,10,99,104,97,110,103,101,32,49,32,49,50,32,49,53,10,115,116,111,99,107,10,112,114,105,99,101,32,48,10,115,101,114,118,101,32,48,32,53,54,10,115,101,114,118,101,32,48,32,53,55,10,111,112,101,110,10,99,111,105,110,115,10,111,102,102,32,49,32,57,10,111,102,102,32,49,32,49,48,10,119,114,111,110,103,10,115,101,116,32,54,10,115,101,116,32,57,10,115,101,116,32,56,10,115,101,116,32,56,10,119,111,114,107,115,32,57,10,100,97,116,101,32,52,48,10,119,114,111,110,103,10,99,117,116,115,32,51,54,10,115,116,114,105,107,101,32,49,10,115,116,114,105,107,101,32,52,10,115,116,114,105,107,101,32,51,10,99,111,105,110,115,10,111,112,101,110,10,115,116,97,110,100,115,10,115,116,114,105,107,101,32,48,10,115,116,114,105,107,101,32,57,10,115,101,114,118,101,32,48,10]⟩)),mv 3 5,xa 6 0 3,xa 7 1 3,mv 1 6,mv 2 7] 0 [1,2] (sr [mv 8 2,oi 9 pE 8 0,mv 10 9,ov 11 .mov 1 10 0,ot 12 pE [.t 11,.c (.str ⟨#[49,32,51,32,51,32,52,10,110,111,116,101,100,10,101,114,114,111,114,32,55,10,49,32,49,50,32,49,53,10,101,114,114,111,114,32,55,10,101,114,114,111,114,32,55,10,101,114,114,111,114,32,55,10,110,111,116,101,100,10,49,53,10,110,111,116,101,100,10,49,56,10,53,55,10,101,114,114,111,114,32,55,10,110,111,116,101,100,10,110,111,116,104,105,110,103,10,53,55,10,57,55,10,49,48,56,10,51,53,54,10,101,114,114,111,114,32,55,10,101,114,114,111,114,32,55,10,110,111,116,101,100,10,101,114,114,111,114,32,55,10,49,48,10,50,32,57,10,51,52,56,10,50,32,49,32,51,10,101,114,114,111,114,32,55,10,110,111,116,101,100,10,110,111,116,101,100,10,48,10,48,32,50,32,53,10,48,32,49,32,50,10,101,114,114,111,114,32,55,10,101,114,114,111,114,32,50,10,101,114,114,111,114,32,52,10]⟩)] 10 0,pf 13 10 12,mv 0 13] 0 [0] .ret)))
def aB3:anH:=(s0 [ba 1 0 0,mf 2 false] 1 [1] [1] (sr [fa 3 0 1,fa 4 0 3,lo 5 4,oa 6 .len 5,oi 7 (.bin .leq) 6 7,mv 8 7,ov 9 (.fld 0) 1 8 0,ov 10 (.fld 1) 9 8 0,ov 11 ld 10 8 0,ov 12 .len 11 8 0,ot 13 (.bin .leq) [.t 12,kI 6] 8 0,pf 14 8 13,mv 15 14,ov 16 (.fld 2) 1 15 0,ov 17 ld 16 15 0,ov 18 .len 17 15 0,ot 19 (.bin .leq) [.t 18,kI 6] 15 0,pf 20 15 19,mv 21 20,ov 22 (.fld 4) 1 21 0,ov 23 (.fld 1) 22 21 0,ov 24 ld 23 21 0,ov 25 .len 24 21 0,ot 26 (.bin .leq) [.t 25,kI 8] 21 0,pf 27 21 26,mv 28 27,ov 29 (.fld 6) 1 28 0,ov 30 (.fld 1) 29 28 0,ov 31 ld 30 28 0,ov 32 .len 31 28 0,ot 33 (.bin .leq) [.t 32,kI 5] 28 0,pf 34 28 33,mv 35 34,ov 36 (.fld 11) 1 35 0,ov 37 ld 36 35 0,ov 38 .len 37 35 0,ot 39 (.bin .leq) [.t 38,kI 8] 35 0,pf 40 35 39,mv 2 40] 0 [2] .ret))
end Go.Tel
