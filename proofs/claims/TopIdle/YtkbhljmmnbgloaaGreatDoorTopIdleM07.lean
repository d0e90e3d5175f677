/-
  Part 7 of a law of desks.
  Conditions: none.
-/
import Derived.Test.YtkbhljmmnbgloaaGreatDoorTopIdleM04
import Derived.Test.YtkbhljmmnbgloaaGreatDoorTopIdleM06
import Derived.Shelf.Slices.In.SortNone
import Derived.Ground.NamesProg
import Derived.Shelf.Strings.Split
import Derived.Shelf.Strings.OnBuilder
import Derived.Shelf.Strconv.Itoa3
import Derived.Lib.ItoaLen
import Derived.Laws.RangeString
import Derived.Laws.RangeAny
import Derived.Shelf.Small.Strs
set_option linter.all false
set_option maxRecDepth 10000
set_option maxHeartbeats 4000000
open Nat renaming reduceBEq->F,reduceAdd->H,reduceSub->I,reduceEqDiff->J,reduceLT->N,reduceLeDiff->S,le_trans->ax,lt_irrefl->aD,zero_le->aM,le_refl->a8,lt_of_lt_of_le->bc,add_assoc->bz,mul_one->cz,succ_mul->cF
open List renaming length_map->U,getElem?_eq_some_iff->V,length_append->Y,length_cons->ae,not_mem_nil->ai,getElem?_set_ne->am,getElem?_append_left->ao,length_nil->ap,mem_cons->av,drop_zero->aw,length_set->az,map_cons->aE,mem_singleton->aL,append_assoc->a7,append_nil->bj,map_append->bk,mem_map->bl,length->bo,map_nil->bq,append_cancel_left->bt,getElem?_set_self->bv,mem_append->bw,take_length->bA,zip_cons_cons->bB,zip_nil_left->bN,drop_length->bR,map_eq_nil_iff->bX,filter_append->b0,flatMap_cons->b7,all_eq_true->b9,map->ca,take_of_length_le->cf,length_filter_le->cg,mem_cons_of_mem->cj,mem_cons_self->ck,getElem?_map->cl,length_range->cm,size_toArray->cn,cons_append->cp,drop->cq,filter_cons->cr,length_take->ct,take->cv,range_succ->cA,range->cD
open Int renaming toNat_natCast->aq,lt_irrefl->be,le_refl->cw
open Bool renaming and_eq_true->aR,false_and->bp,true_and->b8,not_true->cE
open Option renaming map_none->bh,getD_some->bi,getD_none->bu,isSome_none->bE,isSome_some->bL,map_some->bS
open Array renaming length_toList->br
open ByteArray renaming size_append->bO,data_extract->cb,size->cC
open Iff renaming rfl->cB
open Go.IntKind renaming wrap->cG
namespace Go.Tel
open Go.Am
structure Frm (M M':Mem):Prop where
 len:M.boxes.length<=M'.boxes.length
 bn:M.aB.length<=M'.aB.length
 box:∀i,i<M.boxes.length->M'.boxes[i]?=M.boxes[i]?
 fz:∀i,i<M.boxes.length->(i∈M'.fz↔i∈M.fz)
 row:∀k,k<M.aB.length->M'.aB[k]?=M.aB[k]?
 fzb:FzB M->FzB M'
def Frm.refl (M:Mem):Frm M M:=⟨a8 _,a8 _,fun _ _=>rfl,fun _ _=>cB,fun _ _=>rfl,id⟩
def Frm.trans {M M' M'':Mem}(h:Frm M M')(h':Frm M' M''):Frm M M'':=
 ⟨ax h.len h'.len,ax h.bn h'.bn,fun i a=>(h'.box i (bc a h.len)).trans (h.box i a),fun i a=>(h'.fz i (bc a h.len)).trans (h.fz i a),
  fun k b=>(h'.row k (bc b h.bn)).trans (h.row k b),fun e=>h'.fzb (h.fzb e)⟩
variable{bs:List (Option (List PV))}{fz:List Nat}
def Frm.ext {xb:List (Option (List PV))}{xf:List Nat}{ar xa:List (Option Arr)}(hx:∀i∈xf,bs.length<=i/\i<bs.length+xb.length):Frm ⟨bs,fz,ar⟩ ⟨bs++xb,xf++fz,ar++xa⟩:=
 ⟨by simp,by simp,fun i a=>ao a,fun i a=>by
  simp only[bw];exact⟨fun e=>e.elim (fun e=>absurd (hx i e).1 (by simp only at a;omega)) id, .inr⟩,fun k c=>ao c,fun b i a=>by
  simp only[Y]
  rcases bw.1 a with e|e
  ·exact(hx i e).2
  ·have:=b i e;simp only at this;omega⟩
variable{M M' M'':Mem}
def Frm.frs {a b mb:Nat}(h:Frm M M')(h':FrS a b mb M' M'')(hb:M.boxes.length<=b)(g:M.boxes.length<=mb)(f:M.aB.length<=a):Frm M M'':=
 ⟨ax h.len h'.len,ax h.bn h'.bn,fun i c=>(h'.box i (bc c h.len) (by omega) (by omega)).trans (h.box i c),fun i c=>(h'.fz i (bc c h.len)).trans (h.fz i c),
  fun k d=>(h'.row k (by omega)).trans (h.row k d),fun e=>h'.fzb (h.fzb e)⟩
variable{sz:Nat}{W:Bool}{c:PV}{ar:List (Option Arr)}
def JY {xs:List DV}(h:slN sz W c xs ar){k:Nat}(hk:kOf c=some k):k<ar.length:=by
 rcases h with⟨rfl,_⟩|⟨k',_,_,rfl,h,_⟩
 ·cases hk
 ·cases hk;exact(V.1 h).1
variable{D:Dk}{d:Nat}
def vH.frm {ce cs:PV}(h:vH D d ce cs M)(hf:Frm M M'):vH D d ce cs M':=
 {box:=(hf.box d (V.1 h.box).1).trans h.box
  ent:=yL h.ent fun k A h1 h2=>(hf.row k (JY h.ent h1)).trans h2
  str:=yL h.str fun k A h1 h2=>(hf.row k (JY h.str h1)).trans h2
  dif:=h.dif
  nb:=fun e=>h.nb ((hf.fz d (V.1 h.box).1).1 e)
  fzb:=hf.fzb h.fzb}
variable{s:Su}
def fC.moved {a b mb n:Nat}{cst cse:PV}{t:Sp}(h:fC s a b mb cst cse t M)(c:Moved n no M M')(hb:b<n)(d:mb<n):fC s a b mb cst cse t M':=
 {box:=(c.box b hb id).trans h.box
  map:=(c.box mb d id).trans h.map
  r0:=by rw[c.aB];exact h.r0
  r1:=by rw[c.aB];exact h.r1
  r2:=by rw[c.aB];exact h.r2
  r3:=by rw[c.aB];exact h.r3
  r4:=by rw[c.aB];exact h.r4
  r5:=by rw[c.aB];exact h.r5
  stk:=by rw[c.aB];exact h.stk
  set:=by rw[c.aB];exact h.set
  kst:=h.kst,kse:=h.kse,dif:=h.dif
  nb:=fun e=>h.nb ((c.fz b hb id).1 e)
  nm:=fun e=>h.nm ((c.fz mb d id).1 e)
  bm:=h.bm
  fzb:=c.fzb h.fzb}
def Frm.moved {n:Nat}(h:Frm M M')(a:Moved n no M' M'')(d:M.boxes.length<=n):Frm M M'':=
 ⟨ax h.len a.len,by rw[a.aB];exact h.bn,fun i b=>(a.box i (by omega) id).trans (h.box i b),fun i b=>(a.fz i (by omega) id).trans (h.fz i b),fun k c=>by rw[a.aB];exact h.row k c,fun e=>a.fzb (h.fzb e)⟩
def wR (s:Su):∀(l m:List De) (t:Sp),Ce s (l++m) t=(Ce s l t).bind (Ce s m)
 | [],_,_=>rfl
 |x::l,m,t=>by
  simp only[cp,Ce];cases doS s t x with
  |none=>rfl
  |some t1=>exact wR s l m t1
def wo (w:Int)(l:List (Nat×De)):List De:=(l.filter fun p=>decide ((p.1:Int)≠w)).map (·.2)
def YJ (w:Int)(l:List (Nat×De))(p:Nat×De):wo w (l++ [p])=if(p.1:Int)=w then wo w l else wo w l++ [p.2]:=by
 simp only[wo,b0,bk]
 by_cases h:(p.1:Int)=w<;>simp[h]
def ae9 (w:Int)(l:List (Nat×De))(p:Nat×De)(r:List (Nat×De)):wo w (l++p::r)=wo w (l++ [p])++wo w r:=by
 simp[wo,b0,bk,cr]
 split<;>simp
def ajt (w:Int)(l:List (Nat×De)):(wo w l).length<=l.length:=by
 simp only[wo,U];exact cg _ _
def fC.new {x0 x3:Option (List PV)}(a:∀i∈fz,i<bs.length):
  fC s ar.length (bs.length+2) (bs.length+1) (.d (.slice true [])) (.d (.slice true [])) s.sp0 ⟨bs++ [x0,some [.gI []],some (gy s ar.length (bs.length+1) (.d (.slice true [])) (.d (.slice true [])) 0),x3],bs.length::fz,ar++s.rows.map some⟩:=
 {box:=by simp only;rw[bJ rfl];rfl
  map:=by simp only;rw[bJ rfl];rfl
  r0:=by simp[Su.rows,Su.sp0]
  r1:=by simp[Su.rows,Su.sp0]
  r2:=by simp[Su.rows,Su.sp0]
  r3:=by simp[Su.rows]
  r4:=by simp[Su.rows]
  r5:=by simp[Su.rows]
  stk:= .inl ⟨rfl,rfl⟩
  set:= .inl ⟨rfl,rfl⟩
  kst:=fun k b=>by cases b
  kse:=fun k b=>by cases b
  dif:=fun k b=>by cases b
  nb:=fun e=>by
   rcases av.1 e with e|e
   ·omega
   ·have:=a _ e;omega
  nm:=fun e=>by
   rcases av.1 e with e|e
   ·omega
   ·have:=a _ e;omega
  bm:=by omega
  fzb:=fun i e=>by
   simp only[Y,ae,ap]
   rcases av.1 e with e|e
   ·omega
   ·have:=a _ e;omega}
def yU {x:En}(h:x.formed=true):uN x.kind<=x.ns.length:=by
 simp only[En.formed,aR,decide_eq_true_eq]at h;omega
def Jz {ce cs:PV}(h:vH D d ce cs M)(f:D.Ok)(w:Int):
  SC C 228 [.ptr d 0,pI w] M
   (fun p M'=>∃t b mb a cst cse,p= .ptr b 0/\D.state w=some t/\fC D.su a b mb cst cse t M'/\Frm M M'/\M.boxes.length<=b/\M.boxes.length<=mb/\M.aB.length<=a)
   (fun dd M'=>D.state w=none/\Gw dd/\Frm M M'):=by
 obtain⟨bs,fz,ar⟩:=M;have c:=h.box;rw[iK]at c;simp only at c;have ao:d<bs.length:=(V.1 c).1;have DN:∀i∈fz,i<bs.length:=h.fzb
 have aq:bs.length∉fz:=fun e=>aD _ (DN _ e)
 have av:∀k,bs.length+k∉fz:=fun k e=>by have:=DN _ e;omega
 have ac:¬d=bs.length:=by omega
 have ai:∀k,¬d=bs.length+k:=fun k=>by omega
 have am:∀k,d<bs.length+k:=fun k=>by omega
 have aL:¬bs.length+1=bs.length:=by omega
 have a6:¬bs.length+2=bs.length:=by omega
 have a9:¬bs.length+3=bs.length:=by omega
 have an:=Ug D.su (Su.L6 f.su);rw[FN]at an;refine aC oJ aQ ?_;simp only[oJ,aQ,c,ao,Uh,aY,bJ,aN,bM,cu,aT,a7,Y,bz,az,aq,av,ac,ai,am,aL,RN,F,H,I,J,N,S];refine pR rfl rfl an (by simp[Su.rows]) ?_;simp only[Su.pv,PV.shift,jE,bV,dM,RN,F,H,I,J,N,S];simp only[MS,c,ao,aY,bJ,aN,bM,cu,aT,a7,Y,bz,az,aq,av,ac,ai,am,aL,a6,a9,bV,dM,bC,aaQ,GL,bh,dB,iO,DW,pW,l7,xk,EX,RN,F,H,I,J,N,S];have K:Frm ⟨bs,fz,ar⟩ ⟨bs++ [some [PV.d (dI w)],some [PV.gI []],some (gy D.su ar.length (bs.length+1) (.d (.slice true [])) (.d (.slice true [])) 0),some [PV.ptr (bs.length+2) 0]],bs.length::fz,ar++D.su.rows.map some⟩:=Frm.ext (xf:=[bs.length]) (by simp);have aiI:=h.frm K;have a2:∀l r p,D.stands=l++p::r->kQ D.su D.su.sp0 p.2:=fun l r p hl=>by
  obtain⟨y,hy,e⟩:=vC D.es D.st 0 p (by rw[Dk.stands]at hl;rw[hl];simp);rw[e];exact f.fine y hy
 have ab:∀l,(∃r,D.stands=l++r)->∀x∈wo w l,kQ D.su D.su.sp0 x:=fun l hl x o=>by
  obtain⟨r,hr⟩:=hl;simp only[wo,bl,List.mem_filter]at o;obtain⟨p,⟨hp,_⟩,rfl⟩:=o;obtain⟨y,hy,e⟩:=vC D.es D.st 0 p (by rw[Dk.stands]at hr;rw[hr];simp[hp]);rw[e];exact f.fine y hy
 have alo:D.stands.length<=24:=ax (zo _ _ _) f.few;have akh:D.state w=Ce D.su (wo w D.stands) D.su.sp0:=rfl;rw[gy]at K aiI;refine qc (V4 (ce:=ce) (cs:=cs) f.len (by have:=f.few;omega) (fun x o=>yU (f.formed x o))) (fun _ h=>h.elim) rfl (by kernel_rfl) (fun i hi=> ?_) (fun x o=> ?_) (fun i hi=> ?_) (fun M' T=>aiI.toDkRd.moved (by simp;omega) T)
  (fun U q=>∃l r t cst cse,D.stands=l++r/\U=l.map nJ/\Ce D.su (wo w l) D.su.sp0=some t/\fC D.su ar.length (bs.length+2) (bs.length+1) cst cse t q/\Frm ⟨bs,fz,ar⟩ q/\q.boxes[bs.length+3]?=some (some [.ptr (bs.length+2) 0])/\bs.length+4<=q.boxes.length) ?_ ?_ ?_ ?_
 ·exact aiI.fzb i hi
 ·simp only[cO,bl]at o
  obtain⟨p,_,rfl⟩:=o
  rfl
 ·subst hi;simp;omega
 ·rintro U q M2 T ⟨l,r,t,cst,cse,j,A,B,X,W,z,Z⟩
  simp only[Y,ae,ap]at T;refine⟨l,r,t,cst,cse,j,A,B,X.moved T (by omega) (by omega),W.moved T (by simp),(T.box _ (by omega) id).trans z,ax Z T.len⟩
 ·refine⟨[],D.stands,D.su.sp0, .d (.slice true []), .d (.slice true []),rfl,rfl,rfl,?_,K,?_,?_⟩
  ·have:=fC.new (s:=D.su) (ar:=ar) (x0:=some [PV.d (dI w)]) (x3:=some [PV.ptr (bs.length+2) 0]) DN
   rw[gy]at this;exact this
  ·simp only;rw[bJ rfl];rfl
  ·simp
 ·rintro L cells U x post q o R g u ⟨l,r,t,cst,cse,j,A,B,X,W,z,Z⟩ M0
  simp only[Y,ae,ap]at R g u⊢;obtain⟨p,E,rfl⟩:∃p E,r=p::E:=by
   cases r with
   |nil=>
    rw[bj]at j;rw[cO,aw,aw,<-Dk.stands,j,A]at o;have:=congrArg bo o;simp at this
   |cons p E=>exact⟨p,E,rfl⟩
  have be:x=nJ p:=by
   rw[cO,aw,aw,<-Dk.stands,j,A,bk,aE]at o;have:=bt o;exact(List.cons.inj this).1.symm
  subst be;obtain⟨G,a0,aR⟩:=q;simp only at R g u z Z;have Q:bs.length+3<G.length:=by omega
  have aM:D.stands=(l++ [p])++E:=by rw[j];simp
  simp only[nJ,bB,bN,aE,bq,RN,F,H,I,J,N,S]
  by_cases hw:(p.1:Int)=w
  ·have hb:((p.1:Int) !=w)=false:=by simp[hw]
   simp only[hb,uH,RN,F,H,I,J,N,S];refine⟨g,u, .refl _,l++ [p],E,t,cst,cse,aM,by rw[A];simp[nJ],by rw[YJ,if_pos hw];exact B,X,W,z,Z⟩
  ·have hb:((p.1:Int) !=w)=true:=by simp[hw]
   have P:=MP _ 0 _ t (aeR f.su) (ab l ⟨_,j⟩) B;have bp:=ajt w l;have bi:l.length<=24:=by
    have:=congrArg bo j;simp at this;omega
   have bc:QM D.su t:=P.sp (by omega);have a3:kQ D.su t p.2:=kQ.same (n:=0) P.ll.symm P.hh.symm (a2 l E p j);simp only[hb,z,Q,RN,F,H,I,J,N,S];have a1:=acR ahk X bc p.2 a3;refine SC.kL (SC.mono a1 ?_) ?_
   ·rintro v M3 ⟨t',qN,zM,g1,g2,m⟩
    have a4:Frm ⟨bs,fz,ar⟩ M3:=W.frs m (by simp) (by simp) (by simp);have a5:=m.len;simp only at a5;simp only[uH,RN,F,H,I,J,N,S];refine⟨(m.box _ (by simp only;omega) (by omega) (by omega)).trans g,fun e=>u ((m.fz _ (by simp only;omega)).1 e),⟨m.len,m.bn,fun i hi O=>m.box i O (by omega) (by omega),fun i hi O=>m.fz i O,fun k hk=> ?_,m.fzb⟩,?_⟩
    ·refine m.row k ?_
     rcases hk with hk|hk
     ·have:=JY h.ent hk;simpa using this
     ·have:=JY h.str hk;simpa using this
    ·refine⟨l++ [p],E,t',qN,zM,aM,by rw[A];simp[nJ],?_,g2,a4,(m.box _ (by simp only;omega) (by omega) (by omega)).trans z,by omega⟩
     rw[YJ,if_neg hw,wR,B];simp[Ce,g1]
   ·rintro dd M3 ⟨g1,g2,m⟩
    simp only[uH,RN,F,H,I,J,N,S];refine⟨?_,g2,W.frs m (by simp) (by simp) (by simp)⟩;rw[akh,j,ae9,YJ,if_neg hw,wR,wR,B];simp[Ce,g1]
 ·rintro q ⟨l,r,t,cst,cse,j,A,B,X,W,z,Z⟩ R
  have hr:r=[]:=by
   have:=congrArg bo A;rw[cO,aw,aw,<-Dk.stands,j]at this;simp at this;exact this
  subst hr;rw[bj]at j;obtain⟨G,a0,aR⟩:=q;simp only at z Z;have Q:bs.length+3<G.length:=by omega
  simp only[z,Q,RN,F,H,I,J,N,S];exact⟨t,_,_,_,cst,cse,rfl,by rw[akh,j];exact B,X,W,by omega,by omega,a8 _⟩
def fmL:List (ByteArray×Nat):=[(⟨#[99,117,116]⟩,1),(⟨#[99,104,97,110,103,101]⟩,3),(⟨#[111,114,100,101,114]⟩,3),(⟨#[115,101,114,118,101]⟩,2),(⟨#[115,101,116]⟩,1),(⟨#[115,116,114,105,107,101]⟩,1)]
def XE (p:ByteArray×Nat):DV:= .agg [.str p.1,dI (p.2:Int)]
def OU (l:List (ByteArray×Nat)):List DV:=l.flatMap fun p=>[.str p.1,dI (p.2:Int)]
def Y4:OU fmL=[.str ⟨#[99,117,116]⟩,dI 1, .str ⟨#[99,104,97,110,103,101]⟩,dI 3, .str ⟨#[111,114,100,101,114]⟩,dI 3, .str ⟨#[115,101,114,118,101]⟩,dI 2, .str ⟨#[115,101,116]⟩,dI 1, .str ⟨#[115,116,114,105,107,101]⟩,dI 1]:=rfl
def Y5:Pure C 222 [] (.d (.agg (OU fmL))) []:=by
 refine ah wz aew ?_;simp only[wz,aew,Y4,EO,RN,F,H,I,J,N,S]
def UU (n:Int):Pure C 279 [dI n] (.d (.bool (!inR n 0 9999))) []:=by
 refine ah oM aS ?_;simp only[oM,aS,RN,F,H,I,J,N,S];refine au (yX _ _ _) ?_;(try simp only[RN,F,H,I,J,N,S])
def fwE (k:Int):ByteArray:=(fmL.getD (k - 1).toNat default).1
variable{k:Int}
def ahS (h:1<=k/\k<=6):k=1\/k=2\/k=3\/k=4\/k=5\/k=6:=by omega
def ajJ (h:1<=k/\k<=6):acf (gU (cv 2 (cq ((k - 1).toNat*2) (ca PV.d (OU fmL))))) (cv 2 (cq ((k - 1).toNat*2) (ca PV.d (OU fmL))))= .d (.agg [.str (fwE k),dI (uN k)])/\(k - 1).toNat*2+2<=(ca PV.d (OU fmL)).length/\cG .i64 (k - 1)=k - 1:=by
 rcases ahS h with rfl|rfl|rfl|rfl|rfl|rfl<;>exact⟨rfl,by decide,by decide⟩
def Zd (k:Int):uN k<=3:=by
 unfold uN;split
 ·omega
 ·split<;>omega
def XT (x:En):Pure C 225 [x.dv] (.d (.bool x.formed)) []:=by
 refine ah ru aS ?_;simp only[ru,aS,Ci,RN,F,H,I,J,N,S];refine au (yX _ _ _) ?_;cases c:inR x.kind 1 6
 ·(try simp only[RN,F,H,I,J,N,S])
  simp only[En.formed,c,bp]
 have e:1<=x.kind/\x.kind<=6:=by simpa[inR]using c
 simp only[U,RN,F,H,I,J,N,S];refine au Y5 ?_;obtain⟨e1,e2,f⟩:=ajJ e;have g:=Zd x.kind;simp only[f,e1,RN,F,H,I,J,N,S];refine⟨by omega,by omega,e2,?_⟩
 by_cases b:x.ns.length=uN x.kind
 ·have a:((x.ns.length:Int) !=(uN x.kind:Int))=false:=by simp[b]
  simp only[a,RN,F,H,I,J,N,S];refine fG rfl rfl (mD x.ns 279 [] (fun n=> !inR n 0 9999) (by omega) (by kernel_rfl) fun n _=>UU n) ?_;simp only[AY,Bool.not_not,RN,F,H,I,J,N,S];simp[En.formed,c,b]
 ·have a:((x.ns.length:Int) !=(uN x.kind:Int))=true:=by simp;omega
  simp only[a,RN,F,H,I,J,N,S];simp[En.formed,b]
def GK (e1 e2:Bool)(D:Dk):List DV:=[.aV D.su.cs,sF (D.su.days.map yS), .slice e1 (D.es.map En.dv), .slice e2 (D.st.map .bool)]
def sH (e1 e2:Bool)(D:Dk):DV:= .aV (GK e1 e2 D)
def Ox {xs:List DV}(h:slN sz W c xs ar):∃ex,dS ⟨bs,fz,ar⟩ c=some (.slice ex xs):=by
 rcases h with⟨rfl,rfl⟩|⟨k,ver,st,rfl,h,_⟩
 ·exact⟨true,rfl⟩
 ·exact⟨false,by simp[dS,Mem.row,h]⟩
def Ia {ce cs:PV}(h:vH D d ce cs M):∃e1 e2,datum M (.ptr d 0)=some (sH e1 e2 D):=by
 obtain⟨bs,fz,ar⟩:=M;have h1:=h.box;rw[iK]at h1;obtain⟨e1,a⟩:=Ox (bs:=bs) (fz:=fz) h.ent;obtain⟨e2,b⟩:=Ox (bs:=bs) (fz:=fz) h.str;simp only at h1 a b;refine⟨e1,e2,?_⟩;have hd:∀x,dS ⟨bs,fz,ar⟩ (.d x)=some x:=fun _=>rfl
 have c:bW ⟨bs,fz,ar⟩ [.d (.aV D.su.cs), .d (sF (D.su.days.map yS)),ce,cs]=some (GK e1 e2 D):=by
  simp only[bW,hd,a,b];rfl
 simp only[datum,Mem.box,h1,c]
 rfl
def DR (e1 e2:Bool)(D:Dk)(hh:D.su.pc.hands.length<=1000)(n:Int):Pure C 290 [sH e1 e2 D,dI n] (.d (.bool (inR n 0 (D.su.pc.hands.length - 1)))) []:=by
 refine ah nO aQ ?_;have a:cG .i64 ((D.su.pc.hands.length:Int) - 1)=(D.su.pc.hands.length:Int) - 1:=aF (by omega);simp only[nO,aQ,sH,GK,Uh,U,a,RN,F,H,I,J,N,S];refine au (yX _ _ _) ?_;(try simp only[RN,F,H,I,J,N,S])
def LW (e1 e2:Bool)(D:Dk)(n:Int):Pure C 293 [sH e1 e2 D,dI n] (.d (.bool (inR n 1 D.su.days.length))) []:=by
 refine ah oI aQ ?_;simp only[oI,aQ,sH,GK,U,RN,F,H,I,J,N,S];refine au (yX _ _ _) ?_;(try simp only[RN,F,H,I,J,N,S])
def UW (e1 e2:Bool)(D:Dk):Pure C 224 [sH e1 e2 D] (.d (.bool true)) []:=by
 refine ah nP aS ?_;simp only[nP,aS,sH,GK,RN,F,H,I,J,N,S]
def Zr {f:FuncId}{args:List PV}{ds ds':List DV}{x:DV}{K:PV->Mem->Prop}{KP:DV->Mem->Prop}(h:Pure C f ds' (.d x) [])(hx:Ux (.d x)=true)(a:cZ M args=some ds)(c:ds.map DV.strip=ds')(b:K (.d x) M):SC C f args M K KP:=
 VO h hx rfl a c (by simpa[PV.shift,jE]using b)
section
variable (e1 e2:Bool)(D:Dk)
def aay (n:Int):Pure C 409 [(De.cut n).cs,sH e1 e2 D] (.d (.bool (D.jS (.cut n)))) []:=by
 refine ah qZ aQ ?_;simp only[qZ,aQ,De.cs,sH,RN,F,H,I,J,N,S];refine au (lF _) ?_;simp only[Dk.jS,RN,F,H,I,J,N,S]
def Q5 (hl:D.su.pc.links.length<=1000)(c:Chg):Pure C 410 [(De.change c).cs,sH e1 e2 D] (.d (.bool (D.jS (.change c)))) []:=by
 refine ah nU aQ ?_;have b:cG .i64 ((D.su.pc.links.length:Int) - 1)=(D.su.pc.links.length:Int) - 1:=aF (by omega);simp only[nU,aQ,De.cs,sH,GK,Uh,U,b,RN,F,H,I,J,N,S];refine au (yX _ _ _) ?_;cases h1:inR c.link 0 ((D.su.pc.links.length:Int) - 1)
 ·(try simp only[RN,F,H,I,J,N,S])
  simp only[Dk.jS,h1,bp]
 (try simp only[RN,F,H,I,J,N,S]);refine au (lF _) ?_;cases h2:bH c.pr.a
 ·(try simp only[RN,F,H,I,J,N,S])
  simp only[Dk.jS,h1,Pr.ok,h2,bp,Bool.and_false]
 (try simp only[RN,F,H,I,J,N,S]);refine au (lF _) ?_;(try simp only[RN,F,H,I,J,N,S]);simp only[Dk.jS,h1,Pr.ok,h2,b8]
def Vr (hh:D.su.pc.hands.length<=1000)(n:Int)(f:Fr):Pure C 411 [(De.order n f).cs,sH e1 e2 D] (.d (.bool (D.jS (.order n f)))) []:=by
 refine ah oO aQ ?_;have b:=DR e1 e2 D hh n;have a:=Zb f;rw[dG]at a;rw[sH]at b⊢;simp only[oO,aQ,De.cs,RN,F,H,I,J,N,S];refine au b ?_;cases h1:inR n 0 ((D.su.pc.hands.length:Int) - 1)
 ·(try simp only[RN,F,H,I,J,N,S])
  simp only[Dk.jS,h1,bp]
 (try simp only[RN,F,H,I,J,N,S]);refine au a ?_;(try simp only[RN,F,H,I,J,N,S]);simp only[Dk.jS,h1,b8]
def VU (hh:D.su.pc.hands.length<=1000)(n c:Int):Pure C 412 [(De.serve n c).cs,sH e1 e2 D] (.d (.bool (D.jS (.serve n c)))) []:=by
 refine ah oQ aQ ?_;have a:=DR e1 e2 D hh n;rw[sH]at a⊢;simp only[oQ,aQ,De.cs,RN,F,H,I,J,N,S];refine au a ?_;simp only[Dk.jS,RN,F,H,I,J,N,S]
def abJ (n:Int):Pure C 413 [(De.set n).cs,sH e1 e2 D] (.d (.bool (D.jS (.set n)))) []:=by
 refine ah rD aQ ?_;have a:=LW e1 e2 D n;rw[sH]at a⊢;simp only[rD,aQ,De.cs,RN,F,H,I,J,N,S];refine au a ?_;simp only[Dk.jS,RN,F,H,I,J,N,S]
def Td (hl:D.es.length<=1000)(n:Int):Pure C 408 [(De.strike n).cs,sH e1 e2 D] (.d (.bool (D.jS (.strike n)))) []:=by
 refine ah nX aQ ?_;have c:cG .i64 ((D.es.length:Int) - 1)=(D.es.length:Int) - 1:=aF (by omega);simp only[nX,aQ,De.cs,sH,GK,U,c,RN,F,H,I,J,N,S];refine au (yX _ _ _) ?_;cases h1:inR n 0 ((D.es.length:Int) - 1)
 ·(try simp only[RN,F,H,I,J,N,S])
  simp only[Dk.jS,h1,bp]
 have a:0<=n/\n<=(D.es.length:Int) - 1:=by simpa[inR]using h1
 have b:n.toNat<D.es.length:=by omega
 simp only[a.1,b,U,getD_map,Ci,RN,F,H,I,J,N,S];have:((D.es.getD n.toNat default).kind !=6)=decide ((D.es.getD n.toNat default).kind≠6):=by
  by_cases h:(D.es.getD n.toNat default).kind=6
  ·rw[h];rfl
  ·rw[decide_eq_true h];exact bne_iff_ne.2 h
 simp only[Dk.jS,h1,b8,this]
end
def De.ac6:De->FuncId
 | .cut _=>409
 | .change _=>410
 | .order _ _=>411
 | .serve _ _=>412
 | .set _=>413
 | .strike _=>408
variable{D:Dk}
def Dk.Ok.small (h:D.Ok):D.su.pc.links.length<=5/\D.su.pc.hands.length<=4:=by
 have:=Pc.zI (Su.facts h.su).1;omega
def aif (e1 e2:Bool){D:Dk}(h:D.Ok)(x:De):Pure C x.ac6 [x.cs,sH e1 e2 D] (.d (.bool (D.jS x))) []:=by
 obtain⟨h1,h2⟩:=h.small;cases x with
 |cut n=>exact aay _ _ _ _
 |change c=>exact Q5 _ _ _ (by omega) _
 |order n f=>exact Vr _ _ _ (by omega) _ _
 |serve n c=>exact VU _ _ _ (by omega) _ _
 |set n=>exact abJ _ _ _ _
 |strike n=>exact Td _ _ _ (by have:=h.few;omega) _
def ac8 (x:De):EU C.P x.ty "tellurion/journeyman.fine" =some x.ac6/\callable C.P x.ac6=true:=by
 cases x<;>exact⟨by kernel_rfl,by kernel_rfl⟩
def acK (x:De):x.cs.strip=x.cs:=by cases x<;>rfl
def ac7 {d:Nat}{ce cs:PV}{M:Mem}(h:vH D d ce cs M)(a:D.Ok)(x:De){base:Nat}{K:PV->Mem->Prop}{KP:DV->Mem->Prop}(b:K (.d (.bool (D.jS x))) M):
  ak C base (.inv "tellurion/journeyman.fine") [.d x.dv, .ptr d 0] M K KP:=by
 obtain⟨e1,e2,hd⟩:=Ia h;obtain⟨c,e⟩:=ac8 x;refine⟨_,c,e,Zr (ds:=[x.cs,sH e1 e2 D]) (ds':=[x.cs,sH e1 e2 D]) (aif e1 e2 a x) rfl ?_ ?_ b⟩
 ·simp only[cZ,hd];rfl
 ·simp only[aE,bq,acK];rfl
def L9 (d:DV):Prop:=∃s,d= .iface T.pF (.agg [.str s])
variable{bs:List (Option (List PV))}
def aeL {b:Nat}{y:Option (List PV)}(h:bs[b]?=some y):bs.set b y=bs:=by
 apply List.ext_getElem?;intro i;rw[List.getElem?_set]
 by_cases a:b=i
 ·subst a
  have:=(V.1 h).1;simp[this,h];have h2:=h;rw[List.getElem?_eq_getElem this]at h2
  simpa using h2.symm
 ·simp[a]
def LX {g:FuncId}{fs cs:List PV}{fz:List Nat}{ar:List (Option Arr)}{K:PV->Mem->Prop}{KP:DV->Mem->Prop}(k:FzB ⟨bs,fz,ar⟩)(hc:callable C.P g=true)
  (h:SC C g (fs++cs) ⟨bs++ [some [pI 0]],fz,ar⟩
   (fun _ M'=>M'.boxes[bs.length]?=some (some [pI 0])/\bs.length∉M'.fz/\K (pI 0) M')
   (fun d M'=>M'.boxes[bs.length]?=some (some [pI 0])/\bs.length∉M'.fz/\M'.boxes.length∉M'.fz/\
    ((Gw d/\∀x,K (pI 7) ⟨(M'.boxes++ [x]).set bs.length (some [pI 7]),M'.fz,M'.aB⟩)\/
     (L9 d/\∀x,K (pI 4) ⟨(M'.boxes++ [x]).set bs.length (some [pI 4]),M'.fz,M'.aB⟩)))):
  SC C 220 [.func (.func g) fs cs] ⟨bs,fz,ar⟩ K KP:=by
 have n:bs.length∉fz:=fun e=>aD _ (k _ e)
 refine YE mixed IC ?_;simp only[wB,aN,aT,Y,RN,F,H,I,J,N,S];refine⟨bs.length,rfl,?_⟩;simp only[wC,PG,RN,F,H,I,J,N,S];refine⟨hc,SC.kL (SC.mono h ?_) ?_⟩
 ·rintro v ⟨a,i,ar'⟩ ⟨h1,h2,c⟩
  simp only at h1 h2;have f:=(V.1 h1).1;simp only[h1,h2,f,aeL h1,RN,F,H,I,J,N,S];simp only[OG,jy,Dz,lK,h1,f,RN,F,H,I,J,N,S];exact c
 ·rintro d ⟨a,i,ar'⟩ ⟨h1,h2,c,l⟩
  simp only at h1 h2 c l;have f:=(V.1 h1).1
  rcases l with⟨⟨y,rfl,o,p⟩,j⟩|⟨⟨s,rfl⟩,j⟩
  ·have b:bs.length<(a++ [some [PV.d y]]).length:=by simp;omega
   simp only[Hr,jy,Dy,jY,lK,aN,aT,c,o,p,aY f,h1,h2,bv b,RN,F,H,I,J,N,S];exact j _
  ·have b:bs.length<(a++ [some [PV.d (.str s)]]).length:=by simp;omega
   have m:(T.pF==T.ig)=false:=by decide
   simp only[Hr,jy,Dy,eU m,jY,lK,aN,aT,c,aY f,h1,h2,bv b,RN,F,H,I,J,N,S];exact j _
end Go.Tel
namespace Go.Am
section
variable {C:Ctx}{base:Nat}{KP:DV->Mem->Prop}{K:PV->Mem->Prop}{M:Mem}
variable{agg:Bool}{f:FuncId}{rest:List PV}
def afs {n:Nat}{cs:List DV}(hl:n<=cs.length)(h:SC C f rest M K KP):ak C base (.Cb agg n f) (.d (.aV cs)::rest) M K KP:=by
 simp only[ak,bP];exact⟨hl,SC.mono h fun p M' hh=>⟨⟨hl,trivial⟩,hh⟩⟩
def afr {n b off:Nat}{cs:List PV}(hb:M.boxes[b]?=some (some cs))(hl:off+n<=cs.length)(h:SC C f rest M (fun p M'=>M'.boxes[b]?=M.boxes[b]?/\K p M') KP):ak C base (.Cb agg n f) (.ptr b off::rest) M K KP:=by
 have a:M.box b=some cs:=by simp[Mem.box,hb]
 simp only[ak,bP,a];refine⟨hl,SC.mono h fun p M' hh=>⟨?_,hh.2⟩⟩;have akU:M'.box b=some cs:=by simp[Mem.box,hh.1,hb]
 simp only[akU];exact⟨hl,trivial⟩
end
end Go.Am
namespace Go.Tel
open Go.Am
def Dk.goes (D:Dk):De->Bool
 | .strike n=> !D.st.getD n.toNat default&&(D.state n).isSome
 |y=>match D.state (-1)with
  |none=>false
  |some t=>(doS D.su t y).isSome
variable{D:Dk}
def Nl {y:De}(a:∀n,y≠ .strike n):D.goes y=match D.state (-1)with|none=>false|some t=>(doS D.su t y).isSome:=by
 cases y with
 |strike n=>exact absurd rfl (a n)
 | _=>rfl
def ahE {y:De}(a:∀n,y≠ .strike n):(y.ty==T.bD)=false:=by
 cases y with
 |strike n=>exact absurd rfl (a n)
 | _=>rfl
variable{bs:List (Option (List PV))}{fz:List Nat}{ar:List (Option Arr)}
def Frm.new {xb:List (Option (List PV))}{xf:List Nat}(hx:∀i∈xf,bs.length<=i/\i<bs.length+xb.length):Frm ⟨bs,fz,ar⟩ ⟨bs++xb,xf++fz,ar⟩:=by
 have:=Frm.ext (bs:=bs) (xb:=xb) (fz:=fz) (xf:=xf) (ar:=ar) (xa:=[]) hx
 simpa using this
variable{d:Nat}{M:Mem}
def aaF {ce cs:PV}(h:vH D d ce cs M)(j:D.Ok)(y:De)(hf:D.jS y=true)(Q:kQ D.su D.su.sp0 y){pb:Nat}(w:M.boxes[pb]?=some (some [.ptr d 0])):
  SC C 227 [.d (.aV [y.dv]), .ptr pb 0] M (fun _ M'=>D.goes y=true/\Frm M M') (fun A M'=>D.goes y=false/\Gw A/\Frm M M'):=by
 obtain⟨bs,fz,ar⟩:=M;have f:=h.box;rw[iK]at f;simp only at f w;have r:d<bs.length:=(V.1 f).1;have p:pb<bs.length:=(V.1 w).1;have u:bs.length∉fz:=fun e=>aD _ (h.fzb _ e)
 have i:∀k,d<bs.length+k:=fun k=>by omega
 have l:∀k,pb<bs.length+k:=fun k=>by omega
 have c:∀x,Frm ⟨bs,fz,ar⟩ ⟨bs++ [x],bs.length::fz,ar⟩:=fun x=>Frm.new (xf:=[bs.length]) (by simp)
 refine aC jq fB ?_
 by_cases hs:∃n,y= .strike n
 ·obtain⟨n,rfl⟩:=hs
  have E:(De.strike n).dv= .iface T.bD (.agg [dI n]):=rfl;have B:(0<=n/\n<=(D.es.length:Int) - 1)/\n.toNat<D.st.length:=by
   simp only[Dk.jS,inR,aR,decide_eq_true_eq]at hf;have:=j.len;omega
  rw[E];simp only[jq,fB,jY,w,p,r,i,l,f,aY,aN,aT,u,Y,RN,F,H,I,J,N,S];obtain⟨k2,YH,ai,rfl,s,_⟩:=Fg h.str (by intro e;simp at e;rw[e]at B;simp at B);simp only at s;simp only[i,l,s,B.1.1,B.2,U,getD_map,qo,RN,F,H,I,J,N,S];cases z:D.st.getD n.toNat default
  ·simp only[w,p,i,l,aY,Y,RN,F,H,I,J,N,S]
   refine SC.kL (SC.mono (Jz (h.frm (c _)) j n) ?_) ?_
   ·rintro v M' ⟨t,b,mb,a,O,L,rfl,g,q,m,_⟩
    obtain⟨K,P,ar'⟩:=M';(try simp only[RN,F,H,I,J,N,S]);exact⟨by simp only[Dk.goes,z,g];rfl,(c _).trans m⟩
   ·rintro A M' ⟨g,q,m⟩
    exact⟨by simp[Dk.goes,g],q,(c _).trans m⟩
  ·simp only[xR,kS,RN,F,H,I,J,N,S]
   exact⟨by simp only[Dk.goes,z,cE,bp],⟨_,rfl,rfl,rfl⟩,c _⟩
 ·have G:∀n,y≠ .strike n:=fun n e=>hs ⟨n,e⟩
  have E:y.dv= .iface y.ty y.cs:=rfl;rw[E];simp only[jq,fB,eU (ahE G),w,p,r,i,l,f,aY,aN,aT,u,Y,RN,F,H,I,J,N,S];refine afs (by simp) ?_;refine SC.kL (SC.mono (Jz (h.frm (c _)) j (-1)) ?_) ?_
  ·rintro v M' ⟨t,b,mb,a,O,L,rfl,g,q,m,Z,g5,g6⟩
   obtain⟨K,P,ar'⟩:=M';have o:=j.V5 g;(try simp only[RN,F,H,I,J,N,S]);rw[<-E];refine SC.kL (SC.mono (acR ahk q (o.sp (by decide)) y (kQ.same (n:=0) o.ll.symm o.hh.symm Q)) ?_) ?_
   ·rintro v X ⟨t',qN,zM,R,q2,W⟩
    obtain⟨ac,ae,ab⟩:=X;(try simp only[RN,F,H,I,J,N,S]);exact⟨by rw[Nl G,g];simp[R],(c _).trans (m.frs W Z g5 g6)⟩
   ·rintro A X ⟨R,q2,W⟩
    exact⟨by rw[Nl G,g];simp[R],q2,(c _).trans (m.frs W Z g5 g6)⟩
  ·rintro A M' ⟨g,q,m⟩
   exact⟨by rw[Nl G,g],q,(c _).trans m⟩
variable{K:PV->Mem->Prop}
def LZ {sz:Nat}{W st1:Bool}{c:PV}{xs ys:List DV}{ex:Bool}(h:slN sz W c xs ar)(a:0<sz)(n:∀y∈ys,y.fits sz=true)(m:st1=true->ys≠[])(hl:xs.length+ys.length<=1073741824)
  (g:∀k ver st ar',(kOf c=some k\/k=ar.length)->ar'[k]?=some (some ⟨sz,xs++ys,ver,st⟩)->(∀j,j≠k->j<ar.length->ar'[j]?=ar[j]?)->ar.length<=ar'.length->st≠2->(st1=true->st=1)->K (.tsl k ver 0) ⟨bs,fz,ar'⟩):
  kH sz st1 c (.d (.slice ex ys)) ⟨bs,fz,ar⟩ K:=by
 rcases h with⟨rfl,rfl⟩|⟨k,ver,st,rfl,l,h2,o⟩
 ·simp only[kH,yO]
  refine⟨a,n,m,trivial,by simp,by simpa using hl,?_⟩;exact g _ _ _ _ (.inr rfl) (by simp;rfl) (fun j i b=>by rw[ao b]) (by simp) (by cases st1<;>simp) (fun e=>by simp[e])
 ·have f:k<ar.length:=(V.1 l).1
  simp only[kH,yO,Mem.row,l,if_true];refine⟨a,n,m,trivial,h2,hl,?_⟩;exact g k (ver+1) _ _ (.inl rfl) (by simp[f];rfl) (fun j i _=>am (Ne.symm i)) (by simp) (by cases st1<;>simp[h2]) (fun e=>by simp[e])
structure FrD (d:Nat) (ce cs ce' cs':PV) (M M':Mem):Prop where
 len:M.boxes.length<=M'.boxes.length
 bn:M.aB.length<=M'.aB.length
 box:∀i,i<M.boxes.length->i≠d->M'.boxes[i]?=M.boxes[i]?
 fz:∀i,i<M.boxes.length->(i∈M'.fz↔i∈M.fz)
 row:∀k,k<M.aB.length->kOf ce≠some k->kOf cs≠some k->M'.aB[k]?=M.aB[k]?
 oe:∀k,kOf ce'=some k->kOf ce=some k\/M.aB.length<=k
 os:∀k,kOf cs'=some k->kOf cs=some k\/M.aB.length<=k
def FrD.trans {d:Nat}{ce cs ce' cs' b c:PV}{M M' M'':Mem}(h:FrD d ce cs ce' cs' M M')(h':FrD d ce' cs' b c M' M''):FrD d ce cs b c M M'':=
 {len:=ax h.len h'.len
  bn:=ax h.bn h'.bn
  box:=fun i f hd=>(h'.box i (bc f h.len) hd).trans (h.box i f hd)
  fz:=fun i f=>(h'.fz i (bc f h.len)).trans (h.fz i f)
  row:=fun k a h1 h2=>(h'.row k (bc a h.bn) (fun e=>(h.oe k e).elim h1 (by omega)) (fun e=>(h.os k e).elim h2 (by omega))).trans (h.row k a h1 h2)
  oe:=fun k a=>(h'.oe k a).elim (fun e=>h.oe k e) (fun e=> .inr (ax h.bn e))
  os:=fun k a=>(h'.os k a).elim (fun e=>h.os k e) (fun e=> .inr (ax h.bn e))}
def Frm.frD {ce cs:PV}{M':Mem}(h:Frm M M'):FrD d ce cs ce cs M M':=
 ⟨h.len,h.bn,fun i a _=>h.box i a,h.fz,fun k b _ _=>h.row k b,fun _=> .inl,fun _=> .inl⟩
variable{ar':List (Option Arr)}
def vH.akt {ce cs:PV}(h:vH D d ce cs ⟨bs,fz,ar⟩){k ver st:Nat}{es:List En}(hk:kOf ce=some k\/k=ar.length)(h1:ar'[k]?=some (some ⟨2,es.map En.dv,ver,st⟩))
  (h2:∀j,j≠k->j<ar.length->ar'[j]?=ar[j]?)(hl:ar.length<=ar'.length)(hst:st≠2):
  vH {D with es:=es} d (.tsl k ver 0) cs ⟨bs.set d (some (iK D.su (.tsl k ver 0) cs)),fz,ar'⟩/\FrD d ce cs (.tsl k ver 0) cs ⟨bs,fz,ar⟩ ⟨bs.set d (some (iK D.su (.tsl k ver 0) cs)),fz,ar'⟩:=by
 have c:d<bs.length:=(V.1 h.box).1;have b:∀j,kOf cs=some j->j≠k:=fun j a e=>by
  subst e
  rcases hk with hk|hk
  ·exact h.dif j hk a
  ·have:=JY h.str a;simp only at this;omega
 constructor
 ·exact
  {box:=by simp[c]
   ent:= .inr ⟨k,ver,st,rfl,h1,hst,fun e=>by cases e⟩
   str:=yL h.str fun j A a f=>(h2 j (b j a) (V.1 f).1).trans f
   dif:=fun j a e=>by cases a;exact b _ e rfl
   nb:=h.nb
   fzb:=fun i l=>by have:=h.fzb i l;simpa using this}
 ·exact
  {len:=by simp
   bn:=hl
   box:=fun i _ hd=>by simp only;rw[am (Ne.symm hd)]
   fz:=fun _ _=>cB
   row:=fun j a g _=>h2 j (fun e=>by
    subst e
    rcases hk with hk|hk
    ·exact g hk
    ·simp only at a;omega) a
   oe:=fun j a=>by
    cases a
    rcases hk with hk|hk
    ·exact .inl hk
    ·exact .inr (by simp only;omega)
   os:=fun _=> .inl}
def vH.akv {ce cs:PV}(h:vH D d ce cs ⟨bs,fz,ar⟩){k ver:Nat}{l:List Bool}(hk:kOf cs=some k\/k=ar.length)(h1:ar'[k]?=some (some ⟨1,l.map .bool,ver,1⟩))
  (h2:∀j,j≠k->j<ar.length->ar'[j]?=ar[j]?)(hl:ar.length<=ar'.length):
  vH {D with st:=l} d ce (.tsl k ver 0) ⟨bs.set d (some (iK D.su ce (.tsl k ver 0))),fz,ar'⟩/\FrD d ce cs ce (.tsl k ver 0) ⟨bs,fz,ar⟩ ⟨bs.set d (some (iK D.su ce (.tsl k ver 0))),fz,ar'⟩:=by
 have c:d<bs.length:=(V.1 h.box).1;have b:∀j,kOf ce=some j->j≠k:=fun j a e=>by
  subst e
  rcases hk with hk|hk
  ·exact h.dif j a hk
  ·have:=JY h.ent a;simp only at this;omega
 constructor
 ·exact
  {box:=by simp[c]
   ent:=yL h.ent fun j A a f=>(h2 j (b j a) (V.1 f).1).trans f
   str:= .inr ⟨k,ver,1,rfl,h1,by decide,fun _=> .inl rfl⟩
   dif:=fun j a e=>by cases e;exact b _ a rfl
   nb:=h.nb
   fzb:=fun i m=>by have:=h.fzb i m;simpa using this}
 ·exact
  {len:=by simp
   bn:=hl
   box:=fun i _ hd=>by simp only;rw[am (Ne.symm hd)]
   fz:=fun _ _=>cB
   row:=fun j a _ g=>h2 j (fun e=>by
    subst e
    rcases hk with hk|hk
    ·exact g hk
    ·simp only at a;omega) a
   oe:=fun _=> .inl
   os:=fun j a=>by
    cases a
    rcases hk with hk|hk
    ·exact .inl hk
    ·exact .inr (by simp only;omega)}
def NT:aA:=
     (.seq
     (.region true [
      of 45 (.load false 1) [.t 2] 2,
      of 46 (.load false 1) [.t 2] 2,
      oa 47 .bf 46,
      of 48 (.fld 2) [.t 47] 2,
      of 49 (.load false 1) [.t 48] 2,
      of 50 (.fld 0) [.t 3] 1,
      of 51 (.load false 1) [.t 50] 1,
      of 52 (.fld 1) [.t 3] 1,
      of 53 (.load false 1) [.t 52] 1,
      oa 54 (.aj 215) 53,
      ob 55 (.build [dI 0, .slice true []] [(0,1),(1,1)]) 51 54,
      of 56 (.dA 2 [.agg [dI 0, .slice true []]] [0]) [.t 55] 1,
      ob 57 (.app 2 false) 49 56,
      oa 58 .bf 45,
      of 59 (.fld 2) [.t 58] 2,
      os (.store 1) [.t 59, .t 57] 0] 0 [2] [])
     (.seq
      (.region true [
       of 60 (.load false 1) [.t 2] 2,
       of 61 (.load false 1) [.t 2] 2,
       oa 62 .bf 61,
       of 63 (.fld 3) [.t 62] 2,
       of 64 (.load false 1) [.t 63] 2,
       of 65 (.dA 1 [.bool false] [0]) [.c (.bool false)] 1,
       ob 66 (.app 1 true) 64 65,
       oa 67 .bf 60,
       of 68 (.fld 3) [.t 67] 2,
       os (.store 1) [.t 68, .t 66] 0] 0 [] [])
      (.seq
      (rg [
       mk 4 (kI 0)] 0 [4])
      .ret)))
def MR {ce cs:PV}(h:vH D d ce cs ⟨bs,fz,ar⟩)(x:En)(hx:x.ns.length<=1000)(X:D.es.length<=1000)(Y:D.st.length<=1000){pb:Nat}(p:bs[pb]?=some (some [.ptr d 0]))(v:pb≠d){nb na:Nat}{Q:Ex->St->Prop}
  (W:∀ce' cs' M',vH {D with es:=D.es++ [x],st:=D.st++ [false]} d ce' cs' M'->FrD d ce cs ce' cs' ⟨bs,fz,ar⟩ M'->Q .ret ⟨[(4,pI 0)],M'⟩):
  pwp C nb na NT Q ⟨[(2, .ptr pb 0),(3, .d (.aV [dI x.kind,sF (x.ns.map ay)]))],⟨bs,fz,ar⟩⟩:=by
 have a:=h.box;rw[iK]at a;simp only at a;have c:d<bs.length:=(V.1 a).1;have m:pb<bs.length:=(V.1 p).1;have j:=h.nb;simp only at j;obtain⟨o1,o2,o3⟩:=Zt h.ent;obtain⟨u1,u2,u3⟩:=Zt h.str;have u:Pure C 215 [sF (x.ns.map ay)] (.d (sF (x.ns.map ay))) []:=Qo (Bc (x.ns.map ay) tZ (by simp;omega)) rfl;rw[NT];simp only[p,m,c,a,RN,F,H,I,J,N,S];refine au u ?_;simp only[p,m,c,a,tX,DV.strip,RN,F,H,I,J,N,S];refine LZ h.ent (by decide) (by intro y o;simp only[aL]at o;subst o;rfl) (by simp) (by simp;omega) fun k ver st q z A E G K _=> ?_
 obtain⟨e,w⟩:=h.akt (k:=k) (ver:=ver) (st:=st) (es:=D.es++ [x]) (ar':=q) z (by rw[A];simp[Ci]) E G K;simp only[a,c,j,bV,dM,RN,F,H,I,J,N,S];obtain⟨B,s⟩:∃B,B=bs.set d (some (iK D.su (.tsl k ver 0) cs)):=⟨_,rfl⟩
 have t:bs.set d (some [.d (.aV D.su.cs), .d (sF (D.su.days.map yS)), .tsl k ver 0,cs])=B:=by rw[s,iK]
 rw[<-s]at e w;simp only[t];have b:=e.box;rw[iK]at b;simp only at b;have f:d<B.length:=(V.1 b).1;have g:=e.nb;simp only at g;have i:B[pb]?=some (some [.ptr d 0]):=by rw[s,am (Ne.symm v)];exact p
 have akP:pb<B.length:=(V.1 i).1;simp only[i,akP,f,b,qo,RN,F,H,I,J,N,S];refine LZ e.str (by decide) (by intro y o;simp only[aL]at o;subst o;rfl) (by simp) (by simp;omega) fun Z YH ab r L M O P b5 R=> ?_
 have n:=R rfl;subst n;obtain⟨T,U⟩:=e.akv (k:=Z) (ver:=YH) (l:=D.st++ [false]) (ar':=r) L (by rw[M];simp) O P;simp only[b,f,g,bV,dM,RN,F,H,I,J,N,S];refine W _ _ _ T ?_;rw[<-iK];exact w.trans U
def De.UZ:De->Option Nat
 | .strike n=>some n.toNat
 | _=>none
def Dk.with (D:Dk)(x:En):Dk:=match x.deed.UZ with
 |some n=>{D with es:=D.es++ [x],st:=D.st.set n true++ [false]}
 |none=>{D with es:=D.es++ [x],st:=D.st++ [false]}
def Dk.enter (D:Dk)(x:En):Dk×Int:=
 if x.formed=false then(D,2)else if D.es.length=24 then(D,3)else if D.jS x.deed=false then(D,2)else if D.goes x.deed then(D.with x,0)else(D,7)
def Frm.aeK {a:List (Option (List PV))}{b:List Nat}{x y:Option (List PV)}{i:Nat}(h:Frm M ⟨a,b,ar'⟩)(hi:M.boxes.length<=i):Frm M ⟨(a++ [x]).set i y,b,ar'⟩:=
 {len:=by have:=h.len;simp only[az,Y]at this⊢;omega
  bn:=h.bn
  box:=fun j c=>by
   have h1:=h.len;have h2:=h.box j c;simp only at h1 h2⊢;rw[am (by omega),ao (by omega)];exact h2
  fz:=h.fz
  row:=h.row
  fzb:=fun e j c=>by have:=h.fzb e j c;simp only[az,Y]at this⊢;omega}
def aaG (h:D.Ok)(x:En)(hf:x.formed=true)(hb:D.jS x.deed=true)(hl:D.es.length≠24):(D.with x).Ok:=by
 have b:=Y1 hf hb;have h1:=h.few;unfold Dk.with
 cases x.deed.UZ<;>simp only
 ·exact⟨h.su,by simp[h.len],by simp;omega,fun y a=>by
   rcases bw.1 a with a|a
   ·exact h.formed y a
   ·simp only[aL]at a;rw[a];exact hf,fun y a=>by
   rcases bw.1 a with a|a
   ·exact h.fine y a
   ·simp only[aL]at a;rw[a];exact b⟩
 ·exact⟨h.su,by simp[h.len],by simp;omega,fun y a=>by
   rcases bw.1 a with a|a
   ·exact h.formed y a
   ·simp only[aL]at a;rw[a];exact hf,fun y a=>by
   rcases bw.1 a with a|a
   ·exact h.fine y a
   ·simp only[aL]at a;rw[a];exact b⟩
def acX (h:D.Ok)(x:En):(D.enter x).1.Ok:=by
 unfold Dk.enter
 split
 ·exact h
 split
 ·exact h
 split
 ·exact h
 split
 ·rename_i h1 h2 a _
  exact aaG h x (by simpa using h1) (by simpa using a) h2
 ·exact h
def vH.row {D:Dk}{d k ver:Nat}{ce:PV}{bs:List (Option (List PV))}{fz:List Nat}{ar:List (Option Arr)}(h:vH D d ce (.tsl k ver 0) ⟨bs,fz,ar⟩)(hk:k<ar.length)(l:List Bool):
  vH {D with st:=l} d ce (.tsl k ver 0) ⟨bs,fz,ar.set k (some ⟨1,l.map .bool,ver,1⟩)⟩/\FrD d ce (.tsl k ver 0) ce (.tsl k ver 0) ⟨bs,fz,ar⟩ ⟨bs,fz,ar.set k (some ⟨1,l.map .bool,ver,1⟩)⟩:=by
 constructor
 ·exact
  {box:=h.box
   ent:=yL h.ent fun j A a c=>by
    simp only;rw[am (fun e=>by subst e;exact h.dif _ a rfl)];exact c
   str:= .inr ⟨k,ver,1,rfl,by simp[hk],by decide,fun _=> .inl rfl⟩
   dif:=h.dif
   nb:=h.nb
   fzb:=h.fzb}
 ·exact
  {len:=a8 _
   bn:=by simp
   box:=fun _ _ _=>rfl
   fz:=fun _ _=>cB
   row:=fun j a _ b=>by simp only;rw[am (fun e=>b (by rw[e];rfl))]
   oe:=fun _=> .inl
   os:=fun _=> .inl}
def Nj {x:En}(h:x.formed=true):x.ns.length<=3:=by
 simp only[En.formed,aR,decide_eq_true_eq]at h;have:=Zd x.kind;omega
def Vw:aA:=
(.seq
 (.region false [
  oa 2 (.box 0) 0,
  oa 3 (.box 1) 1,
  mk 4 (kI 0)] 2 [2,3] [3])
 (.seq
 (.seq
  (rg [
   lo 9 2,
   oa 10 (.iG 224) 9,
   oa 11 (.un .not) 10] 0 [2,3,11])
  (.cond (.t 11)
  (.seq
   (rg [
    mk 4 (kI 1)] 0 [4])
   .ret)
  .skip))
 (.seq
  (.seq
  (rg [
   oa 12 (.load true 2) 3,
   oa 13 (.aj 225) 12,
   oa 14 (.un .not) 13] 0 [2,3,14])
  (.cond (.t 14)
   (.seq
   (rg [
    mk 4 (kI 2)] 0 [4])
   .ret)
   .skip))
  (.seq
  (.seq
   (rg [
    lo 15 2,
    oa 16 .bf 15,
    oa 17 (.fld 2) 16,
    lo 18 17,
    oa 19 .len 18,
    oc 20 (.bin .eql) 19 (kI 24)] 0 [2,3,20])
   (.cond (.t 20)
   (.seq
    (rg [
     mk 4 (kI 3)] 0 [4])
    .ret)
   .skip))
  (.seq
   (.region false [
    oa 21 (.load true 2) 3,
    oa 22 (.aj 226) 21,
    on 5 (.alloc 0 [.nilIface]) [],
    os (.store 1) [.t 5, .t 22] 0] 1 [2,3,5] [5])
   (.seq
   (.seq
    (rg [
     lo 23 5,
     lo 24 2,
     ob 25 (.inv "tellurion/journeyman.fine") 23 24,
     oa 26 (.un .not) 25] 0 [2,3,5,26])
    (.cond (.t 26)
    (.seq
     (rg [
      mk 4 (kI 2)] 0 [4])
     .ret)
    .skip))
   (.seq
    (rg [
     ob 27 (.mkF (.func 227) 0) 5 2,
     oa 28 (.call 220) 27,
     mv 6 28] 0 [2,3,5,6])
    (.seq
    (.seq
     (rg [
      mv 29 6,
      oc 30 (.bin .neq) 29 (kI 0)] 0 [2,3,5,6,30])
     (.cond (.t 30)
     (.seq
      (rg [
       mv 31 6,
       mv 4 31] 0 [4])
      .ret)
     .skip))
    (.seq
     (.seq
     (.region false [
      lo 33 5,
      oa 34 (.tas T.bD (.agg [dI 0])) 33,
      mv 32 34,
      oa 35 (.ext 0) 32,
      oa 36 (.ext 1) 32,
      on 7 (.alloc 0 [dI 0]) [],
      os (.store 1) [.t 7, .t 35] 0,
      mv 8 36] 1 [2,3,7,8] [7])
     (.seq
      (rg [
       mv 37 8] 0 [2,3,7,37])
      (.cond (.t 37)
      (.region true [
       of 38 (.load false 1) [.t 2] 2,
       oa 39 .bf 38,
       of 40 (.fld 3) [.t 39] 2,
       of 41 (.load false 1) [.t 40] 2,
       of 42 (.fld 0) [.t 7] 1,
       of 43 (.load false 1) [.t 42] 1,
       ob 44 (.bU 1) 41 43,
       os (.store 1) [.t 44, .c (.bool true)] 3] 0 [2,3] [])
      .skip)))
     NT)))))))))
def Yk:oH=Vw:=rfl
def ab5 {ce cs:PV}(h:vH D d ce cs M)(o:D.Ok)(x:En){KP:DV->Mem->Prop}:
  SC C 154 [.ptr d 0, .d x.dv] M (fun p M'=>p= .d (dI (D.enter x).2)/\∃ce' cs',vH (D.enter x).1 d ce' cs' M'/\FrD d ce cs ce' cs' M M') KP:=by
 obtain⟨bs,fz,ar⟩:=M;have l:=h.box;rw[iK]at l;simp only at l;have ac:d<bs.length:=(V.1 l).1;have DN:∀i∈fz,i<bs.length:=h.fzb
 have aq:bs.length∉fz:=fun e=>aD _ (DN _ e)
 have av:∀k,bs.length+k∉fz:=fun k e=>by have:=DN _ e;omega
 have R:¬d=bs.length:=by omega
 have W:∀k,¬d=bs.length+k:=fun k=>by omega
 have z:∀k,d<bs.length+k:=fun k=>by omega
 have aE:¬bs.length+1=bs.length:=by omega
 have aL:¬bs.length+2=bs.length:=by omega
 have aM:¬bs.length+2=bs.length+1:=by omega
 have r:Frm ⟨bs,fz,ar⟩ ⟨bs++ [some [.ptr d 0],some [pI x.kind, .d (sF (x.ns.map ay))]],(bs.length+1)::fz,ar⟩:=Frm.new (xf:=[bs.length+1]) (by simp);obtain⟨e1,e2,a5⟩:=Ia (h.frm r);have am:=XT x;rw[Ci]at am;have ai:D.es.length<=24:=o.few;have a1:D.st.length<=24:=by rw[<-o.len];exact o.few
 refine aC oH aQ ?_;rw[Yk];simp only[Vw,aQ,Ci,l,ac,aY,bJ,aN,bM,cu,aT,a7,Y,bz,az,aq,av,R,W,z,aE,aL,aM,xk,EX,GR,RN,F,H,I,J,N,S];refine jU (H9 a5) rfl (UW e1 e2 D) rfl ?_;(try simp only[RN,F,H,I,J,N,S]);refine au am ?_;cases b:x.formed
 ·(try simp only[RN,F,H,I,J,N,S])
  have t:D.enter x=(D,2):=by simp[Dk.enter,b]
  rw[t];exact⟨rfl,_,_,h.frm r,r.frD⟩
 simp only[l,ac,aY,bJ,aN,z,Y,RN,F,H,I,J,N,S];rw[SX h.ent]
 by_cases q:D.es.length=24
 ·have hb:(((D.es.map En.dv).length:Int)==24)=true:=by simp[q]
  simp only[hb,RN,F,H,I,J,N,S];have t:D.enter x=(D,3):=by simp[Dk.enter,b,q]
  rw[t];exact⟨rfl,_,_,h.frm r,r.frD⟩
 have hb:(((D.es.map En.dv).length:Int)==24)=false:=by simp;omega
 have ab:=MO x (yU b);rw[Ci]at ab;simp only[hb,RN,F,H,I,J,N,S];refine au ab ?_;have ak0:=(De.one x.deed).1;have ak1:=(De.one x.deed).2;simp only[ak0,ak1,aY,bJ,aN,bM,cu,aT,a7,Y,bz,az,aq,av,R,W,z,aE,aL,aM,RN,F,H,I,J,N,S];have f:Frm ⟨bs,fz,ar⟩ ⟨bs++ [some [.ptr d 0],some [pI x.kind, .d (sF (x.ns.map ay))],some [.d x.deed.dv]],(bs.length+2)::(bs.length+1)::fz,ar⟩:=Frm.new (xf:=[bs.length+2,bs.length+1]) (by simp);refine ac7 (h.frm f) o x.deed ?_;cases m:D.jS x.deed
 ·(try simp only[RN,F,H,I,J,N,S])
  have t:D.enter x=(D,2):=by simp[Dk.enter,b,q,m]
  rw[t];exact⟨rfl,_,_,h.frm f,f.frD⟩
 have a4:kQ D.su D.su.sp0 x.deed:=Y1 b m;simp only[l7,bh,RN,F,H,I,J,N,S];obtain⟨B,hB⟩:∃B,B=bs++ [some [.ptr d 0],some [pI x.kind, .d (sF (x.ns.map ay))],some [.d x.deed.dv]]:=⟨_,rfl⟩
 obtain⟨Z,hZ⟩:∃Z,Z=(bs.length+2)::(bs.length+1)::fz:=⟨_,rfl⟩
 have a2:B.length=bs.length+3:=by rw[hB];simp
 have Q:B[bs.length]?=some (some [.ptr d 0]):=by rw[hB,aN rfl];rfl
 rw[<-hB,<-hZ]at f;simp only[<-hB,<-hZ];have a3:Frm ⟨B,Z,ar⟩ ⟨B++ [some [pI 0]],Z,ar⟩:=Frm.new (xf:=[]) (by simp);have XF:=f.trans a3;have z0:((0:Int) !=0)=false:=rfl;have z7:((7:Int) !=0)=true:=rfl;refine LX (fs:=[]) (cs:=[.d (.aV [x.deed.dv]), .ptr bs.length 0]) (f.fzb h.fzb) (by kernel_rfl) ?_;refine SC.kL (SC.mono (aaF (h.frm XF) o x.deed m a4 (pb:=bs.length) ?_) ?_) ?_
 ·simp only;rw[ao (by omega)];exact Q
 ·rintro v ⟨a,c,ar'⟩ ⟨g1,L⟩
  have g:=XF.trans L;have X:=h.frm g;have K:=g.len;simp only at K;have w:a[bs.length]?=some (some [.ptr d 0]):=by
   have:=L.box bs.length (by simp only[Y,a2];omega);simp only at this;rw[this,ao (by omega)];exact Q
  have A:a[B.length]?=some (some [pI 0]):=by
   have:=L.box B.length (by simp);simp only at this;rw[this,aN rfl];rfl
  have E:B.length∉c:=fun e=>by
   have:=(L.fz B.length (by simp)).1 e;simp only at this;have h5:=f.fzb h.fzb _ this;simp only at h5;omega
  refine⟨A,E,?_⟩;have t:D.enter x=(D.with x,0):=by simp[Dk.enter,b,q,m,g1]
  rw[t];have adp:=X.fzb;have u:a.length∉c:=fun e=>aD _ (adp _ e)
  have aw:bs.length≠d:=by omega
  have aiT:bs.length<a.length:=(V.1 w).1;simp only[z0,RN,F,H,I,J,N,S]
  by_cases P:∃n,x.deed= .strike n
  ·obtain⟨n,P⟩:=P
   have hx:(De.strike n).dv= .iface T.bD (.agg [dI n]):=rfl;have O:(0<=n/\n<=(D.es.length:Int) - 1)/\n.toNat<D.st.length:=by
    rw[P]at m;simp only[Dk.jS,inR,aR,decide_eq_true_eq]at m;have:=o.len;omega
   have aiE:=X.box;rw[iK]at aiE;simp only at aiE;have akY:d<a.length:=by omega
   obtain⟨k2,YH,a6,rfl,an,_,s⟩:=Fg h.str (by intro e;simp at e;rw[e]at O;simp at O);have s:=s rfl;subst s;have G:ar'[k2]?=some (some ⟨1,D.st.map .bool,YH,1⟩):=(g.row k2 (V.1 an).1).trans an;have ak7:=(V.1 G).1;have akZ:∀k,d<a.length+k:=fun k=>by omega
   have ali:∀k,bs.length<a.length+k:=fun k=>by omega
   rw[P,hx];simp only[jY,w,aiE,akY,aiT,akZ,ali,aY,aN,aT,u,Y,G,O.1.1,O.2,U,RN,F,H,I,J,N,S];refine EF (ds:=[.bool true]) G rfl (by decide) rfl rfl (by rw[getD_map O.2];exact a8 1) ?_;have a0:(D.st.map DV.bool).set n.toNat (setCells ((D.st.map DV.bool).getD n.toNat default) 0 [.bool true])=(D.st.set n.toNat true).map .bool:=by
    rw[List.map_set,getD_map O.2];rfl
   rw[a0];have j:Frm ⟨bs,fz,ar⟩ ⟨a++ [some [pI n]],a.length::c,ar'⟩:=g.trans (Frm.new (xf:=[a.length]) (by simp));obtain⟨q3,q4⟩:=(h.frm j).row ak7 (D.st.set n.toNat true);refine MR q3 x (by have:=Nj b;omega) (ax ai (by decide)) (by rw[az];exact ax a1 (by decide)) (pb:=bs.length) (by rw[ao aiT];exact w) aw fun ce' cs' M' q1 q2=> ?_
   (try simp only[RN,F,H,I,J,N,S]);have hw:D.with x={D with es:=D.es++ [x],st:=D.st.set n.toNat true++ [false]}:=by
    unfold Dk.with
    rw[P];rfl
   rw[hw];exact⟨_,_,q1,(j.frD.trans q4).trans q2⟩
  ·have hy:∀n,x.deed≠ .strike n:=fun n e=>P ⟨n,e⟩
   have hx:x.deed.dv= .iface x.deed.ty x.deed.cs:=rfl;rw[hx];simp only[eU (ahE hy),aN,aT,u,Y,RN,F,H,I,J,N,S];have j:Frm ⟨bs,fz,ar⟩ ⟨a++ [some [pI 0]],a.length::c,ar'⟩:=g.trans (Frm.new (xf:=[a.length]) (by simp));refine MR (h.frm j) x (by have:=Nj b;omega) (ax ai (by decide)) (ax a1 (by decide)) (pb:=bs.length) (by rw[ao aiT];exact w) aw fun ce' cs' M' q1 q2=> ?_
   (try simp only[RN,F,H,I,J,N,S]);have hw:D.with x={D with es:=D.es++ [x],st:=D.st++ [false]}:=by
    unfold Dk.with
    cases hd:x.deed with
    |strike n=>exact absurd hd (hy n)
    | _=>rfl
   rw[hw];exact⟨_,_,q1,j.frD.trans q2⟩
 ·rintro dd ⟨a,c,ar'⟩ ⟨g1,L,g3⟩
  have g:=XF.trans g3;have K:=g3.len;simp only[Y,ae,ap]at K;have A:a[B.length]?=some (some [pI 0]):=by
   have:=g3.box B.length (by simp);simp only at this;rw[this,aN rfl];rfl
  have E:B.length∉c:=fun e=>by
   have:=(g3.fz B.length (by simp)).1 e;simp only at this;have h5:=f.fzb h.fzb _ this;simp only at h5;omega
  have adp:=g.fzb h.fzb;have u:a.length∉c:=fun e=>aD _ (adp _ e)
  have t:D.enter x=(D,7):=by simp[Dk.enter,b,q,m,g1]
  refine⟨A,E,u, .inl ⟨L,fun y=> ?_⟩⟩;rw[t];simp only[z7,RN,F,H,I,J,N,S];have j:Frm ⟨bs,fz,ar⟩ ⟨(a++ [y]).set B.length (some [pI 7]),c,ar'⟩:=g.aeK (by simp only;omega);exact⟨_,_,h.frm j,j.frD⟩
def l9 (f1 f2 e1 e2:Bool)(D:Dk)(t:Sp):List DV:=[.aV (t.cells f1 f2 D.su), .aV (GK e1 e2 D)]
def vU (f1 f2 e1 e2:Bool)(D:Dk)(t:Sp):DV:= .agg (l9 f1 f2 e1 e2 D t)
def gV {f1 f2 e1 e2:Bool}{t:Sp}:vU f1 f2 e1 e2 D t= .agg [.aV (t.cells f1 f2 D.su), .aV (GK e1 e2 D)]:=rfl
def Ans (f:FuncId)(ds:List DV)(l:List Int)(e:Int):Prop:=
 Pure C f ds (.tup [.tsl 0 0 0,pI e]) [⟨1,l.map ay,0,vP l⟩]\/(l=[]/\Pure C f ds (.d (.tup [.slice true [],dI e])) [])
variable{f:FuncId}{ds:List DV}{l:List Int}{e:Int}
def fJ (a:SC C f (ds.map .d) bg (fun p M=>∃c,p= .tup [c,pI e]/\Hu M c 1 (l.map ay) (vP l)) (fun _ _=>False)):Ans f ds l e:=by
 refine .inl (BH (SC.mono a fun p M h=> ?_));obtain⟨c,rfl,k,ver,rfl,h⟩:=h;refine⟨[(k,0)],⟨fun q b=>by simp only[aL]at b;subst b;simp[yY,h],by simp⟩,?_,?_⟩
 ·simp[ren,aei,N9,Mem.row,h,I8]
 ·simp[mkRow,h]
def yP (hl:l=[])(h:Pure C f ds (.d (.tup [.slice true [],dI e])) []):Ans f ds l e:= .inr ⟨hl,h⟩
variable{base:Nat}{KP:DV->Mem->Prop}{k:IntKind}
def xH {C:Ctx}{z:DV}{n:Int}:ak C base (.lG 1 [z] [0]) [.d (.int k n)] M K KP=K (.tsl M.aB.length 0 0) {M with aB:=M.aB++ [some ⟨1,[.int k n],0,1⟩]}:=
 EN rfl (by decide)
variable{k':IntKind}
def Xr {C:Ctx}{z1 b:DV}{n a:Int}:ak C base (.lG 1 [z1,b] [0,1]) [.d (.int k n), .d (.int k' a)] M K KP=K (.tsl M.aB.length 0 0) {M with aB:=M.aB++ [some ⟨1,[.int k n, .int k' a],0,1⟩]}:=by
 simp[ak,gU,qy,DV.strip,DV.cells,DV.fits,DV.one]
def Xt {C:Ctx}{z1 e f:DV}{a:IntKind}{n b c:Int}:ak C base (.lG 1 [z1,e,f] [0,1,2]) [.d (.int k n), .d (.int k' b), .d (.int a c)] M K KP=K (.tsl M.aB.length 0 0) {M with aB:=M.aB++ [some ⟨1,[.int k n, .int k' b, .int a c],0,1⟩]}:=by
 simp[ak,gU,qy,DV.strip,DV.cells,DV.fits,DV.one]
section
variable (f1 f2 e1 e2:Bool){D:Dk}{t:Sp}(ns:List Int)
def ajg:Ans 244 [vU f1 f2 e1 e2 D t,sF (ns.map ay)] [t.jQ] 0:=by
 refine fJ (aC oL bQ ?_);simp only[oL,bQ,gV,bT,xH,ai,bC,dh,RN,F,H,I,J,N,S];exact⟨_,rfl,0,0,rfl,rfl⟩
def ahW (a:D.Ok)(d:ns.length=1):Ans 243 [vU f1 f2 e1 e2 D t,sF (ns.map ay)] [(D.su.dvd.cuts (ns.getD 0 default)).1.circle,(D.su.dvd.cuts (ns.getD 0 default)).1.turns,(D.su.dvd.cuts (ns.getD 0 default)).1.holes] (D.su.dvd.cuts (ns.getD 0 default)).2:=by
 have b:=Wx D.su.dvd (ns.getD 0 default) (by have:=(Su.L6 a.su).ci;omega);rw[Bh,Dw]at b;have c:0<ns.length:=by omega
 refine fJ (aC oK bQ ?_);simp only[oK,bQ,gV,bT,j0,t0,c,U,getD_map,aZ,RN,F,H,I,J,N,S];refine au b ?_;simp only[Xt,ai,bC,dh,RN,F,H,I,J,N,S];exact⟨_,rfl,0,0,rfl,rfl⟩
def ahV (d:D.Ok)(f:Dp D.su 24 t)(h:ns.length=1):Ans 237 [vU f1 f2 e1 e2 D t,sF (ns.map ay)]
  (if inR (ns.getD 0 default) 0 (D.su.pc.hands.length - 1)then[G6 D.su t (ns.getD 0 default).toNat]else[]) (if inR (ns.getD 0 default) 0 (D.su.pc.hands.length - 1)then 0 else 2):=by
 have b:=DR e1 e2 D (by have:=d.small;omega) (ns.getD 0 default);rw[sH]at b;have e:0<ns.length:=by omega
 cases h1:inR (ns.getD 0 default) 0 ((D.su.pc.hands.length:Int) - 1)
 ·refine yP (by simp) (ah iC bQ ?_)
  simp only[iC,bQ,gV,j0,t0,e,U,getD_map,aZ,RN,F,H,I,J,N,S];refine au b ?_;simp only[h1,RN,F,H,I,J,N,S];simp
 ·have hh:0<=ns.getD 0 default/\ns.getD 0 default<=(D.su.pc.hands.length:Int) - 1:=by simpa[inR]using h1
  obtain⟨a,c⟩:∃a:Nat,ns.getD 0 default=a:=⟨(ns.getD 0 default).toNat,by omega⟩
  have g:=Zp f1 f2 D.su t a f.pc (by rw[f.hh];omega);rw[c]at h1 b⊢;refine fJ (aC iC bQ ?_);simp only[iC,bQ,gV,j0,t0,e,U,getD_map,aZ,c,RN,F,H,I,J,N,S];refine au b ?_;simp only[h1,j0,t0,e,U,getD_map,aZ,c,RN,F,H,I,J,N,S];refine au g ?_;simp only[xH,ai,bC,dh,if_true,aq,RN,F,H,I,J,N,S];exact⟨_,rfl,0,0,rfl,rfl⟩
end
def PZ:List Int->Int->Int->Int
 | [],_,l=>l
 |s::r,a,l=>PZ r a (if s<=a then s else l)
def Sp.turns (t:Sp)(day:Int):Int:=day - PZ t.sets day 0
section
variable (f1 f2 e1 e2:Bool){D:Dk}{t:Sp}(ns:List Int)
def TK (h:Dp D.su 24 t)(day:Int)(hd:0<=day/\day<=1000000):Pure C 295 [vU f1 f2 e1 e2 D t,dI day] (pI (t.turns day)) []:=by
 have n:=h.se;refine ah nS aQ ?_;simp only[nS,aQ,gV,bT,U,RN,F,H,I,J,N,S];refine aG t.sets.length (fun i (a:Int)=>⟨[(1,pI day),(5,pI a),(12, .d (.slice f2 (t.sets.map ay))),(13,pI t.sets.length),(14,pI i)],⟨[some [.d (.aV (t.cells f1 f2 D.su)), .d (.aV (GK e1 e2 D))]],[0],[]⟩⟩)
  (fun i a=>PZ t.sets day 0=PZ (t.sets.drop i) day a/\0<=a/\a<=366) 0 0 (aM _) (by rw[bT];rfl) ⟨rfl,by decide,by decide⟩ (fun i a f e=> ?_) (fun a e=> ?_)
 ·obtain⟨l,m,g⟩:=rng f (by omega)
  obtain⟨c,j,k⟩:=e;rw[drop_cons f,PZ]at c;have p:=h.sv _ (getD_mem f);simp only[l,m,f,getD_map,aZ,aq,U,RN,F,H,I,J,N,S]
  by_cases b:t.sets.getD i default<=day
  ·rw[if_pos b]at c
   simp only[b,g,RN,F,H,I,J,N,S];exact kZ (t.sets.getD i default) f rfl ⟨c,by omega,by omega⟩
  ·rw[if_neg b]at c
   simp only[b,g,RN,F,H,I,J,N,S];exact kZ a f rfl ⟨c,j,k⟩
 ·obtain⟨c,j,k⟩:=e
  rw[bR,PZ]at c;have o:cG .i64 (day - a)=day - a:=aF (by omega);simp only[be,o,RN,F,H,I,J,N,S];simp only[Sp.turns,c]
def aky (c:D.Ok)(g:Dp D.su 24 t)(m:ns.length=2):Ans 239 [vU f1 f2 e1 e2 D t,sF (ns.map ay)]
  (if inR (ns.getD 0 default) 0 (D.su.pc.hands.length - 1)&&inR (ns.getD 1 default) 1 D.su.days.length then[(uy t.pc (ns.getD 0 default) (t.tg.getD (ns.getD 0 default).toNat default) (t.turns (ns.getD 1 default))).1]else[])
  (if inR (ns.getD 0 default) 0 (D.su.pc.hands.length - 1)&&inR (ns.getD 1 default) 1 D.su.days.length then(uy t.pc (ns.getD 0 default) (t.tg.getD (ns.getD 0 default).toNat default) (t.turns (ns.getD 1 default))).2 else 2):=by
 have e:=DR e1 e2 D (by have:=c.small;omega) (ns.getD 0 default);have hd:=LW e1 e2 D (ns.getD 1 default);rw[sH]at e hd;have d:(0:Int)<=1:=by omega
 have b:0<ns.length:=by omega
 have l1:1<ns.length:=by omega
 have l:=c.small;cases h1:inR (ns.getD 0 default) 0 ((D.su.pc.hands.length:Int) - 1)
 ·refine yP (by simp) (ah eu bQ ?_)
  simp only[eu,bQ,gV,j0,t0,b,U,getD_map,aZ,RN,F,H,I,J,N,S];refine au e ?_;simp only[h1,RN,F,H,I,J,N,S];simp
 cases h2:inR (ns.getD 1 default) 1 (D.su.days.length:Int)
 ·refine yP (by simp) (ah eu bQ ?_)
  simp only[eu,bQ,gV,j0,t0,b,d,t1,l1,U,getD_map,aZ,RN,F,H,I,J,N,S];refine au e ?_;simp only[h1,j0,t0,b,d,t1,l1,U,getD_map,aZ,RN,F,H,I,J,N,S];refine au hd ?_;simp only[h2,RN,F,H,I,J,N,S];simp
 have hh:0<=ns.getD 0 default/\ns.getD 0 default<=(D.su.pc.hands.length:Int) - 1:=by simpa[inR]using h1
 have j:1<=ns.getD 1 default/\ns.getD 1 default<=(D.su.days.length:Int):=by simpa[inR]using h2
 have i:=zN D.su;have k:=Pc.zI g.pc;have a:=TK f1 f2 e1 e2 (D:=D) g (ns.getD 1 default) (by omega);have h:=YR t.pc (by omega) (by omega) (ns.getD 0 default) (t.tg.getD (ns.getD 0 default).toNat default) (t.turns (ns.getD 1 default));have f:(ns.getD 0 default).toNat<t.tg.length:=by rw[g.tl];omega
 rw[gV]at a;rw[jR,dG]at h;simp only[Bool.and_self,if_true];refine fJ (aC eu bQ ?_);simp only[eu,bQ,gV,j0,t0,b,d,t1,l1,U,getD_map,aZ,RN,F,H,I,J,N,S];refine au e ?_;simp only[h1,j0,t0,b,d,t1,l1,U,getD_map,aZ,RN,F,H,I,J,N,S];refine au hd ?_;rw[bT]at a;simp only[h2,bT,j0,t0,b,d,t1,l1,U,getD_map,aZ,hh.1,f,dG,RN,F,H,I,J,N,S];refine au a ?_;(try simp only[RN,F,H,I,J,N,S]);refine au h ?_;simp only[xH,ai,bC,dh,if_true,RN,F,H,I,J,N,S];exact⟨_,rfl,0,0,rfl,rfl⟩
def ahY (h:D.Ok)(s:ns.length=1):Ans 242 [vU f1 f2 e1 e2 D t,sF (ns.map ay)]
  (if inR (ns.getD 0 default) 1 D.su.days.length then[(MN D.su.cal D.su.year.toNat (D.su.first+(ns.getD 0 default - 1))).m,(MN D.su.cal D.su.year.toNat (D.su.first+(ns.getD 0 default - 1))).d]else[])
  (if inR (ns.getD 0 default) 1 D.su.days.length then 0 else 2):=by
 have hd:=LW e1 e2 D (ns.getD 0 default);rw[sH]at hd;have j:0<ns.length:=by omega
 cases h2:inR (ns.getD 0 default) 1 (D.su.days.length:Int)
 ·refine yP (by simp) (ah iD bQ ?_)
  simp only[iD,bQ,gV,j0,t0,j,U,getD_map,aZ,RN,F,H,I,J,N,S];refine au hd ?_;simp only[h2,RN,F,H,I,J,N,S];simp
 have n:1<=ns.getD 0 default/\ns.getD 0 default<=(D.su.days.length:Int):=by simpa[inR]using h2
 have l:=zN D.su;obtain⟨a,e⟩:∃a:Nat,ns.getD 0 default=((a+1:Nat):Int):=⟨(ns.getD 0 default - 1).toNat,by omega⟩
 have b:a<D.su.days.length:=by omega
 have r:cG .i64 (((a+1:Nat):Int) - 1)=(a:Int):=by rw[aF (by omega)];omega
 have p:(0:Int)<=(a:Int):=by omega
 have f:a<D.su.dur:=by simpa[Su.days,Su.tV]using b
 have g:D.su.days.getD a default=(D.su.first+a,D.su.works (D.su.first+a)):=by
  simp only[Su.days,Su.tV,List.getD_eq_getElem?_getD,cl,List.getElem?_range f,bS,bi]
 obtain⟨v,_,_,_,q,_,_,w,_⟩:=Su.facts h.su;have o:=Bl D.su.cal D.su.year.toNat;have k:=D.su.cal.mM D.su.year.toNat;have c:=ahH D.su.cal D.su.year.toNat (D.su.first+a) q (by omega) (by simp only[Su.first];omega) (by
  have e1:D.su.cal.first (D.su.year.toNat+1)=D.su.cal.first D.su.year.toNat+Bg (D.su.cal.leap D.su.year):=by
   rw[Cal.first];rw[show((D.su.year.toNat:Nat):Int)=D.su.year by omega]
  have e2:(D.su.dur:Int)=Bg (D.su.cal.leap D.su.year):=by
   have:=uF (D.su.cal.leap D.su.year);simp only[Su.dur];split at this<;>omega
  rw[e1,<-e2,Su.first];omega)
 have u:(ns.getD 0 default - 1)=(a:Int):=by omega
 rw[mF,yT]at c;rw[e]at hd h2;refine fJ (aC iD bQ ?_);simp only[iD,bQ,gV,j0,t0,j,U,getD_map,aZ,e,RN,F,H,I,J,N,S];refine au hd ?_;simp only[h2,bT,j0,t0,j,U,getD_map,aZ,e,r,p,b,aq,Xn,g,RN,F,H,I,J,N,S];refine au c ?_;simp only[Xr,ai,bC,dh,if_true,RN,F,H,I,J,N,S];refine⟨_,rfl,0,0,rfl,?_⟩;have i:(((a+1:Nat):Int) - 1)=(a:Int):=by omega
 rw[i]
 rfl
end
def tY (p:Int->Bool):Nat->Int->Option Int
 |0,_=>none
 |k+1,n=>if p n then some n else tY p k (n+1)
def Dk.BZ (D:Dk)(d:Int):Bool:=(D.su.days.getD (d - 1).toNat default).2
section
variable (f1 f2 e1 e2:Bool){D:Dk}{t:Sp}(ns:List Int)
def afa (d:Int)(hd:1<=d/\d<=D.su.days.length):Pure C 297 [dI d, .aV (l9 f1 f2 e1 e2 D t)] (.d (.bool (D.BZ d))) []:=by
 have a:=zN D.su;have c:cG .i64 (d - 1)=d - 1:=aF (by omega);have j0:0<=d - 1:=by omega
 have b:(d - 1).toNat<D.su.days.length:=by omega
 refine ah lW JU ?_;simp only[lW,JU,l9,bT,c,j0,b,U,getD_map,Xn,RN,F,H,I,J,N,S]
 rfl
def XA (a b:Int)(fn:FuncId)(c:List DV)(p:Int->Bool)(o:1<=a/\a<=b/\b<=1000000)(hc:callable C.P fn=true)(j:∀x,1<=x->x<=b->Pure C fn ([dI x]++c.map DV.strip) (.d (.bool (p x))) []):
  Pure C 296 [dI a,dI b, .func (.func fn) [] c] (.d (.tup [dI ((tY p (b+1 - a).toNat a).getD 0), .bool (tY p (b+1 - a).toNat a).isSome])) []:=by
 refine ah qH QA ?_;simp only[qH,QA,RN,F,H,I,J,N,S];refine qM (fun(n:Int)=>⟨[(1,pI b),(2, .d (.func (.func fn) [] c)),(8,pI n)],⟨[],[],[]⟩⟩)
  (fun n=>1<=n/\n<=b+1/\tY p (b+1 - a).toNat a=tY p (b+1 - n).toNat n) (fun n=>(b+1 - n).toNat) a rfl ⟨by omega,by omega,rfl⟩ (fun n i=> ?_)
 obtain⟨l,q,e⟩:=i
 by_cases f:n<=b
 ·obtain⟨k,h⟩:∃k,(b+1 - n).toNat=k+1:=⟨(b - n).toNat,by omega⟩
  rw[h,tY]at e;have m:cG .i64 (n+1)=n+1:=aF (by omega);simp only[f,RN,F,H,I,J,N,S];refine nG rfl hc rfl (j n l f) ?_;cases g:p n
  ·rw[g]at e
   simp only[Bool.false_eq_true,if_false]at e;simp only[m,RN,F,H,I,J,N,S];exact zx (a:=n) (μ:=fun n=>(b+1 - n).toNat) (n+1) (by show(b+1 - (n+1)).toNat<(b+1 - n).toNat;omega) rfl ⟨by omega,by omega,by rw[e,show(b+1 - (n+1)).toNat=k by omega]⟩
  ·rw[g]at e
   simp only[if_true]at e;simp only[e,bi,bL,RN,F,H,I,J,N,S]
 ·rw[show(b+1 - n).toNat=0 by omega,tY]at e
  simp only[f,e,bu,bE,RN,F,H,I,J,N,S]
def ahf (g:D.Ok)(h:ns.length=1):Ans 241 [vU f1 f2 e1 e2 D t,sF (ns.map ay)]
  (if inR (ns.getD 0 default) 1 D.su.days.length then(match tY D.BZ ((D.su.days.length:Int)+1 - ns.getD 0 default).toNat (ns.getD 0 default)with|some d=>[d]|none=>[])else[])
  (if inR (ns.getD 0 default) 1 D.su.days.length then(match tY D.BZ ((D.su.days.length:Int)+1 - ns.getD 0 default).toNat (ns.getD 0 default)with|some _=>0|none=>5)else 2):=by
 have hd:=LW e1 e2 D (ns.getD 0 default);rw[sH]at hd;have b:0<ns.length:=by omega
 cases h2:inR (ns.getD 0 default) 1 (D.su.days.length:Int)
 ·refine yP (by simp) (ah dL bQ ?_)
  simp only[dL,bQ,gV,j0,t0,b,U,getD_map,aZ,RN,F,H,I,J,N,S];refine au hd ?_;simp only[h2,RN,F,H,I,J,N,S];simp
 have f:1<=ns.getD 0 default/\ns.getD 0 default<=(D.su.days.length:Int):=by simpa[inR]using h2
 have e:=zN D.su;have a:=XA (ns.getD 0 default) (D.su.days.length:Int) 297 [.aV (l9 f1 f2 e1 e2 D t)] D.BZ (by omega) (by kernel_rfl) (fun x h1 h2=>afa f1 f2 e1 e2 x ⟨h1,h2⟩);simp only[if_true];cases c:tY D.BZ ((D.su.days.length:Int)+1 - ns.getD 0 default).toNat (ns.getD 0 default)with
 |none=>
  rw[c]at a;refine yP rfl (ah dL bQ ?_);simp only[dL,bQ,gV,j0,t0,b,U,getD_map,aZ,RN,F,H,I,J,N,S];refine au hd ?_;simp only[h2,bT,j0,t0,b,U,getD_map,aZ,RN,F,H,I,J,N,S];rw[l9,bT]at a;refine au a ?_;simp only[bE,RN,F,H,I,J,N,S]
 |some x=>
  rw[c]at a;refine fJ (aC dL bQ ?_);simp only[dL,bQ,gV,j0,t0,b,U,getD_map,aZ,RN,F,H,I,J,N,S];refine au hd ?_;simp only[h2,bT,j0,t0,b,U,getD_map,aZ,RN,F,H,I,J,N,S];rw[l9,bT]at a;refine au a ?_;simp only[bL,bi,xH,ai,bC,dh,RN,F,H,I,J,N,S];exact⟨_,rfl,0,0,rfl,rfl⟩
def TL (s:Su)(t:Sp)(turns:Int):List Fr->Nat->Bool
 | [],_=>false
 |f::l,h=> !PX s t h f turns||TL s t turns l (h+1)
def QS (s:Su)(t:Sp)(i:Nat):Bool:=TL s t (t.turns ((i:Int)+1)) t.tg 0
def uz (s:Su)(t:Sp)(n:Nat):Int:=(((cD n).filter (QS s t)).length:Nat)
def Wv (s:Su)(t:Sp)(n:Nat):uz s t (n+1)=if QS s t n then uz s t n+1 else uz s t n:=by
 simp only[uz,cA,b0,Y,cr,List.filter_nil]
 split<;>simp
def abZ (s:Su)(t:Sp)(n:Nat):0<=uz s t n/\uz s t n<=n:=by
 have:=cg (QS s t) (cD n);simp only[cm]at this;simp only[uz];omega
def ahi (m:D.Ok)(g:Dp D.su 24 t):Ans 240 [vU f1 f2 e1 e2 D t,sF (ns.map ay)] [uz D.su t D.su.days.length] 0:=by
 have p:=zN D.su;have q:=Pc.zI g.pc;have f:0<=D.su.lim/\D.su.lim<=10800:=by simpa[inR]using(Su.facts m.su).2.2.1
 have r:t.tg.length<=4:=by rw[g.tl,<-g.hh];omega
 refine fJ (aC nT bQ ?_);simp only[nT,bQ,gV,bT,U,ai,RN,F,H,I,J,N,S];refine aG D.su.days.length (fun i (_:Unit)=>⟨[(2, .d (.aV (l9 f1 f2 e1 e2 D t))),(6,pI (uz D.su t i)),(15,pI D.su.days.length),(16,pI i)],⟨[some ((l9 f1 f2 e1 e2 D t).map .d)],[0],[]⟩⟩)
  (fun _ _=>True) 0 () (aM _) (by rw[l9,bT];rfl) trivial (fun i _ k _=> ?_) (fun _ _=> ?_)
 ·obtain⟨o,z,n⟩:=rng k (by omega)
  have s:=abZ D.su t i;have x:cG .i64 (uz D.su t i+1)=uz D.su t i+1:=aF (by omega);have y:cG .i64 ((i:Int)+1)=(i:Int)+1:=aF (by omega);have c:=TK f1 f2 e1 e2 (D:=D) g ((i:Int)+1) (by omega);rw[gV]at c;have b:=Wv D.su t i;simp only[o,l9,bT,U,RN,F,H,I,J,N,S];refine aG t.tg.length (fun h (_:Unit)=>⟨[(2, .d (.aV (l9 f1 f2 e1 e2 D t))),(6,pI (uz D.su t i)),(7,pI i),(15,pI D.su.days.length),(16,pI i),(24, .d (sF (t.tg.map Fr.dv))),(25,pI t.tg.length),(26,pI h)],⟨[some ((l9 f1 f2 e1 e2 D t).map .d)],[0],[]⟩⟩)
   (fun h _=>QS D.su t i=TL D.su t (t.turns ((i:Int)+1)) (t.tg.drop h) h) 0 () (aM _) (by rw[l9,bT];rfl) rfl (fun h _ j a=> ?_) (fun _ a=> ?_)
  ·obtain⟨u,v,w⟩:=rng j (by omega)
   rw[drop_cons j,TL]at a;have l:=adE f1 f2 D.su t h (t.tg.getD h default) (t.turns ((i:Int)+1)) (by omega) (by omega) f;rw[dG]at l;rw[bT]at c l;simp only[l9,bT,u,v,j,getD_map,dG,aq,U,y,RN,F,H,I,J,N,S];refine au c ?_;(try simp only[RN,F,H,I,J,N,S]);refine au l ?_;cases e:PX D.su t h (t.tg.getD h default) (t.turns ((i:Int)+1))
   ·rw[e]at a
    simp only[Bool.not_false,Bool.true_or]at a;rw[if_pos a]at b;simp only[x,n,RN,F,H,I,J,N,S];refine bK 1 0 () k ?_ trivial (by simp) (by simp) rfl rfl;rw[b];rfl
   ·rw[e]at a
    simp only[cE,Bool.false_or]at a;simp only[w,RN,F,H,I,J,N,S];exact bK 1 0 () j rfl a (by simp) (by simp) rfl rfl
  ·rw[bR,TL]at a
   rw[if_neg (by rw[a];simp)]at b;simp only[be,n,RN,F,H,I,J,N,S];refine kZ () k ?_ trivial;rw[b,l9,bT];rfl
 ·simp only[be,xH,ai,bC,dh,RN,F,H,I,J,N,S]
  exact⟨_,rfl,0,0,rfl,rfl⟩
end
end Go.Tel
namespace Go.Am
section
variable {C:Ctx}{base:Nat}{KP:DV->Mem->Prop}{K:PV->Mem->Prop}{M:Mem}
def Yc {ok:Bool}{ks:List Nat}{z k:DV}{l:List (DV×DV)}(r:Option DV)(h1:gK ks k k=some true)(h2:oh ks l k=some r)(a:K (.d (DK ok z r)) M):ak C base (.FD ok ks z) [.d (.map (some l)), .d k] M K KP:=by
 simp only[ak,h1,h2];exact a
def Ut {z1 h i:DV}{e f g:IntKind}{a b c:Int}:ak C base (.dA 1 [z1,h,i] [0,1,2]) [.d (.int e a), .d (.int f b), .d (.int g c)] M K KP=K (.d (.slice true [.int e a, .int f b, .int g c])) M:=by
 have:=zT (M:=M) (ds:=[DV.int e a, .int f b, .int g c]);simp only[aE,bq]at this;simp[ak,cZ,datum,qy,this,DV.strip,DV.cells]
end
end Go.Am
namespace Go.Tel
open Go.Am
def aeW {α:Type}{l:List α}{x y:α}:vP (l++ [x,y])=1:=by cases l<;>rfl
def OA {α:Type}{l:List α}{x y z:α}:vP (l++ [x,y,z])=1:=by cases l<;>rfl
def BI (p:Pc)(h:Int):List Int:=[((lQ p).getD h.toNat default).n,((lQ p).getD h.toNat default).d]
def adh (p:Pc):List Int:=p.hands.flatMap (BI p)
def E8 (op:List (Int×Fr))(i:Nat):List Int:=match lV op i with|some f=>[(i:Int),f.n,f.d]|none=>[]
def oD (op:List (Int×Fr))(n:Nat):List Int:=(cD n).flatMap (E8 op)
def FV (op:List (Int×Fr))(n:Nat):oD op (n+1)=oD op n++E8 op n:=by simp[oD,cA]
def IG (op:List (Int×Fr)):∀n,(oD op n).length<=3*n
 |0=>by simp[oD]
 |n+1=>by
  have:=IG op n;have h:(E8 op n).length<=3:=by unfold E8;split<;>simp
  rw[FV,Y];omega
def ahU (c:Chg):List Int:=[c.link,c.pr.a,c.pr.b]
def FK (l:List Chg):List Int:=l.flatMap ahU
def aaq (l:List Chg):(FK l).length=3*l.length:=by
 induction l with
 |nil=>rfl
 |cons x l a=>simp only[FK,b7,Y,ae]at a⊢;rw[a];simp[ahU];omega
def UA (p:Pc)(l:List Int):(l.flatMap (BI p)).length=2*l.length:=by
 induction l with
 |nil=>rfl
 |cons x l a=>simp only[b7,Y,ae,a];simp[BI];omega
section
variable (f1 f2 e1 e2:Bool){D:Dk}{t:Sp}(ns:List Int)
def afZ (f:Dp D.su 24 t):Ans 234 [vU f1 f2 e1 e2 D t,sF (ns.map ay)] (adh t.pc) 0:=by
 have m:=Pc.zI f.pc;have l:=Pc.good f.pc;have g:=afi t.pc f.pc;rw[jR]at g;refine fJ (aC nR bQ ?_);simp only[nR,bQ,gV,bT,U,ai,RN,F,H,I,J,N,S];refine au g ?_;simp only[U,RN,F,H,I,J,N,S];refine aG t.pc.hands.length (fun i (v:Nat)=>⟨[(6, .d (sF ((lQ t.pc).map Fr.dv))),(8,pI 0),(9, .tsl 1 v 0),(29, .d (sF (t.pc.hands.map ay))),(30,pI t.pc.hands.length),(31,pI i)],
   ⟨[some ((l9 f1 f2 e1 e2 D t).map .d)],[0],[some ⟨1,[],0,0⟩,some ⟨1,((t.pc.hands.take i).flatMap (BI t.pc)).map ay,v,vP ((t.pc.hands.take i).flatMap (BI t.pc))⟩]⟩⟩)
  (fun _ _=>True) 0 0 (aM _) (by rw[l9,bT];rfl) trivial (fun i v a _=> ?_) (fun v _=> ?_)
 ·obtain⟨h,j,k⟩:=rng a (by omega)
  have hh:=l.hd _ (getD_mem a);have o:0<=t.pc.hands.getD i default:=by omega
  have p:(t.pc.hands.getD i default).toNat<(lQ t.pc).length:=by simp only[lQ,ae,U,cm];omega
  have e:(t.pc.hands.take (i+1)).flatMap (BI t.pc)=(t.pc.hands.take i).flatMap (BI t.pc)++ [((lQ t.pc).getD (t.pc.hands.getD i default).toNat default).n,((lQ t.pc).getD (t.pc.hands.getD i default).toNat default).d]:=by
   rw[dP a];simp[BI]
  have b:=UA t.pc (t.pc.hands.take i);have c:¬vP ((t.pc.hands.take i).flatMap (BI t.pc))=2:=Fj;simp only[h,j,a,o,p,getD_map,aZ,dG,aq,U,oC,c,RN,F,H,I,J,N,S];refine⟨by rintro y (rfl|rfl)<;>rfl,by simp,by rw[b];simp only[ct];omega,?_⟩;simp only[k,RN,F,H,I,J,N,S];refine kZ (v+1) a ?_ trivial;rw[e,aeW];simp[ay]
 ·simp only[be,bC,dh,RN,F,H,I,J,N,S]
  rw[bA];exact⟨_,rfl,1,v,rfl,rfl⟩
def ad5 (l:Dp D.su 24 t):Ans 236 [vU f1 f2 e1 e2 D t,sF (ns.map ay)] (oD t.op t.pc.hands.length) 0:=by
 have j:=Pc.zI l.pc;refine fJ (aC mW bQ ?_);simp only[mW,bQ,gV,bT,U,ai,RN,F,H,I,J,N,S];refine aG t.pc.hands.length (fun i (v:Nat)=>⟨[(2, .d (.aV (l9 f1 f2 e1 e2 D t))),(6, .tsl 1 v 0),(17,pI t.pc.hands.length),(18,pI i)],
   ⟨[some ((l9 f1 f2 e1 e2 D t).map .d)],[0],[some ⟨1,[],0,0⟩,some ⟨1,(oD t.op i).map ay,v,vP (oD t.op i)⟩]⟩⟩)
  (fun _ _=>True) 0 0 (aM _) (by rw[l9,bT];rfl) trivial (fun i v b _=> ?_) (fun v _=> ?_)
 ·obtain⟨h,m,e⟩:=rng b (by omega)
  have k:=IG t.op i;have c:¬vP (oD t.op i)=2:=Fj;have a:=FV t.op i;simp only[h,l9,bT,RN,F,H,I,J,N,S];refine Yc ((lV t.op i).map Fr.dv) (uM i) (EZ _ _) ?_;cases g:lV t.op i with
  |none=>
   rw[E8,g,bj]at a;simp only[DK,bh,bu,bE,av,ai,or_false,e,RN,F,H,I,J,N,S];refine bK 1 2 v b ?_ trivial (by simp) (by simp) rfl rfl;rw[a];rfl
  |some f=>
   rw[E8,g]at a;simp only[DK,bS,bi,bL,dG,av,ai,or_false,Ut,c,U,RN,F,H,I,J,N,S];refine⟨by rintro y (rfl|rfl|rfl)<;>rfl,by simp,by omega,?_⟩;simp only[e,RN,F,H,I,J,N,S];refine bK 1 2 (v+1) b ?_ trivial (by simp) (by simp) rfl rfl;rw[a,OA];simp[ay]
 ·simp only[be,bC,dh,RN,F,H,I,J,N,S]
  exact⟨_,rfl,1,v,rfl,rfl⟩
def sO (D:Dk)(t:Sp)(hand a b:Int):List Int×Int:=
 if inR hand 0 (D.su.pc.hands.length - 1)&&bH a&&bH b&&inR (b - a) 0 10 then
  (match lV t.op hand with
  |none=>([],7)
  |some f=>(FK (t.pc.changes a b hand f).1,(t.pc.changes a b hand f).2))
 else([],2)
def Ue (p:Pc)(a b h:Int)(f:Fr):(p.changes a b h f).1.length<=2:=by
 unfold Pc.changes
 split
 ·split
  ·rename_i c;have:=vw c;simp only;omega
  ·split
   ·rename_i c;have:=vw c;simp only;omega
   ·split
    ·rename_i c;have:=vw c;simp only;omega
    ·simp
 ·simp
def ai9 (E:D.Ok)(T:Dp D.su 24 t)(V:ns.length=3):Ans 238 [vU f1 f2 e1 e2 D t,sF (ns.map ay)]
  (sO D t (ns.getD 0 default) (ns.getD 1 default) (ns.getD 2 default)).1 (sO D t (ns.getD 0 default) (ns.getD 1 default) (ns.getD 2 default)).2:=by
 have R:=Pc.zI T.pc;have j:=DR e1 e2 D (by have:=E.small;omega) (ns.getD 0 default);rw[sH]at j;have u:0<ns.length:=by omega
 have q:(0:Int)<=1:=by omega
 have l1:1<ns.length:=by omega
 have s:(0:Int)<=2:=by omega
 have l2:2<ns.length:=by omega
 generalize m:ns.getD 0 default=A at*;generalize o:ns.getD 1 default=B at*;generalize p:ns.getD 2 default=Cc at*;cases h1:inR A 0 ((D.su.pc.hands.length:Int) - 1)
 ·have c:sO D t A B Cc=([],2):=by simp[sO,h1]
  rw[c];refine fJ (aC aX bQ ?_);simp only[aX,bQ,gV,j0,t0,u,q,t1,l1,s,t2,l2,U,getD_map,aZ,m,o,p,RN,F,H,I,J,N,S];refine au j ?_;simp only[h1,bC,dh,RN,F,H,I,J,N,S];exact⟨_,rfl,1,0,rfl,rfl⟩
 cases h2:bH B
 ·have c:sO D t A B Cc=([],2):=by simp[sO,h2]
  rw[c];refine fJ (aC aX bQ ?_);simp only[aX,bQ,gV,j0,t0,u,q,t1,l1,s,t2,l2,U,getD_map,aZ,m,o,p,RN,F,H,I,J,N,S];refine au j ?_;simp only[h1,RN,F,H,I,J,N,S];refine au (lF _) ?_;simp only[h2,bC,dh,RN,F,H,I,J,N,S];exact⟨_,rfl,1,0,rfl,rfl⟩
 cases g:bH Cc
 ·have c:sO D t A B Cc=([],2):=by simp[sO,g]
  rw[c];refine fJ (aC aX bQ ?_);simp only[aX,bQ,gV,j0,t0,u,q,t1,l1,s,t2,l2,U,getD_map,aZ,m,o,p,RN,F,H,I,J,N,S];refine au j ?_;simp only[h1,RN,F,H,I,J,N,S];refine au (lF _) ?_;simp only[h2,RN,F,H,I,J,N,S];refine au (lF _) ?_;simp only[g,bC,dh,RN,F,H,I,J,N,S];exact⟨_,rfl,1,0,rfl,rfl⟩
 have L: -1000000<=B/\B<=1000000:=by simp only[bH,inR,aR,decide_eq_true_eq]at h2;omega
 have M: -1000000<=Cc/\Cc<=1000000:=by simp only[bH,inR,aR,decide_eq_true_eq]at g;omega
 have K:cG .i64 (Cc - B)=Cc - B:=aF (by omega);cases k:inR (Cc - B) 0 10
 ·have c:sO D t A B Cc=([],2):=by simp[sO,k]
  rw[c];refine fJ (aC aX bQ ?_);simp only[aX,bQ,gV,j0,t0,u,q,t1,l1,s,t2,l2,U,getD_map,aZ,m,o,p,RN,F,H,I,J,N,S];refine au j ?_;simp only[h1,RN,F,H,I,J,N,S];refine au (lF _) ?_;simp only[h2,RN,F,H,I,J,N,S];refine au (lF _) ?_;simp only[g,K,RN,F,H,I,J,N,S];refine au (yX _ _ _) ?_;simp only[k,bC,dh,RN,F,H,I,J,N,S];exact⟨_,rfl,1,0,rfl,rfl⟩
 cases x:lV t.op A with
 |none=>
  have c:sO D t A B Cc=([],7):=by simp[sO,h1,h2,g,k,x]
  rw[c];refine fJ (aC aX bQ ?_);simp only[aX,bQ,gV,j0,t0,u,q,t1,l1,s,t2,l2,U,getD_map,aZ,m,o,p,RN,F,H,I,J,N,S];refine au j ?_;simp only[h1,RN,F,H,I,J,N,S];refine au (lF _) ?_;simp only[h2,RN,F,H,I,J,N,S];refine au (lF _) ?_;simp only[g,K,RN,F,H,I,J,N,S];refine au (yX _ _ _) ?_;simp only[k,bT,RN,F,H,I,J,N,S];refine Yc ((lV t.op A).map Fr.dv) (uM A) (EZ _ _) ?_;simp only[x,DK,bh,bu,bE,av,ai,or_false,bC,dh,RN,F,H,I,J,N,S];exact⟨_,rfl,1,0,rfl,rfl⟩
 |some f=>
  have h:=ZH t.pc B Cc A f (by omega) (by omega) M L;have z:=Ue t.pc B Cc A f;rw[jR,dG]at h;have c:sO D t A B Cc=(FK (t.pc.changes B Cc A f).1,(t.pc.changes B Cc A f).2):=by simp[sO,h1,h2,g,k,x]
  rw[c];generalize W:t.pc.changes B Cc A f=r at*;obtain⟨l,e⟩:=r;simp only at h z⊢;refine fJ (aC aX bQ ?_);simp only[aX,bQ,gV,j0,t0,u,q,t1,l1,s,t2,l2,U,getD_map,aZ,m,o,p,RN,F,H,I,J,N,S];refine au j ?_;simp only[h1,RN,F,H,I,J,N,S];refine au (lF _) ?_;simp only[h2,RN,F,H,I,J,N,S];refine au (lF _) ?_;simp only[g,K,RN,F,H,I,J,N,S];refine au (yX _ _ _) ?_;simp only[k,bT,RN,F,H,I,J,N,S];refine Yc ((lV t.op A).map Fr.dv) (uM A) (EZ _ _) ?_;simp only[x,DK,bS,bi,bL,dG,av,ai,or_false,RN,F,H,I,J,N,S];refine au h ?_;simp only[U,RN,F,H,I,J,N,S];refine aG l.length (fun i (v:Nat)=>⟨[(12,pI e),(13, .tsl 1 v 0),(73, .d (.slice (e !=0) (l.map Chg.dv))),(74,pI l.length),(75,pI i)],
    ⟨[some ((l9 f1 f2 e1 e2 D t).map .d),some [pI f.n,pI f.d]],[1,0],[some ⟨1,[],0,0⟩,some ⟨1,(FK (l.take i)).map ay,v,vP (FK (l.take i))⟩]⟩⟩)
   (fun _ _=>True) 0 0 (aM _) (by rw[l9,bT];rfl) trivial (fun i v w _=> ?_) (fun v _=> ?_)
  ·obtain⟨O,P,Q⟩:=rng w (by omega)
   have G:FK (l.take (i+1))=FK (l.take i)++ [(l.getD i default).link,(l.getD i default).pr.a,(l.getD i default).pr.b]:=by
    rw[dP w];simp[FK,ahU]
   have C:=aaq (l.take i);have c:¬vP (FK (l.take i))=2:=Fj;simp only[O,P,w,getD_map,Dv,aq,U,Ut,c,av,ai,or_false,RN,F,H,I,J,N,S];refine⟨by rintro y (rfl|rfl|rfl)<;>rfl,by simp,by rw[C];simp only[ct];omega,?_⟩;simp only[Q,RN,F,H,I,J,N,S];refine bK 2 2 (v+1) w ?_ trivial (by simp) (by simp) rfl rfl;rw[G,OA];simp[ay]
  ·simp only[be,bC,dh,RN,F,H,I,J,N,S]
   rw[bA];exact⟨_,rfl,1,v,rfl,rfl⟩
end
def IE (n:Int):List DV:=[dI n]
def Wp (xs:List Int)(ex:Bool)(hl:xs.length<=1000000):
  O9 C 332 [] [.d (.aV [.slice ex (xs.map ay)])] (xs.map IE) no no no (fun _=>True):=by
 rintro⟨bs,fz,ar⟩ b n R stop K KP B D r E _ G kV A e f;simp only at r;refine aC rG fB ?_;simp only[rG,fB,U,RN,F,H,I,J,N,S];refine AB (fun m s=>∃(i:Nat) (g:Mem),m=xs.length - i/\i<=xs.length/\s=⟨[(0, .nM b),(5, .d (.slice ex (xs.map ay))),(6,pI xs.length),(7,pI i)],g⟩/\n<=g.boxes.length/\R ((xs.take i).map IE) g)
  xs.length ⟨0,_,rfl,aM _,rfl,r,A⟩ ?_
 rintro m s ⟨i,⟨v,w,u⟩,rfl,M,rfl,c,h⟩
 by_cases a:i<xs.length
 case neg=>
  have k:i=xs.length:=by omega
  subst k;simp only[be,RN,F,H,I,J,N,S];rw[bA]at h;exact f _ _ c h
 obtain⟨x,y,z⟩:=rng a hl;simp only[x,y,a,getD_map,aZ,aq,U,RN,F,H,I,J,N,S];refine zO ?_;refine SY.mono (kV ((xs.take i).map IE) (IE (xs.getD i default)) ((xs.drop (i+1)).map IE) _ (by
  conv=>lhs;rw[<-List.take_append_drop i xs,drop_cons a]
  simp) c h) ?_
 rintro p t ⟨l,L⟩;have o:=l.len;simp only at o c
 rcases L with⟨rfl,j⟩|⟨rfl,q⟩
 ·simp only[z,RN,F,H,I,J,N,S]
  refine⟨xs.length - (i+1),_,by omega, .inl rfl,i+1,t,rfl,by omega,rfl,by omega,?_⟩;rw[dP a,bk];exact j
 ·(try simp only[RN,F,H,I,J,N,S])
  exact e _ _ q
def AU (ex:Bool)(xs:List Int):DV:= .func (.func 332) [] [.aV [.slice ex (xs.map ay)]]
def ZP (xs:List Int)(ex:Bool)(hl:xs.length<=1000000){bs:List (Option (List PV))}{fz:List Nat}{ar:List (Option Arr)}(w:FzB ⟨bs,fz,ar⟩){KP:DV->Mem->Prop}:
  SC C 356 [.d (.slice true []), .d (AU ex xs)] ⟨bs,fz,ar⟩ (fun p M'=>slN 1 true p (xs.map ay) M'.aB/\Frm ⟨bs,fz,ar⟩ M'/\(∀k,kOf p=some k->ar.length<=k)/\(xs=[]->p= .d (.slice true []))) KP:=by
 have T:bs.length∉fz:=fun e=>aD _ (w _ e)
 refine aC qJ aQ ?_;simp only[qJ,aQ,AU,aN,aT,Y,RN,F,H,I,J,N,S];refine qc (Wp xs ex hl) (fun _ h=>h) rfl (by kernel_rfl) (fun i t=>by have:=w i t;simp at this⊢;omega) (fun x u=>by obtain⟨i,_,rfl⟩:=bl.1 u;rfl) (fun _ h=>h.elim) (fun _ _=>trivial)
  (fun q v=>∃l r c,xs=l++r/\q=l.map IE/\v.boxes[bs.length]?=some (some [c])/\bs.length∉v.fz/\slN 1 true c (l.map ay) v.aB/\Frm ⟨bs,fz,ar⟩ v/\(∀k,kOf c=some k->ar.length<=k)/\(l=[]->c= .d (.slice true []))) ?_ ?_ ?_ ?_
 ·rintro q v M2 z ⟨l,r,c,f,s,m,B,D,a,E,K⟩
  simp only[Y,ae,ap]at z;exact⟨l,r,c,f,s,(z.box _ (by omega) id).trans m,fun e=>B ((z.fz _ (by omega) id).1 e),by rw[z.aB];exact D,a.moved z (by simp),E,K⟩
 ·exact⟨[],xs,_,rfl,rfl,by simp only;rw[aN rfl];rfl,T, .inl ⟨rfl,rfl⟩,Frm.new (xf:=[]) (by simp),(fun k hk=>by cases hk),fun _=>rfl⟩
 ·rintro L cells q x post ⟨n,O,M⟩ u o g A ⟨l,r,c,f,s,m,B,D,a,E,K⟩ M0
  simp only[Y,ae,ap]at o g A m B⊢;obtain⟨p,G,rfl⟩:∃p G,r=p::G:=by
   cases r with
   |nil=>
    rw[f,s]at u;have:=congrArg bo u;simp at this
   |cons p G=>exact⟨p,G,rfl⟩
  have V:x=IE p:=by
   rw[f,s,bk,aE]at u;have:=bt u;exact(List.cons.inj this).1.symm
  subst V;have b:bs.length<n.length:=by omega
  have Z:l.length<=1000000:=by have:=congrArg bo f;simp at this;omega
  simp only[IE,bB,bN,aE,bq,m,b,dV,DV.strip,RN,F,H,I,J,N,S];refine LZ D (by decide) (by intro y hy;simp only[aL]at hy;subst hy;rfl) (by simp) (by simp;omega) fun k ver st ab a1 a2 a3 W a5 a6=> ?_
  have U:=a6 rfl;subst U;simp only[m,b,B,bV,dM,uH,RN,F,H,I,J,N,S];have Q:ar.length<=k:=by
   rcases a1 with a1|a1
   ·exact E k a1
   ·have:=a.bn;simp only at this;omega
  refine⟨by rw[am (by omega)];exact g,A,Kept.Je (by omega) id W (fun _ h=>h.elim),l++ [p],G, .tsl k ver 0,by rw[f];simp,by rw[s];simp[IE],by simp[b], .inr ⟨k,ver,1,rfl,by rw[a2];simp[ay],by decide,fun _=> .inl rfl⟩,?_,(fun k' P=>by cases P;exact Q),fun e=>by simp at e⟩;exact
  {len:=by have:=a.len;simpa using this
   bn:=ax a.bn W
   box:=fun i t=>by
    have:=a.box i t;simp only at t this⊢;rw[am (by omega)];exact this
   fz:=a.fz
   row:=fun j X=>by
    have:=a.row j X;have R:=a.bn;simp only at X this R⊢;rw[a3 j (by omega) (by omega)];exact this
   fzb:=fun e i t=>by have:=a.fzb e i t;simpa using this}
 ·rintro⟨n,O,M⟩ ⟨l,r,c,f,s,m,B,D,a,E,K⟩ o
  simp only[Y,ae,ap]at o m;have hr:r=[]:=by
   have:=congrArg bo s;rw[f]at this;simp at this;exact this
  subst hr;rw[bj]at f;subst f;have b:bs.length<n.length:=by omega
  simp only[m,b,RN,F,H,I,J,N,S];exact⟨D,a,E,K⟩
end Go.Tel
namespace Go.Proofs
open Go.Shelf
end Go.Proofs
namespace Go.Tel
open Go.Am
def afj {k ver:Nat}{zs:List Int}{bs:List (Option (List PV))}{fz:List Nat}{ar:List (Option Arr)}{K:PV->Mem->Prop}{KP:DV->Mem->Prop}
  (h:ar[k]?=some (some ⟨1,zs.map (DV.int .i64),ver,1⟩))(b:zs≠[])(hl:zs.length<4611686018427387904)
  (a:K (.d (.tup [])) ⟨bs,fz,ar.set k (some ⟨1,(zs.mergeSort fun x y=>decide (x<=y)).map (DV.int .i64),ver,1⟩)⟩):SC Go.Tel.C 331 [.tsl k ver 0] ⟨bs,fz,ar⟩ K KP:=
 ag2 (C:=Go.Tel.C) Go.Proofs.Tryz.laysSort h b hl a
def ab8 (ex:Bool):Pure C 331 [.slice ex []] (.d (.tup [])) []:=by
 refine o7 fun X w g l j i=> ?_
 cases i with|cons h1 t1=>
 cases t1;have b:∀a cap,Calls C.P 331 #[.slice a 0 cap] w fun e c=>∃v,e= .returned v/\Later w c/\bF c X v (.tup []):=by
  intro a cap;refine(Go.Proofs.Any.slices_Sort_int_none Go.Proofs.Tryz.laysSort a cap w).mono ?_;rintro e c ⟨rfl,rfl⟩;exact⟨_,rfl,Later.refl _, .tup .nil⟩
 cases h1 with
 |empty j=>exact b _ _
 |slice m o f p n k h=>
  simp only[ap]at f;subst f;exact b _ _
def MK (xs:List Int)(ex:Bool)(hl:xs.length<=1000000){bs:List (Option (List PV))}{fz:List Nat}{ar:List (Option Arr)}(a:FzB ⟨bs,fz,ar⟩){KP:DV->Mem->Prop}:
  SC C 330 [.d (AU ex xs)] ⟨bs,fz,ar⟩ (fun p M'=>slN 1 true p (xs.map ay) M'.aB/\Frm ⟨bs,fz,ar⟩ M'/\(∀k,kOf p=some k->ar.length<=k)/\(xs=[]->p= .d (.slice true []))) KP:=by
 refine aC tH aS ?_;simp only[tH,aS,RN,F,H,I,J,N,S];refine SC.kL (SC.mono (ZP xs ex hl a (KP:=fun _ _=>False)) ?_) (fun _ _ h=>h.elim);rintro p ⟨c,e,b⟩ h;(try simp only[RN,F,H,I,J,N,S]);exact h
def Oy (xs:List Int):List Int:=xs.mergeSort fun x y=>decide (x<=y)
def abM:Oy []=[]:=by simp[Oy]
def aeP {xs:List Int}(h:xs≠[]):Oy xs≠[]:=fun e=>h (by
 have:=congrArg bo e;simp only[Oy,List.length_mergeSort,ap]at this;exact List.eq_nil_of_length_eq_zero this)
def Ls {α:Type}{l:List α}(h:l≠[]):vP l=1:=by cases l with|nil=>exact absurd rfl h|cons _ _=>rfl
def aeQ (xs:List Int)(ex:Bool)(hl:xs.length<=1000000)(hx:xs≠[]):Pure C 288 [AU ex xs] (.tsl 0 0 0) [⟨1,(Oy xs).map ay,0,1⟩]:=by
 refine La (aC jK aS ?_);simp only[jK,aS,RN,F,H,I,J,N,S];refine SC.kL (SC.mono (MK xs ex hl (bs:=[]) (fz:=[]) (ar:=[]) (by intro i f;simp at f) (KP:=fun _ _=>False)) ?_) (fun _ _ h=>h.elim);rintro p ⟨d,e,c⟩ ⟨h1,h2,g,j⟩;obtain⟨k,ver,st,rfl,b,_,a⟩:=Fg h1 (by simpa using hx);have a:=a rfl;subst a;simp only at b;(try simp only[RN,F,H,I,J,N,S]);refine afj (zs:=xs) b hx (by omega) ?_;(try simp only[RN,F,H,I,J,N,S]);exact⟨k,ver,rfl,by simp only;rw[bv (V.1 b).1];rfl⟩
def Yz (ex:Bool):Pure C 288 [AU ex []] (.d (.slice true [])) []:=by
 refine dR (aC jK aS ?_);simp only[jK,aS,RN,F,H,I,J,N,S];refine SC.kL (SC.mono (MK [] ex (by simp) (bs:=[]) (fz:=[]) (ar:=[]) (by intro i f;simp at f) (KP:=fun _ _=>False)) ?_) (fun _ _ h=>h.elim);rintro p ⟨b,c,a⟩ ⟨h1,h2,j,e⟩;have g:=e rfl;subst g;(try simp only[RN,F,H,I,J,N,S]);refine Zr (ab8 false) rfl (ds:=[.slice true []]) rfl rfl ?_;(try simp only[RN,F,H,I,J,N,S])
 rfl
def ae4 (xs:List Int)(ex:Bool):Pure C 289 [.slice ex (xs.map ay)] (.d (AU ex xs)) []:=by
 refine ah uZ aS ?_;simp only[uZ,aS,ai,RN,F,H,I,J,N,S]
 rfl
section
variable (f1 f2 e1 e2:Bool){D:Dk}{t:Sp}(ns:List Int)
def ae7 (e:Dp D.su 24 t):Ans 235 [vU f1 f2 e1 e2 D t,sF (ns.map ay)] (Oy t.dW) 0:=by
 have d:=e.st;have c:=ae4 t.dW false
 by_cases a:t.dW=[]
 ·have b:=Yz false
  rw[a]at c⊢;refine yP abM (ah gq bQ ?_);simp only[gq,bQ,gV,bT,a,ai,RN,F,H,I,J,N,S];refine au c ?_;(try simp only[RN,F,H,I,J,N,S]);refine pR rfl rfl b (by simp) ?_;simp only[PV.shift,jE,RN,F,H,I,J,N,S]
 ·have b:=aeQ t.dW false (by omega) a
  refine fJ (aC gq bQ ?_);simp only[gq,bQ,gV,bT,ai,RN,F,H,I,J,N,S];refine au c ?_;(try simp only[RN,F,H,I,J,N,S]);refine pR rfl rfl b (by simp) ?_;simp only[PV.shift,jE,bC,dh,RN,F,H,I,J,N,S];exact⟨_,rfl,0,0,rfl,by rw[Ls (aeP a)];rfl⟩
def Jk {D:Dk}(hl:D.es.length=D.st.length)(ab:D.es.length<=1000)(hf:∀x∈D.es,uN x.kind<=x.ns.length):
  O9 C 280 [.d (.aV (GK e1 e2 D))] [] (cO D 0) no no no (fun _=>True):=by
 rintro⟨bs,fz,ar⟩ b n R stop K KP ac ai hn y am P kV h0 u w;simp only at hn y;refine aC gX fB ?_;simp only[gX,fB,GK,U,RN,F,H,I,J,N,S];refine AB (fun m s=>∃(i:Nat) (f:List (List DV)) (B:Mem),m=D.es.length - i/\i<=D.es.length/\s=⟨[(0, .d (.aV (GK e1 e2 D))),(1, .nM b),(9, .d (.slice e1 (D.es.map En.dv))),(10,pI D.es.length),(11,pI i)],B⟩/\n<=B.boxes.length/\FzB B/\cO D 0=f++cO D i/\R f B)
  D.es.length ⟨0,[],_,rfl,aM _,rfl,hn,y,rfl,h0⟩ ?_
 rintro m s ⟨i,f,⟨g,q,v⟩,rfl,hi,rfl,h,l,c,Z⟩;simp only at h;have Q:g.length∉q:=fun e=>aD _ (l _ e)
 by_cases t:i<D.es.length
 case neg=>
  have M:i=D.es.length:=by omega
  subst M;simp only[be,RN,F,H,I,J,N,S];refine w _ _ h ?_;rw[c];have:cO D D.es.length=[]:=by simp[cO,kX]
  rw[this,bj];exact Z
 have A:(i:Int)<(D.es.length:Int):=by omega
 have o:i<D.st.length:=by omega
 have j0:(0:Int)<=(i:Int):=by omega
 have X:cG .i64 ((i:Int)+1)=((i+1:Nat):Int):=by rw[aF (by omega)];omega
 have a:=ED hl t;obtain⟨x,V⟩:∃x,x=D.es.getD i default:=⟨_,rfl⟩
 have W:x∈D.es:=by rw[V];exact getD_mem t
 have UG:=MO x (hf x W);rw[<-V]at a;rw[Ci]at UG;have r:R f ⟨g++ [some [pI x.kind, .d (sF (x.ns.map ay))]],g.length::q,v⟩:=
  P f _ _ (Moved.ext (xf:=[g.length]) (xb:=[_]) h (by simpa using h)) Z
 have XI:FzB ⟨g++ [some [pI x.kind, .d (sF (x.ns.map ay))]],g.length::q,v⟩:=by
  intro j hj;simp only[av]at hj;simp only[Y,ae,ap]
  rcases hj with rfl|hj
  ·omega
  ·have:=l j hj;simp only at this;omega
 simp only[A,t,j0,aq,U,getD_map,<-V,Ci,Q,aY,aN,aT,Y,RN,F,H,I,J,N,S]
 by_cases G:x.kind=6
 ·have E:(x.kind !=6)=false:=by simp[G]
  rw[if_neg (by simp[G])]at a;simp only[E,X,RN,F,H,I,J,N,S];refine⟨D.es.length - (i+1),_,by omega, .inl rfl,i+1,f,_,rfl,by omega,rfl,by simp;omega,XI,by rw[c,a],r⟩
 have E:(x.kind !=6)=true:=by simp[G]
 cases k:D.st.getD i default
 case true=>
  rw[if_neg (fun e=>by rw[k]at e;cases e.2)]at a;simp only[GK,E,o,j0,aq,U,getD_map,qo,k,X,RN,F,H,I,J,N,S];refine⟨D.es.length - (i+1),_,by omega, .inl rfl,i+1,f,_,rfl,by omega,rfl,by simp;omega,XI,by rw[c,a],r⟩
 rw[if_pos ⟨G,k⟩]at a;simp only[GK,E,o,j0,aq,U,getD_map,qo,k,RN,F,H,I,J,N,S];refine au UG ?_;(try simp only[RN,F,H,I,J,N,S]);refine zO ?_;refine SY.mono (kV f (nJ (i,x.deed)) (cO D (i+1)) _ (by rw[c,a]) (by simp;omega) r) ?_;rintro p M3 ⟨z,hp⟩
 rcases hp with⟨rfl,L⟩|⟨rfl,T⟩
 ·simp only[X,RN,F,H,I,J,N,S]
  have O:=z.len;simp only[Y,ae,ap]at O;refine⟨D.es.length - (i+1),_,by omega, .inl rfl,i+1,_,M3,rfl,by omega,rfl,by omega,z.fzb XI,by rw[c,a,a7];rfl,L⟩
 ·(try simp only[RN,F,H,I,J,N,S])
  exact u _ _ T
def YB (b:D.Ok):Ans 245 [vU f1 f2 e1 e2 D t,sF (ns.map ay)] (D.stands.map fun p=>(p.1:Int)) 0:=by
 have Z:D.stands.length<=24:=ax (zo _ _ _) b.few
 by_cases v:D.stands=[]
 ·refine yP (by rw[v];rfl) (dR (aC fE bQ ?_))
  simp only[fE,bQ,gV,ai,RN,F,H,I,J,N,S];refine qc (Jk e1 e2 b.len (by have:=b.few;omega) (fun x a=>yU (b.formed x a))) (fun _ h=>h) rfl (by kernel_rfl) (fun i B=>by simp at B;simp[B]) (fun x a=>by simp only[cO,bl]at a;obtain⟨p,_,rfl⟩:=a;rfl) (fun _ h=>h.elim) (fun _ _=>trivial)
   (fun f q=>q.boxes[1]?=some (some [.d (.slice true [])])) ?_ rfl ?_ ?_
  ·intro f q T C h
   exact(C.box 1 (by simp) id).trans h
  ·intro L cells f x post q a
   rw[cO,aw,aw,<-Dk.stands,v]at a;simp at a
  ·rintro⟨n,A,z⟩ h o
   simp only at h;simp only[h,RN,F,H,I,J,N,S]
   rfl
 ·refine fJ (aC fE bQ ?_)
  simp only[fE,bQ,gV,ai,RN,F,H,I,J,N,S];refine qc (Jk e1 e2 b.len (by have:=b.few;omega) (fun x a=>yU (b.formed x a))) (fun _ h=>h) rfl (by kernel_rfl) (fun i B=>by simp at B;simp[B]) (fun x a=>by simp only[cO,bl]at a;obtain⟨p,_,rfl⟩:=a;rfl) (fun _ h=>h.elim) (fun _ _=>trivial)
   (fun f q=>∃l r c,D.stands=l++r/\f=l.map nJ/\q.boxes[1]?=some (some [c])/\1∉q.fz/\slN 1 true c (l.map fun p=>dI (p.1:Int)) q.aB) ?_ ⟨[],D.stands,_,rfl,rfl,rfl,by simp, .inl ⟨rfl,rfl⟩⟩ ?_ ?_
  ·rintro f q T C ⟨l,r,c,g,w,u,G,K⟩
   exact⟨l,r,c,g,w,(C.box 1 (by simp) id).trans u,fun e=>G ((C.fz 1 (by simp) id).1 e),by rw[C.aB];exact K⟩
  ·rintro L cells f x post ⟨n,A,z⟩ a o s E ⟨l,r,c,g,w,u,G,K⟩ M0
   simp only[ae,ap]at o s E u G⊢;obtain⟨p,M,rfl⟩:∃p M,r=p::M:=by
    cases r with
    |nil=>
     rw[cO,aw,aw,<-Dk.stands,g,w]at a;have:=congrArg bo a;simp at this
    |cons p M=>exact⟨p,M,rfl⟩
   have O:x=nJ p:=by
    rw[cO,aw,aw,<-Dk.stands,g,w,bk,aE]at a;exact(List.cons.inj (bt a)).1.symm
   subst O;have j:1<n.length:=by omega
   have Q:l.length<=24:=by have:=congrArg bo g;simp at this;omega
   simp only[nJ,bB,bN,aE,bq,u,j,dV,DV.strip,RN,F,H,I,J,N,S];refine LZ K (by decide) (by intro y R;simp only[aL]at R;subst R;rfl) (by simp) (by simp;omega) fun k ver st X a1 U a3 V a5 W=> ?_
   have m:=W rfl;subst m;simp only[u,j,G,bV,dM,uH,RN,F,H,I,J,N,S];exact⟨by rw[am (by omega)];exact s,E,Kept.Je (by omega) id V (fun _ h=>h.elim),l++ [p],M, .tsl k ver 0,by rw[g];simp,by rw[w];simp[nJ],by simp[j], .inr ⟨k,ver,1,rfl,by rw[U];simp,by decide,fun _=> .inl rfl⟩⟩
  ·rintro⟨n,A,z⟩ ⟨l,r,c,g,w,u,G,K⟩ o
   simp only[ae,ap]at o u;have Y:r=[]:=by
    have:=congrArg bo w;rw[cO,aw,aw,<-Dk.stands,g]at this;simp at this;exact this
   subst Y;rw[bj]at g;have aj0:l≠[]:=by rw[<-g];exact v
   obtain⟨k,ver,st,rfl,P,_,m⟩:=Fg K (by simpa using aj0);have m:=m rfl;subst m;simp only at P;have j:1<n.length:=by omega
   simp only[u,j,bC,dh,RN,F,H,I,J,N,S];refine⟨_,rfl,k,ver,rfl,?_⟩;rw[Ls (by rw[g];simpa using aj0)];simp only[P,g,List.map_map]
   rfl
end
end Go.Tel
namespace Go.Am
section
variable {C:Ctx}
def QK (C:Ctx)(M:Mem)(args qs:List PV)(ds:List DV):Prop:=∀X w E a,Sim C X w M E->aK w (away X M E) M E a args->aU w (away X (M.frz qs) E) a ds
variable{M:Mem}
def WB {a b:PV}{e f y:DV}(h:cZ M [a,b, .d y]=some [e,f,y]):QK C M [.agg [a,b], .d y] [a,b, .d y] [.agg [e,f],y]:=by
 intro X w E g m k;cases k with|cons h1 t1=>
 cases t1 with|cons h2 t2=>
 cases t2;cases h1 with|agg hh=>
 rename_i z
 generalize c:z.toList=l at hh;cases hh with|cons i s=>
 cases s with|cons j t=>
 cases t;have hd:=tN (ps:=[a,b, .d y]) m (.cons i (.cons j (.cons h2 .nil))) h (fun q n=>n);cases hd with|cons o u=>
 cases u with|cons p v=>
 cases v with|cons r x=>
 cases x;exact .cons (.agg (by rw[c];exact .cons o (.cons p .nil))) (.cons r .nil)
def abG {f:FuncId}{args qs:List PV}{ds ds':List DV}{r:PV}{k:List Arr}(h:Pure C f ds' r k)(u:Ux r=true)(d:k.all kU=true){K:PV->Mem->Prop}{KP:DV->Mem->Prop}
  (m:QK C M args qs ds)(n:ds.map DV.strip=ds')(s:K (r.shift M.aB.length) {M with aB:=M.aB++k.map some}):SC C f args M K KP:=by
 subst n;intro X w E a c q;have l:=lY c qs;have hd:=(m X w E a c q).strip;refine(h (away X (M.frz qs) E) w a c.glob (fun b i=> .inl (c.gG b i)) (fun b i=>l.wP i) hd).mono fun e F n=> ?_
 obtain⟨v,D,rfl,g,p,x⟩:=n;have o:∀A∈k,A.st≠2:=fun A t e=>by
  have j:=b9.1 d A t;simp only[kU,aR]at j
  rcases Bool.or_eq_true_iff.1 j.1 with h|h
  ·rw[e]at h;simp at h
  ·rw[e]at h;simp at h
 obtain⟨y,z,B⟩:=Ew c (Fe c g p d) p o;exact⟨_,_,_,s,y,z,JQ c.bn (fun b i=>(B b).1 i) (Qx g d u x)⟩
end
end Go.Am
namespace Go.Tel
open Go.Am
variable{f:FuncId}{args qs:List PV}{M:Mem}{ds ds':List DV}{K:PV->Mem->Prop}{KP:DV->Mem->Prop}
def ag0 {n:Int}(h:Pure C f ds' (.d (xW n)) [])(k:QK C M args qs ds)(l:ds.map DV.strip=ds')(p:K (.d (xW n)) M):SC C f args M K KP:=by
 subst l;intro X w E a c o;have i:=lY c qs;have hd:=(k X w E a c o).strip;refine(h (away X (M.frz qs) E) w a c.glob (fun b j=> .inl (c.gG b j)) (fun b j=>i.wP j) hd).mono fun e x l=> ?_
 obtain⟨v,t,rfl,g,m,q⟩:=l;obtain⟨r,s,u⟩:=Ew c (Fe c g m rfl) m (by simp);exact⟨_,_,_,(by simpa using p),r,s, .d (Zg q.toD)⟩
def ahN {l:List Int}{e:Int}(h:Ans f ds' l e)(a:QK C M args qs ds)(i:ds.map DV.strip=ds')
  (g:∀p c xa,(p= .tup [c,pI e]\/(p= .d (.tup [.slice true [],dI e])/\c= .d (.slice true [])))->slN 1 true c (l.map ay) (M.aB++xa)->(∀k,kOf c=some k->M.aB.length<=k)->K p ⟨M.boxes,M.fz,M.aB++xa⟩):SC C f args M K KP:=by
 rcases h with h|⟨rfl,h⟩
 ·refine abG h rfl ?_ a i ?_
  ·simp only[List.all_cons,List.all_nil,Bool.and_true];exact Ih l
  ·refine g _ (.tsl M.aB.length 0 0) [some ⟨1,l.map ay,0,vP l⟩] (.inl ?_) (.inr ⟨_,0,vP l,rfl,by simp,Fj,fun _=> ?_⟩) (fun k b=>by cases b;exact a8 _)
   ·simp[PV.shift,jE,Ov]
   ·cases l with
    |nil=>exact .inr rfl
    |cons x l=>exact .inl rfl
 ·refine ag0 h a i ?_
  have:=g (.d (xW e)) (.d (.slice true [])) [] (.inr ⟨rfl,rfl⟩) (.inl ⟨rfl,rfl⟩) (fun k b=>by cases b)
  simpa using this
structure Qn where
 kind:Int
 ns:List Int
 deriving DecidableEq,Inhabited
def Qn.dv (x:Qn):DV:= .agg [dI x.kind,sF (x.ns.map ay)]
def ahl {x:Qn}:x.dv= .agg [dI x.kind,sF (x.ns.map ay)]:=by rw[Qn.dv]
def Qn.n (x:Qn)(i:Nat):Int:=x.ns.getD i default
def amL:List (ByteArray×Nat):=[(⟨#[104,97,110,100,115]⟩,0),(⟨#[115,116,111,99,107]⟩,0),(⟨#[111,112,101,110]⟩,0),(⟨#[112,114,105,99,101]⟩,1),(⟨#[110,101,101,100]⟩,3),(⟨#[111,102,102]⟩,2),(⟨#[119,114,111,110,103]⟩,0),(⟨#[119,111,114,107,115]⟩,1),(⟨#[100,97,116,101]⟩,1),(⟨#[99,117,116,115]⟩,1),(⟨#[99,111,105,110,115]⟩,0),(⟨#[115,116,97,110,100,115]⟩,0)]
def fwQ (k:Int):ByteArray:=(amL.getD (k - 1).toNat default).1
def P7 (k:Int):Nat:=(amL.getD (k - 1).toNat default).2
variable{k:Int}
def QX (h:1<=k/\k<=12):k=1\/k=2\/k=3\/k=4\/k=5\/k=6\/k=7\/k=8\/k=9\/k=10\/k=11\/k=12:=by omega
def ajB (h:1<=k/\k<=12):acf (gU (cv 2 (cq ((k - 1).toNat*2) (ca PV.d (OU amL))))) (cv 2 (cq ((k - 1).toNat*2) (ca PV.d (OU amL))))= .d (.agg [.str (fwQ k),dI (P7 k)])/\(k - 1).toNat*2+2<=(ca PV.d (OU amL)).length/\cG .i64 (k - 1)=k - 1:=by
 rcases QX h with rfl|rfl|rfl|rfl|rfl|rfl|rfl|rfl|rfl|rfl|rfl|rfl<;>exact⟨rfl,by decide,by decide⟩
def Y3:OU amL=[.str ⟨#[104,97,110,100,115]⟩,dI 0, .str ⟨#[115,116,111,99,107]⟩,dI 0, .str ⟨#[111,112,101,110]⟩,dI 0, .str ⟨#[112,114,105,99,101]⟩,dI 1, .str ⟨#[110,101,101,100]⟩,dI 3, .str ⟨#[111,102,102]⟩,dI 2, .str ⟨#[119,114,111,110,103]⟩,dI 0, .str ⟨#[119,111,114,107,115]⟩,dI 1, .str ⟨#[100,97,116,101]⟩,dI 1, .str ⟨#[99,117,116,115]⟩,dI 1, .str ⟨#[99,111,105,110,115]⟩,dI 0, .str ⟨#[115,116,97,110,100,115]⟩,dI 0]:=rfl
def acr:Pure C 232 [] (.d (.agg (OU amL))) []:=by
 refine ah yt aex ?_;simp only[yt,aex,Y3,EO,RN,F,H,I,J,N,S]
def ahP (k:Int):FuncId:=([234,235,236,237,238,239,240,241,242,243,244,245]:List FuncId).getD (k - 1).toNat default
def Dk.answer (D:Dk)(t:Sp)(q:Qn):List Int×Int:=
 if q.kind=1 then(adh t.pc,0)else if q.kind=2 then(Oy t.dW,0)else if q.kind=3 then(oD t.op t.pc.hands.length,0)
 else if q.kind=4 then(if inR (q.n 0) 0 (D.su.pc.hands.length - 1)then[G6 D.su t (q.n 0).toNat]else[],if inR (q.n 0) 0 (D.su.pc.hands.length - 1)then 0 else 2)
 else if q.kind=5 then sO D t (q.n 0) (q.n 1) (q.n 2)
 else if q.kind=6 then(if inR (q.n 0) 0 (D.su.pc.hands.length - 1)&&inR (q.n 1) 1 D.su.days.length then[(uy t.pc (q.n 0) (t.tg.getD (q.n 0).toNat default) (t.turns (q.n 1))).1]else[],
  if inR (q.n 0) 0 (D.su.pc.hands.length - 1)&&inR (q.n 1) 1 D.su.days.length then(uy t.pc (q.n 0) (t.tg.getD (q.n 0).toNat default) (t.turns (q.n 1))).2 else 2)
 else if q.kind=7 then([uz D.su t D.su.days.length],0)
 else if q.kind=8 then(if inR (q.n 0) 1 D.su.days.length then(match tY D.BZ ((D.su.days.length:Int)+1 - q.n 0).toNat (q.n 0)with|some d=>[d]|none=>[])else[],
  if inR (q.n 0) 1 D.su.days.length then(match tY D.BZ ((D.su.days.length:Int)+1 - q.n 0).toNat (q.n 0)with|some _=>0|none=>5)else 2)
 else if q.kind=9 then(if inR (q.n 0) 1 D.su.days.length then[(MN D.su.cal D.su.year.toNat (D.su.first+(q.n 0 - 1))).m,(MN D.su.cal D.su.year.toNat (D.su.first+(q.n 0 - 1))).d]else[],if inR (q.n 0) 1 D.su.days.length then 0 else 2)
 else if q.kind=10 then([(D.su.dvd.cuts (q.n 0)).1.circle,(D.su.dvd.cuts (q.n 0)).1.turns,(D.su.dvd.cuts (q.n 0)).1.holes],(D.su.dvd.cuts (q.n 0)).2)
 else if q.kind=11 then([t.jQ],0)
 else(D.stands.map fun p=>(p.1:Int),0)
def acn (f1 f2 e1 e2:Bool){D:Dk}{t:Sp}(a:D.Ok)(c:Dp D.su 24 t)(q:Qn)(hk:1<=q.kind/\q.kind<=12)(b:q.ns.length=P7 q.kind):
  Ans (ahP q.kind) [vU f1 f2 e1 e2 D t,sF (q.ns.map ay)] (D.answer t q).1 (D.answer t q).2:=by
 obtain⟨k,ns⟩:=q;simp only at hk b⊢
 rcases QX hk with rfl|rfl|rfl|rfl|rfl|rfl|rfl|rfl|rfl|rfl|rfl|rfl
 ·exact afZ _ _ _ _ _ c
 ·exact ae7 _ _ _ _ _ c
 ·exact ad5 _ _ _ _ _ c
 ·exact ahV _ _ _ _ _ a c b
 ·exact ai9 _ _ _ _ _ a c b
 ·exact aky _ _ _ _ _ a c b
 ·exact ahi _ _ _ _ _ a c
 ·exact ahf _ _ _ _ _ a b
 ·exact ahY _ _ _ _ _ a b
 ·exact ahW _ _ _ _ _ a b
 ·exact ajg _ _ _ _ _
 ·exact YB _ _ _ _ _ a
def Dk.ask (D:Dk)(q:Qn):List Int×Int:=
 if inR q.kind 1 12=false then([],2)else if q.ns.length≠P7 q.kind then([],2)else
  match D.state (-1)with
  |none=>([],7)
  |some t=>if(D.answer t q).2=0 then D.answer t q else([],(D.answer t q).2)
def fC.same {s:Su}{a b mb:Nat}{cst cse:PV}{t:Sp}{M':Mem}(h:fC s a b mb cst cse t M)(hb:M'.boxes[b]?=M.boxes[b]?)(g:M'.boxes[mb]?=M.boxes[mb]?)(c:M'.aB=M.aB)(d:b∉M'.fz)(e:mb∉M'.fz)(f:FzB M'):fC s a b mb cst cse t M':=
 {box:=hb.trans h.box
  map:=g.trans h.map
  r0:=by rw[c];exact h.r0
  r1:=by rw[c];exact h.r1
  r2:=by rw[c];exact h.r2
  r3:=by rw[c];exact h.r3
  r4:=by rw[c];exact h.r4
  r5:=by rw[c];exact h.r5
  stk:=by rw[c];exact h.stk
  set:=by rw[c];exact h.set
  kst:=h.kst,kse:=h.kse,dif:=h.dif,nb:=d,nm:=e,bm:=h.bm,fzb:=f}
def Frm.ajj {a:List (Option (List PV))}{b:List Nat}{ar':List (Option Arr)}{y:Option (List PV)}{i:Nat}(h:Frm M ⟨a,b,ar'⟩)(hi:M.boxes.length<=i):Frm M ⟨a.set i y,b,ar'⟩:=
 {len:=by have:=h.len;simp only[az]at this⊢;omega
  bn:=h.bn
  box:=fun j c=>by
   have h2:=h.box j c;simp only at h2⊢;rw[am (by omega)];exact h2
  fz:=h.fz
  row:=h.row
  fzb:=fun e j c=>by have:=h.fzb e j c;simp only[az]at this⊢;exact this}
variable{D:Dk}{d:Nat}
def afo {ce cs:PV}(h:vH D d ce cs M)(n:D.Ok){pb ab:Nat}(o:M.boxes[pb]?=some (some [.ptr d 0]))(m:M.boxes[ab]?=some (some [.d .nilPtr, .ptr d 0]))(j:ab∉M.fz):
  SC C 233 [.ptr pb 0, .ptr ab 0] M
   (fun _ M'=>∃t b mb a cst cse c f g,D.state (-1)=some t/\fC D.su a b mb cst cse t ⟨c,f,g⟩/\Frm M ⟨c,f,g⟩/\M.boxes.length<=b/\M.boxes.length<=mb/\M'=⟨c.set ab (some [.ptr b 0, .ptr d 0]),f,g⟩)
   (fun q M'=>D.state (-1)=none/\Gw q/\Frm M M'):=by
 have x:=h;obtain⟨bs,fz,ar⟩:=M;simp only at o m j;have p:pb<bs.length:=(V.1 o).1;have k:ab<bs.length:=(V.1 m).1;refine aC oG fB ?_;simp only[oG,fB,o,p,RN,F,H,I,J,N,S];refine SC.mono (Jz x n (-1)) ?_;rintro v ⟨c,f,g⟩ ⟨t,b,mb,a,cst,cse,rfl,r,s,l,u,w,y⟩;have i:c[ab]?=some (some [.d .nilPtr, .ptr d 0]):=(l.box ab k).trans m;have ajO:ab<c.length:=(V.1 i).1;have akR:ab∉f:=fun e=>j ((l.fz ab k).1 e)
 simp only[i,ajO,akR,xk,EX,RN,F,H,I,J,N,S];exact⟨t,b,mb,a,cst,cse,c,f,g,r,s,l,u,w,rfl⟩
def ahQ (h:1<=k/\k<=12):(ca PV.d [DV.func (.func 234) [] [], .func (.func 235) [] [], .func (.func 236) [] [], .func (.func 237) [] [], .func (.func 238) [] [], .func (.func 239) [] [], .func (.func 240) [] [], .func (.func 241) [] [], .func (.func 242) [] [], .func (.func 243) [] [], .func (.func 244) [] [], .func (.func 245) [] []]).getD (k - 1).toNat .dead= .d (.func (.func (ahP k)) [] [])/\callable C.P (ahP k)=true:=by
 rcases QX h with rfl|rfl|rfl|rfl|rfl|rfl|rfl|rfl|rfl|rfl|rfl|rfl<;>exact⟨rfl,by kernel_rfl⟩
def ahF {ce cs:PV}(h:vH D d ce cs M)(ai:D.Ok)(q:Qn){KP:DV->Mem->Prop}:
  SC C 157 [.ptr d 0, .d q.dv] M (fun p M'=>∃c,(p= .tup [c,pI ((D.ask q).2)]\/(p= .d (.tup [.slice true [],dI (D.ask q).2])/\c= .d (.slice true [])))/\slN 1 true c ((D.ask q).1.map ay) M'.aB/\(∀k,kOf c=some k->M.aB.length<=k)/\Frm M M') KP:=by
 obtain⟨bs,fz,ar⟩:=M;have o:=h.box;rw[iK]at o;simp only at o;have bo:d<bs.length:=(V.1 o).1;have DN:∀i∈fz,i<bs.length:=h.fzb
 have a0:bs.length∉fz:=fun e=>aD _ (DN _ e)
 have ac:∀k,bs.length+k∉fz:=fun k e=>by have:=DN _ e;omega
 have aq:¬d=bs.length:=by omega
 have aw:∀k,¬d=bs.length+k:=fun k=>by omega
 have aL:∀k,d<bs.length+k:=fun k=>by omega
 have a4:¬bs.length+1=bs.length:=by omega
 have a5:¬bs.length+2=bs.length:=by omega
 have a6:¬bs.length+2=bs.length+1:=by omega
 have O:Frm ⟨bs,fz,ar⟩ ⟨bs++ [some [.ptr d 0],some [pI q.kind, .d (sF (q.ns.map ay))]],(bs.length+1)::fz,ar⟩:=Frm.new (xf:=[bs.length+1]) (by simp);obtain⟨e1,e2,bp⟩:=Ia (h.frm O);refine aC qY bQ ?_;simp only[qY,bQ,ahl,o,bo,aY,bJ,aN,bM,cu,aT,a7,Y,bz,az,a0,ac,aq,aw,aL,a4,a5,a6,xk,EX,GR,RN,F,H,I,J,N,S];refine jU (H9 bp) rfl (UW e1 e2 D) rfl ?_;(try simp only[RN,F,H,I,J,N,S]);refine au (yX _ _ _) ?_;cases g:inR q.kind 1 12
 ·(try simp only[RN,F,H,I,J,N,S])
  have he:D.ask q=([],2):=by simp[Dk.ask,g]
  rw[he];exact⟨_, .inr ⟨rfl,rfl⟩, .inl ⟨rfl,rfl⟩,(fun k g=>by cases g),O⟩
 have R:1<=q.kind/\q.kind<=12:=by simpa[inR]using g
 simp only[U,RN,F,H,I,J,N,S];refine au acr ?_;obtain⟨a1,a2,a3⟩:=ajB R;simp only[a3,a1,RN,F,H,I,J,N,S];refine⟨by omega,by omega,a2,?_⟩
 by_cases hn:q.ns.length=P7 q.kind
 case neg=>
  have hb:((q.ns.length:Int) !=(P7 q.kind:Int))=true:=by simp;omega
  simp only[hb,RN,F,H,I,J,N,S];have he:D.ask q=([],2):=by simp[Dk.ask,g,hn]
  rw[he];exact⟨_, .inr ⟨rfl,rfl⟩, .inl ⟨rfl,rfl⟩,(fun k g=>by cases g),O⟩
 have hb:((q.ns.length:Int) !=(P7 q.kind:Int))=false:=by simp[hn]
 simp only[hb,aY,bJ,aN,bM,cu,aT,a7,Y,bz,az,a0,ac,aq,aw,aL,a4,a5,a6,xk,EX,GR,aaS,l7,bh,dB,iO,pW,RN,F,H,I,J,N,S];refine⟨rfl,?_⟩;obtain⟨B,hB⟩:∃B,B=bs++ [some [.ptr d 0],some [pI q.kind, .d (sF (q.ns.map ay))],some [.d .nilPtr, .ptr d 0]]:=⟨_,rfl⟩
 obtain⟨Z,hZ⟩:∃Z,Z=(bs.length+1)::fz:=⟨_,rfl⟩
 have bL:B.length=bs.length+3:=by rw[hB];simp
 have be:B[bs.length]?=some (some [.ptr d 0]):=by rw[hB,aN rfl];rfl
 have bc:B[bs.length+2]?=some (some [.d .nilPtr, .ptr d 0]):=by rw[hB,bJ rfl];rfl
 have x:Frm ⟨bs,fz,ar⟩ ⟨B,Z,ar⟩:=by rw[hB,hZ];exact Frm.new (xf:=[bs.length+1]) (by simp)
 have bj:bs.length+2∉Z:=by
  rw[hZ];intro e
  rcases av.1 e with e|e
  ·omega
  ·exact ac _ e
 simp only[<-hB,<-hZ];have bi:Frm ⟨B,Z,ar⟩ ⟨B++ [some [pI 0]],Z,ar⟩:=Frm.new (xf:=[]) (by simp);have XF:=x.trans bi;have z0:((0:Int) !=0)=false:=rfl;have z7:((7:Int) !=0)=true:=rfl;refine LX (fs:=[]) (cs:=[.ptr bs.length 0, .ptr (bs.length+2) 0]) (x.fzb h.fzb) (by kernel_rfl) ?_;refine SC.kL (SC.mono (afo (h.frm XF) ai (pb:=bs.length) (ab:=bs.length+2) ?_ ?_ bj) ?_) ?_
 ·simp only;rw[ao (by omega)];exact be
 ·simp only;rw[ao (by omega)];exact bc
 ·rintro v M' ⟨t,b,mb,a,a9,a8,s,f,j,g1,L,w,g4,g5,rfl⟩
  simp only[Y,ae,ap]at g4 g5;have z:=XF.trans w;have bw:=w.len;simp only[Y,ae,ap]at bw;have P:s[B.length]?=some (some [pI 0]):=by
   have:=w.box B.length (by simp);simp only at this;rw[this,aN rfl];rfl
  have Q:B.length∉f:=fun e=>by
   have:=(w.fz B.length (by simp)).1 e;simp only at this;have h5:=x.fzb h.fzb _ this;simp only at h5;omega
  obtain⟨n,m⟩:∃n,n=s.set (bs.length+2) (some [.ptr b 0, .ptr d 0]):=⟨_,rfl⟩
  have alv:n.length=s.length:=by rw[m];simp
  have akN:n[bs.length+2]?=some (some [.ptr b 0, .ptr d 0]):=by rw[m,bv (by omega)]
  have akO:n[B.length]?=some (some [pI 0]):=by rw[m,am (by omega)];exact P
  have A:Frm ⟨bs,fz,ar⟩ ⟨n,f,j⟩:=by rw[m];exact z.ajj (by simp only;omega)
  have aR:FzB ⟨n,f,j⟩:=A.fzb h.fzb;have W:n.length∉f:=fun e=>aD _ (aR _ e)
  rw[<-m];refine⟨akO,Q,?_⟩;have bk:bs.length+2<n.length:=by omega
  have jk:0<=q.kind - 1:=by omega
  have bO:q.kind - 1<12:=by omega
  have bR:(q.kind - 1).toNat+1<=12:=by omega
  obtain⟨aM,br⟩:=ahQ R;simp only[aE,bq]at aM;simp only[z0,EO,aY,aN,aT,W,akN,bk,Y,a3,Nat.zero_add,cz,RN,F,H,I,J,N,S];refine⟨rfl,by omega,by omega,by omega,by omega,by omega,?_⟩;rw[aM];simp only[l7,bh,dB,dZ,RN,F,H,I,J,N,S];refine⟨br,?_⟩;obtain⟨X,hX⟩:∃X,X=[some [PV.d (DV.func (Fn.func 234) [] []),PV.d (DV.func (Fn.func 235) [] []),PV.d (DV.func (Fn.func 236) [] []),PV.d (DV.func (Fn.func 237) [] []),PV.d (DV.func (Fn.func 238) [] []),PV.d (DV.func (Fn.func 239) [] []),PV.d (DV.func (Fn.func 240) [] []),PV.d (DV.func (Fn.func 241) [] []),PV.d (DV.func (Fn.func 242) [] []),PV.d (DV.func (Fn.func 243) [] []),PV.d (DV.func (Fn.func 244) [] []),PV.d (DV.func (Fn.func 245) [] [])]]:=⟨_,rfl⟩
  simp only[<-hX];have E:Frm ⟨bs,fz,ar⟩ ⟨n++X,f,j⟩:=A.trans (Frm.new (xf:=[]) (by simp));have bN:b<s.length/\mb<s.length:=⟨(V.1 L.box).1,(V.1 L.map).1⟩
  have bB:fC D.su a b mb a9 a8 t ⟨n++X,f,j⟩:=L.same (by
    simp only;rw[ao (by omega),m,am (by omega)]) (by
    simp only;rw[ao (by omega),m,am (by omega)]) rfl L.nb L.nm (E.fzb h.fzb)
  obtain⟨f1,f2,bE⟩:=VZ bB;obtain⟨d1,d2,bl⟩:=Ia (h.frm E);have bt:=ai.V5 g1;have hA:=acn f1 f2 d1 d2 ai bt q R hn;have hL:cZ ⟨n++X,f,j⟩ [.ptr b 0, .ptr d 0, .d (sF (q.ns.map ay))]=some [.aV (t.cells f1 f2 D.su),sH d1 d2 D,sF (q.ns.map ay)]:=by
   simp only[cZ,bE,bl];rfl
  have an:D.ask q=if(D.answer t q).2=0 then D.answer t q else([],(D.answer t q).2):=by
   simp only[Dk.ask,g,hn,g1];simp
  rw[an];generalize D.answer t q=r at*;obtain⟨l,e⟩:=r;simp only at hA⊢;refine ahN (ds:=[vU f1 f2 d1 d2 D t,sF (q.ns.map ay)]) hA (WB hL) rfl fun p c xa hp hs bu=> ?_
  have u:Frm ⟨bs,fz,ar⟩ ⟨n++X,f,j++xa⟩:=E.trans (by have:=Frm.ext (bs:=n++X) (xb:=[]) (fz:=f) (xf:=[]) (ar:=j) (xa:=xa) (by simp);simpa using this);have T:∀k,kOf c=some k->ar.length<=k:=fun k g=>ax E.bn (bu k g)
  by_cases hr:e=0
  ·subst hr
   simp only[if_true]
   rcases hp with rfl|⟨rfl,rfl⟩
   ·rcases hs with⟨rfl,hl⟩|⟨k,ver,st,rfl,hl⟩
    ·simp only[xE,xG,z0,RN,F,H,I,J,N,S]
     exact⟨_, .inr rfl, .inl ⟨rfl,hl⟩,T,u⟩
    ·simp only[xE,xG,z0,bC,dh,RN,F,H,I,J,N,S]
     exact⟨_, .inl rfl, .inr ⟨k,ver,st,rfl,hl⟩,T,u⟩
   ·simp only[z0,RN,F,H,I,J,N,S]
    exact⟨_, .inr rfl,hs,T,u⟩
  ·have hz:(e !=0)=true:=by simp[hr]
   rw[if_neg hr]
   rcases hp with rfl|⟨rfl,rfl⟩
   ·simp only[xE,xG,hz,RN,F,H,I,J,N,S]
    exact⟨_, .inr rfl, .inl ⟨rfl,rfl⟩,(fun k g=>by cases g),u⟩
   ·simp only[hz,RN,F,H,I,J,N,S]
    exact⟨_, .inr rfl, .inl ⟨rfl,rfl⟩,(fun k g=>by cases g),u⟩
 ·rintro dd ⟨G,K,ar'⟩ ⟨g1,L,w⟩
  have z:=XF.trans w;have bA:=w.len;simp only[Y,ae,ap]at bA;have P:G[B.length]?=some (some [pI 0]):=by
   have:=w.box B.length (by simp);simp only at this;rw[this,aN rfl];rfl
  have Q:B.length∉K:=fun e=>by
   have:=(w.fz B.length (by simp)).1 e;simp only at this;have h5:=x.fzb h.fzb _ this;simp only at h5;omega
  have adp:=z.fzb h.fzb;have W:G.length∉K:=fun e=>aD _ (adp _ e)
  have he:D.ask q=([],7):=by simp[Dk.ask,g,hn,g1]
  refine⟨P,Q,W, .inl ⟨L,fun y=> ?_⟩⟩;rw[he];simp only[z7,RN,F,H,I,J,N,S];have A:Frm ⟨bs,fz,ar⟩ ⟨(G++ [y]).set B.length (some [pI 7]),K,ar'⟩:=z.aeK (by simp only;omega);exact⟨_, .inr rfl, .inl ⟨rfl,rfl⟩,(fun k g=>by cases g),A⟩
end Go.Tel
namespace Go.Proofs
open Go.Shelf Go.RowKit Go.Lib
def Tryz.joinExtra:Builder.Extra Tryz.prog Tryz.laysJoin_ren:={
 sizeBuilder:=by kernel_rfl
 liesBuilder:=by kernel_rfl
 t5:=by kernel_rfl
 a5:=Tryz.isAgg5
 z5:=Tryz.sizeOf5
 v5:=Tryz.zeroValue5
 infoByte:=by kernel_rfl
 cellsByte:=by kernel_rfl
 sizeByte:=by kernel_rfl
 neB5:=by decide}
section
variable {P:Program}{ρ:Ren}
def abN (L:Lays.n146 P ρ)(h:(P.info? (ρ.t 9)).map (fun i=>(i.zero,i.size,i.bytes))=some (some (.string ByteArray.empty),1,16))(s:ByteArray)(a:UInt8)(w:World)(hs:s.size<4294967281):
  Calls P (ρ.f 146) #[.string s, .string ⟨#[a]⟩] w fun e w'=>
   e= .returned (.slice (some ⟨w.heap.size,0,none⟩) (Lib.countB s ⟨#[a]⟩+1) (Lib.countB s ⟨#[a]⟩+1))/\w'=w.alloc (.cells ((Lib.splitB ⟨#[a]⟩ 0 (Lib.countB s ⟨#[a]⟩) s).map Value.string).toArray (ρ.t 9)):=by
 have h1:1<=(⟨#[a]⟩:ByteArray).size:=a8 _;have l:=Lib.countB_le ⟨#[a]⟩ h1 s.size s (a8 _);have b:=Lib.splitB_all ⟨#[a]⟩ h1 0 _ s rfl;have c:=Any.strings_genSplit_core {L with} h s ⟨#[a]⟩ 0 (-1) (Lib.countB s ⟨#[a]⟩+1) w hs h1 (aM _)
  (fun x cs _=>(Any.strings_Index_one {L with} x a _).mono fun e w' ⟨g,d⟩=>⟨by rw[g];show _=Ending.returned (Value.int .i64 (Lib.index x.data.toList [a]));rw[Lib.index_one],d⟩)
  ((Any.strings_Count_one {L with} s a w).mono fun e w' ⟨g,d⟩=>⟨by rw[g];show _=Ending.returned (Value.int .i64 ((Lib.count s.data.toList [a]:Nat):Int));rw[Lib.count_one];rfl,d⟩)
  (by decide) (by decide) (by rw[if_pos (by decide)];omega)
 rw[Nat.add_sub_cancel,b]at c;have e2:Lib.cellsOf (Lib.splitB ⟨#[a]⟩ 0 (Lib.countB s ⟨#[a]⟩) s) (Lib.countB s ⟨#[a]⟩+1)=((Lib.splitB ⟨#[a]⟩ 0 (Lib.countB s ⟨#[a]⟩) s).map Value.string).toArray:=by rw[<-b];exact Lib.cellsOf_full _
 rw[e2]at c;have r:=L.t3;have u:=L.t9;have m:=L.t31;have p:=L.a3;have q:=L.a9;have k:=L.a31;have z:=L.z3;have v:=L.v3;have A:=L.z9;have y:=L.v9;have o:=L.z31;have n:=L.v31;have j:∀args w,(callFunc (ρ.f 221) args).run P w= .ok (.enter (ρ.f 221) args) w:=enters_of L.f221 (by kernel_rfl) rfl
 go_enter L.f146,Body.n146_ntmps ρ
 go_wp2_with (go_at_fn (ρ.f 221);refine c.mono ?_;rintro e w' ⟨rfl,d⟩;rw[d])
 go_ret
 exact⟨rfl,rfl⟩
end
end Go.Proofs
namespace Go.Tel
open Go.Am
def lS (s:ByteArray)(c:UInt8):List ByteArray:=Go.Lib.splitB ⟨#[c]⟩ 0 (Go.Lib.countB s ⟨#[c]⟩) s
def Ho (s:ByteArray)(c:UInt8):(lS s c).length=Go.Lib.countB s ⟨#[c]⟩+1:=Go.Lib.splitB_all ⟨#[c]⟩ (a8 _) 0 _ s rfl
def Qw {w:World}{O:Nat->Prop}:∀xs:List ByteArray,aU w O (xs.map Value.string) (xs.map DV.str)
 | []=> .nil
 |x::xs=> .cons (.str _) (Qw xs)
def JB:∀xs:List ByteArray,flat (xs.map DV.str)=xs.map DV.str
 | []=>rfl
 |x::xs=>by
  have:=JB xs;simp only[flat]at this⊢;simp only[aE,b7,this]
  rfl
def afk (s:ByteArray)(c:UInt8)(hs:s.size<=1000000):Am.Pure Go.Tel.C 276 [.str s, .str ⟨#[c]⟩] (.d (.slice false ((lS s c).map .str))) []:=by
 refine o7 fun X w b g a f=> ?_
 cases f with|cons h1 t1=>
 cases t1 with|cons h2 t2=>
 cases t2;cases h1;cases h2;refine(Go.Proofs.abN Go.Proofs.Tryz.laysSplit (by kernel_rfl) s c w (by omega)).mono ?_;rintro e i ⟨rfl,rfl⟩;refine⟨_,rfl,Later.alloc w _,?_⟩;refine .slice (sz:=1) (T:=Go.Proofs.Tryz.laysSplit_ren.t 9) (fz:=(0,0)) (cs:=((lS s c).map Value.string).toArray) ?_ (fun h=>aD _ (a _ h)) (by simp[Ho]) (by intro x a;obtain⟨y,_,rfl⟩:=bl.1 a;rfl) (a8 _) (fun h=>by cases h) ?_
 ·show(w.heap.push _)[w.heap.size]?=_
  rw[Array.getElem?_push_size];rfl
 ·rw[JB]
  simp only[aw,cz];rw[cf (by simp[Ho])];exact Qw _
def ahI (n:Int)(c: -9223372036854775808<=n)(h1:n<=9223372036854775807):Am.Pure Go.Tel.C 155 [.int .i64 n] (.d (.str ⟨(Go.Lib.itoa n).toArray⟩)) []:=by
 refine o7 fun X w a f i h=> ?_
 cases h with|cons h2 t2=>
 cases t2;cases h2;refine(Go.Proofs.Any.strconv_Itoa Go.Proofs.Tryz.laysItoa n c h1 w f).mono ?_;rintro e j ⟨rfl,k,os,rfl⟩;exact⟨_,rfl,⟨rfl,rfl,rfl,by simp[Go.Sort.grow],fun b g=>by simp only[Go.Sort.grow];rw[Array.getElem?_append_left (by exact g)];rfl⟩, .str _⟩
def Zc (xs:List ByteArray)(a:ByteArray):ByteArray:=⟨(Go.Lib.join (xs.map (·.data.toList)) a.data.toList).toArray⟩
def Gn {w:World}{O:Nat->Prop}:∀{vs:List Value} {xs:List ByteArray},aU w O vs (xs.map DV.str)->vs=xs.map Value.string
 | _,[], .nil=>rfl
 | _,x::xs, .cons h t=>by
  cases h;rw[Gn t]
  rfl
end Go.Tel
namespace Go.Am
section
variable {C:Ctx}{base:Nat}{M:Mem}{K:PV->Mem->Prop}{KP:DV->Mem->Prop}
variable{a b:ByteArray}
def lU {op:BinOp}{K:DV->Prop}:J6 op (.d (.str a)) (.d (.str b)) K=zA op a b K:=px
def Fp {K:DV->Prop}:zA .add a b K=(a.size+b.size<=9223372036854775807/\K (.str (a++b))):=px
def Jl {K:DV->Prop}:zA .eql a b K=K (.bool (a.toList==b.toList)):=px
def Tc {K:DV->Prop}:zA .neq a b K=K (.bool (!(a.toList==b.toList))):=px
end
end Go.Am
namespace Go.Tel
open Go.Am
def size_data (b:ByteArray):b.data.toList.length=b.size:=br
def ahJ (xs:List ByteArray)(b:ByteArray)(F:xs.length<=1000000)(hl:(Go.Lib.join (xs.map (·.data.toList)) b.data.toList).length<=1000000000):
  Am.Pure Go.Tel.C 246 [sF (xs.map .str), .str b] (.d (.str (Zc xs b))) []:=by
 refine o7 fun X w u E H A=> ?_
 cases A with|cons h1 t1=>
 cases t1 with|cons y t2=>
 cases t2;cases y;generalize h:xs.map DV.str=ys at h1;cases h1 with
 |empty=>
  rw[bX]at h;subst h;refine(Go.Proofs.Any.strings_Join_none Go.Proofs.Tryz.laysJoin Go.Proofs.Tryz.joinExtra _ _ b w).mono ?_;rintro e v ⟨rfl,rfl⟩;exact⟨_,rfl,Later.refl _, .str _⟩
 |slice q G f B z D g=>
 rename_i i k len cap sz cs T fz
 subst h;rw[U]at f;subst f
 by_cases s:xs=[]
 ·subst s
  refine(Go.Proofs.Any.strings_Join_none Go.Proofs.Tryz.laysJoin Go.Proofs.Tryz.joinExtra _ _ b w).mono ?_;rintro e v ⟨rfl,rfl⟩;exact⟨_,rfl,Later.refl _, .str _⟩
 have o:sz=1:=by
  obtain⟨p,l,rfl⟩:∃p l,xs=p::l:=by
   cases xs with
   |nil=>exact absurd rfl s
   |cons a t=>exact⟨a,t,rfl⟩
  rw[<-B (.str p) (by simp)];rfl
 subst o;rw[JB,cz]at g;have n:=Gn g;refine(Go.Proofs.Any.strings_Join Go.Proofs.Tryz.laysJoin Go.Proofs.Tryz.joinExtra i k cap xs b w (fun j x r=> ?_) (bZ q) (by omega) z (by omega)).mono ?_
 ·have m:j<xs.length:=(V.1 r).1
  rw[cell_of_row w i (k+j) cs T fz q];have:=congrArg (fun l=>l[j]?) n;simp only[List.getElem?_take,m,if_true,List.getElem?_drop,Array.getElem?_toList,cl,r,bS]at this;exact this
 ·rintro e v ⟨rfl,c⟩
  exact⟨_,rfl,⟨c.os,c.tape,c.output,c.size,c.block⟩, .str _⟩
def qX (n:Int):ByteArray:=⟨(Go.Lib.itoa n).toArray⟩
def I64 (n:Int):Prop:= -9223372036854775808<=n/\n<=9223372036854775807
def Gu {n:Int}(h:I64 n):Pure C 155 [dI n] (.d (.str (qX n))) []:=ahI n h.1 h.2
def GU {n:Int}(h:I64 n):(qX n).size<=21:=by
 have:=Go.Lib.itoa_length_le n h.1 h.2
 simpa[qX,cC]using this
def KG {B:Nat}(a:UInt8):∀(r:List (List UInt8)),(∀x∈r,x.length<=B)->(Go.Lib.joinTail [a] r).length<=r.length*(B+1)
 | [],_=>by simp[Go.Lib.joinTail]
 |x::r,h=>by
  have c:=KG a r (fun y b=>h y (cj _ b));have d:=h x ck;simp only[Go.Lib.joinTail,aE,List.flatten_cons,Y,ae,ap]at c⊢;rw[cF];omega
def join_le {B:Nat}(a:UInt8)(xs:List (List UInt8))(h:∀x∈xs,x.length<=B):(Go.Lib.join xs [a]).length<=xs.length*(B+1):=by
 cases xs with
 |nil=>simp[Go.Lib.join_nil]
 |cons x r=>
  rw[Go.Lib.join_cons,Y,ae,cF];have:=KG a r (fun y b=>h y (cj _ b));have:=h x ck;omega
def XW (xs:List ByteArray)(c:UInt8):(Zc xs ⟨#[c]⟩).size=(Go.Lib.join (xs.map (·.data.toList)) [c]).length:=by
 unfold Zc
 show(List.toArray _).size=_
 rw[cn]
def Il (ns:List Int):ByteArray:=Zc (ns.map qX) ⟨#[32]⟩
variable{ns:List Int}
def Nw (h:∀n∈ns,I64 n):(Go.Lib.join ((ns.map qX).map (·.data.toList)) [32]).length<=ns.length*22:=by
 have:=join_le (B:=21) 32 ((ns.map qX).map (·.data.toList)) (fun x a=>by
  simp only[bl]at a;obtain⟨y,⟨n,b,rfl⟩,rfl⟩:=a;rw[size_data];exact GU (h n b))
 simpa using this
def Ry (h:∀n∈ns,I64 n):(Il ns).size<=ns.length*22:=by
 rw[Il,XW];exact Nw h
variable{s:ByteArray}
def GI:DV.cells (.str s)=[.str s]:=rfl
def ac9:DV.fits 1 (.str s)=true:=rfl
def adD (ns:List Int)(hl:ns.length<=1000)(h:∀n∈ns,I64 n):Pure C 158 [sF (ns.map ay)] (.d (.str (Il ns))) []:=by
 refine ah uT aS ?_;simp only[uT,aS,U,RN,F,H,I,J,N,S];refine aG ns.length (fun i (v:Nat)=>⟨[(3, .tsl 0 v 0),(6, .d (sF (ns.map ay))),(7,pI ns.length),(8,pI i)],⟨[],[],[some ⟨1,((ns.take i).map qX).map .str,v,0⟩]⟩⟩)
  (fun _ _=>True) 0 0 (aM _) rfl trivial (fun i v a _=> ?_) (fun v _=> ?_)
 ·obtain⟨b,c,e⟩:=rng a (by omega)
  simp only[b,c,a,getD_map,aZ,aq,U,RN,F,H,I,J,N,S];refine au (Gu (h _ (getD_mem a))) ?_;simp only[dV,DV.strip,GI,ac9,forall_eq,U,RN,F,H,I,J,N,S];refine⟨by simp,by simp;omega,?_⟩;simp only[e,RN,F,H,I,J,N,S];refine kZ (v+1) a ?_ trivial;rw[dP a];simp
 ·simp only[be,RN,F,H,I,J,N,S]
  rw[bA];refine jU (qQ (d:=sF ((ns.map qX).map .str)) (by simp[datum,Mem.row])) rfl (ahJ (ns.map qX) ⟨#[32]⟩ (by simp;omega) (by have:=Nw h;simp only at this⊢;omega)) rfl ?_;(try simp only[RN,F,H,I,J,N,S])
  rfl
def En.line (x:En):ByteArray:=fwE x.kind++⟨#[32]⟩++Il x.ns
end Go.Tel
namespace Go.Am
section
variable {C:Ctx}{base:Nat}{L:PV->Mem->Prop}{KP:DV->Mem->Prop}{bs:List (Option (List PV))}{fz:List Nat}{ar:List (Option Arr)}
variable{s:ByteArray}
def afO {i:Nat}:ak C base (.rngS i) [.d (.str s)] ⟨bs,fz,ar⟩ L KP=(bs[base+i]?=some none/\L (.xO (base+i)) ⟨bs.set (base+i) (some [.Dl s 0]),fz,ar⟩):=px
def Xw {b pos c n:Nat}(h:bs[b]?=some (some [.Dl s pos]))(hf:b∉fz)(e:pos<s.size)(hd:Utf8.decode s pos=(c,n))(a:L (.d (.tup [.bool true,dI pos, .int .i32 c])) ⟨bs.set b (some [.Dl s (pos+n)]),fz,ar⟩):
  ak C base .Vh [.xO b] ⟨bs,fz,ar⟩ L KP:=by
 simp only[ak,Mem.box,h,hd];exact⟨hf,by rw[if_pos e];exact a⟩
def Uw {b pos:Nat}(h:bs[b]?=some (some [.Dl s pos]))(hf:b∉fz)(c:¬pos<s.size)(a:L (.d (.tup [.bool false])) ⟨bs,fz,ar⟩):
  ak C base .Vh [.xO b] ⟨bs,fz,ar⟩ L KP:=by
 simp only[ak,Mem.box,h];exact⟨hf,by rw[if_neg c];exact a⟩
variable{M:Mem}{K:PV->Mem->Prop}
def Xx {sz:Nat}{xs:List DV}{k:IntKind}{n:Int}(hs:∀x∈xs,x.cells.length=sz)(a:0<=n)(h1:n<=xs.length):
  ak C base (.EC sz true false false) [.d (.slice false xs), .d (.int k n)] M K KP=K (.d (sF (xs.drop n.toNat))) M:=by
 simp only[ak,wZ,dJ,bi,bu,aq,bA,bp,Bool.or_false];refine propext ⟨fun h=>h.2.2.2.2.2.2,fun h=>⟨trivial,hs,a,h1,cw _,fun c b=>b,h⟩⟩
def acZ {neq:Bool}{a c:ByteArray}{b d:Int}:ak C base (.A8 neq [2,1]) [.d (.agg [.str a,dI b]), .d (.agg [.str c,dI d])] M K KP=K (.d (.bool (((a.toList==c.toList)&&(b==d)) !=neq))) M:=by
 rw[Ib (t:=(a.toList==c.toList)&&(b==d))];simp[bG]
end
end Go.Am
namespace Go.Tel
open Go.Am
def ag3 (xs:List ByteArray):∀y∈xs.map DV.str,y.cells.length=1:=by
 intro y a;obtain⟨n,_,rfl⟩:=bl.1 a;rfl
def ajC {p:ByteArray×Nat}:XE p= .agg [.str p.1,dI (p.2:Int)]:=rfl
def uf (s:ByteArray)(n:Nat)(p:ByteArray×Nat):Bool:=(s.toList==p.1.toList)&&((n:Int)==(p.2:Int))
def UM (l:List (ByteArray×Nat))(hl:l.length<=1000)(s:ByteArray)(n:Nat):Pure C 277 [sF (l.map XE), .agg [.str s,dI (n:Int)]] (.d (dI (jM (uf s n) l 0))) []:=by
 refine ah jT aQ ?_;simp only[jT,aQ,U,RN,F,H,I,J,N,S];refine aG l.length (fun i (_:Unit)=>⟨[(0, .d (sF (l.map XE))),(3, .d (.aV [.str s,dI (n:Int)])),(7,pI l.length),(8,pI i)],⟨[some [.d (.str s),pI (n:Int)]],[0],[]⟩⟩)
  (fun i _=>jM (uf s n) l 0=jM (uf s n) (l.drop i) i) 0 () (aM _) rfl rfl (fun i _ h1 a=> ?_) (fun _ a=> ?_)
 ·obtain⟨h2,c,e⟩:=rng h1 (by omega)
  rw[drop_cons h1,jM]at a;simp only[h2,c,h1,getD_map,aq,U,ajC,acZ,J8,RN,F,H,I,J,N,S];cases b:uf s n (l.getD i default)
  ·rw[if_neg (fun h=>by rw[b]at h;cases h)]at a
   rw[uf]at b;simp only[b,e,RN,F,H,I,J,N,S];exact kZ () h1 rfl a
  ·rw[if_pos b]at a
   rw[uf]at b;simp only[b,RN,F,H,I,J,N,S];rw[a]
 ·rw[bR,jM]at a
  simp only[be,a,RN,F,H,I,J,N,S]
variable{M:Mem}
def uK {b:Bool}{s:ByteArray}{K:PV->Mem->Prop}{KP:DV->Mem->Prop}(c:b=true->K (.d (.tup [])) M)(e:b=false->∀d,L9 d->KP d M):SC C 278 [.d (.bool b), .d (.str s)] M K KP:=by
 refine Go.Am.JX (ds:=[.bool b, .str s]) (Kr:=fun x=>b=true/\x= .tup []) (Kp:=fun d=>b=false/\L9 d) ?_ (fun x a=>by rw[a.2];exact c a.1) (fun d hd=>e hd.1 d hd.2);refine aC pY fB ?_;cases b
 ·simp only[pY,fB,xR,kS,RN,F,H,I,J,N,S]
  exact⟨s,rfl⟩
 ·simp only[pY,fB,RN,F,H,I,J,N,S]
  exact⟨_,rfl,rfl⟩
def Qa (w:ByteArray):Nat->Nat->Int->Option Int
 |0,_,n=>some n
 |k+1,pos,n=>if 48<=(w.data.getD pos 0).toNat/\(w.data.getD pos 0).toNat<=57/\w.size<=4 then Qa w k (pos+1) (10*n+(((w.data.getD pos 0).toNat:Int) - 48))else none
def yZ (w:ByteArray):Option Int:=match Qa w w.size 0 0 with
 |some n=>if w.size≠0/\(qX n).data.toList=w.data.toList then some n else none
 |none=>none
def GY:List ByteArray->List Int->Option (List Int)
 | [],a=>some a
 |x::l,a=>match yZ x with
  |some n=>GY l (a++ [n])
  |none=>none
def zu (line:ByteArray)(a:List (ByteArray×Nat)):Option (Int×List Int):=
 if jM (uf ((lS line 32).getD 0 default) ((lS line 32).length - 1)) a 0>=0 then
  (match GY ((lS line 32).drop 1) []with
  |some l=>some (jM (uf ((lS line 32).getD 0 default) ((lS line 32).length - 1)) a 0,l)
  |none=>none)
 else none
def Rt {α:Type}(p:α->Bool):∀(l:List α) (i:Nat), -1<=jM p l i/\jM p l i<=(i+l.length:Nat)
 | [],i=>by simp only[jM];omega
 |x::l,i=>by
  simp only[jM]
  split
  ·simp;omega
  ·have:=Rt p l (i+1);simp only[ae];omega
def ZA {line:ByteArray}(hr:line.size<=1000000)(f:List (ByteArray×Nat))(B:f.length<=1000)(ex:Bool){M:Mem}{K:PV->Mem->Prop}{KP:DV->Mem->Prop}
  (hK:∀p ns,zu line f=some (p,ns)->K (.d (.tup [dI p,sF (ns.map ay)])) M)(hP:zu line f=none->∀d,L9 d->KP d M):SC C 223 [.d (.str line), .d (.slice ex (f.map XE))] M K KP:=by
 refine Go.Am.JX (ds:=[.str line, .slice ex (f.map XE)]) (Kr:=fun x=>∃a ns,zu line f=some (a,ns)/\x= .tup [dI a,sF (ns.map ay)]) (Kp:=fun d=>zu line f=none/\L9 d) ?_ (fun x hx=>by obtain⟨a,ns,h1,rfl⟩:=hx;exact hK a ns h1) (fun d hd=>hP hd.1 d hd.2);have hl:=Ho line 32;have ab:=Go.Lib.countB_le ⟨#[32]⟩ (a8 _) line.size line (a8 _);have akg:=afk line 32 hr;refine aC yu bQ ?_;simp only[yu,bQ,RN,F,H,I,J,N,S];refine au akg ?_;have Zz:zu line f=if jM (uf ((lS line 32).getD 0 default) ((lS line 32).length - 1)) f 0>=0 then(match GY ((lS line 32).drop 1) []with|some l=>some (jM (uf ((lS line 32).getD 0 default) ((lS line 32).length - 1)) f 0,l)|none=>none)else none:=rfl
 have ae:(lS line 32).length<=1000001:=by omega
 have ac:1<=(lS line 32).length:=by omega
 generalize lS line 32=ws at*;have i0:(0:Int)<=0:=by decide
 have l0:0<ws.length:=by omega
 have R:cG .i64 ((ws.length:Int) - 1)=((ws.length - 1:Nat):Int):=by rw[aF (by omega)];omega
 have D:=UM f B (ws.getD 0 default) (ws.length - 1);have alz:=Rt (uf (ws.getD 0 default) (ws.length - 1)) f 0;simp only[U,i0,l0,Int.toNat_zero,getD_map,GI,R,RN,F,H,I,J,N,S];refine au D ?_;(try simp only[RN,F,H,I,J,N,S]);generalize jM (uf (ws.getD 0 default) (ws.length - 1)) f 0=ix at*;refine uK (fun e2=> ?_) (fun e2 d b=>⟨by rw[Zz,if_neg (of_decide_eq_false e2)],b⟩);rw[if_pos (of_decide_eq_true e2)]at Zz;(try simp only[RN,F,H,I,J,N,S]);rw[Xx (ag3 ws) (by decide) (by rw[U];omega)];have A:(ws.map DV.str).drop (Int.toNat 1)=(ws.drop 1).map DV.str:=by rw[List.map_drop];rfl
 rw[A];have P:(ws.drop 1).length<=1000000:=by simp;omega
 generalize ws.drop 1=xs at*;simp only[U,RN,F,H,I,J,N,S];refine aG xs.length (fun i (q:List Int×Nat)=>⟨[(0, .d (.str line)),(7,pI ix),(8, .tsl 1 q.2 0),(30, .d (sF (xs.map .str))),(31,pI xs.length),(32,pI i)],⟨[],[],[some ⟨1,[],0,0⟩,some ⟨1,q.1.map ay,q.2,0⟩]⟩⟩)
  (fun i q=>GY xs []=GY (xs.drop i) q.1/\q.1.length=i) 0 ([],0) (aM _) rfl ⟨rfl,rfl⟩ (fun i q t r=> ?_) (fun q r=> ?_)
 ·obtain⟨g,ver⟩:=q
  obtain⟨r1,r2⟩:=r;simp only at r1 r2;obtain⟨X,Y,Z⟩:=rng t P;rw[drop_cons t,GY]at r1;obtain⟨w,T⟩:∃w,w=xs.getD i default:=⟨_,rfl⟩
  rw[<-T]at r1;have e:yZ w=none->zu line f=none:=fun h=>by rw[Zz,r1,h]
  simp only[X,Y,t,getD_map,aq,U,GI,<-T,afO,RN,F,H,I,J,N,S];refine qM (fun(q:Nat×Int)=>⟨[(0, .d (.str line)),(7,pI ix),(8, .tsl 1 ver 0),(10, .d (.str w)),(11,pI q.2),(30, .d (sF (xs.map .str))),(31,pI xs.length),(32,pI i),(37, .xO 0)],⟨[some [.Dl w q.1]],[],[some ⟨1,[],0,0⟩,some ⟨1,g.map ay,ver,0⟩]⟩⟩)
   (fun q=>q.1<=w.size/\Qa w w.size 0 0=Qa w (w.size - q.1) q.1 q.2/\0<=q.2/\q.2<10 ^ q.1/\(0<q.1->w.size<=4)) (fun q=>w.size - q.1) (0,0) rfl ⟨aM _,rfl,by decide,by decide,by simp⟩ (fun q r=> ?_)
  obtain⟨pos,n⟩:=q;obtain⟨q1,j,q3,q4,W⟩:=r;simp only at q1 j q3 q4 W
  by_cases o:pos<w.size
  ·obtain⟨c,dn,hd⟩:∃c dn,Utf8.decode w pos=(c,dn):=⟨_,_,rfl⟩
   have hg:w.data.getD pos 0=w[pos]'o:=by
    rw[Array.getD_eq_getD_getElem?,Array.getElem?_eq_getElem (show pos<w.data.size from o)];rfl
   have z:(48<=(w.data.getD pos 0).toNat/\(w.data.getD pos 0).toNat<=57↔48<=c/\c<=57)/\(c<=57->c=(w.data.getD pos 0).toNat/\dn=1):=by
    rw[hg]
    by_cases ha:(w[pos]'o).toNat<128
    ·have:=decode_ascii w pos o ha
     rw[hd]at this;cases this;exact⟨cB,fun _=>⟨rfl,rfl⟩⟩
    ·have:=(decode_high w pos o (by omega)).1
     rw[hd]at this;simp only at this;exact⟨by omega,by omega⟩
   obtain⟨k,hk⟩:∃k,w.size - pos=k+1:=⟨w.size - pos - 1,by omega⟩
   rw[hk,Qa]at j;have bad:¬(48<=c/\c<=57/\w.size<=4)->yZ w=none:=by
    intro G;rw[if_neg (by intro hh;exact G ⟨(z.1.1 ⟨hh.1,hh.2.1⟩).1,(z.1.1 ⟨hh.1,hh.2.1⟩).2,hh.2.2⟩)]at j;rw[yZ,j]
   (try simp only[RN,F,H,I,J,N,S]);refine Xw rfl (by simp) o hd ?_
   by_cases y:(c:Int)>=48
   case neg=>
    simp only[y,RN,F,H,I,J,N,S];exact uK (fun h=>by cases h) (fun _ d b=>⟨e (bad (by omega)),b⟩)
   by_cases Q:(c:Int)<=57
   case neg=>
    simp only[y,Q,RN,F,H,I,J,N,S];exact uK (fun h=>by cases h) (fun _ d b=>⟨e (bad (by omega)),b⟩)
   by_cases V:(w.size:Int)<=4
   case neg=>
    simp only[y,Q,V,RN,F,H,I,J,N,S];exact uK (fun h=>by cases h) (fun _ d b=>⟨e (bad (by omega)),b⟩)
   simp only[y,Q,V,RN,F,H,I,J,N,S];refine uK (fun _=> ?_) (fun h=>by cases h);obtain⟨hc,rfl⟩:=z.2 (by omega);rw[if_pos ⟨by omega,by omega,by omega⟩,<-hc]at j;have O:(10:Int) ^ pos<=1000:=by
    rcases pos with _| _| _| _|pos
    ·decide
    ·decide
    ·decide
    ·decide
    ·omega
   have R:cG .i64 (10*n)=10*n:=aF (by omega);have w2:IntKind.i32.wrap ((c:Int) - 48)=(c:Int) - 48:=by
    obtain⟨m,hm⟩:∃m:Nat,(c:Int) - 48=m:=Int.eq_ofNat_of_zero_le (by omega)
    have E:m<10:=by omega
    rw[hm];exact(by decide:∀m<10,IntKind.i32.wrap ((m:Nat):Int)=m) m E
   have w3:cG .i64 ((c:Int) - 48)=(c:Int) - 48:=aF (by omega);have w4:cG .i64 (10*n+((c:Int) - 48))=10*n+((c:Int) - 48):=aF (by omega);simp only[R,w2,w3,w4,RN,F,H,I,J,N,S];refine ZF (a:=(pos,n)) (μ:=fun q=>w.size - q.1) (pos+1,10*n+((c:Int) - 48)) (by simp only;omega) rfl ⟨by simp only;omega,?_,by simp only;omega,?_,fun _=>by omega⟩ (by simp) (by simp) rfl rfl
   ·simp only
    rw[j,show w.size - (pos+1)=k by omega]
   ·simp only[Int.pow_succ];omega
  ·have L:pos=w.size:=by omega
   rw[L,Nat.sub_self,Qa]at j;(try simp only[RN,F,H,I,J,N,S]);refine Uw rfl (by simp) o ?_;have s:(w.toList==(⟨#[]⟩:ByteArray).toList)=decide (w.size=0):=by
    rw[Go.Lib.toList_data,Go.Lib.toList_data,<-size_data];cases w.data.toList<;>simp
   by_cases v:w.size=0
   ·rw[decide_eq_true v]at s
    simp only[lU,Tc,s,RN,F,H,I,J,N,S];exact uK (fun h=>by cases h) (fun _ d b=>⟨e (by rw[yZ,j];simp[v]),b⟩)
   ·rw[decide_eq_false v]at s
    have ai:w.size<=4:=W (by omega);have O:(10:Int) ^ pos<=10000:=by
     rcases pos with _| _| _| _| _|pos
     ·decide
     ·decide
     ·decide
     ·decide
     ·decide
     ·omega
    simp only[lU,Tc,s,RN,F,H,I,J,N,S];refine fG rfl rfl (Gu ⟨by omega,by omega⟩) ?_
    by_cases u:(qX n).data.toList=w.data.toList
    ·have e1:((qX n).toList==w.toList)=true:=by rw[Go.Lib.toList_data,Go.Lib.toList_data];exact beq_iff_eq.2 u
     have G:yZ w=some n:=by rw[yZ,j];simp only;rw[if_pos ⟨v,u⟩]
     rw[G]at r1;simp only[lU,Jl,e1,RN,F,H,I,J,N,S];refine uK (fun _=> ?_) (fun h=>by cases h);simp only[dV,fits_int,forall_eq,DV.strip,gZ,U,RN,F,H,I,J,N,S];refine⟨by simp,by omega,?_⟩;simp only[Z,RN,F,H,I,J,N,S];refine bK 0 2 (g++ [n],ver+1) t ?_ ⟨r1,by simp[r2]⟩ (by simp) (by simp) rfl rfl;simp only[bk,aE,bq,aZ];rfl
    ·have e1:((qX n).toList==w.toList)=false:=by rw[Go.Lib.toList_data,Go.Lib.toList_data];exact beq_eq_false_iff_ne.2 u
     simp only[lU,Jl,e1,RN,F,H,I,J,N,S];exact uK (fun h=>by cases h) (fun _ d b=>⟨e (by rw[yZ,j];simp only;rw[if_neg (fun hh=>u hh.2)]),b⟩)
 ·obtain⟨g,ver⟩:=q
  obtain⟨r1,r2⟩:=r;simp only at r1 r2;rw[bR,GY]at r1;simp only[be,bC,dh,bh,RN,F,H,I,J,N,S];exact⟨.tup [dI ix,sF (g.map ay)],by simp[datum,bW,dS,Mem.row,YF,gU],ix,g,by rw[Zz,r1],rfl⟩
def dY (line:ByteArray):En×Int:=
 if line.size>60 then(⟨0,[]⟩,3)else match zu line fmL with
  |some (a,ns)=>(⟨1+a,ns⟩,0)
  |none=>(⟨0,[]⟩,4)
def gu (line:ByteArray):Qn×Int:=match zu line amL with
 |some (a,ns)=>(⟨1+a,ns⟩,0)
 |none=>(⟨0,[]⟩,4)
def Bv (k:Int)(ns:List Int)(e:Int):DV:= .tup [.agg [dI k, .slice (decide (e≠0)) (ns.map ay)],dI e]
def V7 {line:ByteArray}{b:List (ByteArray×Nat)}{a:Int}{ns:List Int}(h:zu line b=some (a,ns)):0<=a/\a<=b.length:=by
 unfold zu at h
 split at h
 ·rename_i c
  have d:=(Rt (uf ((lS line 32).getD 0 default) ((lS line 32).length - 1)) b 0).2
  split at h
  ·cases h;omega
  ·cases h
 ·cases h
def abr {line:ByteArray}(n:line.size<=1000000){bs:List (Option (List PV))}{fz:List Nat}{ar:List (Option Arr)}(b:FzB ⟨bs,fz,ar⟩){xb:Nat}{j l:PV}(hx:bs[xb]?=some (some [j,l]))(f:xb∉fz):
  SC C 221 [.d (.aV [.str line]), .ptr xb 0] ⟨bs,fz,ar⟩
   (fun _ M'=>∃a ns y,zu line fmL=some (a,ns)/\M'=⟨bs.set xb (some [pI (1+a), .d (sF (ns.map ay))])++ [y],bs.length::fz,ar⟩)
   (fun d M'=>zu line fmL=none/\L9 d/\∃y,M'=⟨bs++ [y],bs.length::fz,ar⟩):=by
 have c:bs.length∉fz:=fun e=>aD _ (b _ e)
 have g:xb<bs.length:=(V.1 hx).1;have aiY:∀k,xb<bs.length+k:=fun k=>by omega
 have i:¬xb=bs.length:=by omega
 refine aC sW fB ?_;simp only[sW,fB,RN,F,H,I,J,N,S];refine au Y5 ?_;rw[Y4];simp only[aN,aT,c,Y,Rl,RN,F,H,I,J,N,S];refine⟨(fun h=>by cases h),?_⟩
 show SC C 223 [.d (.str line), .d (.slice true (fmL.map XE))] _ _ _
 refine ZA n fmL (by decide) true (fun a ns h=> ?_) (fun h d hd=> ?_)
 ·have p:=V7 h
  have m:(fmL:List (ByteArray×Nat)).length<=12:=by decide
  have o:cG .i64 (1+a)=1+a:=aF (by omega);simp only[o,aY,g,aiY,hx,bM,f,i,av,or_false,EO,RN,F,H,I,J,N,S];exact⟨a,ns,_,h,rfl⟩
 ·exact⟨h,hd,_,rfl⟩
def aby {line:ByteArray}(n:line.size<=1000000){bs:List (Option (List PV))}{fz:List Nat}{ar:List (Option Arr)}(b:FzB ⟨bs,fz,ar⟩){xb:Nat}{j l:PV}(hx:bs[xb]?=some (some [j,l]))(f:xb∉fz):
  SC C 231 [.d (.aV [.str line]), .ptr xb 0] ⟨bs,fz,ar⟩
   (fun _ M'=>∃a ns y,zu line amL=some (a,ns)/\M'=⟨bs.set xb (some [pI (1+a), .d (sF (ns.map ay))])++ [y],bs.length::fz,ar⟩)
   (fun d M'=>zu line amL=none/\L9 d/\∃y,M'=⟨bs++ [y],bs.length::fz,ar⟩):=by
 have c:bs.length∉fz:=fun e=>aD _ (b _ e)
 have g:xb<bs.length:=(V.1 hx).1;have aiY:∀k,xb<bs.length+k:=fun k=>by omega
 have i:¬xb=bs.length:=by omega
 refine aC oP fB ?_;simp only[oP,fB,RN,F,H,I,J,N,S];refine au acr ?_;rw[Y3];simp only[aN,aT,c,Y,Rl,RN,F,H,I,J,N,S];refine⟨(fun h=>by cases h),?_⟩
 show SC C 223 [.d (.str line), .d (.slice true (amL.map XE))] _ _ _
 refine ZA n amL (by decide) true (fun a ns h=> ?_) (fun h d hd=> ?_)
 ·have p:=V7 h
  have m:(amL:List (ByteArray×Nat)).length<=12:=by decide
  have o:cG .i64 (1+a)=1+a:=aF (by omega);simp only[o,aY,g,aiY,hx,bM,f,i,av,or_false,EO,RN,F,H,I,J,N,S];exact⟨a,ns,_,h,rfl⟩
 ·exact⟨h,hd,_,rfl⟩
def afg (line:ByteArray):Pure C 153 [.str line] (.d (Bv (dY line).1.kind (dY line).1.ns (dY line).2)) []:=by
 refine ah wu SH ?_;simp only[wu,SH,RN,F,H,I,J,N,S]
 by_cases f:line.size>60
 ·have e:decide ((line.size:Int)>60)=true:=by simp;omega
  have c:dY line=(⟨0,[]⟩,3):=by rw[dY,if_pos f]
  simp only[e,c,Bv,RN,F,H,I,J,N,S]
  rfl
 ·have e:decide ((line.size:Int)>60)=false:=by simp;omega
  simp only[e,l7,bh,RN,F,H,I,J,N,S];have z0:((0:Int) !=0)=false:=rfl;have g:((4:Int) !=0)=true:=rfl;refine LX (fs:=[]) (cs:=[.d (.aV [.str line]), .ptr 2 0]) (fun i b=>by simp at b;simp[b]) (by kernel_rfl) ?_;refine SC.kL (SC.mono (abr (line:=line) (by omega) (fun i b=>by simp at b;simp[b]) (xb:=2) rfl (by simp)) ?_) ?_
  ·rintro v M' ⟨a,ns,y,h,rfl⟩
   have c:dY line=(⟨1+a,ns⟩,0):=by rw[dY,if_neg f,h]
   refine⟨rfl,by simp,?_⟩;simp only[z0,c,Bv,av,ai,or_false,RN,F,H,I,J,N,S];simp
  ·rintro d M' ⟨h,hd,y,rfl⟩
   have c:dY line=(⟨0,[]⟩,4):=by rw[dY,if_neg f,h]
   refine⟨rfl,by simp,by simp, .inr ⟨hd,fun x=> ?_⟩⟩;simp only[g,c,Bv,av,ai,or_false,RN,F,H,I,J,N,S]
   rfl
def Yo (line:ByteArray)(hl:line.size<=1000000):Pure C 156 [.str line] (.d (Bv (gu line).1.kind (gu line).1.ns (gu line).2)) []:=by
 refine ah rC SH ?_;simp only[rC,SH,l7,bh,RN,F,H,I,J,N,S];refine LX (fs:=[]) (cs:=[.d (.aV [.str line]), .ptr 2 0]) (fun i b=>by simp at b;simp[b]) (by kernel_rfl) ?_;refine SC.kL (SC.mono (aby (line:=line) hl (fun i b=>by simp at b;simp[b]) (xb:=2) rfl (by simp)) ?_) ?_
 ·rintro v M' ⟨a,ns,y,h,rfl⟩
  have c:gu line=(⟨1+a,ns⟩,0):=by rw[gu,h]
  refine⟨rfl,by simp,?_⟩;simp only[c,Bv,av,ai,or_false,RN,F,H,I,J,N,S];simp
 ·rintro d M' ⟨h,hd,y,rfl⟩
  have c:gu line=(⟨0,[]⟩,4):=by rw[gu,h]
  refine⟨rfl,by simp,by simp, .inr ⟨hd,fun x=> ?_⟩⟩;simp only[c,Bv,av,ai,or_false,RN,F,H,I,J,N,S]
  rfl
def aaH:ByteArray:=⟨#[101,114,114,111,114,32]⟩
def adV:ByteArray:=⟨#[110,111,116,101,100]⟩
def Vf:ByteArray:=⟨#[110,111,116,104,105,110,103]⟩
def aiZ (n:Int):Bool:=decide (-9223372036854775808<=n)&&decide (n<=9223372036854775807)
def Dk.said (D:Dk)(line:ByteArray):Option (Dk×ByteArray):=
 if(dY line).2=0 then(if(D.enter (dY line).1).2=0 then some ((D.enter (dY line).1).1,adV)else some ((D.enter (dY line).1).1,aaH++qX (D.enter (dY line).1).2))
 else if(dY line).2=3 then some (D,aaH++qX 3)
 else if(gu line).2=0 then
  (if(D.ask (gu line).1).2≠0 then some (D,aaH++qX (D.ask (gu line).1).2)
  else if(D.ask (gu line).1).1=[]then some (D,Vf)
  else if(D.ask (gu line).1).1.all aiZ&&decide ((D.ask (gu line).1).1.length<=1000)then some (D,Il (D.ask (gu line).1).1)else none)
 else some (D,aaH++qX (gu line).2)
def PE (D:Dk)(x:En):0<=(D.enter x).2/\(D.enter x).2<=7:=by
 unfold Dk.enter
 repeat' split
 all_goals simp
def acM (d:Dvd)(n:Int):0<=(d.cuts n).2/\(d.cuts n).2<=7:=by
 unfold Dvd.cuts
 split
 ·split<;>simp
 ·simp
def Qp (line:ByteArray):0<=(gu line).2/\(gu line).2<=7:=by
 unfold gu;split<;>simp
def abt (line:ByteArray):0<=(dY line).2/\(dY line).2<=7:=by
 unfold dY;split
 ·simp
 ·split<;>simp
def ab1 (p:Pc)(h:Int)(f:Fr)(n:Int):0<=(uy p h f n).2/\(uy p h f n).2<=7:=by
 unfold uy abn
 repeat' split
 all_goals simp
def Ud (p:Pc)(a b h:Int)(f:Fr):0<=(p.changes a b h f).2/\(p.changes a b h f).2<=7:=by
 have pr:∀(l:List Chg) (n:Int),0<=n/\n<=7->0<=(l,n).2/\(l,n).2<=7:=fun _ _ h=>h
 unfold Pc.changes
 split
 ·split
  ·exact pr _ 0 (by decide)
  split
  ·exact pr _ 0 (by decide)
  split
  ·exact pr _ 0 (by decide)
  ·exact pr _ 5 (by decide)
 ·exact pr _ 2 (by decide)
def adS (D:Dk)(t:Sp)(a b c:Int):0<=(sO D t a b c).2/\(sO D t a b c).2<=7:=by
 unfold sO
 split
 ·split
  ·simp
  ·exact Ud _ _ _ _ _
 ·simp
def ab6 (r:List Int×Int):Prop:=0<=r.2/\r.2<=7
variable{c:Prop}
def mG [Decidable c]{a b:List Int×Int}(d:ab6 a)(hb:ab6 b):ab6 (if c then a else b):=by
 by_cases h:c
 ·rw[if_pos h];exact d
 ·rw[if_neg h];exact hb
def xB (l:List Int){n:Int}(h:0<=n/\n<=7):ab6 (l,n):=h
def afz [Decidable c]{a b:Int}(d:0<=a/\a<=7)(hb:0<=b/\b<=7):0<=(if c then a else b)/\(if c then a else b)<=7:=by
 by_cases h:c
 ·rw[if_pos h];exact d
 ·rw[if_neg h];exact hb
def Md (D:Dk)(t:Sp)(q:Qn):0<=(D.answer t q).2/\(D.answer t q).2<=7:=by
 refine(?_:ab6 (D.answer t q));unfold Dk.answer;refine mG (xB _ (by decide)) ?_;refine mG (xB _ (by decide)) ?_;refine mG (xB _ (by decide)) ?_;refine mG (xB _ (afz (by decide) (by decide))) ?_;refine mG (adS _ _ _ _ _) ?_;refine mG (xB _ (afz (ab1 _ _ _ _) (by decide))) ?_;refine mG (xB _ (by decide)) ?_;refine mG (xB _ (afz ?_ (by decide))) ?_
 ·generalize tY _ _ _=o
  cases o with
  |none=>exact(by decide:(0:Int)<=5/\(5:Int)<=7)
  |some x=>exact(by decide:(0:Int)<=0/\(0:Int)<=7)
 refine mG (xB _ (afz (by decide) (by decide))) ?_;refine mG (xB _ (acM _ _)) ?_;exact mG (xB _ (by decide)) (xB _ (by decide))
def YS (D:Dk)(q:Qn):0<=(D.ask q).2/\(D.ask q).2<=7:=by
 unfold Dk.ask
 split
 ·simp
 split
 ·simp
 split
 ·simp
 ·split
  ·exact Md _ _ _
  ·exact Md _ _ _
variable{D D':Dk}
def agZ {line s:ByteArray}(a:D.Ok)(h:D.said line=some (D',s)):D'.Ok:=by
 unfold Dk.said at h
 repeat' split at h
 all_goals first|(cases h;done)|(cases h;first|exact acX a _|exact a)
def abE {line s:ByteArray}(h:D.said line=some (D',s)):s.size<=30000:=by
 have e1:aaH.size=6:=rfl;have e2:adV.size=5:=rfl;have d:Vf.size=7:=rfl;have a:∀n:Int,0<=n/\n<=7->(aaH++qX n).size<=30000:=fun n c=>by
  have:=GU (n:=n) ⟨by omega,by omega⟩;rw[bO];omega
 unfold Dk.said at h
 split at h
 ·split at h
  ·cases h;omega
  ·cases h;exact a _ (PE _ _)
 split at h
 ·cases h;exact a 3 (by decide)
 split at h
 ·split at h
  ·cases h;exact a _ (YS _ _)
  split at h
  ·cases h;omega
  split at h
  ·rename_i b
   cases h;simp only[aR,b9,decide_eq_true_eq,aiZ]at b;have:=Ry (ns:=(D.ask (gu line).1).1) (fun n c=>b.1 n c);omega
  ·cases h
 ·cases h;exact a _ (Qp _)
def ZN {d:Nat}{ce cs:PV}(h:vH D d ce cs M)(L:D.Ok){line s:ByteArray}(hl:line.size<=1000000)(hs:D.said line=some (D',s)){KP:DV->Mem->Prop}:
  SC C 85 [.ptr d 0, .d (.str line)] M (fun p M'=>p= .d (.str s)/\∃ce' cs',vH D' d ce' cs' M'/\FrD d ce cs ce' cs' M M'/\FzB M') KP:=by
 obtain⟨bs,fz,ar⟩:=M;have DN:∀i∈fz,i<bs.length:=h.fzb
 have K:bs.length∉fz:=fun e=>aD _ (DN _ e)
 have ac:∀k,bs.length+k∉fz:=fun k e=>by have:=DN _ e;omega
 have am:¬bs.length+1=bs.length:=by omega
 have O:=abt line;have P:=Qp line;have g:∀n:Int,0<=n/\n<=7->I64 n:=fun n hn=>⟨by omega,by omega⟩
 have q:∀n:Int,0<=n/\n<=7->(qX n).size<=21:=fun n hn=>GU (g n hn)
 have e1:(⟨#[101,114,114,111,114,32]⟩:ByteArray).size=6:=rfl;refine aC nN aQ ?_;simp only[nN,aQ,RN,F,H,I,J,N,S];refine au (afg line) ?_;simp only[Bv,aN,aT,K,Y,RN,F,H,I,J,N,S];unfold Dk.said at hs
 by_cases B:(dY line).2=0
 ·rw[if_pos B]at hs
  have Q:((dY line).2==0)=true:=by simp[B]
  have hd:decide ((dY line).2≠0)=false:=by simp[B]
  have z:Frm ⟨bs,fz,ar⟩ ⟨bs++ [some [pI ((dY line).1.kind), .d (sF ((dY line).1.ns.map ay))]],bs.length::fz,ar⟩:=Frm.new (xf:=[bs.length]) (by simp);have G:=PE D (dY line).1;have hE:=ab5 (h.frm z) L (dY line).1 (KP:=KP);rw[Ci]at hE;simp only[Q,hd,RN,F,H,I,J,N,S];refine SC.kL (SC.mono hE ?_) (fun _ _ h=>h);rintro p ⟨W,X,V⟩ ⟨rfl,ce',cs',T,q2⟩;have b:=z.frD (d:=d) (ce:=ce) (cs:=cs)|>.trans q2
  by_cases t:(D.enter (dY line).1).2=0
  ·rw[if_pos t]at hs
   have u:((D.enter (dY line).1).2==0)=true:=by simp[t]
   cases hs;simp only[u,RN,F,H,I,J,N,S];exact⟨rfl,ce',cs',T,b,T.fzb⟩
  ·rw[if_neg t]at hs
   have u:((D.enter (dY line).1).2==0)=false:=by simp[t]
   have:=q _ G;cases hs;simp only[u,RN,F,H,I,J,N,S];refine au (Gu (g _ G)) ?_;simp only[lU,Fp,RN,F,H,I,J,N,S];exact⟨by omega,rfl,ce',cs',T,b,T.fzb⟩
 rw[if_neg B]at hs;have Q:((dY line).2==0)=false:=by simp[B]
 have hd:decide ((dY line).2≠0)=true:=by simp[B]
 have z:∀x,Frm ⟨bs,fz,ar⟩ ⟨bs++ [x],bs.length::fz,ar⟩:=fun x=>Frm.new (xf:=[bs.length]) (by simp)
 by_cases E:(dY line).2=3
 ·rw[if_pos E]at hs
  have v:((dY line).2==3)=true:=by simp[E]
  have:=q _ O;rw[<-E]at hs;cases hs;simp only[Q,v,RN,F,H,I,J,N,S];refine au (Gu (g _ O)) ?_;simp only[lU,Fp,RN,F,H,I,J,N,S];exact⟨by omega,rfl,ce,cs,h.frm (z _),(z _).frD,(z _).fzb h.fzb⟩
 rw[if_neg E]at hs;have v:((dY line).2==3)=false:=by simp[E]
 simp only[Q,v,RN,F,H,I,J,N,S];refine au (Yo line hl) ?_;simp only[Bv,bJ,aN,cu,aT,K,ac,am,a7,Y,bz,az,RN,F,H,I,J,N,S];have j:∀x y,Frm ⟨bs,fz,ar⟩ ⟨bs++ [x,y],(bs.length+1)::bs.length::fz,ar⟩:=fun x y=>Frm.new (xf:=[bs.length+1,bs.length]) (by simp)
 by_cases A:(gu line).2=0
 case neg=>
  rw[if_neg A]at hs;have w:((gu line).2==0)=false:=by simp[A]
  have ai:((gu line).2 !=0)=true:=by simp[A]
  have:=q _ P;cases hs;simp only[w,ai,RN,F,H,I,J,N,S];refine au (Gu (g _ P)) ?_;simp only[lU,Fp,RN,F,H,I,J,N,S];exact⟨by omega,rfl,ce,cs,h.frm (j _ _),(j _ _).frD,(j _ _).fzb h.fzb⟩
 rw[if_pos A]at hs;have w:((gu line).2==0)=true:=by simp[A]
 have ae:decide ((gu line).2≠0)=false:=by simp[A]
 have o:=YS D (gu line).1;have hA:=ahF (h.frm (j (some [pI ((dY line).1.kind), .d (.slice (decide ((dY line).2≠0)) ((dY line).1.ns.map ay))]) (some [pI ((gu line).1.kind), .d (sF ((gu line).1.ns.map ay))]))) L (gu line).1 (KP:=KP);rw[ahl]at hA;simp only[w,ae,RN,F,H,I,J,N,S];refine SC.kL (SC.mono hA ?_) (fun _ _ h=>h);rintro p ⟨W,X,V⟩ ⟨c,hp,R,an,q2⟩;have b:=(j _ _).trans q2;generalize D.ask (gu line).1=r at*;obtain⟨l,e⟩:=r;simp only at hs hp R o
 by_cases Z:e=0
 case neg=>
  rw[if_pos Z]at hs;have m:(e !=0)=true:=by simp[Z]
  have:=q _ o;cases hs
  rcases hp with rfl|⟨rfl,rfl⟩
  ·simp only[xE,xG,m,RN,F,H,I,J,N,S]
   refine au (Gu (g _ o)) ?_;simp only[lU,Fp,RN,F,H,I,J,N,S];exact⟨by omega,rfl,ce,cs,h.frm b,b.frD,b.fzb h.fzb⟩
  ·simp only[m,RN,F,H,I,J,N,S]
   refine au (Gu (g _ o)) ?_;simp only[lU,Fp,RN,F,H,I,J,N,S];exact⟨by omega,rfl,ce,cs,h.frm b,b.frD,b.fzb h.fzb⟩
 subst Z;have m:((0:Int) !=0)=false:=rfl;rw[if_neg (by simp)]at hs;have aj8:(((0:Nat):Int)==0)=true:=rfl
 rcases hp with rfl|⟨rfl,rfl⟩
 case inr=>
  have f:l=[]:=by
   rcases R with⟨_,h1⟩|⟨k,ver,st,h1,_⟩
   ·exact bX.1 h1
   ·cases h1
  subst f;rw[if_pos rfl]at hs;cases hs;simp only[m,aj8,RN,F,H,I,J,N,S];exact⟨rfl,ce,cs,h.frm b,b.frD,b.fzb h.fzb⟩
 simp only[xE,xG,m,SX R,U,RN,F,H,I,J,N,S]
 by_cases f:l=[]
 ·rw[if_pos f]at hs
  cases hs;simp only[f,ap,aj8,RN,F,H,I,J,N,S];exact⟨rfl,ce,cs,h.frm b,b.frD,b.fzb h.fzb⟩
 rw[if_neg f]at hs;have ab:((l.length:Int)==0)=false:=by cases l with|nil=>exact absurd rfl f|cons a l=>simp;omega
 split at hs
 case isFalse=>cases hs
 rename_i hk
 simp only[aR,b9,decide_eq_true_eq,aiZ]at hk;cases hs
 rcases R with⟨_,h1⟩|⟨k,ver,st,rfl,h1,_⟩
 ·exact absurd (bX.1 h1) f
 simp only[ab,RN,F,H,I,J,N,S];refine LM h1 (by simpa only[aw]using adD l hk.2 hk.1) rfl ?_;(try simp only[RN,F,H,I,J,N,S]);exact⟨ce,cs,h.frm b,b.frD,b.fzb h.fzb⟩
end Go.Tel
namespace Go.Am
section
variable {C:Ctx}{base:Nat}{M:Mem}{K:PV->Mem->Prop}{KP:DV->Mem->Prop}
variable{s:ByteArray}{k:IntKind}
def MW {n:Int}(a:0<=n)(h1:n<=s.size):ak C base (.Ji false true) [.d (.str s), .d (.int k n)] M K KP=K (.d (.str (s.extract 0 n.toNat))) M:=by
 simp only[ak,xg,dJ,bi,bu];exact propext ⟨fun h=>h.2.2.2.2.2,fun h=>⟨trivial,trivial,cw _,a,h1,h⟩⟩
def MX {n:Int}(a:0<=n)(h1:n<=s.size):ak C base (.Ji true false) [.d (.str s), .d (.int k n)] M K KP=K (.d (.str (s.extract n.toNat s.size))) M:=by
 simp only[ak,xg,dJ,bi,bu,aq];exact propext ⟨fun h=>h.2.2.2.2.2,fun h=>⟨trivial,trivial,a,h1,cw _,h⟩⟩
end
end Go.Am
namespace Go.Tel
open Go.Am
def TA (s:ByteArray):Pure C 152 [.str s, .int .u8 10] (pI (Go.Lib.indexByte s.data.toList 10)) []:=by
 refine o7 fun X w a d f c=> ?_
 cases c with|cons h1 t1=>
 cases t1 with|cons b t2=>
 cases t2;cases h1;cases b;refine(Go.Proofs.Any.strings_IndexByte Go.Proofs.Tryz.laysIndexB s 10 w).mono ?_;rintro e g ⟨rfl,rfl⟩;exact⟨_,rfl,Later.refl _, .int _ _⟩
def Dx (s:ByteArray):Bool:=decide (1<=s.size)&&((s.extract (s.size - 1) s.size).toList==(⟨#[10]⟩:ByteArray).toList)
def vJ (s:ByteArray):ByteArray:=if Dx s then s.extract 0 (s.size - 1)else s
def SV:(⟨#[10]⟩:ByteArray).size=1:=rfl
variable{s:ByteArray}
def UC (hs:s.size<=1000000):Pure C 150 [.str s, .str ⟨#[10]⟩] (.d (.bool (Dx s))) []:=by
 refine ah jP aQ ?_;have b:cG .i64 ((s.size:Int) - ((1:Nat):Int))=(s.size:Int) - 1:=by rw[aF (by omega)];omega
 unfold Dx
 by_cases h:1<=s.size
 ·have a:decide (((1:Nat):Int)<=(s.size:Int))=true:=by simp;omega
  have hd:decide (1<=s.size)=true:=by simp[h]
  have c:(0:Int)<=(s.size:Int) - 1:=by omega
  have e:(s.size:Int) - 1<=(s.size:Int):=by omega
  have f:((s.size:Int) - 1).toNat=s.size - 1:=by omega
  simp only[jP,aQ,SV,a,hd,b,MX c e,f,lU,Jl,b8,RN,F,H,I,J,N,S]
 ·have a:decide (((1:Nat):Int)<=(s.size:Int))=false:=by simp;omega
  have hd:decide (1<=s.size)=false:=by simp[h]
  simp only[jP,aQ,SV,a,hd,bp,RN,F,H,I,J,N,S]
def adi (hs:s.size<=1000000):Pure C 83 [.str s, .str ⟨#[10]⟩] (.d (.bool (Dx s))) []:=by
 refine ah vg aQ ?_;simp only[vg,aQ,RN,F,H,I,J,N,S];refine au (UC hs) ?_;(try simp only[RN,F,H,I,J,N,S])
def abR (hs:s.size<=1000000):Pure C 159 [.str s, .str ⟨#[10]⟩] (.d (.str (vJ s))) []:=by
 refine ah nY aQ ?_;simp only[nY,aQ,RN,F,H,I,J,N,S];refine au (UC hs) ?_;have a:cG .i64 ((s.size:Int) - ((1:Nat):Int))=(s.size:Int) - 1:=by rw[aF (by omega)];omega
 unfold vJ;cases h:Dx s
 ·(try simp only[RN,F,H,I,J,N,S])
  simp
 ·have:1<=s.size:=by unfold Dx at h;simp only[aR,decide_eq_true_eq]at h;exact h.1
  have b:(0:Int)<=(s.size:Int) - 1:=by omega
  have c:(s.size:Int) - 1<=(s.size:Int):=by omega
  have e:((s.size:Int) - 1).toNat=s.size - 1:=by omega
  simp only[SV,a,MW b c,e,RN,F,H,I,J,N,S];simp
def abQ (hs:s.size<=1000000):Pure C 86 [.str s, .str ⟨#[10]⟩] (.d (.str (vJ s))) []:=by
 refine ah tJ aQ ?_;simp only[tJ,aQ,RN,F,H,I,J,N,S];refine au (abR hs) ?_;(try simp only[RN,F,H,I,J,N,S])
def xQ:List UInt8->List (List UInt8)
 | []=>[]
 |b::l=>if b==10 then[b]::xQ l else match xQ l with| []=>[[b]]|x::xs=>(b::x)::xs
def ND:∀(l:List UInt8),(Go.Lib.indexByte l 10= -1/\(l=[]\/xQ l=[l]))\/∃i:Nat,Go.Lib.indexByte l 10=(i:Int)/\i<l.length/\xQ l=l.take (i+1)::xQ (l.drop (i+1))
 | []=> .inl ⟨rfl, .inl rfl⟩
 |b::l=>by
  rw[Go.Lib.indexByte,xQ]
  by_cases a:(b==10)=true
  ·rw[if_pos a,if_pos a]
   exact .inr ⟨0,rfl,by simp,rfl⟩
  rw[if_neg a,if_neg a]
  rcases ND l with⟨h1,h2⟩|⟨i,h1,h2,c⟩
  ·refine .inl ⟨by simp[h1], .inr ?_⟩
   rcases h2 with rfl|h2
   ·rfl
   ·rw[h2]
  ·refine .inr ⟨i+1,?_,by simpa using h2,by rw[c];simp⟩
   rw[if_neg (by rw[h1];simp),h1];omega
def iQ (s:ByteArray):List ByteArray:=(xQ s.data.toList).map fun l=>⟨l.toArray⟩
def pX (s:ByteArray):List DV:=[.str s]
def X0 (s:ByteArray)(hs:0<s.size):(Go.Lib.indexByte s.data.toList 10= -1/\iQ s=[s])\/∃i:Nat,Go.Lib.indexByte s.data.toList 10=(i:Int)/\i<s.size/\iQ s=s.extract 0 (i+1)::iQ (s.extract (i+1) s.size):=by
 have a:s.data.toList.length=s.size:=br
 rcases ND s.data.toList with⟨h1,h2⟩|⟨i,h1,h2,b⟩
 ·refine .inl ⟨h1,?_⟩
  rcases h2 with h2|h2
  ·rw[h2]at a;simp at a;omega
  ·unfold iQ;rw[h2];simp
 ·refine .inr ⟨i,h1,by omega,?_⟩
  unfold iQ;rw[b,aE];have e1:(s.extract 0 (i+1)).data.toList=s.data.toList.take (i+1):=by simp[cb]
  have e2:(s.extract (i+1) s.size).data.toList=s.data.toList.drop (i+1):=by
   simp only[cb,Array.toList_extract,List.extract_eq_take_drop,<-a];rw[cf (by simp)]
  rw[e2,<-e1]
def ahK (s:ByteArray)(c:Nat)(M:Mem):Prop:=M.boxes[c]?=some (some [.d (.str s)])/\c∉M.fz
def Wy (s:ByteArray)(c:Nat)(hs:s.size<=1000000):O9 C 151 [] [.ptr c 0] ((iQ s).map pX) (·=c) (·=c) no (ahK s c):=by
 rintro⟨bs,fz,ar⟩ b n R stop K KP ab ac hn A P O kV x g z;simp only at hn A;obtain⟨hc,y⟩:=P;simp only at hc y;refine aC yF fB ?_;simp only[yF,fB,RN,F,H,I,J,N,S];refine AB (fun m st=>∃(t:ByteArray) (a:List (List DV)) (w:Mem) (X:List (Nat×PV)),m=t.size/\t.size<=s.size/\st=⟨(0, .nM b)::(1, .ptr c 0)::X,w⟩/\n<=w.boxes.length/\FzB w/\ahK t c w/\(iQ s).map pX=a++(iQ t).map pX/\R a w)
  s.size ⟨s,[],_,[],rfl,a8 _,rfl,hn,A,⟨hc,y⟩,rfl,x⟩ ?_
 rintro m st ⟨t,a,⟨j,r,q⟩,X,rfl,ht,rfl,u,B,⟨f,af4⟩,k,hR⟩;simp only at u f af4;have e:c<j.length:=(V.1 f).1
 by_cases x:0<t.size
 case neg=>
  have G:decide ((t.size:Int)>0)=false:=decide_eq_false (by omega);simp only[f,e,G,RN,F,H,I,J,N,S];refine z _ _ u ?_;have:t.data.toList=[]:=List.length_eq_zero_iff.1 (by have:t.data.toList.length=t.size:=br;omega);have e0:iQ t=[]:=by unfold iQ;rw[this];rfl
  rw[k,e0,bq,bj];exact hR
 have G:decide ((t.size:Int)>0)=true:=decide_eq_true (by omega);have Y7:∀(l o:ByteArray),iQ t=l::iQ o->o.size<t.size->SY C b [.d (.str l)] ⟨j.set c (some [.d (.str o)]),r,q⟩
   (fun p M'=>n<=M'.boxes.length/\FzB M'/\ahK o c M'/\((p= .d (.bool true)/\(iQ s).map pX=(a++ [pX l])++(iQ o).map pX/\R (a++ [pX l]) M')\/(p= .d (.bool false)/\stop M'))) KP:=by
  intro l o hl ae;have ak9:Moved n (·=c) ⟨j,r,q⟩ ⟨j.set c (some [.d (.str o)]),r,q⟩:=Moved.set (.inr rfl);have ahq:(iQ s).map pX=a++pX l::(iQ o).map pX:=by rw[k,hl];rfl
  refine SY.mono (kV a (pX l) _ _ ahq (by simpa using u) (O a _ _ ak9 hR)) ?_;rintro p D ⟨E,hp⟩;have M:=E.len;simp only[az]at M;refine⟨by omega,E.fzb B.set,⟨?_,?_⟩,?_⟩
  ·rw[E.box c (.inr rfl) (by simpa using e)];simp[e]
  ·exact fun h=>af4 ((E.fz c (.inr rfl) (by simpa using e)).1 h)
  ·rcases hp with⟨rfl,h⟩|h
   ·exact .inl ⟨rfl,by rw[ahq,a7];rfl,h⟩
   ·exact .inr h
 simp only[f,e,G,RN,F,H,I,J,N,S];refine au (TA t) ?_
 rcases X0 t x with⟨Y,Z⟩|⟨i,Y,Z,g3⟩
 ·have L:decide (Go.Lib.indexByte t.data.toList 10>=0)=false:=decide_eq_false (by omega)
  simp only[f,e,L,af4,RN,F,H,I,J,N,S];refine zO ?_;refine SY.mono (Y7 t ⟨#[]⟩ (by rw[Z];rfl) x) ?_;rintro p D ⟨Q,T,U,⟨rfl,v,W⟩|⟨rfl,v⟩⟩
  ·(try simp only[RN,F,H,I,J,N,S])
   exact⟨0,_,x, .inl rfl,⟨#[]⟩,_,D,_,rfl,aM _,rfl,Q,T,U,v,W⟩
  ·(try simp only[RN,F,H,I,J,N,S])
   exact g _ _ v
 ·have L:decide ((i:Int)>=0)=true:=decide_eq_true (by omega)
  have w1:cG .i64 ((i:Int)+1)=(i:Int)+1:=by rw[aF (by omega)]
  have x1:(0:Int)<=(i:Int)+1:=by omega
  have x2:(i:Int)+1<=(t.size:Int):=by omega
  have x3:((i:Int)+1).toNat=i+1:=by omega
  have x4:(t.extract (i+1) t.size).size<t.size:=by simp;omega
  rw[Y];simp only[f,e,L,af4,w1,MW x1 x2,MX x1 x2,x3,RN,F,H,I,J,N,S];refine zO ?_;refine SY.mono (Y7 _ _ g3 x4) ?_;rintro p D ⟨Q,T,U,⟨rfl,v,W⟩|⟨rfl,v⟩⟩
  ·(try simp only[RN,F,H,I,J,N,S])
   exact⟨_,_,x4, .inl rfl,_,_,D,_,rfl,by omega,rfl,Q,T,U,v,W⟩
  ·(try simp only[RN,F,H,I,J,N,S])
   exact g _ _ v
def ab7 (s:ByteArray){bs:List (Option (List PV))}{fz:List Nat}{ar:List (Option Arr)}{KP:DV->Mem->Prop}:
  SC C 84 [.d (.str s)] ⟨bs,fz,ar⟩ (fun p M'=>p= .func (.func 151) [] [.ptr bs.length 0]/\M'=⟨bs++ [some [.d (.str s)]],fz,ar⟩) KP:=by
 refine aC Ak aS ?_;simp only[Ak,aS,aN,aT,l7,RN,F,H,I,J,N,S]
def nlB:ByteArray:=⟨#[10]⟩
def yR:Dk->List ByteArray->ByteArray->Option (Dk×ByteArray)
 |D,[],out=>some (D,out)
 |D,l::a,out=>match D.said (vJ l)with|none=>none|some q=>yR q.1 a (out++(q.2++nlB))
def Jv:∀(l1 l2:List ByteArray) (D:Dk) (out:ByteArray),yR D (l1++l2) out=match yR D l1 out with|none=>none|some q=>yR q.1 l2 q.2
 | [],l2,D,out=>rfl
 |l::a,l2,D,out=>by
  rw[cp,yR,yR];cases D.said (vJ l)with
  |none=>rfl
  |some q=>exact Jv a l2 _ _
def FrD.kept {d n c:Nat}{ce cs ce' cs':PV}{M M':Mem}(h:FrD d ce cs ce' cs' M M')(hf:FzB M->FzB M')(hd:d<n)(hc:d≠c):Kept n (·=c) no M M':=
 ⟨h.len,h.bn,fun i a b=>h.box i b (fun e=>a.elim (fun a=>by omega) fun a=>hc (by rw[<-e];exact a)),fun i _ b=>h.fz i b,fun _ h=>h.elim,hf⟩
def X6 (s:ByteArray):(iQ s).length<=s.size:=by
 have:∀l:List UInt8,(xQ l).length<=l.length:=by
  intro l
  induction l with
  |nil=>exact a8 _
  |cons b l a=>
   rw[xQ]
   split
   ·simpa using a
   ·split
    ·simp
    ·rename_i h;rw[h]at a;simp at a⊢;omega
 unfold iQ;rw[U];have h1:=this s.data.toList;have:s.data.toList.length=s.size:=br;omega
def Bz:∀(l:List UInt8) (x:List UInt8),x∈xQ l->x.length<=l.length
 | [],x,h=>by cases h
 |b::l,x,h=>by
  rw[xQ]at h
  split at h
  ·rcases av.1 h with rfl|h
   ·simp
   ·have:=Bz l x h;simp;omega
  ·split at h
   ·simp at h;subst h;simp
   ·rename_i y ys a
    rcases av.1 h with rfl|h
    ·have:=Bz l y (by rw[a];simp);simp;omega
    ·have:=Bz l x (by rw[a];simp[h]);simp;omega
def X7 {x:ByteArray}(h:x∈iQ s):x.size<=s.size:=by
 simp only[iQ,bl]at h;obtain⟨l,a,rfl⟩:=h;have:=Bz _ _ a;have e:s.data.toList.length=s.size:=br;simp only[cC,cn]at e⊢;rw[<-e];exact this
def Uf (s:ByteArray):(vJ s).size<=s.size:=by
 unfold vJ
 split
 ·simp
 ·exact a8 _
def afe (s:Su)(a:ByteArray)(pre:List (List DV))(b:Mem):Prop:=
 ∃c f D e cs o,iQ a=c++f/\pre=c.map pX/\yR ⟨s,[],[]⟩ c ⟨#[]⟩=some (D,o)/\vH D 4 e cs b/\D.Ok/\b.boxes[1]?=some (some [.ptr 4 0])/\b.boxes[5]?=some (some [.d (.str o)])/\5∉b.fz/\o.size<=30001*c.length
def afe.moved {s:Su}{a:ByteArray}{pre:List (List DV)}{d f:Mem}{n:Nat}(h:afe s a pre d)(t:6<=n)(b:Moved n (·=6) d f):afe s a pre f:=by
 obtain⟨q,r,D,g,cs,o,h1,h2,i,c,j,k,l,m,p⟩:=h;refine⟨q,r,D,g,cs,o,h1,h2,i,?_,j,(b.box 1 (by omega) (by simp)).trans k,(b.box 5 (by omega) (by simp)).trans l,fun e=>m ((b.fz 5 (by omega) (by simp)).1 e),p⟩;exact⟨⟨(b.box 4 (by omega) (by simp)).trans c.box,by rw[b.aB];exact c.ent,by rw[b.aB];exact c.str⟩,c.dif,fun e=>c.nb ((b.fz 4 (by omega) (by simp)).1 e),b.fzb c.fzb⟩
def ZI (s:Su)(hs:s.Small)(M:s.ok=true){a out:ByteArray}(hl:a.size<=1500)(K:(a.toList==(⟨#[]⟩:ByteArray).toList||Dx a)=true){D':Dk}(b:yR ⟨s,[],[]⟩ (iQ a) ⟨#[]⟩=some (D',out)):
  Pure C 33 [s.dv, .str a] (.d (.tup [.str out,dI 0])) []:=by
 refine ah sV bQ ?_;rw[FN];simp only[sV,bQ,RN,F,H,I,J,N,S];have hO:=fun X KP=>aff s hs [X,none] [0] [] KP (by simp)
 rw[FN]at hO;refine SC.kL (SC.mono (hO _ (fun _ _=>False)) ?_) (fun _ _ h=>h);rintro p M' (⟨h,_⟩|⟨_,rfl,x1,x2,rfl⟩)
 ·rw[M]at h;cases h
 have z1:((0:Int) !=0)=false:=rfl;have z2:decide ((a.size:Int)>1500)=false:=decide_eq_false (by omega);simp only[xE,xG,lJ,z1,z2,lU,Tc,xk,EX,RN,F,H,I,J,N,S];have alc:(a.toList==(⟨#[]⟩:ByteArray).toList)=false->Dx a=true:=fun h=>by rw[h]at K;exact K
 cases t:(a.toList==(⟨#[]⟩:ByteArray).toList)
 all_goals first
  |(simp only[t,RN,F,H,I,J,N,S];refine fG rfl rfl (adi (by omega)) ?_;rw[alc t])
  |skip
 all_goals simp only[t,lJ,RN,F,H,I,J,N,S]
 all_goals refine SC.kL (SC.mono (ab7 a (KP:=fun _ _=>False)) ?_) (fun _ _ h=>h)
 all_goals rintro p M' ⟨rfl,rfl⟩
 all_goals(try simp only[RN,F,H,I,J,N,S])
 all_goals(
  refine qc (Wy a 6 (by omega)) (fun _ h=>h) rfl (by kernel_rfl) (fun i B=>by simp at B;simp;omega) (fun x u=>by obtain⟨y,_,rfl⟩:=bl.1 u;rfl) (fun i B=>by subst B;simp) (fun M' U=>⟨(U.box 6 (by simp) id).trans rfl,fun e=>by have:=(U.fz 6 (by simp) id).1 e;simp at this⟩)
   (afe s a) (fun ax M1 M2 U h=>h.moved (by simp) U) ⟨[],iQ a,⟨s,[],[]⟩,_,_,_,rfl,rfl,rfl,⟨⟨rfl, .inl ⟨rfl,rfl⟩, .inl ⟨rfl,rfl⟩⟩,(by intro k hk;cases hk),by simp,by intro i B;simp at B;simp;omega⟩,⟨M,rfl,aM _,fun x h=>(by cases h),fun x h=>(by cases h)⟩,rfl,rfl,by simp,aM _⟩ ?_ ?_
  ·rintro L cells ax x post ⟨j,ai,Z⟩ u r l G ⟨ls,V,D,ce,cs,o,h1,h2,R,h4,h5,z,n,T,h9⟩ M0
   simp only[ae,ap]at r l G z n T⊢;obtain⟨y,g,rfl,rfl⟩:∃y g,V=y::g/\x=pX y:=by
    rw[h1,h2,bk]at u;have u:=bt u;cases V with
    |nil=>cases u
    |cons y g=>exact⟨y,g,rfl,(List.cons.inj u).1.symm⟩
   rw[h1,Jv,R]at b;simp only[yR]at b;cases f:D.said (vJ y)with
   |none=>rw[f]at b;cases b
   |some q=>
   obtain⟨D2,W⟩:=q;have hy:y.size<=a.size:=X7 (by rw[h1];simp);have E:=X6 a;rw[h1]at E;simp only[Y,ae]at E;have aL:=Uf y;have aD:=abE f;have c:5<j.length:=by omega
   have w:1<j.length:=by omega
   simp only[pX,bB,bN,aE,bq,z,n,c,w,RN,F,H,I,J,N,S];refine fG rfl rfl (abQ (by omega)) ?_;(try simp only[RN,F,H,I,J,N,S]);refine afr n (by simp) ?_;refine SC.kL (SC.mono (ZN h4 h5 (by omega) f (KP:=fun _ _=>False)) ?_) (fun _ _ h=>h.elim);rintro p ⟨v,ao,az⟩ ⟨rfl,ab,ac,Q,m,q3⟩;have aq:v[5]?=some (some [.d (.str o)]):=(m.box 5 c (by decide)).trans n;have av:=m.len;simp only at av;have ajL:5<v.length:=by omega
   have A:¬5∈ao:=fun e=>T ((m.fz 5 c).1 e)
   refine⟨m.box 5 c (by decide),?_⟩;have O:W.size+nlB.size<=9223372036854775807:=by have:nlB.size=1:=rfl;omega
   have P:o.size+(W++nlB).size<=9223372036854775807:=by have:nlB.size=1:=rfl;rw[bO];omega
   rw[nlB]at O P;simp only[lU,Fp,O,P,aq,ajL,A,uH,RN,F,H,I,J,N,S];refine⟨by rw[am (by decide)];exact(m.box 7 (by simp only;omega) (by decide)).trans l,fun e=>G ((m.fz 7 (by simp only;omega)).1 e),(FrD.kept m (fun _=>q3) (by decide) (by decide)).set2 (by decide) (by decide),ls++ [y],g,D2,ab,ac,o++(W++nlB),by rw[h1];simp,by rw[h2];simp[pX],?_,
    ⟨⟨by simp only;rw[am (by decide)];exact Q.box,Q.ent,Q.str⟩,Q.dif,Q.nb,q3.set⟩,agZ h5 f,?_,by simp[ajL];rfl,A,?_⟩
   ·rw[Jv,R]
    simp only[yR,f]
   ·simp only;rw[am (by decide)];exact(m.box 1 w (by decide)).trans z
   ·have:nlB.size=1:=rfl
    simp only[bO,Y,ae,ap];omega
  ·rintro⟨j,ai,Z⟩ ⟨ls,V,D,ce,cs,o,h1,h2,R,h4,h5,z,n,T,h9⟩ r
   simp only[ae,ap]at r z n T;have aw:V=[]:=by
    have:=congrArg bo h2;rw[h1]at this;simp at this;exact this
   subst aw;rw[h1,bj,R]at b;cases b;have c:5<j.length:=by omega
   simp only[n,c,RN,F,H,I,J,N,S])
def IL:aA:=(sr [al 0 0 [zs,zs,zs,z0,z0,zs,z0,zs,z0,z0,z0,zs,z0,z0,z0,z0,z0]] 1 [0] (sr [on 1 (.aj 87) [],on 2 (.build [z0,z0] [(0,1),(1,1)]) [kI 1,kI 3],on 3 (.build [z0,z0] [(0,1),(1,1)]) [kI 1499,kI 2000],ob 4 (.dA 2 [.agg [z0,z0],.agg [z0,z0]] [0,1]) 2 3,on 5 (.aj 88) [],on 6 (.aj 89) [],on 7 (.aj 90) [],on 8 (.build [.bool false,z0,z0,z0] [(0,1)]) [.c (.bool true)],on 9 (.build [.bool false,z0,z0,z0] [(1,1),(2,1)]) [kI 1,kI 6],ob 10 (.dA 4 [.agg [.bool false,z0,z0,z0],.agg [.bool false,z0,z0,z0]] [0,1]) 8 9,on 11 (.build [zs,zs,zs,z0,z0,zs,z0,zs,z0,z0,z0,zs,z0,z0,z0,z0,z0] [(0,2),(2,1),(3,1),(4,2),(6,2),(8,3),(11,1),(12,1),(13,1),(14,1),(15,1),(16,1)]) [.t 1,.t 4,kI 100,.t 5,.t 6,.t 7,.t 10,kI 1,kI 3,kI 6,kI 4,kI 10],sk 17 0 11 0] 0 [0] .ret))
def Vz:aA:=(sr [al 0 0 [zs,zs]] 1 [0] (sr [on 1 (.aj 160) [kI 10,kI 20],oa 2 (.build [z0,z0,z0] [(1,2)]) 1,on 3 (.aj 160) [kI 12,kI 18],on 4 (.build [z0,z0,z0] [(0,1),(1,2)]) [kI 1,.t 3],on 5 (.aj 160) [kI 15,kI 10],on 6 (.build [z0,z0,z0] [(0,1),(1,2)]) [kI 1,.t 5],on 7 (.dA 3 [.agg [z0,z0,z0],.agg [z0,z0,z0],.agg [z0,z0,z0]] [0,1,2]) [.t 2,.t 4,.t 6],on 8 (.dA 1 [z0,z0] [0,1]) [kI 2,kI 3],ob 9 (.build [zs,zs] [(0,1),(1,1)]) 7 8,sk 2 0 9 0] 0 [0] .ret))
def Vy:aA:=(sr [al 0 0 [z0,zs]] 1 [0] (sr [on 1 (.dA 1 [z0] [0]) [kI 4],oa 2 (.build [z0,zs] [(1,1)]) 1,sk 2 0 2 0] 0 [0] .ret))
def Vx:aA:=(sr [al 0 0 [z0,z0,z0]] 1 [0] (sr [on 1 (.build [z0,z0,z0] [(0,1),(1,1)]) [kI 59,kI 2],sk 3 0 1 0] 0 [0] .ret))
def KU:aA:=(sr [al 4 0 [z0,z0]] 1 [0,1,4] (sr [mv 5 0,mv 6 1,ob 7 (.build [z0,z0] [(0,1),(1,1)]) 5 6,sk 2 4 7 0] 0 [4] .ret))
def VB:aA:=(sr [al 0 0 [z0,z0,z0,z0,z0,zs,zs,zs]] 1 [0] (sr [on 1 (.build [z0,z0] [(0,1),(1,1)]) [kI 15,kI 20],on 2 (.build [z0,z0] [(0,1),(1,1)]) [kI 35,kI 20],on 3 (.build [z0,z0] [(0,1),(1,1)]) [kI 35,kI 36],on 4 (.dA 2 [.agg [z0,z0],.agg [z0,z0],.agg [z0,z0]] [0,1,2]) [.t 1,.t 2,.t 3],on 5 (.build [z0,z0,z0,z0] [(3,1)]) [kI 12],on 6 (.build [z0,z0,z0,z0] [(0,1),(3,1)]) [kI 1,kI 8],on 7 (.build [z0,z0,z0,z0] [(0,1),(2,1),(3,1)]) [kI 1,kI 1,kI 10],on 8 (.build [z0,z0,z0,z0] [(0,1),(2,1),(3,1)]) [kI 2,kI 1,kI 6],on 9 (.lG 4 [.agg [z0,z0,z0,z0],.agg [z0,z0,z0,z0],.agg [z0,z0,z0,z0],.agg [z0,z0,z0,z0]] [0,1,2,3]) [.t 5,.t 6,.t 7,.t 8],on 10 (.build [z0,z0] [(0,1),(1,1)]) [kI 0,kI 1],on 11 (.build [z0,z0] [(0,1),(1,1)]) [kI 2,kI 3],ob 12 (.dA 2 [.agg [z0,z0],.agg [z0,z0]] [0,1]) 10 11,on 13 (.build [z0,z0,z0,z0,z0,zs,zs,zs] [(0,1),(1,1),(2,1),(3,1),(4,1),(5,1),(6,1),(7,1)]) [kI 60,kI 50,kI 1,kI 1,kI 2,.t 4,.t 9,.t 12],sk 8 0 13 0] 0 [0] .ret))
def adZ:zL C.P 31 0 VB aeA=true:=by kernel_rfl
def VA:aA:=(sr [al 0 0 [z0,zs]] 1 [0] (sr [on 1 (.dA 1 [z0,z0,z0] [0,1,2]) [kI 15,kI 21,kI 27],on 2 (.build [z0,zs] [(0,1),(1,1)]) [kI 40,.t 1],sk 2 0 2 0] 0 [0] .ret))
end Go.Tel
