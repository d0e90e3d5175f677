/-
  Part 7 of a law of desks.
  Conditions: none.
-/
import Derived.Test.YtkbhljmmnbgloaaGreatDoorTopBetterM04
import Derived.Test.YtkbhljmmnbgloaaGreatDoorTopBetterM05
import Derived.Test.YtkbhljmmnbgloaaGreatDoorTopBetterM06
import Derived.Shelf.Slices.In.SortNone
import Derived.Ground.NamesProg
set_option linter.all false
set_option maxRecDepth 10000
set_option maxHeartbeats 4000000
open Nat renaming reduceBEq->E,reduceAdd->H,reduceSub->I,reduceEqDiff->J,reduceLT->N,reduceLeDiff->O,zero_le->an,le_trans->aE,lt_irrefl->be,lt_of_lt_of_le->bl,mul_div_cancel'->cb,lt_of_le_of_lt->cg,le_refl->cp
open List renaming length_map->U,getElem?_eq_some_iff->V,length_append->X,mem_singleton->ae,getElem?_append_left->ai,getElem?_set_ne->am,getD_eq_getElem?_getD->aq,not_mem_nil->av,length_cons->aw,mem_append->aD,getElem?_eq_getElem->aL,drop_length->a7,take_length->a8,map_append->bc,append_assoc->bh,map_cons->bi,mem_cons->bj,length_nil->bk,all_eq_true->bq,length_set->bt,map_nil->bz,flatMap_cons->bB,findIdx_le_length->bN,getElem?_set_self->bO,range->bR,append_nil->bS,nil_append->bX,range_succ->b0,length->b9,getElem?_range->ca,all_eq_false->cj,getElem?_map->ck,length_range->cl,mem_map->cm,length_take->cn,mem_range->ct,range'->cA
open Int renaming toNat_natCast->Y,lt_irrefl->ao,mul_le_mul_of_nonneg_left->ap,mul_le_mul->az,mul_le_mul_of_nonneg_right->aM,mul_nonneg->aR,natCast_mul->cq,le_trans->cw,mul_pos->cz
open Bool renaming and_eq_true->ab,and_true->br,false_and->bA,true_and->bE,and_false->b8,false_eq_true->cf,not_false->cr,not_true->cv
open Option renaming getD_some->ax,isSome_none->bo,isSome_some->bp,map_none->bu,getD_none->bL,map_some->b7,map->ch
open Iff renaming rfl->cB
open Go.IntKind renaming wrap->cC
namespace Go.Tel
open Go.Am
def QH (d:DV):Prop:=∃s,d= .iface T.rH (.agg [.str s])
variable{bs:List (Option (List PV))}
def ajz {b:Nat}{y:Option (List PV)}(h:bs[b]?=some y):bs.set b y=bs:=by
 apply List.ext_getElem?;intro i;rw[List.getElem?_set]
 by_cases hi:b=i
 ·subst hi
  have:=(V.1 h).1;simp[this];have h2:=h;rw[aL this]at h2
  simpa using h2.symm
 ·simp[hi]
def Qw {g:FuncId}{fs cs:List PV}{fz:List Nat}{ar:List (Option Arr)}{K:PV->Mem->Prop}{KP:DV->Mem->Prop}(j:FzB ⟨bs,fz,ar⟩)(hc:callable C.P g=true)
  (h:SC C g (fs++cs) ⟨bs++ [some [pI 0]],fz,ar⟩
   (fun _ M'=>M'.boxes[bs.length]?=some (some [pI 0])/\bs.length∉M'.fz/\K (pI 0) M')
   (fun d M'=>M'.boxes[bs.length]?=some (some [pI 0])/\bs.length∉M'.fz/\M'.boxes.length∉M'.fz/\
    ((JY d/\∀x,K (pI 7) ⟨(M'.boxes++ [x]).set bs.length (some [pI 7]),M'.fz,M'.aC⟩)\/
     (QH d/\∀x,K (pI 4) ⟨(M'.boxes++ [x]).set bs.length (some [pI 4]),M'.fz,M'.aC⟩)))):
  SC C 220 [.func (.func g) fs cs] ⟨bs,fz,ar⟩ K KP:=by
 have n:bs.length∉fz:=fun e=>be _ (j _ e)
 refine ajQ mixed Mc ?_;simp only[lK,aX,bJ,X,RN,E];refine⟨bs.length,rfl,?_⟩;simp only[lM,U0,RN,E];refine⟨hc,SC.kU (SC.mono h ?_) ?_⟩
 ·rintro v ⟨a,f,ar'⟩ ⟨h1,h2,c⟩
  simp only at h1 h2;have k:=(V.1 h1).1;simp only[h1,h2,ajz h1,RN,O];simp only[aaq,kD,O5,wZ,h1,RN,E,O];exact c
 ·rintro d ⟨a,f,ar'⟩ ⟨h1,h2,c,l⟩
  simp only at h1 h2 c l;have k:=(V.1 h1).1
  rcases l with⟨⟨y,rfl,p,o⟩,i⟩|⟨⟨s,rfl⟩,i⟩
  ·have b:bs.length<(a++ [some [PV.d y]]).length:=by simp;omega
   simp only[Ub,kD,O4,ny,wZ,aX,bJ,c,o,dG k,h1,h2,bO b,RN,E,O];exact i _
  ·have b:bs.length<(a++ [some [PV.d (.str s)]]).length:=by simp;omega
   have m:(T.rH==T.iZ)=false:=by decide
   simp only[Ub,kD,O4,fM m,ny,wZ,aX,bJ,c,dG k,h1,h2,bO b,RN,E,O];exact i _
end Go.Tel
namespace Go.Am
section
variable {C:Ctx}{base:Nat}{KP:DV->Mem->Prop}{K:PV->Mem->Prop}{M:Mem}
variable{agg:Bool}{f:FuncId}{rest:List PV}
def ako {n:Nat}{cs:List DV}(hl:n<=cs.length)(h:SC C f rest M K KP):au C base (.Fp agg n f) (.d (.aP cs)::rest) M K KP:=by
 simp only[au,bY];exact⟨hl,SC.mono h fun p a hh=>⟨⟨hl,trivial⟩,hh⟩⟩
def akn {n b off:Nat}{cs:List PV}(hb:M.boxes[b]?=some (some cs))(hl:off+n<=cs.length)(h:SC C f rest M (fun p M'=>M'.boxes[b]?=M.boxes[b]?/\K p M') KP):au C base (.Fp agg n f) (.ptr b off::rest) M K KP:=by
 have a:M.box b=some cs:=by simp[Mem.box,hb]
 simp only[au,bY,a];refine⟨hl,SC.mono h fun p M' hh=>⟨?_,hh.2⟩⟩;have aqh:M'.box b=some cs:=by simp[Mem.box,hh.1,hb]
 simp only[aqh];exact⟨hl,trivial⟩
end
end Go.Am
namespace Go.Tel
open Go.Am
def Dk.goes (D:Dk):De->Bool
 | .strike n=> !D.st.getD n.toNat default&&(D.state n).isSome
 |y=>match D.state (-1)with
  |none=>false
  |some t=>(doS D.su t y).isSome
variable{D:Dk}{y:De}
def RI (a:∀n,y≠ .strike n):D.goes y=match D.state (-1)with|none=>false|some t=>(doS D.su t y).isSome:=by
 cases y with
 |strike n=>exact absurd rfl (a n)
 | _=>rfl
def amT (a:∀n,y≠ .strike n):(y.ty==T.bI)=false:=by
 cases y with
 |strike n=>exact absurd rfl (a n)
 | _=>rfl
def Frm.new {bs xb:List (Option (List PV))}{fz xf:List Nat}{ar:List (Option Arr)}(hx:∀i∈xf,bs.length<=i/\i<bs.length+xb.length):Frm ⟨bs,fz,ar⟩ ⟨bs++xb,xf++fz,ar⟩:=by
 have:=Frm.ext (bs:=bs) (xb:=xb) (fz:=fz) (xf:=xf) (ar:=ar) (xa:=[]) hx
 simpa using this
def ae1 {d:Nat}{ce cs:PV}{M:Mem}(h:vX D d ce cs M)(i:D.Ok)(y:De)(hf:D.lG y=true)(Q:mg D.su D.su.sp0 y){pb:Nat}(r:M.boxes[pb]?=some (some [.ptr d 0])):
  SC C 227 [.d (.aP [y.dv]), .ptr pb 0] M (fun _ M'=>D.goes y=true/\Frm M M') (fun w M'=>D.goes y=false/\JY w/\Frm M M'):=by
 obtain⟨bs,fz,ar⟩:=M;have f:=h.box;rw[jC]at f;simp only at f r;have R:d<bs.length:=(V.1 f).1;have m:pb<bs.length:=(V.1 r).1;have q:bs.length∉fz:=fun e=>be _ (h.fzb _ e)
 have P:∀k,d<bs.length+k:=fun k=>by omega
 have s:∀k,pb<bs.length+k:=fun k=>by omega
 have c:∀x,Frm ⟨bs,fz,ar⟩ ⟨bs++ [x],bs.length::fz,ar⟩:=fun x=>Frm.new (xf:=[bs.length]) (by simp)
 refine aB ku dX ?_
 by_cases hs:∃n,y= .strike n
 ·obtain⟨n,rfl⟩:=hs
  have A:(De.strike n).dv= .iface T.bI (.agg [dI n]):=rfl;have z:(0<=n/\n<=(D.es.length:Int) - 1)/\n.toNat<D.st.length:=by
   simp only[Dk.lG,inR,ab,decide_eq_true_eq]at hf;have:=i.len;omega
  rw[A];simp only[ku,dX,ny,r,m,R,P,s,f,dG,aX,bJ,q,X,RN,E,H,O];obtain⟨k2,UF,am,rfl,p,_⟩:=uX h.str (by intro e;simp at e;rw[e]at z;simp at z);simp only at p;simp only[p,z.1.1,z.2,U,getD_map,jm,RN,O];cases u:D.st.getD n.toNat default
  ·simp only[r,m,dG,X,RN,E,O]
   refine SC.kU (SC.mono (NU (h.frm (c _)) i n) ?_) ?_
   ·rintro v M' ⟨t,b,mb,a,K,G,rfl,g,o,j,_⟩
    obtain⟨F,L,ar'⟩:=M';(try simp only[RN,E,H,I,J,N,O]);exact⟨by simp only[Dk.goes,u,g];rfl,(c _).trans j⟩
   ·rintro w M' ⟨g,o,j⟩
    exact⟨by simp[Dk.goes,g],o,(c _).trans j⟩
  ·simp only[RN,E,O]
   exact⟨by simp only[Dk.goes,u,cv,bA],⟨_,rfl,rfl,rfl⟩,c _⟩
 ·have B:∀n,y≠ .strike n:=fun n e=>hs ⟨n,e⟩
  have A:y.dv= .iface y.ty y.cs:=rfl;rw[A];simp only[ku,dX,fM (amT B),r,m,s,dG,aX,bJ,q,X,RN,E,H,O];refine ako (by simp) ?_;refine SC.kU (SC.mono (NU (h.frm (c _)) i (-1)) ?_) ?_
  ·rintro v M' ⟨t,b,mb,a,K,G,rfl,g,o,j,Z,g5,g6⟩
   obtain⟨F,L,ar'⟩:=M';have l:=i.aam g;(try simp only[RN,E,H,I,J,N,O]);rw[<-A];refine SC.kU (SC.mono (ahk amv o (l.sp (by decide)) y (mg.same (n:=0) l.ll.symm l.hh.symm Q)) ?_) ?_
   ·rintro v Y ⟨t',tK,Dh,S,q2,W⟩
    obtain⟨ae,ai,ac⟩:=Y;(try simp only[RN,E,H,I,J,N,O]);exact⟨by rw[RI B,g];simp[S],(c _).trans (j.frs W Z g5 g6)⟩
   ·rintro w Y ⟨S,q2,W⟩
    exact⟨by rw[RI B,g];simp[S],q2,(c _).trans (j.frs W Z g5 g6)⟩
  ·rintro w M' ⟨g,o,j⟩
   exact⟨by rw[RI B,g],o,(c _).trans j⟩
end Go.Tel
namespace Go.Am
variable{base:Nat}{KP:DV->Mem->Prop}{f:FuncId}{args:List PV}{M:Mem}{ds ds':List DV}{x:DV}{K:PV->Mem->Prop}
def akl {C:Ctx}{r:PV}{a:List Arr}(h1:bV M args=some ds)(h2:ds.map DV.strip=ds')(e:Pure C f ds' r a)(g:Rw r=true)(b:a.all jP=true)(hx:datum (rowsOf a) r=some x)(c:K (.d x) M):au C base (.yC f) args M K KP:=
 ⟨ds,h1,r,a,x,h2▸e, .inr ⟨g,b,hx⟩,c⟩
def akm {C:Ctx}(h1:bV M args=some ds)(h2:ds.map DV.strip=ds')(b:Pure C f ds' (.d x) [])(hx:Rt x=true)(a:K (.d x) M):au C base (.yC f) args M K KP:=
 ⟨ds,h1,_,_,x,h2▸b, .inl ⟨rfl,rfl,hx⟩,a⟩
end Go.Am
namespace Go.Tel
open Go.Am
def aor {α:Type}(l:List α):Nat:=bif l.isEmpty then 0 else 1
variable{sz:Nat}
def ai6 {v:Nat}{xs:List DV}(h:(flat xs).all Rq=true):jP ⟨sz,xs,v,aor xs⟩=true:=by
 simp only[jP,h,br];cases xs<;>rfl
def aa7 (xs:List DV)(hf:∀y∈xs,y.fits 1=true)(hl:xs.length<=1000000):Pure C 215 [.slice false xs] (.tsl 0 0 0) [⟨1,xs,0,aor xs⟩]:=by
 by_cases a:xs=[]
 ·subst a;exact Eo [] hf hl
 rw[show aor xs=1 by cases xs with|nil=>exact absurd rfl a|cons=>rfl];refine eU xO aI ?_;simp only[xO,aI,RN,E,N];refine⟨fun _=> ?_,fun b=>absurd b a⟩;exact⟨hf,a,by simp,by omega,gJ (k:=1) (A:=⟨1,xs,0,1⟩) rfl rfl (an _) rfl⟩
def IK (l:List Int):(flat (l.map ay)).all Rq=true:=by
 simp only[flat,List.all_flatMap,List.all_map,bq];intro x _;rfl
variable{bs:List (Option (List PV))}{fz:List Nat}{ar:List (Option Arr)}{K:PV->Mem->Prop}
def wY {W st1:Bool}{c:PV}{xs ys:List DV}{ex:Bool}(h:slN sz W c xs ar)(a:0<sz)(n:∀y∈ys,y.fits sz=true)(m:st1=true->ys≠[])(hl:xs.length+ys.length<=1073741824)
  (g:∀k ver st ar',(kOf c=some k\/k=ar.length)->ar'[k]?=some (some ⟨sz,xs++ys,ver,st⟩)->(∀j,j≠k->j<ar.length->ar'[j]?=ar[j]?)->ar.length<=ar'.length->st≠2->(st1=true->st=1)->K (.tsl k ver 0) ⟨bs,fz,ar'⟩):
  kL sz st1 c (.d (.slice ex ys)) ⟨bs,fz,ar⟩ K:=by
 rcases h with⟨rfl,rfl⟩|⟨k,ver,st,rfl,l,h2,o⟩
 ·simp only[kL,yg]
  refine⟨a,n,m,trivial,by simp,by simpa using hl,?_⟩;exact g _ _ _ _ (.inr rfl) (by simp;rfl) (fun j i b=>by rw[ai b]) (by simp) (by cases st1<;>simp) (fun e=>by simp[e])
 ·have f:k<ar.length:=(V.1 l).1
  simp only[kL,yg,Mem.row,l,if_true];refine⟨a,n,m,trivial,h2,hl,?_⟩;exact g k (ver+1) _ _ (.inl rfl) (by simp[f];rfl) (fun j i _=>am (Ne.symm i)) (by simp) (by cases st1<;>simp[h2]) (fun e=>by simp[e])
structure FrD (d:Nat) (ce cs ce' cs':PV) (M M':Mem):Prop where
 len:M.boxes.length<=M'.boxes.length
 bC:M.aC.length<=M'.aC.length
 box:∀i,i<M.boxes.length->i≠d->M'.boxes[i]?=M.boxes[i]?
 fz:∀i,i<M.boxes.length->(i∈M'.fz↔i∈M.fz)
 row:∀k,k<M.aC.length->kOf ce≠some k->kOf cs≠some k->M'.aC[k]?=M.aC[k]?
 oe:∀k,kOf ce'=some k->kOf ce=some k\/M.aC.length<=k
 os:∀k,kOf cs'=some k->kOf cs=some k\/M.aC.length<=k
def FrD.trans {d:Nat}{ce cs ce' cs' c f:PV}{M M' b:Mem}(h:FrD d ce cs ce' cs' M M')(h':FrD d ce' cs' c f M' b):FrD d ce cs c f M b:=
 {len:=aE h.len h'.len
  bC:=aE h.bC h'.bC
  box:=fun i hi hd=>(h'.box i (bl hi h.len) hd).trans (h.box i hi hd)
  fz:=fun i hi=>(h'.fz i (bl hi h.len)).trans (h.fz i hi)
  row:=fun k a h1 h2=>(h'.row k (bl a h.bC) (fun e=>(h.oe k e).elim h1 (by omega)) (fun e=>(h.os k e).elim h2 (by omega))).trans (h.row k a h1 h2)
  oe:=fun k a=>(h'.oe k a).elim (fun e=>h.oe k e) (fun e=> .inr (aE h.bC e))
  os:=fun k a=>(h'.os k a).elim (fun e=>h.os k e) (fun e=> .inr (aE h.bC e))}
variable{d:Nat}{M:Mem}
def Frm.frD {ce cs:PV}{M':Mem}(h:Frm M M'):FrD d ce cs ce cs M M':=
 ⟨h.len,h.bC,fun i hi _=>h.box i hi,h.fz,fun k a _ _=>h.row k a,fun _=> .inl,fun _=> .inl⟩
variable{D:Dk}{ar':List (Option Arr)}
def vX.apL {ce cs:PV}(h:vX D d ce cs ⟨bs,fz,ar⟩){k ver st:Nat}{es:List En}(hk:kOf ce=some k\/k=ar.length)(h1:ar'[k]?=some (some ⟨2,es.map En.dv,ver,st⟩))
  (h2:∀j,j≠k->j<ar.length->ar'[j]?=ar[j]?)(hl:ar.length<=ar'.length)(hst:st≠2):
  vX {D with es:=es} d (.tsl k ver 0) cs ⟨bs.set d (some (jC D.su (.tsl k ver 0) cs)),fz,ar'⟩/\FrD d ce cs (.tsl k ver 0) cs ⟨bs,fz,ar⟩ ⟨bs.set d (some (jC D.su (.tsl k ver 0) cs)),fz,ar'⟩:=by
 have c:d<bs.length:=(V.1 h.box).1;have b:∀j,kOf cs=some j->j≠k:=fun j a e=>by
  subst e
  rcases hk with hk|hk
  ·exact h.dif j hk a
  ·have:=Ba h.str a;simp only at this;omega
 constructor
 ·exact
  {box:=by simp[c]
   ent:= .inr ⟨k,ver,st,rfl,h1,hst,fun e=>by cases e⟩
   str:=iK h.str fun j A a f=>(h2 j (b j a) (V.1 f).1).trans f
   dif:=fun j a e=>by cases a;exact b _ e rfl
   nb:=h.nb
   fzb:=fun i hi=>by have:=h.fzb i hi;simpa using this}
 ·exact
  {len:=by simp
   bC:=hl
   box:=fun i _ hd=>by simp only;rw[am (Ne.symm hd)]
   fz:=fun _ _=>cB
   row:=fun j a g _=>h2 j (fun e=>by
    subst e
    rcases hk with hk|hk
    ·exact g hk
    ·simp only at a;omega) a
   oe:=fun j a=>by
    cases a
    rcases hk with hk|hk
    ·exact .inl hk
    ·exact .inr (by simp only;omega)
   os:=fun _=> .inl}
def vX.apN {ce cs:PV}(h:vX D d ce cs ⟨bs,fz,ar⟩){k ver:Nat}{l:List Bool}(hk:kOf cs=some k\/k=ar.length)(h1:ar'[k]?=some (some ⟨1,l.map .bool,ver,1⟩))
  (h2:∀j,j≠k->j<ar.length->ar'[j]?=ar[j]?)(hl:ar.length<=ar'.length):
  vX {D with st:=l} d ce (.tsl k ver 0) ⟨bs.set d (some (jC D.su ce (.tsl k ver 0))),fz,ar'⟩/\FrD d ce cs ce (.tsl k ver 0) ⟨bs,fz,ar⟩ ⟨bs.set d (some (jC D.su ce (.tsl k ver 0))),fz,ar'⟩:=by
 have c:d<bs.length:=(V.1 h.box).1;have b:∀j,kOf ce=some j->j≠k:=fun j a e=>by
  subst e
  rcases hk with hk|hk
  ·exact h.dif j a hk
  ·have:=Ba h.ent a;simp only at this;omega
 constructor
 ·exact
  {box:=by simp[c]
   ent:=iK h.ent fun j A a f=>(h2 j (b j a) (V.1 f).1).trans f
   str:= .inr ⟨k,ver,1,rfl,h1,by decide,fun _=> .inl rfl⟩
   dif:=fun j a e=>by cases e;exact b _ a rfl
   nb:=h.nb
   fzb:=fun i hi=>by have:=h.fzb i hi;simpa using this}
 ·exact
  {len:=by simp
   bC:=hl
   box:=fun i _ hd=>by simp only;rw[am (Ne.symm hd)]
   fz:=fun _ _=>cB
   row:=fun j a _ g=>h2 j (fun e=>by
    subst e
    rcases hk with hk|hk
    ·exact g hk
    ·simp only at a;omega) a
   oe:=fun _=> .inl
   os:=fun j a=>by
    cases a
    rcases hk with hk|hk
    ·exact .inl hk
    ·exact .inr (by simp only;omega)}
def Bl (x y:Int):Int:=if x<y then -1 else if y<x then 1 else 0
def Le (x y:Int):Pure C 75 [dI x,dI y] (pI (Bl x y)) []:=by
 refine ah Ad aH ?_;simp only[Ad,aH,RN,E,H]
 repeat' first
  |(refine ak (adr _) ?_;try simp only[RN,E])
  |(refine aJ (by rfl) (fun a=> ?_) (fun a=> ?_)<;>simp only[a,RN,E,H,I,J,N,O])
  |(refine aK (by rfl) (fun a=> ?_) (fun a=> ?_)<;>simp only[a,RN,E])
 all_goals(simp only[decide_eq_true_eq,decide_eq_false_iff_not]at*;simp_all[Bl];try omega)
def orL:List Int->Int
 | []=>0
 |x::xs=>if x=0 then orL xs else x
def apS (xs:List Int)(hl:xs.length<=1000000):Pure C 139 [sF (xs.map ay)] (pI (orL xs)) []:=by
 refine ah Jy aI ?_;simp only[Jy,aI,U,RN,E];refine aG xs.length (fun i (_:Unit)=>⟨[(3,pI 0),(6, .d (sF (xs.map ay))),(7,pI xs.length),(8,pI i)],⟨[],[],[]⟩⟩)
  (fun i _=>orL xs=orL (xs.drop i)) 0 () (an _) rfl rfl (fun i _ h1 a=> ?_) (fun _ a=> ?_)
 ·obtain⟨h2,e,f⟩:=rng h1 hl
  rw[drop_cons h1,orL]at a;simp only[h2,e,h1,getD_map,Y,U,aW,RN,E,O]
  by_cases c:xs.getD i default=0
  ·have b:(xs.getD i default !=0)=false:=by rw[c];rfl
   simp only[b,f,RN,E];exact dh () h1 rfl (by rw[if_pos c]at a;exact a) (by simp) (by simp) rfl rfl
  ·have b:(xs.getD i default !=0)=true:=by rw[bne_iff_ne];exact c
   simp only[b,RN,E];rw[a,if_neg c]
 ·rw[a7,orL]at a
  simp only[ao,a,RN,E]
def U1 {base:Nat}{KP:DV->Mem->Prop}{a b:Int}:au C base (.dU 1 [dI 0,dI 0] [0,1]) [pI a,pI b] M K KP=K (.d (.slice true [dI a,dI b])) M:=by
 have:=BG (M:=M) (ds:=[dI a,dI b]);simp only[bi,bz]at this;simp[au,bV,datum,qJ,this,DV.strip,DV.cells]
def sU (p q:Pr):Int:=orL [Bl p.a q.a,Bl p.b q.b]
def N7 (p q:Pr):Pure C 70 [p.dv,q.dv] (pI (sU p q)) []:=by
 refine ah DU aH ?_;simp only[DU,aH,dW,RN,E,H,O];refine ak (Le _ _) ?_;(try simp only[RN]);refine ak (Le _ _) ?_;simp only[U1,RN];exact cO rfl rfl (apS [_,_] (by simp)) rfl
def bF (x f:Fr):Fr:=⟨max (fC x f) (-(fC x f)),x.d⟩
def J7 (a b:Fr)(h1:0<=a.n*b.d/\a.n*b.d<=4000000000000000000)(h2:0<=b.n*a.d/\b.n*a.d<=4000000000000000000):Pure C 77 [a.dv,b.dv] (.d (bF a b).dv) []:=by
 have c:=zA a b h1 h2;refine ah Cb JQ ?_;rw[aS,aS]at c;rw[aS,aS,aS];simp only[Cb,JQ,RN,E,H,O];refine ak c ?_;have e:cC .i64 (0 - fC a b)= -fC a b:=by
  rw[aF (by unfold fC;omega)];omega
 simp only[wu,e,RN,E,H,J,O];rw[bF];simp only[PV.d.injEq,DV.agg.injEq,List.cons.injEq,DV.int.injEq,true_and,and_true];omega
structure Ru where
 lo:Int
 hi:Int
 pr:Int
def Ru.dv (r:Ru):DV:= .agg [dI r.lo,dI r.hi,dI r.pr,dI 1, .slice false []]
variable{r:Ru}
def yI:r.dv= .agg [dI r.lo,dI r.hi,dI r.pr,dI 1, .slice false []]:=by rw[Ru.dv]
def Ru.ok (r:Ru):Bool:=aT r.lo&&aT r.hi&&decide (r.lo<=r.hi)&&inR r.pr 1 3
def abX (n:Int):Pure C 128 [dI n] (.d (.bool (!aT n))) []:=by
 refine ah Ce aI ?_;simp only[Ce,aI,RN,E]
 repeat' first
  |(refine ak (Uc _) ?_;try simp only[RN])
  |(refine aJ (by rfl) (fun a=> ?_) (fun a=> ?_)<;>simp only[a,RN,E,H,I,J,N,O])
  |(refine aK (by rfl) (fun a=> ?_) (fun a=> ?_)<;>simp only[a,RN,E,H,I,J,N,O])
 all_goals(first|(simp only[aT, *,BSN];done)|(simp_all[aT];done)|(simp_all[aT];omega))
def RZ (r:Ru):Pure C 63 [r.dv] (.d (.bool r.ok)) []:=by
 have b:=lQ [] 128 [] (fun n=> !aT n) (by simp) (by kernel_rfl) (fun x _=>abX x);refine ah F7 aI ?_;simp only[F7,aI,yI,RN,E,H,O]
 repeat' first
  |(refine ak (Uc _) ?_;try simp only[yI,RN,E,H,I,J,N,O])
  |(refine ak (VP _ _ _) ?_;try simp only[yI,RN,E,H,I,J,N,O])
  |(refine ak (b) ?_;try simp only[RN])
  |(refine aJ (by rfl) (fun a=> ?_) (fun a=> ?_)<;>simp only[a,RN,E,H,O])
  |(refine aK (by rfl) (fun a=> ?_) (fun a=> ?_)<;>simp only[a,yI,RN,E,H,I,J,N,O])
 all_goals first
  |exact absurd a (by decide)
  |(rw[Ru.ok];simp only[*,List.any_nil,cr,br,b8,bA];done)
def ajM (r:Ru):Pure C 52 [r.dv] (pI (if r.ok then 0 else 2)) []:=by
 have a:=RZ r;rw[yI]at a;refine ah H6 aI ?_;simp only[H6,aI,yI,RN,E,H,O];refine ak a ?_;cases r.ok
 ·(try simp only[RN])
  rfl
 ·(try simp only[RN])
  rfl
def Ci:aA:=(s0 [ba 1 0 0,al 2 1 [z0,z0,z0,z0,zs,zs,zs,zs]] 2 [1,2] [1] (sr [lw 10 6 1,oa 11 (.build [z0,z0,z0,z0,zs,zs,zs,zs] [(0,6)]) 10,al 3 0 [z0,z0,z0,z0,zs,zs,zs,zs],sk 8 3 11 0] 1 [1,2,3] (sw (sr [fa 12 0 1,fa 13 2 12,lo 14 13,oi 15 pA 14 1,mi 16 0] 0 [1,2,3,15,16] (lp (sr [ob 17 pL 16 15] 0 [1,2,3,15,16,17] (sw (cx 17 0) (sw (b1 (sr [mv 18 16,mv 4 18] 0 [1,2,3,4,15,16] (sr [on 19 (.dU 1 [z0] [0]) [kI 60],mv 20 4,ob 21 (.kZ 129) 19 20,oa 22 (.gG 112) 21,oi 23 pA 22 1,ob 24 (.mkRow 1 (.bool false)) 23 23,al 5 0 [zs],sk 1 5 24 0] 1 [1,2,3,4,5,15,16] (sw (sr [lw 25 6 1,mv 26 4,ob 27 (.aj 130) 25 26] 0 [1,2,3,5,15,16,27] (.block 2 (.nD (.t 27) [28] [5] (rg [mv 6 28] 0 [5,6]) (.block 3 (rg [lo 29 5,mv 30 6,ix 31 1 29 30,os (.store 1) [.t 31,.c (.bool true)] 0] 0 []))))) (s0 [mk 7 cS] 0 [1,2,3,5,7,15,16] [5] (sw (sr [lo 32 5,oa 33 .len 32,mi 34 0] 0 [1,2,3,5,7,15,16,32,33,34] (.block 4 (.loop (sr [ob 35 pL 34 33] 0 [1,2,3,5,7,15,16,32,33,34,35] (sw (cx 35 4) (sw (.block 5 (sr [mv 36 34,ix 37 1 32 34,lo 38 37,mv 8 36,mv 9 38] 0 [1,2,3,5,7,8,9,15,16,32,33,34] (sr [mv 39 9] 0 [1,2,3,5,7,8,15,16,32,33,34,39] (cd 39 (rg [mv 40 7,mv 41 8,oa 42 (.dU 1 [z0] [0]) 41,ob 43 (.app 1 false) 40 42,mv 7 43] 0 [1,2,3,5,7,15,16,32,33,34]) .skip)))) (rg [oi 44 pA 34 1,mv 34 44] 0 [1,2,3,5,7,15,16,32,33,34]))))))) (r1 [fu 45 6 3 2,ou 46 ld 45 2,mv 47 7,ou 48 (.dU 1 [zs] [0]) 47 1,ob 49 (.app 1 false) 46 48,fu 50 7 3 2,ou 51 ld 50 2,lv 52 5,ou 53 (.dU 1 [zs] [0]) 52 1,ob 54 (.app 1 false) 51 53,fu 55 6 3 2,sk 1 55 49 0,fu 56 7 3 2,sk 1 56 54 0] 0 [1,2,3,15,16] []))))))) (rg [oi 57 pA 16 1,mv 16 57] 0 [1,2,3,15,16])))))) (sr [lw 58 8 3,sk 8 2 58 0] 0 [2] .ret))))
def H8:aA:=(s0 [ba 1 0 0,al 2 1 [z0,z0,z0,z0,zs,zs]] 2 [1,2] [1] (sr [lw 5 5 1,oa 6 (.build [z0,z0,z0,z0,zs,zs] [(0,5)]) 5,al 3 0 [z0,z0,z0,z0,zs,zs],sk 6 3 6 0] 1 [1,2,3] (sw (sr [fa 7 0 1,lo 8 7,mv 4 8] 0 [1,2,3,4] (lp (sw (sr [mv 9 4,fa 10 1 1,lo 11 10,ob 12 (.bin .leq) 9 11] 0 [1,2,3,4,12] (cx 12 0)) (sw (b1 (sr [fa 15 4 1,lo 16 15,mv 17 4,ob 18 (.aj 131) 16 17,oa 19 pN 18] 0 [1,2,3,4,19] (cd 19 (rg [fa 20 5 3,lo 21 20,mv 22 4,oa 23 (.dU 1 [z0] [0]) 22,ob 24 (.app 1 false) 21 23,fa 25 5 3,sk 1 25 24 0] 0 [1,2,3,4]) .skip))) (rg [mv 13 4,oi 14 pA 13 1,mv 4 14] 0 [1,2,3,4]))))) (sr [lw 26 6 3,sk 6 2 26 0] 0 [2] .ret))))
def tC:aA:=(s0 [ba 2 0 0,ba 3 1 1,mk 4 cS,mf 5 false] 2 [2,3] [2,3] (sr [ag 6 4] 0 [2,3,6] (sw (sr [mi 7 1] 0 [2,3,6,7] (lp (sw (sr [mv 15 7,fa 16 0 2,fa 17 0 16,fa 18 2 17,lo 19 18,ob 20 (.bin .leq) 15 19] 0 [2,3,6,7,20] (cx 20 0)) (sw (b1 (s0 [lw 24 8 2,mv 25 7,lw 26 2 3,on 27 (.aj 132) [.t 24,.t 25,.t 26],mv 23 27,xa 28 0 23,xa 29 1 23,al 9 0 [z0,z0],mv 8 28,sk 2 9 29 0] 1 [2,3,6,7,8,9] [9] (sr [mv 30 8,oa 31 .len 30,oi 32 pG 31 0,mv 33 32,ov 34 (.fld 0) 2 33 0,ov 35 (.load true 6) 34 33 0,ov 36 .mov 7 33 0,obT 37 (.aj 68) 35 36 33 0,pf 38 33 37] 0 [2,3,6,7,8,9,38] (cd 38 (r0 [mv 39 6,mv 40 7,lw 41 2 9,mv 42 8,on 43 (.build [z0,z0,z0,zs] [(0,1),(1,2),(3,1)]) [.t 40,.t 41,.t 42],oa 44 (.dU 4 [.agg [z0,z0,z0,zs]] [0]) 43,ob 45 (.app 4 false) 39 44,mv 6 45] 0 [2,3,6,7] []) .skip)))) (rg [mv 21 7,oi 22 pA 21 1,mv 7 22] 0 [2,3,6,7]))))) (s0 [mv 47 6,oc 48 (.kZ 133) 47 (.c (.func (.func 134) [] [])),mv 46 48,xa 49 0 46,xa 50 1 46,al 10 0 [z0,z0,z0,zs],sk 4 10 49 0,mv 11 50] 1 [2,10,11] [10] (sw (sr [mv 51 11,oa 52 pN 51] 0 [2,10,52] (cd 52 (sr [mk 4 cS,mf 5 false] 0 [4,5] .ret) .skip)) (sr [ag 12 1] 0 [2,10,12] (sw (sr [fa 53 3 10,lo 54 53,oa 55 .len 54,mi 56 0] 0 [2,10,12,54,55,56] (.block 2 (.loop (sr [ob 57 pL 56 55] 0 [2,10,12,54,55,56,57] (sw (cx 57 2) (sw (.block 3 (s0 [ix 58 2 54 56,lw 59 2 58,al 14 0 [z0,z0],sk 2 14 59 0] 1 [2,10,12,14,54,55,56] [14] (rg [mv 60 12,lw 61 8 2,fa 62 0 10,lo 63 62,lw 64 2 14,on 65 (.aj 135) [.t 61,.t 63,.t 64],oa 66 (.dU 1 [zs] [0]) 65,ob 67 (.app 1 false) 60 66,mv 12 67] 0 [2,10,12,54,55,56]))) (rg [oi 68 pA 56 1,mv 56 68] 0 [2,10,12,54,55,56]))))))) (sr [mv 69 12,oc 70 (.kZ 136) 69 (.c (.func (.func 137) [] [])),xa 71 0 70,xa 72 1 70,mv 4 71,mv 5 72] 0 [4,5] .ret))))))))
def AU:aA:=(s0 [ba 2 0 0,mf 4 false] 1 [1,2] [2] (sw (sr [fa 5 0 2,fa 6 3 5,lo 7 6,oi 8 pU 7 1] 0 [1,8] (.block 0 (sr [oi 10 pE 8 1,mv 9 10] 0 [1,8,9] (cd 9 (sr [mv 11 1,oi 12 (.bin .rem) 11 2,oi 13 pE 12 0,mv 4 13] 0 [4] .ret) (sr [oi 15 pE 8 2,mv 14 15] 0 [1,14] (cd 14 (sr [mv 16 1,oi 17 (.bin .rem) 16 2,oi 18 pE 17 1,mv 4 18] 0 [4] .ret) .skip)))))) (sr [mf 4 true] 0 [4] .ret)))
def Cj:aA:=(s0 [ba 2 0 0,mf 4 false] 1 [1,2] [2] (sr [fa 5 5 2,lo 6 5,mv 7 1,ob 8 (.aj 131) 6 7,mv 4 8] 0 [4] .ret))
def uM:aA:=(s0 [ba 2 0 0,ba 3 1 1,mk 4 (.c (.nilFunc))] 2 [2,3] [2,3] (sr [ob 5 (.mkF (.func 194) 0) 2 3,mv 4 5] 0 [4] .ret))
def xU:aA:=(s0 [ba 3 0 0,ba 5 1 2,mk 6 cS,al 7 2 [z0,z0]] 3 [1,3,5,7] [3,5] (sr [mk 8 cS] 0 [1,3,5,7,8] (sr [al 9 0 [z0,z0]] 1 [1,3,5,7,8,9] (sr [fa 19 6 3,lo 20 19,mv 21 1,ix 22 1 20 21,lo 23 22,mv 10 23] 0 [5,7,8,9,10] (sw (sr [mv 24 10,oa 25 .len 24,mi 26 0] 0 [5,7,8,9,10,24,25,26] (lp (sr [ob 27 pL 26 25] 0 [5,7,8,9,10,24,25,26,27] (sw (cx 27 0) (sw (b1 (sr [ix 28 1 24 26,lo 29 28,mv 12 29] 0 [5,7,8,9,10,12,24,25,26] (sr [mv 31 10,mv 32 12,fa 33 1 5,lo 34 33,ob 35 pM 32 34,oa 36 (.mkF (.func 198) 0) 5,on 37 (.aj 197) [.t 31,.t 35,.t 36],mv 30 37,xa 38 0 30,xa 39 1 30,mv 13 38,mv 14 39] 0 [5,7,8,9,10,12,13,24,25,26] (sr [mv 40 13,oi 41 pU 40 1,mv 42 13,ob 43 (.build [z0,z0] [(0,1),(1,1)]) 41 42,mi 44 0] 0 [5,7,8,9,10,12,24,25,26,43,44] (.block 2 (.loop (sr [oi 45 pL 44 2] 0 [5,7,8,9,10,12,24,25,26,43,44,45] (sw (cx 45 2) (sw (.block 3 (sr [ob 46 (.Qj false 1 2) 43 44,mv 16 46] 0 [5,7,8,9,10,12,16,24,25,26,43,44] (sw (sr [mv 47 16,mv 48 10,oa 49 .len 48,oi 50 pU 49 1,on 51 (.aj 108) [.t 47,kI 0,.t 50],oa 52 pN 51] 0 [5,7,8,9,10,12,16,24,25,26,43,44,52] (cd 52 (.exit 3) .skip)) (s0 [mv 53 12,mv 54 10,mv 55 16,ix 56 1 54 55,lo 57 56,ob 58 (.aj 111) 53 57,al 17 0 [z0,z0],sk 2 17 58 0] 1 [5,7,8,9,10,12,17,24,25,26,43,44] [17] (s0 [lw 59 2 17,lw 60 2 5,ob 61 (.aj 77) 59 60,al 18 0 [z0,z0],sk 2 18 61 0] 1 [5,7,8,9,10,12,17,18,24,25,26,43,44] [18] (sw (sr [mv 62 8,oa 63 .len 62,oi 64 pE 63 0,mv 65 64,ow 66 (.load true 2) 18 65 0,ow 67 (.load true 2) 9 65 0,obF 68 (.aj 76) 66 67 65 0,oF 69 pL [.t 68,kI 0] 65 0,pt 70 65 69] 0 [5,7,8,9,10,12,17,18,24,25,26,43,44,70] (cd 70 (r1 [ou 71 (.load true 2) 18 1,mk 8 cS,sk 2 9 71 0] 0 [5,7,8,9,10,12,17,18,24,25,26,43,44] []) .skip)) (sr [lw 72 2 18,lw 73 2 9,ob 74 (.aj 76) 72 73,oi 75 pE 74 0,mv 76 75,ov 77 .mov 8 76 0,ov 78 (.load true 2) 17 76 0,obT 79 (.gG 199) 77 78 76 0,ov 80 pN 79 76 0,pf 81 76 80] 0 [5,7,8,9,10,12,17,24,25,26,43,44,81] (cd 81 (rg [mv 82 8,lw 83 2 17,oa 84 (.dU 2 [.agg [z0,z0]] [0]) 83,ob 85 (.app 2 false) 82 84,mv 8 85] 0 [5,7,8,9,10,12,24,25,26,43,44]) .skip)))))))) (rg [oi 86 pA 44 1,mv 44 86] 0 [5,7,8,9,10,12,24,25,26,43,44])))))))))) (rg [oi 87 pA 26 1,mv 26 87] 0 [5,7,8,9,10,24,25,26])))))) (sw (r1 [mv 88 8,ou 89 (.load true 2) 9 2,mv 6 88,sk 2 7 89 0] 0 [6,7] []) .ret))))))
def qj:aA:=(sr [al 4 0 [z0,z0,z0,zs],mf 5 false] 1 [0,1,4] (sr [al 6 0 [z0,z0,z0,zs]] 1 [0,1,4,6] (sw (sr [mv 9 0,oa 10 .len 9,mi 11 0] 0 [0,1,4,6,9,10,11] (lp (sr [ob 12 pL 11 10] 0 [0,1,4,6,9,10,11,12] (sw (cx 12 0) (sw (b1 (s0 [mv 13 11,ix 14 4 9 11,lw 15 4 14,al 8 0 [z0,z0,z0,zs],mv 7 13,sk 4 8 15 0] 1 [0,1,4,6,7,8,9,10,11] [8] (sr [mv 16 7,oi 17 pE 16 0,mv 18 17,ow 19 .mov 1 18 0,ow 20 (.load true 4) 8 18 0,ow 21 (.load true 4) 6 18 0,oF 22 .dQ [.t 19,.t 20,.t 21] 18 0,pt 23 18 22] 0 [0,1,4,6,8,9,10,11,23] (cd 23 (rg [lw 24 4 8,sk 4 6 24 0] 0 [0,1,4,6,9,10,11]) .skip)))) (rg [oi 25 pA 11 1,mv 11 25] 0 [0,1,4,6,9,10,11])))))) (sr [lw 26 4 6,mv 27 0,oa 28 .len 27,oi 29 pG 28 0,sk 4 4 26 0,mv 5 29] 0 [4,5] .ret))))
def ql:aA:=(s0 [ba 2 0 0,ba 3 1 1,mf 4 false] 2 [2,3] [2,3] (sr [fa 5 1 2,lw 6 2 5,fa 7 1 3,lw 8 2 7,ob 9 (.aj 76) 6 8,oi 10 pL 9 0,mv 4 10] 0 [4] .ret))
def vW:aA:=(s0 [ba 3 0 0,ba 4 1 1,ba 5 2 2,mk 6 cS] 3 [3,4,5] [3,4,5] (sr [al 7 0 [.nilFunc]] 1 [3,4,5,7] (sr [on 8 (.mkF (.func 200) 0) [.t 4,.t 3,.t 7],sk 1 7 8 0] 0 [5,7] (sr [lo 9 7,lw 10 2 5,on 11 .dQ [.t 9,cS,.t 10],mv 6 11] 0 [6] .ret))))
def nP:aA:=(sr [mk 4 cS,mf 5 false] 0 [0,1] (sr [mk 6 cS] 0 [0,1,6] (sw (sr [mv 9 0,oa 10 .len 9,mi 11 0] 0 [0,1,6,9,10,11] (lp (sr [ob 12 pL 11 10] 0 [0,1,6,9,10,11,12] (sw (cx 12 0) (sw (b1 (sr [mv 13 11,ix 14 1 9 11,lo 15 14,mv 7 13,mv 8 15] 0 [0,1,6,7,8,9,10,11] (sr [mv 16 7,oi 17 pE 16 0,mv 18 17,ow 19 .mov 1 18 0,ow 20 .mov 8 18 0,ow 21 .mov 6 18 0,oF 22 .dQ [.t 19,.t 20,.t 21] 18 0,pt 23 18 22] 0 [0,1,6,8,9,10,11,23] (cd 23 (rg [mv 24 8,mv 6 24] 0 [0,1,6,9,10,11]) .skip)))) (rg [oi 25 pA 11 1,mv 11 25] 0 [0,1,6,9,10,11])))))) (sr [mv 26 6,mv 27 0,oa 28 .len 27,oi 29 pG 28 0,mv 4 26,mv 5 29] 0 [4,5] .ret))))
def qm:aA:=(sr [mf 4 false] 0 [0,1] (sr [mv 5 0,mv 6 1,on 7 (.aj 138) [.t 5,.t 6,.c (.func (.func 70) [] [])],oi 8 pL 7 0,mv 4 8] 0 [4] .ret))
def ru:aA:=(sr [ba 3 0 0] 1 [1,2,3] (sr [al 4 0 [.nilFunc]] 1 [1,2,3,4] (sr [on 5 (.mkF (.func 195) 0) [.t 3,.t 1,.t 4],sk 1 4 5 0] 0 [2,4] (rg [lo 6 4,lo 7 2,on 8 .dQ [.t 6,kI 0,.t 7,kI 1]] 0 []))))
def iI:aA:=(sr [mf 9 false] 0 [0,1,2,3,4,5] (sw (sr [mv 11 1,oi 12 pE 11 0] 0 [0,1,2,3,4,5,12] (cd 12 (sr [lo 13 3,mv 14 2,ob 15 .dQ 13 14,mv 9 15] 0 [9] .ret) .skip)) (sw (sr [mv 16 0,mv 10 16] 0 [1,2,4,5,10] (lp (sw (sr [mv 17 10,fa 18 5 4,lo 19 18,oa 20 .len 19,ob 21 pL 17 20] 0 [1,2,4,5,10,21] (cx 21 0)) (sw (b1 (sw (r1 [ou 24 ld 5 2,mv 25 10,mv 26 1,oi 27 pU 26 1,mv 28 2,fu 29 5 4 1,lv 30 29,mv 31 10,ob1 32 (.bH 1) 30 31 1,lv 33 32,ob 34 pM 28 33,on 35 .dQ [.t 24,.t 25,.t 27,.t 34],oa 36 pN 35] 0 [1,2,4,5,10,36] []) (cd 36 (sr [mf 9 false] 0 [9] .ret) .skip))) (rg [mv 22 10,oi 23 pA 22 1,mv 10 23] 0 [1,2,4,5,10]))))) (sr [mf 9 true] 0 [9] .ret))))
def uN:aA:=(sr [mi 5 0] 0 [0,1,2] (sr [mv 6 0,fa 7 0 2,lo 8 7,ob 9 pM 6 8,mv 10 1,ob 11 (.aj 75) 9 10,mv 5 11] 0 [5] .ret))
def jE:aA:=(s0 [ba 6 0 1,mk 7 cS] 1 [0,2,3,4,6] [6] (.scope (sw (sr [mv 15 0,oa 16 .len 15,lo 17 2,ob 18 pE 16 17] 0 [0,2,3,4,6,18] (cd 18 (sr [mv 19 0,mv 7 19] 0 [7] .ret) .skip)) (sw (.label 0) (sw (sr [fa 20 0 3,fa 21 5 20,lo 22 21,oa 23 .len 22,mi 24 0] 0 [0,2,3,4,6,22,23,24] (lp (sr [ob 25 pL 24 23] 0 [0,2,3,4,6,22,23,24,25] (sw (cx 25 0) (sw (b1 (sr [ix 26 1 22 24,lo 27 26,mv 9 27] 0 [0,2,3,4,6,9,22,23,24] (sr [fa 28 0 3,fa 29 5 28,lo 30 29,oa 31 .len 30,mi 32 0] 0 [0,2,3,4,6,9,22,23,24,30,31,32] (.block 2 (.loop (sr [ob 33 pL 32 31] 0 [0,2,3,4,6,9,22,23,24,30,31,32,33] (sw (cx 33 2) (sw (.block 3 (sr [ix 34 1 30 32,lo 35 34,mv 11 35] 0 [0,2,3,4,6,9,11,22,23,24,30,31,32] (s0 [mv 36 9,mv 37 11,ob 38 (.build [z0,z0] [(0,1),(1,1)]) 36 37,al 12 0 [z0,z0],sk 2 12 38 0] 1 [0,2,3,4,6,9,11,12,22,23,24,30,31,32] [12] (sw (sw (r1 [mv 39 0,ou 40 .len 39 1,oi 41 pG 40 0,mv 42 41,ov 43 (.load true 2) 12 42 1,ov 44 .mov 0 42 0,ov 45 .mov 0 42 0,ov 46 .len 45 42 1,ot 47 pU [.t 46,kI 1] 42 0,obT 48 (.bH 2) 44 47 42 1,ov 49 (.load true 2) 48 42 1,obT 50 (.aj 70) 43 49 42 0,ot 51 pL [.t 50,kI 0] 42 0,pf 52 42 51] 0 [0,2,3,4,6,9,11,12,22,23,24,30,31,32,52] []) (cd 52 (sw (sr [mv 53 9,mv 54 0,mv 55 0,oa 56 .len 55,oi 57 pU 56 1,ix 58 2 54 57,fa 59 0 58,lo 60 59,ob 61 pL 53 60] 0 [0,2,3,4,6,9,22,23,24,30,31,32,61] (cd 61 (.exit 1) .skip)) (.exit 3)) .skip)) (s0 [fa 62 0 6,lo 63 62,mv 64 11,ob 65 pM 63 64,fa 66 1 6,lo 67 66,mv 68 9,ob 69 pM 67 68,ob 70 (.aj 111) 65 69,al 13 0 [z0,z0],sk 2 13 70 0] 1 [0,2,3,4,6,9,12,13,22,23,24,30,31,32] [13] (sw (sr [lw 71 8 3,lo 72 2,mv 73 0,oa 74 .len 73,ob 75 pU 72 74,oi 76 pU 75 1,lw 77 2 13,on 78 (.aj 201) [.t 71,.t 76,.t 77],oa 79 pN 78] 0 [0,2,3,4,6,9,12,13,22,23,24,30,31,32,79] (cd 79 (.exit 3) .skip)) (sw (r1 [ou 80 ld 4 2,mv 81 0,ou 82 (.kZ 202) 81 1,ou 83 (.load true 2) 12 1,ou 84 (.dU 2 [.agg [z0,z0]] [0]) 83 1,ob 85 (.QM 2) 82 84,ou 86 (.load true 2) 13 1,on 87 .dQ [.t 80,.t 85,.t 86],mv 14 87] 0 [0,2,3,4,6,9,14,22,23,24,30,31,32] []) (sr [mv 88 14,oc 89 (.isNil true) 88 cS] 0 [0,2,3,4,6,9,14,22,23,24,30,31,32,89] (cd 89 (sr [mv 90 14,mv 7 90] 0 [7] .ret) .skip))))))))) (rg [oi 91 pA 32 1,mv 32 91] 0 [0,2,3,4,6,9,22,23,24,30,31,32]))))))))) (rg [oi 92 pA 24 1,mv 24 92] 0 [0,2,3,4,6,22,23,24])))))) (sr [mk 7 cS] 0 [7] .ret))))))
def zh:aA:=(s0 [ba 3 0 0,ba 5 1 2,mf 6 false] 2 [1,3,5] [3,5] (sr [fa 9 7 3,lo 10 9,mv 11 1,ix 12 1 10 11,lo 13 12,mv 7 13] 0 [5,7] (sw (sr [mi 8 1] 0 [5,7,8] (lp (sw (sr [mv 14 8,fa 15 0 5,lo 16 15,fa 17 1 5,lo 18 17,ob 19 (.qo true) 16 18,ob 20 pM 14 19,mv 21 7,oa 22 .len 21,ob 23 pL 20 22] 0 [5,7,8,23] (cx 23 0)) (sw (b1 (sr [mv 26 7,mv 27 8,fa 28 0 5,lo 29 28,ob 30 pM 27 29,ix 31 1 26 30,lo 32 31,mv 33 32,ov 34 .mov 7 33 0,ov 35 .mov 8 33 0,ov 36 (.fld 1) 5 33 0,ov 37 ld 36 33 0,obT 38 pM 35 37 33 0,obT 39 (.bH 1) 34 38 33 0,ov 40 ld 39 33 0,pf 41 33 40] 0 [5,7,8,41] (cd 41 (sr [mf 6 true] 0 [6] .ret) .skip))) (rg [mv 24 8,oi 25 pA 24 1,mv 8 25] 0 [5,7,8]))))) (sr [mf 6 false] 0 [6] .ret))))
def Ru.tt (r:Ru):List Int:=(bR (r.hi - r.lo+1).toNat).map fun(i:Nat)=>r.lo+(i:Int)
def Fe (r:Ru):r.tt.length=(r.hi - r.lo+1).toNat:=by simp[Ru.tt]
def qG {n:Int}:n∈r.tt↔r.lo<=n/\n<=r.hi:=by
 simp only[Ru.tt,cm,ct];constructor
 ·rintro⟨i,h,rfl⟩;omega
 ·intro h;exact⟨(n - r.lo).toNat,by omega,by omega⟩
def Iw {i:Nat}(h:i<r.tt.length):r.tt.getD i default=r.lo+(i:Int):=by
 rw[Fe]at h;rw[aq,Ru.tt,ck,ca h];rfl
def Ru.dv6 (r:Ru):DV:= .agg [dI r.lo,dI r.hi,dI r.pr,dI 1, .slice false [],sF (r.tt.map ay)]
def zI:r.dv6= .agg [dI r.lo,dI r.hi,dI r.pr,dI 1, .slice false [],sF (r.tt.map ay)]:=by rw[Ru.dv6]
def Ru.facts (h:r.ok=true):(4<=r.lo/\r.lo<=r.hi/\r.hi<=60)/\1<=r.pr/\r.pr<=3:=by
 simp only[Ru.ok,aT,inR,ab,decide_eq_true_eq,ge_iff_le]at h;omega
def adO (r:Ru)(s:r.ok=true):Pure C 66 [r.dv] (.d r.dv6) []:=by
 obtain⟨⟨h1,h2,w⟩, -⟩:=Ru.facts s;have j:=Fe r;refine bM (aB H8 aji ?_);rw[yI,zI];simp only[H8,aji,bk,lX,RN,E,H,J,O];refine aG r.tt.length (fun i (q:PV×List (Option Arr))=>⟨[(1, .d (.aP [dI r.lo,dI r.hi,dI r.pr,dI 1, .slice false []])),(2, .ptr 1 0),(3, .ptr 2 0),(4, .d (dI (r.lo+(i:Int))))],
   ⟨[some [pI r.lo,pI r.hi,pI r.pr,pI 1, .d (.slice false [])],some [pI 0,pI 0,pI 0,pI 0, .d (.slice true []), .d (.slice true [])],some [pI r.lo,pI r.hi,pI r.pr,pI 1, .d (.slice false []),q.1]],[0],q.2⟩⟩)
  (fun i q=>slN 1 false q.1 ((r.tt.take i).map ay) q.2) 0 (.d (.slice true []),[]) (an _) (by simp) (.inl ⟨rfl,rfl⟩) (fun i q g b=> ?_) (fun q b=> ?_)
 ·obtain⟨c,a⟩:=q
  simp only at b;obtain⟨x,z,A⟩:=CB b;have h:r.lo+(i:Int)<=r.hi:=by omega
  have o:cC .i64 (r.lo+(i:Int)+1)=r.lo+((i+1:Nat):Int):=by rw[aF (by omega)];omega
  simp only[h,RN,E,H,O];refine cO rfl rfl (qH [] _ (by simp)) ?_;simp only[List.contains_nil,gB,DV.strip,fU,RN,E,H,O];refine wY b (by decide) (by intro y l;simp only[ae]at l;subst l;rfl) (by simp) (by simp;omega) fun k ver st f t m u v n _=> ?_
  simp only[dJ,dO,o,RN,H,J,O];exact dH (.tsl k ver 0,f) g rfl (.inr ⟨k,ver,st,rfl,by simp only[m];rw[bf g,Iw g,bc];rfl,n,by simp⟩)
 ·obtain⟨c,a⟩:=q
  simp only[a8]at b;obtain⟨k,ver,st,rfl,p, -, -⟩:=uX b (by intro e;have:=congrArg b9 e;simp[j]at this;omega);have h:¬r.lo+(r.tt.length:Int)<=r.hi:=by omega
  simp only[h,dO,bD,bu,dD,gQ,RN,E,H,J,O];simp[datum,bT,dR,Mem.row,p]
def amy (r:Ru)(n:Int)(b:r.ok=true):Pure C 73 [r.dv6,dI n] (.d (.bool (inR n r.lo r.hi))) []:=by
 obtain⟨⟨h1,h2,e⟩, -⟩:=Ru.facts b;have c:=Fe r;have a:=qH r.tt n (by omega);rw[show r.tt.contains n=inR n r.lo r.hi by
  rw[Bool.eq_iff_iff,List.contains_iff_mem,qG];simp[inR]]at a
 refine ah Cj aH ?_;rw[zI];simp only[Cj,aH,RN,E,H,O];exact ak a rfl
def aiq (r:Ru)(n:Int):Pure C 68 [r.dv6,dI n] (.d (.bool true)) []:=by
 refine ah AU aH ?_;rw[zI];have e1:((cC .i64 (1 - 1))==(1:Int))=false:=by decide
 have e2:((cC .i64 (1 - 1))==(2:Int))=false:=by decide
 simp only[AU,aH,e1,e2,RN,E,H,O]
def agE (r:Ru)(p:Pr)(e:r.ok=true):Pure C 72 [p.dv, .aP [dI r.lo,dI r.hi,dI r.pr,dI 1, .slice false [],sF (r.tt.map ay)]] (.d (.bool (!(inR p.a r.lo r.hi&&inR p.b r.lo r.hi)))) []:=by
 have h1:=amy r p.a e;have h2:=amy r p.b e;rw[zI]at h1 h2;refine ah F5 JO ?_;simp only[F5,JO,dW,RN,E,H,O]
 repeat' first
  |(refine ak (h1) ?_;try simp only[RN])
  |(refine ak (h2) ?_;try simp only[RN])
  |(refine aJ (by rfl) (fun c=> ?_) (fun c=> ?_)<;>simp only[c,RN,E,H,O])
  |(refine aK (by rfl) (fun c=> ?_) (fun c=> ?_)<;>simp only[c,dW,RN,E,H,I,J,N,O])
 all_goals(first|(simp only[inR, *,BSN];done)|(simp_all[inR];done)|(simp_all[inR];omega))
def VU (l:List Pr):Prop:=∀i,i+1<l.length->0<=sU (l.getD (i+1) default) (l.getD i default)
def abY (l:List Pr)(hl:l.length<=1000000)(h:VU l):Pure C 69 [sF (l.map Pr.dv), .func (.func 70) [] []] (.d (.bool true)) []:=by
 refine ah jL aH ?_;have g:cC .i64 ((l.length:Int) - 1)=(l.length:Int) - 1:=aF (by omega);simp only[jL,aH,U,g,RN,E,H];refine aG (l.length - 1) (fun i (_:Unit)=>⟨[(0, .d (sF (l.map Pr.dv))),(1, .d (.func (.func 70) [] [])),(5, .d (dI ((l.length:Int) - 1 - (i:Int))))],⟨[],[],[]⟩⟩)
  (fun i _=>True) 0 () (an _) (by simp) trivial (fun i _ k _=> ?_) (fun _ _=> ?_)
 ·obtain⟨j,c⟩:∃j:Nat,(l.length:Int) - 1 - (i:Int)=((j+1:Nat):Int)/\j+1<l.length:=⟨l.length - 2 - i,by omega,by omega⟩
  obtain⟨c,a⟩:=c;have b:(((j+1:Nat):Int)>0):=by omega
  have q:(((j+1:Nat):Int)<(l.length:Int)):=by omega
  have m:(0:Int)<=((j+1:Nat):Int):=by omega
  have e:cC .i64 (((j+1:Nat):Int) - 1)=(j:Int):=by rw[aF (by omega)];omega
  have r:((j:Int)<(l.length:Int)):=by omega
  have n:(0:Int)<=(j:Int):=by omega
  have o:j<l.length:=by omega
  have s:=h j a;have p:¬sU (l.getD (j+1) default) (l.getD j default)<0:=by omega
  have f:=N7 (l.getD (j+1) default) (l.getD j default);rw[dW,dW]at f;rw[c];simp only[b,m,e,n,o,a,Y,getD_map,U,dW,RN,E,H,O];refine ig rfl (by kernel_rfl) rfl f ?_;simp only[p,e,RN,E];exact dh () k (by simp;omega) trivial (by simp) (by simp) rfl rfl
 ·have b:¬((l.length:Int) - 1 - ((l.length - 1:Nat):Int))>0:=by omega
  simp only[b,RN,E]
def agF (r:Ru)(l:List Pr)(h:r.ok=true)(k:fF l=true)(g:(l.length:Int)<=r.pr)(hs:VU l)(f:∀p∈l,inR p.a r.lo r.hi=true/\inR p.b r.lo r.hi=true):Pure C 25 [r.dv,sF (l.map Pr.dv)] (.d (.tup [.bool true,dI 0])) []:=by
 obtain⟨t1,t2, -⟩:=lD k;have h1:=RZ r;have h2:=Dq l (by omega);have e:=adO r h;have i:=fun n=>aiq r n
 have m:=abY l (by omega) hs;have j:=Jl l 72 [.aP [dI r.lo,dI r.hi,dI r.pr,dI 1, .slice false [],sF (r.tt.map ay)]] (fun p=> !(inR p.a r.lo r.hi&&inR p.b r.lo r.hi)) (by omega) (by kernel_rfl) (fun p _=>by
  have:=agE r p h
  simpa[DV.strip,dW]using this)
 have c:(l.any fun p=> !(inR p.a r.lo r.hi&&inR p.b r.lo r.hi))=false:=by
  rw[List.any_eq_false];intro p g;obtain⟨a,b⟩:=f p g;simp[a,b]
 rw[h]at h1;rw[k]at h2;rw[c]at j;rw[zI]at e i;rw[yI]at h1 e;refine ah JH bn ?_;rw[yI];simp only[JH,bn,RN,E,H,O];refine ak h1 ?_;(try simp only[RN,E]);refine ak h2 ?_;(try simp only[RN,E,H,O]);refine ak e ?_;simp only[g,U,RN,E,H,J,O];refine ak (i _) ?_;(try simp only[RN,E]);refine ak m ?_;(try simp only[RN,E]);refine ak j ?_;(try simp only[RN])
def ana (n:Int):Bl n 0<=0↔n<=0:=by unfold Bl;split<;>(try split)<;>omega
variable{f:Fr}
def YC {x:Fr}(h1:0<=x.n/\x.n<=216000)(h2:1<=x.d/\x.d<=216000)(hf:f.ok=true):(0<=(bF x f).n/\(bF x f).n<=10800000000)/\(bF x f).d=x.d:=by
 obtain⟨-, -,a,b⟩:=NQ h1 h2 hf;have e:(bF x f).n=max (x.n*f.d - f.n*x.d) (-(x.n*f.d - f.n*x.d)):=rfl;refine⟨?_,rfl⟩;rw[e];omega
def Vh (f:Fr)(a b:List Pr):Int:=fC (bF (gu a) f) (bF (gu b) f)
variable{y:Fr}
def Dj {x:Fr}(h1:0<=x.n/\x.n<=216000)(h2:1<=x.d/\x.d<=216000)(h:0<=y.n/\y.n<=216000)(c:1<=y.d/\y.d<=216000)(hf:f.ok=true):
  (0<=(bF x f).n*(bF y f).d/\(bF x f).n*(bF y f).d<=4000000000000000000)/\(0<=(bF y f).n*(bF x f).d/\(bF y f).n*(bF x f).d<=4000000000000000000):=by
 obtain⟨a,e⟩:=YC h1 h2 hf;obtain⟨b,g⟩:=YC h c hf;rw[e,g];have e1:=az a.2 c.2 (by omega) (by omega);have e2:=aR a.1 (show 0<=y.d by omega);have i:=az b.2 h2.2 (by omega) (by omega);have j:=aR b.1 (show 0<=x.d by omega);omega
def X0 (f:Fr)(a b:List Pr)(hf:f.ok=true)(j:fF a=true)(hb:fF b=true):Pure C 28 [f.dv,sF (a.map Pr.dv),sF (b.map Pr.dv)] (.d (.tup [dI (Bl (Vh f a b) 0),dI 0])) []:=by
 obtain⟨-,e,g⟩:=lD j;obtain⟨-,b2,b3⟩:=lD hb;obtain⟨t1,t2⟩:=Jc e g;obtain⟨k,l⟩:=Jc b2 b3;obtain⟨-, -,q,r⟩:=NQ t1 t2 hf;obtain⟨-, -,s,t⟩:=NQ k l hf;obtain⟨e1,e2⟩:=Dj t1 t2 k l hf;have c:=XP f;have h1:=Dq a (by omega);have h2:=Dq b (by omega);have m:=QE a e g;have n:=QE b b2 b3;have h:=J7 (gu a) f (by omega) (by omega);have i:=J7 (gu b) f (by omega) (by omega);have o:=zA (bF (gu a) f) (bF (gu b) f) e1 e2;rw[hf]at c;rw[j]at h1;rw[hb]at h2;rw[aS]at c;rw[aS (p:=f)]at h i;refine ah F6 P6 ?_;rw[aS];simp only[F6,P6,RN,E,H,O];refine ak c ?_;(try simp only[RN,E]);refine ak h1 ?_;(try simp only[RN,E]);refine ak h2 ?_;(try simp only[RN,E,H,O]);refine ak m ?_;(try simp only[RN,E,H,I,J,N,O]);refine ak h ?_;(try simp only[RN,E,H,I,J,N,O]);refine ak n ?_;(try simp only[RN,E,H,I,J,N,O]);refine ak i ?_;(try simp only[RN,E,H,I,J,N,O]);refine ak o ?_;(try simp only[RN,E,H,I,J,N,O]);refine ak (Le _ _) ?_;simp only[Vh,RN]
def IL (h:f.ok=true):(0<=f.n/\f.n<=50000)/\1<=f.d/\f.d<=50000:=by
 simpa only[Fr.ok,inR,ab,decide_eq_true_eq,ge_iff_le]using h
variable{a:Fr}
def Df {b c:Fr}(f:0<=a.d)(hb:1<=b.d)(hc:0<=c.d)(h1:fC a b<=0)(h2:fC b c<=0):fC a c<=0:=by
 simp only[fC]at*;have e1:=aM (show a.n*b.d<=b.n*a.d by omega) hc;have e2:=aM (show b.n*c.d<=c.n*b.d by omega) f;have e:b.d*(a.n*c.d)<=b.d*(c.n*a.d):=by
  have g:b.d*(a.n*c.d)=a.n*b.d*c.d:=by grind
  have h:b.d*(c.n*a.d)=c.n*b.d*a.d:=by grind
  have i:b.n*a.d*c.d=b.n*c.d*a.d:=by grind
  omega
 have:=Int.le_of_mul_le_mul_left e (by omega);omega
def zG (a:Fr):fC a a=0:=by simp[fC]
def cmp_neg (a b:Fr):fC a b= -fC b a:=by simp only[fC];omega
def uw (f:Fr)(q:List Fr×Fr)(y:Fr):List Fr×Fr:=
 let a:=if q.1=[]\/fC (bF y f) q.2<0 then([],bF y f)else q
 if fC (bF y f) a.2=0/\y∉a.1 then(a.1++ [y],a.2)else a
structure Gm (f:Fr) (S:Fr->Prop) (q:List Fr×Fr):Prop where
 good:∀y∈q.1,S y/\fC (bF y f) q.2=0
 least:q.1≠[]->∃y,S y/\q.2=bF y f
 low:∀y,S y->q.1≠[]/\fC q.2 (bF y f)<=0
variable{S:Fr->Prop}{q:List Fr×Fr}
def aiz (h:Gm f S q)(l:∀z,S z->1<=z.d)(p:1<=y.d):Gm f (fun z=>S z\/z=y) (uw f q y):=by
 have k:∀z:Fr,(bF z f).d=z.d:=fun _=>rfl
 by_cases g:q.1=[]\/fC (bF y f) q.2<0
 ·have e:uw f q y=([y],bF y f):=by
   simp only[uw,if_pos g,zG,av,not_false_eq_true,and_self,if_true,bX]
  rw[e];refine⟨fun z a=> ?_,fun _=>⟨y, .inr rfl,rfl⟩,fun z a=>⟨by simp,?_⟩⟩
  ·simp only[ae]at a
   subst a;exact⟨.inr rfl,zG _⟩
  ·rcases a with a|rfl
   ·obtain⟨l1,l2⟩:=h.low z a
    obtain⟨u,i,j⟩:=h.least l1;have n:=g.resolve_left l1;refine Df (b:=q.2) ?_ ?_ ?_ (by simp only;omega) l2
    ·simp only;rw[k];omega
    ·rw[j,k];exact l u i
    ·rw[k];have:=l z a;omega
   ·simp only[zG];omega
 ·have c:q.1≠[]:=fun e=>g (.inl e)
  have m:¬fC (bF y f) q.2<0:=fun e=>g (.inr e)
  have o:=cmp_neg q.2 (bF y f)
  by_cases hd:fC (bF y f) q.2=0/\y∉q.1
  ·have e:uw f q y=(q.1++ [y],q.2):=by simp only[uw,if_neg g,if_pos hd]
   rw[e];refine⟨fun z a=> ?_,fun _=> ?_,fun z a=>⟨by simp,?_⟩⟩
   ·rcases aD.1 a with a|a
    ·exact⟨.inl (h.good z a).1,(h.good z a).2⟩
    ·simp only[ae]at a
     subst a;exact⟨.inr rfl,hd.1⟩
   ·obtain⟨u,i,j⟩:=h.least c
    exact⟨u, .inl i,j⟩
   ·rcases a with a|rfl
    ·exact(h.low z a).2
    ·simp only;omega
  ·have e:uw f q y=q:=by simp only[uw,if_neg g,if_neg hd]
   rw[e];refine⟨fun z a=>⟨.inl (h.good z a).1,(h.good z a).2⟩,fun _=> ?_,fun z a=>⟨c,?_⟩⟩
   ·obtain⟨u,i,j⟩:=h.least c
    exact⟨u, .inl i,j⟩
   ·rcases a with a|rfl
    ·exact(h.low z a).2
    ·omega
def pF (all:List Int)(f:Fr)(x:Int):Nat:=all.findIdx fun y=>decide (x*f.d<=y*f.n)
def zZ (all:List Int)(f:Fr)(x:Int)(q:List Fr×Fr)(i:Int):List Fr×Fr:=if inR i 0 (all.length - 1:Int)=true then uw f q (lJ x.toNat (all.getD i.toNat default).toNat)else q
def Js (all:List Int)(f:Fr)(q:List Fr×Fr)(x:Int):List Fr×Fr:=zZ all f x (zZ all f x q ((pF all f x:Int) - 1)) (pF all f x)
def pz (all:List Int)(f:Fr):List Fr×Fr:=all.foldl (Js all f) ([],⟨0,0⟩)
def aj8 (all:List Int):Prop:=∀i j,i<=j->j<all.length->all.getD i default<=all.getD j default
def Two (all:List Int)(f:Fr)(x:Int)(y:Fr):Prop:=∃j,(j+1=pF all f x\/j=pF all f x)/\j<all.length/\y=lJ x.toNat (all.getD j default).toNat
variable{b:Nat}
def I5 {a:Nat}(h:0<b):1<=(lJ a b).d:=(ET a b h).2.1
def Gm.iff {a:Fr->Prop}(h:Gm f S q)(e:∀y,S y↔a y):Gm f a q:=by
 obtain rfl:S=a:=funext fun y=>propext (e y)
 exact h
variable{all:List Int}{x:Int}
def aiA (n:∀y∈all,1<=y)(h:Gm f S q)(k:∀z,S z->1<=z.d):Gm f (fun z=>S z\/Two all f x z) (Js all f q x):=by
 have g:∀j,j<all.length->0<(all.getD j default).toNat:=fun j l=>by have:=n _ (getD_mem l);omega
 have step:∀(S:Fr->Prop) (q:List Fr×Fr) (i:Int),Gm f S q->(∀z,S z->1<=z.d)->Gm f (fun z=>S z\/∃j:Nat,(j:Int)=i/\j<all.length/\z=lJ x.toNat (all.getD j default).toNat) (zZ all f x q i)/\(∀z,(S z\/∃j:Nat,(j:Int)=i/\j<all.length/\z=lJ x.toNat (all.getD j default).toNat)->1<=z.d):=by
  intro S q i h k;refine⟨?_,?_⟩
  ·rw[zZ]
   split
   ·rename_i hi
    simp only[inR,ab,decide_eq_true_eq,ge_iff_le]at hi;refine(aiz h k (I5 (g i.toNat (by omega)))).iff fun z=>⟨fun e=>e.imp_right fun e=>⟨i.toNat,by omega,by omega,e⟩,fun e=>e.imp_right ?_⟩
    rintro⟨j,rfl,_,e⟩
    simpa using e
   ·rename_i hi
    simp only[inR,ab,decide_eq_true_eq,ge_iff_le]at hi;refine h.iff fun z=>⟨.inl,fun e=>e.elim id ?_⟩
    rintro⟨j,rfl,l,_⟩;exact absurd (by omega) hi
  ·rintro z (o|⟨j,_,l,rfl⟩)
   ·exact k z o
   ·exact I5 (g j l)
 obtain⟨h1,h2⟩:=step S q _ h k;obtain⟨m, -⟩:=step _ _ (pF all f x:Int) h1 h2;refine m.iff fun z=> ?_
 constructor
 ·rintro((h|⟨j,a,b,c⟩)|⟨j,a,b,c⟩)
  ·exact .inl h
  ·exact .inr ⟨j, .inl (by omega),b,c⟩
  ·exact .inr ⟨j, .inr (by omega),b,c⟩
 ·rintro(h|⟨j,a|a,b,c⟩)
  ·exact .inl (.inl h)
  ·exact .inl (.inr ⟨j,by omega,b,c⟩)
  ·exact .inr ⟨j,by omega,b,c⟩
def Vj {all:List Int}{f:Fr}(b:∀y∈all,1<=y):∀(l:List Int) (S:Fr->Prop) (q:List Fr×Fr),Gm f S q->(∀z,S z->1<=z.d)->Gm f (fun z=>S z\/∃x∈l,Two all f x z) (l.foldl (Js all f) q)
 | [],S,q,h,_=>h.iff fun z=>⟨.inl,fun e=>e.elim id (by rintro⟨x,i,_⟩;cases i)⟩
 |x::l,S,q,h,c=>by
  have h1:=aiA (x:=x) b h c;refine(Vj b l _ _ h1 ?_).iff fun z=> ?_
  ·rintro z (k|⟨j,_,g,rfl⟩)
   ·exact c z k
   ·exact I5 (by have:=b _ (getD_mem g);omega)
  ·constructor
   ·rintro((h|h)|⟨y,a,h⟩)
    ·exact .inl h
    ·exact .inr ⟨x,by simp,h⟩
    ·exact .inr ⟨y,by simp[a],h⟩
   ·rintro(h|⟨y,a,h⟩)
    ·exact .inl (.inl h)
    ·rcases bj.1 a with rfl|a
     ·exact .inl (.inr h)
     ·exact .inr ⟨y,a,h⟩
def adN (u v:Nat)(hv:0<v):∃g:Int,1<=g/\(u:Int)=g*(lJ u v).n/\(v:Int)=g*(lJ u v).d:=by
 refine⟨(Nat.gcd u v:Nat),by have:=Nat.gcd_pos_of_pos_right u hv;omega,?_,?_⟩
 ·have:=cb (Nat.gcd_dvd_left u v)
  simp only[lJ];rw[<-cq,this]
 ·have:=cb (Nat.gcd_dvd_right u v)
  simp only[lJ];rw[<-cq,this]
def ada {x c:Nat}(hf:0<=f.d)(hb:0<b)(hc:0<c)(h:((x:Int)*f.d<=b*f.n/\b<=c)\/((b:Int)*f.n<x*f.d/\(c:Int)*f.n<x*f.d/\c<=b))(h':(x:Int)*f.d<=b*f.n->(x:Int)*f.d<=c*f.n):fC (bF (lJ x b) f) (bF (lJ x c) f)<=0:=by
 obtain⟨g,r,s,i⟩:=adN x b hb;obtain⟨k,w,y,j⟩:=adN x c hc;obtain⟨u,B⟩:∃u,u=lJ x b:=⟨_,rfl⟩
 obtain⟨v,C⟩:∃v,v=lJ x c:=⟨_,rfl⟩
 rw[<-B]at s i⊢;rw[<-C]at y j⊢;have e1:g*fC u f=x*f.d - b*f.n:=by rw[s,i];simp only[fC];grind
 have e2:k*fC v f=x*f.d - c*f.n:=by rw[y,j];simp only[fC];grind
 have t:0<=(x:Int)*f.d:=aR (by omega) hf;have H:0<g*k:=cz (by omega) (by omega);have a:∀(g c:Int),1<=g->(g*c<=0->c<=0)/\(0<g*c->0<c):=by
  intro g c I;constructor
  ·intro h
   by_cases e:c<=0
   ·exact e
   ·have:=cz (show 0<g by omega) (show 0<c by omega);omega
  ·intro h
   by_cases e:0<c
   ·exact e
   ·have:=ap (show c<=0 by omega) (show 0<=g by omega);omega
 have l:(g*k)*((bF u f).n*v.d - (bF v f).n*u.d)<=0:=by
  have F:(bF u f).n=max (fC u f) (-(fC u f)):=rfl;have G:(bF v f).n=max (fC v f) (-(fC v f)):=rfl
  rcases h with⟨p,z⟩|⟨p,z,A⟩
  ·have A:=h' p
   have D:=(a g (fC u f) r).1 (by omega);have E:=(a k (fC v f) w).1 (by omega);have m1:(bF u f).n= -(fC u f):=by omega
   have m:(bF v f).n= -(fC v f):=by omega
   rw[m1,m];have q:(g*k)*(-(fC u f)*v.d - -(fC v f)*u.d)= -(g*fC u f)*(k*v.d)+(k*fC v f)*(g*u.d):=by grind
   rw[q,e1,e2,<-j,<-i];have o: -((x:Int)*f.d - b*f.n)*c+((x:Int)*f.d - c*f.n)*b=(x:Int)*f.d*b - (x:Int)*f.d*c:=by grind
   rw[o];have:=ap (show(b:Int)<=c by omega) t;omega
  ·have D:=(a g (fC u f) r).2 (by omega)
   have E:=(a k (fC v f) w).2 (by omega);have m1:(bF u f).n=fC u f:=by omega
   have m:(bF v f).n=fC v f:=by omega
   rw[m1,m];have q:(g*k)*(fC u f*v.d - fC v f*u.d)=(g*fC u f)*(k*v.d) - (k*fC v f)*(g*u.d):=by grind
   rw[q,e1,e2,<-j,<-i];have o:((x:Int)*f.d - b*f.n)*c - ((x:Int)*f.d - c*f.n)*b=(x:Int)*f.d*c - (x:Int)*f.d*b:=by grind
   rw[o];have:=ap (show(c:Int)<=b by omega) t;omega
 have:=(a (g*k) _ (by omega)).1 l;exact this
def SG {k:Nat}(h:k<pF all f x):all.getD k default*f.n<x*f.d:=by
 have a:k<all.length:=bl h bN;have:=List.not_of_lt_findIdx h;rw[aq,aL a]
 simpa using this
def SE (c:aj8 all)(b:0<=f.n){k:Nat}(h:pF all f x<=k)(hk:k<all.length):x*f.d<=all.getD k default*f.n:=by
 have a:pF all f x<all.length:=cg h hk;have h1:=List.findIdx_getElem (w:=a);have h2:=c _ k h hk;rw[aq,aL a,ax]at h2;simp only[decide_eq_true_eq]at h1;exact cw h1 (aM h2 b)
def aiB (c:aj8 all)(j:∀y∈all,1<=y)(hx:1<=x)(m:0<=f.n)(h1:0<=f.d){k:Nat}(hk:k<all.length):∃y,Two all f x y/\fC (bF y f) (bF (lJ x.toNat (all.getD k default).toNat) f)<=0:=by
 have q:=j _ (getD_mem hk);have ex:((x.toNat:Nat):Int)=x:=by omega
 have l:(((all.getD k default).toNat:Nat):Int)=all.getD k default:=by omega
 by_cases h:pF all f x<=k
 ·obtain⟨p,b⟩:∃p,p=pF all f x:=⟨_,rfl⟩
  rw[<-b]at h;have a:p<all.length:=by omega
  have aqI:=j _ (getD_mem a);have ep:(((all.getD p default).toNat:Nat):Int)=all.getD p default:=by omega
  refine⟨_,⟨p, .inr b,a,rfl⟩,?_⟩;have g:=SE (x:=x) c m (show pF all f x<=p by omega) a;have i:=SE (x:=x) c m (show pF all f x<=k by omega) hk;have o:=c p k h hk;exact ada h1 (by omega) (by omega) (.inl ⟨by rw[ex,ep];exact g,by omega⟩) (fun _=>by rw[ex,l];exact i)
 ·obtain⟨p,b⟩:∃p,p+1=pF all f x:=⟨pF all f x - 1,by omega⟩
  have a:p<all.length:=by
   have:pF all f x<=all.length:=bN;omega
  have aqI:=j _ (getD_mem a);have ep:(((all.getD p default).toNat:Nat):Int)=all.getD p default:=by omega
  refine⟨_,⟨p, .inl b,a,rfl⟩,?_⟩;have g:=SG (show p<pF all f x by omega);have i:=SG (show k<pF all f x by omega);have o:=c k p (by omega) a;refine ada h1 (by omega) (by omega) (.inr ⟨by rw[ex,ep];exact g,by rw[ex,l];exact i,by omega⟩) (fun e=> ?_);rw[ex,ep]at e;omega
structure agI (all:List Int) (f:Fr) (q:List Fr×Fr):Prop where
 ne:q.1≠[]
 good:∀y∈q.1,(∃a∈all,∃b∈all,y=lJ a.toNat b.toNat)/\fC (bF y f) q.2=0
 least:∃a∈all,∃b∈all,q.2=bF (lJ a.toNat b.toNat) f
 low:∀a∈all,∀b∈all,fC q.2 (bF (lJ a.toNat b.toNat) f)<=0
def adA (B:aj8 all)(p:∀y∈all,1<=y)(s:all≠[])(w:0<=f.n)(h1:0<=f.d):agI all f (pz all f):=by
 have h:=Vj (f:=f) p all (fun _=>False) ([],⟨0,0⟩) ⟨fun _ h=>by simp at h,fun h=>absurd rfl h,fun _ h=>h.elim⟩ (fun _ h=>h.elim);rw[<-pz]at h;have q:∀x∈all,∀y,Two all f x y->∃a∈all,∃b∈all,y=lJ a.toNat b.toNat:=fun x l y ⟨j,_,r,e⟩=>⟨x,l,_,getD_mem r,e⟩
 have g:∀a∈all,∀b∈all,(pz all f).1≠[]/\fC (pz all f).2 (bF (lJ a.toNat b.toNat) f)<=0:=by
  intro a c b i;obtain⟨k,v,rfl⟩:=List.getElem_of_mem i;obtain⟨y,m,o⟩:=aiB (x:=a) B p (p a c) w h1 v;obtain⟨l1,l2⟩:=h.low y (.inr ⟨a,c,m⟩);refine⟨l1,?_⟩;rw[aq,aL v,ax]at o;obtain⟨z,C,u⟩:=h.least l1;have hd:∀z,(False\/∃x∈all,Two all f x z)->1<=(bF z f).d:=by
   rintro z (h|⟨x,l,j,_,r,rfl⟩)
   ·exact h.elim
   ·exact I5 (by have:=p _ (getD_mem r);omega)
  have A:1<=(bF (lJ a.toNat all[k].toNat) f).d:=I5 (by have:=p _ i;omega);refine Df ?_ (hd y (.inr ⟨a,c,m⟩)) (by omega) l2 o;rw[u];have:=hd z C;omega
 obtain⟨a,c⟩:=List.exists_mem_of_ne_nil all s;refine⟨(g a c a c).1,fun y m=> ?_,?_,fun a c b i=>(g a c b i).2⟩
 ·obtain⟨h1,h2⟩:=h.good y m
  obtain⟨x,l,t⟩:=h1.resolve_left id;exact⟨q x l y t,h2⟩
 ·obtain⟨y,m,e⟩:=h.least (g a c a c).1
  obtain⟨x,l,t⟩:=m.resolve_left id;obtain⟨a,c,b,i,rfl⟩:=q x l y t;exact⟨a,c,b,i,e⟩
def Dy:aA:=(s0 [ba 1 0 0,mi 2 0,mi 3 0] 1 [1] [1] (sw (sr [lw 4 2 1,oa 5 (.aj 50) 4,oa 6 pN 5] 0 [1,6] (cd 6 (sr [mi 2 0,mi 3 2] 0 [2,3] .ret) .skip)) (sr [lw 7 2 1,oa 8 (.aj 51) 7,oa 9 (.Qh false 2 1) 8,oa 10 .len 9,mv 2 10,mi 3 0] 0 [2,3] .ret)))
def Ho:aA:=(s0 [ba 2 0 0,ba 3 1 1,mi 4 0,mi 5 0] 2 [2,3] [2,3] (sw (sr [lw 12 2 2,oa 13 (.aj 50) 12,oa 14 pN 13,mv 15 14,ow 16 (.load true 5) 3 15 0,ow 17 (.aj 52) 16 15 0,oF 18 pQ [.t 17,kI 0] 15 0,pt 19 15 18] 0 [2,3,19] (cd 19 (sr [mi 4 0,mi 5 2] 0 [4,5] .ret) .skip)) (sr [mi 6 0] 0 [2,3,6] (sw (sr [lw 20 2 2,oa 21 (.aj 51) 20,oa 22 (.Qh false 2 1) 21,oa 23 .len 22,mi 24 0] 0 [3,6,22,23,24] (lp (sr [ob 25 pL 24 23] 0 [3,6,22,23,24,25] (sw (cx 25 0) (sw (b1 (sr [ix 26 1 22 24,lo 27 26,mv 8 27] 0 [3,6,8,22,23,24] (sr [mv 28 8,oa 29 (.kZ 53) 28,mv 9 29] 0 [3,6,9,22,23,24] (sr [mv 30 9,oc 31 (.call 54) 30 (.c (.func (.func 55) [] []))] 0 [3,6,9,22,23,24] (sr [lw 33 5 3,mv 34 9,ob 35 (.gG 25) 33 34,mv 32 35,xa 36 0 32,xa 37 1 32,mv 10 36,mv 11 37] 0 [3,6,10,22,23,24] (sr [mv 38 10] 0 [3,6,22,23,24,38] (cd 38 (rg [mv 39 6,oi 40 pA 39 1,mv 6 40] 0 [3,6,22,23,24]) .skip))))))) (rg [oi 41 pA 24 1,mv 24 41] 0 [3,6,22,23,24])))))) (sr [mv 42 6,mv 4 42,mi 5 0] 0 [4,5] .ret)))))
def oU:aA:=(s0 [ba 2 0 0,ba 3 1 1,mk 4 cS,mi 5 0] 2 [2,3] [2,3] (sw (r1 [ou 10 (.load true 2) 2 1,ou 11 (.load true 2) 3 1,oa 12 (.aj 57) 11,ob 13 (.aj 56) 10 12,mv 9 13,xa 14 0 9,xa 15 1 9,al 6 0 [zs,zs,zs],sk 3 6 14 4,mv 7 15] 1 [3,6,7] [6]) (sw (sr [mv 16 7,oi 17 pQ 16 0] 0 [3,6,7,17] (cd 17 (sr [mv 18 7,mk 4 cS,mv 5 18] 0 [4,5] .ret) .skip)) (sr [oa 19 (.mkF (.func 58) 0) 6,mv 8 19] 0 [3,8] (sr [mv 20 8,oa 21 (.mkF (.func 60) 0) 3,ob 22 (.aj 59) 20 21,mv 4 22,mi 5 0] 0 [4,5] .ret)))))
def FP:aA:=(s0 [ba 1 0 0,mf 2 false] 1 [1] [1] (s0 [fa 4 0 1,lo 5 4,oa 6 .len 5,al 3 0 [z0],sk 1 3 6 0] 1 [1,3] [3] (sr [lo 7 3,oi 8 (.bin .rem) 7 2,oi 9 pE 8 0,mv 10 9,ov 11 ld 3 10 0,ot 12 (.aj 116) [.t 11,kI 2,kI 6] 10 0,pf 13 10 12,mv 14 13,ov 15 (.fld 1) 1 14 0,ov 16 ld 15 14 0,ov 17 .len 16 14 0,ot 18 (.bin .leq) [.t 17,kI 8] 14 0,pf 19 14 18,mv 20 19,ov 21 (.fld 0) 1 20 0,ov 22 ld 21 20 0,ot 23 (.aj 117) [.t 22,.c (.func (.func 118) [] [])] 20 0,ov 24 pN 23 20 0,pf 25 20 24,mv 26 25,ov 27 (.fld 1) 1 26 0,ov 28 ld 27 26 0,ov 29 (.mkF (.func 121) 0) 3 26 0,obT 30 (.aj 120) 28 29 26 0,ov 31 pN 30 26 0,pf 32 26 31,mv 2 32] 0 [2] .ret)))
def Ht:aA:=(s0 [ba 1 0 0,al 2 1 [zs,zs,zs]] 2 [1,2] [1] (sr [lw 5 2 1,oa 6 (.build [zs,zs,zs] [(0,2)]) 5,al 3 0 [zs,zs,zs],sk 3 3 6 0] 1 [1,2,3] (sw (sr [lw 7 2 1,oa 8 (.aj 123) 7] 0 [1,2,3,8] (.block 0 (.nD (.t 8) [9] [1,3] (rg [mv 4 9] 0 [1,3,4]) (b1 (sr [mv 10 4,lw 11 2 1,ob 12 (.aj 124) 10 11,oa 13 .len 12,oi 14 pE 13 0] 0 [3,4,14] (cd 14 (rg [fa 15 2 3,lo 16 15,mv 17 4,oa 18 (.dU 1 [zs] [0]) 17,ob 19 (.app 1 false) 16 18,fa 20 2 3,sk 1 20 19 0] 0 []) .skip)))))) (sr [lw 21 3 3,sk 3 2 21 0] 0 [2] .ret))))
def xC:aA:=(sr [ag 2 2] 0 [0] (sr [ag 3 2] 0 [0,3] (sw (sr [mv 5 0,oa 6 .len 5,oi 7 (.bin .quo) 6 2,mi 8 0] 0 [0,3,7,8] (lp (sr [ob 9 pL 8 7] 0 [0,3,7,8,9] (sw (cx 9 0) (sw (b1 (sr [mv 10 8,mv 4 10] 0 [0,3,4,7,8] (r1 [mv 11 3,mv 12 0,mv 13 4,on 14 pM [kI 2,.t 13],ob1 15 (.bH 1) 12 14 1,lv 16 15,mv 17 0,mv 18 4,on 19 pM [kI 2,.t 18],oi 20 pA 19 1,ob1 21 (.bH 1) 17 20 1,lv 22 21,ob 23 (.build [z0,z0] [(0,1),(1,1)]) 16 22,ou 24 (.dU 2 [.agg [z0,z0]] [0]) 23 1,ob 25 (.app 2 true) 11 24,mv 3 25] 0 [0,3,7,8] []))) (rg [oi 26 pA 8 1,mv 8 26] 0 [0,3,7,8])))))) (sr [mv 27 3,mv 2 27] 0 [2] .ret))))
def wH:aA:=(s0 [ba 2 0 0,ba 3 1 1,mi 4 0] 2 [2,3] [2,3] (sw (sr [fa 5 0 2,lo 6 5,fa 7 0 3,lo 8 7,ob 9 pQ 6 8] 0 [2,3,9] (cd 9 (sr [fa 10 0 2,lo 11 10,fa 12 0 3,lo 13 12,ob 14 pU 11 13,mv 4 14] 0 [4] .ret) .skip)) (sr [fa 15 1 2,lo 16 15,fa 17 1 3,lo 18 17,ob 19 pU 16 18,mv 4 19] 0 [4] .ret)))
def uy:aA:=(s0 [ba 2 0 0,al 4 1 [zs,zs,zs],mi 5 0] 2 [1,2,4] [2] (sw (sr [lw 7 2 2,oa 8 (.aj 50) 7,oa 9 pN 8,mv 10 9,ow 11 .mov 1 10 0,ow 12 pN 11 10 0,pt 13 10 12] 0 [2,4,13] (cd 13 (sr [on 14 (.build [zs,zs,zs] []) [],sk 3 4 14 0,mi 5 2] 0 [4,5] .ret) .skip)) (s0 [lw 15 2 2,oa 16 (.aj 51) 15,al 6 0 [zs,zs,zs],sk 3 6 16 0] 1 [4,6] [6] (sw (sr [fa 17 2 6,lo 18 17,oa 19 .len 18,oi 20 pE 19 0] 0 [4,6,20] (cd 20 (sr [on 21 (.build [zs,zs,zs] []) [],sk 3 4 21 0,mi 5 7] 0 [4,5] .ret) .skip)) (sr [lw 22 3 6,sk 3 4 22 0,mi 5 0] 0 [4,5] .ret)))))
def yO:aA:=(s0 [ba 1 0 0,mf 2 false] 1 [1] [1] (sr [fa 3 0 1,lo 4 3,on 5 (.aj 116) [.t 4,kI 0,kI 50000],mv 6 5,ov 7 (.fld 1) 1 6 0,ov 8 ld 7 6 0,ot 9 (.aj 116) [.t 8,kI 1,kI 50000] 6 0,pf 10 6 9,mv 2 10] 0 [2] .ret))
def Ah:aA:=(sr [fa 5 2 1,lo 6 5,oa 7 .len 6,mi 8 0] 0 [0,6,7,8] (lp (sr [ob 9 pL 8 7] 0 [0,6,7,8,9] (sw (cx 9 0) (sw (b1 (sr [ix 10 1 6 8,lo 11 10,mv 4 11] 0 [0,4,6,7,8] (sr [mv 12 0,mv 13 4,oa 14 (.aj 53) 13,ob 15 .dQ 12 14,oa 16 pN 15] 0 [0,6,7,8,16] (cd 16 .ret .skip)))) (rg [oi 17 pA 8 1,mv 8 17] 0 [0,6,7,8]))))))
def nM:aA:=(s0 [ba 3 0 1,mk 4 cS] 1 [0,3,4] [3] (sr [al 5 0 [zs]] 1 [0,3,4,5] (sr [al 6 0 [.bool false],os (.store 1) [.t 6,.c (.bool false)] 0] 1 [0,3,4,5,6] (sw (sr [mv 8 0] 0 [3,4,5,6,8] (.block 0 (.nD (.t 8) [9] [3,5,6] (rg [mv 7 9] 0 [3,5,6,7]) (b1 (sr [lo 10 6,oa 11 pN 10,mv 12 11,lq 13 3 12,ow 14 .mov 7 12 0,lq 15 5 12,oF 16 .dQ [.t 13,.t 14,.t 15] 12 0,pt 17 12 16] 0 [5,6,7,17] (cd 17 (rg [mv 18 7,sk 1 5 18 0,os (.store 1) [.t 6,.c (.bool true)] 0] 0 []) .skip)))))) (sr [lo 19 5,mv 4 19] 0 [4] .ret)))))
def Ai:aA:=(sr [mf 5 false] 0 [0,1,2] (sr [lw 9 2 2,mv 10 0,mv 11 1,on 12 (.aj 28) [.t 9,.t 10,.t 11],mv 8 12,xa 13 0 8,xa 14 1 8,mv 6 13,mv 7 14] 0 [6] (sr [mv 15 6,oi 16 pL 15 0,mv 5 16] 0 [5] .ret)))
def BN:aA:=(s0 [ba 1 0 0,mf 2 false] 1 [1] [1] (sr [fa 3 0 1,lo 4 3,oa 5 (.aj 119) 4,oa 6 pN 5,mv 7 6,ow 8 (.fld 1) 1 7 0,lq 9 8 7,ow 10 (.aj 119) 9 7 0,ow 11 pN 10 7 0,pt 12 7 11,mv 13 12,ow 14 (.fld 1) 1 13 0,lq 15 14 13,ow 16 (.fld 0) 1 13 0,lq 17 16 13,obF 18 pU 15 17 13 0,oF 19 (.aj 116) [.t 18,kI 0,kI 5] 13 0,ow 20 pN 19 13 0,pt 21 13 20,mv 2 21] 0 [2] .ret))
def Dz:aA:=(sr [mf 2 false] 0 [0] (sr [mv 3 0,on 4 (.aj 116) [.t 3,kI 4,kI 60],mv 2 4] 0 [2] .ret))
def BO:aA:=(s0 [ba 2 0 0,mf 3 false] 1 [1,2] [2] (sr [lw 4 9 2,lo 5 1,ob 6 (.aj 122) 4 5,oa 7 pN 6,mv 3 7] 0 [3] .ret))
def kM:aA:=(s0 [ba 2 0 0,mf 4 false] 1 [1,2] [2] (sr [fa 6 3 2,lo 7 6,oi 8 pE 7 0,mv 9 8,ov 10 (.fld 4) 2 9 0,ov 11 ld 10 9 0,ot 12 pE [.t 11,kI 0] 9 0,pf 13 9 12,mv 5 13] 0 [1,2,5] (sw (sr [fa 14 0 2,lo 15 14,oi 16 pQ 15 3,mv 17 16,ov 18 (.fld 5) 2 17 0,ov 19 (.load true 2) 18 17 0,ot 20 (.build [z0,z0] []) [] 17 0,obT 21 (.CZ true [1,1]) 19 20 17 0,ov 22 .mov 21 17 0,ow 23 (.fld 7) 2 22 0,ow 24 (.load true 2) 23 22 0,oF 25 (.build [z0,z0] []) [] 22 0,obF 26 (.CZ true [1,1]) 24 25 22 0,ot 27 .pick [.t 22,.c (.bool true),.t 26] 17 0,pf 28 17 27] 0 [1,2,5,28] (cd 28 (sr [mf 4 false] 0 [4] .ret) .skip)) (sw (sr [fa 29 0 2,lo 30 29] 0 [1,2,5,30] (.block 0 (sr [oi 32 pE 30 1,mv 31 32] 0 [1,2,5,30,31] (cd 31 (sr [fa 33 1 2,lo 34 33,mv 35 1,oi 36 pU 35 1,on 37 (.aj 116) [.t 34,kI 0,.t 36],mv 38 37,ov 39 (.fld 2) 2 38 0,ov 40 ld 39 38 0,ot 41 (.aj 116) [.t 40,kI 1,kI 60] 38 0,pf 42 38 41,mv 43 42,ov 44 (.fld 3) 2 43 0,ov 45 ld 44 43 0,ov 46 (.fld 4) 2 43 0,ov 47 ld 46 43 0,ot 48 (.aj 116) [.t 45,kI 1,.t 47] 43 0,pf 49 43 48,mv 50 49,ov 51 (.fld 4) 2 50 0,ov 52 ld 51 50 0,ot 53 (.bin .leq) [.t 52,kI 360] 50 0,pf 54 50 53,mv 4 54] 0 [4] .ret) (sr [oi 56 pE 30 2,mv 55 56] 0 [1,2,5,30,55] (cd 55 (sr [fa 57 1 2,lo 58 57,mv 59 1,oi 60 (.bin .quo) 59 2,oi 61 pU 60 1,on 62 (.aj 116) [.t 58,kI 0,.t 61],mv 63 62,ov 64 (.fld 2) 2 63 0,ov 65 ld 64 63 0,ot 66 pE [.t 65,kI 0] 63 0,pf 67 63 66,mv 68 67,ov 69 (.fld 3) 2 68 0,ov 70 ld 69 68 0,ov 71 (.fld 4) 2 68 0,ov 72 ld 71 68 0,ot 73 (.aj 116) [.t 70,kI 1,.t 72] 68 0,pf 74 68 73,mv 75 74,ov 76 (.fld 4) 2 75 0,ov 77 ld 76 75 0,ot 78 (.bin .leq) [.t 77,kI 120] 75 0,pf 79 75 78,mv 4 79] 0 [4] .ret) (sr [oi 81 pE 30 3,mv 80 81] 0 [1,2,5,30,80] (cd 80 (sr [mv 82 5,mv 83 82,ov 84 (.fld 1) 2 83 0,ov 85 ld 84 83 0,ov 86 (.fld 2) 2 83 0,ov 87 ld 86 83 0,ot 88 (.aj 116) [.t 85,kI 0,.t 87] 83 0,pf 89 83 88,mv 90 89,ov 91 (.fld 2) 2 90 0,ov 92 ld 91 90 0,ov 93 .mov 1 90 0,ot 94 (.bin .quo) [.t 93,kI 2] 90 0,obT 95 pL 92 94 90 0,pf 96 90 95,mv 97 96,ov 98 (.fld 5) 2 97 0,ov 99 (.load true 2) 98 97 0,ov 100 (.aj 57) 99 97 0,pf 101 97 100,mv 102 101,ov 103 (.fld 7) 2 102 0,ov 104 (.load true 2) 103 102 0,ov 105 (.aj 57) 104 102 0,pf 106 102 105,mv 107 106,ov 108 (.fld 5) 2 107 0,ov 109 (.load true 2) 108 107 0,ov 110 (.fld 7) 2 107 0,ov 111 (.load true 2) 110 107 0,obT 112 (.aj 174) 109 111 107 0,ov 113 pN 112 107 0,pf 114 107 113,mv 4 114] 0 [4] .ret) (sr [oi 116 pE 30 4,mv 115 116] 0 [1,2,5,30,115] (cd 115 (sr [mv 117 5,mv 118 117,ov 119 (.fld 1) 2 118 0,ov 120 ld 119 118 0,ov 121 (.fld 2) 2 118 0,ov 122 ld 121 118 0,ot 123 pU [.t 122,kI 1] 118 0,ot 124 (.aj 116) [.t 120,kI 0,.t 123] 118 0,pf 125 118 124,mv 126 125,ov 127 (.fld 2) 2 126 0,ov 128 ld 127 126 0,ov 129 .mov 1 126 0,obT 130 pL 128 129 126 0,pf 131 126 130,mv 4 131] 0 [4] .ret) (sr [oi 133 pE 30 5,mv 132 133] 0 [1,2,5,132] (cd 132 (sr [mv 134 5,mv 135 134,ov 136 (.fld 1) 2 135 0,ov 137 ld 136 135 0,ov 138 .mov 1 135 0,ot 139 pU [.t 138,kI 1] 135 0,ot 140 (.aj 116) [.t 137,kI 0,.t 139] 135 0,pf 141 135 140,mv 142 141,ov 143 (.fld 2) 2 142 0,ov 144 ld 143 142 0,ot 145 (.aj 116) [.t 144,kI 2,kI 12] 142 0,pf 146 142 145,mv 4 146] 0 [4] .ret) .skip)))))))))))) (sr [mf 4 false] 0 [4] .ret)))))
def MH:aA:=(s0 [ba 1 0 0,mk 2 (.c (.nilFunc))] 1 [1] [1] (sr [oa 3 (.mkF (.func 175) 0) 1,mv 2 3] 0 [2] .ret))
def vJ:aA:=(s0 [ba 3 0 1,ag 4 1] 1 [0,3] [3] (sr [mv 9 0,oa 10 (.mkF (.func 178) 1) 9,mv 11 0,oa 12 (.mkF (.func 179) 1) 11,mv 13 0,oa 14 (.mkF (.func 180) 1) 13,mv 15 0,oa 16 (.mkF (.func 181) 1) 15,mv 17 0,oa 18 (.mkF (.func 182) 1) 17,on 19 (.build [.nilFunc,.nilFunc,.nilFunc,.nilFunc,.nilFunc] [(0,1),(1,1),(2,1),(3,1),(4,1)]) [.t 10,.t 12,.t 14,.t 16,.t 18],al 5 0 [.nilFunc,.nilFunc,.nilFunc,.nilFunc,.nilFunc],sk 5 5 19 0] 1 [3,5] (sr [ag 6 1] 0 [3,5,6] (sw (sr [fa 20 1 3,lo 21 20,oa 22 .len 21,mi 23 0] 0 [5,6,21,22,23] (lp (sr [ob 24 pL 23 22] 0 [5,6,21,22,23,24] (sw (cx 24 0) (sw (b1 (s0 [mv 25 23,ix 26 9 21 23,lw 27 9 26,al 8 0 [z0,z0,z0,z0,z0,z0,z0,z0,z0],mv 7 25,sk 9 8 27 0] 1 [5,6,7,8,21,22,23] [8] (sw (r1 [fu 28 0 8 1,lv 29 28,oi 30 pU 29 1,ob 31 (.GL 1 5) 5 30,ou 32 ld 31 2,ou 33 (.load true 9) 8 1,ob 34 .dQ 32 33,oa 35 pN 34] 0 [5,6,7,21,22,23,35] []) (cd 35 (rg [mv 36 6,mv 37 7,oa 38 (.dU 1 [z0] [0]) 37,ob 39 (.app 1 false) 36 38,mv 6 39] 0 [5,6,21,22,23]) .skip)))) (rg [oi 40 pA 23 1,mv 23 40] 0 [5,6,21,22,23])))))) (sr [mv 41 6,mv 4 41] 0 [4] .ret)))))
def Hq:aA:=(s0 [ba 2 0 0,ba 3 1 1,mf 4 false] 2 [2,3] [2,3] (sr [fa 5 0 2,lo 6 5,fa 7 1 3,lo 8 7,ob 9 pM 6 8,fa 10 0 3,lo 11 10,fa 12 1 2,lo 13 12,ob 14 pM 11 13,ob 15 pG 9 14,mv 4 15] 0 [4] .ret))
def Hr:aA:=(sr [ba 2 0 0] 1 [1,2] (sr [al 3 0 [.nilFunc]] 1 [1,2,3] (sr [on 4 (.mkF (.func 176) 0) [.t 1,.t 2,.t 3],sk 1 3 4 0] 0 [3] (rg [lo 5 3,oc 6 .dQ 5 cS] 0 []))))
def oV:aA:=(sr [mf 5 false] 0 [0,1,2,3] (sw (sr [mv 8 0,oa 9 .len 8,fa 10 0 1,lo 11 10,oa 12 .len 11,ob 13 pE 9 12] 0 [0,1,2,3,13] (cd 13 (sr [lo 14 2,mv 15 0,ob 16 .dQ 14 15,mv 5 16] 0 [5] .ret) .skip)) (s0 [fa 17 0 1,lo 18 17,mv 19 0,oa 20 .len 19,ix 21 2 18 20,lw 22 2 21,al 6 0 [z0,z0],sk 2 6 22 0] 1 [0,3,6] [6] (sw (sr [fa 23 0 6,lo 24 23,mv 7 24] 0 [0,3,6,7] (lp (sw (sr [mv 25 7,fa 26 1 6,lo 27 26,ob 28 (.bin .leq) 25 27] 0 [0,3,6,7,28] (cx 28 0)) (sw (b1 (sw (r1 [ou 31 ld 3 2,mv 32 0,ou 33 (.kZ 177) 32 1,mv 34 7,ou 35 (.dU 1 [z0] [0]) 34 1,ob 36 (.QM 1) 33 35,ob 37 .dQ 31 36,oa 38 pN 37] 0 [0,3,6,7,38] []) (cd 38 (sr [mf 5 false] 0 [5] .ret) .skip))) (rg [mv 29 7,oi 30 pA 29 1,mv 7 30] 0 [0,3,6,7]))))) (sr [mf 5 true] 0 [5] .ret)))))
def Aj:aA:=(s0 [ba 3 0 1,mf 4 false] 1 [0,3] [3] (sw (r1 [fu 5 2 3 1,lv 6 5,on 7 pM [kI 360,.t 6],fu 8 3 3 1,lv 9 8,mv 10 0,fu 11 1 3 1,lv 12 11,ob1 13 (.bH 1) 10 12 1,lv 14 13,ob 15 pM 9 14,fu 16 4 3 1,lv 17 16,mv 18 0,fu 19 1 3 1,lv 20 19,ob1 21 (.bH 1) 18 20 1,lv 22 21,ob 23 pM 17 22,on 24 (.aj 116) [.t 7,.t 15,.t 23],mv 4 24] 0 [4] []) .ret))
def Ak:aA:=(s0 [ba 3 0 1,mf 4 false] 1 [0,3] [3] (sw (r1 [mv 5 0,fu 6 1 3 1,lv 7 6,on 8 pM [kI 2,.t 7],ob1 9 (.bH 1) 5 8 1,lv 10 9,mv 11 0,fu 12 1 3 1,lv 13 12,on 14 pM [kI 2,.t 13],oi 15 pA 14 1,ob1 16 (.bH 1) 11 15 1,lv 17 16,ob 18 pA 10 17,fu 19 3 3 1,lv 20 19,fu 21 4 3 1,lv 22 21,on 23 (.aj 116) [.t 18,.t 20,.t 22],mv 4 23] 0 [4] []) .ret))
def xB:aA:=(s0 [ba 3 0 1,mf 4 false] 1 [0,3] [3] (sw (r1 [mv 6 0,fu 7 1 3 1,lv 8 7,fu 9 2 3 1,lv 10 9,on 11 (.aj 251) [.t 6,.t 8,.t 10,kI 0],oa 12 (.aj 250) 11,mv 13 0,fu 14 1 3 1,lv 15 14,fu 16 2 3 1,lv 17 16,on 18 (.aj 251) [.t 13,.t 15,.t 17,kI 1],oa 19 (.aj 250) 18,ob 20 (.build [z0,z0] [(0,1),(1,1)]) 12 19,al 5 0 [z0,z0],sk 2 5 20 4] 1 [3,5] [5]) (sr [fa 21 5 3,lw 22 2 21,lw 23 2 5,ob 24 (.aj 174) 22 23,oa 25 pN 24,mv 26 25,ov 27 (.load true 2) 5 26 0,ov 28 (.fld 7) 3 26 0,ov 29 (.load true 2) 28 26 0,obT 30 (.aj 174) 27 29 26 0,ov 31 pN 30 26 0,pf 32 26 31,mv 4 32] 0 [4] .ret)))
def yQ:aA:=(s0 [ba 3 0 1,mf 4 false] 1 [0,3] [3] (sw (r1 [mv 5 0,fu 6 1 3 1,lv 7 6,ob1 8 (.bH 1) 5 7 1,lv 9 8,mv 10 0,fu 11 2 3 1,lv 12 11,ob1 13 (.bH 1) 10 12 1,lv 14 13,ob 15 pE 9 14,mv 4 15] 0 [4] []) .ret))
def yP:aA:=(s0 [ba 3 0 1,mf 4 false] 1 [0,3] [3] (sw (r1 [mv 5 0,fu 6 1 3 1,lv 7 6,ob1 8 (.bH 1) 5 7 1,lv 9 8,fu 10 2 3 1,lv 11 10,ob 12 (.bin .rem) 9 11,oi 13 pE 12 0,mv 4 13] 0 [4] []) .ret))
def vK:aA:=(sr [ag 8 1] 0 [0,1,2,3] (sr [ag 9 1] 0 [0,1,2,3,9] (sw (sr [mv 11 1,mv 10 11] 0 [0,2,3,9,10] (lp (sw (sr [mv 12 10,mv 13 2,ob 14 (.bin .leq) 12 13] 0 [0,2,3,9,10,14] (cx 14 0)) (sw (b1 (rg [mv 17 9,mv 18 0,mv 19 10,on 20 pM [kI 2,.t 19],mv 21 3,ob 22 pA 20 21,ix 23 1 18 22,lo 24 23,oa 25 (.dU 1 [z0] [0]) 24,ob 26 (.app 1 false) 17 25,mv 9 26] 0 [0,2,3,9,10])) (rg [mv 15 10,oi 16 pA 15 1,mv 10 16] 0 [0,2,3,9,10]))))) (sr [mv 27 9,mv 8 27] 0 [8] .ret))))
def BR:aA:=(s0 [ba 1 0 0,mf 2 false] 1 [1] [1] (sw (sr [fa 6 0 1,lo 7 6,oa 8 .len 7,oi 9 pQ 8 2,mv 10 9,ov 11 (.fld 0) 1 10 0,ov 12 ld 11 10 0,ov 13 .len 12 10 0,ot 14 pQ [.t 13,kI 4] 10 0,pf 15 10 14,mv 16 15,ov 17 (.fld 0) 1 16 0,ov 18 ld 17 16 0,ov 19 .len 18 16 0,ot 20 pQ [.t 19,kI 6] 16 0,pf 21 16 20,mv 22 21,ow 23 (.fld 1) 1 22 0,lq 24 23 22,ow 25 .len 24 22 0,oF 26 pG [.t 25,kI 8] 22 0,pt 27 22 26] 0 [1,27] (cd 27 (sr [mf 2 false] 0 [2] .ret) .skip)) (sw (sr [mi 3 0] 0 [1,3] (lp (sw (sr [mv 28 3,fa 29 0 1,lo 30 29,oa 31 .len 30,ob 32 pL 28 31] 0 [1,3,32] (cx 32 0)) (sw (b1 (s0 [fa 35 0 1,lo 36 35,mv 37 3,ix 38 2 36 37,lw 39 2 38,al 4 0 [z0,z0],sk 2 4 39 0] 1 [1,3,4] [4] (sr [fa 40 0 4,lo 41 40,oa 42 (.aj 47) 41,oa 43 pN 42,mv 44 43,ow 45 (.fld 1) 4 44 0,lq 46 45 44,ow 47 (.aj 47) 46 44 0,ow 48 pN 47 44 0,pt 49 44 48,mv 50 49,ow 51 (.fld 1) 4 50 0,lq 52 51 50,ow 53 (.fld 0) 4 50 0,lq 54 53 50,obF 55 pL 52 54 50 0,pt 56 50 55,mv 57 56,ow 58 (.fld 1) 4 57 0,lq 59 58 57,ow 60 (.fld 0) 4 57 0,lq 61 60 57,obF 62 pU 59 61 57 0,oF 63 pG [.t 62,kI 5] 57 0,pt 64 57 63] 0 [1,3,64] (cd 64 (sr [mf 2 false] 0 [2] .ret) .skip)))) (rg [mv 33 3,oi 34 pA 33 1,mv 3 34] 0 [1,3]))))) (sw (sr [mi 5 0] 0 [1,5] (.block 2 (.loop (sw (sr [mv 65 5,fa 66 1 1,lo 67 66,oa 68 .len 67,ob 69 pL 65 68] 0 [1,5,69] (cx 69 2)) (sw (.block 3 (sw (r1 [ou 72 (.load true 2) 1 1,fu 73 1 1 1,lv 74 73,mv 75 5,ob1 76 (.bH 9) 74 75 1,ou 77 (.load true 9) 76 1,ob 78 (.aj 48) 72 77,oa 79 pN 78] 0 [1,5,79] []) (cd 79 (sr [mf 2 false] 0 [2] .ret) .skip))) (rg [mv 70 5,oi 71 pA 70 1,mv 5 71] 0 [1,5])))))) (sr [mf 2 true] 0 [2] .ret)))))
def SS:aA:=(s0 [ba 2 0 0,mf 4 false] 1 [1,2] [2] (sw (sr [mv 7 1,oa 8 .len 7,on 9 pM [kI 2,.t 8],fa 10 0 2,lo 11 10,oa 12 .len 11,ob 13 pQ 9 12] 0 [1,2,13] (cd 13 (sr [mf 4 false] 0 [4] .ret) .skip)) (sr [mv 14 1,oa 15 (.aj 61) 14,mv 5 15] 0 [2,5] (sw (sr [mi 6 0] 0 [2,5,6] (lp (sw (sr [mv 16 6,mv 17 5,oa 18 .len 17,ob 19 pL 16 18] 0 [2,5,6,19] (cx 19 0)) (sw (b1 (sw (r1 [mv 22 5,mv 23 6,ob1 24 (.bH 1) 22 23 1,lv 25 24,fu 26 0 2 1,lv 27 26,mv 28 6,ob1 29 (.bH 2) 27 28 1,fu 30 0 29 1,lv 31 30,fu 32 0 2 1,lv 33 32,mv 34 6,ob1 35 (.bH 2) 33 34 1,fu 36 1 35 1,lv 37 36,on 38 (.aj 62) [.t 25,.t 31,.t 37],oa 39 pN 38] 0 [2,5,6,39] []) (cd 39 (sr [mf 4 false] 0 [4] .ret) .skip))) (rg [mv 20 6,oi 21 pA 20 1,mv 6 21] 0 [2,5,6]))))) (sr [mf 4 true] 0 [4] .ret)))))
def Hw:aA:=(sr [ag 2 2] 0 [0] (sr [mv 6 0,on 7 (.app 2 true) [cS,.t 6],mv 3 7] 0 [3] (sw (sr [mi 4 0] 0 [3,4] (lp (sw (sr [mv 8 4,mv 9 3,oa 10 .len 9,ob 11 pL 8 10] 0 [3,4,11] (cx 11 0)) (sw (b1 (sr [mv 14 4,mv 5 14] 0 [3,4,5] (.block 2 (.loop (sw (sw (r1 [mv 15 5,oi 16 pG 15 0,mv 17 16,ov 18 .mov 3 17 0,ov 19 .mov 5 17 0,obT 20 (.bH 2) 18 19 17 0,ov 21 (.load true 2) 20 17 3,ov 22 .mov 3 17 0,ov 23 .mov 5 17 0,ot 24 pU [.t 23,kI 1] 17 0,obT 25 (.bH 2) 22 24 17 0,ov 26 (.load true 2) 25 17 3,obT 27 (.aj 74) 21 26 17 0,pf 28 17 27] 0 [3,4,5,28] []) (cx 28 2)) (sw (.block 3 (r1 [mv 31 3,mv 32 5,mv 33 3,mv 34 5,oi 35 pU 34 1,mv 36 3,mv 37 5,oi 38 pU 37 1,ix 39 2 36 38,ou 40 (.load true 2) 39 3,mv 41 3,mv 42 5,ix 43 2 41 42,ou 44 (.load true 2) 43 3,ix 45 2 31 32,sk 2 45 40 3,ix 46 2 33 35,sk 2 46 44 3] 0 [3,4,5] [])) (rg [mv 29 5,oi 30 pU 29 1,mv 5 30] 0 [3,4,5]))))))) (rg [mv 12 4,oi 13 pA 12 1,mv 4 13] 0 [3,4]))))) (sr [mv 47 3,mv 2 47] 0 [2] .ret))))
def PK:aA:=(s0 [ba 2 0 0,ba 3 1 1,mf 4 false] 2 [2,3] [2,3] (s0 [on 7 (.build [z0,z0] []) [],al 5 0 [z0,z0],sk 2 5 7 0] 1 [2,3,5] [5] (sw (sr [fa 8 0 3,lo 9 8,oi 10 pQ 9 3,mv 11 10,ov 12 (.fld 5) 3 11 0,ov 13 (.load true 2) 12 11 0,ov 14 (.load true 2) 5 11 0,obT 15 (.CZ true [1,1]) 13 14 11 0,ov 16 .mov 15 11 0,ow 17 (.fld 7) 3 16 0,ow 18 (.load true 2) 17 16 0,ow 19 (.load true 2) 5 16 0,obF 20 (.CZ true [1,1]) 18 19 16 0,ot 21 .pick [.t 16,.c (.bool true),.t 20] 11 0,pf 22 11 21] 0 [2,3,22] (cd 22 (sr [mf 4 false] 0 [4] .ret) .skip)) (sr [fa 23 3 3,lo 24 23,oi 25 pE 24 0,mv 26 25,ov 27 (.fld 4) 3 26 0,ov 28 ld 27 26 0,ot 29 pE [.t 28,kI 0] 26 0,pf 30 26 29,mv 6 30] 0 [2,3,6] (sw (sr [fa 31 0 3,lo 32 31] 0 [2,3,6,32] (.block 0 (sr [oi 34 pE 32 1,mv 33 34] 0 [2,3,6,32,33] (cd 33 (sr [lw 35 2 2,fa 36 1 3,lo 37 36,ob 38 (.aj 113) 35 37,mv 39 38,ov 40 (.fld 2) 3 39 0,ov 41 ld 40 39 0,ot 42 (.aj 62) [.t 41,kI 1,kI 60] 39 0,pf 43 39 42,mv 44 43,ov 45 (.fld 3) 3 44 0,ov 46 ld 45 44 0,ot 47 (.bin .geq) [.t 46,kI 1] 44 0,pf 48 44 47,mv 49 48,ov 50 (.fld 3) 3 49 0,ov 51 ld 50 49 0,ov 52 (.fld 4) 3 49 0,ov 53 ld 52 49 0,obT 54 (.bin .leq) 51 53 49 0,pf 55 49 54,mv 56 55,ov 57 (.fld 4) 3 56 0,ov 58 ld 57 56 0,ot 59 (.bin .leq) [.t 58,kI 360] 56 0,pf 60 56 59,mv 4 60] 0 [4] .ret) (sr [oi 62 pE 32 2,mv 61 62] 0 [2,3,6,32,61] (cd 61 (sr [lw 63 2 2,fa 64 1 3,lo 65 64,ob 66 (.aj 114) 63 65,mv 67 66,ov 68 (.fld 2) 3 67 0,ov 69 ld 68 67 0,ot 70 pE [.t 69,kI 0] 67 0,pf 71 67 70,mv 72 71,ov 73 (.fld 3) 3 72 0,ov 74 ld 73 72 0,ot 75 (.bin .geq) [.t 74,kI 1] 72 0,pf 76 72 75,mv 77 76,ov 78 (.fld 3) 3 77 0,ov 79 ld 78 77 0,ov 80 (.fld 4) 3 77 0,ov 81 ld 80 77 0,obT 82 (.bin .leq) 79 81 77 0,pf 83 77 82,mv 84 83,ov 85 (.fld 4) 3 84 0,ov 86 ld 85 84 0,ot 87 (.bin .leq) [.t 86,kI 120] 84 0,pf 88 84 87,mv 4 88] 0 [4] .ret) (sr [oi 90 pE 32 3,mv 89 90] 0 [2,3,6,32,89] (cd 89 (sr [lw 91 2 2,fa 92 1 3,lo 93 92,ob 94 (.aj 114) 91 93,mv 95 94,ov 96 (.load true 2) 2 95 0,ov 97 (.fld 2) 3 95 0,ov 98 ld 97 95 0,obT 99 (.aj 114) 96 98 95 0,pf 100 95 99,mv 101 100,ov 102 (.fld 1) 3 101 0,ov 103 ld 102 101 0,ov 104 (.fld 2) 3 101 0,ov 105 ld 104 101 0,obT 106 (.bin .leq) 103 105 101 0,pf 107 101 106,mv 108 107,ov 109 .mov 6 108 0,pf 110 108 109,mv 111 110,ov 112 (.fld 5) 3 111 0,ov 113 (.load true 2) 112 111 0,ov 114 (.aj 19) 113 111 0,pf 115 111 114,mv 116 115,ov 117 (.fld 7) 3 116 0,ov 118 (.load true 2) 117 116 0,ov 119 (.aj 19) 118 116 0,pf 120 116 119,mv 121 120,ov 122 (.fld 7) 3 121 0,ov 123 (.load true 2) 122 121 0,ov 124 (.fld 5) 3 121 0,ov 125 (.load true 2) 124 121 0,obT 126 (.aj 115) 123 125 121 0,ov 127 pN 126 121 0,pf 128 121 127,mv 4 128] 0 [4] .ret) (sr [oi 130 pE 32 4,mv 129 130] 0 [2,3,6,32,129] (cd 129 (sr [lw 131 2 2,fa 132 1 3,lo 133 132,ob 134 (.aj 113) 131 133,mv 135 134,ov 136 (.load true 2) 2 135 0,ov 137 (.fld 2) 3 135 0,ov 138 ld 137 135 0,obT 139 (.aj 113) 136 138 135 0,pf 140 135 139,mv 141 140,ov 142 (.fld 1) 3 141 0,ov 143 ld 142 141 0,ov 144 (.fld 2) 3 141 0,ov 145 ld 144 141 0,obT 146 pL 143 145 141 0,pf 147 141 146,mv 148 147,ov 149 .mov 6 148 0,pf 150 148 149,mv 4 150] 0 [4] .ret) (sr [oi 152 pE 32 5,mv 151 152] 0 [2,3,6,151] (cd 151 (sr [lw 153 2 2,fa 154 1 3,lo 155 154,ob 156 (.aj 113) 153 155,mv 157 156,ov 158 (.fld 2) 3 157 0,ov 159 ld 158 157 0,ot 160 (.aj 62) [.t 159,kI 2,kI 12] 157 0,pf 161 157 160,mv 162 161,ov 163 .mov 6 162 0,pf 164 162 163,mv 4 164] 0 [4] .ret) .skip)))))))))))) (sr [mf 4 false] 0 [4] .ret))))))
def MO:aA:=(sr [ag 2 1] 0 [0] (sr [ag 3 1] 0 [0,3] (sw (sr [mi 4 0] 0 [0,3,4] (lp (sw (sr [mv 5 4,mv 6 0,oa 7 .len 6,ob 8 pL 5 7] 0 [0,3,4,8] (cx 8 0)) (sw (b1 (r1 [mv 11 3,mv 12 0,mv 13 4,ob1 14 (.bH 2) 12 13 1,fu 15 0 14 1,lv 16 15,mv 17 0,mv 18 4,ob1 19 (.bH 2) 17 18 1,fu 20 1 19 1,lv 21 20,ob1 22 (.dU 1 [z0,z0] [0,1]) 16 21 1,ob 23 (.app 1 false) 11 22,mv 3 23] 0 [0,3,4] [])) (rg [mv 9 4,oi 10 pA 9 1,mv 4 10] 0 [0,3,4]))))) (sr [mv 24 3,mv 2 24] 0 [2] .ret))))
def MP:aA:=(s0 [ba 2 0 0,mf 4 false] 1 [1,2] [2] (sr [mv 5 1,fa 6 0 2,lo 7 6,oa 8 .len 7,oi 9 pU 8 1,on 10 (.aj 62) [.t 5,kI 0,.t 9],mv 4 10] 0 [4] .ret))
def PL:aA:=(s0 [ba 2 0 0,mf 4 false] 1 [1,2] [2] (sr [mv 5 1,fa 6 0 2,lo 7 6,oa 8 .len 7,oi 9 (.bin .quo) 8 2,oi 10 pU 9 1,on 11 (.aj 62) [.t 5,kI 0,.t 10],mv 4 11] 0 [4] .ret))
def FT:aA:=(s0 [ba 1 0 0,mf 2 false] 1 [1] [1] (sr [fa 3 0 1,lo 4 3,on 5 (.aj 49) [.t 4,kI 0,kI 50000],mv 6 5,ov 7 (.fld 1) 1 6 0,ov 8 ld 7 6 0,ot 9 (.aj 49) [.t 8,kI 1,kI 50000] 6 0,pf 10 6 9,mv 2 10] 0 [2] .ret))
def MN:aA:=(sr [mf 2 false] 0 [0] (sw (sr [mi 3 0] 0 [0,3] (lp (sw (sr [mv 4 3,mv 5 0,oa 6 .len 5,ob 7 pL 4 6] 0 [0,3,7] (cx 7 0)) (sw (b1 (sr [mv 10 0,mv 11 3,ix 12 2 10 11,fa 13 0 12,lo 14 13,oa 15 (.aj 47) 14,oa 16 pN 15,mv 17 16,ow 18 .mov 0 17 0,ow 19 .mov 3 17 0,obF 20 (.bH 2) 18 19 17 0,ow 21 (.fld 1) 20 17 0,lq 22 21 17,ow 23 (.aj 47) 22 17 0,ow 24 pN 23 17 0,pt 25 17 24] 0 [0,3,25] (cd 25 (sr [mf 2 false] 0 [2] .ret) .skip))) (rg [mv 8 3,oi 9 pA 8 1,mv 3 9] 0 [0,3]))))) (sr [mv 26 0,oa 27 .len 26,on 28 (.aj 49) [.t 27,kI 1,kI 3],mv 2 28] 0 [2] .ret)))
def ML:aA:=(sr [mf 2 false] 0 [0] (sr [mv 3 0,on 4 (.aj 49) [.t 3,kI 4,kI 60],mv 2 4] 0 [2] .ret))
def wV:aA:=(s0 [ba 2 0 0,ba 3 1 1,mf 4 false] 2 [2,3] [2,3] (sr [fa 5 0 2,lo 6 5,fa 7 0 3,lo 8 7,ob 9 pL 6 8,mv 10 9,ow 11 (.fld 0) 2 10 0,lq 12 11 10,ow 13 (.fld 0) 3 10 0,lq 14 13 10,obF 15 pE 12 14 10 0,ow 16 .mov 15 10 0,ov 17 (.fld 1) 2 16 0,ov 18 ld 17 16 0,ov 19 (.fld 1) 3 16 0,ov 20 ld 19 16 0,obT 21 pL 18 20 16 0,oF 22 .pick [.t 16,.t 21,.c (.bool false)] 10 0,pt 23 10 22,mv 4 23] 0 [4] .ret))
def MK:aA:=(s0 [ba 2 0 0,ba 3 1 1,mf 4 false] 2 [2,3] [2,3] (sr [fa 5 0 2,lo 6 5,fa 7 1 3,lo 8 7,ob 9 pM 6 8,fa 10 0 3,lo 11 10,fa 12 1 2,lo 13 12,ob 14 pM 11 13,ob 15 pL 9 14,mv 4 15] 0 [4] .ret))
def YS (n l h:Int):Pure C 116 [dI n,dI l,dI h] (.d (.bool (inR n l h))) []:=CW n l h
def acF (n l h:Int):Pure C 49 [dI n,dI l,dI h] (.d (.bool (inR n l h))) []:=CW n l h
def Xr (n l h:Int):Pure C 62 [dI n,dI l,dI h] (.d (.bool (inR n l h))) []:=CW n l h
def ahQ (n:Int):Pure C 119 [dI n] (.d (.bool (aT n))) []:=by
 refine ah Dz aI ?_;simp only[Dz,aI,RN,E]
 repeat' first
  |(refine ak (YS _ _ _) ?_;try simp only[RN,E,H,I,J,N,O])
  |(refine aJ (by rfl) (fun a=> ?_) (fun a=> ?_)<;>simp only[a,RN,E,H,I,J,N,O])
  |(refine aK (by rfl) (fun a=> ?_) (fun a=> ?_)<;>simp only[a,RN,E,H,I,J,N,O])
 all_goals(first|(simp only[aT, *,BSN];done)|(simp_all[aT];done)|(simp_all[aT];omega))
def TB (n:Int):Pure C 47 [dI n] (.d (.bool (aT n))) []:=by
 refine ah ML aI ?_;simp only[ML,aI,RN,E]
 repeat' first
  |(refine ak (acF _ _ _) ?_;try simp only[RN,E,H,I,J,N,O])
  |(refine aJ (by rfl) (fun a=> ?_) (fun a=> ?_)<;>simp only[a,RN,E,H,I,J,N,O])
  |(refine aK (by rfl) (fun a=> ?_) (fun a=> ?_)<;>simp only[a,RN,E,H,I,J,N,O])
 all_goals(first|(simp only[aT, *,BSN];done)|(simp_all[aT];done)|(simp_all[aT];omega))
def Qr (f:Fr):Pure C 57 [f.dv] (.d (.bool f.ok)) []:=by
 refine ah yO aI ?_;simp only[yO,aI,aS,RN,E,H,O]
 repeat' first
  |(refine ak (YS _ _ _) ?_;try simp only[aS,RN,E,H,I,J,N,O])
  |(refine aJ (by rfl) (fun a=> ?_) (fun a=> ?_)<;>simp only[a,RN,E,H,O])
  |(refine aK (by rfl) (fun a=> ?_) (fun a=> ?_)<;>simp only[a,aS,RN,E,H,I,J,N,O])
 all_goals(first|(simp only[Fr.ok, *,BSN];done)|(simp_all[Fr.ok];done)|(simp_all[Fr.ok];omega))
def Xq (f:Fr):Pure C 19 [f.dv] (.d (.bool f.ok)) []:=by
 refine ah FT aI ?_;simp only[FT,aI,aS,RN,E,H,O]
 repeat' first
  |(refine ak (acF _ _ _) ?_;try simp only[aS,RN,E,H,I,J,N,O])
  |(refine aJ (by rfl) (fun a=> ?_) (fun a=> ?_)<;>simp only[a,RN,E,H,O])
  |(refine aK (by rfl) (fun a=> ?_) (fun a=> ?_)<;>simp only[a,aS,RN,E,H,I,J,N,O])
 all_goals(first|(simp only[Fr.ok, *,BSN];done)|(simp_all[Fr.ok];done)|(simp_all[Fr.ok];omega))
def RH (a b:Fr)(h1:0<=a.n*b.d/\a.n*b.d<=4000000000000000000)(h2:0<=b.n*a.d/\b.n*a.d<=4000000000000000000):Pure C 174 [a.dv,b.dv] (.d (.bool (decide (a.n*b.d>b.n*a.d)))) []:=by
 have e1:cC .i64 (a.n*b.d)=a.n*b.d:=aF (by omega);have e2:cC .i64 (b.n*a.d)=b.n*a.d:=aF (by omega);refine ah Hq aH ?_;simp only[Hq,aH,aS,e1,e2,RN,E,H,O]
def ai0 (a b:Fr)(h1:0<=a.n*b.d/\a.n*b.d<=4000000000000000000)(h2:0<=b.n*a.d/\b.n*a.d<=4000000000000000000):Pure C 115 [a.dv,b.dv] (.d (.bool (decide (a.n*b.d<b.n*a.d)))) []:=by
 have e1:cC .i64 (a.n*b.d)=a.n*b.d:=aF (by omega);have e2:cC .i64 (b.n*a.d)=b.n*a.d:=aF (by omega);refine ah MK aH ?_;simp only[MK,aH,aS,e1,e2,RN,E,H,O]
structure Nt where
 k:Int
 a:Int
 b:Int
 lo:Int
 hi:Int
 le:Fr
 mo:Fr
 deriving Inhabited
def Nt.cs (n:Nt):List DV:=[dI n.k,dI n.a,dI n.b,dI n.lo,dI n.hi,dI n.le.n,dI n.le.d,dI n.mo.n,dI n.mo.d]
def Nt.dv (n:Nt):DV:= .agg [dI n.k,dI n.a,dI n.b,dI n.lo,dI n.hi,dI n.le.n,dI n.le.d,dI n.mo.n,dI n.mo.d]
def uf {n:Nt}:n.dv= .agg [dI n.k,dI n.a,dI n.b,dI n.lo,dI n.hi,dI n.le.n,dI n.le.d,dI n.mo.n,dI n.mo.d]:=by rw[Nt.dv]
structure Fi where
 ws:List Pr
 ns:List Nt
def Fi.dv (f:Fi):DV:= .agg [sF (f.ws.map Pr.dv),sF (f.ns.map Nt.dv)]
def jo {f:Fi}:f.dv= .agg [sF (f.ws.map Pr.dv),sF (f.ns.map Nt.dv)]:=by rw[Fi.dv]
def yB (m:Nat)(n:Nt):Bool:=
 if(n.k !=3)=true/\((((n.le.n==0)&&(n.le.d==0)) !=true)=true\/(((n.mo.n==0)&&(n.mo.d==0)) !=true)=true)then false
 else if(n.k==1)=true then inR n.a 0 (m - 1:Int)&&(inR n.b 1 60&&(decide (n.lo>=1)&&(decide (n.lo<=n.hi)&&decide (n.hi<=360))))
 else if(n.k==2)=true then inR n.a 0 ((m / 2:Nat) - 1:Int)&&((n.b==0)&&(decide (n.lo>=1)&&(decide (n.lo<=n.hi)&&decide (n.hi<=120))))
 else if(n.k==3)=true then inR n.a 0 ((m / 2:Nat) - 1:Int)&&(inR n.b 0 ((m / 2:Nat) - 1:Int)&&(decide (n.a<=n.b)&&((n.lo==0)&&((n.hi==0)&&(n.le.ok&&(n.mo.ok&& !decide (n.mo.n*n.le.d<n.le.n*n.mo.d)))))))
 else if(n.k==4)=true then inR n.a 0 (m - 1:Int)&&(inR n.b 0 (m - 1:Int)&&(decide (n.a<n.b)&&((n.lo==0)&&(n.hi==0))))
 else if(n.k==5)=true then inR n.a 0 (m - 1:Int)&&(inR n.b 2 12&&((n.lo==0)&&(n.hi==0)))
 else false
variable{m:Nat}
def WG (h:m<=1000000):cC .i64 ((m:Int).tdiv 2)=((m / 2:Nat):Int):=by
 rw[show(m:Int).tdiv 2=((m / 2:Nat):Int) from(Int.ofNat_tdiv m 2).symm,aF (by omega)]
def ajv (f:Fi)(n:Int)(a:f.ws.length<=1000000):Pure C 113 [f.dv,dI n] (.d (.bool (inR n 0 (f.ws.length - 1:Int)))) []:=by
 have e1:cC .i64 ((f.ws.length:Int) - 1)=(f.ws.length:Int) - 1:=aF (by omega);refine ah MP aH ?_;simp only[MP,aH,jo,U,e1,RN,E,H,O];exact ak (Xr _ _ _) rfl
def al6 (f:Fi)(n:Int)(b:f.ws.length<=1000000):Pure C 114 [f.dv,dI n] (.d (.bool (inR n 0 ((f.ws.length / 2:Nat) - 1:Int)))) []:=by
 have a:=WG b;have e1:cC .i64 (((f.ws.length / 2:Nat):Int) - 1)=((f.ws.length / 2:Nat):Int) - 1:=aF (by omega);have e2:(2:Int)≠0:=by decide
 refine ah PL aH ?_;simp only[PL,aH,jo,U,a,e1,e2,RN,E,H,O];exact ak (Xr _ _ _) rfl
def LH {b:Fr}(e:a.ok=true)(hb:b.ok=true):0<=a.n*b.d/\a.n*b.d<=4000000000000000000:=by
 obtain⟨c,f⟩:=IL e;obtain⟨b1,b2⟩:=IL hb;have e1:=az c.2 b2.2 (by omega) (by omega);have e2:=aR c.1 (show 0<=b.d by omega);omega
def alT (f:Fi)(n:Nt)(c:f.ws.length<=1000000):Pure C 48 [f.dv,n.dv] (.d (.bool (yB f.ws.length n))) []:=by
 have g:=fun n=>ajv f n c
 have e:=fun n=>al6 f n c
 have f1:=Xq n.le;have f2:=Xq n.mo;rw[jo]at g e;have b:=fun(h1:n.le.ok=true) (h2:n.mo.ok=true)=>ai0 n.mo n.le (LH h2 h1) (LH h1 h2)
 simp only[aS]at f1 f2 b;refine ah PK aH ?_;simp only[PK,aH,jo,uf,RN,E,H,J,O]
 repeat' first
  |(refine ak (g _) ?_;try simp only[iD,RN,E,H,I,J,N,O])
  |(refine ak (e _) ?_;try simp only[iD,RN,E,H,I,J,N,O])
  |(refine ak (Xr _ _ _) ?_;try simp only[iD,RN,E,H,I,J,N,O])
  |(refine ak (f1) ?_;try simp only[iD,RN,E,H,I,J,N,O])
  |(refine ak (f2) ?_;try simp only[iD,RN,E,H,I,J,N,O])
  |(refine cO rfl rfl (b (by assumption) (by assumption)) ?_;try simp only[RN])
  |(refine aJ (by rfl) (fun a=> ?_) (fun a=> ?_)<;>simp only[a,iD,RN,E,H,O])
  |(refine aK (by rfl) (fun a=> ?_) (fun a=> ?_)<;>simp only[a,RN,E,H,O])
 all_goals try(simp only[yB, *,br,bE,b8,bA,if_true,if_false,cf,or_true,true_or,and_false,false_and,and_self,or_self];done)
def wOk (w:Pr):Bool:=aT w.a&&aT w.b&&decide (w.a<=w.b)&&decide (w.b - w.a<=5)
def yt (f:Fi):Bool:=(decide (f.ws.length=2)||decide (f.ws.length=4)||decide (f.ws.length=6))&&decide (f.ns.length<=8)&&f.ws.all wOk&&f.ns.all (yB f.ws.length)
def Ir {n:Int}:aT n=true↔4<=n/\n<=60:=by simp[aT,inR]
def alS (f:Fi)(P:f.ws.length<=8)(s:f.ns.length<=11):Pure C 18 [f.dv] (.d (.bool (yt f))) []:=by
 have amE:=fun n=>alT f n (by omega)
 rw[jo]at amE;refine ah BR aI ?_
 by_cases N:f.ws.length=2\/f.ws.length=4\/f.ws.length=6
 case neg=>
  have n2:(((f.ws.length:Nat):Int) !=2)=true:=by simp;omega
  have t:(((f.ws.length:Nat):Int) !=4)=true:=by simp;omega
  have u:(((f.ws.length:Nat):Int) !=6)=true:=by simp;omega
  simp only[BR,aI,jo,U,n2,t,u,RN,E,H,O];rw[yt,show(decide (f.ws.length=2)||decide (f.ws.length=4)||decide (f.ws.length=6))=false by simp;omega]
  rfl
 have B:(decide (f.ws.length=2)||decide (f.ws.length=4)||decide (f.ws.length=6))=true:=by simp;omega
 have r:∃b2 q x:Bool,(((f.ws.length:Nat):Int) !=2)=b2/\(((f.ws.length:Nat):Int) !=4)=q/\(((f.ws.length:Nat):Int) !=6)=x/\(b2=false\/(b2=true/\q=false)\/(b2=true/\q=true/\x=false)):=by
  refine⟨_,_,_,rfl,rfl,rfl,?_⟩;simp only[bne_eq_false_iff_eq,bne_iff_ne];omega
 obtain⟨b2,q,x,n2,t,u,r⟩:=r
 by_cases K:f.ns.length<=8
 case neg=>
  have I:((f.ns.length:Nat):Int)>8:=by omega
  have:yt f=false:=by rw[yt,decide_eq_false K,b8];rfl
  rcases r with rfl|⟨rfl,rfl⟩|⟨rfl,rfl,rfl⟩<;>simp only[BR,aI,jo,U,n2,t,u,I,this,RN,E,H,O]
 have I:¬((f.ns.length:Nat):Int)>8:=by omega
 have g:yt f=(f.ws.all wOk&&f.ns.all (yB f.ws.length)):=by rw[yt,B,decide_eq_true K,br,bE]
 rcases r with rfl|⟨rfl,rfl⟩|⟨rfl,rfl,rfl⟩
 all_goals
  simp only[BR,aI,jo,U,n2,t,u,I,RN,E,H,O];refine aG f.ws.length (fun i (_:Unit)=>⟨[(1, .d (.aP [sF (f.ws.map Pr.dv),sF (f.ns.map Nt.dv)])),(3,pI i)],⟨[some [.d (sF (f.ws.map Pr.dv)), .d (sF (f.ns.map Nt.dv))]],[0],[]⟩⟩)
   (fun i _=>∀w∈f.ws.take i,wOk w=true) 0 () (an _) rfl (fun _ h=>by simp at h) (fun i _ e j=> ?_) (fun _ j=> ?_)
  ·obtain⟨y,z,A⟩:=rng e (by omega)
   obtain⟨w,G⟩:∃w,w=f.ws.getD i default:=⟨_,rfl⟩
   have c:wOk w=false->yt f=false:=fun h=>by
    have:f.ws.all wOk=false:=by
     rw[cj];exact⟨w,by rw[G];exact getD_mem e,by rw[h];decide⟩
    rw[g,this,bA]
   simp only[y,z,e,getD_map,Y,U,dW,<-G,RN,E,H,J,O];refine ak (TB _) ?_;cases D:aT w.a
   ·simp only[c (by simp[wOk,D]),RN,E,H,]
   have L:=Ir.1 D;(try simp only[RN,E,H,O]);refine ak (TB _) ?_;cases m:aT w.b
   ·simp only[c (by simp[wOk,m]),RN,E,H,]
   have M:=Ir.1 m;have e1:cC .i64 (w.b - w.a)=w.b - w.a:=aF (by omega)
   by_cases F:w.b<w.a
   ·have:=c (by simp[wOk];omega)
    simp only[F,this,RN,E,H,O]
   by_cases hd:w.b - w.a>5
   ·have:=c (by simp[wOk];omega)
    simp only[F,e1,hd,this,RN,E,H,O]
   simp only[F,e1,hd,A,RN,E,H,O];refine bQ 1 0 () e rfl (fun v l=> ?_) (by simp) (by simp) rfl rfl;rw[bf e,aD,ae,<-G]at l
   rcases l with l|rfl
   ·exact j v l
   ·simp only[wOk,D,m,bE,ab,decide_eq_true_eq];omega
  ·rw[a8]at j
   have o:f.ws.all wOk=true:=by rw[bq];exact j
   rw[o,bE]at g;simp only[ao,U,RN,E,H,O];refine aG f.ns.length (fun i (_:Unit)=>⟨[(1, .d (.aP [sF (f.ws.map Pr.dv),sF (f.ns.map Nt.dv)])),(5,pI i)],⟨[some [.d (sF (f.ws.map Pr.dv)), .d (sF (f.ns.map Nt.dv))]],[0],[]⟩⟩)
    (fun i _=>∀n∈f.ns.take i,yB f.ws.length n=true) 0 () (an _) rfl (fun _ h=>by simp at h) (fun i _ e k=> ?_) (fun _ k=> ?_)
   ·obtain⟨y,z,A⟩:=rng e (by omega)
    obtain⟨n,s⟩:∃n,n=f.ns.getD i default:=⟨_,rfl⟩
    have p:=amE n;rw[uf]at p;simp only[y,z,e,getD_map,Y,U,uf,<-s,RN,E,H,O];refine ak p ?_;cases m:yB f.ws.length n
    ·have:yt f=false:=by
      rw[g,cj];exact⟨n,by rw[s];exact getD_mem e,by rw[m];decide⟩
     simp only[this,RN,E]
    simp only[A,RN,E];refine bQ 1 0 () e rfl (fun v l=> ?_) (by simp) (by simp) rfl rfl;rw[bf e,aD,ae,<-s]at l
    rcases l with l|rfl
    ·exact k v l
    ·exact m
   ·rw[a8]at k
    have:yt f=true:=by rw[g,bq];exact k
    simp only[ao,U,this,RN,E,H,O]
def Nt.zf (n:Nt):Prop:=n.le.n=0/\n.le.d=0/\n.mo.n=0/\n.mo.d=0
def tV (m:Nat)(n:Nt):Prop:=
 (n.k=1/\n.zf/\(0<=n.a/\n.a<=m - 1)/\(1<=n.b/\n.b<=60)/\1<=n.lo/\n.lo<=n.hi/\n.hi<=360)\/
 (n.k=2/\n.zf/\(0<=n.a/\n.a<=(m / 2:Nat) - 1)/\n.b=0/\1<=n.lo/\n.lo<=n.hi/\n.hi<=120)\/
 (n.k=3/\(0<=n.a/\n.a<=n.b/\n.b<=(m / 2:Nat) - 1)/\n.lo=0/\n.hi=0/\n.le.ok=true/\n.mo.ok=true/\¬n.mo.n*n.le.d<n.le.n*n.mo.d)\/
 (n.k=4/\n.zf/\(0<=n.a/\n.a<n.b/\n.b<=m - 1)/\n.lo=0/\n.hi=0)\/
 (n.k=5/\n.zf/\(0<=n.a/\n.a<=m - 1)/\(2<=n.b/\n.b<=12)/\n.lo=0/\n.hi=0)
def adD {n:Nt}(h:yB m n=true):tV m n:=by
 have f:(n.k=3\/n.zf):=by
  by_cases e:n.k=3
  ·exact .inl e
  ·refine .inr ?_
   rw[yB]at h
   split at h
   ·cases h
   ·rename_i g
    simp only[bne_iff_ne,ne_eq,e,not_false_eq_true,true_and,not_or,ab,beq_iff_eq,Decidable.not_not]at g;obtain⟨⟨a,b⟩,c,d⟩:=g;exact⟨a,b,c,d⟩
 rw[yB]at h
 split at h
 ·cases h
 split at h
 ·rename_i e
  have e:=beq_iff_eq.1 e;simp only[inR,ab,decide_eq_true_eq,ge_iff_le]at h;exact .inl ⟨e,f.resolve_left (by omega),h.1,h.2.1,h.2.2⟩
 split at h
 ·rename_i e
  have e:=beq_iff_eq.1 e;simp only[inR,ab,decide_eq_true_eq,ge_iff_le,beq_iff_eq]at h;exact .inr (.inl ⟨e,f.resolve_left (by omega),h.1,h.2.1,h.2.2⟩)
 split at h
 ·rename_i e
  have e:=beq_iff_eq.1 e;simp only[inR,ab,decide_eq_true_eq,ge_iff_le,beq_iff_eq,Bool.not_eq_true',decide_eq_false_iff_not]at h;exact .inr (.inr (.inl ⟨e,⟨h.1.1,h.2.2.1,h.2.1.2⟩,h.2.2.2.1,h.2.2.2.2.1,h.2.2.2.2.2.1,h.2.2.2.2.2.2.1,h.2.2.2.2.2.2.2⟩))
 split at h
 ·rename_i e
  have e:=beq_iff_eq.1 e;simp only[inR,ab,decide_eq_true_eq,ge_iff_le,beq_iff_eq]at h;exact .inr (.inr (.inr (.inl ⟨e,f.resolve_left (by omega),⟨h.1.1,h.2.2.1,h.2.1.2⟩,h.2.2.2⟩)))
 split at h
 ·rename_i e
  have e:=beq_iff_eq.1 e;simp only[inR,ab,decide_eq_true_eq,ge_iff_le,beq_iff_eq]at h;exact .inr (.inr (.inr (.inr ⟨e,f.resolve_left (by omega),h.1,h.2.1,h.2.2⟩)))
 ·cases h
def GH {n l h:Int}(h1:l<=n)(h2:n<=h):Pure C 116 [dI n,dI l,dI h] (.d (.bool true)) []:=by
 have:=YS n l h
 rwa [show inR n l h=true by simp[inR];omega]at this
def aic (m:Nat)(n:Nt)(A:2<=m/\m<=6)(h:yB m n=true):Pure C 122 [n.dv,dI m] (.d (.bool true)) []:=by
 have h:=adD h;obtain⟨k,a,b,lo,hi,⟨l,ld⟩,⟨p,o⟩⟩:=n;simp only[tV,Nt.zf]at h;refine ah kM aH ?_;have w:=WG (show m<=1000000 by omega);have e1:cC .i64 ((m:Int) - 1)=(m:Int) - 1:=aF (by omega);have e2:cC .i64 (((m / 2:Nat):Int) - 1)=((m / 2:Nat):Int) - 1:=aF (by omega);have x:(2:Int)≠0:=by decide
 have z0:((0:Int)==0)=true:=rfl;have q:(true !=true)=false:=rfl
 rcases h with⟨rfl,⟨rfl,rfl,rfl,rfl⟩,h1,h2,i,s,t⟩|⟨rfl,⟨rfl,rfl,rfl,rfl⟩,h1,rfl,i,s,t⟩|⟨rfl,h1,rfl,rfl,h2,i,s⟩|⟨rfl,⟨rfl,rfl,rfl,rfl⟩,h1,rfl,rfl⟩|⟨rfl,⟨rfl,rfl,rfl,rfl⟩,h1,h2,rfl,rfl⟩
 ·have e:((1:Int) !=3)=true:=rfl
  have c:((1:Int)==1)=true:=rfl;have v:(lo==0)=false:=by simp;omega
  simp only[kM,aH,uf,iD,e,c,v,z0,q,e1,RN,E,H,O];refine cO rfl rfl (GH (by omega) (by omega)) ?_;(try simp only[RN,E,H,O]);refine cO rfl rfl (GH (by omega) (by omega)) ?_;(try simp only[RN,E,H,O]);refine cO rfl rfl (GH (by omega) (by omega)) ?_;simp only[t,RN,E,H,O]
 ·have e:((2:Int) !=3)=true:=rfl
  have c:((2:Int)==1)=false:=rfl;have g:((2:Int)==2)=true:=rfl;have v:(lo==0)=false:=by simp;omega
  simp only[kM,aH,uf,iD,e,c,g,v,z0,q,w,e2,x,RN,E,H,O];refine cO rfl rfl (GH (by omega) (by omega)) ?_;simp only[z0,RN,E,H,O];refine cO rfl rfl (GH (by omega) (by omega)) ?_;simp only[t,RN,E,H,O]
 ·have e:((3:Int) !=3)=false:=rfl
  have c:((3:Int)==1)=false:=rfl;have g:((3:Int)==2)=false:=rfl;have j:((3:Int)==3)=true:=rfl;have f:b<((m / 2:Nat):Int):=by omega
  have f1:=Qr ⟨l,ld⟩;have f2:=Qr ⟨p,o⟩;have r:=RH ⟨l,ld⟩ ⟨p,o⟩ (LH h2 i) (LH i h2);rw[h2]at f1;rw[i]at f2;rw[show decide ((⟨l,ld⟩:Fr).n*(⟨p,o⟩:Fr).d>(⟨p,o⟩:Fr).n*(⟨l,ld⟩:Fr).d)=false from decide_eq_false s]at r;simp only[aS]at f1 f2 r;simp only[kM,aH,uf,e,c,g,j,z0,RN,E,H,O];refine cO rfl rfl (GH (by omega) (by omega)) ?_;simp only[w,x,f,RN,E,H,O];refine ak f1 ?_;(try simp only[RN,E,H,O]);refine ak f2 ?_;(try simp only[RN,E,H,O]);refine ak r ?_;(try simp only[RN])
 ·have e:((4:Int) !=3)=true:=rfl
  have c:((4:Int)==1)=false:=rfl;have g:((4:Int)==2)=false:=rfl;have j:((4:Int)==3)=false:=rfl;have u:((4:Int)==4)=true:=rfl;have y:cC .i64 (b - 1)=b - 1:=aF (by omega);have f:b<(m:Int):=by omega
  simp only[kM,aH,uf,iD,e,c,g,j,u,z0,q,y,RN,E,H,O];refine cO rfl rfl (GH (by omega) (by omega)) ?_;simp only[f,RN,E,H,O]
 ·have e:((5:Int) !=3)=true:=rfl
  have c:((5:Int)==1)=false:=rfl;have g:((5:Int)==2)=false:=rfl;have j:((5:Int)==3)=false:=rfl;have u:((5:Int)==4)=false:=rfl;have z:((5:Int)==5)=true:=rfl;simp only[kM,aH,uf,iD,e,c,g,j,u,z,z0,q,e1,RN,E,H,O];refine cO rfl rfl (GH (by omega) (by omega)) ?_;(try simp only[RN,E,H,O]);refine cO rfl rfl (GH (by omega) (by omega)) ?_;(try simp only[])
def Fg {w:Pr}(h:wOk w=true):(4<=w.a/\w.a<=w.b/\w.b<=60)/\w.b - w.a<=5:=by
 simp only[wOk,ab,Ir,decide_eq_true_eq]at h;omega
def YT {n:Int}(h1:4<=n)(h2:n<=60):Pure C 119 [dI n] (.d (.bool true)) []:=by
 have:=ahQ n
 rwa [Ir.2 ⟨h1,h2⟩]at this
def abT (w:Pr)(h:wOk w=true):Pure C 118 [w.dv] (.d (.bool false)) []:=by
 have h:=Fg h;have e1:cC .i64 (w.b - w.a)=w.b - w.a:=aF (by omega);refine ah BN aI ?_;simp only[BN,aI,dW,RN,E,H,O];refine cO rfl rfl (YT (by omega) (by omega)) ?_;(try simp only[RN,E,H,O]);refine cO rfl rfl (YT (by omega) (by omega)) ?_;simp only[e1,RN,E,H,O];refine cO rfl rfl (GH (by omega) (by omega)) ?_;(try simp only[RN])
def abU (m:Nat)(n:Nt)(a:2<=m/\m<=6)(h:yB m n=true):Pure C 121 [n.dv, .aP [dI m]] (.d (.bool false)) []:=by
 have h:=aic m n a h;rw[uf]at h;refine ah BO JO ?_;simp only[BO,JO,uf,RN,E,H,O];refine ak h ?_;(try simp only[RN])
def Ul (xs:List Pr)(fn:FuncId)(b:List DV)(p:Pr->Bool)(hl:xs.length<=1000000)(hc:callable C.P fn=true)(g:∀x∈xs,Pure C fn ([(Pr.dv x).strip]++b.map DV.strip) (.d (.bool (p x))) []):
  Pure C 117 [sF (xs.map Pr.dv), .func (.func fn) [] b] (.d (.bool (xs.any p))) []:=by
 have hi:Pure C 172 [sF (xs.map Pr.dv), .func (.func fn) [] b] (pI (jq p xs 0)) []:=by
  refine ah bU aH ?_;simp only[bU,aH,U,RN,E,H];refine aG xs.length (fun i (_:Unit)=>⟨[(0, .d (sF (xs.map Pr.dv))),(1, .d (.func (.func fn) [] b)),(7,pI xs.length),(8,pI i)],⟨[],[],[]⟩⟩)
   (fun i _=>jq p xs 0=jq p (xs.drop i) i) 0 () (an _) rfl rfl (fun i _ h1 a=> ?_) (fun _ a=> ?_)
  ·obtain⟨h2,e,f⟩:=rng h1 hl
   rw[drop_cons h1,jq]at a;have j:=g (xs.getD i default) (getD_mem h1);simp only[h2,e,h1,getD_map,Y,U,dW,RN,E,H,O];refine ig rfl hc (by simp only[bX,bc,bi,bz,dW]) j ?_;cases c:p (xs.getD i default)
   ·simp only[f,RN,E]
    exact dh () h1 rfl (by rw[if_neg (fun h=>by rw[c]at h;cases h)]at a;exact a) (by simp) (by simp) rfl rfl
   ·(try simp only[RN,E])
    rw[a,if_pos c]
  ·rw[a7,jq]at a
   simp only[ao,a,RN,E]
 refine ah lH aH ?_;simp only[lH,aH,RN,E,H];refine ak hi ?_;simp only[BH,RN]
def Uk (xs:List Nt)(fn:FuncId)(b:List DV)(p:Nt->Bool)(hl:xs.length<=1000000)(hc:callable C.P fn=true)(g:∀x∈xs,Pure C fn ([(Nt.dv x).strip]++b.map DV.strip) (.d (.bool (p x))) []):
  Pure C 120 [sF (xs.map Nt.dv), .func (.func fn) [] b] (.d (.bool (xs.any p))) []:=by
 have hi:Pure C 173 [sF (xs.map Nt.dv), .func (.func fn) [] b] (pI (jq p xs 0)) []:=by
  refine ah kH aH ?_;simp only[kH,aH,U,RN,E,H];refine aG xs.length (fun i (_:Unit)=>⟨[(0, .d (sF (xs.map Nt.dv))),(1, .d (.func (.func fn) [] b)),(7,pI xs.length),(8,pI i)],⟨[],[],[]⟩⟩)
   (fun i _=>jq p xs 0=jq p (xs.drop i) i) 0 () (an _) rfl rfl (fun i _ h1 a=> ?_) (fun _ a=> ?_)
  ·obtain⟨h2,e,f⟩:=rng h1 hl
   rw[drop_cons h1,jq]at a;have j:=g (xs.getD i default) (getD_mem h1);simp only[h2,e,h1,getD_map,Y,U,uf,RN,E,H,O];refine ig rfl hc (by simp only[bX,bc,bi,bz,uf]) j ?_;cases c:p (xs.getD i default)
   ·simp only[f,RN,E]
    exact dh () h1 rfl (by rw[if_neg (fun h=>by rw[c]at h;cases h)]at a;exact a) (by simp) (by simp) rfl rfl
   ·(try simp only[RN,E])
    rw[a,if_pos c]
  ·rw[a7,jq]at a
   simp only[ao,a,RN,E]
 refine ah jI aH ?_;simp only[jI,aH,RN,E,H];refine ak hi ?_;simp only[BH,RN]
structure Je (f:Fi):Prop where
 len:f.ws.length=2\/f.ws.length=4\/f.ws.length=6
 ns:f.ns.length<=8
 w:∀w∈f.ws,wOk w=true
 n:∀n∈f.ns,yB f.ws.length n=true
def akQ {f:Fi}(h:yt f=true):Je f:=by
 simp only[yt,ab,Bool.or_eq_true,decide_eq_true_eq,bq]at h;obtain⟨⟨⟨h1,h2⟩,a⟩,b⟩:=h;exact⟨by omega,h2,a,b⟩
def LQ (f:Fi)(h:Je f):Pure C 50 [f.dv] (.d (.bool true)) []:=by
 have c:2<=f.ws.length/\f.ws.length<=6:=by have:=h.len;omega
 have i:=h.ns;have h1:=Ul f.ws 118 [] (fun _=>false) (by omega) (by kernel_rfl) (fun w j=>abT w (h.w w j));have h2:=Uk f.ns 121 [.aP [dI f.ws.length]] (fun _=>false) (by omega) (by kernel_rfl) (fun n g=>abU _ n c (h.n n g));have b:∀{α:Type} (l:List α),(l.any fun _=>false)=false:=fun l=>by simp
 rw[b]at h1 h2;have e1:((f.ws.length:Int).tmod 2==0)=true:=by
  rcases h.len with e|e|e<;>rw[e]<;>rfl
 have e2:(2:Int)≠0:=by decide
 have a:((f.ns.length:Nat):Int)<=8:=by omega
 refine ah FP aI ?_;simp only[FP,aI,jo,U,e1,e2,RN,E,H,J,O];refine cO rfl rfl (GH (by omega) (by omega)) ?_;simp only[U,a,RN,E,H,O];refine ak h1 ?_;(try simp only[RN,E,H,O]);refine ak h2 ?_;(try simp only[RN])
def nJ (m:Nat)(t:List Int):Prop:=t.length=m/\∀x∈t,4<=x/\x<=60
variable{t:List Int}
def nJ.get (h:nJ m t){i:Nat}(hi:i<m):4<=t.getD i default/\t.getD i default<=60:=h.2 _ (getD_mem (by rw[h.1];exact hi))
def aoV (m:Nat)(n:Nt)(t:List Int)(f:nJ m t)(v:m<=6)(h:tV m n)(hk:n.k=1):∃b,Pure C 178 [sF (t.map ay),n.dv] (.d (.bool b)) []:=by
 have u:=f.1;obtain⟨k,a,b,lo,hi,le,mo⟩:=n;simp only[tV]at h hk;obtain⟨i,rfl⟩:∃i:Nat,a=i:=⟨a.toNat,by omega⟩
 have e:i<t.length:=by omega
 obtain⟨x,g⟩:∃x,x=t.getD i default:=⟨_,rfl⟩
 have c:=f.get (show i<m by omega);rw[<-g]at c;have p:=az (show lo<=360 by omega) c.2 (by omega) (by omega);have q:=az (show hi<=360 by omega) c.2 (by omega) (by omega);have r:=aR (show 0<=lo by omega) (show 0<=x by omega);have s:=aR (show 0<=hi by omega) (show 0<=x by omega);have w1:cC .i64 (360*b)=360*b:=aF (by omega);have l:cC .i64 (lo*x)=lo*x:=aF (by omega);have o:cC .i64 (hi*x)=hi*x:=aF (by omega);have j:(0:Int)<=(i:Int):=by omega
 refine⟨inR (360*b) (lo*x) (hi*x),?_⟩;refine ah Aj aH ?_;simp only[Aj,aH,uf,j,e,U,getD_map,Y,aW,<-g,w1,l,o,RN,E,H,O];exact ak (YS _ _ _) rfl
def apX (m:Nat)(n:Nt)(t:List Int)(f:nJ m t)(r:m<=6)(h:tV m n)(hk:n.k=2):∃b,Pure C 179 [sF (t.map ay),n.dv] (.d (.bool b)) []:=by
 have q:=f.1;obtain⟨k,a,b,lo,hi,le,mo⟩:=n;simp only[tV]at h hk;obtain⟨i,rfl⟩:∃i:Nat,a=i:=⟨a.toNat,by omega⟩
 have w1:cC .i64 (2*(i:Int))=((2*i:Nat):Int):=by rw[aF (by omega)];omega
 have o:cC .i64 (((2*i:Nat):Int)+1)=((2*i+1:Nat):Int):=by rw[aF (by omega)];omega
 have c:2*i<t.length:=by omega
 have e:2*i+1<t.length:=by omega
 have j:=f.get (show 2*i<m by omega);have l:=f.get (show 2*i+1<m by omega);have p:cC .i64 (t.getD (2*i) default+t.getD (2*i+1) default)=t.getD (2*i) default+t.getD (2*i+1) default:=aF (by omega);have g:(0:Int)<=((2*i:Nat):Int):=by omega
 have h1:(0:Int)<=((2*i+1:Nat):Int):=by omega
 refine⟨inR (t.getD (2*i) default+t.getD (2*i+1) default) lo hi,?_⟩;refine ah Ak aH ?_;simp only[Ak,aH,uf,w1,o,g,h1,c,e,U,getD_map,Y,aW,p,RN,E,H,O];exact ak (YS _ _ _) rfl
def aoz (m:Nat)(n:Nt)(t:List Int)(g:nJ m t)(o:m<=6)(h:tV m n)(hk:n.k=4):∃b,Pure C 181 [sF (t.map ay),n.dv] (.d (.bool b)) []:=by
 have l:=g.1;obtain⟨k,a,b,lo,hi,le,mo⟩:=n;simp only[tV]at h hk;obtain⟨i,rfl⟩:∃i:Nat,a=i:=⟨a.toNat,by omega⟩
 obtain⟨j,rfl⟩:∃j:Nat,b=j:=⟨b.toNat,by omega⟩
 have c:i<t.length:=by omega
 have e:j<t.length:=by omega
 have f:(0:Int)<=(i:Int):=by omega
 have h1:(0:Int)<=(j:Int):=by omega
 refine⟨t.getD i default==t.getD j default,?_⟩;refine ah yQ aH ?_;simp only[yQ,aH,uf,f,h1,c,e,U,getD_map,Y,aW,RN,E,H,O]
def aox (m:Nat)(n:Nt)(t:List Int)(g:nJ m t)(l:m<=6)(h:tV m n)(hk:n.k=5):∃b,Pure C 182 [sF (t.map ay),n.dv] (.d (.bool b)) []:=by
 have j:=g.1;obtain⟨k,a,b,lo,hi,le,mo⟩:=n;simp only[tV]at h hk;obtain⟨i,rfl⟩:∃i:Nat,a=i:=⟨a.toNat,by omega⟩
 have c:i<t.length:=by omega
 have e:(0:Int)<=(i:Int):=by omega
 have f:b≠0:=by omega
 refine⟨(t.getD i default).tmod b==0,?_⟩;refine ah yP aH ?_;simp only[yP,aH,uf,e,c,f,U,getD_map,Y,aW,RN,E,H,O]
def iW (t:List Int)(fr d k:Nat):List Int:=(bR k).map fun p=>t.getD (2*(fr+p)+d) default
def agq (t:List Int)(fr d k:Nat):iW t fr d (k+1)=iW t fr d k++ [t.getD (2*(fr+k)+d) default]:=by
 simp[iW,b0]
def aax (m:Nat)(t:List Int)(f:nJ m t)(l:m<=6)(fr to d:Nat)(h1:fr<=to)(h2:2*to+d<m)(hd:d<=1):Pure C 251 [sF (t.map ay),dI fr,dI to,dI d] (.d (sF ((iW t fr d (to+1 - fr)).map ay))) []:=by
 have k:=f.1;refine bM (aB vK OB ?_);simp only[vK,OB,lX,RN,E,H,N];refine aG (to+1 - fr) (fun i (v:Nat)=>⟨[(0, .d (sF (t.map ay))),(2,pI to),(3,pI d),(9, .tsl 1 v 0),(10, .d (dI ((fr+i:Nat):Int)))],
   ⟨[],[],[some ⟨1,[],0,0⟩,some ⟨1,(iW t fr d i).map ay,v,0⟩]⟩⟩)
  (fun _ _=>True) 0 0 (an _) (by simp[iW]) trivial (fun i v c _=> ?_) (fun v _=> ?_)
 ·have a:((fr+i:Nat):Int)<=(to:Int):=by omega
  have e:cC .i64 (((fr+i:Nat):Int)+1)=((fr+(i+1):Nat):Int):=by rw[aF (by omega)];omega
  have w1:cC .i64 (2*((fr+i:Nat):Int))=((2*(fr+i):Nat):Int):=by rw[aF (by omega)];omega
  have j:cC .i64 (((2*(fr+i):Nat):Int)+(d:Int))=((2*(fr+i)+d:Nat):Int):=by rw[aF (by omega)];omega
  have g:2*(fr+i)+d<t.length:=by omega
  have h:(0:Int)<=((2*(fr+i)+d:Nat):Int):=by omega
  have b:((iW t fr d i).map ay).length+1<=1073741824:=by simp[iW];omega
  simp only[a,w1,j,g,h,U,getD_map,Y,aW,gB,fits_int,forall_eq,DV.strip,fU,e,RN,E,J,N,O];refine⟨by simp,by simpa using b,?_⟩;refine bQ 0 2 (v+1) c ?_ trivial (by simp) (by simp) rfl rfl;rw[agq];simp[ay]
 ·have a:¬((fr+(to+1 - fr):Nat):Int)<=(to:Int):=by omega
  simp only[a,RN,E];simp[datum,Mem.row]
def RJ (l:List Int)(hl:l.length<=1000000)(hx:∀x∈l,1<=x)(hb:bZ l 1<=9223372036854775807):Pure C 250 [sF (l.map ay)] (pI (bZ l 1)) []:=by
 refine ah oW aI ?_;simp only[oW,aI,U,RN,E];refine aG l.length (fun i (p:Int)=>⟨[(3,pI p),(6, .d (sF (l.map ay))),(7,pI l.length),(8,pI i)],⟨[],[],[]⟩⟩)
  (fun i p=>1<=p/\bZ l 1=bZ (l.drop i) p) 0 1 (an _) rfl ⟨by omega,rfl⟩ (fun i p h1 a=> ?_) (fun p a=> ?_)
 ·obtain⟨h2,f,g⟩:=rng h1 hl
  obtain⟨c,a⟩:=a;rw[drop_cons h1,bZ]at a;have b:=hx _ (getD_mem h1);have e:1<=p*l.getD i default:=by
   have:=az c b (by omega) (by omega);omega
  have j:=KD (l.drop (i+1)) (p*l.getD i default) (fun y h=>hx y (List.mem_of_mem_drop h)) e;have e1:cC .i64 (p*l.getD i default)=p*l.getD i default:=aF (by omega);simp only[h2,f,h1,g,aW,getD_map,Y,U,e1,RN,E,O];exact dh (p*l.getD i default) h1 rfl ⟨e,a⟩ (by simp) (by simp) rfl rfl
 ·obtain⟨c,a⟩:=a
  rw[a7,bZ]at a;simp only[ao,a,RN,E]
def Ue (f:nJ m t)(i:m<=6){fr to d:Nat}(h2:2*to+d<m):(∀x∈iW t fr d (to+1 - fr),1<=x/\x<=60)/\1<=bZ (iW t fr d (to+1 - fr)) 1/\bZ (iW t fr d (to+1 - fr)) 1<=216000:=by
 have h:∀x∈iW t fr d (to+1 - fr),1<=x/\x<=60:=by
  intro x c;simp only[iW,cm,ct]at c;obtain⟨p,j,rfl⟩:=c;have:=f.get (show 2*(fr+p)+d<m by omega);omega
 obtain⟨a,b⟩:=MX _ 1 0 h (by omega) (by decide);refine⟨h,a,cw b ?_⟩;have e:(iW t fr d (to+1 - fr)).length<=3:=by simp[iW];omega
 match g:(iW t fr d (to+1 - fr)).length,e with
 |0,_=>decide
 |1,_=>decide
 |2,_=>decide
 |3,_=>decide
def alU (m:Nat)(n:Nt)(t:List Int)(f:nJ m t)(e:m<=6)(h:tV m n)(hk:n.k=3):∃b,Pure C 180 [sF (t.map ay),n.dv] (.d (.bool b)) []:=by
 obtain⟨k,a,b,lo,hi,le,mo⟩:=n;simp only[tV]at h hk;have o:le.ok=true:=by rcases h with h|h|h|h|h<;>first|exact h.2.2.2.2.1|omega
 have p:mo.ok=true:=by rcases h with h|h|h|h|h<;>first|exact h.2.2.2.2.2.1|omega
 have A:0<=a/\a<=b/\b<=(m / 2:Nat) - 1:=by rcases h with h|h|h|h|h<;>first|exact h.2.1|omega
 obtain⟨i,rfl⟩:∃i:Nat,a=i:=⟨a.toNat,by omega⟩
 obtain⟨j,rfl⟩:∃j:Nat,b=j:=⟨b.toNat,by omega⟩
 have M:=aax m t f e i j 0 (by omega) (by omega) (by omega);have w1:=aax m t f e i j 1 (by omega) (by omega) (by omega);obtain⟨B,D,F⟩:=Ue f e (fr:=i) (to:=j) (d:=0) (by omega);obtain⟨G,K,L⟩:=Ue f e (fr:=i) (to:=j) (d:=1) (by omega);have v:=RJ _ (by simp[iW];omega) (fun x c=>(B x c).1) (by omega);have w:=RJ _ (by simp[iW];omega) (fun x c=>(G x c).1) (by omega);obtain⟨x,c⟩:∃x:Fr,x=⟨bZ (iW t i 0 (j+1 - i)) 1,bZ (iW t i 1 (j+1 - i)) 1⟩:=⟨_,rfl⟩
 have r:bZ (iW t i 0 (j+1 - i)) 1=x.n:=by rw[c]
 have q:bZ (iW t i 1 (j+1 - i)) 1=x.d:=by rw[c]
 rw[r]at v D F;rw[q]at w K L;obtain⟨l1,l2⟩:=IL o;obtain⟨m1,P⟩:=IL p;have mul:∀a b:Int,0<=a->a<=216000->0<=b->b<=216000->0<=a*b/\a*b<=4000000000000000000:=by
  intro a b y z b1 b2;have e1:=az z b2 b1 (by omega);have e2:=aR y b1;omega
 have s:=RH le x (mul _ _ (by omega) (by omega) (by omega) (by omega)) (mul _ _ (by omega) (by omega) (by omega) (by omega));have u:=RH x mo (mul _ _ (by omega) (by omega) (by omega) (by omega)) (mul _ _ (by omega) (by omega) (by omega) (by omega));obtain⟨b1,g⟩:∃b,b=decide (le.n*x.d>x.n*le.d):=⟨_,rfl⟩
 obtain⟨b2,l⟩:∃b,b=decide (x.n*mo.d>mo.n*x.d):=⟨_,rfl⟩
 rw[<-g,aS,aS]at s;rw[<-l,aS,aS]at u;refine⟨!b1&& !b2,?_⟩;refine ah xB aH ?_;simp only[xB,aH,uf,RN,E,H,I,O];refine ak M ?_;(try simp only[RN,E,H,I,J,N,O]);refine ak v ?_;(try simp only[RN,E,H,O]);refine ak w1 ?_;(try simp only[RN,E,H,I,J,N,O]);refine ak w ?_;(try simp only[RN,E,H,J,O]);refine ak s ?_;cases b1
 ·(try simp only[RN,E,H,O])
  refine ak u ?_;(try simp only[RN])
 ·(try simp only[RN,E])
  rfl
def Va:Nat->FuncId
 |0=>178
 |1=>179
 |2=>180
 |3=>181
 | _=>182
def aog (m:Nat)(n:Nt)(t:List Int)(e:nJ m t)(c:m<=6)(h:tV m n):∃b,Pure C (Va (n.k - 1).toNat) [sF (t.map ay),n.dv] (.d (.bool b)) []:=by
 have a:n.k=1\/n.k=2\/n.k=3\/n.k=4\/n.k=5:=by
  rcases h with h|h|h|h|h<;>have:=h.1<;>omega
 rcases a with a|a|a|a|a
 ·rw[a];exact aoV m n t e c h a
 ·rw[a];exact apX m n t e c h a
 ·rw[a];exact alU m n t e c h a
 ·rw[a];exact aoz m n t e c h a
 ·rw[a];exact aox m n t e c h a
open Classical in
noncomputable def agr (t:List Int) (n:Nt):Bool:=if h:∃b,Pure C (Va (n.k - 1).toNat) [sF (t.map ay),n.dv] (.d (.bool b)) []then h.choose else true
def aoS (m:Nat)(n:Nt)(t:List Int)(c:nJ m t)(b:m<=6)(h:tV m n):Pure C (Va (n.k - 1).toNat) [sF (t.map ay),n.dv] (.d (.bool (agr t n))) []:=by
 have a:=aog m n t c b h;rw[agr,dif_pos a];exact a.choose_spec
noncomputable def brk (t:List Int) (ns:List Nt):Nat->List Int
 |0=>[]
 |i+1=>brk t ns i++bif agr t (ns.getD i default)then[]else[(i:Int)]
def ac4 (t:List Int)(ns:List Nt):∀i,(brk t ns i).length<=i
 |0=>cp _
 |i+1=>by
  have:=ac4 t ns i;rw[brk,X];cases agr t (ns.getD i default)<;>simp<;>omega
def alq:∀i,callable C.P (Va i)=true:=by
 intro i
 match i with
 |0=>show callable C.P 178=true;kernel_rfl
 |1=>show callable C.P 179=true;kernel_rfl
 |2=>show callable C.P 180=true;kernel_rfl
 |3=>show callable C.P 181=true;kernel_rfl
 |i+4=>show callable C.P 182=true;kernel_rfl
def agW (f:Fi)(hf:Je f)(t:List Int)(z:nJ f.ws.length t):Pure C 124 [sF (t.map ay),f.dv] (.d (sF ((brk t f.ns f.ns.length).map ay))) []:=by
 have x:f.ws.length<=6:=by have:=hf.len;omega
 have y:=hf.ns;refine bM (aB vJ aH ?_);rw[jo];simp only[vJ,aH,lX,U,RN,E,H,J,N,O];refine⟨rfl,?_⟩;refine aG f.ns.length (fun i (v:Nat)=>⟨[(5, .ptr 1 0),(6, .tsl 1 v 0),(21, .d (sF (f.ns.map Nt.dv))),(22,pI f.ns.length),(23,pI i)],
   ⟨[some [.d (sF (f.ws.map Pr.dv)), .d (sF (f.ns.map Nt.dv))],some [.d (.func (.func 178) [sF (t.map ay)] []), .d (.func (.func 179) [sF (t.map ay)] []), .d (.func (.func 180) [sF (t.map ay)] []), .d (.func (.func 181) [sF (t.map ay)] []), .d (.func (.func 182) [sF (t.map ay)] [])]],[0],[some ⟨1,[],0,0⟩,some ⟨1,(brk t f.ns i).map ay,v,0⟩]⟩⟩)
  (fun _ _=>True) 0 0 (an _) rfl trivial (fun i v b _=> ?_) (fun v _=> ?_)
 ·obtain⟨r,s,p⟩:=rng b (by omega)
  obtain⟨n,o⟩:∃n,n=f.ns.getD i default:=⟨_,rfl⟩
  have e:=adD (hf.n n (by rw[o];exact getD_mem b));have g:=aoS _ n t z x e;rw[uf]at g;have u:=ac4 t f.ns i;have a:brk t f.ns (i+1)=brk t f.ns i++bif agr t n then[]else[(i:Int)]:=by rw[brk,o]
  have B:n.k=1\/n.k=2\/n.k=3\/n.k=4\/n.k=5:=by
   rcases e with h|h|h|h|h<;>have:=h.1<;>omega
  obtain⟨j,l,m⟩:∃j:Nat,n.k=((j+1:Nat):Int)/\j<5:=⟨(n.k - 1).toNat,by omega,by omega⟩
  have w1:cC .i64 (((j+1:Nat):Int) - 1)=(j:Int):=by rw[aF (by omega)];omega
  have j0:(0:Int)<=(j:Int):=by omega
  have A:(j:Int)<((5:Nat):Int):=by omega
  have c:callable C.P (Va (n.k - 1).toNat)=true:=alq _;rw[show(n.k - 1).toNat=j by omega]at g c;have w:=l;simp only[r,s,b,getD_map,Y,U,uf,<-o,l,w1,j0,A,RN,E,H,J,N,O];refine⟨by omega,?_⟩;rw[l]at g;rw[show[PV.d (.func (.func 178) [sF (t.map ay)] []), .d (.func (.func 179) [sF (t.map ay)] []), .d (.func (.func 180) [sF (t.map ay)] []), .d (.func (.func 181) [sF (t.map ay)] []), .d (.func (.func 182) [sF (t.map ay)] [])].getD (j*1) PV.dead= .d (.func (.func (Va j)) [sF (t.map ay)] []) by
   rw[Nat.mul_one]
   match j,m with
   |0,_=>rfl
   |1,_=>rfl
   |2,_=>rfl
   |3,_=>rfl
   |4,_=>rfl]
  refine ig rfl c rfl g ?_;cases q:agr t n
  ·rw[q]at a
   simp only[gB,fits_int,forall_eq,DV.strip,fU,p,RN,E,H,J,N,O];refine⟨by simp,by simp;omega,?_⟩;refine bQ 2 2 (v+1) b ?_ trivial (by simp) (by simp) rfl rfl;rw[a];simp[ay]
  ·rw[q]at a
   simp only[p,RN,E,H];refine bQ 2 2 v b ?_ trivial (by simp) (by simp) rfl rfl;rw[a];simp
 ·simp only[ao,RN,E,H]
  simp[datum,Mem.row]
def iDV (n:Int):List DV:=[dI n]
def dL (ts:List Int):Nat->Nat->Int->List Int
 |0,_,a=>[a]
 |k+1,fr,a=>(cA fr (ts.length - fr)).flatMap fun i=>dL ts k i (a*ts.getD i default)
section
variable {r:Ru}{n b bw bv:Nat}{R:List (List DV)->Mem->Prop}{stop:Mem->Prop}{KP:DV->Mem->Prop}{xs:List (List DV)}
structure JW (r:Ru) (b bw bv:Nat) (M:Mem):Prop where
 w:M.boxes[bw]?=some (some [.func (.func 195) [] [.ptr bv 0, .d (.aP [dI r.lo,dI r.hi,dI r.pr,dI 1, .slice false [],sF (r.tt.map ay)]), .ptr bw 0]])
 v:M.boxes[bv]?=some (some [.mV b])
def JW.kept {M M':Mem}(h:JW r b bw bv M)(a:n<=bw)(hv:n<=bv)(hk:Kept n no no M M'):JW r b bw bv M':=
 ⟨(hk.box bw (.inl a) (V.1 h.w).1).trans h.w,(hk.box bv (.inl hv) (V.1 h.v).1).trans h.v⟩
def aiR (hr:r.ok=true)(Z:n<=bw)(hv:n<=bv)
  (fV:∀pre x post f,xs=pre++x::post->n<=f.boxes.length->R pre f->SY C b (x.map .d) f (fun p M'=>Kept n no no f M'/\((p= .d (.bool true)/\R (pre++ [x]) M')\/(p= .d (.bool false)/\stop M'))) KP):
  ∀(k fr:Nat) (now:Int) (pre post:List (List DV)) (f:Mem),fr<=r.tt.length->1<=now->now*60 ^ k<=216000->k<=3->xs=pre++((dL r.tt k fr now).map iDV++post)->JW r b bw bv f->R pre f->
   SC C 195 [pI fr,pI k,pI now, .ptr bv 0, .d (.aP [dI r.lo,dI r.hi,dI r.pr,dI 1, .slice false [],sF (r.tt.map ay)]), .ptr bw 0] f
    (fun p M'=>JW r b bw bv M'/\((p= .d (.bool true)/\R (pre++(dL r.tt k fr now).map iDV) M')\/(p= .d (.bool false)/\stop M'))) KP:=by
 obtain⟨⟨q1,q2,q3⟩, -⟩:=Ru.facts hr;have an:=Fe r;intro k
 induction k with
 |zero=>
  intro fr now pre post f u v P _ y I J;refine aB iI XA ?_;obtain⟨bs,fz,ar⟩:=f;obtain⟨h,j⟩:=I;simp only at h j;have l1:=(V.1 h).1;have l2:=(V.1 j).1;simp only[iI,XA,Int.natCast_zero,BEq.rfl,j,RN,E,H,O];refine um ?_;have hy:=fV pre (iDV now) post ⟨bs,fz,ar⟩ (by rw[y];simp[dL]) (Nat.le_of_lt (cg Z l1)) J;refine SY.mono hy ?_;rintro p ⟨ac,ae,ab⟩ ⟨hk,S⟩;have t:=JW.kept (M:=⟨bs,fz,ar⟩) ⟨h,j⟩ Z hv hk
  rcases S with⟨rfl,L⟩|⟨rfl,X⟩
  ·(try simp only[RN])
   exact⟨t, .inl L⟩
  ·(try simp only[RN])
   exact⟨t, .inr X⟩
 |succ k ih=>
  intro fr now pre post f u v P ai y I J;refine aB iI XA ?_;have Q:(((k+1:Nat):Int)==0)=false:=by simp;omega
  have e1:cC .i64 (((k+1:Nat):Int) - 1)=(k:Int):=by rw[aF (by omega)];omega
  simp only[iI,XA,Q,RN,E,H];obtain⟨F,B⟩:∃F:Nat->List (List DV),F=fun i=>((cA i (r.tt.length - i)).flatMap fun i=>dL r.tt k i (now*r.tt.getD i default)).map iDV:=⟨_,rfl⟩
  have D:(dL r.tt (k+1) fr now).map iDV=F fr:=by rw[B,dL]
  have m:∀i,i<r.tt.length->F i=(dL r.tt k i (now*r.tt.getD i default)).map iDV++F (i+1):=by
   intro i hi;rw[B];simp only;rw[show r.tt.length - i=(r.tt.length - (i+1))+1 by omega,List.range'_succ,bB,bc]
  have G:F r.tt.length=[]:=by rw[B];simp
  rw[D]at y⊢;refine aG r.tt.length (fun i (q:List (List DV)×Mem)=>⟨[(1, .d (dI ((k+1:Nat):Int))),(2,pI now),(4, .d (.aP [dI r.lo,dI r.hi,dI r.pr,dI 1, .slice false [],sF (r.tt.map ay)])),(5, .ptr bw 0),(10,pI i)],q.2⟩)
   (fun i q=>JW r b bw bv q.2/\xs=q.1++(F i++post)/\pre++F fr=q.1++F i/\R q.1 q.2) fr (pre,f) u rfl ⟨I,y,rfl,J⟩ (fun i q l W=> ?_) (fun q W=> ?_)
  ·obtain⟨aiQ,bs,fz,ar⟩:=q
   obtain⟨⟨h,j⟩,a,c,g⟩:=W;simp only at h j a c g;have l1:=(V.1 h).1;have l2:=(V.1 j).1;obtain⟨g2,g3,g6⟩:=rng l (by omega);have w:=Iw l;have T:(1:Int)<=60 ^ k:=Int.pow_pos (by decide);have hm:now*r.tt.getD i default*60 ^ k<=216000:=by
    have e:now*r.tt.getD i default*60 ^ k<=now*60 ^ (k+1):=by
     rw[Int.pow_succ,Int.mul_assoc,Int.mul_comm (r.tt.getD i default)];exact ap (ap (by rw[w];omega) (by omega)) (by omega)
    omega
   have N:1<=now*r.tt.getD i default:=by
    have:=az v (show(1:Int)<=r.tt.getD i default by rw[w];omega) (by decide) (by omega);omega
   have am:now*r.tt.getD i default<=216000:=by
    have:=ap T (show 0<=now*r.tt.getD i default by omega);omega
   have e2:cC .i64 (now*r.tt.getD i default)=now*r.tt.getD i default:=aF (by omega);rw[m i l,bh]at a;rw[m i l]at c;simp only[g2,g3,l,e1,e2,h,l1,getD_map,Y,U,aW,RN,E,H,O];refine qI (args:=[_,_,_]) (cs:=[_,_,_]) (by kernel_rfl) ?_;refine SC.mono (ih i _ aiQ _ _ (by omega) N hm (by omega) a ⟨h,j⟩ g) ?_;rintro p ⟨z,A,ar'⟩ ⟨o,S⟩
   rcases S with⟨rfl,K⟩|⟨rfl,X⟩
   ·simp only[g6,RN,E]
    exact dH (_,(⟨z,A,ar'⟩:Mem)) l rfl ⟨o,by rw[a,bh],by rw[c,bh],K⟩
   ·(try simp only[RN,E])
    exact⟨o, .inr X⟩
  ·obtain⟨aiQ,bs,fz,ar⟩:=q
   obtain⟨s,a,c,g⟩:=W;simp only at s a c g;simp only[ao,U,RN,E,H,O];exact⟨s, .inl (by rw[c,G,bS];exact g)⟩
end
def acv (r:Ru)(s:r.ok=true)(k:Nat)(hk:k<=3):
  QF C 194 [] [.d (.aP [dI r.lo,dI r.hi,dI r.pr,dI 1, .slice false [],sF (r.tt.map ay)]), .d (.aP [dI k])] ((dL r.tt k 0 1).map iDV) no no no (fun _=>True):=by
 rintro⟨bs,fz,ar⟩ b n R stop K KP o _ g a _ j fV l c f;simp only at g a;refine aB ru dX ?_;have q:bs.length∉fz:=fun e=>be _ (a _ e)
 have h:∀k,bs.length+k∉fz:=fun k e=>by have:=a _ e;omega
 have u:¬bs.length+1=bs.length:=by omega
 simp only[ru,dX,aX,bJ,bh,X,Nat.add_assoc,kQ,cells_func,J3,GN,GY,h,RN,E,H,O];refine qI (args:=[_,_,_]) (cs:=[_,_,_]) (by kernel_rfl) ?_;have i:(1:Int)*60 ^ k<=216000:=by
  match k,hk with
  |0,_=>decide
  |1,_=>decide
  |2,_=>decide
  |3,_=>decide
 refine SC.mono (aiR (bw:=bs.length+1) (bv:=bs.length) s (by omega) g fV k 0 1 [] [] _ (an _) (by decide) i hk (by simp) ⟨by simp,by simp⟩ (j _ _ _ ?_ l)) ?_
 ·exact Moved.ext (own:=no) (fz:=fz) (ar:=ar) (xf:=[]) g (by simp)
 ·rintro p w ⟨⟨y,v⟩,i⟩
  have x:=(V.1 v).1
  rcases i with⟨rfl,m⟩|⟨rfl,t⟩
  ·exact f _ _ (by omega) (by simpa using m)
  ·exact c _ _ t
def alO (r:Ru)(k:Nat):Pure C 130 [r.dv6,dI k] (.d (.func (.func 194) [] [.aP [dI r.lo,dI r.hi,dI r.pr,dI 1, .slice false [],sF (r.tt.map ay)], .aP [dI k]])) []:=by
 refine ah uM aH ?_;rw[zI];simp only[uM,aH,RN,E,H]
def De.Za:De->Option Nat
 | .strike n=>some n.toNat
 | _=>none
def Dk.with (D:Dk)(x:En):Dk:=match x.deed.Za with
 |some n=>{D with es:=D.es++ [x],st:=D.st.set n true++ [false]}
 |none=>{D with es:=D.es++ [x],st:=D.st++ [false]}
def Dk.enter (D:Dk)(x:En):Dk×Int:=
 if x.formed=false then(D,2)else if D.es.length=24 then(D,3)else if D.lG x.deed=false then(D,2)else if D.goes x.deed then(D.with x,0)else(D,7)
variable{M:Mem}{ar':List (Option Arr)}
def Frm.ajy {a:List (Option (List PV))}{b:List Nat}{x y:Option (List PV)}{i:Nat}(h:Frm M ⟨a,b,ar'⟩)(hi:M.boxes.length<=i):Frm M ⟨(a++ [x]).set i y,b,ar'⟩:=
 {len:=by have:=h.len;simp only[bt,X]at this⊢;omega
  bC:=h.bC
  box:=fun j c=>by
   have h1:=h.len;have h2:=h.box j c;simp only at h1 h2⊢;rw[am (by omega),ai (by omega)];exact h2
  fz:=h.fz
  row:=h.row
  fzb:=fun e j c=>by have:=h.fzb e j c;simp only[bt,X]at this⊢;omega}
variable{D:Dk}
def ae2 (h:D.Ok)(x:En)(hf:x.formed=true)(hb:D.lG x.deed=true)(hl:D.es.length≠24):(D.with x).Ok:=by
 have b:=adg hf hb;have h1:=h.few;unfold Dk.with
 cases x.deed.Za<;>simp only
 ·exact⟨h.su,by simp[h.len],by simp;omega,fun y a=>by
   rcases aD.1 a with a|a
   ·exact h.formed y a
   ·simp only[ae]at a;rw[a];exact hf,fun y a=>by
   rcases aD.1 a with a|a
   ·exact h.fine y a
   ·simp only[ae]at a;rw[a];exact b⟩
 ·exact⟨h.su,by simp[h.len],by simp;omega,fun y a=>by
   rcases aD.1 a with a|a
   ·exact h.formed y a
   ·simp only[ae]at a;rw[a];exact hf,fun y a=>by
   rcases aD.1 a with a|a
   ·exact h.fine y a
   ·simp only[ae]at a;rw[a];exact b⟩
def ahr (h:D.Ok)(x:En):(D.enter x).1.Ok:=by
 unfold Dk.enter
 split
 ·exact h
 split
 ·exact h
 split
 ·exact h
 split
 ·rename_i h1 h2 a _
  exact ae2 h x (by simpa using h1) (by simpa using a) h2
 ·exact h
def vX.row {D:Dk}{d k ver:Nat}{ce:PV}{bs:List (Option (List PV))}{fz:List Nat}{ar:List (Option Arr)}(h:vX D d ce (.tsl k ver 0) ⟨bs,fz,ar⟩)(hk:k<ar.length)(l:List Bool):
  vX {D with st:=l} d ce (.tsl k ver 0) ⟨bs,fz,ar.set k (some ⟨1,l.map .bool,ver,1⟩)⟩/\FrD d ce (.tsl k ver 0) ce (.tsl k ver 0) ⟨bs,fz,ar⟩ ⟨bs,fz,ar.set k (some ⟨1,l.map .bool,ver,1⟩)⟩:=by
 constructor
 ·exact
  {box:=h.box
   ent:=iK h.ent fun j A a c=>by
    simp only;rw[am (fun e=>by subst e;exact h.dif _ a rfl)];exact c
   str:= .inr ⟨k,ver,1,rfl,by simp[hk],by decide,fun _=> .inl rfl⟩
   dif:=h.dif
   nb:=h.nb
   fzb:=h.fzb}
 ·exact
  {len:=cp _
   bC:=by simp
   box:=fun _ _ _=>rfl
   fz:=fun _ _=>cB
   row:=fun j a _ b=>by simp only;rw[am (fun e=>b (by rw[e];rfl))]
   oe:=fun _=> .inl
   os:=fun _=> .inl}
def RD {x:En}(h:x.formed=true):x.ns.length<=3:=by
 simp only[En.formed,ab,decide_eq_true_eq]at h;have:=adu x.kind;omega
def aaE (c:PV)(xs:List DV)(ar:List (Option Arr)):Prop:=(∃ex,c= .d (.slice ex xs))\/∃k v t,c= .tsl k v 0/\ar[k]?=some (some ⟨1,xs,v,t⟩)
variable{c:PV}{ar:List (Option Arr)}
def ahq {xs:List DV}(h:aaE c xs ar):PV.one c=true/\PV.cells c=[c]/\∃ex,∀bs fz,datum ⟨bs,fz,ar⟩ c=some (.slice ex xs):=by
 rcases h with⟨ex,rfl⟩|⟨k,v,t,rfl,h⟩
 ·exact⟨rfl,rfl,ex,fun _ _=>rfl⟩
 ·exact⟨rfl,rfl,false,fun _ _=>ac9 h⟩
def anm {xs:List DV}(h:aaE c xs ar)(a:Int):zX [pI a,c]=VX (ch (fun y=>dI a::y) (gV [c])) [pI a,c]/\(VX (ch (fun y=>dI a::y) (gV [c])) [pI a,c]).cells=[pI a,c]/\(VX (ch (fun y=>dI a::y) (gV [c])) [pI a,c]).oh=false/\∃ex,∀bs fz,datum ⟨bs,fz,ar⟩ (VX (ch (fun y=>dI a::y) (gV [c])) [pI a,c])=some (.agg [dI a, .slice ex xs]):=by
 rcases h with⟨ex,rfl⟩|⟨k,v,t,rfl,h⟩
 ·exact⟨rfl,rfl,rfl,ex,fun _ _=>rfl⟩
 ·exact⟨rfl,rfl,rfl,false,fun _ _=>by show datum _ (.agg [pI a, .tsl k v 0])=_;simp[datum,bT,dR,Mem.row,h]⟩
def adf {xs:List DV}(h:aaE c xs ar)(hk:∀k,kOf c=some k->k<ar.length->ar'[k]?=ar[k]?):aaE c xs ar':=by
 rcases h with h|⟨k,v,t,rfl,h⟩
 ·exact .inl h
 ·exact .inr ⟨k,v,t,rfl,(hk k rfl (V.1 h).1).trans h⟩
def De.Rt (y:De):Rt y.dv=true:=by cases y<;>rfl
def Oo:aA:=
     (.seq
     (.region true [
      of 45 (.load false 1) [.t 2] 2,
      of 46 (.load false 1) [.t 2] 2,
      oa 47 .bg 46,
      of 48 (.fld 2) [.t 47] 2,
      of 49 (.load false 1) [.t 48] 2,
      of 50 (.fld 0) [.t 3] 2,
      of 51 (.load false 1) [.t 50] 2,
      of 52 (.fld 1) [.t 3] 2,
      of 53 (.load false 1) [.t 52] 2,
      oa 54 (.yC 215) 53,
      ob 55 (.build [dI 0, .slice true []] [(0,1),(1,1)]) 51 54,
      of 56 (.dU 2 [.agg [dI 0, .slice true []]] [0]) [.t 55] 1,
      ob 57 (.app 2 false) 49 56,
      oa 58 .bg 45,
      of 59 (.fld 2) [.t 58] 2,
      os (.store 1) [.t 59, .t 57] 0] 0 [2] [])
     (.seq
      (.region true [
       of 60 (.load false 1) [.t 2] 2,
       of 61 (.load false 1) [.t 2] 2,
       oa 62 .bg 61,
       of 63 (.fld 3) [.t 62] 2,
       of 64 (.load false 1) [.t 63] 2,
       of 65 (.dU 1 [.bool false] [0]) [.c (.bool false)] 1,
       ob 66 (.app 1 true) 64 65,
       oa 67 .bg 60,
       of 68 (.fld 3) [.t 67] 2,
       os (.store 1) [.t 68, .t 66] 0] 0 [] [])
      (.seq
      (rg [
       mk 4 (kI 0)] 0 [4])
      .ret)))
variable{d:Nat}
def O1 {ce cs:PV}{bs:List (Option (List PV))}{fz:List Nat}(h:vX D d ce cs ⟨bs,fz,ar⟩)(x:En)(hx:x.ns.length<=1000)(T:D.es.length<=1000)(U:D.st.length<=1000){pb:Nat}(w:bs[pb]?=some (some [.ptr d 0]))(z:pb≠d){xb:Nat}{c:PV}(m:bs[xb]?=some (some [pI x.kind,c]))(hc:aaE c (x.ns.map ay) ar){nb na:Nat}{Q:Ex->St->Prop}
  (S:∀ce' cs' M',vX {D with es:=D.es++ [x],st:=D.st++ [false]} d ce' cs' M'->FrD d ce cs ce' cs' ⟨bs,fz,ar⟩ M'->Q .ret ⟨[(4,pI 0)],M'⟩):
  pwp C nb na Oo Q ⟨[(2, .ptr pb 0),(3, .ptr xb 0)],⟨bs,fz,ar⟩⟩:=by
 have a:=h.box;rw[jC]at a;simp only at a;have v:d<bs.length:=(V.1 a).1;have A:pb<bs.length:=(V.1 w).1;have i:=h.nb;simp only at i;obtain⟨Z,o2,o3⟩:=CB h.ent;obtain⟨u1,u2,u3⟩:=CB h.str;have t:=aa7 (x.ns.map ay) wB (by simp;omega);have aqN:xb<bs.length:=(V.1 m).1;obtain⟨p1,p2,ex,u⟩:=ahq hc;rw[Oo];simp only[w,A,v,a,m,aqN,RN,E,H,O];refine akl (zH (u _ _)) rfl t rfl (by simp only[List.all_cons,List.all_nil,ai6 (IK _),br]) rfl ?_;simp only[DV.strip,RN,E,H,O];refine wY h.ent (by decide) (by intro y n;simp only[ae]at n;subst n;rfl) (by simp) (by simp;omega) fun k ver st o G I J K L _=> ?_
 obtain⟨e,F⟩:=h.apL (k:=k) (ver:=ver) (st:=st) (es:=D.es++ [x]) (ar':=o) G (by rw[I];simp[Fv]) J K L;simp only[a,i,dJ,dO,RN,H,O];obtain⟨B,q⟩:∃B,B=bs.set d (some (jC D.su (.tsl k ver 0) cs)):=⟨_,rfl⟩
 have r:bs.set d (some [.d (.aP D.su.cs), .d (sF (D.su.days.map Bv)), .tsl k ver 0,cs])=B:=by rw[q,jC]
 rw[<-q]at e F;simp only[r];have b:=e.box;rw[jC]at b;simp only at b;have s:d<B.length:=(V.1 b).1;have f:=e.nb;simp only at f;have g:B[pb]?=some (some [.ptr d 0]):=by rw[q,am (Ne.symm z)];exact w
 have aqb:pb<B.length:=(V.1 g).1;simp only[g,aqb,s,b,jm,RN,H,O];refine wY e.str (by decide) (by intro y n;simp only[ae]at n;subst n;rfl) (by simp) (by simp;omega) fun W UF X p b1 b2 b3 M Y N=> ?_
 have j:=N rfl;subst j;obtain⟨P,R⟩:=e.apN (k:=W) (ver:=UF) (l:=D.st++ [false]) (ar':=p) b1 (by rw[b2];simp) b3 M;simp only[b,f,dJ,dO,RN,H,O];refine S _ _ _ P ?_;rw[<-jC];exact F.trans R
def Vu:aA:=
(.seq
 (rg [
  oa 2 (.box 0) 0,
  oa 3 (.box 1) 1,
  mk 4 (kI 0)] 2 [2,3])
 (.seq
 (.seq
  (rg [
   lo 9 2,
   oa 10 (.gG 224) 9,
   oa 11 (.un .not) 10] 0 [2,3,11])
  (.cond (.t 11)
  (.seq
   (rg [
    mk 4 (kI 1)] 0 [4])
   .ret)
  .skip))
 (.seq
  (.seq
  (rg [
   oa 12 (.load true 2) 3,
   oa 13 (.gG 225) 12,
   oa 14 (.un .not) 13] 0 [2,3,14])
  (.cond (.t 14)
   (.seq
   (rg [
    mk 4 (kI 2)] 0 [4])
   .ret)
   .skip))
  (.seq
  (.seq
   (rg [
    lo 15 2,
    oa 16 .bg 15,
    oa 17 (.fld 2) 16,
    lo 18 17,
    oa 19 .len 18,
    oc 20 (.bin .eql) 19 (kI 24)] 0 [2,3,20])
   (.cond (.t 20)
   (.seq
    (rg [
     mk 4 (kI 3)] 0 [4])
    .ret)
   .skip))
  (.seq
   (.region false [
    oa 21 (.load true 2) 3,
    oa 22 (.yC 226) 21,
    on 5 (.alloc 0 [.nilIface]) [],
    os (.store 1) [.t 5, .t 22] 0] 1 [2,3,5] [5])
   (.seq
   (.seq
    (rg [
     lo 23 5,
     lo 24 2,
     ob 25 (.inv "tellurion/journeyman.fine") 23 24,
     oa 26 (.un .not) 25] 0 [2,3,5,26])
    (.cond (.t 26)
    (.seq
     (rg [
      mk 4 (kI 2)] 0 [4])
     .ret)
    .skip))
   (.seq
    (rg [
     ob 27 (.mkF (.func 227) 0) 5 2,
     oa 28 (.call 220) 27,
     mv 6 28] 0 [2,3,5,6])
    (.seq
    (.seq
     (rg [
      mv 29 6,
      oc 30 (.bin .neq) 29 (kI 0)] 0 [2,3,5,6,30])
     (.cond (.t 30)
     (.seq
      (rg [
       mv 31 6,
       mv 4 31] 0 [4])
      .ret)
     .skip))
    (.seq
     (.seq
     (.region false [
      lo 33 5,
      oa 34 (.tas T.bI (.agg [dI 0])) 33,
      mv 32 34,
      oa 35 (.ext 0) 32,
      oa 36 (.ext 1) 32,
      on 7 (.alloc 0 [dI 0]) [],
      os (.store 1) [.t 7, .t 35] 0,
      mv 8 36] 1 [2,3,7,8] [7])
     (.seq
      (rg [
       mv 37 8] 0 [2,3,7,37])
      (.cond (.t 37)
      (.region true [
       of 38 (.load false 1) [.t 2] 2,
       oa 39 .bg 38,
       of 40 (.fld 3) [.t 39] 2,
       of 41 (.load false 1) [.t 40] 2,
       of 42 (.fld 0) [.t 7] 1,
       of 43 (.load false 1) [.t 42] 1,
       ob 44 (.bH 1) 41 43,
       os (.store 1) [.t 44, .c (.bool true)] 3] 0 [2,3] [])
      .skip)))
     Oo)))))))))
def ZH:pJ=Vu:=rfl
def ad5 {ce cs:PV}(h:vX D d ce cs M)(q:D.Ok)(x:En){c:PV}(hc:aaE c (x.ns.map ay) M.aC)(a0:∀k,kOf c=some k->kOf cs≠some k){KP:DV->Mem->Prop}:
  SC C 154 [.ptr d 0,zX [pI x.kind,c]] M (fun p M'=>p= .d (dI (D.enter x).2)/\∃ce' cs',vX (D.enter x).1 d ce' cs' M'/\FrD d ce cs ce' cs' M M') KP:=by
 obtain⟨bs,fz,ar⟩:=M;have o:=h.box;rw[jC]at o;simp only at o hc;obtain⟨p1,p2, -⟩:=ahq hc;obtain⟨y1,y2,y3,ey,Y⟩:=anm hc x.kind;rw[y1];have aL:d<bs.length:=(V.1 o).1;have Dp:∀i∈fz,i<bs.length:=h.fzb
 have a4:bs.length∉fz:=fun e=>be _ (Dp _ e)
 have aR:∀k,bs.length+k∉fz:=fun k e=>by have:=Dp _ e;omega
 have a1:¬d=bs.length:=by omega
 have a2:∀k,¬d=bs.length+k:=fun k=>by omega
 have a3:∀k,d<bs.length+k:=fun k=>by omega
 have a5:¬bs.length+1=bs.length:=by omega
 have a6:¬bs.length+2=bs.length:=by omega
 have a7:¬bs.length+2=bs.length+1:=by omega
 have s:Frm ⟨bs,fz,ar⟩ ⟨bs++ [some [.ptr d 0],some [pI x.kind,c]],fz,ar⟩:=Frm.new (xf:=[]) (by simp);obtain⟨e1,e2,aM⟩:=Lm (h.frm s);have ae:=abV x;rw[Fv]at ae;have ac:D.es.length<=24:=q.few;have av:D.st.length<=24:=by rw[<-q.len];exact q.few
 refine aB pJ aH ?_;rw[ZH];simp only[Vu,aH,iR,aX,mO,bJ,X,bt,C9,RX,y2,y3,RN,E,H,O];refine kR (zH aM) rfl (Y7 e1 e2 D) rfl ?_;simp only[iR,X,RN,E,H,O];refine kR (zH (Y _ _)) rfl ae rfl ?_;cases f:x.formed
 ·(try simp only[RN,E])
  have u:D.enter x=(D,2):=by simp[Dk.enter,f]
  rw[u];exact⟨rfl,_,_,h.frm s,s.frD⟩
 simp only[o,aL,dG,aX,X,RN,E,H,O];rw[QA h.ent]
 by_cases r:D.es.length=24
 ·have hb:(((D.es.map En.dv).length:Int)==24)=true:=by simp[r]
  simp only[hb,RN,E];have u:D.enter x=(D,3):=by simp[Dk.enter,f,r]
  rw[u];exact⟨rfl,_,_,h.frm s,s.frD⟩
 have hb:(((D.es.map En.dv).length:Int)==24)=false:=by simp;omega
 have W:=QY x (BD f);rw[Fv]at W;simp only[hb,iR,bh,X,RN,E,H,O];refine akm (zH (Y _ _)) rfl W (De.Rt _) ?_;have aqn:=(De.one x.deed).1;have aqo:=(De.one x.deed).2;simp only[aqn,aqo,iR,aX,mO,X,aR,RN,E,H,O];have j:Frm ⟨bs,fz,ar⟩ ⟨bs++ [some [.ptr d 0],some [pI x.kind,c],some [.d x.deed.dv]],(bs.length+2)::fz,ar⟩:=Frm.new (xf:=[bs.length+2]) (by simp);refine ahD (h.frm j) q x.deed ?_;cases m:D.lG x.deed
 ·(try simp only[RN,E])
  have u:D.enter x=(D,2):=by simp[Dk.enter,f,r,m]
  rw[u];exact⟨rfl,_,_,h.frm j,j.frD⟩
 have aD:mg D.su D.su.sp0 x.deed:=adg f m;simp only[kQ,bu,RN,E];obtain⟨B,P⟩:∃B,B=bs++ [some [.ptr d 0],some [pI x.kind,c],some [.d x.deed.dv]]:=⟨_,rfl⟩
 obtain⟨Z,hZ⟩:∃Z,Z=(bs.length+2)::fz:=⟨_,rfl⟩
 have Q:B.length=bs.length+3:=by rw[P];simp
 have R:B[bs.length]?=some (some [.ptr d 0]):=by rw[P,aX rfl];rfl
 have ax:B[bs.length+1]?=some (some [pI x.kind,c]):=by rw[P,iR rfl];rfl
 rw[<-P,<-hZ]at j;simp only[<-P,<-hZ];have az:Frm ⟨B,Z,ar⟩ ⟨B++ [some [pI 0]],Z,ar⟩:=Frm.new (xf:=[]) (by simp);have abG:=j.trans az;have z0:((0:Int) !=0)=false:=rfl;have z7:((7:Int) !=0)=true:=rfl;refine Qw (fs:=[]) (cs:=[.d (.aP [x.deed.dv]), .ptr bs.length 0]) (j.fzb h.fzb) (by kernel_rfl) ?_;refine SC.kU (SC.mono (ae1 (h.frm abG) q x.deed m aD (pb:=bs.length) ?_) ?_) ?_
 ·simp only;rw[ai (by omega)];exact R
 ·rintro v ⟨a,g,ar'⟩ ⟨g1,A⟩
  have b:=abG.trans A;have S:=h.frm b;have J:=b.len;simp only at J;have z:a[bs.length]?=some (some [.ptr d 0]):=by
   have:=A.box bs.length (by simp only[X,Q];omega);simp only at this;rw[this,ai (by omega)];exact R
  have K:a[bs.length+1]?=some (some [pI x.kind,c]):=by
   have:=A.box (bs.length+1) (by simp only[X,Q];omega);simp only at this;rw[this,ai (by omega)];exact ax
  have ap:aaE c (x.ns.map ay) ar':=adf hc fun k _ h2=>b.row k h2
  have F:a[B.length]?=some (some [pI 0]):=by
   have:=A.box B.length (by simp);simp only at this;rw[this,aX rfl];rfl
  have G:B.length∉g:=fun e=>by
   have:=(A.fz B.length (by simp)).1 e;simp only at this;have h5:=j.fzb h.fzb _ this;simp only at h5;omega
  refine⟨F,G,?_⟩;have u:D.enter x=(D.with x,0):=by simp[Dk.enter,f,r,m,g1]
  rw[u];have ahZ:=S.fzb;have w:a.length∉g:=fun e=>be _ (ahZ _ e)
  have ao:bs.length≠d:=by omega
  have apC:bs.length+1<a.length:=(V.1 K).1;have an9:bs.length<a.length:=(V.1 z).1;simp only[z0,RN,E,O]
  by_cases N:∃n,x.deed= .strike n
  ·obtain⟨n,N⟩:=N
   have hx:(De.strike n).dv= .iface T.bI (.agg [dI n]):=rfl;have L:(0<=n/\n<=(D.es.length:Int) - 1)/\n.toNat<D.st.length:=by
    rw[N]at m;simp only[Dk.lG,inR,ab,decide_eq_true_eq]at m;have:=q.len;omega
   have anR:=S.box;rw[jC]at anR;simp only at anR;have aql:d<a.length:=by omega
   obtain⟨k2,UF,a8,rfl,an,_,t⟩:=uX h.str (by intro e;simp at e;rw[e]at L;simp at L);have t:=t rfl;subst t;have I:ar'[k2]?=some (some ⟨1,D.st.map .bool,UF,1⟩):=(b.row k2 (V.1 an).1).trans an;have aqv:=(V.1 I).1;have aqm:∀k,d<a.length+k:=fun k=>by omega
   have aqH:∀k,bs.length<a.length+k:=fun k=>by omega
   rw[N,hx];simp only[ny,z,anR,aql,an9,aqm,aqH,dG,aX,bJ,w,X,I,L.1.1,L.2,U,RN,E,H,O];refine rF (ds:=[.bool true]) I rfl (by decide) rfl rfl (by rw[getD_map L.2];exact cp 1) ?_;have aq:(D.st.map DV.bool).set n.toNat (setCells ((D.st.map DV.bool).getD n.toNat default) 0 [.bool true])=(D.st.set n.toNat true).map .bool:=by
    rw[List.map_set,getD_map L.2];rfl
   rw[aq];have l:Frm ⟨bs,fz,ar⟩ ⟨a++ [some [pI n]],a.length::g,ar'⟩:=b.trans (Frm.new (xf:=[a.length]) (by simp));obtain⟨q3,q4⟩:=(h.frm l).row aqv (D.st.set n.toNat true);refine O1 q3 x (by have:=RD f;omega) (aE ac (by decide)) (by rw[bt];exact aE av (by decide)) (pb:=bs.length) (by rw[ai an9];exact z) ao (xb:=bs.length+1) (c:=c) (by rw[ai apC];exact K) (adf ap fun k h1 _=>am (fun e=>a0 k h1 (by rw[<-e];rfl))) fun ce' cs' M' q1 q2=> ?_
   (try simp only[RN]);have hw:D.with x={D with es:=D.es++ [x],st:=D.st.set n.toNat true++ [false]}:=by
    unfold Dk.with
    rw[N];rfl
   rw[hw];exact⟨_,_,q1,(l.frD.trans q4).trans q2⟩
  ·have hy:∀n,x.deed≠ .strike n:=fun n e=>N ⟨n,e⟩
   have hx:x.deed.dv= .iface x.deed.ty x.deed.cs:=rfl;rw[hx];simp only[fM (amT hy),aX,bJ,w,X,RN,E,O];have l:Frm ⟨bs,fz,ar⟩ ⟨a++ [some [pI 0]],a.length::g,ar'⟩:=b.trans (Frm.new (xf:=[a.length]) (by simp));refine O1 (h.frm l) x (by have:=RD f;omega) (aE ac (by decide)) (aE av (by decide)) (pb:=bs.length) (by rw[ai an9];exact z) ao (xb:=bs.length+1) (c:=c) (by rw[ai apC];exact K) ap fun ce' cs' M' q1 q2=> ?_
   (try simp only[RN]);have hw:D.with x={D with es:=D.es++ [x],st:=D.st++ [false]}:=by
    unfold Dk.with
    cases hd:x.deed with
    |strike n=>exact absurd hd (hy n)
    | _=>rfl
   rw[hw];exact⟨_,_,q1,l.frD.trans q2⟩
 ·rintro dd ⟨a,g,ar'⟩ ⟨g1,A,g3⟩
  have b:=abG.trans g3;have J:=g3.len;simp only[X,aw,bk]at J;have F:a[B.length]?=some (some [pI 0]):=by
   have:=g3.box B.length (by simp);simp only at this;rw[this,aX rfl];rfl
  have G:B.length∉g:=fun e=>by
   have:=(g3.fz B.length (by simp)).1 e;simp only at this;have h5:=j.fzb h.fzb _ this;simp only at h5;omega
  have ahZ:=b.fzb h.fzb;have w:a.length∉g:=fun e=>be _ (ahZ _ e)
  have u:D.enter x=(D,7):=by simp[Dk.enter,f,r,m,g1]
  refine⟨F,G,w, .inl ⟨A,fun y=> ?_⟩⟩;rw[u];simp only[z7,RN,E];have l:Frm ⟨bs,fz,ar⟩ ⟨(a++ [y]).set B.length (some [pI 7]),g,ar'⟩:=b.ajy (by simp only;omega);exact⟨_,_,h.frm l,l.frD⟩
def agB {ce cs:PV}(h:vX D d ce cs M)(a:D.Ok)(x:En){KP:DV->Mem->Prop}:
  SC C 154 [.ptr d 0, .d x.dv] M (fun p M'=>p= .d (dI (D.enter x).2)/\∃ce' cs',vX (D.enter x).1 d ce' cs' M'/\FrD d ce cs ce' cs' M M') KP:=by
 have:=ad5 h a x (.inl ⟨false,rfl⟩) (fun _ h=>by cases h) (KP:=KP);rw[Fv];exact this
def nS (f1 f2 e1 e2:Bool)(D:Dk)(t:Sp):List DV:=[.aP (t.cells f1 f2 D.su), .aP (J8 e1 e2 D)]
def yH (f1 f2 e1 e2:Bool)(D:Dk)(t:Sp):DV:= .agg (nS f1 f2 e1 e2 D t)
def iQ {f1 f2 e1 e2:Bool}{t:Sp}:yH f1 f2 e1 e2 D t= .agg [.aP (t.cells f1 f2 D.su), .aP (J8 e1 e2 D)]:=rfl
def Ans (f:FuncId)(ds:List DV)(l:List Int)(e:Int):Prop:=
 Pure C f ds (.tup [.tsl 0 0 0,pI e]) [⟨1,l.map ay,0,yE l⟩]\/(l=[]/\Pure C f ds (.d (.tup [.slice true [],dI e])) [])
variable{f:FuncId}{ds:List DV}{l:List Int}{e:Int}
def gW (a:SC C f (ds.map .d) bG (fun p M=>∃c,p= .tup [c,pI e]/\Jj M c 1 (l.map ay) (yE l)) (fun _ _=>False)):Ans f ds l e:=by
 refine .inl (EN (SC.mono a fun p M h=> ?_));obtain⟨c,rfl,k,ver,rfl,h⟩:=h;refine⟨[(k,0)],⟨fun q b=>by simp only[ae]at b;subst b;simp[BK,h],by simp⟩,?_,?_⟩
 ·simp[ren,ai2,Ti,Mem.row,h,Nb]
 ·simp[mkRow,h]
def Bo (hl:l=[])(h:Pure C f ds (.d (.tup [.slice true [],dI e])) []):Ans f ds l e:= .inr ⟨hl,h⟩
variable{base:Nat}{K:PV->Mem->Prop}{KP:DV->Mem->Prop}{k:IntKind}
def zM {C:Ctx}{z:DV}{n:Int}:au C base (.ng 1 [z] [0]) [.d (.int k n)] M K KP=K (.tsl M.aC.length 0 0) {M with aC:=M.aC++ [some ⟨1,[.int k n],0,1⟩]}:=
 II rfl (by decide)
variable{k':IntKind}
def abl {C:Ctx}{z1 b:DV}{n a:Int}:au C base (.ng 1 [z1,b] [0,1]) [.d (.int k n), .d (.int k' a)] M K KP=K (.tsl M.aC.length 0 0) {M with aC:=M.aC++ [some ⟨1,[.int k n, .int k' a],0,1⟩]}:=by
 simp[au,gV,qJ,DV.strip,DV.cells,DV.fits,DV.one]
def abm {C:Ctx}{z1 c e:DV}{a:IntKind}{n b n2:Int}:au C base (.ng 1 [z1,c,e] [0,1,2]) [.d (.int k n), .d (.int k' b), .d (.int a n2)] M K KP=K (.tsl M.aC.length 0 0) {M with aC:=M.aC++ [some ⟨1,[.int k n, .int k' b, .int a n2],0,1⟩]}:=by
 simp[au,gV,qJ,DV.strip,DV.cells,DV.fits,DV.one]
section
variable (f1 f2 e1 e2:Bool){D:Dk}{t:Sp}(ns:List Int)
def aow:Ans 244 [yH f1 f2 e1 e2 D t,sF (ns.map ay)] [t.lF] 0:=by
 refine gW (aB qQ bn ?_);simp only[qQ,bn,iQ,cu,zM,bD,dV,RN,E,H,O];exact⟨_,rfl,0,0,rfl,rfl⟩
def anc (a:D.Ok)(d:ns.length=1):Ans 243 [yH f1 f2 e1 e2 D t,sF (ns.map ay)] [(D.su.dvd.cuts (ns.getD 0 default)).1.circle,(D.su.dvd.cuts (ns.getD 0 default)).1.turns,(D.su.dvd.cuts (ns.getD 0 default)).1.holes] (D.su.dvd.cuts (ns.getD 0 default)).2:=by
 have b:=aaD D.su.dvd (ns.getD 0 default) (by have:=(Su.QB a.su).ci;omega);rw[Eu,Q5]at b;have c:0<ns.length:=by omega
 refine gW (aB qP bn ?_);simp only[qP,bn,iQ,cu,j0,t0,c,U,getD_map,aW,RN,E,H,I,O];refine ak b ?_;simp only[abm,av,bD,dV,RN,E,H,J,O];exact⟨_,rfl,0,0,rfl,rfl⟩
def anb (c:D.Ok)(e:Gn D.su 24 t)(g:ns.length=1):Ans 237 [yH f1 f2 e1 e2 D t,sF (ns.map ay)]
  (if inR (ns.getD 0 default) 0 (D.su.pc.hands.length - 1)then[KC D.su t (ns.getD 0 default).toNat]else[]) (if inR (ns.getD 0 default) 0 (D.su.pc.hands.length - 1)then 0 else 2):=by
 have hi:=GR e1 e2 D (by have:=c.small;omega) (ns.getD 0 default);rw[vw]at hi;have d:0<ns.length:=by omega
 cases h1:inR (ns.getD 0 default) 0 ((D.su.pc.hands.length:Int) - 1)
 ·refine Bo (by simp) (ah jg bn ?_)
  simp only[jg,bn,iQ,j0,t0,d,U,getD_map,aW,RN,E,H,O];refine ak hi ?_;simp only[h1,RN,E];simp
 ·have hh:0<=ns.getD 0 default/\ns.getD 0 default<=(D.su.pc.hands.length:Int) - 1:=by simpa[inR]using h1
  obtain⟨a,b⟩:∃a:Nat,ns.getD 0 default=a:=⟨(ns.getD 0 default).toNat,by omega⟩
  have f:=adM f1 f2 D.su t a e.pc (by rw[e.hh];omega);rw[b]at h1 hi⊢;refine gW (aB jg bn ?_);simp only[jg,bn,iQ,j0,t0,d,U,getD_map,aW,b,RN,E,H,O];refine ak hi ?_;simp only[h1,j0,t0,d,U,getD_map,aW,b,RN,E,H,O];refine ak f ?_;simp only[zM,bD,dV,if_true,Y,RN];exact⟨_,rfl,0,0,rfl,rfl⟩
end
def Vb:List Int->Int->Int->Int
 | [],_,l=>l
 |s::r,a,l=>Vb r a (if s<=a then s else l)
def Sp.turns (t:Sp)(day:Int):Int:=day - Vb t.sets day 0
section
variable (f1 f2 e1 e2:Bool){D:Dk}{t:Sp}(ns:List Int)
def Yd (h:Gn D.su 24 t)(day:Int)(hd:0<=day/\day<=1000000):Pure C 295 [yH f1 f2 e1 e2 D t,dI day] (pI (t.turns day)) []:=by
 have n:=h.se;refine ah pW aH ?_;simp only[pW,aH,iQ,cu,U,RN,E,H,O];refine aG t.sets.length (fun i (a:Int)=>⟨[(1,pI day),(5,pI a),(12, .d (.slice f2 (t.sets.map ay))),(13,pI t.sets.length),(14,pI i)],⟨[some [.d (.aP (t.cells f1 f2 D.su)), .d (.aP (J8 e1 e2 D))]],[0],[]⟩⟩)
  (fun i a=>Vb t.sets day 0=Vb (t.sets.drop i) day a/\0<=a/\a<=366) 0 0 (an _) (by rw[cu];rfl) ⟨rfl,by decide,by decide⟩ (fun i a f e=> ?_) (fun a e=> ?_)
 ·obtain⟨l,m,g⟩:=rng f (by omega)
  obtain⟨c,j,k⟩:=e;rw[drop_cons f,Vb]at c;have o:=h.sv _ (getD_mem f);simp only[l,m,f,getD_map,aW,Y,U,RN,E,O]
  by_cases b:t.sets.getD i default<=day
  ·rw[if_pos b]at c
   simp only[b,g,RN,E];exact dH (t.sets.getD i default) f rfl ⟨c,by omega,by omega⟩
  ·rw[if_neg b]at c
   simp only[b,g,RN,E];exact dH a f rfl ⟨c,j,k⟩
 ·obtain⟨c,j,k⟩:=e
  rw[a7,Vb]at c;have w1:cC .i64 (day - a)=day - a:=aF (by omega);simp only[ao,w1,RN,E];simp only[Sp.turns,c]
def apQ (b:D.Ok)(e:Gn D.su 24 t)(l:ns.length=2):Ans 239 [yH f1 f2 e1 e2 D t,sF (ns.map ay)]
  (if inR (ns.getD 0 default) 0 (D.su.pc.hands.length - 1)&&inR (ns.getD 1 default) 1 D.su.days.length then[(wM t.pc (ns.getD 0 default) (t.tg.getD (ns.getD 0 default).toNat default) (t.turns (ns.getD 1 default))).1]else[])
  (if inR (ns.getD 0 default) 0 (D.su.pc.hands.length - 1)&&inR (ns.getD 1 default) 1 D.su.days.length then(wM t.pc (ns.getD 0 default) (t.tg.getD (ns.getD 0 default).toNat default) (t.turns (ns.getD 1 default))).2 else 2):=by
 have hi:=GR e1 e2 D (by have:=b.small;omega) (ns.getD 0 default);have hd:=Qv e1 e2 D (ns.getD 1 default);rw[vw]at hi hd;have f:(0:Int)<=1:=by omega
 have c:0<ns.length:=by omega
 have l1:1<ns.length:=by omega
 have k:=b.small;cases h1:inR (ns.getD 0 default) 0 ((D.su.pc.hands.length:Int) - 1)
 ·refine Bo (by simp) (ah fE bn ?_)
  simp only[fE,bn,iQ,j0,t0,c,U,getD_map,aW,RN,E,H,O];refine ak hi ?_;simp only[h1,RN,E];simp
 cases h2:inR (ns.getD 1 default) 1 (D.su.days.length:Int)
 ·refine Bo (by simp) (ah fE bn ?_)
  simp only[fE,bn,iQ,j0,t0,c,U,getD_map,aW,RN,E,H,O];refine ak hi ?_;simp only[h1,f,t1,l1,U,getD_map,aW,RN,E,H,O];refine ak hd ?_;simp only[h2,RN,E];simp
 have hh:0<=ns.getD 0 default/\ns.getD 0 default<=(D.su.pc.hands.length:Int) - 1:=by simpa[inR]using h1
 have i:1<=ns.getD 1 default/\ns.getD 1 default<=(D.su.days.length:Int):=by simpa[inR]using h2
 have h:=Di D.su;have j:=Pc.CY e.pc;have a:=Yd f1 f2 e1 e2 (D:=D) e (ns.getD 1 default) (by omega);have g:=ac1 t.pc (by omega) (by omega) (ns.getD 0 default) (t.tg.getD (ns.getD 0 default).toNat default) (t.turns (ns.getD 1 default));have d:(ns.getD 0 default).toNat<t.tg.length:=by rw[e.tl];omega
 rw[iQ]at a;rw[lU,aS]at g;simp only[Bool.and_self,if_true];refine gW (aB fE bn ?_);simp only[fE,bn,iQ,j0,t0,c,U,getD_map,aW,RN,E,H,O];refine ak hi ?_;simp only[h1,f,t1,l1,U,getD_map,aW,RN,E,H,O];refine ak hd ?_;rw[cu]at a;simp only[h2,cu,j0,t0,c,f,t1,l1,U,getD_map,aW,hh.1,d,aS,RN,E,H,O];refine ak a ?_;(try simp only[RN,E,H,I,J,N,O]);refine ak g ?_;simp only[zM,bD,dV,RN];exact⟨_,rfl,0,0,rfl,rfl⟩
def anf (h:D.Ok)(r:ns.length=1):Ans 242 [yH f1 f2 e1 e2 D t,sF (ns.map ay)]
  (if inR (ns.getD 0 default) 1 D.su.days.length then[(QX D.su.cal D.su.year.toNat (D.su.first+(ns.getD 0 default - 1))).m,(QX D.su.cal D.su.year.toNat (D.su.first+(ns.getD 0 default - 1))).d]else[])
  (if inR (ns.getD 0 default) 1 D.su.days.length then 0 else 2):=by
 have hd:=Qv e1 e2 D (ns.getD 0 default);rw[vw]at hd;have j:0<ns.length:=by omega
 cases h2:inR (ns.getD 0 default) 1 (D.su.days.length:Int)
 ·refine Bo (by simp) (ah jh bn ?_)
  simp only[jh,bn,iQ,j0,t0,j,U,getD_map,aW,RN,E,H,O];refine ak hd ?_;simp only[h2,RN,E];simp
 have n:1<=ns.getD 0 default/\ns.getD 0 default<=(D.su.days.length:Int):=by simpa[inR]using h2
 have l:=Di D.su;obtain⟨a,e⟩:∃a:Nat,ns.getD 0 default=((a+1:Nat):Int):=⟨(ns.getD 0 default - 1).toNat,by omega⟩
 have b:a<D.su.days.length:=by omega
 have w1:cC .i64 (((a+1:Nat):Int) - 1)=(a:Int):=by rw[aF (by omega)];omega
 have p:(0:Int)<=(a:Int):=by omega
 have f:a<D.su.dur:=by simpa[Su.days,Su.vZ]using b
 have g:D.su.days.getD a default=(D.su.first+a,D.su.works (D.su.first+a)):=by
  simp only[Su.days,Su.vZ,aq,ck,ca f,b7,ax]
 obtain⟨u,_,_,_,q,_,_,v,_⟩:=Su.facts h.su;have o:=Ez D.su.cal D.su.year.toNat;have k:=D.su.cal.nY D.su.year.toNat;have c:=amW D.su.cal D.su.year.toNat (D.su.first+a) q (by omega) (by simp only[Su.first];omega) (by
  have e1:D.su.cal.first (D.su.year.toNat+1)=D.su.cal.first D.su.year.toNat+Et (D.su.cal.leap D.su.year):=by
   rw[Cal.first];rw[show((D.su.year.toNat:Nat):Int)=D.su.year by omega]
  have e2:(D.su.dur:Int)=Et (D.su.cal.leap D.su.year):=by
   have:=wS (D.su.cal.leap D.su.year);simp only[Su.dur];split at this<;>omega
  rw[e1,<-e2,Su.first];omega)
 have s:(ns.getD 0 default - 1)=(a:Int):=by omega
 rw[nU,Bz]at c;rw[e]at hd h2;refine gW (aB jh bn ?_);simp only[jh,bn,iQ,j0,t0,j,U,getD_map,aW,e,RN,E,H,O];refine ak hd ?_;simp only[h2,cu,j0,t0,j,U,getD_map,aW,e,w1,p,b,Y,abf,g,RN,E,H,I,O];refine ak c ?_;simp only[abl,av,bD,dV,if_true,RN,E,H,J,O];refine⟨_,rfl,0,0,rfl,?_⟩;have i:(((a+1:Nat):Int) - 1)=(a:Int):=by omega
 rw[i]
 rfl
end
def wz (p:Int->Bool):Nat->Int->Option Int
 |0,_=>none
 |k+1,n=>if p n then some n else wz p k (n+1)
def Dk.Fh (D:Dk)(d:Int):Bool:=(D.su.days.getD (d - 1).toNat default).2
section
variable (f1 f2 e1 e2:Bool){D:Dk}{t:Sp}(ns:List Int)
def ajX (d:Int)(hd:1<=d/\d<=D.su.days.length):Pure C 297 [dI d, .aP (nS f1 f2 e1 e2 D t)] (.d (.bool (D.Fh d))) []:=by
 have a:=Di D.su;have w1:cC .i64 (d - 1)=d - 1:=aF (by omega);have j0:0<=d - 1:=by omega
 have b:(d - 1).toNat<D.su.days.length:=by omega
 refine ah nN JO ?_;simp only[nN,JO,nS,cu,w1,j0,b,U,getD_map,abf,RN,E,H,O]
 rfl
def abu (a b:Int)(fn:FuncId)(c:List DV)(p:Int->Bool)(m:1<=a/\a<=b/\b<=1000000)(hc:callable C.P fn=true)(j:∀x,1<=x->x<=b->Pure C fn ([dI x]++c.map DV.strip) (.d (.bool (p x))) []):
  Pure C 296 [dI a,dI b, .func (.func fn) [] c] (.d (.tup [dI ((wz p (b+1 - a).toNat a).getD 0), .bool (wz p (b+1 - a).toNat a).isSome])) []:=by
 refine ah sV P6 ?_;simp only[sV,P6,RN,E,H];refine kN (fun(n:Int)=>⟨[(1,pI b),(2, .d (.func (.func fn) [] c)),(8,pI n)],⟨[],[],[]⟩⟩)
  (fun n=>1<=n/\n<=b+1/\wz p (b+1 - a).toNat a=wz p (b+1 - n).toNat n) (fun n=>(b+1 - n).toNat) a rfl ⟨by omega,by omega,rfl⟩ (fun n i=> ?_)
 obtain⟨l,o,e⟩:=i
 by_cases f:n<=b
 ·obtain⟨k,h⟩:∃k,(b+1 - n).toNat=k+1:=⟨(b - n).toNat,by omega⟩
  rw[h,wz]at e;have w1:cC .i64 (n+1)=n+1:=aF (by omega);simp only[f,RN,E];refine ig rfl hc rfl (j n l f) ?_;cases g:p n
  ·rw[g]at e
   simp only[cf,if_false]at e;simp only[w1,RN,E];exact rO (a:=n) (μ:=fun n=>(b+1 - n).toNat) (n+1) (by show(b+1 - (n+1)).toNat<(b+1 - n).toNat;omega) rfl ⟨by omega,by omega,by rw[e,show(b+1 - (n+1)).toNat=k by omega]⟩
  ·rw[g]at e
   simp only[if_true]at e;simp only[e,ax,bp,RN,E]
 ·rw[show(b+1 - n).toNat=0 by omega,wz]at e
  simp only[f,e,bL,bo,RN,E]
def amn (g:D.Ok)(h:ns.length=1):Ans 241 [yH f1 f2 e1 e2 D t,sF (ns.map ay)]
  (if inR (ns.getD 0 default) 1 D.su.days.length then(match wz D.Fh ((D.su.days.length:Int)+1 - ns.getD 0 default).toNat (ns.getD 0 default)with|some d=>[d]|none=>[])else[])
  (if inR (ns.getD 0 default) 1 D.su.days.length then(match wz D.Fh ((D.su.days.length:Int)+1 - ns.getD 0 default).toNat (ns.getD 0 default)with|some _=>0|none=>5)else 2):=by
 have hd:=Qv e1 e2 D (ns.getD 0 default);rw[vw]at hd;have b:0<ns.length:=by omega
 cases h2:inR (ns.getD 0 default) 1 (D.su.days.length:Int)
 ·refine Bo (by simp) (ah eu bn ?_)
  simp only[eu,bn,iQ,j0,t0,b,U,getD_map,aW,RN,E,H,O];refine ak hd ?_;simp only[h2,RN,E];simp
 have f:1<=ns.getD 0 default/\ns.getD 0 default<=(D.su.days.length:Int):=by simpa[inR]using h2
 have e:=Di D.su;have a:=abu (ns.getD 0 default) (D.su.days.length:Int) 297 [.aP (nS f1 f2 e1 e2 D t)] D.Fh (by omega) (by kernel_rfl) (fun x h1 h2=>ajX f1 f2 e1 e2 x ⟨h1,h2⟩);simp only[if_true];cases c:wz D.Fh ((D.su.days.length:Int)+1 - ns.getD 0 default).toNat (ns.getD 0 default)with
 |none=>
  rw[c]at a;refine Bo rfl (ah eu bn ?_);simp only[eu,bn,iQ,j0,t0,b,U,getD_map,aW,RN,E,H,O];refine ak hd ?_;simp only[h2,cu,j0,t0,b,U,getD_map,aW,RN,E,H,O];rw[nS,cu]at a;refine ak a ?_;simp only[bo,RN,E]
 |some x=>
  rw[c]at a;refine gW (aB eu bn ?_);simp only[eu,bn,iQ,j0,t0,b,U,getD_map,aW,RN,E,H,O];refine ak hd ?_;simp only[h2,cu,j0,t0,b,U,getD_map,aW,RN,E,H,O];rw[nS,cu]at a;refine ak a ?_;simp only[bp,ax,zM,bD,dV,RN,E];exact⟨_,rfl,0,0,rfl,rfl⟩
def Ye (s:Su)(t:Sp)(turns:Int):List Fr->Nat->Bool
 | [],_=>false
 |f::l,h=> !U9 s t h f turns||Ye s t turns l (h+1)
def VZ (s:Su)(t:Sp)(i:Nat):Bool:=Ye s t (t.turns ((i:Int)+1)) t.tg 0
def wO (s:Su)(t:Sp)(n:Nat):Int:=(((bR n).filter (VZ s t)).length:Nat)
def aaB (s:Su)(t:Sp)(n:Nat):wO s t (n+1)=if VZ s t n then wO s t n+1 else wO s t n:=by
 simp only[wO,b0,List.filter_append,X,List.filter_cons,List.filter_nil]
 split<;>simp
def agx (s:Su)(t:Sp)(n:Nat):0<=wO s t n/\wO s t n<=n:=by
 have:=List.length_filter_le (VZ s t) (bR n);simp only[cl]at this;simp only[wO];omega
def amr (m:D.Ok)(g:Gn D.su 24 t):Ans 240 [yH f1 f2 e1 e2 D t,sF (ns.map ay)] [wO D.su t D.su.days.length] 0:=by
 have p:=Di D.su;have q:=Pc.CY g.pc;have f:0<=D.su.lim/\D.su.lim<=10800:=by simpa[inR]using(Su.facts m.su).2.2.1
 have r:t.tg.length<=4:=by rw[g.tl,<-g.hh];omega
 refine gW (aB pX bn ?_);simp only[pX,bn,iQ,cu,U,RN,E,H,O];refine aG D.su.days.length (fun i (_:Unit)=>⟨[(2, .d (.aP (nS f1 f2 e1 e2 D t))),(6,pI (wO D.su t i)),(15,pI D.su.days.length),(16,pI i)],⟨[some ((nS f1 f2 e1 e2 D t).map .d)],[0],[]⟩⟩)
  (fun _ _=>True) 0 () (an _) (by rw[nS,cu];rfl) trivial (fun i _ k _=> ?_) (fun _ _=> ?_)
 ·obtain⟨o,z,n⟩:=rng k (by omega)
  have s:=agx D.su t i;have x:cC .i64 (wO D.su t i+1)=wO D.su t i+1:=aF (by omega);have y:cC .i64 ((i:Int)+1)=(i:Int)+1:=aF (by omega);have c:=Yd f1 f2 e1 e2 (D:=D) g ((i:Int)+1) (by omega);rw[iQ]at c;have b:=aaB D.su t i;simp only[o,nS,cu,U,RN,E,H,O];refine aG t.tg.length (fun h (_:Unit)=>⟨[(2, .d (.aP (nS f1 f2 e1 e2 D t))),(6,pI (wO D.su t i)),(7,pI i),(15,pI D.su.days.length),(16,pI i),(24, .d (sF (t.tg.map Fr.dv))),(25,pI t.tg.length),(26,pI h)],⟨[some ((nS f1 f2 e1 e2 D t).map .d)],[0],[]⟩⟩)
   (fun h _=>VZ D.su t i=Ye D.su t (t.turns ((i:Int)+1)) (t.tg.drop h) h) 0 () (an _) (by rw[nS,cu];rfl) rfl (fun h _ j a=> ?_) (fun _ a=> ?_)
  ·obtain⟨u,v,w⟩:=rng j (by omega)
   rw[drop_cons j,Ye]at a;have l:=aif f1 f2 D.su t h (t.tg.getD h default) (t.turns ((i:Int)+1)) (by omega) (by omega) f;rw[aS]at l;rw[cu]at c l;simp only[nS,cu,u,v,j,getD_map,aS,Y,U,y,RN,E,H,J,O];refine ak c ?_;(try simp only[RN,E,H,I,J,N,O]);refine ak l ?_;cases e:U9 D.su t h (t.tg.getD h default) (t.turns ((i:Int)+1))
   ·rw[e]at a
    simp only[cr,Bool.true_or]at a;rw[if_pos a]at b;simp only[x,n,RN,E,H];refine bQ 1 0 () k ?_ trivial (by simp) (by simp) rfl rfl;rw[b];rfl
   ·rw[e]at a
    simp only[cv,Bool.false_or]at a;simp only[w,RN,E,H];exact bQ 1 0 () j rfl a (by simp) (by simp) rfl rfl
  ·rw[a7,Ye]at a
   rw[if_neg (by rw[a];simp)]at b;simp only[ao,n,RN,E];refine dH () k ?_ trivial;rw[b,nS,cu];rfl
 ·simp only[ao,zM,bD,dV,RN,E]
  exact⟨_,rfl,0,0,rfl,rfl⟩
end
end Go.Tel
namespace Go.Am
section
variable {C:Ctx}{base:Nat}{KP:DV->Mem->Prop}{K:PV->Mem->Prop}{M:Mem}
def ace {ok:Bool}{ks:List Nat}{z k:DV}{l:List (DV×DV)}(r:Option DV)(h1:iP ks k k=some true)(h2:qp ks l k=some r)(a:K (.d (GI ok z r)) M):au C base (.Jg ok ks z) [.d (.map (some l)), .d k] M K KP:=by
 simp only[au,h1,h2];exact a
def YM {z1 h i:DV}{e f g:IntKind}{a b c:Int}:au C base (.dU 1 [z1,h,i] [0,1,2]) [.d (.int e a), .d (.int f b), .d (.int g c)] M K KP=K (.d (.slice true [.int e a, .int f b, .int g c])) M:=by
 have:=BG (M:=M) (ds:=[DV.int e a, .int f b, .int g c]);simp only[bi,bz]at this;simp[au,bV,datum,qJ,this,DV.strip,DV.cells]
end
end Go.Am
namespace Go.Tel
open Go.Am
def ajH {α:Type}{l:List α}{x y:α}:yE (l++ [x,y])=1:=by cases l<;>rfl
def TV {α:Type}{l:List α}{x y z:α}:yE (l++ [x,y,z])=1:=by cases l<;>rfl
def EO (p:Pc)(h:Int):List Int:=[((nG p).getD h.toNat default).n,((nG p).getD h.toNat default).d]
def ahT (p:Pc):List Int:=p.hands.flatMap (EO p)
def IX (op:List (Int×Fr))(i:Nat):List Int:=match nK op i with|some f=>[(i:Int),f.n,f.d]|none=>[]
def qK (op:List (Int×Fr))(n:Nat):List Int:=(bR n).flatMap (IX op)
def Jt (op:List (Int×Fr))(n:Nat):qK op (n+1)=qK op n++IX op n:=by simp[qK,b0]
def MB (op:List (Int×Fr)):∀n,(qK op n).length<=3*n
 |0=>by simp[qK]
 |n+1=>by
  have:=MB op n;have h:(IX op n).length<=3:=by unfold IX;split<;>simp
  rw[Jt,X];omega
def am9 (c:Chg):List Int:=[c.link,c.pr.a,c.pr.b]
def Jk (l:List Chg):List Int:=l.flatMap am9
def aeL (l:List Chg):(Jk l).length=3*l.length:=by
 induction l with
 |nil=>rfl
 |cons x l a=>simp only[Jk,bB,X,aw]at a⊢;rw[a];simp[am9];omega
def YU (p:Pc)(l:List Int):(l.flatMap (EO p)).length=2*l.length:=by
 induction l with
 |nil=>rfl
 |cons x l a=>simp only[bB,X,aw,a];simp[EO];omega
section
variable (f1 f2 e1 e2:Bool){D:Dk}{t:Sp}(ns:List Int)
def ak3 (f:Gn D.su 24 t):Ans 234 [yH f1 f2 e1 e2 D t,sF (ns.map ay)] (ahT t.pc) 0:=by
 have m:=Pc.CY f.pc;have l:=Pc.good f.pc;have g:=aj7 t.pc f.pc;rw[lU]at g;refine gW (aB pV bn ?_);simp only[pV,bn,iQ,cu,U,RN,E,H,N,O];refine ak g ?_;simp only[RN];refine aG t.pc.hands.length (fun i (v:Nat)=>⟨[(6, .d (sF ((nG t.pc).map Fr.dv))),(8,pI 0),(9, .tsl 1 v 0),(29, .d (sF (t.pc.hands.map ay))),(30,pI t.pc.hands.length),(31,pI i)],
   ⟨[some ((nS f1 f2 e1 e2 D t).map .d)],[0],[some ⟨1,[],0,0⟩,some ⟨1,((t.pc.hands.take i).flatMap (EO t.pc)).map ay,v,yE ((t.pc.hands.take i).flatMap (EO t.pc))⟩]⟩⟩)
  (fun _ _=>True) 0 0 (an _) (by rw[nS,cu];rfl) trivial (fun i v a _=> ?_) (fun v _=> ?_)
 ·obtain⟨h,j,k⟩:=rng a (by omega)
  have hh:=l.hd _ (getD_mem a);have o:0<=t.pc.hands.getD i default:=by omega
  have p:(t.pc.hands.getD i default).toNat<(nG t.pc).length:=by simp only[nG,aw,U,cl];omega
  have e:(t.pc.hands.take (i+1)).flatMap (EO t.pc)=(t.pc.hands.take i).flatMap (EO t.pc)++ [((nG t.pc).getD (t.pc.hands.getD i default).toNat default).n,((nG t.pc).getD (t.pc.hands.getD i default).toNat default).d]:=by
   rw[bf a];simp[EO]
  have b:=YU t.pc (t.pc.hands.take i);have c:¬yE ((t.pc.hands.take i).flatMap (EO t.pc))=2:=I8;simp only[h,j,a,o,p,getD_map,aW,aS,Y,U,Q8,c,RN,E,H,N,O];refine⟨by rintro y (rfl|rfl)<;>rfl,by simp,by rw[b];simp only[cn];omega,?_⟩;simp only[k];refine dH (v+1) a ?_ trivial;rw[e,ajH];simp[ay]
 ·simp only[ao,bD,dV,RN,E]
  rw[a8];exact⟨_,rfl,1,v,rfl,rfl⟩
def aiL (l:Gn D.su 24 t):Ans 236 [yH f1 f2 e1 e2 D t,sF (ns.map ay)] (qK t.op t.pc.hands.length) 0:=by
 have j:=Pc.CY l.pc;refine gW (aB oC bn ?_);simp only[oC,bn,iQ,cu,U,RN,E,H,N,O];refine aG t.pc.hands.length (fun i (v:Nat)=>⟨[(2, .d (.aP (nS f1 f2 e1 e2 D t))),(6, .tsl 1 v 0),(17,pI t.pc.hands.length),(18,pI i)],
   ⟨[some ((nS f1 f2 e1 e2 D t).map .d)],[0],[some ⟨1,[],0,0⟩,some ⟨1,(qK t.op i).map ay,v,yE (qK t.op i)⟩]⟩⟩)
  (fun _ _=>True) 0 0 (an _) (by rw[nS,cu];rfl) trivial (fun i v b _=> ?_) (fun v _=> ?_)
 ·obtain⟨h,m,e⟩:=rng b (by omega)
  have k:=MB t.op i;have c:¬yE (qK t.op i)=2:=I8;have a:=Jt t.op i;simp only[h,nS,cu,RN,E,H,O];refine ace ((nK t.op i).map Fr.dv) (xq i) (IW _ _) ?_;cases g:nK t.op i with
  |none=>
   rw[IX,g,bS]at a;simp only[GI,bu,bL,bo,bj,av,e,RN,E,H,J,O];refine bQ 1 2 v b ?_ trivial (by simp) (by simp) rfl rfl;rw[a];rfl
  |some f=>
   rw[IX,g]at a;simp only[GI,b7,ax,bp,aS,bj,av,or_false,YM,c,U,RN,E,H,J,N,O];refine⟨by rintro y (rfl|rfl|rfl)<;>rfl,by simp,by omega,?_⟩;simp only[e];refine bQ 1 2 (v+1) b ?_ trivial (by simp) (by simp) rfl rfl;rw[a,TV];simp[ay]
 ·simp only[ao,bD,dV,RN,E]
  exact⟨_,rfl,1,v,rfl,rfl⟩
def vF (D:Dk)(t:Sp)(hand least a:Int):List Int×Int:=
 if inR hand 0 (D.su.pc.hands.length - 1)&&aT least&&aT a&&inR (a - least) 0 10 then
  (match nK t.op hand with
  |none=>([],7)
  |some f=>(Jk (t.pc.changes least a hand f).1,(t.pc.changes least a hand f).2))
 else([],2)
def Yv (p:Pc)(a b h:Int)(f:Fr):(p.changes a b h f).1.length<=2:=by
 unfold Pc.changes
 split
 ·split
  ·rename_i c;have:=xX c;simp only;omega
  ·split
   ·rename_i c;have:=xX c;simp only;omega
   ·split
    ·rename_i c;have:=xX c;simp only;omega
    ·simp
 ·simp
def aoq (C:D.Ok)(M:Gn D.su 24 t)(P:ns.length=3):Ans 238 [yH f1 f2 e1 e2 D t,sF (ns.map ay)]
  (vF D t (ns.getD 0 default) (ns.getD 1 default) (ns.getD 2 default)).1 (vF D t (ns.getD 0 default) (ns.getD 1 default) (ns.getD 2 default)).2:=by
 have L:=Pc.CY M.pc;have hi:=GR e1 e2 D (by have:=C.small;omega) (ns.getD 0 default);rw[vw]at hi;have s:0<ns.length:=by omega
 have p:(0:Int)<=1:=by omega
 have l1:1<ns.length:=by omega
 have q:(0:Int)<=2:=by omega
 have l2:2<ns.length:=by omega
 generalize k:ns.getD 0 default=A at*;generalize m:ns.getD 1 default=B at*;generalize o:ns.getD 2 default=Cc at*;cases h1:inR A 0 ((D.su.pc.hands.length:Int) - 1)
 ·have c:vF D t A B Cc=([],2):=by simp[vF,h1]
  rw[c];refine gW (aB aZ bn ?_);simp only[aZ,bn,iQ,j0,t0,s,p,t1,l1,q,t2,l2,U,getD_map,aW,k,m,o,RN,E,H,N,O];refine ak hi ?_;simp only[h1,bD,dV,RN,E,N];exact⟨_,rfl,1,0,rfl,rfl⟩
 cases h2:aT B
 ·have c:vF D t A B Cc=([],2):=by simp[vF,h2]
  rw[c];refine gW (aB aZ bn ?_);simp only[aZ,bn,iQ,j0,t0,s,p,t1,l1,q,t2,l2,U,getD_map,aW,k,m,o,RN,E,H,N,O];refine ak hi ?_;simp only[h1,RN,E];refine ak (mZ _) ?_;simp only[h2,bD,dV,RN,E,N];exact⟨_,rfl,1,0,rfl,rfl⟩
 cases g:aT Cc
 ·have c:vF D t A B Cc=([],2):=by simp[vF,g]
  rw[c];refine gW (aB aZ bn ?_);simp only[aZ,bn,iQ,j0,t0,s,p,t1,l1,q,t2,l2,U,getD_map,aW,k,m,o,RN,E,H,N,O];refine ak hi ?_;simp only[h1,RN,E];refine ak (mZ _) ?_;simp only[h2,RN,E];refine ak (mZ _) ?_;simp only[g,bD,dV,RN,E,N];exact⟨_,rfl,1,0,rfl,rfl⟩
 have b1: -1000000<=B/\B<=1000000:=by simp only[aT,inR,ab,decide_eq_true_eq]at h2;omega
 have b2: -1000000<=Cc/\Cc<=1000000:=by simp only[aT,inR,ab,decide_eq_true_eq]at g;omega
 have w1:cC .i64 (Cc - B)=Cc - B:=aF (by omega);cases j:inR (Cc - B) 0 10
 ·have c:vF D t A B Cc=([],2):=by simp[vF,j]
  rw[c];refine gW (aB aZ bn ?_);simp only[aZ,bn,iQ,j0,t0,s,p,t1,l1,q,t2,l2,U,getD_map,aW,k,m,o,RN,E,H,N,O];refine ak hi ?_;simp only[h1,RN,E];refine ak (mZ _) ?_;simp only[h2,RN,E];refine ak (mZ _) ?_;simp only[g,w1,RN,E];refine ak (BI _ _ _) ?_;simp only[j,bD,dV,RN,E,N];exact⟨_,rfl,1,0,rfl,rfl⟩
 cases w:nK t.op A with
 |none=>
  have c:vF D t A B Cc=([],7):=by simp[vF,h1,h2,g,j,w]
  rw[c];refine gW (aB aZ bn ?_);simp only[aZ,bn,iQ,j0,t0,s,p,t1,l1,q,t2,l2,U,getD_map,aW,k,m,o,RN,E,H,N,O];refine ak hi ?_;simp only[h1,RN,E];refine ak (mZ _) ?_;simp only[h2,RN,E];refine ak (mZ _) ?_;simp only[g,w1,RN,E];refine ak (BI _ _ _) ?_;simp only[j,cu,RN,E,H,O];refine ace ((nK t.op A).map Fr.dv) (xq A) (IW _ _) ?_;simp only[w,GI,bu,bL,bo,bj,av,bD,dV,RN,E,H,J,N,O];exact⟨_,rfl,1,0,rfl,rfl⟩
 |some f=>
  have h:=ad3 t.pc B Cc A f (by omega) (by omega) b2 b1;have x:=Yv t.pc B Cc A f;rw[lU,aS]at h;have c:vF D t A B Cc=(Jk (t.pc.changes B Cc A f).1,(t.pc.changes B Cc A f).2):=by simp[vF,h1,h2,g,j,w]
  rw[c];generalize Q:t.pc.changes B Cc A f=r at*;obtain⟨l,e⟩:=r;simp only at h x⊢;refine gW (aB aZ bn ?_);simp only[aZ,bn,iQ,j0,t0,s,p,t1,l1,q,t2,l2,U,getD_map,aW,k,m,o,RN,E,H,N,O];refine ak hi ?_;simp only[h1,RN,E];refine ak (mZ _) ?_;simp only[h2,RN,E];refine ak (mZ _) ?_;simp only[g,w1,RN,E];refine ak (BI _ _ _) ?_;simp only[j,cu,RN,E,H,O];refine ace ((nK t.op A).map Fr.dv) (xq A) (IW _ _) ?_;simp only[w,GI,b7,ax,bp,aS,bj,av,RN,E,H,J,N,O];refine ak h ?_;simp only[U,RN];refine aG l.length (fun i (v:Nat)=>⟨[(12,pI e),(13, .tsl 1 v 0),(73, .d (.slice (e !=0) (l.map Chg.dv))),(74,pI l.length),(75,pI i)],
    ⟨[some ((nS f1 f2 e1 e2 D t).map .d),some [pI f.n,pI f.d]],[1,0],[some ⟨1,[],0,0⟩,some ⟨1,(Jk (l.take i)).map ay,v,yE (Jk (l.take i))⟩]⟩⟩)
   (fun _ _=>True) 0 0 (an _) (by rw[nS,cu];rfl) trivial (fun i v u _=> ?_) (fun v _=> ?_)
  ·obtain⟨G,I,K⟩:=rng u (by omega)
   have F:Jk (l.take (i+1))=Jk (l.take i)++ [(l.getD i default).link,(l.getD i default).pr.a,(l.getD i default).pr.b]:=by
    rw[bf u];simp[Jk,am9]
   have z:=aeL (l.take i);have c:¬yE (Jk (l.take i))=2:=I8;simp only[G,I,u,getD_map,Gu,Y,U,YM,c,bj,av,or_false,RN,E,H,J,N,O];refine⟨by rintro y (rfl|rfl|rfl)<;>rfl,by simp,by rw[z];simp only[cn];omega,?_⟩;simp only[K];refine bQ 2 2 (v+1) u ?_ trivial (by simp) (by simp) rfl rfl;rw[F,TV];simp[ay]
  ·simp only[ao,bD,dV,RN,E,H]
   rw[a8];exact⟨_,rfl,1,v,rfl,rfl⟩
end
def Md (n:Int):List DV:=[dI n]
def aaw (xs:List Int)(ex:Bool)(hl:xs.length<=1000000):
  QF C 332 [] [.d (.aP [.slice ex (xs.map ay)])] (xs.map Md) no no no (fun _=>True):=by
 rintro⟨bs,fz,ar⟩ b n R stop K KP B D r F _ G fV A e f;simp only at r;refine aB uK dX ?_;simp only[uK,dX,U,RN,E,H,O];refine D5 (fun m s=>∃(i:Nat) (g:Mem),m=xs.length - i/\i<=xs.length/\s=⟨[(0, .mV b),(5, .d (.slice ex (xs.map ay))),(6,pI xs.length),(7,pI i)],g⟩/\n<=g.boxes.length/\R ((xs.take i).map Md) g)
  xs.length ⟨0,_,rfl,an _,rfl,r,A⟩ ?_
 rintro m s ⟨i,⟨v,w,u⟩,rfl,hi,rfl,c,h⟩
 by_cases a:i<xs.length
 case neg=>
  have k:i=xs.length:=by omega
  subst k;simp only[ao,RN,E];rw[a8]at h;exact f _ _ c h
 obtain⟨x,y,z⟩:=rng a hl;simp only[x,y,a,getD_map,aW,Y,U,RN,E,O];refine um ?_;refine SY.mono (fV ((xs.take i).map Md) (Md (xs.getD i default)) ((xs.drop (i+1)).map Md) _ (by
  conv=>lhs;rw[<-List.take_append_drop i xs,drop_cons a]
  simp) c h) ?_
 rintro p t ⟨l,I⟩;have o:=l.len;simp only at o c
 rcases I with⟨rfl,j⟩|⟨rfl,q⟩
 ·simp only[z,RN,E]
  refine⟨xs.length - (i+1),_,by omega, .inl rfl,i+1,t,rfl,by omega,rfl,by omega,?_⟩;rw[bf a,bc];exact j
 ·(try simp only[RN,E])
  exact e _ _ q
def Eb (ex:Bool)(xs:List Int):DV:= .func (.func 332) [] [.aP [.slice ex (xs.map ay)]]
def aef (xs:List Int)(ex:Bool)(hl:xs.length<=1000000){bs:List (Option (List PV))}{fz:List Nat}{ar:List (Option Arr)}(v:FzB ⟨bs,fz,ar⟩){KP:DV->Mem->Prop}:
  SC C 356 [.d (.slice true []), .d (Eb ex xs)] ⟨bs,fz,ar⟩ (fun p M'=>slN 1 true p (xs.map ay) M'.aC/\Frm ⟨bs,fz,ar⟩ M'/\(∀k,kOf p=some k->ar.length<=k)/\(xs=[]->p= .d (.slice true []))) KP:=by
 have P:bs.length∉fz:=fun e=>be _ (v _ e)
 refine aB sZ aH ?_;simp only[sZ,aH,Eb,aX,bJ,RN,E,H];refine oI (aaw xs ex hl) (fun _ h=>h) rfl (by kernel_rfl) (fun i hi=>by have:=v i hi;simp at this⊢;omega) (fun x s=>by obtain⟨i,_,rfl⟩:=cm.1 s;rfl) (fun _ h=>h.elim) (fun _ _=>trivial)
  (fun o t=>∃l r c,xs=l++r/\o=l.map Md/\t.boxes[bs.length]?=some (some [c])/\bs.length∉t.fz/\slN 1 true c (l.map ay) t.aC/\Frm ⟨bs,fz,ar⟩ t/\(∀k,kOf c=some k->ar.length<=k)/\(l=[]->c= .d (.slice true []))) ?_ ?_ ?_ ?_
 ·rintro o t M2 w ⟨l,r,c,b,q,g,A,B,a,D,G⟩
  simp only[X,aw,bk]at w;exact⟨l,r,c,b,q,(w.box _ (by omega) id).trans g,fun e=>A ((w.fz _ (by omega) id).1 e),by rw[w.aC];exact B,a.moved w (by simp),D,G⟩
 ·exact⟨[],xs,_,rfl,rfl,by simp only;rw[aX rfl];rfl,P, .inl ⟨rfl,rfl⟩,Frm.new (xf:=[]) (by simp),(fun k hk=>by cases hk),fun _=>rfl⟩
 ·rintro L cells o x post ⟨m,J,I⟩ s n f z ⟨l,r,c,b,q,g,A,B,a,D,G⟩ M0
  simp only[X,aw,bk]at n f z g A⊢;obtain⟨p,F,rfl⟩:∃p F,r=p::F:=by
   cases r with
   |nil=>
    rw[b,q]at s;have:=congrArg b9 s;simp at this
   |cons p F=>exact⟨p,F,rfl⟩
  have R:x=Md p:=by
   rw[b,q,bc,bi]at s;have:=List.append_cancel_left s;exact(List.cons.inj this).1.symm
  subst R;have u:bs.length<m.length:=by omega
  have U:l.length<=1000000:=by have:=congrArg b9 b;simp at this;omega
  simp only[Md,List.zip_cons_cons,List.zip_nil_left,bi,bz,g,gB,DV.strip,RN,E,O];refine wY B (by decide) (by intro y V;simp only[ae]at V;subst V;rfl) (by simp) (by simp;omega) fun k ver st ab a1 W Y S a5 Z=> ?_
  have Q:=Z rfl;subst Q;simp only[g,A,dJ,dO,kE,RN,O];have M:ar.length<=k:=by
   rcases a1 with a1|a1
   ·exact D k a1
   ·have:=a.bC;simp only at this;omega
  refine⟨by rw[am (by omega)];exact f,z,Kept.Ik (by omega) id S (fun _ h=>h.elim),l++ [p],F, .tsl k ver 0,by rw[b];simp,by rw[q];simp[Md],by simp[u], .inr ⟨k,ver,1,rfl,by rw[W];simp[ay],by decide,fun _=> .inl rfl⟩,?_,(fun k' K=>by cases K;exact M),fun e=>by simp at e⟩;exact
  {len:=by have:=a.len;simpa using this
   bC:=aE a.bC S
   box:=fun i hi=>by
    have:=a.box i hi;simp only at hi this⊢;rw[am (by omega)];exact this
   fz:=a.fz
   row:=fun j T=>by
    have:=a.row j T;have N:=a.bC;simp only at T this N⊢;rw[Y j (by omega) (by omega)];exact this
   fzb:=fun e i hi=>by have:=a.fzb e i hi;simpa using this}
 ·rintro⟨m,J,I⟩ ⟨l,r,c,b,q,g,A,B,a,D,G⟩ n
  simp only[X,aw,bk]at n g;have hr:r=[]:=by
   have:=congrArg b9 q;rw[b]at this;simp at this;exact this
  subst hr;rw[bS]at b;subst b;have u:bs.length<m.length:=by omega
  simp only[g,RN,O];exact⟨B,a,D,G⟩
end Go.Tel
namespace Go.Proofs
open Go.Shelf
end Go.Proofs
namespace Go.Tel
open Go.Am
def aj9 {k ver:Nat}{zs:List Int}{bs:List (Option (List PV))}{fz:List Nat}{ar:List (Option Arr)}{K:PV->Mem->Prop}{KP:DV->Mem->Prop}
  (h:ar[k]?=some (some ⟨1,zs.map (DV.int .i64),ver,1⟩))(b:zs≠[])(hl:zs.length<4611686018427387904)
  (a:K (.d (.tup [])) ⟨bs,fz,ar.set k (some ⟨1,(zs.mergeSort fun x y=>decide (x<=y)).map (DV.int .i64),ver,1⟩)⟩):SC Go.Tel.C 331 [.tsl k ver 0] ⟨bs,fz,ar⟩ K KP:=
 XJ (C:=Go.Tel.C) Go.Proofs.Tryz.laysSort h b hl a
end Go.Tel
