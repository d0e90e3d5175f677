/-
  Part 3 of a law of desks.
  Conditions: none.
-/
import Derived.Test.YtbefoehadfnkbaaGreatDoorJourneymanConsolesM02
import Derived.RangeFuncRecord
import Derived.Sort.LoopGhostIn
import Derived.ProofKit
import Derived.Deep.Slices
set_option linter.all false
open Bool renaming and_eq_true->S,false_eq_true->W,and_eq_true_iff->ae,or_eq_true->a8,or_eq_false_iff->bh
open List renaming map_cons->U,map_nil->Z,getElem?_eq_getElem->an,pairwise_cons->ao,getElem?_eq_some_iff->aq,getElem?_map->ax,all_eq_true->aD,mem_append->aE,getElem?_take->aM,mem_cons->a6,cons_append->a7,foldl_cons->bc,getElem?_eq_none->bd,length_singleton->be,mapM_cons->bk,pairwise_append->bl,replicate->bo,map_congr_left->bp,all_cons->bq,getElem?_drop->br,length_append->bt,length_drop->bu,range'_succ->bv,range'->bz,append_nil->bE,nil_append->bL,drop_drop->bO,foldl_nil->bR,range->bS,take_add->b2,getD->b3,map_map->b4
open Array renaming getD_eq_getD_getElem?->Y,getElem?_toList->am,getElem?_eq_getElem->ap,replicate->aw,getElem?_setIfInBounds_ne->az,getElem?_eq_some_iff->aL
open Iff renaming rfl->ab
open Option renaming map_eq_some_iff->ai,isNone_iff_eq_none->aR,getD_some->bw,map_some->bN
open Nat renaming le_refl->av,add_mul->bA,zero_le->bB,sub_zero->b5,zero_add->b6
open Function renaming comp->bX
open And renaming right->b7
namespace Go.Am
section
variable {C:Ctx}{base:Nat}
def NY (C:Ctx)(base:Nat)(op:POp)(args:List PV)(R:Mem->PV->Mem->Prop):Prop:=∀M K KP,ay C base op args M K KP↔∃v M',R M v M'/\K v M'
variable{op:POp}{args:List PV}
def akW {V:PV->Prop}(h:∀M K KP,ay C base op args M K KP↔∃v,V v/\K v M):∃R,Spec base .p R/\NY C base op args R:=by
 refine⟨fun M v M'=>V v/\M'=M,⟨V,fun _ _ _=>ab⟩,fun M K KP=>(h M K KP).trans ?_⟩;constructor
 ·rintro⟨v,h1,h2⟩;exact⟨v,M,⟨h1,rfl⟩,h2⟩
 ·rintro⟨v,M',⟨h1,rfl⟩,h2⟩;exact⟨v,h1,h2⟩
def G7 {V:Mem->PV->Prop}(h:∀M K KP,ay C base op args M K KP↔∃v,V M v/\K v M):NY C base op args (fun M v M'=>V M v/\M'=M):=by
 intro M K KP;refine(h M K KP).trans ?_;constructor
 ·rintro⟨v,h1,h2⟩;exact⟨v,M,⟨h1,rfl⟩,h2⟩
 ·rintro⟨v,M',⟨h1,rfl⟩,h2⟩;exact⟨v,h1,h2⟩
def aaG {op:BinOp}{k:IntKind}{a b:Int}{K:DV->Prop}:nK op k a b K↔∃d,nK op k a b (fun u=>d=u)/\K d:=by
 cases op<;>simp[nK,and_assoc]
def aaI {op:BinOp}{a b:ByteArray}{K:DV->Prop}:AO op a b K↔∃d,AO op a b (fun u=>d=u)/\K d:=by
 cases op<;>simp[AO,and_assoc]
variable{x:PV}
def MN {op:BinOp}{y:PV}{K:DV->Prop}:NZ op x y K↔∃d,NZ op x y (fun u=>d=u)/\K d:=by
 unfold NZ
 split
 ·rw[aaG]
  constructor
  ·rintro⟨h,d,h1,h2⟩;exact⟨d,⟨h,h1⟩,h2⟩
  ·rintro⟨d,⟨h,h1⟩,h2⟩;exact⟨h,d,h1,h2⟩
 ·exact aaI
 ·simp
def Uc {op:UnOp}{K:DV->Prop}:aav op x K↔∃d,aav op x (fun u=>d=u)/\K d:=by
 unfold aav
 split<;>simp
def nC:∀{args:List PV},args.all PV.isD=true->∃ds:List DV,args=ds.map .d
 | [],_=>⟨[],rfl⟩
 | .d x::l,h=>by
  simp only[bq,S]at h;obtain⟨ds,rfl⟩:=nC h.2;exact⟨x::ds,rfl⟩
 | .ptr _ _::_,h| .jU _ _ _ _::_,h| .tsl _ _ _::_,h| .func _ _ _::_,h| .agg _::_,h| .tup _::_,h| .dead::_,h=>by simp[PV.isD]at h
def Yp {M:Mem}:∀{ds:List DV},dL M (ds.map .d)=some ds
 | []=>rfl
 |d::ds=>by simp only[U,dL,datum,Yp]
variable{M:Mem}
def EX {ds:List DV}:M.frz (ds.map .d)=M:=by
 have h1:∀ds:List DV,(ds.map PV.d).flatMap (l7 M)=[]:=by
  intro ds;induction ds with
  |nil=>rfl
  |cons d ds a=>simp[l7]
 have h2:∀ds:List DV,(ds.map PV.d).flatMap (lZ M)=[]:=by
  intro ds;induction ds with
  |nil=>rfl
  |cons d ds a=>simp[lZ]
 simp only[Mem.frz,h1,h2,I9,bR,bL]
variable{M':Mem}
def ad7 {b:Nat}(h:M.boxes[b]?=M'.boxes[b]?):M.box b=M'.box b:=by simp[Mem.box,h]
def yM (h:M.aF=M'.aF)(k ver:Nat):M.row k ver=M'.row k ver:=by simp[Mem.row,h]
variable{agg:Bool}
def jV {n:Nat}{K:PV->Prop}:cO agg n x M K↔∃v,cO agg n x M (fun u=>v=u)/\K v:=by
 unfold cO
 repeat' split
 all_goals simp[and_assoc]
def akb {off:Nat}{K:PV->Prop}:mJ off x M K↔∃v,mJ off x M (fun u=>v=u)/\K v:=by
 unfold mJ
 repeat' split
 all_goals simp[and_assoc]
def ahv {sz:Nat}{i:PV}{K:PV->Prop}:uX sz x i M K↔∃v,uX sz x i M (fun u=>v=u)/\K v:=by
 unfold uX
 repeat' split
 all_goals simp[and_assoc]
def Xa {K:Int->Prop}:sH x M K↔∃v,sH x M (fun u=>v=u)/\K v:=by
 unfold sH
 repeat' split
 all_goals simp
def Vo {n:Nat}{k ver i off:Nat}(h:M.aF=M'.aF){K:PV->Prop}(hh:cO agg n (.jU k ver i off) M K):cO agg n (.jU k ver i off) M' K:=by
 simp only[cO,yM h]at hh⊢;exact hh
def afg {n:Nat}(hb:∀(b:Nat) (cs:List PV),M.boxes[b]?=some (some cs)->M'.boxes[b]?=some (some cs))(h:M.aF=M'.aF){K:PV->Prop}(hh:cO agg n x M K):cO agg n x M' K:=by
 cases x with
 |ptr b c=>
  simp only[cO]at hh⊢
  split at hh
  ·rename_i cs a
   have:M'.box b=some cs:=by simp[Mem.box,hb _ _ (oz a)]
   rw[this];exact hh
  ·exact hh.elim
 |jU k ver i c=>exact Vo h hh
 |d y=>cases y<;>exact hh
 | _=>exact hh
variable{f:Bool}{l:List PV}{K:Option Int->List PV->Prop}
def pF {b:Option Int->List PV->Prop}(hk:∀a l,K a l->b a l)(h:eH f l K):eH f l b:=by
 unfold eH at h⊢
 split at h
 ·exact hk _ _ h
 ·exact hk _ _ h
 ·exact h.elim
def Nw (h:eH f l K):∃a c,eH f l (fun d b=>d=a/\b=c)/\K a c:=by
 unfold eH at h⊢
 split at h
 ·exact⟨_,_,⟨rfl,rfl⟩,h⟩
 ·exact⟨_,_,⟨rfl,rfl⟩,h⟩
 ·exact h.elim
variable{Q:Option Int->Option Int->Option Int->Prop}
def Gz {lo hi mx:Bool}(h:eH lo l fun a l=>eH hi l fun b l=>eH mx l fun m l=>l=[]/\Q a b m):
  ∃a b m,(eH lo l fun c l=>eH hi l fun b' l=>eH mx l fun j l=>l=[]/\c=a/\b'=b/\j=m)/\Q a b m:=by
 obtain⟨a,l1,h1,h2⟩:=Nw h;obtain⟨b,l2,d,e⟩:=Nw h2;obtain⟨m,k,f,g,i⟩:=Nw e;refine⟨a,b,m,pF ?_ h1,i⟩;rintro _ _ ⟨rfl,rfl⟩;refine pF ?_ d;rintro _ _ ⟨rfl,rfl⟩;refine pF ?_ f;rintro _ _ ⟨rfl,rfl⟩;exact⟨g,rfl,rfl,rfl⟩
def GH {lo hi mx:Bool}{a b m:Option Int}(h:eH lo l fun c l=>eH hi l fun b' l=>eH mx l fun e l=>l=[]/\c=a/\b'=b/\e=m)(d:Q a b m):
  eH lo l fun a l=>eH hi l fun b l=>eH mx l fun m l=>l=[]/\Q a b m:=
 pF (fun _ _=>pF fun _ _=>pF fun _ _ hh=>⟨hh.1,by rw[hh.2.1,hh.2.2.1,hh.2.2.2];exact d⟩) h
def Oh (hb:∀(b:Nat) (cs:List PV),M.boxes[b]?=some (some cs)->M'.boxes[b]?=some (some cs))(a:M.aF=M'.aF){p:PV}{d:DV}(h:dY M p=some d):dY M' p=some d:=by
 cases p with
 |tsl k ver skip=>simp only[dY]at h⊢;rw[<-yM a];exact h
 |mref b=>
  simp only[dY]at h⊢
  split at h
  ·rename_i l c
   have:M'.box b=some [.jr l]:=by simp[Mem.box,hb _ _ (oz c)]
   rw[this];exact h
  ·cases h
 | _=>exact h
def JD {M M':Mem}(hb:∀(b:Nat) (cs:List PV),M.boxes[b]?=some (some cs)->M'.boxes[b]?=some (some cs))(a:M.aF=M'.aF):∀{ps:List PV} {ds:List DV},bY M ps=some ds->bY M' ps=some ds
 | [],_,h=>h
 |p::ps,ds,h=>by
  simp only[bY]at h⊢
  split at h
  ·rename_i x c h1 h2;rw[Oh hb a h1,JD hb a h2];exact h
  ·cases h
def aa4 (hb:∀(b:Nat) (cs:List PV),M.boxes[b]?=some (some cs)->M'.boxes[b]?=some (some cs))(e:M.aF=M'.aF){p:PV}{d:DV}(h:datum M p=some d):datum M' p=some d:=by
 have a:=fun{j ds}=>JD (ps:=j) (ds:=ds) hb e
 cases p with
 |tsl k ver skip=>simp only[datum]at h⊢;rw[<-yM e];exact h
 |mref b=>exact Oh (p:= .mref b) hb e h
 |ptr b i=>
  simp only[datum]at h⊢
  split at h
  ·rename_i cs g
   have:M'.box b=some cs:=by simp[Mem.box,hb _ _ (oz g)]
   rw[this];simp only[ai]at h⊢;obtain⟨x,h1,h2⟩:=h;exact⟨x,a h1,h2⟩
  ·cases h
 |func fn f c=>
  simp only[datum]at h⊢
  split at h
  ·rename_i x y h1 h2;rw[a h1,a h2];exact h
  ·cases h
 |agg cs=>simp only[datum,ai]at h⊢;obtain⟨x,h1,h2⟩:=h;exact⟨x,a h1,h2⟩
 |tup cs=>simp only[datum,ai]at h⊢;obtain⟨x,h1,h2⟩:=h;exact⟨x,a h1,h2⟩
 | _=>exact h
def Oj {M M':Mem}(hb:∀(b:Nat) (cs:List PV),M.boxes[b]?=some (some cs)->M'.boxes[b]?=some (some cs))(a:M.aF=M'.aF):∀{ps:List PV} {ds:List DV},dL M ps=some ds->dL M' ps=some ds
 | [],_,h=>h
 |p::ps,ds,h=>by
  simp only[dL]at h⊢
  split at h
  ·rename_i x c h1 h2;rw[aa4 hb a h1,Oj hb a h2];exact h
  ·cases h
variable{fl:Nat}
def anP (h:kd op fl= .p)(hf:yF base fl args):∃V:PV->Prop,∀M K KP,ay C base op args M K KP↔∃v,V v/\K v M:=by
 have one:∀{p:Prop} [Decidable p] {x y z:Kd},(if p then x else y)=z->y≠z->p:=by
  intro p _ x y z h R;by_cases H:p
  ·exact H
  ·rw[if_neg H]at h;exact absurd h R
 cases op with
 |mov=>refine⟨fun v=>ay C base .mov args cu (fun u _=>v=u) (fun _ _=>False),fun M K KP=> ?_⟩;simp only[ay];split<;>simp
 |pick=>refine⟨fun v=>ay C base .pick args cu (fun u _=>v=u) (fun _ _=>False),fun M K KP=> ?_⟩;simp only[ay];split<;>simp
 |build zs N=>refine⟨fun v=>ay C base (.build zs N) args cu (fun u _=>v=u) (fun _ _=>False),fun M K KP=> ?_⟩;simp only[ay];cases mQ (zs.map .d) N args<;>simp
 |bH=>refine⟨fun v=>ay C base .bH args cu (fun u _=>v=u) (fun _ _=>False),fun M K KP=> ?_⟩;simp only[ay];split<;>simp
 |bin op=>
  refine⟨fun v=>ay C base (.bin op) args cu (fun u _=>v=u) (fun _ _=>False),fun M K KP=> ?_⟩;simp only[ay]
  split
  ·rw[MN]
   constructor
   ·rintro⟨d,h1,h2⟩;exact⟨.d d,MN.2 ⟨d,h1,rfl⟩,h2⟩
   ·rintro⟨v,h1,h2⟩
    obtain⟨d,e,rfl⟩:=MN.1 h1;exact⟨d,e,h2⟩
  ·simp
 |AL neq L=>
  refine⟨fun v=>ay C base (.AL neq L) args cu (fun u _=>v=u) (fun _ _=>False),fun M K KP=> ?_⟩;simp only[ay]
  split
  ·rename_i a b;cases fA L a b<;>simp
  ·simp
 |shf op=>refine⟨fun v=>ay C base (.shf op) args cu (fun u _=>v=u) (fun _ _=>False),fun M K KP=> ?_⟩;simp only[ay];split<;>(try simp);cases op<;>simp[and_assoc]
 |un op=>
  refine⟨fun v=>ay C base (.un op) args cu (fun u _=>v=u) (fun _ _=>False),fun M K KP=> ?_⟩;simp only[ay]
  split
  ·rw[Uc]
   constructor
   ·rintro⟨d,h1,h2⟩;exact⟨.d d,Uc.2 ⟨d,h1,rfl⟩,h2⟩
   ·rintro⟨v,h1,h2⟩
    obtain⟨d,e,rfl⟩:=Uc.1 h1;exact⟨d,e,h2⟩
  ·simp
 |conv k=>refine⟨fun v=>ay C base (.conv k) args cu (fun u _=>v=u) (fun _ _=>False),fun M K KP=> ?_⟩;simp only[ay];split<;>simp
 |mkF fn S=>refine⟨fun v=>ay C base (.mkF fn S) args cu (fun u _=>v=u) (fun _ _=>False),fun M K KP=> ?_⟩;simp only[ay];cases ji args<;>simp
 |QY agg A n=>refine⟨fun v=>ay C base (.QY agg A n) args cu (fun u _=>v=u) (fun _ _=>False),fun M K KP=> ?_⟩;simp only[ay];split<;>simp[and_assoc]
 |PZ=>refine⟨fun v=>ay C base .PZ args cu (fun u _=>v=u) (fun _ _=>False),fun M K KP=> ?_⟩;simp only[ay];split<;>simp[and_assoc]
 |Ur agg sz len=>refine⟨fun v=>ay C base (.Ur agg sz len) args cu (fun u _=>v=u) (fun _ _=>False),fun M K KP=> ?_⟩;simp only[ay];split<;>simp[and_assoc]
 |ext i=>
  refine⟨fun v=>ay C base (.ext i) args cu (fun u _=>v=u) (fun _ _=>False),fun M K KP=> ?_⟩;simp only[ay]
  split
  ·rename_i G;cases G[i]?<;>simp
  ·rename_i G;cases G[i]?<;>simp
  ·simp
 |xP=>refine⟨fun v=>ay C base .xP args cu (fun u _=>v=u) (fun _ _=>False),fun M K KP=> ?_⟩;simp only[ay];split<;>simp
 |Dh F=>refine⟨fun v=>ay C base (.Dh F) args cu (fun u _=>v=u) (fun _ _=>False),fun M K KP=> ?_⟩;simp only[ay];split<;>simp
 |EJ lo D=>
  refine⟨fun v=>ay C base (.EJ lo D) args cu (fun u _=>v=u) (fun _ _=>False),fun M K KP=> ?_⟩;simp only[ay]
  rcases args with _|⟨x,l⟩
  ·simp[wU]
  ·by_cases I:∃s,x= .d (.str s)
   ·obtain⟨s,rfl⟩:=I
    simp only[wU];constructor
    ·intro hh
     obtain⟨a,b,m,e,g,j,q,r,B⟩:=Gz hh;exact⟨_,GH e ⟨g,j,q,r,rfl⟩,B⟩
    ·rintro⟨v,h1,h2⟩
     obtain⟨a,b,m,e,g,j,q,r,rfl⟩:=Gz h1;exact GH e ⟨g,j,q,r,h2⟩
   ·have:∀Q:DV->Prop,¬wU lo D (x::l) Q:=by
     intro Q hh;unfold wU at hh
     split at hh
     ·rename_i s T P;cases P;exact I ⟨s,rfl⟩
     ·exact hh
    constructor
    ·intro hh;exact(this _ hh).elim
    ·rintro⟨v,hh,_⟩;exact(this _ hh).elim
 |xO neq=>refine⟨fun v=>ay C base (.xO neq) args cu (fun u _=>v=u) (fun _ _=>False),fun M K KP=> ?_⟩;simp only[ay];split<;>simp
 |Hy sz len=>refine⟨fun v=>ay C base (.Hy sz len) args cu (fun u _=>v=u) (fun _ _=>False),fun M K KP=> ?_⟩;simp only[ay];split<;>simp[and_assoc]
 |Uy agg sz len=>refine⟨fun v=>ay C base (.Uy agg sz len) args cu (fun u _=>v=u) (fun _ _=>False),fun M K KP=> ?_⟩;simp only[ay];split<;>simp[and_assoc]
 |tas t z=>refine⟨fun v=>ay C base (.tas t z) args cu (fun u _=>v=u) (fun _ _=>False),fun M K KP=> ?_⟩;simp only[ay];split<;>simp
 |load agg n=>
  simp only[kd]at h;have c:fl=1:=by
   refine one h ?_;split
   ·decide
   ·split<;>decide
  subst c;obtain⟨ds,rfl⟩:=nC (args:=args) hf;refine⟨fun v=>ay C base (.load agg n) (ds.map .d) cu (fun u _=>v=u) (fun _ _=>False),fun M K KP=> ?_⟩;simp only[ay]
  rcases ds with _|⟨x,_|⟨y,l⟩⟩
  ·simp
  ·simp only[U,Z];cases x<;>simp[cO,and_assoc]
  ·simp
 |fld A=>
  have c:fl=1\/fl=2:=by
   simp only[kd]at h
   by_cases h1:fl=1
   ·exact .inl h1
   ·by_cases h2:fl=2
    ·exact .inr h2
    ·rw[if_neg h1,if_neg h2]at h
     split at h<;>cases h
  have w:(∃ds:List DV,args=ds.map .d)\/(∃b o t,args= .ptr b o::t)\/(∃x t,args= .d x::t):=by
   rcases c with rfl|rfl
   ·exact .inl (nC hf)
   ·simp only[yF]at hf
    split at hf
    ·exact .inr (.inl ⟨_,_,_,rfl⟩)
    ·exact .inr (.inr ⟨_,_,rfl⟩)
    ·exact hf.elim
  refine⟨fun v=>ay C base (.fld A) args cu (fun u _=>v=u) (fun _ _=>False),fun M K KP=> ?_⟩
  rcases w with⟨ds,rfl⟩|⟨b,o,t,rfl⟩|⟨x,t,rfl⟩
  ·simp only[ay]
   rcases ds with _|⟨x,_|⟨y,l⟩⟩
   ·simp
   ·simp only[U,Z];cases x<;>simp[mJ,and_assoc]
   ·simp
  ·simp only[ay]
   cases t<;>simp[mJ]
  ·simp only[ay]
   cases t<;>cases x<;>simp[mJ,and_assoc]
 |aS sz=>
  simp only[kd]at h;have c:fl=1:=one h (by decide);subst c;obtain⟨ds,rfl⟩:=nC (args:=args) hf;refine⟨fun v=>ay C base (.aS sz) (ds.map .d) cu (fun u _=>v=u) (fun _ _=>False),fun M K KP=> ?_⟩;simp only[ay]
  rcases ds with _|⟨x,_|⟨y,_|⟨z,l⟩⟩⟩
  ·simp
  ·simp
  ·simp only[U,Z];cases x<;>cases y<;>simp[uX,and_assoc]
  ·simp
 |len=>
  simp only[kd]at h;have c:fl=1:=one h (by decide);subst c;obtain⟨ds,rfl⟩:=nC (args:=args) hf;refine⟨fun v=>ay C base .len (ds.map .d) cu (fun u _=>v=u) (fun _ _=>False),fun M K KP=> ?_⟩;simp only[ay]
  rcases ds with _|⟨x,_|⟨y,l⟩⟩
  ·simp
  ·simp only[U,Z];cases x<;>simp[sH]
  ·simp
 |dV sz zs J=>
  simp only[kd]at h;have c:fl=1:=one h (by decide);subst c;obtain⟨ds,rfl⟩:=nC (args:=args) hf;refine⟨fun v=>ay C base (.dV sz zs J) (ds.map .d) cu (fun u _=>v=u) (fun _ _=>False),fun M K KP=> ?_⟩;simp only[ay,Yp,EX];cases vJ sz zs J (ds.map DV.strip)<;>simp
 |mkI t=>
  simp only[kd]at h;have c:fl=1:=one h (by decide);subst c;obtain⟨ds,rfl⟩:=nC (args:=args) hf;refine⟨fun v=>ay C base (.mkI t) (ds.map .d) cu (fun u _=>v=u) (fun _ _=>False),fun M K KP=> ?_⟩;simp only[ay]
  rcases ds with _|⟨x,_|⟨y,l⟩⟩
  ·simp
  ·have:=fun M:Mem=>EX (M:=M) (ds:=[x])
   simp only[U,Z]at this;simp only[U,Z,datum,this];simp
  ·simp
 |zV sz lo D F=>
  simp only[kd]at h;have c:fl=1:=one h (by decide);subst c;obtain⟨ds,rfl⟩:=nC (args:=args) hf;refine⟨fun v=>ay C base (.zV sz lo D F) (ds.map .d) cu (fun u _=>v=u) (fun _ _=>False),fun M K KP=> ?_⟩;simp only[ay]
  rcases ds with _|⟨x,l⟩
  ·simp[Au]
  ·simp only[U]
   cases x with
   |slice ex W=>
    simp only[Au];constructor
    ·intro hh
     obtain⟨a,b,m,e,g,j,q,r,B,O⟩:=Gz hh;exact⟨_,GH e ⟨g,j,q,r,B,rfl⟩,O⟩
    ·rintro⟨v,h1,h2⟩
     obtain⟨a,b,m,e,g,j,q,r,B,rfl⟩:=Gz h1;exact GH e ⟨g,j,q,r,B,h2⟩
   | _=>simp[Au]
 |aj f=>
  refine⟨fun v=>ay C base (.aj f) args cu (fun u _=>v=u) (fun _ _=>False),fun M K KP=> ?_⟩;simp only[ay,TA];constructor
  ·rintro⟨ds,E,x,h1,h2⟩;exact⟨.d x,⟨ds,E,x,h1,rfl⟩,h2⟩
  ·rintro⟨v,⟨ds,E,x,h1,rfl⟩,h2⟩;exact⟨ds,E,x,h1,h2⟩
 |store n=>
  simp only[kd]at h
  split at h<;>cases h
 |uO f=>
  simp only[kd]at h
  split at h<;>cases h
 | _=>simp[kd]at h
def Ql (h:kd op fl≠ .x)(hf:yF base fl args):∃R,Spec base (kd op fl) R/\NY C base op args R:=by
 by_cases L:kd op fl= .p
 ·rw[L]
  obtain⟨V,hV⟩:=anP (C:=C) L hf;exact akW hV
 ·cases op with
  |load agg n=>
   have hA:NY C base (.load agg n) args (fun M v M'=>(ay C base (.load agg n) args M (fun u _=>v=u) (fun _ _=>False))/\M'=M):=G7 fun M K KP=>by
    simp only[ay]
    split
    ·exact jV
    ·simp
   refine⟨_,?_,hA⟩;simp only[kd]at L⊢;have h1:fl≠1:=fun e=>L (by simp[e])
   rw[if_neg h1]
   by_cases h2:fl=2
   ·rw[if_pos h2]
    subst h2;refine⟨_,fun _ _ _=>ab,fun M M' v I c=> ?_⟩;simp only[ay]at c⊢;simp only[yF]at hf
    split at hf
    ·rename_i b o t
     cases t with
     |nil=>simp only[cO]at c⊢;rw[<-ad7 (I b hf)];exact c
     |cons=>exact c
    ·rename_i x t
     cases t with
     |nil=>cases x<;>exact c
     |cons=>exact c
    ·exact hf.elim
   ·rw[if_neg h2]
    by_cases g:fl=3
    ·rw[if_pos g]
     subst g;refine⟨_,fun _ _ _=>ab,fun M M' v I c=> ?_⟩;simp only[ay]at c⊢;simp only[yF]at hf
     split at hf
     ·rename_i t
      cases t with
      |nil=>exact Vo I c
      |cons=>exact c
     ·exact hf.elim
    ·rw[if_neg g]
     refine⟨_,fun _ _ _=>ab,fun M M' v hb Y c=> ?_⟩;simp only[ay]at c⊢
     split at c
     ·exact afg hb Y c
     ·exact c.elim
  |fld B=>
   have hA:NY C base (.fld B) args (fun M v M'=>(ay C base (.fld B) args M (fun u _=>v=u) (fun _ _=>False))/\M'=M):=G7 fun M K KP=>by
    simp only[ay]
    split
    ·exact akb
    ·simp
   have F:∀{M M':Mem},M.aF=M'.aF->∀{x:PV} {K:PV->Prop},mJ B x M K->mJ B x M' K:=by
    intro M M' Y x K hh;cases x with
    |jU k ver i o=>simp only[mJ,yM Y]at hh⊢;exact hh
    |d x=>cases x<;>exact hh
    | _=>exact hh
   refine⟨_,?_,hA⟩;simp only[kd]at L⊢;have h1:fl≠1:=fun e=>L (by simp[e])
   have h2:fl≠2:=fun e=>L (by simp[e])
   rw[if_neg h1,if_neg h2]
   by_cases g:fl=3
   ·rw[if_pos g]
    refine⟨_,fun _ _ _=>ab,fun M M' v I c=> ?_⟩;simp only[ay]at c⊢
    split at c
    ·exact F I c
    ·exact c.elim
   ·rw[if_neg g]
    refine⟨_,fun _ _ _=>ab,fun M M' v hb Y c=> ?_⟩;simp only[ay]at c⊢
    split at c
    ·exact F Y c
    ·exact c.elim
  |aS sz=>
   have hA:NY C base (.aS sz) args (fun M v M'=>(ay C base (.aS sz) args M (fun u _=>v=u) (fun _ _=>False))/\M'=M):=G7 fun M K KP=>by
    simp only[ay]
    split
    ·exact ahv
    ·simp
   refine⟨_,?_,hA⟩;simp only[kd]at L⊢;have h1:fl≠1:=fun e=>L (by simp[e])
   rw[if_neg h1];refine⟨_,fun _ _ _=>ab,fun M M' v I c=> ?_⟩;simp only[ay]at c⊢
   split at c
   ·simp only[uX,yM I]at c⊢;exact c
   ·exact c.elim
  |len=>
   have hA:NY C base .len args (fun M v M'=>(ay C base .len args M (fun u _=>v=u) (fun _ _=>False))/\M'=M):=G7 fun M K KP=>by
    simp only[ay]
    split
    ·rw[Xa]
     constructor
     ·rintro⟨n,h1,h2⟩;exact⟨_,Xa.2 ⟨n,h1,rfl⟩,h2⟩
     ·rintro⟨v,h1,h2⟩
      obtain⟨n,W,rfl⟩:=Xa.1 h1;exact⟨n,W,h2⟩
    ·simp
   refine⟨_,?_,hA⟩;simp only[kd]at L⊢;have h1:fl≠1:=fun e=>L (by simp[e])
   rw[if_neg h1];refine⟨_,fun _ _ _=>ab,fun M M' v I c=> ?_⟩;simp only[ay]at c⊢
   split at c
   ·simp only[sH,yM I]at c⊢;exact c
   ·exact c.elim
  |Jy f=>
   exact⟨fun M p M'=>SC C f args M (fun q N=>q=p/\N=M') (fun _ _=>False),trivial,fun M K KP=>ab⟩
  |jE f=>
   refine⟨_,⟨fun M v=>ay C base (.jE f) args M (fun u _=>v=u) (fun _ _=>False),fun _ _ _=>ab,fun M M' v hb Y c=> ?_⟩,G7 fun M K KP=> ?_⟩
   ·obtain⟨ds,X,h1⟩:=c
    exact⟨ds,Oj hb Y X,h1⟩
   ·simp only[ay,LK]
    constructor
    ·rintro⟨ds,X,x,h1,h2,g⟩;exact⟨.d x,⟨ds,X,x,h1,h2,rfl⟩,g⟩
    ·rintro⟨v,⟨ds,X,x,h1,h2,rfl⟩,g⟩;exact⟨ds,X,x,h1,h2,g⟩
  |Hr ok ks z=>
   refine⟨_,⟨fun M v=>ay C base (.Hr ok ks z) args M (fun u _=>v=u) (fun _ _=>False),fun _ _ _=>ab,fun M M' v hb Y c=> ?_⟩,G7 fun M K KP=> ?_⟩
   ·simp only[ay]at c⊢
    split at c
    ·exact c
    ·rename_i b k
     cases ac:M.box b with
     |none=>simp only[ac]at c
     |some cs=>
      have:M'.box b=some cs:=by simp[Mem.box,hb _ _ (oz ac)]
      simp only[ac]at c;simp only[this];exact c
    ·exact c
   ·simp only[ay]
    split
    ·split<;>simp
    ·split
     ·split<;>simp
     ·simp
    ·simp
  |mkMap i=>
   cases args with
   |nil=>
    refine⟨_,⟨[.jr []], .mref (base+i),True,fun _ _ _=>ab⟩,fun M K KP=> ?_⟩;simp only[ay];constructor
    ·rintro⟨h1,h2⟩;exact⟨_,_,⟨trivial,rfl,h1,rfl⟩,h2⟩
    ·rintro⟨v,M',⟨_,rfl,h1,rfl⟩,h2⟩;exact⟨h1,h2⟩
   |cons x l=>
    refine⟨_,⟨[], .dead,False,fun _ _ _=>ab⟩,fun M K KP=> ?_⟩;simp[ay]
  |alloc i zs=>
   cases args with
   |nil=>
    refine⟨_,⟨zs.map .d, .ptr (base+i) 0,True,fun _ _ _=>ab⟩,fun M K KP=> ?_⟩;simp only[ay];constructor
    ·rintro⟨h1,h2⟩;exact⟨_,_,⟨trivial,rfl,h1,rfl⟩,h2⟩
    ·rintro⟨v,M',⟨_,rfl,h1,rfl⟩,h2⟩;exact⟨h1,h2⟩
   |cons x l=>
    refine⟨_,⟨[], .dead,False,fun _ _ _=>ab⟩,fun M K KP=> ?_⟩;simp[ay]
  |box i=>
   have Z:(∀M K KP,¬ay C base (.box i) args M K KP)->∃R,Spec base (kd (.box i) fl) R/\NY C base (.box i) args R:=fun hn=>
    ⟨_,⟨[], .dead,False,fun _ _ _=>ab⟩,fun M K KP=>⟨fun hh=>(hn _ _ _ hh).elim,by rintro⟨_,_,⟨hh,_⟩,_⟩;exact hh.elim⟩⟩
   rcases args with _|⟨x,_|⟨y,l⟩⟩
   ·exact Z fun M K KP hh=>by simp[ay]at hh
   ·refine⟨_,⟨x.cells, .ptr (base+i) 0,x.uz=false,fun _ _ _=>ab⟩,fun M K KP=> ?_⟩
    simp only[ay];constructor
    ·rintro⟨X,h1,h2⟩;exact⟨_,_,⟨X,rfl,h1,rfl⟩,h2⟩
    ·rintro⟨v,M',⟨X,rfl,h1,rfl⟩,h2⟩;exact⟨X,h1,h2⟩
   ·exact Z fun M K KP hh=>by simp[ay]at hh
  |store n=>
   have hx:fl=3\/fl=2\/(∃i,fl=i+4)\/kd (.store n) fl= .w:=by
    simp only[kd]
    split
    ·exact .inl rfl
    ·exact .inr (.inl rfl)
    ·exact .inr (.inr (.inl ⟨_,rfl⟩))
    ·exact .inr (.inr (.inr rfl))
   rcases hx with rfl|rfl|⟨i,rfl⟩|hw
   ·simp only[yF]at hf
    split at hf
    ·rename_i k ver j B t
     refine⟨fun M v M'=>∃a,ay C base (.store n) (.jU k ver j B::t) ⟨[],[],M.aF⟩ (fun u m=>v=u/\a=m.aF) (fun _ _=>False)/\M'={M with aF:=a},
      ⟨fun aF v a=>ay C base (.store n) (.jU k ver j B::t) ⟨[],[],aF⟩ (fun u m=>v=u/\a=m.aF) (fun _ _=>False),fun _ _ _=>ab⟩,fun M K KP=> ?_⟩
     rcases t with _|⟨y,_|⟨z,l⟩⟩
     ·simp[ay]
     ·have F:(⟨[],[],M.aF⟩:Mem).row k ver=M.row k ver:=rfl
      simp only[ay,jP,F];cases hr:M.row k ver with
      |none=>simp
      |some A=>
       cases hd:ji y.cells with
       |none=>simp
       |some ds=>
        simp only;constructor
        ·rintro⟨h1,h2,g,D,E,H⟩;exact⟨_,_,⟨_,⟨h1,h2,g,D,E,rfl,rfl⟩,rfl⟩,H⟩
        ·rintro⟨v,M',⟨a,⟨h1,h2,g,D,E,rfl,rfl⟩,rfl⟩,H⟩
         exact⟨h1,h2,g,D,E,H⟩
     ·simp[ay]
    ·exact hf.elim
   ·simp only[yF]at hf
    split at hf
    ·rename_i b B t
     refine⟨fun M v M'=>∃P,ay C base (.store n) (.ptr b B::t) ⟨M.boxes,M.fz,[]⟩ (fun u m=>v=u/\P=m.boxes) (fun _ _=>False)/\M'={M with boxes:=P},
      ⟨fun bs fz v P=>ay C base (.store n) (.ptr b B::t) ⟨bs,fz,[]⟩ (fun u m=>v=u/\P=m.boxes) (fun _ _=>False),fun _ _ _=>ab⟩,fun M K KP=> ?_⟩
     rcases t with _|⟨y,_|⟨z,l⟩⟩
     ·simp[ay]
     ·have ai:(⟨M.boxes,M.fz,[]⟩:Mem).box b=M.box b:=rfl
      simp only[ay,jP,ai];cases hb:M.box b with
      |none=>simp
      |some cs=>
       simp only;constructor
       ·rintro⟨h1,h2,g,D,E⟩;exact⟨_,_,⟨_,⟨h1,h2,g,D,rfl,rfl⟩,rfl⟩,E⟩
       ·rintro⟨v,M',⟨P,⟨h1,h2,g,D,rfl,rfl⟩,rfl⟩,E⟩
        exact⟨h1,h2,g,D,E⟩
     ·simp[ay]
    ·rename_i x t
     refine⟨fun M v M'=>False/\M'=M/\v=v,⟨fun _ _ _ _=>False,fun _ _ _=>⟨fun hh=>hh.1.elim,fun⟨_,hh,_⟩=>hh.elim⟩⟩,fun M K KP=> ?_⟩
     rcases t with _|⟨y,_|⟨z,l⟩⟩<;>simp[ay,jP]
    ·exact hf.elim
   ·simp only[yF]at hf
    split at hf
    ·rename_i b B t
     subst hf;refine⟨_,⟨fun cs ae=>∃y,t=[y]/\y.cells.length=n/\y.cells.all PV.one=true/\B+n<=cs.length/\ae=splice cs B y.cells,fun _ _ _=>ab⟩,fun M K KP=> ?_⟩
     rcases t with _|⟨y,_|⟨z,l⟩⟩
     ·simp[ay]
     ·simp only[ay,jP]
      constructor
      ·intro hh
       split at hh
       ·rename_i cs ap
        obtain⟨h1,h2,g,D,E⟩:=hh;exact⟨_,_,⟨cs,_,oz ap,h1,⟨y,rfl,h2,g,D,rfl⟩,rfl,rfl⟩,E⟩
       ·exact hh.elim
      ·rintro⟨v,M',⟨cs,ae,h1,h2,⟨y',hy,g,D,E,rfl⟩,rfl,rfl⟩,H⟩
       simp only[List.cons.injEq,and_true]at hy;subst hy;have:M.box (base+i)=some cs:=by simp[Mem.box,h1]
       rw[this];exact⟨h2,g,D,E,H⟩
     ·simp[ay]
    ·exact hf.elim
   ·rw[hw]
    refine⟨fun M v M'=>ay C base (.store n) args M (fun u m=>v=u/\M'=m) (fun _ _=>False),trivial,fun M K KP=> ?_⟩;simp only[ay]
    rcases args with _|⟨x,_|⟨y,_|⟨z,l⟩⟩⟩
    ·simp
    ·simp
    ·simp only[jP]
     cases x with
     |ptr b B=>cases h1:M.box b<;>simp[h1,and_assoc]
     |jU k ver i B=>cases h1:M.row k ver<;>cases h2:ji y.cells<;>simp[h1,and_assoc]
     | _=>simp
    ·simp
  |oK sz zs is=>
   refine⟨fun M v M'=>∃a,(∃ds T,ji args=some ds/\vJ sz zs is (ds.map DV.strip)=some T/\0<sz/\(∀x∈T,x.fits sz=true)/\v= .tsl M.aF.length 0 0/\a=M.aF++ [some ⟨sz,T,0,1⟩])/\M'={M with aF:=a},
    ⟨fun aF v a=>∃ds T,ji args=some ds/\vJ sz zs is (ds.map DV.strip)=some T/\0<sz/\(∀x∈T,x.fits sz=true)/\v= .tsl aF.length 0 0/\a=aF++ [some ⟨sz,T,0,1⟩],fun _ _ _=>ab⟩,fun M K KP=> ?_⟩
   simp only[ay];constructor
   ·intro h
    split at h
    ·rename_i ds av
     split at h
     ·rename_i T az
      exact⟨_,_,⟨_,⟨ds,T,av,az,h.1,h.2.1,rfl,rfl⟩,rfl⟩,h.2.2⟩
     ·exact h.elim
    ·exact h.elim
   ·rintro⟨v,M',⟨a,⟨ds,T,h1,h2,g,D,rfl,rfl⟩,rfl⟩,E⟩
    simp only[h1,h2];exact⟨g,D,E⟩
  |app sz ao=>
   refine⟨fun M v M'=>∃a,ay C base (.app sz ao) args ⟨[],[],M.aF⟩ (fun u m=>v=u/\a=m.aF) (fun _ _=>False)/\M'={M with aF:=a},
    ⟨fun aF v a=>ay C base (.app sz ao) args ⟨[],[],aF⟩ (fun u m=>v=u/\a=m.aF) (fun _ _=>False),fun _ _ _=>ab⟩,fun M K KP=> ?_⟩
   simp only[ay]
   rcases args with _|⟨s,_|⟨x,_|⟨z,l⟩⟩⟩
   ·simp
   ·simp
   ·have F:∀k ver,(⟨[],[],M.aF⟩:Mem).row k ver=M.row k ver:=fun _ _=>rfl
    have Q:yQ sz x ⟨[],[],M.aF⟩=yQ sz x M:=by cases x with
     |d x=>cases x<;>rfl
     | _=>rfl
    simp only[lT,Q];cases yQ sz x M with
    |none=>simp
    |some ys=>
     simp only
     split
     ·constructor
      ·rintro⟨h1,h2,g,D,E,H,O⟩;exact⟨_,_,⟨_,⟨h1,h2,g,D,E,H,rfl,rfl⟩,rfl⟩,O⟩
      ·rintro⟨v,M',⟨a,⟨h1,h2,g,D,E,H,rfl,rfl⟩,rfl⟩,O⟩;exact⟨h1,h2,g,D,E,H,O⟩
     ·rename_i k ver skip
      simp only[F];cases M.row k ver with
      |none=>simp
      |some A=>
       simp only;constructor
       ·rintro⟨h1,h2,g,D,E,H,O⟩;exact⟨_,_,⟨_,⟨h1,h2,g,D,E,H,rfl,rfl⟩,rfl⟩,O⟩
       ·rintro⟨v,M',⟨a,⟨h1,h2,g,D,E,H,rfl,rfl⟩,rfl⟩,O⟩;exact⟨h1,h2,g,D,E,H,O⟩
     ·simp
   ·simp
  |XV sz=>
   have ax:∀(M:Mem) (J:PV->Mem->Prop) (KP:DV->Mem->Prop),ay C base (.app sz false) args M J KP↔∃k ver a,(ay C base (.app sz false) args ⟨[],[],M.aF⟩ (fun u m=> .tsl k ver 0=u/\a=m.aF) (fun _ _=>False))/\J (.tsl k ver 0) {M with aF:=a}:=by
    intro M J KP;simp only[ay]
    rcases args with _|⟨s,_|⟨x,_|⟨z,l⟩⟩⟩
    ·simp
    ·simp
    ·have F:∀k ver,(⟨[],[],M.aF⟩:Mem).row k ver=M.row k ver:=fun _ _=>rfl
     have Q:yQ sz x ⟨[],[],M.aF⟩=yQ sz x M:=by cases x with
      |d x=>cases x<;>rfl
      | _=>rfl
     simp only[lT,Q];cases yQ sz x M with
     |none=>simp
     |some ys=>
      simp only
      split
      ·constructor
       ·rintro⟨h1,h2,g,D,E,H,O⟩;exact⟨_,_,_,⟨h1,h2,g,D,E,H,rfl,rfl⟩,O⟩
       ·rintro⟨k,ver,a,⟨h1,h2,g,D,E,H,h8,rfl⟩,O⟩;cases h8;exact⟨h1,h2,g,D,E,H,O⟩
      ·rename_i k ver skip
       simp only[F];cases M.row k ver with
       |none=>simp
       |some A=>
        simp only;constructor
        ·rintro⟨h1,h2,g,D,E,H,O⟩;exact⟨_,_,_,⟨h1,h2,g,D,E,H,rfl,rfl⟩,O⟩
        ·rintro⟨k,ver,a,⟨h1,h2,g,D,E,H,h8,rfl⟩,O⟩;cases h8;exact⟨h1,h2,g,D,E,H,O⟩
      ·simp
    ·simp
   have an:∀(M:Mem) (k ver:Nat),M.frz [.tsl k ver 0]={M with aF:=I9 [k] M.aF}:=fun M k ver=>by simp[Mem.frz,l7,lZ]
   have am:∀(M:Mem) (k ver:Nat),datum M (.tsl k ver 0)=datum ⟨[],[],M.aF⟩ (.tsl k ver 0):=fun _ _ _=>rfl
   refine⟨fun M v M'=>∃a,(∃k ver G d,(ay C base (.app sz false) args ⟨[],[],M.aF⟩ (fun u m=> .tsl k ver 0=u/\G=m.aF) (fun _ _=>False))/\datum ⟨[],[],G⟩ (.tsl k ver 0)=some d/\v= .d d/\a=I9 [k] G)/\M'={M with aF:=a},
    ⟨fun aF v a=>∃k ver G d,(ay C base (.app sz false) args ⟨[],[],aF⟩ (fun u m=> .tsl k ver 0=u/\G=m.aF) (fun _ _=>False))/\datum ⟨[],[],G⟩ (.tsl k ver 0)=some d/\v= .d d/\a=I9 [k] G,fun _ _ _=>ab⟩,fun M K KP=> ?_⟩
   have:=ax M (fun v M'=>∃d,datum M' v=some d/\K (.d d) (M'.frz [v])) KP;constructor
   ·intro hh
    obtain⟨k,ver,G,h1,d,h2,g⟩:=this.1 hh;rw[am]at h2;rw[an]at g;exact⟨_,_,⟨_,⟨k,ver,G,d,h1,h2,rfl,rfl⟩,rfl⟩,g⟩
   ·rintro⟨_,_,⟨_,⟨k,ver,G,d,h1,h2,rfl,rfl⟩,rfl⟩,g⟩
    exact this.2 ⟨k,ver,G,h1,d,by rw[am];exact h2,by rw[an];exact g⟩
  |uO f=>
   simp only[kd]at h L
   by_cases aw:fl=1
   ·subst aw
    obtain⟨ds,rfl⟩:=nC (args:=args) hf;have aq:∀M:Mem,dL M (ds.map .d)=some ds:=by
     intro M;clear hf h L
     induction ds with
     |nil=>rfl
     |cons d ds ih=>simp only[U,dL,datum,ih]
    simp only[kd,if_true];refine⟨fun M v M'=>∃a,(∃r ass,Pure C f (ds.map DV.strip) r ass/\((∃x,r= .d x/\CV x=true/\ass=[]/\v=r/\a=M.aF)\/((∀A∈ass,A.st≠2)/\v=r.shift M.aF.length/\a=M.aF++ass.map some)))/\M'={M with aF:=a},
     ⟨fun aF v a=>∃r ass,Pure C f (ds.map DV.strip) r ass/\((∃x,r= .d x/\CV x=true/\ass=[]/\v=r/\a=aF)\/((∀A∈ass,A.st≠2)/\v=r.shift aF.length/\a=aF++ass.map some)),fun _ _ _=>ab⟩,fun M K KP=> ?_⟩
    simp only[ay,LJ,aq,Option.some.injEq,EX];constructor
    ·rintro⟨_,rfl,r,ass,S,(⟨x,rfl,W,rfl,g2⟩|⟨W,g2⟩)⟩
     ·exact⟨_,M,⟨_,⟨_,_,S, .inl ⟨x,rfl,W,rfl,rfl,rfl⟩⟩,rfl⟩,g2⟩
     ·exact⟨_,_,⟨_,⟨_,_,S, .inr ⟨W,rfl,rfl⟩⟩,rfl⟩,g2⟩
    ·rintro⟨v,M',⟨a,⟨r,ass,S,(⟨x,rfl,W,rfl,rfl,rfl⟩|⟨W,rfl,rfl⟩)⟩,rfl⟩,g2⟩
     ·exact⟨ds,rfl,_,_,S, .inl ⟨x,rfl,W,rfl,g2⟩⟩
     ·exact⟨ds,rfl,_,_,S, .inr ⟨W,g2⟩⟩
   ·simp_all
  |dV sz zs is=>simp only[kd]at h L;split at h<;>simp_all
  |mkI t=>simp only[kd]at h L;split at h<;>simp_all
  |zV sz lo hi mx=>simp only[kd]at h L;split at h<;>simp_all
  | _=>simp_all[kd]
end
def Hq (env:List (Nat×PV)):Option (Nat×Bool)->Option Bool
 |none=>some true
 |some (t,a)=>match look env t with| .d (.bool x)=>some (x==a)| .d (.tup [])=>some false| _=>none
section
variable {C:Ctx}{base:Nat}
variable{o:PO}{K:St->Prop}{KP:DV->Mem->Prop}{s:St}
def fG:fE C base o K KP s↔match Hq s.env o.g with
  |some true=>yF base o.fl (o.args.map s.val)/\ay C base o.op (o.args.map s.val) s.mem (fun v M=>K ⟨put s.env o.dst v,M⟩) KP
  |some false=>K ⟨put s.env o.dst (.d (.tup [])),s.mem⟩
  |none=>False:=by
 unfold fE Hq;cases f:o.g with
 |none=>exact ab
 |some q=>
  obtain⟨t,a⟩:=q;simp only;generalize look s.env t=p;cases p with
  |d y=>
   cases y with
   |bool x=>
    simp only
    by_cases b:x=a
    ·subst b
     have:¬(x= !x):=by cases x<;>simp
     simp only[beq_self_eq_true,true_implies,this,false_implies,and_true]
    ·have h1:(x==a)=false:=by simp[b]
     have h2:x= !a:=by cases x<;>cases a<;>simp_all
     simp only[h1];constructor
     ·intro h;exact h.2 h2
     ·intro h;exact⟨fun e=>absurd e b,fun _=>h⟩
   |tup c=>cases c<;>exact ab
   | _=>exact ab
  | _=>exact ab
def Opd.isT (d:Nat):Opd->Bool| .t n=>n==d| .c _=>false
def looks (o:PO)(d:Nat):Bool:=o.args.any (Opd.isT d)||(match o.g with|some (t,_)=>t==d|none=>false)
def tN (x y:PO):Bool:=(match x.dst with|some d=> !looks y d&&decide (y.dst≠some d)|none=>true)&&(match y.dst with|some d=> !looks x d|none=>true)
variable{env:List (Nat×PV)}{dst:Option Nat}{v:PV}
def Oz {t:Nat}(h:∀d,dst=some d->t≠d):look (put env dst v) t=look env t:=by
 cases dst with
 |none=>rfl
 |some d=>
  have:(d==t)=false:=by simp;exact fun e=>h d rfl e.symm
  simp[put,look,this]
variable{M:Mem}
def dW {M':Mem}(h:∀d,dst=some d->looks o d=false):
  o.args.map (St.val ⟨put env dst v,M'⟩)=o.args.map (St.val ⟨env,M⟩)/\Hq (put env dst v) o.g=Hq env o.g:=by
 constructor
 ·refine bp fun x e=> ?_
  cases x with
  |c d=>rfl
  |t n=>
   refine Oz fun d hd=> ?_
   have:=h d hd;simp only[looks,bh,List.any_eq_false]at this;have:=this.1 _ e
   simpa[Opd.isT]using this
 ·cases b:o.g with
  |none=>rfl
  |some q=>
   obtain⟨t,a⟩:=q;simp only[Hq];rw[Oz fun d hd=> ?_];have:=h d hd;simp only[looks,b,bh,beq_eq_false_iff_ne]at this;exact this.2
def Ext (K:St->Prop):Prop:=∀s a:St,(∀t,look s.env t=look a.env t)->s.mem=a.mem->K s->K a
def Ext.use (b:Ext K){s a:St}(h:K s)(c:∀t,look s.env t=look a.env t)(d:s.mem=a.mem):K a:=b s a c d h
def iL {c f:Option Nat}{i j:PV}(h:∀d,c=some d->f≠some d)(t:Nat):look (put (put env c i) f j) t=look (put (put env f j) c i) t:=by
 cases c with
 |none=>rfl
 |some a=>
  cases f with
  |none=>rfl
  |some b=>
   have g:a≠b:=fun e=>h a rfl (e▸rfl)
   simp only[put,look]
   by_cases h1:a=t
   ·subst h1
    have:(b==a)=false:=by simp;exact fun e=>g e.symm
    simp[this]
   ·have:(a==t)=false:=by simp[h1]
    simp[this]
def alB {a oi:PO}(hk:(kd a.op a.fl).swap (kd oi.op oi.fl)=true)(n:tN a oi=true){K:St->Prop}{KP:DV->Mem->Prop}(q:Ext K)(s:St)
  (h:fE C base a (fun A=>fE C base oi K KP A) KP s):fE C base oi (fun A=>fE C base a K KP A) KP s:=by
 have z:kd a.op a.fl≠ .x:=by intro e;rw[e]at hk;cases hk
 have p:kd oi.op oi.fl≠ .x:=by intro e;rw[e]at hk;cases hh:kd a.op a.fl<;>rw[hh]at hk<;>cases hk
 simp only[tN,S]at n;obtain⟨i,B⟩:=n;have r:∀d,a.dst=some d->looks oi d=false:=by intro d hd;rw[hd]at i;simp at i;exact i.1
 have hd:∀d,a.dst=some d->oi.dst≠some d:=by intro d hd;rw[hd]at i;simp at i;exact i.2
 have k:∀d,oi.dst=some d->looks a d=false:=by intro d hd;rw[hd]at B;simpa using B
 obtain⟨env,M⟩:=s;rw[fG]at h⊢;simp only at h⊢;cases j:Hq env a.g with
 |none=>rw[j]at h;exact h.elim
 |some H=>
  rw[j]at h;cases H with
  |false=>
   simp only at h;rw[fG]at h;simp only[(dW (M:=M) (M':=M) r).1,(dW (M:=M) (M':=M) r).2]at h;cases l:Hq env oi.g with
   |none=>rw[l]at h;exact h.elim
   |some u=>
    rw[l]at h;cases u with
    |false=>
     simp only at h⊢;rw[fG];simp only[(dW (M:=M) (M':=M) k).2,j];exact q.use h (iL hd) rfl
    |true=>
     simp only at h⊢;obtain⟨E,L⟩:=h;obtain⟨R,_,D⟩:=Ql (C:=C) p E;obtain⟨v,M',r1,r2⟩:=(D _ _ _).1 L;refine⟨E,(D _ _ _).2 ⟨v,M',r1,?_⟩⟩;rw[fG];simp only[(dW (M:=M) (M':=M') k).2,j];exact q.use r2 (iL hd) rfl
  |true=>
   simp only at h;obtain⟨f,y⟩:=h;obtain⟨T,O,c⟩:=Ql (C:=C) z f;obtain⟨F,t,r1,h⟩:=(c _ _ _).1 y;rw[fG]at h;simp only[(dW (M:=M) (M':=t) r).1,(dW (M:=M) (M':=t) r).2]at h;cases l:Hq env oi.g with
   |none=>rw[l]at h;exact h.elim
   |some u=>
    rw[l]at h;cases u with
    |false=>
     simp only at h⊢;rw[fG];simp only[(dW (M:=M) (M':=M) k).1,(dW (M:=M) (M':=M) k).2,j];exact⟨f,(c _ _ _).2 ⟨F,t,r1,q.use h (iL hd) rfl⟩⟩
    |true=>
     simp only at h⊢;obtain⟨o,w⟩:=h;obtain⟨Q,N,m⟩:=Ql (C:=C) p o;obtain⟨P,G,r2,h⟩:=(m _ _ _).1 w;obtain⟨b,I,J⟩:=aeF hk O N _ _ _ _ _ r1 r2;refine⟨o,(m _ _ _).2 ⟨P,b,I,?_⟩⟩;rw[fG];simp only[(dW (M:=M) (M':=b) k).1,(dW (M:=M) (M':=b) k).2,j];exact⟨f,(c _ _ _).2 ⟨F,G,J,q.use h (iL hd) rfl⟩⟩
def SY.mono {b:Nat}{args:List PV}{M:Mem}{K i:PV->Mem->Prop}{KP:DV->Mem->Prop}(h:SY C b args M K KP)(hk:∀v M',K v M'->i v M'):SY C b args M i KP:=by
 intro X w E f l o n q;obtain⟨fn,d,a,body,h1,h2⟩:=h X w E f l o n q;refine⟨fn,d,a,body,h1,h2.mono fun e w' g=> ?_⟩;cases e with
 |returned v=>obtain⟨p,M',j,k,m⟩:=g;exact⟨p,M',j,hk _ _ k,m⟩
 |panicked c=>exact g
 |outgrown=>exact g
def kQ {f:Bool}{l:List PV}{K b:Option Int->List PV->Prop}(hk:∀a l,K a l->b a l)(h:eH f l K):eH f l b:=by
 unfold eH at h⊢
 split at h
 ·exact hk _ _ h
 ·exact hk _ _ h
 ·exact h.elim
variable{op:POp}{args:List PV}
def DR {K H:PV->Mem->Prop}(hk:∀v M',K v M'->H v M')(h:ay C base op args M K KP):ay C base op args M H KP:=by
 by_cases g:∃fl,kd op fl≠ .x/\yF base fl args
 ·obtain⟨fl,h1,h2⟩:=g
  obtain⟨R,_,J⟩:=Ql (C:=C) h1 h2;obtain⟨v,M',r,k⟩:=(J _ _ _).1 h;exact(J _ _ _).2 ⟨v,M',r,hk _ _ k⟩
 ·have E:kd op 0= .x:=by
   by_cases hh:kd op 0= .x
   ·exact hh
   ·exact absurd ⟨0,hh,trivial⟩ g
  cases op with
  |Wn sz=>
   simp only[ay]at h⊢
   split at h
   ·exact⟨h.1,h.2.1,h.2.2.1,hk _ _ h.2.2.2⟩
   ·exact hk _ _ h
   ·exact h.elim
  |dV sz zs S=>
   simp only[ay]at h⊢
   split at h
   ·rename_i ds e
    try simp only[e]
    split at h
    ·rename_i G o;(try simp only[o]);exact hk _ _ h
    ·exact h.elim
   ·exact h.elim
  |store n=>
   simp only[ay]at h⊢
   split at h
   ·rename_i x y
    simp only[jP]at h⊢
    split at h
    ·split at h
     ·rename_i cs D;(try simp only[D]);exact⟨h.1,h.2.1,h.2.2.1,h.2.2.2.1,hk _ _ h.2.2.2.2⟩
     ·exact h.elim
    ·split at h
     ·rename_i A ds B e;(try simp only[B,e]);exact⟨h.1,h.2.1,h.2.2.1,h.2.2.2.1,h.2.2.2.2.1,hk _ _ h.2.2.2.2.2⟩
     ·exact h.elim
    ·exact h.elim
   ·exact h.elim
  |mkI t=>
   simp only[ay]at h⊢
   split at h
   ·split at h
    ·rename_i d hd;(try simp only[hd]);exact hk _ _ h
    ·exact h.elim
   ·exact h.elim
  |EJ lo Q=>
   simp only[ay,wU]at h⊢
   split at h
   ·refine kQ (fun a l=>kQ fun b l=>kQ fun m l hh=> ?_) h
    exact⟨hh.1,hh.2.1,hh.2.2.1,hh.2.2.2.1,hh.2.2.2.2.1,hk _ _ hh.2.2.2.2.2⟩
   ·exact h.elim
  |zV sz lo Q W=>
   simp only[ay,Au]at h⊢
   split at h
   ·refine kQ (fun a l=>kQ fun b l=>kQ fun m l hh=> ?_) h
    exact⟨hh.1,hh.2.1,hh.2.2.1,hh.2.2.2.1,hh.2.2.2.2.1,hh.2.2.2.2.2.1,hk _ _ hh.2.2.2.2.2.2⟩
   ·refine kQ (fun a l=>kQ fun b l=>kQ fun m l hh=> ?_) h
    refine⟨hh.1,?_⟩;have h2:=hh.2
    split at h2
    ·rename_i A B
     try simp only[B]
     split at h2
     ·exact⟨h2.1,h2.2.1,h2.2.2.1,h2.2.2.2.1,hk _ _ h2.2.2.2.2⟩
     ·exact⟨h2.1,h2.2.1,h2.2.2.1,h2.2.2.2.1,h2.2.2.2.2.1,hk _ _ h2.2.2.2.2.2⟩
    ·exact h2.elim
   ·exact h.elim
  |call f=>exact SC.mono h hk
  |Jz f=>
   obtain⟨P,h1,h2,j⟩:=h;exact⟨P,h1,h2,fun p M' q=>hk _ _ (j p M' q)⟩
  |D8 agg n f=>
   cases args with
   |nil=>exact h
   |cons a L=>
    simp only[ay]at h⊢;obtain⟨v,h1,h2⟩:=jV.1 h;exact jV.2 ⟨v,h1,SC.mono h2 fun p M' hh=>⟨hh.1,hk _ _ hh.2⟩⟩
  |b2s=>
   simp only[ay]at h⊢
   split at h
   ·rename_i x
    cases g:yQ 0 x M with
    |none=>simp only[g]at h
    |some G=>
     simp only[g]at h⊢;cases c:bytesOf G with
     |none=>simp only[c]at h
     |some l=>simp only[c]at h⊢;exact hk _ _ h
   ·exact h.elim
  |uO f=>
   obtain⟨ds,h1,r,ass,h2,j⟩:=h;refine⟨ds,h1,r,ass,h2,j.imp ?_ ?_⟩
   ·rintro⟨x,u,w,N,O⟩;exact⟨x,u,w,N,hk _ _ O⟩
   ·rintro⟨u,w⟩;exact⟨u,hk _ _ w⟩
  |jE f=>
   obtain⟨ds,h1,x,h2,j,I⟩:=h;exact⟨ds,h1,x,h2,j,hk _ _ I⟩
  |jR=>
   simp only[ay]at h⊢
   split at h
   ·exact⟨h.1,h.2.mono hk⟩
   ·exact⟨h.1,h.2.mono hk⟩
   ·exact SY.mono h hk
   ·exact h.elim
  |CW neq=>
   simp only[ay]at h⊢
   split at h
   ·exact hk _ _ h
   ·exact hk _ _ h
   ·exact h.elim
  |rngS i=>
   simp only[ay]at h⊢
   split at h
   ·exact⟨h.1,hk _ _ h.2⟩
   ·exact h.elim
  |Zg=>
   simp only[ay]at h⊢
   split at h
   ·rename_i b
    cases c:M.box b with
    |none=>simp only[c]at h
    |some cs=>
     simp only[c]at h⊢
     split at h
     ·rename_i s pos U
      refine⟨h.1,?_⟩;have h2:=h.2
      split at h2
      ·rename_i q;rw[if_pos q];exact hk _ _ h2
      ·rename_i q;rw[if_neg q];exact hk _ _ h2
     ·exact h.elim
   ·exact h.elim
  |inv name=>
   simp only[ay]at h⊢
   split at h
   ·obtain⟨f,h1,h2,j⟩:=h
    exact⟨f,h1,h2,j.mono hk⟩
   ·exact h.elim
  |oK sz zs S=>
   simp only[ay]at h⊢
   split at h
   ·rename_i ds e
    try simp only[e]
    split at h
    ·rename_i G o;(try simp only[o]);exact⟨h.1,h.2.1,hk _ _ h.2.2⟩
    ·exact h.elim
   ·exact h.elim
  |mkMap i=>
   simp only[ay]at h⊢
   split at h
   ·exact⟨h.1,hk _ _ h.2⟩
   ·exact h.elim
  |abW F=>
   simp only[ay]at h⊢
   split at h
   ·rename_i b k v
    cases c:M.box b with
    |none=>simp only[c]at h
    |some cs=>
     simp only[c]at h⊢
     split at h
     ·rename_i l T
      refine⟨h.1,?_⟩;have h2:=h.2
      split at h2
      ·rename_i V j I;exact hk _ _ h2
      ·exact h2.elim
     ·exact h.elim
   ·exact h.elim
  |Hr ok F z=>
   simp only[ay]at h⊢
   split at h
   ·split at h
    ·rename_i h1 h2;(try simp only[h1,h2]);exact hk _ _ h
    ·exact h.elim
   ·rename_i b k
    cases c:M.box b with
    |none=>simp only[c]at h
    |some cs=>
     simp only[c]at h⊢
     split at h
     ·split at h
      ·exact hk _ _ h
      ·exact h.elim
     ·exact h.elim
   ·exact h.elim
  |abV F=>
   simp only[ay]at h⊢
   split at h
   ·rename_i b k v
    cases c:M.box b with
    |none=>simp only[c]at h
    |some cs=>
     simp only[c]at h⊢
     split at h
     ·refine⟨h.1,?_⟩
      have h2:=h.2
      split at h2
      ·exact hk _ _ h2
      ·exact h2.elim
     ·exact h.elim
   ·exact h.elim
  |abT F=>
   simp only[ay]at h⊢
   split at h
   ·rename_i b k
    cases c:M.box b with
    |none=>simp only[c]at h
    |some cs=>
     simp only[c]at h⊢
     split at h
     ·refine⟨h.1,?_⟩
      have h2:=h.2
      split at h2
      ·exact hk _ _ h2
      ·exact h2.elim
     ·exact h.elim
   ·exact h.elim
  |isNil neq=>
   simp only[ay]at h⊢
   split at h
   ·exact⟨fun g=>hk _ _ (h.1 g),fun g b=>hk _ _ (h.2 g b)⟩
   ·exact h.elim
  |panic=>exact h
  | _=>simp[kd]at E
def Tz {a:St->Prop}(hk:∀s,K s->a s)(h:fE C base o K KP s):fE C base o a KP s:=by
 rw[fG]at h⊢;cases c:Hq s.env o.g with
 |none=>rw[c]at h;exact h
 |some b=>
  rw[c]at h;cases b with
  |false=>exact hk _ h
  |true=>exact⟨h.1,DR (fun v M' hh=>hk _ hh) h.2⟩
def alH {a:St}(h:∀t,look s.env t=look a.env t)(args:List Opd):args.map s.val=args.map a.val:=by
 refine bp fun x _=> ?_
 cases x with
 |c d=>rfl
 |t n=>exact h n
def JY {a:List (Nat×PV)}(h:∀t,look env t=look a t)(dst:Option Nat)(v:PV)(t:Nat):look (put env dst v) t=look (put a dst v) t:=by
 cases dst with
 |none=>exact h t
 |some d=>simp only[put,look,h]
def afJ (d:Ext K):Ext (fE C base o K KP):=by
 intro s j c i h;rw[fG]at h⊢;have f:Hq j.env o.g=Hq s.env o.g:=by
  cases o.g with
  |none=>rfl
  |some q=>obtain⟨t,e⟩:=q;simp only[Hq,c]
 rw[f,<-alH c,<-i];cases a:Hq s.env o.g with
 |none=>rw[a]at h;exact h
 |some b=>
  rw[a]at h;cases b with
  |false=>exact d.use h (JY c _ _) rfl
  |true=>exact⟨h.1,DR (K:=fun v M=>K ⟨put s.env o.dst v,M⟩) (fun v M' hh=>d.use hh (JY c _ _) rfl) h.2⟩
def agS {fl:Nat}(h:op= .mov\/(fl=1/\∃ag n,op= .load ag n))(hf:yF base fl args):∃(c:Prop) (v:PV),∀M K KP,ay C base op args M K KP↔c/\K v M:=by
 rcases h with rfl|⟨rfl,ag,n,rfl⟩
 ·rcases args with _|⟨x,_|⟨y,l⟩⟩
  ·exact⟨False, .dead,fun M K KP=>by simp[ay]⟩
  ·exact⟨True,x,fun M K KP=>by simp[ay]⟩
  ·exact⟨False, .dead,fun M K KP=>by simp[ay]⟩
 ·obtain⟨ds,rfl⟩:=nC (args:=args) hf
  rcases ds with _|⟨x,_|⟨y,l⟩⟩
  ·exact⟨False, .dead,fun M K KP=>by simp[ay]⟩
  ·cases x with
   |aV cs=>exact⟨n<=cs.length,_,fun M K KP=>by simp only[U,Z,ay,cO];exact ab⟩
   | _=>exact⟨False, .dead,fun M K KP=>by simp[ay,cO]⟩
  ·exact⟨False, .dead,fun M K KP=>by simp[ay]⟩
def ai9 {a oi:PO}{f:FuncId}(j:a.op= .Jz f)(u:oi.op= .mov\/(oi.fl=1/\∃ag n,oi.op= .load ag n))(t:tN a oi=true){K:St->Prop}{KP:DV->Mem->Prop}(y:Ext K)(s:St)
  (h:fE C base a (fun E=>fE C base oi K KP E) KP s):fE C base oi (fun E=>fE C base a K KP E) KP s:=by
 simp only[tN,S]at t;obtain⟨l,F⟩:=t;have i:∀d,a.dst=some d->looks oi d=false:=by intro d hd;rw[hd]at l;simp at l;exact l.1
 have hd:∀d,a.dst=some d->oi.dst≠some d:=by intro d hd;rw[hd]at l;simp at l;exact l.2
 have r:∀d,oi.dst=some d->looks a d=false:=by intro d hd;rw[hd]at F;simpa using F
 obtain⟨env,M⟩:=s;rw[fG]at h⊢;simp only at h⊢;cases m:Hq env a.g with
 |none=>rw[m]at h;exact h.elim
 |some I=>
  rw[m]at h;cases I with
  |false=>
   simp only at h;rw[fG]at h;simp only[(dW (M:=M) (M':=M) i).1,(dW (M:=M) (M':=M) i).2]at h;cases e:Hq env oi.g with
   |none=>rw[e]at h;exact h.elim
   |some z=>
    rw[e]at h;cases z with
    |false=>
     simp only at h⊢;rw[fG];simp only[(dW (M:=M) (M':=M) r).2,m];exact y.use h (iL hd) rfl
    |true=>
     simp only at h⊢;obtain⟨G,J⟩:=h;obtain⟨c,v,o⟩:=agS (C:=C) u G;obtain⟨r1,r2⟩:=(o _ _ _).1 J;refine⟨G,(o _ _ _).2 ⟨r1,?_⟩⟩;rw[fG];simp only[(dW (M:=M) (M':=M) r).2,m];exact y.use r2 (iL hd) rfl
  |true=>
   simp only[j]at h;obtain⟨x,P,H,⟨q,N,B⟩,D⟩:=h;have b:fE C base oi K KP ⟨put env a.dst q,N⟩:=D q N B;rw[fG]at b;simp only[(dW (M:=M) (M':=N) i).1,(dW (M:=M) (M':=N) i).2]at b;cases e:Hq env oi.g with
   |none=>rw[e]at b;exact b.elim
   |some z=>
    rw[e]at b;cases z with
    |false=>
     simp only;rw[fG];simp only[(dW (M:=M) (M':=M) r).1,(dW (M:=M) (M':=M) r).2,m,j];refine⟨x,P,H,⟨q,N,B⟩,fun p M' A=> ?_⟩;have k:fE C base oi K KP ⟨put env a.dst p,M'⟩:=D p M' A;rw[fG]at k;simp only[(dW (M:=M) (M':=M') i).2,e]at k;exact y.use k (iL hd) rfl
    |true=>
     simp only at b⊢;obtain⟨w,b⟩:=b;obtain⟨c,v,o⟩:=agS (C:=C) u w;refine⟨w,(o _ _ _).2 ⟨((o _ _ _).1 b).1,?_⟩⟩;rw[fG];simp only[(dW (M:=M) (M':=M) r).1,(dW (M:=M) (M':=M) r).2,m,j];refine⟨x,P,H,⟨q,N,B⟩,fun p M' A=> ?_⟩;have k:fE C base oi K KP ⟨put env a.dst p,M'⟩:=D p M' A;rw[fG]at k;simp only[(dW (M:=M) (M':=M') i).1,(dW (M:=M) (M':=M') i).2,e]at k;exact y.use ((o _ _ _).1 k.2).2 (iL hd) rfl
def al3 (q p:PO):Bool:=
 match q.op,p.op,q.args,p.args with
 | .load ag n, .D8 c d _,[.t a], .t b::_=>ag==c&&n==d&&a==b&&q.fl==0&&p.fl==0&&q.g.isNone&&p.g.isNone
 | .D8 ag n _, .load c d, .t a::_,[.t b]=>ag==c&&n==d&&a==b&&q.fl==0&&p.fl==0&&q.g.isNone&&p.g.isNone
 | .Jz _, .mov,_,_=>true
 | .Jz _, .load _ _,_,_=>p.fl==1
 | _,_,_,_=>false
def TU (q p:PO):Bool:=(kd q.op q.fl).swap (kd p.op p.fl)||al3 q p
def Y5 {agg:Bool}{n:Nat}{x:PV}{b:PV}(h:cO agg n x M fun u=>v=u)(h':cO agg n x M fun u=>b=u):v=b:=by
 unfold cO at h h'
 split at h
 ·split at h
  ·rename_i a;simp only[a]at h';rw[h.2,h'.2]
  ·exact h.elim
 ·rw[h.2,h'.2]
 ·split at h
  ·rename_i a;simp only[a]at h';rw[h.2,h'.2]
  ·exact h.elim
 ·exact h.elim
def xH (a:o.g=none)(hf:o.fl=0):fE C base o K KP s↔ay C base o.op (o.args.map s.val) s.mem (fun v M=>K ⟨put s.env o.dst v,M⟩) KP:=by
 unfold fE;rw[a,hf];exact⟨fun h=>h.2,fun h=>⟨trivial,h⟩⟩
def aja {g oi:PO}(hk:TU g oi=true)(e:tN g oi=true){K:St->Prop}{KP:DV->Mem->Prop}(q:Ext K)(s:St)
  (h:fE C base g (fun B=>fE C base oi K KP B) KP s):fE C base oi (fun B=>fE C base g K KP B) KP s:=by
 simp only[TU,a8]at hk
 rcases hk with hk|hk
 ·exact alB hk e q s h
 simp only[tN,S]at e;obtain⟨c,u⟩:=e;have E:∀d,g.dst=some d->looks oi d=false:=by intro d hd;rw[hd]at c;simp at c;exact c.1
 have hd:∀d,g.dst=some d->oi.dst≠some d:=by intro d hd;rw[hd]at c;simp at c;exact c.2
 have D:∀d,oi.dst=some d->looks g d=false:=by intro d hd;rw[hd]at u;simpa using u
 obtain⟨env,M⟩:=s;unfold al3 at hk
 split at hk
 ·rename_i ag n z H f a b r h1 h2 o w
  simp only[S,beq_iff_eq,aR]at hk;obtain⟨⟨⟨⟨⟨⟨rfl,rfl⟩,rfl⟩,j⟩,k⟩,l⟩,m⟩:=hk;rw[xH l j]at h;rw[xH m k];simp only[h1,o,U,Z,ay]at h;obtain⟨v,x,i⟩:=jV.1 h;rw[xH m k]at i;simp only[(dW (M:=M) (M':=M) E).1]at i;simp only[h2,w,U,ay]at i⊢;obtain⟨J,F,I⟩:=jV.1 i;refine jV.2 ⟨J,F,SC.mono I fun p M' hh=>⟨hh.1,?_⟩⟩;rw[xH l j];simp only[(dW (M:=M) (M':=M') D).1];simp only[h1,o,U,Z,ay];obtain⟨G,r1,r2⟩:=jV.1 hh.1;have A:=Y5 x F;refine jV.2 ⟨G,r1,q.use hh.2 (fun t=> ?_) rfl⟩;rw[r2,<-A];exact iL hd t
 ·rename_i ag n f z H a r b h1 h2 o w
  simp only[S,beq_iff_eq,aR]at hk;obtain⟨⟨⟨⟨⟨⟨rfl,rfl⟩,rfl⟩,j⟩,k⟩,l⟩,m⟩:=hk;rw[xH l j]at h;rw[xH m k];simp only[h1,o,U,ay]at h;obtain⟨v,x,i⟩:=jV.1 h;simp only[h2,w,U,Z,ay];refine jV.2 ⟨v,x,?_⟩;rw[xH l j];simp only[(dW (M:=M) (M':=M) D).1];simp only[h1,o,U,ay];refine jV.2 ⟨v,x,SC.mono i fun p M' hh=>⟨hh.1,?_⟩⟩;have y:=hh.2;rw[xH m k]at y;simp only[(dW (M:=M) (M':=M') E).1]at y;simp only[h2,w,U,Z,ay]at y;obtain⟨G,r1,r2⟩:=jV.1 y;obtain⟨L,r3,r4⟩:=jV.1 hh.1;have A:=Y5 r1 r3;refine q.use r2 (fun t=> ?_) rfl;rw[A,r4];exact iL hd t
 ·rename_i f h1 h2
  exact ai9 h1 (.inl h2) (by simp only[tN,S];exact⟨c,u⟩) q ⟨env,M⟩ h
 ·rename_i f ag n h1 h2
  exact ai9 h1 (.inr ⟨by simpa using hk,ag,n,h2⟩) (by simp only[tN,S];exact⟨c,u⟩) q ⟨env,M⟩ h
 ·cases hk
def Ux (C:Ctx)(base:Nat)(ps:List PO):List Nat->(St->Prop)->(DV->Mem->Prop)->St->Prop
 | [],K,_,s=>K s
 |i::l,K,KP,s=>match ps[i]? with
  |some p=>fE C base p (fun a=>Ux C base ps l K KP a) KP s
  |none=>False
def ZX {ps:List PO}{K:St->Prop}{KP:DV->Mem->Prop}(a:Ext K):∀l,Ext (Ux C base ps l K KP)
 | []=>a
 |i::l=>by
  intro s d b c h;simp only[Ux]at h⊢
  split at h
  ·rename_i p e;exact afJ (ZX a l) s d b c h
  ·exact h.elim
def Tt {ps:List PO}{i:Nat}{p:PO}(d:ps[i]?=some p){K:St->Prop}{KP:DV->Mem->Prop}(b:Ext K){l2:List Nat}:∀{l1:List Nat} (_:∀j∈l1,∀q,ps[j]?=some q->TU q p=true/\tN q p=true) {s:St},
  Ux C base ps (l1++i::l2) K KP s->fE C base p (fun f=>Ux C base ps (l1++l2) K KP f) KP s
 | [],_,s,h=>by simpa[Ux,d]using h
 |j::l1,c,s,h=>by
  simp only[a7,Ux]at h⊢
  split at h
  ·rename_i q e
   obtain⟨g,k⟩:=c j (by simp) q e
   try simp only[e]
   exact aja g k (ZX b _) s (Tz (fun f l=>Tt d b (fun m a=>c m (by simp[a])) l) h)
  ·exact h.elim
def Tv {ps:List PO}{K:St->Prop}{KP:DV->Mem->Prop}:∀(n k:Nat) (s:St),k+n=ps.length->wO C base (ps.drop k) K KP s->Ux C base ps (bz k n) K KP s
 |0,k,s,c,h=>by
  rw[List.drop_eq_nil_of_le (by omega)]at h;exact h
 |n+1,k,s,c,h=>by
  have a:k<ps.length:=by omega
  rw[List.drop_eq_getElem_cons a]at h;simp only[bv,Ux,an a];exact Tz (fun d b=>Tv n (k+1) d (by omega) b) h
end
def uP (o:Oper):List Nat:=(o.after.toList.filter (Region.binds .any)).map (·.on)
def Np (a:List Nat)(ps:List Nat):Nat:=ps.foldl (fun m k=>m|||(1<<<k)|||a.getD k 0) 0
def aa0:List (List Nat)->List Nat->List Nat
 | [],a=>a
 |c::b,a=>aa0 b (a++ [Np a c])
def ady (a:List Nat)(ps:List PO):Bool:=
 (bS ps.length).all fun i=>(bS i).all fun j=>(a.getD i 0).testBit j||match ps[j]?,ps[i]? with
  |some q,some p=>TU q p&&tN q p
  | _,_=>false
def Xj (ops:Array Oper)(ps:List PO):Bool:=
 let a:=ops.toList.map uP
 (a.zipIdx.all fun(l,i)=>l.all fun k=>decide (k<i))&&ady (aa0 a []) ps
inductive Rch (pre:List (List Nat)):Nat->Nat->Prop
 |one {j i:Nat} {l:List Nat} (hl:pre[i]?=some l) (h:j∈l):Rch pre j i
 |step {j k i:Nat} {l:List Nat} (hl:pre[i]?=some l) (h:k∈l) (t:Rch pre j k):Rch pre j i
def Y8 {pre:List (List Nat)}{b:List Nat}{i:Nat}{l:List Nat}(hl:pre[i]?=some l)(c:∀k j,(b.getD k 0).testBit j=true->Rch pre j k){j:Nat}(h:(Np b l).testBit j=true):Rch pre j i:=by
 have n:∀(d:List Nat) (m:Nat),(∀k∈d,k∈l)->(m.testBit j=true->Rch pre j i)->(d.foldl (fun m k=>m|||(1<<<k)|||b.getD k 0) m).testBit j=true->Rch pre j i:=by
  intro d
  induction d with
  |nil=>intro m _ g h;exact g h
  |cons k d o=>
   intro m e g h;refine o _ (fun p f=>e p (by simp[f])) (fun a=> ?_) h;simp only[Nat.testBit_or,a8]at a
   rcases a with(a|a)|a
   ·exact g a
   ·rw[Nat.one_shiftLeft,Nat.testBit_two_pow]at a
    simp only[decide_eq_true_eq]at a;subst a;exact .one hl (e _ (by simp))
   ·exact .step hl (e k (by simp)) (c k j a)
 exact n l 0 (fun _ h=>h) (fun h=>by simp at h) h
def Og {pre:List (List Nat)}:∀(rest:List (List Nat)) (a:List Nat),(∀j,rest[j]?=pre[a.length+j]?)->(∀k j,(a.getD k 0).testBit j=true->Rch pre j k)->
  ∀k j,((aa0 rest a).getD k 0).testBit j=true->Rch pre j k
 | [],a,_,h=>h
 |l::rest,a,d,h=>by
  refine Og rest _ (fun j=> ?_) fun k j b=> ?_
  ·have:=d (j+1)
   simp only[List.getElem?_cons_succ]at this;rw[this];simp only[bt,be];congr 1;omega
  ·by_cases e:k<a.length
   ·have:(a++ [Np a l]).getD k 0=a.getD k 0:=by simp[b3,List.getElem?_append_left e]
    rw[this]at b;exact h k j b
   ·by_cases c:k=a.length
    ·subst c
     have:(a++ [Np a l]).getD a.length 0=Np a l:=by simp[b3]
     rw[this]at b;exact Y8 (by have:=d 0;simpa using this.symm) h b
    ·have:(a++ [Np a l]).getD k 0=0:=by
      rw[b3,bd (by simp;omega)];rfl
     rw[this]at b;simp at b
section
variable {C:Ctx}{X:Nat->Prop}{w:World}{E:Emb}{lo:Lo}{ro:Option Nat}
structure Done (ops:Array Oper) (listed:Array Bool) (rest:List Nat):Prop where
 size:listed.size=ops.size
 mem:∀j,j∈rest↔(j<ops.size/\listed.getD j true=false)
 sorted:rest.Pairwise (·<·)
 closed:∀j o,ops[j]?=some o->listed.getD j false=true->∀k∈uP o,listed.getD k false=true
def Nq {o:Oper}{k:Nat}:k∈uP o↔∃e∈o.after,Region.binds .any e=true/\e.on=k:=by
 simp[uP,and_assoc]
variable{ops:Array Oper}
def acs {listed:Array Bool}{rest:List Nat}(hd:Done ops listed rest){j i:Nat}(h:Rch (ops.toList.map uP) j i):
  (∀o,ops[i]?=some o->∀k∈uP o,listed.getD k false=true)->listed.getD j false=true:=by
 induction h with
 |one a h=>
  intro b;simp only[ax,ai,am]at a;obtain⟨o,c,rfl⟩:=a;exact b o c _ h
 |step a h t f=>
  intro b;simp only[ax,ai,am]at a;obtain⟨o,c,rfl⟩:=a;have e:=b o c _ h;exact f fun g d=>hd.closed _ g d e
def aea {n:Nat}(ai:∀q,lo.fx=some q->∀o∈ops,o.dst≠some q.1){ps:List PO}(aM:J6 C.P n ops ops.toList ps=true)(M:Xj ops ps=true){base:Nat}{K:St->Prop}{KP:DV->Mem->Prop}{Q:Exit->Act->World->Prop}{w₀:World}{M₀:Mem}{E₀:Emb}
  (O:Ext K)
  (hK:∀s' t w' E',K s'->InS C X lo n s' t w' E'->From w₀ M₀ E₀ w' s'.mem E'->Q .normal t w')
  (ac:∀d M' t w' E' v,KP d M'->Sim C X w' M' E'->From w₀ M₀ E₀ w' M' E'->bU w' (away X M' E') v d->okD lo X t.defers w'->(∀q,lo.fx=some q->t.eval (.tmp q.1)=q.2)->Q (.panic [{v,recovered:=false}]) t w'):
  ∀(f:Nat) (rest:List Nat) (listed:Array Bool),f=rest.length->Done ops listed rest->∀(s:St) (a:Act) (w:World) (E:Emb),InS C X lo n s a w E->From w₀ M₀ E₀ w s.mem E->Ux C base ps rest K KP s->
   wpAnyIn (RF ro) 0 C.P .any ops Q f listed a w:=by
 obtain⟨W,R⟩:=GV aM;simp only[Array.length_toList]at W;simp only[Xj,S]at M;obtain⟨G,ahq⟩:=M;have az:∀i o,ops[i]?=some o->∀k∈uP o,k<i:=by
  intro i o A k I;simp only[aD]at G;have:=G (uP o,i) (by
   rw[List.mem_zipIdx_iff_getElem?];simp[A])
  simp only[decide_eq_true_eq]at this;exact this k I
 have apt:=Og (pre:=ops.toList.map uP) (ops.toList.map uP) [] (fun j=>by simp) (fun k j h=>by simp at h);have aoC:∀i j q p,j<i->ps[j]?=some q->ps[i]?=some p->Rch (ops.toList.map uP) j i\/(TU q p=true/\tN q p=true):=by
  intro i j q p c hq hp;simp only[ady,aD,List.mem_range,a8]at ahq;have hi:i<ps.length:=(aq.1 hp).1
  rcases ahq i hi j c with h|h
  ·exact .inl (apt i j h)
  ·rw[hq,hp]at h
   simp only[S]at h;exact .inr h
 intro f
 induction f with
 |zero=>
  intro rest listed hf hd s a w E h u hr;have:rest=[]:=List.length_eq_zero_iff.1 hf.symm;subst this;refine⟨?_,hK s a w E hr h u⟩;cases aR:Region.ready .any ops listed with
  |nil=>rfl
  |cons i l=>
   have F:i∈Region.ready .any ops listed:=by rw[aR];simp
   rw[mem_ready]at F;obtain⟨h0,o,A,_⟩:=F;have:=(hd.mem i).2 ⟨(aL.1 A).1,h0⟩;cases this
 |succ f ih=>
  intro rest listed hf hd s a w E h u hr;refine⟨fun Z=> ?_,fun i hi=> ?_⟩
  ·exfalso
   cases rest with
   |nil=>simp at hf
   |cons i l=>
    obtain⟨z,ax⟩:=(hd.mem i).1 (by simp);have:i∈Region.ready .any ops listed:=by
     rw[mem_ready];refine⟨ax,ops[i],ap z,fun e N L=> ?_⟩;have I:=az i ops[i] (ap z) e.on (Nq.2 ⟨e,N,L,rfl⟩);cases V:listed.getD e.on false with
     |true=>rfl
     |false=>
      have r:e.on<listed.size:=by rw[hd.size];omega
      have H:listed.getD e.on true=false:=by
       simp only[Y,ap r,bw]at V⊢;exact V
      have m:=(hd.mem e.on).2 ⟨by omega,H⟩
      rcases a6.1 m with a1|m
      ·omega
      ·have:=(ao.1 hd.sorted).1 _ m
       omega
    rw[Z]at this;cases this
  ·obtain⟨aw,o,A,B⟩:=mem_ready.1 hi
   have z:i<ops.size:=(aL.1 A).1;have m:=(hd.mem i).2 ⟨z,aw⟩;obtain⟨l1,l2,rfl⟩:=List.append_of_mem m;have J:i<ps.length:=by omega
   obtain⟨o',ab,apM⟩:=R i ps[i] (an J);rw[am,A]at ab;cases ab;have b:=bl.1 hd.sorted;have am9:=Tt (C:=C) (base:=base) (an J) O (l1:=l1) (l2:=l2) (fun j D q hq=>by
    have c:j<i:=b.2.2 j D i (by simp)
    rcases aoC i j q ps[i] c hq (an J)with hr|hc
    ·exfalso
     have V:=acs hd hr fun o2 g k I=>by
      rw[A]at g;cases g;obtain⟨e,N,L,rfl⟩:=Nq.1 I;exact B e N L
     have T:=(hd.mem j).1 (by simp[D]);have r:j<listed.size:=by rw[hd.size];exact T.1
     have H:=T.2;simp only[Y,ap r,bw]at V H;rw[V]at H;cases H
    ·exact hc) hr
   refine Zm ai A apM h am9 (fun s' t w' E' a0 av ae=> ?_) (fun d M' t w' E' v h1 h2 H h4 h5=>ac d M' t w' E' v h1 h2 (u.trans H) h4 h5);refine ih (l1++l2) (listed.setIfInBounds i true) (by simp at hf⊢;omega) ?_ s' t w' E' av (u.trans ae) a0;have a2:=hd.sorted;refine⟨by simp[hd.size],fun j=> ?_,?_,fun j o2 g U k I=> ?_⟩
   ·by_cases c:j=i
    ·subst c
     constructor
     ·intro D
      exfalso
      rcases aE.1 D with D|D
      ·exact absurd (b.2.2 j D j (by simp)) (by omega)
      ·exact absurd ((ao.1 b.2.1).1 j D) (by omega)
     ·rintro⟨h1,h2⟩
      exfalso
      have r:j<listed.size:=by rw[hd.size];exact h1
      simp[r]at h2
    ·rw[getD_set_ne true (Ne.symm c)]
     have:=hd.mem j;simp only[aE,a6,c,false_or]at this⊢;exact this
   ·refine bl.2 ⟨b.1,(ao.1 b.2.1).2,fun x hx y hy=>b.2.2 x hx y (by simp[hy])⟩
   ·by_cases c:j=i
    ·subst c
     rw[A]at g;cases g;obtain⟨e,N,L,rfl⟩:=Nq.1 I;exact getD_set_true (B e N L)
    ·rw[getD_set_ne false (Ne.symm c)]at U
     exact getD_set_true (hd.closed j o2 g U k I)
def aa6 {n:Nat}(l:∀q,lo.fx=some q->∀o∈ops,o.dst≠some q.1){ps:List PO}(u:C.P.follows .mixedOrders=true)(g:J6 C.P n ops ops.toList ps=true)(k:Xj ops ps=true){base id:Nat}{K:St->Prop}{KP:DV->Mem->Prop}{Q:Exit->Act->World->Prop}
  {s:St}{a:Act}{w₀:World}{M₀:Mem}{E₀:Emb}(f:Ext K)(h:InS C X lo n s a w E)(hf:From w₀ M₀ E₀ w s.mem E)(x:wO C base ps K KP s)
  (t:∀p e w' E',K p->InS C X lo n p e w' E'->From w₀ M₀ E₀ w' p.mem E'->Q .normal e w')
  (i:∀d M' e w' E' v,KP d M'->Sim C X w' M' E'->From w₀ M₀ E₀ w' M' E'->bU w' (away X M' E') v d->okD lo X e.defers w'->(∀q,lo.fx=some q->e.eval (.tmp q.1)=q.2)->Q (.panic [{v,recovered:=false}]) e w'):
  (Code.region id ops true).wpIn (RF ro) 0 C.P Q a w:=by
 refine wpIn_region_any u ?_;have c:ops.size=ps.length:=by simpa using(GV g).1
 have r:Later w {w with drawn:=w.drawn+1}:=⟨rfl,rfl,rfl,av _,fun _ _=>rfl⟩
 have m:=Tv (C:=C) (base:=base) (ps:=ps) (K:=K) (KP:=KP) ps.length 0 s (by simp) (by simpa using x);refine aea (C:=C) (X:=X) l g k f t i ops.size (bz 0 ps.length) (aw ops.size false) (by simp[c]) ?_ s a _ E (h.later r) (hf.trans (r.from s.mem E)) m;refine⟨by simp,fun j=> ?_,?_,fun j o _ b=> ?_⟩
 ·simp only[List.mem_range'_1,bB,true_and,b6,<-c]
  constructor
  ·intro b;exact⟨b,by simp[b]⟩
  ·exact fun b=>b.1
 ·exact List.pairwise_lt_range' ..
 ·exfalso
  simp[Array.getElem?_replicate]at b
  split at b<;>simp at b
end
def wpB (B:FuncId->Prop)(F:Fence)(n:Nat)(P:Program)(c:Code)(Q:Exit->Act->World->Prop)(a:Act)(w:World):Prop:=
 ∀(b:Frame) (k:List Item) (cs:List Frame),b.roundOf=F.round->F.fn b.fn->B b.fn->F.room (cs.length+1+n)->
  ∃e d w',Q e d w'/\ArrivesIn (Machine.fenced P F) P (lone (b.atR a (.code c::k)) cs w) b k cs e d w'
section
variable {B:FuncId->Prop}{F:Fence}{n:Nat}{P:Program}{Q:Exit->Act->World->Prop}{a:Act}{w:World}
variable{c:Code}
def Gu (h:c.wpIn F n P Q a w):wpB B F n P c Q a w:=fun b k cs d e _ f=>h b k cs d e f
def alK (h:wpB (fun _=>True) F n P c Q a w):c.wpIn F n P Q a w:=fun b k cs d e f=>h b k cs d e trivial f
def xK {f:Exit->Act->World->Prop}(h:wpB B F n P c Q a w)(l:∀e a w,Q e a w->f e a w):wpB B F n P c f a w:=
 fun b k cs d j i m=>let⟨e,g,w',q,r⟩:=h b k cs d j i m;⟨e,g,w',l _ _ _ q,r⟩
variable{x y:Code}
def alL (h:wpB B F n P x (Exit.then (wpB B F n P y Q) Q) a w):wpB B F n P (Code.seq x y) Q a w:=by
 intro b k cs j o r q;have f:(lone (b.atR a (.code (.seq x y)::k)) cs w).fenced P F:=fenced_calm o q rfl;obtain⟨e,i,m,g,c⟩:=h b (.code y::k) cs j o r q;cases e with
 |normal=>
  obtain⟨t,s,u,p,d⟩:=g b k cs j o r q;exact⟨t,s,u,p, .of_steps (.head f stepR_seq c) d⟩
 |exit id=>exact⟨_,i,m,g, .of_steps (.one f stepR_seq) (.pass (x:= .code y) rfl (fun _ _=> .inl (by simp)) c)⟩
 |goto l=>exact⟨_,i,m,g, .of_steps (.one f stepR_seq) (.pass (x:= .code y) rfl (fun _ _=> .inl (by simp)) c)⟩
 |ret=>exact⟨_,i,m,g, .of_steps (.one f stepR_seq) (.pass (x:= .code y) rfl (fun _ _=> .inl (by simp)) c)⟩
 |panic v=>exact⟨_,i,m,g, .of_steps (.one f stepR_seq) (.pass (x:= .code y) rfl (fun _ _=> .inl (by simp)) c)⟩
 |outgrown=>exact⟨_,i,m,g, .of_steps (.one f stepR_seq) (.pass (x:= .code y) rfl (fun _ _=> .inl (by simp)) c)⟩
def aaA {c:Operand}{t:Bool}(hc:a.eval c= .bool t)(h:wpB B F n P (if t then x else y) Q a w):wpB B F n P (Code.cond c x y) Q a w:=
 fun b k cs d f j g=>let⟨e,i,w',q,r⟩:=h b k cs d f j g;⟨e,i,w',q, .of_steps (.one (fenced_calm f g rfl) (stepR_cond hc)) r⟩
def Ud {c:Operand}{t:Bool}(hc:a.eval c= .bool t)(b:t=true->wpB B F n P x Q a w)
  (hf:t=false->wpB B F n P y Q a w):wpB B F n P (Code.cond c x y) Q a w:=by
 cases t
 ·exact aaA hc (hf rfl)
 ·exact aaA hc (b rfl)
def af5 {id:Nat}(h:wpB B F n P c (Exit.inBlock id Q) a w):wpB B F n P (Code.block id c) Q a w:=by
 intro b k cs t r x s;have g:(lone (b.atR a (.code (.block id c)::k)) cs w).fenced P F:=fenced_calm r s rfl;obtain⟨e,j,p,i,d⟩:=h b (.inBlock id::k) cs t r x s;cases e with
 |normal=>exact⟨.normal,j,p,i, .head g stepR_block (StepsIn.trans d (.one (fenced_calm r s rfl) stepR_inBlock))⟩
 |exit f=>
  by_cases hid:f=id
  ·simp only[Exit.inBlock,hid,if_true]at i
   exact⟨.normal,j,p,i, .head g stepR_block (d.1 k (by simp[exitTo,hid]))⟩
  ·simp only[Exit.inBlock,hid,if_false]at i
   have this:(id==f)=false:=by simp;exact fun h=>hid h.symm
   have q:exitTo f (.inBlock id::k)=exitTo f k:=by simp[exitTo,this]
   exact⟨.exit f,j,p,i,fun u m=> .head g stepR_block (d.1 u (by rw[q];exact m)),
    fun o m=>let⟨v,h1,h2⟩:=d.2 o (by rw[q];exact m);⟨v,h1, .head g stepR_block h2⟩⟩
 |goto l=>
  have q:gotoIn l (.inBlock id::k)=gotoIn l k:=by simp[gotoIn]
  exact⟨_,j,p,i,fun u m=> .head g stepR_block (d.1 u (by rw[q];exact m)),
   fun o m=>let⟨v,h1,h2⟩:=d.2 o (by rw[q];exact m);⟨v,h1, .head g stepR_block h2⟩⟩
 |ret=>exact⟨_,j,p,i, .of_steps (.one g stepR_block) d⟩
 |panic y=>exact⟨_,j,p,i, .of_steps (.one g stepR_block) d⟩
 |outgrown=>exact⟨_,j,p,i, .of_steps (.one g stepR_block) d⟩
def ajs (I:Nat->Act->World->Prop)(G:Nat)(D:I G a w)
  (round:∀j a w,I j a w->wpB B F n P c (Exit.then (fun h w'=>∃o,o<j/\I o h w') Q) a w):wpB B F n P (Code.loop c) Q a w:=by
 intro b k cs u q A t;have v:∀j a w,I j a w->
   ∃e h w',Q e h w'/\ArrivesIn (Machine.fenced P F) P (lone (b.atR a (.code c:: .inLoop c::k)) cs w) b k cs e h w':=by
  intro j
  induction j using Nat.strongRecOn with
  | _ j E=>
   intro a w C;obtain⟨e,i,m,f,d⟩:=round j a w C b (.inLoop c::k) cs u q A t;cases e with
   |normal=>
    obtain⟨o,r,p⟩:=f;obtain⟨z,y,H,s,g⟩:=E o r i m p;exact⟨z,y,H,s, .of_steps (StepsIn.trans d (.one (fenced_calm q t rfl) stepR_inLoop)) g⟩
   |exit id=>exact⟨_,i,m,f, .pass (x:= .inLoop c) rfl (fun _ _=> .inl (by simp)) d⟩
   |goto l=>exact⟨_,i,m,f, .pass (x:= .inLoop c) rfl (fun _ _=> .inl (by simp)) d⟩
   |ret=>exact⟨_,i,m,f, .pass (x:= .inLoop c) rfl (fun _ _=> .inl (by simp)) d⟩
   |panic J=>exact⟨_,i,m,f, .pass (x:= .inLoop c) rfl (fun _ _=> .inl (by simp)) d⟩
   |outgrown=>exact⟨_,i,m,f, .pass (x:= .inLoop c) rfl (fun _ _=> .inl (by simp)) d⟩
 obtain⟨e,h,w',f,d⟩:=v _ a w D;exact⟨e,h,w',f, .of_steps (.one (fenced_calm q t rfl) stepR_loop) d⟩
variable{b:Frame}
def pV {k:List Item}{cs:List Frame}:step P (lone (b.atR a (.code (.scope c)::k)) cs w)= .next (lone (b.atR a (.code c:: .inScope c::k)) cs w):=
 step_lone_go (by simp[stepG,stepG.exec,Frame.atR])
def TS {k:List Item}{cs:List Frame}:step P (lone (b.atR a (.inScope c::k)) cs w)= .next (lone (b.atR a k) cs w):=
 step_lone_go (by simp[stepG,stepG.exec,Frame.atR])
def af6 (h:wpB B F n P c (Exit.noGoto Q) a w):wpB B F n P (Code.scope c) Q a w:=by
 intro b k cs r m t p;have f:(lone (b.atR a (.code (.scope c)::k)) cs w).fenced P F:=fenced_calm m p rfl;obtain⟨e,i,j,g,d⟩:=h b (.inScope c::k) cs r m t p;cases e with
 |normal=>exact⟨.normal,i,j,g, .head f pV (StepsIn.trans d (.one (fenced_calm m p rfl) TS))⟩
 |exit id=>
  have s:exitTo id (.inScope c::k)=exitTo id k:=by simp[exitTo]
  exact⟨.exit id,i,j,g,fun u o=> .head f pV (d.1 u (by rw[s];exact o)),
   fun q o=>let⟨v,h1,h2⟩:=d.2 q (by rw[s];exact o);⟨v,h1, .head f pV h2⟩⟩
 |goto l=>exact g.elim
 |ret=>exact⟨_,i,j,g, .of_steps (.one f pV) d⟩
 |panic x=>exact⟨_,i,j,g, .of_steps (.one f pV) d⟩
 |outgrown=>exact⟨_,i,j,g, .of_steps (.one f pV) d⟩
def aip (B:FuncId->Prop)(F:Fence)(n:Nat)(P:Program)(l:Nat)(Q:Exit->Act->World->Prop)(b:Act):Ending->World->Prop
 | .returned _,d=>∃a e,(Instr.endLoop l).run P d= .ok a e/\
   (match a with
   |none=>Q .normal b e
   |some c=>wpB B F n P c Q b e)
 | .panicked chain,d=>Q (.panic chain) b d
 | .outgrown,_=>LetsOut Q
variable{assign body:Code}
def UD {g:Operand}{ps:Array Tmp}
  (h:∀fn,F.fn fn->B fn->∃(l:Nat) (mark:List Deferred) (O:World) (d:Deferred) (q:World) (f:FuncId) (args:Array Value) (R:World),
   (Instr.enterLoop fn a.tmps ps assign body F.round).run P w= .ok (l,mark) O/\
   (resolve a.eval (rangeCall g l) 0).run P O= .ok d q/\
   (∀G,Target.leads P q d.target d.args=some G->F.fn G)/\
   (invoke d.target d.args).run P q= .ok (.enter f args) R/\
   (F.depth.isSome=true->1<=n)/\
   CallsIn F (n - 1) P f args R (aip B F n P l Q {a with defers:=mark++a.defers})):
  wpB B F n P (Code.rangeFunc g ps assign body) Q a w:=by
 intro b k cs E H U I;obtain⟨l,mark,O,d,q,f,args,R,L,r,u,D,hn,V,t⟩:=h b.fn H U;rw[<-E]at L;have T:(lone (b.atR a (.code (.rangeFunc g ps assign body)::k)) cs w).fenced P F:=by
  refine fenced_lone (.inl H) (fun G A=>u G ?_) (Fence.room_le I (by omega));have z:=Frame.eval_atR b a (.code (.rangeFunc g ps assign body)::k);simp only[Frame.atR]at z;simp only[Frame.about,Frame.atR,L,z,r]at A;exact A
 have j:=stepR_rangeFunc (P:=P) (b:=b) (a:=a) (k:=k) (cs:=cs) (w:=w) L r D;have o:F.room ((b.atR {a with defers:=mark++a.defers} (.inRangeFunc l::k)::cs).length+1+(n - 1)):=Fence.room_enter I hn;obtain⟨e,S,fr,K,m,C,i⟩:=t (b.atR {a with defers:=mark++a.defers} (.inRangeFunc l::k)::cs) o;cases e with
 |outgrown=>
  obtain⟨Y,w₀,N⟩:=K;exact⟨.outgrown,Y,w₀,N, .inr (Outgrown.of_steps (.one j) m)⟩
 |returned v=>
  have M:(lone fr (b.atR {a with defers:=mark++a.defers} (.inRangeFunc l::k)::cs) S).fenced P F:=fenced_leaving (C▸V) o i;obtain⟨s,X,y,W⟩:=K;have p:StepsIn (Machine.fenced P F) P (lone (b.atR a (.code (.rangeFunc g ps assign body)::k)) cs w) (lone (b.atR {a with defers:=mark++a.defers} ((s.map Item.code).toList++k)) cs X):=by
   refine .head T j (StepsIn.trans m (.head M ?_ (.one (fenced_calm (fr:=b.atR {a with defers:=mark++a.defers} (.endRangeFunc l::k)) H I rfl) (stepR_endRangeFunc y))));rw[<-finish_atR_inRangeFunc l v];exact step_leave_returned i
  cases s with
  |none=>exact⟨.normal,_,X,W,p⟩
  |some c=>
   obtain⟨Z,J,w₅,N,x⟩:=W b k cs E H U I;exact⟨Z,J,w₅,N, .of_steps p x⟩
 |panicked chain=>
  have M:(lone fr (b.atR {a with defers:=mark++a.defers} (.inRangeFunc l::k)::cs) S).fenced P F:=fenced_leaving (C▸V) o i;refine⟨.panic chain,_,S,K, .inRangeFunc l::k, .head T j (StepsIn.trans m (.one M ?_))⟩;rw[<-Frame.raise_atR];exact step_leave_panicked i
def roundEnd (P:Program)(l:Nat)(R:Ending->World->Prop):Exit->Act->World->Prop
 | .normal,_,w=>∃v w',(Instr.endRound l none).run P w= .ok v w'/\R (.returned v) w'
 | .ret,_,w=>∃v w',(Instr.endRound l (some .ret)).run P w= .ok v w'/\R (.returned v) w'
 | .exit id,_,w=>∃v w',(Instr.endRound l (some (.exit id))).run P w= .ok v w'/\R (.returned v) w'
 | .panic chain,a,w=>a.defers=[]/\R (.panicked chain) w
 | _,_,_=>False
variable{f:FuncId}{R:Ending->World->Prop}
def Td {l:Nat}{tmps:Array Value}(H:F.fn f)(G:B f)(hf:∃fn,P.funcs[f]?=some fn)
  (h:wpB B (F.inRound l) n P assign (Exit.then (fun q E=>∃z,(Instr.beginRound l).run P E= .ok () z/\wpB B (F.inRound l) n P body (roundEnd P l R) q z) (fun _ _ _=>False))
   {tmps:=tmps,defers:=[]} w):
  RoundIn F n P l f tmps assign body w R:=by
 refine⟨H,fun c cs M=> ?_⟩
 let b:Frame:={(default:Frame)with fn:=f,kind:= .normal,roundOf:=some l}
 have A:Frame.round l f tmps assign body .normal=b.atR {tmps:=tmps,defers:=[]} [.code assign, .beginRound, .code body]:=by
  simp[Frame.round,Frame.atR,b]
 have j:(F.inRound l).room ((c::cs).length+1+n):=M;have i:(F.inRound l).fn b.fn:=H;obtain⟨e,q,E,p,d⟩:=h b [.beginRound, .code body] (c::cs) rfl i G j;rw[<-A]at d;cases e with
 |normal=>
  obtain⟨z,C,o⟩:=p;have y:StepsIn (Machine.fenced P (F.inRound l)) P (lone (b.atR q [.beginRound, .code body]) (c::cs) E) (lone (b.atR q [.code body]) (c::cs) z):=
   .one (fenced_calm (fr:=b.atR q [.beginRound, .code body]) i j rfl) (stepR_beginRound rfl C)
  obtain⟨K,x,J,k,a⟩:=o b [] (c::cs) rfl i G j;cases K with
  |normal=>
   obtain⟨v,u,g,m⟩:=k;exact⟨.returned v,u,m,(StepsIn.trans d y).trans (StepsIn.trans a (.one (fenced_calm (fr:=b.atR x []) i j rfl) (stepR_round_end rfl rfl g)))⟩
  |ret=>
   obtain⟨v,u,g,m⟩:=k;obtain⟨D,r⟩:=a.2 rfl;exact⟨.returned v,u,m,(StepsIn.trans d y).trans (StepsIn.trans r (.one (fenced_calm (fr:=b.atR x (.code .ret::D)) i j rfl) (stepR_round_ret rfl rfl g)))⟩
  |exit id=>
   obtain⟨v,u,g,m⟩:=k;obtain⟨D,L,r⟩:=a.2 rfl rfl;exact⟨.returned v,u,m,(StepsIn.trans d y).trans (StepsIn.trans r (.one (fenced_calm (fr:=b.atR x (.code (.exit id)::D)) i j rfl) (stepR_round_exit rfl rfl L g)))⟩
  |goto t=>exact k.elim
  |panic chain=>
   obtain⟨hd,m⟩:=k;obtain⟨s,r⟩:=a;have I:({b.atR x s with mode:= .panicking chain}:Frame).leaving P J (.panicked chain):=⟨rfl,hd,hf⟩
   refine⟨.panicked chain,J,m,(StepsIn.trans d y).trans (StepsIn.trans r (.one (fenced_leaving (n:=n) i j I) (step_leave_panicked I)))⟩
  |outgrown=>exact k.elim
 |exit id=>exact p.elim
 |goto t=>exact p.elim
 |ret=>exact p.elim
 |panic chain=>exact p.elim
 |outgrown=>exact p.elim
def QA {fn:Func}{args:Array Value}
  (hf:P.funcs[f]?=some fn)(hb:fn.body=some c)(p:F.fn f)(y:B f)
  (h:wpB B F n P c (bodyPostM F n P fn R) {tmps:=args++aw (fn.ntmps - args.size) undef,defers:=[]} w)(x:F.round=none:=by rfl):CallsIn F n P f args w R:=by
 refine⟨p,fun cs u=> ?_⟩
 let b:Frame:={(default:Frame)with fn:=f,kind:= .normal,roundOf:=none}
 have k:Frame.enter P f args .normal=
   b.atR {tmps:=args++aw (fn.ntmps - args.size) undef,defers:=[]} [.code c]:=by
  simp[Frame.enter,Frame.atR,hf,hb,b]
 obtain⟨e,m,w',q,a⟩:=h b [] cs x.symm p y u;rw[<-k]at a;cases e with
 |normal=>
  obtain⟨r,j,d,s,v,g,t⟩:=leaves_stepsInM m.defers .returning w' {b.atR m []with mode:= .returning} cs rfl rfl rfl hf rfl p u q;exact⟨r,j,d,s,ComesIn.of_steps (StepsIn.trans a (.one (fenced_calm (fr:=b.atR m []) p u rfl) (stepR_end rfl))) v,g,t⟩
 |ret=>
  obtain⟨i,o⟩:=a.1 rfl;obtain⟨r,j,d,s,v,g,t⟩:=leaves_stepsInM m.defers .returning w' {b.atR m i with mode:= .returning} cs rfl rfl rfl hf rfl p u q;exact⟨r,j,d,s,ComesIn.of_steps o v,g,t⟩
 |panic chain=>
  obtain⟨i,o⟩:=a;obtain⟨r,j,d,s,v,g,t⟩:=leaves_stepsInM m.defers (.panicking chain) w' {b.atR m i with mode:= .panicking chain} cs rfl rfl rfl hf rfl p u q;exact⟨r,j,d,s,ComesIn.of_steps o v,g,t⟩
 |exit id=>exact q.elim
 |goto l=>exact q.elim
 |outgrown=>exact⟨.outgrown,w',b,q,a.resolve_left (by simp[b]),rfl,trivial⟩
end
def iq:aA->Bool
 | .seq a b=>iq a&&iq b
 | .cond _ a b=>iq a&&iq b
 | .block _ c=>iq c
 | .scope c=>iq c
 | .loop _=>false
 | .uQ _ _ _ _ _=>false
 | _=>true
def F7 {C:Ctx}{nb na nb' na':Nat}:∀(pc:aA),iq pc=true->∀(Q:Ex->St->Prop),pwp C nb na pc Q=pwp C nb' na' pc Q
 | .skip,_,_=>rfl
 | .region _ _ _ _ _,_,_=>rfl
 | .exit _,_,_=>rfl
 | .label _,_,_=>rfl
 | .ret,_,_=>rfl
 | .seq a b,h,Q=>by
  simp only[iq,S]at h
  funext s
  simp only[pwp];rw[F7 (nb':=nb') (na':=na') a h.1];simp only[F7 (nb':=nb') (na':=na') b h.2]
 | .cond c a b,h,Q=>by
  simp only[iq,S]at h
  funext s
  simp only[pwp];rw[F7 (nb':=nb') (na':=na') a h.1,F7 (nb':=nb') (na':=na') b h.2]
 | .block id c,h,Q=>by
  simp only[iq]at h
  funext s
  simp only[pwp];rw[F7 (nb':=nb') (na':=na') c h]
 | .scope c,h,Q=>by
  simp only[iq]at h
  funext s
  simp only[pwp];rw[F7 (nb':=nb') (na':=na') c h]
 | .loop _,h,_=>by simp[iq]at h
 | .uQ _ _ _ _ _,h,_=>by simp[iq]at h
def Dj:aA->Bool
 | .seq a b=>Dj a&&Dj b
 | .cond _ a b=>Dj a&&Dj b
 | .block _ c=>Dj c
 | .scope c=>Dj c
 | .loop c=>Dj c
 | .uQ _ _ _ _ _=>false
 | _=>true
def kW:∀{pc:aA},iq pc=true->Dj pc=true
 | .skip,_=>rfl
 | .region _ _ _ _ _,_=>rfl
 | .exit _,_=>rfl
 | .label _,_=>rfl
 | .ret,_=>rfl
 | .seq a b,h=>by simp only[iq,S]at h;simp[Dj,kW h.1,kW h.2]
 | .cond _ a b,h=>by simp only[iq,S]at h;simp[Dj,kW h.1,kW h.2]
 | .block _ c,h=>kW (pc:=c) h
 | .scope c,h=>kW (pc:=c) h
 | .loop _,h=>by simp[iq]at h
 | .uQ _ _ _ _ _,h=>by simp[iq]at h
def Fj (t:Nat):Code->Bool
 | .seq a b=>Fj t a&&Fj t b
 | .cond _ a b=>Fj t a&&Fj t b
 | .block _ c=>Fj t c
 | .loop c=>Fj t c
 | .scope c=>Fj t c
 | .region _ ops _=>ops.all fun o=>o.dst !=some t
 | .rangeFunc _ _ _ _=>false
 | _=>true
def chk (P:Program)(n:Nat):Code->aA->Bool
 | .skip, .skip=>true
 | .region _ ops i, .region d k _ _ _=>i==d&&J6 P n ops ops.toList k&&(!d||Xj ops k)
 | .seq a b, .seq p q=>chk P n a p&&chk P n b q
 | .cond c x y, .cond e m o=>Zh c e&&chk P n x m&&chk P n y o
 | .block id c, .block g e=>id==g&&chk P n c e
 | .loop c, .loop e=>chk P n c e
 | .exit id, .exit g=>id==g
 | .scope c, .scope e=>chk P n c e
 | .label l, .label s=>l==s
 | .ret, .ret=>true
 | .rangeFunc f k x y, .uQ r h j m o=>Zh f r&&decide (k.toList=h)&&decide h.Nodup&&(h.all (·<n))&&(j.all (·<n))&&chk P n x m&&chk P n y o&&iq m&&iq o
 | _,_=>false
section
variable {C:Ctx}{X:Nat->Prop}
variable{w w':World}{O O':Nat->Prop}
def Wi.move (hk:∀b o,¬O b->w.heap[b]?=some o->w'.heap[b]?=some o/\¬O' b){A:Arr}{loc:Option (Nat×Nat×Nat)}{i off:Nat}{v:Value}(h:Wi w O A loc i off v):Wi w' O' A loc i off v:=by
 refine⟨h.1,?_⟩;cases loc with
 |none=>exact bU.mono hk h.2
 |some q=>exact h.2
def acY.move (hk:∀b o,¬O b->w.heap[b]?=some o->w'.heap[b]?=some o/\¬O' b){A:Arr}{loc:Option (Nat×Nat×Nat)}{skip:Nat}{v:Value}(h:acY w O A loc skip v):acY w' O' A loc skip v:=by
 refine⟨h.1,?_⟩;cases loc with
 |none=>exact bU.mono hk h.2
 |some q=>exact h.2
def acX.move (hk:∀b o,¬O b->w.heap[b]?=some o->w'.heap[b]?=some o/\¬O' b){A:Arr}{loc:Option (Nat×Nat×Nat)}{skip len:Nat}{v:Value}(h:acX w O A loc skip len v):acX w' O' A loc skip len v:=by
 refine⟨h.1,?_⟩;cases loc with
 |none=>exact bU.mono hk h.2
 |some q=>exact h.2
mutual
def Rep.move {w w':World}{O O':Nat->Prop}{M:Mem}{E:Emb}(hk:∀b o,¬O b->w.heap[b]?=some o->w'.heap[b]?=some o/\¬O' b):∀{v:Value} {p:PV},Rep w O M E v p->Rep w' O' M E v p
 | _,_, .d h=> .d (h.mono hk)
 | _,_, .ptr g f i=> .ptr g f i
 | _,_, .mref g f i=> .mref g f i
 | _,_, .qg g f i=> .qg g f i
 | _,_, .yX g f i=> .yX g f i
 | _,_, .jU a h=> .jU a fun A l=>by
   obtain⟨h1,h2⟩:=h A l;exact⟨h1,fun e=>by obtain⟨c,j,k⟩:=h2 e;exact⟨c,j,k.move hk⟩⟩
 | _,_, .tsl a h=> .tsl a fun A l=>by
   obtain⟨h1,h2⟩:=h A l;exact⟨h1,fun e=>by obtain⟨c,j,k⟩:=h2 e;exact⟨c,j,k.move hk⟩⟩
 | _,_, .psl a h=> .psl a fun A l=>by
   obtain⟨h1,h2⟩:=h A l;exact⟨h1,fun e=>by obtain⟨c,j,k⟩:=h2 e;exact⟨c,j,k.move hk⟩⟩
 | _,_, .dead=> .dead
 | _,_, .func h1 h2=> .func (aT.move hk h1) (aT.move hk h2)
 | _,_, .agg h=> .agg (aT.move hk h)
 | _,_, .tup h=> .tup (aT.move hk h)
def aT.move {w w':World}{O O':Nat->Prop}{M:Mem}{E:Emb}(hk:∀b o,¬O b->w.heap[b]?=some o->w'.heap[b]?=some o/\¬O' b):∀{v:List Value} {p:List PV},aT w O M E v p->aT w' O' M E v p
 | _,_, .nil=> .nil
 | _,_, .cons h t=> .cons (Rep.move hk h) (aT.move hk t)
end
variable{X':Nat->Prop}{w w':World}{M:Mem}{E:Emb}
def Sim.shift (h:Sim C X w M E)(d:∀b,C.low b->X' b)(hlt:∀b,X' b->b<w'.heap.size)(r:∀b,C.low b->w'.heap[b]?=w.heap[b]?)
  (hk:∀b o,¬X b->w.heap[b]?=some o->w'.heap[b]?=some o/\¬X' b):Sim C X' w' M E/\(∀b o,¬away X M E b->w.heap[b]?=some o->w'.heap[b]?=some o/\¬away X' M E b):=by
 have c:∀b o,¬away X M E b->w.heap[b]?=some o->w'.heap[b]?=some o/\¬away X' M E b:=by
  intro b o g f;obtain⟨h1,h2⟩:=hk b o (fun j=>g (.inl j)) f;exact⟨h1,fun j=>j.elim h2 fun i=>g (.inr i)⟩
 refine⟨?_,c⟩;exact
  {glob:=C.keeps w w' h.glob r,iW:=d,xlt:=hlt,iP:=h.iP,bP:=h.bP
   box:=fun b cs g=>by
    obtain⟨a,h1,h2,h3⟩:=h.box b cs g;obtain⟨o,f⟩:=h3.obj;exact⟨a,h1,(hk a o h2 f).2,h3.move (fun o f=>(hk a o h2 f).1) c fun _ _ _ s=>s.move c⟩
   arr:=fun k A p=>by
    obtain⟨h1,h2,h3,n⟩:=h.arr k A p;refine⟨h1,h2,h3,fun a o e q=> ?_⟩;obtain⟨l,vs,T,g2,g3,g4,m⟩:=n a o e q;exact⟨(hk a _ l g2).2,vs,T,(hk a _ l g2).1,g3,g4,m.mono c⟩
   bb:=h.bb,aa:=h.aa,ba:=h.ba}
def Sim.less (h:Sim C X w M E)(hx:∀b,X' b->X b)(a:∀b,C.low b->X' b):Sim C X' w M E:=
 (h.shift a (fun b c=>h.xlt b (hx b c)) (fun _ _=>rfl) fun b o c e=>⟨e,fun d=>c (hx b d)⟩).1
variable{v:Value}{p:PV}
def Rep.less (h:Rep w (away X M E) M E v p)(hx:∀b,X' b->X b):Rep w (away X' M E) M E v p:=
 h.move fun b o c d=>⟨d,fun a=>c (a.imp (hx b) id)⟩
variable{L:Loop}{st:LoopState}{pd:Option Code}
def LU {b:Nat}{st':LoopState}{pd':Option Code}{cells:List PV}(h:Sim C X w M E)(hb:M.boxes[b]?=some (some (.iK {L with state:=st,pending:=pd}::cells)))(c:b∉M.fz):
  ∃(l:Nat) (tmps:Array Value),E.bx[b]?=some l/\¬X l/\tmps.size=L.tmps.size/\w.heap[l]?=some (.loop {L with state:=st,pending:=pd,tmps:=tmps})/\aT w (away X M E) M E tmps.toList cells/\
   Sim C X (w.putObj l (.loop {L with state:=st',pending:=pd',tmps:=tmps})) {M with boxes:=M.boxes.set b (some (.iK {L with state:=st',pending:=pd'}::cells))} E/\
   From w M E (w.putObj l (.loop {L with state:=st',pending:=pd',tmps:=tmps})) {M with boxes:=M.boxes.set b (some (.iK {L with state:=st',pending:=pd'}::cells))} E:=by
 obtain⟨l,d,f,g⟩:=h.box b _ hb;obtain⟨tmps,r1,r2,r3⟩:=g;have a:=dh r2;obtain⟨i,j⟩:=LW (cs':= .iK {L with state:=st',pending:=pd'}::cells) h hb c rfl rfl d (Lp w l (.loop {L with state:=st',pending:=pd',tmps:=tmps}) a)
  fun e=>⟨tmps,r1,by simp[a],r3.from e⟩
 exact⟨l,tmps,d,f,r1,r2,r3,i,j⟩
def EU:∀(l:List (Nat×Value)) (tmps:Array Value),(l.foldl (fun t (x:Nat×Value)=>t.setIfInBounds x.1 x.2) tmps).size=tmps.size
 | [],_=>rfl
 |x::l,tmps=>by rw[bc,EU l];simp
def Eb {t:Nat}:∀(l:List (Nat×Value)) (tmps:Array Value),(∀x∈l,x.1≠t)->(l.foldl (fun t (x:Nat×Value)=>t.setIfInBounds x.1 x.2) tmps).getD t undef=tmps.getD t undef
 | [],_,_=>rfl
 |x::l,tmps,h=>by
  rw[bc,Eb l _ fun y a=>h y (by simp[a])];have:x.1≠t:=h x (by simp);simp only[Y,az this]
def VR {R:Value->PV->Prop}{an5:List (Nat×PV)}{t:Nat}:∀(ps:List Nat) (vs:List Value) (ds:List PV) (tmps:Array Value),vs.length=ps.length->ds.length=ps.length->ps.Nodup->(∀p∈ps,p<tmps.size)->
  (∀(i:Nat) (v:Value) (d:PV),vs[i]?=some v->ds[i]?=some d->R v d)->(t∉ps->R (tmps.getD t undef) (look an5 t))->
  R (((ps.zip vs).foldl (fun t (x:Nat×Value)=>t.setIfInBounds x.1 x.2) tmps).getD t undef) (look (ps.zip ds++an5) t)
 | [],_,_,_,_,_,_,_,_,h=>by simpa using h
 |p::ps,[],_,_,h,_,_,_,_,_=>by simp at h
 |p::ps,_::_,[],_,_,h,_,_,_,_=>by simp at h
 |p::ps,v::vs,d::ds,tmps,h1,h2,c,a,f,g=>by
  rw[List.nodup_cons]at c;simp only[List.zip_cons_cons,bc,a7,look]
  by_cases b:p=t
  ·subst b
   simp only[beq_self_eq_true,cond_true];rw[Eb _ _ fun x m e=>c.1 (by rw[<-e];exact(List.of_mem_zip m).1)];have:p<tmps.size:=a p (by simp);have e:(tmps.setIfInBounds p v).getD p undef=v:=by simp[Y,this]
   rw[e];exact f 0 v d rfl rfl
  ·have:(p==t)=false:=by simp[b]
   simp only[this,cond_false];refine VR ps vs ds _ (by simpa using h1) (by simpa using h2) c.2 (fun q j=>by simpa using a q (by simp[j])) (fun i v d l hd=>f (i+1) v d (by simpa using l) (by simpa using hd)) fun k=> ?_
   have e:(tmps.setIfInBounds p v).getD t undef=tmps.getD t undef:=by simp only[Y,az b]
   rw[e];exact g (by simp[k,Ne.symm b])
variable{s:St}
def Xf {n:Nat}{keys:List Nat}(hk:keys.all (·<n)=true)(t:Nat):look (jf s.env keys) t= .dead\/(t<n/\look (jf s.env keys) t=look s.env t):=by
 induction keys with
 |nil=>exact .inl rfl
 |cons k b a=>
  simp only[bq,S,decide_eq_true_eq]at hk;simp only[jf,U,look]
  by_cases h:k=t
  ·subst h;simp[hk.1]
  ·have:(k==t)=false:=by simp[h]
   simp only[this,cond_false];exact a hk.2
def InS.from {lo:Lo}{n:Nat}{s:St}{a:Act}{w w':World}{E E':Emb}{M':Mem}(h:InS C X lo n s a w E)(b:Sim C X w' M' E')(hf:From w s.mem E w' M' E'):InS C X lo n ⟨s.env,M'⟩ a w' E':={
 sim:=b
 env:=fun t=>(h.env t).from hf
 size:=h.size
 defers:=h.defers.from h.sim hf
 fix:=h.fix}
def OA {cells:List PV}{xb:List (Option (List PV))}{xf:List Nat}{xa:List (Option Arr)}:(iQ M L st pd cells xb xf xa).boxes[M.boxes.length]?=some (some (.iK {L with state:=st,pending:=pd}::cells)):=by simp[iQ]
def amN {O:Nat->Prop}{g:FuncId}{fs cs:List PV}(h:Rep w O M E v p)(hf:akc p=some (g,fs,cs)):
  ∃Fs c,v= .func (.func g) Fs c/\aT w O M E Fs.toList fs/\aT w O M E c.toList cs:=by
 unfold akc at hf
 split at hf
 ·cases hf
  have hd:=h.toD;cases hd with
  |func b a=>exact⟨_,_,rfl,aT.ofD b,aT.ofD a⟩
 ·cases hf
  cases h with
  |func b a=>exact⟨_,_,rfl,b,a⟩
 ·cases hf
def jT (hm:C.P.follows .mixedOrders=true){n:Nat}:∀(c:Code) (pc:aA) {X:Nat->Prop} {w₀:World} {M₀:Mem} {E₀:Emb} {nb na:Nat} (_:M₀.boxes.length<=nb) (_:M₀.aF.length<=na) (B:FuncId->Prop) (_:(∀g,B g->∃fn,C.P.funcs[g]?=some fn)\/Dj pc=true) (ro:Option Nat) (j:List Deferred) (ex:Bool) (fx:Option (Nat×Value)) (Q:Ex->St->Prop) (s:St) (a:Act) (w:World) (E:Emb),
  (∀q,fx=some q->Fj q.1 c=true)->(ro=none\/iq pc=true)->(ex=true->iq pc=true)->chk C.P n c pc=true->pwp C nb na pc Q s->InS C X ⟨w₀.heap.size,j,ex,fx⟩ n s a w E->From w₀ M₀ E₀ w s.mem E->wpB B (RF ro) 0 C.P c (Post C X n w₀ M₀ E₀ j ex fx Q) a w
 | .skip,pc,X,w₀,M₀,E₀,nb,na,H,ha,B,hB,ro,j,ex,fx,Q,s,a,w,E,J,A,z,O,h,N,V=>by
  cases pc<;>simp only[chk,W]at O
  exact Gu (wpIn_skip ⟨X,s,E,fun _ h=>h,h,N,V⟩)
 | .label l,pc,X,w₀,M₀,E₀,nb,na,H,ha,B,hB,ro,j,ex,fx,Q,s,a,w,E,J,A,z,O,h,N,V=>by
  cases pc<;>simp only[chk,W]at O
  exact Gu (wpIn_label ⟨X,s,E,fun _ h=>h,h,N,V⟩)
 | .exit id,pc,X,w₀,M₀,E₀,nb,na,H,ha,B,hB,ro,j,ex,fx,Q,s,a,w,E,J,A,z,O,h,N,V=>by
  cases pc<;>simp only[chk,W,beq_iff_eq]at O
  subst O;exact Gu (wpIn_exit ⟨X,s,E,fun _ h=>h,h,N,V⟩)
 | .ret,pc,X,w₀,M₀,E₀,nb,na,H,ha,B,hB,ro,j,ex,fx,Q,s,a,w,E,J,A,z,O,h,N,V=>by
  cases pc<;>simp only[chk,W]at O
  exact Gu (wpIn_ret ⟨X,s,E,fun _ h=>h,h,N,V⟩)
 | .region id ops bR,pc,X,w₀,M₀,E₀,nb,na,H,ha,B,hB,ro,j,ex,fx,Q,s,a,w,E,J,A,z,O,h,N,V=>by
  cases pc<;>simp only[chk,W]at O
  rename_i d ps abZ keep fz
  simp only[S,beq_iff_eq]at O;obtain⟨⟨rfl,cb⟩,cw⟩:=O;simp only[pwp]at h;obtain⟨i1,f1⟩:=N.reserve abZ;have hK:∀s' a' w' E',(fun s':St=>wX fz (Q .normal) ⟨jf s'.env keep,s'.mem⟩) s'->InS C X ⟨w₀.heap.size,j,ex,fx⟩ n s' a' w' E'->From w₀ M₀ E₀ w' s'.mem E'->Post C X n w₀ M₀ E₀ j ex fx Q .normal a' w':=by
   intro s' a' w' E' hk cD cz;obtain⟨s2,g1,g2,g3⟩:=Ou hk cD.keep;exact⟨X,s2,E',fun _ h=>h,g1,g2,cz.trans g3⟩
  have b4:∀d M' a' w' E' v,(fun d M=>Q (.panic d) ⟨[],M⟩) d M'->Sim C X w' M' E'->From w₀ M₀ E₀ w' M' E'->bU w' (away X M' E') v d->okD ⟨w₀.heap.size,j,ex,fx⟩ X a'.defers w'->(∀q,fx=some q->a'.eval (.tmp q.1)=q.2)->Post C X n w₀ M₀ E₀ j ex fx Q (.panic [{v,recovered:=false}]) a' w':=by
   intro d M' a' w' E' v h1 h2 h3 h4 h5 h6;exact⟨X,v,d,M',E',fun _ h=>h,rfl,h1,h2,h3,h4,h5,h6⟩
  have ca:∀q,(⟨w₀.heap.size,j,ex,fx⟩:Lo).fx=some q->∀o∈ops,o.dst≠some q.1:=fun q hq o ho=>by
   have:=J q hq;simp only[Fj,Array.all_eq_true']at this
   simpa using this o ho
  cases bR with
  |false=>exact Gu (wpIn_region (XQ ca cb i1 (V.trans f1) h hK b4))
  |true=>
   refine Gu (aa6 ca hm cb (by simpa using cw) ?_ i1 (V.trans f1) h hK b4);intro s1 s2 he a8 hk;have:jf s1.env keep=jf s2.env keep:=by simp only[jf,he]
   simp only[this,a8]at hk;exact hk
 | .seq x y,pc,X,w₀,M₀,E₀,nb,na,H,ha,B,hB,ro,j,ex,fx,Q,s,a,w,E,J,A,z,O,h,N,V=>by
  cases pc<;>simp only[chk,W,S]at O
  simp only[iq,S]at A z;simp only[pwp]at h;refine alL (xK (jT hm x _ H ha B (hB.imp id fun e=>(ae.1 e).1) ro j ex fx _ s a w E (fun q hq=>(ae.1 (J q hq)).1) (A.imp id And.left) (fun e=>(z e).1) O.1 h N V) fun e a' w' T=> ?_);cases e with
  |normal=>
   obtain⟨X',s',E',hx,h1,h2,h3⟩:=T;exact xK (jT hm y _ H ha B (hB.imp id fun e=>(ae.1 e).2) ro j ex fx Q s' a' w' E' (fun q hq=>(ae.1 (J q hq)).2) (A.imp id b7) (fun e=>(z e).2) O.2 h1 h2 h3) fun e a w T=>T.up hx
  |exit id=>exact T
  |ret=>exact T
  |panic ch=>exact T
  |goto l=>exact T.elim
  |outgrown=>exact T.elim
 | .cond c x y,pc,X,w₀,M₀,E₀,nb,na,H,ha,B,hB,ro,j,ex,fx,Q,s,a,w,E,J,A,z,O,h,N,V=>by
  cases pc<;>simp only[chk,W,S]at O
  simp only[iq,S]at A z;obtain⟨⟨O,hx⟩,hy⟩:=O;simp only[pwp]at h
  split at h
  ·rename_i t ht
   have hv:=XM N O;rw[ht]at hv;refine Ud hv.toD.tX (fun e=> ?_) (fun e=> ?_)
   ·exact jT hm x _ H ha B (hB.imp id fun e=>(ae.1 e).1) ro j ex fx Q s a w E (fun q hq=>(ae.1 (J q hq)).1) (A.imp id And.left) (fun e=>(z e).1) hx (h.1 e) N V
   ·exact jT hm y _ H ha B (hB.imp id fun e=>(ae.1 e).2) ro j ex fx Q s a w E (fun q hq=>(ae.1 (J q hq)).2) (A.imp id b7) (fun e=>(z e).2) hy (h.2 e) N V
  ·exact h.elim
 | .block id c,pc,X,w₀,M₀,E₀,nb,na,H,ha,B,hB,ro,j,ex,fx,Q,s,a,w,E,J,A,z,O,h,N,V=>by
  cases pc<;>simp only[chk,W,S,beq_iff_eq]at O
  simp only[iq]at A z;obtain⟨rfl,O⟩:=O;simp only[pwp]at h;refine af5 (xK (jT hm c _ H ha B (by simp only[Dj]at hB;exact hB) ro j ex fx _ s a w E J A z O h N V) fun e a' w' T=> ?_);cases e with
  |normal=>exact T
  |exit cV=>
   obtain⟨X',s',E',hx,h1,h2,h3⟩:=T;simp only[Exit.inBlock];simp only at h1
   split at h1
   ·rename_i hid;rw[if_pos hid];exact⟨X',s',E',hx,h1,h2,h3⟩
   ·rename_i hid;rw[if_neg hid];exact⟨X',s',E',hx,h1,h2,h3⟩
  |ret=>exact T
  |panic ch=>exact T
  |goto l=>exact T.elim
  |outgrown=>exact T.elim
 | .loop c,pc,X,w₀,M₀,E₀,nb,na,H,ha,B,hB,ro,j,ex,fx,Q,s,a,w,E,J,A,z,O,h,N,V=>by
  cases pc<;>simp only[chk,W]at O
  simp only[iq,W,or_false]at A z;simp only[pwp]at h;obtain⟨I,k,h0,hr⟩:=h;refine ajs (fun k a w=>∃(X':Nat->Prop) (s:St) (E:Emb),(∀b,X b->X' b)/\I k s/\InS C X' ⟨w₀.heap.size,j,ex,fx⟩ n s a w E/\From w₀ M₀ E₀ w s.mem E) k ⟨X,s,E,fun _ h=>h,h0,N,V⟩ ?_;rintro k' a' w' ⟨X',s',E',hx,g1,g2,g3⟩;refine xK (jT hm c _ H ha B (by simp only[Dj]at hB;exact hB) ro j ex fx _ s' a' w' E' J (.inl A) (fun e=>(z e).elim) O (hr k' s' g1) g2 g3) fun e a2 w2 T=> ?_
  cases e with
  |normal=>
   obtain⟨X2,s2,E2,cQ,⟨k2,s3,q1,q2,q3⟩,h2,h3⟩:=T;obtain⟨E3,r1,r2⟩:=acS h2 h3 H ha q2;exact⟨k2,q1,X2,s3,E3,fun b H=>cQ b (hx b H),q3,r1,r2⟩
  |exit id=>obtain⟨X2,s2,E2,q1,q2⟩:=T;exact⟨X2,s2,E2,fun b H=>q1 b (hx b H),q2⟩
  |ret=>obtain⟨X2,s2,E2,q1,q2⟩:=T;exact⟨X2,s2,E2,fun b H=>q1 b (hx b H),q2⟩
  |panic ch=>obtain⟨X2,v2,d2,M2,E2,q1,q2⟩:=T;exact⟨X2,v2,d2,M2,E2,fun b H=>q1 b (hx b H),q2⟩
  |goto l=>exact T.elim
  |outgrown=>exact T.elim
 | .scope c,pc,X,w₀,M₀,E₀,nb,na,H,ha,B,hB,ro,j,ex,fx,Q,s,a,w,E,J,A,z,O,h,N,V=>by
  cases pc<;>simp only[chk,W]at O
  simp only[iq]at A z;simp only[pwp]at h;refine af6 (xK (jT hm c _ H ha B (by simp only[Dj]at hB;exact hB) ro j ex fx Q s a w E J A z O h N V) fun e a' w' T=> ?_);cases e with
  |goto l=>exact T.elim
  | _=>exact T
 | .goto l,pc,X,w₀,M₀,E₀,nb,na,H,ha,B,hB,ro,j,ex,fx,Q,s,a,w,E,J,A,z,O,h,N,V=>by cases pc<;>simp[chk]at O
 | .refuse r,pc,X,w₀,M₀,E₀,nb,na,H,ha,B,hB,ro,j,ex,fx,Q,s,a,w,E,J,A,z,O,h,N,V=>by cases pc<;>simp[chk]at O
 | .rangeFunc f ps x y,pc,X,w₀,M₀,E₀,nb,na,H,ha,B,hB,ro,j,ex,fx,Q,s,a,w,E,J,A,z,O,h,N,V=>by
  cases pc<;>simp only[chk,W,S,decide_eq_true_eq]at O
  rename_i f' cW bk x' y'
  simp only[iq,W,or_false]at A z;subst A;obtain⟨⟨⟨⟨⟨⟨⟨⟨cr,rfl⟩,J⟩,cJ⟩,cG⟩,ct⟩,cv⟩,bL⟩,bN⟩:=O;simp only[pwp]at h;obtain⟨g,fs,cs,cC,br,E8,h⟩:=h;obtain⟨Fs,Cs,aor,cB,cA⟩:=amN (XM N cr) cC
  ·
   obtain⟨D,hD⟩:∃D,D=w.heap.size:=⟨_,rfl⟩
   obtain⟨w1,bi⟩:∃w1,w1=w.alloc (.deferred (some [])):=⟨_,rfl⟩
   have b0:∀g,B g->∃fn,C.P.funcs[g]?=some fn:=hB.resolve_right (by simp[Dj])
   refine UD ?_;intro fn _ b2;obtain⟨L,hL⟩:∃L:Loop,L={state:= .ready,pending:=none,fn:=fn,tmps:=a.tmps,params:=ps,assign:=x,body:=y,defers:=D}:=⟨_,rfl⟩
   have bp:L.tmps=a.tmps:=by rw[hL]
   have bO:L.tmps.size=n:=by rw[bp,N.size]
   obtain⟨cells,ai⟩:∃cells,cells=(bS L.tmps.size).map (look s.env):=⟨_,rfl⟩
   have h:=h L (by rw[hL]);rw[<-ai]at h;obtain⟨lp,bA⟩:∃lp,lp=w.heap.size+1:=⟨_,rfl⟩
   have be:Later w w1:=bi▸Later.alloc w _;have cc:w1.heap.size=w.heap.size+1:=by rw[bi];simp
   have aog:w1.heap[D]?=some (.deferred (some [])):=by rw[bi,hD];exact heap_alloc_new w _
   obtain⟨X',aR⟩:∃X':Nat->Prop,X'=fun b=>X b\/b=D:=⟨_,rfl⟩
   have aM:∀b,X b->X' b:=fun b H=>by rw[aR];exact .inl H
   have cF:∀b o,¬X b->w.heap[b]?=some o->w1.heap[b]?=some o/\¬X' b:=by
    intro b o H ho;refine⟨be.jL ho,?_⟩;rw[aR];rintro(hx|rfl)
    ·exact H hx
    ·have:=dh ho;omega
   obtain⟨b6,bu⟩:=N.sim.shift (X':=X') (w':=w1) (fun b H=>aM b (N.sim.iW b H)) (fun b H=>by
     rw[aR]at H
     rcases H with H|rfl
     ·have:=N.sim.xlt b H;omega
     ·omega) (fun b H=>be.keep b (N.sim.xlt b (N.sim.iW b H))) cF
   have aL:InS C X' ⟨w₀.heap.size,j,ex,fx⟩ n s a w1 E:=
    {sim:=b6,env:=fun t=>(N.env t).move bu,size:=N.size,fix:=N.fix
     defers:=by
      obtain⟨ms,hms,⟨a4,a7⟩,bh⟩:=N.defers;exact⟨ms,hms,⟨fun d hd=>by
       obtain⟨D',q1,q2,q3,q4⟩:=a4 d hd;exact⟨D',q1,q2,aM _ q3,be.jL q4⟩,a7⟩,bh⟩}
   obtain⟨cm,bs⟩:=PG b6 1;have bw:E.bx.length=s.mem.boxes.length:=N.sim.iP;obtain⟨cn,b9⟩:=XC (o:= .loop L) (id:=s.mem.boxes.length) (cs:= .iK {L with state:= .ready,pending:=none}::cells) cm (by simp) (fun apA=>by
    refine⟨a.tmps,by rw[bp],?_,?_⟩
    ·rw[heap_alloc_new];rw[hL]
    ·have:aT w1 (away X' s.mem E) s.mem E a.tmps.toList cells:=by
      rw[ai,bp];have cT:∀(m:Nat) (l:List Value),(∀i v,l[i]?=some v->a.tmps[m+i]?=some v)->aT w1 (away X' s.mem E) s.mem E l ((bz m l.length).map (look s.env)):=by
       intro m l
       induction l generalizing m with
       |nil=>intro _;exact .nil
       |cons v l ih=>
        intro hv;rw[List.length_cons,bv,U];refine .cons ?_ (ih (m+1) fun i u hu=>by
         have:=hv (i+1) u (by simpa using hu);rw[<-this];congr 1;omega)
        have h0:=aL.env m;have h1:=hv 0 v rfl;simp only[Nat.add_zero]at h1
        simpa[Act.eval,Y,h1]using h0
      have:=cT 0 a.tmps.toList (fun i v hv=>by simpa using hv)
      simpa[List.range_eq_range']using this
     exact(this.from bs).from apA)
   have cN:(w1.alloc (.loop L)).heap[lp]?=some (.loop L):=by
    have:=heap_alloc_new w1 (.loop L)
    rwa [cc,<-bA]at this
   have e1:({boxes:=(s.mem.boxes++bo 1 none).set s.mem.boxes.length (some (.iK {L with state:= .ready,pending:=none}::cells)),fz:=s.mem.fz,aF:=s.mem.aF}:Mem)=iQ s.mem L .ready none cells [] [] []:=by
    simp[iQ]
   obtain⟨E1,bc⟩:∃E1:Emb,E1={bx:=(E.bx++bo 1 0).set s.mem.boxes.length w1.heap.size,ar:=E.ar}:=⟨_,rfl⟩
   obtain⟨w2,ahs⟩:∃w2,w2=w1.alloc (.loop L):=⟨_,rfl⟩
   have cp:Sim C X' w2 (iQ s.mem L .ready none cells [] [] []) E1:=by rw[<-e1,bc,ahs];exact cn
   have b3:From w s.mem E w2 (iQ s.mem L .ready none cells [] [] []) E1:=by
    rw[<-e1,bc,ahs];exact((be.from s.mem E).trans bs).trans b9
   have abw:From w1 s.mem E w2 (iQ s.mem L .ready none cells [] [] []) E1:=by
    rw[<-e1,bc,ahs];exact bs.trans b9
   have b8:E1.bx[s.mem.boxes.length]?=some lp:=by
    rw[bc,bA,cc];simp[bw]
   rw[<-ahs]at cN;have mD:∀(args:List DV) (K:PV->Mem->Prop) (KP:DV->Mem->Prop) (My:Mem),args.length=ps.toList.length->My.boxes[s.mem.boxes.length]?=some (some (.iK {L with state:= .ready,pending:=none}::cells))->s.mem.boxes.length∉My.fz->
     pwp C nb na x' (fun e s1=>e= .normal/\s1.mem=My/\pwp C nb na y' (aiw s.mem.boxes.length L K KP) ⟨s1.env,{My with boxes:=My.boxes.set s.mem.boxes.length (some (.iK {L with state:= .busy,pending:=none}::cells))}⟩)
      ⟨ps.toList.zip (args.map .d)++jf s.env bk,My⟩->
     SY C s.mem.boxes.length (args.map .d) My K KP:=by
    intro args K KP My bj az aos T Xy wy Ey aw l bd bX bB;obtain⟨l',ac,q1,q2,q3,q4,q5,_,_⟩:=LU (st':= .busy) (pd':=none) bd az aos;rw[bB]at q1;cases q1;have b5:L.params=ps:=by rw[hL]
    have cl:L.fn=fn:=by rw[hL]
    have cj:L.assign=x:=by rw[hL]
    have ck:L.body=y:=by rw[hL]
    have ce:aw.length=ps.toList.length:=by rw[bX.length,List.length_map,bj]
    have hy:=run_yield (P:=C.P) (args:=aw.toArray) q4 (by simp only[b5];simpa using ce);simp only[cl]at hy;refine⟨_,_,_,_,hy,Td (F:=Fence.wide) (n:=0) (B:=B) trivial b2 (b0 _ b2) ?_⟩;simp only[b5,cj,ck];have a3:((ps.zip aw.toArray).foldl (fun ac (x:Nat×Value)=>ac.setIfInBounds x.1 x.2) ac)=((ps.toList.zip aw).foldl (fun t (x:Nat×Value)=>t.setIfInBounds x.1 x.2) ac):=by
     rw[<-Array.foldl_toList];simp
    have cE:InS C Xy ⟨wy.heap.size,[],true,none⟩ n ⟨ps.toList.zip (args.map .d)++jf s.env bk,My⟩
      {tmps:=(ps.zip aw.toArray).foldl (fun ac (x:Nat×Value)=>ac.setIfInBounds x.1 x.2) ac,defers:=[]} wy Ey:=
     {sim:=bd
      size:=by simp only[a3,EU,q3,bO]
      fix:=fun _ h=>by cases h
      defers:=Dp
      env:=fun t=>by
       simp only[Act.eval,a3];refine VR (R:=fun v p=>Rep wy (away Xy My Ey) My Ey v p) _ _ _ _ ce (by simpa using bj) J (fun p T=> ?_) (fun i v d hv hd=> ?_) fun _=> ?_
       ·have:=aD.1 cJ p T
        rw[q3,bO];simpa using this
       ·obtain⟨v',g1,g2⟩:=bX.get' i d hd
        rw[hv]at g1;cases g1;exact g2
       ·rcases Xf (s:=s) cG t with he|⟨ht,he⟩
        ·rw[he];exact .dead
        ·rw[he]
         have O:cells[t]?=some (look s.env t):=by rw[ai];simp[bO,ht]
         obtain⟨v',g1,g2⟩:=q5.get' t _ O;have:ac.getD t undef=v':=by
          rw[am]at g1;simp[Y,g1]
         rw[this];exact g2}
    have aoe:∀{pc:aA},(∀g,B g->∃fn,C.P.funcs[g]?=some fn)\/Dj pc=true:= .inl b0
    have cP:=jT hm x x' (M₀:=My) (nb:=My.boxes.length) (na:=My.aF.length) (av _) (av _) B aoe (some l) [] true none _ _ _ wy Ey (fun _ h=>by cases h) (.inr bL) (fun _=>bL) ct (by rw[F7 (nb':=nb) (na':=na) x' bL];exact T) cE (.refl _ _ _);refine xK (F:=Fence.wide.inRound l) cP fun e a1 w3 Z=> ?_
    cases e with
    |exit id=>obtain⟨_,_,_,_,⟨he,_⟩,_⟩:=Z;cases he
    |ret=>obtain⟨_,_,_,_,⟨he,_⟩,_⟩:=Z;cases he
    |panic ch=>obtain⟨_,_,_,_,_,_,_,⟨he,_⟩,_⟩:=Z;cases he
    |goto t=>exact Z.elim
    |outgrown=>exact Z.elim
    |normal=>
     obtain⟨X3,⟨apb,cU⟩,E3,cf,⟨_,bh,cI⟩,bt,am8⟩:=Z;simp only at bh;rw[bh]at bt am8;obtain⟨l3,ao5,u1,u2,u3,u4,u5,u6,u7⟩:=LU (st':= .busy) (pd':=none) bt.sim az aos;rw[(am8.bx _ _ az).1,bB]at u1;cases u1;have cq:=run_beginRound (P:=C.P) u4 rfl;refine⟨_,cq,?_⟩;have an:InS C X3 ⟨wy.heap.size,[],true,none⟩ n ⟨apb,{My with boxes:=My.boxes.set s.mem.boxes.length (some (.iK {L with state:= .busy,pending:=none}::cells))}⟩ a1 _ E3:=bt.from u6 u7
     have cR:=jT hm y y' (M₀:=My) (nb:=My.boxes.length) (na:=My.aF.length) (av _) (av _) B aoe (some l) [] true none _ _ _ _ E3 (fun _ h=>by cases h) (.inr bN) (fun _=>bN) cv (by rw[F7 (nb':=nb) (na':=na) y' bN];exact cI) an (am8.trans u7);refine xK (F:=Fence.wide.inRound l) cR fun e2 a5 w5 Nj=> ?_
     have bl:∀{e:Exit} {e':Ex} (ab:Option Code) (X5:Nat->Prop) (s5:St) (E5:Emb) (st:LoopState),(∀b,X3 b->X5 b)->st=(if ab.isNone then LoopState.ready else .done)->
       (∃G,s5.mem.boxes[s.mem.boxes.length]?=some (some (.iK {L with state:= .busy,pending:=none}::G))/\s.mem.boxes.length∉s5.mem.fz/\
        K (.d (.bool ab.isNone)) {s5.mem with boxes:=s5.mem.boxes.set s.mem.boxes.length (some (.iK {L with state:=st,pending:=ab}::G))})->
       InS C X5 ⟨wy.heap.size,[],true,none⟩ n s5 a5 w5 E5->From wy My Ey w5 s5.mem E5->
       ∃v w',(Instr.endRound l ab).run C.P w5= .ok v w'/\Fin C Xy wy My Ey K KP w' (.returned v):=by
      rintro e e' ab X5 s5 E5 st ap cM ⟨G,v1,v2,v3⟩ ax aq;subst cM;obtain⟨l5,aqm,t1,t2,t3,t4,t5,t6,t7⟩:=LU (st':=if ab.isNone then LoopState.ready else .done) (pd':=ab) ax.sim v1 v2;rw[(aq.bx _ _ az).1,bB]at t1;cases t1;refine⟨_,_,run_endRound ab t4,?_⟩;refine⟨_,_,E5,v3,?_,?_, .d (.bool _)⟩
      ·exact t6.less (X':=Xy) (fun b H=>ap b (cf b H)) bd.iW
      ·exact aq.trans t7
     cases e2 with
     |normal=>
      obtain⟨X5,s5,E5,ap,⟨G,v1,v2,v3⟩,ax,aq⟩:=Nj;exact bl (e:= .normal) (e':= .normal) none X5 s5 E5 .ready ap rfl ⟨G,v1,v2,v3⟩ ax aq
     |ret=>
      obtain⟨X5,s5,E5,ap,⟨G,v1,v2,v3⟩,ax,aq⟩:=Nj;exact bl (e:= .normal) (e':= .normal) (some .ret) X5 s5 E5 .done ap rfl ⟨G,v1,v2,v3⟩ ax aq
     |exit id=>
      obtain⟨X5,s5,E5,ap,⟨G,v1,v2,v3⟩,ax,aq⟩:=Nj;exact bl (e:= .normal) (e':= .normal) (some (.exit id)) X5 s5 E5 .done ap rfl ⟨G,v1,v2,v3⟩ ax aq
     |panic ch=>
      obtain⟨X5,v5,d5,M5,E5,ap,rfl,h1,h2,h3,h4,⟨ms,hms,_,cH⟩,_⟩:=Nj;have aoL:∀b,Xy b->X5 b:=fun b H=>ap b (cf b H)
      exact⟨by rw[hms,cH rfl];rfl,v5,d5,M5,E5,rfl,h1,h2.less aoL bd.iW,h3,h4.weaken fun b H=>H.imp (aoL b) id⟩
     |goto t=>exact Nj.elim
     |outgrown=>exact Nj.elim
   have cL:=h mD;have hA:aT w2 (away X' (iQ s.mem L .ready none cells [] [] []) E1) (iQ s.mem L .ready none cells [] [] []) E1 (Fs.toList++ [.func (.yield lp) #[] #[]]++Cs.toList) (fs++ [.qg s.mem.boxes.length]++cs):=
    (((cB.move bu).from abw).append (.cons (.qg OA b8 rfl) .nil)).append ((cA.move bu).from abw)
   have ahk:=cL X' w2 E1 _ cp hA;refine⟨lp,[{target:= .collected D,args:= #[]}],w2,{target:= .fn (.func g) Cs,args:=Fs++ #[.func (.yield lp) #[] #[]]},w2,g,Fs++ #[.func (.yield lp) #[] #[]]++Cs,w2,?_,?_,fun _ _=>trivial,?_,fun h=>by simp[RF,Fence.wide]at h,?_⟩
   ·have:=run_enterLoop_outer (P:=C.P) (w:=w) fn a.tmps ps x y
    rw[ahs,bi,hL,bA,hD];exact this
   ·simp only[resolve,aor]
    simp[go_sem,Deferred.ofValue,Act.eval]
   ·simp[invoke,uY br]
   have bq:(Fs.toList++ [Value.func (.yield lp) #[] #[]]++Cs.toList).toArray=Fs++ #[Value.func (.yield lp) #[] #[]]++Cs:=by simp
   rw[bq]at ahk;refine Qz (Calls.mono ahk fun e w3 a0=> ?_);cases e with
   |outgrown=>exact a0.elim
   |panicked chain=>
    obtain⟨v,d,M3,E3,rfl,hq,amV,ae3,cK⟩:=a0;have aE:=b3.trans ae3;refine⟨X',v,d,M3,E3,aM,rfl,hq,amV,V.trans aE,cK,?_,N.fix⟩;obtain⟨ms,hms,⟨a4,a7⟩,_⟩:=N.defers;obtain⟨a9,anh,hold,_⟩:=aL.defers.from aL.sim (abw.trans ae3)
    have a8:a9=ms:=by simpa using anh.symm.trans hms
    subst a8;refine⟨_::a9,by rw[hms];rfl,⟨fun d hd=> ?_,?_⟩,fun e=>(z e).elim⟩
    ·rcases a6.1 hd with rfl|hd
     ·refine⟨D,rfl,by rw[hD];exact V.size,by rw[aR];exact .inr rfl,?_⟩
      have bE:¬owned s.mem E D:=fun ho=>by have:=N.sim.RI ho;omega
      exact(abw.trans ae3).keep D _ bE aog
     ·exact hold.1 d hd
    ·refine ao.2 ⟨fun d hd he=> ?_,a7⟩
     obtain⟨D',g1,g2,g3,g4⟩:=a4 d hd;rw[g1]at he
     injection he with he
     have:=dh g4;omega
   |returned v=>
    obtain⟨p,M3,E3,⟨st,pd,cg,v1,v2,v3,v4⟩,amV,ae3,_⟩:=a0;obtain⟨l3,ao5,u1,u2,u3,u4,u5,u6,u7⟩:=LU (st':= .exhausted) (pd':=pd) amV v1 v3;rw[(ae3.bx _ _ OA).1,b8]at u1;cases u1;refine⟨pd,_,run_endLoop u4 v2,?_⟩;have aE:=(ae3.trans u7)
    have an:InS C X' ⟨w₀.heap.size,j,ex,fx⟩ n ⟨s.env,_⟩ {a with defers:=[{target:= .collected D,args:= #[]}]++a.defers} _ E3:=
     {sim:=u6
      env:=fun t=>(aL.env t).from (abw.trans aE)
      size:=N.size
      fix:=N.fix
      defers:=by
       obtain⟨ms,hms,⟨a4,a7⟩,_⟩:=N.defers;obtain⟨a9,anh,hold,_⟩:=aL.defers.from aL.sim (abw.trans aE)
       have a8:a9=ms:=by simpa using anh.symm.trans hms
       subst a8;refine⟨_::a9,by rw[hms];rfl,⟨fun d hd=> ?_,?_⟩,fun e=>(z e).elim⟩
       ·rcases a6.1 hd with rfl|hd
        ·refine⟨D,rfl,by rw[hD];exact V.size,by rw[aR];exact .inr rfl,?_⟩
         have bE:¬owned s.mem E D:=fun ho=>by have:=N.sim.RI ho;omega
         exact(abw.trans aE).keep D _ bE aog
        ·exact hold.1 d hd
       ·refine ao.2 ⟨fun d hd he=> ?_,a7⟩
        obtain⟨D',g1,g2,g3,g4⟩:=a4 d hd;rw[g1]at he
        injection he with he
        have:=dh g4;omega}
    have aby:=(V.trans b3).trans aE
    match pd,v4,an,aby with
    |none,v4,an,aby=>exact⟨X',_,E3,aM,v4,an,aby⟩
    |some .ret,v4,an,aby=>exact Gu<|wpIn_ret ⟨X',_,E3,aM,v4,an,aby⟩
    |some (.exit id),v4,an,aby=>exact Gu<|wpIn_exit ⟨X',_,E3,aM,v4,an,aby⟩
def AP (j:C.P.follows .mixedOrders=true){n:Nat}(c:Code)(pc:aA){X:Nat->Prop}{w₀:World}{M₀:Mem}{E₀:Emb}{nb na:Nat}(hb:M₀.boxes.length<=nb)(i:M₀.aF.length<=na)(k:Dj pc=true)(ro:Option Nat)(b:List Deferred)(ex:Bool)(fx:Option (Nat×Value))(Q:Ex->St->Prop)(s:St)(a:Act)(w:World)(E:Emb)
  (h1:∀q,fx=some q->Fj q.1 c=true)(h2:ro=none\/iq pc=true)(d:ex=true->iq pc=true)(e:chk C.P n c pc=true)(f:pwp C nb na pc Q s)(g:InS C X ⟨w₀.heap.size,b,ex,fx⟩ n s a w E)(h:From w₀ M₀ E₀ w s.mem E):c.wpIn (RF ro) 0 C.P (Post C X n w₀ M₀ E₀ b ex fx Q) a w:=
 alK (jT j c pc hb i (fun _=>True) (.inr k) ro b ex fx Q s a w E h1 h2 d e f g h)
inductive jB where
 |tmp (t:Nat)
 |cell (t:Nat) (agg:Bool) (n:Nat)
def OE (P:Program):List ResultVar->List jB->Bool
 | [],[]=>true
 | .tmp t::l, .tmp b::a=>t==b&&OE P l a
 | .cell t ty::l, .cell b agg n::a=>t==b&&y9 P ty agg n&&OE P l a
 | _,_=>false
def oU:List jB->St->(List PV->Prop)->Prop
 | [],_,K=>K []
 | .tmp t::l,s,K=>oU l s fun a=>K (look s.env t::a)
 | .cell t agg n::l,s,K=>cO agg n (look s.env t) s.mem fun v=>oU l s fun a=>K (v::a)
def resV:List PV->PV
 | [x]=>x
 |a=>J3 a
def Wv {P:Program}{t:TypeId}{u:Value}(h:(Instr.loadAt t v).run P w= .ok u w):(do loadVar t (<-asAddr v):Sem Value).run P w= .ok u w:=by
 cases v with
 |pointer a=>
  cases a with
  |none=>simp[Instr.loadAt,Instr.sureAddr]at h
  |some a=>simpa[Instr.loadAt,Instr.sureAddr,asAddr]using h
 | _=>simp[Instr.loadAt,Instr.sureAddr]at h
def ak9 (tmps:Array Value):ResultVar->Sem Value
 | .tmp t=>pure (tmps.getD t undef)
 | .cell x t=>do loadVar t (<-asAddr (tmps.getD x undef))
def S9 (fn:Func)(tmps:Array Value):results fn tmps=(do let vs<-fn.results.mapM (ak9 tmps);pure (if h:vs.size=1 then vs[0]else .tuple vs)):=rfl
def NJ {lo:Lo}{n:Nat}{s:St}{a:Act}{w:World}{E:Emb}(hi:InS C X lo n s a w E):∀{l:List ResultVar} {d:List jB} {K:List PV->Prop},OE C.P l d=true->oU d s K->
  ∃vs ps,(l.mapM (ak9 a.tmps):Sem (List Value)).run C.P w= .ok vs w/\K ps/\aT w (away X s.mem E) s.mem E vs ps
 | [],[],K,_,h=>⟨[],[],by simp,h, .nil⟩
 | .tmp t::l, .tmp k::d,K,b,h=>by
  simp only[OE,S,beq_iff_eq]at b;obtain⟨rfl,b⟩:=b;obtain⟨vs,ps,h1,h2,e⟩:=NJ hi b h;refine⟨a.tmps.getD t undef::vs,_,?_,h2, .cons (hi.env t) e⟩;simp only[bk,ak9,Sem.run_bind,Sem.run_pure,Result.andThen_ok,h1]
 | .cell x t::l, .cell o agg m::d,K,b,h=>by
  simp only[OE,S,beq_iff_eq]at b;obtain⟨⟨rfl,f⟩,b⟩:=b;simp only[oU]at h;obtain⟨u,pv,g,i,j⟩:=Iz hi.sim (hi.env x) f h;have c:=Wv g;obtain⟨vs,ps,h1,h2,e⟩:=NJ hi b i;refine⟨u::vs,_,?_,h2, .cons j e⟩;simp only[bk];rw[Sem.run_bind];simp only[Act.eval]at c;rw[show ak9 a.tmps (.cell x t)=(do loadVar t (<-asAddr (a.tmps.getD x undef))) from rfl,c];simp only[Result.andThen_ok,Sem.run_bind,h1,Sem.run_pure]
def Rep.J3 {w:World}{O:Nat->Prop}{M:Mem}{E:Emb}{vs:List Value}{ps:List PV}(h:aT w O M E vs ps):Rep w O M E (.tuple vs.toArray) (J3 ps):=by
 unfold Am.J3
 split
 ·rename_i ds hd;exact .d (.tup (by simpa using h.ji hd))
 ·exact .tup (by simpa using h)
def Iw {lo:Lo}{n:Nat}{a:Act}(hi:InS C X lo n s a w E){fn:Func}{e:List jB}{K:List PV->Prop}(d:OE C.P fn.results.toList e=true)(h:oU e s K):
  ∃v ps,(results fn a.tmps).run C.P w= .ok v w/\K ps/\Rep w (away X s.mem E) s.mem E v (resV ps):=by
 obtain⟨c,ps,h1,h2,b⟩:=NJ hi d h;refine⟨if h:c.toArray.size=1 then c.toArray[0]else .tuple c.toArray,ps,?_,h2,?_⟩
 ·rw[S9,Array.mapM_eq_mapM_toList]
  simp only[Sem.run_bind,Sem.run_map,h1,Result.andThen_ok,Sem.run_pure]
 ·have f:=b.length
  match ps,c,b,f with
  | [],[],b,_=>exact Rep.J3 b
  | [p],[v],b,_=>cases b with|cons b _=>exact b
  |p::q::l,v::u::m,b,_=>
   have:¬((v::u::m).toArray.size=1):=by simp
   rw[dif_neg this];exact Rep.J3 b
def vI:Nat->List PV->List (Nat×PV)
 | _,[]=>[]
 |k,v::a=>(k,v)::vI (k+1) a
def Jf:∀{vs:List PV} {k t:Nat},look (vI k vs) t=if t<k then .dead else(vs[t - k]?).getD .dead
 | [],k,t=>by simp[vI,look]
 |v::vs,k,t=>by
  simp only[vI,look]
  by_cases h:k=t
  ·subst h;simp
  ·have:(k==t)=false:=by simp[h]
   simp only[this,cond_false,Jf]
   by_cases h2:t<k
   ·rw[if_pos (by omega),if_pos h2]
   ·rw[if_neg (by omega),if_neg h2]
    have:t - k=(t - (k+1))+1:=by omega
    rw[this];simp
def Oc (P:Program)(f:FuncId)(a:Nat)(pc:aA)(b:List jB):Bool:=
 match P.funcs[f]? with
 |some fn=>match fn.body with
  |some code=>decide (a<=fn.ntmps)&&chk P fn.ntmps code pc&&OE P fn.results.toList b
  |none=>false
 |none=>false
def Ul (b:List jB)(K:PV->Mem->Prop)(KP:DV->Mem->Prop):Ex->St->Prop
 | .normal,s=>oU b s fun a=>K (resV a) s.mem
 | .ret,s=>oU b s fun a=>K (resV a) s.mem
 | .panic d,s=>KP d s.mem
 | .exit _,_=>False
structure Shut (ds:List Deferred) (w w':World):Prop where
 os:w'.os=w.os
 tape:w'.tape=w.tape
 output:w'.output=w.output
 size:w'.heap.size=w.heap.size
 keep:∀b,(∀d∈ds,d.target≠ .collected b)->w'.heap[b]?=w.heap[b]?
def pq {P:Program}{fn:Func}{tmps:Array Value}{R:Ending->World->Prop}{lo:Nat}{f:List Deferred}{u:FrameMode}(l:u≠ .run):∀{ds:List Deferred} {w:World},okM lo X ds w->
  (∀w',Shut ds w w'->LeavesInM Fence.wide 0 P fn tmps R f u w')->LeavesInM Fence.wide 0 P fn tmps R (ds++f) u w
 | [],w,_,h=>h w ⟨rfl,rfl,rfl,rfl,fun _ _=>rfl⟩
 |d::ds,w,hd,h=>by
  obtain⟨h1,h2⟩:=hd;rw[ao]at h2;obtain⟨D,i,s,t,n⟩:=h1 d (by simp);refine⟨l, .inl ⟨D,w.putObj D (.deferred none),i,run_takeDeferred n,?_⟩⟩;have j:∀c∈ds,∀e,c.target= .collected e->e≠D:=by
   rintro c a e o rfl;exact h2.1 c a (by rw[i,o])
  refine pq l (lo:=lo) ⟨fun c a=> ?_,h2.2⟩ fun w' g=>h w' ?_
  ·obtain⟨e,m,p,q,r⟩:=h1 c (by simp[a])
   exact⟨e,m,p,q,by rw[World.putObj_heap_other (j c a e m)];exact r⟩
  ·refine⟨g.os,g.tape,g.output,by rw[g.size];simp,fun b k=> ?_⟩
   rw[g.keep b fun c a=>k c (by simp[a]),World.putObj_heap_other];rintro rfl;exact k d (by simp) i
def Gm {e:World}{M':Mem}{E':Emb}{ds:List Deferred}(h:Sim C X' w' M' E')(f:∀b,C.low b->b<w.heap.size)(hf:From w M E w' M' E')(hd:okM w.heap.size X' ds w')(hs:Shut ds w' e):
  Sim C X' e M' E'/\From w M E e M' E'/\(∀b o,¬away X' M' E' b->w'.heap[b]?=some o->e.heap[b]?=some o/\¬away X' M' E' b):=by
 have a:∀b,(¬X' b\/b<w.heap.size)->e.heap[b]?=w'.heap[b]?:=by
  intro b c;refine hs.keep b fun d j g=> ?_
  obtain⟨D,k,p,l,_⟩:=hd.1 d j;rw[k]at g
  injection g with g
  subst g
  rcases c with c|c
  ·exact c l
  ·omega
 obtain⟨m,n⟩:=h.shift (X':=X') (w':=e) h.iW (fun b c=>by rw[hs.size];exact h.xlt b c) (fun b c=>a b (.inr (f b c))) fun b o c i=>⟨by rw[a b (.inl c)];exact i,c⟩
 refine⟨m,?_,n⟩;exact
  {os:=hs.os.trans hf.os,tape:=hs.tape.trans hf.tape,output:=hs.output.trans hf.output,size:=by rw[hs.size];exact hf.size,
   keep:=fun b o c i=>by rw[a b (.inr (dh i))];exact hf.keep b o c i,
   own:=hf.own,iP:=hf.iP,bx:=hf.bx,bP:=hf.bP,ar:=hf.ar}
def NP (hm:C.P.follows .mixedOrders=true){f:FuncId}{args:List PV}{M:Mem}{K:PV->Mem->Prop}{KP:DV->Mem->Prop}{pc:aA}{Q:List jB}{j:Nat}(hn:args.length=j)(hc:Oc C.P f j pc Q=true)
  (h:pwp C M.boxes.length M.aF.length pc (Ul Q K KP) ⟨vI 0 args,M⟩):SC C f args M K KP:=by
 subst hn;intro X w E a A R;unfold Oc at hc
 split at hc
 ·rename_i fn D
  split at hc
  ·rename_i code q
   simp only[S,decide_eq_true_eq]at hc;obtain⟨⟨ab,aps⟩,G⟩:=hc;have ac:a.length=args.length:=R.length;have hi:InS C X ⟨w.heap.size,[],false,none⟩ fn.ntmps ⟨vI 0 args,M⟩ {tmps:=a.toArray++aw (fn.ntmps - a.toArray.size) undef,defers:=[]} w E:=
    {sim:=A
     size:=by simp;omega
     defers:=Dp
     fix:=fun _ h=>by cases h
     env:=fun t=>by
      simp only[Jf,Nat.not_lt_zero,if_false,b5];cases ht:args[t]? with
      |none=>exact .dead
      |some p=>
       obtain⟨v,T,hr⟩:=R.get' t p ht;have L:t<a.length:=(aq.1 T).1;have:({tmps:=a.toArray++aw (fn.ntmps - a.toArray.size) undef,defers:=[]}:Act).eval (.tmp t)=v:=by
        simp only[Act.eval,Y];rw[Array.getElem?_append_left (by simpa using L)];simp[T]
       rw[this];exact hr}
   refine(callsIn_wide (n:=0)).1 (QA (F:=Fence.wide) (B:=fun g=>∃fn,C.P.funcs[g]?=some fn) D q trivial ⟨fn,D⟩ ?_);refine xK (F:=RF none) (jT hm code pc (av _) (av _) _ (.inl fun _ h=>h) none [] false none _ _ _ w E (fun _ h=>by cases h) (.inl rfl) (fun e=>by cases e) aps h hi (.refl _ _ _)) fun e y w' x=> ?_
   have m:∀b,C.low b->b<w.heap.size:=fun b I=>A.xlt b (A.iW b I)
   have z:∀(s:St) (X':Nat->Prop) (c:Emb),(∀b,X b->X' b)->oU Q s (fun vs=>K (resV vs) s.mem)->InS C X' ⟨w.heap.size,[],false,none⟩ fn.ntmps s y w' c->From w M E w' s.mem c->
     LeavesInM Fence.wide 0 C.P fn y.tmps (fun e w'=>Fin C X w M E K KP w' e) y.defers .returning w':=by
    intro s X' c k h1 h2 o;obtain⟨ms,r,i,_⟩:=h2.defers;rw[r];refine pq (by simp) i fun U u=> ?_
    obtain⟨H,N,O⟩:=Gm h2.sim m o i u;have J:InS C X' ⟨w.heap.size,[],false,none⟩ fn.ntmps s {y with defers:=[]} U c:={sim:=H,env:=fun t=>(h2.env t).move O,size:=h2.size,defers:=Dp,fix:=fun _ h=>by cases h}
    obtain⟨v,ps,V,W,Z⟩:=Iw J G h1;exact⟨v,V,_,s.mem,c,W,H.less k A.iW,N,Z.less k⟩
   cases e with
   |normal=>
    obtain⟨X',s,c,k,h1,h2,o⟩:=x;exact z s X' c k h1 h2 o
   |ret=>
    obtain⟨X',s,c,k,h1,h2,o⟩:=x;exact z s X' c k h1 h2 o
   |panic ch=>
    obtain⟨X',v,d,M',c,k,rfl,h1,h2,o,h4,h5,_⟩:=x;obtain⟨ms,r,i,_⟩:=h5
    show LeavesInM _ _ _ _ _ _ y.defers _ _
    rw[r];refine pq (by simp) i fun U u=> ?_
    obtain⟨H,N,O⟩:=Gm h2 m o i u;exact⟨v,d,M',c,rfl,h1,H.less k A.iW,N,(h4.mono O).weaken fun b I=>I.imp (k b) id⟩
   |exit id=>obtain⟨X',s,c,k,h1,_⟩:=x;exact h1.elim
   |goto l=>exact x.elim
   |outgrown=>exact x.elim
  ·cases hc
 ·cases hc
end
def mkRow (M:Mem)(q:Nat×Nat):Arr:=match M.aF[q.1]? with|some (some A)=>⟨A.sz,A.elems.drop q.2,0,A.st⟩| _=>default
def iJ (M:Mem)(E:Emb)(q:Nat×Nat):Option (Nat×Nat×Nat):=match M.aF[q.1]?,E.ar[q.1]? with|some (some A),some (some (a,o,e))=>some (a,o+q.2*A.sz,e)| _,_=>none
def Ah (M:Mem)(q:Nat×Nat):Bool:=match M.aF[q.1]? with|some (some A)=>decide (q.2<=A.elems.length)| _=>false
def LG:List (Nat×Nat)->Nat->Nat->Nat->Option Nat
 | [],_,_,_=>none
 |(a,b)::l,i,k,s=>bif a==k&&b==s then some i else LG l (i+1) k s
def SS (M:Mem)(L:List (Nat×Nat)):PV->PV
 | .d x=> .d x
 | .tsl k ver skip=>match M.row k ver,LG L 0 k skip with|some _,some i=> .tsl i 0 0| _,_=> .dead
 | _=> .dead
def ais (M:Mem)(L:List (Nat×Nat)):PV->PV
 | .agg cs=> .agg (cs.map (SS M L))
 |p=>SS M L p
def ren (M:Mem)(L:List (Nat×Nat)):PV->PV
 | .agg cs=> .agg (cs.map (SS M L))
 | .tup cs=> .tup (cs.map (ais M L))
 |p=>SS M L p
def zf (M:Mem)(L:List (Nat×Nat)):Prop:=(∀q∈L,Ah M q=true)/\(L.map (·.1)).Nodup
def VL:∀{L:List (Nat×Nat)} {i k s j:Nat},LG L i k s=some j->i<=j/\L[j - i]?=some (k,s)
 | [],i,k,s,j,h=>by simp[LG]at h
 |(a,b)::l,i,k,s,j,h=>by
  simp only[LG]at h;cases c:(a==k&&b==s)with
  |true=>
   rw[c]at h;simp only[cond_true,Option.some.injEq]at h;subst h;simp only[S,beq_iff_eq]at c;obtain⟨rfl,rfl⟩:=c;simp
  |false=>
   rw[c]at h;simp only[cond_false]at h;obtain⟨h1,h2⟩:=VL h;refine⟨by omega,?_⟩;rw[show j - i=(j - (i+1))+1 by omega]
   simpa using h2
section
variable {C:Ctx}{X:Nat->Prop}{w:World}{M:Mem}{E:Emb}
variable{q:Nat×Nat}
def ahK (h:Ah M q=true):∃A,M.aF[q.1]?=some (some A)/\q.2<=A.elems.length/\mkRow M q=⟨A.sz,A.elems.drop q.2,0,A.st⟩:=by
 unfold Ah at h
 split at h
 ·rename_i A a
  simp only[decide_eq_true_eq]at h;exact⟨A,a,h,by simp[mkRow,a]⟩
 ·cases h
def G6 {blk o e:Nat}(h:iJ M E q=some (blk,o,e)):∃A o',M.aF[q.1]?=some (some A)/\E.ar[q.1]?=some (some (blk,o',e))/\o=o'+q.2*A.sz:=by
 unfold iJ at h
 split at h
 ·rename_i A a o' d b c
  simp only[Option.some.injEq,Prod.mk.injEq]at h;obtain⟨rfl,rfl,rfl⟩:=h;exact⟨A,o',b,c,rfl⟩
 ·cases h
variable{L:List (Nat×Nat)}{i:Nat}
def Qi {B:Arr}(d:zf M L)(h:(rowsOf (L.map (mkRow M))).aF[i]?=some (some B)):∃q A,L[i]?=some q/\M.aF[q.1]?=some (some A)/\q.2<=A.elems.length/\B=⟨A.sz,A.elems.drop q.2,0,A.st⟩:=by
 simp only[rowsOf,b4,ax,ai,bX]at h;obtain⟨q,b,a⟩:=h;simp only[Option.some.injEq]at a;obtain⟨A,h1,h2,c⟩:=ahK (d.1 q (List.mem_of_getElem? b));exact⟨q,A,b,h1,h2,by rw[<-a,c]⟩
def yP (a:L[i]?=some q):(L.map (iJ M E))[i]?=some (iJ M E q):=by
 simp[a]
def Ny (g:zf M L){b:Nat}(h:owned (rowsOf (L.map (mkRow M))) ⟨[],L.map (iJ M E)⟩ b):owned M E b:=by
 rcases h with⟨i,cs,h1,_⟩|⟨i,B,o,e,h1,h2,c⟩
 ·simp[rowsOf]at h1
 ·obtain⟨q,A,f,a,m,rfl⟩:=Qi g h1
  simp only[yP f,Option.some.injEq]at c;obtain⟨l,j,d,k,_⟩:=G6 c;rw[a]at d;cases d;exact .inr ⟨q.1,A,j,e,a,h2,k⟩
def XD (h:Sim C X w M E)(c:zf M L):Sim C X w (rowsOf (L.map (mkRow M))) ⟨[],L.map (iJ M E)⟩:=by
 have d:∀b,away X (rowsOf (L.map (mkRow M))) ⟨[],L.map (iJ M E)⟩ b->away X M E b:=fun b f=>f.imp id (Ny c)
 exact
  {glob:=h.glob,iW:=h.iW,xlt:=h.xlt
   iP:=rfl
   bP:=by simp[rowsOf]
   box:=fun b cs f=>by simp[rowsOf]at f
   arr:=fun i B n=>by
    obtain⟨q,A,g1,g2,g3,rfl⟩:=Qi c n;obtain⟨y,s2,s3,z⟩:=h.arr q.1 A g2;refine⟨y,fun x u=>s2 x (List.mem_of_mem_drop u),fun t=> ?_,fun a o e k=> ?_⟩
    ·obtain⟨⟨a,o,e⟩,s⟩:=s3 t
     exact⟨(a,o+q.2*A.sz,e),by rw[yP g1];simp[iJ,g2,s]⟩
    ·simp only[yP g1,Option.some.injEq]at k
     obtain⟨A',o',q1,q2,rfl⟩:=G6 k;rw[g2]at q1;cases q1;obtain⟨r1,vs,T,r2,r3,r4,r5⟩:=z a o' e q2;refine⟨r1,vs,T,r2,?_,r4,?_⟩
     ·simp only[bu]
      have:q.2*A.sz+(A.elems.length - q.2)*A.sz=A.elems.length*A.sz:=by rw[<-bA];congr 1;omega
      omega
     ·simp only[bu]
      exact(row_drop s2 r5).weaken d
   bb:=fun b F cs l a h1=>by simp[rowsOf]at h1
   aa:=fun i G B D a o e o' m h1 h2 g j=>by
    obtain⟨q,A,g1,g2,g3,rfl⟩:=Qi c h1;obtain⟨v,A',g1',g2',g3',rfl⟩:=Qi c h2;simp only[yP g1,Option.some.injEq]at g;simp only[yP g1',Option.some.injEq]at j;obtain⟨_,p1,_,p2,_⟩:=G6 g;obtain⟨_,p1',_,p2',_⟩:=G6 j;have r:=h.aa q.1 v.1 A A' a p1 e p1' m g2 g2' p2 p2';have p:i<(L.map (·.1)).length:=by simpa using(aq.1 g1).1
    refine(List.getElem?_inj p c.2).1 ?_;simp[g1,g1',r]
   ba:=fun b i cs B a o e h1=>by simp[rowsOf]at h1}
def QZ {w₀:World}(hf:From w₀ cu ⟨[],[]⟩ w M E)(c:zf M L):From w₀ cu ⟨[],[]⟩ w (rowsOf (L.map (mkRow M))) ⟨[],L.map (iJ M E)⟩:={
 os:=hf.os
 tape:=hf.tape
 output:=hf.output
 size:=hf.size
 keep:=hf.keep
 own:=fun b a=>hf.own b (Ny c a)
 iP:=av _
 bx:=fun b cs a=>by simp[cu]at a
 bP:=bB _
 ar:=fun k e d=>by simp[cu]at d}
def SX (h:Sim C X w M E)(D:zf M L){v:Value}{p:PV}(q:Rep w (away X M E) M E v p):
  Rep w (away X (rowsOf (L.map (mkRow M))) ⟨[],L.map (iJ M E)⟩) (rowsOf (L.map (mkRow M))) ⟨[],L.map (iJ M E)⟩ v (SS M L p):=by
 have f:∀b,away X (rowsOf (L.map (mkRow M))) ⟨[],L.map (iJ M E)⟩ b->away X M E b:=fun b F=>F.imp id (Ny D)
 cases p with
 |d x=>exact .d (q.toD.weaken f)
 |tsl k ver skip=>
  simp only[SS]
  split
  ·rename_i A i t G
   obtain⟨_,c⟩:=VL G;simp only[b5]at c;obtain⟨t1,t2,R,S,N⟩:=Ua h q t;obtain⟨a,cap,H⟩:=q.lU t;subst H;have g:mkRow M (k,skip)=⟨A.sz,A.elems.drop skip,0,A.st⟩:=by simp[mkRow,t1]
   have m:i<L.length:=(aq.1 c).1;refine .tsl (by simpa[rowsOf]using m) fun B u=> ?_
   have l:B=⟨A.sz,A.elems.drop skip,0,A.st⟩:=by
    simp only[rowsOf,b4,ax,c,bN,bX,Option.some.injEq]at u;rw[<-u,g]
   subst l;refine⟨av _,fun _=>⟨_,yP c,bB _,?_⟩⟩
   rcases N with⟨j,o,e,U,T,s,r,I,O,P,Q,J⟩|⟨r,I,hd⟩
   ·have n:iJ M E (k,skip)=some (j,o+skip*A.sz,e):=by simp[iJ,t1,r]
    rw[n];simp only
    rcases J with⟨hh,y,K⟩|⟨y,_,z,hh⟩
    ·cases hh
     refine .inl ⟨cap,by simp,by simpa using y,?_⟩;simp only[b6];rw[Nat.add_assoc,<-bA];exact K
    ·refine .inr ⟨by simp;omega,z,?_⟩
     exact hh
   ·have n:iJ M E (k,skip)=none:=by simp[iJ,t1,r]
    rw[n]
    simpa using hd.weaken f
  ·exact .dead
 | _=>exact .dead
def NH {L:List (Nat×Nat)}(h:Sim C X w M E)(a:zf M L):∀{vs:List Value} {ps:List PV},aT w (away X M E) M E vs ps->
  aT w (away X (rowsOf (L.map (mkRow M))) ⟨[],L.map (iJ M E)⟩) (rowsOf (L.map (mkRow M))) ⟨[],L.map (iJ M E)⟩ vs (ps.map (SS M L))
 | _,_, .nil=> .nil
 | _,_, .cons h1 t=> .cons (SX h a h1) (NH h a t)
def ait (h:Sim C X w M E)(a:zf M L){v:Value}{p:PV}(b:Rep w (away X M E) M E v p):
  Rep w (away X (rowsOf (L.map (mkRow M))) ⟨[],L.map (iJ M E)⟩) (rowsOf (L.map (mkRow M))) ⟨[],L.map (iJ M E)⟩ v (ais M L p):=by
 cases p with
 |agg cs=>cases b with|agg hh=>exact .agg (NH h a hh)
 | _=>exact SX h a b
def VQ {L:List (Nat×Nat)}(h:Sim C X w M E)(a:zf M L):∀{vs:List Value} {ps:List PV},aT w (away X M E) M E vs ps->
  aT w (away X (rowsOf (L.map (mkRow M))) ⟨[],L.map (iJ M E)⟩) (rowsOf (L.map (mkRow M))) ⟨[],L.map (iJ M E)⟩ vs (ps.map (ais M L))
 | _,_, .nil=> .nil
 | _,_, .cons h1 t=> .cons (ait h a h1) (VQ h a t)
def ak8 (h:Sim C X w M E)(a:zf M L){v:Value}{p:PV}(b:Rep w (away X M E) M E v p):
  Rep w (away X (rowsOf (L.map (mkRow M))) ⟨[],L.map (iJ M E)⟩) (rowsOf (L.map (mkRow M))) ⟨[],L.map (iJ M E)⟩ v (ren M L p):=by
 cases p with
 |agg cs=>cases b with|agg hh=>exact .agg (NH h a hh)
 |tup cs=>cases b with|tup hh=>exact .tup (VQ h a hh)
 | _=>exact SX h a b
def LV {w:World}(d:C.G w)(hl:∀b,C.low b->X b)(hx:∀b,X b->b<w.heap.size):Sim C X w cu ⟨[],[]⟩:={
 glob:=d
 iW:=hl
 xlt:=hx
 iP:=rfl
 bP:=rfl
 box:=fun b cs h=>by simp[cu]at h
 arr:=fun k A h=>by simp[cu]at h
 bb:=fun b g cs c a h=>by simp[cu]at h
 aa:=fun k j A f a o e l i h=>by simp[cu]at h
 ba:=fun b k cs A a o e h=>by simp[cu]at h}
def Gx:∀b,away X cu ⟨[],[]⟩ b->X b:=by
 rintro b (h|⟨i,cs,h,_⟩|⟨k,A,o,e,h,_⟩)
 ·exact h
 ·simp[cu]at h
 ·simp[cu]at h
def DC {f:FuncId}{ds:List DV}{r:PV}{ass:List Arr}(h:SC C f (ds.map .d) cu (fun p M=>∃L,zf M L/\ren M L p=r/\L.map (mkRow M)=ass) (fun _ _=>False)):Pure C f ds r ass:=by
 intro X w a l m o n;refine(h X w ⟨[],[]⟩ a (LV l m o) (aT.ofD (n.weaken Gx))).mono fun e w' g=> ?_
 cases e with
 |returned v=>
  obtain⟨p,M',i,⟨L,b,rfl,rfl⟩,h2,j,k⟩:=g;exact⟨v,_,rfl,XD h2 b,QZ j b,ak8 h2 b k⟩
 |panicked c=>
  obtain⟨v,d,M',i,_,hh,_⟩:=g;exact hh.elim
 |outgrown=>exact g.elim
def Zz (c:C.P.follows .mixedOrders=true){f:FuncId}{ds:List DV}{r:PV}{ass:List Arr}{pc:aA}{b:List jB}{a:Nat}(e:(ds.map PV.d).length=a)(hc:Oc C.P f a pc b=true)
  (h:pwp C 0 0 pc (Ul b (fun p M=>∃L,zf M L/\ren M L p=r/\L.map (mkRow M)=ass) (fun _ _=>False)) ⟨vI 0 (ds.map .d),cu⟩):Pure C f ds r ass:=
 DC (NP c e hc h)
def Iq (c:C.P.follows .mixedOrders=true){f:FuncId}{ds:List DV}{x:DV}{pc:aA}{b:List jB}{a:Nat}(e:(ds.map PV.d).length=a)(hc:Oc C.P f a pc b=true)
  (h:pwp C 0 0 pc (Ul b (fun p _=>p= .d x) (fun _ _=>False)) ⟨vI 0 (ds.map .d),cu⟩):Pure C f ds (.d x) []:=by
 refine DC (SC.mono (NP c e hc h) fun v M' i=>⟨[],⟨fun q g=>(by cases g),List.nodup_nil⟩,?_,rfl⟩);subst i
 rfl
end
section
variable {C:Ctx}{nb na:Nat}{Q:Ex->St->Prop}{env:List (Nat×PV)}{bs:List (Option (List PV))}{fz:List Nat}{ass:List (Option Arr)}{s:St}
def aia:pwp C nb na .skip Q s=Q .normal s:=px
def afv {l:Nat}:pwp C nb na (.label l) Q s=Q .normal s:=px
def akX:pwp C nb na .ret Q s=Q .ret s:=px
def ah9 {i:Nat}:pwp C nb na (.exit i) Q s=Q (.exit i) s:=px
def afw {b:aA}:pwp C nb na (.scope b) Q s=pwp C nb na b Q s:=px
def aiS (C:Ctx)(nb na:Nat)(b:aA)(Q:Ex->St->Prop):Ex->St->Prop:=fun e a=>match e with| .normal=>pwp C nb na b Q a|e=>Q e a
def IV (id:Nat)(Q:Ex->St->Prop):Ex->St->Prop:=fun e b=>match e with| .exit a=>if a=id then Q .normal b else Q (.exit a) b|e=>Q e b
def OB (nb na:Nat)(I:Nat->St->Prop)(n:Nat)(Q:Ex->St->Prop):Ex->St->Prop:=fun e c=>match e with| .normal=>∃b a,b<n/\Weak nb na c a/\I b a|e=>Q e c
def akY {a b:aA}:pwp C nb na (.seq a b) Q s=pwp C nb na a (aiS C nb na b Q) s:=px
def aac {b:aA}:aiS C nb na b Q .normal s=pwp C nb na b Q s:=px
def aiT {b:aA}:aiS C nb na b Q .ret s=Q .ret s:=px
def afM {b:aA}{i:Nat}:aiS C nb na b Q (.exit i) s=Q (.exit i) s:=px
def acC {b:aA}{d:DV}:aiS C nb na b Q (.panic d) s=Q (.panic d) s:=px
def afu {i:Nat}{b:aA}:pwp C nb na (.block i b) Q s=pwp C nb na b (IV i Q) s:=px
def Uf {i:Nat}:IV i Q .normal s=Q .normal s:=px
def aaL {i:Nat}:IV i Q .ret s=Q .ret s:=px
def Ws {i:Nat}{d:DV}:IV i Q (.panic d) s=Q (.panic d) s:=px
def N7 {i j:Nat}:IV i Q (.exit j) s=if j=i then Q .normal s else Q (.exit j) s:=px
def aaK {i j:Nat}(h:(j==i)=true):IV i Q (.exit j) s=Q .normal s:=by rw[N7,if_pos (by simpa using h)]
def Yb {i j:Nat}(h:(j==i)=false):IV i Q (.exit j) s=Q (.exit j) s:=by rw[N7,if_neg (by simpa using h)]
def Xh {I:Nat->St->Prop}{n:Nat}:OB nb na I n Q .normal s=∃b a,b<n/\Weak nb na s a/\I b a:=px
def afj {I:Nat->St->Prop}{n:Nat}:OB nb na I n Q .ret s=Q .ret s:=px
def abR {I:Nat->St->Prop}{n i:Nat}:OB nb na I n Q (.exit i) s=Q (.exit i) s:=px
def Y7 {I:Nat->St->Prop}{n:Nat}{d:DV}:OB nb na I n Q (.panic d) s=Q (.panic d) s:=px
variable{b:aA}
def BX (I:Nat->St->Prop)(n:Nat)(a:I n s)(c:∀n s,I n s->pwp C nb na b (OB nb na I n Q) s):pwp C nb na (.loop b) Q s:=⟨I,n,a,c⟩
def Lr {x:Bool}{c:Opd}{a:aA}(h:s.val c= .d (.bool x)):pwp C nb na (.cond c a b) Q s=((x=true->pwp C nb na a Q s)/\(x=false->pwp C nb na b Q s)):=by
 simp only[pwp,h]
def acg {t:Nat}{a b:aA}{m:Mem}(h:look env t= .d (.bool true)):pwp C nb na (.cond (.t t) a b) Q ⟨env,m⟩=pwp C nb na a Q ⟨env,m⟩:=by
 rw[Lr (s:=⟨env,m⟩) (c:= .t t) (x:=true) h];simp
def acf {t:Nat}{a b:aA}{m:Mem}(h:look env t= .d (.bool false)):pwp C nb na (.cond (.t t) a b) Q ⟨env,m⟩=pwp C nb na b Q ⟨env,m⟩:=by
 rw[Lr (s:=⟨env,m⟩) (c:= .t t) (x:=false) h];simp
def ZC {a b:aA}:pwp C nb na (.cond (.c (.bool true)) a b) Q s=pwp C nb na a Q s:=by
 rw[Lr (x:=true) rfl];simp
def ZB {a b:aA}:pwp C nb na (.cond (.c (.bool false)) a b) Q s=pwp C nb na b Q s:=by
 rw[Lr (x:=false) rfl];simp
def SA {d:Bool}{ops:List PO}{abZ:Nat}{keep a:List Nat}{m:Mem}:pwp C nb na (.region d ops abZ keep a) Q ⟨env,m⟩=
  wO C m.boxes.length ops (fun b=>wX a (Q .normal) ⟨jf b.env keep,b.mem⟩) (fun d M=>Q (.panic d) ⟨[],M⟩) ⟨env,⟨m.boxes++bo abZ none,m.fz,m.aF⟩⟩:=px
def ZE {d:Bool}{ops:List PO}{keep:List Nat}{m:Mem}:pwp C nb na (.region d ops 0 keep []) Q ⟨env,m⟩=
  wO C m.boxes.length ops (fun a=>Q .normal ⟨jf a.env keep,a.mem⟩) (fun d M=>Q (.panic d) ⟨[],M⟩) ⟨env,m⟩:=by
 rw[SA];simp only[List.replicate_zero,bE,wX]
def aeZ {K:St->Prop}:wX [] K s=K s:=px
def YW:jf env []=[]:=rfl
def WZ {k:Nat}{ks:List Nat}:jf env (k::ks)=(k,look env k)::jf env ks:=by simp only[jf,U]
end
section
variable {C:Ctx}{base:Nat}{K:St->Prop}{KP:DV->Mem->Prop}{s:St}{env:List (Nat×PV)}{m:Mem}
def acA:wO C base [] K KP s=K s:=px
def Z4 {o:PO}{os:List PO}:wO C base (o::os) K KP s=fE C base o (fun a=>wO C base os K KP a) KP s:=px
def alp {dst:Option Nat}{op:POp}{args:List Opd}:fE C base ⟨dst,op,args,none,0⟩ K KP ⟨env,m⟩=ay C base op (args.map (St.val ⟨env,m⟩)) m (fun v M=>K ⟨put env dst v,M⟩) KP:=propext ⟨fun h=>h.2,fun h=>⟨trivial,h⟩⟩
def aiM {dst:Option Nat}{op:POp}{args:List Opd}{fl:Nat}:fE C base ⟨dst,op,args,none,fl⟩ K KP ⟨env,m⟩=(yF base fl (args.map (St.val ⟨env,m⟩))/\ay C base op (args.map (St.val ⟨env,m⟩)) m (fun v M=>K ⟨put env dst v,M⟩) KP):=px
def aiP {dst:Option Nat}{op:POp}{args:List Opd}{fl t:Nat}(h:look env t= .d (.bool true)):fE C base ⟨dst,op,args,some (t,true),fl⟩ K KP ⟨env,m⟩=
  (yF base fl (args.map (St.val ⟨env,m⟩))/\ay C base op (args.map (St.val ⟨env,m⟩)) m (fun v M=>K ⟨put env dst v,M⟩) KP):=by
 simp only[fE,h];simp
def aiL {dst:Option Nat}{op:POp}{args:List Opd}{fl t:Nat}(h:look env t= .d (.bool false)):fE C base ⟨dst,op,args,some (t,false),fl⟩ K KP ⟨env,m⟩=
  (yF base fl (args.map (St.val ⟨env,m⟩))/\ay C base op (args.map (St.val ⟨env,m⟩)) m (fun v M=>K ⟨put env dst v,M⟩) KP):=by
 simp only[fE,h];simp
def aiO {dst:Option Nat}{op:POp}{args:List Opd}{fl t:Nat}(h:look env t= .d (.bool false)):fE C base ⟨dst,op,args,some (t,true),fl⟩ K KP ⟨env,m⟩=K ⟨put env dst (.d (.tup [])),m⟩:=by
 simp only[fE,h];simp
def aiN {dst:Option Nat}{op:POp}{args:List Opd}{fl t:Nat}(h:look env t= .d (.bool true)):fE C base ⟨dst,op,args,some (t,false),fl⟩ K KP ⟨env,m⟩=K ⟨put env dst (.d (.tup [])),m⟩:=by
 simp only[fE,h];simp
def alq {dst:Option Nat}{op:POp}{args:List Opd}{fl t:Nat}{w:Bool}(h:look env t= .d (.tup [])):fE C base ⟨dst,op,args,some (t,w),fl⟩ K KP ⟨env,m⟩=K ⟨put env dst (.d (.tup [])),m⟩:=by
 simp only[fE,h]
def amH {args:List PV}:yF base 0 args=True:=rfl
def amI {args:List PV}:yF base 1 args=(args.all PV.isD=true):=px
def aj8 {b o:Nat}{l:List PV}:yF base 2 (.ptr b o::l)=(b<base):=px
def aj7 {x:DV}{l:List PV}:yF base 2 (.d x::l)=True:=px
def amJ {k v i o:Nat}{l:List PV}:yF base 3 (.jU k v i o::l)=True:=px
def amK {i b o:Nat}{l:List PV}:yF base (i+4) (.ptr b o::l)=(b=base+i):=px
def aj9 {f b o:Nat}{l:List PV}(h:4<=f):yF base f (.ptr b o::l)=(b=base+(f - 4)):=by
 obtain⟨i,rfl⟩:∃i,f=i+4:=⟨f - 4,by omega⟩
 rw[amK];simp
def aoM {x:DV}:PV.isD (.d x)=true:=rfl
def ah8 {d:Nat}{v:PV}:put env (some d) v=(d,v)::env:=by simp only[put]
def ah7 {v:PV}:put env none v=env:=by simp only[put]
def ahN {d:Nat}{v:PV}:look ((d,v)::env) d=v:=by simp[look]
def afi {d t:Nat}{v:PV}(h:(d==t)=false):look ((d,v)::env) t=look env t:=by simp[look,h]
def ao8 {n:Nat}:St.val ⟨env,m⟩ (.t n)=look env n:=by simp only[St.val]
def ao7 {x:DV}:St.val ⟨env,m⟩ (.c x)= .d x:=by simp only[St.val]
end
section
variable {C:Ctx}{base:Nat}{M:Mem}{K:PV->Mem->Prop}{KP:DV->Mem->Prop}
def amD {x:PV}:ay C base .mov [x] M K KP=K x M:=px
def aeP {sz:Nat}{xs:List DV}:ay C base (.Wn sz) [.d (.slice true xs)] M K KP=(0<sz/\(∀e∈xs,e.fits sz=true)/\K (.tsl M.aF.length 0 0) {M with aF:=M.aF++ [some ⟨sz,xs,0,0⟩]}):=propext ⟨fun h=>h.2,fun h=>⟨rfl,h⟩⟩
def Yx {sz:Nat}:ay C base (.Wn sz) [.d (.slice true [])] M K KP=(0<sz/\K (.tsl M.aF.length 0 0) {M with aF:=M.aF++ [some ⟨sz,[],0,0⟩]}):=by
 rw[aeP];simp
def aeQ {sz k ver skip:Nat}:ay C base (.Wn sz) [.tsl k ver skip] M K KP=K (.tsl k ver skip) M:=px
def aj3 {t:Bool}{x y:PV}:ay C base .pick [.d (.bool t),x,y] M K KP=K (bif t then x else y) M:=px
def ag1 {i:Nat}{zs:List DV}:ay C base (.alloc i zs) [] M K KP=(M.boxes[base+i]?=some none/\K (.ptr (base+i) 0) {M with boxes:=M.boxes.set (base+i) (some (zs.map .d))}):=px
def amx {i:Nat}{x:PV}:ay C base (.box i) [x] M K KP=(x.uz=false/\M.boxes[base+i]?=some none/\K (.ptr (base+i) 0) {M with boxes:=M.boxes.set (base+i) (some x.cells)}):=px
variable{args:List PV}
def ag5 {zs:List DV}{ps:List (Nat×Nat)}:ay C base (.build zs ps) args M K KP=(match mQ (zs.map .d) ps args with|some cs=>K (Bo cs) M|none=>False):=px
def aj2 {agg:Bool}{n:Nat}{x:PV}:ay C base (.load agg n) [x] M K KP=cO agg n x M fun v=>K v M:=px
def ag8 {n:Nat}{x v:PV}:ay C base (.store n) [x,v] M K KP=jP n x v M fun M'=>K .dead M':=px
def abh {b o:Nat}:ay C base .bH [.ptr b o] M K KP=K (.ptr b o) M:=px
def abg {cs:List DV}:ay C base .bH [.d (.aV cs)] M K KP=K (.d (.aV cs)) M:=px
def amw {op:BinOp}{x y:PV}:ay C base (.bin op) [x,y] M K KP=NZ op x y fun v=>K (.d v) M:=px
def ac8 {neq t:Bool}{ks:List Nat}{a b:List DV}(h:fA ks a b=some t):ay C base (.AL neq ks) [.d (.agg a), .d (.agg b)] M K KP=K (.d (.bool (t !=neq))) M:=by simp only[ay,h]
def ag6 {neq ex:Bool}{xs:List DV}:ay C base (.isNil neq) [.d (.slice ex xs), .d (.slice true [])] M K KP=((xs≠[]->K (.d (.bool neq)) M)/\(xs=[]->∀b,K (.d (.bool b)) M)):=px
def an6 {op:UnOp}{x:PV}:ay C base (.un op) [x] M K KP=aav op x fun v=>K (.d v) M:=px
def ajV {k k':IntKind}{n:Int}:ay C base (.conv k) [.d (.int k' n)] M K KP=K (.d (.int k (k.wrap n))) M:=px
def amC {fn:Fn}{nf:Nat}{args:List PV}:ay C base (.mkF fn nf) args M K KP=(match ji args with|some ds=>K (.d (.func fn (ds.take nf) (ds.drop nf))) M|none=>K (.func fn (args.take nf) (args.drop nf)) M):=px
def amA {off:Nat}{x:PV}:ay C base (.fld off) [x] M K KP=mJ off x M fun v=>K v M:=px
def ajX {agg:Bool}{off n:Nat}{x:PV}:ay C base (.QY agg off n) [x] M K KP=(x.isAgg=true/\off+n<=x.cells.length/\K (ld agg n off x.cells) M):=px
def ajY {sz:Nat}{x i:PV}:ay C base (.aS sz) [x,i] M K KP=uX sz x i M fun v=>K v M:=px
def ajZ {s:ByteArray}{k:IntKind}{n:Int}:ay C base .PZ [.d (.str s), .d (.int k n)] M K KP=(0<=n/\n.toNat<s.size/\K (.d (.int .u8 (s.data.getD n.toNat 0).toNat)) M):=px
def aj0 {agg:Bool}{sz len:Nat}{x:PV}{k:IntKind}{n:Int}:ay C base (.Ur agg sz len) [x, .d (.int k n)] M K KP=(x.isAgg=true/\0<=n/\n<len/\n.toNat*sz+sz<=x.cells.length/\K (ld agg sz (n.toNat*sz) x.cells) M):=px
def ajU {f:FuncId}{args:List PV}:ay C base (.call f) args M K KP=SC C f args M K KP:=px
def aeS {f:FuncId}:ay C base (.jE f) args M K KP=LK C f args M K:=px
def amv {sz:Nat}{st1:Bool}{s x:PV}:ay C base (.app sz st1) [s,x] M K KP=lT sz st1 s x M K:=px
def amB {x:PV}:ay C base .len [x] M K KP=sH x M fun n=>K (.d (.int .i64 n)) M:=px
def aj1 {s:ByteArray}:ay C base .xP [.d (.str s)] M K KP=K (.d (.int .i64 s.size)) M:=px
def U3 {mx:Bool}{k k':IntKind}{a b:Int}:ay C base (.Dh mx) [.d (.int k a), .d (.int k' b)] M K KP=K (.d (.int k (bif mx then(if b>a then b else a)else(if b<a then b else a)))) M:=px
def YA {neq:Bool}{b o:Nat}:ay C base (.xO neq) [.ptr b o, .d .nilPtr] M K KP=K (.d (.bool neq)) M:=px
def Yy {neq:Bool}{cs:List DV}:ay C base (.xO neq) [.d (.aV cs), .d .nilPtr] M K KP=K (.d (.bool neq)) M:=px
def Yz {neq:Bool}:ay C base (.xO neq) [.d .nilPtr, .d .nilPtr] M K KP=K (.d (.bool !neq)) M:=px
def abd {sz len b o:Nat}{k:IntKind}{n:Int}:ay C base (.Hy sz len) [.ptr b o, .d (.int k n)] M K KP=(0<=n/\n<len/\K (.ptr b (o+n.toNat*sz)) M):=px
def abb {sz len:Nat}{cs:List DV}{k:IntKind}{n:Int}:ay C base (.Hy sz len) [.d (.aV cs), .d (.int k n)] M K KP=(0<=n/\n<len/\n.toNat*sz<=cs.length/\K (.d (.aV (cs.drop (n.toNat*sz)))) M):=px
def WL {agg:Bool}{sz len:Nat}{cs:List DV}:ay C base (.Uy agg sz len) [.d (.aV cs)] M K KP=(cs.length=len*sz/\(agg=false->sz=1/\∀c∈cs,c.one=true)/\K (.d (.slice true (vZ agg sz len cs))) M):=px
def ajH {op:BinOp}{k:IntKind}{a b:Int}{K:DV->Prop}:NZ op (.d (.int k a)) (.d (.int k b)) K=nK op k a b K:=propext ⟨fun h=>h.2,fun h=>⟨rfl,h⟩⟩
def akp {k:IntKind}{a b:Int}{K:DV->Prop}:nK .add k a b K=K (.int k (k.wrap (a+b))):=px
def akz {k:IntKind}{a b:Int}{K:DV->Prop}:nK .sub k a b K=K (.int k (k.wrap (a - b))):=px
def akv {k:IntKind}{a b:Int}{K:DV->Prop}:nK .mul k a b K=K (.int k (k.wrap (a*b))):=px
def akx {k:IntKind}{a b:Int}{K:DV->Prop}:nK .quo k a b K=(b≠0/\K (.int k (k.wrap (a.tdiv b)))):=px
def aky {k:IntKind}{a b:Int}{K:DV->Prop}:nK .rem k a b K=(b≠0/\K (.int k (a.tmod b))):=px
def akq {k:IntKind}{a b:Int}{K:DV->Prop}:nK .eql k a b K=K (.bool (a==b)):=px
def akw {k:IntKind}{a b:Int}{K:DV->Prop}:nK .neq k a b K=K (.bool (a !=b)):=px
def aku {k:IntKind}{a b:Int}{K:DV->Prop}:nK .lss k a b K=K (.bool (decide (a<b))):=px
def akt {k:IntKind}{a b:Int}{K:DV->Prop}:nK .leq k a b K=K (.bool (decide (a<=b))):=px
def aks {k:IntKind}{a b:Int}{K:DV->Prop}:nK .gtr k a b K=K (.bool (decide (a>b))):=px
def akr {k:IntKind}{a b:Int}{K:DV->Prop}:nK .geq k a b K=K (.bool (decide (a>=b))):=px
def anU {k:IntKind}{a:Int}{K:DV->Prop}:aav .neg (.d (.int k a)) K=K (.int k (k.wrap (0 - a))):=px
def anV {a:Bool}{K:DV->Prop}:aav .not (.d (.bool a)) K=K (.bool !a):=px
def anv {agg:Bool}{n:Nat}{cs:List DV}{K:PV->Prop}:cO agg n (.d (.aV cs)) M K=(n<=cs.length/\K (ldD agg n 0 cs)):=px
def an9 {off:Nat}{cs:List DV}{K:PV->Prop}:mJ off (.d (.aV cs)) M K=(off<=cs.length/\K (.d (.aV (cs.drop off)))):=px
def aoa {off b o:Nat}{K:PV->Prop}:mJ off (.ptr b o) M K=K (.ptr b (o+off)):=px
def anq {sz:Nat}{ex:Bool}{xs:List DV}{k:IntKind}{n:Int}{K:PV->Prop}:uX sz (.d (.slice ex xs)) (.d (.int k n)) M K=(0<=n/\n.toNat<xs.length/\(xs.getD n.toNat default).cells.length=sz/\K (.d (.aV (xs.getD n.toNat default).cells))):=px
def aoQ {ex:Bool}{xs:List DV}{K:Int->Prop}:sH (.d (.slice ex xs)) M K=K xs.length:=px
def ahI {n off:Nat}{cs:List PV}:ld false n off cs=cs.getD off .dead:=rfl
def akE {n off:Nat}{cs:List PV}:ld true n off cs=Bo ((cs.drop off).take n):=rfl
def afd {n off:Nat}{cs:List DV}:ldD false n off cs= .d (cs.getD off default):=rfl
def ahH {n off:Nat}{cs:List DV}:ldD true n off cs= .d (.agg ((cs.drop off).take n)):=rfl
def aaW {cs:List DV}:PV.cells (.d (.agg cs))=cs.map .d:=rfl
def aaX {k:IntKind}{n:Int}:PV.cells (.d (.int k n))=[.d (.int k n)]:=rfl
def Yh {b:Bool}:PV.cells (.d (.bool b))=[.d (.bool b)]:=rfl
def Wx {ex:Bool}{xs:List DV}:PV.cells (.d (.slice ex xs))=[.d (.slice ex xs)]:=rfl
def aaY {s:ByteArray}:PV.cells (.d (.str s))=[.d (.str s)]:=rfl
def IY {cs:List DV}:DV.cells (.agg cs)=cs:=rfl
def jH {k:IntKind}{n:Int}:DV.cells (.int k n)=[.int k n]:=rfl
def ahy {x:DV}:PV.uz (.d x)=false:=rfl
def ahT:cu=⟨[],[],[]⟩:=rfl
def Xe (c:Option (Option (List PV)))(agg:Bool)(n off:Nat)(K:PV->Prop):Prop:=match c with|some (some cs)=>off+n<=cs.length/\K (ld agg n off cs)| _=>False
def gV (c:Option (Option (List PV)))(b n off:Nat)(v:PV)(M:Mem)(K:Mem->Prop):Prop:=match c with
 |some (some cs)=>b∉M.fz/\v.cells.length=n/\v.cells.all PV.one=true/\off+n<=cs.length/\K ⟨M.boxes.set b (some (splice cs off v.cells)),M.fz,M.aF⟩
 | _=>False
def lenRow (c:Option (Option Arr))(ver skip:Nat)(K:Int->Prop):Prop:=match c with|some (some A)=>A.ver=ver/\K ((A.elems.length - skip:Nat):Int)| _=>False
def abB (c:Option (Option Arr))(sz k ver skip:Nat)(n:Int)(K:PV->Prop):Prop:=match c with|some (some A)=>A.ver=ver/\A.sz=sz/\0<=n/\skip+n.toNat<A.elems.length/\K (.jU k ver (skip+n.toNat) 0)| _=>False
def loadRow (c:Option (Option Arr))(agg:Bool)(n ver i off:Nat)(K:PV->Prop):Prop:=match c with
 |some (some A)=>A.ver=ver/\off+n<=(A.elems.getD i default).cells.length/\K (ldD agg n off (A.elems.getD i default).cells)| _=>False
def abo (c:Option (Option Arr))(k ver i o:Nat)(K:PV->Prop):Prop:=match c with|some (some A)=>A.ver=ver/\K (.jU k ver i o)| _=>False
def appRow (c:Option (Option Arr))(sz:Nat)(st1:Bool)(k ver skip:Nat)(ys:List DV)(M:Mem)(K:PV->Mem->Prop):Prop:=match c with
 |some (some A)=>A.ver=ver/\A.sz=sz/\A.st≠2/\A.elems.length+ys.length<=1073741824/\K (.tsl k (ver+1) 0) ⟨M.boxes,M.fz,M.aF.set k (some ⟨sz,A.elems.drop skip++ys,ver+1,bif st1 then 1 else A.st⟩)⟩
 | _=>False
variable {bs:List (Option (List PV))}{fz:List Nat}{ass:List (Option Arr)}
def akH {agg:Bool}{n b off:Nat}{K:PV->Prop}:cO agg n (.ptr b off) ⟨bs,fz,ass⟩ K=Xe bs[b]? agg n off K:=by
 simp only[cO,Xe,Mem.box]
 rcases bs[b]? with _| _|cs<;>simp
def afe {agg:Bool}{n off:Nat}{cs:List PV}{K:PV->Prop}:Xe (some (some cs)) agg n off K=(off+n<=cs.length/\K (ld agg n off cs)):=px
def ai7 {n b off:Nat}{v:PV}{K:Mem->Prop}:jP n (.ptr b off) v ⟨bs,fz,ass⟩ K=gV bs[b]? b n off v ⟨bs,fz,ass⟩ K:=by
 simp only[jP,gV,Mem.box]
 rcases bs[b]? with _| _|cs<;>simp
def acN {b n off:Nat}{v:PV}{cs:List PV}{K:Mem->Prop}:gV (some (some cs)) b n off v ⟨bs,fz,ass⟩ K=
  (b∉fz/\v.cells.length=n/\v.cells.all PV.one=true/\off+n<=cs.length/\K ⟨bs.set b (some (splice cs off v.cells)),fz,ass⟩):=px
def ZW {k ver:Nat}:(⟨bs,fz,ass⟩:Mem).row k ver=match ass[k]? with|some (some A)=>if A.ver=ver then some A else none| _=>none:=rfl
def ant {k ver skip:Nat}{K:Int->Prop}:sH (.tsl k ver skip) ⟨bs,fz,ass⟩ K=lenRow ass[k]? ver skip K:=by
 simp only[sH,lenRow,ZW]
 rcases ass[k]? with _| _|A
 ·simp
 ·simp
 ·by_cases h:A.ver=ver<;>simp[h]
def ahJ {ver skip:Nat}{sz v st:Nat}{xs:List DV}{K:Int->Prop}:lenRow (some (some ⟨sz,xs,v,st⟩)) ver skip K=(v=ver/\K ((xs.length - skip:Nat):Int)):=px
def ako {sz k ver skip:Nat}{a:IntKind}{n:Int}{K:PV->Prop}:uX sz (.tsl k ver skip) (.d (.int a n)) ⟨bs,fz,ass⟩ K=abB ass[k]? sz k ver skip n K:=by
 simp only[uX,abB,ZW]
 rcases ass[k]? with _| _|A
 ·simp
 ·simp
 ·by_cases h:A.ver=ver<;>simp[h]
def ahw {sz k ver skip:Nat}{n:Int}{a v st:Nat}{xs:List DV}{K:PV->Prop}:abB (some (some ⟨a,xs,v,st⟩)) sz k ver skip n K=(v=ver/\a=sz/\0<=n/\skip+n.toNat<xs.length/\K (.jU k ver (skip+n.toNat) 0)):=px
def akF {agg:Bool}{n k ver i off:Nat}{K:PV->Prop}:cO agg n (.jU k ver i off) ⟨bs,fz,ass⟩ K=loadRow ass[k]? agg n ver i off K:=by
 simp only[cO,loadRow,ZW]
 rcases ass[k]? with _| _|A
 ·simp
 ·simp
 ·by_cases h:A.ver=ver<;>simp[h]
def aff {agg:Bool}{n ver i off sz v st:Nat}{xs:List DV}{K:PV->Prop}:loadRow (some (some ⟨sz,xs,v,st⟩)) agg n ver i off K=(v=ver/\off+n<=(xs.getD i default).cells.length/\K (ldD agg n off (xs.getD i default).cells)):=px
def amM {off k ver i o:Nat}{K:PV->Prop}:mJ off (.jU k ver i o) ⟨bs,fz,ass⟩ K=abo ass[k]? k ver i (o+off) K:=by
 simp only[mJ,abo,ZW]
 rcases ass[k]? with _| _|A
 ·simp
 ·simp
 ·by_cases h:A.ver=ver<;>simp[h]
def ahd {k ver i o sz v st:Nat}{xs:List DV}{K:PV->Prop}:abo (some (some ⟨sz,xs,v,st⟩)) k ver i o K=(v=ver/\K (.jU k ver i o)):=px
def agr {sz:Nat}{st1 ex:Bool}{xs ys:List DV}{K:PV->Mem->Prop}:lT sz st1 (.d (.slice true xs)) (.d (.slice ex ys)) ⟨bs,fz,ass⟩ K=
  (0<sz/\(∀y∈ys,y.fits sz=true)/\(st1=true->ys≠[])/\(∀y∈xs,y.fits sz=true)/\xs.length+ys.length<=1073741824/\K (.tsl ass.length 0 0) ⟨bs,fz,ass++ [some ⟨sz,xs++ys,0,bif st1 then 1 else 0⟩]⟩):=by
 simp only[lT,yQ,true_and]
def ame {sz k ver skip:Nat}{st1 ex:Bool}{ys:List DV}{K:PV->Mem->Prop}:lT sz st1 (.tsl k ver skip) (.d (.slice ex ys)) ⟨bs,fz,ass⟩ K=
  (0<sz/\(∀y∈ys,y.fits sz=true)/\(st1=true->ys≠[])/\appRow ass[k]? sz st1 k ver skip ys ⟨bs,fz,ass⟩ K):=by
 simp only[lT,yQ,appRow,ZW]
 rcases ass[k]? with _| _|A
 ·simp
 ·simp
 ·by_cases h:A.ver=ver<;>simp[h]
def agq {sz k ver skip:Nat}{st1:Bool}{ys:List DV}{a v st:Nat}{xs:List DV}{K:PV->Mem->Prop}:appRow (some (some ⟨a,xs,v,st⟩)) sz st1 k ver skip ys ⟨bs,fz,ass⟩ K=
  (v=ver/\a=sz/\st≠2/\xs.length+ys.length<=1073741824/\K (.tsl k (ver+1) 0) ⟨bs,fz,ass.set k (some ⟨sz,xs.drop skip++ys,ver+1,bif st1 then 1 else st⟩)⟩):=px
def Un (v:PV)(t:Nat)(ts:List Nat)(K:St->Prop)(env:List (Nat×PV))(M:Mem):Prop:=match datum M v with|some d=>wX ts K ⟨(t, .d d)::env,M.frz [v]⟩|none=>False
def aoc (v:PV)(t:Nat)(ts:List Nat)(K:St->Prop)(env:List (Nat×PV))(M:Mem):Prop:=Un v t ts K env M
def amP (c:Option (Option (List PV)))(b off t:Nat)(ts:List Nat)(K:St->Prop)(env:List (Nat×PV))(M:Mem):Prop:=match c with
 |some (some cs)=>match ji cs with|some ds=>wX ts K ⟨(t, .d (.aV (ds.drop off)))::env,⟨M.boxes,b::M.fz,M.aF⟩⟩|none=>aoc (.ptr b off) t ts K env M
 | _=>False
def akd {K:St->Prop}{t:Nat}{ts:List Nat}{env:List (Nat×PV)}{m:Mem}:wX (t::ts) K ⟨env,m⟩=Un (look env t) t ts K env m:=rfl
def UW {M:Mem}:∀{ds:List DV},bY M (ds.map .d)=some ds
 | []=>rfl
 |d::ds=>by simp only[U,bY,dY,UW]
def amR {K:St->Prop}{b off t:Nat}{ts:List Nat}{env:List (Nat×PV)}:Un (.ptr b off) t ts K env ⟨bs,fz,ass⟩=amP bs[b]? b off t ts K env ⟨bs,fz,ass⟩:=by
 unfold amP;cases a:bs[b]? with
 |none=>simp[Un,datum,Mem.box,a]
 |some o=>
  cases o with
  |none=>simp[Un,datum,Mem.box,a]
  |some cs=>
   simp only;cases hd:ji cs with
   |none=>rfl
   |some ds=>
    have:=Gw hd;subst this;have h2:(ds.map PV.d).flatMap uU=[]:=by
     clear a hd;induction ds with
     |nil=>rfl
     |cons d ds e=>simp[uU]
    have c:(ds.map PV.d).flatMap uV=[]:=by
     clear a hd h2;induction ds with
     |nil=>rfl
     |cons d ds e=>simp[uV]
    simp only[c,Un,datum,Mem.box,a,UW,bN,Mem.frz,List.flatMap_cons,List.flatMap_nil,l7,lZ,h2,bE,a7,bL,I9,bR]
def amQ {K:St->Prop}{b off t:Nat}{ts:List Nat}{env:List (Nat×PV)}{cs:List PV}:amP (some (some cs)) b off t ts K env ⟨bs,fz,ass⟩=(match ji cs with|some ds=>wX ts K ⟨(t, .d (.aV (ds.drop off)))::env,⟨bs,b::fz,ass⟩⟩|none=>aoc (.ptr b off) t ts K env ⟨bs,fz,ass⟩):=rfl
def agk:ji []=some []:=rfl
def ad8 {x:DV}{l:List PV}:ji (.d x::l)=(ji l).map (x::·):=rfl
def eG {base:Nat}{KP:DV->Mem->Prop}{f:FuncId}{args:List PV}{ds ds':List DV}{x:DV}(h1:ji args=some ds)(h2:ds.map DV.strip=ds')(b:Pure C f ds' (.d x) [])(a:K (.d x) M):ay C base (.aj f) args M K KP:=⟨ds,h1,x,h2▸b,a⟩
def aoY {x:DV}:PV.one (.d x)=x.one:=rfl
def akR {k:IntKind}{n:Int}:DV.one (.int k n)=true:=rfl
def ahX {b:Bool}:DV.one (.bool b)=true:=rfl
def akT {s:ByteArray}:DV.one (.str s)=true:=rfl
def afl {ex:Bool}{xs:List DV}:DV.one (.slice ex xs)=true:=rfl
def akS {r:Option (List (DV×DV))}:DV.one (.map r)=true:=rfl
end
def ak {C:Ctx}{M:Mem}{K:PV->Mem->Prop}{base:Nat}{KP:DV->Mem->Prop}{f:FuncId}{args:List PV}{ds ds':List DV}{x:DV}(b:Pure C f ds' (.d x) [])(a:K (.d x) M)(h1:ji args=some ds:=by rfl)(h2:ds.map DV.strip=ds':=by rfl):ay C base (.aj f) args M K KP:=eG h1 h2 b a
inductive Ty where
 |int (k:IntKind)
 |bool
 |str
 |slice (e:Ty)
 |struct (fs:List Ty)
mutual
def Ty.size:Ty->Nat
 | .struct fs=>EG fs
 | _=>1
def EG:List Ty->Nat
 | []=>0
 |t::a=>t.size+EG a
end
def Ty.mX:Ty->Bool
 | .int .i64=>true
 | .struct (.int .i64::_)=>true
 | .struct (.bool:: .int .i64::_)=>true
 | _=>false
def Ty.isStruct:Ty->Bool
 | .struct _=>true
 | _=>false
def Shp (e:Ty)(x:DV):Prop:=(e.isStruct=true->∃cs,x= .agg cs)/\(e.isStruct=false->x.cells=[x])
inductive Has:Ty->List DV->Prop
 |int {k:IntKind} {n:Int} (h:(Lit.int k n).wf=true):Has (.int k) [.int k n]
 |bool {b:Bool}:Has .bool [.bool b]
 |str {s:ByteArray} (h:s.size<=maxLen):Has .str [.str s]
 |slice {e:Ty} {xs:List DV} (h:∀x∈xs,Has e x.cells) (h':∀x∈xs,Shp e x):Has (.slice e) [.slice false xs]
 |nil:Has (.struct []) []
 |cons {t:Ty} {ts:List Ty} {ds es:List DV} (h:Has t ds) (h':Has (.struct ts) es):Has (.struct (t::ts)) (ds++es)
mutual
def AX (P:Program):Ty->TypeId->Bool
 | .int k,t=>(match P.underlying t with|some (.int b)=>decide (b=k)| _=>false)&&P.cellsOf t==1
 | .bool,t=>(match P.underlying t with|some .bool=>true| _=>false)&&P.cellsOf t==1
 | .str,t=>(match P.underlying t with|some .string=>true| _=>false)&&P.cellsOf t==1
 | .slice e,t=>(match P.underlying t with|some (.slice u)=>AX P e u&&e.mX| _=>false)&&P.cellsOf t==1
 | .struct fs,t=>(match P.underlying t with|some (.struct a)=>Vt P fs a.toList 0| _=>false)&&P.cellsOf t==EG fs
def Vt (P:Program):List Ty->List Field->Nat->Bool
 | [],[],_=>true
 |t::c,g::b,a=>AX P t g.type&&decide (g.offset=a)&&Vt P c b (a+t.size)
 | _,_,_=>false
end
def Vs {P:Program}:∀{T:Ty} {t:TypeId},AX P T t=true->P.cellsOf t=T.size
 | .int k,t,h=>by simp[AX]at h;simp[Ty.size,h.2]
 | .bool,t,h=>by simp[AX]at h;simp[Ty.size,h.2]
 | .str,t,h=>by simp[AX]at h;simp[Ty.size,h.2]
 | .slice e,t,h=>by simp[AX]at h;simp[Ty.size,h.2]
 | .struct fs,t,h=>by simp[AX]at h;simp[Ty.size,h.2]
def WV:∀{e:Ty},e.mX=true->0<e.size
 | .int k,_=>by simp[Ty.size]
 | .struct (t::a),h=>by
  cases t with
  |int k=>simp only[Ty.size,EG];omega
  |bool=>simp only[Ty.size,EG];omega
  | _=>simp[Ty.mX]at h
 | .bool,_=>by simp[Ty.size]
 | .str,_=>by simp[Ty.size]
 | .slice _,_=>by simp[Ty.size]
 | .struct [],h=>by simp[Ty.mX]at h
def YI:∀{T:Ty} {ds:List DV},Has T ds->ds.length=T.size:=by
 intro T ds h
 induction h with
 |cons h b c a=>simp only[bt,Ty.size,EG]at*;omega
 | _=>simp[Ty.size,EG]
def JR {e:Ty}{ds:List DV}(a:e.mX=true)(h:Has e ds):∃k n,k<e.size/\ds[k]?=some (.int .i64 n)/\(e.isStruct=false->k=0):=by
 cases h with
 |int h=>rename_i k n;cases k<;>simp[Ty.mX]at a;exact⟨0,n,by simp[Ty.size],rfl,fun _=>rfl⟩
 |cons h b=>
  rename_i t c ds es
  cases h with
  |int h=>rename_i k n;cases k<;>simp[Ty.mX]at a;exact⟨0,n,by simp[Ty.size,EG];omega,rfl,fun _=>rfl⟩
  |bool=>
   cases b with
   |nil=>simp[Ty.mX]at a
   |cons h b=>
    cases h with
    | @int k n h=>cases k<;>simp[Ty.mX]at a;exact⟨1,n,by simp[Ty.size,EG];omega,rfl,fun h=>by simp[Ty.isStruct]at h⟩
    | _=>simp[Ty.mX]at a
  | _=>simp[Ty.mX]at a
 | _=>simp[Ty.mX]at a
section
variable {H:Type}{enc:TypeId×Value->H}{P:Program}{w:World}{base:Nat}{spare:Nat->Bool}{held:Bool}{O:Nat->Prop}
def cells_at {a:Addr}{n:Nat}{cs:List Value}(h:w.cells? base a n=some cs)(p:0<n):∃c T fz,a.spot=none/\w.heap[a.block]?=some (.cells c T fz)/\(c.toList.drop a.off).take n=cs:=by
 obtain⟨_,r,k⟩:=World.cells?_some h;have d:=k 0 p;have j:cs[0]?=some cs[0]:=an (by omega);rw[j]at d;obtain⟨e,off,b⟩:=a;have m:b=none:=by
  cases b with
  |none=>rfl
  |some q=>simp only[World.cell?,Addr.add]at d;split at d<;>simp at d
 subst m;simp only[Addr.add_lit]at k d;cases g:w.heap[e]? with
 |none=>simp[World.cell?,g]at d
 |some o=>
  cases o with
  |cells c T fz=>
   refine⟨c,T,fz,rfl,rfl,?_⟩;have l:∀i,i<n->c[off+i]?=cs[i]?:=fun i f=>by
    have:=k i f
    rwa [cell_of_row w e (off+i) c T fz g]at this
   apply List.ext_getElem?;intro i
   by_cases f:i<n
   ·rw[aM,if_pos f,br,am]
    exact l i f
   ·rw[aM,if_neg f,bd (by omega)]
  | _=>simp[World.cell?,g]at d
def pieces {c:Array Value}{off sz:Nat}{e:Ty}(a:e.size=sz):∀(k:Nat),(∀i,i<k->∃x:DV,Has e x.cells/\Shp e x/\bn w O ((c.toList.drop (off+i*sz)).take sz) x.cells)->
  ∃xs:List DV,xs.length=k/\(∀x∈xs,Has e x.cells)/\(∀x∈xs,Shp e x)/\bn w O ((c.toList.drop off).take (k*sz)) (flat xs)
 |0,_=>⟨[],rfl,fun x b=>by simp at b,fun x b=>by simp at b,by simpa[flat]using .nil⟩
 |k+1,h=>by
  obtain⟨xs,h1,h2,l,m⟩:=pieces a k fun i n=>h i (by omega)
  obtain⟨x,f,g,j⟩:=h k (by omega);refine⟨xs++ [x],by simp[h1],?_,?_,?_⟩
  ·intro y hy
   rcases aE.1 hy with hy|hy
   ·exact h2 y hy
   ·simp at hy;subst hy;exact f
  ·intro y hy
   rcases aE.1 hy with hy|hy
   ·exact l y hy
   ·simp at hy;subst hy;exact g
  ·have d:(c.toList.drop off).take ((k+1)*sz)=(c.toList.drop off).take (k*sz)++(c.toList.drop (off+k*sz)).take sz:=by
    rw[bA,Nat.one_mul,b2,bO]
   rw[d,ES];refine m.append ?_
   simpa[flat]using j
mutual
def Xq (R:∀b,O b->∀c T fz,w.heap[b]?=some (.cells c T fz)->∀(i:Nat) (n:Int),c[i]?≠some (.int .i64 n)):∀(T:Ty) (g:Nat) (t:TypeId) (cs:List Value) (x:DataW H×List MemPlace),AX P T t=true->
  DataW.trod enc P w base spare held g t cs=some x->∃ds,Has T ds/\bn w O cs ds
 | .int k,g,t,cs,x,f,h=>by
  simp only[AX,S]at f;obtain⟨f,_⟩:=f
  split at f
  ·rename_i k' l
   simp only[decide_eq_true_eq]at f;subst f;cases g with
   |zero=>simp[DataW.trod]at h
   |succ g=>
    unfold DataW.trod at h;rw[l]at h
    split at h<;>simp_all
    obtain⟨⟨rfl,hw⟩,_⟩:=h;exact⟨_, .int hw, .cons (.int _ _) .nil⟩
  ·cases f
 | .bool,g,t,cs,x,f,h=>by
  simp only[AX,S]at f;obtain⟨f,_⟩:=f
  split at f
  ·rename_i l
   cases g with
   |zero=>simp[DataW.trod]at h
   |succ g=>
    unfold DataW.trod at h;rw[l]at h
    split at h<;>simp_all
    exact⟨_, .bool, .cons (.bool _) .nil⟩
  ·cases f
 | .str,g,t,cs,x,f,h=>by
  simp only[AX,S]at f;obtain⟨f,_⟩:=f
  split at f
  ·rename_i l
   cases g with
   |zero=>simp[DataW.trod]at h
   |succ g=>
    unfold DataW.trod at h;rw[l]at h
    split at h<;>simp_all
    exact⟨_, .str h.1, .cons (.str _) .nil⟩
  ·cases f
 | .slice e,g,t,cs,x,f,h=>by
  simp only[AX,S]at f;obtain⟨f,_⟩:=f
  split at f
  ·rename_i u l
   simp only[S]at f;obtain⟨hu,hint⟩:=f;have Z:=Vs hu;have q:=WV hint
   rcases Go.Deep.open_slice l h with⟨rfl,_⟩|⟨a,len,cap,m,n,D,Pl,rfl,_,C,_,hm,_,E⟩
   ·exact⟨_, .slice (xs:=[]) (fun x o=>by simp at o) (fun x o=>by simp at o), .cons (.empty (fun hh=>by cases hh)) .nil⟩
   ·have ax:len<=m:=by rw[hm];split<;>omega
    rw[Z]at E;have J:∀i,i<len->∃j,w.cells? base (a.add (i*e.size)) e.size=some j/\∃ds,Has e ds/\bn w O j ds:=by
     intro i hi;obtain⟨j,V,W⟩:=E i (by omega);exact⟨j,V,Xq R e n _ j _ hu W⟩
    by_cases h0:len=0
    ·subst h0
     exact⟨_, .slice (xs:=[]) (fun x o=>by simp at o) (fun x o=>by simp at o), .cons (.empty (fun hh=>by cases hh)) .nil⟩
    ·obtain⟨ap,B,aq,X,Y⟩:=J 0 (by omega)
     rw[Nat.zero_mul]at B;obtain⟨c,T,fz,K,N,L⟩:=cells_at B q;obtain⟨Q,p,ao⟩:=a;simp only[Addr.add,if_true]at K N L;subst K;have ae:=pieces (w:=w) (O:=O) (c:=c) (off:=p) (sz:=e.size) (e:=e) rfl len (fun i hi=>by
      obtain⟨j,g1,ds,M,g3⟩:=J i hi;obtain⟨c',T',aw,_,r,ano⟩:=cells_at g1 q;simp only[Addr.add_lit]at r ano;rw[N]at r;cases r;cases A:e.isStruct with
      |true=>
       refine⟨.agg ds,M,⟨fun _=>⟨ds,rfl⟩,fun hh=>by rw[A]at hh;cases hh⟩,?_⟩;rw[ano];exact g3
      |false=>
       have I:e.size=1:=by cases e<;>simp_all[Ty.size,Ty.isStruct]
       have hl:=YI M;rw[I]at hl;obtain⟨d,rfl⟩:=List.length_eq_one_iff.1 hl;have y:d.cells=[d]:=by
        obtain⟨k,n,_,G,l⟩:=JR hint M;rw[l A]at G;simp at G;subst G;rfl
       refine⟨d,(by rw[y];exact M),⟨fun hh=>(by rw[A]at hh;cases hh),fun _=>y⟩,?_⟩;rw[ano,y];exact g3)
     obtain⟨xs,x1,x2,x3,x4⟩:=ae;refine⟨_, .slice x2 x3, .cons (.slice (sz:=e.size) N ?_ x1 (fun x o=>YI (x2 x o)) C (fun hh=>by cases hh) x4) .nil⟩;intro U;obtain⟨k,n,l,G,_⟩:=JR hint X;obtain⟨v,hv,ac⟩:=Y.get' k _ G;have ab:=ac.iI;subst ab;have s:c[p+k]?=some (.int .i64 n):=by
      have h5:((c.toList.drop p).take e.size)[k]?=some (.int .i64 n):=by rw[L];exact hv
      rw[aM,if_pos l,br,am]at h5;exact h5
     exact R Q U c T fz N (p+k) n s
  ·cases f
 | .struct fs,g,t,cs,x,f,h=>by
  simp only[AX,S,beq_iff_eq]at f;obtain⟨f,z⟩:=f
  split at f
  ·rename_i gs l
   cases g with
   |zero=>simp[DataW.trod]at h
   |succ g=>
    unfold DataW.trod at h;rw[l]at h;simp only at h
    split at h
    ·rename_i F
     rw[ai]at h;obtain⟨ys,an,_⟩:=h;obtain⟨ds,h1,h2⟩:=ZT R fs g gs.toList 0 cs ys f an;refine⟨ds,h1,?_⟩;rw[List.drop_zero,List.take_of_length_le (by rw[F,z];exact av _)]at h2;exact h2
    ·cases h
  ·cases f
def ZT (k:∀b,O b->∀c T fz,w.heap[b]?=some (.cells c T fz)->∀(i:Nat) (n:Int),c[i]?≠some (.int .i64 n)):∀(fs:List Ty) (a:Nat) (e:List Field) (off:Nat) (cs:List Value) (ys:List (DataW H×List MemPlace)),Vt P fs e off=true->
  (e.mapM fun f=>DataW.trod enc P w base spare held a f.type ((cs.drop f.offset).take (P.cellsOf f.type)))=some ys->∃ds,Has (.struct fs) ds/\bn w O ((cs.drop off).take (EG fs)) ds
 | [],a,[],off,cs,ys,_,_=>⟨[], .nil,by simpa[EG]using .nil⟩
 |T::fs,a,g::e,off,cs,ys,d,h=>by
  simp only[Vt,S,decide_eq_true_eq]at d;obtain⟨⟨h1,h2⟩,m⟩:=d;simp only[bk,Option.bind_eq_bind,Option.bind_eq_some_iff,Option.pure_def,Option.some.injEq]at h;obtain⟨y,j,zs,l,_⟩:=h;rw[h2,Vs h1]at j;obtain⟨ds,o,p⟩:=Xq k T a g.type _ y h1 j;obtain⟨es,r1,r2⟩:=ZT k fs a e (off+T.size) cs zs m l;refine⟨ds++es, .cons o r1,?_⟩;simp only[EG];rw[b2,bO];exact p.append r2
 | [],a,_::_,_,_,_,d,_=>by simp[Vt]at d
 | _::_,a,[],_,_,_,d,_=>by simp[Vt]at d
end
end
open Go.ChangeShapes Go.WideShapes Go.RowKit
def ad3 (T:Ty)(d:DV):Prop:=Has T d.cells/\Shp T d
def Ce:List Ty->List DV->Prop
 | [],[]=>True
 |T::a,d::ds=>ad3 T d/\Ce a ds
 | _,_=>False
def Dq (P:Program):List Ty->List TypeId->Bool
 | [],[]=>true
 |T::a,t::b=>AX P T t&&Dq P a b
 | _,_=>false
def akj {T:Ty}{ds:List DV}(h:Has T ds)(hs:T.isStruct=false):∃x,ds=[x]/\x.cells=[x]:=by
 cases h with
 |nil=>cases hs
 |cons=>cases hs
 | _=>exact⟨_,rfl,rfl⟩
section
variable {H:Type}{enc:TypeId×Value->H}{P:Program}{w:World}{base:Nat}{spare:Nat->Bool}{held:Bool}{O:Nat->Prop}
def aiq (s:∀b,O b->∀c T fz,w.heap[b]?=some (.cells c T fz)->∀(i:Nat) (n:Int),c[i]?≠some (.int .i64 n)){T:Ty}{t:TypeId}{v:Value}{d:DataW H}{ps:List MemPlace}{r:Reach}{p:Nat}
  (f:AX P T t=true)(g:Value.okWide P w r p t v)(h:DataW.Trod enc P w base spare held t v d ps):∃x,ad3 T x/\bU w O v x:=by
 obtain⟨l,z⟩:=h;obtain⟨ds,h1,h2⟩:=Xq s T l t _ _ f z;have one:T.isStruct=false->(∀cs,v≠ .agg cs)->∃x,ad3 T x/\bU w O v x:=by
  intro m A;obtain⟨x,rfl,o⟩:=akj h1 m;have y:v.cells= #[v]:=by cases v<;>first|rfl|(exact absurd rfl (A _))
  rw[y]at h2;cases h2 with
  |cons q _=>
   exact⟨x,⟨by rw[o];exact h1,⟨fun hh=>(by rw[m]at hh;cases hh),fun _=>o⟩⟩,q⟩
 cases T with
 |int k=>
  simp only[AX,S]at f
  split at f
  ·rename_i C j
   obtain⟨n,rfl⟩:=okWide_int j g;exact one rfl fun cs hh=>by cases hh
  ·cases f.1
 |bool=>
  simp only[AX,S]at f
  split at f
  ·rename_i j
   obtain⟨n,rfl⟩:=okWide_bool j g;exact one rfl fun cs hh=>by cases hh
  ·cases f.1
 |str=>
  simp only[AX,S]at f
  split at f
  ·rename_i j
   obtain⟨n,rfl⟩:=okWide_string j g;exact one rfl fun cs hh=>by cases hh
  ·cases f.1
 |slice e=>
  simp only[AX,S]at f
  split at f
  ·rename_i u j
   obtain⟨a,len,cap,rfl⟩:=okWide_slice j g;exact one rfl fun cs hh=>by cases hh
  ·cases f.1
 |struct fs=>
  simp only[AX,S]at f
  split at f
  ·rename_i B j
   obtain⟨cs,rfl,_⟩:=okWide_struct j g;exact⟨.agg ds,⟨h1,⟨fun _=>⟨ds,rfl⟩,fun hh=>(by cases hh)⟩⟩, .agg h2⟩
  ·cases f.1
def ZR (f:∀b,O b->∀c T fz,w.heap[b]?=some (.cells c T fz)->∀(i:Nat) (n:Int),c[i]?≠some (.int .i64 n)){r:Reach}{k:Nat}:∀{Ts:List Ty} {ts:List TypeId} {vs:List Value} {ds:List (DataW H)} {ps:List MemPlace},
  Dq P Ts ts=true->(∀(j:Nat) t v,ts[j]?=some t->vs[j]?=some v->Value.okWide P w r k t v)->DataW.TrodAll enc P w base spare held ts vs ds ps->∃xs,Ce Ts xs/\bn w O vs xs
 | [],[],[],[],_,_,_,_=>⟨[],trivial, .nil⟩
 |T::Ts,t::ts,v::vs,d::ds,ps,a,g,h=>by
  simp only[Dq,S]at a;obtain⟨p,q,h1,h2,_⟩:=h;obtain⟨x,l,m⟩:=aiq f a.1 (g 0 t v rfl rfl) h1;obtain⟨xs,o,s⟩:=ZR f a.2 (fun j y z u e=>g (j+1) y z (by simpa using u) (by simpa using e)) h2;exact⟨x::xs,⟨l,o⟩, .cons m s⟩
 | [],_::_,_,_,_,a,_,_=>by simp[Dq]at a
 | _::_,[],_,_,_,a,_,_=>by simp[Dq]at a
 | [],[],_::_,_,_,_,_,h=>by cases h
 | [],[],[],_::_,_,_,_,h=>by cases h
 | _::_,_::_,[],_,_,_,_,h=>by cases h
 | _::_,_::_,_::_,[],_,_,_,h=>by cases h
variable{w':World}
def Y2 (h:Later w w'):Below w.heap.size w w':=⟨h.os,h.tape,h.output,h.size,h.keep⟩
variable{args:Array Value}
def afc {C:Ctx}{f:FuncId}{Ts:List Ty}{ts:List TypeId}{ds:List (DataW H)}{ps:List MemPlace}{r:Reach}{m:Nat}
  (q:C.P=P)(p:C.G w)(a:∀b,C.low b->b<w.heap.size/\∀c T fz,w.heap[b]?=some (.cells c T fz)->∀(i:Nat) (n:Int),c[i]?≠some (.int .i64 n))
  (k:Dq P Ts ts=true)(hv:∀(j:Nat) t v,ts[j]?=some t->args.toList[j]?=some v->Value.okWide P w r m t v)(h:DataW.TrodAll enc P w base spare held ts args.toList ds ps)
  (Uo:∀xs,Ce Ts xs->Pure C f xs (.d (.bool true)) []):Calls P f args w fun e w'=>e= .returned (.bool true)/\Below w.heap.size w w':=by
 obtain⟨xs,h1,h2⟩:=ZR (O:=C.low) (fun b g=>(a b g).2) k hv h;have:=Uo xs h1 C.low w args.toList p (fun b g=>g) (fun b g=>(a b g).1) h2;rw[q,Array.toArray_toList]at this;refine Calls.mono this fun e w' s=> ?_
 obtain⟨v,x,rfl,y,o,u⟩:=s;have l:=u.toD.tX;subst l;exact⟨rfl,Y2 o.GR⟩
def IE {w':World}(hl:laidOutB P=true)(hb:Below w.heap.size w w'):∀{ts:List TypeId} {vs:List Value} {ds:List (DataW H)} {ps:List MemPlace},(∀t∈ts,P.readableRec t=true/\t<P.types.size)->
  DataW.TrodAll enc P w 0 (fun _=>true) true ts vs ds ps->(∀x∈ps,x.block<w.heap.size)->DataW.TrodAll enc P w' 0 (fun b=>decide (b<w.heap.size)) true ts vs ds ps
 | [],[],[],_,_,h,_=>h
 |t::ts,v::vs,d::ds,ps,g,h,c=>by
  obtain⟨p,q,h1,h2,rfl⟩:=h;obtain⟨a,b⟩:=g t (by simp);exact⟨p,q,Below.trod hl a b h1 hb (fun x f=>c x (by simp[f])),IE hl hb (fun i e=>g i (by simp[e])) h2 (fun x f=>c x (by simp[f])),rfl⟩
 | [],_::_,_,_,_,h,_=>by cases h
 | [],[],_::_,_,_,h,_=>by cases h
 | _::_,[],_,_,_,h,_=>by cases h
 | _::_,_::_,[],_,_,h,_=>by cases h
def ahF {f:Func}{s:ChangeSpec}{a fresh b:Bool}{ds:List (DataW H)}{d:List MemPlace}{tb:TypeId}(hl:laidOutB P=true)(c:s.vars=[])
  (m:DataW.Whole enc P f.params.toList s.vars a w args.toList ds [] d)(i:f.resultTypes= #[tb])(j:P.underlying tb=some .bool)(k:∀t∈f.params.toList,P.readableRec t=true/\t<P.types.size)
  (e:s.fn H (ds++ [])={results:=[.lit (.bool true)],args:=ds})(hb:Below w.heap.size w w'):s.post enc P f a fresh b false w args (.bool true) w':=by
 have g:=m;obtain⟨p,q,n,l,rfl,_,_⟩:=m;have o:q=[]:=by rw[c]at l;exact l
 subst o;refine⟨ds,[],p++ [],[],p,[],g,?_,?_,?_,hb.frame _,fun h=>by cases h⟩
 ·rw[e,i]
  exact trodAll_mk1 (shut_bool j true)
 ·rw[e]
  exact IE hl hb k n fun x r=>g.lt x (by simp[r])
 ·rw[e,c];rfl
end
def Y6 {n m:Nat}:∀{env:List (Nat×PV)},(env.all fun p=>p.2.upto n m)=true->∀t,(look env t).upto n m=true
 | [],_,t=>by simp[look,PV.upto]
 |(k,v)::l,h,t=>by
  simp only[bq,S]at h;simp only[look];cases a:(k==t)with
  |true=>simpa using h.1
  |false=>simpa using Y6 h.2 t
def Weak.take {nb na n m:Nat}{env:List (Nat×PV)}{bs:List (Option (List PV))}{fz:List Nat}{ass:List (Option Arr)}(h1:nb<=n)(h2:na<=m)(e:(env.all fun p=>p.2.upto n m)=true)
  (d:((bs.take n).all fun c=>(c.getD []).all fun p=>p.upto n m)=true):Weak nb na ⟨env,⟨bs,fz,ass⟩⟩ ⟨env,⟨bs.take n,fz.filter (fun b=>decide (b<n)),ass.take m⟩⟩:=by
 refine .inr ⟨n,m,h1,h2,rfl,fun t=> .inr ⟨rfl,Y6 e t⟩,fun cs a c f=> ?_⟩;simp only[aD]at d;exact d cs a c f
def Weak.same {nb na:Nat}{env:List (Nat×PV)}{bs:List (Option (List PV))}{fz:List Nat}{ass:List (Option Arr)}(h1:nb<=bs.length)(h2:na<=ass.length)(a:(env.all fun p=>p.2.upto bs.length ass.length)=true)
  (d:(bs.all fun c=>(c.getD []).all fun p=>p.upto bs.length ass.length)=true):Weak nb na ⟨env,⟨bs,fz,ass⟩⟩ ⟨env,⟨bs,fz.filter (fun b=>decide (b<bs.length)),ass⟩⟩:=by
 have:=Weak.take (fz:=fz) (ass:=ass) h1 h2 a (by rw[List.take_length];exact d)
 simpa using this
section
variable {C:Ctx}{base:Nat}{M:Mem}{K:PV->Mem->Prop}{KP:DV->Mem->Prop}
def ag7 {sz:Nat}:ay C base (.dV sz [] []) [] M K KP=K (.d (.slice true [])) M:=by
 have:=EX (M:=M) (ds:=[]);simp only[Z]at this;simp only[ay,dL,Z,vJ,this]
def fD {sz:Nat}{z x:DV}:ay C base (.dV sz [z] [0]) [.d x] M K KP=(x.strip.cells.length=sz/\K (.d (.slice true [x.strip])) M):=by
 have:=EX (M:=M) (ds:=[x]);simp only[U,Z]at this;simp only[ay,dL,datum,U,Z,vJ,this,be,Nat.zero_lt_one,and_true]
 by_cases h:x.strip.cells.length=sz
 ·simp[h]
 ·simp[h]
variable{bs:List (Option (List PV))}{fz:List Nat}{ass:List (Option Arr)}{A:Arr}
def akJ {k s:Nat}(h:ass[k]?=some (some A)):mkRow ⟨bs,fz,ass⟩ (k,s)=⟨A.sz,A.elems.drop s,0,A.st⟩:=by simp only[mkRow,h]
def Az {k ver s:Nat}(h:ass[k]?=some (some A))(hv:A.ver=ver)(hs:s<=A.elems.length){A':Arr}(b:A'=⟨A.sz,A.elems.drop s,0,A.st⟩):
  ∃L,zf ⟨bs,fz,ass⟩ L/\ren ⟨bs,fz,ass⟩ L (.tsl k ver s)= .tsl 0 0 0/\L.map (mkRow ⟨bs,fz,ass⟩)=[A']:=by
 refine⟨[(k,s)],⟨fun q a=> ?_,by simp⟩,?_,?_⟩
 ·simp only[List.mem_singleton]at a
  subst a;simp only[Ah,h]
  simpa using hs
 ·simp[ren,SS,LG,Mem.row,h,hv]
 ·simp only[U,Z,akJ h,b]
end
end Go.Am
