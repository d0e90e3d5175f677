/-
  Part 3 of a law of desks.
  Conditions: none.
-/
import Derived.Test.YtbefoehadfnkbaaGreatDoorJourneymanCopiesM02
import Derived.RangeFuncRecord
import Derived.Sort.LoopGhostIn
import Derived.ProofKit
import Derived.Deep.Slices
set_option linter.all false
open Bool renaming and_eq_true->S,false_eq_true->W,and_eq_true_iff->ab,or_eq_true->aC,or_eq_false_iff->aF
open List renaming map_cons->U,getElem?_eq_getElem->ai,map_nil->aj,pairwise_cons->ak,getElem?_eq_some_iff->an,getElem?_map->aq,mem_append->av,getElem?_take->ax,mem_cons->az,all_eq_true->aA,cons_append->aB,foldl_cons->aD,getElem?_eq_none->aE,mapM_cons->aG,pairwise_append->aH,replicate->aI,map_congr_left->aJ,getElem?_drop->aK,length_append->aL,length_drop->aM,range'_succ->aN,range'->aP,append_nil->aS,nil_append->aT,drop_drop->aV,foldl_nil->aW,range->aX,all_cons->aZ,take_add->a6,getD->a7,map_map->a8
open Array renaming getD_eq_getD_getElem?->Y,getElem?_toList->ah,getElem?_eq_getElem->am,replicate->ap,getElem?_setIfInBounds_ne->au,getElem?_eq_some_iff->aw
open Iff renaming rfl->Z
open Option renaming map_eq_some_iff->ae,isNone_iff_eq_none->ay,getD_some->aO,map_some->aU
open Nat renaming le_refl->ao,add_mul->aQ,zero_le->aR,sub_zero->bc,zero_add->bd
open Function renaming comp->aY
open And renaming right->be
namespace Go.Am
inductive Kd where
 |p|rb|rr|rg|a (i:Nat)|wb (i:Nat)|wr|wo|w|x
 deriving DecidableEq
def kd (op:POp)(fl:Nat):Kd:=
 match op with
 | .mov| .pick| .build _ _| .an8| .bin _| .awZ _ _| .un _| .conv _| .mkF _ _| .aEX _ _ _| .aFY _ _ _| .ext _| .ayM| .shf _| .ax1 _| .anD _| .tas _ _| .auJ _| .aAi _ _| .aHy _ _ _| .aCO _ _=> .p
 | .load _ _=>if fl=1 then .p else if fl=2 then .rb else if fl=3 then .rr else .rg
 | .fld _=>if fl=1 then .p else if fl=2 then .p else if fl=3 then .rr else .rg
 | .anU _=>if fl=1 then .p else .rr
 | .len=>if fl=1 then .p else .rr
 | .aoM _ _ _=>if fl=1 then .p else .x
 | .mkI _=>if fl=1 then .p else .x
 | .axG _ _ _ _=>if fl=1 then .p else .x
 | .alloc i _=> .a i
 | .box i=> .a i
 | .mkMap i=> .a i
 | .apl _=> .rg
 | .auN _=> .rg
 | .aAd _ _ _=> .rg
 | .store _=>match fl with|3=> .wr|2=> .wo|i+4=> .wb i| _=> .w
 | .app _ _=> .wr
 | .aHi _=> .wr
 | .arY _ _ _=> .wr
 | .aJV _=> .wr
 | .atD _=>if fl=1 then .wr else .x
 | .aBp _=> .w
 | _=> .x
def Kd.swap:Kd->Kd->Bool
 | .x,_=>false
 | _, .x=>false
 | .p,_=>true
 | _, .p=>true
 | .rb, .a _=>true
 | .rr, .a _=>true
 | .rg, .a _=>true
 | .a i, .a j=>decide (i≠j)
 | .a i, .wb j=>decide (i≠j)
 | .wb i, .a j=>decide (i≠j)
 | .wb i, .wb j=>decide (i≠j)
 | .a _, .wr=>true
 | .wr, .a _=>true
 | .wb _, .wr=>true
 | .wr, .wb _=>true
 | .rb, .wb _=>true
 | .wb _, .rb=>true
 | .rr, .wb _=>true
 | .wb _, .rr=>true
 | .rb, .wr=>true
 | .wr, .rb=>true
 | .rb, .rb=>true| .rb, .rr=>true| .rb, .rg=>true
 | .rr, .rb=>true| .rr, .rr=>true| .rr, .rg=>true
 | .rg, .rb=>true| .rg, .rr=>true| .rg, .rg=>true
 | .rr, .wo=>true
 | .wo, .rr=>true
 | _,_=>false
def Spec (base:Nat)(k:Kd)(R:Mem->PV->Mem->Prop):Prop:=
 match k with
 | .p=>∃V:PV->Prop,∀M v M',R M v M'↔V v/\M'=M
 | .rb=>∃V:Mem->PV->Prop,(∀M v M',R M v M'↔V M v/\M'=M)/\∀M M' v,(∀b,b<base->M.boxes[b]?=M'.boxes[b]?)->V M v->V M' v
 | .rr=>∃V:Mem->PV->Prop,(∀M v M',R M v M'↔V M v/\M'=M)/\∀M M' v,M.anK=M'.anK->V M v->V M' v
 | .rg=>∃V:Mem->PV->Prop,(∀M v M',R M v M'↔V M v/\M'=M)/\∀M M' v,(∀(b:Nat) (cs:List PV),M.boxes[b]?=some (some cs)->M'.boxes[b]?=some (some cs))->M.anK=M'.anK->V M v->V M' v
 | .a i=>∃(cs:List PV) (h:PV) (c:Prop),∀M v M',R M v M'↔c/\v=h/\M.boxes[base+i]?=some none/\M'={M with boxes:=M.boxes.set (base+i) (some cs)}
 | .wb i=>∃g:List PV->List PV->Prop,∀M v M',R M v M'↔∃cs f,M.boxes[base+i]?=some (some cs)/\base+i∉M.fz/\g cs f/\v= .dead/\M'={M with boxes:=M.boxes.set (base+i) (some f)}
 | .wr=>∃Q:List (Option Arr)->PV->List (Option Arr)->Prop,∀M v M',R M v M'↔∃d,Q M.anK v d/\M'={M with anK:=d}
 | .wo=>∃Q:List (Option (List PV))->List Nat->PV->List (Option (List PV))->Prop,∀M v M',R M v M'↔∃e,Q M.boxes M.fz v e/\M'={M with boxes:=e}
 | .w=>True
 | .x=>False
def azO (R1 R2:Mem->PV->Mem->Prop):Prop:=∀M d b e c,R1 M d b->R2 b e c->∃a,R2 M e a/\R1 a d c
section
variable {base:Nat}{R1 R2:Mem->PV->Mem->Prop}
def aUB {k:Kd}(h1:Spec base .p R1)(_:Spec base k R2):azO R1 R2:=by
 obtain⟨V,a⟩:=h1;intro M e d f b r1 r2;obtain⟨c,rfl⟩:=(a _ _ _).1 r1;exact⟨b,r2,(a _ _ _).2 ⟨c,rfl⟩⟩
def aUC (h2:Spec base .p R2):azO R1 R2:=by
 obtain⟨V,a⟩:=h2;intro M e c f d r1 r2;obtain⟨b,rfl⟩:=(a _ _ _).1 r2;exact⟨M,(a _ _ _).2 ⟨b,rfl⟩,r1⟩
def aAM (R:Mem->PV->Mem->Prop)(Ag:Mem->Mem->Prop):Prop:=∃V:Mem->PV->Prop,(∀M v M',R M v M'↔V M v/\M'=M)/\∀M M' v,Ag M M'->V M v->V M' v
variable{Ag:Mem->Mem->Prop}
def avE {a:Mem->Mem->Prop}(h1:aAM R1 Ag)(h2:aAM R2 a):azO R1 R2:=by
 obtain⟨V,c,_⟩:=h1;obtain⟨f,b,_⟩:=h2;intro M i d j e r1 r2;obtain⟨g,rfl⟩:=(c _ _ _).1 r1;obtain⟨h,rfl⟩:=(b _ _ _).1 r2;exact⟨_,r2,r1⟩
def axT (h1:aAM R1 Ag)(h2:∀M v M',R2 M v M'->Ag M M'):azO R1 R2:=by
 obtain⟨V,a,d⟩:=h1;intro M f e g b r1 r2;obtain⟨c,rfl⟩:=(a _ _ _).1 r1;exact⟨b,r2,(a _ _ _).2 ⟨d _ _ _ (h2 _ _ _ r2) c,rfl⟩⟩
def aE8 (h2:aAM R2 Ag)(h1:∀M v M',R1 M v M'->Ag M' M):azO R1 R2:=by
 obtain⟨V,a,c⟩:=h2;intro M f d g e r1 r2;obtain⟨b,rfl⟩:=(a _ _ _).1 r2;exact⟨M,(a _ _ _).2 ⟨c _ _ _ (h1 _ _ _ r1) b,rfl⟩,r1⟩
def auk (h:Spec base .rb R1):aAM R1 fun M M'=>∀b,b<base->M.boxes[b]?=M'.boxes[b]?:=h
def aul (h:Spec base .rr R1):aAM R1 fun M M'=>M.anK=M'.anK:=h
def aym (h:Spec base .rg R1):aAM R1 fun M M'=>(∀(b:Nat) (cs:List PV),M.boxes[b]?=some (some cs)->M'.boxes[b]?=some (some cs))/\M.anK=M'.anK:=by
 obtain⟨V,h1,h2⟩:=h;exact⟨V,h1,fun M M' v h=>h2 M M' v h.1 h.2⟩
variable{i:Nat}
def awt {l:List (Option (List PV))}{j:Nat}{x:Option (List PV)}(h:i≠j):(l.set i x)[j]?=l[j]?:=by rw[List.getElem?_set];simp[h]
def aYL (h:Spec base (.a i) R1):∀M v M',R1 M v M'->∀b,b<base->M.boxes[b]?=M'.boxes[b]?:=by
 obtain⟨cs,e,c,h⟩:=h;intro M v M' r b d;obtain⟨_,_,_,rfl⟩:=(h _ _ _).1 r;rw[awt (by omega)]
def aRc (h:Spec base (.a i) R1):∀M v M',R1 M v M'->M.anK=M'.anK:=by
 obtain⟨cs,b,c,h⟩:=h;intro M v M' r;obtain⟨_,_,_,rfl⟩:=(h _ _ _).1 r
 rfl
def aWY (h:Spec base (.a i) R1):∀M v M',R1 M v M'->∀(b:Nat) (cs:List PV),M.boxes[b]?=some (some cs)->M'.boxes[b]?=some (some cs):=by
 obtain⟨cs,j,c,h⟩:=h;intro M v M' r b f e;obtain⟨_,_,g,rfl⟩:=(h _ _ _).1 r
 by_cases d:base+i=b
 ·subst d;rw[g]at e;cases e
 ·rw[awt d];exact e
def aT7 (h:Spec base (.wb i) R1):∀M v M',R1 M v M'->∀b,b<base->M.boxes[b]?=M'.boxes[b]?:=by
 obtain⟨g,h⟩:=h;intro M v M' r b c;obtain⟨cs,a,_,_,_,_,rfl⟩:=(h _ _ _).1 r;rw[awt (by omega)]
def aOY (h:Spec base (.wb i) R1):∀M v M',R1 M v M'->M.anK=M'.anK:=by
 obtain⟨g,h⟩:=h;intro M v M' r;obtain⟨cs,a,_,_,_,_,rfl⟩:=(h _ _ _).1 r
 rfl
def aL0 (h:Spec base .wr R1):∀M v M',R1 M v M'->∀b,b<base->M.boxes[b]?=M'.boxes[b]?:=by
 obtain⟨Q,h⟩:=h;intro M v M' r b _;obtain⟨a,_,rfl⟩:=(h _ _ _).1 r
 rfl
def aOZ (h:Spec base .wo R1):∀M v M',R1 M v M'->M.anK=M'.anK:=by
 obtain⟨Q,h⟩:=h;intro M v M' r;obtain⟨a,_,rfl⟩:=(h _ _ _).1 r
 rfl
def set_comm {l:List (Option (List PV))}{i j:Nat}{x y:Option (List PV)}(h:i≠j):(l.set i x).set j y=(l.set j y).set i x:=List.set_comm _ _ h
def aPB {A B:Kd}(h:A.swap B=true)(h1:Spec base A R1)(h2:Spec base B R2):azO R1 R2:=by
 unfold Kd.swap at h
 split at h
 ·cases h
 ·cases h
 ·exact aUB h1 h2
 ·exact aUC h2
 ·exact axT (auk h1) (aYL h2)
 ·exact axT (aul h1) (aRc h2)
 ·exact axT (aym h1) fun M v M' r=>⟨aWY h2 M v M' r,aRc h2 M v M' r⟩
 ·rename_i i j
  simp only[decide_eq_true_eq]at h;obtain⟨cs,x,c,h1⟩:=h1;obtain⟨ds,D,d,h2⟩:=h2;intro M s n t o r1 r2;obtain⟨a,f,e,rfl⟩:=(h1 _ _ _).1 r1;obtain⟨b1,p,m,rfl⟩:=(h2 _ _ _).1 r2;simp only[awt (show base+i≠base+j by omega)]at m;refine⟨_,(h2 _ _ _).2 ⟨b1,p,m,rfl⟩,(h1 _ _ _).2 ⟨a,f,?_,?_⟩⟩
  ·simp only[awt (show base+j≠base+i by omega)];exact e
  ·simp only[set_comm (show base+i≠base+j by omega)]
 ·rename_i i j
  simp only[decide_eq_true_eq]at h;obtain⟨cs,x,c,h1⟩:=h1;obtain⟨g,h2⟩:=h2;intro M s n t o r1 r2;obtain⟨a,f,e,rfl⟩:=(h1 _ _ _).1 r1;obtain⟨ds,l,b1,p,m,w,rfl⟩:=(h2 _ _ _).1 r2;simp only[awt (show base+i≠base+j by omega)]at b1;refine⟨_,(h2 _ _ _).2 ⟨ds,l,b1,p,m,w,rfl⟩,(h1 _ _ _).2 ⟨a,f,?_,?_⟩⟩
  ·simp only[awt (show base+j≠base+i by omega)];exact e
  ·simp only[set_comm (show base+i≠base+j by omega)]
 ·rename_i i j
  simp only[decide_eq_true_eq]at h;obtain⟨cs,x,c,h2⟩:=h2;obtain⟨g,h1⟩:=h1;intro M s n t o r1 r2;obtain⟨ds,l,b1,p,m,w,rfl⟩:=(h1 _ _ _).1 r1;obtain⟨a,f,e,rfl⟩:=(h2 _ _ _).1 r2;simp only[awt (show base+i≠base+j by omega)]at e;refine⟨_,(h2 _ _ _).2 ⟨a,f,e,rfl⟩,(h1 _ _ _).2 ⟨ds,l,?_,p,m,w,?_⟩⟩
  ·simp only[awt (show base+j≠base+i by omega)];exact b1
  ·simp only[set_comm (show base+i≠base+j by omega)]
 ·rename_i i j
  simp only[decide_eq_true_eq]at h;obtain⟨C,h2⟩:=h2;obtain⟨g,h1⟩:=h1;intro M s n t o r1 r2;obtain⟨ds,l,b1,p,m,w,rfl⟩:=(h1 _ _ _).1 r1;obtain⟨es,y,a,f,e,u,rfl⟩:=(h2 _ _ _).1 r2;simp only[awt (show base+i≠base+j by omega)]at a;refine⟨_,(h2 _ _ _).2 ⟨es,y,a,f,e,u,rfl⟩,(h1 _ _ _).2 ⟨ds,l,?_,p,m,w,?_⟩⟩
  ·simp only[awt (show base+j≠base+i by omega)];exact b1
  ·simp only[set_comm (show base+i≠base+j by omega)]
 ·obtain⟨cs,x,c,h1⟩:=h1
  obtain⟨Q,h2⟩:=h2;intro M s n t o r1 r2;obtain⟨a,f,e,rfl⟩:=(h1 _ _ _).1 r1;obtain⟨k,b1,rfl⟩:=(h2 _ _ _).1 r2;exact⟨_,(h2 _ _ _).2 ⟨k,b1,rfl⟩,(h1 _ _ _).2 ⟨a,f,e,rfl⟩⟩
 ·obtain⟨cs,x,c,h2⟩:=h2
  obtain⟨Q,h1⟩:=h1;intro M s n t o r1 r2;obtain⟨k,b1,rfl⟩:=(h1 _ _ _).1 r1;obtain⟨a,f,e,rfl⟩:=(h2 _ _ _).1 r2;exact⟨_,(h2 _ _ _).2 ⟨a,f,e,rfl⟩,(h1 _ _ _).2 ⟨k,b1,rfl⟩⟩
 ·obtain⟨g,h1⟩:=h1
  obtain⟨Q,h2⟩:=h2;intro M s n t o r1 r2;obtain⟨cs,q,a,f,e,u,rfl⟩:=(h1 _ _ _).1 r1;obtain⟨k,b1,rfl⟩:=(h2 _ _ _).1 r2;exact⟨_,(h2 _ _ _).2 ⟨k,b1,rfl⟩,(h1 _ _ _).2 ⟨cs,q,a,f,e,u,rfl⟩⟩
 ·obtain⟨g,h2⟩:=h2
  obtain⟨Q,h1⟩:=h1;intro M s n t o r1 r2;obtain⟨k,b1,rfl⟩:=(h1 _ _ _).1 r1;obtain⟨cs,q,a,f,e,u,rfl⟩:=(h2 _ _ _).1 r2;exact⟨_,(h2 _ _ _).2 ⟨cs,q,a,f,e,u,rfl⟩,(h1 _ _ _).2 ⟨k,b1,rfl⟩⟩
 ·exact axT (auk h1) (aT7 h2)
 ·exact aE8 (auk h2) fun M v M' r b z=>(aT7 h1 M v M' r b z).symm
 ·exact axT (aul h1) (aOY h2)
 ·exact aE8 (aul h2) fun M v M' r=>(aOY h1 M v M' r).symm
 ·exact axT (auk h1) (aL0 h2)
 ·exact aE8 (auk h2) fun M v M' r b z=>(aL0 h1 M v M' r b z).symm
 ·exact avE (auk h1) (auk h2)
 ·exact avE (auk h1) (aul h2)
 ·exact avE (auk h1) (aym h2)
 ·exact avE (aul h1) (auk h2)
 ·exact avE (aul h1) (aul h2)
 ·exact avE (aul h1) (aym h2)
 ·exact avE (aym h1) (auk h2)
 ·exact avE (aym h1) (aul h2)
 ·exact avE (aym h1) (aym h2)
 ·exact axT (aul h1) (aOZ h2)
 ·exact aE8 (aul h2) fun M v M' r=>(aOZ h1 M v M' r).symm
 ·cases h
end
section
variable {C:Ctx}{base:Nat}
def aDK (C:Ctx)(base:Nat)(op:POp)(args:List PV)(R:Mem->PV->Mem->Prop):Prop:=∀M K KP,anG C base op args M K KP↔∃v M',R M v M'/\K v M'
variable{op:POp}{args:List PV}
def aVD {V:PV->Prop}(h:∀M K KP,anG C base op args M K KP↔∃v,V v/\K v M):∃R,Spec base .p R/\aDK C base op args R:=by
 refine⟨fun M v M'=>V v/\M'=M,⟨V,fun _ _ _=>Z⟩,fun M K KP=>(h M K KP).trans ?_⟩;constructor
 ·rintro⟨v,h1,h2⟩;exact⟨v,M,⟨h1,rfl⟩,h2⟩
 ·rintro⟨v,M',⟨h1,rfl⟩,h2⟩;exact⟨v,h1,h2⟩
def ayd {V:Mem->PV->Prop}(h:∀M K KP,anG C base op args M K KP↔∃v,V M v/\K v M):aDK C base op args (fun M v M'=>V M v/\M'=M):=by
 intro M K KP;refine(h M K KP).trans ?_;constructor
 ·rintro⟨v,h1,h2⟩;exact⟨v,M,⟨h1,rfl⟩,h2⟩
 ·rintro⟨v,M',⟨h1,rfl⟩,h2⟩;exact⟨v,h1,h2⟩
def aL8 {op:BinOp}{k:IntKind}{a b:Int}{K:DV->Prop}:arD op k a b K↔∃d,arD op k a b (fun u=>d=u)/\K d:=by
 cases op<;>simp[arD,and_assoc]
def aMa {op:BinOp}{a b:ByteArray}{K:DV->Prop}:aw0 op a b K↔∃d,aw0 op a b (fun u=>d=u)/\K d:=by
 cases op<;>simp[aw0,and_assoc]
variable{x:PV}
def aC2 {op:BinOp}{y:PV}{K:DV->Prop}:aDN op x y K↔∃d,aDN op x y (fun u=>d=u)/\K d:=by
 unfold aDN
 split
 ·rw[aL8]
  constructor
  ·rintro⟨h,d,h1,h2⟩;exact⟨d,⟨h,h1⟩,h2⟩
  ·rintro⟨d,⟨h,h1⟩,h2⟩;exact⟨h,d,h1,h2⟩
 ·exact aMa
 ·simp
def aHf {op:UnOp}{K:DV->Prop}:aLU op x K↔∃d,aLU op x (fun u=>d=u)/\K d:=by
 unfold aLU
 split<;>simp
def arA:∀{args:List PV},args.all PV.isD=true->∃ds:List DV,args=ds.map .d
 | [],_=>⟨[],rfl⟩
 | .d x::l,h=>by
  simp only[aZ,S]at h;obtain⟨ds,rfl⟩:=arA h.2;exact⟨x::ds,rfl⟩
 | .ptr _ _::_,h| .aqf _ _ _ _::_,h| .tsl _ _ _::_,h| .func _ _ _::_,h| .agg _::_,h| .tup _::_,h| .dead::_,h=>by simp[PV.isD]at h
def aKd {M:Mem}:∀{ds:List DV},aos M (ds.map .d)=some ds
 | []=>rfl
 |d::ds=>by simp only[U,aos,datum,aKd]
variable{M:Mem}
def ay3 {ds:List DV}:M.frz (ds.map .d)=M:=by
 have h1:∀ds:List DV,(ds.map PV.d).flatMap (aq5 M)=[]:=by
  intro ds;induction ds with
  |nil=>rfl
  |cons d ds a=>simp[aq5]
 have h2:∀ds:List DV,(ds.map PV.d).flatMap (aq4 M)=[]:=by
  intro ds;induction ds with
  |nil=>rfl
  |cons d ds a=>simp[aq4]
 simp only[Mem.frz,h1,h2,aA0,aW,aT]
variable{M':Mem}
def aO5 {b:Nat}(h:M.boxes[b]?=M'.boxes[b]?):M.box b=M'.box b:=by simp[Mem.box,h]
def avO (h:M.anK=M'.anK)(k ver:Nat):M.row k ver=M'.row k ver:=by simp[Mem.row,h]
variable{agg:Bool}
def aqj {n:Nat}{K:PV->Prop}:aol agg n x M K↔∃v,aol agg n x M (fun u=>v=u)/\K v:=by
 unfold aol
 repeat' split
 all_goals simp[and_assoc]
def aUW {off:Nat}{K:PV->Prop}:arb off x M K↔∃v,arb off x M (fun u=>v=u)/\K v:=by
 unfold arb
 repeat' split
 all_goals simp[and_assoc]
def aSn {sz:Nat}{i:PV}{K:PV->Prop}:aug sz x i M K↔∃v,aug sz x i M (fun u=>v=u)/\K v:=by
 unfold aug
 repeat' split
 all_goals simp[and_assoc]
def aJc {K:Int->Prop}:asc x M K↔∃v,asc x M (fun u=>v=u)/\K v:=by
 unfold asc
 repeat' split
 all_goals simp
def aIb {n:Nat}{k ver i off:Nat}(h:M.anK=M'.anK){K:PV->Prop}(hh:aol agg n (.aqf k ver i off) M K):aol agg n (.aqf k ver i off) M' K:=by
 simp only[aol,avO h]at hh⊢;exact hh
def aP8 {n:Nat}(hb:∀(b:Nat) (cs:List PV),M.boxes[b]?=some (some cs)->M'.boxes[b]?=some (some cs))(h:M.anK=M'.anK){K:PV->Prop}(hh:aol agg n x M K):aol agg n x M' K:=by
 cases x with
 |ptr b c=>
  simp only[aol]at hh⊢
  split at hh
  ·rename_i cs a
   have:M'.box b=some cs:=by simp[Mem.box,hb _ _ (arR a)]
   rw[this];exact hh
  ·exact hh.elim
 |aqf k ver i c=>exact aIb h hh
 |d y=>cases y<;>exact hh
 | _=>exact hh
variable{f:Bool}{l:List PV}{K:Option Int->List PV->Prop}
def asq {b:Option Int->List PV->Prop}(hk:∀a l,K a l->b a l)(h:aoS f l K):aoS f l b:=by
 unfold aoS at h⊢
 split at h
 ·exact hk _ _ h
 ·exact hk _ _ h
 ·exact h.elim
def aDp (h:aoS f l K):∃a c,aoS f l (fun d b=>d=a/\b=c)/\K a c:=by
 unfold aoS at h⊢
 split at h
 ·exact⟨_,_,⟨rfl,rfl⟩,h⟩
 ·exact⟨_,_,⟨rfl,rfl⟩,h⟩
 ·exact h.elim
variable{Q:Option Int->Option Int->Option Int->Prop}
def azS {lo hi mx:Bool}(h:aoS lo l fun a l=>aoS hi l fun b l=>aoS mx l fun m l=>l=[]/\Q a b m):
  ∃a b m,(aoS lo l fun c l=>aoS hi l fun b' l=>aoS mx l fun j l=>l=[]/\c=a/\b'=b/\j=m)/\Q a b m:=by
 obtain⟨a,l1,h1,h2⟩:=aDp h;obtain⟨b,l2,d,e⟩:=aDp h2;obtain⟨m,k,f,g,i⟩:=aDp e;refine⟨a,b,m,asq ?_ h1,i⟩;rintro _ _ ⟨rfl,rfl⟩;refine asq ?_ d;rintro _ _ ⟨rfl,rfl⟩;refine asq ?_ f;rintro _ _ ⟨rfl,rfl⟩;exact⟨g,rfl,rfl,rfl⟩
def azT {lo hi mx:Bool}{a b m:Option Int}(h:aoS lo l fun c l=>aoS hi l fun b' l=>aoS mx l fun e l=>l=[]/\c=a/\b'=b/\e=m)(d:Q a b m):
  aoS lo l fun a l=>aoS hi l fun b l=>aoS mx l fun m l=>l=[]/\Q a b m:=
 asq (fun _ _=>asq fun _ _=>asq fun _ _ hh=>⟨hh.1,by rw[hh.2.1,hh.2.2.1,hh.2.2.2];exact d⟩) h
def aDV (hb:∀(b:Nat) (cs:List PV),M.boxes[b]?=some (some cs)->M'.boxes[b]?=some (some cs))(a:M.anK=M'.anK){p:PV}{d:DV}(h:aoO M p=some d):aoO M' p=some d:=by
 cases p with
 |tsl k ver skip=>simp only[aoO]at h⊢;rw[<-avO a];exact h
 |mref b=>
  simp only[aoO]at h⊢
  split at h
  ·rename_i l c
   have:M'.box b=some [.apZ l]:=by simp[Mem.box,hb _ _ (arR c)]
   rw[this];exact h
  ·cases h
 | _=>exact h
def aBu {M M':Mem}(hb:∀(b:Nat) (cs:List PV),M.boxes[b]?=some (some cs)->M'.boxes[b]?=some (some cs))(a:M.anK=M'.anK):∀{ps:List PV} {ds:List DV},aoi M ps=some ds->aoi M' ps=some ds
 | [],_,h=>h
 |p::ps,ds,h=>by
  simp only[aoi]at h⊢
  split at h
  ·rename_i x c h1 h2;rw[aDV hb a h1,aBu hb a h2];exact h
  ·cases h
def aMw (hb:∀(b:Nat) (cs:List PV),M.boxes[b]?=some (some cs)->M'.boxes[b]?=some (some cs))(e:M.anK=M'.anK){p:PV}{d:DV}(h:datum M p=some d):datum M' p=some d:=by
 have a:=fun{j ds}=>aBu (ps:=j) (ds:=ds) hb e
 cases p with
 |tsl k ver skip=>simp only[datum]at h⊢;rw[<-avO e];exact h
 |mref b=>exact aDV (p:= .mref b) hb e h
 |ptr b i=>
  simp only[datum]at h⊢
  split at h
  ·rename_i cs g
   have:M'.box b=some cs:=by simp[Mem.box,hb _ _ (arR g)]
   rw[this];simp only[ae]at h⊢;obtain⟨x,h1,h2⟩:=h;exact⟨x,a h1,h2⟩
  ·cases h
 |func fn f c=>
  simp only[datum]at h⊢
  split at h
  ·rename_i x y h1 h2;rw[a h1,a h2];exact h
  ·cases h
 |agg cs=>simp only[datum,ae]at h⊢;obtain⟨x,h1,h2⟩:=h;exact⟨x,a h1,h2⟩
 |tup cs=>simp only[datum,ae]at h⊢;obtain⟨x,h1,h2⟩:=h;exact⟨x,a h1,h2⟩
 | _=>exact h
def ayU {M M':Mem}(hb:∀(b:Nat) (cs:List PV),M.boxes[b]?=some (some cs)->M'.boxes[b]?=some (some cs))(a:M.anK=M'.anK):∀{ps:List PV} {ds:List DV},aos M ps=some ds->aos M' ps=some ds
 | [],_,h=>h
 |p::ps,ds,h=>by
  simp only[aos]at h⊢
  split at h
  ·rename_i x c h1 h2;rw[aMw hb a h1,ayU hb a h2];exact h
  ·cases h
variable{fl:Nat}
def aYz (h:kd op fl= .p)(hf:avH base fl args):∃V:PV->Prop,∀M K KP,anG C base op args M K KP↔∃v,V v/\K v M:=by
 have one:∀{p:Prop} [Decidable p] {x y z:Kd},(if p then x else y)=z->y≠z->p:=by
  intro p _ x y z h R;by_cases H:p
  ·exact H
  ·rw[if_neg H]at h;exact absurd h R
 cases op with
 |mov=>refine⟨fun v=>anG C base .mov args aok (fun u _=>v=u) (fun _ _=>False),fun M K KP=> ?_⟩;simp only[anG];split<;>simp
 |pick=>refine⟨fun v=>anG C base .pick args aok (fun u _=>v=u) (fun _ _=>False),fun M K KP=> ?_⟩;simp only[anG];split<;>simp
 |build zs N=>refine⟨fun v=>anG C base (.build zs N) args aok (fun u _=>v=u) (fun _ _=>False),fun M K KP=> ?_⟩;simp only[anG];cases aro (zs.map .d) N args<;>simp
 |an8=>refine⟨fun v=>anG C base .an8 args aok (fun u _=>v=u) (fun _ _=>False),fun M K KP=> ?_⟩;simp only[anG];split<;>simp
 |bin op=>
  refine⟨fun v=>anG C base (.bin op) args aok (fun u _=>v=u) (fun _ _=>False),fun M K KP=> ?_⟩;simp only[anG]
  split
  ·rw[aC2]
   constructor
   ·rintro⟨d,h1,h2⟩;exact⟨.d d,aC2.2 ⟨d,h1,rfl⟩,h2⟩
   ·rintro⟨v,h1,h2⟩
    obtain⟨d,e,rfl⟩:=aC2.1 h1;exact⟨d,e,h2⟩
  ·simp
 |awZ neq L=>
  refine⟨fun v=>anG C base (.awZ neq L) args aok (fun u _=>v=u) (fun _ _=>False),fun M K KP=> ?_⟩;simp only[anG]
  split
  ·rename_i a b;cases aoR L a b<;>simp
  ·simp
 |shf op=>refine⟨fun v=>anG C base (.shf op) args aok (fun u _=>v=u) (fun _ _=>False),fun M K KP=> ?_⟩;simp only[anG];split<;>(try simp);cases op<;>simp[and_assoc]
 |un op=>
  refine⟨fun v=>anG C base (.un op) args aok (fun u _=>v=u) (fun _ _=>False),fun M K KP=> ?_⟩;simp only[anG]
  split
  ·rw[aHf]
   constructor
   ·rintro⟨d,h1,h2⟩;exact⟨.d d,aHf.2 ⟨d,h1,rfl⟩,h2⟩
   ·rintro⟨v,h1,h2⟩
    obtain⟨d,e,rfl⟩:=aHf.1 h1;exact⟨d,e,h2⟩
  ·simp
 |conv k=>refine⟨fun v=>anG C base (.conv k) args aok (fun u _=>v=u) (fun _ _=>False),fun M K KP=> ?_⟩;simp only[anG];split<;>simp
 |mkF fn S=>refine⟨fun v=>anG C base (.mkF fn S) args aok (fun u _=>v=u) (fun _ _=>False),fun M K KP=> ?_⟩;simp only[anG];cases apx args<;>simp
 |aEX agg A n=>refine⟨fun v=>anG C base (.aEX agg A n) args aok (fun u _=>v=u) (fun _ _=>False),fun M K KP=> ?_⟩;simp only[anG];split<;>simp[and_assoc]
 |aFY agg sz len=>refine⟨fun v=>anG C base (.aFY agg sz len) args aok (fun u _=>v=u) (fun _ _=>False),fun M K KP=> ?_⟩;simp only[anG];split<;>simp[and_assoc]
 |ext i=>
  refine⟨fun v=>anG C base (.ext i) args aok (fun u _=>v=u) (fun _ _=>False),fun M K KP=> ?_⟩;simp only[anG]
  split
  ·rename_i G;cases G[i]?<;>simp
  ·rename_i G;cases G[i]?<;>simp
  ·simp
 |ayM=>refine⟨fun v=>anG C base .ayM args aok (fun u _=>v=u) (fun _ _=>False),fun M K KP=> ?_⟩;simp only[anG];split<;>simp
 |ax1 F=>refine⟨fun v=>anG C base (.ax1 F) args aok (fun u _=>v=u) (fun _ _=>False),fun M K KP=> ?_⟩;simp only[anG];split<;>simp
 |aCO lo D=>
  refine⟨fun v=>anG C base (.aCO lo D) args aok (fun u _=>v=u) (fun _ _=>False),fun M K KP=> ?_⟩;simp only[anG]
  rcases args with _|⟨x,l⟩
  ·simp[avN]
  ·by_cases I:∃s,x= .d (.str s)
   ·obtain⟨s,rfl⟩:=I
    simp only[avN];constructor
    ·intro hh
     obtain⟨a,b,m,e,g,j,q,r,B⟩:=azS hh;exact⟨_,azT e ⟨g,j,q,r,rfl⟩,B⟩
    ·rintro⟨v,h1,h2⟩
     obtain⟨a,b,m,e,g,j,q,r,rfl⟩:=azS h1;exact azT e ⟨g,j,q,r,h2⟩
   ·have:∀Q:DV->Prop,¬avN lo D (x::l) Q:=by
     intro Q hh;unfold avN at hh
     split at hh
     ·rename_i s T P;cases P;exact I ⟨s,rfl⟩
     ·exact hh
    constructor
    ·intro hh;exact(this _ hh).elim
    ·rintro⟨v,hh,_⟩;exact(this _ hh).elim
 |auJ neq=>refine⟨fun v=>anG C base (.auJ neq) args aok (fun u _=>v=u) (fun _ _=>False),fun M K KP=> ?_⟩;simp only[anG];split<;>simp
 |aAi sz len=>refine⟨fun v=>anG C base (.aAi sz len) args aok (fun u _=>v=u) (fun _ _=>False),fun M K KP=> ?_⟩;simp only[anG];split<;>simp[and_assoc]
 |aHy agg sz len=>refine⟨fun v=>anG C base (.aHy agg sz len) args aok (fun u _=>v=u) (fun _ _=>False),fun M K KP=> ?_⟩;simp only[anG];split<;>simp[and_assoc]
 |tas t z=>refine⟨fun v=>anG C base (.tas t z) args aok (fun u _=>v=u) (fun _ _=>False),fun M K KP=> ?_⟩;simp only[anG];split<;>simp
 |load agg n=>
  simp only[kd]at h;have c:fl=1:=by
   refine one h ?_;split
   ·decide
   ·split<;>decide
  subst c;obtain⟨ds,rfl⟩:=arA (args:=args) hf;refine⟨fun v=>anG C base (.load agg n) (ds.map .d) aok (fun u _=>v=u) (fun _ _=>False),fun M K KP=> ?_⟩;simp only[anG]
  rcases ds with _|⟨x,_|⟨y,l⟩⟩
  ·simp
  ·simp only[U,aj];cases x<;>simp[aol,and_assoc]
  ·simp
 |fld A=>
  have c:fl=1\/fl=2:=by
   simp only[kd]at h
   by_cases h1:fl=1
   ·exact .inl h1
   ·by_cases h2:fl=2
    ·exact .inr h2
    ·rw[if_neg h1,if_neg h2]at h
     split at h<;>cases h
  have w:(∃ds:List DV,args=ds.map .d)\/(∃b o t,args= .ptr b o::t)\/(∃x t,args= .d x::t):=by
   rcases c with rfl|rfl
   ·exact .inl (arA hf)
   ·simp only[avH]at hf
    split at hf
    ·exact .inr (.inl ⟨_,_,_,rfl⟩)
    ·exact .inr (.inr ⟨_,_,rfl⟩)
    ·exact hf.elim
  refine⟨fun v=>anG C base (.fld A) args aok (fun u _=>v=u) (fun _ _=>False),fun M K KP=> ?_⟩
  rcases w with⟨ds,rfl⟩|⟨b,o,t,rfl⟩|⟨x,t,rfl⟩
  ·simp only[anG]
   rcases ds with _|⟨x,_|⟨y,l⟩⟩
   ·simp
   ·simp only[U,aj];cases x<;>simp[arb,and_assoc]
   ·simp
  ·simp only[anG]
   cases t<;>simp[arb]
  ·simp only[anG]
   cases t<;>cases x<;>simp[arb,and_assoc]
 |anU sz=>
  simp only[kd]at h;have c:fl=1:=one h (by decide);subst c;obtain⟨ds,rfl⟩:=arA (args:=args) hf;refine⟨fun v=>anG C base (.anU sz) (ds.map .d) aok (fun u _=>v=u) (fun _ _=>False),fun M K KP=> ?_⟩;simp only[anG]
  rcases ds with _|⟨x,_|⟨y,_|⟨z,l⟩⟩⟩
  ·simp
  ·simp
  ·simp only[U,aj];cases x<;>cases y<;>simp[aug,and_assoc]
  ·simp
 |len=>
  simp only[kd]at h;have c:fl=1:=one h (by decide);subst c;obtain⟨ds,rfl⟩:=arA (args:=args) hf;refine⟨fun v=>anG C base .len (ds.map .d) aok (fun u _=>v=u) (fun _ _=>False),fun M K KP=> ?_⟩;simp only[anG]
  rcases ds with _|⟨x,_|⟨y,l⟩⟩
  ·simp
  ·simp only[U,aj];cases x<;>simp[asc]
  ·simp
 |aoM sz zs J=>
  simp only[kd]at h;have c:fl=1:=one h (by decide);subst c;obtain⟨ds,rfl⟩:=arA (args:=args) hf;refine⟨fun v=>anG C base (.aoM sz zs J) (ds.map .d) aok (fun u _=>v=u) (fun _ _=>False),fun M K KP=> ?_⟩;simp only[anG,aKd,ay3];cases auq sz zs J (ds.map DV.strip)<;>simp
 |mkI t=>
  simp only[kd]at h;have c:fl=1:=one h (by decide);subst c;obtain⟨ds,rfl⟩:=arA (args:=args) hf;refine⟨fun v=>anG C base (.mkI t) (ds.map .d) aok (fun u _=>v=u) (fun _ _=>False),fun M K KP=> ?_⟩;simp only[anG]
  rcases ds with _|⟨x,_|⟨y,l⟩⟩
  ·simp
  ·have:=fun M:Mem=>ay3 (M:=M) (ds:=[x])
   simp only[U,aj]at this;simp only[U,aj,datum,this];simp
  ·simp
 |axG sz lo D F=>
  simp only[kd]at h;have c:fl=1:=one h (by decide);subst c;obtain⟨ds,rfl⟩:=arA (args:=args) hf;refine⟨fun v=>anG C base (.axG sz lo D F) (ds.map .d) aok (fun u _=>v=u) (fun _ _=>False),fun M K KP=> ?_⟩;simp only[anG]
  rcases ds with _|⟨x,l⟩
  ·simp[awV]
  ·simp only[U]
   cases x with
   |slice ex W=>
    simp only[awV];constructor
    ·intro hh
     obtain⟨a,b,m,e,g,j,q,r,B,O⟩:=azS hh;exact⟨_,azT e ⟨g,j,q,r,B,rfl⟩,O⟩
    ·rintro⟨v,h1,h2⟩
     obtain⟨a,b,m,e,g,j,q,r,B,rfl⟩:=azS h1;exact azT e ⟨g,j,q,r,B,h2⟩
   | _=>simp[awV]
 |anD f=>
  refine⟨fun v=>anG C base (.anD f) args aok (fun u _=>v=u) (fun _ _=>False),fun M K KP=> ?_⟩;simp only[anG,aGU];constructor
  ·rintro⟨ds,E,x,h1,h2⟩;exact⟨.d x,⟨ds,E,x,h1,rfl⟩,h2⟩
  ·rintro⟨v,⟨ds,E,x,h1,rfl⟩,h2⟩;exact⟨ds,E,x,h1,h2⟩
 |store n=>
  simp only[kd]at h
  split at h<;>cases h
 |atD f=>
  simp only[kd]at h
  split at h<;>cases h
 | _=>simp[kd]at h
def aFk (h:kd op fl≠ .x)(hf:avH base fl args):∃R,Spec base (kd op fl) R/\aDK C base op args R:=by
 by_cases O:kd op fl= .p
 ·rw[O]
  obtain⟨V,hV⟩:=aYz (C:=C) O hf;exact aVD hV
 ·cases op with
  |load agg n=>
   have hA:aDK C base (.load agg n) args (fun M v M'=>(anG C base (.load agg n) args M (fun u _=>v=u) (fun _ _=>False))/\M'=M):=ayd fun M K KP=>by
    simp only[anG]
    split
    ·exact aqj
    ·simp
   refine⟨_,?_,hA⟩;simp only[kd]at O⊢;have h1:fl≠1:=fun e=>O (by simp[e])
   rw[if_neg h1]
   by_cases h2:fl=2
   ·rw[if_pos h2]
    subst h2;refine⟨_,fun _ _ _=>Z,fun M M' v I g=> ?_⟩;simp only[anG]at g⊢;simp only[avH]at hf
    split at hf
    ·rename_i b o t
     cases t with
     |nil=>simp only[aol]at g⊢;rw[<-aO5 (I b hf)];exact g
     |cons=>exact g
    ·rename_i x t
     cases t with
     |nil=>cases x<;>exact g
     |cons=>exact g
    ·exact hf.elim
   ·rw[if_neg h2]
    by_cases c:fl=3
    ·rw[if_pos c]
     subst c;refine⟨_,fun _ _ _=>Z,fun M M' v I g=> ?_⟩;simp only[anG]at g⊢;simp only[avH]at hf
     split at hf
     ·rename_i t
      cases t with
      |nil=>exact aIb I g
      |cons=>exact g
     ·exact hf.elim
    ·rw[if_neg c]
     refine⟨_,fun _ _ _=>Z,fun M M' v hb W g=> ?_⟩;simp only[anG]at g⊢
     split at g
     ·exact aP8 hb W g
     ·exact g.elim
  |fld D=>
   have hA:aDK C base (.fld D) args (fun M v M'=>(anG C base (.fld D) args M (fun u _=>v=u) (fun _ _=>False))/\M'=M):=ayd fun M K KP=>by
    simp only[anG]
    split
    ·exact aUW
    ·simp
   have F:∀{M M':Mem},M.anK=M'.anK->∀{x:PV} {K:PV->Prop},arb D x M K->arb D x M' K:=by
    intro M M' W x K hh;cases x with
    |aqf k ver i o=>simp only[arb,avO W]at hh⊢;exact hh
    |d x=>cases x<;>exact hh
    | _=>exact hh
   refine⟨_,?_,hA⟩;simp only[kd]at O⊢;have h1:fl≠1:=fun e=>O (by simp[e])
   have h2:fl≠2:=fun e=>O (by simp[e])
   rw[if_neg h1,if_neg h2]
   by_cases c:fl=3
   ·rw[if_pos c]
    refine⟨_,fun _ _ _=>Z,fun M M' v I g=> ?_⟩;simp only[anG]at g⊢
    split at g
    ·exact F I g
    ·exact g.elim
   ·rw[if_neg c]
    refine⟨_,fun _ _ _=>Z,fun M M' v hb W g=> ?_⟩;simp only[anG]at g⊢
    split at g
    ·exact F W g
    ·exact g.elim
  |anU sz=>
   have hA:aDK C base (.anU sz) args (fun M v M'=>(anG C base (.anU sz) args M (fun u _=>v=u) (fun _ _=>False))/\M'=M):=ayd fun M K KP=>by
    simp only[anG]
    split
    ·exact aSn
    ·simp
   refine⟨_,?_,hA⟩;simp only[kd]at O⊢;have h1:fl≠1:=fun e=>O (by simp[e])
   rw[if_neg h1];refine⟨_,fun _ _ _=>Z,fun M M' v I g=> ?_⟩;simp only[anG]at g⊢
   split at g
   ·simp only[aug,avO I]at g⊢;exact g
   ·exact g.elim
  |len=>
   have hA:aDK C base .len args (fun M v M'=>(anG C base .len args M (fun u _=>v=u) (fun _ _=>False))/\M'=M):=ayd fun M K KP=>by
    simp only[anG]
    split
    ·rw[aJc]
     constructor
     ·rintro⟨n,h1,h2⟩;exact⟨_,aJc.2 ⟨n,h1,rfl⟩,h2⟩
     ·rintro⟨v,h1,h2⟩
      obtain⟨n,Y,rfl⟩:=aJc.1 h1;exact⟨n,Y,h2⟩
    ·simp
   refine⟨_,?_,hA⟩;simp only[kd]at O⊢;have h1:fl≠1:=fun e=>O (by simp[e])
   rw[if_neg h1];refine⟨_,fun _ _ _=>Z,fun M M' v I g=> ?_⟩;simp only[anG]at g⊢
   split at g
   ·simp only[asc,avO I]at g⊢;exact g
   ·exact g.elim
  |aBp f=>
   exact⟨fun M p M'=>SC C f args M (fun q N=>q=p/\N=M') (fun _ _=>False),trivial,fun M K KP=>Z⟩
  |apl f=>
   refine⟨_,⟨fun M v=>anG C base (.apl f) args M (fun u _=>v=u) (fun _ _=>False),fun _ _ _=>Z,fun M M' v hb W g=> ?_⟩,ayd fun M K KP=> ?_⟩
   ·obtain⟨ds,P,h1⟩:=g
    exact⟨ds,ayU hb W P,h1⟩
   ·simp only[anG,aCH]
    constructor
    ·rintro⟨ds,P,x,h1,h2,c⟩;exact⟨.d x,⟨ds,P,x,h1,h2,rfl⟩,c⟩
    ·rintro⟨v,⟨ds,P,x,h1,h2,rfl⟩,c⟩;exact⟨ds,P,x,h1,h2,c⟩
  |auN f=>
   refine⟨_,⟨fun M v=>anG C base (.auN f) args M (fun u _=>v=u) (fun _ _=>False),fun _ _ _=>Z,fun M M' v hb W g=> ?_⟩,ayd fun M K KP=> ?_⟩
   ·obtain⟨ds,P,h1⟩:=g
    exact⟨ds,ayU hb W P,h1⟩
   ·simp only[anG,aGV]
    constructor
    ·rintro⟨ds,P,r,ass,x,h1,h2,c⟩;exact⟨.d x,⟨ds,P,r,ass,x,h1,h2,rfl⟩,c⟩
    ·rintro⟨v,⟨ds,P,r,ass,x,h1,h2,rfl⟩,c⟩;exact⟨ds,P,r,ass,x,h1,h2,c⟩
  |aAd ok ks z=>
   refine⟨_,⟨fun M v=>anG C base (.aAd ok ks z) args M (fun u _=>v=u) (fun _ _=>False),fun _ _ _=>Z,fun M M' v hb W g=> ?_⟩,ayd fun M K KP=> ?_⟩
   ·simp only[anG]at g⊢
    split at g
    ·exact g
    ·rename_i b k
     cases ac:M.box b with
     |none=>simp only[ac]at g
     |some cs=>
      have:M'.box b=some cs:=by simp[Mem.box,hb _ _ (arR ac)]
      simp only[ac]at g;simp only[this];exact g
    ·exact g
   ·simp only[anG]
    split
    ·split<;>simp
    ·split
     ·split<;>simp
     ·simp
    ·simp
  |mkMap i=>
   cases args with
   |nil=>
    refine⟨_,⟨[.apZ []], .mref (base+i),True,fun _ _ _=>Z⟩,fun M K KP=> ?_⟩;simp only[anG];constructor
    ·rintro⟨h1,h2⟩;exact⟨_,_,⟨trivial,rfl,h1,rfl⟩,h2⟩
    ·rintro⟨v,M',⟨_,rfl,h1,rfl⟩,h2⟩;exact⟨h1,h2⟩
   |cons x l=>
    refine⟨_,⟨[], .dead,False,fun _ _ _=>Z⟩,fun M K KP=> ?_⟩;simp[anG]
  |alloc i zs=>
   cases args with
   |nil=>
    refine⟨_,⟨zs.map .d, .ptr (base+i) 0,True,fun _ _ _=>Z⟩,fun M K KP=> ?_⟩;simp only[anG];constructor
    ·rintro⟨h1,h2⟩;exact⟨_,_,⟨trivial,rfl,h1,rfl⟩,h2⟩
    ·rintro⟨v,M',⟨_,rfl,h1,rfl⟩,h2⟩;exact⟨h1,h2⟩
   |cons x l=>
    refine⟨_,⟨[], .dead,False,fun _ _ _=>Z⟩,fun M K KP=> ?_⟩;simp[anG]
  |box i=>
   have ab:(∀M K KP,¬anG C base (.box i) args M K KP)->∃R,Spec base (kd (.box i) fl) R/\aDK C base (.box i) args R:=fun hn=>
    ⟨_,⟨[], .dead,False,fun _ _ _=>Z⟩,fun M K KP=>⟨fun hh=>(hn _ _ _ hh).elim,by rintro⟨_,_,⟨hh,_⟩,_⟩;exact hh.elim⟩⟩
   rcases args with _|⟨x,_|⟨y,l⟩⟩
   ·exact ab fun M K KP hh=>by simp[anG]at hh
   ·refine⟨_,⟨x.cells, .ptr (base+i) 0,x.asO=false,fun _ _ _=>Z⟩,fun M K KP=> ?_⟩
    simp only[anG];constructor
    ·rintro⟨P,h1,h2⟩;exact⟨_,_,⟨P,rfl,h1,rfl⟩,h2⟩
    ·rintro⟨v,M',⟨P,rfl,h1,rfl⟩,h2⟩;exact⟨P,h1,h2⟩
   ·exact ab fun M K KP hh=>by simp[anG]at hh
  |store n=>
   have hx:fl=3\/fl=2\/(∃i,fl=i+4)\/kd (.store n) fl= .w:=by
    simp only[kd]
    split
    ·exact .inl rfl
    ·exact .inr (.inl rfl)
    ·exact .inr (.inr (.inl ⟨_,rfl⟩))
    ·exact .inr (.inr (.inr rfl))
   rcases hx with rfl|rfl|⟨i,rfl⟩|hw
   ·simp only[avH]at hf
    split at hf
    ·rename_i k ver j D t
     refine⟨fun M v M'=>∃a,anG C base (.store n) (.aqf k ver j D::t) ⟨[],[],M.anK⟩ (fun u m=>v=u/\a=m.anK) (fun _ _=>False)/\M'={M with anK:=a},
      ⟨fun anK v a=>anG C base (.store n) (.aqf k ver j D::t) ⟨[],[],anK⟩ (fun u m=>v=u/\a=m.anK) (fun _ _=>False),fun _ _ _=>Z⟩,fun M K KP=> ?_⟩
     rcases t with _|⟨y,_|⟨z,l⟩⟩
     ·simp[anG]
     ·have F:(⟨[],[],M.anK⟩:Mem).row k ver=M.row k ver:=rfl
      simp only[anG,apJ,F];cases hr:M.row k ver with
      |none=>simp
      |some A=>
       cases hd:apx y.cells with
       |none=>simp
       |some ds=>
        simp only;constructor
        ·rintro⟨h1,h2,c,B,E,H⟩;exact⟨_,_,⟨_,⟨h1,h2,c,B,E,rfl,rfl⟩,rfl⟩,H⟩
        ·rintro⟨v,M',⟨a,⟨h1,h2,c,B,E,rfl,rfl⟩,rfl⟩,H⟩
         exact⟨h1,h2,c,B,E,H⟩
     ·simp[anG]
    ·exact hf.elim
   ·simp only[avH]at hf
    split at hf
    ·rename_i b D t
     refine⟨fun M v M'=>∃S,anG C base (.store n) (.ptr b D::t) ⟨M.boxes,M.fz,[]⟩ (fun u m=>v=u/\S=m.boxes) (fun _ _=>False)/\M'={M with boxes:=S},
      ⟨fun bs fz v S=>anG C base (.store n) (.ptr b D::t) ⟨bs,fz,[]⟩ (fun u m=>v=u/\S=m.boxes) (fun _ _=>False),fun _ _ _=>Z⟩,fun M K KP=> ?_⟩
     rcases t with _|⟨y,_|⟨z,l⟩⟩
     ·simp[anG]
     ·have ah:(⟨M.boxes,M.fz,[]⟩:Mem).box b=M.box b:=rfl
      simp only[anG,apJ,ah];cases hb:M.box b with
      |none=>simp
      |some cs=>
       simp only;constructor
       ·rintro⟨h1,h2,c,B,E⟩;exact⟨_,_,⟨_,⟨h1,h2,c,B,rfl,rfl⟩,rfl⟩,E⟩
       ·rintro⟨v,M',⟨S,⟨h1,h2,c,B,rfl,rfl⟩,rfl⟩,E⟩
        exact⟨h1,h2,c,B,E⟩
     ·simp[anG]
    ·rename_i x t
     refine⟨fun M v M'=>False/\M'=M/\v=v,⟨fun _ _ _ _=>False,fun _ _ _=>⟨fun hh=>hh.1.elim,fun⟨_,hh,_⟩=>hh.elim⟩⟩,fun M K KP=> ?_⟩
     rcases t with _|⟨y,_|⟨z,l⟩⟩<;>simp[anG,apJ]
    ·exact hf.elim
   ·simp only[avH]at hf
    split at hf
    ·rename_i b D t
     subst hf;refine⟨_,⟨fun cs ae=>∃y,t=[y]/\y.cells.length=n/\y.cells.all PV.one=true/\D+n<=cs.length/\ae=splice cs D y.cells,fun _ _ _=>Z⟩,fun M K KP=> ?_⟩
     rcases t with _|⟨y,_|⟨z,l⟩⟩
     ·simp[anG]
     ·simp only[anG,apJ]
      constructor
      ·intro hh
       split at hh
       ·rename_i cs am
        obtain⟨h1,h2,c,B,E⟩:=hh;exact⟨_,_,⟨cs,_,arR am,h1,⟨y,rfl,h2,c,B,rfl⟩,rfl,rfl⟩,E⟩
       ·exact hh.elim
      ·rintro⟨v,M',⟨cs,ae,h1,h2,⟨y',hy,c,B,E,rfl⟩,rfl,rfl⟩,H⟩
       simp only[List.cons.injEq,and_true]at hy;subst hy;have:M.box (base+i)=some cs:=by simp[Mem.box,h1]
       rw[this];exact⟨h2,c,B,E,H⟩
     ·simp[anG]
    ·exact hf.elim
   ·rw[hw]
    refine⟨fun M v M'=>anG C base (.store n) args M (fun u m=>v=u/\M'=m) (fun _ _=>False),trivial,fun M K KP=> ?_⟩;simp only[anG]
    rcases args with _|⟨x,_|⟨y,_|⟨z,l⟩⟩⟩
    ·simp
    ·simp
    ·simp only[apJ]
     cases x with
     |ptr b D=>cases h1:M.box b<;>simp[h1,and_assoc]
     |aqf k ver i D=>cases h1:M.row k ver<;>cases h2:apx y.cells<;>simp[h1,and_assoc]
     | _=>simp
    ·simp
  |arY sz zs is=>
   refine⟨fun M v M'=>∃a,(∃ds X,apx args=some ds/\auq sz zs is (ds.map DV.strip)=some X/\0<sz/\(∀x∈X,x.fits sz=true)/\v= .tsl M.anK.length 0 0/\a=M.anK++ [some ⟨sz,X,0,1⟩])/\M'={M with anK:=a},
    ⟨fun anK v a=>∃ds X,apx args=some ds/\auq sz zs is (ds.map DV.strip)=some X/\0<sz/\(∀x∈X,x.fits sz=true)/\v= .tsl anK.length 0 0/\a=anK++ [some ⟨sz,X,0,1⟩],fun _ _ _=>Z⟩,fun M K KP=> ?_⟩
   simp only[anG];constructor
   ·intro h
    split at h
    ·rename_i ds ao
     split at h
     ·rename_i X au
      exact⟨_,_,⟨_,⟨ds,X,ao,au,h.1,h.2.1,rfl,rfl⟩,rfl⟩,h.2.2⟩
     ·exact h.elim
    ·exact h.elim
   ·rintro⟨v,M',⟨a,⟨ds,X,h1,h2,c,B,rfl,rfl⟩,rfl⟩,E⟩
    simp only[h1,h2];exact⟨c,B,E⟩
  |app sz ak=>
   refine⟨fun M v M'=>∃a,anG C base (.app sz ak) args ⟨[],[],M.anK⟩ (fun u m=>v=u/\a=m.anK) (fun _ _=>False)/\M'={M with anK:=a},
    ⟨fun anK v a=>anG C base (.app sz ak) args ⟨[],[],anK⟩ (fun u m=>v=u/\a=m.anK) (fun _ _=>False),fun _ _ _=>Z⟩,fun M K KP=> ?_⟩
   simp only[anG]
   rcases args with _|⟨s,_|⟨x,_|⟨z,l⟩⟩⟩
   ·simp
   ·simp
   ·have F:∀k ver,(⟨[],[],M.anK⟩:Mem).row k ver=M.row k ver:=fun _ _=>rfl
    have L:auD sz x ⟨[],[],M.anK⟩=auD sz x M:=by cases x with
     |d x=>cases x<;>rfl
     | _=>rfl
    simp only[aqv,L];cases auD sz x M with
    |none=>simp
    |some ys=>
     simp only
     split
     ·constructor
      ·rintro⟨h1,h2,c,B,E,H,Q⟩;exact⟨_,_,⟨_,⟨h1,h2,c,B,E,H,rfl,rfl⟩,rfl⟩,Q⟩
      ·rintro⟨v,M',⟨a,⟨h1,h2,c,B,E,H,rfl,rfl⟩,rfl⟩,Q⟩;exact⟨h1,h2,c,B,E,H,Q⟩
     ·rename_i k ver skip
      simp only[F];cases M.row k ver with
      |none=>simp
      |some A=>
       simp only;constructor
       ·rintro⟨h1,h2,c,B,E,H,Q⟩;exact⟨_,_,⟨_,⟨h1,h2,c,B,E,H,rfl,rfl⟩,rfl⟩,Q⟩
       ·rintro⟨v,M',⟨a,⟨h1,h2,c,B,E,H,rfl,rfl⟩,rfl⟩,Q⟩;exact⟨h1,h2,c,B,E,H,Q⟩
     ·simp
   ·simp
  |aHi sz=>
   refine⟨fun M v M'=>∃a,anG C base (.aHi sz) args ⟨[],[],M.anK⟩ (fun u m=>v=u/\a=m.anK) (fun _ _=>False)/\M'={M with anK:=a},
    ⟨fun anK v a=>anG C base (.aHi sz) args ⟨[],[],anK⟩ (fun u m=>v=u/\a=m.anK) (fun _ _=>False),fun _ _ _=>Z⟩,fun M K KP=> ?_⟩
   simp only[anG]
   rcases args with _|⟨s,_|⟨x,_|⟨z,l⟩⟩⟩
   ·simp
   ·simp
   ·have L:auD sz x ⟨[],[],M.anK⟩=auD sz x M:=by cases x with
     |d x=>cases x<;>rfl
     | _=>rfl
    simp only[aCE,L]
    split
    ·constructor
     ·rintro⟨h1,h2,c,B⟩;exact⟨_,_,⟨_,⟨h1,h2,c,rfl,rfl⟩,rfl⟩,B⟩
     ·rintro⟨v,M',⟨a,⟨h1,h2,c,rfl,rfl⟩,rfl⟩,B⟩;exact⟨h1,h2,c,B⟩
    ·simp
   ·simp
  |aJV sz=>
   have aq:∀(M:Mem) (J:PV->Mem->Prop) (KP:DV->Mem->Prop),anG C base (.app sz false) args M J KP↔∃k ver a,(anG C base (.app sz false) args ⟨[],[],M.anK⟩ (fun u m=> .tsl k ver 0=u/\a=m.anK) (fun _ _=>False))/\J (.tsl k ver 0) {M with anK:=a}:=by
    intro M J KP;simp only[anG]
    rcases args with _|⟨s,_|⟨x,_|⟨z,l⟩⟩⟩
    ·simp
    ·simp
    ·have F:∀k ver,(⟨[],[],M.anK⟩:Mem).row k ver=M.row k ver:=fun _ _=>rfl
     have L:auD sz x ⟨[],[],M.anK⟩=auD sz x M:=by cases x with
      |d x=>cases x<;>rfl
      | _=>rfl
     simp only[aqv,L];cases auD sz x M with
     |none=>simp
     |some ys=>
      simp only
      split
      ·constructor
       ·rintro⟨h1,h2,c,B,E,H,Q⟩;exact⟨_,_,_,⟨h1,h2,c,B,E,H,rfl,rfl⟩,Q⟩
       ·rintro⟨k,ver,a,⟨h1,h2,c,B,E,H,h8,rfl⟩,Q⟩;cases h8;exact⟨h1,h2,c,B,E,H,Q⟩
      ·rename_i k ver skip
       simp only[F];cases M.row k ver with
       |none=>simp
       |some A=>
        simp only;constructor
        ·rintro⟨h1,h2,c,B,E,H,Q⟩;exact⟨_,_,_,⟨h1,h2,c,B,E,H,rfl,rfl⟩,Q⟩
        ·rintro⟨k,ver,a,⟨h1,h2,c,B,E,H,h8,rfl⟩,Q⟩;cases h8;exact⟨h1,h2,c,B,E,H,Q⟩
      ·simp
    ·simp
   have aj:∀(M:Mem) (k ver:Nat),M.frz [.tsl k ver 0]={M with anK:=aA0 [k] M.anK}:=fun M k ver=>by simp[Mem.frz,aq5,aq4]
   have ai:∀(M:Mem) (k ver:Nat),datum M (.tsl k ver 0)=datum ⟨[],[],M.anK⟩ (.tsl k ver 0):=fun _ _ _=>rfl
   refine⟨fun M v M'=>∃a,(∃k ver G d,(anG C base (.app sz false) args ⟨[],[],M.anK⟩ (fun u m=> .tsl k ver 0=u/\G=m.anK) (fun _ _=>False))/\datum ⟨[],[],G⟩ (.tsl k ver 0)=some d/\v= .d d/\a=aA0 [k] G)/\M'={M with anK:=a},
    ⟨fun anK v a=>∃k ver G d,(anG C base (.app sz false) args ⟨[],[],anK⟩ (fun u m=> .tsl k ver 0=u/\G=m.anK) (fun _ _=>False))/\datum ⟨[],[],G⟩ (.tsl k ver 0)=some d/\v= .d d/\a=aA0 [k] G,fun _ _ _=>Z⟩,fun M K KP=> ?_⟩
   have:=aq M (fun v M'=>∃d,datum M' v=some d/\K (.d d) (M'.frz [v])) KP;constructor
   ·intro hh
    obtain⟨k,ver,G,h1,d,h2,c⟩:=this.1 hh;rw[ai]at h2;rw[aj]at c;exact⟨_,_,⟨_,⟨k,ver,G,d,h1,h2,rfl,rfl⟩,rfl⟩,c⟩
   ·rintro⟨_,_,⟨_,⟨k,ver,G,d,h1,h2,rfl,rfl⟩,rfl⟩,c⟩
    exact this.2 ⟨k,ver,G,h1,d,by rw[ai];exact h2,by rw[aj];exact c⟩
  |atD f=>
   simp only[kd]at h O
   by_cases ap:fl=1
   ·subst ap
    obtain⟨ds,rfl⟩:=arA (args:=args) hf;have an:∀M:Mem,aos M (ds.map .d)=some ds:=by
     intro M;clear hf h O
     induction ds with
     |nil=>rfl
     |cons d ds ih=>simp only[U,aos,datum,ih]
    simp only[kd,if_true];refine⟨fun M v M'=>∃a,(∃r ass,Pure C f (ds.map DV.strip) r ass/\((∃x,r= .d x/\av2 x=true/\ass=[]/\v=r/\a=M.anK)\/((∀A∈ass,A.st≠2)/\v=r.shift M.anK.length/\a=M.anK++ass.map some)))/\M'={M with anK:=a},
     ⟨fun anK v a=>∃r ass,Pure C f (ds.map DV.strip) r ass/\((∃x,r= .d x/\av2 x=true/\ass=[]/\v=r/\a=anK)\/((∀A∈ass,A.st≠2)/\v=r.shift anK.length/\a=anK++ass.map some)),fun _ _ _=>Z⟩,fun M K KP=> ?_⟩
    simp only[anG,aCG,an,Option.some.injEq,ay3];constructor
    ·rintro⟨_,rfl,r,ass,T,(⟨x,rfl,Y,rfl,g2⟩|⟨Y,g2⟩)⟩
     ·exact⟨_,M,⟨_,⟨_,_,T, .inl ⟨x,rfl,Y,rfl,rfl,rfl⟩⟩,rfl⟩,g2⟩
     ·exact⟨_,_,⟨_,⟨_,_,T, .inr ⟨Y,rfl,rfl⟩⟩,rfl⟩,g2⟩
    ·rintro⟨v,M',⟨a,⟨r,ass,T,(⟨x,rfl,Y,rfl,rfl,rfl⟩|⟨Y,rfl,rfl⟩)⟩,rfl⟩,g2⟩
     ·exact⟨ds,rfl,_,_,T, .inl ⟨x,rfl,Y,rfl,g2⟩⟩
     ·exact⟨ds,rfl,_,_,T, .inr ⟨Y,g2⟩⟩
   ·simp_all
  |aoM sz zs is=>simp only[kd]at h O;split at h<;>simp_all
  |mkI t=>simp only[kd]at h O;split at h<;>simp_all
  |axG sz lo hi mx=>simp only[kd]at h O;split at h<;>simp_all
  | _=>simp_all[kd]
end
def aAb (env:List (Nat×PV)):Option (Nat×Bool)->Option Bool
 |none=>some true
 |some (t,a)=>match look env t with| .d (.bool x)=>some (x==a)| .d (.tup [])=>some false| _=>none
section
variable {C:Ctx}{base:Nat}
variable{o:PO}{K:St->Prop}{KP:DV->Mem->Prop}{s:St}
def aoV:aoT C base o K KP s↔match aAb s.env o.g with
  |some true=>avH base o.fl (o.args.map s.val)/\anG C base o.op (o.args.map s.val) s.mem (fun v M=>K ⟨put s.env o.dst v,M⟩) KP
  |some false=>K ⟨put s.env o.dst (.d (.tup [])),s.mem⟩
  |none=>False:=by
 unfold aoT aAb;cases f:o.g with
 |none=>exact Z
 |some q=>
  obtain⟨t,a⟩:=q;simp only;generalize look s.env t=p;cases p with
  |d y=>
   cases y with
   |bool x=>
    simp only
    by_cases b:x=a
    ·subst b
     have:¬(x= !x):=by cases x<;>simp
     simp only[beq_self_eq_true,true_implies,this,false_implies,and_true]
    ·have h1:(x==a)=false:=by simp[b]
     have h2:x= !a:=by cases x<;>cases a<;>simp_all
     simp only[h1];constructor
     ·intro h;exact h.2 h2
     ·intro h;exact⟨fun e=>absurd e b,fun _=>h⟩
   |tup c=>cases c<;>exact Z
   | _=>exact Z
  | _=>exact Z
def Opd.isT (d:Nat):Opd->Bool| .t n=>n==d| .c _=>false
def looks (o:PO)(d:Nat):Bool:=o.args.any (Opd.isT d)||(match o.g with|some (t,_)=>t==d|none=>false)
def atJ (x y:PO):Bool:=(match x.dst with|some d=> !looks y d&&decide (y.dst≠some d)|none=>true)&&(match y.dst with|some d=> !looks x d|none=>true)
variable{env:List (Nat×PV)}{dst:Option Nat}{v:PV}
def aD8 {t:Nat}(h:∀d,dst=some d->t≠d):look (put env dst v) t=look env t:=by
 cases dst with
 |none=>rfl
 |some d=>
  have:(d==t)=false:=by simp;exact fun e=>h d rfl e.symm
  simp[put,look,this]
variable{M:Mem}
def aoH {M':Mem}(h:∀d,dst=some d->looks o d=false):
  o.args.map (St.val ⟨put env dst v,M'⟩)=o.args.map (St.val ⟨env,M⟩)/\aAb (put env dst v) o.g=aAb env o.g:=by
 constructor
 ·refine aJ fun x e=> ?_
  cases x with
  |c d=>rfl
  |t n=>
   refine aD8 fun d hd=> ?_
   have:=h d hd;simp only[looks,aF,List.any_eq_false]at this;have:=this.1 _ e
   simpa[Opd.isT]using this
 ·cases b:o.g with
  |none=>rfl
  |some q=>
   obtain⟨t,a⟩:=q;simp only[aAb];rw[aD8 fun d hd=> ?_];have:=h d hd;simp only[looks,b,aF,beq_eq_false_iff_ne]at this;exact this.2
def Ext (K:St->Prop):Prop:=∀s a:St,(∀t,look s.env t=look a.env t)->s.mem=a.mem->K s->K a
def Ext.use (b:Ext K){s a:St}(h:K s)(c:∀t,look s.env t=look a.env t)(d:s.mem=a.mem):K a:=b s a c d h
def apy {c f:Option Nat}{i j:PV}(h:∀d,c=some d->f≠some d)(t:Nat):look (put (put env c i) f j) t=look (put (put env f j) c i) t:=by
 cases c with
 |none=>rfl
 |some a=>
  cases f with
  |none=>rfl
  |some b=>
   have g:a≠b:=fun e=>h a rfl (e▸rfl)
   simp only[put,look]
   by_cases h1:a=t
   ·subst h1
    have:(b==a)=false:=by simp;exact fun e=>g e.symm
    simp[this]
   ·have:(a==t)=false:=by simp[h1]
    simp[this]
def aWk {a oi:PO}(hk:(kd a.op a.fl).swap (kd oi.op oi.fl)=true)(n:atJ a oi=true){K:St->Prop}{KP:DV->Mem->Prop}(q:Ext K)(s:St)
  (h:aoT C base a (fun A=>aoT C base oi K KP A) KP s):aoT C base oi (fun A=>aoT C base a K KP A) KP s:=by
 have z:kd a.op a.fl≠ .x:=by intro e;rw[e]at hk;cases hk
 have p:kd oi.op oi.fl≠ .x:=by intro e;rw[e]at hk;cases hh:kd a.op a.fl<;>rw[hh]at hk<;>cases hk
 simp only[atJ,S]at n;obtain⟨i,B⟩:=n;have r:∀d,a.dst=some d->looks oi d=false:=by intro d hd;rw[hd]at i;simp at i;exact i.1
 have hd:∀d,a.dst=some d->oi.dst≠some d:=by intro d hd;rw[hd]at i;simp at i;exact i.2
 have k:∀d,oi.dst=some d->looks a d=false:=by intro d hd;rw[hd]at B;simpa using B
 obtain⟨env,M⟩:=s;rw[aoV]at h⊢;simp only at h⊢;cases j:aAb env a.g with
 |none=>rw[j]at h;exact h.elim
 |some H=>
  rw[j]at h;cases H with
  |false=>
   simp only at h;rw[aoV]at h;simp only[(aoH (M:=M) (M':=M) r).1,(aoH (M:=M) (M':=M) r).2]at h;cases l:aAb env oi.g with
   |none=>rw[l]at h;exact h.elim
   |some u=>
    rw[l]at h;cases u with
    |false=>
     simp only at h⊢;rw[aoV];simp only[(aoH (M:=M) (M':=M) k).2,j];exact q.use h (apy hd) rfl
    |true=>
     simp only at h⊢;obtain⟨E,L⟩:=h;obtain⟨R,_,D⟩:=aFk (C:=C) p E;obtain⟨v,M',r1,r2⟩:=(D _ _ _).1 L;refine⟨E,(D _ _ _).2 ⟨v,M',r1,?_⟩⟩;rw[aoV];simp only[(aoH (M:=M) (M':=M') k).2,j];exact q.use r2 (apy hd) rfl
  |true=>
   simp only at h;obtain⟨f,y⟩:=h;obtain⟨T,O,c⟩:=aFk (C:=C) z f;obtain⟨F,t,r1,h⟩:=(c _ _ _).1 y;rw[aoV]at h;simp only[(aoH (M:=M) (M':=t) r).1,(aoH (M:=M) (M':=t) r).2]at h;cases l:aAb env oi.g with
   |none=>rw[l]at h;exact h.elim
   |some u=>
    rw[l]at h;cases u with
    |false=>
     simp only at h⊢;rw[aoV];simp only[(aoH (M:=M) (M':=M) k).1,(aoH (M:=M) (M':=M) k).2,j];exact⟨f,(c _ _ _).2 ⟨F,t,r1,q.use h (apy hd) rfl⟩⟩
    |true=>
     simp only at h⊢;obtain⟨o,w⟩:=h;obtain⟨Q,N,m⟩:=aFk (C:=C) p o;obtain⟨P,G,r2,h⟩:=(m _ _ _).1 w;obtain⟨b,I,J⟩:=aPB hk O N _ _ _ _ _ r1 r2;refine⟨o,(m _ _ _).2 ⟨P,b,I,?_⟩⟩;rw[aoV];simp only[(aoH (M:=M) (M':=b) k).1,(aoH (M:=M) (M':=b) k).2,j];exact⟨f,(c _ _ _).2 ⟨F,G,J,q.use h (apy hd) rfl⟩⟩
def SY.mono {b:Nat}{args:List PV}{M:Mem}{K i:PV->Mem->Prop}{KP:DV->Mem->Prop}(h:SY C b args M K KP)(hk:∀v M',K v M'->i v M'):SY C b args M i KP:=by
 intro X w E f l o n q;obtain⟨fn,d,a,body,h1,h2⟩:=h X w E f l o n q;refine⟨fn,d,a,body,h1,h2.mono fun e w' g=> ?_⟩;cases e with
 |returned v=>obtain⟨p,M',j,k,m⟩:=g;exact⟨p,M',j,hk _ _ k,m⟩
 |panicked c=>exact g
 |outgrown=>exact g
def aqB {f:Bool}{l:List PV}{K b:Option Int->List PV->Prop}(hk:∀a l,K a l->b a l)(h:aoS f l K):aoS f l b:=by
 unfold aoS at h⊢
 split at h
 ·exact hk _ _ h
 ·exact hk _ _ h
 ·exact h.elim
variable{op:POp}{args:List PV}
def ayj {K I:PV->Mem->Prop}(hk:∀v M',K v M'->I v M')(h:anG C base op args M K KP):anG C base op args M I KP:=by
 by_cases j:∃fl,kd op fl≠ .x/\avH base fl args
 ·obtain⟨fl,h1,h2⟩:=j
  obtain⟨R,_,J⟩:=aFk (C:=C) h1 h2;obtain⟨v,M',r,k⟩:=(J _ _ _).1 h;exact(J _ _ _).2 ⟨v,M',r,hk _ _ k⟩
 ·have F:kd op 0= .x:=by
   by_cases hh:kd op 0= .x
   ·exact hh
   ·exact absurd ⟨0,hh,trivial⟩ j
  cases op with
  |aIM sz=>
   simp only[anG]at h⊢
   split at h
   ·exact⟨h.1,h.2.1,h.2.2.1,hk _ _ h.2.2.2⟩
   ·exact hk _ _ h
   ·exact h.elim
  |aoM sz zs S=>
   simp only[anG]at h⊢
   split at h
   ·rename_i ds e
    try simp only[e]
    split at h
    ·rename_i H o;(try simp only[o]);exact hk _ _ h
    ·exact h.elim
   ·exact h.elim
  |store n=>
   simp only[anG]at h⊢
   split at h
   ·rename_i x y
    simp only[apJ]at h⊢
    split at h
    ·split at h
     ·rename_i cs E;(try simp only[E]);exact⟨h.1,h.2.1,h.2.2.1,h.2.2.2.1,hk _ _ h.2.2.2.2⟩
     ·exact h.elim
    ·split at h
     ·rename_i A ds D e;(try simp only[D,e]);exact⟨h.1,h.2.1,h.2.2.1,h.2.2.2.1,h.2.2.2.2.1,hk _ _ h.2.2.2.2.2⟩
     ·exact h.elim
    ·exact h.elim
   ·exact h.elim
  |mkI t=>
   simp only[anG]at h⊢
   split at h
   ·split at h
    ·rename_i d hd;(try simp only[hd]);exact hk _ _ h
    ·exact h.elim
   ·exact h.elim
  |aCO lo Q=>
   simp only[anG,avN]at h⊢
   split at h
   ·refine aqB (fun a l=>aqB fun b l=>aqB fun m l hh=> ?_) h
    exact⟨hh.1,hh.2.1,hh.2.2.1,hh.2.2.2.1,hh.2.2.2.2.1,hk _ _ hh.2.2.2.2.2⟩
   ·exact h.elim
  |axG sz lo Q W=>
   simp only[anG,awV]at h⊢
   split at h
   ·refine aqB (fun a l=>aqB fun b l=>aqB fun m l hh=> ?_) h
    exact⟨hh.1,hh.2.1,hh.2.2.1,hh.2.2.2.1,hh.2.2.2.2.1,hh.2.2.2.2.2.1,hk _ _ hh.2.2.2.2.2.2⟩
   ·refine aqB (fun a l=>aqB fun b l=>aqB fun m l hh=> ?_) h
    refine⟨hh.1,?_⟩;have h2:=hh.2
    split at h2
    ·rename_i A D
     try simp only[D]
     split at h2
     ·exact⟨h2.1,h2.2.1,h2.2.2.1,h2.2.2.2.1,hk _ _ h2.2.2.2.2⟩
     ·exact⟨h2.1,h2.2.1,h2.2.2.1,h2.2.2.2.1,h2.2.2.2.2.1,hk _ _ h2.2.2.2.2.2⟩
    ·exact h2.elim
   ·exact h.elim
  |call f=>exact SC.mono h hk
  |aBq f=>
   obtain⟨P,h1,h2,g⟩:=h;exact⟨P,h1,h2,fun p M' q=>hk _ _ (g p M' q)⟩
  |ays agg n f=>
   cases args with
   |nil=>exact h
   |cons a L=>
    simp only[anG]at h⊢;obtain⟨v,h1,h2⟩:=aqj.1 h;exact aqj.2 ⟨v,h1,SC.mono h2 fun p M' hh=>⟨hh.1,hk _ _ hh.2⟩⟩
  |b2s=>
   simp only[anG]at h⊢
   split at h
   ·rename_i x
    cases j:auD 0 x M with
    |none=>simp only[j]at h
    |some H=>
     simp only[j]at h⊢;cases c:bytesOf H with
     |none=>simp only[c]at h
     |some l=>simp only[c]at h⊢;exact hk _ _ h
   ·exact h.elim
  |atD f=>
   obtain⟨ds,h1,r,ass,h2,g⟩:=h;refine⟨ds,h1,r,ass,h2,g.imp ?_ ?_⟩
   ·rintro⟨x,w,B,N,O⟩;exact⟨x,w,B,N,hk _ _ O⟩
   ·rintro⟨w,B⟩;exact⟨w,hk _ _ B⟩
  |apl f=>
   obtain⟨ds,h1,x,h2,g,u⟩:=h;exact⟨ds,h1,x,h2,g,hk _ _ u⟩
  |auN f=>
   obtain⟨ds,h1,r,ass,x,h2,g,u⟩:=h;exact⟨ds,h1,r,ass,x,h2,g,hk _ _ u⟩
  |aqg=>
   simp only[anG]at h⊢
   split at h
   ·exact⟨h.1,h.2.mono hk⟩
   ·exact⟨h.1,h.2.mono hk⟩
   ·exact SY.mono h hk
   ·exact h.elim
  |axX neq=>
   simp only[anG]at h⊢
   split at h
   ·exact hk _ _ h
   ·exact hk _ _ h
   ·exact h.elim
  |rngS i=>
   simp only[anG]at h⊢
   split at h
   ·exact⟨h.1,hk _ _ h.2⟩
   ·exact h.elim
  |aKY=>
   simp only[anG]at h⊢
   split at h
   ·rename_i b
    cases c:M.box b with
    |none=>simp only[c]at h
    |some cs=>
     simp only[c]at h⊢
     split at h
     ·rename_i s pos U
      refine⟨h.1,?_⟩;have h2:=h.2
      split at h2
      ·rename_i q;rw[if_pos q];exact hk _ _ h2
      ·rename_i q;rw[if_neg q];exact hk _ _ h2
     ·exact h.elim
   ·exact h.elim
  |inv name=>
   simp only[anG]at h⊢
   split at h
   ·obtain⟨f,h1,h2,g⟩:=h
    exact⟨f,h1,h2,g.mono hk⟩
   ·exact h.elim
  |arY sz zs S=>
   simp only[anG]at h⊢
   split at h
   ·rename_i ds e
    try simp only[e]
    split at h
    ·rename_i H o;(try simp only[o]);exact⟨h.1,h.2.1,hk _ _ h.2.2⟩
    ·exact h.elim
   ·exact h.elim
  |mkMap i=>
   simp only[anG]at h⊢
   split at h
   ·exact⟨h.1,hk _ _ h.2⟩
   ·exact h.elim
  |aNj G=>
   simp only[anG]at h⊢
   split at h
   ·rename_i b k v
    cases c:M.box b with
    |none=>simp only[c]at h
    |some cs=>
     simp only[c]at h⊢
     split at h
     ·rename_i l T
      refine⟨h.1,?_⟩;have h2:=h.2
      split at h2
      ·rename_i V g u;exact hk _ _ h2
      ·exact h2.elim
     ·exact h.elim
   ·exact h.elim
  |aAd ok G z=>
   simp only[anG]at h⊢
   split at h
   ·split at h
    ·rename_i h1 h2;(try simp only[h1,h2]);exact hk _ _ h
    ·exact h.elim
   ·rename_i b k
    cases c:M.box b with
    |none=>simp only[c]at h
    |some cs=>
     simp only[c]at h⊢
     split at h
     ·split at h
      ·exact hk _ _ h
      ·exact h.elim
     ·exact h.elim
   ·exact h.elim
  |aNi G=>
   simp only[anG]at h⊢
   split at h
   ·rename_i b k v
    cases c:M.box b with
    |none=>simp only[c]at h
    |some cs=>
     simp only[c]at h⊢
     split at h
     ·refine⟨h.1,?_⟩
      have h2:=h.2
      split at h2
      ·exact hk _ _ h2
      ·exact h2.elim
     ·exact h.elim
   ·exact h.elim
  |aNg G=>
   simp only[anG]at h⊢
   split at h
   ·rename_i b k
    cases c:M.box b with
    |none=>simp only[c]at h
    |some cs=>
     simp only[c]at h⊢
     split at h
     ·refine⟨h.1,?_⟩
      have h2:=h.2
      split at h2
      ·exact hk _ _ h2
      ·exact h2.elim
     ·exact h.elim
   ·exact h.elim
  |isNil neq=>
   simp only[anG]at h⊢
   split at h
   ·exact⟨fun j=>hk _ _ (h.1 j),fun j b=>hk _ _ (h.2 j b)⟩
   ·exact h.elim
  |panic=>exact h
  | _=>simp[kd]at F
def aGT {a:St->Prop}(hk:∀s,K s->a s)(h:aoT C base o K KP s):aoT C base o a KP s:=by
 rw[aoV]at h⊢;cases c:aAb s.env o.g with
 |none=>rw[c]at h;exact h
 |some b=>
  rw[c]at h;cases b with
  |false=>exact hk _ h
  |true=>exact⟨h.1,ayj (fun v M' hh=>hk _ hh) h.2⟩
def aWq {a:St}(h:∀t,look s.env t=look a.env t)(args:List Opd):args.map s.val=args.map a.val:=by
 refine aJ fun x _=> ?_
 cases x with
 |c d=>rfl
 |t n=>exact h n
def aBO {a:List (Nat×PV)}(h:∀t,look env t=look a t)(dst:Option Nat)(v:PV)(t:Nat):look (put env dst v) t=look (put a dst v) t:=by
 cases dst with
 |none=>exact h t
 |some d=>simp only[put,look,h]
def aQE (d:Ext K):Ext (aoT C base o K KP):=by
 intro s j c i h;rw[aoV]at h⊢;have f:aAb j.env o.g=aAb s.env o.g:=by
  cases o.g with
  |none=>rfl
  |some q=>obtain⟨t,e⟩:=q;simp only[aAb,c]
 rw[f,<-aWq c,<-i];cases a:aAb s.env o.g with
 |none=>rw[a]at h;exact h
 |some b=>
  rw[a]at h;cases b with
  |false=>exact d.use h (aBO c _ _) rfl
  |true=>exact⟨h.1,ayj (K:=fun v M=>K ⟨put s.env o.dst v,M⟩) (fun v M' hh=>d.use hh (aBO c _ _) rfl) h.2⟩
def aRJ {fl:Nat}(h:op= .mov\/(fl=1/\∃ag n,op= .load ag n))(hf:avH base fl args):∃(c:Prop) (v:PV),∀M K KP,anG C base op args M K KP↔c/\K v M:=by
 rcases h with rfl|⟨rfl,ag,n,rfl⟩
 ·rcases args with _|⟨x,_|⟨y,l⟩⟩
  ·exact⟨False, .dead,fun M K KP=>by simp[anG]⟩
  ·exact⟨True,x,fun M K KP=>by simp[anG]⟩
  ·exact⟨False, .dead,fun M K KP=>by simp[anG]⟩
 ·obtain⟨ds,rfl⟩:=arA (args:=args) hf
  rcases ds with _|⟨x,_|⟨y,l⟩⟩
  ·exact⟨False, .dead,fun M K KP=>by simp[anG]⟩
  ·cases x with
   |anY cs=>exact⟨n<=cs.length,_,fun M K KP=>by simp only[U,aj,anG,aol];exact Z⟩
   | _=>exact⟨False, .dead,fun M K KP=>by simp[anG,aol]⟩
  ·exact⟨False, .dead,fun M K KP=>by simp[anG]⟩
def aTX {a oi:PO}{f:FuncId}(j:a.op= .aBq f)(u:oi.op= .mov\/(oi.fl=1/\∃ag n,oi.op= .load ag n))(t:atJ a oi=true){K:St->Prop}{KP:DV->Mem->Prop}(y:Ext K)(s:St)
  (h:aoT C base a (fun E=>aoT C base oi K KP E) KP s):aoT C base oi (fun E=>aoT C base a K KP E) KP s:=by
 simp only[atJ,S]at t;obtain⟨l,F⟩:=t;have i:∀d,a.dst=some d->looks oi d=false:=by intro d hd;rw[hd]at l;simp at l;exact l.1
 have hd:∀d,a.dst=some d->oi.dst≠some d:=by intro d hd;rw[hd]at l;simp at l;exact l.2
 have r:∀d,oi.dst=some d->looks a d=false:=by intro d hd;rw[hd]at F;simpa using F
 obtain⟨env,M⟩:=s;rw[aoV]at h⊢;simp only at h⊢;cases m:aAb env a.g with
 |none=>rw[m]at h;exact h.elim
 |some I=>
  rw[m]at h;cases I with
  |false=>
   simp only at h;rw[aoV]at h;simp only[(aoH (M:=M) (M':=M) i).1,(aoH (M:=M) (M':=M) i).2]at h;cases e:aAb env oi.g with
   |none=>rw[e]at h;exact h.elim
   |some z=>
    rw[e]at h;cases z with
    |false=>
     simp only at h⊢;rw[aoV];simp only[(aoH (M:=M) (M':=M) r).2,m];exact y.use h (apy hd) rfl
    |true=>
     simp only at h⊢;obtain⟨G,J⟩:=h;obtain⟨c,v,o⟩:=aRJ (C:=C) u G;obtain⟨r1,r2⟩:=(o _ _ _).1 J;refine⟨G,(o _ _ _).2 ⟨r1,?_⟩⟩;rw[aoV];simp only[(aoH (M:=M) (M':=M) r).2,m];exact y.use r2 (apy hd) rfl
  |true=>
   simp only[j]at h;obtain⟨x,P,H,⟨q,N,B⟩,D⟩:=h;have b:aoT C base oi K KP ⟨put env a.dst q,N⟩:=D q N B;rw[aoV]at b;simp only[(aoH (M:=M) (M':=N) i).1,(aoH (M:=M) (M':=N) i).2]at b;cases e:aAb env oi.g with
   |none=>rw[e]at b;exact b.elim
   |some z=>
    rw[e]at b;cases z with
    |false=>
     simp only;rw[aoV];simp only[(aoH (M:=M) (M':=M) r).1,(aoH (M:=M) (M':=M) r).2,m,j];refine⟨x,P,H,⟨q,N,B⟩,fun p M' A=> ?_⟩;have k:aoT C base oi K KP ⟨put env a.dst p,M'⟩:=D p M' A;rw[aoV]at k;simp only[(aoH (M:=M) (M':=M') i).2,e]at k;exact y.use k (apy hd) rfl
    |true=>
     simp only at b⊢;obtain⟨w,b⟩:=b;obtain⟨c,v,o⟩:=aRJ (C:=C) u w;refine⟨w,(o _ _ _).2 ⟨((o _ _ _).1 b).1,?_⟩⟩;rw[aoV];simp only[(aoH (M:=M) (M':=M) r).1,(aoH (M:=M) (M':=M) r).2,m,j];refine⟨x,P,H,⟨q,N,B⟩,fun p M' A=> ?_⟩;have k:aoT C base oi K KP ⟨put env a.dst p,M'⟩:=D p M' A;rw[aoV]at k;simp only[(aoH (M:=M) (M':=M') i).1,(aoH (M:=M) (M':=M') i).2,e]at k;exact y.use ((o _ _ _).1 k.2).2 (apy hd) rfl
def aWQ (q p:PO):Bool:=
 match q.op,p.op,q.args,p.args with
 | .load ag n, .ays c d _,[.t a], .t b::_=>ag==c&&n==d&&a==b&&q.fl==0&&p.fl==0&&q.g.isNone&&p.g.isNone
 | .ays ag n _, .load c d, .t a::_,[.t b]=>ag==c&&n==d&&a==b&&q.fl==0&&p.fl==0&&q.g.isNone&&p.g.isNone
 | .aBq _, .mov,_,_=>true
 | .aBq _, .load _ _,_,_=>p.fl==1
 | _,_,_,_=>false
def aG8 (q p:PO):Bool:=(kd q.op q.fl).swap (kd p.op p.fl)||aWQ q p
def aKP {agg:Bool}{n:Nat}{x:PV}{b:PV}(h:aol agg n x M fun u=>v=u)(h':aol agg n x M fun u=>b=u):v=b:=by
 unfold aol at h h'
 split at h
 ·split at h
  ·rename_i a;simp only[a]at h';rw[h.2,h'.2]
  ·exact h.elim
 ·rw[h.2,h'.2]
 ·split at h
  ·rename_i a;simp only[a]at h';rw[h.2,h'.2]
  ·exact h.elim
 ·exact h.elim
def avd (a:o.g=none)(hf:o.fl=0):aoT C base o K KP s↔anG C base o.op (o.args.map s.val) s.mem (fun v M=>K ⟨put s.env o.dst v,M⟩) KP:=by
 unfold aoT;rw[a,hf];exact⟨fun h=>h.2,fun h=>⟨trivial,h⟩⟩
def aTY {g oi:PO}(hk:aG8 g oi=true)(e:atJ g oi=true){K:St->Prop}{KP:DV->Mem->Prop}(q:Ext K)(s:St)
  (h:aoT C base g (fun B=>aoT C base oi K KP B) KP s):aoT C base oi (fun B=>aoT C base g K KP B) KP s:=by
 simp only[aG8,aC]at hk
 rcases hk with hk|hk
 ·exact aWk hk e q s h
 simp only[atJ,S]at e;obtain⟨c,u⟩:=e;have E:∀d,g.dst=some d->looks oi d=false:=by intro d hd;rw[hd]at c;simp at c;exact c.1
 have hd:∀d,g.dst=some d->oi.dst≠some d:=by intro d hd;rw[hd]at c;simp at c;exact c.2
 have D:∀d,oi.dst=some d->looks g d=false:=by intro d hd;rw[hd]at u;simpa using u
 obtain⟨env,M⟩:=s;unfold aWQ at hk
 split at hk
 ·rename_i ag n z H f a b r h1 h2 o w
  simp only[S,beq_iff_eq,ay]at hk;obtain⟨⟨⟨⟨⟨⟨rfl,rfl⟩,rfl⟩,j⟩,k⟩,l⟩,m⟩:=hk;rw[avd l j]at h;rw[avd m k];simp only[h1,o,U,aj,anG]at h;obtain⟨v,x,i⟩:=aqj.1 h;rw[avd m k]at i;simp only[(aoH (M:=M) (M':=M) E).1]at i;simp only[h2,w,U,anG]at i⊢;obtain⟨J,F,I⟩:=aqj.1 i;refine aqj.2 ⟨J,F,SC.mono I fun p M' hh=>⟨hh.1,?_⟩⟩;rw[avd l j];simp only[(aoH (M:=M) (M':=M') D).1];simp only[h1,o,U,aj,anG];obtain⟨G,r1,r2⟩:=aqj.1 hh.1;have A:=aKP x F;refine aqj.2 ⟨G,r1,q.use hh.2 (fun t=> ?_) rfl⟩;rw[r2,<-A];exact apy hd t
 ·rename_i ag n f z H a r b h1 h2 o w
  simp only[S,beq_iff_eq,ay]at hk;obtain⟨⟨⟨⟨⟨⟨rfl,rfl⟩,rfl⟩,j⟩,k⟩,l⟩,m⟩:=hk;rw[avd l j]at h;rw[avd m k];simp only[h1,o,U,anG]at h;obtain⟨v,x,i⟩:=aqj.1 h;simp only[h2,w,U,aj,anG];refine aqj.2 ⟨v,x,?_⟩;rw[avd l j];simp only[(aoH (M:=M) (M':=M) D).1];simp only[h1,o,U,anG];refine aqj.2 ⟨v,x,SC.mono i fun p M' hh=>⟨hh.1,?_⟩⟩;have y:=hh.2;rw[avd m k]at y;simp only[(aoH (M:=M) (M':=M') E).1]at y;simp only[h2,w,U,aj,anG]at y;obtain⟨G,r1,r2⟩:=aqj.1 y;obtain⟨L,r3,r4⟩:=aqj.1 hh.1;have A:=aKP r1 r3;refine q.use r2 (fun t=> ?_) rfl;rw[A,r4];exact apy hd t
 ·rename_i f h1 h2
  exact aTX h1 (.inl h2) (by simp only[atJ,S];exact⟨c,u⟩) q ⟨env,M⟩ h
 ·rename_i f ag n h1 h2
  exact aTX h1 (.inr ⟨by simpa using hk,ag,n,h2⟩) (by simp only[atJ,S];exact⟨c,u⟩) q ⟨env,M⟩ h
 ·cases hk
def aHx (C:Ctx)(base:Nat)(ps:List PO):List Nat->(St->Prop)->(DV->Mem->Prop)->St->Prop
 | [],K,_,s=>K s
 |i::l,K,KP,s=>match ps[i]? with
  |some p=>aoT C base p (fun a=>aHx C base ps l K KP a) KP s
  |none=>False
def aLz {ps:List PO}{K:St->Prop}{KP:DV->Mem->Prop}(a:Ext K):∀l,Ext (aHx C base ps l K KP)
 | []=>a
 |i::l=>by
  intro s d b c h;simp only[aHx]at h⊢
  split at h
  ·rename_i p e;exact aQE (aLz a l) s d b c h
  ·exact h.elim
def aGR {ps:List PO}{i:Nat}{p:PO}(d:ps[i]?=some p){K:St->Prop}{KP:DV->Mem->Prop}(b:Ext K){l2:List Nat}:∀{l1:List Nat} (_:∀j∈l1,∀q,ps[j]?=some q->aG8 q p=true/\atJ q p=true) {s:St},
  aHx C base ps (l1++i::l2) K KP s->aoT C base p (fun f=>aHx C base ps (l1++l2) K KP f) KP s
 | [],_,s,h=>by simpa[aHx,d]using h
 |j::l1,c,s,h=>by
  simp only[aB,aHx]at h⊢
  split at h
  ·rename_i q e
   obtain⟨g,k⟩:=c j (by simp) q e
   try simp only[e]
   exact aTY g k (aLz b _) s (aGT (fun f l=>aGR d b (fun m a=>c m (by simp[a])) l) h)
  ·exact h.elim
def aGS {ps:List PO}{K:St->Prop}{KP:DV->Mem->Prop}:∀(n k:Nat) (s:St),k+n=ps.length->auQ C base (ps.drop k) K KP s->aHx C base ps (aP k n) K KP s
 |0,k,s,c,h=>by
  rw[List.drop_eq_nil_of_le (by omega)]at h;exact h
 |n+1,k,s,c,h=>by
  have a:k<ps.length:=by omega
  rw[List.drop_eq_getElem_cons a]at h;simp only[aN,aHx,ai a];exact aGT (fun d b=>aGS n (k+1) d (by omega) b) h
end
def aua (o:Oper):List Nat:=(o.after.toList.filter (Region.binds .any)).map (·.on)
def aDl (a:List Nat)(ps:List Nat):Nat:=ps.foldl (fun m k=>m|||(1<<<k)|||a.getD k 0) 0
def aMt:List (List Nat)->List Nat->List Nat
 | [],a=>a
 |c::b,a=>aMt b (a++ [aDl a c])
def aOy (a:List Nat)(ps:List PO):Bool:=
 (aX ps.length).all fun i=>(aX i).all fun j=>(a.getD i 0).testBit j||match ps[j]?,ps[i]? with
  |some q,some p=>aG8 q p&&atJ q p
  | _,_=>false
def aJk (ops:Array Oper)(ps:List PO):Bool:=
 let a:=ops.toList.map aua
 (a.zipIdx.all fun(l,i)=>l.all fun k=>decide (k<i))&&aOy (aMt a []) ps
inductive Rch (pre:List (List Nat)):Nat->Nat->Prop
 |one {j i:Nat} {l:List Nat} (hl:pre[i]?=some l) (h:j∈l):Rch pre j i
 |step {j k i:Nat} {l:List Nat} (hl:pre[i]?=some l) (h:k∈l) (t:Rch pre j k):Rch pre j i
def aKS {pre:List (List Nat)}{b:List Nat}{i:Nat}{l:List Nat}(hl:pre[i]?=some l)(c:∀k j,(b.getD k 0).testBit j=true->Rch pre j k){j:Nat}(h:(aDl b l).testBit j=true):Rch pre j i:=by
 have n:∀(d:List Nat) (m:Nat),(∀k∈d,k∈l)->(m.testBit j=true->Rch pre j i)->(d.foldl (fun m k=>m|||(1<<<k)|||b.getD k 0) m).testBit j=true->Rch pre j i:=by
  intro d
  induction d with
  |nil=>intro m _ g h;exact g h
  |cons k d o=>
   intro m e g h;refine o _ (fun p f=>e p (by simp[f])) (fun a=> ?_) h;simp only[Nat.testBit_or,aC]at a
   rcases a with(a|a)|a
   ·exact g a
   ·rw[Nat.one_shiftLeft,Nat.testBit_two_pow]at a
    simp only[decide_eq_true_eq]at a;subst a;exact .one hl (e _ (by simp))
   ·exact .step hl (e k (by simp)) (c k j a)
 exact n l 0 (fun _ h=>h) (fun h=>by simp at h) h
def aDU {pre:List (List Nat)}:∀(rest:List (List Nat)) (a:List Nat),(∀j,rest[j]?=pre[a.length+j]?)->(∀k j,(a.getD k 0).testBit j=true->Rch pre j k)->
  ∀k j,((aMt rest a).getD k 0).testBit j=true->Rch pre j k
 | [],a,_,h=>h
 |l::rest,a,d,h=>by
  refine aDU rest _ (fun j=> ?_) fun k j b=> ?_
  ·have:=d (j+1)
   simp only[List.getElem?_cons_succ]at this;rw[this];simp only[aL,List.length_singleton];congr 1;omega
  ·by_cases e:k<a.length
   ·have:(a++ [aDl a l]).getD k 0=a.getD k 0:=by simp[a7,List.getElem?_append_left e]
    rw[this]at b;exact h k j b
   ·by_cases c:k=a.length
    ·subst c
     have:(a++ [aDl a l]).getD a.length 0=aDl a l:=by simp[a7]
     rw[this]at b;exact aKS (by have:=d 0;simpa using this.symm) h b
    ·have:(a++ [aDl a l]).getD k 0=0:=by
      rw[a7,aE (by simp;omega)];rfl
     rw[this]at b;simp at b
section
variable {C:Ctx}{X:Nat->Prop}{w:World}{E:Emb}{lo:Lo}{ro:Option Nat}
structure Done (ops:Array Oper) (listed:Array Bool) (rest:List Nat):Prop where
 size:listed.size=ops.size
 mem:∀j,j∈rest↔(j<ops.size/\listed.getD j true=false)
 sorted:rest.Pairwise (·<·)
 closed:∀j o,ops[j]?=some o->listed.getD j false=true->∀k∈aua o,listed.getD k false=true
def aDm {o:Oper}{k:Nat}:k∈aua o↔∃e∈o.after,Region.binds .any e=true/\e.on=k:=by
 simp[aua,and_assoc]
variable{ops:Array Oper}
def aNC {listed:Array Bool}{rest:List Nat}(hd:Done ops listed rest){j i:Nat}(h:Rch (ops.toList.map aua) j i):
  (∀o,ops[i]?=some o->∀k∈aua o,listed.getD k false=true)->listed.getD j false=true:=by
 induction h with
 |one a h=>
  intro b;simp only[aq,ae,ah]at a;obtain⟨o,c,rfl⟩:=a;exact b o c _ h
 |step a h t f=>
  intro b;simp only[aq,ae,ah]at a;obtain⟨o,c,rfl⟩:=a;have e:=b o c _ h;exact f fun g d=>hd.closed _ g d e
def aO9 {n:Nat}(aj:∀q,lo.fx=some q->∀o∈ops,o.dst≠some q.1){ps:List PO}(ax:aBV C.P n ops ops.toList ps=true)(M:aJk ops ps=true){base:Nat}{K:St->Prop}{KP:DV->Mem->Prop}{Q:Exit->Act->World->Prop}{w₀:World}{M₀:Mem}{E₀:Emb}
  (O:Ext K)
  (hK:∀s' t w' E',K s'->InS C X lo n s' t w' E'->From w₀ M₀ E₀ w' s'.mem E'->Q .normal t w')
  (ac:∀d M' t w' E' v,KP d M'->Sim C X w' M' E'->From w₀ M₀ E₀ w' M' E'->aof w' (away X M' E') v d->okD lo X t.defers w'->(∀q,lo.fx=some q->t.eval (.tmp q.1)=q.2)->Q (.panic [{v,recovered:=false}]) t w'):
  ∀(f:Nat) (rest:List Nat) (listed:Array Bool),f=rest.length->Done ops listed rest->∀(s:St) (a:Act) (w:World) (E:Emb),InS C X lo n s a w E->From w₀ M₀ E₀ w s.mem E->aHx C base ps rest K KP s->
   wpAnyIn (RF ro) 0 C.P .any ops Q f listed a w:=by
 obtain⟨W,R⟩:=az0 ax;simp only[Array.length_toList]at W;simp only[aJk,S]at M;obtain⟨G,aSk⟩:=M;have au:∀i o,ops[i]?=some o->∀k∈aua o,k<i:=by
  intro i o A k I;simp only[aA]at G;have:=G (aua o,i) (by
   rw[List.mem_zipIdx_iff_getElem?];simp[A])
  simp only[decide_eq_true_eq]at this;exact this k I
 have a0d:=aDU (pre:=ops.toList.map aua) (ops.toList.map aua) [] (fun j=>by simp) (fun k j h=>by simp at h);have aZl:∀i j q p,j<i->ps[j]?=some q->ps[i]?=some p->Rch (ops.toList.map aua) j i\/(aG8 q p=true/\atJ q p=true):=by
  intro i j q p c hq hp;simp only[aOy,aA,List.mem_range,aC]at aSk;have hi:i<ps.length:=(an.1 hp).1
  rcases aSk i hi j c with h|h
  ·exact .inl (a0d i j h)
  ·rw[hq,hp]at h
   simp only[S]at h;exact .inr h
 intro f
 induction f with
 |zero=>
  intro rest listed hf hd s a w E h u hr;have:rest=[]:=List.length_eq_zero_iff.1 hf.symm;subst this;refine⟨?_,hK s a w E hr h u⟩;cases ay:Region.ready .any ops listed with
  |nil=>rfl
  |cons i l=>
   have F:i∈Region.ready .any ops listed:=by rw[ay];simp
   rw[mem_ready]at F;obtain⟨h0,o,A,_⟩:=F;have:=(hd.mem i).2 ⟨(aw.1 A).1,h0⟩;cases this
 |succ f ih=>
  intro rest listed hf hd s a w E h u hr;refine⟨fun Z=> ?_,fun i hi=> ?_⟩
  ·exfalso
   cases rest with
   |nil=>simp at hf
   |cons i l=>
    obtain⟨z,aq⟩:=(hd.mem i).1 (by simp);have:i∈Region.ready .any ops listed:=by
     rw[mem_ready];refine⟨aq,ops[i],am z,fun e N L=> ?_⟩;have I:=au i ops[i] (am z) e.on (aDm.2 ⟨e,N,L,rfl⟩);cases V:listed.getD e.on false with
     |true=>rfl
     |false=>
      have r:e.on<listed.size:=by rw[hd.size];omega
      have H:listed.getD e.on true=false:=by
       simp only[Y,am r,aO]at V⊢;exact V
      have m:=(hd.mem e.on).2 ⟨by omega,H⟩
      rcases az.1 m with aD|m
      ·omega
      ·have:=(ak.1 hd.sorted).1 _ m
       omega
    rw[Z]at this;cases this
  ·obtain⟨ap,o,A,B⟩:=mem_ready.1 hi
   have z:i<ops.size:=(aw.1 A).1;have m:=(hd.mem i).2 ⟨z,ap⟩;obtain⟨l1,l2,rfl⟩:=List.append_of_mem m;have J:i<ps.length:=by omega
   obtain⟨o',ab,a0x⟩:=R i ps[i] (ai J);rw[ah,A]at ab;cases ab;have b:=aH.1 hd.sorted;have aXW:=aGR (C:=C) (base:=base) (ai J) O (l1:=l1) (l2:=l2) (fun j D q hq=>by
    have c:j<i:=b.2.2 j D i (by simp)
    rcases aZl i j q ps[i] c hq (ai J)with hr|hc
    ·exfalso
     have V:=aNC hd hr fun o2 g k I=>by
      rw[A]at g;cases g;obtain⟨e,N,L,rfl⟩:=aDm.1 I;exact B e N L
     have T:=(hd.mem j).1 (by simp[D]);have r:j<listed.size:=by rw[hd.size];exact T.1
     have H:=T.2;simp only[Y,am r,aO]at V H;rw[V]at H;cases H
    ·exact hc) hr
   refine aK5 aj A a0x h aXW (fun s' t w' E' aB ao ae=> ?_) (fun d M' t w' E' v h1 h2 H h4 h5=>ac d M' t w' E' v h1 h2 (u.trans H) h4 h5);refine ih (l1++l2) (listed.setIfInBounds i true) (by simp at hf⊢;omega) ?_ s' t w' E' ao (u.trans ae) aB;have aE:=hd.sorted;refine⟨by simp[hd.size],fun j=> ?_,?_,fun j o2 g U k I=> ?_⟩
   ·by_cases c:j=i
    ·subst c
     constructor
     ·intro D
      exfalso
      rcases av.1 D with D|D
      ·exact absurd (b.2.2 j D j (by simp)) (by omega)
      ·exact absurd ((ak.1 b.2.1).1 j D) (by omega)
     ·rintro⟨h1,h2⟩
      exfalso
      have r:j<listed.size:=by rw[hd.size];exact h1
      simp[r]at h2
    ·rw[getD_set_ne true (Ne.symm c)]
     have:=hd.mem j;simp only[av,az,c,false_or]at this⊢;exact this
   ·refine aH.2 ⟨b.1,(ak.1 b.2.1).2,fun x hx y hy=>b.2.2 x hx y (by simp[hy])⟩
   ·by_cases c:j=i
    ·subst c
     rw[A]at g;cases g;obtain⟨e,N,L,rfl⟩:=aDm.1 I;exact getD_set_true (B e N L)
    ·rw[getD_set_ne false (Ne.symm c)]at U
     exact getD_set_true (hd.closed j o2 g U k I)
def aMy {n:Nat}(l:∀q,lo.fx=some q->∀o∈ops,o.dst≠some q.1){ps:List PO}(u:C.P.follows .mixedOrders=true)(g:aBV C.P n ops ops.toList ps=true)(k:aJk ops ps=true){base id:Nat}{K:St->Prop}{KP:DV->Mem->Prop}{Q:Exit->Act->World->Prop}
  {s:St}{a:Act}{w₀:World}{M₀:Mem}{E₀:Emb}(f:Ext K)(h:InS C X lo n s a w E)(hf:From w₀ M₀ E₀ w s.mem E)(x:auQ C base ps K KP s)
  (t:∀p e w' E',K p->InS C X lo n p e w' E'->From w₀ M₀ E₀ w' p.mem E'->Q .normal e w')
  (i:∀d M' e w' E' v,KP d M'->Sim C X w' M' E'->From w₀ M₀ E₀ w' M' E'->aof w' (away X M' E') v d->okD lo X e.defers w'->(∀q,lo.fx=some q->e.eval (.tmp q.1)=q.2)->Q (.panic [{v,recovered:=false}]) e w'):
  (Code.region id ops true).wpIn (RF ro) 0 C.P Q a w:=by
 refine wpIn_region_any u ?_;have c:ops.size=ps.length:=by simpa using(az0 g).1
 have r:Later w {w with drawn:=w.drawn+1}:=⟨rfl,rfl,rfl,ao _,fun _ _=>rfl⟩
 have m:=aGS (C:=C) (base:=base) (ps:=ps) (K:=K) (KP:=KP) ps.length 0 s (by simp) (by simpa using x);refine aO9 (C:=C) (X:=X) l g k f t i ops.size (aP 0 ps.length) (ap ops.size false) (by simp[c]) ?_ s a _ E (h.later r) (hf.trans (r.from s.mem E)) m;refine⟨by simp,fun j=> ?_,?_,fun j o _ b=> ?_⟩
 ·simp only[List.mem_range'_1,aR,true_and,bd,<-c]
  constructor
  ·intro b;exact⟨b,by simp[b]⟩
  ·exact fun b=>b.1
 ·exact List.pairwise_lt_range' ..
 ·exfalso
  simp[Array.getElem?_replicate]at b
  split at b<;>simp at b
end
def wpB (B:FuncId->Prop)(F:Fence)(n:Nat)(P:Program)(c:Code)(Q:Exit->Act->World->Prop)(a:Act)(w:World):Prop:=
 ∀(b:Frame) (k:List Item) (cs:List Frame),b.roundOf=F.round->F.fn b.fn->B b.fn->F.room (cs.length+1+n)->
  ∃e d w',Q e d w'/\ArrivesIn (Machine.fenced P F) P (lone (b.atR a (.code c::k)) cs w) b k cs e d w'
section
variable {B:FuncId->Prop}{F:Fence}{n:Nat}{P:Program}{Q:Exit->Act->World->Prop}{a:Act}{w:World}
variable{c:Code}
def azN (h:c.wpIn F n P Q a w):wpB B F n P c Q a w:=fun b k cs d e _ f=>h b k cs d e f
def aWt (h:wpB (fun _=>True) F n P c Q a w):c.wpIn F n P Q a w:=fun b k cs d e f=>h b k cs d e trivial f
def avh {f:Exit->Act->World->Prop}(h:wpB B F n P c Q a w)(l:∀e a w,Q e a w->f e a w):wpB B F n P c f a w:=
 fun b k cs d j i m=>let⟨e,g,w',q,r⟩:=h b k cs d j i m;⟨e,g,w',l _ _ _ q,r⟩
variable{x y:Code}
def aWu (h:wpB B F n P x (Exit.then (wpB B F n P y Q) Q) a w):wpB B F n P (Code.seq x y) Q a w:=by
 intro b k cs j o r q;have f:(lone (b.atR a (.code (.seq x y)::k)) cs w).fenced P F:=fenced_calm o q rfl;obtain⟨e,i,m,g,c⟩:=h b (.code y::k) cs j o r q;cases e with
 |normal=>
  obtain⟨t,s,u,p,d⟩:=g b k cs j o r q;exact⟨t,s,u,p, .of_steps (.head f stepR_seq c) d⟩
 |exit id=>exact⟨_,i,m,g, .of_steps (.one f stepR_seq) (.pass (x:= .code y) rfl (fun _ _=> .inl (by simp)) c)⟩
 |goto l=>exact⟨_,i,m,g, .of_steps (.one f stepR_seq) (.pass (x:= .code y) rfl (fun _ _=> .inl (by simp)) c)⟩
 |ret=>exact⟨_,i,m,g, .of_steps (.one f stepR_seq) (.pass (x:= .code y) rfl (fun _ _=> .inl (by simp)) c)⟩
 |panic v=>exact⟨_,i,m,g, .of_steps (.one f stepR_seq) (.pass (x:= .code y) rfl (fun _ _=> .inl (by simp)) c)⟩
 |outgrown=>exact⟨_,i,m,g, .of_steps (.one f stepR_seq) (.pass (x:= .code y) rfl (fun _ _=> .inl (by simp)) c)⟩
def aLZ {c:Operand}{t:Bool}(hc:a.eval c= .bool t)(h:wpB B F n P (if t then x else y) Q a w):wpB B F n P (Code.cond c x y) Q a w:=
 fun b k cs d f j g=>let⟨e,i,w',q,r⟩:=h b k cs d f j g;⟨e,i,w',q, .of_steps (.one (fenced_calm f g rfl) (stepR_cond hc)) r⟩
def aHg {c:Operand}{t:Bool}(hc:a.eval c= .bool t)(b:t=true->wpB B F n P x Q a w)
  (hf:t=false->wpB B F n P y Q a w):wpB B F n P (Code.cond c x y) Q a w:=by
 cases t
 ·exact aLZ hc (hf rfl)
 ·exact aLZ hc (b rfl)
def aQZ {id:Nat}(h:wpB B F n P c (Exit.inBlock id Q) a w):wpB B F n P (Code.block id c) Q a w:=by
 intro b k cs t r x s;have g:(lone (b.atR a (.code (.block id c)::k)) cs w).fenced P F:=fenced_calm r s rfl;obtain⟨e,j,p,i,d⟩:=h b (.inBlock id::k) cs t r x s;cases e with
 |normal=>exact⟨.normal,j,p,i, .head g stepR_block (StepsIn.trans d (.one (fenced_calm r s rfl) stepR_inBlock))⟩
 |exit f=>
  by_cases hid:f=id
  ·simp only[Exit.inBlock,hid,if_true]at i
   exact⟨.normal,j,p,i, .head g stepR_block (d.1 k (by simp[exitTo,hid]))⟩
  ·simp only[Exit.inBlock,hid,if_false]at i
   have this:(id==f)=false:=by simp;exact fun h=>hid h.symm
   have q:exitTo f (.inBlock id::k)=exitTo f k:=by simp[exitTo,this]
   exact⟨.exit f,j,p,i,fun u m=> .head g stepR_block (d.1 u (by rw[q];exact m)),
    fun o m=>let⟨v,h1,h2⟩:=d.2 o (by rw[q];exact m);⟨v,h1, .head g stepR_block h2⟩⟩
 |goto l=>
  have q:gotoIn l (.inBlock id::k)=gotoIn l k:=by simp[gotoIn]
  exact⟨_,j,p,i,fun u m=> .head g stepR_block (d.1 u (by rw[q];exact m)),
   fun o m=>let⟨v,h1,h2⟩:=d.2 o (by rw[q];exact m);⟨v,h1, .head g stepR_block h2⟩⟩
 |ret=>exact⟨_,j,p,i, .of_steps (.one g stepR_block) d⟩
 |panic y=>exact⟨_,j,p,i, .of_steps (.one g stepR_block) d⟩
 |outgrown=>exact⟨_,j,p,i, .of_steps (.one g stepR_block) d⟩
def aUc (I:Nat->Act->World->Prop)(G:Nat)(D:I G a w)
  (round:∀j a w,I j a w->wpB B F n P c (Exit.then (fun h w'=>∃o,o<j/\I o h w') Q) a w):wpB B F n P (Code.loop c) Q a w:=by
 intro b k cs u q A t;have v:∀j a w,I j a w->
   ∃e h w',Q e h w'/\ArrivesIn (Machine.fenced P F) P (lone (b.atR a (.code c:: .inLoop c::k)) cs w) b k cs e h w':=by
  intro j
  induction j using Nat.strongRecOn with
  | _ j E=>
   intro a w C;obtain⟨e,i,m,f,d⟩:=round j a w C b (.inLoop c::k) cs u q A t;cases e with
   |normal=>
    obtain⟨o,r,p⟩:=f;obtain⟨z,y,H,s,g⟩:=E o r i m p;exact⟨z,y,H,s, .of_steps (StepsIn.trans d (.one (fenced_calm q t rfl) stepR_inLoop)) g⟩
   |exit id=>exact⟨_,i,m,f, .pass (x:= .inLoop c) rfl (fun _ _=> .inl (by simp)) d⟩
   |goto l=>exact⟨_,i,m,f, .pass (x:= .inLoop c) rfl (fun _ _=> .inl (by simp)) d⟩
   |ret=>exact⟨_,i,m,f, .pass (x:= .inLoop c) rfl (fun _ _=> .inl (by simp)) d⟩
   |panic J=>exact⟨_,i,m,f, .pass (x:= .inLoop c) rfl (fun _ _=> .inl (by simp)) d⟩
   |outgrown=>exact⟨_,i,m,f, .pass (x:= .inLoop c) rfl (fun _ _=> .inl (by simp)) d⟩
 obtain⟨e,h,w',f,d⟩:=v _ a w D;exact⟨e,h,w',f, .of_steps (.one (fenced_calm q t rfl) stepR_loop) d⟩
variable{b:Frame}
def asv {k:List Item}{cs:List Frame}:step P (lone (b.atR a (.code (.scope c)::k)) cs w)= .next (lone (b.atR a (.code c:: .inScope c::k)) cs w):=
 step_lone_go (by simp[stepG,stepG.exec,Frame.atR])
def aG6 {k:List Item}{cs:List Frame}:step P (lone (b.atR a (.inScope c::k)) cs w)= .next (lone (b.atR a k) cs w):=
 step_lone_go (by simp[stepG,stepG.exec,Frame.atR])
def aQ0 (h:wpB B F n P c (Exit.noGoto Q) a w):wpB B F n P (Code.scope c) Q a w:=by
 intro b k cs r m t p;have f:(lone (b.atR a (.code (.scope c)::k)) cs w).fenced P F:=fenced_calm m p rfl;obtain⟨e,i,j,g,d⟩:=h b (.inScope c::k) cs r m t p;cases e with
 |normal=>exact⟨.normal,i,j,g, .head f asv (StepsIn.trans d (.one (fenced_calm m p rfl) aG6))⟩
 |exit id=>
  have s:exitTo id (.inScope c::k)=exitTo id k:=by simp[exitTo]
  exact⟨.exit id,i,j,g,fun u o=> .head f asv (d.1 u (by rw[s];exact o)),
   fun q o=>let⟨v,h1,h2⟩:=d.2 q (by rw[s];exact o);⟨v,h1, .head f asv h2⟩⟩
 |goto l=>exact g.elim
 |ret=>exact⟨_,i,j,g, .of_steps (.one f asv) d⟩
 |panic x=>exact⟨_,i,j,g, .of_steps (.one f asv) d⟩
 |outgrown=>exact⟨_,i,j,g, .of_steps (.one f asv) d⟩
def aTe (B:FuncId->Prop)(F:Fence)(n:Nat)(P:Program)(l:Nat)(Q:Exit->Act->World->Prop)(b:Act):Ending->World->Prop
 | .returned _,d=>∃a e,(Instr.endLoop l).run P d= .ok a e/\
   (match a with
   |none=>Q .normal b e
   |some c=>wpB B F n P c Q b e)
 | .panicked chain,d=>Q (.panic chain) b d
 | .outgrown,_=>LetsOut Q
variable{assign body:Code}
def aHC {g:Operand}{ps:Array Tmp}
  (h:∀fn,F.fn fn->B fn->∃(l:Nat) (mark:List Deferred) (O:World) (d:Deferred) (q:World) (f:FuncId) (args:Array Value) (R:World),
   (Instr.enterLoop fn a.tmps ps assign body F.round).run P w= .ok (l,mark) O/\
   (resolve a.eval (rangeCall g l) 0).run P O= .ok d q/\
   (∀G,Target.leads P q d.target d.args=some G->F.fn G)/\
   (invoke d.target d.args).run P q= .ok (.enter f args) R/\
   (F.depth.isSome=true->1<=n)/\
   CallsIn F (n - 1) P f args R (aTe B F n P l Q {a with defers:=mark++a.defers})):
  wpB B F n P (Code.rangeFunc g ps assign body) Q a w:=by
 intro b k cs E H U I;obtain⟨l,mark,O,d,q,f,args,R,L,r,u,D,hn,V,t⟩:=h b.fn H U;rw[<-E]at L;have T:(lone (b.atR a (.code (.rangeFunc g ps assign body)::k)) cs w).fenced P F:=by
  refine fenced_lone (.inl H) (fun G A=>u G ?_) (Fence.room_le I (by omega));have z:=Frame.eval_atR b a (.code (.rangeFunc g ps assign body)::k);simp only[Frame.atR]at z;simp only[Frame.about,Frame.atR,L,z,r]at A;exact A
 have j:=stepR_rangeFunc (P:=P) (b:=b) (a:=a) (k:=k) (cs:=cs) (w:=w) L r D;have o:F.room ((b.atR {a with defers:=mark++a.defers} (.inRangeFunc l::k)::cs).length+1+(n - 1)):=Fence.room_enter I hn;obtain⟨e,S,fr,K,m,C,i⟩:=t (b.atR {a with defers:=mark++a.defers} (.inRangeFunc l::k)::cs) o;cases e with
 |outgrown=>
  obtain⟨Y,w₀,N⟩:=K;exact⟨.outgrown,Y,w₀,N, .inr (Outgrown.of_steps (.one j) m)⟩
 |returned v=>
  have M:(lone fr (b.atR {a with defers:=mark++a.defers} (.inRangeFunc l::k)::cs) S).fenced P F:=fenced_leaving (C▸V) o i;obtain⟨s,X,y,W⟩:=K;have p:StepsIn (Machine.fenced P F) P (lone (b.atR a (.code (.rangeFunc g ps assign body)::k)) cs w) (lone (b.atR {a with defers:=mark++a.defers} ((s.map Item.code).toList++k)) cs X):=by
   refine .head T j (StepsIn.trans m (.head M ?_ (.one (fenced_calm (fr:=b.atR {a with defers:=mark++a.defers} (.endRangeFunc l::k)) H I rfl) (stepR_endRangeFunc y))));rw[<-finish_atR_inRangeFunc l v];exact step_leave_returned i
  cases s with
  |none=>exact⟨.normal,_,X,W,p⟩
  |some c=>
   obtain⟨Z,J,w₅,N,x⟩:=W b k cs E H U I;exact⟨Z,J,w₅,N, .of_steps p x⟩
 |panicked chain=>
  have M:(lone fr (b.atR {a with defers:=mark++a.defers} (.inRangeFunc l::k)::cs) S).fenced P F:=fenced_leaving (C▸V) o i;refine⟨.panic chain,_,S,K, .inRangeFunc l::k, .head T j (StepsIn.trans m (.one M ?_))⟩;rw[<-Frame.raise_atR];exact step_leave_panicked i
def roundEnd (P:Program)(l:Nat)(R:Ending->World->Prop):Exit->Act->World->Prop
 | .normal,_,w=>∃v w',(Instr.endRound l none).run P w= .ok v w'/\R (.returned v) w'
 | .ret,_,w=>∃v w',(Instr.endRound l (some .ret)).run P w= .ok v w'/\R (.returned v) w'
 | .exit id,_,w=>∃v w',(Instr.endRound l (some (.exit id))).run P w= .ok v w'/\R (.returned v) w'
 | .panic chain,a,w=>a.defers=[]/\R (.panicked chain) w
 | _,_,_=>False
variable{f:FuncId}{R:Ending->World->Prop}
def aGO {l:Nat}{tmps:Array Value}(H:F.fn f)(G:B f)(hf:∃fn,P.funcs[f]?=some fn)
  (h:wpB B (F.inRound l) n P assign (Exit.then (fun q E=>∃z,(Instr.beginRound l).run P E= .ok () z/\wpB B (F.inRound l) n P body (roundEnd P l R) q z) (fun _ _ _=>False))
   {tmps:=tmps,defers:=[]} w):
  RoundIn F n P l f tmps assign body w R:=by
 refine⟨H,fun c cs M=> ?_⟩
 let b:Frame:={(default:Frame)with fn:=f,kind:= .normal,roundOf:=some l}
 have A:Frame.round l f tmps assign body .normal=b.atR {tmps:=tmps,defers:=[]} [.code assign, .beginRound, .code body]:=by
  simp[Frame.round,Frame.atR,b]
 have j:(F.inRound l).room ((c::cs).length+1+n):=M;have i:(F.inRound l).fn b.fn:=H;obtain⟨e,q,E,p,d⟩:=h b [.beginRound, .code body] (c::cs) rfl i G j;rw[<-A]at d;cases e with
 |normal=>
  obtain⟨z,C,o⟩:=p;have y:StepsIn (Machine.fenced P (F.inRound l)) P (lone (b.atR q [.beginRound, .code body]) (c::cs) E) (lone (b.atR q [.code body]) (c::cs) z):=
   .one (fenced_calm (fr:=b.atR q [.beginRound, .code body]) i j rfl) (stepR_beginRound rfl C)
  obtain⟨K,x,J,k,a⟩:=o b [] (c::cs) rfl i G j;cases K with
  |normal=>
   obtain⟨v,u,g,m⟩:=k;exact⟨.returned v,u,m,(StepsIn.trans d y).trans (StepsIn.trans a (.one (fenced_calm (fr:=b.atR x []) i j rfl) (stepR_round_end rfl rfl g)))⟩
  |ret=>
   obtain⟨v,u,g,m⟩:=k;obtain⟨D,r⟩:=a.2 rfl;exact⟨.returned v,u,m,(StepsIn.trans d y).trans (StepsIn.trans r (.one (fenced_calm (fr:=b.atR x (.code .ret::D)) i j rfl) (stepR_round_ret rfl rfl g)))⟩
  |exit id=>
   obtain⟨v,u,g,m⟩:=k;obtain⟨D,L,r⟩:=a.2 rfl rfl;exact⟨.returned v,u,m,(StepsIn.trans d y).trans (StepsIn.trans r (.one (fenced_calm (fr:=b.atR x (.code (.exit id)::D)) i j rfl) (stepR_round_exit rfl rfl L g)))⟩
  |goto t=>exact k.elim
  |panic chain=>
   obtain⟨hd,m⟩:=k;obtain⟨s,r⟩:=a;have I:({b.atR x s with mode:= .panicking chain}:Frame).leaving P J (.panicked chain):=⟨rfl,hd,hf⟩
   refine⟨.panicked chain,J,m,(StepsIn.trans d y).trans (StepsIn.trans r (.one (fenced_leaving (n:=n) i j I) (step_leave_panicked I)))⟩
  |outgrown=>exact k.elim
 |exit id=>exact p.elim
 |goto t=>exact p.elim
 |ret=>exact p.elim
 |panic chain=>exact p.elim
 |outgrown=>exact p.elim
def aFv {fn:Func}{args:Array Value}
  (hf:P.funcs[f]?=some fn)(hb:fn.body=some c)(p:F.fn f)(y:B f)
  (h:wpB B F n P c (bodyPostM F n P fn R) {tmps:=args++ap (fn.ntmps - args.size) undef,defers:=[]} w)(x:F.round=none:=by rfl):CallsIn F n P f args w R:=by
 refine⟨p,fun cs u=> ?_⟩
 let b:Frame:={(default:Frame)with fn:=f,kind:= .normal,roundOf:=none}
 have k:Frame.enter P f args .normal=
   b.atR {tmps:=args++ap (fn.ntmps - args.size) undef,defers:=[]} [.code c]:=by
  simp[Frame.enter,Frame.atR,hf,hb,b]
 obtain⟨e,m,w',q,a⟩:=h b [] cs x.symm p y u;rw[<-k]at a;cases e with
 |normal=>
  obtain⟨r,j,d,s,v,g,t⟩:=leaves_stepsInM m.defers .returning w' {b.atR m []with mode:= .returning} cs rfl rfl rfl hf rfl p u q;exact⟨r,j,d,s,ComesIn.of_steps (StepsIn.trans a (.one (fenced_calm (fr:=b.atR m []) p u rfl) (stepR_end rfl))) v,g,t⟩
 |ret=>
  obtain⟨i,o⟩:=a.1 rfl;obtain⟨r,j,d,s,v,g,t⟩:=leaves_stepsInM m.defers .returning w' {b.atR m i with mode:= .returning} cs rfl rfl rfl hf rfl p u q;exact⟨r,j,d,s,ComesIn.of_steps o v,g,t⟩
 |panic chain=>
  obtain⟨i,o⟩:=a;obtain⟨r,j,d,s,v,g,t⟩:=leaves_stepsInM m.defers (.panicking chain) w' {b.atR m i with mode:= .panicking chain} cs rfl rfl rfl hf rfl p u q;exact⟨r,j,d,s,ComesIn.of_steps o v,g,t⟩
 |exit id=>exact q.elim
 |goto l=>exact q.elim
 |outgrown=>exact⟨.outgrown,w',b,q,a.resolve_left (by simp[b]),rfl,trivial⟩
end
def apm:anH->Bool
 | .seq a b=>apm a&&apm b
 | .cond _ a b=>apm a&&apm b
 | .block _ c=>apm c
 | .scope c=>apm c
 | .loop _=>false
 | .aub _ _ _ _ _=>false
 | _=>true
def azz {C:Ctx}{nb na nb' na':Nat}:∀(pc:anH),apm pc=true->∀(Q:Ex->St->Prop),pwp C nb na pc Q=pwp C nb' na' pc Q
 | .skip,_,_=>rfl
 | .region _ _ _ _ _,_,_=>rfl
 | .exit _,_,_=>rfl
 | .label _,_,_=>rfl
 | .ret,_,_=>rfl
 | .seq a b,h,Q=>by
  simp only[apm,S]at h
  funext s
  simp only[pwp];rw[azz (nb':=nb') (na':=na') a h.1];simp only[azz (nb':=nb') (na':=na') b h.2]
 | .cond c a b,h,Q=>by
  simp only[apm,S]at h
  funext s
  simp only[pwp];rw[azz (nb':=nb') (na':=na') a h.1,azz (nb':=nb') (na':=na') b h.2]
 | .block id c,h,Q=>by
  simp only[apm]at h
  funext s
  simp only[pwp];rw[azz (nb':=nb') (na':=na') c h]
 | .scope c,h,Q=>by
  simp only[apm]at h
  funext s
  simp only[pwp];rw[azz (nb':=nb') (na':=na') c h]
 | .loop _,h,_=>by simp[apm]at h
 | .aub _ _ _ _ _,h,_=>by simp[apm]at h
def ax2:anH->Bool
 | .seq a b=>ax2 a&&ax2 b
 | .cond _ a b=>ax2 a&&ax2 b
 | .block _ c=>ax2 c
 | .scope c=>ax2 c
 | .loop c=>ax2 c
 | .aub _ _ _ _ _=>false
 | _=>true
def aqH:∀{pc:anH},apm pc=true->ax2 pc=true
 | .skip,_=>rfl
 | .region _ _ _ _ _,_=>rfl
 | .exit _,_=>rfl
 | .label _,_=>rfl
 | .ret,_=>rfl
 | .seq a b,h=>by simp only[apm,S]at h;simp[ax2,aqH h.1,aqH h.2]
 | .cond _ a b,h=>by simp only[apm,S]at h;simp[ax2,aqH h.1,aqH h.2]
 | .block _ c,h=>aqH (pc:=c) h
 | .scope c,h=>aqH (pc:=c) h
 | .loop _,h=>by simp[apm]at h
 | .aub _ _ _ _ _,h=>by simp[apm]at h
def azc (t:Nat):Code->Bool
 | .seq a b=>azc t a&&azc t b
 | .cond _ a b=>azc t a&&azc t b
 | .block _ c=>azc t c
 | .loop c=>azc t c
 | .scope c=>azc t c
 | .region _ ops _=>ops.all fun o=>o.dst !=some t
 | .rangeFunc _ _ _ _=>false
 | _=>true
def chk (P:Program)(n:Nat):Code->anH->Bool
 | .skip, .skip=>true
 | .region _ ops i, .region d k _ _ _=>i==d&&aBV P n ops ops.toList k&&(!d||aJk ops k)
 | .seq a b, .seq p q=>chk P n a p&&chk P n b q
 | .cond c x y, .cond e m o=>aKZ c e&&chk P n x m&&chk P n y o
 | .block id c, .block g e=>id==g&&chk P n c e
 | .loop c, .loop e=>chk P n c e
 | .exit id, .exit g=>id==g
 | .scope c, .scope e=>chk P n c e
 | .label l, .label s=>l==s
 | .ret, .ret=>true
 | .rangeFunc f k x y, .aub r h j m o=>aKZ f r&&decide (k.toList=h)&&decide h.Nodup&&(h.all (·<n))&&(j.all (·<n))&&chk P n x m&&chk P n y o&&apm m&&apm o
 | _,_=>false
section
variable {C:Ctx}{X:Nat->Prop}
variable{w w':World}{O O':Nat->Prop}
def aIJ.move (hk:∀b o,¬O b->w.heap[b]?=some o->w'.heap[b]?=some o/\¬O' b){A:Arr}{loc:Option (Nat×Nat×Nat)}{i off:Nat}{v:Value}(h:aIJ w O A loc i off v):aIJ w' O' A loc i off v:=by
 refine⟨h.1,?_⟩;cases loc with
 |none=>exact aof.mono hk h.2
 |some q=>exact h.2
def aN7.move (hk:∀b o,¬O b->w.heap[b]?=some o->w'.heap[b]?=some o/\¬O' b){A:Arr}{loc:Option (Nat×Nat×Nat)}{skip:Nat}{v:Value}(h:aN7 w O A loc skip v):aN7 w' O' A loc skip v:=by
 refine⟨h.1,?_⟩;cases loc with
 |none=>exact aof.mono hk h.2
 |some q=>exact h.2
def aN6.move (hk:∀b o,¬O b->w.heap[b]?=some o->w'.heap[b]?=some o/\¬O' b){A:Arr}{loc:Option (Nat×Nat×Nat)}{skip len:Nat}{v:Value}(h:aN6 w O A loc skip len v):aN6 w' O' A loc skip len v:=by
 refine⟨h.1,?_⟩;cases loc with
 |none=>exact aof.mono hk h.2
 |some q=>exact h.2
mutual
def Rep.move {w w':World}{O O':Nat->Prop}{M:Mem}{E:Emb}(hk:∀b o,¬O b->w.heap[b]?=some o->w'.heap[b]?=some o/\¬O' b):∀{v:Value} {p:PV},Rep w O M E v p->Rep w' O' M E v p
 | _,_, .d h=> .d (h.mono hk)
 | _,_, .ptr g f i=> .ptr g f i
 | _,_, .mref g f i=> .mref g f i
 | _,_, .asz g f i=> .asz g f i
 | _,_, .av1 g f i=> .av1 g f i
 | _,_, .aqf a h=> .aqf a fun A l=>by
   obtain⟨h1,h2⟩:=h A l;exact⟨h1,fun e=>by obtain⟨c,j,k⟩:=h2 e;exact⟨c,j,k.move hk⟩⟩
 | _,_, .tsl a h=> .tsl a fun A l=>by
   obtain⟨h1,h2⟩:=h A l;exact⟨h1,fun e=>by obtain⟨c,j,k⟩:=h2 e;exact⟨c,j,k.move hk⟩⟩
 | _,_, .psl a h=> .psl a fun A l=>by
   obtain⟨h1,h2⟩:=h A l;exact⟨h1,fun e=>by obtain⟨c,j,k⟩:=h2 e;exact⟨c,j,k.move hk⟩⟩
 | _,_, .dead=> .dead
 | _,_, .func h1 h2=> .func (anW.move hk h1) (anW.move hk h2)
 | _,_, .agg h=> .agg (anW.move hk h)
 | _,_, .tup h=> .tup (anW.move hk h)
def anW.move {w w':World}{O O':Nat->Prop}{M:Mem}{E:Emb}(hk:∀b o,¬O b->w.heap[b]?=some o->w'.heap[b]?=some o/\¬O' b):∀{v:List Value} {p:List PV},anW w O M E v p->anW w' O' M E v p
 | _,_, .nil=> .nil
 | _,_, .cons h t=> .cons (Rep.move hk h) (anW.move hk t)
end
variable{X':Nat->Prop}{w w':World}{M:Mem}{E:Emb}
def Sim.shift (h:Sim C X w M E)(d:∀b,C.low b->X' b)(hlt:∀b,X' b->b<w'.heap.size)(r:∀b,C.low b->w'.heap[b]?=w.heap[b]?)
  (hk:∀b o,¬X b->w.heap[b]?=some o->w'.heap[b]?=some o/\¬X' b):Sim C X' w' M E/\(∀b o,¬away X M E b->w.heap[b]?=some o->w'.heap[b]?=some o/\¬away X' M E b):=by
 have c:∀b o,¬away X M E b->w.heap[b]?=some o->w'.heap[b]?=some o/\¬away X' M E b:=by
  intro b o g f;obtain⟨h1,h2⟩:=hk b o (fun j=>g (.inl j)) f;exact⟨h1,fun j=>j.elim h2 fun i=>g (.inr i)⟩
 refine⟨?_,c⟩;exact
  {glob:=C.keeps w w' h.glob r,apF:=d,xlt:=hlt,apD:=h.apD,aoc:=h.aoc
   box:=fun b cs g=>by
    obtain⟨a,h1,h2,h3⟩:=h.box b cs g;obtain⟨o,f⟩:=h3.obj;exact⟨a,h1,(hk a o h2 f).2,h3.move (fun o f=>(hk a o h2 f).1) c fun _ _ _ s=>s.move c⟩
   arr:=fun k A p=>by
    obtain⟨h1,h2,h3,n⟩:=h.arr k A p;refine⟨h1,h2,h3,fun a o e q=> ?_⟩;obtain⟨l,vs,T,g2,g3,g4,m⟩:=n a o e q;exact⟨(hk a _ l g2).2,vs,T,(hk a _ l g2).1,g3,g4,m.mono c⟩
   bb:=h.bb,aa:=h.aa,ba:=h.ba}
def Sim.less (h:Sim C X w M E)(hx:∀b,X' b->X b)(a:∀b,C.low b->X' b):Sim C X' w M E:=
 (h.shift a (fun b c=>h.xlt b (hx b c)) (fun _ _=>rfl) fun b o c e=>⟨e,fun d=>c (hx b d)⟩).1
variable{v:Value}{p:PV}
def Rep.less (h:Rep w (away X M E) M E v p)(hx:∀b,X' b->X b):Rep w (away X' M E) M E v p:=
 h.move fun b o c d=>⟨d,fun a=>c (a.imp (hx b) id)⟩
variable{L:Loop}{st:LoopState}{pd:Option Code}
def aCL {b:Nat}{st':LoopState}{pd':Option Code}{cells:List PV}(h:Sim C X w M E)(hb:M.boxes[b]?=some (some (.apw {L with state:=st,pending:=pd}::cells)))(c:b∉M.fz):
  ∃(l:Nat) (tmps:Array Value),E.bx[b]?=some l/\¬X l/\tmps.size=L.tmps.size/\w.heap[l]?=some (.loop {L with state:=st,pending:=pd,tmps:=tmps})/\anW w (away X M E) M E tmps.toList cells/\
   Sim C X (w.putObj l (.loop {L with state:=st',pending:=pd',tmps:=tmps})) {M with boxes:=M.boxes.set b (some (.apw {L with state:=st',pending:=pd'}::cells))} E/\
   From w M E (w.putObj l (.loop {L with state:=st',pending:=pd',tmps:=tmps})) {M with boxes:=M.boxes.set b (some (.apw {L with state:=st',pending:=pd'}::cells))} E:=by
 obtain⟨l,d,f,g⟩:=h.box b _ hb;obtain⟨tmps,r1,r2,r3⟩:=g;have a:=aop r2;obtain⟨i,j⟩:=aCN (cs':= .apw {L with state:=st',pending:=pd'}::cells) h hb c rfl rfl d (aCx w l (.loop {L with state:=st',pending:=pd',tmps:=tmps}) a)
  fun e=>⟨tmps,r1,by simp[a],r3.from e⟩
 exact⟨l,tmps,d,f,r1,r2,r3,i,j⟩
def ay1:∀(l:List (Nat×Value)) (tmps:Array Value),(l.foldl (fun t (x:Nat×Value)=>t.setIfInBounds x.1 x.2) tmps).size=tmps.size
 | [],_=>rfl
 |x::l,tmps=>by rw[aD,ay1 l];simp
def ayu {t:Nat}:∀(l:List (Nat×Value)) (tmps:Array Value),(∀x∈l,x.1≠t)->(l.foldl (fun t (x:Nat×Value)=>t.setIfInBounds x.1 x.2) tmps).getD t undef=tmps.getD t undef
 | [],_,_=>rfl
 |x::l,tmps,h=>by
  rw[aD,ayu l _ fun y a=>h y (by simp[a])];have:x.1≠t:=h x (by simp);simp only[Y,au this]
def aIy {R:Value->PV->Prop}{aYP:List (Nat×PV)}{t:Nat}:∀(ps:List Nat) (vs:List Value) (ds:List PV) (tmps:Array Value),vs.length=ps.length->ds.length=ps.length->ps.Nodup->(∀p∈ps,p<tmps.size)->
  (∀(i:Nat) (v:Value) (d:PV),vs[i]?=some v->ds[i]?=some d->R v d)->(t∉ps->R (tmps.getD t undef) (look aYP t))->
  R (((ps.zip vs).foldl (fun t (x:Nat×Value)=>t.setIfInBounds x.1 x.2) tmps).getD t undef) (look (ps.zip ds++aYP) t)
 | [],_,_,_,_,_,_,_,_,h=>by simpa using h
 |p::ps,[],_,_,h,_,_,_,_,_=>by simp at h
 |p::ps,_::_,[],_,_,h,_,_,_,_=>by simp at h
 |p::ps,v::vs,d::ds,tmps,h1,h2,c,a,f,g=>by
  rw[List.nodup_cons]at c;simp only[List.zip_cons_cons,aD,aB,look]
  by_cases b:p=t
  ·subst b
   simp only[beq_self_eq_true,cond_true];rw[ayu _ _ fun x m e=>c.1 (by rw[<-e];exact(List.of_mem_zip m).1)];have:p<tmps.size:=a p (by simp);have e:(tmps.setIfInBounds p v).getD p undef=v:=by simp[Y,this]
   rw[e];exact f 0 v d rfl rfl
  ·have:(p==t)=false:=by simp[b]
   simp only[this,cond_false];refine aIy ps vs ds _ (by simpa using h1) (by simpa using h2) c.2 (fun q j=>by simpa using a q (by simp[j])) (fun i v d l hd=>f (i+1) v d (by simpa using l) (by simpa using hd)) fun k=> ?_
   have e:(tmps.setIfInBounds p v).getD t undef=tmps.getD t undef:=by simp only[Y,au b]
   rw[e];exact g (by simp[k,Ne.symm b])
variable{s:St}
def aJf {n:Nat}{keys:List Nat}(hk:keys.all (·<n)=true)(t:Nat):look (apS s.env keys) t= .dead\/(t<n/\look (apS s.env keys) t=look s.env t):=by
 induction keys with
 |nil=>exact .inl rfl
 |cons k b a=>
  simp only[aZ,S,decide_eq_true_eq]at hk;simp only[apS,U,look]
  by_cases h:k=t
  ·subst h;simp[hk.1]
  ·have:(k==t)=false:=by simp[h]
   simp only[this,cond_false];exact a hk.2
def InS.from {lo:Lo}{n:Nat}{s:St}{a:Act}{w w':World}{E E':Emb}{M':Mem}(h:InS C X lo n s a w E)(b:Sim C X w' M' E')(hf:From w s.mem E w' M' E'):InS C X lo n ⟨s.env,M'⟩ a w' E':={
 sim:=b
 env:=fun t=>(h.env t).from hf
 size:=h.size
 defers:=h.defers.from h.sim hf
 fix:=h.fix}
def aD9 {cells:List PV}{xb:List (Option (List PV))}{xf:List Nat}{xa:List (Option Arr)}:(apE M L st pd cells xb xf xa).boxes[M.boxes.length]?=some (some (.apw {L with state:=st,pending:=pd}::cells)):=by simp[apE]
def aXz {O:Nat->Prop}{g:FuncId}{fs cs:List PV}(h:Rep w O M E v p)(hf:aUX p=some (g,fs,cs)):
  ∃Fs c,v= .func (.func g) Fs c/\anW w O M E Fs.toList fs/\anW w O M E c.toList cs:=by
 unfold aUX at hf
 split at hf
 ·cases hf
  have hd:=h.toD;cases hd with
  |func b a=>exact⟨_,_,rfl,anW.ofD b,anW.ofD a⟩
 ·cases hf
  cases h with
  |func b a=>exact⟨_,_,rfl,b,a⟩
 ·cases hf
def aqh (hm:C.P.follows .mixedOrders=true){n:Nat}:∀(c:Code) (pc:anH) {X:Nat->Prop} {w₀:World} {M₀:Mem} {E₀:Emb} {nb na:Nat} (_:M₀.boxes.length<=nb) (_:M₀.anK.length<=na) (B:FuncId->Prop) (_:(∀g,B g->∃fn,C.P.funcs[g]?=some fn)\/ax2 pc=true) (ro:Option Nat) (j:List Deferred) (ex:Bool) (fx:Option (Nat×Value)) (Q:Ex->St->Prop) (s:St) (a:Act) (w:World) (E:Emb),
  (∀q,fx=some q->azc q.1 c=true)->(ro=none\/apm pc=true)->(ex=true->apm pc=true)->chk C.P n c pc=true->pwp C nb na pc Q s->InS C X ⟨w₀.heap.size,j,ex,fx⟩ n s a w E->From w₀ M₀ E₀ w s.mem E->wpB B (RF ro) 0 C.P c (Post C X n w₀ M₀ E₀ j ex fx Q) a w
 | .skip,pc,X,w₀,M₀,E₀,nb,na,H,ha,B,hB,ro,j,ex,fx,Q,s,a,w,E,J,A,z,O,h,N,V=>by
  cases pc<;>simp only[chk,W]at O
  exact azN (wpIn_skip ⟨X,s,E,fun _ h=>h,h,N,V⟩)
 | .label l,pc,X,w₀,M₀,E₀,nb,na,H,ha,B,hB,ro,j,ex,fx,Q,s,a,w,E,J,A,z,O,h,N,V=>by
  cases pc<;>simp only[chk,W]at O
  exact azN (wpIn_label ⟨X,s,E,fun _ h=>h,h,N,V⟩)
 | .exit id,pc,X,w₀,M₀,E₀,nb,na,H,ha,B,hB,ro,j,ex,fx,Q,s,a,w,E,J,A,z,O,h,N,V=>by
  cases pc<;>simp only[chk,W,beq_iff_eq]at O
  subst O;exact azN (wpIn_exit ⟨X,s,E,fun _ h=>h,h,N,V⟩)
 | .ret,pc,X,w₀,M₀,E₀,nb,na,H,ha,B,hB,ro,j,ex,fx,Q,s,a,w,E,J,A,z,O,h,N,V=>by
  cases pc<;>simp only[chk,W]at O
  exact azN (wpIn_ret ⟨X,s,E,fun _ h=>h,h,N,V⟩)
 | .region id ops a9,pc,X,w₀,M₀,E₀,nb,na,H,ha,B,hB,ro,j,ex,fx,Q,s,a,w,E,J,A,z,O,h,N,V=>by
  cases pc<;>simp only[chk,W]at O
  rename_i d ps aNm keep fz
  simp only[S,beq_iff_eq]at O;obtain⟨⟨rfl,bo⟩,bF⟩:=O;simp only[pwp]at h;obtain⟨i1,f1⟩:=N.reserve aNm;have hK:∀s' a' w' E',(fun s':St=>atT fz (Q .normal) ⟨apS s'.env keep,s'.mem⟩) s'->InS C X ⟨w₀.heap.size,j,ex,fx⟩ n s' a' w' E'->From w₀ M₀ E₀ w' s'.mem E'->Post C X n w₀ M₀ E₀ j ex fx Q .normal a' w':=by
   intro s' a' w' E' hk bK bG;obtain⟨s2,g1,g2,g3⟩:=aD3 hk bK.keep;exact⟨X,s2,E',fun _ h=>h,g1,g2,bG.trans g3⟩
  have bh:∀d M' a' w' E' v,(fun d M=>Q (.panic d) ⟨[],M⟩) d M'->Sim C X w' M' E'->From w₀ M₀ E₀ w' M' E'->aof w' (away X M' E') v d->okD ⟨w₀.heap.size,j,ex,fx⟩ X a'.defers w'->(∀q,fx=some q->a'.eval (.tmp q.1)=q.2)->Post C X n w₀ M₀ E₀ j ex fx Q (.panic [{v,recovered:=false}]) a' w':=by
   intro d M' a' w' E' v h1 h2 h3 h4 h5 h6;exact⟨X,v,d,M',E',fun _ h=>h,rfl,h1,h2,h3,h4,h5,h6⟩
  have bn:∀q,(⟨w₀.heap.size,j,ex,fx⟩:Lo).fx=some q->∀o∈ops,o.dst≠some q.1:=fun q hq o ho=>by
   have:=J q hq;simp only[azc,Array.all_eq_true']at this
   simpa using this o ho
  cases a9 with
  |false=>exact azN (wpIn_region (aJP bn bo i1 (V.trans f1) h hK bh))
  |true=>
   refine azN (aMy bn hm bo (by simpa using bF) ?_ i1 (V.trans f1) h hK bh);intro s1 s2 he aF hk;have:apS s1.env keep=apS s2.env keep:=by simp only[apS,he]
   simp only[this,aF]at hk;exact hk
 | .seq x y,pc,X,w₀,M₀,E₀,nb,na,H,ha,B,hB,ro,j,ex,fx,Q,s,a,w,E,J,A,z,O,h,N,V=>by
  cases pc<;>simp only[chk,W,S]at O
  simp only[apm,S]at A z;simp only[pwp]at h;refine aWu (avh (aqh hm x _ H ha B (hB.imp id fun e=>(ab.1 e).1) ro j ex fx _ s a w E (fun q hq=>(ab.1 (J q hq)).1) (A.imp id And.left) (fun e=>(z e).1) O.1 h N V) fun e a' w' T=> ?_);cases e with
  |normal=>
   obtain⟨X',s',E',hx,h1,h2,h3⟩:=T;exact avh (aqh hm y _ H ha B (hB.imp id fun e=>(ab.1 e).2) ro j ex fx Q s' a' w' E' (fun q hq=>(ab.1 (J q hq)).2) (A.imp id be) (fun e=>(z e).2) O.2 h1 h2 h3) fun e a w T=>T.up hx
  |exit id=>exact T
  |ret=>exact T
  |panic ch=>exact T
  |goto l=>exact T.elim
  |outgrown=>exact T.elim
 | .cond c x y,pc,X,w₀,M₀,E₀,nb,na,H,ha,B,hB,ro,j,ex,fx,Q,s,a,w,E,J,A,z,O,h,N,V=>by
  cases pc<;>simp only[chk,W,S]at O
  simp only[apm,S]at A z;obtain⟨⟨O,hx⟩,hy⟩:=O;simp only[pwp]at h
  split at h
  ·rename_i t ht
   have hv:=aJM N O;rw[ht]at hv;refine aHg hv.toD.atK (fun e=> ?_) (fun e=> ?_)
   ·exact aqh hm x _ H ha B (hB.imp id fun e=>(ab.1 e).1) ro j ex fx Q s a w E (fun q hq=>(ab.1 (J q hq)).1) (A.imp id And.left) (fun e=>(z e).1) hx (h.1 e) N V
   ·exact aqh hm y _ H ha B (hB.imp id fun e=>(ab.1 e).2) ro j ex fx Q s a w E (fun q hq=>(ab.1 (J q hq)).2) (A.imp id be) (fun e=>(z e).2) hy (h.2 e) N V
  ·exact h.elim
 | .block id c,pc,X,w₀,M₀,E₀,nb,na,H,ha,B,hB,ro,j,ex,fx,Q,s,a,w,E,J,A,z,O,h,N,V=>by
  cases pc<;>simp only[chk,W,S,beq_iff_eq]at O
  simp only[apm]at A z;obtain⟨rfl,O⟩:=O;simp only[pwp]at h;refine aQZ (avh (aqh hm c _ H ha B (by simp only[ax2]at hB;exact hB) ro j ex fx _ s a w E J A z O h N V) fun e a' w' T=> ?_);cases e with
  |normal=>exact T
  |exit b0=>
   obtain⟨X',s',E',hx,h1,h2,h3⟩:=T;simp only[Exit.inBlock];simp only at h1
   split at h1
   ·rename_i hid;rw[if_pos hid];exact⟨X',s',E',hx,h1,h2,h3⟩
   ·rename_i hid;rw[if_neg hid];exact⟨X',s',E',hx,h1,h2,h3⟩
  |ret=>exact T
  |panic ch=>exact T
  |goto l=>exact T.elim
  |outgrown=>exact T.elim
 | .loop c,pc,X,w₀,M₀,E₀,nb,na,H,ha,B,hB,ro,j,ex,fx,Q,s,a,w,E,J,A,z,O,h,N,V=>by
  cases pc<;>simp only[chk,W]at O
  simp only[apm,W,or_false]at A z;simp only[pwp]at h;obtain⟨I,k,h0,hr⟩:=h;refine aUc (fun k a w=>∃(X':Nat->Prop) (s:St) (E:Emb),(∀b,X b->X' b)/\I k s/\InS C X' ⟨w₀.heap.size,j,ex,fx⟩ n s a w E/\From w₀ M₀ E₀ w s.mem E) k ⟨X,s,E,fun _ h=>h,h0,N,V⟩ ?_;rintro k' a' w' ⟨X',s',E',hx,g1,g2,g3⟩;refine avh (aqh hm c _ H ha B (by simp only[ax2]at hB;exact hB) ro j ex fx _ s' a' w' E' J (.inl A) (fun e=>(z e).elim) O (hr k' s' g1) g2 g3) fun e a2 w2 T=> ?_
  cases e with
  |normal=>
   obtain⟨X2,s2,E2,bW,⟨k2,s3,q1,q2,q3⟩,h2,h3⟩:=T;obtain⟨E3,r1,r2⟩:=aN3 h2 h3 H ha q2;exact⟨k2,q1,X2,s3,E3,fun b H=>bW b (hx b H),q3,r1,r2⟩
  |exit id=>obtain⟨X2,s2,E2,q1,q2⟩:=T;exact⟨X2,s2,E2,fun b H=>q1 b (hx b H),q2⟩
  |ret=>obtain⟨X2,s2,E2,q1,q2⟩:=T;exact⟨X2,s2,E2,fun b H=>q1 b (hx b H),q2⟩
  |panic ch=>obtain⟨X2,v2,d2,M2,E2,q1,q2⟩:=T;exact⟨X2,v2,d2,M2,E2,fun b H=>q1 b (hx b H),q2⟩
  |goto l=>exact T.elim
  |outgrown=>exact T.elim
 | .scope c,pc,X,w₀,M₀,E₀,nb,na,H,ha,B,hB,ro,j,ex,fx,Q,s,a,w,E,J,A,z,O,h,N,V=>by
  cases pc<;>simp only[chk,W]at O
  simp only[apm]at A z;simp only[pwp]at h;refine aQ0 (avh (aqh hm c _ H ha B (by simp only[ax2]at hB;exact hB) ro j ex fx Q s a w E J A z O h N V) fun e a' w' T=> ?_);cases e with
  |goto l=>exact T.elim
  | _=>exact T
 | .goto l,pc,X,w₀,M₀,E₀,nb,na,H,ha,B,hB,ro,j,ex,fx,Q,s,a,w,E,J,A,z,O,h,N,V=>by cases pc<;>simp[chk]at O
 | .refuse r,pc,X,w₀,M₀,E₀,nb,na,H,ha,B,hB,ro,j,ex,fx,Q,s,a,w,E,J,A,z,O,h,N,V=>by cases pc<;>simp[chk]at O
 | .rangeFunc f ps x y,pc,X,w₀,M₀,E₀,nb,na,H,ha,B,hB,ro,j,ex,fx,Q,s,a,w,E,J,A,z,O,h,N,V=>by
  cases pc<;>simp only[chk,W,S,decide_eq_true_eq]at O
  rename_i f' b2 aQ x' y'
  simp only[apm,W,or_false]at A z;subst A;obtain⟨⟨⟨⟨⟨⟨⟨⟨bC,rfl⟩,J⟩,bQ⟩,bN⟩,bD⟩,bE⟩,a6⟩,a7⟩:=O;simp only[pwp]at h;obtain⟨g,fs,cs,bJ,aU,ay5,h⟩:=h;obtain⟨Fs,Cs,aZa,bI,bH⟩:=aXz (aJM N bC) bJ
  ·
   obtain⟨D,hD⟩:∃D,D=w.heap.size:=⟨_,rfl⟩
   obtain⟨w1,aM⟩:∃w1,w1=w.alloc (.deferred (some [])):=⟨_,rfl⟩
   have bd:∀g,B g->∃fn,C.P.funcs[g]?=some fn:=hB.resolve_right (by simp[ax2])
   refine aHC ?_;intro fn _ bf;obtain⟨L,hL⟩:∃L:Loop,L={state:= .ready,pending:=none,fn:=fn,tmps:=a.tmps,params:=ps,assign:=x,body:=y,defers:=D}:=⟨_,rfl⟩
   have aS:L.tmps=a.tmps:=by rw[hL]
   have a8:L.tmps.size=n:=by rw[aS,N.size]
   obtain⟨cells,ai⟩:∃cells,cells=(aX L.tmps.size).map (look s.env):=⟨_,rfl⟩
   have h:=h L (by rw[hL]);rw[<-ai]at h;obtain⟨lp,a0⟩:∃lp,lp=w.heap.size+1:=⟨_,rfl⟩
   have aK:Later w w1:=aM▸Later.alloc w _;have bp:w1.heap.size=w.heap.size+1:=by rw[aM];simp
   have aYY:w1.heap[D]?=some (.deferred (some [])):=by rw[aM,hD];exact heap_alloc_new w _
   obtain⟨X',ay⟩:∃X':Nat->Prop,X'=fun b=>X b\/b=D:=⟨_,rfl⟩
   have ax:∀b,X b->X' b:=fun b H=>by rw[ay];exact .inl H
   have bM:∀b o,¬X b->w.heap[b]?=some o->w1.heap[b]?=some o/\¬X' b:=by
    intro b o H ho;refine⟨aK.aqc ho,?_⟩;rw[ay];rintro(hx|rfl)
    ·exact H hx
    ·have:=aop ho;omega
   obtain⟨bj,aY⟩:=N.sim.shift (X':=X') (w':=w1) (fun b H=>ax b (N.sim.apF b H)) (fun b H=>by
     rw[ay]at H
     rcases H with H|rfl
     ·have:=N.sim.xlt b H;omega
     ·omega) (fun b H=>aK.keep b (N.sim.xlt b (N.sim.apF b H))) bM
   have aw:InS C X' ⟨w₀.heap.size,j,ex,fx⟩ n s a w1 E:=
    {sim:=bj,env:=fun t=>(N.env t).move aY,size:=N.size,fix:=N.fix
     defers:=by
      obtain⟨ms,hms,⟨aD,aE⟩,aL⟩:=N.defers;exact⟨ms,hms,⟨fun d hd=>by
       obtain⟨D',q1,q2,q3,q4⟩:=aD d hd;exact⟨D',q1,q2,ax _ q3,aK.aqc q4⟩,aE⟩,aL⟩}
   obtain⟨bw,aV⟩:=aEQ bj 1;have aZ:E.bx.length=s.mem.boxes.length:=N.sim.apD;obtain⟨bz,bl⟩:=aJC (o:= .loop L) (id:=s.mem.boxes.length) (cs:= .apw {L with state:= .ready,pending:=none}::cells) bw (by simp) (fun a0k=>by
    refine⟨a.tmps,by rw[aS],?_,?_⟩
    ·rw[heap_alloc_new];rw[hL]
    ·have:anW w1 (away X' s.mem E) s.mem E a.tmps.toList cells:=by
      rw[ai,aS];have bY:∀(m:Nat) (l:List Value),(∀i v,l[i]?=some v->a.tmps[m+i]?=some v)->anW w1 (away X' s.mem E) s.mem E l ((aP m l.length).map (look s.env)):=by
       intro m l
       induction l generalizing m with
       |nil=>intro _;exact .nil
       |cons v l ih=>
        intro hv;rw[List.length_cons,aN,U];refine .cons ?_ (ih (m+1) fun i u hu=>by
         have:=hv (i+1) u (by simpa using hu);rw[<-this];congr 1;omega)
        have h0:=aw.env m;have h1:=hv 0 v rfl;simp only[Nat.add_zero]at h1
        simpa[Act.eval,Y,h1]using h0
      have:=bY 0 a.tmps.toList (fun i v hv=>by simpa using hv)
      simpa[List.range_eq_range']using this
     exact(this.from aV).from a0k)
   have bU:(w1.alloc (.loop L)).heap[lp]?=some (.loop L):=by
    have:=heap_alloc_new w1 (.loop L)
    rwa [bp,<-a0]at this
   have e1:({boxes:=(s.mem.boxes++aI 1 none).set s.mem.boxes.length (some (.apw {L with state:= .ready,pending:=none}::cells)),fz:=s.mem.fz,anK:=s.mem.anK}:Mem)=apE s.mem L .ready none cells [] [] []:=by
    simp[apE]
   obtain⟨E1,aH⟩:∃E1:Emb,E1={bx:=(E.bx++aI 1 0).set s.mem.boxes.length w1.heap.size,ar:=E.ar}:=⟨_,rfl⟩
   obtain⟨w2,aSm⟩:∃w2,w2=w1.alloc (.loop L):=⟨_,rfl⟩
   have bA:Sim C X' w2 (apE s.mem L .ready none cells [] [] []) E1:=by rw[<-e1,aH,aSm];exact bz
   have bg:From w s.mem E w2 (apE s.mem L .ready none cells [] [] []) E1:=by
    rw[<-e1,aH,aSm];exact((aK.from s.mem E).trans aV).trans bl
   have aMV:From w1 s.mem E w2 (apE s.mem L .ready none cells [] [] []) E1:=by
    rw[<-e1,aH,aSm];exact aV.trans bl
   have bk:E1.bx[s.mem.boxes.length]?=some lp:=by
    rw[aH,a0,bp];simp[aZ]
   rw[<-aSm]at bU;have aq9:∀(args:List DV) (K:PV->Mem->Prop) (KP:DV->Mem->Prop) (My:Mem),args.length=ps.toList.length->My.boxes[s.mem.boxes.length]?=some (some (.apw {L with state:= .ready,pending:=none}::cells))->s.mem.boxes.length∉My.fz->
     pwp C nb na x' (fun e s1=>e= .normal/\s1.mem=My/\pwp C nb na y' (aTm s.mem.boxes.length L K KP) ⟨s1.env,{My with boxes:=My.boxes.set s.mem.boxes.length (some (.apw {L with state:= .busy,pending:=none}::cells))}⟩)
      ⟨ps.toList.zip (args.map .d)++apS s.env aQ,My⟩->
     SY C s.mem.boxes.length (args.map .d) My K KP:=by
    intro args K KP My aO au aZb T Xy wy Ey ap l aJ bc a3;obtain⟨l',ae,q1,q2,q3,q4,q5,_,_⟩:=aCL (st':= .busy) (pd':=none) aJ au aZb;rw[a3]at q1;cases q1;have bi:L.params=ps:=by rw[hL]
    have bv:L.fn=fn:=by rw[hL]
    have bt:L.assign=x:=by rw[hL]
    have bu:L.body=y:=by rw[hL]
    have bq:ap.length=ps.toList.length:=by rw[bc.length,List.length_map,aO]
    have hy:=run_yield (P:=C.P) (args:=ap.toArray) q4 (by simp only[bi];simpa using bq);simp only[bv]at hy;refine⟨_,_,_,_,hy,aGO (F:=Fence.wide) (n:=0) (B:=B) trivial bf (bd _ bf) ?_⟩;simp only[bi,bt,bu];have aC:((ps.zip ap.toArray).foldl (fun ae (x:Nat×Value)=>ae.setIfInBounds x.1 x.2) ae)=((ps.toList.zip ap).foldl (fun t (x:Nat×Value)=>t.setIfInBounds x.1 x.2) ae):=by
     rw[<-Array.foldl_toList];simp
    have bL:InS C Xy ⟨wy.heap.size,[],true,none⟩ n ⟨ps.toList.zip (args.map .d)++apS s.env aQ,My⟩
      {tmps:=(ps.zip ap.toArray).foldl (fun ae (x:Nat×Value)=>ae.setIfInBounds x.1 x.2) ae,defers:=[]} wy Ey:=
     {sim:=aJ
      size:=by simp only[aC,ay1,q3,a8]
      fix:=fun _ h=>by cases h
      defers:=ax4
      env:=fun t=>by
       simp only[Act.eval,aC];refine aIy (R:=fun v p=>Rep wy (away Xy My Ey) My Ey v p) _ _ _ _ bq (by simpa using aO) J (fun p T=> ?_) (fun i v d hv hd=> ?_) fun _=> ?_
       ·have:=aA.1 bQ p T
        rw[q3,a8];simpa using this
       ·obtain⟨v',g1,g2⟩:=bc.get' i d hd
        rw[hv]at g1;cases g1;exact g2
       ·rcases aJf (s:=s) bN t with he|⟨ht,he⟩
        ·rw[he];exact .dead
        ·rw[he]
         have O:cells[t]?=some (look s.env t):=by rw[ai];simp[a8,ht]
         obtain⟨v',g1,g2⟩:=q5.get' t _ O;have:ae.getD t undef=v':=by
          rw[ah]at g1;simp[Y,g1]
         rw[this];exact g2}
    have aYW:∀{pc:anH},(∀g,B g->∃fn,C.P.funcs[g]?=some fn)\/ax2 pc=true:= .inl bd
    have bV:=aqh hm x x' (M₀:=My) (nb:=My.boxes.length) (na:=My.anK.length) (ao _) (ao _) B aYW (some l) [] true none _ _ _ wy Ey (fun _ h=>by cases h) (.inr a6) (fun _=>a6) bD (by rw[azz (nb':=nb) (na':=na) x' a6];exact T) bL (.refl _ _ _);refine avh (F:=Fence.wide.inRound l) bV fun e a1 w3 Z=> ?_
    cases e with
    |exit id=>obtain⟨_,_,_,_,⟨he,_⟩,_⟩:=Z;cases he
    |ret=>obtain⟨_,_,_,_,⟨he,_⟩,_⟩:=Z;cases he
    |panic ch=>obtain⟨_,_,_,_,_,_,_,⟨he,_⟩,_⟩:=Z;cases he
    |goto t=>exact Z.elim
    |outgrown=>exact Z.elim
    |normal=>
     obtain⟨X3,⟨aZX,bZ⟩,E3,br,⟨_,aL,bP⟩,aW,aXV⟩:=Z;simp only at aL;rw[aL]at aW aXV;obtain⟨l3,aZR,u1,u2,u3,u4,u5,u6,u7⟩:=aCL (st':= .busy) (pd':=none) aW.sim au aZb;rw[(aXV.bx _ _ au).1,a3]at u1;cases u1;have bB:=run_beginRound (P:=C.P) u4 rfl;refine⟨_,bB,?_⟩;have aj:InS C X3 ⟨wy.heap.size,[],true,none⟩ n ⟨aZX,{My with boxes:=My.boxes.set s.mem.boxes.length (some (.apw {L with state:= .busy,pending:=none}::cells))}⟩ a1 _ E3:=aW.from u6 u7
     have bX:=aqh hm y y' (M₀:=My) (nb:=My.boxes.length) (na:=My.anK.length) (ao _) (ao _) B aYW (some l) [] true none _ _ _ _ E3 (fun _ h=>by cases h) (.inr a7) (fun _=>a7) bE (by rw[azz (nb':=nb) (na':=na) y' a7];exact bP) aj (aXV.trans u7);refine avh (F:=Fence.wide.inRound l) bX fun e2 a5 w5 aDi=> ?_
     have aR:∀{e:Exit} {e':Ex} (ac:Option Code) (X5:Nat->Prop) (s5:St) (E5:Emb) (st:LoopState),(∀b,X3 b->X5 b)->st=(if ac.isNone then LoopState.ready else .done)->
       (∃G,s5.mem.boxes[s.mem.boxes.length]?=some (some (.apw {L with state:= .busy,pending:=none}::G))/\s.mem.boxes.length∉s5.mem.fz/\
        K (.d (.bool ac.isNone)) {s5.mem with boxes:=s5.mem.boxes.set s.mem.boxes.length (some (.apw {L with state:=st,pending:=ac}::G))})->
       InS C X5 ⟨wy.heap.size,[],true,none⟩ n s5 a5 w5 E5->From wy My Ey w5 s5.mem E5->
       ∃v w',(Instr.endRound l ac).run C.P w5= .ok v w'/\Fin C Xy wy My Ey K KP w' (.returned v):=by
      rintro e e' ac X5 s5 E5 st am bT ⟨G,v1,v2,v3⟩ aq an;subst bT;obtain⟨l5,a09,t1,t2,t3,t4,t5,t6,t7⟩:=aCL (st':=if ac.isNone then LoopState.ready else .done) (pd':=ac) aq.sim v1 v2;rw[(an.bx _ _ au).1,a3]at t1;cases t1;refine⟨_,_,run_endRound ac t4,?_⟩;refine⟨_,_,E5,v3,?_,?_, .d (.bool _)⟩
      ·exact t6.less (X':=Xy) (fun b H=>am b (br b H)) aJ.apF
      ·exact an.trans t7
     cases e2 with
     |normal=>
      obtain⟨X5,s5,E5,am,⟨G,v1,v2,v3⟩,aq,an⟩:=aDi;exact aR (e:= .normal) (e':= .normal) none X5 s5 E5 .ready am rfl ⟨G,v1,v2,v3⟩ aq an
     |ret=>
      obtain⟨X5,s5,E5,am,⟨G,v1,v2,v3⟩,aq,an⟩:=aDi;exact aR (e:= .normal) (e':= .normal) (some .ret) X5 s5 E5 .done am rfl ⟨G,v1,v2,v3⟩ aq an
     |exit id=>
      obtain⟨X5,s5,E5,am,⟨G,v1,v2,v3⟩,aq,an⟩:=aDi;exact aR (e:= .normal) (e':= .normal) (some (.exit id)) X5 s5 E5 .done am rfl ⟨G,v1,v2,v3⟩ aq an
     |panic ch=>
      obtain⟨X5,v5,d5,M5,E5,am,rfl,h1,h2,h3,h4,⟨ms,hms,_,bO⟩,_⟩:=aDi;have aZv:∀b,Xy b->X5 b:=fun b H=>am b (br b H)
      exact⟨by rw[hms,bO rfl];rfl,v5,d5,M5,E5,rfl,h1,h2.less aZv aJ.apF,h3,h4.weaken fun b H=>H.imp (aZv b) id⟩
     |goto t=>exact aDi.elim
     |outgrown=>exact aDi.elim
   have bS:=h aq9;have hA:anW w2 (away X' (apE s.mem L .ready none cells [] [] []) E1) (apE s.mem L .ready none cells [] [] []) E1 (Fs.toList++ [.func (.yield lp) #[] #[]]++Cs.toList) (fs++ [.asz s.mem.boxes.length]++cs):=
    (((bI.move aY).from aMV).append (.cons (.asz aD9 bk rfl) .nil)).append ((bH.move aY).from aMV)
   have aSe:=bS X' w2 E1 _ bA hA;refine⟨lp,[{target:= .collected D,args:= #[]}],w2,{target:= .fn (.func g) Cs,args:=Fs++ #[.func (.yield lp) #[] #[]]},w2,g,Fs++ #[.func (.yield lp) #[] #[]]++Cs,w2,?_,?_,fun _ _=>trivial,?_,fun h=>by simp[RF,Fence.wide]at h,?_⟩
   ·have:=run_enterLoop_outer (P:=C.P) (w:=w) fn a.tmps ps x y
    rw[aSm,aM,hL,a0,hD];exact this
   ·simp only[resolve,aZa]
    simp[go_sem,Deferred.ofValue,Act.eval]
   ·simp[invoke,auh aU]
   have aT:(Fs.toList++ [Value.func (.yield lp) #[] #[]]++Cs.toList).toArray=Fs++ #[Value.func (.yield lp) #[] #[]]++Cs:=by simp
   rw[aT]at aSe;refine aFu (Calls.mono aSe fun e w3 aB=> ?_);cases e with
   |outgrown=>exact aB.elim
   |panicked chain=>
    obtain⟨v,d,M3,E3,rfl,hq,aXH,aPX,bR⟩:=aB;have av:=bg.trans aPX;refine⟨X',v,d,M3,E3,ax,rfl,hq,aXH,V.trans av,bR,?_,N.fix⟩;obtain⟨ms,hms,⟨aD,aE⟩,_⟩:=N.defers;obtain⟨aG,aX2,hold,_⟩:=aw.defers.from aw.sim (aMV.trans aPX)
    have aF:aG=ms:=by simpa using aX2.symm.trans hms
    subst aF;refine⟨_::aG,by rw[hms];rfl,⟨fun d hd=> ?_,?_⟩,fun e=>(z e).elim⟩
    ·rcases az.1 hd with rfl|hd
     ·refine⟨D,rfl,by rw[hD];exact V.size,by rw[ay];exact .inr rfl,?_⟩
      have a4:¬owned s.mem E D:=fun ho=>by have:=N.sim.aGi ho;omega
      exact(aMV.trans aPX).keep D _ a4 aYY
     ·exact hold.1 d hd
    ·refine ak.2 ⟨fun d hd he=> ?_,aE⟩
     obtain⟨D',g1,g2,g3,g4⟩:=aD d hd;rw[g1]at he
     injection he with he
     have:=aop g4;omega
   |returned v=>
    obtain⟨p,M3,E3,⟨st,pd,bs,v1,v2,v3,v4⟩,aXH,aPX,_⟩:=aB;obtain⟨l3,aZR,u1,u2,u3,u4,u5,u6,u7⟩:=aCL (st':= .exhausted) (pd':=pd) aXH v1 v3;rw[(aPX.bx _ _ aD9).1,bk]at u1;cases u1;refine⟨pd,_,run_endLoop u4 v2,?_⟩;have av:=(aPX.trans u7)
    have aj:InS C X' ⟨w₀.heap.size,j,ex,fx⟩ n ⟨s.env,_⟩ {a with defers:=[{target:= .collected D,args:= #[]}]++a.defers} _ E3:=
     {sim:=u6
      env:=fun t=>(aw.env t).from (aMV.trans av)
      size:=N.size
      fix:=N.fix
      defers:=by
       obtain⟨ms,hms,⟨aD,aE⟩,_⟩:=N.defers;obtain⟨aG,aX2,hold,_⟩:=aw.defers.from aw.sim (aMV.trans av)
       have aF:aG=ms:=by simpa using aX2.symm.trans hms
       subst aF;refine⟨_::aG,by rw[hms];rfl,⟨fun d hd=> ?_,?_⟩,fun e=>(z e).elim⟩
       ·rcases az.1 hd with rfl|hd
        ·refine⟨D,rfl,by rw[hD];exact V.size,by rw[ay];exact .inr rfl,?_⟩
         have a4:¬owned s.mem E D:=fun ho=>by have:=N.sim.aGi ho;omega
         exact(aMV.trans av).keep D _ a4 aYY
        ·exact hold.1 d hd
       ·refine ak.2 ⟨fun d hd he=> ?_,aE⟩
        obtain⟨D',g1,g2,g3,g4⟩:=aD d hd;rw[g1]at he
        injection he with he
        have:=aop g4;omega}
    have aMX:=(V.trans bg).trans av
    match pd,v4,aj,aMX with
    |none,v4,aj,aMX=>exact⟨X',_,E3,ax,v4,aj,aMX⟩
    |some .ret,v4,aj,aMX=>exact azN<|wpIn_ret ⟨X',_,E3,ax,v4,aj,aMX⟩
    |some (.exit id),v4,aj,aMX=>exact azN<|wpIn_exit ⟨X',_,E3,ax,v4,aj,aMX⟩
def aw2 (j:C.P.follows .mixedOrders=true){n:Nat}(c:Code)(pc:anH){X:Nat->Prop}{w₀:World}{M₀:Mem}{E₀:Emb}{nb na:Nat}(hb:M₀.boxes.length<=nb)(i:M₀.anK.length<=na)(k:ax2 pc=true)(ro:Option Nat)(b:List Deferred)(ex:Bool)(fx:Option (Nat×Value))(Q:Ex->St->Prop)(s:St)(a:Act)(w:World)(E:Emb)
  (h1:∀q,fx=some q->azc q.1 c=true)(h2:ro=none\/apm pc=true)(d:ex=true->apm pc=true)(e:chk C.P n c pc=true)(f:pwp C nb na pc Q s)(g:InS C X ⟨w₀.heap.size,b,ex,fx⟩ n s a w E)(h:From w₀ M₀ E₀ w s.mem E):c.wpIn (RF ro) 0 C.P (Post C X n w₀ M₀ E₀ b ex fx Q) a w:=
 aWt (aqh j c pc hb i (fun _=>True) (.inr k) ro b ex fx Q s a w E h1 h2 d e f g h)
inductive ap7 where
 |tmp (t:Nat)
 |cell (t:Nat) (agg:Bool) (n:Nat)
def aEd (P:Program):List ResultVar->List ap7->Bool
 | [],[]=>true
 | .tmp t::l, .tmp b::a=>t==b&&aEd P l a
 | .cell t ty::l, .cell b agg n::a=>t==b&&av8 P ty agg n&&aEd P l a
 | _,_=>false
def ase:List ap7->St->(List PV->Prop)->Prop
 | [],_,K=>K []
 | .tmp t::l,s,K=>ase l s fun a=>K (look s.env t::a)
 | .cell t agg n::l,s,K=>aol agg n (look s.env t) s.mem fun v=>ase l s fun a=>K (v::a)
def resV:List PV->PV
 | [x]=>x
 |a=>aBR a
def aIR {P:Program}{t:TypeId}{u:Value}(h:(Instr.loadAt t v).run P w= .ok u w):(do loadVar t (<-asAddr v):Sem Value).run P w= .ok u w:=by
 cases v with
 |pointer a=>
  cases a with
  |none=>simp[Instr.loadAt,Instr.sureAddr]at h
  |some a=>simpa[Instr.loadAt,Instr.sureAddr,asAddr]using h
 | _=>simp[Instr.loadAt,Instr.sureAddr]at h
def aVR (tmps:Array Value):ResultVar->Sem Value
 | .tmp t=>pure (tmps.getD t undef)
 | .cell x t=>do loadVar t (<-asAddr (tmps.getD x undef))
def aGM (fn:Func)(tmps:Array Value):results fn tmps=(do let vs<-fn.results.mapM (aVR tmps);pure (if h:vs.size=1 then vs[0]else .tuple vs)):=rfl
def aDz {lo:Lo}{n:Nat}{s:St}{a:Act}{w:World}{E:Emb}(hi:InS C X lo n s a w E):∀{l:List ResultVar} {d:List ap7} {K:List PV->Prop},aEd C.P l d=true->ase d s K->
  ∃vs ps,(l.mapM (aVR a.tmps):Sem (List Value)).run C.P w= .ok vs w/\K ps/\anW w (away X s.mem E) s.mem E vs ps
 | [],[],K,_,h=>⟨[],[],by simp,h, .nil⟩
 | .tmp t::l, .tmp k::d,K,b,h=>by
  simp only[aEd,S,beq_iff_eq]at b;obtain⟨rfl,b⟩:=b;obtain⟨vs,ps,h1,h2,e⟩:=aDz hi b h;refine⟨a.tmps.getD t undef::vs,_,?_,h2, .cons (hi.env t) e⟩;simp only[aG,aVR,Sem.run_bind,Sem.run_pure,Result.andThen_ok,h1]
 | .cell x t::l, .cell o agg m::d,K,b,h=>by
  simp only[aEd,S,beq_iff_eq]at b;obtain⟨⟨rfl,f⟩,b⟩:=b;simp only[ase]at h;obtain⟨u,pv,g,i,j⟩:=aAG hi.sim (hi.env x) f h;have c:=aIR g;obtain⟨vs,ps,h1,h2,e⟩:=aDz hi b i;refine⟨u::vs,_,?_,h2, .cons j e⟩;simp only[aG];rw[Sem.run_bind];simp only[Act.eval]at c;rw[show aVR a.tmps (.cell x t)=(do loadVar t (<-asAddr (a.tmps.getD x undef))) from rfl,c];simp only[Result.andThen_ok,Sem.run_bind,h1,Sem.run_pure]
def Rep.aBR {w:World}{O:Nat->Prop}{M:Mem}{E:Emb}{vs:List Value}{ps:List PV}(h:anW w O M E vs ps):Rep w O M E (.tuple vs.toArray) (aBR ps):=by
 unfold Am.aBR
 split
 ·rename_i ds hd;exact .d (.tup (by simpa using h.apx hd))
 ·exact .tup (by simpa using h)
def aAE {lo:Lo}{n:Nat}{a:Act}(hi:InS C X lo n s a w E){fn:Func}{e:List ap7}{K:List PV->Prop}(d:aEd C.P fn.results.toList e=true)(h:ase e s K):
  ∃v ps,(results fn a.tmps).run C.P w= .ok v w/\K ps/\Rep w (away X s.mem E) s.mem E v (resV ps):=by
 obtain⟨c,ps,h1,h2,b⟩:=aDz hi d h;refine⟨if h:c.toArray.size=1 then c.toArray[0]else .tuple c.toArray,ps,?_,h2,?_⟩
 ·rw[aGM,Array.mapM_eq_mapM_toList]
  simp only[Sem.run_bind,Sem.run_map,h1,Result.andThen_ok,Sem.run_pure]
 ·have f:=b.length
  match ps,c,b,f with
  | [],[],b,_=>exact Rep.aBR b
  | [p],[v],b,_=>cases b with|cons b _=>exact b
  |p::q::l,v::u::m,b,_=>
   have:¬((v::u::m).toArray.size=1):=by simp
   rw[dif_neg this];exact Rep.aBR b
def aup:Nat->List PV->List (Nat×PV)
 | _,[]=>[]
 |k,v::a=>(k,v)::aup (k+1) a
def aA5:∀{vs:List PV} {k t:Nat},look (aup k vs) t=if t<k then .dead else(vs[t - k]?).getD .dead
 | [],k,t=>by simp[aup,look]
 |v::vs,k,t=>by
  simp only[aup,look]
  by_cases h:k=t
  ·subst h;simp
  ·have:(k==t)=false:=by simp[h]
   simp only[this,cond_false,aA5]
   by_cases h2:t<k
   ·rw[if_pos (by omega),if_pos h2]
   ·rw[if_neg (by omega),if_neg h2]
    have:t - k=(t - (k+1))+1:=by omega
    rw[this];simp
def aBt (P:Program)(f:FuncId)(a:Nat)(pc:anH)(b:List ap7):Bool:=
 match P.funcs[f]? with
 |some fn=>match fn.body with
  |some code=>decide (a<=fn.ntmps)&&chk P fn.ntmps code pc&&aEd P fn.results.toList b
  |none=>false
 |none=>false
def aHr (b:List ap7)(K:PV->Mem->Prop)(KP:DV->Mem->Prop):Ex->St->Prop
 | .normal,s=>ase b s fun a=>K (resV a) s.mem
 | .ret,s=>ase b s fun a=>K (resV a) s.mem
 | .panic d,s=>KP d s.mem
 | .exit _,_=>False
structure Shut (ds:List Deferred) (w w':World):Prop where
 os:w'.os=w.os
 tape:w'.tape=w.tape
 output:w'.output=w.output
 size:w'.heap.size=w.heap.size
 keep:∀b,(∀d∈ds,d.target≠ .collected b)->w'.heap[b]?=w.heap[b]?
def aso {P:Program}{fn:Func}{tmps:Array Value}{R:Ending->World->Prop}{lo:Nat}{f:List Deferred}{u:FrameMode}(l:u≠ .run):∀{ds:List Deferred} {w:World},okM lo X ds w->
  (∀w',Shut ds w w'->LeavesInM Fence.wide 0 P fn tmps R f u w')->LeavesInM Fence.wide 0 P fn tmps R (ds++f) u w
 | [],w,_,h=>h w ⟨rfl,rfl,rfl,rfl,fun _ _=>rfl⟩
 |d::ds,w,hd,h=>by
  obtain⟨h1,h2⟩:=hd;rw[ak]at h2;obtain⟨D,i,s,t,n⟩:=h1 d (by simp);refine⟨l, .inl ⟨D,w.putObj D (.deferred none),i,run_takeDeferred n,?_⟩⟩;have j:∀c∈ds,∀e,c.target= .collected e->e≠D:=by
   rintro c a e o rfl;exact h2.1 c a (by rw[i,o])
  refine aso l (lo:=lo) ⟨fun c a=> ?_,h2.2⟩ fun w' g=>h w' ?_
  ·obtain⟨e,m,p,q,r⟩:=h1 c (by simp[a])
   exact⟨e,m,p,q,by rw[World.putObj_heap_other (j c a e m)];exact r⟩
  ·refine⟨g.os,g.tape,g.output,by rw[g.size];simp,fun b k=> ?_⟩
   rw[g.keep b fun c a=>k c (by simp[a]),World.putObj_heap_other];rintro rfl;exact k d (by simp) i
def azH {e:World}{M':Mem}{E':Emb}{ds:List Deferred}(h:Sim C X' w' M' E')(f:∀b,C.low b->b<w.heap.size)(hf:From w M E w' M' E')(hd:okM w.heap.size X' ds w')(hs:Shut ds w' e):
  Sim C X' e M' E'/\From w M E e M' E'/\(∀b o,¬away X' M' E' b->w'.heap[b]?=some o->e.heap[b]?=some o/\¬away X' M' E' b):=by
 have a:∀b,(¬X' b\/b<w.heap.size)->e.heap[b]?=w'.heap[b]?:=by
  intro b c;refine hs.keep b fun d j g=> ?_
  obtain⟨D,k,p,l,_⟩:=hd.1 d j;rw[k]at g
  injection g with g
  subst g
  rcases c with c|c
  ·exact c l
  ·omega
 obtain⟨m,n⟩:=h.shift (X':=X') (w':=e) h.apF (fun b c=>by rw[hs.size];exact h.xlt b c) (fun b c=>a b (.inr (f b c))) fun b o c i=>⟨by rw[a b (.inl c)];exact i,c⟩
 refine⟨m,?_,n⟩;exact
  {os:=hs.os.trans hf.os,tape:=hs.tape.trans hf.tape,output:=hs.output.trans hf.output,size:=by rw[hs.size];exact hf.size,
   keep:=fun b o c i=>by rw[a b (.inr (aop i))];exact hf.keep b o c i,
   own:=hf.own,apD:=hf.apD,bx:=hf.bx,aoc:=hf.aoc,ar:=hf.ar}
def aDD (hm:C.P.follows .mixedOrders=true){f:FuncId}{args:List PV}{M:Mem}{K:PV->Mem->Prop}{KP:DV->Mem->Prop}{pc:anH}{Q:List ap7}{j:Nat}(hn:args.length=j)(hc:aBt C.P f j pc Q=true)
  (h:pwp C M.boxes.length M.anK.length pc (aHr Q K KP) ⟨aup 0 args,M⟩):SC C f args M K KP:=by
 subst hn;intro X w E a A R;unfold aBt at hc
 split at hc
 ·rename_i fn D
  split at hc
  ·rename_i code q
   simp only[S,decide_eq_true_eq]at hc;obtain⟨⟨ab,a0c⟩,G⟩:=hc;have ac:a.length=args.length:=R.length;have hi:InS C X ⟨w.heap.size,[],false,none⟩ fn.ntmps ⟨aup 0 args,M⟩ {tmps:=a.toArray++ap (fn.ntmps - a.toArray.size) undef,defers:=[]} w E:=
    {sim:=A
     size:=by simp;omega
     defers:=ax4
     fix:=fun _ h=>by cases h
     env:=fun t=>by
      simp only[aA5,Nat.not_lt_zero,if_false,bc];cases ht:args[t]? with
      |none=>exact .dead
      |some p=>
       obtain⟨v,T,hr⟩:=R.get' t p ht;have L:t<a.length:=(an.1 T).1;have:({tmps:=a.toArray++ap (fn.ntmps - a.toArray.size) undef,defers:=[]}:Act).eval (.tmp t)=v:=by
        simp only[Act.eval,Y];rw[Array.getElem?_append_left (by simpa using L)];simp[T]
       rw[this];exact hr}
   refine(callsIn_wide (n:=0)).1 (aFv (F:=Fence.wide) (B:=fun g=>∃fn,C.P.funcs[g]?=some fn) D q trivial ⟨fn,D⟩ ?_);refine avh (F:=RF none) (aqh hm code pc (ao _) (ao _) _ (.inl fun _ h=>h) none [] false none _ _ _ w E (fun _ h=>by cases h) (.inl rfl) (fun e=>by cases e) a0c h hi (.refl _ _ _)) fun e y w' x=> ?_
   have m:∀b,C.low b->b<w.heap.size:=fun b I=>A.xlt b (A.apF b I)
   have z:∀(s:St) (X':Nat->Prop) (c:Emb),(∀b,X b->X' b)->ase Q s (fun vs=>K (resV vs) s.mem)->InS C X' ⟨w.heap.size,[],false,none⟩ fn.ntmps s y w' c->From w M E w' s.mem c->
     LeavesInM Fence.wide 0 C.P fn y.tmps (fun e w'=>Fin C X w M E K KP w' e) y.defers .returning w':=by
    intro s X' c k h1 h2 o;obtain⟨ms,r,i,_⟩:=h2.defers;rw[r];refine aso (by simp) i fun U u=> ?_
    obtain⟨H,N,O⟩:=azH h2.sim m o i u;have J:InS C X' ⟨w.heap.size,[],false,none⟩ fn.ntmps s {y with defers:=[]} U c:={sim:=H,env:=fun t=>(h2.env t).move O,size:=h2.size,defers:=ax4,fix:=fun _ h=>by cases h}
    obtain⟨v,ps,V,W,Z⟩:=aAE J G h1;exact⟨v,V,_,s.mem,c,W,H.less k A.apF,N,Z.less k⟩
   cases e with
   |normal=>
    obtain⟨X',s,c,k,h1,h2,o⟩:=x;exact z s X' c k h1 h2 o
   |ret=>
    obtain⟨X',s,c,k,h1,h2,o⟩:=x;exact z s X' c k h1 h2 o
   |panic ch=>
    obtain⟨X',v,d,M',c,k,rfl,h1,h2,o,h4,h5,_⟩:=x;obtain⟨ms,r,i,_⟩:=h5
    show LeavesInM _ _ _ _ _ _ y.defers _ _
    rw[r];refine aso (by simp) i fun U u=> ?_
    obtain⟨H,N,O⟩:=azH h2 m o i u;exact⟨v,d,M',c,rfl,h1,H.less k A.apF,N,(h4.mono O).weaken fun b I=>I.imp (k b) id⟩
   |exit id=>obtain⟨X',s,c,k,h1,_⟩:=x;exact h1.elim
   |goto l=>exact x.elim
   |outgrown=>exact x.elim
  ·cases hc
 ·cases hc
end
def mkRow (M:Mem)(q:Nat×Nat):Arr:=match M.anK[q.1]? with|some (some A)=>⟨A.sz,A.elems.drop q.2,0,A.st⟩| _=>default
def apv (M:Mem)(E:Emb)(q:Nat×Nat):Option (Nat×Nat×Nat):=match M.anK[q.1]?,E.ar[q.1]? with|some (some A),some (some (a,o,e))=>some (a,o+q.2*A.sz,e)| _,_=>none
def auV (M:Mem)(q:Nat×Nat):Bool:=match M.anK[q.1]? with|some (some A)=>decide (q.2<=A.elems.length)| _=>false
def aCD:List (Nat×Nat)->Nat->Nat->Nat->Option Nat
 | [],_,_,_=>none
 |(a,b)::l,i,k,s=>bif a==k&&b==s then some i else aCD l (i+1) k s
def aGJ (M:Mem)(L:List (Nat×Nat)):PV->PV
 | .d x=> .d x
 | .tsl k ver skip=>match M.row k ver,aCD L 0 k skip with|some _,some i=> .tsl i 0 0| _,_=> .dead
 | _=> .dead
def aTi (M:Mem)(L:List (Nat×Nat)):PV->PV
 | .agg cs=> .agg (cs.map (aGJ M L))
 |p=>aGJ M L p
def ren (M:Mem)(L:List (Nat×Nat)):PV->PV
 | .agg cs=> .agg (cs.map (aGJ M L))
 | .tup cs=> .tup (cs.map (aTi M L))
 |p=>aGJ M L p
def av9 (M:Mem)(L:List (Nat×Nat)):Prop:=(∀q∈L,auV M q=true)/\(L.map (·.1)).Nodup
def aIu:∀{L:List (Nat×Nat)} {i k s j:Nat},aCD L i k s=some j->i<=j/\L[j - i]?=some (k,s)
 | [],i,k,s,j,h=>by simp[aCD]at h
 |(a,b)::l,i,k,s,j,h=>by
  simp only[aCD]at h;cases c:(a==k&&b==s)with
  |true=>
   rw[c]at h;simp only[cond_true,Option.some.injEq]at h;subst h;simp only[S,beq_iff_eq]at c;obtain⟨rfl,rfl⟩:=c;simp
  |false=>
   rw[c]at h;simp only[cond_false]at h;obtain⟨h1,h2⟩:=aIu h;refine⟨by omega,?_⟩;rw[show j - i=(j - (i+1))+1 by omega]
   simpa using h2
section
variable {C:Ctx}{X:Nat->Prop}{w:World}{M:Mem}{E:Emb}
variable{q:Nat×Nat}
def aSC (h:auV M q=true):∃A,M.anK[q.1]?=some (some A)/\q.2<=A.elems.length/\mkRow M q=⟨A.sz,A.elems.drop q.2,0,A.st⟩:=by
 unfold auV at h
 split at h
 ·rename_i A a
  simp only[decide_eq_true_eq]at h;exact⟨A,a,h,by simp[mkRow,a]⟩
 ·cases h
def az4 {blk o e:Nat}(h:apv M E q=some (blk,o,e)):∃A o',M.anK[q.1]?=some (some A)/\E.ar[q.1]?=some (some (blk,o',e))/\o=o'+q.2*A.sz:=by
 unfold apv at h
 split at h
 ·rename_i A a o' d b c
  simp only[Option.some.injEq,Prod.mk.injEq]at h;obtain⟨rfl,rfl,rfl⟩:=h;exact⟨A,o',b,c,rfl⟩
 ·cases h
variable{L:List (Nat×Nat)}{i:Nat}
def aFi {B:Arr}(d:av9 M L)(h:(rowsOf (L.map (mkRow M))).anK[i]?=some (some B)):∃q A,L[i]?=some q/\M.anK[q.1]?=some (some A)/\q.2<=A.elems.length/\B=⟨A.sz,A.elems.drop q.2,0,A.st⟩:=by
 simp only[rowsOf,a8,aq,ae,aY]at h;obtain⟨q,b,a⟩:=h;simp only[Option.some.injEq]at a;obtain⟨A,h1,h2,c⟩:=aSC (d.1 q (List.mem_of_getElem? b));exact⟨q,A,b,h1,h2,by rw[<-a,c]⟩
def avS (a:L[i]?=some q):(L.map (apv M E))[i]?=some (apv M E q):=by
 simp[a]
def aDr (g:av9 M L){b:Nat}(h:owned (rowsOf (L.map (mkRow M))) ⟨[],L.map (apv M E)⟩ b):owned M E b:=by
 rcases h with⟨i,cs,h1,_⟩|⟨i,B,o,e,h1,h2,c⟩
 ·simp[rowsOf]at h1
 ·obtain⟨q,A,f,a,m,rfl⟩:=aFi g h1
  simp only[avS f,Option.some.injEq]at c;obtain⟨l,j,d,k,_⟩:=az4 c;rw[a]at d;cases d;exact .inr ⟨q.1,A,j,e,a,h2,k⟩
def aJD (h:Sim C X w M E)(c:av9 M L):Sim C X w (rowsOf (L.map (mkRow M))) ⟨[],L.map (apv M E)⟩:=by
 have d:∀b,away X (rowsOf (L.map (mkRow M))) ⟨[],L.map (apv M E)⟩ b->away X M E b:=fun b f=>f.imp id (aDr c)
 exact
  {glob:=h.glob,apF:=h.apF,xlt:=h.xlt
   apD:=rfl
   aoc:=by simp[rowsOf]
   box:=fun b cs f=>by simp[rowsOf]at f
   arr:=fun i B n=>by
    obtain⟨q,A,g1,g2,g3,rfl⟩:=aFi c n;obtain⟨y,s2,s3,z⟩:=h.arr q.1 A g2;refine⟨y,fun x u=>s2 x (List.mem_of_mem_drop u),fun t=> ?_,fun a o e k=> ?_⟩
    ·obtain⟨⟨a,o,e⟩,s⟩:=s3 t
     exact⟨(a,o+q.2*A.sz,e),by rw[avS g1];simp[apv,g2,s]⟩
    ·simp only[avS g1,Option.some.injEq]at k
     obtain⟨A',o',q1,q2,rfl⟩:=az4 k;rw[g2]at q1;cases q1;obtain⟨r1,vs,T,r2,r3,r4,r5⟩:=z a o' e q2;refine⟨r1,vs,T,r2,?_,r4,?_⟩
     ·simp only[aM]
      have:q.2*A.sz+(A.elems.length - q.2)*A.sz=A.elems.length*A.sz:=by rw[<-aQ];congr 1;omega
      omega
     ·simp only[aM]
      exact(row_drop s2 r5).weaken d
   bb:=fun b F cs l a h1=>by simp[rowsOf]at h1
   aa:=fun i G B D a o e o' m h1 h2 g j=>by
    obtain⟨q,A,g1,g2,g3,rfl⟩:=aFi c h1;obtain⟨v,A',g1',g2',g3',rfl⟩:=aFi c h2;simp only[avS g1,Option.some.injEq]at g;simp only[avS g1',Option.some.injEq]at j;obtain⟨_,p1,_,p2,_⟩:=az4 g;obtain⟨_,p1',_,p2',_⟩:=az4 j;have r:=h.aa q.1 v.1 A A' a p1 e p1' m g2 g2' p2 p2';have p:i<(L.map (·.1)).length:=by simpa using(an.1 g1).1
    refine(List.getElem?_inj p c.2).1 ?_;simp[g1,g1',r]
   ba:=fun b i cs B a o e h1=>by simp[rowsOf]at h1}
def aFR {w₀:World}(hf:From w₀ aok ⟨[],[]⟩ w M E)(c:av9 M L):From w₀ aok ⟨[],[]⟩ w (rowsOf (L.map (mkRow M))) ⟨[],L.map (apv M E)⟩:={
 os:=hf.os
 tape:=hf.tape
 output:=hf.output
 size:=hf.size
 keep:=hf.keep
 own:=fun b a=>hf.own b (aDr c a)
 apD:=ao _
 bx:=fun b cs a=>by simp[aok]at a
 aoc:=aR _
 ar:=fun k e d=>by simp[aok]at d}
def aGL (h:Sim C X w M E)(D:av9 M L){v:Value}{p:PV}(q:Rep w (away X M E) M E v p):
  Rep w (away X (rowsOf (L.map (mkRow M))) ⟨[],L.map (apv M E)⟩) (rowsOf (L.map (mkRow M))) ⟨[],L.map (apv M E)⟩ v (aGJ M L p):=by
 have f:∀b,away X (rowsOf (L.map (mkRow M))) ⟨[],L.map (apv M E)⟩ b->away X M E b:=fun b F=>F.imp id (aDr D)
 cases p with
 |d x=>exact .d (q.toD.weaken f)
 |tsl k ver skip=>
  simp only[aGJ]
  split
  ·rename_i A i t G
   obtain⟨_,c⟩:=aIu G;simp only[bc]at c;obtain⟨t1,t2,R,S,N⟩:=aHd h q t;obtain⟨a,cap,H⟩:=q.aq0 t;subst H;have g:mkRow M (k,skip)=⟨A.sz,A.elems.drop skip,0,A.st⟩:=by simp[mkRow,t1]
   have m:i<L.length:=(an.1 c).1;refine .tsl (by simpa[rowsOf]using m) fun B u=> ?_
   have l:B=⟨A.sz,A.elems.drop skip,0,A.st⟩:=by
    simp only[rowsOf,a8,aq,c,aU,aY,Option.some.injEq]at u;rw[<-u,g]
   subst l;refine⟨ao _,fun _=>⟨_,avS c,aR _,?_⟩⟩
   rcases N with⟨j,o,e,U,T,s,r,I,O,P,Q,J⟩|⟨r,I,hd⟩
   ·have n:apv M E (k,skip)=some (j,o+skip*A.sz,e):=by simp[apv,t1,r]
    rw[n];simp only
    rcases J with⟨hh,y,K⟩|⟨y,_,z,hh⟩
    ·cases hh
     refine .inl ⟨cap,by simp,by simpa using y,?_⟩;simp only[bd];rw[Nat.add_assoc,<-aQ];exact K
    ·refine .inr ⟨by simp;omega,z,?_⟩
     exact hh
   ·have n:apv M E (k,skip)=none:=by simp[apv,t1,r]
    rw[n]
    simpa using hd.weaken f
  ·exact .dead
 | _=>exact .dead
def aDx {L:List (Nat×Nat)}(h:Sim C X w M E)(a:av9 M L):∀{vs:List Value} {ps:List PV},anW w (away X M E) M E vs ps->
  anW w (away X (rowsOf (L.map (mkRow M))) ⟨[],L.map (apv M E)⟩) (rowsOf (L.map (mkRow M))) ⟨[],L.map (apv M E)⟩ vs (ps.map (aGJ M L))
 | _,_, .nil=> .nil
 | _,_, .cons h1 t=> .cons (aGL h a h1) (aDx h a t)
def aTj (h:Sim C X w M E)(a:av9 M L){v:Value}{p:PV}(b:Rep w (away X M E) M E v p):
  Rep w (away X (rowsOf (L.map (mkRow M))) ⟨[],L.map (apv M E)⟩) (rowsOf (L.map (mkRow M))) ⟨[],L.map (apv M E)⟩ v (aTi M L p):=by
 cases p with
 |agg cs=>cases b with|agg hh=>exact .agg (aDx h a hh)
 | _=>exact aGL h a b
def aIx {L:List (Nat×Nat)}(h:Sim C X w M E)(a:av9 M L):∀{vs:List Value} {ps:List PV},anW w (away X M E) M E vs ps->
  anW w (away X (rowsOf (L.map (mkRow M))) ⟨[],L.map (apv M E)⟩) (rowsOf (L.map (mkRow M))) ⟨[],L.map (apv M E)⟩ vs (ps.map (aTi M L))
 | _,_, .nil=> .nil
 | _,_, .cons h1 t=> .cons (aTj h a h1) (aIx h a t)
def aVQ (h:Sim C X w M E)(a:av9 M L){v:Value}{p:PV}(b:Rep w (away X M E) M E v p):
  Rep w (away X (rowsOf (L.map (mkRow M))) ⟨[],L.map (apv M E)⟩) (rowsOf (L.map (mkRow M))) ⟨[],L.map (apv M E)⟩ v (ren M L p):=by
 cases p with
 |agg cs=>cases b with|agg hh=>exact .agg (aDx h a hh)
 |tup cs=>cases b with|tup hh=>exact .tup (aIx h a hh)
 | _=>exact aGL h a b
def aCM {w:World}(d:C.G w)(hl:∀b,C.low b->X b)(hx:∀b,X b->b<w.heap.size):Sim C X w aok ⟨[],[]⟩:={
 glob:=d
 apF:=hl
 xlt:=hx
 apD:=rfl
 aoc:=rfl
 box:=fun b cs h=>by simp[aok]at h
 arr:=fun k A h=>by simp[aok]at h
 bb:=fun b g cs c a h=>by simp[aok]at h
 aa:=fun k j A f a o e l i h=>by simp[aok]at h
 ba:=fun b k cs A a o e h=>by simp[aok]at h}
def azQ:∀b,away X aok ⟨[],[]⟩ b->X b:=by
 rintro b (h|⟨i,cs,h,_⟩|⟨k,A,o,e,h,_⟩)
 ·exact h
 ·simp[aok]at h
 ·simp[aok]at h
def ayc {f:FuncId}{ds:List DV}{r:PV}{ass:List Arr}(h:SC C f (ds.map .d) aok (fun p M=>∃L,av9 M L/\ren M L p=r/\L.map (mkRow M)=ass) (fun _ _=>False)):Pure C f ds r ass:=by
 intro X w a l m o n;refine(h X w ⟨[],[]⟩ a (aCM l m o) (anW.ofD (n.weaken azQ))).mono fun e w' g=> ?_
 cases e with
 |returned v=>
  obtain⟨p,M',i,⟨L,b,rfl,rfl⟩,h2,j,k⟩:=g;exact⟨v,_,rfl,aJD h2 b,aFR j b,aVQ h2 b k⟩
 |panicked c=>
  obtain⟨v,d,M',i,_,hh,_⟩:=g;exact hh.elim
 |outgrown=>exact g.elim
def aEI (c:C.P.follows .mixedOrders=true){f:FuncId}{ds:List DV}{r:PV}{ass:List Arr}{pc:anH}{b:List ap7}{a:Nat}(e:(ds.map PV.d).length=a)(hc:aBt C.P f a pc b=true)
  (h:pwp C 0 0 pc (aHr b (fun p M=>∃L,av9 M L/\ren M L p=r/\L.map (mkRow M)=ass) (fun _ _=>False)) ⟨aup 0 (ds.map .d),aok⟩):Pure C f ds r ass:=
 ayc (aDD c e hc h)
def aAB (c:C.P.follows .mixedOrders=true){f:FuncId}{ds:List DV}{x:DV}{pc:anH}{b:List ap7}{a:Nat}(e:(ds.map PV.d).length=a)(hc:aBt C.P f a pc b=true)
  (h:pwp C 0 0 pc (aHr b (fun p _=>p= .d x) (fun _ _=>False)) ⟨aup 0 (ds.map .d),aok⟩):Pure C f ds (.d x) []:=by
 refine ayc (SC.mono (aDD c e hc h) fun v M' i=>⟨[],⟨fun q g=>(by cases g),List.nodup_nil⟩,?_,rfl⟩);subst i
 rfl
end
section
variable {C:Ctx}{nb na:Nat}{Q:Ex->St->Prop}{env:List (Nat×PV)}{bs:List (Option (List PV))}{fz:List Nat}{ass:List (Option Arr)}{s:St}
def aS2:pwp C nb na .skip Q s=Q .normal s:=px
def aQq {l:Nat}:pwp C nb na (.label l) Q s=Q .normal s:=px
def aVE:pwp C nb na .ret Q s=Q .ret s:=px
def aS1 {i:Nat}:pwp C nb na (.exit i) Q s=Q (.exit i) s:=px
def aQr {b:anH}:pwp C nb na (.scope b) Q s=pwp C nb na b Q s:=px
def aTH (C:Ctx)(nb na:Nat)(b:anH)(Q:Ex->St->Prop):Ex->St->Prop:=fun e a=>match e with| .normal=>pwp C nb na b Q a|e=>Q e a
def aAR (id:Nat)(Q:Ex->St->Prop):Ex->St->Prop:=fun e b=>match e with| .exit a=>if a=id then Q .normal b else Q (.exit a) b|e=>Q e b
def aEa (nb na:Nat)(I:Nat->St->Prop)(n:Nat)(Q:Ex->St->Prop):Ex->St->Prop:=fun e c=>match e with| .normal=>∃b a,b<n/\Weak nb na c a/\I b a|e=>Q e c
def aVF {a b:anH}:pwp C nb na (.seq a b) Q s=pwp C nb na a (aTH C nb na b Q) s:=px
def aLG {b:anH}:aTH C nb na b Q .normal s=pwp C nb na b Q s:=px
def aTI {b:anH}:aTH C nb na b Q .ret s=Q .ret s:=px
def aQI {b:anH}{i:Nat}:aTH C nb na b Q (.exit i) s=Q (.exit i) s:=px
def aNL {b:anH}{d:DV}:aTH C nb na b Q (.panic d) s=Q (.panic d) s:=px
def aQp {i:Nat}{b:anH}:pwp C nb na (.block i b) Q s=pwp C nb na b (aAR i Q) s:=px
def aHk {i:Nat}:aAR i Q .normal s=Q .normal s:=px
def aMd {i:Nat}:aAR i Q .ret s=Q .ret s:=px
def aIO {i:Nat}{d:DV}:aAR i Q (.panic d) s=Q (.panic d) s:=px
def aDO {i j:Nat}:aAR i Q (.exit j) s=if j=i then Q .normal s else Q (.exit j) s:=px
def aMc {i j:Nat}(h:(j==i)=true):aAR i Q (.exit j) s=Q .normal s:=by rw[aDO,if_pos (by simpa using h)]
def aJ1 {i j:Nat}(h:(j==i)=false):aAR i Q (.exit j) s=Q (.exit j) s:=by rw[aDO,if_neg (by simpa using h)]
def aJh {I:Nat->St->Prop}{n:Nat}:aEa nb na I n Q .normal s=∃b a,b<n/\Weak nb na s a/\I b a:=px
def aQb {I:Nat->St->Prop}{n:Nat}:aEa nb na I n Q .ret s=Q .ret s:=px
def aNe {I:Nat->St->Prop}{n i:Nat}:aEa nb na I n Q (.exit i) s=Q (.exit i) s:=px
def aKR {I:Nat->St->Prop}{n:Nat}{d:DV}:aEa nb na I n Q (.panic d) s=Q (.panic d) s:=px
variable{b:anH}
def axE (I:Nat->St->Prop)(n:Nat)(a:I n s)(c:∀n s,I n s->pwp C nb na b (aEa nb na I n Q) s):pwp C nb na (.loop b) Q s:=⟨I,n,a,c⟩
def aCy {x:Bool}{c:Opd}{a:anH}(h:s.val c= .d (.bool x)):pwp C nb na (.cond c a b) Q s=((x=true->pwp C nb na a Q s)/\(x=false->pwp C nb na b Q s)):=by
 simp only[pwp,h]
def aNv {t:Nat}{a b:anH}{m:Mem}(h:look env t= .d (.bool true)):pwp C nb na (.cond (.t t) a b) Q ⟨env,m⟩=pwp C nb na a Q ⟨env,m⟩:=by
 rw[aCy (s:=⟨env,m⟩) (c:= .t t) (x:=true) h];simp
def aNu {t:Nat}{a b:anH}{m:Mem}(h:look env t= .d (.bool false)):pwp C nb na (.cond (.t t) a b) Q ⟨env,m⟩=pwp C nb na b Q ⟨env,m⟩:=by
 rw[aCy (s:=⟨env,m⟩) (c:= .t t) (x:=false) h];simp
def aLj {a b:anH}:pwp C nb na (.cond (.c (.bool true)) a b) Q s=pwp C nb na a Q s:=by
 rw[aCy (x:=true) rfl];simp
def aLi {a b:anH}:pwp C nb na (.cond (.c (.bool false)) a b) Q s=pwp C nb na b Q s:=by
 rw[aCy (x:=false) rfl];simp
def aGy {d:Bool}{ops:List PO}{aNm:Nat}{keep a:List Nat}{m:Mem}:pwp C nb na (.region d ops aNm keep a) Q ⟨env,m⟩=
  auQ C m.boxes.length ops (fun b=>atT a (Q .normal) ⟨apS b.env keep,b.mem⟩) (fun d M=>Q (.panic d) ⟨[],M⟩) ⟨env,⟨m.boxes++aI aNm none,m.fz,m.anK⟩⟩:=px
def aLk {d:Bool}{ops:List PO}{keep:List Nat}{m:Mem}:pwp C nb na (.region d ops 0 keep []) Q ⟨env,m⟩=
  auQ C m.boxes.length ops (fun a=>Q .normal ⟨apS a.env keep,a.mem⟩) (fun d M=>Q (.panic d) ⟨[],M⟩) ⟨env,m⟩:=by
 rw[aGy];simp only[List.replicate_zero,aS,atT]
def aPU {K:St->Prop}:atT [] K s=K s:=px
def aKI:apS env []=[]:=rfl
def aJa {k:Nat}{ks:List Nat}:apS env (k::ks)=(k,look env k)::apS env ks:=by simp only[apS,U]
end
section
variable {C:Ctx}{base:Nat}{K:St->Prop}{KP:DV->Mem->Prop}{s:St}{env:List (Nat×PV)}{m:Mem}
def aNJ:auQ C base [] K KP s=K s:=px
def aLB {o:PO}{os:List PO}:auQ C base (o::os) K KP s=aoT C base o (fun a=>auQ C base os K KP a) KP s:=px
def aV7 {dst:Option Nat}{op:POp}{args:List Opd}:aoT C base ⟨dst,op,args,none,0⟩ K KP ⟨env,m⟩=anG C base op (args.map (St.val ⟨env,m⟩)) m (fun v M=>K ⟨put env dst v,M⟩) KP:=propext ⟨fun h=>h.2,fun h=>⟨trivial,h⟩⟩
def aTA {dst:Option Nat}{op:POp}{args:List Opd}{fl:Nat}:aoT C base ⟨dst,op,args,none,fl⟩ K KP ⟨env,m⟩=(avH base fl (args.map (St.val ⟨env,m⟩))/\anG C base op (args.map (St.val ⟨env,m⟩)) m (fun v M=>K ⟨put env dst v,M⟩) KP):=px
def aTD {dst:Option Nat}{op:POp}{args:List Opd}{fl t:Nat}(h:look env t= .d (.bool true)):aoT C base ⟨dst,op,args,some (t,true),fl⟩ K KP ⟨env,m⟩=
  (avH base fl (args.map (St.val ⟨env,m⟩))/\anG C base op (args.map (St.val ⟨env,m⟩)) m (fun v M=>K ⟨put env dst v,M⟩) KP):=by
 simp only[aoT,h];simp
def aTz {dst:Option Nat}{op:POp}{args:List Opd}{fl t:Nat}(h:look env t= .d (.bool false)):aoT C base ⟨dst,op,args,some (t,false),fl⟩ K KP ⟨env,m⟩=
  (avH base fl (args.map (St.val ⟨env,m⟩))/\anG C base op (args.map (St.val ⟨env,m⟩)) m (fun v M=>K ⟨put env dst v,M⟩) KP):=by
 simp only[aoT,h];simp
def aTC {dst:Option Nat}{op:POp}{args:List Opd}{fl t:Nat}(h:look env t= .d (.bool false)):aoT C base ⟨dst,op,args,some (t,true),fl⟩ K KP ⟨env,m⟩=K ⟨put env dst (.d (.tup [])),m⟩:=by
 simp only[aoT,h];simp
def aTB {dst:Option Nat}{op:POp}{args:List Opd}{fl t:Nat}(h:look env t= .d (.bool true)):aoT C base ⟨dst,op,args,some (t,false),fl⟩ K KP ⟨env,m⟩=K ⟨put env dst (.d (.tup [])),m⟩:=by
 simp only[aoT,h];simp
def aV8 {dst:Option Nat}{op:POp}{args:List Opd}{fl t:Nat}{w:Bool}(h:look env t= .d (.tup [])):aoT C base ⟨dst,op,args,some (t,w),fl⟩ K KP ⟨env,m⟩=K ⟨put env dst (.d (.tup [])),m⟩:=by
 simp only[aoT,h]
def aXu {args:List PV}:avH base 0 args=True:=rfl
def aXv {args:List PV}:avH base 1 args=(args.all PV.isD=true):=px
def aUU {b o:Nat}{l:List PV}:avH base 2 (.ptr b o::l)=(b<base):=px
def aUT {x:DV}{l:List PV}:avH base 2 (.d x::l)=True:=px
def aXw {k v i o:Nat}{l:List PV}:avH base 3 (.aqf k v i o::l)=True:=px
def aXx {i b o:Nat}{l:List PV}:avH base (i+4) (.ptr b o::l)=(b=base+i):=px
def aUV {f b o:Nat}{l:List PV}(h:4<=f):avH base f (.ptr b o::l)=(b=base+(f - 4)):=by
 obtain⟨i,rfl⟩:∃i,f=i+4:=⟨f - 4,by omega⟩
 rw[aXx];simp
def aZy {x:DV}:PV.isD (.d x)=true:=rfl
def aS0 {d:Nat}{v:PV}:put env (some d) v=(d,v)::env:=by simp only[put]
def aSZ {v:PV}:put env none v=env:=by simp only[put]
def aSF {d:Nat}{v:PV}:look ((d,v)::env) d=v:=by simp[look]
def aQa {d t:Nat}{v:PV}(h:(d==t)=false):look ((d,v)::env) t=look env t:=by simp[look,h]
def aZU {n:Nat}:St.val ⟨env,m⟩ (.t n)=look env n:=by simp only[St.val]
def aZT {x:DV}:St.val ⟨env,m⟩ (.c x)= .d x:=by simp only[St.val]
end
section
variable {C:Ctx}{base:Nat}{M:Mem}{K:PV->Mem->Prop}{KP:DV->Mem->Prop}
def aXq {x:PV}:anG C base .mov [x] M K KP=K x M:=px
def aPK {sz:Nat}{xs:List DV}:anG C base (.aIM sz) [.d (.slice true xs)] M K KP=(0<sz/\(∀e∈xs,e.fits sz=true)/\K (.tsl M.anK.length 0 0) {M with anK:=M.anK++ [some ⟨sz,xs,0,0⟩]}):=propext ⟨fun h=>h.2,fun h=>⟨rfl,h⟩⟩
def aKk {sz:Nat}:anG C base (.aIM sz) [.d (.slice true [])] M K KP=(0<sz/\K (.tsl M.anK.length 0 0) {M with anK:=M.anK++ [some ⟨sz,[],0,0⟩]}):=by
 rw[aPK];simp
def aPL {sz k ver skip:Nat}:anG C base (.aIM sz) [.tsl k ver skip] M K KP=K (.tsl k ver skip) M:=px
def aUQ {t:Bool}{x y:PV}:anG C base .pick [.d (.bool t),x,y] M K KP=K (bif t then x else y) M:=px
def aRU {i:Nat}{zs:List DV}:anG C base (.alloc i zs) [] M K KP=(M.boxes[base+i]?=some none/\K (.ptr (base+i) 0) {M with boxes:=M.boxes.set (base+i) (some (zs.map .d))}):=px
def aXl {i:Nat}{x:PV}:anG C base (.box i) [x] M K KP=(x.asO=false/\M.boxes[base+i]?=some none/\K (.ptr (base+i) 0) {M with boxes:=M.boxes.set (base+i) (some x.cells)}):=px
variable{args:List PV}
def aRY {zs:List DV}{ps:List (Nat×Nat)}:anG C base (.build zs ps) args M K KP=(match aro (zs.map .d) ps args with|some cs=>K (av5 cs) M|none=>False):=px
def aUP {agg:Bool}{n:Nat}{x:PV}:anG C base (.load agg n) [x] M K KP=aol agg n x M fun v=>K v M:=px
def aR1 {n:Nat}{x v:PV}:anG C base (.store n) [x,v] M K KP=apJ n x v M fun M'=>K .dead M':=px
def aMI {b o:Nat}:anG C base .an8 [.ptr b o] M K KP=K (.ptr b o) M:=px
def aMH {cs:List DV}:anG C base .an8 [.d (.anY cs)] M K KP=K (.d (.anY cs)) M:=px
def aXk {op:BinOp}{x y:PV}:anG C base (.bin op) [x,y] M K KP=aDN op x y fun v=>K (.d v) M:=px
def aOj {neq t:Bool}{ks:List Nat}{a b:List DV}(h:aoR ks a b=some t):anG C base (.awZ neq ks) [.d (.agg a), .d (.agg b)] M K KP=K (.d (.bool (t !=neq))) M:=by simp only[anG,h]
def aRZ {neq ex:Bool}{xs:List DV}:anG C base (.isNil neq) [.d (.slice ex xs), .d (.slice true [])] M K KP=((xs≠[]->K (.d (.bool neq)) M)/\(xs=[]->∀b,K (.d (.bool b)) M)):=px
def aYQ {op:UnOp}{x:PV}:anG C base (.un op) [x] M K KP=aLU op x fun v=>K (.d v) M:=px
def aUJ {k k':IntKind}{n:Int}:anG C base (.conv k) [.d (.int k' n)] M K KP=K (.d (.int k (k.wrap n))) M:=px
def aXp {fn:Fn}{nf:Nat}{args:List PV}:anG C base (.mkF fn nf) args M K KP=(match apx args with|some ds=>K (.d (.func fn (ds.take nf) (ds.drop nf))) M|none=>K (.func fn (args.take nf) (args.drop nf)) M):=px
def aXn {off:Nat}{x:PV}:anG C base (.fld off) [x] M K KP=arb off x M fun v=>K v M:=px
def aUL {agg:Bool}{off n:Nat}{x:PV}:anG C base (.aEX agg off n) [x] M K KP=(x.isAgg=true/\off+n<=x.cells.length/\K (ld agg n off x.cells) M):=px
def aUM {sz:Nat}{x i:PV}:anG C base (.anU sz) [x,i] M K KP=aug sz x i M fun v=>K v M:=px
def aUN {agg:Bool}{sz len:Nat}{x:PV}{k:IntKind}{n:Int}:anG C base (.aFY agg sz len) [x, .d (.int k n)] M K KP=(x.isAgg=true/\0<=n/\n<len/\n.toNat*sz+sz<=x.cells.length/\K (ld agg sz (n.toNat*sz) x.cells) M):=px
def aUI {f:FuncId}{args:List PV}:anG C base (.call f) args M K KP=SC C f args M K KP:=px
def aPN {f:FuncId}:anG C base (.apl f) args M K KP=aCH C f args M K:=px
def aXj {sz:Nat}{st1:Bool}{s x:PV}:anG C base (.app sz st1) [s,x] M K KP=aqv sz st1 s x M K:=px
def aXo {x:PV}:anG C base .len [x] M K KP=asc x M fun n=>K (.d (.int .i64 n)) M:=px
def aUO {s:ByteArray}:anG C base .ayM [.d (.str s)] M K KP=K (.d (.int .i64 s.size)) M:=px
def aHY {mx:Bool}{k k':IntKind}{a b:Int}:anG C base (.ax1 mx) [.d (.int k a), .d (.int k' b)] M K KP=K (.d (.int k (bif mx then(if b>a then b else a)else(if b<a then b else a)))) M:=px
def aKn {neq:Bool}{b o:Nat}:anG C base (.auJ neq) [.ptr b o, .d .nilPtr] M K KP=K (.d (.bool neq)) M:=px
def aKl {neq:Bool}{cs:List DV}:anG C base (.auJ neq) [.d (.anY cs), .d .nilPtr] M K KP=K (.d (.bool neq)) M:=px
def aKm {neq:Bool}:anG C base (.auJ neq) [.d .nilPtr, .d .nilPtr] M K KP=K (.d (.bool !neq)) M:=px
def aME {sz len b o:Nat}{k:IntKind}{n:Int}:anG C base (.aAi sz len) [.ptr b o, .d (.int k n)] M K KP=(0<=n/\n<len/\K (.ptr b (o+n.toNat*sz)) M):=px
def aMD {sz len:Nat}{cs:List DV}{k:IntKind}{n:Int}:anG C base (.aAi sz len) [.d (.anY cs), .d (.int k n)] M K KP=(0<=n/\n<len/\n.toNat*sz<=cs.length/\K (.d (.anY (cs.drop (n.toNat*sz)))) M):=px
def aI0 {agg:Bool}{sz len:Nat}{cs:List DV}:anG C base (.aHy agg sz len) [.d (.anY cs)] M K KP=(cs.length=len*sz/\(agg=false->sz=1/\∀c∈cs,c.one=true)/\K (.d (.slice true (auF agg sz len cs))) M):=px
def aUt {op:BinOp}{k:IntKind}{a b:Int}{K:DV->Prop}:aDN op (.d (.int k a)) (.d (.int k b)) K=arD op k a b K:=propext ⟨fun h=>h.2,fun h=>⟨rfl,h⟩⟩
def aU9 {k:IntKind}{a b:Int}{K:DV->Prop}:arD .add k a b K=K (.int k (k.wrap (a+b))):=px
def aVj {k:IntKind}{a b:Int}{K:DV->Prop}:arD .sub k a b K=K (.int k (k.wrap (a - b))):=px
def aVf {k:IntKind}{a b:Int}{K:DV->Prop}:arD .mul k a b K=K (.int k (k.wrap (a*b))):=px
def aVh {k:IntKind}{a b:Int}{K:DV->Prop}:arD .quo k a b K=(b≠0/\K (.int k (k.wrap (a.tdiv b)))):=px
def aVi {k:IntKind}{a b:Int}{K:DV->Prop}:arD .rem k a b K=(b≠0/\K (.int k (a.tmod b))):=px
def aVa {k:IntKind}{a b:Int}{K:DV->Prop}:arD .eql k a b K=K (.bool (a==b)):=px
def aVg {k:IntKind}{a b:Int}{K:DV->Prop}:arD .neq k a b K=K (.bool (a !=b)):=px
def aVe {k:IntKind}{a b:Int}{K:DV->Prop}:arD .lss k a b K=K (.bool (decide (a<b))):=px
def aVd {k:IntKind}{a b:Int}{K:DV->Prop}:arD .leq k a b K=K (.bool (decide (a<=b))):=px
def aVc {k:IntKind}{a b:Int}{K:DV->Prop}:arD .gtr k a b K=K (.bool (decide (a>b))):=px
def aVb {k:IntKind}{a b:Int}{K:DV->Prop}:arD .geq k a b K=K (.bool (decide (a>=b))):=px
def aYF {k:IntKind}{a:Int}{K:DV->Prop}:aLU .neg (.d (.int k a)) K=K (.int k (k.wrap (0 - a))):=px
def aYG {a:Bool}{K:DV->Prop}:aLU .not (.d (.bool a)) K=K (.bool !a):=px
def aYg {agg:Bool}{n:Nat}{cs:List DV}{K:PV->Prop}:aol agg n (.d (.anY cs)) M K=(n<=cs.length/\K (ldD agg n 0 cs)):=px
def aYT {off:Nat}{cs:List DV}{K:PV->Prop}:arb off (.d (.anY cs)) M K=(off<=cs.length/\K (.d (.anY (cs.drop off)))):=px
def aYU {off b o:Nat}{K:PV->Prop}:arb off (.ptr b o) M K=K (.ptr b (o+off)):=px
def aYc {sz:Nat}{ex:Bool}{xs:List DV}{k:IntKind}{n:Int}{K:PV->Prop}:aug sz (.d (.slice ex xs)) (.d (.int k n)) M K=(0<=n/\n.toNat<xs.length/\(xs.getD n.toNat default).cells.length=sz/\K (.d (.anY (xs.getD n.toNat default).cells))):=px
def aZD {ex:Bool}{xs:List DV}{K:Int->Prop}:asc (.d (.slice ex xs)) M K=K xs.length:=px
def aSA {n off:Nat}{cs:List PV}:ld false n off cs=cs.getD off .dead:=rfl
def aVn {n off:Nat}{cs:List PV}:ld true n off cs=av5 ((cs.drop off).take n):=rfl
def aP5 {n off:Nat}{cs:List DV}:ldD false n off cs= .d (cs.getD off default):=rfl
def aSz {n off:Nat}{cs:List DV}:ldD true n off cs= .d (.agg ((cs.drop off).take n)):=rfl
def aMp {cs:List DV}:PV.cells (.d (.agg cs))=cs.map .d:=rfl
def aMq {k:IntKind}{n:Int}:PV.cells (.d (.int k n))=[.d (.int k n)]:=rfl
def aJ6 {b:Bool}:PV.cells (.d (.bool b))=[.d (.bool b)]:=rfl
def aIS {ex:Bool}{xs:List DV}:PV.cells (.d (.slice ex xs))=[.d (.slice ex xs)]:=rfl
def aMr {s:ByteArray}:PV.cells (.d (.str s))=[.d (.str s)]:=rfl
def aAV {cs:List DV}:DV.cells (.agg cs)=cs:=rfl
def aqi {k:IntKind}{n:Int}:DV.cells (.int k n)=[.int k n]:=rfl
def aSq {x:DV}:PV.asO (.d x)=false:=rfl
def aSM:aok=⟨[],[],[]⟩:=rfl
def aJe (c:Option (Option (List PV)))(agg:Bool)(n off:Nat)(K:PV->Prop):Prop:=match c with|some (some cs)=>off+n<=cs.length/\K (ld agg n off cs)| _=>False
def arw (c:Option (Option (List PV)))(b n off:Nat)(v:PV)(M:Mem)(K:Mem->Prop):Prop:=match c with
 |some (some cs)=>b∉M.fz/\v.cells.length=n/\v.cells.all PV.one=true/\off+n<=cs.length/\K ⟨M.boxes.set b (some (splice cs off v.cells)),M.fz,M.anK⟩
 | _=>False
def lenRow (c:Option (Option Arr))(ver skip:Nat)(K:Int->Prop):Prop:=match c with|some (some A)=>A.ver=ver/\K ((A.elems.length - skip:Nat):Int)| _=>False
def aM0 (c:Option (Option Arr))(sz k ver skip:Nat)(n:Int)(K:PV->Prop):Prop:=match c with|some (some A)=>A.ver=ver/\A.sz=sz/\0<=n/\skip+n.toNat<A.elems.length/\K (.aqf k ver (skip+n.toNat) 0)| _=>False
def loadRow (c:Option (Option Arr))(agg:Bool)(n ver i off:Nat)(K:PV->Prop):Prop:=match c with
 |some (some A)=>A.ver=ver/\off+n<=(A.elems.getD i default).cells.length/\K (ldD agg n off (A.elems.getD i default).cells)| _=>False
def aMP (c:Option (Option Arr))(k ver i o:Nat)(K:PV->Prop):Prop:=match c with|some (some A)=>A.ver=ver/\K (.aqf k ver i o)| _=>False
def appRow (c:Option (Option Arr))(sz:Nat)(st1:Bool)(k ver skip:Nat)(ys:List DV)(M:Mem)(K:PV->Mem->Prop):Prop:=match c with
 |some (some A)=>A.ver=ver/\A.sz=sz/\A.st≠2/\A.elems.length+ys.length<=1073741824/\K (.tsl k (ver+1) 0) ⟨M.boxes,M.fz,M.anK.set k (some ⟨sz,A.elems.drop skip++ys,ver+1,bif st1 then 1 else A.st⟩)⟩
 | _=>False
variable {bs:List (Option (List PV))}{fz:List Nat}{ass:List (Option Arr)}
def aVq {agg:Bool}{n b off:Nat}{K:PV->Prop}:aol agg n (.ptr b off) ⟨bs,fz,ass⟩ K=aJe bs[b]? agg n off K:=by
 simp only[aol,aJe,Mem.box]
 rcases bs[b]? with _| _|cs<;>simp
def aP6 {agg:Bool}{n off:Nat}{cs:List PV}{K:PV->Prop}:aJe (some (some cs)) agg n off K=(off+n<=cs.length/\K (ld agg n off cs)):=px
def aTV {n b off:Nat}{v:PV}{K:Mem->Prop}:apJ n (.ptr b off) v ⟨bs,fz,ass⟩ K=arw bs[b]? b n off v ⟨bs,fz,ass⟩ K:=by
 simp only[apJ,arw,Mem.box]
 rcases bs[b]? with _| _|cs<;>simp
def aNW {b n off:Nat}{v:PV}{cs:List PV}{K:Mem->Prop}:arw (some (some cs)) b n off v ⟨bs,fz,ass⟩ K=
  (b∉fz/\v.cells.length=n/\v.cells.all PV.one=true/\off+n<=cs.length/\K ⟨bs.set b (some (splice cs off v.cells)),fz,ass⟩):=px
def aLy {k ver:Nat}:(⟨bs,fz,ass⟩:Mem).row k ver=match ass[k]? with|some (some A)=>if A.ver=ver then some A else none| _=>none:=rfl
def aYe {k ver skip:Nat}{K:Int->Prop}:asc (.tsl k ver skip) ⟨bs,fz,ass⟩ K=lenRow ass[k]? ver skip K:=by
 simp only[asc,lenRow,aLy]
 rcases ass[k]? with _| _|A
 ·simp
 ·simp
 ·by_cases h:A.ver=ver<;>simp[h]
def aSB {ver skip:Nat}{sz v st:Nat}{xs:List DV}{K:Int->Prop}:lenRow (some (some ⟨sz,xs,v,st⟩)) ver skip K=(v=ver/\K ((xs.length - skip:Nat):Int)):=px
def aU8 {sz k ver skip:Nat}{a:IntKind}{n:Int}{K:PV->Prop}:aug sz (.tsl k ver skip) (.d (.int a n)) ⟨bs,fz,ass⟩ K=aM0 ass[k]? sz k ver skip n K:=by
 simp only[aug,aM0,aLy]
 rcases ass[k]? with _| _|A
 ·simp
 ·simp
 ·by_cases h:A.ver=ver<;>simp[h]
def aSo {sz k ver skip:Nat}{n:Int}{a v st:Nat}{xs:List DV}{K:PV->Prop}:aM0 (some (some ⟨a,xs,v,st⟩)) sz k ver skip n K=(v=ver/\a=sz/\0<=n/\skip+n.toNat<xs.length/\K (.aqf k ver (skip+n.toNat) 0)):=px
def aVo {agg:Bool}{n k ver i off:Nat}{K:PV->Prop}:aol agg n (.aqf k ver i off) ⟨bs,fz,ass⟩ K=loadRow ass[k]? agg n ver i off K:=by
 simp only[aol,loadRow,aLy]
 rcases ass[k]? with _| _|A
 ·simp
 ·simp
 ·by_cases h:A.ver=ver<;>simp[h]
def aP7 {agg:Bool}{n ver i off sz v st:Nat}{xs:List DV}{K:PV->Prop}:loadRow (some (some ⟨sz,xs,v,st⟩)) agg n ver i off K=(v=ver/\off+n<=(xs.getD i default).cells.length/\K (ldD agg n off (xs.getD i default).cells)):=px
def aXy {off k ver i o:Nat}{K:PV->Prop}:arb off (.aqf k ver i o) ⟨bs,fz,ass⟩ K=aMP ass[k]? k ver i (o+off) K:=by
 simp only[arb,aMP,aLy]
 rcases ass[k]? with _| _|A
 ·simp
 ·simp
 ·by_cases h:A.ver=ver<;>simp[h]
def aR6 {k ver i o sz v st:Nat}{xs:List DV}{K:PV->Prop}:aMP (some (some ⟨sz,xs,v,st⟩)) k ver i o K=(v=ver/\K (.aqf k ver i o)):=px
def aRj {sz:Nat}{st1 ex:Bool}{xs ys:List DV}{K:PV->Mem->Prop}:aqv sz st1 (.d (.slice true xs)) (.d (.slice ex ys)) ⟨bs,fz,ass⟩ K=
  (0<sz/\(∀y∈ys,y.fits sz=true)/\(st1=true->ys≠[])/\(∀y∈xs,y.fits sz=true)/\xs.length+ys.length<=1073741824/\K (.tsl ass.length 0 0) ⟨bs,fz,ass++ [some ⟨sz,xs++ys,0,bif st1 then 1 else 0⟩]⟩):=by
 simp only[aqv,auD,true_and]
def aW1 {sz k ver skip:Nat}{st1 ex:Bool}{ys:List DV}{K:PV->Mem->Prop}:aqv sz st1 (.tsl k ver skip) (.d (.slice ex ys)) ⟨bs,fz,ass⟩ K=
  (0<sz/\(∀y∈ys,y.fits sz=true)/\(st1=true->ys≠[])/\appRow ass[k]? sz st1 k ver skip ys ⟨bs,fz,ass⟩ K):=by
 simp only[aqv,auD,appRow,aLy]
 rcases ass[k]? with _| _|A
 ·simp
 ·simp
 ·by_cases h:A.ver=ver<;>simp[h]
def aRi {sz k ver skip:Nat}{st1:Bool}{ys:List DV}{a v st:Nat}{xs:List DV}{K:PV->Mem->Prop}:appRow (some (some ⟨a,xs,v,st⟩)) sz st1 k ver skip ys ⟨bs,fz,ass⟩ K=
  (v=ver/\a=sz/\st≠2/\xs.length+ys.length<=1073741824/\K (.tsl k (ver+1) 0) ⟨bs,fz,ass.set k (some ⟨sz,xs.drop skip++ys,ver+1,bif st1 then 1 else st⟩)⟩):=px
def aEY (v:PV)(t:Nat)(ts:List Nat)(K:St->Prop)(env:List (Nat×PV))(M:Mem):Prop:=match datum M v with|some d=>atT ts K ⟨(t, .d d)::env,M.frz [v]⟩|none=>False
def aYV (v:PV)(t:Nat)(ts:List Nat)(K:St->Prop)(env:List (Nat×PV))(M:Mem):Prop:=aEY v t ts K env M
def aXA (c:Option (Option (List PV)))(b off t:Nat)(ts:List Nat)(K:St->Prop)(env:List (Nat×PV))(M:Mem):Prop:=match c with
 |some (some cs)=>match apx cs with|some ds=>atT ts K ⟨(t, .d (.anY (ds.drop off)))::env,⟨M.boxes,b::M.fz,M.anK⟩⟩|none=>aYV (.ptr b off) t ts K env M
 | _=>False
def aUY {K:St->Prop}{t:Nat}{ts:List Nat}{env:List (Nat×PV)}{m:Mem}:atT (t::ts) K ⟨env,m⟩=aEY (look env t) t ts K env m:=rfl
def aHR {M:Mem}:∀{ds:List DV},aoi M (ds.map .d)=some ds
 | []=>rfl
 |d::ds=>by simp only[U,aoi,aoO,aHR]
def aXC {K:St->Prop}{b off t:Nat}{ts:List Nat}{env:List (Nat×PV)}:aEY (.ptr b off) t ts K env ⟨bs,fz,ass⟩=aXA bs[b]? b off t ts K env ⟨bs,fz,ass⟩:=by
 unfold aXA;cases a:bs[b]? with
 |none=>simp[aEY,datum,Mem.box,a]
 |some o=>
  cases o with
  |none=>simp[aEY,datum,Mem.box,a]
  |some cs=>
   simp only;cases hd:apx cs with
   |none=>rfl
   |some ds=>
    have:=azP hd;subst this;have h2:(ds.map PV.d).flatMap aue=[]:=by
     clear a hd;induction ds with
     |nil=>rfl
     |cons d ds e=>simp[aue]
    have c:(ds.map PV.d).flatMap auf=[]:=by
     clear a hd h2;induction ds with
     |nil=>rfl
     |cons d ds e=>simp[auf]
    simp only[c,aEY,datum,Mem.box,a,aHR,aU,Mem.frz,List.flatMap_cons,List.flatMap_nil,aq5,aq4,h2,aS,aB,aT,aA0,aW]
def aXB {K:St->Prop}{b off t:Nat}{ts:List Nat}{env:List (Nat×PV)}{cs:List PV}:aXA (some (some cs)) b off t ts K env ⟨bs,fz,ass⟩=(match apx cs with|some ds=>atT ts K ⟨(t, .d (.anY (ds.drop off)))::env,⟨bs,b::fz,ass⟩⟩|none=>aYV (.ptr b off) t ts K env ⟨bs,fz,ass⟩):=rfl
def aRd:apx []=some []:=rfl
def aO7 {x:DV}{l:List PV}:apx (.d x::l)=(apx l).map (x::·):=rfl
def aoQ {base:Nat}{KP:DV->Mem->Prop}{f:FuncId}{args:List PV}{ds ds':List DV}{x:DV}(h1:apx args=some ds)(h2:ds.map DV.strip=ds')(b:Pure C f ds' (.d x) [])(a:K (.d x) M):anG C base (.anD f) args M K KP:=⟨ds,h1,x,h2▸b,a⟩
def aZK {x:DV}:PV.one (.d x)=x.one:=rfl
def aVy {k:IntKind}{n:Int}:DV.one (.int k n)=true:=rfl
def aSQ {b:Bool}:DV.one (.bool b)=true:=rfl
def aVA {s:ByteArray}:DV.one (.str s)=true:=rfl
def aQf {ex:Bool}{xs:List DV}:DV.one (.slice ex xs)=true:=rfl
def aVz {r:Option (List (DV×DV))}:DV.one (.map r)=true:=rfl
end
def anE {C:Ctx}{M:Mem}{K:PV->Mem->Prop}{base:Nat}{KP:DV->Mem->Prop}{f:FuncId}{args:List PV}{ds ds':List DV}{x:DV}(b:Pure C f ds' (.d x) [])(a:K (.d x) M)(h1:apx args=some ds:=by rfl)(h2:ds.map DV.strip=ds':=by rfl):anG C base (.anD f) args M K KP:=aoQ h1 h2 b a
inductive Ty where
 |int (k:IntKind)
 |bool
 |str
 |slice (e:Ty)
 |struct (fs:List Ty)
mutual
def Ty.size:Ty->Nat
 | .struct fs=>ayL fs
 | _=>1
def ayL:List Ty->Nat
 | []=>0
 |t::a=>t.size+ayL a
end
def Ty.ars:Ty->Bool
 | .int .i64=>true
 | .struct (.int .i64::_)=>true
 | .struct (.bool:: .int .i64::_)=>true
 | _=>false
def Ty.isStruct:Ty->Bool
 | .struct _=>true
 | _=>false
def Shp (e:Ty)(x:DV):Prop:=(e.isStruct=true->∃cs,x= .agg cs)/\(e.isStruct=false->x.cells=[x])
inductive Has:Ty->List DV->Prop
 |int {k:IntKind} {n:Int} (h:(Lit.int k n).wf=true):Has (.int k) [.int k n]
 |bool {b:Bool}:Has .bool [.bool b]
 |str {s:ByteArray} (h:s.size<=maxLen):Has .str [.str s]
 |slice {e:Ty} {xs:List DV} (h:∀x∈xs,Has e x.cells) (h':∀x∈xs,Shp e x):Has (.slice e) [.slice false xs]
 |nil:Has (.struct []) []
 |cons {t:Ty} {ts:List Ty} {ds es:List DV} (h:Has t ds) (h':Has (.struct ts) es):Has (.struct (t::ts)) (ds++es)
mutual
def aw5 (P:Program):Ty->TypeId->Bool
 | .int k,t=>(match P.underlying t with|some (.int b)=>decide (b=k)| _=>false)&&P.cellsOf t==1
 | .bool,t=>(match P.underlying t with|some .bool=>true| _=>false)&&P.cellsOf t==1
 | .str,t=>(match P.underlying t with|some .string=>true| _=>false)&&P.cellsOf t==1
 | .slice e,t=>(match P.underlying t with|some (.slice u)=>aw5 P e u&&e.ars| _=>false)&&P.cellsOf t==1
 | .struct fs,t=>(match P.underlying t with|some (.struct a)=>aIg P fs a.toList 0| _=>false)&&P.cellsOf t==ayL fs
def aIg (P:Program):List Ty->List Field->Nat->Bool
 | [],[],_=>true
 |t::c,g::b,a=>aw5 P t g.type&&decide (g.offset=a)&&aIg P c b (a+t.size)
 | _,_,_=>false
end
def aIf {P:Program}:∀{T:Ty} {t:TypeId},aw5 P T t=true->P.cellsOf t=T.size
 | .int k,t,h=>by simp[aw5]at h;simp[Ty.size,h.2]
 | .bool,t,h=>by simp[aw5]at h;simp[Ty.size,h.2]
 | .str,t,h=>by simp[aw5]at h;simp[Ty.size,h.2]
 | .slice e,t,h=>by simp[aw5]at h;simp[Ty.size,h.2]
 | .struct fs,t,h=>by simp[aw5]at h;simp[Ty.size,h.2]
def aI8:∀{e:Ty},e.ars=true->0<e.size
 | .int k,_=>by simp[Ty.size]
 | .struct (t::a),h=>by
  cases t with
  |int k=>simp only[Ty.size,ayL];omega
  |bool=>simp only[Ty.size,ayL];omega
  | _=>simp[Ty.ars]at h
 | .bool,_=>by simp[Ty.size]
 | .str,_=>by simp[Ty.size]
 | .slice _,_=>by simp[Ty.size]
 | .struct [],h=>by simp[Ty.ars]at h
def aKu:∀{T:Ty} {ds:List DV},Has T ds->ds.length=T.size:=by
 intro T ds h
 induction h with
 |cons h b c a=>simp only[aL,Ty.size,ayL]at*;omega
 | _=>simp[Ty.size,ayL]
def aBH {e:Ty}{ds:List DV}(a:e.ars=true)(h:Has e ds):∃k n,k<e.size/\ds[k]?=some (.int .i64 n)/\(e.isStruct=false->k=0):=by
 cases h with
 |int h=>rename_i k n;cases k<;>simp[Ty.ars]at a;exact⟨0,n,by simp[Ty.size],rfl,fun _=>rfl⟩
 |cons h b=>
  rename_i t c ds es
  cases h with
  |int h=>rename_i k n;cases k<;>simp[Ty.ars]at a;exact⟨0,n,by simp[Ty.size,ayL];omega,rfl,fun _=>rfl⟩
  |bool=>
   cases b with
   |nil=>simp[Ty.ars]at a
   |cons h b=>
    cases h with
    | @int k n h=>cases k<;>simp[Ty.ars]at a;exact⟨1,n,by simp[Ty.size,ayL];omega,rfl,fun h=>by simp[Ty.isStruct]at h⟩
    | _=>simp[Ty.ars]at a
  | _=>simp[Ty.ars]at a
 | _=>simp[Ty.ars]at a
section
variable {H:Type}{enc:TypeId×Value->H}{P:Program}{w:World}{base:Nat}{spare:Nat->Bool}{held:Bool}{O:Nat->Prop}
def cells_at {a:Addr}{n:Nat}{cs:List Value}(h:w.cells? base a n=some cs)(p:0<n):∃c T fz,a.spot=none/\w.heap[a.block]?=some (.cells c T fz)/\(c.toList.drop a.off).take n=cs:=by
 obtain⟨_,r,k⟩:=World.cells?_some h;have d:=k 0 p;have j:cs[0]?=some cs[0]:=ai (by omega);rw[j]at d;obtain⟨e,off,b⟩:=a;have m:b=none:=by
  cases b with
  |none=>rfl
  |some q=>simp only[World.cell?,Addr.add]at d;split at d<;>simp at d
 subst m;simp only[Addr.add_lit]at k d;cases g:w.heap[e]? with
 |none=>simp[World.cell?,g]at d
 |some o=>
  cases o with
  |cells c T fz=>
   refine⟨c,T,fz,rfl,rfl,?_⟩;have l:∀i,i<n->c[off+i]?=cs[i]?:=fun i f=>by
    have:=k i f
    rwa [cell_of_row w e (off+i) c T fz g]at this
   apply List.ext_getElem?;intro i
   by_cases f:i<n
   ·rw[ax,if_pos f,aK,ah]
    exact l i f
   ·rw[ax,if_neg f,aE (by omega)]
  | _=>simp[World.cell?,g]at d
def pieces {c:Array Value}{off sz:Nat}{e:Ty}(a:e.size=sz):∀(k:Nat),(∀i,i<k->∃x:DV,Has e x.cells/\Shp e x/\an3 w O ((c.toList.drop (off+i*sz)).take sz) x.cells)->
  ∃xs:List DV,xs.length=k/\(∀x∈xs,Has e x.cells)/\(∀x∈xs,Shp e x)/\an3 w O ((c.toList.drop off).take (k*sz)) (flat xs)
 |0,_=>⟨[],rfl,fun x b=>by simp at b,fun x b=>by simp at b,by simpa[flat]using .nil⟩
 |k+1,h=>by
  obtain⟨xs,h1,h2,l,m⟩:=pieces a k fun i n=>h i (by omega)
  obtain⟨x,f,g,j⟩:=h k (by omega);refine⟨xs++ [x],by simp[h1],?_,?_,?_⟩
  ·intro y hy
   rcases av.1 hy with hy|hy
   ·exact h2 y hy
   ·simp at hy;subst hy;exact f
  ·intro y hy
   rcases av.1 hy with hy|hy
   ·exact l y hy
   ·simp at hy;subst hy;exact g
  ·have d:(c.toList.drop off).take ((k+1)*sz)=(c.toList.drop off).take (k*sz)++(c.toList.drop (off+k*sz)).take sz:=by
    rw[aQ,Nat.one_mul,a6,aV]
   rw[d,ayZ];refine m.append ?_
   simpa[flat]using j
mutual
def aJr (R:∀b,O b->∀c T fz,w.heap[b]?=some (.cells c T fz)->∀(i:Nat) (n:Int),c[i]?≠some (.int .i64 n)):∀(T:Ty) (g:Nat) (t:TypeId) (cs:List Value) (x:DataW H×List MemPlace),aw5 P T t=true->
  DataW.trod enc P w base spare held g t cs=some x->∃ds,Has T ds/\an3 w O cs ds
 | .int k,g,t,cs,x,f,h=>by
  simp only[aw5,S]at f;obtain⟨f,_⟩:=f
  split at f
  ·rename_i k' l
   simp only[decide_eq_true_eq]at f;subst f;cases g with
   |zero=>simp[DataW.trod]at h
   |succ g=>
    unfold DataW.trod at h;rw[l]at h
    split at h<;>simp_all
    obtain⟨⟨rfl,hw⟩,_⟩:=h;exact⟨_, .int hw, .cons (.int _ _) .nil⟩
  ·cases f
 | .bool,g,t,cs,x,f,h=>by
  simp only[aw5,S]at f;obtain⟨f,_⟩:=f
  split at f
  ·rename_i l
   cases g with
   |zero=>simp[DataW.trod]at h
   |succ g=>
    unfold DataW.trod at h;rw[l]at h
    split at h<;>simp_all
    exact⟨_, .bool, .cons (.bool _) .nil⟩
  ·cases f
 | .str,g,t,cs,x,f,h=>by
  simp only[aw5,S]at f;obtain⟨f,_⟩:=f
  split at f
  ·rename_i l
   cases g with
   |zero=>simp[DataW.trod]at h
   |succ g=>
    unfold DataW.trod at h;rw[l]at h
    split at h<;>simp_all
    exact⟨_, .str h.1, .cons (.str _) .nil⟩
  ·cases f
 | .slice e,g,t,cs,x,f,h=>by
  simp only[aw5,S]at f;obtain⟨f,_⟩:=f
  split at f
  ·rename_i u l
   simp only[S]at f;obtain⟨hu,hint⟩:=f;have Z:=aIf hu;have q:=aI8 hint
   rcases Go.Deep.open_slice l h with⟨rfl,_⟩|⟨a,len,cap,m,n,D,Pl,rfl,_,C,_,hm,_,E⟩
   ·exact⟨_, .slice (xs:=[]) (fun x o=>by simp at o) (fun x o=>by simp at o), .cons (.empty (fun hh=>by cases hh)) .nil⟩
   ·have aq:len<=m:=by rw[hm];split<;>omega
    rw[Z]at E;have J:∀i,i<len->∃j,w.cells? base (a.add (i*e.size)) e.size=some j/\∃ds,Has e ds/\an3 w O j ds:=by
     intro i hi;obtain⟨j,V,W⟩:=E i (by omega);exact⟨j,V,aJr R e n _ j _ hu W⟩
    by_cases h0:len=0
    ·subst h0
     exact⟨_, .slice (xs:=[]) (fun x o=>by simp at o) (fun x o=>by simp at o), .cons (.empty (fun hh=>by cases hh)) .nil⟩
    ·obtain⟨am,B,an,X,Y⟩:=J 0 (by omega)
     rw[Nat.zero_mul]at B;obtain⟨c,T,fz,K,N,L⟩:=cells_at B q;obtain⟨Q,p,ak⟩:=a;simp only[Addr.add,if_true]at K N L;subst K;have ai:=pieces (w:=w) (O:=O) (c:=c) (off:=p) (sz:=e.size) (e:=e) rfl len (fun i hi=>by
      obtain⟨j,g1,ds,M,g3⟩:=J i hi;obtain⟨c',T',ap,_,r,aX9⟩:=cells_at g1 q;simp only[Addr.add_lit]at r aX9;rw[N]at r;cases r;cases A:e.isStruct with
      |true=>
       refine⟨.agg ds,M,⟨fun _=>⟨ds,rfl⟩,fun hh=>by rw[A]at hh;cases hh⟩,?_⟩;rw[aX9];exact g3
      |false=>
       have I:e.size=1:=by cases e<;>simp_all[Ty.size,Ty.isStruct]
       have hl:=aKu M;rw[I]at hl;obtain⟨d,rfl⟩:=List.length_eq_one_iff.1 hl;have y:d.cells=[d]:=by
        obtain⟨k,n,_,G,l⟩:=aBH hint M;rw[l A]at G;simp at G;subst G;rfl
       refine⟨d,(by rw[y];exact M),⟨fun hh=>(by rw[A]at hh;cases hh),fun _=>y⟩,?_⟩;rw[aX9,y];exact g3)
     obtain⟨xs,x1,x2,x3,x4⟩:=ai;refine⟨_, .slice x2 x3, .cons (.slice (sz:=e.size) N ?_ x1 (fun x o=>aKu (x2 x o)) C (fun hh=>by cases hh) x4) .nil⟩;intro U;obtain⟨k,n,l,G,_⟩:=aBH hint X;obtain⟨v,hv,ac⟩:=Y.get' k _ G;have ab:=ac.apB;subst ab;have s:c[p+k]?=some (.int .i64 n):=by
      have h5:((c.toList.drop p).take e.size)[k]?=some (.int .i64 n):=by rw[L];exact hv
      rw[ax,if_pos l,aK,ah]at h5;exact h5
     exact R Q U c T fz N (p+k) n s
  ·cases f
 | .struct fs,g,t,cs,x,f,h=>by
  simp only[aw5,S,beq_iff_eq]at f;obtain⟨f,z⟩:=f
  split at f
  ·rename_i gs l
   cases g with
   |zero=>simp[DataW.trod]at h
   |succ g=>
    unfold DataW.trod at h;rw[l]at h;simp only at h
    split at h
    ·rename_i F
     rw[ae]at h;obtain⟨ys,aj,_⟩:=h;obtain⟨ds,h1,h2⟩:=aLv R fs g gs.toList 0 cs ys f aj;refine⟨ds,h1,?_⟩;rw[List.drop_zero,List.take_of_length_le (by rw[F,z];exact ao _)]at h2;exact h2
    ·cases h
  ·cases f
def aLv (k:∀b,O b->∀c T fz,w.heap[b]?=some (.cells c T fz)->∀(i:Nat) (n:Int),c[i]?≠some (.int .i64 n)):∀(fs:List Ty) (a:Nat) (e:List Field) (off:Nat) (cs:List Value) (ys:List (DataW H×List MemPlace)),aIg P fs e off=true->
  (e.mapM fun f=>DataW.trod enc P w base spare held a f.type ((cs.drop f.offset).take (P.cellsOf f.type)))=some ys->∃ds,Has (.struct fs) ds/\an3 w O ((cs.drop off).take (ayL fs)) ds
 | [],a,[],off,cs,ys,_,_=>⟨[], .nil,by simpa[ayL]using .nil⟩
 |T::fs,a,g::e,off,cs,ys,d,h=>by
  simp only[aIg,S,decide_eq_true_eq]at d;obtain⟨⟨h1,h2⟩,m⟩:=d;simp only[aG,Option.bind_eq_bind,Option.bind_eq_some_iff,Option.pure_def,Option.some.injEq]at h;obtain⟨y,j,zs,l,_⟩:=h;rw[h2,aIf h1]at j;obtain⟨ds,o,p⟩:=aJr k T a g.type _ y h1 j;obtain⟨es,r1,r2⟩:=aLv k fs a e (off+T.size) cs zs m l;refine⟨ds++es, .cons o r1,?_⟩;simp only[ayL];rw[a6,aV];exact p.append r2
 | [],a,_::_,_,_,_,d,_=>by simp[aIg]at d
 | _::_,a,[],_,_,_,d,_=>by simp[aIg]at d
end
end
end Go.Am
