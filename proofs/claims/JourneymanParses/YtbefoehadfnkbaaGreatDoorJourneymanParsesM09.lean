/-
  Part 9 of the proof of a law of desks: an abstract machine over the model, contracts of functions, plain laws.
  Conditions: none.
-/
import Derived.Test.YtbefoehadfnkbaaGreatDoorJourneymanParsesM08
set_option linter.all false
namespace Go.Am
inductive Kd where
 |p|rb|rr|rg|a (i:Nat)|wb (i:Nat)|wr|wo|w|x
 deriving DecidableEq
def kd (op:POp)(fl:Nat):Kd:=
 match op with
 | .mov| .pick| .build _ _| .aW| .bin _| .Qg _ _| .abf _| .un _| .conv _| .mkF _ _| .WH _ _ _| .abW| .WQ _ _ _| .ext _| .Kq| .ach _| .shf _| .La _| .ak _| .Xb _ _| .tas _ _| .Ba _| .Oe _ _| .YL _ _ _| .RV _ _=> .p
 | .load _ _=>if fl=1 then .p else if fl=2 then .rb else if fl=3 then .rr else .rg
 | .Oi _ _=>if fl=1 then .p else if fl=2 then .rb else .rg
 | .fld _=>if fl=1 then .p else if fl=2 then .p else if fl=3 then .rr else .rg
 | .bC _=>if fl=1 then .p else .rr
 | .len=>if fl=1 then .p else .rr
 | .iH _ _ _=>if fl=1 then .p else .x
 | .mkI _=>if fl=1 then .p else .x
 | .RU _ _ _ _=>if fl=1 then .p else .x
 | .alloc i _=> .a i
 | .box i=> .a i
 | .mkMap i=> .a i
 | .iZ _=> .rg
 | .NM _ _ _=> .rg
 | .store _=>match fl with|3=> .wr|2=> .wo|i+4=> .wb i| _=> .w
 | .app _ _=> .wr
 | .adq _=> .rr
 | .copy _=> .wr
 | .qc _ _ _=> .wr
 | .adp _=> .rr
 | .agz _=> .wr
 | .Ap _=>if fl=1 then .wr else .x
 | .Qh _=> .w
 | _=> .x
def Kd.swap:Kd→Kd→Bool
 | .x,_=>false
 | _, .x=>false
 | .p,_=>true
 | _, .p=>true
 | .rb, .a _=>true
 | .rr, .a _=>true
 | .rg, .a _=>true
 | .a i, .a j=>decide (i≠j)
 | .a i, .wb j=>decide (i≠j)
 | .wb i, .a j=>decide (i≠j)
 | .wb i, .wb j=>decide (i≠j)
 | .a _, .wr=>true
 | .wr, .a _=>true
 | .wb _, .wr=>true
 | .wr, .wb _=>true
 | .rb, .wb _=>true
 | .wb _, .rb=>true
 | .rr, .wb _=>true
 | .wb _, .rr=>true
 | .rb, .wr=>true
 | .wr, .rb=>true
 | .rb, .rb=>true| .rb, .rr=>true| .rb, .rg=>true
 | .rr, .rb=>true| .rr, .rr=>true| .rr, .rg=>true
 | .rg, .rb=>true| .rg, .rr=>true| .rg, .rg=>true
 | .rr, .wo=>true
 | .wo, .rr=>true
 | _,_=>false
def Spec (base:Nat)(k:Kd)(R:Mem→PV→Mem→Prop):Prop:=
 match k with
 | .p=>∃V:PV→Prop,∀M v M',R M v M'↔V v∧M'=M
 | .rb=>∃V:Mem→PV→Prop,(∀M v M',R M v M'↔V M v∧M'=M)∧∀M M' v,(∀b,b<base→M.boxes[b]?=M'.boxes[b]?)→V M v→V M' v
 | .rr=>∃V:Mem→PV→Prop,(∀M v M',R M v M'↔V M v∧M'=M)∧∀M M' v,M.aA=M'.aA→V M v→V M' v
 | .rg=>∃V:Mem→PV→Prop,(∀M v M',R M v M'↔V M v∧M'=M)∧∀M M' v,(∀(b:Nat) (cs:List PV),M.boxes[b]?=some (some cs)→M'.boxes[b]?=some (some cs))→M.aA=M'.aA→V M v→V M' v
 | .a i=>∃(cs:List PV) (v0:PV) (c:Prop),∀M v M',R M v M'↔c∧v=v0∧M.boxes[base+i]?=some none∧M'={M with boxes:=M.boxes.set (base+i) (some cs)}
 | .wb i=>∃g:List PV→List PV→Prop,∀M v M',R M v M'↔∃cs cs',M.boxes[base+i]?=some (some cs)∧base+i∉M.fz∧g cs cs'∧v= .dead∧M'={M with boxes:=M.boxes.set (base+i) (some cs')}
 | .wr=>∃Q:List (Option Arr)→PV→List (Option Arr)→Prop,∀M v M',R M v M'↔∃as',Q M.aA v as'∧M'={M with aA:=as'}
 | .wo=>∃Q:List (Option (List PV))→List Nat→PV→List (Option (List PV))→Prop,∀M v M',R M v M'↔∃bs',Q M.boxes M.fz v bs'∧M'={M with boxes:=bs'}
 | .w=>True
 | .x=>False
def MS (R1 R2:Mem→PV→Mem→Prop):Prop:=∀M v1 M1 v2 M2,R1 M v1 M1→R2 M1 v2 M2→∃M1',R2 M v2 M1'∧R1 M1' v1 M2
section
variable {base:Nat}{R1 R2:Mem→PV→Mem→Prop}
theorem alh {k:Kd}(h1:Spec base .p R1)(_:Spec base k R2):MS R1 R2:=by
 obtain⟨V,hV⟩:=h1
 intro M v1 M1 v2 M2 r1 r2
 obtain⟨g1,rfl⟩:=(hV _ _ _).1 r1
 exact⟨M2,r2,(hV _ _ _).2 ⟨g1,rfl⟩⟩
theorem ali (h2:Spec base .p R2):MS R1 R2:=by
 obtain⟨V,hV⟩:=h2
 intro M v1 M1 v2 M2 r1 r2
 obtain⟨g1,rfl⟩:=(hV _ _ _).1 r2
 exact⟨M,(hV _ _ _).2 ⟨g1,rfl⟩,r1⟩
def OV (R:Mem→PV→Mem→Prop)(Ag:Mem→Mem→Prop):Prop:=∃V:Mem→PV→Prop,(∀M v M',R M v M'↔V M v∧M'=M)∧∀M M' v,Ag M M'→V M v→V M' v
theorem CW {Ag Ag':Mem→Mem→Prop}(h1:OV R1 Ag)(h2:OV R2 Ag'):MS R1 R2:=by
 obtain⟨V,hV,_⟩:=h1
 obtain⟨V',hV',_⟩:=h2
 intro M v1 M1 v2 M2 r1 r2
 obtain⟨g1,rfl⟩:=(hV _ _ _).1 r1
 obtain⟨g2,rfl⟩:=(hV' _ _ _).1 r2
 exact⟨_,r2,r1⟩
theorem IE {Ag:Mem→Mem→Prop}(h1:OV R1 Ag)(h2:∀M v M',R2 M v M'→Ag M M'):MS R1 R2:=by
 obtain⟨V,hV,ha⟩:=h1
 intro M v1 M1 v2 M2 r1 r2
 obtain⟨g1,rfl⟩:=(hV _ _ _).1 r1
 exact⟨M2,r2,(hV _ _ _).2 ⟨ha _ _ _ (h2 _ _ _ r2) g1,rfl⟩⟩
theorem VF {Ag:Mem→Mem→Prop}(h2:OV R2 Ag)(h1:∀M v M',R1 M v M'→Ag M' M):MS R1 R2:=by
 obtain⟨V,hV,ha⟩:=h2
 intro M v1 M1 v2 M2 r1 r2
 obtain⟨g1,rfl⟩:=(hV _ _ _).1 r2
 exact⟨M,(hV _ _ _).2 ⟨ha _ _ _ (h1 _ _ _ r1) g1,rfl⟩,r1⟩
theorem yu (h:Spec base .rb R1):OV R1 fun M M'=>∀b,b<base→M.boxes[b]?=M'.boxes[b]?:=h
theorem yw (h:Spec base .rr R1):OV R1 fun M M'=>M.aA=M'.aA:=h
theorem Jz (h:Spec base .rg R1):OV R1 fun M M'=>(∀(b:Nat) (cs:List PV),M.boxes[b]?=some (some cs)→M'.boxes[b]?=some (some cs))∧M.aA=M'.aA:=by
 obtain⟨V,h1,h2⟩:=h
 exact⟨V,h1,fun M M' v h=>h2 M M' v h.1 h.2⟩
theorem EI {l:List (Option (List PV))}{i j:Nat}{x:Option (List PV)}(h:i≠j):(l.set i x)[j]?=l[j]?:=by rw[List.getElem?_set];simp[h]
theorem apa {i:Nat}(h:Spec base (.a i) R1):∀M v M',R1 M v M'→∀b,b<base→M.boxes[b]?=M'.boxes[b]?:=by
 obtain⟨cs,v0,c,h⟩:=h
 intro M v M' r b hb
 obtain⟨_,_,_,rfl⟩:=(h _ _ _).1 r
 rw[EI (by omega)]
theorem aiz {i:Nat}(h:Spec base (.a i) R1):∀M v M',R1 M v M'→M.aA=M'.aA:=by
 obtain⟨cs,v0,c,h⟩:=h
 intro M v M' r
 obtain⟨_,_,_,rfl⟩:=(h _ _ _).1 r
 rfl
theorem anv {i:Nat}(h:Spec base (.a i) R1):∀M v M',R1 M v M'→∀(b:Nat) (cs:List PV),M.boxes[b]?=some (some cs)→M'.boxes[b]?=some (some cs):=by
 obtain⟨cs,v0,c,h⟩:=h
 intro M v M' r b cs' hb
 obtain⟨_,_,h3,rfl⟩:=(h _ _ _).1 r
 by_cases hbi:base+i=b
 ·subst hbi;rw[h3]at hb;cases hb
 ·rw[EI hbi];exact hb
theorem akV {i:Nat}(h:Spec base (.wb i) R1):∀M v M',R1 M v M'→∀b,b<base→M.boxes[b]?=M'.boxes[b]?:=by
 obtain⟨g,h⟩:=h
 intro M v M' r b hb
 obtain⟨cs,cs',_,_,_,_,rfl⟩:=(h _ _ _).1 r
 rw[EI (by omega)]
theorem agq {i:Nat}(h:Spec base (.wb i) R1):∀M v M',R1 M v M'→M.aA=M'.aA:=by
 obtain⟨g,h⟩:=h
 intro M v M' r
 obtain⟨cs,cs',_,_,_,_,rfl⟩:=(h _ _ _).1 r
 rfl
theorem adI (h:Spec base .wr R1):∀M v M',R1 M v M'→∀b,b<base→M.boxes[b]?=M'.boxes[b]?:=by
 obtain⟨Q,h⟩:=h
 intro M v M' r b _
 obtain⟨as',_,rfl⟩:=(h _ _ _).1 r
 rfl
theorem agr (h:Spec base .wo R1):∀M v M',R1 M v M'→M.aA=M'.aA:=by
 obtain⟨Q,h⟩:=h
 intro M v M' r
 obtain⟨bs',_,rfl⟩:=(h _ _ _).1 r
 rfl
theorem set_comm {l:List (Option (List PV))}{i j:Nat}{x y:Option (List PV)}(h:i≠j):(l.set i x).set j y=(l.set j y).set i x:=List.set_comm _ _ h
theorem ag3 {k1 k2:Kd}(h:k1.swap k2=true)(h1:Spec base k1 R1)(h2:Spec base k2 R2):MS R1 R2:=by
 unfold Kd.swap at h
 split at h
 ·cases h
 ·cases h
 ·exact alh h1 h2
 ·exact ali h2
 ·exact IE (yu h1) (apa h2)
 ·exact IE (yw h1) (aiz h2)
 ·exact IE (Jz h1) fun M v M' r=>⟨anv h2 M v M' r,aiz h2 M v M' r⟩
 ·rename_i i j
  simp only[decide_eq_true_eq]at h
  obtain⟨cs,v0,c,h1⟩:=h1
  obtain⟨ds,u0,d,h2⟩:=h2
  intro M v1 M1 v2 M2 r1 r2
  obtain⟨a1,a2,a3,rfl⟩:=(h1 _ _ _).1 r1
  obtain⟨b1,b2,b3,rfl⟩:=(h2 _ _ _).1 r2
  simp only[EI (show base+i≠base+j by omega)]at b3
  refine⟨_,(h2 _ _ _).2 ⟨b1,b2,b3,rfl⟩,(h1 _ _ _).2 ⟨a1,a2,?_,?_⟩⟩
  ·simp only[EI (show base+j≠base+i by omega)];exact a3
  ·simp only[set_comm (show base+i≠base+j by omega)]
 ·rename_i i j
  simp only[decide_eq_true_eq]at h
  obtain⟨cs,v0,c,h1⟩:=h1
  obtain⟨g,h2⟩:=h2
  intro M v1 M1 v2 M2 r1 r2
  obtain⟨a1,a2,a3,rfl⟩:=(h1 _ _ _).1 r1
  obtain⟨ds,ds',b1,b2,b3,b4,rfl⟩:=(h2 _ _ _).1 r2
  simp only[EI (show base+i≠base+j by omega)]at b1
  refine⟨_,(h2 _ _ _).2 ⟨ds,ds',b1,b2,b3,b4,rfl⟩,(h1 _ _ _).2 ⟨a1,a2,?_,?_⟩⟩
  ·simp only[EI (show base+j≠base+i by omega)];exact a3
  ·simp only[set_comm (show base+i≠base+j by omega)]
 ·rename_i i j
  simp only[decide_eq_true_eq]at h
  obtain⟨cs,v0,c,h2⟩:=h2
  obtain⟨g,h1⟩:=h1
  intro M v1 M1 v2 M2 r1 r2
  obtain⟨ds,ds',b1,b2,b3,b4,rfl⟩:=(h1 _ _ _).1 r1
  obtain⟨a1,a2,a3,rfl⟩:=(h2 _ _ _).1 r2
  simp only[EI (show base+i≠base+j by omega)]at a3
  refine⟨_,(h2 _ _ _).2 ⟨a1,a2,a3,rfl⟩,(h1 _ _ _).2 ⟨ds,ds',?_,b2,b3,b4,?_⟩⟩
  ·simp only[EI (show base+j≠base+i by omega)];exact b1
  ·simp only[set_comm (show base+i≠base+j by omega)]
 ·rename_i i j
  simp only[decide_eq_true_eq]at h
  obtain⟨g',h2⟩:=h2
  obtain⟨g,h1⟩:=h1
  intro M v1 M1 v2 M2 r1 r2
  obtain⟨ds,ds',b1,b2,b3,b4,rfl⟩:=(h1 _ _ _).1 r1
  obtain⟨es,es',a1,a2,a3,a4,rfl⟩:=(h2 _ _ _).1 r2
  simp only[EI (show base+i≠base+j by omega)]at a1
  refine⟨_,(h2 _ _ _).2 ⟨es,es',a1,a2,a3,a4,rfl⟩,(h1 _ _ _).2 ⟨ds,ds',?_,b2,b3,b4,?_⟩⟩
  ·simp only[EI (show base+j≠base+i by omega)];exact b1
  ·simp only[set_comm (show base+i≠base+j by omega)]
 ·obtain⟨cs,v0,c,h1⟩:=h1
  obtain⟨Q,h2⟩:=h2
  intro M v1 M1 v2 M2 r1 r2
  obtain⟨a1,a2,a3,rfl⟩:=(h1 _ _ _).1 r1
  obtain⟨as',b1,rfl⟩:=(h2 _ _ _).1 r2
  exact⟨_,(h2 _ _ _).2 ⟨as',b1,rfl⟩,(h1 _ _ _).2 ⟨a1,a2,a3,rfl⟩⟩
 ·obtain⟨cs,v0,c,h2⟩:=h2
  obtain⟨Q,h1⟩:=h1
  intro M v1 M1 v2 M2 r1 r2
  obtain⟨as',b1,rfl⟩:=(h1 _ _ _).1 r1
  obtain⟨a1,a2,a3,rfl⟩:=(h2 _ _ _).1 r2
  exact⟨_,(h2 _ _ _).2 ⟨a1,a2,a3,rfl⟩,(h1 _ _ _).2 ⟨as',b1,rfl⟩⟩
 ·obtain⟨g,h1⟩:=h1
  obtain⟨Q,h2⟩:=h2
  intro M v1 M1 v2 M2 r1 r2
  obtain⟨cs,cs',a1,a2,a3,a4,rfl⟩:=(h1 _ _ _).1 r1
  obtain⟨as',b1,rfl⟩:=(h2 _ _ _).1 r2
  exact⟨_,(h2 _ _ _).2 ⟨as',b1,rfl⟩,(h1 _ _ _).2 ⟨cs,cs',a1,a2,a3,a4,rfl⟩⟩
 ·obtain⟨g,h2⟩:=h2
  obtain⟨Q,h1⟩:=h1
  intro M v1 M1 v2 M2 r1 r2
  obtain⟨as',b1,rfl⟩:=(h1 _ _ _).1 r1
  obtain⟨cs,cs',a1,a2,a3,a4,rfl⟩:=(h2 _ _ _).1 r2
  exact⟨_,(h2 _ _ _).2 ⟨cs,cs',a1,a2,a3,a4,rfl⟩,(h1 _ _ _).2 ⟨as',b1,rfl⟩⟩
 ·exact IE (yu h1) (akV h2)
 ·exact VF (yu h2) fun M v M' r b hb=>(akV h1 M v M' r b hb).symm
 ·exact IE (yw h1) (agq h2)
 ·exact VF (yw h2) fun M v M' r=>(agq h1 M v M' r).symm
 ·exact IE (yu h1) (adI h2)
 ·exact VF (yu h2) fun M v M' r b hb=>(adI h1 M v M' r b hb).symm
 ·exact CW (yu h1) (yu h2)
 ·exact CW (yu h1) (yw h2)
 ·exact CW (yu h1) (Jz h2)
 ·exact CW (yw h1) (yu h2)
 ·exact CW (yw h1) (yw h2)
 ·exact CW (yw h1) (Jz h2)
 ·exact CW (Jz h1) (yu h2)
 ·exact CW (Jz h1) (yw h2)
 ·exact CW (Jz h1) (Jz h2)
 ·exact IE (yw h1) (agr h2)
 ·exact VF (yw h2) fun M v M' r=>(agr h1 M v M' r).symm
 ·cases h
end
section
variable {C:Ctx}{base:Nat}
def KF (C:Ctx)(base:Nat)(op:POp)(args:List PV)(R:Mem→PV→Mem→Prop):Prop:=∀M K KP,aj C base op args M K KP↔∃v M',R M v M'∧K v M'
theorem amo {op:POp}{args:List PV}{V:PV→Prop}(h:∀M K KP,aj C base op args M K KP↔∃v,V v∧K v M):∃R,Spec base .p R∧KF C base op args R:=by
 refine⟨fun M v M'=>V v∧M'=M,⟨V,fun _ _ _=>Iff.rfl⟩,fun M K KP=>(h M K KP).trans ?_⟩
 constructor
 ·rintro⟨v,h1,h2⟩;exact⟨v,M,⟨h1,rfl⟩,h2⟩
 ·rintro⟨v,M',⟨h1,rfl⟩,h2⟩;exact⟨v,h1,h2⟩
theorem C9 {op:POp}{args:List PV}{V:Mem→PV→Prop}(h:∀M K KP,aj C base op args M K KP↔∃v,V M v∧K v M):KF C base op args (fun M v M'=>V M v∧M'=M):=by
 intro M K KP
 refine(h M K KP).trans ?_
 constructor
 ·rintro⟨v,h1,h2⟩;exact⟨v,M,⟨h1,rfl⟩,h2⟩
 ·rintro⟨v,M',⟨h1,rfl⟩,h2⟩;exact⟨v,h1,h2⟩
theorem adO {op:BinOp}{k:IntKind}{a b:Int}{K:DV→Prop}:oK op k a b K↔∃d,oK op k a b (fun u=>d=u)∧K d:=by
 cases op<;>simp[oK,and_assoc]
theorem adQ {op:BinOp}{a b:ByteArray}{K:DV→Prop}:FX op a b K↔∃d,FX op a b (fun u=>d=u)∧K d:=by
 cases op<;>simp[FX,and_assoc]
theorem Sm {op:BinOp}{x y:PV}{K:DV→Prop}:Ub op x y K↔∃d,Ub op x y (fun u=>d=u)∧K d:=by
 unfold Ub
 split
 ·rw[adO]
  constructor
  ·rintro⟨h,d,h1,h2⟩;exact⟨d,⟨h,h1⟩,h2⟩
  ·rintro⟨d,⟨h,h1⟩,h2⟩;exact⟨h,d,h1,h2⟩
 ·exact adQ
 ·simp
theorem Ym {op:UnOp}{x:PV}{K:DV→Prop}:adC op x K↔∃d,adC op x (fun u=>d=u)∧K d:=by
 unfold adC
 split<;>simp
theorem oH:∀{args:List PV},args.all PV.isD=true→∃ds:List DV,args=ds.map .d
 | [],_=>⟨[],rfl⟩
 | .d x::l,h=>by
  simp only[List.all_cons,Bool.and_eq_true]at h
  obtain⟨ds,rfl⟩:=oH h.2
  exact⟨x::ds,rfl⟩
 | .ptr _ _::_,h| .jY _ _ _ _::_,h| .tsl _ _ _::_,h| .func _ _ _::_,h| .agg _::_,h| .tup _::_,h| .dead::_,h=>by simp[PV.isD]at h
theorem aby {M:Mem}:∀{ds:List DV},dD M (ds.map .d)=some ds
 | []=>rfl
 |d::ds=>by simp only[List.map_cons,dD,datum,aby]
theorem KU {M:Mem}{ds:List DV}:M.frz (ds.map .d)=M:=by
 have h1:∀ds:List DV,(ds.map PV.d).flatMap (oD M)=[]:=by
  intro ds;induction ds with
  |nil=>rfl
  |cons d ds ih=>simp[oD]
 have h2:∀ds:List DV,(ds.map PV.d).flatMap (oC M)=[]:=by
  intro ds;induction ds with
  |nil=>rfl
  |cons d ds ih=>simp[oC]
 simp only[Mem.frz,h1,h2,Qv,List.foldl_nil,List.nil_append]
theorem YP {M M':Mem}{b:Nat}(h:M.boxes[b]?=M'.boxes[b]?):M.box b=M'.box b:=by simp[Mem.box,h]
theorem vK {M M':Mem}(h:M.aA=M'.aA)(k ver:Nat):M.row k ver=M'.row k ver:=by simp[Mem.row,h]
theorem kC {agg:Bool}{n:Nat}{x:PV}{M:Mem}{K:PV→Prop}:bQ agg n x M K↔∃v,bQ agg n x M (fun u=>v=u)∧K v:=by
 unfold bQ
 repeat' split
 all_goals simp[and_assoc]
theorem ahD {agg:Bool}{n:Nat}{x:PV}{M:Mem}{K:PV→Prop}:qH agg n x M K↔∃v,qH agg n x M (fun u=>v=u)∧K v:=by
 unfold qH
 repeat' split
 all_goals simp[and_assoc]
theorem alG {off:Nat}{x:PV}{M:Mem}{K:PV→Prop}:nK off x M K↔∃v,nK off x M (fun u=>v=u)∧K v:=by
 unfold nK
 repeat' split
 all_goals simp[and_assoc]
theorem ajC {sz:Nat}{x i:PV}{M:Mem}{K:PV→Prop}:xX sz x i M K↔∃v,xX sz x i M (fun u=>v=u)∧K v:=by
 unfold xX
 repeat' split
 all_goals simp[and_assoc]
theorem aar {x:PV}{M:Mem}{K:Int→Prop}:vI x M K↔∃v,vI x M (fun u=>v=u)∧K v:=by
 unfold vI
 repeat' split
 all_goals simp
theorem Ze {agg:Bool}{n:Nat}{k ver i off:Nat}{M M':Mem}(h:M.aA=M'.aA){K:PV→Prop}(hh:bQ agg n (.jY k ver i off) M K):bQ agg n (.jY k ver i off) M' K:=by
 simp only[bQ,vK h]at hh⊢;exact hh
theorem ahF {agg:Bool}{n:Nat}{x:PV}{M M':Mem}(hb:∀(b:Nat) (cs:List PV),M.boxes[b]?=some (some cs)→M'.boxes[b]?=some (some cs))(h:M.aA=M'.aA){K:PV→Prop}(hh:bQ agg n x M K):bQ agg n x M' K:=by
 cases x with
 |ptr b off=>
  simp only[bQ]at hh⊢
  split at hh
  ·rename_i cs hcs
   have:M'.box b=some cs:=by simp[Mem.box,hb _ _ (oL hcs)]
   rw[this];exact hh
  ·exact hh.elim
 |jY k ver i off=>exact Ze h hh
 |d y=>cases y<;>exact hh
 | _=>exact hh
theorem aeX {agg:Bool}{n:Nat}{x:PV}{M M':Mem}(hb:∀(b:Nat) (cs:List PV),M.boxes[b]?=some (some cs)→M'.boxes[b]?=some (some cs)){K:PV→Prop}(hh:qH agg n x M K):qH agg n x M' K:=by
 cases x with
 |ptr b off=>
  simp only[qH]at hh⊢
  split at hh
  ·rename_i cs hcs
   have:M'.box b=some cs:=by simp[Mem.box,hb _ _ (oL hcs)]
   rw[this];exact hh
  ·exact hh.elim
 |d y=>cases y<;>exact hh
 | _=>exact hh
theorem qQ {f:Bool}{l:List PV}{K K':Option Int→List PV→Prop}(hk:∀a l,K a l→K' a l)(h:dI f l K):dI f l K':=by
 unfold dI at h⊢
 split at h
 ·exact hk _ _ h
 ·exact hk _ _ h
 ·exact h.elim
theorem TK {f:Bool}{l:List PV}{K:Option Int→List PV→Prop}(h:dI f l K):∃a l',dI f l (fun a' l''=>a'=a∧l''=l')∧K a l':=by
 unfold dI at h⊢
 split at h
 ·exact⟨_,_,⟨rfl,rfl⟩,h⟩
 ·exact⟨_,_,⟨rfl,rfl⟩,h⟩
 ·exact h.elim
theorem MZ {lo hi mx:Bool}{l:List PV}{Q:Option Int→Option Int→Option Int→Prop}(h:dI lo l fun a l=>dI hi l fun b l=>dI mx l fun m l=>l=[]∧Q a b m):
  ∃a b m,(dI lo l fun a' l=>dI hi l fun b' l=>dI mx l fun m' l=>l=[]∧a'=a∧b'=b∧m'=m)∧Q a b m:=by
 obtain⟨a,l1,h1,h2⟩:=TK h
 obtain⟨b,l2,h3,h4⟩:=TK h2
 obtain⟨m,l3,h5,h6,hQ⟩:=TK h4
 refine⟨a,b,m,qQ ?_ h1,hQ⟩
 rintro _ _ ⟨rfl,rfl⟩
 refine qQ ?_ h3
 rintro _ _ ⟨rfl,rfl⟩
 refine qQ ?_ h5
 rintro _ _ ⟨rfl,rfl⟩
 exact⟨h6,rfl,rfl,rfl⟩
theorem Na {lo hi mx:Bool}{l:List PV}{Q:Option Int→Option Int→Option Int→Prop}{a b m:Option Int}(h:dI lo l fun a' l=>dI hi l fun b' l=>dI mx l fun m' l=>l=[]∧a'=a∧b'=b∧m'=m)(hQ:Q a b m):
  dI lo l fun a l=>dI hi l fun b l=>dI mx l fun m l=>l=[]∧Q a b m:=
 qQ (fun _ _=>qQ fun _ _=>qQ fun _ _ hh=>⟨hh.1,by rw[hh.2.1,hh.2.2.1,hh.2.2.2];exact hQ⟩) h
theorem Uj {M M':Mem}(hb:∀(b:Nat) (cs:List PV),M.boxes[b]?=some (some cs)→M'.boxes[b]?=some (some cs))(ha:M.aA=M'.aA){p:PV}{d:DV}(h:eU M p=some d):eU M' p=some d:=by
 cases p with
 |tsl k ver skip=>simp only[eU]at h⊢;rw[←vK ha];exact h
 |mref b=>
  simp only[eU]at h⊢
  split at h
  ·rename_i l hl
   have:M'.box b=some [.iY l]:=by simp[Mem.box,hb _ _ (oL hl)]
   rw[this];exact h
  ·cases h
 | _=>exact h
theorem Qk {M M':Mem}(hb:∀(b:Nat) (cs:List PV),M.boxes[b]?=some (some cs)→M'.boxes[b]?=some (some cs))(ha:M.aA=M'.aA):∀{ps:List PV} {ds:List DV},bW M ps=some ds→bW M' ps=some ds
 | [],_,h=>h
 |p::ps,ds,h=>by
  simp only[bW]at h⊢
  split at h
  ·rename_i x xs h1 h2;rw[Uj hb ha h1,Qk hb ha h2];exact h
  ·cases h
theorem aeg {M M':Mem}(hb:∀(b:Nat) (cs:List PV),M.boxes[b]?=some (some cs)→M'.boxes[b]?=some (some cs))(ha:M.aA=M'.aA){p:PV}{d:DV}(h:datum M p=some d):datum M' p=some d:=by
 have hl:=fun{ps ds}=>Qk (ps:=ps) (ds:=ds) hb ha
 cases p with
 |tsl k ver skip=>simp only[datum]at h⊢;rw[←vK ha];exact h
 |mref b=>exact Uj (p:= .mref b) hb ha h
 |ptr b off=>
  simp only[datum]at h⊢
  split at h
  ·rename_i cs hcs
   have:M'.box b=some cs:=by simp[Mem.box,hb _ _ (oL hcs)]
   rw[this]
   simp only[Option.map_eq_some_iff]at h⊢
   obtain⟨x,h1,h2⟩:=h
   exact⟨x,hl h1,h2⟩
  ·cases h
 |func fn f c=>
  simp only[datum]at h⊢
  split at h
  ·rename_i x y h1 h2;rw[hl h1,hl h2];exact h
  ·cases h
 |agg cs=>simp only[datum,Option.map_eq_some_iff]at h⊢;obtain⟨x,h1,h2⟩:=h;exact⟨x,hl h1,h2⟩
 |tup cs=>simp only[datum,Option.map_eq_some_iff]at h⊢;obtain⟨x,h1,h2⟩:=h;exact⟨x,hl h1,h2⟩
 | _=>exact h
theorem Ul {M M':Mem}(hb:∀(b:Nat) (cs:List PV),M.boxes[b]?=some (some cs)→M'.boxes[b]?=some (some cs))(ha:M.aA=M'.aA):∀{ps:List PV} {ds:List DV},dD M ps=some ds→dD M' ps=some ds
 | [],_,h=>h
 |p::ps,ds,h=>by
  simp only[dD]at h⊢
  split at h
  ·rename_i x xs h1 h2;rw[aeg hb ha h1,Ul hb ha h2];exact h
  ·cases h
theorem aoY {op:POp}{fl:Nat}{args:List PV}(h:kd op fl= .p)(hf:CY base fl args):∃V:PV→Prop,∀M K KP,aj C base op args M K KP↔∃v,V v∧K v M:=by
 have one:∀{p:Prop} [Decidable p] {x y z:Kd},(if p then x else y)=z→y≠z→p:=by
  intro p _ x y z h hn;by_cases hp:p
  ·exact hp
  ·rw[if_neg hp]at h;exact absurd h hn
 cases op with
 |mov=>refine⟨fun v=>aj C base .mov args bH (fun u _=>v=u) (fun _ _=>False),fun M K KP=> ?_⟩;simp only[aj];split<;>simp
 |pick=>refine⟨fun v=>aj C base .pick args bH (fun u _=>v=u) (fun _ _=>False),fun M K KP=> ?_⟩;simp only[aj];split<;>simp
 |build zs ps=>refine⟨fun v=>aj C base (.build zs ps) args bH (fun u _=>v=u) (fun _ _=>False),fun M K KP=> ?_⟩;simp only[aj];cases nV (zs.map .d) ps args<;>simp
 |aW=>refine⟨fun v=>aj C base .aW args bH (fun u _=>v=u) (fun _ _=>False),fun M K KP=> ?_⟩;simp only[aj];split<;>simp
 |bin op=>
  refine⟨fun v=>aj C base (.bin op) args bH (fun u _=>v=u) (fun _ _=>False),fun M K KP=> ?_⟩;simp only[aj]
  split
  ·rw[Sm]
   constructor
   ·rintro⟨d,h1,h2⟩;exact⟨.d d,Sm.2 ⟨d,h1,rfl⟩,h2⟩
   ·rintro⟨v,h1,h2⟩
    obtain⟨d,g1,rfl⟩:=Sm.1 h1
    exact⟨d,g1,h2⟩
  ·simp
 |Qg neq ks=>
  refine⟨fun v=>aj C base (.Qg neq ks) args bH (fun u _=>v=u) (fun _ _=>False),fun M K KP=> ?_⟩;simp only[aj]
  split
  ·rename_i a b;cases dB ks a b<;>simp
  ·simp
 |shf op=>refine⟨fun v=>aj C base (.shf op) args bH (fun u _=>v=u) (fun _ _=>False),fun M K KP=> ?_⟩;simp only[aj];split<;>(try simp);cases op<;>simp[and_assoc]
 |abf neq=>refine⟨fun v=>aj C base (.abf neq) args bH (fun u _=>v=u) (fun _ _=>False),fun M K KP=> ?_⟩;simp only[aj];split<;>simp
 |un op=>
  refine⟨fun v=>aj C base (.un op) args bH (fun u _=>v=u) (fun _ _=>False),fun M K KP=> ?_⟩;simp only[aj]
  split
  ·rw[Ym]
   constructor
   ·rintro⟨d,h1,h2⟩;exact⟨.d d,Ym.2 ⟨d,h1,rfl⟩,h2⟩
   ·rintro⟨v,h1,h2⟩
    obtain⟨d,g1,rfl⟩:=Ym.1 h1
    exact⟨d,g1,h2⟩
  ·simp
 |conv k=>refine⟨fun v=>aj C base (.conv k) args bH (fun u _=>v=u) (fun _ _=>False),fun M K KP=> ?_⟩;simp only[aj];split<;>simp
 |mkF fn nf=>refine⟨fun v=>aj C base (.mkF fn nf) args bH (fun u _=>v=u) (fun _ _=>False),fun M K KP=> ?_⟩;simp only[aj];cases jd args<;>simp
 |WH agg off n=>refine⟨fun v=>aj C base (.WH agg off n) args bH (fun u _=>v=u) (fun _ _=>False),fun M K KP=> ?_⟩;simp only[aj];split<;>simp[and_assoc]
 |abW=>refine⟨fun v=>aj C base .abW args bH (fun u _=>v=u) (fun _ _=>False),fun M K KP=> ?_⟩;simp only[aj];split<;>simp[and_assoc]
 |WQ agg sz len=>refine⟨fun v=>aj C base (.WQ agg sz len) args bH (fun u _=>v=u) (fun _ _=>False),fun M K KP=> ?_⟩;simp only[aj];split<;>simp[and_assoc]
 |ext i=>
  refine⟨fun v=>aj C base (.ext i) args bH (fun u _=>v=u) (fun _ _=>False),fun M K KP=> ?_⟩;simp only[aj]
  split
  ·rename_i vs;cases vs[i]?<;>simp
  ·rename_i vs;cases vs[i]?<;>simp
  ·simp
 |Kq=>refine⟨fun v=>aj C base .Kq args bH (fun u _=>v=u) (fun _ _=>False),fun M K KP=> ?_⟩;simp only[aj];split<;>simp
 |ach n=>refine⟨fun v=>aj C base (.ach n) args bH (fun u _=>v=u) (fun _ _=>False),fun M K KP=> ?_⟩;simp only[aj];simp
 |La mx=>refine⟨fun v=>aj C base (.La mx) args bH (fun u _=>v=u) (fun _ _=>False),fun M K KP=> ?_⟩;simp only[aj];split<;>simp
 |Xb ks z=>
  refine⟨fun v=>aj C base (.Xb ks z) args bH (fun u _=>v=u) (fun _ _=>False),fun M K KP=> ?_⟩;simp only[aj]
  split
  ·rename_i l k
   cases dB ks k k with
   |none=>simp
   |some b=>cases b<;>cases I4 ks l k<;>simp
  ·simp
 |RV lo hi=>
  refine⟨fun v=>aj C base (.RV lo hi) args bH (fun u _=>v=u) (fun _ _=>False),fun M K KP=> ?_⟩
  simp only[aj]
  rcases args with _|⟨x,l⟩
  ·simp[Dh]
  ·by_cases hx:∃s,x= .d (.str s)
   ·obtain⟨s,rfl⟩:=hx
    simp only[Dh]
    constructor
    ·intro hh
     obtain⟨a,b,m,g1,g2,g3,g4,g5,g6⟩:=MZ hh
     exact⟨_,Na g1 ⟨g2,g3,g4,g5,rfl⟩,g6⟩
    ·rintro⟨v,h1,h2⟩
     obtain⟨a,b,m,g1,g2,g3,g4,g5,rfl⟩:=MZ h1
     exact Na g1 ⟨g2,g3,g4,g5,h2⟩
   ·have:∀Q:DV→Prop,¬Dh lo hi (x::l) Q:=by
     intro Q hh
     unfold Dh at hh
     split at hh
     ·rename_i s l' he;cases he;exact hx ⟨s,rfl⟩
     ·exact hh
    constructor
    ·intro hh;exact(this _ hh).elim
    ·rintro⟨v,hh,_⟩;exact(this _ hh).elim
 |Ba neq=>refine⟨fun v=>aj C base (.Ba neq) args bH (fun u _=>v=u) (fun _ _=>False),fun M K KP=> ?_⟩;simp only[aj];split<;>simp
 |Oe sz len=>refine⟨fun v=>aj C base (.Oe sz len) args bH (fun u _=>v=u) (fun _ _=>False),fun M K KP=> ?_⟩;simp only[aj];split<;>simp[and_assoc]
 |YL agg sz len=>refine⟨fun v=>aj C base (.YL agg sz len) args bH (fun u _=>v=u) (fun _ _=>False),fun M K KP=> ?_⟩;simp only[aj];split<;>simp[and_assoc]
 |tas t z=>refine⟨fun v=>aj C base (.tas t z) args bH (fun u _=>v=u) (fun _ _=>False),fun M K KP=> ?_⟩;simp only[aj];split<;>simp
 |load agg n=>
  simp only[kd]at h
  have hfl:fl=1:=by
   refine one h ?_;split
   ·decide
   ·split<;>decide
  subst hfl
  obtain⟨ds,rfl⟩:=oH (args:=args) hf
  refine⟨fun v=>aj C base (.load agg n) (ds.map .d) bH (fun u _=>v=u) (fun _ _=>False),fun M K KP=> ?_⟩
  simp only[aj]
  rcases ds with _|⟨x,_|⟨y,l⟩⟩
  ·simp
  ·simp only[List.map_cons,List.map_nil];cases x<;>simp[bQ,and_assoc]
  ·simp
 |Oi agg n=>
  simp only[kd]at h
  have hfl:fl=1:=by
   refine one h ?_;split<;>decide
  subst hfl
  obtain⟨ds,rfl⟩:=oH (args:=args) hf
  refine⟨fun v=>aj C base (.Oi agg n) (ds.map .d) bH (fun u _=>v=u) (fun _ _=>False),fun M K KP=> ?_⟩
  simp only[aj]
  rcases ds with _|⟨x,_|⟨y,l⟩⟩
  ·simp
  ·simp only[List.map_cons,List.map_nil];cases x<;>simp[qH,and_assoc]
  ·simp
 |fld off=>
  have hfl:fl=1∨fl=2:=by
   simp only[kd]at h
   by_cases h1:fl=1
   ·exact .inl h1
   ·by_cases h2:fl=2
    ·exact .inr h2
    ·rw[if_neg h1,if_neg h2]at h
     split at h<;>cases h
  have hcase:(∃ds:List DV,args=ds.map .d)∨(∃b o t,args= .ptr b o::t)∨(∃x t,args= .d x::t):=by
   rcases hfl with rfl|rfl
   ·exact .inl (oH hf)
   ·simp only[CY]at hf
    split at hf
    ·exact .inr (.inl ⟨_,_,_,rfl⟩)
    ·exact .inr (.inr ⟨_,_,rfl⟩)
    ·exact hf.elim
  refine⟨fun v=>aj C base (.fld off) args bH (fun u _=>v=u) (fun _ _=>False),fun M K KP=> ?_⟩
  rcases hcase with⟨ds,rfl⟩|⟨b,o,t,rfl⟩|⟨x,t,rfl⟩
  ·simp only[aj]
   rcases ds with _|⟨x,_|⟨y,l⟩⟩
   ·simp
   ·simp only[List.map_cons,List.map_nil];cases x<;>simp[nK,and_assoc]
   ·simp
  ·simp only[aj]
   cases t<;>simp[nK]
  ·simp only[aj]
   cases t<;>cases x<;>simp[nK,and_assoc]
 |bC sz=>
  simp only[kd]at h
  have hfl:fl=1:=one h (by decide)
  subst hfl
  obtain⟨ds,rfl⟩:=oH (args:=args) hf
  refine⟨fun v=>aj C base (.bC sz) (ds.map .d) bH (fun u _=>v=u) (fun _ _=>False),fun M K KP=> ?_⟩
  simp only[aj]
  rcases ds with _|⟨x,_|⟨y,_|⟨z,l⟩⟩⟩
  ·simp
  ·simp
  ·simp only[List.map_cons,List.map_nil];cases x<;>cases y<;>simp[xX,and_assoc]
  ·simp
 |len=>
  simp only[kd]at h
  have hfl:fl=1:=one h (by decide)
  subst hfl
  obtain⟨ds,rfl⟩:=oH (args:=args) hf
  refine⟨fun v=>aj C base .len (ds.map .d) bH (fun u _=>v=u) (fun _ _=>False),fun M K KP=> ?_⟩
  simp only[aj]
  rcases ds with _|⟨x,_|⟨y,l⟩⟩
  ·simp
  ·simp only[List.map_cons,List.map_nil];cases x<;>simp[vI]
  ·simp
 |iH sz zs is=>
  simp only[kd]at h
  have hfl:fl=1:=one h (by decide)
  subst hfl
  obtain⟨ds,rfl⟩:=oH (args:=args) hf
  refine⟨fun v=>aj C base (.iH sz zs is) (ds.map .d) bH (fun u _=>v=u) (fun _ _=>False),fun M K KP=> ?_⟩
  simp only[aj,aby,KU]
  cases zU sz zs is (ds.map DV.strip)<;>simp
 |mkI t=>
  simp only[kd]at h
  have hfl:fl=1:=one h (by decide)
  subst hfl
  obtain⟨ds,rfl⟩:=oH (args:=args) hf
  refine⟨fun v=>aj C base (.mkI t) (ds.map .d) bH (fun u _=>v=u) (fun _ _=>False),fun M K KP=> ?_⟩
  simp only[aj]
  rcases ds with _|⟨x,_|⟨y,l⟩⟩
  ·simp
  ·have:=fun M:Mem=>KU (M:=M) (ds:=[x])
   simp only[List.map_cons,List.map_nil]at this
   simp only[List.map_cons,List.map_nil,datum,this];simp
  ·simp
 |RU sz lo hi mx=>
  simp only[kd]at h
  have hfl:fl=1:=one h (by decide)
  subst hfl
  obtain⟨ds,rfl⟩:=oH (args:=args) hf
  refine⟨fun v=>aj C base (.RU sz lo hi mx) (ds.map .d) bH (fun u _=>v=u) (fun _ _=>False),fun M K KP=> ?_⟩
  simp only[aj]
  rcases ds with _|⟨x,l⟩
  ·simp[Df]
  ·simp only[List.map_cons]
   cases x with
   |slice ex xs=>
    simp only[Df]
    constructor
    ·intro hh
     obtain⟨a,b,m,g1,g2,g3,g4,g5,g6,g7⟩:=MZ hh
     exact⟨_,Na g1 ⟨g2,g3,g4,g5,g6,rfl⟩,g7⟩
    ·rintro⟨v,h1,h2⟩
     obtain⟨a,b,m,g1,g2,g3,g4,g5,g6,rfl⟩:=MZ h1
     exact Na g1 ⟨g2,g3,g4,g5,g6,h2⟩
   | _=>simp[Df]
 |ak f=>
  refine⟨fun v=>aj C base (.ak f) args bH (fun u _=>v=u) (fun _ _=>False),fun M K KP=> ?_⟩
  simp only[aj,XZ]
  constructor
  ·rintro⟨ds,h0,x,h1,h2⟩;exact⟨.d x,⟨ds,h0,x,h1,rfl⟩,h2⟩
  ·rintro⟨v,⟨ds,h0,x,h1,rfl⟩,h2⟩;exact⟨ds,h0,x,h1,h2⟩
 |store n=>
  simp only[kd]at h
  split at h<;>cases h
 |Ap f=>
  simp only[kd]at h
  split at h<;>cases h
 | _=>simp[kd]at h
theorem VQ {op:POp}{fl:Nat}{args:List PV}(h:kd op fl≠ .x)(hf:CY base fl args):∃R,Spec base (kd op fl) R∧KF C base op args R:=by
 by_cases hp:kd op fl= .p
 ·rw[hp]
  obtain⟨V,hV⟩:=aoY (C:=C) hp hf
  exact amo hV
 ·cases op with
  |load agg n=>
   have hA:KF C base (.load agg n) args (fun M v M'=>(aj C base (.load agg n) args M (fun u _=>v=u) (fun _ _=>False))∧M'=M):=C9 fun M K KP=>by
    simp only[aj]
    split
    ·exact kC
    ·simp
   refine⟨_,?_,hA⟩
   simp only[kd]at hp⊢
   have h1:fl≠1:=fun e=>hp (by simp[e])
   rw[if_neg h1]
   by_cases h2:fl=2
   ·rw[if_pos h2]
    subst h2
    refine⟨_,fun _ _ _=>Iff.rfl,fun M M' v hag hv=> ?_⟩
    simp only[aj]at hv⊢
    simp only[CY]at hf
    split at hf
    ·rename_i b o t
     cases t with
     |nil=>simp only[bQ]at hv⊢;rw[←YP (hag b hf)];exact hv
     |cons=>exact hv
    ·rename_i x t
     cases t with
     |nil=>cases x<;>exact hv
     |cons=>exact hv
    ·exact hf.elim
   ·rw[if_neg h2]
    by_cases h3:fl=3
    ·rw[if_pos h3]
     subst h3
     refine⟨_,fun _ _ _=>Iff.rfl,fun M M' v hag hv=> ?_⟩
     simp only[aj]at hv⊢
     simp only[CY]at hf
     split at hf
     ·rename_i t
      cases t with
      |nil=>exact Ze hag hv
      |cons=>exact hv
     ·exact hf.elim
    ·rw[if_neg h3]
     refine⟨_,fun _ _ _=>Iff.rfl,fun M M' v hb ha hv=> ?_⟩
     simp only[aj]at hv⊢
     split at hv
     ·exact ahF hb ha hv
     ·exact hv.elim
  |Oi agg n=>
   have hA:KF C base (.Oi agg n) args (fun M v M'=>(aj C base (.Oi agg n) args M (fun u _=>v=u) (fun _ _=>False))∧M'=M):=C9 fun M K KP=>by
    simp only[aj]
    split
    ·exact ahD
    ·simp
   refine⟨_,?_,hA⟩
   simp only[kd]at hp⊢
   have h1:fl≠1:=fun e=>hp (by simp[e])
   rw[if_neg h1]
   by_cases h2:fl=2
   ·rw[if_pos h2]
    subst h2
    refine⟨_,fun _ _ _=>Iff.rfl,fun M M' v hag hv=> ?_⟩
    simp only[aj]at hv⊢
    simp only[CY]at hf
    split at hf
    ·rename_i b o t
     cases t with
     |nil=>simp only[qH]at hv⊢;rw[←YP (hag b hf)];exact hv
     |cons=>exact hv
    ·rename_i x t
     cases t with
     |nil=>cases x<;>exact hv
     |cons=>exact hv
    ·exact hf.elim
   ·rw[if_neg h2]
    refine⟨_,fun _ _ _=>Iff.rfl,fun M M' v hb ha hv=> ?_⟩
    simp only[aj]at hv⊢
    split at hv
    ·exact aeX hb hv
    ·exact hv.elim
  |fld off=>
   have hA:KF C base (.fld off) args (fun M v M'=>(aj C base (.fld off) args M (fun u _=>v=u) (fun _ _=>False))∧M'=M):=C9 fun M K KP=>by
    simp only[aj]
    split
    ·exact alG
    ·simp
   have hrow:∀{M M':Mem},M.aA=M'.aA→∀{x:PV} {K:PV→Prop},nK off x M K→nK off x M' K:=by
    intro M M' ha x K hh
    cases x with
    |jY k ver i o=>simp only[nK,vK ha]at hh⊢;exact hh
    |d x=>cases x<;>exact hh
    | _=>exact hh
   refine⟨_,?_,hA⟩
   simp only[kd]at hp⊢
   have h1:fl≠1:=fun e=>hp (by simp[e])
   have h2:fl≠2:=fun e=>hp (by simp[e])
   rw[if_neg h1,if_neg h2]
   by_cases h3:fl=3
   ·rw[if_pos h3]
    refine⟨_,fun _ _ _=>Iff.rfl,fun M M' v hag hv=> ?_⟩
    simp only[aj]at hv⊢
    split at hv
    ·exact hrow hag hv
    ·exact hv.elim
   ·rw[if_neg h3]
    refine⟨_,fun _ _ _=>Iff.rfl,fun M M' v hb ha hv=> ?_⟩
    simp only[aj]at hv⊢
    split at hv
    ·exact hrow ha hv
    ·exact hv.elim
  |bC sz=>
   have hA:KF C base (.bC sz) args (fun M v M'=>(aj C base (.bC sz) args M (fun u _=>v=u) (fun _ _=>False))∧M'=M):=C9 fun M K KP=>by
    simp only[aj]
    split
    ·exact ajC
    ·simp
   refine⟨_,?_,hA⟩
   simp only[kd]at hp⊢
   have h1:fl≠1:=fun e=>hp (by simp[e])
   rw[if_neg h1]
   refine⟨_,fun _ _ _=>Iff.rfl,fun M M' v hag hv=> ?_⟩
   simp only[aj]at hv⊢
   split at hv
   ·simp only[xX,vK hag]at hv⊢;exact hv
   ·exact hv.elim
  |len=>
   have hA:KF C base .len args (fun M v M'=>(aj C base .len args M (fun u _=>v=u) (fun _ _=>False))∧M'=M):=C9 fun M K KP=>by
    simp only[aj]
    split
    ·rw[aar]
     constructor
     ·rintro⟨n,h1,h2⟩;exact⟨_,aar.2 ⟨n,h1,rfl⟩,h2⟩
     ·rintro⟨v,h1,h2⟩
      obtain⟨n,g1,rfl⟩:=aar.1 h1
      exact⟨n,g1,h2⟩
    ·simp
   refine⟨_,?_,hA⟩
   simp only[kd]at hp⊢
   have h1:fl≠1:=fun e=>hp (by simp[e])
   rw[if_neg h1]
   refine⟨_,fun _ _ _=>Iff.rfl,fun M M' v hag hv=> ?_⟩
   simp only[aj]at hv⊢
   split at hv
   ·simp only[vI,vK hag]at hv⊢;exact hv
   ·exact hv.elim
  |adq sz=>
   have hA:KF C base (.adq sz) args (fun M v M'=>(aj C base (.adq sz) args M (fun u _=>v=u) (fun _ _=>False))∧M'=M):=C9 fun M K KP=>by
    simp only[aj]
    split
    ·rename_i k ver skip kk n
     cases M.row k ver with
     |none=>simp
     |some A=>simp[and_assoc]
    ·simp
   refine⟨_,?_,hA⟩
   simp only[kd]
   refine⟨_,fun _ _ _=>Iff.rfl,fun M M' v hag hv=> ?_⟩
   simp only[aj]at hv⊢
   split at hv
   ·simp only[vK hag]at hv⊢;exact hv
   ·exact hv.elim
  |adp sz=>
   have hA:KF C base (.adp sz) args (fun M v M'=>(aj C base (.adp sz) args M (fun u _=>v=u) (fun _ _=>False))∧M'=M):=C9 fun M K KP=>by
    simp only[aj]
    split
    ·rename_i k ver skip kk n
     cases M.row k ver with
     |none=>simp
     |some A=>simp[and_assoc]
    ·simp
   refine⟨_,?_,hA⟩
   simp only[kd]
   refine⟨_,fun _ _ _=>Iff.rfl,fun M M' v hag hv=> ?_⟩
   simp only[aj]at hv⊢
   split at hv
   ·simp only[vK hag]at hv⊢;exact hv
   ·exact hv.elim
  |Qh f=>
   exact⟨fun M p M'=>SC C f args M (fun q N=>q=p∧N=M') (fun _ _=>False),trivial,fun M K KP=>Iff.rfl⟩
  |iZ f=>
   refine⟨_,⟨fun M v=>aj C base (.iZ f) args M (fun u _=>v=u) (fun _ _=>False),fun _ _ _=>Iff.rfl,fun M M' v hb ha hv=> ?_⟩,C9 fun M K KP=> ?_⟩
   ·obtain⟨ds,h0,h1⟩:=hv
    exact⟨ds,Ul hb ha h0,h1⟩
   ·simp only[aj,RD]
    constructor
    ·rintro⟨ds,h0,x,h1,h2,h3⟩;exact⟨.d x,⟨ds,h0,x,h1,h2,rfl⟩,h3⟩
    ·rintro⟨v,⟨ds,h0,x,h1,h2,rfl⟩,h3⟩;exact⟨ds,h0,x,h1,h2,h3⟩
  |NM ok ks z=>
   refine⟨_,⟨fun M v=>aj C base (.NM ok ks z) args M (fun u _=>v=u) (fun _ _=>False),fun _ _ _=>Iff.rfl,fun M M' v hb ha hv=> ?_⟩,C9 fun M K KP=> ?_⟩
   ·simp only[aj]at hv⊢
    split at hv
    ·exact hv
    ·rename_i b k
     cases hbx:M.box b with
     |none=>simp only[hbx]at hv
     |some cs=>
      have:M'.box b=some cs:=by simp[Mem.box,hb _ _ (oL hbx)]
      simp only[hbx]at hv
      simp only[this]
      exact hv
    ·exact hv
   ·simp only[aj]
    split
    ·split<;>simp
    ·split
     ·split<;>simp
     ·simp
    ·simp
  |mkMap i=>
   cases args with
   |nil=>
    refine⟨_,⟨[.iY []], .mref (base+i),True,fun _ _ _=>Iff.rfl⟩,fun M K KP=> ?_⟩
    simp only[aj]
    constructor
    ·rintro⟨h1,h2⟩;exact⟨_,_,⟨trivial,rfl,h1,rfl⟩,h2⟩
    ·rintro⟨v,M',⟨_,rfl,h1,rfl⟩,h2⟩;exact⟨h1,h2⟩
   |cons x l=>
    refine⟨_,⟨[], .dead,False,fun _ _ _=>Iff.rfl⟩,fun M K KP=> ?_⟩
    simp[aj]
  |alloc i zs=>
   cases args with
   |nil=>
    refine⟨_,⟨zs.map .d, .ptr (base+i) 0,True,fun _ _ _=>Iff.rfl⟩,fun M K KP=> ?_⟩
    simp only[aj]
    constructor
    ·rintro⟨h1,h2⟩;exact⟨_,_,⟨trivial,rfl,h1,rfl⟩,h2⟩
    ·rintro⟨v,M',⟨_,rfl,h1,rfl⟩,h2⟩;exact⟨h1,h2⟩
   |cons x l=>
    refine⟨_,⟨[], .dead,False,fun _ _ _=>Iff.rfl⟩,fun M K KP=> ?_⟩
    simp[aj]
  |box i=>
   have hbad:(∀M K KP,¬aj C base (.box i) args M K KP)→∃R,Spec base (kd (.box i) fl) R∧KF C base (.box i) args R:=fun hn=>
    ⟨_,⟨[], .dead,False,fun _ _ _=>Iff.rfl⟩,fun M K KP=>⟨fun hh=>(hn _ _ _ hh).elim,by rintro⟨_,_,⟨hh,_⟩,_⟩;exact hh.elim⟩⟩
   rcases args with _|⟨x,_|⟨y,l⟩⟩
   ·exact hbad fun M K KP hh=>by simp[aj]at hh
   ·refine⟨_,⟨x.cells, .ptr (base+i) 0,x.wS=false,fun _ _ _=>Iff.rfl⟩,fun M K KP=> ?_⟩
    simp only[aj]
    constructor
    ·rintro⟨h0,h1,h2⟩;exact⟨_,_,⟨h0,rfl,h1,rfl⟩,h2⟩
    ·rintro⟨v,M',⟨h0,rfl,h1,rfl⟩,h2⟩;exact⟨h0,h1,h2⟩
   ·exact hbad fun M K KP hh=>by simp[aj]at hh
  |store n=>
   have hx:fl=3∨fl=2∨(∃i,fl=i+4)∨kd (.store n) fl= .w:=by
    simp only[kd]
    split
    ·exact .inl rfl
    ·exact .inr (.inl rfl)
    ·exact .inr (.inr (.inl ⟨_,rfl⟩))
    ·exact .inr (.inr (.inr rfl))
   rcases hx with rfl|rfl|⟨i,rfl⟩|hw
   ·simp only[CY]at hf
    split at hf
    ·rename_i k ver j off t
     refine⟨fun M v M'=>∃as',aj C base (.store n) (.jY k ver j off::t) ⟨[],[],M.aA⟩ (fun u M''=>v=u∧as'=M''.aA) (fun _ _=>False)∧M'={M with aA:=as'},
      ⟨fun aA v as'=>aj C base (.store n) (.jY k ver j off::t) ⟨[],[],aA⟩ (fun u M''=>v=u∧as'=M''.aA) (fun _ _=>False),fun _ _ _=>Iff.rfl⟩,fun M K KP=> ?_⟩
     rcases t with _|⟨y,_|⟨z,l⟩⟩
     ·simp[aj]
     ·have hrow:(⟨[],[],M.aA⟩:Mem).row k ver=M.row k ver:=rfl
      simp only[aj,jH,hrow]
      cases hr:M.row k ver with
      |none=>simp
      |some A=>
       cases hd:jd y.cells with
       |none=>simp
       |some ds=>
        simp only
        constructor
        ·rintro⟨h1,h2,h3,h4,h5,h6⟩;exact⟨_,_,⟨_,⟨h1,h2,h3,h4,h5,rfl,rfl⟩,rfl⟩,h6⟩
        ·rintro⟨v,M',⟨as',⟨h1,h2,h3,h4,h5,rfl,rfl⟩,rfl⟩,h6⟩
         exact⟨h1,h2,h3,h4,h5,h6⟩
     ·simp[aj]
    ·exact hf.elim
   ·simp only[CY]at hf
    split at hf
    ·rename_i b off t
     refine⟨fun M v M'=>∃bs',aj C base (.store n) (.ptr b off::t) ⟨M.boxes,M.fz,[]⟩ (fun u M''=>v=u∧bs'=M''.boxes) (fun _ _=>False)∧M'={M with boxes:=bs'},
      ⟨fun bs fz v bs'=>aj C base (.store n) (.ptr b off::t) ⟨bs,fz,[]⟩ (fun u M''=>v=u∧bs'=M''.boxes) (fun _ _=>False),fun _ _ _=>Iff.rfl⟩,fun M K KP=> ?_⟩
     rcases t with _|⟨y,_|⟨z,l⟩⟩
     ·simp[aj]
     ·have hbox:(⟨M.boxes,M.fz,[]⟩:Mem).box b=M.box b:=rfl
      simp only[aj,jH,hbox]
      cases hb:M.box b with
      |none=>simp
      |some cs=>
       simp only
       constructor
       ·rintro⟨h1,h2,h3,h4,h5⟩;exact⟨_,_,⟨_,⟨h1,h2,h3,h4,rfl,rfl⟩,rfl⟩,h5⟩
       ·rintro⟨v,M',⟨bs',⟨h1,h2,h3,h4,rfl,rfl⟩,rfl⟩,h5⟩
        exact⟨h1,h2,h3,h4,h5⟩
     ·simp[aj]
    ·rename_i x t
     refine⟨fun M v M'=>False∧M'=M∧v=v,⟨fun _ _ _ _=>False,fun _ _ _=>⟨fun hh=>hh.1.elim,fun⟨_,hh,_⟩=>hh.elim⟩⟩,fun M K KP=> ?_⟩
     rcases t with _|⟨y,_|⟨z,l⟩⟩<;>simp[aj,jH]
    ·exact hf.elim
   ·simp only[CY]at hf
    split at hf
    ·rename_i b off t
     subst hf
     refine⟨_,⟨fun cs cs'=>∃y,t=[y]∧y.cells.length=n∧y.cells.all PV.one=true∧off+n≤cs.length∧cs'=splice cs off y.cells,fun _ _ _=>Iff.rfl⟩,fun M K KP=> ?_⟩
     rcases t with _|⟨y,_|⟨z,l⟩⟩
     ·simp[aj]
     ·simp only[aj,jH]
      constructor
      ·intro hh
       split at hh
       ·rename_i cs hcs
        obtain⟨h1,h2,h3,h4,h5⟩:=hh
        exact⟨_,_,⟨cs,_,oL hcs,h1,⟨y,rfl,h2,h3,h4,rfl⟩,rfl,rfl⟩,h5⟩
       ·exact hh.elim
      ·rintro⟨v,M',⟨cs,cs',h1,h2,⟨y',hy,h3,h4,h5,rfl⟩,rfl,rfl⟩,h6⟩
       simp only[List.cons.injEq,and_true]at hy
       subst hy
       have:M.box (base+i)=some cs:=by simp[Mem.box,h1]
       rw[this]
       exact⟨h2,h3,h4,h5,h6⟩
     ·simp[aj]
    ·exact hf.elim
   ·rw[hw]
    refine⟨fun M v M'=>aj C base (.store n) args M (fun u M''=>v=u∧M'=M'') (fun _ _=>False),trivial,fun M K KP=> ?_⟩
    simp only[aj]
    rcases args with _|⟨x,_|⟨y,_|⟨z,l⟩⟩⟩
    ·simp
    ·simp
    ·simp only[jH]
     cases x with
     |ptr b off=>cases h1:M.box b<;>simp[h1,and_assoc]
     |jY k ver i off=>cases h1:M.row k ver<;>cases h2:jd y.cells<;>simp[h1,h2,and_assoc]
     | _=>simp
    ·simp
  |copy sz=>
   refine⟨fun M v M'=>∃as',aj C base (.copy sz) args ⟨[],[],M.aA⟩ (fun u M''=>v=u∧as'=M''.aA) (fun _ _=>False)∧M'={M with aA:=as'},
    ⟨fun aA v as'=>aj C base (.copy sz) args ⟨[],[],aA⟩ (fun u M''=>v=u∧as'=M''.aA) (fun _ _=>False),fun _ _ _=>Iff.rfl⟩,fun M K KP=> ?_⟩
   simp only[aj]
   split
   ·rename_i k ver skip x
    have hrow:∀k ver,(⟨[],[],M.aA⟩:Mem).row k ver=M.row k ver:=fun _ _=>rfl
    have hsrc:Yg x ⟨[],[],M.aA⟩=Yg x M:=by cases x with
     |d x=>cases x<;>rfl
     | _=>rfl
    simp only[hrow,hsrc]
    cases M.row k ver with
    |none=>simp
    |some A=>
     cases Yg x M with
     |none=>simp
     |some ys=>
      simp only
      constructor
      ·rintro⟨h1,h2,h3,h7⟩;exact⟨_,_,⟨_,⟨h1,h2,h3,rfl,rfl⟩,rfl⟩,h7⟩
      ·rintro⟨v,M',⟨as',⟨h1,h2,h3,rfl,rfl⟩,rfl⟩,h7⟩;exact⟨h1,h2,h3,h7⟩
   ·simp
  |qc sz zs is=>
   refine⟨fun M v M'=>∃as',(∃ds xs,jd args=some ds∧zU sz zs is (ds.map DV.strip)=some xs∧0<sz∧(∀x∈xs,x.fits sz=true)∧v= .tsl M.aA.length 0 0∧as'=M.aA++ [some ⟨sz,xs,0,1⟩])∧M'={M with aA:=as'},
    ⟨fun aA v as'=>∃ds xs,jd args=some ds∧zU sz zs is (ds.map DV.strip)=some xs∧0<sz∧(∀x∈xs,x.fits sz=true)∧v= .tsl aA.length 0 0∧as'=aA++ [some ⟨sz,xs,0,1⟩],fun _ _ _=>Iff.rfl⟩,fun M K KP=> ?_⟩
   simp only[aj]
   constructor
   ·intro h
    split at h
    ·rename_i ds hds
     split at h
     ·rename_i xs hxs
      exact⟨_,_,⟨_,⟨ds,xs,hds,hxs,h.1,h.2.1,rfl,rfl⟩,rfl⟩,h.2.2⟩
     ·exact h.elim
    ·exact h.elim
   ·rintro⟨v,M',⟨as',⟨ds,xs,h1,h2,h3,h4,rfl,rfl⟩,rfl⟩,h5⟩
    simp only[h1,h2]
    exact⟨h3,h4,h5⟩
  |app sz st1=>
   refine⟨fun M v M'=>∃as',aj C base (.app sz st1) args ⟨[],[],M.aA⟩ (fun u M''=>v=u∧as'=M''.aA) (fun _ _=>False)∧M'={M with aA:=as'},
    ⟨fun aA v as'=>aj C base (.app sz st1) args ⟨[],[],aA⟩ (fun u M''=>v=u∧as'=M''.aA) (fun _ _=>False),fun _ _ _=>Iff.rfl⟩,fun M K KP=> ?_⟩
   simp only[aj]
   rcases args with _|⟨s,_|⟨x,_|⟨z,l⟩⟩⟩
   ·simp
   ·simp
   ·have hrow:∀k ver,(⟨[],[],M.aA⟩:Mem).row k ver=M.row k ver:=fun _ _=>rfl
    have happ:Dv sz x ⟨[],[],M.aA⟩=Dv sz x M:=by cases x with
     |d x=>cases x<;>rfl
     | _=>rfl
    simp only[mP,happ]
    cases Dv sz x M with
    |none=>simp
    |some ys=>
     simp only
     split
     ·constructor
      ·rintro⟨h1,h2,h3,h4,h5,h6,h7⟩;exact⟨_,_,⟨_,⟨h1,h2,h3,h4,h5,h6,rfl,rfl⟩,rfl⟩,h7⟩
      ·rintro⟨v,M',⟨as',⟨h1,h2,h3,h4,h5,h6,rfl,rfl⟩,rfl⟩,h7⟩;exact⟨h1,h2,h3,h4,h5,h6,h7⟩
     ·rename_i k ver skip
      simp only[hrow]
      cases M.row k ver with
      |none=>simp
      |some A=>
       simp only
       constructor
       ·rintro⟨h1,h2,h3,h4,h5,h6,h7⟩;exact⟨_,_,⟨_,⟨h1,h2,h3,h4,h5,h6,rfl,rfl⟩,rfl⟩,h7⟩
       ·rintro⟨v,M',⟨as',⟨h1,h2,h3,h4,h5,h6,rfl,rfl⟩,rfl⟩,h7⟩;exact⟨h1,h2,h3,h4,h5,h6,h7⟩
     ·simp
   ·simp
  |agz sz=>
   have hrw:∀(M:Mem) (J:PV→Mem→Prop) (KP:DV→Mem→Prop),aj C base (.app sz false) args M J KP↔∃k ver as',(aj C base (.app sz false) args ⟨[],[],M.aA⟩ (fun u M''=> .tsl k ver 0=u∧as'=M''.aA) (fun _ _=>False))∧J (.tsl k ver 0) {M with aA:=as'}:=by
    intro M J KP
    simp only[aj]
    rcases args with _|⟨s,_|⟨x,_|⟨z,l⟩⟩⟩
    ·simp
    ·simp
    ·have hrow:∀k ver,(⟨[],[],M.aA⟩:Mem).row k ver=M.row k ver:=fun _ _=>rfl
     have happ:Dv sz x ⟨[],[],M.aA⟩=Dv sz x M:=by cases x with
      |d x=>cases x<;>rfl
      | _=>rfl
     simp only[mP,happ]
     cases Dv sz x M with
     |none=>simp
     |some ys=>
      simp only
      split
      ·constructor
       ·rintro⟨h1,h2,h3,h4,h5,h6,h7⟩;exact⟨_,_,_,⟨h1,h2,h3,h4,h5,h6,rfl,rfl⟩,h7⟩
       ·rintro⟨k,ver,as',⟨h1,h2,h3,h4,h5,h6,h8,rfl⟩,h7⟩;cases h8;exact⟨h1,h2,h3,h4,h5,h6,h7⟩
      ·rename_i k ver skip
       simp only[hrow]
       cases M.row k ver with
       |none=>simp
       |some A=>
        simp only
        constructor
        ·rintro⟨h1,h2,h3,h4,h5,h6,h7⟩;exact⟨_,_,_,⟨h1,h2,h3,h4,h5,h6,rfl,rfl⟩,h7⟩
        ·rintro⟨k,ver,as',⟨h1,h2,h3,h4,h5,h6,h8,rfl⟩,h7⟩;cases h8;exact⟨h1,h2,h3,h4,h5,h6,h7⟩
      ·simp
    ·simp
   have hfz:∀(M:Mem) (k ver:Nat),M.frz [.tsl k ver 0]={M with aA:=Qv [k] M.aA}:=fun M k ver=>by simp[Mem.frz,oD,oC]
   have hdt:∀(M:Mem) (k ver:Nat),datum M (.tsl k ver 0)=datum ⟨[],[],M.aA⟩ (.tsl k ver 0):=fun _ _ _=>rfl
   refine⟨fun M v M'=>∃as',(∃k ver as0 d,(aj C base (.app sz false) args ⟨[],[],M.aA⟩ (fun u M''=> .tsl k ver 0=u∧as0=M''.aA) (fun _ _=>False))∧datum ⟨[],[],as0⟩ (.tsl k ver 0)=some d∧v= .d d∧as'=Qv [k] as0)∧M'={M with aA:=as'},
    ⟨fun aA v as'=>∃k ver as0 d,(aj C base (.app sz false) args ⟨[],[],aA⟩ (fun u M''=> .tsl k ver 0=u∧as0=M''.aA) (fun _ _=>False))∧datum ⟨[],[],as0⟩ (.tsl k ver 0)=some d∧v= .d d∧as'=Qv [k] as0,fun _ _ _=>Iff.rfl⟩,fun M K KP=> ?_⟩
   have:=hrw M (fun v M'=>∃d,datum M' v=some d∧K (.d d) (M'.frz [v])) KP
   constructor
   ·intro hh
    obtain⟨k,ver,as0,h1,d,h2,h3⟩:=this.1 hh
    rw[hdt]at h2
    rw[hfz]at h3
    exact⟨_,_,⟨_,⟨k,ver,as0,d,h1,h2,rfl,rfl⟩,rfl⟩,h3⟩
   ·rintro⟨_,_,⟨_,⟨k,ver,as0,d,h1,h2,rfl,rfl⟩,rfl⟩,h3⟩
    exact this.2 ⟨k,ver,as0,h1,d,by rw[hdt];exact h2,by rw[hfz];exact h3⟩
  |Ap f=>
   simp only[kd]at h hp
   by_cases hfl:fl=1
   ·subst hfl
    obtain⟨ds,rfl⟩:=oH (args:=args) hf
    have hdl:∀M:Mem,dD M (ds.map .d)=some ds:=by
     intro M
     clear hf h hp
     induction ds with
     |nil=>rfl
     |cons d ds ih=>simp only[List.map_cons,dD,datum,ih]
    simp only[kd,if_true]
    refine⟨fun M v M'=>∃as',(∃r as,Pure C f (ds.map DV.strip) r as∧((∃x,r= .d x∧IW x=true∧as=[]∧v=r∧as'=M.aA)∨((∀A∈as,A.st≠2)∧v=r.shift M.aA.length∧as'=M.aA++as.map some)))∧M'={M with aA:=as'},
     ⟨fun aA v as'=>∃r as,Pure C f (ds.map DV.strip) r as∧((∃x,r= .d x∧IW x=true∧as=[]∧v=r∧as'=aA)∨((∀A∈as,A.st≠2)∧v=r.shift aA.length∧as'=aA++as.map some)),fun _ _ _=>Iff.rfl⟩,fun M K KP=> ?_⟩
    simp only[aj,Rz,hdl,Option.some.injEq,KU]
    constructor
    ·rintro⟨_,rfl,r,as,hp',(⟨x,rfl,g1,rfl,g2⟩|⟨g1,g2⟩)⟩
     ·exact⟨_,M,⟨_,⟨_,_,hp', .inl ⟨x,rfl,g1,rfl,rfl,rfl⟩⟩,rfl⟩,g2⟩
     ·exact⟨_,_,⟨_,⟨_,_,hp', .inr ⟨g1,rfl,rfl⟩⟩,rfl⟩,g2⟩
    ·rintro⟨v,M',⟨as',⟨r,as,hp',(⟨x,rfl,g1,rfl,rfl,rfl⟩|⟨g1,rfl,rfl⟩)⟩,rfl⟩,g2⟩
     ·exact⟨ds,rfl,_,_,hp', .inl ⟨x,rfl,g1,rfl,g2⟩⟩
     ·exact⟨ds,rfl,_,_,hp', .inr ⟨g1,g2⟩⟩
   ·simp_all
  |iH sz zs is=>simp only[kd]at h hp;split at h<;>simp_all
  |mkI t=>simp only[kd]at h hp;split at h<;>simp_all
  |RU sz lo hi mx=>simp only[kd]at h hp;split at h<;>simp_all
  | _=>simp_all[kd]
end
end Go.Am
