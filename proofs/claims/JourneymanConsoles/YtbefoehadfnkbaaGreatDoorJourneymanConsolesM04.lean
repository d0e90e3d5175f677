/-
  Part 4 of a law of desks.
  Conditions: none.
-/
import Derived.Test.YtbefoehadfnkbaaGreatDoorJourneymanConsolesM03
import Derived.IntWalk
import Derived.RecoverIn
import Derived.Shelf.Sort.Plain
import Derived.Lib.LaidTab
import Derived.Lib.ItoaNum
import Derived.Test.YtbefoehadfnkbaaGreatDoorChecked
set_option linter.all false
set_option maxRecDepth 10000
set_option maxHeartbeats 1000000
open Nat renaming reduceBEq->H,reduceAdd->J,reduceSub->N,reduceEqDiff->S,reduceLT->U,reduceLeDiff->V,le_refl->ao,zero_le->aD,lt_of_lt_of_le->aR,gcd->a6,div_le_self->bi,strongRecOn->bk,le_trans->bq,gcd_pos_of_pos_right->bL,gcd_comm->cA,sub_zero->cB,mul_one->cD
open And renaming intro->W
open List renaming length_map->Y,getD_eq_getElem?_getD->Z,getElem?_eq_some_iff->ai,getElem?_eq_getElem->an,drop_length->av,length_singleton->aw,mem_map->ax,length_append->az,map_append->aE,getElem?_append_left->aL,all_eq_true->aM,length_cons->a7,nil_append->a8,map_cons->bc,getElem?_map->bd,getElem_mem->bh,mem_append->bj,map_nil->bp,mem_singleton->bt,zip_cons_cons->bu,zip_nil_left->bB,all_cons->bE,getElem?_cons_zero->bN,take_of_length_le->bO,append_nil->bS,length_nil->bX,getElem?_toArray->b4,mem_of_getElem?->b6,mem_of_mem_drop->b7,getElem?_drop->b9,getElem?_take->cb,append_assoc->cj,getElem?_set->ck,take_length->cm,length_set->cn,range->ct,any_cons->cv,length->cC
open Bool renaming and_eq_true->ab,or_eq_true_iff->bl,false_and->br,and_self->b8,not_eq_true'->ce,and_false->cq
open Int renaming toNat_natCast->ae,mul_le_mul->am,mul_nonneg->ap,lt_irrefl->aq,le_refl->b5,le_trans->cf,ofNat_le->cg,ofNat_tdiv->cr,pow_succ->cz
open Array renaming getElem?_append_left->be,getD_eq_getD_getElem?->bo,isEmpty_iff->bA,replicate->bR,getElem?_modify->b0,getElem?_toList->b3
open Option renaming isNone_iff_eq_none->bz,map_none->cp
open Iff renaming rfl->cw
open Go.IntKind renaming wrap->cE
namespace Go.Tel
open Go.Am
def aB {n:Int}(h: -9223372036854775808<=n/\n<=9223372036854775807):IntKind.i64.wrap n=n:=Go.IntWalk.i64_in _ (by omega)
structure Pt where
 x:Int
 y:Int
 deriving DecidableEq,Inhabited
structure Wh where
 agF:Int
 aiY:Int
 layer:Int
 dJ:Int
 deriving DecidableEq,Inhabited
structure Ms where
 a:Int
 b:Int
 deriving DecidableEq,Inhabited
structure Tn where
 num:Int
 den:Int
 deriving DecidableEq,Inhabited
structure Piece where
 w:Int
 h:Int
 pl:Int
 ga:Int
 po:Int
 cs:List Pt
 ws:List Wh
 ms:List Ms
 deriving DecidableEq,Inhabited
def au (n:Int):DV:= .int .i64 n
def Pt.dv (p:Pt):DV:= .agg [.int .i64 p.x, .int .i64 p.y]
def Wh.dv (p:Wh):DV:= .agg [.int .i64 p.agF, .int .i64 p.aiY, .int .i64 p.layer, .int .i64 p.dJ]
def Ms.dv (p:Ms):DV:= .agg [.int .i64 p.a, .int .i64 p.b]
def aH {n:Int}:au n= .int .i64 n:=by rw[au]
structure Laid where
 p:Piece
 mm:List Ms
 gone:List Int
 deriving Inhabited
variable{i:Nat}
def getD_map {α:Type}[Inhabited α]{f:α->DV}{l:List α}(h:i<l.length):(l.map f).getD i default=f (l.getD i default):=by
 rw[Z,Z,bd,an h];rfl
def drop_cons {α:Type}[Inhabited α]{l:List α}(h:i<l.length):l.drop i=l.getD i default::l.drop (i+1):=by
 rw[List.drop_eq_getElem_cons h];simp[List.getD,h]
def inR (n l h:Int):Bool:=decide (n>=l)&&decide (n<=h)
def ao0 (w h:Int):List Pt->List Pt->Bool
 | _,[]=>true
 |pre,c::cs=>inR c.x 0 w&&inR c.y 0 h&& !pre.contains c&&ao0 w h (pre++ [c]) cs
def aoS (n:Int):List Ms->List Ms->Bool
 | _,[]=>true
 |pre,m::ms=>inR m.a 0 (n - 1)&&inR m.b 0 (n - 1)&& !decide (m.a>=m.b)&& !pre.contains m&&aoS n (pre++ [m]) ms
def aqz (n:Int)(w:Wh):Bool:=inR w.agF 0 (n - 1)&&inR w.aiY 0 2&&inR w.layer 0 5&&inR w.dJ 4 50
def sq (n:Int):Int:=n*n
end Go.Tel
namespace Go.Am
section
variable {C:Ctx}{base nb na:Nat}{K:St->Prop}{KP:DV->Mem->Prop}{Q:Ex->St->Prop}{env:List (Nat×PV)}{m:Mem}
variable{b:Bool}
def bF {d:Option Nat}{op:POp}{args:List Opd}{fl t:Nat}{w:Bool}(hb:look env t= .d (.bool b))(h1:b=true->fE C base ⟨d,op,args,some (t,w),fl⟩ K KP ⟨env,m⟩)(a:b=false->fE C base ⟨d,op,args,some (t,w),fl⟩ K KP ⟨env,m⟩):
  fE C base ⟨d,op,args,some (t,w),fl⟩ K KP ⟨env,m⟩:=by cases b;exact a rfl;exact h1 rfl
def bM {t:Nat}{x y:aA}(hb:look env t= .d (.bool b))(h1:b=true->pwp C nb na (.cond (.t t) x y) Q ⟨env,m⟩)(a:b=false->pwp C nb na (.cond (.t t) x y) Q ⟨env,m⟩):
  pwp C nb na (.cond (.t t) x y) Q ⟨env,m⟩:=by cases b;exact a rfl;exact h1 rfl
variable {s:St}{bs:List (Option (List PV))}{fz:List Nat}{ass:List (Option Arr)}
def upJ {α:Type}(len:Nat)(E:Nat->α->St)(P:Nat->α->Prop):Nat->St->Prop:=fun n s=>∃i a,i<=len/\n=len - i/\s=E i a/\P i a
variable{b:aA}
def aG {α:Type}(len:Nat)(E:Nat->α->St)(P:Nat->α->Prop)(c:Nat)(d:α)(hi:c<=len)(hs:s=E c d)(f:P c d)
  (j:∀i a,i<len->P i a->pwp C nb na b (OB nb na (upJ len E P) (len - i) Q) (E i a))
  (g:∀a,P len a->pwp C nb na b (OB nb na (upJ len E P) 0 Q) (E len a)):pwp C nb na (.loop b) Q s:=by
 refine BX (upJ len E P) (len - c) ⟨c,d,hi,rfl,hs,f⟩ ?_;rintro n s ⟨i,a,hi,rfl,rfl,e⟩
 by_cases h:i<len
 ·exact j i a h e
 ·obtain rfl:i=len:=by omega
  have:=g a e
  rwa [<-Nat.sub_self i]at this
variable{len i:Nat}
def dD {α:Type}{E:Nat->α->St}{P:Nat->α->Prop}(d:α)(hi:i<len)(hs:(⟨env,⟨bs,fz.filter (fun b=>decide (b<bs.length)),ass⟩⟩:St)=E (i+1) d)(h:P (i+1) d)
  (h1:nb<=bs.length)(h2:na<=ass.length)(f:(env.all fun p=>p.2.upto bs.length ass.length)=true)(g:(bs.all fun c=>(c.getD []).all fun p=>p.upto bs.length ass.length)=true):
  ∃e a,e<len - i/\Weak nb na ⟨env,⟨bs,fz,ass⟩⟩ a/\upJ len E P e a:=⟨len - (i+1),_,by omega,Weak.same h1 h2 f g,i+1,d,by omega,rfl,hs,h⟩
def fC {α:Type}{E:Nat->α->St}{P:Nat->α->Prop}(n m:Nat)(d:α)(hi:i<len)(hs:(⟨env,⟨bs.take n,fz.filter (fun b=>decide (b<n)),ass.take m⟩⟩:St)=E (i+1) d)(h:P (i+1) d)
  (h1:nb<=n)(h2:na<=m)(f:(env.all fun p=>p.2.upto n m)=true)(g:((bs.take n).all fun c=>(c.getD []).all fun p=>p.upto n m)=true):
  ∃e a,e<len - i/\Weak nb na ⟨env,⟨bs,fz,ass⟩⟩ a/\upJ len E P e a:=⟨len - (i+1),_,by omega,Weak.take h1 h2 f g,i+1,d,by omega,rfl,hs,h⟩
def whJ {α:Type}(E:α->St)(P:α->Prop)(μ:α->Nat):Nat->St->Prop:=fun n s=>∃a,n=μ a/\s=E a/\P a
def iE {α:Type}(E:α->St)(P:α->Prop)(μ:α->Nat)(c:α)(hs:s=E c)(d:P c)
  (f:∀a,P a->pwp C nb na b (OB nb na (whJ E P μ) (μ a) Q) (E a)):pwp C nb na (.loop b) Q s:=by
 refine BX (whJ E P μ) (μ c) ⟨c,rfl,hs,d⟩ ?_;rintro n s ⟨a,rfl,rfl,e⟩;exact f a e
def MC {α:Type}{a:α}{E:α->St}{P:α->Prop}{μ:α->Nat}(d:α)(j:μ d<μ a)(hs:(⟨env,⟨bs,fz.filter (fun b=>decide (b<bs.length)),ass⟩⟩:St)=E d)(i:P d)
  (h1:nb<=bs.length)(h2:na<=ass.length)(g:(env.all fun p=>p.2.upto bs.length ass.length)=true)(h:(bs.all fun c=>(c.getD []).all fun p=>p.upto bs.length ass.length)=true):
  ∃f e,f<μ a/\Weak nb na ⟨env,⟨bs,fz,ass⟩⟩ e/\whJ E P μ f e:=⟨μ d,_,j,Weak.same h1 h2 g h,d,rfl,hs,i⟩
def anF {α:Type}(o:Option α)(k:α->Prop):Prop:=match o with|some x=>k x|none=>False
def afo {α:Type}{x:α}{k:α->Prop}:anF (some x) k=k x:=rfl
def agj (o:Option (List DV))(cs:List PV):PV:=match o with|some ds=> .d (.agg ds)|none=> .agg cs
def aau (o:Option (List DV))(cs:List PV):PV:=match o with|some ds=> .d (.tup ds)|none=> .tup cs
def akI {cs:List PV}:Bo cs=agj (ji cs) cs:=rfl
def akK {cs:List PV}:J3 cs=aau (ji cs) cs:=rfl
def ad6 {ds:List DV}{cs:List PV}:agj (some ds) cs= .d (.agg ds):=rfl
def af0 {ds:List DV}{cs:List PV}:aau (some ds) cs= .d (.tup ds):=rfl
section
variable {M:Mem}{L:PV->Mem->Prop}
def aeR {zs:List DV}{ps:List (Nat×Nat)}{args:List PV}:ay C base (.build zs ps) args M L KP=anF (mQ (zs.map .d) ps args) (fun cs=>L (Bo cs) M):=by
 rw[ag5];cases mQ (zs.map .d) ps args<;>rfl
def aeV {cs:List PV}:mQ cs [] []=some cs:=rfl
def GL {cs:List PV}{off n:Nat}{ps:List (Nat×Nat)}{x:DV}{vs:List PV}:mQ cs ((off,n)::ps) (.d x::vs)=bif (PV.cells (.d x)).length==n&&decide (off+n<=cs.length)then mQ (splice cs off (PV.cells (.d x))) ps vs else none:=by
 simp only[mQ,PV.uz,true_and]
 by_cases h1:(PV.cells (.d x)).length=n
 ·by_cases h2:off+n<=cs.length
  ·rw[if_pos ⟨h1,h2⟩];simp[h1,h2]
  ·rw[if_neg (fun h=>h2 h.2)];simp[h1,h2]
 ·rw[if_neg (fun h=>h1 h.1)]
  have:((PV.cells (.d x)).length==n)=false:=by simpa using h1
  rw[this];rfl
def ajW {i:Nat}{vs:List DV}:ay C base (.ext i) [.d (.tup vs)] M L KP=anF vs[i]? (fun v=>L (.d v) M):=by
 simp only[ay];cases vs[i]?<;>rfl
end
def Yj {f:Fn}{a b:List DV}:PV.cells (.d (.func f a b))=[.d (.func f a b)]:=rfl
def akA {cs:List DV}:PV.isAgg (.d (.agg cs))=true:=rfl
def rng {i len:Nat}(h:i<len)(hl:len<=1000000):(i:Int)<(len:Int)/\(0:Int)<=(i:Int)/\cE .i64 ((i:Int)+1)=((i+1:Nat):Int):=by
 refine⟨by omega,by omega,?_⟩;rw[Go.IntWalk.i64_in _ (by omega)];omega
end
def ali {k:Nat}:vI k []=[]:=by rw[vI]
def alj {k:Nat}{v:PV}{vs:List PV}:vI k (v::vs)=(k,v)::vI (k+1) vs:=by rw[vI]
def ale {rs:List jB}{K:PV->Mem->Prop}{KP:DV->Mem->Prop}{s:St}:Ul rs K KP .normal s=oU rs s (fun vs=>K (resV vs) s.mem):=px
def alf {rs:List jB}{K:PV->Mem->Prop}{KP:DV->Mem->Prop}{s:St}:Ul rs K KP .ret s=oU rs s (fun vs=>K (resV vs) s.mem):=px
def alg {rs:List jB}{K:PV->Mem->Prop}{KP:DV->Mem->Prop}{s:St}{d:DV}:Ul rs K KP (.panic d) s=KP d s.mem:=px
def alh {rs:List jB}{K:PV->Mem->Prop}{KP:DV->Mem->Prop}{s:St}{i:Nat}:Ul rs K KP (.exit i) s=False:=px
def alk {s:St}{K:List PV->Prop}:oU [] s K=K []:=px
def alm {s:St}{K:List PV->Prop}{t:Nat}{l:List jB}:oU (.tmp t::l) s K=oU l s (fun vs=>K (look s.env t::vs)):=px
def aln {s:St}{K:List PV->Prop}{t n:Nat}{g:Bool}{l:List jB}:oU (.cell t g n::l) s K=cO g n (look s.env t) s.mem (fun v=>oU l s fun vs=>K (v::vs)):=px
def ao1:resV []=J3 []:=by rw[resV];intro x h;cases h
def ao2 {x:PV}:resV [x]=x:=by rw[resV]
def ao3 {x y:PV}{l:List PV}:resV (x::y::l)=J3 (x::y::l):=by rw[resV];intro x h;cases h
def afI {α:Type}{cs:List α}{off:Nat}{new:List α}:splice cs off new=cs.take off++new++cs.drop (off+new.length):=by rw[splice]
set_option linter.defProp false in
def RN:=W (W (W (W (W (W (W (@aia) (W (@afv) (@akX))) (W (@ah9) (W (@afw) (@akY)))) (W (W (@aac) (W (@aiT) (@afM))) (W (W (@acC) (@afu)) (W (@Uf) (@aaL))))) (W (W (W (@Ws) (W (@aaK) (@Yb))) (W (@Xh) (W (@afj) (@abR)))) (W (W (@Y7) (W (@acg) (@acf))) (W (W (@ZC) (@ZB)) (W (@ZE) (@SA)))))) (W (W (W (W (@aeZ) (W (@YW) (@WZ))) (W (@acA) (W (@Z4) (@alp)))) (W (W (@aiM) (W (@aiP) (@aiL))) (W (W (@aiO) (@aiN)) (W (@alq) (@amH))))) (W (W (W (@amI) (W (@aj8) (@aj7))) (W (@amJ) (W (@aj9) (@aoM)))) (W (W (@ah8) (W (@ah7) (@ahN))) (W (W (@afi) (@ao8)) (W (@ao7) (@amD))))))) (W (W (W (W (W (@Yx) (W (@aeQ) (@aj3))) (W (@ag1) (W (@amx) (@aj2)))) (W (W (@ag8) (W (@abh) (@abg))) (W (W (@amw) (@an6)) (W (@ag6) (@ag7))))) (W (W (W (@fD) (W (@ajV) (@amA))) (W (@ajX) (W (@ajY) (@ajZ)))) (W (W (@ajU) (W (@amv) (@amB))) (W (W (@aj1) (@U3)) (W (@YA) (@Yy)))))) (W (W (W (W (@Yz) (W (@abd) (@abb))) (W (@WL) (W (@ajH) (@akp)))) (W (W (@akz) (W (@akv) (@akx))) (W (W (@aky) (@akq)) (W (@akw) (@aku))))) (W (W (W (@akt) (W (@aks) (@akr))) (W (@anU) (W (@anV) (@anv)))) (W (W (@an9) (W (@aoa) (@anq))) (W (W (@aoQ) (@ahI)) (W (@akE) (@afd)))))))) (W (W (W (W (W (W (@ahH) (W (@aaW) (@aaX))) (W (@Yh) (W (@Wx) (@aaY)))) (W (W (@Yj) (W (@akA) (@aj0))) (W (W (@IY) (@jH)) (W (@ahy) (@akI))))) (W (W (W (@akK) (W (@ad6) (@af0))) (W (@afo) (W (@aeR) (@aeV)))) (W (W (@GL) (W (@ajW) (@amC))) (W (W (@aoY) (@akR)) (W (@ahX) (@akT)))))) (W (W (W (W (@afl) (W (@akS) (@ahT))) (W (@akH) (W (@afe) (@ai7)))) (W (W (@acN) (W (@ant) (@ahJ))) (W (W (@ako) (@ahw)) (W (@akF) (@aff))))) (W (W (W (@amM) (W (@ahd) (@agr))) (W (@ame) (W (@agq) (@akd)))) (W (W (@amR) (W (@amQ) (@agk))) (W (W (@ad8) (@Option.map_some.{0,0})) (W (@List.mem_cons.{0}) (@List.not_mem_nil.{0}))))))) (W (W (W (W (W (@or_false) (W (@or_self) (@not_false_eq_true))) (W (@ne_eq.{1}) (W (@decide_true) (@decide_false)))) (W (W (@cond_true.{1}) (W (@cond_false.{1}) (@Bool.not_true))) (W (W (@Bool.not_false) (@Nat.zero_add)) (W (@Nat.add_zero) (@List.map_cons.{0,0}))))) (W (W (W (@List.map_nil.{0,0}) (W (@List.cons_append.{0}) (@List.nil_append.{0}))) (W (@List.append_nil.{0}) (W (@List.length_cons.{0}) (@List.length_nil.{0})))) (W (W (@List.replicate_succ.{0}) (W (@List.replicate_zero.{0}) (@List.all_cons.{0}))) (W (W (@List.all_nil.{0}) (@Bool.and_true)) (W (@Bool.true_and) (@Bool.and_self)))))) (W (W (W (W (@true_and) (W (@and_true) (@true_implies))) (W (@List.set_cons_zero.{0}) (W (@List.set_cons_succ.{0}) (@List.getElem?_cons_zero.{0})))) (W (W (@List.getElem?_cons_succ.{0}) (W (@List.drop_succ_cons.{0}) (@List.drop_zero.{0}))) (W (W (@List.take_succ_cons.{0}) (@List.take_zero.{0})) (W (@List.getD_cons_zero.{0}) (@List.getD_cons_succ.{0}))))) (W (W (W (@ali) (W (@alj) (@ale))) (W (@alf) (W (@alg) (@alh)))) (W (W (@alk) (W (@alm) (@aln))) (W (W (@ao1) (@ao2)) (W (@ao3) (@afI))))))))
set_option linter.defProp false in
def BSN:=W (W (W (W (@Bool.not_true) (@Bool.not_false)) (W (@Bool.not_not) (@Bool.and_true))) (W (W (@Bool.true_and) (@Bool.and_false)) (W (@Bool.false_and) (W (@Bool.or_true) (@Bool.true_or))))) (W (W (W (@Bool.or_false) (@Bool.false_or)) (W (@Bool.and_self) (@Bool.or_self))) (W (W (@if_true.{1}) (@if_false.{1})) (W (@cond_true.{1}) (W (@cond_false.{1}) (@Bool.false_eq_true)))))
section
variable {C:Ctx}{base:Nat}
variable{args:List PV}{M:Mem}{K:PV->Mem->Prop}{KP KP':DV->Mem->Prop}
def SC.kZ {f:FuncId}(h:SC C f args M K KP)(m:∀d M,KP d M->KP' d M):SC C f args M K KP':=by
 intro X w E a l k;refine(h X w E a l k).mono fun e w' b=> ?_
 cases e with
 |returned v=>exact b
 |panicked c=>obtain⟨v,d,M',E',g,i,j⟩:=b;exact⟨v,d,M',E',g,m _ _ i,j⟩
 |outgrown=>exact b
def SY.kZ {b:Nat}(h:SY C b args M K KP)(r:∀d M,KP d M->KP' d M):SY C b args M K KP':=by
 intro X w E i l p o q;obtain⟨fn,g,a,f,h1,h2⟩:=h X w E i l p o q;refine⟨fn,g,a,f,h1,h2.mono fun e w' j=> ?_⟩;cases e with
 |returned v=>exact j
 |panicked c=>obtain⟨v,d,M',E',k,m,n⟩:=j;exact⟨v,d,M',E',k,r _ _ m,n⟩
 |outgrown=>exact j
def PD {op:POp}(b:∀d M',KP d M'->KP' d M')(h:ay C base op args M K KP):ay C base op args M K KP':=by
 cases op with
 |call f=>exact SC.kZ h b
 |Jz f=>obtain⟨P,h1,h2,c⟩:=h;exact⟨P,SC.kZ h1 b,h2,c⟩
 |D8 agg n f=>
  cases args with
  |nil=>exact h
  |cons a e=>
   simp only[ay]at h⊢;obtain⟨v,h1,h2⟩:=jV.1 h;exact jV.2 ⟨v,h1,SC.kZ h2 b⟩
 |jR=>
  simp only[ay]at h⊢
  split at h
  ·exact⟨h.1,h.2.kZ b⟩
  ·exact⟨h.1,h.2.kZ b⟩
  ·exact SY.kZ h b
  ·exact h.elim
 |inv name=>
  simp only[ay]at h⊢
  split at h
  ·obtain⟨f,h1,h2,c⟩:=h
   exact⟨f,h1,h2,c.kZ b⟩
  ·exact h.elim
 |panic=>
  simp only[ay]at h⊢
  split at h
  ·split at h
   ·exact b _ _ h
   ·exact h.elim
  ·exact h.elim
 | _=>exact h
def ZY {p:PO}{K a:St->Prop}(hk:∀s,K s->a s)(b:∀d M',KP d M'->KP' d M'){s:St}(h:fE C base p K KP s):fE C base p a KP' s:=by
 unfold fE at h⊢
 split at h
 ·exact⟨h.1,PD b (DR (fun v M' hh=>hk _ hh) h.2)⟩
 ·split at h
  ·exact⟨fun e=>⟨(h.1 e).1,PD b (DR (fun v M' hh=>hk _ hh) (h.1 e).2)⟩,fun e=>hk _ (h.2 e)⟩
  ·exact hk _ h
  ·exact h.elim
def LH {KP KP':DV->Mem->Prop}(c:∀d M',KP d M'->KP' d M'):∀{ps:List PO} {K b:St->Prop} (_:∀s,K s->b s) {s:St},wO C base ps K KP s->wO C base ps b KP' s
 | [],_,_,a,_,h=>a _ h
 | _::_,_,_,a,_,h=>ZY (fun _ h=>LH c a h) c h
def Q5 {K a:St->Prop}(hk:∀s,K s->a s):∀{ts:List Nat} {s:St},wX ts K s->wX ts a s
 | [],_,h=>hk _ h
 |t::ts,s,h=>by
  simp only[wX]at h⊢
  split at h
  ·exact Q5 hk h
  ·exact h.elim
def oQ {nb na:Nat}:∀{pc:aA} {Q l:Ex->St->Prop} (_:∀e s,Q e s->l e s) {s:St},pwp C nb na pc Q s->pwp C nb na pc l s
 | .skip,_,_,i,_,h=>i _ _ h
 | .label _,_,_,i,_,h=>i _ _ h
 | .exit _,_,_,i,_,h=>i _ _ h
 | .ret,_,_,i,_,h=>i _ _ h
 | .region _ _ _ _ _,_,_,i,_,h=>by
  simp only[pwp]at h⊢;exact LH (fun d M' h=>i _ _ h) (fun s h=>Q5 (fun s h=>i _ _ h) h) h
 | .seq a b,_,_,i,_,h=>by
  simp only[pwp]at h⊢;refine oQ (fun e s h=> ?_) h;cases e with
  |normal=>exact oQ i h
  |exit id=>exact i _ _ h
  |ret=>exact i _ _ h
  |panic d=>exact i _ _ h
 | .cond c a b,_,_,i,_,h=>by
  simp only[pwp]at h⊢
  split at h
  ·exact⟨fun e=>oQ i (h.1 e),fun e=>oQ i (h.2 e)⟩
  ·exact h.elim
 | .block id b,_,_,i,_,h=>by
  simp only[pwp]at h⊢;refine oQ (fun e s h=> ?_) h;cases e with
  |normal=>exact i _ _ h
  |exit z=>
   simp only at h⊢
   split at h
   ·rename_i hid;rw[if_pos hid];exact i _ _ h
   ·rename_i hid;rw[if_neg hid];exact i _ _ h
  |ret=>exact i _ _ h
  |panic d=>exact i _ _ h
 | .loop b,_,_,i,_,h=>by
  simp only[pwp]at h⊢;obtain⟨I,n,q,x⟩:=h;refine⟨I,n,q,fun k s y=>oQ (fun e s h=> ?_) (x k s y)⟩;cases e with
  |normal=>exact h
  |exit id=>exact i _ _ h
  |ret=>exact i _ _ h
  |panic d=>exact i _ _ h
 | .scope b,_,_,i,_,h=>by
  simp only[pwp]at h⊢;exact oQ i h
 | .uQ f ps o p m,_,_,i,_,h=>by
  simp only[pwp]at h⊢;obtain⟨g,fs,cs,h1,h2,r,t⟩:=h;refine⟨g,fs,cs,h1,h2,r,fun L u mD=>SC.kZ (SC.mono (t L u mD) fun v M w=> ?_) fun d M h=>i _ _ h⟩;obtain⟨st,A,cells,B,D,E,j⟩:=w;refine⟨st,A,cells,B,D,E,?_⟩
  split at j
  ·exact i _ _ j
  ·exact i _ _ j
  ·exact i _ _ j
  ·exact j.elim
end
section
variable {C:Ctx}{nb na:Nat}{Q:Ex->St->Prop}
def Xg {M:Mem}{L:Loop}{st:LoopState}{a:Option Code}{cells:List PV}{xb:List (Option (List PV))}{xf:List Nat}{xa:List (Option Arr)}:(iQ M L st a cells xb xf xa).boxes[M.boxes.length]?=some (some (.iK {L with state:=st,pending:=a}::cells)):=by simp[iQ]
end
def Bf {C:Ctx}{base b:Nat}{args:List PV}{M:Mem}{K:PV->Mem->Prop}{KP:DV->Mem->Prop}(h:SY C b args M K KP):ay C base .jR (.qg b::args) M K KP:=h
def Rn (f:FuncId)(te d:Nat):List Oper->Bool
 | [a,b]=>a.guard.isNone&&b.guard.isNone&&a.dst==some d&&b.dst.isNone&&
  (match a.op with| .makeFunc (.func g) h e=>g==f&&h.isEmpty&&(match e.toList with| [.tmp t]=>t==te| _=>false)| _=>false)&&
  (match b.op with| .defer c=>(match c.callee with| .value (.tmp t)=>t==d| _=>false)&&c.args.isEmpty| _=>false)
 | _=>false
def JV (a:Nat):List Oper->Bool
 | [o]=>o.guard.isNone&&o.dst==some a&&(match o.op with| .call c=>(match c.callee with| .builtin .recover=>true| _=>false)&&c.args.isEmpty| _=>false)
 | _=>false
def WA (P:Program)(f h:FuncId)(b n g te j k:Nat)(c d e:aA):Bool:=
 match P.funcs[f]?,P.funcs[h]? with
 |some fn,some a=>match fn.body,a.body with
  |some (.seq m (.seq (.region _ i false) l)),some (.seq (.region _ ah1 false) o)=>
   fn.ntmps==n&&a.ntmps==g&&decide (b<=n)&&decide (1<=g)&&decide (j<n)&&decide (k<g)&&decide (1<=k)&&decide (te≠j)&&chk P n m c&&chk P n l d&&chk P g o e&&iq e&&OE P fn.results.toList [.cell te false 1]&&a.results.isEmpty&&
    callable P h&&Fj te l&&Rn h te j i.toList&&JV k ah1.toList&&Dj c&&Dj d
  | _,_=>false
 | _,_=>false
section
variable {C:Ctx}
def Rep.Xl {w w':World}{O O':Nat->Prop}{M:Mem}{E:Emb}{v:Value}{b o:Nat}(h:Rep w O M E v (.ptr b o)):Rep w' O' M E v (.ptr b o):=by
 cases h with|ptr c a d=>exact .ptr c a d
def D6 (te:Nat)(b:Nat)(K:PV->Mem->Prop)(e:Ex)(s:St):Prop:=
 match e with
 | .normal=>cO false 1 (.ptr b 0) s.mem fun v=>K v s.mem
 | .ret=>cO false 1 (.ptr b 0) s.mem fun v=>K v s.mem
 | _=>False
def anT (C:Ctx)(te c:Nat)(a:aA)(b:Nat)(K:PV->Mem->Prop)(e:Ex)(s:St):Prop:=
 match e with
 | .normal=>pwp C s.mem.boxes.length s.mem.aF.length a (D6 te b K) ⟨[(0, .ptr b 0),(c, .d .nilIface)],s.mem⟩
 | .ret=>pwp C s.mem.boxes.length s.mem.aF.length a (D6 te b K) ⟨[(0, .ptr b 0),(c, .d .nilIface)],s.mem⟩
 | .panic d=>pwp C s.mem.boxes.length s.mem.aF.length a (D6 te b K) ⟨[(0, .ptr b 0),(c, .d d)],s.mem⟩
 | .exit _=>False
def aji (hm:C.P.follows .mixedOrders=true){f f1:FuncId}{n n1 te t3 t5:Nat}{bj bk aw:aA}{args:List PV}{M:Mem}{K:PV->Mem->Prop}{KP:DV->Mem->Prop}(hc:WA C.P f f1 args.length n n1 te t3 t5 bj bk aw=true)
  (h:pwp C M.boxes.length M.aF.length bj (fun e s=>e= .normal/\∃b,look s.env te= .ptr b 0/\pwp C s.mem.boxes.length s.mem.aF.length bk (anT C te t5 aw b K) ⟨(t3, .dead)::s.env,s.mem⟩) ⟨vI 0 args,M⟩):SC C f args M K KP:=by
 unfold WA at hc
 split at hc
 case h_2=>cases hc
 rename_i fn ac cb apB
 split at hc
 case h_2=>cases hc
 rename_i c0 id bi c2 cK ah1 c3 a8 am2
 simp only[ab,beq_iff_eq,decide_eq_true_eq]at hc;obtain⟨⟨⟨⟨⟨⟨⟨⟨⟨⟨⟨⟨⟨⟨⟨⟨⟨⟨⟨hn,cH⟩,cI⟩,aqp⟩,ct⟩,cv⟩,aqr⟩,cw⟩,b0⟩,b2⟩,b3⟩,bw⟩,bE⟩,aoF⟩,a9⟩,cn⟩,am⟩,av⟩,apK⟩,apL⟩:=hc;intro X w E x hS hA;have cJ:x.length=args.length:=hA.length;have hi:InS C X ⟨w.heap.size,[],false,none⟩ n ⟨vI 0 args,M⟩ {tmps:=x.toArray++bR (fn.ntmps - x.toArray.size) undef,defers:=[]} w E:=
  {sim:=hS
   size:=by simp;omega
   defers:=Dp
   fix:=fun _ h=>by cases h
   env:=fun t=>by
    simp only[Jf,Nat.not_lt_zero,if_false,cB];cases ht:args[t]? with
    |none=>exact .dead
    |some p=>
     obtain⟨v,hv,hr⟩:=hA.get' t p ht;have cm:t<x.length:=(ai.1 hv).1;have:({tmps:=x.toArray++bR (fn.ntmps - x.toArray.size) undef,defers:=[]}:Act).eval (.tmp t)=v:=by
      simp only[Act.eval,bo];rw[be (by simpa using cm)];simp[hv]
     rw[this];exact hr}
 have aM:∀b,C.low b->b<w.heap.size:=fun b hb=>hS.xlt b (hS.iW b hb)
 refine(callsIn_wide (n:=0)).1 (callsIn_of_wp_marks (F:=Fence.wide) cb a8 trivial ?_);refine wpIn_seq (F:=RF none) (wpIn_mono (AP hm c0 bj (ao _) (ao _) apK none [] false none _ _ _ w E (fun _ h=>by cases h) (.inl rfl) (fun e=>by cases e) b0 h hi (.refl _ _ _)) fun e i N U=> ?_);cases e with
 |exit id=>obtain⟨_,_,_,_,⟨B,_⟩,_⟩:=U;cases B
 |ret=>obtain⟨_,_,_,_,⟨B,_⟩,_⟩:=U;cases B
 |panic ch=>obtain⟨_,_,_,_,_,_,_,⟨B,_⟩,_⟩:=U;cases B
 |goto l=>exact U.elim
 |outgrown=>exact U.elim
 |normal=>
  obtain⟨X1,s1,E1,cE,⟨_,b,apQ,cp⟩,I,br⟩:=U;have ae7:=I.env te;rw[apQ]at ae7;obtain⟨c,ae⟩:∃c,i.eval (.tmp te)= .pointer (some ⟨c,0,none⟩):=by
   generalize i.eval (.tmp te)=v at ae7;cases ae7 with
   |ptr hl hb ho=>exact⟨_,rfl⟩
  rw[ae]at ae7;unfold Rn at am
  split at am
  case h_2=>cases am
  rename_i o1 o2 aR
  simp only[ab,beq_iff_eq,bz]at am;obtain⟨⟨⟨⟨⟨cc,ce⟩,b6⟩,b7⟩,aD⟩,aE⟩:=am;obtain⟨bi,rfl⟩:∃l:List Oper,bi=l.toArray:=⟨bi.toList,by simp⟩
  simp only at aR;subst aR
  split at aD
  case h_2=>cases aD
  rename_i g fi ca bu
  simp only[ab,beq_iff_eq,bA]at aD;obtain⟨⟨rfl,rfl⟩,S⟩:=aD
  split at S
  case h_2=>cases S
  rename_i t aok
  simp only[beq_iff_eq]at S;have S:=S.symm;subst S;obtain⟨ca,rfl⟩:∃l:List Operand,ca=l.toArray:=⟨ca.toList,by simp⟩
  simp only at aok;subst aok
  split at aE
  case h_2=>cases aE
  rename_i cl bv
  simp only[ab,bA]at aE;obtain⟨Qc,am5⟩:=aE
  split at Qc
  case h_2=>cases Qc
  rename_i R aol
  simp only[beq_iff_eq]at Qc;subst Qc;obtain⟨D1,a6⟩:∃D1:Deferred,D1={target:= .fn (.func g) #[.pointer (some ⟨c,0,none⟩)],args:= #[]}:=⟨_,rfl⟩
  obtain⟨cL,aoy,aou,_⟩:=I.defers;rw[bS]at aoy;have bd:(execOp i.eval o1).run C.P N= .ok (.value (.func (.func g) #[] #[.pointer (some ⟨c,0,none⟩)])) N:=by simp[execOp,bu,Instr.makeFunc,ae]
  have b9:(i.put (some R) (.func (.func g) #[] #[.pointer (some ⟨c,0,none⟩)])).eval (.tmp R)= .func (.func g) #[] #[.pointer (some ⟨c,0,none⟩)]:=by
   rw[sW,if_pos ⟨rfl,by rw[I.size];exact ct⟩]
  have bh:(execOp (i.put (some R) (.func (.func g) #[] #[.pointer (some ⟨c,0,none⟩)])).eval o2).run C.P N= .ok (.defer D1) N:=by
   simp[execOp,bv,resolve,aol,am5,b9,Deferred.ofValue,a6]
  refine wpIn_seq (F:=RF none) (wpIn_region (F:=RF none) ?_)
  show wpOpsIn (RF none) 0 C.P [o1,o2].toArray _ [0,1] i N
  have cA:Region.wanted o1 (yielded [o1,o2].toArray i.tmps)=true:=by simp[Region.wanted,cc]
  have cC:∀a:Act,Region.wanted o2 (yielded [o1,o2].toArray a.tmps)=true:=fun a=>by simp[Region.wanted,ce]
  simp only[wpOpsIn,b4,bN,List.getElem?_cons_succ,cA,cC,if_true];refine⟨fun _ _=>trivial,?_⟩;rw[show Oper.semAt (RF none).round i.eval o1=execOp i.eval o1 from rfl,bd];simp only[Oper.uponIn_value,b6];refine⟨fun _ _=>trivial,?_⟩;rw[show Oper.semAt (RF none).round (i.put (some R) (.func (.func g) #[] #[.pointer (some ⟨c,0,none⟩)])).eval o2=execOp (i.put (some R) (.func (.func g) #[] #[.pointer (some ⟨c,0,none⟩)])).eval o2 from rfl,bh];simp only[Oper.uponIn_defer,b7]
  show(Code.wpIn (RF none) 0 C.P c2 (bodyPostM (RF none) 0 C.P fn fun e w'=>Fin C X w M E K KP w' e)) {i.put (some R) (.func (.func g) #[] #[.pointer (some ⟨c,0,none⟩)])with defers:=D1::i.defers} N
  have cg:InS C X1 ⟨N.heap.size,D1::i.defers,false,some (te, .pointer (some ⟨c,0,none⟩))⟩ n ⟨(R, .dead)::s1.env,s1.mem⟩ {i.put (some R) (.func (.func g) #[] #[.pointer (some ⟨c,0,none⟩)])with defers:=D1::i.defers} N E1:=
   {sim:=I.sim
    size:=by simp[Act.put,I.size]
    defers:=Dp
    fix:=fun q hq=>by
     cases hq
     show(i.put (some R) _).eval (.tmp te)=_
     rw[sW,if_neg fun hh=>cw hh.1];exact ae
    env:=fun t=>by
     show Rep _ _ _ _ ((i.put (some R) _).eval (.tmp t)) _
     rw[sW];simp only[look]
     by_cases ht:R=t
     ·subst ht;simp only[beq_self_eq_true,cond_true];exact .dead
     ·have h1:(R==t)=false:=by simp[ht]
      have h2:¬(t=R/\R<i.tmps.size):=fun hh=>ht hh.1.symm
      simp only[h1,cond_false,if_neg h2];exact I.env t}
  refine wpIn_mono (F:=RF none) (AP hm c2 bk (ao _) (ao _) apL none (D1::i.defers) false (some (te, .pointer (some ⟨c,0,none⟩))) _ _ _ N E1 (fun q hq=>by cases hq;exact cn) (.inl rfl) (fun e=>by cases e) b2 cp cg (.refl _ _ _)) fun e a2 w2 U=> ?_
  have hD:∀(u u':FrameMode) (X2:Nat->Prop) (j:World) (o:Mem) (m:Emb) (d:DV) (v:Value),u≠ .run->(∀b,X1 b->X2 b)->Sim C X2 j o m->From N s1.mem E1 j o m->bU j (away X2 o m) v d->okM w.heap.size X2 i.defers j->
    (∀(O:Frame) (cs:List Frame),O.mode=u->(∃z,(recoverD (O::cs)=some (v,z)/\z={O with mode:=u'}::cs))\/(recoverD (O::cs)=none/\v= .nilIface/\u'=u))->settle u'= .returning->
    pwp C o.boxes.length o.aF.length aw (D6 te b K) ⟨[(0, .ptr b 0),(t5, .d d)],o⟩->
    ∀Me:Array Value,(Me.getD te undef= .pointer (some ⟨c,0,none⟩))->LeavesInM Fence.wide 0 C.P fn Me (fun e w'=>Fin C X w M E K KP w' e) (D1::i.defers) u j:=by
   intro u u' X2 j o m d v hu k ax a7 bc PY bB bL ahp Me cz;have apk:From w M E j o m:=br.trans a7;refine⟨hu, .inr ⟨fun h=>by simp[Fence.wide]at h, .func g, #[.pointer (some ⟨c,0,none⟩)],g, #[.pointer (some ⟨c,0,none⟩)],by rw[a6],by rw[a6];simp[invoke,uY a9],fun _ _=>trivial,?_⟩⟩;refine callsDIn_of_wpSIn (F:=Fence.wide) apB am2 trivial fun O cs aq=> ?_
   unfold JV at av
   split at av
   case h_2=>cases av
   rename_i r alV
   simp only[ab,beq_iff_eq,bz]at av;obtain⟨⟨cf,bq⟩,aL⟩:=av;obtain⟨ah1,rfl⟩:∃l:List Oper,ah1=l.toArray:=⟨ah1.toList,by simp⟩
   simp only at alV;subst alV
   split at aL
   case h_2=>cases aL
   rename_i clr apN
   simp only[ab,bA]at aL;obtain⟨bp,aon⟩:=aL
   split at bp
   case h_2=>cases bp
   rename_i alT
   have aoG:∀a:Act,(execOp a.eval r).run C.P j= .ok .recover j:=fun a=>by
    obtain⟨cal,cF,cG⟩:=clr;simp only at alT aon;subst alT aon;simp[execOp,apN,resolve,invoke]
    rfl
   obtain⟨a3,az⟩:∃a3:Act,a3={tmps:= #[.pointer (some ⟨c,0,none⟩)]++bR (ac.ntmps - #[Value.pointer (some ⟨c,0,none⟩)].size) undef,defers:=[]}:=⟨_,rfl⟩
   rw[<-az];have a0:a3.tmps.size=n1:=by rw[az];simp;omega
   have bl:∀z,z={O with mode:=u'}::cs->Code.wpSIn Fence.wide 0 C.P c3 (bodyPostS C.P ac O cs fun e u' w'=>match e with
     | .returned _=>LeavesInM Fence.wide 0 C.P fn Me (fun e w'=>Fin C X w M E K KP w' e) i.defers (settle u') w'
     | .panicked chain=>LeavesInM Fence.wide 0 C.P fn Me (fun e w'=>Fin C X w M E K KP w' e) i.defers (raised u' chain) w'
     | .outgrown=>Fin C X w M E K KP w' .outgrown) (a3.put (some t5) v) z j:=by
    rintro z rfl;refine wpSIn_of_wpIn rfl ?_;have cj:InS C X2 ⟨j.heap.size,[],true,none⟩ n1 ⟨[(0, .ptr b 0),(t5, .d d)],o⟩ (a3.put (some t5) v) j m:=
     {sim:=ax
      size:=by simp[Act.put,a0]
      fix:=fun _ h=>by cases h
      defers:=by
       have:(a3.put (some t5) v).defers=[]:=by rw[az];rfl
       rw[this];exact Dp
      env:=fun t=>by
       rw[sW,a0];simp only[look]
       by_cases bO:0=t
       ·subst bO
        have:¬(0=t5/\t5<n1):=fun hh=>by omega
        rw[if_neg this];simp only[beq_self_eq_true,cond_true];have e0:a3.eval (.tmp 0)= .pointer (some ⟨c,0,none⟩):=by
         rw[az];simp only[Act.eval,bo];rw[be (by simp)]
         rfl
        rw[e0];exact(ae7.from a7).Xl
       ·have h0:(0==t)=false:=by simp[bO]
        simp only[h0,cond_false]
        by_cases aoI:t5=t
        ·subst aoI
         rw[if_pos ⟨rfl,cv⟩];simp only[beq_self_eq_true,cond_true];exact .d bc
        ·have h5:(t5==t)=false:=by simp[aoI]
         simp only[h5,cond_false];exact .dead}
    have:=AP hm c3 aw (nb:=o.boxes.length) (na:=o.aF.length) (M₀:=o) (E₀:=m) (w₀:=j) (ao _) (ao _) (kW bw) none [] true none _ _ _ j m (fun _ h=>by cases h) (.inl rfl) (fun _=>bw) b3 ahp cj (.refl _ _ _);refine wpIn_mono (F:=RF none) this fun e a4 w4 V=> ?_
    have a5:∀(X4:Nat->Prop) (L:St) (Z:Emb),(∀b,X2 b->X4 b)->D6 te b K .normal L->InS C X4 ⟨j.heap.size,[],true,none⟩ n1 L a4 w4 Z->From j o m w4 L.mem Z->
      a4.defers=[]/\∃u2,({O with mode:=u'}::cs:List Frame)={O with mode:=u2}::cs/\∃v,(results ac a4.tmps).run C.P w4= .ok v w4/\LeavesInM Fence.wide 0 C.P fn Me (fun e w'=>Fin C X w M E K KP w' e) i.defers (settle u2) w4:=by
     intro X4 L Z W A T H;obtain⟨cM,apE,_,apy⟩:=T.defers;have b8:a4.defers=[]:=by rw[apE,apy rfl];rfl
     refine⟨b8,u',rfl,?_⟩;have cq:(results ac a4.tmps).run C.P w4= .ok (.tuple #[]) w4:=by
      rw[S9];have:ac.results= #[]:=by simpa using aoF
      rw[this];simp
     refine⟨_,cq,?_⟩;rw[bL];have aov:okM w.heap.size X4 i.defers w4:=by
      refine⟨fun d hd=> ?_,PY.2⟩;obtain⟨D,Q,Y,q3,q4⟩:=PY.1 d hd;exact⟨D,Q,Y,W _ q3,H.keep _ _ (fun ho=>ax.Jh ho q3) q4⟩
     have bX:From w M E w4 L.mem Z:=apk.trans H;rw[<-bS i.defers];refine pq (by simp) aov fun w5 y=> ?_
     obtain⟨Q,Y,q3⟩:=Gm T.sim aM bX aov y;have aoD:Rep w5 (away X4 L.mem Z) L.mem Z (.pointer (some ⟨c,0,none⟩)) (.ptr b 0):=(((ae7.from a7).Xl (O':=away X2 o m) (w':=j)).from H).Xl;have ck:InS C X4 ⟨w5.heap.size,[],true,none⟩ Me.size ⟨[(te, .ptr b 0)],L.mem⟩ {tmps:=Me,defers:=[]} w5 Z:=
      {sim:=Q,size:=rfl,defers:=Dp,fix:=fun _ h=>by cases h
       env:=fun t=>by
        simp only[look]
        by_cases ht:te=t
        ·subst ht;simp only[beq_self_eq_true,cond_true]
         have:({tmps:=Me,defers:=[]}:Act).eval (.tmp te)= .pointer (some ⟨c,0,none⟩):=cz;rw[this];exact aoD
        ·have h1:(te==t)=false:=by simp[ht]
         simp only[h1,cond_false];exact .dead}
     have cr:oU [.cell te false 1] ⟨[(te, .ptr b 0)],L.mem⟩ (fun vs=>K (resV vs) L.mem):=by
      simp only[oU,look,beq_self_eq_true,cond_true,resV];exact A
     obtain⟨v5,cN,g1,g2,g3⟩:=Iw ck bE cr;have bt:∀b,X b->X4 b:=fun b hb=>W b (k b (cE b hb))
     exact⟨v5,g1,_,L.mem,Z,g2,Q.less bt hS.iW,Y,g3.less bt⟩
    cases e with
    |normal=>
     obtain⟨X4,L,Z,W,A,T,H⟩:=V;exact a5 X4 L Z W A T H
    |ret=>
     obtain⟨X4,L,Z,W,A,T,H⟩:=V;exact a5 X4 L Z W A T H
    |exit id=>obtain⟨_,_,_,_,B,_⟩:=V;exact B.elim
    |panic ch=>obtain⟨_,_,_,_,_,_,_,B,_⟩:=V;exact B.elim
    |goto l=>exact V.elim
    |outgrown=>exact V.elim
   refine wpSIn_seq (wpSIn_region ?_)
   show wpOpsSIn Fence.wide 0 C.P [r].toArray _ [0] a3 (O::cs) j
   have cD:Region.wanted r (yielded [r].toArray a3.tmps)=true:=by simp[Region.wanted,cf]
   simp only[wpOpsSIn,b4,bN,cD,if_true,aoG];refine⟨fun _ _=>trivial,?_⟩
   rcases bB O cs aq with⟨z,Q,Y⟩|⟨Q,Y,q3⟩
   ·rw[Q]
    simp only[bq];exact bl z Y
   ·rw[Q]
    simp only[bq];rw[<-Y];exact bl (O::cs) (by rw[q3,<-aq])
  have an:∀b,C.low b->b<N.heap.size:=fun b hb=>by have:=aM b hb;have:=br.size;omega
  have ap:∀(X2:Nat->Prop) (w2 j:World) (o:Mem) (m:Emb) (J:List Deferred),(∀b,X1 b->X2 b)->From N s1.mem E1 w2 o m->okM N.heap.size X2 J w2->Shut J w2 j->okM w.heap.size X2 i.defers j:=by
   intro X2 w2 j o m J k G PY y;rw[aoy];refine⟨fun d hd=> ?_,aou.2⟩;obtain⟨D,Q,Y,q3,q4⟩:=aou.1 d hd;refine⟨D,Q,Y,k _ q3,?_⟩;rw[y.keep D fun d' b5 B=> ?_]
   ·exact G.keep _ _ (fun ho=>I.sim.Jh ho q3) q4
   ·obtain⟨D',g1,g2,_,_⟩:=PY.1 d' b5
    rw[g1]at B
    injection B with B
    have:=dh q4;omega
  have ret:∀(X2:Nat->Prop) (s2:St) (m:Emb),(∀b,X1 b->X2 b)->pwp C s2.mem.boxes.length s2.mem.aF.length aw (D6 te b K) ⟨[(0, .ptr b 0),(t5, .d .nilIface)],s2.mem⟩->
    InS C X2 ⟨N.heap.size,D1::i.defers,false,some (te, .pointer (some ⟨c,0,none⟩))⟩ n s2 a2 w2 m->From N s1.mem E1 w2 s2.mem m->LeavesInM Fence.wide 0 C.P fn a2.tmps (fun e w'=>Fin C X w M E K KP w' e) a2.defers .returning w2:=by
   intro X2 s2 m k ahp ana G;obtain⟨J,ani,PY,_⟩:=ana.defers;rw[ani];refine pq (by simp) PY fun j y=> ?_
   obtain⟨Q,Y,q3⟩:=Gm ana.sim an G PY y;refine hD .returning .returning X2 j s2.mem m .nilIface .nilIface (by simp) k Q Y .nilIface (ap X2 w2 j s2.mem m J k G PY y) (fun O cs hm=> .inr ⟨by simp[recoverD,hm],rfl,rfl⟩) rfl ahp _ ?_;exact ana.fix _ rfl
  cases e with
  |normal=>obtain⟨X2,s2,m,k,h1,h2,h3⟩:=U;exact ret X2 s2 m k h1 h2 h3
  |ret=>obtain⟨X2,s2,m,k,h1,h2,h3⟩:=U;exact ret X2 s2 m k h1 h2 h3
  |exit id=>obtain⟨_,_,_,_,B,_⟩:=U;exact B.elim
  |goto l=>exact U.elim
  |outgrown=>exact U.elim
  |panic ch=>
   obtain⟨X2,v,d,o,m,k,rfl,ahp,ax,G,bc,⟨J,ani,PY,_⟩,bs⟩:=U
   show LeavesInM Fence.wide 0 C.P fn a2.tmps (fun e w'=>Fin C X w M E K KP w' e) a2.defers (.panicking [{v,recovered:=false}]) w2
   rw[ani];refine pq (by simp) PY fun j y=> ?_
   obtain⟨Q,Y,q3⟩:=Gm ax an G PY y;refine hD (.panicking [{v,recovered:=false}]) (.panicking [{v,recovered:=true}]) X2 j o m d v (by simp) k Q Y (bc.mono q3) (ap X2 w2 j o m J k G PY y) (fun O cs hm=> .inl ⟨_,by simp[recoverD,hm],rfl⟩) rfl ahp _ ?_;exact bs _ rfl
end
open Go.Sort
def ET:∀xs:List Int,flat (xs.map (DV.int .i64))=xs.map (DV.int .i64)
 | []=>rfl
 |x::xs=>by
  have:=ET xs;simp only[flat]at this⊢;simp only[bc,List.flatMap_cons,this]
  rfl
def SV {w:World}{O:Nat->Prop}:∀xs:List Int,bn w O (xs.map (Value.int .i64)) (xs.map (DV.int .i64))
 | []=> .nil
 |x::xs=> .cons (.int _ _) (SV xs)
def DL {w:World}{O:Nat->Prop}:∀{vs:List Value} {xs:List Int},bn w O vs (xs.map (DV.int .i64))->vs=xs.map (Value.int .i64)
 | _,[], .nil=>rfl
 | _,x::xs, .cons h t=>by
  cases h;rw[DL t]
  rfl
section
variable {C:Ctx}
def aly {ρ:Go.Shelf.Ren}(M:Go.Proofs.Lays.n189 C.P ρ){k ver:Nat}{zs:List Int}{bs:List (Option (List PV))}{fz:List Nat}{ar:List (Option Arr)}{K:PV->Mem->Prop}{KP:DV->Mem->Prop}
  (h:ar[k]?=some (some ⟨1,zs.map (DV.int .i64),ver,1⟩))(hz:zs≠[])(hl:zs.length<4611686018427387904)
  (S:K (.d (.tup [])) ⟨bs,fz,ar.set k (some ⟨1,(zs.mergeSort fun x y=>decide (x<=y)).map (DV.int .i64),ver,1⟩)⟩):SC C (ρ.f 189) [.tsl k ver 0] ⟨bs,fz,ar⟩ K KP:=by
 intro X w E L J Q;cases Q with|cons V W=>
 cases W;cases V with|tsl B hh=>
 obtain⟨_,m⟩:=hh _ h;obtain⟨ab,i,z⟩:=m rfl;obtain⟨s1,s2,s3,s4⟩:=J.arr k _ h;obtain⟨q,F⟩:=s3 rfl;rw[F]at i;cases i;obtain⟨a,o,e⟩:=q;obtain⟨hX,vs,T,g2,N,g4,v⟩:=s4 a o e F;obtain⟨_,z⟩:=z
 rcases z with⟨I,U,_,_⟩|⟨O,_⟩
 case inr=>exact absurd (by simpa using O) hz
 cases U;simp only[Y,cD]at N v;rw[ET]at v;have g:=DL v;have R:Holds (Value.int .i64) w a o zs.toArray:=by
  intro j u;have c:j<zs.length:=by simpa using u
  have m:vs[o+j]?=some (.int .i64 zs[j]):=by
   have:=congrArg (fun l=>l[j]?) g;simp only[cb,c,if_true,b9,b3,bd,an c,Option.map_some]at this;exact this
  refine⟨?_,?_⟩
  ·rw[cell_of_row w a (o+j) vs T.ty T.fr g2,m]
   simp[c]
  ·have B:o+j<vs.size:=(Array.getElem?_eq_some_iff.1 m).1
   obtain⟨ty,⟨f1,f2⟩,D⟩:=T;simp only at D g2;simp[World.frozen?,g2];intro hh;omega
 have p:a<w.heap.size:=dh g2;simp only[Y,cB,Nat.zero_mul,Nat.add_zero];refine(Go.Proofs.Any.slices_Sort_int M a o _ zs w R p hl).mono ?_;rintro en w' ⟨rfl,n,os,rfl⟩;generalize H:(zs.mergeSort fun x y=>decide (x<=y))=ss at*;have G:ss.length=zs.length:=by rw[<-H,List.length_mergeSort]
 have Z:Wrote a w (putRow (Value.int .i64) (Go.Sort.ahead w n) a o ss.toArray) (putCells (Value.int .i64) o ss.toArray vs).toList T.ty T.fr:=
  {os:=rfl
   tape:=rfl
   output:=rfl
   size:=by simp[putRow,mapBlock,Go.Sort.ahead]
   at_:=by simp[putRow,mapBlock,Go.Sort.ahead,b0,g2,onCells]
   keep:=fun b A=>by simp[putRow,mapBlock,Go.Sort.ahead,b0,Ne.symm A]}
 have s:((putCells (Value.int .i64) o ss.toArray vs).toList.drop o).take zs.length=ss.map (Value.int .i64):=by
  apply List.ext_getElem?;intro j;rw[cb,b9,b3,bd]
  by_cases u:j<zs.length
  ·rw[if_pos u]
   have c:j<ss.length:=by omega
   have m:o+j<vs.size:=by omega
   simp[putCells,m,c]
  ·rw[if_neg u,List.getElem?_eq_none (by omega)];rfl
 have t:=acE (el:=ss.map (DV.int .i64)) J h rfl F g2 (by simp[G]) (by intro x hx;obtain⟨y,_,rfl⟩:=ax.1 hx;rfl) (by simp[putCells]) (by
  simp only[Y,cD];rw[ET,s];exact SV ss) Z
 have r:Later (putRow (Value.int .i64) (Go.Sort.ahead w n) a o ss.toArray) (grow (putRow (Value.int .i64) (Go.Sort.ahead w n) a o ss.toArray) os):=
  ⟨rfl,rfl,rfl,by simp[grow],fun b A=>by simp only[grow];rw[be A]⟩
 exact⟨_,_,E,S,t.1.later r,t.2.trans (r.from _ _), .d (.tup .nil)⟩
end
section
variable {C:Ctx}
def Qv {X:Nat->Prop}:∀b,away X cu ⟨[],[]⟩ b->X b:=by
 rintro b (h|⟨i,cs,h,_⟩|⟨k,A,o,e,h,_⟩)
 ·exact h
 ·simp[cu]at h
 ·simp[cu]at h
variable{f:FuncId}{ds:List DV}
def TF {Kr:DV->Prop}{Kp:DV->Prop}(h:SC C f (ds.map .d) cu (fun v M'=>∃x,datum M' v=some x/\Kr x.strip) (fun d _=>Kp d)){M:Mem}{K:PV->Mem->Prop}{KP:DV->Mem->Prop}
  (s:∀x,Kr x->K (.d x) M)(t:∀d,Kp d->KP d M):SC C f (ds.map .d) M K KP:=by
 intro X w E a i r;have k:∀b,C.low b->away X M E b:=fun b g=> .inl (i.iW b g)
 have q:∀b,away X M E b->b<w.heap.size:=fun b g=>i.yB g
 have n:aT w (away (away X M E) cu ⟨[],[]⟩) cu ⟨[],[]⟩ a (ds.map .d):=by
  refine aT.ofD ?_;have:bn w (away X M E) a ds:=aT.toL r;exact this.weaken Qv
 refine(h (away X M E) w ⟨[],[]⟩ a (LV i.glob k q) n).mono fun e w' o=> ?_
 cases e with
 |returned v=>
  obtain⟨p,M',E',⟨x,hd,z⟩,h2,l,m⟩:=o;have j:=l.GR;refine⟨.d x.strip,M,E,s _ z,i.later j,j.from M E, .d ?_⟩;exact((lJ (ps:=[p]) h2 m hd (by simp)).weaken fun b g=> .inl g).strip
 |panicked c=>
  obtain⟨v,d,M',E',u,y,h2,l,m⟩:=o;have j:=l.GR;exact⟨v,d,M,E,u,t _ y,i.later j,j.from M E,m.weaken fun b g=> .inl g⟩
 |outgrown=>exact o.elim
def rJ {r:DV}
  (h:∀(X:Nat->Prop) (w:World) (a:List Value),C.G w->(∀b,X b->b<w.heap.size)->bn w X a ds->Calls C.P f a.toArray w fun e w'=>∃v,e= .returned v/\Later w w'/\bU w' X v r):Pure C f ds (.d r) []:=by
 intro X w a g l i m;refine(h X w a g i m).mono fun e w' k=> ?_
 obtain⟨v,rfl,c,n⟩:=k;have j:Sim C X w cu ⟨[],[]⟩:=LV g l i;exact⟨v,⟨[],[]⟩,rfl,j.later c,c.from _ _, .d (n.weaken Qv)⟩
end
section
variable {C:Ctx}{X:Nat->Prop}{w w':World}{M:Mem}{E E':Emb}
def ac9:DV->Bool
 | .int _ _=>true
 | .bool _=>true
 | .str _=>true
 | _=>false
def ahc {O O':Nat->Prop}:∀{cs:List DV} {vs:List Value},cs.all ac9=true->bn w O vs cs->bn w' O' vs cs
 | [],_,_, .nil=> .nil
 |c::cs,_,h, .cons a b=>by
  simp only[bE,ab]at h;refine .cons ?_ (ahc h.2 b);cases a<;>first|exact .int _ _|exact .bool _|exact .str _|(simp[ac9]at h)
def mg (A:Arr):Bool:=(A.st==1||(A.elems.isEmpty&&A.st !=2))&&(flat A.elems).all ac9
def QW:PV->Bool| .d x=>CV x| .tsl _ _ _=>true| _=>false
def abn:PV->Bool| .agg cs=>cs.all QW|p=>QW p
def YD:PV->Bool| .agg cs=>cs.all QW| .tup cs=>cs.all abn|p=>QW p
variable{rs:List Arr}{X1:Nat->Prop}
def G8 (f:Sim C X w M E)(h:Sim C X1 w' (rowsOf rs) E')(hf:From w cu ⟨[],[]⟩ w' (rowsOf rs) E')(g:rs.all mg=true):Sim C (away X M E) w' (rowsOf rs) E':=
 {glob:=h.glob,iW:=fun b c=> .inl (f.iW b c),xlt:=fun b c=>aR (f.yB c) hf.size,iP:=h.iP,bP:=h.bP
  box:=fun b cs c=>by simp[rowsOf]at c
  arr:=fun k A hA=>by
   obtain⟨h1,h2,h3,q⟩:=h.arr k A hA;have r:A∈rs:=by
    simp only[rowsOf,bd]at hA;cases j:rs[k]? with
    |none=>simp[j]at hA
    |some B=>rw[j]at hA;simp at hA;subst hA;exact b6 j
   have d:=aM.1 g A r;simp only[mg,ab]at d;have hst:A.st≠2:=by
    intro e
    rcases bl.1 d.1 with h|h
    ·rw[e]at h;simp at h
    ·rw[e]at h;simp at h
   refine⟨h1,h2,h3,fun a o e l=> ?_⟩;obtain⟨t,vs,T,g2,g3,g4,p⟩:=q a o e l;refine⟨fun c=> ?_,vs,T,g2,g3,g4,ahc (by simpa using d.2) p⟩;have m:w.heap.size<=a:=by
    refine(hf.own a (.inr ⟨k,A,o,e,hA,hst,l⟩)).resolve_left ?_;rintro(⟨i,cs,h1,_⟩|⟨k,A,o,e,h1,_⟩)<;>simp[cu]at h1
   have:=f.yB c;omega
  bb:=fun b s cs n a h1=>by simp[rowsOf]at h1
  aa:=h.aa
  ba:=fun b k cs A a o e h1=>by simp[rowsOf]at h1}
variable{X2:Nat->Prop}
def Jl (h:Sim C X1 w' (rowsOf rs) E')(g:rs.all mg=true){v:Value}{p:PV}(n:QW p=true)(r:Rep w' (away X1 (rowsOf rs) E') (rowsOf rs) E' v p):Rep w' (away X2 (rowsOf rs) E') (rowsOf rs) E' v p:=by
 cases p with
 |d x=>exact .d (YE n r.toD)
 |tsl k ver skip=>
  cases r with|tsl j hh=>
  refine .tsl j fun A a=> ?_
  obtain⟨w,y⟩:=hh A a;refine⟨w,fun e=> ?_⟩;obtain⟨c,s,z,f⟩:=y e;refine⟨c,s,z,?_⟩;cases c with
  |some q=>exact f
  |none=>
   have u:A∈rs:=by
    simp only[rowsOf,bd]at a;cases i:rs[k]? with
    |none=>simp[i]at a
    |some B=>rw[i]at a;simp at a;subst a;exact b6 i
   have b:=aM.1 g A u;simp only[mg,ab]at b
   rcases bl.1 b.1 with h1|h1
   ·simp only[beq_iff_eq]at h1
    obtain⟨q,o⟩:=(h.arr k A a).2.2.1 h1;rw[s]at o;cases o
   ·simp only[ab,List.isEmpty_iff]at h1
    have t:A.elems.drop skip=[]:=by rw[h1.1];simp
    simp only at f⊢;rw[t]at f⊢;cases f with
    |empty l=>exact .empty l
    |slice D F m G E l hh=>
     simp only[bX]at m;subst m;exact .empty l
 | _=>simp[QW]at n
def Gg {rs:List Arr}{X1 X2:Nat->Prop}(h:Sim C X1 w' (rowsOf rs) E')(a:rs.all mg=true):∀{vs:List Value} {ps:List PV},ps.all QW=true->aT w' (away X1 (rowsOf rs) E') (rowsOf rs) E' vs ps->aT w' (away X2 (rowsOf rs) E') (rowsOf rs) E' vs ps
 | _,_,_, .nil=> .nil
 | _,_,b, .cons c d=>by
  simp only[bE,ab]at b;exact .cons (Jl h a b.1 c) (Gg h a b.2 d)
def acv (h:Sim C X1 w' (rowsOf rs) E')(a:rs.all mg=true){v:Value}{p:PV}(b:abn p=true)(c:Rep w' (away X1 (rowsOf rs) E') (rowsOf rs) E' v p):Rep w' (away X2 (rowsOf rs) E') (rowsOf rs) E' v p:=by
 cases p with
 |agg cs=>cases c with|agg hh=>exact .agg (Gg h a b hh)
 | _=>exact Jl h a b c
def Pv {rs:List Arr}{X1 X2:Nat->Prop}(h:Sim C X1 w' (rowsOf rs) E')(a:rs.all mg=true):∀{vs:List Value} {ps:List PV},ps.all abn=true->aT w' (away X1 (rowsOf rs) E') (rowsOf rs) E' vs ps->aT w' (away X2 (rowsOf rs) E') (rowsOf rs) E' vs ps
 | _,_,_, .nil=> .nil
 | _,_,b, .cons c d=>by
  simp only[bE,ab]at b;exact .cons (acv h a b.1 c) (Pv h a b.2 d)
def VP (h:Sim C X1 w' (rowsOf rs) E')(a:rs.all mg=true){v:Value}{p:PV}(b:YD p=true)(c:Rep w' (away X1 (rowsOf rs) E') (rowsOf rs) E' v p):Rep w' (away X2 (rowsOf rs) E') (rowsOf rs) E' v p:=by
 cases p with
 |agg cs=>cases c with|agg hh=>exact .agg (Gg h a b hh)
 |tup cs=>cases c with|tup hh=>exact .tup (Pv h a b hh)
 | _=>exact Jl h a b c
def Z5 {f:FuncId}{args:List PV}{ds ds':List DV}{r:PV}(h:Pure C f ds' r rs)(x:YD r=true)(c:rs.all mg=true){K:PV->Mem->Prop}{KP:DV->Mem->Prop}
  (l:dL M args=some ds)(m:ds.map DV.strip=ds')(s:K (r.shift M.aF.length) {M with aF:=M.aF++rs.map some}):SC C f args M K KP:=by
 subst m;intro X w E j a p;have k:=nT a args;have hd:=(wu a p l (fun q u=>u)).strip;refine(h (away X (M.frz args) E) w j a.glob (fun b g=> .inl (a.iW b g)) (fun b g=>k.yB g) hd).mono fun e w' m=> ?_
 obtain⟨v,E',rfl,d,o,y⟩:=m;have n:∀A∈rs,A.st≠2:=fun A t e=>by
  have i:=aM.1 c A t;simp only[mg,ab]at i
  rcases bl.1 i.1 with h|h
  ·rw[e]at h;simp at h
  ·rw[e]at h;simp at h
 obtain⟨z,B,D⟩:=Gn a (G8 a d o c) o n;exact⟨_,_,_,s,z,B,NI a.bP (fun b g=>(D b).1 g) (VP d c x y)⟩
end
def FzB (M:Mem):Prop:=∀i∈M.fz,i<M.boxes.length
structure Kept (n:Nat) (own wJ:Nat->Prop) (M M':Mem):Prop where
 len:M.boxes.length<=M'.boxes.length
 bP:M.aF.length<=M'.aF.length
 box:∀i,(n<=i\/own i)->i<M.boxes.length->M'.boxes[i]?=M.boxes[i]?
 fz:∀i,(n<=i\/own i)->i<M.boxes.length->(i∈M'.fz↔i∈M.fz)
 row:∀k,wJ k->M'.aF[k]?=M.aF[k]?
 fzb:FzB M->FzB M'
structure Moved (n:Nat) (own:Nat->Prop) (M M':Mem):Prop where
 len:M.boxes.length<=M'.boxes.length
 box:∀i,i<n->¬own i->M'.boxes[i]?=M.boxes[i]?
 fz:∀i,i<n->¬own i->(i∈M'.fz↔i∈M.fz)
 aF:M'.aF=M.aF
 fzb:FzB M->FzB M'
def Kept.refl {n:Nat}{own wJ:Nat->Prop}(M:Mem):Kept n own wJ M M:=⟨ao _,ao _,fun _ _ _=>rfl,fun _ _ _=>cw,fun _ _=>rfl,id⟩
def Kept.trans {n:Nat}{own wJ:Nat->Prop}{M M' a:Mem}(h:Kept n own wJ M M')(h':Kept n own wJ M' a):Kept n own wJ M a:=
 ⟨bq h.len h'.len,bq h.bP h'.bP,fun i b c=>(h'.box i b (aR c h.len)).trans (h.box i b c),fun i b c=>(h'.fz i b (aR c h.len)).trans (h.fz i b c),fun k d=>(h'.row k d).trans (h.row k d),fun e=>h'.fzb (h.fzb e)⟩
def Moved.trans {n:Nat}{own:Nat->Prop}{M M' a:Mem}(h:Moved n own M M')(h':Moved n own M' a):Moved n own M a:=
 ⟨bq h.len h'.len,fun i b c=>(h'.box i b c).trans (h.box i b c),fun i b c=>(h'.fz i b c).trans (h.fz i b c),h'.aF.trans h.aF,fun d=>h'.fzb (h.fzb d)⟩
variable{M M':Mem}
def Moved.less {n m:Nat}{own a:Nat->Prop}(h:Moved n own M M')(d:m<=n)(ho:∀i,i<m->own i->a i):Moved m a M M':=
 ⟨h.len,fun i b c=>h.box i (aR b d) fun h=>c (ho i b h),fun i b c=>h.fz i (aR b d) fun h=>c (ho i b h),h.aF,h.fzb⟩
def Moved.ext {n:Nat}{own:Nat->Prop}{bs xb:List (Option (List PV))}{fz xf:List Nat}{ar:List (Option Arr)}(c:n<=bs.length)(hx:∀i∈xf,n<=i/\i<bs.length+xb.length):Moved n own ⟨bs,fz,ar⟩ ⟨bs++xb,xf++fz,ar⟩:=
 ⟨by simp,fun i a _=>by rw[aL (aR a c)],fun i a _=>by
  simp only[bj];exact⟨fun h=>h.elim (fun h=>absurd (hx i h).1 (by omega)) id, .inr⟩,rfl,fun b i a=>by
  simp only[az]
  rcases bj.1 a with h|h
  ·exact(hx i h).2
  ·have:=b i h;simp only at this;omega⟩
def FzB.set {M:Mem}{i:Nat}{x:Option (List PV)}(h:FzB M):FzB {M with boxes:=M.boxes.set i x}:=fun j a=>by simpa using h j a
def Moved.set {n:Nat}{own:Nat->Prop}{M:Mem}{i:Nat}{x:Option (List PV)}(hi:n<=i\/own i):Moved n own M {M with boxes:=M.boxes.set i x}:=
 ⟨by simp,fun j b a=>by
  have:i≠j:=by rintro rfl;exact hi.elim (fun h=>by omega) a
  simp[this],fun _ _ _=>cw,rfl,fun h=>h.set⟩
def Kept.set {n:Nat}{own wJ:Nat->Prop}{M:Mem}{i:Nat}{x:Option (List PV)}(hi:i<n)(ho:¬own i):Kept n own wJ M {M with boxes:=M.boxes.set i x}:=
 ⟨by simp,ao _,fun j a _=>by
  have:i≠j:=by rintro rfl;exact a.elim (fun h=>by omega) ho
  simp[this],fun _ _ _=>cw,fun _ _=>rfl,fun h=>h.set⟩
def Kept.set2 {n:Nat}{own wJ:Nat->Prop}{i:Nat}{x:Option (List PV)}(h:Kept n own wJ M M')(hi:i<n)(ho:¬own i):Kept n own wJ M {M' with boxes:=M'.boxes.set i x}:=h.trans (.set hi ho)
section
variable {C:Ctx}
variable{f:FuncId}{ds:List DV}
def bG {x:DV}(h:SC C f (ds.map .d) cu (fun p M=>datum M p=some x) (fun _ _=>False)):Pure C f ds (.d x) []:=by
 intro X w a l n s r;refine(h X w ⟨[],[]⟩ a (LV l n s) (aT.ofD (r.weaken Gx))).mono fun e w' g=> ?_
 cases e with
 |returned v=>
  obtain⟨p,M',E',hd,h2,j,k⟩:=g;have i:zf M' []:=⟨fun q o=>(by cases o),List.nodup_nil⟩
  exact⟨v,_,rfl,XD h2 i,QZ j i, .d ((lJ (ps:=[p]) h2 k hd (by simp)).weaken fun b m=> .inl (Gx b m))⟩
 |panicked c=>
  obtain⟨v,d,M',E',_,hh,_⟩:=g;exact hh.elim
 |outgrown=>exact g.elim
def Jv (M:Mem)(p:PV)(sz:Nat)(xs:List DV)(st:Nat):Prop:=∃k ver,p= .tsl k ver 0/\M.aF[k]?=some (some ⟨sz,xs,ver,st⟩)
def Jv.datum {M:Mem}{p:PV}{sz st:Nat}{xs:List DV}(h:Jv M p sz xs st):Go.Am.datum M p=some (.slice false xs):=by
 obtain⟨k,ver,rfl,h⟩:=h;simp[Go.Am.datum,Mem.row,h]
def Po {sz st:Nat}{xs:List DV}(a:SC C f (ds.map .d) cu (fun p M=>Jv M p sz xs st) (fun _ _=>False)):Pure C f ds (.tsl 0 0 0) [⟨sz,xs,0,st⟩]:=by
 refine DC (SC.mono a fun p M h=> ?_);obtain⟨k,ver,rfl,h⟩:=h;refine⟨[(k,0)],⟨fun q b=>by simp only[bt]at b;subst b;simp[Ah,h],by simp⟩,?_,?_⟩
 ·simp[ren,SS,Mem.row,h,LG]
 ·simp[mkRow,h]
end
def UF (C:Ctx)(g:FuncId)(fs cs:List PV)(xs:List (List DV))(own f wJ:Nat->Prop)(st:Mem->Prop):Prop:=
 ∀(M:Mem) (b n:Nat) (R:List (List DV)->Mem->Prop) (stop:Mem->Prop) (K:PV->Mem->Prop) (KP:DV->Mem->Prop),b<n->¬own b->n<=M.boxes.length->(∀i∈M.fz,i<M.boxes.length)->st M->
  (∀pre a e,Moved n f a e->R pre a->R pre e)->
  (∀pre x c a,xs=pre++x::c->n<=a.boxes.length->R pre a->
   SY C b (x.map .d) a (fun p M'=>Kept n own wJ a M'/\((p= .d (.bool true)/\R (pre++ [x]) M')\/(p= .d (.bool false)/\stop M'))) KP)->
  R [] M->(∀p M',stop M'->K p M')->(∀p M',n<=M'.boxes.length->R xs M'->K p M')->SC C g (fs++ [.qg b]++cs) M K KP
variable{off:Nat}{ps:List (Nat×Nat)}{vs:List PV}
def WQ {cs:List PV}{p:PV}(h1:p.cells=[p])(h2:p.uz=false)(h:off+1<=cs.length):mQ cs ((off,1)::ps) (p::vs)=mQ (splice cs off [p]) ps vs:=by
 simp[mQ,h1,h2,h]
def aeX {cs:List PV}{k v s:Nat}(h:off+1<=cs.length):mQ cs ((off,1)::ps) (.tsl k v s::vs)=mQ (splice cs off [.tsl k v s]) ps vs:=WQ rfl rfl h
variable{b o:Nat}
def aeW {cs:List PV}(h:off+1<=cs.length):mQ cs ((off,1)::ps) (.ptr b o::vs)=mQ (splice cs off [.ptr b o]) ps vs:=WQ rfl rfl h
def I8 {cs:List PV}(h:off+1<=cs.length):mQ cs ((off,1)::ps) (.mref b::vs)=mQ (splice cs off [.mref b]) ps vs:=WQ rfl rfl h
def aeU {cs a:List PV}{off n:Nat}(h1:a.length=n)(h:off+n<=cs.length):mQ cs ((off,n)::ps) (.agg a::vs)=mQ (splice cs off a) ps vs:=by
 simp[mQ,PV.cells,PV.uz,h1,h]
variable{l:List PV}
def bI {k v s:Nat}:ji (.tsl k v s::l)=none:=rfl
def UH:ji (.mref b::l)=none:=rfl
def ig {cs:List PV}:PV.cells (.agg cs)=cs:=rfl
def Ko:PV.one (.mref b)=true:=rfl
def Jd {cs:List PV}:PV.uz (.agg cs)=false:=rfl
def oh:ji (.ptr b o::l)=none:=rfl
variable{fn:Fn}{f c:List PV}
def cells_func:PV.cells (.func fn f c)=[.func fn f c]:=rfl
def vY:PV.cells (.ptr b o)=[.ptr b o]:=rfl
def dX {k v s:Nat}:PV.cells (.tsl k v s)=[.tsl k v s]:=rfl
def aaZ:PV.cells (.qg b)=[.qg b]:=rfl
def YR:PV.uz (.qg b)=false:=rfl
def Rl:PV.uz (.ptr b o)=false:=rfl
def Zj:PV.one (.func fn f c)=true:=rfl
def GX:PV.one (.ptr b o)=true:=rfl
def fB {k v s:Nat}:PV.one (.tsl k v s)=true:=rfl
section
variable {C:Ctx}{nb na:Nat}{Q:Ex->St->Prop}
def wS (env:List (Nat×PV))(b:Nat)(L:Loop)(cells:List PV)(own wJ:Nat->Prop)(f:Mem)(c:Mem->Prop)(Q:Ex->St->Prop)(e:Ex)(s:St):Prop:=
 match e with
 | .normal=>s.mem.boxes[b]?=some (some (.iK {L with state:= .busy,pending:=none}::cells))/\b∉s.mem.fz/\Kept (b+1) own wJ f s.mem/\c s.mem
 | .ret=>s.mem.boxes[b]?=some (some (.iK {L with state:= .busy,pending:=none}::cells))/\b∉s.mem.fz/\Kept (b+1) own wJ f s.mem/\∀a,Moved b (fun _=>False) s.mem a->Q .ret ⟨env,a⟩
 | .exit id=>s.mem.boxes[b]?=some (some (.iK {L with state:= .busy,pending:=none}::cells))/\b∉s.mem.fz/\Kept (b+1) own wJ f s.mem/\∀a,Moved b (fun _=>False) s.mem a->Q (.exit id) ⟨env,a⟩
 | .panic d=>Q (.panic d) ⟨[],s.mem⟩
def Rq {b:Nat}{own wJ:Nat->Prop}{c M':Mem}{x y:Option (List PV)}(hb:b<c.boxes.length)(ho:¬own b)(h:Kept (b+1) own wJ {c with boxes:=c.boxes.set b x} M'):Kept (b+1) own wJ c {M' with boxes:=M'.boxes.set b y}:=by
 have f:c.boxes.length<=M'.boxes.length:=by simpa using h.len
 refine⟨by simpa using h.len,h.bP,fun i d a=> ?_,fun i d a=>h.fz i d (by simpa using a),h.row,fun hb=>(h.fzb hb.set).set⟩;have e:b≠i:=by rintro rfl;exact d.elim (fun h=>by omega) ho
 have:=h.box i d (by simpa using a)
 simpa[e]using this
def sG {f:Opd}{ps keys:List Nat}{asg body:aA}{s:St}{g:FuncId}{fs cs:List PV}{xs:List (List DV)}{own G wJ:Nat->Prop}{st:Mem->Prop}(hit:UF C g fs cs xs own G wJ st)(M:∀i,G i->own i)(hv:akc (s.val f)=some (g,fs,cs))(hc:callable C.P g=true)
  (E8:∀i∈s.mem.fz,i<s.mem.boxes.length)(N:∀x∈xs,x.length=ps.length)(c:∀i,own i->i<s.mem.boxes.length)(B:∀M',Moved s.mem.boxes.length (fun _=>False) s.mem M'->st M')
  (I:List (List DV)->Mem->Prop)(w:∀pre a j,Moved s.mem.boxes.length G a j->I pre a->I pre j)(Y:I [] s.mem)
  (hb:∀(L:Loop) (cells:List PV) (pre:List (List DV)) (x:List DV) (m:List (List DV)) (a:Mem),xs=pre++x::m->s.mem.boxes.length<a.boxes.length->
   a.boxes[s.mem.boxes.length]?=some (some (.iK {L with state:= .busy,pending:=none}::cells))->s.mem.boxes.length∉a.fz->I pre a->∀R:Mem,
   pwp C nb na asg (fun e O=>e= .normal/\O.mem=R/\pwp C nb na body (wS s.env s.mem.boxes.length L cells own wJ a (I (pre++ [x])) Q) ⟨O.env,a⟩) ⟨ps.zip (x.map .d)++jf s.env keys,R⟩)
  (S:∀a,I xs a->s.mem.boxes.length<a.boxes.length->Q .normal ⟨s.env,a⟩):
  pwp C nb na (.uQ f ps keys asg body) Q s:=by
 have u:s.mem.boxes.length∉s.mem.fz:=fun h=>Nat.lt_irrefl _ (E8 _ h)
 refine⟨g,fs,cs,hv,hc,u,fun L hL mD=> ?_⟩;generalize H:(ct L.tmps.size).map (look s.env)=cells at mD⊢;obtain⟨b,l⟩:∃b,b=s.mem.boxes.length:=⟨_,rfl⟩
 rw[<-l]at mD u E8 c B w hb S⊢;have z:Moved b (fun _=>False) s.mem (iQ s.mem L .ready none cells [] [] []):=by
  rw[l];refine⟨by simp[iQ],fun i v _=> ?_,fun i v _=>by simp[iQ],by simp[iQ],fun hb i v=> ?_⟩
  ·simp only[iQ]
   rw[aL v]
  ·have:=hb i (by simpa[iQ]using v)
   simp[iQ];omega
 have A:(iQ s.mem L .ready none cells [] [] []).boxes[b]?=some (some (.iK {L with state:= .ready,pending:=none}::cells)):=by rw[l];exact Xg
 have k:∀(e:Ex) (st:LoopState) (F:Option Code) (M':Mem),M'.boxes[b]?=some (some (.iK {L with state:=st,pending:=F}::cells))->st≠ .busy->b∉M'.fz->
   (match F with|none=>e= .normal|some .ret=>e= .ret|some (.exit id)=>e= .exit id| _=>False)->(∀j,Moved b (fun _=>False) M' j->Q e ⟨s.env,j⟩)->afterLoop Q s.env b L M':=by
  intro e st F M' h1 h2 r t Z;refine⟨st,F,cells,h1,h2,r,?_⟩;have J:∀x,Q e ⟨s.env,{M' with boxes:=M'.boxes.set b x}⟩:=fun x=>Z _ (Moved.set (.inl (ao _)))
  match F,t with
  |none,t=>subst t;exact J _
  |some .ret,t=>subst t;exact J _
  |some (.exit id),t=>subst t;exact J _
 refine hit _ b (b+1) (fun pre a=>a.boxes[b]?=some (some (.iK {L with state:= .ready,pending:=none}::cells))/\b∉a.fz/\I pre a)
  (fun M'=>afterLoop Q s.env b L M') _ _ (by omega) (fun h=>by have:=c _ h;omega) (by rw[l];simp[iQ]) (fun i v=>by simp only[iQ,a8,az,a7,bX]at v⊢;have:=E8 i v;rw[<-l];omega) (B _ z) ?_ ?_ ⟨A,by simpa[iQ]using u,w _ _ _ (z.less (ao _) fun _ _ h=>h.elim) Y⟩ (fun _ _ h=>h) ?_
 ·rintro pre a j n ⟨h1,h2,r⟩
  have y:¬G b:=fun h=>by have:=c _ (M _ h);omega
  exact⟨by rw[n.box b (by omega) y];exact h1,fun h=>h2 ((n.fz b (by omega) y).1 h),w _ _ _ (n.less (by omega) fun _ _ h=>h) r⟩
 ·rintro pre x m a T hl ⟨h1,h2,r⟩
  have y:¬own b:=fun h=>by have:=c _ h;omega
  refine mD x _ _ a (N x (by rw[T];simp)) h1 h2 ?_;have K:=hb L cells pre x m {a with boxes:=a.boxes.set b (some (.iK {L with state:= .busy,pending:=none}::cells))} T (by simp only[cn];omega) (by rw[ck];simp;omega) h2 (w _ _ _ (Moved.set (.inl (ao _))) r) a;refine oQ ?_ K;rintro e O ⟨V,W,X⟩;refine⟨V,W,oQ ?_ X⟩;intro U s2 h;cases U with
  |normal=>
   obtain⟨o,q,D,E⟩:=h;refine⟨cells,o,q,Rq (by omega) y D, .inl ⟨rfl,?_,q,w _ _ _ (Moved.set (.inl (ao _))) E⟩⟩;have:=(ai.1 o).1;simp[this]
  |ret=>
   obtain⟨o,q,D,E⟩:=h;refine⟨cells,o,q,Rq (by omega) y D, .inr ⟨rfl,k .ret .done (some .ret) _ ?_ (by simp) q rfl fun j n=>E j ((Moved.set (.inl (ao _))).trans n)⟩⟩;have:=(ai.1 o).1;simp[this]
  |exit id=>
   obtain⟨o,q,D,E⟩:=h;refine⟨cells,o,q,Rq (by omega) y D, .inr ⟨rfl,k (.exit id) .done (some (.exit id)) _ ?_ (by simp) q rfl fun j n=>E j ((Moved.set (.inl (ao _))).trans n)⟩⟩;have:=(ai.1 o).1;simp[this]
  |panic d=>exact h
 ·rintro p a hl ⟨h1,h2,r⟩
  refine k .normal .ready none a h1 (by simp) h2 rfl fun j n=>S j (w _ _ _ (n.less (ao _) fun _ _ h=>h.elim) r) ?_
  have:=n.len;omega
end
end Go.Am
namespace Go.Tel
open Go.Am
namespace F
end F
namespace T
abbrev int:TypeId:=3
abbrev bool:TypeId:=4
abbrev string:TypeId:=9
abbrev bT:TypeId:=169
abbrev jm:TypeId:=173
abbrev rP:TypeId:=224
abbrev fM:TypeId:=263
abbrev bV:TypeId:=265
abbrev fF:TypeId:=267
abbrev eF:TypeId:=269
abbrev fO:TypeId:=271
abbrev MX:TypeId:=346
abbrev aeK:TypeId:=348
end T
noncomputable def C:Ctx:=
 {P:=Go.Proofs.Tryz.prog
  low:=fun b=>Go.Proofs.Tryz.prog.globalNamed "internal/strconv.uint64pow10" =some b
  G:=fun w=>Go.Lib.TabIs Go.Proofs.Tryz.prog w "internal/strconv.uint64pow10" .u64 Go.Lib.pow10Tab
  keeps:=fun w w' h hk=>by
   unfold Go.Lib.TabIs World.var? at h⊢;cases hg:Go.Proofs.Tryz.prog.globalNamed "internal/strconv.uint64pow10" with
   |none=>rw[hg]at h;exact h
   |some g=>
    rw[hg]at h;simp only[Option.bind_some]at h⊢;rw[hk g hg];exact h}
def mixed:C.P.follows .mixedOrders=true:=by kernel_rfl
variable{f:FuncId}{ds:List DV}
def nI {r:PV}{ls:List Arr}(pc:aA)(rs:List jB)(h:pwp C 0 0 pc (Ul rs (fun p M=>∃L,zf M L/\ren M L p=r/\L.map (mkRow M)=ls) (fun _ _=>False)) ⟨vI 0 (ds.map .d),cu⟩)(hc:Oc C.P f (ds.map PV.d).length pc rs=true:=by kernel_rfl):Pure C f ds r ls:=Zz mixed rfl hc h
def ah {x:DV}(pc:aA)(rs:List jB)(h:pwp C 0 0 pc (Ul rs (fun p _=>p= .d x) (fun _ _=>False)) ⟨vI 0 (ds.map .d),cu⟩)(hc:Oc C.P f (ds.map PV.d).length pc rs=true:=by kernel_rfl):Pure C f ds (.d x) []:=Iq mixed rfl hc h
def aC {args:List PV}{M:Mem}{K:PV->Mem->Prop}{KP:DV->Mem->Prop}(pc:aA)(rs:List jB)(h:pwp C M.boxes.length M.aF.length pc (Ul rs K KP) ⟨vI 0 args,M⟩)(hc:Oc C.P f args.length pc rs=true:=by kernel_rfl):SC C f args M K KP:=NP mixed rfl hc h
end Go.Tel
namespace Go.Am
abbrev dI (n:Int):DV:= .int .i64 n
abbrev sF (l:List DV):DV:= .slice false l
abbrev pI (n:Int):PV:= .d (.int .i64 n)
end Go.Am
namespace Go.Tel
open Go.Am
abbrev kI (n:Int):Opd:= .c (.int .i64 n)
abbrev mv (d a:Nat):PO:=⟨some d, .mov,[.t a],none,0⟩
abbrev mk (d:Nat)(a:Opd):PO:=⟨some d, .mov,[a],none,0⟩
abbrev oa (d:Nat)(o:POp)(a:Nat):PO:=⟨some d,o,[.t a],none,0⟩
abbrev ob (d:Nat)(o:POp)(a b:Nat):PO:=⟨some d,o,[.t a, .t b],none,0⟩
abbrev oc (d:Nat)(o:POp)(a:Nat)(b:Opd):PO:=⟨some d,o,[.t a,b],none,0⟩
abbrev on (d:Nat)(o:POp)(l:List Opd):PO:=⟨some d,o,l,none,0⟩
abbrev of (d:Nat)(o:POp)(l:List Opd)(f:Nat):PO:=⟨some d,o,l,none,f⟩
abbrev ot (d:Nat)(o:POp)(l:List Opd)(g f:Nat):PO:=⟨some d,o,l,some (g,true),f⟩
abbrev oF (d:Nat)(o:POp)(l:List Opd)(g f:Nat):PO:=⟨some d,o,l,some (g,false),f⟩
abbrev lo (d a:Nat):PO:=⟨some d, .load false 1,[.t a],none,0⟩
abbrev os (o:POp)(l:List Opd)(f:Nat):PO:=⟨none,o,l,none,f⟩
abbrev rg (l:List PO)(n:Nat)(k:List Nat):aA:= .region false l n k []
abbrev ou (d:Nat)(o:POp)(a f:Nat):PO:=⟨some d,o,[.t a],none,f⟩
abbrev ov (d:Nat)(o:POp)(a g f:Nat):PO:=⟨some d,o,[.t a],some (g,true),f⟩
abbrev ow (d:Nat)(o:POp)(a g f:Nat):PO:=⟨some d,o,[.t a],some (g,false),f⟩
abbrev lv (d a:Nat):PO:=⟨some d, .load false 1,[.t a],none,1⟩
abbrev fa (d n a:Nat):PO:=⟨some d, .fld n,[.t a],none,0⟩
abbrev fu (d n a f:Nat):PO:=⟨some d, .fld n,[.t a],none,f⟩
abbrev lw (d n a:Nat):PO:=⟨some d, .load true n,[.t a],none,0⟩
abbrev ba (d n a:Nat):PO:=⟨some d, .box n,[.t a],none,0⟩
abbrev xa (d n a:Nat):PO:=⟨some d, .ext n,[.t a],none,0⟩
abbrev oi (d:Nat)(o:POp)(a:Nat)(n:Int):PO:=⟨some d,o,[.t a, .c (.int .i64 n)],none,0⟩
abbrev sk (n a b f:Nat):PO:=⟨none, .store n,[.t a, .t b],none,f⟩
abbrev pf (d a b:Nat):PO:=⟨some d, .pick,[.t a, .t b, .c (.bool false)],none,0⟩
abbrev pt (d a b:Nat):PO:=⟨some d, .pick,[.t a, .c (.bool true), .t b],none,0⟩
abbrev mf (d:Nat)(b:Bool):PO:=⟨some d, .mov,[.c (.bool b)],none,0⟩
abbrev mi (d:Nat)(n:Int):PO:=⟨some d, .mov,[.c (.int .i64 n)],none,0⟩
abbrev ag (d n:Nat):PO:=⟨some d, .Wn n,[.c (.slice true [])],none,0⟩
abbrev ix (d n a b:Nat):PO:=⟨some d, .aS n,[.t a, .t b],none,0⟩
abbrev sr (l:List PO)(n:Nat)(k:List Nat)(p:aA):aA:= .seq (.region false l n k []) p
abbrev z0:DV:= .int .i64 0
abbrev zs:DV:= .slice true []
abbrev r0 (l:List PO)(n:Nat)(k z:List Nat):aA:= .region false l n k z
abbrev r1 (l:List PO)(n:Nat)(k z:List Nat):aA:= .region true l n k z
abbrev lq (d a g:Nat):PO:=⟨some d, .load false 1,[.t a],some (g,false),0⟩
abbrev ob1 (d:Nat)(o:POp)(a b f:Nat):PO:=⟨some d,o,[.t a, .t b],none,f⟩
abbrev obT (d:Nat)(o:POp)(a b g f:Nat):PO:=⟨some d,o,[.t a, .t b],some (g,true),f⟩
abbrev obF (d:Nat)(o:POp)(a b g f:Nat):PO:=⟨some d,o,[.t a, .t b],some (g,false),f⟩
abbrev al (d i:Nat)(z:List DV):PO:=⟨some d, .alloc i z,[],none,0⟩
abbrev cx (t e:Nat):aA:= .cond (.t t) .skip (.exit e)
abbrev cd (t:Nat)(p q:aA):aA:= .cond (.t t) p q
abbrev sw (p q:aA):aA:= .seq p q
abbrev pA:POp:= .bin .add
abbrev pN:POp:= .un .not
abbrev pL:POp:= .bin .lss
abbrev pE:POp:= .bin .eql
abbrev pU:POp:= .bin .sub
abbrev pM:POp:= .bin .mul
abbrev pQ:POp:= .bin .neq
abbrev pG:POp:= .bin .gtr
abbrev lp (p:aA):aA:= .block 0 (.loop p)
abbrev b1 (p:aA):aA:= .block 1 p
abbrev s0 (l:List PO)(n:Nat)(k z:List Nat)(q:aA):aA:= .seq (.region false l n k z) q
abbrev ze:DV:= .str ⟨#[]⟩
abbrev cS:Opd:= .c (.slice true [])
abbrev ld:POp:= .load false 1
abbrev zd:List DV:=[zs,zs,zs,z0,z0,zs,z0,zs,z0,z0,z0,zs,z0,z0,z0,z0,z0,zs,zs]
def aN:List jB:=[.tmp 2]
def aK:List jB:=[.tmp 4]
def gY:List jB:=[]
def bW:List jB:=[.tmp 4, .tmp 5]
def al0:List jB:=[.cell 2 true 2, .tmp 3, .tmp 4]
def Iy:List jB:=[.tmp 6, .tmp 7]
def Pz:List jB:=[.cell 2 true 2]
def Aq:List jB:=[.cell 4 true 2]
def Ar:List jB:=[.tmp 6]
def adI:List jB:=[.tmp 2, .tmp 3, .tmp 4]
def Xt:List jB:=[.tmp 8, .tmp 9]
def Xu:List jB:=[.tmp 10, .tmp 11]
def Xv:List jB:=[.tmp 3]
def aix:List jB:=[.cell 2 true 3]
def Xw:List jB:=[.tmp 13, .tmp 14]
def qO:List jB:=[.tmp 8]
def acz:List jB:=[.tmp 5]
def Xx:List jB:=[.cell 4 true 7]
def Gi:List jB:=[.cell 4 true 3, .tmp 5]
def aiy:List jB:=[.cell 4 true 3]
def Gj:List jB:=[.tmp 2, .tmp 3]
def aiz:List jB:=[.cell 6 true 3, .tmp 7]
def Gl:List jB:=[.cell 2 true 2, .tmp 3]
def aiA:List jB:=[.cell 0 true 24]
def aiB:List jB:=[.cell 2 true 17]
def aiC:List jB:=[.cell 0 true 12]
def aiD:List jB:=[.tmp 0]
def aiE:List jB:=[.cell 0 true 17]
def NM:List jB:=[.cell 0 true 2]
def aiF:List jB:=[.cell 0 true 3]
def aiG:List jB:=[.cell 4 true 19]
def aiH:List jB:=[.cell 4 true 6]
def aiI:List jB:=[.cell 4 true 19, .tmp 5]
def aiJ:List jB:=[.cell 4 true 2, .tmp 5]
def aiK:List jB:=[.cell 6 true 2]
def z1:((0:Int)==0)=true:=rfl
def j0:(0:Int)<=0:=by omega
def t0:(0:Int).toNat=0:=rfl
def t1:(1:Int).toNat=1:=rfl
def t2:(2:Int).toNat=2:=rfl
def yu:aA:=(sr [ag 2 1] 0 [0] (sw (sr [mv 3 0,oc 4 (.isNil false) 3 cS] 0 [0,4] (cd 4 (sr [ag 2 1] 0 [2] .ret) .skip)) (sr [on 5 (.dV 1 [] []) [],mv 6 0,ob 7 (.app 1 false) 5 6,mv 2 7] 0 [2] .ret)))
def xG:aA:=(sr [mf 4 false] 0 [0,1] (sr [mv 5 0,mv 6 1,ob 7 (.aj 210) 5 6,mv 4 7] 0 [4] .ret))
def BL:aA:=(sr [ba 1 0 0,mk 2 (.c (.nilFunc))] 1 [1] (sr [oa 3 (.mkF (.func 211) 0) 1,mv 2 3] 0 [2] .ret))
def vV:aA:=(sr [mk 4 (.c ze)] 0 [0,1] (sr [mv 5 0,mv 6 1,ob 7 (.aj 215) 5 6,mv 4 7] 0 [4] .ret))
def kR:aA:=(sr [mk 2 cS] 0 [0] (sr [mv 4 0,oa 5 (.call 239) 4,mv 3 5] 0 [3] (sr [mv 6 3,oa 7 (.call 240) 6] 0 [3] (sr [mv 8 3,mv 2 8] 0 [2] .ret))))
def xE:aA:=(s0 [ba 1 0 0,mk 2 (.c (.nilFunc))] 1 [1] [1] (sr [oa 3 (.mkF (.func 241) 0) 1,mv 2 3] 0 [2] .ret))
def oP:aA:=(sr [mf 4 false] 0 [0,1] (sr [mv 5 0,mv 6 1,ob 7 (.aj 255) 5 6,oi 8 (.bin .geq) 7 0,mv 4 8] 0 [4] .ret))
def jM:aA:=(sr [mf 4 false] 0 [0,1] (sr [mv 5 0,mv 6 1,ob 7 (.aj 265) 5 6,oi 8 (.bin .geq) 7 0,mv 4 8] 0 [4] .ret))
def jh:aA:=(sr [mf 4 false] 0 [0,1] (sr [mv 5 0,mv 6 1,ob 7 (.aj 268) 5 6,oi 8 (.bin .geq) 7 0,mv 4 8] 0 [4] .ret))
def ng:aA:=(sr [ag 2 3] 0 [0] (sw (sr [mv 3 0,oc 4 (.isNil false) 3 cS] 0 [0,4] (cd 4 (sr [ag 2 3] 0 [2] .ret) .skip)) (sr [on 5 (.dV 3 [] []) [],mv 6 0,ob 7 (.app 3 true) 5 6,mv 2 7] 0 [2] .ret)))
def kD:aA:=(sr [ag 2 2] 0 [0] (sw (sr [mv 3 0,oc 4 (.isNil false) 3 cS] 0 [0,4] (cd 4 (sr [ag 2 2] 0 [2] .ret) .skip)) (sr [on 5 (.dV 2 [] []) [],mv 6 0,ob 7 (.app 2 true) 5 6,mv 2 7] 0 [2] .ret)))
def lY:aA:=(sr [ag 2 4] 0 [0] (sw (sr [mv 3 0,oc 4 (.isNil false) 3 cS] 0 [0,4] (cd 4 (sr [ag 2 4] 0 [2] .ret) .skip)) (sr [on 5 (.dV 4 [] []) [],mv 6 0,ob 7 (.app 4 false) 5 6,mv 2 7] 0 [2] .ret)))
def uM:aA:=(sr [mf 4 false] 0 [0,1] (sr [mv 5 0,mv 6 1,ob 7 (.aj 269) 5 6,oi 8 (.bin .geq) 7 0,mv 4 8] 0 [4] .ret))
def kX:aA:=(sr [mf 4 false] 0 [0,1] (sr [mv 5 0,oa 6 .xP 5,mv 7 1,oa 8 .xP 7,ob 9 (.bin .geq) 6 8,mv 10 9,ov 11 .mov 0 10 0,ov 12 .mov 0 10 0,ov 13 .xP 12 10 0,ov 14 .mov 1 10 0,ov 15 .xP 14 10 0,obT 16 pU 13 15 10 0,obT 17 (.EJ true false) 11 16 10 0,ov 18 .mov 1 10 0,obT 19 pE 17 18 10 0,pf 20 10 19,mv 4 20] 0 [4] .ret))
def zD:aA:=(lp (sw (sr [lo 5 1,oa 6 .xP 5,oi 7 pG 6 0] 0 [0,1,7] (cx 7 0)) (b1 (sr [mk 3 (.c ze)] 0 [0,1] (sw (sr [lo 8 1,oc 9 (.aj 212) 8 (.c (.int .u8 10)),mv 4 9] 0 [0,1,4] (sr [mv 10 4,oi 11 (.bin .geq) 10 0] 0 [0,1,4,11] (cd 11 (r1 [ou 12 ld 1 2,mv 13 4,oi 14 pA 13 1,ob1 15 (.EJ false true) 12 14 1,ou 16 ld 1 2,mv 17 4,oi 18 pA 17 1,ob1 19 (.EJ true false) 16 18 1,mv 3 15,sk 1 1 19 0] 0 [0,1,3] []) (rg [lo 20 1,mv 3 20,os (.store 1) [.t 1,.c ze] 0] 0 [0,1,3])))) (sr [mv 21 0,mv 22 3,ob 23 .jR 21 22,oa 24 pN 23] 0 [0,1,24] (cd 24 .ret .skip)))))))
def qI:aA:=(sr [mk 4 (.c ze)] 0 [0,1] (sw (sr [mv 5 0,mv 6 1,ob 7 (.aj 210) 5 6] 0 [0,1,7] (cd 7 (sr [mv 8 0,mv 9 0,oa 10 .xP 9,mv 11 1,oa 12 .xP 11,ob 13 pU 10 12,ob 14 (.EJ false true) 8 13,mv 4 14] 0 [4] .ret) .skip)) (sr [mv 15 0,mv 4 15] 0 [4] .ret)))
def lg:aA:=(s0 [ba 3 0 1,mi 4 0] 1 [0,3] [3] (sw (sr [mv 6 0,oa 7 .len 6,mi 8 0] 0 [0,3,7,8] (lp (sr [ob 9 pL 8 7] 0 [0,3,7,8,9] (sw (cx 9 0) (sw (b1 (sr [mv 10 8,mv 5 10] 0 [0,3,5,7,8] (sw (r1 [ou 11 (.load true 2) 3 1,mv 12 0,mv 13 5,ob1 14 (.aS 2) 12 13 1,ou 15 (.load true 2) 14 1,ob 16 (.AL false [2,1]) 11 15] 0 [0,3,5,7,8,16] []) (cd 16 (sr [mv 17 5,mv 4 17] 0 [4] .ret) .skip)))) (rg [oi 18 pA 8 1,mv 8 18] 0 [0,3,7,8])))))) (sr [mi 4 (-1)] 0 [4] .ret)))
def vU:aA:=(sr [mk 2 cS] 0 [0] (sr [mv 3 0,on 4 (.call 288) [cS,.t 3],mv 2 4] 0 [2] .ret))
def uN:aA:=(sr [lo 5 1,oa 6 .len 5,mi 7 0] 0 [0,5,6,7] (lp (sr [ob 8 pL 7 6] 0 [0,5,6,7,8] (sw (cx 8 0) (sw (b1 (sr [ix 9 1 5 7,lo 10 9,mv 4 10] 0 [0,4,5,6,7] (sr [mv 11 0,mv 12 4,ob 13 .jR 11 12,oa 14 pN 13] 0 [0,5,6,7,14] (cd 14 .ret .skip)))) (rg [oi 15 pA 7 1,mv 7 15] 0 [0,5,6,7]))))))
def tC:aA:=(sr [mi 4 0] 0 [0,1] (sw (sr [mv 6 0,oa 7 .len 6,mi 8 0] 0 [0,1,7,8] (lp (sr [ob 9 pL 8 7] 0 [0,1,7,8,9] (sw (cx 9 0) (sw (b1 (sr [mv 10 8,mv 5 10] 0 [0,1,5,7,8] (sr [mv 11 1,mv 12 0,mv 13 5,ix 14 1 12 13,lo 15 14,ob 16 .jR 11 15] 0 [0,1,5,7,8,16] (cd 16 (sr [mv 17 5,mv 4 17] 0 [4] .ret) .skip)))) (rg [oi 18 pA 8 1,mv 8 18] 0 [0,1,7,8])))))) (sr [mi 4 (-1)] 0 [4] .ret)))
def jO:aA:=(sr [mf 4 false] 0 [0,1] (sr [mv 5 0,mv 6 1,ob 7 (.aj 296) 5 6,oi 8 (.bin .geq) 7 0,mv 4 8] 0 [4] .ret))
def kE:aA:=(sr [mi 4 0] 0 [0,1] (sw (sr [mv 6 0,oa 7 .len 6,mi 8 0] 0 [0,1,7,8] (lp (sr [ob 9 pL 8 7] 0 [0,1,7,8,9] (sw (cx 9 0) (sw (b1 (sr [mv 10 8,mv 5 10] 0 [0,1,5,7,8] (sr [mv 11 1,mv 12 0,mv 13 5,ix 14 4 12 13,lw 15 4 14,ob 16 .jR 11 15] 0 [0,1,5,7,8,16] (cd 16 (sr [mv 17 5,mv 4 17] 0 [4] .ret) .skip)))) (rg [oi 18 pA 8 1,mv 8 18] 0 [0,1,7,8])))))) (sr [mi 4 (-1)] 0 [4] .ret)))
def dR:aA:=(sr [mi 4 0] 0 [0,1] (sw (sr [mv 6 0,oa 7 .len 6,mi 8 0] 0 [0,1,7,8] (lp (sr [ob 9 pL 8 7] 0 [0,1,7,8,9] (sw (cx 9 0) (sw (b1 (sr [mv 10 8,mv 5 10] 0 [0,1,5,7,8] (sr [mv 11 1,mv 12 0,mv 13 5,ix 14 2 12 13,lw 15 2 14,ob 16 .jR 11 15] 0 [0,1,5,7,8,16] (cd 16 (sr [mv 17 5,mv 4 17] 0 [4] .ret) .skip)))) (rg [oi 18 pA 8 1,mv 8 18] 0 [0,1,7,8])))))) (sr [mi 4 (-1)] 0 [4] .ret)))
def yw:aA:=(sr [mi 4 0] 0 [0,1] (sw (sr [mv 6 0,oa 7 .len 6,mi 8 0] 0 [0,1,7,8] (lp (sr [ob 9 pL 8 7] 0 [0,1,7,8,9] (sw (cx 9 0) (sw (b1 (sr [mv 10 8,mv 5 10] 0 [0,1,5,7,8] (sr [mv 11 1,mv 12 0,mv 13 5,ix 14 1 12 13,lo 15 14,ob 16 pE 11 15] 0 [0,1,5,7,8,16] (cd 16 (sr [mv 17 5,mv 4 17] 0 [4] .ret) .skip)))) (rg [oi 18 pA 8 1,mv 8 18] 0 [0,1,7,8])))))) (sr [mi 4 (-1)] 0 [4] .ret)))
def tu:aA:=(sr [ba 2 0 0,mk 4 cS] 1 [1,2,4] (sw (sr [mv 6 1] 0 [2,4,6] (.block 0 (.uQ (.t 6) [7] [2] (rg [mv 5 7] 0 [2,5]) (b1 (rg [lo 8 2,mv 9 5,oa 10 (.dV 1 [z0] [0]) 9,ob 11 (.app 1 true) 8 10,sk 1 2 11 0] 0 []))))) (sr [lo 12 2,mv 4 12] 0 [4] .ret)))
def oO:aA:=(sr [mi 4 0,mf 5 false] 0 [0,1] (sr [mv 10 0,oa 11 .len 10,mv 6 11] 0 [0,1,6] (sr [mv 12 6,mi 7 0,mv 8 12] 0 [0,1,6,7,8] (sw (lp (sw (sr [mv 13 7,mv 14 8,ob 15 pL 13 14] 0 [0,1,6,7,8,15] (cx 15 0)) (b1 (sr [mv 16 7,mv 17 8,ob 18 pA 16 17,oa 19 (.conv .u64) 18,oc 20 (.shf .shr) 19 (.c (.int .u64 1)),oa 21 (.conv .i64) 20,mv 9 21] 0 [0,1,6,7,8,9] (sr [mv 22 0,mv 23 9,ix 24 1 22 23,lo 25 24,mv 26 1,ob 27 (.aj 318) 25 26] 0 [0,1,6,7,8,9,27] (cd 27 (rg [mv 28 9,oi 29 pA 28 1,mv 7 29] 0 [0,1,6,7,8]) (rg [mv 30 9,mv 8 30] 0 [0,1,6,7,8]))))))) (sr [mv 31 7,mv 32 7,mv 33 6,ob 34 pL 32 33,mv 35 34,ov 36 .mov 0 35 0,ov 37 .mov 7 35 0,obT 38 (.aS 1) 36 37 35 0,ov 39 ld 38 35 0,ov 40 .mov 1 35 0,obT 41 pE 39 40 35 0,ov 42 .mov 41 35 0,ow 43 .mov 0 42 0,ow 44 .mov 7 42 0,obF 45 (.aS 1) 43 44 42 0,lq 46 45 42,ow 47 (.aj 323) 46 42 0,ow 48 .mov 47 42 0,ov 49 .mov 1 48 0,ov 50 (.aj 323) 49 48 0,oF 51 .pick [.t 48,.t 50,.c (.bool false)] 42 0,ot 52 .pick [.t 42,.c (.bool true),.t 51] 35 0,pf 53 35 52,mv 4 31,mv 5 53] 0 [4,5] .ret)))))
def Ee:aA:=(sr [mf 4 false] 0 [0,1] (sr [mv 5 0,oa 6 (.aj 343) 5,mv 7 6,ov 8 .mov 1 7 0,ov 9 (.aj 343) 8 7 0,ov 10 pN 9 7 0,pf 11 7 10,mv 12 11,ow 13 .mov 0 12 0,ow 14 .mov 1 12 0,obF 15 pL 13 14 12 0,pt 16 12 15,mv 4 16] 0 [4] .ret))
def lG:aA:=(sr [mf 2 false] 0 [0] (sr [mv 3 0,mv 4 0,ob 5 pQ 3 4,mv 2 5] 0 [2] .ret))
end Go.Tel
namespace Go.Am
def eU {cs:List PV}:agj none cs= .agg cs:=rfl
def dS {cs:List PV}:aau none cs= .tup cs:=rfl
def aX {nb na:Nat}{env:List (Nat×PV)}{m:Mem}{α:Type}{len i:Nat}{E:Nat->α->St}{P:Nat->α->Prop}(b:α)(hi:i<len)(hs:(⟨env,m⟩:St)=E (i+1) b)(d:P (i+1) b):
  ∃c a,c<len - i/\Weak nb na ⟨env,m⟩ a/\upJ len E P c a:=⟨len - (i+1),_,by omega, .inl rfl,i+1,b,by omega,rfl,hs,d⟩
end Go.Am
namespace Go.Tel
open Go.Am
structure Pr where
 a:Int
 b:Int
 deriving DecidableEq,Inhabited
structure Fr where
 n:Int
 d:Int
 deriving DecidableEq,Inhabited
structure Lk where
 fr:Int
 pr:Pr
 deriving DecidableEq,Inhabited
structure Pc where
 links:List Lk
 hands:List Int
 deriving DecidableEq,Inhabited
structure Fs where
 mv:Bool
 mo:Int
 da:Int
 af:Int
 deriving DecidableEq,Inhabited
structure Cal where
 ep:Int
 cy:List Int
 deriving DecidableEq,Inhabited
structure iw where
 n:Int
 d:Int
 ad:Int
 deriving DecidableEq,Inhabited
structure Dt where
 y:Int
 m:Int
 d:Int
 deriving DecidableEq,Inhabited
def Pr.dv (p:Pr):DV:= .agg [dI p.a,dI p.b]
def Fr.dv (p:Fr):DV:= .agg [dI p.n,dI p.d]
def Lk.dv (p:Lk):DV:= .agg [dI p.fr,dI p.pr.a,dI p.pr.b]
def Pc.dv (p:Pc):DV:= .agg [sF (p.links.map Lk.dv),sF (p.hands.map au)]
def Fs.dv (f:Fs):DV:= .agg [.bool f.mv,dI f.mo,dI f.da,dI f.af]
def Cal.dv (c:Cal):DV:= .agg [dI c.ep,sF (c.cy.map au)]
def iw.dv (m:iw):DV:= .agg [dI m.n,dI m.d,dI m.ad]
def Dt.dv (d:Dt):DV:= .agg [dI d.y,dI d.m,dI d.d]
def kP {p:Pr}:p.dv= .agg [dI p.a,dI p.b]:=by rw[Pr.dv]
def bK {p:Fr}:p.dv= .agg [dI p.n,dI p.d]:=by rw[Fr.dv]
def qh {p:Lk}:p.dv= .agg [dI p.fr,dI p.pr.a,dI p.pr.b]:=by rw[Lk.dv]
def dA {p:Pc}:p.dv= .agg [sF (p.links.map Lk.dv),sF (p.hands.map au)]:=by rw[Pc.dv]
def EP {f:Fs}:f.dv= .agg [.bool f.mv,dI f.mo,dI f.da,dI f.af]:=by rw[Fs.dv]
def dZ {c:Cal}:c.dv= .agg [dI c.ep,sF (c.cy.map au)]:=by rw[Cal.dv]
def iO {m:iw}:m.dv= .agg [dI m.n,dI m.d,dI m.ad]:=by rw[iw.dv]
def oG {d:Dt}:d.dv= .agg [dI d.y,dI d.m,dI d.d]:=by rw[Dt.dv]
section
variable {C:Ctx}{base:Nat}{K:PV->Mem->Prop}{KP:DV->Mem->Prop}{bs:List (Option (List PV))}{fz:List Nat}{ar:List (Option Arr)}
variable{xs:List DV}
def ajP {k ver skip sz st:Nat}(h:ar[k]?=some (some ⟨sz,xs,ver,st⟩)):datum ⟨bs,fz,ar⟩ (.tsl k ver skip)=some (sF (xs.drop skip)):=by
 simp[datum,Mem.row,h]
def P8 {f:FuncId}{k ver skip sz st:Nat}{x:DV}(h:ar[k]?=some (some ⟨sz,xs,ver,st⟩))(b:Pure C f [sF (xs.drop skip)] (.d x) [])(hx:CV x=true)(a:K (.d x) ⟨bs,fz,ar⟩):
  ay C base (.jE f) [.tsl k ver skip] ⟨bs,fz,ar⟩ K KP:=by
 rw[aeS];exact⟨[sF (xs.drop skip)],by simp[dL,ajP h],x,by simpa[DV.strip]using b,hx,a⟩
end
variable{i:Nat}
def aU {α:Type}[Inhabited α]{l:List α}(h:i<l.length):l.take (i+1)=l.take i++ [l.getD i default]:=by
 rw[List.take_add_one];congr 1;rw[Z,an h];rfl
variable{base:Nat}{M:Mem}{K:PV->Mem->Prop}{KP:DV->Mem->Prop}
def wz {C:Ctx}{sz:Nat}{xs:List DV}{k:IntKind}{n:Int}(hs:∀x∈xs,x.cells.length=sz)(a:0<=n)(h1:n<=xs.length):
  ay C base (.zV sz false true false) [.d (.slice false xs), .d (.int k n)] M K KP=K (.d (sF (xs.take n.toNat))) M:=by
 simp only[ay,Au,eH,Option.getD_none,Option.getD_some,true_and,b5,a,h1,Int.toNat_zero,List.drop_zero,Bool.false_or,br];simp;intro c x b;exact hs x b
def ahM {ls:List Lk}:∀x∈ls.map Lk.dv,x.cells.length=3:=by intro x a;obtain⟨l,_,rfl⟩:=ax.1 a;rfl
def fits_int {k:IntKind}{n:Int}:DV.fits 1 (.int k n)=true:=rfl
variable{a b:Int}
def JL:DV.fits 2 (.agg [dI a,dI b])=true:=rfl
def idx {α:Type}[DecidableEq α](v:α):List α->Nat->Int
 | [],_=> -1
 |x::xs,i=>if v=x then i else idx v xs (i+1)
def ahx {α:Type}[DecidableEq α](v:α):∀(xs:List α) (i:Nat),decide (idx v xs i>=0)=xs.contains v
 | [],i=>by simp[idx]
 |x::xs,i=>by
  simp only[idx,List.contains_cons]
  by_cases h:v=x
  ·simp[h]
  ·simp only[h,if_false,ahx v xs (i+1)]
   simp[h]
def QL {C:Ctx}{neq:Bool}{c d:Int}:ay C base (.AL neq [1,1]) [.d (.agg [dI a,dI b]), .d (.agg [dI c,dI d])] M K KP=K (.d (.bool (((a==c)&&(b==d)) !=neq))) M:=by
 rw[ac8 (t:=(a==c)&&(b==d))];simp[fA]
def ac1 {b:Bool}:(b !=false)=b:=by cases b<;>rfl
def jS {α:Type}(p:α->Bool):List α->Nat->Int
 | [],_=> -1
 |x::xs,i=>if p x then i else jS p xs (i+1)
def GN {α:Type}(p:α->Bool):∀(xs:List α) (i:Nat),decide (jS p xs i>=0)=xs.any p
 | [],i=>by simp[jS]
 |x::xs,i=>by
  simp only[jS,cv]
  by_cases h:p x=true
  ·simp[h]
  ·have a:p x=false:=by simpa using h
   have:=GN p xs (i+1)
   simpa[a]using this
def Cj {α:Type}(p:α->Bool):∀l:List α,(l.any fun w=> !p w)= !l.all p
 | []=>rfl
 |x::l=>by simp only[cv,bE,Cj p l,Bool.not_and]
variable{f:FuncId}
def JA {C:Ctx}{fs cs ds ds':List DV}{args:List PV}{x:DV}(h1:ji args=some ds)(hc:callable C.P f=true)(h2:(fs++ds++cs).map DV.strip=ds')(e:Pure C f ds' (.d x) [])(a:K (.d x) M):
  ay C base .jR (.d (.func (.func f) fs cs)::args) M K KP:=by
 refine⟨hc,wV (LM ⟨fs++ds++cs,?_,x,h2▸e,a⟩)⟩;have b:args=ds.map .d:=Gw h1;have hd:∀l:List DV,ji (l.map .d)=some l:=by
  intro l;induction l with
  |nil=>rfl
  |cons c l g=>simp[ji,g]
 rw[b,<-aE,<-aE,hd]
def getD_mem {α:Type}[Inhabited α]{l:List α}(h:i<l.length):l.getD i default∈l:=by
 rw[Z,an h];exact bh h
def kU (n:Int)(g:Int):(n.tdiv g).natAbs<=n.natAbs:=by
 rw[Int.natAbs_tdiv];exact bi _ _
def YN (xs:List Int)(fn:FuncId)(b:List DV)(p:Int->Bool)(hl:xs.length<=1000000)(hc:callable C.P fn=true)(g:∀x∈xs,Pure C fn ([(au x).strip]++b.map DV.strip) (.d (.bool (p x))) []):
  Pure C 255 [sF (xs.map au), .func (.func fn) [] b] (pI (jS p xs 0)) []:=by
 refine ah tC aK ?_;simp only[tC,aK,Y,RN,H,J];refine aG xs.length (fun i (_:Unit)=>⟨[(0, .d (sF (xs.map au))),(1, .d (.func (.func fn) [] b)),(7,pI xs.length),(8,pI i)],⟨[],[],[]⟩⟩)
  (fun i _=>jS p xs 0=jS p (xs.drop i) i) 0 () (aD _) rfl rfl (fun i _ h1 a=> ?_) (fun _ a=> ?_)
 ·obtain⟨h2,e,f⟩:=rng h1 hl
  rw[drop_cons h1,jS]at a;have j:=g (xs.getD i default) (by rw[Z,an h1];exact bh h1);simp only[h2,e,h1,getD_map,ae,Y,aH,RN,H,V];refine JA rfl hc (by simp only[a8,aE,bc,bp,aH]) j ?_;cases c:p (xs.getD i default)
  ·simp only[f,RN,H]
   exact dD () h1 rfl (by rw[if_neg (fun h=>by rw[c]at h;cases h)]at a;exact a) (by simp) (by simp) rfl rfl
  ·(try simp only[RN,H])
   rw[a,if_pos c]
 ·rw[av,jS]at a
  simp only[aq,a,RN,H]
def tZ (xs:List Int)(fn:FuncId)(a:List DV)(p:Int->Bool)(hl:xs.length<=1000000)(hc:callable C.P fn=true)(c:∀x∈xs,Pure C fn ([(au x).strip]++a.map DV.strip) (.d (.bool (p x))) []):
  Pure C 179 [sF (xs.map au), .func (.func fn) [] a] (.d (.bool (xs.any p))) []:=by
 have b:=YN xs fn a p hl hc c;refine ah oP aK ?_;simp only[oP,aK,RN,H,J];refine ak b ?_;simp only[GN,RN]
def abE (xs:List Pr)(fn:FuncId)(b:List DV)(p:Pr->Bool)(hl:xs.length<=1000000)(hc:callable C.P fn=true)(g:∀x∈xs,Pure C fn ([(Pr.dv x).strip]++b.map DV.strip) (.d (.bool (p x))) []):
  Pure C 296 [sF (xs.map Pr.dv), .func (.func fn) [] b] (pI (jS p xs 0)) []:=by
 refine ah dR aK ?_;simp only[dR,aK,Y,RN,H,J];refine aG xs.length (fun i (_:Unit)=>⟨[(0, .d (sF (xs.map Pr.dv))),(1, .d (.func (.func fn) [] b)),(7,pI xs.length),(8,pI i)],⟨[],[],[]⟩⟩)
  (fun i _=>jS p xs 0=jS p (xs.drop i) i) 0 () (aD _) rfl rfl (fun i _ h1 a=> ?_) (fun _ a=> ?_)
 ·obtain⟨h2,e,f⟩:=rng h1 hl
  rw[drop_cons h1,jS]at a;have j:=g (xs.getD i default) (by rw[Z,an h1];exact bh h1);simp only[h2,e,h1,getD_map,ae,Y,kP,RN,H,J,V];refine JA rfl hc (by simp only[a8,aE,bc,bp,kP]) j ?_;cases c:p (xs.getD i default)
  ·simp only[f,RN,H]
   exact dD () h1 rfl (by rw[if_neg (fun h=>by rw[c]at h;cases h)]at a;exact a) (by simp) (by simp) rfl rfl
  ·(try simp only[RN,H])
   rw[a,if_pos c]
 ·rw[av,jS]at a
  simp only[aq,a,RN,H]
def Ui (xs:List Pr)(fn:FuncId)(a:List DV)(p:Pr->Bool)(hl:xs.length<=1000000)(hc:callable C.P fn=true)(c:∀x∈xs,Pure C fn ([(Pr.dv x).strip]++a.map DV.strip) (.d (.bool (p x))) []):
  Pure C 257 [sF (xs.map Pr.dv), .func (.func fn) [] a] (.d (.bool (xs.any p))) []:=by
 have b:=abE xs fn a p hl hc c;refine ah jO aK ?_;simp only[jO,aK,RN,H,J];refine ak b ?_;simp only[GN,RN]
def abC (xs:List Fr)(fn:FuncId)(b:List DV)(p:Fr->Bool)(hl:xs.length<=1000000)(hc:callable C.P fn=true)(g:∀x∈xs,Pure C fn ([(Fr.dv x).strip]++b.map DV.strip) (.d (.bool (p x))) []):
  Pure C 268 [sF (xs.map Fr.dv), .func (.func fn) [] b] (pI (jS p xs 0)) []:=by
 refine ah dR aK ?_;simp only[dR,aK,Y,RN,H,J];refine aG xs.length (fun i (_:Unit)=>⟨[(0, .d (sF (xs.map Fr.dv))),(1, .d (.func (.func fn) [] b)),(7,pI xs.length),(8,pI i)],⟨[],[],[]⟩⟩)
  (fun i _=>jS p xs 0=jS p (xs.drop i) i) 0 () (aD _) rfl rfl (fun i _ h1 a=> ?_) (fun _ a=> ?_)
 ·obtain⟨h2,e,f⟩:=rng h1 hl
  rw[drop_cons h1,jS]at a;have j:=g (xs.getD i default) (by rw[Z,an h1];exact bh h1);simp only[h2,e,h1,getD_map,ae,Y,bK,RN,H,J,V];refine JA rfl hc (by simp only[a8,aE,bc,bp,bK]) j ?_;cases c:p (xs.getD i default)
  ·simp only[f,RN,H]
   exact dD () h1 rfl (by rw[if_neg (fun h=>by rw[c]at h;cases h)]at a;exact a) (by simp) (by simp) rfl rfl
  ·(try simp only[RN,H])
   rw[a,if_pos c]
 ·rw[av,jS]at a
  simp only[aq,a,RN,H]
def Ug (xs:List Fr)(fn:FuncId)(a:List DV)(p:Fr->Bool)(hl:xs.length<=1000000)(hc:callable C.P fn=true)(c:∀x∈xs,Pure C fn ([(Fr.dv x).strip]++a.map DV.strip) (.d (.bool (p x))) []):
  Pure C 199 [sF (xs.map Fr.dv), .func (.func fn) [] a] (.d (.bool (xs.any p))) []:=by
 have b:=abC xs fn a p hl hc c;refine ah jh aK ?_;simp only[jh,aK,RN,H,J];refine ak b ?_;simp only[GN,RN]
def abD (xs:List Fs)(fn:FuncId)(b:List DV)(p:Fs->Bool)(hl:xs.length<=1000000)(hc:callable C.P fn=true)(g:∀x∈xs,Pure C fn ([(Fs.dv x).strip]++b.map DV.strip) (.d (.bool (p x))) []):
  Pure C 265 [sF (xs.map Fs.dv), .func (.func fn) [] b] (pI (jS p xs 0)) []:=by
 refine ah kE aK ?_;simp only[kE,aK,Y,RN,H,J];refine aG xs.length (fun i (_:Unit)=>⟨[(0, .d (sF (xs.map Fs.dv))),(1, .d (.func (.func fn) [] b)),(7,pI xs.length),(8,pI i)],⟨[],[],[]⟩⟩)
  (fun i _=>jS p xs 0=jS p (xs.drop i) i) 0 () (aD _) rfl rfl (fun i _ h1 a=> ?_) (fun _ a=> ?_)
 ·obtain⟨h2,e,f⟩:=rng h1 hl
  rw[drop_cons h1,jS]at a;have j:=g (xs.getD i default) (by rw[Z,an h1];exact bh h1);simp only[h2,e,h1,getD_map,ae,Y,EP,RN,H,J,V];refine JA rfl hc (by simp only[a8,aE,bc,bp,EP]) j ?_;cases c:p (xs.getD i default)
  ·simp only[f,RN,H]
   exact dD () h1 rfl (by rw[if_neg (fun h=>by rw[c]at h;cases h)]at a;exact a) (by simp) (by simp) rfl rfl
  ·(try simp only[RN,H])
   rw[a,if_pos c]
 ·rw[av,jS]at a
  simp only[aq,a,RN,H]
def Uh (xs:List Fs)(fn:FuncId)(a:List DV)(p:Fs->Bool)(hl:xs.length<=1000000)(hc:callable C.P fn=true)(c:∀x∈xs,Pure C fn ([(Fs.dv x).strip]++a.map DV.strip) (.d (.bool (p x))) []):
  Pure C 194 [sF (xs.map Fs.dv), .func (.func fn) [] a] (.d (.bool (xs.any p))) []:=by
 have b:=abD xs fn a p hl hc c;refine ah jM aK ?_;simp only[jM,aK,RN,H,J];refine ak b ?_;simp only[GN,RN]
def Rk (xs:List Int)(v:Int)(hl:xs.length<=1000000):Pure C 269 [sF (xs.map au),dI v] (pI (idx v xs 0)) []:=by
 refine ah yw aK ?_;simp only[yw,aK,Y,RN,H,J];refine aG xs.length (fun i (_:Unit)=>⟨[(0, .d (sF (xs.map au))),(1,pI v),(7,pI xs.length),(8,pI i)],⟨[],[],[]⟩⟩) (fun i _=>idx v xs 0=idx v (xs.drop i) i) 0 () (aD _) rfl rfl (fun i _ h1 a=> ?_) (fun _ a=> ?_)
 ·obtain⟨h2,c,e⟩:=rng h1 hl
  rw[drop_cons h1,idx]at a;cases b:(v==xs.getD i default)
  ·simp only[h2,c,h1,e,b,aH,getD_map,ae,Y,RN,H,V]
   exact dD () h1 rfl (by rw[if_neg (by simpa using b)]at a;exact a) (by simp) (by simp) rfl rfl
  ·simp only[h2,c,h1,b,aH,getD_map,ae,Y,RN,H,V]
   rw[a,if_pos (by simpa using b)]
 ·rw[av,idx]at a
  simp only[aq,a,RN,H]
def Uj (xs:List Int)(v:Int)(hl:xs.length<=1000000):Pure C 205 [sF (xs.map au),dI v] (.d (.bool (xs.contains v))) []:=by
 have a:=Rk xs v hl;refine ah uM aK ?_;simp only[uM,aK,RN,H,J];refine ak a ?_;simp only[ahx,RN]
def FZ:aA:=(sr [al 2 0 [z0,z0],mf 3 false,mi 4 0] 1 [0,2] (sw (sr [mv 5 0,oa 6 (.aj 181) 5,oa 7 pN 6] 0 [0,2,7] (cd 7 (sr [on 8 (.build [z0,z0] []) [],sk 2 2 8 0,mf 3 false,mi 4 2] 0 [2,3,4] .ret) .skip)) (sr [mv 9 0,oa 10 (.aj 182) 9,mv 11 0,oa 12 .len 11,oi 13 (.bin .rem) 12 2,oi 14 pE 13 0,sk 2 2 10 0,mv 3 14,mi 4 0] 0 [2,3,4] .ret)))
def Lm:aA:=(s0 [ba 4 0 1,mi 6 0,mi 7 0] 1 [0,2,4] [4] (sw (sr [mv 9 0,oa 10 (.aj 181) 9,oa 11 pN 10,mv 12 11,ow 13 (.load true 2) 4 12 0,ow 14 (.aj 184) 13 12 0,ow 15 pN 14 12 0,pt 16 12 15,mv 17 16,ow 18 .mov 2 17 0,ow 19 (.aj 185) 18 17 0,ow 20 pN 19 17 0,pt 21 17 20] 0 [0,2,4,21] (cd 21 (sr [mi 6 0,mi 7 2] 0 [6,7] .ret) .skip)) (s0 [mv 22 0,lw 23 2 4,ob 24 (.aj 186) 22 23,al 8 0 [z0,z0],sk 2 8 24 0] 1 [2,8] [8] (sr [fa 25 0 8,lo 26 25,mv 27 2,ob 28 pM 26 27,fa 29 1 8,lo 30 29,ob 31 (.bin .quo) 28 30,mv 6 31,mi 7 0] 0 [6,7] .ret))))
def BO:aA:=(sr [mf 2 false] 0 [0] (sr [mv 3 0,oa 4 .len 3,on 5 (.aj 256) [.t 4,kI 1,kI 3],mv 6 5,ov 7 .mov 0 6 0,ot 8 (.aj 257) [.t 7,.c (.func (.func 258) [] [])] 6 0,ov 9 pN 8 6 0,pf 10 6 9,mv 2 10] 0 [2] .ret))
def F5:aA:=(sr [al 2 0 [z0,z0]] 1 [0,2] (sr [ag 3 1,ag 4 1] 0 [0,2,3,4] (sw (sr [mv 7 0,oa 8 .len 7,mi 9 0] 0 [2,3,4,7,8,9] (lp (sr [ob 10 pL 9 8] 0 [2,3,4,7,8,9,10] (sw (cx 10 0) (sw (b1 (s0 [ix 11 2 7 9,lw 12 2 11,al 6 0 [z0,z0],sk 2 6 12 0] 1 [2,3,4,6,7,8,9] [6] (r1 [mv 13 3,fu 14 0 6 1,lv 15 14,ou 16 (.dV 1 [z0] [0]) 15 1,ob 17 (.app 1 false) 13 16,mv 18 4,fu 19 1 6 1,lv 20 19,ou 21 (.dV 1 [z0] [0]) 20 1,ob 22 (.app 1 false) 18 21,mv 3 17,mv 4 22] 0 [2,3,4,7,8,9] []))) (rg [oi 23 pA 9 1,mv 9 23] 0 [2,3,4,7,8,9])))))) (sr [mv 24 3,oa 25 (.jE 261) 24,mv 26 4,oa 27 (.jE 261) 26,ob 28 (.aj 260) 25 27,sk 2 2 28 0] 0 [2] .ret))))
def yx:aA:=(s0 [ba 1 0 0,mf 2 false] 1 [1] [1] (sr [fa 3 0 1,lo 4 3,on 5 (.aj 256) [.t 4,kI 0,kI 50000],mv 6 5,ov 7 (.fld 1) 1 6 0,ov 8 ld 7 6 0,ot 9 (.aj 256) [.t 8,kI 1,kI 50000] 6 0,pf 10 6 9,mv 2 10] 0 [2] .ret))
def EF:aA:=(sr [mf 2 false] 0 [0] (sr [mv 3 0,on 4 (.aj 256) [.t 3,kI 0,kI 10000],mv 2 4] 0 [2] .ret))
def BR:aA:=(s0 [ba 3 0 1,al 4 1 [z0,z0]] 2 [0,3,4] [3] (s0 [mv 6 0,oa 7 (.aj 182) 6,al 5 0 [z0,z0],sk 2 5 7 0] 1 [3,4,5] [5] (sw (r1 [ou 8 (.load true 2) 5 1,ou 9 (.load true 2) 3 1,ob 10 (.aj 264) 8 9,oi 11 pM 10 21600,fu 12 1 5 1,lv 13 12,fu 14 1 3 1,lv 15 14,ob 16 pM 13 15,ob 17 (.build [z0,z0] [(0,1),(1,1)]) 11 16,sk 2 4 17 0] 0 [4] []) .ret)))
def Pm:aA:=(sr [mf 6 false] 0 [0,1,2] (sr [mv 7 0,mv 8 1,ob 9 (.bin .geq) 7 8,mv 10 9,ov 11 .mov 0 10 0,ov 12 .mov 2 10 0,obT 13 (.bin .leq) 11 12 10 0,pf 14 10 13,mv 6 14] 0 [6] .ret))
def zF:aA:=(s0 [ba 1 0 0,mf 2 false] 1 [1] [1] (sr [fa 3 0 1,lo 4 3,oa 5 (.aj 259) 4,oa 6 pN 5,mv 7 6,ow 8 (.fld 1) 1 7 0,lq 9 8 7,ow 10 (.aj 259) 9 7 0,ow 11 pN 10 7 0,pt 12 7 11,mv 2 12] 0 [2] .ret))
def BN:aA:=(sr [mf 2 false] 0 [0] (sr [mv 3 0,on 4 (.aj 256) [.t 3,kI 4,kI 60],mv 2 4] 0 [2] .ret))
def BQ:aA:=(sr [al 4 0 [z0,z0]] 1 [0,1,4] (sr [mv 6 0,mv 7 1,ob 8 (.aj 297) 6 7,mv 5 8] 0 [0,1,4,5] (sw (r1 [mv 9 0,mv 10 5,ob 11 (.bin .quo) 9 10,mv 12 1,mv 13 5,ob 14 (.bin .quo) 12 13,ob 15 (.build [z0,z0] [(0,1),(1,1)]) 11 14,sk 2 4 15 0] 0 [4] []) .ret)))
def BP:aA:=(sr [mi 2 0] 0 [0] (sr [mi 3 1] 0 [0,3] (sw (sr [mv 6 0,oa 7 .len 6,mi 8 0] 0 [3,6,7,8] (lp (sr [ob 9 pL 8 7] 0 [3,6,7,8,9] (sw (cx 9 0) (sw (b1 (sr [ix 10 1 6 8,lo 11 10,mv 5 11] 0 [3,5,6,7,8] (rg [mv 12 3,mv 13 5,ob 14 pM 12 13,mv 3 14] 0 [3,6,7,8]))) (rg [oi 15 pA 8 1,mv 8 15] 0 [3,6,7,8])))))) (sr [mv 16 3,mv 2 16] 0 [2] .ret))))
def BM:aA:=(s0 [ba 2 0 0,ba 3 1 1,mi 4 0] 2 [2,3] [2,3] (sr [fa 5 0 2,lo 6 5,fa 7 1 3,lo 8 7,ob 9 pM 6 8,fa 10 0 3,lo 11 10,fa 12 1 2,lo 13 12,ob 14 pM 11 13,ob 15 pU 9 14,mv 4 15] 0 [4] .ret))
def yJ:aA:=(sr [mi 4 0] 0 [0,1] (sw (lp (sw (sr [mv 5 1,oi 6 pG 5 0] 0 [0,1,6] (cx 6 0)) (b1 (r1 [mv 7 1,mv 8 0,mv 9 1,ob 10 (.bin .rem) 8 9,mv 0 7,mv 1 10] 0 [0,1] [])))) (sr [mv 11 0,mv 4 11] 0 [4] .ret)))
def aI (n:Int):Bool:=inR n 4 60
def Pr.ok (p:Pr):Bool:=aI p.a&&aI p.b
def Fr.ok (f:Fr):Bool:=inR f.n 0 50000&&inR f.d 1 50000
def lI (l:List Pr):Bool:=inR l.length 1 3&&l.all Pr.ok
def zU (n d:Nat):Fr:=⟨(n / a6 n d:Nat),(d / a6 n d:Nat)⟩
def jX:List Int->Int->Int
 | [],p=>p
 |x::xs,p=>jX xs (p*x)
def bQ (l:List Pr):Fr:=zU (jX (l.map (·.a)) 1).natAbs (jX (l.map (·.b)) 1).natAbs
def Ym (a b:Fr):Int:=a.n*b.d - b.n*a.d
def kK (l:List Pr)(f:Fr):Fr:=⟨Ym (bQ l) f*21600,(bQ l).d*f.d⟩
def ab5 (l:List Pr)(f:Fr)(turns:Int):Int:=((kK l f).n*turns).tdiv (kK l f).d
def ab4 (l:List Pr)(f:Fr)(turns:Int):Int×Int:=if lI l&&f.ok&&inR turns 0 10000 then(ab5 l f turns,0)else(0,2)
def AU (n l h:Int)(hc:Oc C.P f 3 Pm Ar=true:=by kernel_rfl):Pure C f [dI n,dI l,dI h] (.d (.bool (inR n l h))) []:=by
 refine Iq mixed rfl hc ?_
 by_cases h1:n>=l<;>simp only[h1,inR,Pm,Ar,br,RN,H,J]
def adT (n l h:Int):Pure C 256 [dI n,dI l,dI h] (.d (.bool (inR n l h))) []:=AU n l h
def ajj (n:Int):Pure C 259 [dI n] (.d (.bool (aI n))) []:=by
 refine ah BN aN ?_;simp only[BN,aN,RN,H]
 repeat' first
  |(refine ak (adT _ _ _) ?_;try simp only[RN,H,J,N,S,U,V])
  |(refine bF (by rfl) (fun a=> ?_) (fun a=> ?_)<;>simp only[a,RN,H,J,N,S,U,V])
  |(refine bM (by rfl) (fun a=> ?_) (fun a=> ?_)<;>simp only[a,RN,H,J,N,S,U,V])
 all_goals(first|(simp only[aI, *,BSN];done)|(simp_all[aI];done)|(simp_all[aI];omega))
def alE (n:Int):Pure C 185 [dI n] (.d (.bool (inR n 0 10000))) []:=by
 refine ah EF aN ?_;simp only[EF,aN,RN,H]
 repeat' first
  |(refine ak (adT _ _ _) ?_;try simp only[])
  |(refine bF (by rfl) (fun a=> ?_) (fun a=> ?_)<;>simp only[a,RN,H,J,N,S,U,V])
  |(refine bM (by rfl) (fun a=> ?_) (fun a=> ?_)<;>simp only[a,RN,H,J,N,S,U,V])
 all_goals(first|(simp only[inR, *,BSN];done)|(simp_all[inR];done)|(simp_all[inR];omega))
def alD (f:Fr):Pure C 184 [f.dv] (.d (.bool f.ok)) []:=by
 refine ah yx aN ?_;simp only[yx,aN,bK,RN,H,J,V]
 repeat' first
  |(refine ak (adT _ _ _) ?_;try simp only[bK,RN,H,J,N,S,U,V])
  |(refine bF (by rfl) (fun a=> ?_) (fun a=> ?_)<;>simp only[a,RN,H,J,V])
  |(refine bM (by rfl) (fun a=> ?_) (fun a=> ?_)<;>simp only[a,bK,RN,H,J,N,S,U,V])
 all_goals(first|(simp only[Fr.ok, *,BSN];done)|(simp_all[Fr.ok];done)|(simp_all[Fr.ok];omega))
def YV (p:Pr):Pure C 258 [p.dv] (.d (.bool (!p.ok))) []:=by
 refine ah zF aN ?_;simp only[zF,aN,kP,RN,H,J,V]
 repeat' first
  |(refine ak (ajj _) ?_;try simp only[RN])
  |(refine bF (by rfl) (fun a=> ?_) (fun a=> ?_)<;>simp only[a,RN,H,J,V])
  |(refine bM (by rfl) (fun a=> ?_) (fun a=> ?_)<;>simp only[a,kP,RN,H,J,N,S,U,V])
 all_goals(first|(simp only[Pr.ok, *,BSN];done)|(simp_all[Pr.ok];done)|(simp_all[Pr.ok];omega))
def Vk (l:List Pr)(hl:l.length<=1000000):Pure C 181 [sF (l.map Pr.dv)] (.d (.bool (lI l))) []:=by
 refine ah BO aN ?_;simp only[BO,aN,Y,RN,H]
 repeat' first
  |(refine ak (adT _ _ _) ?_;try simp only[Y,RN,H,J,N,S,U,V])
  |(refine eG rfl rfl (Ui l _ [] (fun p=> !p.ok) hl (by kernel_rfl) (fun p _=>YV p)) ?_;try simp only[RN])
  |(refine bF (by rfl) (fun a=> ?_) (fun a=> ?_)<;>simp only[a,RN,H])
  |(refine bM (by rfl) (fun a=> ?_) (fun a=> ?_)<;>simp only[a,Y,RN,H,J,N,S,U,V])
 all_goals(first|(rw[Cj])|skip)
 all_goals(first|(simp only[lI, *,BSN];done)|(simp_all[lI];done)|(simp_all[lI];omega))
def anS (a b:Nat):Pure C 297 [dI a,dI b] (pI (a6 a b)) []:=by
 refine ah yJ aK ?_;simp only[yJ,aK,RN,H,J];refine iE (fun(q:Nat×Nat)=>⟨[(0,pI q.1),(1,pI q.2)],⟨[],[],[]⟩⟩) (fun q=>a6 q.1 q.2=a6 a b) (fun q=>q.2) (a,b) rfl rfl (fun q e=> ?_)
 by_cases g:q.2=0
 ·have c:¬((q.2:Int)>0):=by omega
  simp only[c,RN,H];rw[<-e,g,Nat.gcd_zero_right]
 ·have c:((q.2:Int)>0):=by omega
  have d:((q.2:Int)≠0):=by omega
  have f:(q.1:Int).tmod (q.2:Int)=((q.1 % q.2:Nat):Int):=(Int.ofNat_tmod q.1 q.2).symm;simp only[c,d,f,RN,H];exact MC (q.2,q.1 % q.2) (Nat.mod_lt _ (by omega)) rfl (by simp only;rw[cA,<-Nat.gcd_rec,cA];exact e) (by simp) (by simp) rfl rfl
def Qd {n:Nat}(h:n<=9223372036854775807):cE .i64 (n:Int)=n:=aB (by omega)
def afG (a b:Nat)(j:a<=4611686018427387904)(hb:b<=4611686018427387904)(h:0<b):Pure C 260 [dI a,dI b] (.d (zU a b).dv) []:=by
 refine ah BQ Aq ?_;have i:((a6 a b:Nat):Int)≠0:=by
  have:0<a6 a b:=bL _ h;omega
 have c:(a:Int).tdiv (a6 a b:Nat)=((a / a6 a b:Nat):Int):=(cr a _).symm;have e:(b:Int).tdiv (a6 a b:Nat)=((b / a6 a b:Nat):Int):=(cr b _).symm;have f:cE .i64 ((a:Int).tdiv (a6 a b:Nat))=((a / a6 a b:Nat):Int):=by
  rw[c];exact Qd (bq (bi _ _) (by omega))
 have g:cE .i64 ((b:Int).tdiv (a6 a b:Nat))=((b / a6 a b:Nat):Int):=by
  rw[e];exact Qd (bq (bi _ _) (by omega))
 simp only[BQ,Aq,RN,H,J,V];refine ak (anS a b) ?_;simp only[i,f,g,bK,zU,RN,H,J,V]
def Sv:∀(l:List Int) (p:Int) (k:Nat),(∀x∈l,1<=x/\x<=60)->1<=p->p<=60 ^ k->1<=jX l p/\jX l p<=60 ^ (k+l.length)
 | [],p,k,_,h1,h2=>⟨h1,h2⟩
 |x::l,p,k,h,h1,h2=>by
  obtain⟨a,b⟩:=h x (by simp);have d:1<=p*x:=by
   have:=am h1 a (by omega) (by omega);omega
  have e:p*x<=60 ^ (k+1):=by
   rw[cz];exact am h2 b (by omega) (cf (by omega) h2)
  obtain⟨r1,r2⟩:=Sv l (p*x) (k+1) (fun y c=>h y (by simp[c])) d e;refine⟨r1,?_⟩;rw[a7,show k+(l.length+1)=k+1+l.length by omega];exact r2
def Dz:∀(l:List Int) (p:Int),(∀x∈l,1<=x)->1<=p->p<=jX l p
 | [],p,_,_=>b5 p
 |x::l,p,h,b=>by
  have c:p*1<=p*x:=Int.mul_le_mul_of_nonneg_left (h x (by simp)) (by omega);have:=Dz l (p*x) (fun y a=>h y (by simp[a])) (by omega);simp only[jX];omega
def VB (l:List Int)(hl:l.length<=1000000)(hx:∀x∈l,1<=x)(hb:jX l 1<=9223372036854775807):Pure C 261 [sF (l.map au)] (pI (jX l 1)) []:=by
 refine ah BP aN ?_;simp only[BP,aN,Y,RN,H];refine aG l.length (fun i (p:Int)=>⟨[(3,pI p),(6, .d (sF (l.map au))),(7,pI l.length),(8,pI i)],⟨[],[],[]⟩⟩)
  (fun i p=>1<=p/\jX l 1=jX (l.drop i) p) 0 1 (aD _) rfl ⟨by omega,rfl⟩ (fun i p h1 a=> ?_) (fun p a=> ?_)
 ·obtain⟨h2,g,h⟩:=rng h1 hl
  obtain⟨c,a⟩:=a;rw[drop_cons h1,jX]at a;have b:=hx _ (getD_mem h1);have e:1<=p*l.getD i default:=by
   have:=am c b (by omega) (by omega);omega
  have k:=Dz (l.drop (i+1)) (p*l.getD i default) (fun y j=>hx y (b7 j)) e;have f:cE .i64 (p*l.getD i default)=p*l.getD i default:=aB (by omega);simp only[h2,g,h1,h,aH,getD_map,ae,Y,f,RN,H,V];exact dD (p*l.getD i default) h1 rfl ⟨e,a⟩ (by simp) (by simp) rfl rfl
 ·obtain⟨c,a⟩:=a
  rw[av,jX]at a;simp only[aq,a,RN,H]
variable{l:List Pr}
def rO (h:lI l=true):1<=l.length/\l.length<=3/\∀p∈l,(4<=p.a/\p.a<=60)/\4<=p.b/\p.b<=60:=by
 simp only[lI,inR,ab,decide_eq_true_eq,aM,ge_iff_le,Pr.ok,aI]at h;exact⟨by omega,by omega,h.2⟩
def Mc (hl:l.length<=3)(h:∀p∈l,(4<=p.a/\p.a<=60)/\4<=p.b/\p.b<=60):(1<=jX (l.map (·.a)) 1/\jX (l.map (·.a)) 1<=216000)/\1<=jX (l.map (·.b)) 1/\jX (l.map (·.b)) 1<=216000:=by
 have e:∀k:Nat,k<=3->(60:Int) ^ k<=216000:=by
  intro k f
  match k,f with
  |0,_=>decide
  |1,_=>decide
  |2,_=>decide
  |3,_=>decide
 constructor
 ·obtain⟨a,b⟩:=Sv (l.map (·.a)) 1 0 (fun x d=>by obtain⟨p,c,rfl⟩:=ax.1 d;have:=h p c;omega) (by omega) (by decide)
  exact⟨a,cf b (e _ (by simpa using hl))⟩
 ·obtain⟨a,b⟩:=Sv (l.map (·.b)) 1 0 (fun x d=>by obtain⟨p,c,rfl⟩:=ax.1 d;have:=h p c;omega) (by omega) (by decide)
  exact⟨a,cf b (e _ (by simpa using hl))⟩
def ak5 (a b:Nat)(h:0<b):(0<=(zU a b).n/\(zU a b).n<=a)/\1<=(zU a b).d/\(zU a b).d<=b:=by
 have h1:=bi a (a6 a b);have h2:=bi b (a6 a b);have c:0<b / a6 a b:=Nat.div_pos (Nat.le_of_dvd h (Nat.gcd_dvd_right a b)) (bL _ h);exact⟨⟨Int.natCast_nonneg _,cg.2 h1⟩,cg.2 c,cg.2 h2⟩
def Ho (hl:l.length<=3)(h:∀p∈l,(4<=p.a/\p.a<=60)/\4<=p.b/\p.b<=60):(0<=(bQ l).n/\(bQ l).n<=216000)/\1<=(bQ l).d/\(bQ l).d<=216000:=by
 obtain⟨⟨c,e⟩,b1,f⟩:=Mc hl h;have:=ak5 (jX (l.map (·.a)) 1).natAbs (jX (l.map (·.b)) 1).natAbs (by omega);simp only[bQ];omega
def adW (l:List Pr)(hl:l.length<=3)(h:∀p∈l,(4<=p.a/\p.a<=60)/\4<=p.b/\p.b<=60):Pure C 182 [sF (l.map Pr.dv)] (.d (bQ l).dv) []:=by
 obtain⟨⟨t,u⟩,b1,w⟩:=Mc hl h;have j:=VB (l.map (·.a)) (by simp;omega) (fun x m=>by obtain⟨p,g,rfl⟩:=ax.1 m;have:=h p g;omega) (by omega);have k:=VB (l.map (·.b)) (by simp;omega) (fun x m=>by obtain⟨p,g,rfl⟩:=ax.1 m;have:=h p g;omega) (by omega);obtain⟨na,e⟩:∃n:Nat,jX (l.map (·.a)) 1=n:=⟨(jX (l.map (·.a)) 1).toNat,by omega⟩
 obtain⟨nb,f⟩:∃n:Nat,jX (l.map (·.b)) 1=n:=⟨(jX (l.map (·.b)) 1).toNat,by omega⟩
 refine ah F5 Pz ?_;simp only[F5,Pz,Y,RN,H,U];refine aG l.length (fun i (v:Nat)=>⟨[(2, .ptr 0 0),(3, .tsl 0 v 0),(4, .tsl 1 v 0),(7, .d (sF (l.map Pr.dv))),(8,pI l.length),(9,pI i)],
   ⟨[some [pI 0,pI 0]],[],[some ⟨1,((l.take i).map (·.a)).map au,v,0⟩,some ⟨1,((l.take i).map (·.b)).map au,v,0⟩]⟩⟩)
  (fun i v=>True) 0 0 (aD _) rfl trivial (fun i v h1 _=> ?_) (fun v _=> ?_)
 ·obtain⟨h2,r,s⟩:=rng h1 (by omega)
  have c:(l.take i).length<=1073741823:=by simp;omega
  simp only[h2,r,h1,s,kP,getD_map,ae,Y,fD,fits_int,forall_eq,DV.strip,jH,RN,H,J,S,U,V];refine⟨by simp,c,by simp,c,?_⟩;refine fC 1 2 (v+1) h1 ?_ trivial (by simp) (by simp) rfl rfl;rw[aU h1];simp[au]
 ·rw[cm]
  simp only[aq,RN,H];refine P8 rfl j rfl ?_;refine P8 rfl k rfl ?_;simp only[e,f];refine eG rfl rfl (afG na nb (by omega) (by omega) (by omega)) ?_;have o:(jX (l.map (·.a)) 1).natAbs=na:=by omega
  have q:(jX (l.map (·.b)) 1).natAbs=nb:=by omega
  simp only[bQ,o,q,bK,RN,J,V]
def agK {a b:Fr}(h1:0<=a.n/\a.n<=216000)(h2:1<=a.d/\a.d<=216000)(c:b.ok=true):(0<=b.n/\b.n<=50000)/\(1<=b.d/\b.d<=50000)/\(0<=a.n*b.d/\a.n*b.d<=10800000000)/\0<=b.n*a.d/\b.n*a.d<=10800000000:=by
 simp only[Fr.ok,inR,ab,decide_eq_true_eq,ge_iff_le]at c;obtain⟨⟨e,f⟩,l,g⟩:=c;have h:=am h1.2 g (by omega) (by omega);have i:=ap h1.1 (show 0<=b.d by omega);have j:=am f h2.2 (by omega) (by omega);have k:=ap e (show 0<=a.d by omega);omega
def aeG (a b:Fr)(h1:0<=a.n*b.d/\a.n*b.d<=4000000000000000000)(h2:0<=b.n*a.d/\b.n*a.d<=4000000000000000000):Pure C 264 [a.dv,b.dv] (pI (Ym a b)) []:=by
 have c:cE .i64 (a.n*b.d)=a.n*b.d:=aB (by omega);have e:cE .i64 (b.n*a.d)=b.n*a.d:=aB (by omega);have f:cE .i64 (a.n*b.d - b.n*a.d)=a.n*b.d - b.n*a.d:=aB (by omega);refine ah BM aK ?_;simp only[BM,aK,bK,c,e,f,Ym,RN,H,J,V]
def af7 (l:List Pr)(f:Fr)(hl:l.length<=3)(h:∀p∈l,(4<=p.a/\p.a<=60)/\4<=p.b/\p.b<=60)(hf:f.ok=true):Pure C 186 [sF (l.map Pr.dv),f.dv] (.d (kK l f).dv) []:=by
 obtain⟨t1,t2⟩:=Ho hl h;obtain⟨q,j,k,m⟩:=agK t1 t2 hf;have e:=adW l hl h;have c:=aeG (bQ l) f (by omega) (by omega);have g:cE .i64 (Ym (bQ l) f*21600)=Ym (bQ l) f*21600:=aB (by simp only[Ym];omega);have n:=am t2.2 j.2 (by omega) (by omega);have o:=ap (show 0<=(bQ l).d by omega) (show 0<=f.d by omega);have i:cE .i64 ((bQ l).d*f.d)=(bQ l).d*f.d:=aB (by omega);refine ah BR Aq ?_;simp only[bK]at e c⊢;simp only[BR,Aq,RN,H,J];refine ak e ?_;(try simp only[RN,H,J,S,V]);refine ak c ?_;simp only[g,i,kK,RN,H,J,S,V]
def V8 {f:Fr}(hl:l.length<=3)(h:∀p∈l,(4<=p.a/\p.a<=60)/\4<=p.b/\p.b<=60)(hf:f.ok=true):((kK l f).n.natAbs<=233280000000000)/\1<=(kK l f).d/\(kK l f).d<=10800000000:=by
 obtain⟨t1,t2⟩:=Ho hl h;obtain⟨k,c,e,g⟩:=agK t1 t2 hf;have i:=am t2.2 c.2 (by omega) (by omega);have j:=am t2.1 c.1 (by omega) (by omega);simp only[kK,Ym];omega
def an0 (l:List Pr)(f:Fr)(turns:Int)(hl:l.length<=1000000):Pure C 93 [sF (l.map Pr.dv),f.dv,dI turns] (.d (.tup [dI (ab4 l f turns).1,dI (ab4 l f turns).2])) []:=by
 refine ah Lm Iy ?_;have b:=alD f;simp only[bK]at b⊢;simp only[Lm,Iy,RN,H,J]
 repeat' first
  |(refine ak (Vk l hl) ?_;try simp only[RN])
  |(refine ak (b) ?_;try simp only[RN])
  |(refine ak (alE turns) ?_;try simp only[RN])
  |(refine bF (by rfl) (fun a=> ?_) (fun a=> ?_)<;>simp only[a,RN,H,J,V])
  |(refine bM (by rfl) (fun a=> ?_) (fun a=> ?_)<;>simp only[a,RN,H,J,V])
 any_goals (simp_all[ab4];done)
 have h1:lI l=true:=by simp_all
 have h2:f.ok=true:=by simp_all
 have c:inR turns 0 10000=true:=by simp_all
 obtain⟨_,g,h⟩:=rO h1;obtain⟨m,p⟩:=V8 g h h2;have e:=af7 l f g h h2;simp only[bK]at e;have b1:((kK l f).n*turns).natAbs<=2332800000000000000:=by
  rw[Int.natAbs_mul];have:turns.natAbs<=10000:=by simp only[inR,ab,decide_eq_true_eq]at c;omega
  exact Nat.mul_le_mul m this
 have i:cE .i64 ((kK l f).n*turns)=(kK l f).n*turns:=aB (by omega);have o:=kU ((kK l f).n*turns) (kK l f).d;have j:cE .i64 (((kK l f).n*turns).tdiv (kK l f).d)=((kK l f).n*turns).tdiv (kK l f).d:=aB (by omega);have k:(kK l f).d≠0:=by omega
 refine ak e ?_;simp only[i,j,k,RN,H,J,S,V];simp only[ab4,h1,h2,c,b8,if_true,ab5]
def Ju (l:List Pr):Fr×Bool×Int:=if lI l then(bQ l,(l.length:Int).tmod 2==0,0)else(⟨0,0⟩,false,2)
def ajC (l:List Pr)(hl:l.length<=1000000):Pure C 90 [sF (l.map Pr.dv)] (.d (.tup [(Ju l).1.dv, .bool (Ju l).2.1,dI (Ju l).2.2])) []:=by
 refine ah FZ al0 ?_;simp only[FZ,al0,RN,H];refine ak (Vk l hl) ?_;cases h1:lI l
 ·(try simp only[RN,H,J,V])
  simp[Ju,h1,bK]
 ·obtain⟨_,b,c⟩:=rO h1
  have a:=adW l b c;simp only[bK]at a;(try simp only[RN,H]);refine ak a ?_;simp only[Y,RN,J,V];simp[Ju,h1,bK]
def Il:aA:=(s0 [ba 1 0 0,ag 2 2,ag 3 1,mi 4 0] 1 [1] [1] (sw (sr [lw 11 2 1,oa 12 (.aj 89) 11,oa 13 pN 12] 0 [1,13] (cd 13 (sr [ag 2 2,ag 3 1,mi 4 2] 0 [2,3,4] .ret) .skip)) (sr [on 14 (.build [z0,z0] [(0,1),(1,1)]) [kI 1,kI 1],oa 15 (.oK 2 [.agg [z0,z0]] [0]) 14,on 16 (.oK 1 [.bool false] [0]) [.c (.bool true)],mv 5 15,mv 6 16] 0 [1,5,6] (sw (sr [fa 17 0 1,lo 18 17,oa 19 .len 18,mi 20 0] 0 [1,5,6,19,20] (lp (sr [ob 21 pL 20 19] 0 [1,5,6,19,20,21] (sw (cx 21 0) (sw (b1 (sr [mv 22 20,mv 7 22] 0 [1,5,6,7,19,20] (s0 [lw 24 2 1,mv 25 7,oi 26 pA 25 1,ob 27 (.aj 91) 24 26,oa 28 (.aj 90) 27,mv 23 28,xa 29 0 23,xa 30 1 23,xa 31 2 23,al 8 0 [z0,z0],sk 2 8 29 0,mv 9 30,mv 10 31] 1 [1,5,6,8,9,19,20] [8] (rg [mv 32 5,lw 33 2 8,oa 34 (.dV 2 [.agg [z0,z0]] [0]) 33,ob 35 (.app 2 false) 32 34,mv 36 6,mv 37 9,oa 38 (.dV 1 [.bool false] [0]) 37,ob 39 (.app 1 false) 36 38,mv 5 35,mv 6 39] 0 [1,5,6,19,20])))) (rg [oi 40 pA 20 1,mv 20 40] 0 [1,5,6,19,20])))))) (sr [mv 41 5,mv 42 6,mv 2 41,mv 3 42,mi 4 0] 0 [2,3,4] .ret)))))
def Ip:aA:=(s0 [ba 4 0 0,ba 6 1 2,mi 8 0,mi 9 0] 2 [1,3,4,6] [4,6] (sw (sr [lw 10 2 4,oa 11 (.aj 89) 10,oa 12 pN 11,mv 13 12,ow 14 .mov 1 13 0,ow 15 (.fld 1) 4 13 0,lq 16 15 13,ow 17 .len 16 13 0,oF 18 pU [.t 17,kI 1] 13 0,oF 19 (.aj 92) [.t 14,kI 0,.t 18] 13 0,ow 20 pN 19 13 0,pt 21 13 20] 0 [1,3,4,6,21] (cd 21 (sr [mi 8 0,mi 9 2] 0 [8,9] .ret) .skip)) (sw (r1 [ou 22 (.load true 2) 4 1,fu 23 1 4 1,lv 24 23,mv 25 1,ob1 26 (.aS 1) 24 25 1,lv 27 26,ob 28 (.aj 91) 22 27,ou 29 (.load true 2) 6 1,mv 30 3,on 31 (.aj 93) [.t 28,.t 29,.t 30],xa 32 0 31,xa 33 1 31,mv 8 32,mv 9 33] 0 [8,9] []) .ret)))
def Io:aA:=(s0 [ba 2 0 0,mk 4 cS,mi 5 0] 1 [1,2] [2] (sw (sr [lw 6 2 2,oa 7 (.aj 89) 6,oa 8 pN 7,mv 9 8,ow 10 .mov 1 9 0,ow 11 (.fld 0) 2 9 0,lq 12 11 9,ow 13 .len 12 9 0,oF 14 (.aj 92) [.t 10,kI 1,.t 13] 9 0,ow 15 pN 14 9 0,pt 16 9 15] 0 [1,2,16] (cd 16 (sr [mk 4 cS,mi 5 2] 0 [4,5] .ret) .skip)) (sr [lw 17 2 2,mv 18 1,ob 19 (.aj 91) 17 18,mv 4 19,mi 5 0] 0 [4,5] .ret)))
def Lh:aA:=(s0 [ba 1 0 0,mi 2 0,mi 3 0,mi 4 0] 1 [1] [1] (sw (sr [fa 10 0 1,lo 11 10,oa 12 (.aj 94) 11,oa 13 pN 12,mv 14 13,ow 15 (.fld 1) 1 14 0,lq 16 15 14,oF 17 (.aj 92) [.t 16,kI 0,kI 1000] 14 0,ow 18 pN 17 14 0,pt 19 14 18,mv 20 19,ow 21 (.fld 2) 1 20 0,lq 22 21 20,oF 23 (.aj 92) [.t 22,kI 0,kI 40] 20 0,ow 24 pN 23 20 0,pt 25 20 24,mv 26 25,ow 27 (.fld 3) 1 26 0,lq 28 27 26,oF 29 (.aj 92) [.t 28,kI 0,kI 100] 26 0,ow 30 pN 29 26 0,pt 31 26 30,mv 32 31,ow 33 (.fld 4) 1 32 0,lq 34 33 32,oF 35 (.aj 92) [.t 34,kI 0,kI 100] 32 0,ow 36 pN 35 32 0,pt 37 32 36,mv 38 37,ow 39 (.fld 5) 1 38 0,lq 40 39 38,oF 41 (.aj 92) [.t 40,kI 0,kI 1000000] 38 0,ow 42 pN 41 38 0,pt 43 38 42] 0 [1,43] (cd 43 (sr [mi 2 0,mi 3 0,mi 4 2] 0 [2,3,4] .ret) .skip)) (sr [ag 5 1] 0 [1,5] (sw (sr [fa 44 0 1,lo 45 44,oa 46 .len 45,mi 47 0] 0 [1,5,45,46,47] (lp (sr [ob 48 pL 47 46] 0 [1,5,45,46,47,48] (sw (cx 48 0) (sw (b1 (sr [ix 49 1 45 47,lo 50 49,mv 7 50] 0 [1,5,7,45,46,47] (rg [mv 51 5,mv 52 7,mv 53 7,ob 54 pM 52 53,oa 55 (.dV 1 [z0] [0]) 54,ob 56 (.app 1 false) 51 55,mv 5 56] 0 [1,5,45,46,47]))) (rg [oi 57 pA 47 1,mv 47 57] 0 [1,5,45,46,47])))))) (sw (r1 [mv 58 5,oa 59 (.jE 96) 58,fu 60 1 1 1,lv 61 60,ob 62 pM 59 61,oi 63 (.aj 95) 62 100,fu 64 2 1 1,lv 65 64,fu 66 3 1 1,lv 67 66,ob 68 pM 65 67,ob 69 pA 63 68,mv 8 69] 0 [1,8] []) (sr [mv 70 8,mv 71 8,fa 72 4 1,lo 73 72,ob 74 pM 71 73,oi 75 (.aj 95) 74 100,ob 76 pA 70 75,mv 9 76] 0 [1,9] (sw (r1 [mv 77 9,mv 78 9,fu 79 5 1 1,lv 80 79,ob 81 pU 78 80,mv 2 77,mv 3 81,mi 4 0] 0 [2,3,4] []) .ret)))))))
def Ew:aA:=(s0 [ba 1 0 0,mf 2 false] 1 [1] [1] (sw (sr [fa 5 0 1,lo 6 5,oa 7 .len 6,on 8 (.aj 92) [.t 7,kI 1,kI 5],oa 9 pN 8,mv 10 9,ow 11 (.fld 1) 1 10 0,lq 12 11 10,ow 13 .len 12 10 0,oF 14 (.aj 92) [.t 13,kI 1,kI 4] 10 0,ow 15 pN 14 10 0,pt 16 10 15] 0 [1,16] (cd 16 (sr [mf 2 false] 0 [2] .ret) .skip)) (sw (sr [fa 17 0 1,lo 18 17,oa 19 .len 18,mi 20 0] 0 [1,18,19,20] (lp (sr [ob 21 pL 20 19] 0 [1,18,19,20,21] (sw (cx 21 0) (sw (b1 (s0 [mv 22 20,ix 23 3 18 20,lw 24 3 23,al 4 0 [z0,z0,z0],mv 3 22,sk 3 4 24 0] 1 [1,3,4,18,19,20] [4] (sw (r1 [fu 25 0 4 1,lv 26 25,mv 27 3,on 28 (.aj 92) [.t 26,kI 0,.t 27],oa 29 pN 28,mv 30 29,ow 31 (.fld 1) 4 30 1,ow 32 (.load true 2) 31 30 1,ow 33 (.aj 177) 32 30 0,ow 34 pN 33 30 0,pt 35 30 34,mv 36 35,ow 37 (.fld 0) 1 36 1,ow 38 ld 37 36 1,ow 39 .mov 3 36 0,obF 40 (.zV 3 false true false) 38 39 36 1,ow 41 (.fld 0) 4 36 1,ow 42 ld 41 36 1,obF 43 (.aj 178) 40 42 36 0,oF 44 (.bin .geq) [.t 43,kI 3] 36 0,pt 45 36 44] 0 [1,18,19,20,45] []) (cd 45 (sr [mf 2 false] 0 [2] .ret) .skip)))) (rg [oi 46 pA 20 1,mv 20 46] 0 [1,18,19,20])))))) (sr [fa 47 1 1,lo 48 47,oa 49 (.mkF (.func 180) 0) 1,ob 50 (.aj 179) 48 49,oa 51 pN 50,mv 2 51] 0 [2] .ret))))
def ED:aA:=(s0 [ba 2 0 0,mk 4 cS] 1 [1,2,4] [2] (sr [al 5 0 [zs]] 1 [1,2,4,5] (sw (sr [fa 7 0 2,lo 8 7,mv 9 1,ob 10 (.aj 183) 8 9] 0 [2,4,5,10] (.block 0 (.uQ (.t 10) [11] [2,5] (rg [mv 6 11] 0 [2,5,6]) (b1 (r1 [ou 12 ld 5 2,fu 13 0 2 1,lv 14 13,mv 15 6,ob1 16 (.aS 3) 14 15 1,fu 17 1 16 1,ou 18 (.load true 2) 17 1,ou 19 (.dV 2 [.agg [z0,z0]] [0]) 18 1,ob 20 (.app 2 true) 12 19,sk 1 5 20 0] 0 [] []))))) (sr [lo 21 5,mv 4 21] 0 [4] .ret))))
def BK:aA:=(sr [mf 2 false] 0 [0] (sr [mv 3 0,oa 4 .len 3,oi 5 (.bin .leq) 4 8,mv 6 5,ov 7 .mov 0 6 0,ot 8 (.aj 179) [.t 7,.c (.func (.func 187) [] [])] 6 0,ov 9 pN 8 6 0,pf 10 6 9,mv 2 10] 0 [2] .ret))
def Sm:aA:=(sr [mi 4 0] 0 [0,1] (sr [mv 5 0,mv 6 1,ob 7 pA 5 6,oi 8 pU 7 1,mv 9 1,ob 10 (.bin .quo) 8 9,mv 4 10] 0 [4] .ret))
def Ap:aA:=(sr [mi 2 0] 0 [0] (sr [mi 3 0] 0 [0,3] (sw (sr [mv 6 0,oa 7 .len 6,mi 8 0] 0 [3,6,7,8] (lp (sr [ob 9 pL 8 7] 0 [3,6,7,8,9] (sw (cx 9 0) (sw (b1 (sr [ix 10 1 6 8,lo 11 10,mv 5 11] 0 [3,5,6,7,8] (rg [mv 12 3,mv 13 5,ob 14 pA 12 13,mv 3 14] 0 [3,6,7,8]))) (rg [oi 15 pA 8 1,mv 8 15] 0 [3,6,7,8])))))) (sr [mv 16 3,mv 2 16] 0 [2] .ret))))
def Et:aA:=(s0 [ba 5 0 0,ba 6 1 1,ba 7 2 2,ba 8 3 3,ba 9 4 4,mk 10 cS,mi 11 0] 5 [5,6,7,8,9] [5,6,7,8,9] (sw (sr [lw 18 2 5,oa 19 (.aj 89) 18,oa 20 pN 19,mv 21 20,lq 22 6 21,lq 23 7 21,obF 24 (.aj 242) 22 23 21 0,ow 25 pN 24 21 0,pt 26 21 25,mv 27 26,lq 28 7 27,lq 29 6 27,obF 30 pU 28 29 27 0,oF 31 pG [.t 30,kI 10] 27 0,pt 32 27 31,mv 33 32,lq 34 8 33,ow 35 (.fld 1) 5 33 0,lq 36 35 33,ow 37 .len 36 33 0,oF 38 pU [.t 37,kI 1] 33 0,oF 39 (.aj 92) [.t 34,kI 0,.t 38] 33 0,ow 40 pN 39 33 0,pt 41 33 40,mv 42 41,ow 43 (.load true 2) 9 42 0,ow 44 (.aj 243) 43 42 0,ow 45 pN 44 42 0,pt 46 42 45] 0 [5,6,7,8,9,46] (cd 46 (sr [mk 10 cS,mi 11 2] 0 [10,11] .ret) .skip)) (sw (r1 [ou 47 (.load true 2) 5 1,oa 48 (.aj 244) 47,fu 49 0 9 1,lv 50 49,fu 51 1 9 1,lv 52 51,ob 53 (.build [z0,z0] [(0,1),(1,1)]) 50 52,al 12 0 [zs,zs,zs],al 13 1 [z0,z0],sk 3 12 48 4,sk 2 13 53 5] 2 [5,6,7,8,12,13] [12,13]) (sr [al 14 0 [.nilFunc]] 1 [5,6,7,8,12,13,14] (sr [on 54 (.mkF (.func 245) 0) [.t 12,.t 8,.t 13,.t 5,.t 6,.t 7,.t 14],sk 1 14 54 0] 0 [5,14] (sw (sr [mi 55 0] 0 [5,14,55] (lp (sr [oi 56 pL 55 3] 0 [5,14,55,56] (sw (cx 56 0) (sw (b1 (sr [mv 57 55,mv 15 57] 0 [5,14,15,55] (sr [lo 59 14,lw 60 2 5,mv 61 15,on 62 .jR [.t 59,.t 60,kI 0,.t 61],mv 58 62,xa 63 0 58,xa 64 1 58,mv 16 63,mv 17 64] 0 [5,14,16,17,55] (sr [mv 65 17] 0 [5,14,16,55,65] (cd 65 (sr [mv 66 16,mv 10 66,mi 11 0] 0 [10,11] .ret) .skip))))) (rg [oi 67 pA 55 1,mv 55 67] 0 [5,14,55])))))) (sr [mk 10 cS,mi 11 5] 0 [10,11] .ret)))))))
def FX:aA:=(s0 [ba 1 0 0,mf 2 false] 1 [1] [1] (sr [fa 3 0 1,lo 4 3,oa 5 (.aj 188) 4,mv 6 5,ov 7 (.fld 1) 1 6 0,ov 8 ld 7 6 0,ov 9 (.aj 188) 8 6 0,pf 10 6 9,mv 2 10] 0 [2] .ret))
def Pj:aA:=(sr [mi 4 0] 0 [0,1,4] (sr [al 5 0 [z0],os (.store 1) [.t 5,kI 0] 0] 1 [0,1,4,5] (sw (sr [mv 6 0,mv 7 1,ob 8 (.aj 183) 6 7] 0 [4,5,8] (.block 0 (.uQ (.t 8) [9] [5] .skip (b1 (rg [lo 10 5,oi 11 pA 10 1,sk 1 5 11 0] 0 []))))) (sr [lo 12 5,mv 4 12] 0 [4] .ret))))
def Aj:aA:=(sr [mf 3 false] 0 [0,1] (sr [mv 4 0,fa 5 0 1,lo 6 5,oa 7 .len 6,on 8 (.aj 92) [.t 4,kI 1,.t 7],oa 9 pN 8,mv 3 9] 0 [3] .ret))
def Lj:aA:=(s0 [ba 2 0 0,ba 3 1 1,mk 4 (.c (.nilFunc))] 2 [2,3] [2,3] (sr [ob 5 (.mkF (.func 262) 0) 2 3,mv 4 5] 0 [4] .ret))
def zB:aA:=(sr [mf 2 false] 0 [0] (sr [mv 3 0,oa 4 (.aj 188) 3,oa 5 pN 4,mv 2 5] 0 [2] .ret))
def EC:aA:=(sr [mf 2 false] 0 [0] (sr [mv 3 0,on 4 (.aj 92) [.t 3,kI 4,kI 60],mv 2 4] 0 [2] .ret))
def Ik:aA:=(s0 [ba 1 0 0,mi 2 0] 1 [1] [1] (sw (sr [lw 3 2 1,oa 4 (.aj 89) 3,oa 5 pN 4] 0 [5] (cd 5 (sr [mi 2 2] 0 [2] .ret) .skip)) (sr [mi 2 0] 0 [2] .ret)))
def FW:aA:=(s0 [ba 2 0 0,ba 3 1 1,mk 4 cS,mi 5 0] 2 [2,3] [2,3] (sw (sw (r1 [ou 6 (.load true 2) 2 1,oa 7 (.aj 89) 6,oa 8 pN 7,mv 9 8,ow 10 (.fld 0) 3 9 1,ow 11 ld 10 9 1,ow 12 (.fld 0) 2 9 1,ow 13 ld 12 9 1,ow 14 .len 13 9 1,oF 15 pU [.t 14,kI 1] 9 0,oF 16 (.aj 92) [.t 11,kI 0,.t 15] 9 0,ow 17 pN 16 9 0,pt 18 9 17,mv 19 18,ow 20 (.fld 1) 3 19 1,ow 21 (.load true 2) 20 19 1,ow 22 (.aj 177) 21 19 0,ow 23 pN 22 19 0,pt 24 19 23,mv 25 24,ow 26 (.fld 1) 3 25 1,ow 27 (.load true 2) 26 25 1,ow 28 (.fld 0) 2 25 1,ow 29 ld 28 25 1,ow 30 (.fld 0) 3 25 1,ow 31 ld 30 25 1,obF 32 (.aS 3) 29 31 25 1,ow 33 (.fld 1) 32 25 1,ow 34 (.load true 2) 33 25 1,obF 35 (.AL false [1,1]) 27 34 25 0,pt 36 25 35] 0 [2,3,36] []) (cd 36 (sr [mk 4 cS,mi 5 2] 0 [4,5] .ret) .skip)) (sw (r1 [ou 37 (.load true 2) 2 1,oa 38 (.aj 244) 37,ou 39 (.load true 2) 2 1,ou 40 (.load true 3) 3 1,ob 41 (.aj 247) 39 40,oa 42 (.aj 244) 41,ob 43 (.aj 270) 38 42,mv 4 43,mi 5 0] 0 [4,5] []) .ret)))
def Ez:aA:=(sr [mf 4 false] 0 [0,1] (sr [mv 5 0,oa 6 (.aj 188) 5,mv 7 6,ov 8 .mov 1 7 0,ov 9 (.aj 188) 8 7 0,pf 10 7 9,mv 11 10,ov 12 .mov 0 11 0,ov 13 .mov 1 11 0,obT 14 (.bin .leq) 12 13 11 0,pf 15 11 14,mv 4 15] 0 [4] .ret))
def zC:aA:=(s0 [ba 1 0 0,mf 2 false] 1 [1] [1] (sr [fa 3 0 1,lo 4 3,on 5 (.aj 92) [.t 4,kI 0,kI 50000],mv 6 5,ov 7 (.fld 1) 1 6 0,ov 8 ld 7 6 0,ot 9 (.aj 92) [.t 8,kI 1,kI 50000] 6 0,pf 10 6 9,mv 2 10] 0 [2] .ret))
def Ll:aA:=(s0 [ba 1 0 0,al 2 1 [zs,zs,zs]] 2 [1,2] [1] (sr [lw 6 2 1,on 7 (.build [z0,z0] [(0,1),(1,1)]) [kI 1,kI 1],oa 8 (.oK 2 [.agg [z0,z0]] [0]) 7,ob 9 (.build [zs,zs,zs] [(0,2),(2,1)]) 6 8,al 3 0 [zs,zs,zs],sk 3 3 9 0] 1 [1,2,3] (sw (sr [fa 10 0 1,lo 11 10,oa 12 .len 11,mi 13 0] 0 [1,2,3,12,13] (lp (sr [ob 14 pL 13 12] 0 [1,2,3,12,13,14] (sw (cx 14 0) (sw (b1 (sr [mv 15 13,mv 4 15] 0 [1,2,3,4,12,13] (sw (r1 [fu 16 2 3 2,ou 17 ld 16 2,fu 18 0 1 1,lv 19 18,mv 20 4,ob1 21 (.aS 3) 19 20 1,fu 22 0 21 1,lv 23 22,ix 24 2 17 23,ou 25 (.load true 2) 24 3,al 5 0 [z0,z0],sk 2 5 25 4] 1 [1,2,3,4,5,12,13] [5]) (r1 [fu 26 2 3 2,ou 27 ld 26 2,fu 28 0 5 1,lv 29 28,fu 30 0 1 1,lv 31 30,mv 32 4,ob1 33 (.aS 3) 31 32 1,fu 34 1 33 1,fu 35 0 34 1,lv 36 35,ob 37 pM 29 36,fu 38 1 5 1,lv 39 38,fu 40 0 1 1,lv 41 40,mv 42 4,ob1 43 (.aS 3) 41 42 1,fu 44 1 43 1,fu 45 1 44 1,lv 46 45,ob 47 pM 39 46,ob 48 (.build [z0,z0] [(0,1),(1,1)]) 37 47,ou 49 (.dV 2 [.agg [z0,z0]] [0]) 48 1,ob 50 (.app 2 false) 27 49,fu 51 2 3 2,sk 1 51 50 0] 0 [1,2,3,12,13] [])))) (rg [oi 52 pA 13 1,mv 13 52] 0 [1,2,3,12,13])))))) (sr [lw 53 3 3,sk 3 2 53 0] 0 [2] .ret))))
def nR:aA:=(s0 [ba 10 0 0,ag 13 3,mf 14 false] 1 [1,2,3,4,5,6,7,8,9,10] [10] (sw (sr [mv 21 2,oi 22 pE 21 0] 0 [1,2,3,4,5,6,7,8,9,10,22] (cd 22 (sw (r1 [ou 23 (.load true 3) 3 1,ou 24 (.load true 2) 10 1,oa 25 (.aj 244) 24,lv 26 4,ou 27 (.load true 2) 5 1,on 28 (.aj 246) [.t 23,.t 25,.t 26,.t 27],ag 13 3,mv 14 28] 0 [13,14] [13]) .ret) .skip)) (sw (sr [mv 29 1,mv 15 29] 0 [2,6,7,8,9,10,15] (lp (sw (sr [mv 30 15,fa 31 0 6,lo 32 31,oa 33 .len 32,ob 34 pL 30 33] 0 [2,6,7,8,9,10,15,34] (cx 34 0)) (sw (b1 (sr [lo 37 7,mv 16 37] 0 [2,6,7,8,9,10,15,16] (.block 2 (.loop (sw (sr [mv 38 16,lo 39 8,ob 40 (.bin .leq) 38 39] 0 [2,6,7,8,9,10,15,16,40] (cx 40 2)) (sw (.block 3 (sr [lo 43 7,mv 17 43] 0 [2,6,7,8,9,10,15,16,17] (.block 4 (.loop (sw (sr [mv 44 17,lo 45 8,ob 46 (.bin .leq) 44 45] 0 [2,6,7,8,9,10,15,16,17,46] (cx 46 4)) (sw (.block 5 (s0 [mv 49 15,mv 50 16,mv 51 17,ob 52 (.build [z0,z0] [(0,1),(1,1)]) 50 51,ob 53 (.build [z0,z0,z0] [(0,1),(1,2)]) 49 52,al 18 0 [z0,z0,z0],sk 3 18 53 0] 1 [2,6,7,8,9,10,15,16,17,18] [18] (sw (sw (r1 [fu 54 1 18 1,ou 55 (.load true 2) 54 1,fu 56 0 6 1,lv 57 56,mv 58 15,ob1 59 (.aS 3) 57 58 1,fu 60 1 59 1,ou 61 (.load true 2) 60 1,ob 62 (.AL false [1,1]) 55 61] 0 [2,6,7,8,9,10,15,16,17,18,62] []) (cd 62 (.exit 5) .skip)) (sw (r1 [ou 64 ld 9 2,ou 65 (.load true 2) 10 1,ou 66 (.load true 3) 18 1,ob 67 (.aj 247) 65 66,mv 68 15,oi 69 pA 68 1,mv 70 2,oi 71 pU 70 1,on 72 .jR [.t 64,.t 67,.t 69,.t 71],mv 63 72,xa 73 0 63,xa 74 1 63,mv 19 73,mv 20 74] 0 [2,6,7,8,9,10,15,16,17,18,19,20] []) (sr [mv 75 20] 0 [2,6,7,8,9,10,15,16,17,18,19,75] (cd 75 (s0 [lw 76 3 18,oa 77 (.dV 3 [.agg [z0,z0,z0]] [0]) 76,mv 78 19,ob 79 (.app 3 false) 77 78,mv 13 79,mf 14 true] 0 [13,14] [13,13] .ret) .skip)))))) (rg [mv 47 17,oi 48 pA 47 1,mv 17 48] 0 [2,6,7,8,9,10,15,16,17]))))))) (rg [mv 41 16,oi 42 pA 41 1,mv 16 42] 0 [2,6,7,8,9,10,15,16]))))))) (rg [mv 35 15,oi 36 pA 35 1,mv 15 36] 0 [2,6,7,8,9,10,15]))))) (s0 [ag 13 3,mf 14 false] 0 [13,14] [13] .ret))))
def yt:aA:=(s0 [ba 4 0 0,ba 5 1 1,ba 7 2 3,mf 8 false] 3 [2,4,5,7] [4,5,7] (sw (sw (r1 [fu 10 2 5 1,lv 11 10,fu 12 0 4 1,fu 13 1 12 1,lv 14 13,mv 15 2,ob1 16 (.aS 1) 14 15 1,lv 17 16,ob1 18 (.aS 2) 11 17 1,ou 19 (.load true 2) 18 1,ou 20 (.load true 2) 7 1,ob 21 (.aj 291) 19 20,oa 22 pN 21] 0 [2,4,5,22] []) (cd 22 (sr [mf 8 false] 0 [8] .ret) .skip)) (sr [lw 23 3 4,lw 24 3 5,ob 25 (.aj 270) 23 24,mv 9 25] 0 [2,9] (sr [mv 26 9,oa 27 .len 26,oi 28 pE 27 0,mv 29 28,ow 30 .mov 9 29 0,ow 31 .len 30 29 0,oF 32 pE [.t 31,kI 1] 29 0,ow 33 .mov 32 29 0,ov 34 .mov 9 33 0,ot 35 (.aS 1) [.t 34,kI 0] 33 0,ov 36 ld 35 33 0,ov 37 .mov 2 33 0,obT 38 pE 36 37 33 0,oF 39 .pick [.t 33,.t 38,.c (.bool false)] 29 0,pt 40 29 39,mv 8 40] 0 [8] .ret))))
def Eu:aA:=(s0 [ba 2 0 0,ba 3 1 1,al 4 2 [zs,zs]] 3 [2,3,4] [3] (sr [fa 5 0 2,lo 6 5,oa 7 (.uO 202) 6,fa 8 0 2,sk 1 8 7 0] 0 [2,3,4] (sr [fa 9 0 2,lo 10 9,fa 11 0 3,lo 12 11,fa 13 1 3,lw 14 2 13,ix 15 3 10 12,fa 16 1 15,sk 2 16 14 0] 0 [2,4] (sr [lw 17 2 2,sk 2 4 17 0] 0 [4] .ret))))
def FY:aA:=(sr [ba 3 0 0] 1 [1,2,3] (sr [al 4 0 [.nilFunc]] 1 [1,2,3,4] (sr [on 5 (.mkF (.func 263) 0) [.t 4,.t 1,.t 3],sk 1 4 5 0] 0 [2,4] (rg [lo 6 4,lo 7 2,ob 8 .jR 6 7] 0 []))))
def wK:aA:=(sr [mf 5 false] 0 [0,1,2,3] (sw (sr [mv 6 0,oi 7 pE 6 0] 0 [0,1,2,3,7] (cd 7 (sr [mf 5 true] 0 [5] .ret) .skip)) (sw (r1 [ou 8 ld 1 2,lv 9 2,mv 10 0,oi 11 pU 10 1,ob1 12 (.aS 3) 9 11 1,fu 13 0 12 1,lv 14 13,ob 15 .jR 8 14,mv 16 15,ov 17 ld 3 16 2,ov 18 .mov 0 16 0,ot 19 pU [.t 18,kI 1] 16 0,obT 20 .jR 17 19 16 0,pf 21 16 20,mv 5 21] 0 [5] []) .ret)))
def xC:aA:=(s0 [ba 2 0 0,ba 3 1 1,ag 4 1] 2 [2,3] [2,3] (sr [ag 5 1] 0 [2,3,5] (sw (sr [fa 8 0 2,fa 9 1 8,lo 10 9,oa 11 .len 10,mi 12 0] 0 [2,3,5,10,11,12] (lp (sr [ob 13 pL 12 11] 0 [2,3,5,10,11,12,13] (sw (cx 13 0) (sw (b1 (sr [mv 14 12,ix 15 1 10 12,lo 16 15,mv 6 14,mv 7 16] 0 [2,3,5,6,7,10,11,12] (sw (r1 [fu 17 2 2 1,lv 18 17,mv 19 7,ob1 20 (.aS 2) 18 19 1,ou 21 (.load true 2) 20 1,fu 22 2 3 1,lv 23 22,mv 24 7,ob1 25 (.aS 2) 23 24 1,ou 26 (.load true 2) 25 1,ob 27 (.aj 291) 21 26,oa 28 pN 27] 0 [2,3,5,6,10,11,12,28] []) (cd 28 (rg [mv 29 5,mv 30 6,oa 31 (.dV 1 [z0] [0]) 30,ob 32 (.app 1 true) 29 31,mv 5 32] 0 [2,3,5,10,11,12]) .skip)))) (rg [oi 33 pA 12 1,mv 12 33] 0 [2,3,5,10,11,12])))))) (sr [mv 34 5,mv 4 34] 0 [4] .ret))))
def Ak:aA:=(s0 [ba 2 0 0,ba 3 1 1,mf 4 false] 2 [2,3] [2,3] (sr [fa 5 0 2,lo 6 5,fa 7 1 3,lo 8 7,ob 9 pM 6 8,fa 10 0 3,lo 11 10,fa 12 1 2,lo 13 12,ob 14 pM 11 13,ob 15 pE 9 14,mv 4 15] 0 [4] .ret))
def BJ:aA:=(s0 [ba 2 0 0,ba 3 1 1,mk 4 cS,mi 5 0] 2 [2,3] [2,3] (sw (sw (r1 [ou 6 (.load true 2) 2 1,oa 7 (.aj 89) 6,oa 8 pN 7,mv 9 8,ow 10 (.fld 0) 3 9 1,ow 11 ld 10 9 1,ow 12 (.fld 0) 2 9 1,ow 13 ld 12 9 1,ow 14 .len 13 9 1,oF 15 pU [.t 14,kI 1] 9 0,oF 16 (.aj 92) [.t 11,kI 0,.t 15] 9 0,ow 17 pN 16 9 0,pt 18 9 17,mv 19 18,ow 20 (.fld 1) 3 19 1,ow 21 (.load true 2) 20 19 1,ow 22 (.aj 177) 21 19 0,ow 23 pN 22 19 0,pt 24 19 23,mv 25 24,ow 26 (.fld 1) 3 25 1,ow 27 (.load true 2) 26 25 1,ow 28 (.fld 0) 2 25 1,ow 29 ld 28 25 1,ow 30 (.fld 0) 3 25 1,ow 31 ld 30 25 1,obF 32 (.aS 3) 29 31 25 1,ow 33 (.fld 1) 32 25 1,ow 34 (.load true 2) 33 25 1,obF 35 (.AL false [1,1]) 27 34 25 0,pt 36 25 35] 0 [2,3,36] []) (cd 36 (sr [mk 4 cS,mi 5 2] 0 [4,5] .ret) .skip)) (sw (r1 [ou 37 (.load true 2) 2 1,oa 38 (.aj 244) 37,ou 39 (.load true 2) 2 1,ou 40 (.load true 3) 3 1,ob 41 (.aj 247) 39 40,oa 42 (.aj 244) 41,ob1 43 (.uO 270) 38 42 1,mv 4 43,mi 5 0] 0 [4,5] []) .ret)))
end Go.Tel
namespace Go.Am
def Cm {α:Type}{l:List α}{x:α}:(l++ [x])[l.length]?=some x:=by simp
def P7 {α:Type}{l:List α}{x y:α}:(l++ [x]).set l.length y=l++ [y]:=by simp
def JI {C:Ctx}{base:Nat}{M:Mem}{K:PV->Mem->Prop}{KP:DV->Mem->Prop}{f:FuncId}{fs cs args:List PV}(hc:callable C.P f=true)(h:SC C f (fs++args++cs) M K KP):ay C base .jR (.func (.func f) fs cs::args) M K KP:=⟨hc,h⟩
def no:Nat->Prop:=fun _=>False
def Kept.LQ {n:Nat}{own wJ:Nat->Prop}{bs:List (Option (List PV))}{fz:List Nat}{ar ar':List (Option Arr)}{i:Nat}{x:Option (List PV)}(hi:i<n)(ho:¬own i)(hl:ar.length<=ar'.length)(b:∀k,wJ k->ar'[k]?=ar[k]?):
  Kept n own wJ ⟨bs,fz,ar⟩ ⟨bs.set i x,fz,ar'⟩:=
 ⟨by simp,hl,fun j a _=>by
  have:i≠j:=by rintro rfl;exact a.elim (fun h=>by omega) ho
  simp[this],fun _ _ _=>cw,b,fun h j a=>by simpa using h j a⟩
end Go.Am
namespace Go.Tel
open Go.Am
def nDV (n:Nat):List DV:=[dI n]
def vK (ls:List Lk):Nat->Nat->List Nat
 |0,_=>[]
 | _+1,0=>[]
 |k+1,a+1=>vK ls k (ls.getD a default).fr.toNat++ [a]
def fP (ls:List Lk)(a:Nat):List Nat:=vK ls a a
def linked (ls:List Lk):Prop:=∀i,i<ls.length->0<=(ls.getD i default).fr/\(ls.getD i default).fr<=i
variable{ls:List Lk}
def ab9 (h:linked ls):∀(k a:Nat),a<=k->a<=ls.length->vK ls k a=vK ls a a:=by
 intro k a
 induction a using bk generalizing k with
 |ind a c=>
  intro b f
  match a,k,b with
  |0,0,_=>rfl
  |0,k+1,_=>rfl
  |a+1,k+1,b=>
   have e:=h a (by omega);have d:(ls.getD a default).fr.toNat<=a:=by omega
   simp only[vK];rw[c _ (by omega) k (by omega) (by omega),c _ (by omega) a (by omega) (by omega)]
def oM (h:linked ls){a:Nat}(b:a<ls.length):fP ls (a+1)=fP ls (ls.getD a default).fr.toNat++ [a]:=by
 have d:=h a b;have c:(ls.getD a default).fr.toNat<=a:=by omega
 simp only[fP,vK];rw[ab9 h _ _ (by omega) (by omega)]
def RP (h:linked ls):∀{a:Nat},a<=ls.length->∀i∈fP ls a,i<a:=by
 intro a
 induction a using bk with
 |ind a c=>
  intro b i hi
  match a,b,c with
  |0,_,_=>simp[fP,vK]at hi
  |a+1,b,c=>
   rw[oM h b]at hi;have d:=h a b
   rcases bj.1 hi with hi|hi
   ·have:=c _ (by omega) (by omega) i hi;omega
   ·simp only[bt]at hi;omega
def Nz (h:linked ls):∀{a:Nat},a<=ls.length->(fP ls a).length<=a:=by
 intro a
 induction a using bk with
 |ind a c=>
  intro b
  match a,b,c with
  |0,_,_=>simp[fP,vK]
  |a+1,b,c=>
   rw[oM h b,az,aw];have d:=h a b;have:=c (ls.getD a default).fr.toNat (by omega) (by omega);omega
section
variable {ls:List Lk}{n b bw bv:Nat}{R:List (List DV)->Mem->Prop}{stop:Mem->Prop}{KP:DV->Mem->Prop}{xs:List (List DV)}
def ajm (ls:List Lk)(bw bv:Nat):PV:= .func (.func 263) [] [.ptr bw 0, .d (.aV [sF (ls.map Lk.dv)]), .ptr bv 0]
structure MF (ls:List Lk) (b bw bv:Nat) (M:Mem):Prop where
 w:M.boxes[bw]?=some (some [.func (.func 263) [] [.ptr bw 0, .d (.aV [sF (ls.map Lk.dv)]), .ptr bv 0]])
 v:M.boxes[bv]?=some (some [.qg b])
def MF.kept {M M':Mem}(h:MF ls b bw bv M)(a:n<=bw)(hv:n<=bv)(hk:Kept n no no M M'):MF ls b bw bv M':=
 ⟨(hk.box bw (.inl a) (ai.1 h.w).1).trans h.w,(hk.box bv (.inl hv) (ai.1 h.v).1).trans h.v⟩
def ah4 (k:linked ls)(hl:ls.length<=1000000)(G:n<=bw)(hv:n<=bv)
  (mD:∀pre x c e,xs=pre++x::c->n<=e.boxes.length->R pre e->SY C b (x.map .d) e (fun p M'=>Kept n no no e M'/\((p= .d (.bool true)/\R (pre++ [x]) M')\/(p= .d (.bool false)/\stop M'))) KP):
  ∀(a:Nat) (pre c:List (List DV)) (e:Mem),a<=ls.length->xs=pre++((fP ls a).map nDV++c)->MF ls b bw bv e->R pre e->
   SC C 263 [pI a, .ptr bw 0, .d (.aV [sF (ls.map Lk.dv)]), .ptr bv 0] e
    (fun p M'=>MF ls b bw bv M'/\((p= .d (.bool true)/\R (pre++(fP ls a).map nDV) M')\/(p= .d (.bool false)/\stop M'))) KP:=by
 intro a
 induction a using bk with
 |ind a s=>
  intro pre c e w f O E;refine aC wK acz ?_;obtain⟨bs,fz,ar⟩:=e;obtain⟨m,t⟩:=O;simp only at m t;have l1:=(ai.1 m).1;have l2:=(ai.1 t).1
  match a,w,f,s with
  |0,w,f,s=>
   simp only[wK,acz,Int.natCast_zero,BEq.rfl,RN,H,J];exact⟨⟨m,t⟩, .inl (by simpa[fP,vK]using E)⟩
  |a+1,w,f,s=>
   have z:(((a+1:Nat):Int)==0)=false:=by simp;omega
   have D:cE .i64 (((a+1:Nat):Int) - 1)=(a:Int):=by rw[aB (by omega)];omega
   have S:=k a (by omega);have y:a<ls.length:=by omega
   obtain⟨q,F⟩:∃q:Nat,(ls.getD a default).fr=q:=⟨(ls.getD a default).fr.toNat,by omega⟩
   have l:fP ls (a+1)=fP ls q++ [a]:=by rw[oM k (by omega),F];rfl
   rw[l,aE,cj]at f;have N:(0:Int)<=(a:Int):=by omega
   simp only[wK,acz,z,m,l1,D,N,y,getD_map,ae,Y,qh,F,RN,H,J,V];refine JI (args:=[_]) (cs:=[_,_,_]) (by kernel_rfl) ?_;refine SC.mono (s q (by omega) pre _ _ (by omega) f ⟨m,t⟩ E) ?_;rintro p ⟨h,i,g⟩ ⟨⟨o,r⟩,A⟩;simp only at o r
   rcases A with⟨rfl,u⟩|⟨rfl,B⟩
   ·simp only[r,l2,D,RN,H,V]
    refine Bf ?_;have Q:=mD (pre++(fP ls q).map nDV) (nDV a) c ⟨h,i,g⟩ (by rw[f];simp) (Nat.le_of_lt (Nat.lt_of_le_of_lt G (ai.1 o).1)) u;refine SY.mono Q ?_;rintro p ⟨K,L,I⟩ ⟨P,A⟩;have j:=MF.kept (M:=⟨h,i,g⟩) ⟨o,r⟩ G hv P
    rcases A with⟨rfl,v⟩|⟨rfl,B⟩
    ·(try simp only[RN])
     exact⟨j, .inl (by rw[l,aE,<-cj];exact v)⟩
    ·(try simp only[RN])
     exact⟨j, .inr B⟩
   ·(try simp only[RN,H])
    exact⟨⟨o,r⟩, .inr B⟩
end
variable{ls:List Lk}
def Vy (g:linked ls)(hl:ls.length<=1000000)(a:Nat)(m:a<=ls.length):
  UF C 262 [] [.d (.aV [sF (ls.map Lk.dv)]), .d (.aV [dI a])] ((fP ls a).map nDV) no no no (fun _=>True):=by
 rintro⟨bs,fz,ar⟩ b n R stop K KP o _ i f _ j mD k c e;simp only at i f;refine aC FY gY ?_;have q:(bs++ [some [PV.qg b]]).length∉fz:=fun h=>by have:=f _ h;simp at this;omega
 simp only[FY,gY,Cm,P7,oh,cells_func,aaZ,YR,Zj,q,RN,H,J,V];refine JI (args:=[_]) (cs:=[_,_,_]) (by kernel_rfl) ?_;refine SC.mono (ah4 (bw:=(bs++ [some [PV.qg b]]).length) (bv:=bs.length) g hl (by simp;omega) i mD a [] [] _ m (by simp) ⟨by simp,by simp⟩ (j _ _ _ ?_ k)) ?_
 ·have:=Moved.ext (own:=no) (fz:=fz) (ar:=ar) (xb:=[some [PV.qg b],some [ajm ls (bs++ [some [PV.qg b]]).length bs.length]]) (xf:=[]) i (by simp)
  simpa[ajm]using this
 ·rintro p M' ⟨⟨u,t⟩,r⟩
  have hl:=(ai.1 t).1
  rcases r with⟨rfl,l⟩|⟨rfl,s⟩
  ·exact e _ _ (by omega) (by simpa using l)
  ·exact c _ _ s
def ah3 (ls:List Lk)(a:Int):Pure C 183 [sF (ls.map Lk.dv),dI a] (.d (.func (.func 262) [] [.aV [sF (ls.map Lk.dv)], .aV [dI a]])) []:=by
 refine ah Lj aK ?_;simp only[Lj,aK,RN,H,J]
def an7 (ls:List Lk)(c:linked ls)(hl:ls.length<=1000)(a:Nat)(j:a<=ls.length):Pure C 178 [sF (ls.map Lk.dv),dI a] (pI ((fP ls a).length)) []:=by
 refine ah Pj aK ?_;simp only[Pj,aK,RN,H,J,V];refine ak (ah3 ls a) ?_;have o:=Nz c j;refine sG (Vy c (by omega) a j) (fun _ h=>h) rfl (by kernel_rfl) (by simp) (fun x g=>by obtain⟨i,_,rfl⟩:=ax.1 g;rfl) (fun _ h=>h.elim) (fun _ _=>trivial)
  (fun pre M=>M.boxes[0]?=some (some [pI pre.length])/\0∉M.fz) ?_ ⟨rfl,by simp⟩ ?_ ?_
 ·rintro pre q r k ⟨h1,h2⟩
  exact⟨(k.box 0 (by simp) id).trans h1,fun h=>h2 ((k.fz 0 (by simp) id).1 h)⟩
 ·rintro L cells pre x m ⟨bs,fz,ar⟩ g d b f ⟨h1,h2⟩ p
  simp only[aw]at d b f h1 h2⊢;have l:pre.length<=1000:=by
   have:=congrArg cC g;simp at this;omega
  have e:0<bs.length:=by omega
  obtain⟨i,s,rfl⟩:∃i,i∈fP ls a/\nDV i=x:=by
   have:x∈(fP ls a).map nDV:=by rw[g];simp
   simpa using this
  have n:cE .i64 ((pre.length:Int)+1)=((pre++ [nDV i]).length:Int):=by rw[aB (by omega)];simp
  simp only[h1,h2,n,wS,nDV,bu,bB,RN,H,J,V];exact⟨by simpa using b,f,Kept.set (M:=⟨bs,fz,ar⟩) (by omega) id,by simp[e]⟩
 ·rintro⟨bs,fz,ar⟩ ⟨h1,h2⟩ d
  simp only at h1;simp only[h1,RN,H,V];simp
def aP (ls:List Lk)(a:Nat):List Pr:=(fP ls a).map fun i=>(ls.getD i default).pr
def acQ (p:Pc)(f:linked p.links)(hl:p.links.length<=1000)(a:Nat)(u:a<=p.links.length)(T:0<a):SC C 91 ([p.dv,dI a].map .d) cu (fun v M=>Jv M v 2 ((aP p.links a).map Pr.dv) 1) (fun _ _=>False):=by
 refine aC ED aK ?_;simp only[ED,aK,dA,RN,H,J,V];refine ak (ah3 p.links a) ?_;have I:=Nz f u;refine sG (Vy f (by omega) a u) (fun _ h=>h) rfl (by kernel_rfl) (by simp) (fun x t=>by obtain⟨i,_,rfl⟩:=ax.1 t;rfl) (fun _ h=>h.elim) (fun _ _=>trivial)
  (fun pre M=>∃(l:List Nat) (v:PV),pre=l.map nDV/\M.boxes[1]?=some (some [v])/\1∉M.fz/\((l=[]/\v= .d (.slice true []))\/(l≠[]/\Jv M v 2 ((l.map fun i=>(p.links.getD i default).pr).map Pr.dv) 1))) ?_ ⟨[],_,rfl,rfl,by simp, .inl ⟨rfl,rfl⟩⟩ ?_ ?_
 ·rintro pre Q R A ⟨l,v,h1,h2,m,n⟩
  refine⟨l,v,h1,(A.box 1 (by simp) id).trans h2,fun h=>m ((A.fz 1 (by simp) id).1 h),n.imp id fun⟨K,k,ver,N,O⟩=>⟨K,k,ver,N,by rw[A.aF];exact O⟩⟩
 ·rintro L cells pre x E ⟨bs,fz,ar⟩ t s e j ⟨l,v,rfl,h1,h2,m⟩ P
  simp only[a7,bX]at s e j h1 h2 m⊢;have D:l.length<=1000:=by
   have:=congrArg cC t;simp at this;omega
  have c:1<bs.length:=by omega
  obtain⟨i,F,rfl⟩:∃i,i∈fP p.links a/\nDV i=x:=by
   have:x∈(fP p.links a).map nDV:=by rw[t];simp
   simpa using this
  have q:i<p.links.length:=by have:=RP f u i F;omega
  have o:(0:Int)<=(i:Int):=by omega
  have alX:∀y,(bs.set 1 y)[2]?=bs[2]?:=fun y=>by simp
  have g:∀y,(bs.set 1 y)[1]?=some y:=fun y=>by simp[c]
  rcases m with⟨rfl,rfl⟩|⟨G,k,ver,rfl,B⟩
  ·simp only[h1,h2,c,o,q,getD_map,ae,Y,qh,DV.strip,wS,nDV,bu,bB,JL,forall_eq,dX,fB,RN,H,J,U,V]
   refine⟨by simp,by simp,by rw[alX];exact e,j,Kept.LQ (by omega) id (by simp) (fun _ h=>h.elim),[i],_,rfl,g _, .inr ⟨by simp,ar.length,0,rfl,by simp[kP]⟩⟩
  ·have z:=(ai.1 B).1
   have r:l.length<=1073741823:=by omega
   simp only[h1,h2,c,o,q,B,getD_map,ae,Y,qh,DV.strip,wS,nDV,bu,bB,JL,forall_eq,dX,fB,RN,H,J,S,U,V];refine⟨by simp,by simpa using r,by rw[alX];exact e,j,Kept.LQ (by omega) id (by simp) (fun _ h=>h.elim),l++ [i],_,by simp[nDV],g _, .inr ⟨by simp,k,ver+1,rfl,by simp[z,kP]⟩⟩
 ·rintro⟨bs,fz,ar⟩ ⟨l,v,h1,h2,m,n⟩ s
  simp only at h2;simp only[h2,RN,H,V];have w:(fP p.links a)=l:=(List.map_inj_right (fun x y h=>by simp only[nDV,List.cons.injEq,DV.int.injEq,true_and,and_true,Int.natCast_inj]at h;exact h)).1 h1
  rcases n with⟨rfl,_⟩|⟨_,n⟩
  ·obtain⟨b,rfl⟩:∃b,a=b+1:=⟨a - 1,by omega⟩
   rw[oM f (by omega)]at w;simp at w
  ·rw[aP,w];exact n
def NT (p:Pc)(b:linked p.links)(hl:p.links.length<=1000)(a:Nat)(e:a<=p.links.length)(c:0<a):Pure C 91 [p.dv,dI a] (.d (sF ((aP p.links a).map Pr.dv))) []:=
 bG (SC.mono (acQ p b hl a e c) fun _ _ h=>h.datum)
def nM (pre:List Lk)(l:Lk):Bool:=inR l.fr 0 pre.length&&l.pr.ok&& !decide ((fP pre l.fr.toNat).length>=3)
def jZ:List Lk->List Lk->Bool
 | _,[]=>true
 |pre,l::ls=>nM pre l&&jZ (pre++ [l]) ls
def Pc.ok (p:Pc):Bool:=inR p.links.length 1 5&&inR p.hands.length 1 4&&jZ [] p.links&&p.hands.all (fun n=>inR n 1 p.links.length)
def Gp (n l h:Int):Pure C 92 [dI n,dI l,dI h] (.d (.bool (inR n l h))) []:=AU n l h
def TR (n:Int):Pure C 188 [dI n] (.d (.bool (aI n))) []:=by
 refine ah EC aN ?_;simp only[EC,aN,RN,H]
 repeat' first
  |(refine ak (Gp _ _ _) ?_;try simp only[RN,H,J,N,S,U,V])
  |(refine bF (by rfl) (fun a=> ?_) (fun a=> ?_)<;>simp only[a,RN,H,J,N,S,U,V])
  |(refine bM (by rfl) (fun a=> ?_) (fun a=> ?_)<;>simp only[a,RN,H,J,N,S,U,V])
 all_goals(first|(simp only[aI, *,BSN];done)|(simp_all[aI];done)|(simp_all[aI];omega))
def alv (f:Fr):Pure C 243 [f.dv] (.d (.bool f.ok)) []:=by
 refine ah zC aN ?_;simp only[zC,aN,bK,RN,H,J,V]
 repeat' first
  |(refine ak (Gp _ _ _) ?_;try simp only[bK,RN,H,J,N,S,U,V])
  |(refine bF (by rfl) (fun a=> ?_) (fun a=> ?_)<;>simp only[a,RN,H,J,V])
  |(refine bM (by rfl) (fun a=> ?_) (fun a=> ?_)<;>simp only[a,bK,RN,H,J,N,S,U,V])
 all_goals(first|(simp only[Fr.ok, *,BSN];done)|(simp_all[Fr.ok];done)|(simp_all[Fr.ok];omega))
def XG (p:Pr):Pure C 177 [p.dv] (.d (.bool p.ok)) []:=by
 refine ah FX aN ?_;simp only[FX,aN,kP,RN,H,J,V]
 repeat' first
  |(refine ak (TR _) ?_;try simp only[kP,RN,H,J,N,S,U,V])
  |(refine bF (by rfl) (fun a=> ?_) (fun a=> ?_)<;>simp only[a,RN,H,J,V])
  |(refine bM (by rfl) (fun a=> ?_) (fun a=> ?_)<;>simp only[a,kP,RN,H,J,N,S,U,V])
 all_goals(first|(simp only[Pr.ok, *,BSN];done)|(simp_all[Pr.ok];done)|(simp_all[Pr.ok];omega))
def abH (p:Pc)(n:Int):Pure C 180 [dI n, .aV [sF (p.links.map Lk.dv),sF (p.hands.map au)]] (.d (.bool (!inR n 1 p.links.length))) []:=by
 refine ah Aj Xv ?_;simp only[Aj,Xv,Y,RN,H,J,V];refine ak (Gp _ _ _) ?_;(try simp only[RN])
variable{pre:List Lk}{l:Lk}
def Je (h:linked pre)(h1:0<=l.fr)(h2:l.fr<=pre.length):linked (pre++ [l]):=by
 intro i b;simp only[az,aw]at b
 by_cases a:i<pre.length
 ·have:=h i a
  simpa[Z,aL a]using this
 ·have:i=pre.length:=by omega
  subst this;simp[Z];omega
def Xc (h:nM pre l=true):(0<=l.fr/\l.fr<=pre.length)/\l.pr.ok=true/\(fP pre l.fr.toNat).length<3:=by
 simp only[nM,inR,ab,decide_eq_true_eq,ce,decide_eq_false_iff_not,ge_iff_le]at h;obtain⟨⟨h1,h2⟩,a⟩:=h;exact⟨h1,h2,by omega⟩
def wF (p:Pc)(hl:p.links.length<=1000)(hh:p.hands.length<=1000):Pure C 89 [p.dv] (.d (.bool p.ok)) []:=by
 refine ah Ew aN ?_;simp only[Ew,aN,dA,Y,RN,H,J,V]
 repeat' first
  |(refine ak (Gp _ _ _) ?_;try simp only[RN])
  |(refine bF (by rfl) (fun c=> ?_) (fun c=> ?_)<;>simp only[c,Y,RN,H,J,V])
  |(refine bM (by rfl) (fun c=> ?_) (fun c=> ?_)<;>simp only[c,Y,RN,H,J,V])
 any_goals (simp_all[Pc.ok];done)
 have r:inR p.links.length 1 5=true:=by simp_all
 have c:inR p.hands.length 1 4=true:=by simp_all
 have s:p.links.length<=5:=by simp only[inR,ab,decide_eq_true_eq]at r;omega
 have m:p.ok=(jZ [] p.links&&p.hands.all (fun n=>inR n 1 p.links.length)):=by simp[Pc.ok,r,c]
 rw[m];refine aG p.links.length (fun i (_:Unit)=>⟨[(1, .d (.aV [sF (p.links.map Lk.dv),sF (p.hands.map au)])),(18, .d (sF (p.links.map Lk.dv))),(19,pI p.links.length),(20,pI i)],
   ⟨[some [.d (sF (p.links.map Lk.dv)), .d (sF (p.hands.map au))]],[0],[]⟩⟩)
  (fun i _=>jZ [] p.links=jZ (p.links.take i) (p.links.drop i)/\linked (p.links.take i)) 0 () (aD _) rfl ⟨by simp,fun i u=>by simp at u⟩ (fun i _ h1 a=> ?_) (fun _ a=> ?_)
 ·obtain⟨h2,o,t⟩:=rng h1 (by omega)
  obtain⟨a,g⟩:=a;have k:(p.links.take i).length=i:=by simp;omega
  rw[drop_cons h1,jZ]at a;simp only[h2,o,h1,getD_map,ae,Y,qh,RN,H,J,S,V];refine ak (Gp _ _ _) ?_;cases e:inR (p.links.getD i default).fr 0 (i:Int)
  ·(try simp only[RN,H,J])
   have:nM (p.links.take i) (p.links.getD i default)=false:=by simp only[nM,k,e,br]
   rw[a,this];rfl
  ·have j:=XG (p.links.getD i default).pr
   simp only[kP]at j;(try simp only[RN,H,J,V]);refine ak j ?_;cases f:(p.links.getD i default).pr.ok
   ·(try simp only[RN,H,J])
    have:nM (p.links.take i) (p.links.getD i default)=false:=by simp only[nM,f,cq,br]
    rw[a,this];rfl
   ·have v:0<=(p.links.getD i default).fr/\(p.links.getD i default).fr<=i:=by simpa[inR]using e
    obtain⟨q,l⟩:∃q:Nat,(p.links.getD i default).fr=q:=⟨(p.links.getD i default).fr.toNat,by omega⟩
    have aoq:=an7 (p.links.take i) g (by omega) q (by omega);rw[List.map_take]at aoq;simp only[l,RN,H,J,V];rw[wz ahM o (by rw[Y];omega),ae];refine ak aoq ?_;cases b:decide (((fP (p.links.take i) q).length:Int)>=3)
    ·have am4:¬((fP (p.links.take i) q).length>=3):=by have:=of_decide_eq_false b;omega
     simp only[b,t,RN,H,J];have apr:inR (q:Int) 0 (i:Int)=true:=by rw[<-l];exact e
     have h:nM (p.links.take i) (p.links.getD i default)=true:=by simp only[nM,k,apr,f,l,ae,decide_eq_false am4,Bool.not_false,b8]
     rw[h,Bool.true_and,<-aU h1]at a;exact fC 1 0 () h1 rfl ⟨a,by rw[aU h1];exact Je g (by omega) (by omega)⟩ (by simp) (by simp) rfl rfl
    ·have am4:((fP (p.links.take i) q).length>=3):=by have:=of_decide_eq_true b;omega
     simp only[b,RN,H,J];have:nM (p.links.take i) (p.links.getD i default)=false:=by simp only[nM,l,ae,decide_eq_true am4,Bool.not_true,cq]
     rw[a,this];rfl
 ·obtain⟨a,_⟩:=a
  rw[av,jZ]at a;simp only[aq,RN,H,J,V];refine eG rfl rfl (tZ p.hands 180 [.aV [sF (p.links.map Lk.dv),sF (p.hands.map au)]] (fun n=> !inR n 1 p.links.length) (by omega) (by kernel_rfl) fun n _=>abH p n) ?_;simp only[Cj,RN];rw[a];simp
def G5 {ls ms:List Lk}(h:linked ls):∀(k a:Nat),a<=ls.length->vK (ls++ms) k a=vK ls k a
 |0,_,_=>rfl
 | _+1,0,_=>rfl
 |k+1,a+1,b=>by
  have e:(ls++ms).getD a default=ls.getD a default:=by
   simp[Z,aL (show a<ls.length by omega)]
  have c:=h a (by omega);simp only[vK,e];rw[G5 h k _ (by omega)]
def H7:∀{ls pre:List Lk},linked pre->(∀a,a<=pre.length->(fP pre a).length<=3)->(∀l∈pre,l.pr.ok=true)->jZ pre ls=true->
  linked (pre++ls)/\(∀a,a<=(pre++ls).length->(fP (pre++ls) a).length<=3)/\∀l∈pre++ls,l.pr.ok=true
 | [],pre,h1,h2,c,_=>by simpa using⟨h1,h2,c⟩
 |l::ls,pre,h1,h2,c,h=>by
  simp only[jZ,ab]at h;obtain⟨f,j,k⟩:=Xc h.1;have d:=Je h1 f.1 f.2;have:=H7 (ls:=ls) d (fun a i=> ?_) (fun x hx=> ?_) h.2
  ·simpa using this
  ·simp only[az,aw]at i
   by_cases b:a<=pre.length
   ·have e:fP (pre++ [l]) a=fP pre a:=by simp only[fP];exact G5 h1 a a b
    rw[e];exact h2 a b
   ·have:a=pre.length+1:=by omega
    subst this;rw[oM d (by simp)];have e:(pre++ [l]).getD pre.length default=l:=by simp[Z]
    have g:fP (pre++ [l]) l.fr.toNat=fP pre l.fr.toNat:=by simp only[fP];exact G5 h1 _ _ (by omega)
    rw[e,g];simp;omega
  ·rcases bj.1 hx with hx|hx
   ·exact c x hx
   ·simp only[bt]at hx;rw[hx];exact j
structure Pc.Good (p:Pc):Prop where
 l1:1<=p.links.length
 l2:p.links.length<=5
 h1:1<=p.hands.length
 h2:p.hands.length<=4
 lk:linked p.links
 short:∀a,a<=p.links.length->(fP p.links a).length<=3
 pr:∀l∈p.links,l.pr.ok=true
 hd:∀n∈p.hands,1<=n/\n<=p.links.length
variable{p:Pc}
def Pc.good (h:p.ok=true):p.Good:=by
 simp only[Pc.ok,inR,ab,decide_eq_true_eq,aM,ge_iff_le]at h;obtain⟨⟨⟨h1,h2⟩,f⟩,g⟩:=h;obtain⟨c,d,e⟩:=H7 (ls:=p.links) (pre:=[]) (fun i j=>by simp at j) (fun a b=>by simp at b;subst b;simp[fP,vK]) (by simp) f;simp only[a8]at c d e;exact⟨by omega,by omega,by omega,by omega,c,d,e,g⟩
def Pc.Good.al4 (h:p.Good){a:Nat}(c:a<=p.links.length)(e:0<a):lI (aP p.links a)=true:=by
 have h1:=h.short a c;obtain⟨b,rfl⟩:∃b,a=b+1:=⟨a - 1,by omega⟩
 have h2:1<=(fP p.links (b+1)).length:=by rw[oM h.lk c];simp
 simp only[lI,aP,inR,ab,decide_eq_true_eq,aM,Y,ax,ge_iff_le];refine⟨by omega,?_⟩;rintro x ⟨i,d,rfl⟩;have:=RP h.lk c i d;exact h.pr _ (getD_mem (by omega))
def ajt (p:Pc)(hl:p.links.length<=1000)(hh:p.hands.length<=1000):Pure C 197 [p.dv] (pI (if p.ok then 0 else 2)) []:=by
 refine ah Ik aN ?_;have a:=wF p hl hh;simp only[dA]at a⊢;simp only[Ik,aN,RN,H,J,V];refine ak a ?_;cases h:p.ok<;>(try simp only[RN])<;>rfl
variable{bs:List (Option (List PV))}{fz:List Nat}{ar:List (Option Arr)}{K:PV->Mem->Prop}{base:Nat}{KP:DV->Mem->Prop}{ds:List DV}
def yR {C:Ctx}{f:FuncId}{args:List PV}{ds':List DV}{r:PV}{rows:List Arr}(h1:ji args=some ds)(h2:ds.map DV.strip=ds')(c:Pure C f ds' r rows)(hs:∀A∈rows,A.st≠2)
  (b:K (r.shift ar.length) ⟨bs,fz,ar++rows.map some⟩):ay C base (.uO f) args ⟨bs,fz,ar⟩ K KP:=by
 have e:=Gw h1;subst e;have a:dL ⟨bs,fz,ar⟩ (ds.map .d)=some ds:=by
  clear h1 h2 c b
  induction ds with
  |nil=>rfl
  |cons d ds g=>simp only[bc,dL,datum,g]
 exact⟨ds,a,r,rows,h2▸c, .inr ⟨hs,by rw[EX];exact b⟩⟩
def ajB (p:Pc)(c:p.ok=true)(a:Nat)(g:0<a)(h:a<=p.links.length):Pure C 28 [p.dv,dI a] (.d (.tup [sF ((aP p.links a).map Pr.dv),dI 0])) []:=by
 have i:=Pc.good c;obtain⟨k,l,m,n,f,_⟩:=i;have b:=wF p (by omega) (by omega);have e:=NT p f (by omega) a h g;have j:inR (a:Int) 1 (p.links.length:Int)=true:=by simp[inR];omega
 refine ah Io bW ?_;simp only[dA]at b e⊢;simp only[Io,bW,RN,H,J,V];refine ak b ?_;simp only[c,Y,RN,H,J,V];refine ak (Gp _ _ _) ?_;simp only[j,RN,H,J,V];refine ak e ?_;(try simp only[RN])
def sN (p:Pc)(hand:Int)(f:Fr)(turns:Int):Int×Int:=
 if p.ok&&inR hand 0 (p.hands.length - 1)then ab4 (aP p.links (p.hands.getD hand.toNat default).toNat) f turns else(0,2)
def acZ (p:Pc)(hl:p.links.length<=1000)(hh:p.hands.length<=1000)(hand:Int)(f:Fr)(turns:Int):Pure C 27 [p.dv,dI hand,f.dv,dI turns] (.d (.tup [dI (sN p hand f turns).1,dI (sN p hand f turns).2])) []:=by
 have h:=wF p hl hh;have l:cE .i64 ((p.hands.length:Int) - 1)=(p.hands.length:Int) - 1:=aB (by omega);refine ah Ip Xt ?_;simp only[dA,bK]at h⊢;simp only[Ip,Xt,RN,H,J,V];refine ak h ?_;cases b:p.ok
 ·(try simp only[RN,H,J])
  simp[sN,b]
 ·have c:=Pc.good b
  simp only[Y,l,RN,H,J,V];refine ak (Gp _ _ _) ?_;cases e:inR hand 0 ((p.hands.length:Int) - 1)
  ·(try simp only[RN,H,J])
   simp[sN,b,e]
  ·have g:0<=hand/\hand<=(p.hands.length:Int) - 1:=by simpa[inR]using e
   have a:hand.toNat<p.hands.length:=by omega
   obtain⟨m,n⟩:=c.hd _ (getD_mem a);obtain⟨q,j⟩:∃q:Nat,p.hands.getD hand.toNat default=q:=⟨(p.hands.getD hand.toNat default).toNat,by omega⟩
   have k:=NT p c.lk hl q (by omega) (by omega);have i:=an0 (aP p.links q) f turns (by have:=c.short q (by omega);simp[aP];omega);simp only[dA,bK]at k i;simp only[g.1,a,getD_map,aH,Y,j,RN,H,J,V];refine ak k ?_;refine ak i ?_;(try simp only[RN]);simp only[sN,b,e,b8,if_true,j,ae]
def adl (xs:List Lk):∀y∈xs.map Lk.dv,y.fits 3=true:=by
 intro y a;obtain⟨n,_,rfl⟩:=ax.1 a;rfl
def Fa (xs:List Int):∀y∈xs.map au,y.fits 1=true:=by
 intro y a;obtain⟨n,_,rfl⟩:=ax.1 a;rfl
def GK {C:Ctx}{sz:Nat}{M:Mem}{z x:DV}(hx:x.strip.fits sz=true)(a:0<sz):ay C base (.oK sz [z] [0]) [.d x] M K KP=K (.tsl M.aF.length 0 0) {M with aF:=M.aF++ [some ⟨sz,[x.strip],0,1⟩]}:=by
 have b:x.strip.cells.length=sz:=by simp only[DV.fits,ab,beq_iff_eq]at hx;exact hx.1
 simp[ay,ji,vJ,b,hx,a]
def mulR (f:Fr)(p:Pr):Fr:=⟨f.n*p.a,f.d*p.b⟩
def rU:List Lk->List Fr->List Fr
 | [],a=>a
 |l::ls,a=>rU ls (a++ [mulR (a.getD l.fr.toNat default) l.pr])
def fJ (ls:List Lk):List Fr:=rU ls [⟨1,1⟩]
def Aw (a b:Fr):Bool:=a.n*b.d==b.n*a.d
def DI (l:List Fr):Prop:=∀i,i<l.length->(1<=(l.getD i default).n/\(l.getD i default).n<=60 ^ i)/\1<=(l.getD i default).d/\(l.getD i default).d<=60 ^ i
def ah5 {i j:Nat}(h:i<=j):(60:Int) ^ i<=60 ^ j:=by
 have:=Nat.pow_le_pow_right (show 60>0 by decide) h
 exact_mod_cast this
def Pq {c:List Fr}(h:DI c)(t:c≠[])(hf:0<=l.fr/\l.fr.toNat<c.length)(f:l.pr.ok=true):DI (c++ [mulR (c.getD l.fr.toNat default) l.pr]):=by
 intro i j;simp only[az,aw]at j
 by_cases d:i<c.length
 ·have:=h i d
  simpa[Z,aL d]using this
 ·have:i=c.length:=by omega
  subst this;have e:(c++ [mulR (c.getD l.fr.toNat default) l.pr]).getD c.length default=mulR (c.getD l.fr.toNat default) l.pr:=by simp[Z]
  rw[e];obtain⟨⟨m,n⟩,o,p⟩:=h _ hf.2;simp only[Pr.ok,aI,inR,ab,decide_eq_true_eq,ge_iff_le]at f;have k:l.fr.toNat+1<=c.length:=by omega
  have g:(60:Int) ^ (l.fr.toNat+1)<=60 ^ c.length:=ah5 k;rw[cz]at g;have q:=am n f.1.2 (by omega) (by omega);have r:=am p f.2.2 (by omega) (by omega);have b1:=am m (show 1<=l.pr.a by omega) (by omega) (by omega);have s:=am o (show 1<=l.pr.b by omega) (by omega) (by omega);simp only[mulR];omega
def Ir:∀{ls:List Lk} {a:List Fr},DI a->a≠[]->(∀i,i<ls.length->0<=(ls.getD i default).fr/\(ls.getD i default).fr<(a.length+i:Nat))->(∀l∈ls,l.pr.ok=true)->
  DI (rU ls a)/\(rU ls a).length=a.length+ls.length
 | [],a,h,_,_,_=>by simpa[rU]using h
 |l::ls,a,h,e,b,d=>by
  have c:=b 0 (by simp);simp only[List.getD_cons_zero]at c;obtain⟨g,j⟩:=Ir (ls:=ls) (Pq h e ⟨c.1,by omega⟩ (d l (by simp))) (by simp) (fun i k=>by
   have:=b (i+1) (by simp only[a7];omega);rw[List.getD_cons_succ]at this;rw[az,aw];omega) (fun x f=>d x (by simp[f]))
  refine⟨g,?_⟩;rw[rU,j];simp;omega
def VH:DI [⟨1,1⟩]:=by
 intro i a;have:i=0:=by simpa using a
 subst this;simp
def uT (h:linked ls)(b:∀l∈ls,l.pr.ok=true):DI (fJ ls)/\(fJ ls).length=ls.length+1:=by
 obtain⟨c,d⟩:=Ir (ls:=ls) VH (by simp) (fun i a=>by have:=h i a;rw[aw];omega) b;exact⟨c,by rw[fJ,d];simp;omega⟩
def uS (p:Pc):DV:= .agg [sF (p.links.map Lk.dv),sF (p.hands.map au),sF ((fJ p.links).map Fr.dv)]
def XO (p:Pc)(hl:p.links.length<=6)(hk:linked p.links)(u:∀l∈p.links,l.pr.ok=true):Pure C 244 [p.dv] (.d (uS p)) []:=by
 refine bG (aC Ll aix ?_);simp only[Ll,aix,dA,aeX,bI,cp,eU,ig,fB,GK (x:= .agg [dI 1,dI 1]) (sz:=2) rfl (by decide),DV.strip,Y,RN,H,J,S,V];refine aG p.links.length (fun i (a:List Fr×Nat)=>⟨[(1, .d (.aV [sF (p.links.map Lk.dv),sF (p.hands.map au)])),(2, .ptr 1 0),(3, .ptr 2 0),(12,pI p.links.length),(13,pI i)],
   ⟨[some [.d (sF (p.links.map Lk.dv)), .d (sF (p.hands.map au))],some [.d (.slice true []), .d (.slice true []), .d (.slice true [])],some [.d (sF (p.links.map Lk.dv)), .d (sF (p.hands.map au)), .tsl 0 a.2 0]],[0],[some ⟨2,a.1.map Fr.dv,a.2,1⟩]⟩⟩)
  (fun i a=>fJ p.links=rU (p.links.drop i) a.1/\DI a.1/\a.1.length=i+1) 0 ([⟨1,1⟩],0) (aD _) ?_ ⟨rfl,VH,rfl⟩ (fun i a h1 e=> ?_) (fun a e=> ?_)
 ·rfl
 ·obtain⟨h2,s,t⟩:=rng h1 (by omega)
  obtain⟨e,g,f⟩:=e;obtain⟨c,v⟩:=a;simp only at e g f;rw[drop_cons h1,rU]at e;obtain⟨o,A⟩:=hk i h1;have h:(p.links.getD i default).fr.toNat<c.length:=by omega
  have j:=u _ (getD_mem h1);obtain⟨⟨B,D⟩,E,F⟩:=g _ h;have m:=ah5 (show(p.links.getD i default).fr.toNat<=6 by omega);rw[show(60:Int) ^ 6=46656000000 by decide]at m;have anm:=j;simp only[Pr.ok,aI,inR,ab,decide_eq_true_eq,ge_iff_le]at anm;have w:=am (show(c.getD (p.links.getD i default).fr.toNat default).n<=46656000000 by omega) anm.1.2 (by omega) (by omega);have y:=am (show(c.getD (p.links.getD i default).fr.toNat default).d<=46656000000 by omega) anm.2.2 (by omega) (by omega);have b1:=ap (show 0<=(c.getD (p.links.getD i default).fr.toNat default).n by omega) (show 0<=(p.links.getD i default).pr.a by omega);have z:=ap (show 0<=(c.getD (p.links.getD i default).fr.toNat default).d by omega) (show 0<=(p.links.getD i default).pr.b by omega);have q:cE .i64 ((c.getD (p.links.getD i default).fr.toNat default).n*(p.links.getD i default).pr.a)=(c.getD (p.links.getD i default).fr.toNat default).n*(p.links.getD i default).pr.a:=aB (by omega);have r:cE .i64 ((c.getD (p.links.getD i default).fr.toNat default).d*(p.links.getD i default).pr.b)=(c.getD (p.links.getD i default).fr.toNat default).d*(p.links.getD i default).pr.b:=aB (by omega);have k:c.length<=1073741823:=by omega
  simp only[h2,h1,s,t,o,h,getD_map,qh,bK,ae,Y,DV.strip,JL,forall_eq,dX,fB,q,r,RN,H,J,N,S,U,V];refine⟨by simp,k,?_⟩;refine fC 3 1 (c++ [mulR (c.getD (p.links.getD i default).fr.toNat default) (p.links.getD i default).pr],v+1) h1 ?_ ⟨e,Pq g (by rintro rfl;simp at f) ⟨o,h⟩ j,by simp[f]⟩ (by simp) (by simp) rfl rfl;simp only[aE,bc,bp,bK,mulR]
  rfl
 ·obtain⟨e,g,f⟩:=e
  rw[av,rU]at e;simp only[aq,bI,cp,eU,ig,fB,RN,H,J,S,V];simp[datum,bY,dY,Mem.row,uS,e]
structure Chg where
 link:Int
 pr:Pr
 deriving DecidableEq,Inhabited
def Chg.dv (c:Chg):DV:= .agg [dI c.link,dI c.pr.a,dI c.pr.b]
variable{c:Chg}
def jI:c.dv= .agg [dI c.link,dI c.pr.a,dI c.pr.b]:=by rw[Chg.dv]
def Pc.changed (p:Pc)(c:Chg):Pc:={p with links:=p.links.set c.link.toNat ⟨(p.links.getD c.link.toNat default).fr,c.pr⟩}
def UQ (xs:List DV)(hf:∀y∈xs,y.fits 3=true)(hl:xs.length<=1000000)(a:xs≠[]):Pure C 202 [.slice false xs] (.tsl 0 0 0) [⟨3,xs,0,1⟩]:=by
 refine nI ng aN ?_;simp only[ng,aN,RN,H,U];refine⟨fun _=> ?_,fun b=>absurd b a⟩;exact⟨hf,a,by simp,by omega,Az (k:=1) (A:=⟨3,xs,0,1⟩) rfl rfl (aD _) rfl⟩
def zN {n k ver i off sz:Nat}{xs:List DV}{v:PV}{K:Mem->Prop}(h:ar[k]?=some (some ⟨sz,xs,ver,1⟩))(hv:ji v.cells=some ds)(a:0<n)(hl:ds.length=n)(h1:ds.all DV.one=true)(ho:off+n<=(xs.getD i default).cells.length)
  (b:K ⟨bs,fz,ar.set k (some ⟨sz,xs.set i (setCells (xs.getD i default) off ds),ver,1⟩)⟩):jP n (.jU k ver i off) v ⟨bs,fz,ar⟩ K:=by
 simp only[jP,Mem.row,h,if_true,hv];exact⟨trivial,a,hl,h1,ho,b⟩
def UN (p:Pc)(c:Chg)(hl:p.links.length<=1000)(a:0<=c.link)(h1:c.link.toNat<p.links.length):Pure C 247 [p.dv,c.dv] (.d (p.changed c).dv) []:=by
 refine bG (aC Eu Aq ?_);have b:p.links.map Lk.dv≠[]:=by intro h;simp at h;rw[h]at h1;simp at h1
 simp only[Eu,Aq,dA,jI,RN,H,J,V];refine yR rfl rfl (UQ _ (adl _) (by rw[Y];omega) b) (by simp) ?_;simp only[PV.shift,kY,dX,fB,List.not_mem_nil,a,h1,Y,RN,J,S,V];refine zN rfl rfl (by decide) rfl rfl (by rw[getD_map h1,qh];exact ao 3) ?_;simp only[getD_map h1,qh,setCells,bI,eU,ig,fB,RN,J,S,V];simp only[datum,bY,dY,Mem.row,Pc.changed,List.map_set,qh];simp
def xQ {α:Type}(l:List α):Nat:=bif l.isEmpty then 0 else 1
def ai5 {α:Type}{l:List α}{x:α}:xQ (l++ [x])=1:=by cases l<;>rfl
def He {α:Type}{l:List α}:xQ l≠2:=by cases l<;>simp[xQ]
def DJ (l:List Fr):Prop:=∀f∈l,(1<=f.n/\f.n<=777600000)/\1<=f.d/\f.d<=777600000
def SK (a b:Fr)(c:(1<=a.n/\a.n<=777600000)/\1<=a.d/\a.d<=777600000)(hb:(0<=b.n/\b.n<=777600000)/\1<=b.d/\b.d<=777600000):Pure C 291 [a.dv,b.dv] (.d (.bool (Aw a b))) []:=by
 have g:=am c.1.2 hb.2.2 (by omega) (by omega);have h:=ap (show 0<=a.n by omega) (show 0<=b.d by omega);have i:=am hb.1.2 c.2.2 (by omega) (by omega);have j:=ap (show 0<=b.n by omega) (show 0<=a.d by omega);have e:cE .i64 (a.n*b.d)=a.n*b.d:=aB (by omega);have f:cE .i64 (b.n*a.d)=b.n*a.d:=aB (by omega);refine ah Ak aK ?_;simp only[Ak,aK,bK,e,f,Aw,RN,H,J,V]
def DK (h:linked ls)(e:∀l∈ls,l.pr.ok=true)(hl:ls.length<=5):DJ (fJ ls):=by
 obtain⟨g,j⟩:=uT h e;intro f c;obtain⟨i,b,rfl⟩:=List.mem_iff_getElem.1 c;have d:(fJ ls).getD i default=(fJ ls)[i]:=by simp[Z,b]
 have:=g i b;rw[d]at this;have a:=ah5 (show i<=5 by omega);rw[show(60:Int) ^ 5=777600000 by decide]at a;omega
def vw (a b:List Fr):List Int->Nat->List Int
 | [],_=>[]
 |h::c,i=>(if Aw (a.getD h.toNat default) (b.getD h.toNat default)then[]else[(i:Int)])++vw a b c (i+1)
def LY (a b:List Fr):∀(hs:List Int) (i:Nat),(vw a b hs i).length<=hs.length
 | [],_=>ao _
 |h::hs,i=>by
  have:=LY a b hs (i+1);simp only[vw,az,a7]
  split<;>simp<;>omega
def Pc.lV (p q:Pc):List Int:=vw (fJ p.links) (fJ q.links) p.hands 0
def Tq (p q:Pc)(hh:p.hands.length<=1000)(u:DJ (fJ p.links))(h:DJ (fJ q.links))(t:∀n∈p.hands,1<=n/\n.toNat<(fJ p.links).length/\n.toNat<(fJ q.links).length):
  SC C 270 ([uS p,uS q].map .d) cu (fun v M=>Jv M v 1 ((p.lV q).map au) (xQ (p.lV q))) (fun _ _=>False):=by
 refine aC xC aK ?_;simp only[xC,aK,uS,Y,RN,H,J,U,V];refine aG p.hands.length (fun i (a:List Int×Nat)=>⟨[(2, .d (.aV [sF (p.links.map Lk.dv),sF (p.hands.map au),sF ((fJ p.links).map Fr.dv)])),(3, .d (.aV [sF (q.links.map Lk.dv),sF (q.hands.map au),sF ((fJ q.links).map Fr.dv)])),(5, .tsl 1 a.2 0),(10, .d (sF (p.hands.map au))),(11,pI p.hands.length),(12,pI i)],
   ⟨[some [.d (sF (p.links.map Lk.dv)), .d (sF (p.hands.map au)), .d (sF ((fJ p.links).map Fr.dv))],some [.d (sF (q.links.map Lk.dv)), .d (sF (q.hands.map au)), .d (sF ((fJ q.links).map Fr.dv))]],[1,0],[some ⟨1,[],0,0⟩,some ⟨1,a.1.map au,a.2,xQ a.1⟩]⟩⟩)
  (fun i a=>p.lV q=a.1++vw (fJ p.links) (fJ q.links) (p.hands.drop i) i/\a.1.length<=i) 0 ([],0) (aD _) rfl ⟨rfl,ao _⟩ (fun i a h1 b=> ?_) (fun a b=> ?_)
 ·obtain⟨h2,s,l⟩:=rng h1 (by omega)
  obtain⟨b,e⟩:=b;obtain⟨c,v⟩:=a;simp only at b e;rw[drop_cons h1,vw]at b;obtain⟨w,r,g⟩:=t _ (getD_mem h1);have k:0<=p.hands.getD i default:=by omega
  have o:=SK _ _ (u _ (getD_mem r)) ⟨⟨by have:=h _ (getD_mem g);omega,(h _ (getD_mem g)).1.2⟩,(h _ (getD_mem g)).2⟩;simp only[bK]at o;simp only[h2,h1,s,k,r,g,getD_map,aH,bK,ae,Y,RN,H,J,V];refine ak o ?_;cases m:Aw ((fJ p.links).getD (p.hands.getD i default).toNat default) ((fJ q.links).getD (p.hands.getD i default).toNat default)
  ·have f:c.length<=1073741823:=by omega
   have j:¬xQ c=2:=He;simp only[fD,DV.strip,fits_int,forall_eq,l,Y,j,RN,H,J,U,V];refine⟨by simp,f,?_⟩;rw[m]at b;refine dD (c++ [(i:Int)],v+1) h1 ?_ ⟨by simpa using b,by simp;omega⟩ (by simp) (by simp) rfl rfl;simp[ai5,au]
  ·simp only[l,RN,H,J]
   rw[m]at b;exact dD (c,v) h1 rfl ⟨by simpa using b,by simp only;omega⟩ (by simp) (by simp) rfl rfl
 ·obtain⟨b,e⟩:=b
  rw[av,vw,bS]at b;simp only[aq,RN,H,J];exact⟨1,a.2,rfl,by rw[b];rfl⟩
def Pc.EO (p:Pc)(c:Chg):Bool:=p.ok&&inR c.link 0 (p.links.length - 1)&&c.pr.ok&& !decide (c.pr=(p.links.getD c.link.toNat default).pr)
def adz {v x:Pr}:((v.a==x.a)&&(v.b==x.b))=decide (v=x):=by
 cases v;cases x;simp only[Pr.mk.injEq,Bool.decide_and];rfl
def CG (d:p.Good)(hc:c.pr.ok=true):(p.changed c).links.length=p.links.length/\linked (p.changed c).links/\(∀l∈(p.changed c).links,l.pr.ok=true):=by
 refine⟨by simp[Pc.changed],fun i a=> ?_,fun l e=> ?_⟩
 ·simp only[Pc.changed,cn]at a
  have:=d.lk i a
  by_cases b:c.link.toNat=i
  ·subst b
   simpa[Pc.changed,Z,a]using this
  ·simpa[Pc.changed,Z,ck,b]using this
 ·rcases List.mem_or_eq_of_mem_set e with h|h
  ·exact d.pr l h
  ·rw[h];exact hc
def aah (a:p.Good)(hc:c.pr.ok=true):DJ (fJ p.links)/\DJ (fJ (p.changed c).links)/\∀n∈p.hands,1<=n/\n.toNat<(fJ p.links).length/\n.toNat<(fJ (p.changed c).links).length:=by
 obtain⟨f,b,d⟩:=CG a hc;refine⟨DK a.lk a.pr a.l2,DK b d (by have:=a.l2;omega),fun n e=> ?_⟩;have h1:=(uT a.lk a.pr).2;have h2:=(uT b d).2;have:=a.hd n e;omega
def agh (p:Pc)(c:Chg)(h:p.EO c=true):Pure C 208 [p.dv,c.dv] (.tup [.tsl 0 0 0,pI 0]) [⟨1,(p.lV (p.changed c)).map au,0,xQ (p.lV (p.changed c))⟩]:=by
 simp only[Pc.EO,ab,ce,decide_eq_false_iff_not]at h;obtain⟨⟨⟨q,r⟩,l⟩,m⟩:=h;have d:=Pc.good q;have j:0<=c.link/\c.link<=(p.links.length:Int) - 1:=by simpa[inR]using r
 have f:c.link.toNat<p.links.length:=by have:=d.l1;omega
 have v:=d.l2;have u:=d.h2;have o:=wF p (by omega) (by omega);obtain⟨y,w,x⟩:=CG d l;obtain⟨r1,r2,r3⟩:=aah d l;have i:=XG c.pr;have s:=XO p (by omega) d.lk d.pr;have k:=XO (p.changed c) (by omega) w x;have e:=UN p c (by omega) j.1 f;have n:=Po (Tq p (p.changed c) (by omega) r1 r2 r3);generalize p.lV (p.changed c)=sp at n⊢;have t:cE .i64 ((p.links.length:Int) - 1)=(p.links.length:Int) - 1:=aB (by omega);have g:((c.pr.a==(p.links.getD c.link.toNat default).pr.a)&&(c.pr.b==(p.links.getD c.link.toNat default).pr.b))=false:=by rw[adz];simpa using m
 refine nI BJ bW ?_;simp only[dA,jI,kP,uS,Pc.changed]at o i s k e n⊢;simp only[BJ,bW,RN,H,J,V];refine ak o ?_;simp only[q,Y,t,RN,H,J,V];refine ak (Gp _ _ _) ?_;simp only[r,RN,H,J,V];refine ak i ?_;simp only[l,j.1,f,getD_map,qh,Y,QL,g,ac1,RN,H,J,V];refine ak s ?_;(try simp only[RN]);refine ak e ?_;(try simp only[RN,H,J,N,S,U,V]);refine ak k ?_;(try simp only[RN]);refine yR rfl rfl n (by simp[He]) ?_;simp only[PV.shift,kY,RN];refine⟨[(0,0)],⟨by simp[Ah],by simp⟩,?_,?_⟩
 ·simp[ji,aau,ren,ais,SS,Mem.row,LG]
 ·simp[mkRow]
def dN:List Int->Int->Int
 | [],p=>p
 |x::xs,p=>dN xs (p+x)
def adR {B:Int}:∀(l:List Int) (p:Int),(∀x∈l,0<=x/\x<=B)->0<=p->0<=dN l p/\dN l p<=p+l.length*B
 | [],p,_,h=>by simp[dN];omega
 |x::l,p,h,e=>by
  obtain⟨a,b⟩:=h x (by simp);obtain⟨d,f⟩:=adR l (p+x) (fun y c=>h y (by simp[c])) (by omega);refine⟨d,?_⟩;have:((l.length+1:Nat):Int)*B=l.length*B+B:=by rw[Int.natCast_add,Int.add_mul];simp
  rw[a7,this];simp only[dN];omega
def tJ:∀(l:List Int) (p:Int),(∀x∈l,0<=x)->p<=dN l p
 | [],_,_=>b5 _
 |x::l,p,h=>by
  have:=tJ l (p+x) fun y a=>h y (by simp[a])
  have:=h x (by simp);simp only[dN];omega
def anQ (l:List Int)(hl:l.length<=1000000)(hx:∀x∈l,0<=x)(hb:dN l 0<=9223372036854775807):Pure C 96 [sF (l.map au)] (pI (dN l 0)) []:=by
 refine ah Ap aN ?_;simp only[Ap,aN,Y,RN,H];refine aG l.length (fun i (p:Int)=>⟨[(3,pI p),(6, .d (sF (l.map au))),(7,pI l.length),(8,pI i)],⟨[],[],[]⟩⟩)
  (fun i p=>0<=p/\dN l 0=dN (l.drop i) p) 0 0 (aD _) rfl ⟨by omega,rfl⟩ (fun i p h1 a=> ?_) (fun p a=> ?_)
 ·obtain⟨h2,c,e⟩:=rng h1 hl
  obtain⟨f,a⟩:=a;rw[drop_cons h1,dN]at a;have g:=hx _ (getD_mem h1);have j:=tJ (l.drop (i+1)) (p+l.getD i default) (fun y h=>hx y (b7 h));have b:cE .i64 (p+l.getD i default)=p+l.getD i default:=aB (by omega);simp only[h2,c,h1,e,aH,getD_map,ae,Y,b,RN,H,V];exact dD (p+l.getD i default) h1 rfl ⟨by omega,a⟩ (by simp) (by simp) rfl rfl
 ·obtain⟨f,a⟩:=a
  rw[av,dN]at a;simp only[aq,a,RN,H]
def upI (a b:Int):Int:=(a+b - 1).tdiv b
def al2 (a b:Int)(g:0<=a/\a<=1000000000000000000)(hb:1<=b/\b<=1000000000000000000):Pure C 95 [dI a,dI b] (pI (upI a b)) []:=by
 have c:cE .i64 (a+b)=a+b:=aB (by omega);have d:cE .i64 (a+b - 1)=a+b - 1:=aB (by omega);have b1:=kU (a+b - 1) b;have e:cE .i64 ((a+b - 1).tdiv b)=(a+b - 1).tdiv b:=aB (by omega);have f:b≠0:=by omega
 refine ah Sm aK ?_;simp only[Sm,aK,c,d,e,f,upI,RN,H,J]
def XY (n:Int):Pure C 187 [dI n] (.d (.bool (!aI n))) []:=by
 refine ah zB aN ?_;simp only[zB,aN,RN,H];refine ak (TR n) ?_;(try simp only[RN])
def pY (l:List Int):Bool:=decide ((l.length:Int)<=8)&&l.all aI
def aaE (l:List Int)(hl:l.length<=1000000):Pure C 94 [sF (l.map au)] (.d (.bool (pY l))) []:=by
 refine ah BK aN ?_;simp only[BK,aN,Y,RN,H]
 repeat' first
  |(refine eG rfl rfl (tZ l _ [] (fun n=> !aI n) hl (by kernel_rfl) (fun n _=>XY n)) ?_;try simp only[RN])
  |(refine bF (by rfl) (fun a=> ?_) (fun a=> ?_)<;>simp only[a,RN,H])
  |(refine bM (by rfl) (fun a=> ?_) (fun a=> ?_)<;>simp only[a,Y,RN,H,J,N,S,U,V])
 all_goals(first|(rw[Cj])|skip)
 all_goals(first|(simp only[pY, *,BSN];done)|(simp_all[pY];done)|(simp_all[pY];omega))
structure Bil where
 dJ:List Int
 gG:Int
 hours:Int
 lW:Int
 pct:Int
 adv:Int
 deriving DecidableEq,Inhabited
def Bil.dv (b:Bil):DV:= .agg [sF (b.dJ.map au),dI b.gG,dI b.hours,dI b.lW,dI b.pct,dI b.adv]
variable{b:Bil}
def I5:b.dv= .agg [sF (b.dJ.map au),dI b.gG,dI b.hours,dI b.lW,dI b.pct,dI b.adv]:=by rw[Bil.dv]
def Bil.ok (b:Bil):Bool:=pY b.dJ&&inR b.gG 0 1000&&inR b.hours 0 40&&inR b.lW 0 100&&inR b.pct 0 100&&inR b.adv 0 1000000
def Bil.cost (b:Bil):Int:=upI (dN (b.dJ.map fun n=>n*n) 0*b.gG) 100+b.hours*b.lW
def Bil.price (b:Bil):Int:=b.cost+upI (b.cost*b.pct) 100
def Bil.Ue (b:Bil):Int×Int×Int:=if b.ok then(b.price,b.price - b.adv,0)else(0,0,2)
def Bil.facts (h:b.ok=true):(b.dJ.length<=8/\∀n∈b.dJ,4<=n/\n<=60)/\(0<=b.gG/\b.gG<=1000)/\(0<=b.hours/\b.hours<=40)/\(0<=b.lW/\b.lW<=100)/\(0<=b.pct/\b.pct<=100)/\0<=b.adv/\b.adv<=1000000:=by
 simp only[Bil.ok,pY,aI,inR,ab,decide_eq_true_eq,aM,ge_iff_le]at h;obtain⟨⟨⟨⟨⟨⟨h1,h2⟩,a⟩,c⟩,d⟩,e⟩,f⟩:=h;exact⟨⟨by omega,h2⟩,a,c,d,e,f⟩
def XL {a:Int}(b:0<=a):0<=upI a 100/\upI a 100<=a+99:=by
 have:upI a 100=(a+99) / 100:=by
  rw[upI,Int.tdiv_eq_ediv_of_nonneg (by omega)]
  congr 1
  omega
 rw[this];omega
def Bil.bds (h:b.ok=true):(0<=dN (b.dJ.map fun n=>n*n) 0/\dN (b.dJ.map fun n=>n*n) 0<=28800)/\(0<=dN (b.dJ.map fun n=>n*n) 0*b.gG/\dN (b.dJ.map fun n=>n*n) 0*b.gG<=28800000)/\
  (0<=b.hours*b.lW/\b.hours*b.lW<=4000)/\(0<=b.cost/\b.cost<=28805000)/\0<=b.cost*b.pct/\b.cost*b.pct<=2880500000:=by
 obtain⟨⟨h1,h2⟩,d,e,f,g,m⟩:=Bil.facts h;have s:=adR (B:=3600) (b.dJ.map fun n=>n*n) 0 (fun x k=>by
  obtain⟨n,j,rfl⟩:=ax.1 k;obtain⟨a,c⟩:=h2 n j;have:=am c c (by omega) (by omega);have:=ap (show 0<=n by omega) (show 0<=n by omega);omega) (b5 0)
 rw[Y]at s;have o:=am (show dN (b.dJ.map fun n=>n*n) 0<=28800 by omega) d.2 (by omega) (by omega);have l:=ap s.1 d.1;have p:=am e.2 f.2 (by omega) (by omega);have q:=ap e.1 f.1;have u:=XL l;have i:0<=b.cost/\b.cost<=28805000:=by simp only[Bil.cost];omega
 have r:=am i.2 g.2 (by omega) (by omega);have t:=ap i.1 g.1;omega
def af9 (b:Bil)(hl:b.dJ.length<=1000000):Pure C 29 [b.dv] (.d (.tup [dI b.Ue.1,dI b.Ue.2.1,dI b.Ue.2.2])) []:=by
 refine ah Lh adI ?_;simp only[Lh,adI,I5,RN,H,J,V]
 repeat' first
  |(refine ak (aaE b.dJ hl) ?_;try simp only[RN])
  |(refine ak (Gp _ _ _) ?_;try simp only[RN])
  |(refine bF (by rfl) (fun g=> ?_) (fun g=> ?_)<;>simp only[g,RN,H,J,V])
  |(refine bM (by rfl) (fun g=> ?_) (fun g=> ?_)<;>simp only[g,RN,H,J,U,V])
 any_goals (simp_all[Bil.Ue,Bil.ok];done)
 have f:b.ok=true:=by simp_all[Bil.ok]
 obtain⟨⟨h1,h2⟩,z,A,B,D,E⟩:=Bil.facts f;obtain⟨I,w,K,L,y⟩:=Bil.bds f;simp only[Y];refine aG b.dJ.length (fun i (v:Nat)=>⟨[(1, .d (.aV [sF (b.dJ.map au),dI b.gG,dI b.hours,dI b.lW,dI b.pct,dI b.adv])),(5, .tsl 0 v 0),(45, .d (sF (b.dJ.map au))),(46,pI b.dJ.length),(47,pI i)],
   ⟨[some [.d (sF (b.dJ.map au)),pI b.gG,pI b.hours,pI b.lW,pI b.pct,pI b.adv]],[0],[some ⟨1,((b.dJ.take i).map fun n=>n*n).map au,v,0⟩]⟩⟩)
  (fun i v=>True) 0 0 (aD _) rfl trivial (fun i v e _=> ?_) (fun v _=> ?_)
 ·obtain⟨t,u,k6⟩:=rng e (by omega)
  obtain⟨t1,t2⟩:=h2 _ (getD_mem e);have F:=am t2 t2 (by omega) (by omega);have G:=ap (show 0<=b.dJ.getD i default by omega) (show 0<=b.dJ.getD i default by omega);have h:cE .i64 (b.dJ.getD i default*b.dJ.getD i default)=b.dJ.getD i default*b.dJ.getD i default:=aB (by omega);have j:(b.dJ.take i).length<=1073741823:=by simp;omega
  simp only[t,u,e,k6,aH,getD_map,ae,Y,h,fD,DV.strip,fits_int,forall_eq,RN,H,S,U,V]
  (repeat(refine W (by first|assumption|rfl|(simp;done)|(simp;omega)) ?_))
  refine fC 1 1 (v+1) e ?_ trivial (by simp) (by simp) rfl rfl;rw[aU e];simp[au]
 ·rw[cm]
  have r:=anQ (b.dJ.map fun n=>n*n) (by simp;omega) (fun x s=>by
   obtain⟨n,q,rfl⟩:=ax.1 s;obtain⟨a,c⟩:=h2 n q;exact ap (by omega) (by omega)) (by omega)
  have M:=XL w.1;have N:=XL y.1;have h:cE .i64 (dN (b.dJ.map fun n=>n*n) 0*b.gG)=dN (b.dJ.map fun n=>n*n) 0*b.gG:=aB (by omega);have k:cE .i64 (b.hours*b.lW)=b.hours*b.lW:=aB (by omega);have l:cE .i64 (upI (dN (b.dJ.map fun n=>n*n) 0*b.gG) 100+b.hours*b.lW)=b.cost:=by rw[aB (by omega)];rfl
  have m:cE .i64 (b.cost*b.pct)=b.cost*b.pct:=aB (by omega);have o:cE .i64 (b.cost+upI (b.cost*b.pct) 100)=b.price:=by rw[aB (by omega)];rfl
  have p:cE .i64 (b.price - b.adv)=b.price - b.adv:=aB (by simp only[Bil.price];omega);simp only[aq,RN,H,J,V];refine P8 rfl r rfl ?_;simp only[h,RN];refine eG rfl rfl (al2 _ _ (by omega) (by omega)) ?_;simp only[k,l,RN];simp only[m];refine eG rfl rfl (al2 _ _ (by omega) (by omega)) ?_;simp only[o,p,RN];simp[Bil.Ue,f]
def lS (p:Pc):List Fr:=⟨1,1⟩::(ct p.links.length).map fun i=>bQ (aP p.links (i+1))
def uZ (p:Pc):List Bool:=true::(ct p.links.length).map fun i=>((aP p.links (i+1)).length:Int).tmod 2==0
def ajx (p:Pc)(k:p.ok=true):Pure C 26 [p.dv] (.d (.tup [sF ((lS p).map Fr.dv),sF ((uZ p).map .bool),dI 0])) []:=by
 have c:=Pc.good k;have r:=c.l2;have q:=c.h2;have j:=wF p (by omega) (by omega);have l:=fun(a:Nat) n o=>NT p c.lk (by omega) a o n
 refine bG (aC Il adI ?_);simp only[dA]at j l;simp only[Il,adI,dA,RN,H,J,U,V];refine ak j ?_;simp only[k,GK (x:= .agg [dI 1,dI 1]) (sz:=2) rfl (by decide),GK (x:= .bool true) (sz:=1) rfl (by decide),DV.strip,Y,RN,H,J,V];refine aG p.links.length (fun i (v:Nat)=>⟨[(1, .d (.aV [sF (p.links.map Lk.dv),sF (p.hands.map au)])),(5, .tsl 2 v 0),(6, .tsl 3 v 0),(19,pI p.links.length),(20,pI i)],
   ⟨[some [.d (sF (p.links.map Lk.dv)), .d (sF (p.hands.map au))]],[0],[some ⟨2,[],0,0⟩,some ⟨1,[],0,0⟩,some ⟨2,((lS p).take (i+1)).map Fr.dv,v,1⟩,some ⟨1,((uZ p).take (i+1)).map .bool,v,1⟩]⟩⟩)
  (fun i v=>True) 0 0 (aD _) rfl trivial (fun i v h1 _=> ?_) (fun v _=> ?_)
 ·obtain⟨h2,s,h⟩:=rng h1 (by omega)
  have b:=c.al4 (a:=i+1) (by omega) (by omega);obtain⟨_,t2,t⟩:=rO b;have e:=ajC (aP p.links (i+1)) (by omega);have m:Ju (aP p.links (i+1))=(bQ (aP p.links (i+1)),((aP p.links (i+1)).length:Int).tmod 2==0,0):=by simp[Ju,b]
  rw[m]at e;simp only[bK]at e;have f:(lS p).take (i+1+1)=(lS p).take (i+1)++ [bQ (aP p.links (i+1))]:=by
   rw[aU (by simp[lS];omega)];congr 1;simp[lS,Z,h1]
  have g:(uZ p).take (i+1+1)=(uZ p).take (i+1)++ [((aP p.links (i+1)).length:Int).tmod 2==0]:=by
   rw[aU (by simp[uZ];omega)];congr 1;simp[uZ,Z,h1]
  have l1:((lS p).take (i+1)).length<=1073741823:=by simp[lS];omega
  have l2:((uZ p).take (i+1)).length<=1073741823:=by simp[uZ];omega
  simp only[h2,h,RN,H,J,V];refine eG rfl rfl (l (i+1) (by omega) (by omega)) ?_;refine ak e ?_;simp only[fD,DV.strip,JL,forall_eq,h,Y,IY,RN,H,J,S,U,V]
  (repeat(refine W (by first|assumption|rfl|(simp;done)|(simp;omega)) ?_))
  refine fC 1 4 (v+1) h1 ?_ trivial (by simp) (by simp) rfl rfl;rw[f,g];simp[bK]
 ·have r1:(lS p).take (p.links.length+1)=lS p:=bO (by simp[lS])
  have r2:(uZ p).take (p.links.length+1)=uZ p:=bO (by simp[uZ]);rw[r1,r2];simp only[aq,bI,dS,RN,H];simp[datum,bY,dY,Mem.row]
end Go.Tel
