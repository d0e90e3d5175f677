/-
  Part 4 of a law of desks.
  Conditions: none.
-/
import Derived.Test.YtbefoehadfnkbaaGreatDoorJourneymanCopiesM03
import Derived.IntWalk
import Derived.RecoverIn
import Derived.Shelf.Sort.Plain
import Derived.Lib.LaidTab
import Derived.Lib.ItoaNum
import Derived.Test.YtbefoehadfnkbaaGreatDoorChecked
set_option linter.all false
set_option maxRecDepth 10000
set_option maxHeartbeats 1000000
open Nat renaming reduceBEq->J,reduceAdd->N,reduceSub->S,reduceEqDiff->U,reduceLT->V,reduceLeDiff->W,le_refl->am,zero_le->ay,gcd->aA,lt_of_lt_of_le->aD,div_le_self->aH,strongRecOn->aL,le_trans->aN,gcd_pos_of_pos_right->aU,gcd_comm->bA,sub_zero->bB,mul_one->bD
open And renaming intro->Y
open List renaming length_map->Z,getD_eq_getElem?_getD->ab,getElem?_eq_some_iff->ai,getElem?_eq_getElem->ak,length_singleton->an,drop_length->ao,length_append->ap,map_append->au,getElem?_append_left->av,map_cons->aw,mem_map->ax,map_nil->az,length_cons->aC,nil_append->aE,getElem_mem->aG,mem_singleton->aI,all_eq_true->aJ,mem_append->aK,zip_cons_cons->aP,getElem?_map->aS,zip_nil_left->aT,getElem?_cons_zero->aV,append_nil->aX,getElem?_toArray->a6,mem_of_mem_drop->a7,getElem?_drop->bc,getElem?_take->bd,append_assoc->bh,getElem?_set->bi,take_length->bj,length_nil->bl,length_set->bn,all_cons->br,any_cons->bt,length->bC
open Bool renaming and_eq_true->ae,false_and->aO,and_self->a8,not_eq_true'->be,and_false->bp
open Int renaming toNat_natCast->ah,mul_le_mul->aj,lt_irrefl->aq,mul_nonneg->aB,le_trans->bf,ofNat_le->bg,le_refl->bk,ofNat_tdiv->bq,pow_succ->bz
open Array renaming getElem?_append_left->aF,getD_eq_getD_getElem?->aM,isEmpty_iff->aR,replicate->aW,getElem?_modify->aY,getElem?_toList->aZ
open Option renaming isNone_iff_eq_none->aQ,map_none->bo
open Iff renaming rfl->bu
open Go.IntKind renaming wrap->bE
namespace Go.Am
open Go.ChangeShapes Go.WideShapes Go.RowKit
def aL3 (T:Ty)(d:DV):Prop:=Has T d.cells/\Shp T d
def axL:List Ty->List DV->Prop
 | [],[]=>True
 |T::a,d::ds=>aL3 T d/\axL a ds
 | _,_=>False
def ax5 (P:Program):List Ty->List TypeId->Bool
 | [],[]=>true
 |T::a,t::b=>aw5 P T t&&ax5 P a b
 | _,_=>false
def aU4 {T:Ty}{ds:List DV}(h:Has T ds)(hs:T.isStruct=false):∃x,ds=[x]/\x.cells=[x]:=by
 cases h with
 |nil=>cases hs
 |cons=>cases hs
 | _=>exact⟨_,rfl,rfl⟩
section
variable {H:Type}{enc:TypeId×Value->H}{P:Program}{w:World}{base:Nat}{spare:Nat->Bool}{held:Bool}{O:Nat->Prop}
def aTg (s:∀b,O b->∀c T fz,w.heap[b]?=some (.cells c T fz)->∀(i:Nat) (n:Int),c[i]?≠some (.int .i64 n)){T:Ty}{t:TypeId}{v:Value}{d:DataW H}{ps:List MemPlace}{r:Reach}{p:Nat}
  (f:aw5 P T t=true)(g:Value.okWide P w r p t v)(h:DataW.Trod enc P w base spare held t v d ps):∃x,aL3 T x/\aof w O v x:=by
 obtain⟨l,z⟩:=h;obtain⟨ds,h1,h2⟩:=aJr s T l t _ _ f z;have one:T.isStruct=false->(∀cs,v≠ .agg cs)->∃x,aL3 T x/\aof w O v x:=by
  intro m A;obtain⟨x,rfl,o⟩:=aU4 h1 m;have y:v.cells= #[v]:=by cases v<;>first|rfl|(exact absurd rfl (A _))
  rw[y]at h2;cases h2 with
  |cons q _=>
   exact⟨x,⟨by rw[o];exact h1,⟨fun hh=>(by rw[m]at hh;cases hh),fun _=>o⟩⟩,q⟩
 cases T with
 |int k=>
  simp only[aw5,ae]at f
  split at f
  ·rename_i C j
   obtain⟨n,rfl⟩:=okWide_int j g;exact one rfl fun cs hh=>by cases hh
  ·cases f.1
 |bool=>
  simp only[aw5,ae]at f
  split at f
  ·rename_i j
   obtain⟨n,rfl⟩:=okWide_bool j g;exact one rfl fun cs hh=>by cases hh
  ·cases f.1
 |str=>
  simp only[aw5,ae]at f
  split at f
  ·rename_i j
   obtain⟨n,rfl⟩:=okWide_string j g;exact one rfl fun cs hh=>by cases hh
  ·cases f.1
 |slice e=>
  simp only[aw5,ae]at f
  split at f
  ·rename_i u j
   obtain⟨a,len,cap,rfl⟩:=okWide_slice j g;exact one rfl fun cs hh=>by cases hh
  ·cases f.1
 |struct fs=>
  simp only[aw5,ae]at f
  split at f
  ·rename_i B j
   obtain⟨cs,rfl,_⟩:=okWide_struct j g;exact⟨.agg ds,⟨h1,⟨fun _=>⟨ds,rfl⟩,fun hh=>(by cases hh)⟩⟩, .agg h2⟩
  ·cases f.1
def aLu (f:∀b,O b->∀c T fz,w.heap[b]?=some (.cells c T fz)->∀(i:Nat) (n:Int),c[i]?≠some (.int .i64 n)){r:Reach}{k:Nat}:∀{Ts:List Ty} {ts:List TypeId} {vs:List Value} {ds:List (DataW H)} {ps:List MemPlace},
  ax5 P Ts ts=true->(∀(j:Nat) t v,ts[j]?=some t->vs[j]?=some v->Value.okWide P w r k t v)->DataW.TrodAll enc P w base spare held ts vs ds ps->∃xs,axL Ts xs/\an3 w O vs xs
 | [],[],[],[],_,_,_,_=>⟨[],trivial, .nil⟩
 |T::Ts,t::ts,v::vs,d::ds,ps,a,g,h=>by
  simp only[ax5,ae]at a;obtain⟨p,q,h1,h2,_⟩:=h;obtain⟨x,l,m⟩:=aTg f a.1 (g 0 t v rfl rfl) h1;obtain⟨xs,o,s⟩:=aLu f a.2 (fun j y z u e=>g (j+1) y z (by simpa using u) (by simpa using e)) h2;exact⟨x::xs,⟨l,o⟩, .cons m s⟩
 | [],_::_,_,_,_,a,_,_=>by simp[ax5]at a
 | _::_,[],_,_,_,a,_,_=>by simp[ax5]at a
 | [],[],_::_,_,_,_,_,h=>by cases h
 | [],[],[],_::_,_,_,_,h=>by cases h
 | _::_,_::_,[],_,_,_,_,h=>by cases h
 | _::_,_::_,_::_,[],_,_,_,h=>by cases h
variable{w':World}
def aKN (h:Later w w'):Below w.heap.size w w':=⟨h.os,h.tape,h.output,h.size,h.keep⟩
variable{args:Array Value}
def aP3 {C:Ctx}{f:FuncId}{Ts:List Ty}{ts:List TypeId}{ds:List (DataW H)}{ps:List MemPlace}{r:Reach}{m:Nat}
  (q:C.P=P)(p:C.G w)(a:∀b,C.low b->b<w.heap.size/\∀c T fz,w.heap[b]?=some (.cells c T fz)->∀(i:Nat) (n:Int),c[i]?≠some (.int .i64 n))
  (k:ax5 P Ts ts=true)(hv:∀(j:Nat) t v,ts[j]?=some t->args.toList[j]?=some v->Value.okWide P w r m t v)(h:DataW.TrodAll enc P w base spare held ts args.toList ds ps)
  (aHt:∀xs,axL Ts xs->Pure C f xs (.d (.bool true)) []):Calls P f args w fun e w'=>e= .returned (.bool true)/\Below w.heap.size w w':=by
 obtain⟨xs,h1,h2⟩:=aLu (O:=C.low) (fun b g=>(a b g).2) k hv h;have:=aHt xs h1 C.low w args.toList p (fun b g=>g) (fun b g=>(a b g).1) h2;rw[q,Array.toArray_toList]at this;refine Calls.mono this fun e w' s=> ?_
 obtain⟨v,x,rfl,y,o,u⟩:=s;have l:=u.toD.atK;subst l;exact⟨rfl,aKN o.awO⟩
def aAK {w':World}(hl:laidOutB P=true)(hb:Below w.heap.size w w'):∀{ts:List TypeId} {vs:List Value} {ds:List (DataW H)} {ps:List MemPlace},(∀t∈ts,P.readableRec t=true/\t<P.types.size)->
  DataW.TrodAll enc P w 0 (fun _=>true) true ts vs ds ps->(∀x∈ps,x.block<w.heap.size)->DataW.TrodAll enc P w' 0 (fun b=>decide (b<w.heap.size)) true ts vs ds ps
 | [],[],[],_,_,h,_=>h
 |t::ts,v::vs,d::ds,ps,g,h,c=>by
  obtain⟨p,q,h1,h2,rfl⟩:=h;obtain⟨a,b⟩:=g t (by simp);exact⟨p,q,Below.trod hl a b h1 hb (fun x f=>c x (by simp[f])),aAK hl hb (fun i e=>g i (by simp[e])) h2 (fun x f=>c x (by simp[f])),rfl⟩
 | [],_::_,_,_,_,h,_=>by cases h
 | [],[],_::_,_,_,h,_=>by cases h
 | _::_,[],_,_,_,h,_=>by cases h
 | _::_,_::_,[],_,_,h,_=>by cases h
def aSx {f:Func}{s:ChangeSpec}{a fresh b:Bool}{ds:List (DataW H)}{d:List MemPlace}{tb:TypeId}(hl:laidOutB P=true)(c:s.vars=[])
  (m:DataW.Whole enc P f.params.toList s.vars a w args.toList ds [] d)(i:f.resultTypes= #[tb])(j:P.underlying tb=some .bool)(k:∀t∈f.params.toList,P.readableRec t=true/\t<P.types.size)
  (e:s.fn H (ds++ [])={results:=[.lit (.bool true)],args:=ds})(hb:Below w.heap.size w w'):s.post enc P f a fresh b false w args (.bool true) w':=by
 have g:=m;obtain⟨p,q,n,l,rfl,_,_⟩:=m;have o:q=[]:=by rw[c]at l;exact l
 subst o;refine⟨ds,[],p++ [],[],p,[],g,?_,?_,?_,hb.frame _,fun h=>by cases h⟩
 ·rw[e,i]
  exact trodAll_mk1 (shut_bool j true)
 ·rw[e]
  exact aAK hl hb k n fun x r=>g.lt x (by simp[r])
 ·rw[e,c];rfl
end
def aKQ {n m:Nat}:∀{env:List (Nat×PV)},(env.all fun p=>p.2.upto n m)=true->∀t,(look env t).upto n m=true
 | [],_,t=>by simp[look,PV.upto]
 |(k,v)::l,h,t=>by
  simp only[br,ae]at h;simp only[look];cases a:(k==t)with
  |true=>simpa using h.1
  |false=>simpa using aKQ h.2 t
def Weak.take {nb na n m:Nat}{env:List (Nat×PV)}{bs:List (Option (List PV))}{fz:List Nat}{ass:List (Option Arr)}(h1:nb<=n)(h2:na<=m)(e:(env.all fun p=>p.2.upto n m)=true)
  (d:((bs.take n).all fun c=>(c.getD []).all fun p=>p.upto n m)=true):Weak nb na ⟨env,⟨bs,fz,ass⟩⟩ ⟨env,⟨bs.take n,fz.filter (fun b=>decide (b<n)),ass.take m⟩⟩:=by
 refine .inr ⟨n,m,h1,h2,rfl,fun t=> .inr ⟨rfl,aKQ e t⟩,fun cs a c f=> ?_⟩;simp only[aJ]at d;exact d cs a c f
def Weak.same {nb na:Nat}{env:List (Nat×PV)}{bs:List (Option (List PV))}{fz:List Nat}{ass:List (Option Arr)}(h1:nb<=bs.length)(h2:na<=ass.length)(a:(env.all fun p=>p.2.upto bs.length ass.length)=true)
  (d:(bs.all fun c=>(c.getD []).all fun p=>p.upto bs.length ass.length)=true):Weak nb na ⟨env,⟨bs,fz,ass⟩⟩ ⟨env,⟨bs,fz.filter (fun b=>decide (b<bs.length)),ass⟩⟩:=by
 have:=Weak.take (fz:=fz) (ass:=ass) h1 h2 a (by rw[bj];exact d)
 simpa using this
section
variable {C:Ctx}{base:Nat}{M:Mem}{K:PV->Mem->Prop}{KP:DV->Mem->Prop}
def aR0 {sz:Nat}:anG C base (.aoM sz [] []) [] M K KP=K (.d (.slice true [])) M:=by
 have:=ay3 (M:=M) (ds:=[]);simp only[az]at this;simp only[anG,aos,az,auq,this]
def ao8 {sz:Nat}{z x:DV}:anG C base (.aoM sz [z] [0]) [.d x] M K KP=(x.strip.cells.length=sz/\K (.d (.slice true [x.strip])) M):=by
 have:=ay3 (M:=M) (ds:=[x]);simp only[aw,az]at this;simp only[anG,aos,datum,aw,az,auq,this,an,Nat.zero_lt_one,and_true]
 by_cases h:x.strip.cells.length=sz
 ·simp[h]
 ·simp[h]
variable{bs:List (Option (List PV))}{fz:List Nat}{ass:List (Option Arr)}{A:Arr}
def aVs {k s:Nat}(h:ass[k]?=some (some A)):mkRow ⟨bs,fz,ass⟩ (k,s)=⟨A.sz,A.elems.drop s,0,A.st⟩:=by simp only[mkRow,h]
def auY {k ver s:Nat}(h:ass[k]?=some (some A))(hv:A.ver=ver)(hs:s<=A.elems.length){A':Arr}(b:A'=⟨A.sz,A.elems.drop s,0,A.st⟩):
  ∃L,av9 ⟨bs,fz,ass⟩ L/\ren ⟨bs,fz,ass⟩ L (.tsl k ver s)= .tsl 0 0 0/\L.map (mkRow ⟨bs,fz,ass⟩)=[A']:=by
 refine⟨[(k,s)],⟨fun q a=> ?_,by simp⟩,?_,?_⟩
 ·simp only[aI]at a
  subst a;simp only[auV,h]
  simpa using hs
 ·simp[ren,aGJ,aCD,Mem.row,h,hv]
 ·simp only[aw,az,aVs h,b]
end
end Go.Am
namespace Go.Tel
open Go.Am
def anI {n:Int}(h: -9223372036854775808<=n/\n<=9223372036854775807):IntKind.i64.wrap n=n:=Go.IntWalk.i64_in _ (by omega)
structure Pt where
 x:Int
 y:Int
 deriving DecidableEq,Inhabited
structure Wh where
 aRz:Int
 aTM:Int
 layer:Int
 aow:Int
 deriving DecidableEq,Inhabited
structure Ms where
 a:Int
 b:Int
 deriving DecidableEq,Inhabited
structure Tn where
 num:Int
 den:Int
 deriving DecidableEq,Inhabited
structure Piece where
 w:Int
 h:Int
 pl:Int
 ga:Int
 po:Int
 cs:List Pt
 ws:List Wh
 ms:List Ms
 deriving DecidableEq,Inhabited
def anF (n:Int):DV:= .int .i64 n
def Pt.dv (p:Pt):DV:= .agg [.int .i64 p.x, .int .i64 p.y]
def Wh.dv (p:Wh):DV:= .agg [.int .i64 p.aRz, .int .i64 p.aTM, .int .i64 p.layer, .int .i64 p.aow]
def Ms.dv (p:Ms):DV:= .agg [.int .i64 p.a, .int .i64 p.b]
def anM {n:Int}:anF n= .int .i64 n:=by rw[anF]
structure Laid where
 p:Piece
 mm:List Ms
 gone:List Int
 deriving Inhabited
variable{i:Nat}
def getD_map {α:Type}[Inhabited α]{f:α->DV}{l:List α}(h:i<l.length):(l.map f).getD i default=f (l.getD i default):=by
 rw[ab,ab,aS,ak h];rfl
def drop_cons {α:Type}[Inhabited α]{l:List α}(h:i<l.length):l.drop i=l.getD i default::l.drop (i+1):=by
 rw[List.drop_eq_getElem_cons h];simp[List.getD,h]
def inR (n l h:Int):Bool:=decide (n>=l)&&decide (n<=h)
def aZM (w h:Int):List Pt->List Pt->Bool
 | _,[]=>true
 |pre,c::cs=>inR c.x 0 w&&inR c.y 0 h&& !pre.contains c&&aZM w h (pre++ [c]) cs
def aZE (n:Int):List Ms->List Ms->Bool
 | _,[]=>true
 |pre,m::ms=>inR m.a 0 (n - 1)&&inR m.b 0 (n - 1)&& !decide (m.a>=m.b)&& !pre.contains m&&aZE n (pre++ [m]) ms
def a1m (n:Int)(w:Wh):Bool:=inR w.aRz 0 (n - 1)&&inR w.aTM 0 2&&inR w.layer 0 5&&inR w.aow 4 50
def sq (n:Int):Int:=n*n
end Go.Tel
namespace Go.Am
section
variable {C:Ctx}{base nb na:Nat}{K:St->Prop}{KP:DV->Mem->Prop}{Q:Ex->St->Prop}{env:List (Nat×PV)}{m:Mem}
variable{b:Bool}
def an7 {d:Option Nat}{op:POp}{args:List Opd}{fl t:Nat}{w:Bool}(hb:look env t= .d (.bool b))(h1:b=true->aoT C base ⟨d,op,args,some (t,w),fl⟩ K KP ⟨env,m⟩)(a:b=false->aoT C base ⟨d,op,args,some (t,w),fl⟩ K KP ⟨env,m⟩):
  aoT C base ⟨d,op,args,some (t,w),fl⟩ K KP ⟨env,m⟩:=by cases b;exact a rfl;exact h1 rfl
def aob {t:Nat}{x y:anH}(hb:look env t= .d (.bool b))(h1:b=true->pwp C nb na (.cond (.t t) x y) Q ⟨env,m⟩)(a:b=false->pwp C nb na (.cond (.t t) x y) Q ⟨env,m⟩):
  pwp C nb na (.cond (.t t) x y) Q ⟨env,m⟩:=by cases b;exact a rfl;exact h1 rfl
variable {s:St}{bs:List (Option (List PV))}{fz:List Nat}{ass:List (Option Arr)}
def upJ {α:Type}(len:Nat)(E:Nat->α->St)(P:Nat->α->Prop):Nat->St->Prop:=fun n s=>∃i a,i<=len/\n=len - i/\s=E i a/\P i a
variable{b:anH}
def anL {α:Type}(len:Nat)(E:Nat->α->St)(P:Nat->α->Prop)(c:Nat)(d:α)(hi:c<=len)(hs:s=E c d)(f:P c d)
  (j:∀i a,i<len->P i a->pwp C nb na b (aEa nb na (upJ len E P) (len - i) Q) (E i a))
  (g:∀a,P len a->pwp C nb na b (aEa nb na (upJ len E P) 0 Q) (E len a)):pwp C nb na (.loop b) Q s:=by
 refine axE (upJ len E P) (len - c) ⟨c,d,hi,rfl,hs,f⟩ ?_;rintro n s ⟨i,a,hi,rfl,rfl,e⟩
 by_cases h:i<len
 ·exact j i a h e
 ·obtain rfl:i=len:=by omega
  have:=g a e
  rwa [<-Nat.sub_self i]at this
variable{len i:Nat}
def aoD {α:Type}{E:Nat->α->St}{P:Nat->α->Prop}(d:α)(hi:i<len)(hs:(⟨env,⟨bs,fz.filter (fun b=>decide (b<bs.length)),ass⟩⟩:St)=E (i+1) d)(h:P (i+1) d)
  (h1:nb<=bs.length)(h2:na<=ass.length)(f:(env.all fun p=>p.2.upto bs.length ass.length)=true)(g:(bs.all fun c=>(c.getD []).all fun p=>p.upto bs.length ass.length)=true):
  ∃e a,e<len - i/\Weak nb na ⟨env,⟨bs,fz,ass⟩⟩ a/\upJ len E P e a:=⟨len - (i+1),_,by omega,Weak.same h1 h2 f g,i+1,d,by omega,rfl,hs,h⟩
def ao7 {α:Type}{E:Nat->α->St}{P:Nat->α->Prop}(n m:Nat)(d:α)(hi:i<len)(hs:(⟨env,⟨bs.take n,fz.filter (fun b=>decide (b<n)),ass.take m⟩⟩:St)=E (i+1) d)(h:P (i+1) d)
  (h1:nb<=n)(h2:na<=m)(f:(env.all fun p=>p.2.upto n m)=true)(g:((bs.take n).all fun c=>(c.getD []).all fun p=>p.upto n m)=true):
  ∃e a,e<len - i/\Weak nb na ⟨env,⟨bs,fz,ass⟩⟩ a/\upJ len E P e a:=⟨len - (i+1),_,by omega,Weak.take h1 h2 f g,i+1,d,by omega,rfl,hs,h⟩
def whJ {α:Type}(E:α->St)(P:α->Prop)(μ:α->Nat):Nat->St->Prop:=fun n s=>∃a,n=μ a/\s=E a/\P a
def apW {α:Type}(E:α->St)(P:α->Prop)(μ:α->Nat)(c:α)(hs:s=E c)(d:P c)
  (f:∀a,P a->pwp C nb na b (aEa nb na (whJ E P μ) (μ a) Q) (E a)):pwp C nb na (.loop b) Q s:=by
 refine axE (whJ E P μ) (μ c) ⟨c,rfl,hs,d⟩ ?_;rintro n s ⟨a,rfl,rfl,e⟩;exact f a e
def aC0 {α:Type}{a:α}{E:α->St}{P:α->Prop}{μ:α->Nat}(d:α)(j:μ d<μ a)(hs:(⟨env,⟨bs,fz.filter (fun b=>decide (b<bs.length)),ass⟩⟩:St)=E d)(i:P d)
  (h1:nb<=bs.length)(h2:na<=ass.length)(g:(env.all fun p=>p.2.upto bs.length ass.length)=true)(h:(bs.all fun c=>(c.getD []).all fun p=>p.upto bs.length ass.length)=true):
  ∃f e,f<μ a/\Weak nb na ⟨env,⟨bs,fz,ass⟩⟩ e/\whJ E P μ f e:=⟨μ d,_,j,Weak.same h1 h2 g h,d,rfl,hs,i⟩
def aYq {α:Type}(o:Option α)(k:α->Prop):Prop:=match o with|some x=>k x|none=>False
def aQi {α:Type}{x:α}{k:α->Prop}:aYq (some x) k=k x:=rfl
def aIL (o:Option (List DV))(cs:List PV):PV:=match o with|some ds=> .d (.agg ds)|none=> .agg cs
def aN0 (o:Option (List DV))(cs:List PV):PV:=match o with|some ds=> .d (.tup ds)|none=> .tup cs
def aVr {cs:List PV}:av5 cs=aIL (apx cs) cs:=rfl
def aVt {cs:List PV}:aBR cs=aN0 (apx cs) cs:=rfl
def aO4 {ds:List DV}{cs:List PV}:aIL (some ds) cs= .d (.agg ds):=rfl
def aQW {ds:List DV}{cs:List PV}:aN0 (some ds) cs= .d (.tup ds):=rfl
section
variable {M:Mem}{L:PV->Mem->Prop}
def aPM {zs:List DV}{ps:List (Nat×Nat)}{args:List PV}:anG C base (.build zs ps) args M L KP=aYq (aro (zs.map .d) ps args) (fun cs=>L (av5 cs) M):=by
 rw[aRY];cases aro (zs.map .d) ps args<;>rfl
def aPQ {cs:List PV}:aro cs [] []=some cs:=rfl
def azW {cs:List PV}{off n:Nat}{ps:List (Nat×Nat)}{x:DV}{vs:List PV}:aro cs ((off,n)::ps) (.d x::vs)=bif (PV.cells (.d x)).length==n&&decide (off+n<=cs.length)then aro (splice cs off (PV.cells (.d x))) ps vs else none:=by
 simp only[aro,PV.asO,true_and]
 by_cases h1:(PV.cells (.d x)).length=n
 ·by_cases h2:off+n<=cs.length
  ·rw[if_pos ⟨h1,h2⟩];simp[h1,h2]
  ·rw[if_neg (fun h=>h2 h.2)];simp[h1,h2]
 ·rw[if_neg (fun h=>h1 h.1)]
  have:((PV.cells (.d x)).length==n)=false:=by simpa using h1
  rw[this];rfl
def aUK {i:Nat}{vs:List DV}:anG C base (.ext i) [.d (.tup vs)] M L KP=aYq vs[i]? (fun v=>L (.d v) M):=by
 simp only[anG];cases vs[i]?<;>rfl
end
def aJ7 {f:Fn}{a b:List DV}:PV.cells (.d (.func f a b))=[.d (.func f a b)]:=rfl
def aVk {cs:List DV}:PV.isAgg (.d (.agg cs))=true:=rfl
def rng {i len:Nat}(h:i<len)(hl:len<=1000000):(i:Int)<(len:Int)/\(0:Int)<=(i:Int)/\bE .i64 ((i:Int)+1)=((i+1:Nat):Int):=by
 refine⟨by omega,by omega,?_⟩;rw[Go.IntWalk.i64_in _ (by omega)];omega
end
def aV1 {k:Nat}:aup k []=[]:=by rw[aup]
def aV2 {k:Nat}{v:PV}{vs:List PV}:aup k (v::vs)=(k,v)::aup (k+1) vs:=by rw[aup]
def aVW {a:List ap7}{K:PV->Mem->Prop}{KP:DV->Mem->Prop}{s:St}:aHr a K KP .normal s=ase a s (fun vs=>K (resV vs) s.mem):=px
def aVX {a:List ap7}{K:PV->Mem->Prop}{KP:DV->Mem->Prop}{s:St}:aHr a K KP .ret s=ase a s (fun vs=>K (resV vs) s.mem):=px
def aVY {a:List ap7}{K:PV->Mem->Prop}{KP:DV->Mem->Prop}{s:St}{d:DV}:aHr a K KP (.panic d) s=KP d s.mem:=px
def aVZ {a:List ap7}{K:PV->Mem->Prop}{KP:DV->Mem->Prop}{s:St}{i:Nat}:aHr a K KP (.exit i) s=False:=px
def aV3 {s:St}{K:List PV->Prop}:ase [] s K=K []:=px
def aV4 {s:St}{K:List PV->Prop}{t:Nat}{l:List ap7}:ase (.tmp t::l) s K=ase l s (fun vs=>K (look s.env t::vs)):=px
def aV5 {s:St}{K:List PV->Prop}{t n:Nat}{g:Bool}{l:List ap7}:ase (.cell t g n::l) s K=aol g n (look s.env t) s.mem (fun v=>ase l s fun vs=>K (v::vs)):=px
def aZN:resV []=aBR []:=by rw[resV];intro x h;cases h
def aZO {x:PV}:resV [x]=x:=by rw[resV]
def aZP {x y:PV}{l:List PV}:resV (x::y::l)=aBR (x::y::l):=by rw[resV];intro x h;cases h
def aQD {α:Type}{cs:List α}{off:Nat}{new:List α}:splice cs off new=cs.take off++new++cs.drop (off+new.length):=by rw[splice]
set_option linter.defProp false in
def RN:=Y (Y (Y (Y (Y (Y (Y (@aS2) (Y (@aQq) (@aVE))) (Y (@aS1) (Y (@aQr) (@aVF)))) (Y (Y (@aLG) (Y (@aTI) (@aQI))) (Y (@aNL) (Y (@aQp) (@aHk))))) (Y (Y (Y (@aMd) (Y (@aIO) (@aMc))) (Y (@aJ1) (Y (@aJh) (@aQb)))) (Y (Y (@aNe) (Y (@aKR) (@aNv))) (Y (Y (@aNu) (@aLj)) (Y (@aLi) (@aLk)))))) (Y (Y (Y (Y (@aGy) (Y (@aPU) (@aKI))) (Y (@aJa) (Y (@aNJ) (@aLB)))) (Y (Y (@aV7) (Y (@aTA) (@aTD))) (Y (Y (@aTz) (@aTC)) (Y (@aTB) (@aV8))))) (Y (Y (Y (@aXu) (Y (@aXv) (@aUU))) (Y (@aUT) (Y (@aXw) (@aUV)))) (Y (Y (@aZy) (Y (@aS0) (@aSZ))) (Y (Y (@aSF) (@aQa)) (Y (@aZU) (@aZT))))))) (Y (Y (Y (Y (Y (@aXq) (Y (@aKk) (@aPL))) (Y (@aUQ) (Y (@aRU) (@aXl)))) (Y (Y (@aUP) (Y (@aR1) (@aMI))) (Y (Y (@aMH) (@aXk)) (Y (@aYQ) (@aRZ))))) (Y (Y (Y (@aR0) (Y (@ao8) (@aUJ))) (Y (@aXn) (Y (@aUL) (@aUM)))) (Y (Y (@aUI) (Y (@aXj) (@aXo))) (Y (Y (@aUO) (@aHY)) (Y (@aKn) (@aKl)))))) (Y (Y (Y (Y (@aKm) (Y (@aME) (@aMD))) (Y (@aI0) (Y (@aUt) (@aU9)))) (Y (Y (@aVj) (Y (@aVf) (@aVh))) (Y (Y (@aVi) (@aVa)) (Y (@aVg) (@aVe))))) (Y (Y (Y (@aVd) (Y (@aVc) (@aVb))) (Y (@aYF) (Y (@aYG) (@aYg)))) (Y (Y (@aYT) (Y (@aYU) (@aYc))) (Y (Y (@aZD) (@aSA)) (Y (@aVn) (@aP5)))))))) (Y (Y (Y (Y (Y (Y (@aSz) (Y (@aMp) (@aMq))) (Y (@aJ6) (Y (@aIS) (@aMr)))) (Y (Y (@aJ7) (Y (@aVk) (@aUN))) (Y (Y (@aAV) (@aqi)) (Y (@aSq) (@aVr))))) (Y (Y (Y (@aVt) (Y (@aO4) (@aQW))) (Y (@aQi) (Y (@aPM) (@aPQ)))) (Y (Y (@azW) (Y (@aUK) (@aXp))) (Y (Y (@aZK) (@aVy)) (Y (@aSQ) (@aVA)))))) (Y (Y (Y (Y (@aQf) (Y (@aVz) (@aSM))) (Y (@aVq) (Y (@aP6) (@aTV)))) (Y (Y (@aNW) (Y (@aYe) (@aSB))) (Y (Y (@aU8) (@aSo)) (Y (@aVo) (@aP7))))) (Y (Y (Y (@aXy) (Y (@aR6) (@aRj))) (Y (@aW1) (Y (@aRi) (@aUY)))) (Y (Y (@aXC) (Y (@aXB) (@aRd))) (Y (Y (@aO7) (@Option.map_some.{0,0})) (Y (@List.mem_cons.{0}) (@List.not_mem_nil.{0}))))))) (Y (Y (Y (Y (Y (@or_false) (Y (@or_self) (@not_false_eq_true))) (Y (@ne_eq.{1}) (Y (@decide_true) (@decide_false)))) (Y (Y (@cond_true.{1}) (Y (@cond_false.{1}) (@Bool.not_true))) (Y (Y (@Bool.not_false) (@Nat.zero_add)) (Y (@Nat.add_zero) (@List.map_cons.{0,0}))))) (Y (Y (Y (@List.map_nil.{0,0}) (Y (@List.cons_append.{0}) (@List.nil_append.{0}))) (Y (@List.append_nil.{0}) (Y (@List.length_cons.{0}) (@List.length_nil.{0})))) (Y (Y (@List.replicate_succ.{0}) (Y (@List.replicate_zero.{0}) (@List.all_cons.{0}))) (Y (Y (@List.all_nil.{0}) (@Bool.and_true)) (Y (@Bool.true_and) (@Bool.and_self)))))) (Y (Y (Y (Y (@true_and) (Y (@and_true) (@true_implies))) (Y (@List.set_cons_zero.{0}) (Y (@List.set_cons_succ.{0}) (@List.getElem?_cons_zero.{0})))) (Y (Y (@List.getElem?_cons_succ.{0}) (Y (@List.drop_succ_cons.{0}) (@List.drop_zero.{0}))) (Y (Y (@List.take_succ_cons.{0}) (@List.take_zero.{0})) (Y (@List.getD_cons_zero.{0}) (@List.getD_cons_succ.{0}))))) (Y (Y (Y (@aV1) (Y (@aV2) (@aVW))) (Y (@aVX) (Y (@aVY) (@aVZ)))) (Y (Y (@aV3) (Y (@aV4) (@aV5))) (Y (Y (@aZN) (@aZO)) (Y (@aZP) (@aQD))))))))
set_option linter.defProp false in
def BSN:=Y (Y (Y (Y (@Bool.not_true) (@Bool.not_false)) (Y (@Bool.not_not) (@Bool.and_true))) (Y (Y (@Bool.true_and) (@Bool.and_false)) (Y (@Bool.false_and) (Y (@Bool.or_true) (@Bool.true_or))))) (Y (Y (Y (@Bool.or_false) (@Bool.false_or)) (Y (@Bool.and_self) (@Bool.or_self))) (Y (Y (@if_true.{1}) (@if_false.{1})) (Y (@cond_true.{1}) (Y (@cond_false.{1}) (@Bool.false_eq_true)))))
section
variable {C:Ctx}{base:Nat}
variable{args:List PV}{M:Mem}{K:PV->Mem->Prop}{KP KP':DV->Mem->Prop}
def SC.aqk {f:FuncId}(h:SC C f args M K KP)(n:∀d M,KP d M->KP' d M):SC C f args M K KP':=by
 intro X w E a m l;refine(h X w E a m l).mono fun e w' b=> ?_
 cases e with
 |returned v=>exact b
 |panicked c=>obtain⟨v,d,M',g,i,j,k⟩:=b;exact⟨v,d,M',g,i,n _ _ j,k⟩
 |outgrown=>exact b
def SY.aqk {b:Nat}(h:SY C b args M K KP)(s:∀d M,KP d M->KP' d M):SY C b args M K KP':=by
 intro X w E i l q p r;obtain⟨fn,g,a,f,h1,h2⟩:=h X w E i l q p r;refine⟨fn,g,a,f,h1,h2.mono fun e w' j=> ?_⟩;cases e with
 |returned v=>exact j
 |panicked c=>obtain⟨v,d,M',k,m,n,o⟩:=j;exact⟨v,d,M',k,m,s _ _ n,o⟩
 |outgrown=>exact j
def aEO {op:POp}(b:∀d M',KP d M'->KP' d M')(h:anG C base op args M K KP):anG C base op args M K KP':=by
 cases op with
 |call f=>exact SC.aqk h b
 |aBq f=>obtain⟨P,h1,h2,c⟩:=h;exact⟨P,SC.aqk h1 b,h2,c⟩
 |ays agg n f=>
  cases args with
  |nil=>exact h
  |cons a e=>
   simp only[anG]at h⊢;obtain⟨v,h1,h2⟩:=aqj.1 h;exact aqj.2 ⟨v,h1,SC.aqk h2 b⟩
 |aqg=>
  simp only[anG]at h⊢
  split at h
  ·exact⟨h.1,h.2.aqk b⟩
  ·exact⟨h.1,h.2.aqk b⟩
  ·exact SY.aqk h b
  ·exact h.elim
 |inv name=>
  simp only[anG]at h⊢
  split at h
  ·obtain⟨f,h1,h2,c⟩:=h
   exact⟨f,h1,h2,c.aqk b⟩
  ·exact h.elim
 |panic=>
  simp only[anG]at h⊢
  split at h
  ·split at h
   ·exact b _ _ h
   ·exact h.elim
  ·exact h.elim
 | _=>exact h
def aLA {p:PO}{K a:St->Prop}(hk:∀s,K s->a s)(b:∀d M',KP d M'->KP' d M'){s:St}(h:aoT C base p K KP s):aoT C base p a KP' s:=by
 unfold aoT at h⊢
 split at h
 ·exact⟨h.1,aEO b (ayj (fun v M' hh=>hk _ hh) h.2)⟩
 ·split at h
  ·exact⟨fun e=>⟨(h.1 e).1,aEO b (ayj (fun v M' hh=>hk _ hh) (h.1 e).2)⟩,fun e=>hk _ (h.2 e)⟩
  ·exact hk _ h
  ·exact h.elim
def aCF {KP KP':DV->Mem->Prop}(c:∀d M',KP d M'->KP' d M'):∀{ps:List PO} {K b:St->Prop} (_:∀s,K s->b s) {s:St},auQ C base ps K KP s->auQ C base ps b KP' s
 | [],_,_,a,_,h=>a _ h
 | _::_,_,_,a,_,h=>aLA (fun _ h=>aCF c a h) c h
def aFS {K a:St->Prop}(hk:∀s,K s->a s):∀{ts:List Nat} {s:St},atT ts K s->atT ts a s
 | [],_,h=>hk _ h
 |t::ts,s,h=>by
  simp only[atT]at h⊢
  split at h
  ·exact aFS hk h
  ·exact h.elim
def asb {nb na:Nat}:∀{pc:anH} {Q l:Ex->St->Prop} (_:∀e s,Q e s->l e s) {s:St},pwp C nb na pc Q s->pwp C nb na pc l s
 | .skip,_,_,i,_,h=>i _ _ h
 | .label _,_,_,i,_,h=>i _ _ h
 | .exit _,_,_,i,_,h=>i _ _ h
 | .ret,_,_,i,_,h=>i _ _ h
 | .region _ _ _ _ _,_,_,i,_,h=>by
  simp only[pwp]at h⊢;exact aCF (fun d M' h=>i _ _ h) (fun s h=>aFS (fun s h=>i _ _ h) h) h
 | .seq a b,_,_,i,_,h=>by
  simp only[pwp]at h⊢;refine asb (fun e s h=> ?_) h;cases e with
  |normal=>exact asb i h
  |exit id=>exact i _ _ h
  |ret=>exact i _ _ h
  |panic d=>exact i _ _ h
 | .cond c a b,_,_,i,_,h=>by
  simp only[pwp]at h⊢
  split at h
  ·exact⟨fun e=>asb i (h.1 e),fun e=>asb i (h.2 e)⟩
  ·exact h.elim
 | .block id b,_,_,i,_,h=>by
  simp only[pwp]at h⊢;refine asb (fun e s h=> ?_) h;cases e with
  |normal=>exact i _ _ h
  |exit z=>
   simp only at h⊢
   split at h
   ·rename_i hid;rw[if_pos hid];exact i _ _ h
   ·rename_i hid;rw[if_neg hid];exact i _ _ h
  |ret=>exact i _ _ h
  |panic d=>exact i _ _ h
 | .loop b,_,_,i,_,h=>by
  simp only[pwp]at h⊢;obtain⟨I,n,q,x⟩:=h;refine⟨I,n,q,fun k s y=>asb (fun e s h=> ?_) (x k s y)⟩;cases e with
  |normal=>exact h
  |exit id=>exact i _ _ h
  |ret=>exact i _ _ h
  |panic d=>exact i _ _ h
 | .scope b,_,_,i,_,h=>by
  simp only[pwp]at h⊢;exact asb i h
 | .aub f ps o p m,_,_,i,_,h=>by
  simp only[pwp]at h⊢;obtain⟨g,fs,cs,h1,h2,r,t⟩:=h;refine⟨g,fs,cs,h1,h2,r,fun L u aq9=>SC.aqk (SC.mono (t L u aq9) fun v M w=> ?_) fun d M h=>i _ _ h⟩;obtain⟨st,A,cells,B,D,E,j⟩:=w;refine⟨st,A,cells,B,D,E,?_⟩
  split at j
  ·exact i _ _ j
  ·exact i _ _ j
  ·exact i _ _ j
  ·exact j.elim
end
section
variable {C:Ctx}{nb na:Nat}{Q:Ex->St->Prop}
def aJg {M:Mem}{L:Loop}{st:LoopState}{a:Option Code}{cells:List PV}{xb:List (Option (List PV))}{xf:List Nat}{xa:List (Option Arr)}:(apE M L st a cells xb xf xa).boxes[M.boxes.length]?=some (some (.apw {L with state:=st,pending:=a}::cells)):=by simp[apE]
end
def axe {C:Ctx}{base b:Nat}{args:List PV}{M:Mem}{K:PV->Mem->Prop}{KP:DV->Mem->Prop}(h:SY C b args M K KP):anG C base .aqg (.asz b::args) M K KP:=h
def aF1 (f:FuncId)(te d:Nat):List Oper->Bool
 | [a,b]=>a.guard.isNone&&b.guard.isNone&&a.dst==some d&&b.dst.isNone&&
  (match a.op with| .makeFunc (.func g) h e=>g==f&&h.isEmpty&&(match e.toList with| [.tmp t]=>t==te| _=>false)| _=>false)&&
  (match b.op with| .defer c=>(match c.callee with| .value (.tmp t)=>t==d| _=>false)&&c.args.isEmpty| _=>false)
 | _=>false
def aBK (a:Nat):List Oper->Bool
 | [o]=>o.guard.isNone&&o.dst==some a&&(match o.op with| .call c=>(match c.callee with| .builtin .recover=>true| _=>false)&&c.args.isEmpty| _=>false)
 | _=>false
def aIU (P:Program)(f h:FuncId)(b n g te j k:Nat)(c d e:anH):Bool:=
 match P.funcs[f]?,P.funcs[h]? with
 |some fn,some a=>match fn.body,a.body with
  |some (.seq m (.seq (.region _ i false) l)),some (.seq (.region _ aST false) o)=>
   fn.ntmps==n&&a.ntmps==g&&decide (b<=n)&&decide (1<=g)&&decide (j<n)&&decide (k<g)&&decide (1<=k)&&decide (te≠j)&&chk P n m c&&chk P n l d&&chk P g o e&&apm e&&aEd P fn.results.toList [.cell te false 1]&&a.results.isEmpty&&
    callable P h&&azc te l&&aF1 h te j i.toList&&aBK k aST.toList&&ax2 c&&ax2 d
  | _,_=>false
 | _,_=>false
section
variable {C:Ctx}
def Rep.aJm {w w':World}{O O':Nat->Prop}{M:Mem}{E:Emb}{v:Value}{b o:Nat}(h:Rep w O M E v (.ptr b o)):Rep w' O' M E v (.ptr b o):=by
 cases h with|ptr c a d=>exact .ptr c a d
def ayq (te:Nat)(b:Nat)(K:PV->Mem->Prop)(e:Ex)(s:St):Prop:=
 match e with
 | .normal=>aol false 1 (.ptr b 0) s.mem fun v=>K v s.mem
 | .ret=>aol false 1 (.ptr b 0) s.mem fun v=>K v s.mem
 | _=>False
def aYE (C:Ctx)(te c:Nat)(a:anH)(b:Nat)(K:PV->Mem->Prop)(e:Ex)(s:St):Prop:=
 match e with
 | .normal=>pwp C s.mem.boxes.length s.mem.anK.length a (ayq te b K) ⟨[(0, .ptr b 0),(c, .d .nilIface)],s.mem⟩
 | .ret=>pwp C s.mem.boxes.length s.mem.anK.length a (ayq te b K) ⟨[(0, .ptr b 0),(c, .d .nilIface)],s.mem⟩
 | .panic d=>pwp C s.mem.boxes.length s.mem.anK.length a (ayq te b K) ⟨[(0, .ptr b 0),(c, .d d)],s.mem⟩
 | .exit _=>False
def aT2 (hm:C.P.follows .mixedOrders=true){f f1:FuncId}{n n1 te t3 t5:Nat}{aL aN ap:anH}{args:List PV}{M:Mem}{K:PV->Mem->Prop}{KP:DV->Mem->Prop}(hc:aIU C.P f f1 args.length n n1 te t3 t5 aL aN ap=true)
  (h:pwp C M.boxes.length M.anK.length aL (fun e s=>e= .normal/\∃b,look s.env te= .ptr b 0/\pwp C s.mem.boxes.length s.mem.anK.length aN (aYE C te t5 ap b K) ⟨(t3, .dead)::s.env,s.mem⟩) ⟨aup 0 args,M⟩):SC C f args M K KP:=by
 unfold aIU at hc
 split at hc
 case h_2=>cases hc
 rename_i fn ab bn a0l
 split at hc
 case h_2=>cases hc
 rename_i c0 id aK c2 bP aST c3 aE aXP
 simp only[ae,beq_iff_eq,decide_eq_true_eq]at hc;obtain⟨⟨⟨⟨⟨⟨⟨⟨⟨⟨⟨⟨⟨⟨⟨⟨⟨⟨⟨hn,bM⟩,bN⟩,a1c⟩,bC⟩,bD⟩,a1d⟩,bE⟩,be⟩,bf⟩,bg⟩,a5⟩,a8⟩,aZo⟩,aG⟩,bv⟩,ah⟩,ao⟩,a0v⟩,a0w⟩:=hc;intro X w E y hS hA;have bO:y.length=args.length:=hA.length;have hi:InS C X ⟨w.heap.size,[],false,none⟩ n ⟨aup 0 args,M⟩ {tmps:=y.toArray++aW (fn.ntmps - y.toArray.size) undef,defers:=[]} w E:=
  {sim:=hS
   size:=by simp;omega
   defers:=ax4
   fix:=fun _ h=>by cases h
   env:=fun t=>by
    simp only[aA5,Nat.not_lt_zero,if_false,bB];cases ht:args[t]? with
    |none=>exact .dead
    |some p=>
     obtain⟨v,hv,hr⟩:=hA.get' t p ht;have bu:t<y.length:=(ai.1 hv).1;have:({tmps:=y.toArray++aW (fn.ntmps - y.toArray.size) undef,defers:=[]}:Act).eval (.tmp t)=v:=by
      simp only[Act.eval,aM];rw[aF (by simpa using bu)];simp[hv]
     rw[this];exact hr}
 have ay:∀b,C.low b->b<w.heap.size:=fun b hb=>hS.xlt b (hS.apF b hb)
 refine(callsIn_wide (n:=0)).1 (callsIn_of_wp_marks (F:=Fence.wide) bn aE trivial ?_);refine wpIn_seq (F:=RF none) (wpIn_mono (aw2 hm c0 aL (am _) (am _) a0v none [] false none _ _ _ w E (fun _ h=>by cases h) (.inl rfl) (fun e=>by cases e) be h hi (.refl _ _ _)) fun e i O V=> ?_);cases e with
 |exit id=>obtain⟨_,_,_,_,⟨G,_⟩,_⟩:=V;cases G
 |ret=>obtain⟨_,_,_,_,⟨G,_⟩,_⟩:=V;cases G
 |panic ch=>obtain⟨_,_,_,_,_,_,_,⟨G,_⟩,_⟩:=V;cases G
 |goto l=>exact V.elim
 |outgrown=>exact V.elim
 |normal=>
  obtain⟨X1,s1,E1,bJ,⟨_,b,a0B,bw⟩,J,aT⟩:=V;have aP0:=J.env te;rw[a0B]at aP0;obtain⟨c,ac⟩:∃c,i.eval (.tmp te)= .pointer (some ⟨c,0,none⟩):=by
   generalize i.eval (.tmp te)=v at aP0;cases aP0 with
   |ptr hl hb ho=>exact⟨_,rfl⟩
  rw[ac]at aP0;unfold aF1 at ah
  split at ah
  case h_2=>cases ah
  rename_i o1 o2 az
  simp only[ae,beq_iff_eq,aQ]at ah;obtain⟨⟨⟨⟨⟨bo,bp⟩,bi⟩,bj⟩,av⟩,aw⟩:=ah;obtain⟨aK,rfl⟩:∃l:List Oper,aK=l.toArray:=⟨aK.toList,by simp⟩
  simp only at az;subst az
  split at av
  case h_2=>cases av
  rename_i g fi ca aZ
  simp only[ae,beq_iff_eq,aR]at av;obtain⟨⟨rfl,rfl⟩,T⟩:=av
  split at T
  case h_2=>cases T
  rename_i t aY3
  simp only[beq_iff_eq]at T;have T:=T.symm;subst T;obtain⟨ca,rfl⟩:∃l:List Operand,ca=l.toArray:=⟨ca.toList,by simp⟩
  simp only at aY3;subst aY3
  split at aw
  case h_2=>cases aw
  rename_i cl a0
  simp only[ae,aR]at aw;obtain⟨aFa,aXS⟩:=aw
  split at aFa
  case h_2=>cases aFa
  rename_i S aY4
  simp only[beq_iff_eq]at aFa;subst aFa;obtain⟨D1,aC⟩:∃D1:Deferred,D1={target:= .fn (.func g) #[.pointer (some ⟨c,0,none⟩)],args:= #[]}:=⟨_,rfl⟩
  obtain⟨bQ,aZh,aZd,_⟩:=J.defers;rw[aX]at aZh;have aI:(execOp i.eval o1).run C.P O= .ok (.value (.func (.func g) #[] #[.pointer (some ⟨c,0,none⟩)])) O:=by simp[execOp,aZ,Instr.makeFunc,ac]
  have bl:(i.put (some S) (.func (.func g) #[] #[.pointer (some ⟨c,0,none⟩)])).eval (.tmp S)= .func (.func g) #[] #[.pointer (some ⟨c,0,none⟩)]:=by
   rw[atx,if_pos ⟨rfl,by rw[J.size];exact bC⟩]
  have aJ:(execOp (i.put (some S) (.func (.func g) #[] #[.pointer (some ⟨c,0,none⟩)])).eval o2).run C.P O= .ok (.defer D1) O:=by
   simp[execOp,a0,resolve,aY4,aXS,bl,Deferred.ofValue,aC]
  refine wpIn_seq (F:=RF none) (wpIn_region (F:=RF none) ?_)
  show wpOpsIn (RF none) 0 C.P [o1,o2].toArray _ [0,1] i O
  have bG:Region.wanted o1 (yielded [o1,o2].toArray i.tmps)=true:=by simp[Region.wanted,bo]
  have bH:∀a:Act,Region.wanted o2 (yielded [o1,o2].toArray a.tmps)=true:=fun a=>by simp[Region.wanted,bp]
  simp only[wpOpsIn,a6,aV,List.getElem?_cons_succ,bG,bH,if_true];refine⟨fun _ _=>trivial,?_⟩;rw[show Oper.semAt (RF none).round i.eval o1=execOp i.eval o1 from rfl,aI];simp only[Oper.uponIn_value,bi];refine⟨fun _ _=>trivial,?_⟩;rw[show Oper.semAt (RF none).round (i.put (some S) (.func (.func g) #[] #[.pointer (some ⟨c,0,none⟩)])).eval o2=execOp (i.put (some S) (.func (.func g) #[] #[.pointer (some ⟨c,0,none⟩)])).eval o2 from rfl,aJ];simp only[Oper.uponIn_defer,bj]
  show(Code.wpIn (RF none) 0 C.P c2 (bodyPostM (RF none) 0 C.P fn fun e w'=>Fin C X w M E K KP w' e)) {i.put (some S) (.func (.func g) #[] #[.pointer (some ⟨c,0,none⟩)])with defers:=D1::i.defers} O
  have br:InS C X1 ⟨O.heap.size,D1::i.defers,false,some (te, .pointer (some ⟨c,0,none⟩))⟩ n ⟨(S, .dead)::s1.env,s1.mem⟩ {i.put (some S) (.func (.func g) #[] #[.pointer (some ⟨c,0,none⟩)])with defers:=D1::i.defers} O E1:=
   {sim:=J.sim
    size:=by simp[Act.put,J.size]
    defers:=ax4
    fix:=fun q hq=>by
     cases hq
     show(i.put (some S) _).eval (.tmp te)=_
     rw[atx,if_neg fun hh=>bE hh.1];exact ac
    env:=fun t=>by
     show Rep _ _ _ _ ((i.put (some S) _).eval (.tmp t)) _
     rw[atx];simp only[look]
     by_cases ht:S=t
     ·subst ht;simp only[beq_self_eq_true,cond_true];exact .dead
     ·have h1:(S==t)=false:=by simp[ht]
      have h2:¬(t=S/\S<i.tmps.size):=fun hh=>ht hh.1.symm
      simp only[h1,cond_false,if_neg h2];exact J.env t}
  refine wpIn_mono (F:=RF none) (aw2 hm c2 aN (am _) (am _) a0w none (D1::i.defers) false (some (te, .pointer (some ⟨c,0,none⟩))) _ _ _ O E1 (fun q hq=>by cases hq;exact bv) (.inl rfl) (fun e=>by cases e) bf bw br (.refl _ _ _)) fun e a2 w2 V=> ?_
  have hD:∀(u u':FrameMode) (o:Nat->Prop) (j:World) (x:Mem) (m:Emb) (d:DV) (v:Value),u≠ .run->(∀b,X1 b->o b)->Sim C o j x m->From O s1.mem E1 j x m->aof j (away o x m) v d->okM w.heap.size o i.defers j->
    (∀(Q:Frame) (cs:List Frame),Q.mode=u->(∃A,(recoverD (Q::cs)=some (v,A)/\A={Q with mode:=u'}::cs))\/(recoverD (Q::cs)=none/\v= .nilIface/\u'=u))->settle u'= .returning->
    pwp C x.boxes.length x.anK.length ap (ayq te b K) ⟨[(0, .ptr b 0),(t5, .d d)],x⟩->
    ∀aCY:Array Value,(aCY.getD te undef= .pointer (some ⟨c,0,none⟩))->LeavesInM Fence.wide 0 C.P fn aCY (fun e w'=>Fin C X w M E K KP w' e) (D1::i.defers) u j:=by
   intro u u' o j x m d v hu k aq aD aH aEZ a7 a9 aSj aCY bF;have aZ5:From w M E j x m:=aT.trans aD;refine⟨hu, .inr ⟨fun h=>by simp[Fence.wide]at h, .func g, #[.pointer (some ⟨c,0,none⟩)],g, #[.pointer (some ⟨c,0,none⟩)],by rw[aC],by rw[aC];simp[invoke,auh aG],fun _ _=>trivial,?_⟩⟩;refine callsDIn_of_wpSIn (F:=Fence.wide) a0l aXP trivial fun Q cs an=> ?_
   unfold aBK at ao
   split at ao
   case h_2=>cases ao
   rename_i r aWF
   simp only[ae,beq_iff_eq,aQ]at ao;obtain⟨⟨bq,aS⟩,ax⟩:=ao;obtain⟨aST,rfl⟩:∃l:List Oper,aST=l.toArray:=⟨aST.toList,by simp⟩
   simp only at aWF;subst aWF
   split at ax
   case h_2=>cases ax
   rename_i clr a0y
   simp only[ae,aR]at ax;obtain⟨aP,aY6⟩:=ax
   split at aP
   case h_2=>cases aP
   rename_i aWD
   have aZp:∀a:Act,(execOp a.eval r).run C.P j= .ok .recover j:=fun a=>by
    obtain⟨cal,bK,bL⟩:=clr;simp only at aWD aY6;subst aWD aY6;simp[execOp,a0y,resolve,invoke]
    rfl
   obtain⟨a3,au⟩:∃a3:Act,a3={tmps:= #[.pointer (some ⟨c,0,none⟩)]++aW (ab.ntmps - #[Value.pointer (some ⟨c,0,none⟩)].size) undef,defers:=[]}:=⟨_,rfl⟩
   rw[<-au];have aA:a3.tmps.size=n1:=by rw[au];simp;omega
   have aO:∀A,A={Q with mode:=u'}::cs->Code.wpSIn Fence.wide 0 C.P c3 (bodyPostS C.P ab Q cs fun e u' w'=>match e with
     | .returned _=>LeavesInM Fence.wide 0 C.P fn aCY (fun e w'=>Fin C X w M E K KP w' e) i.defers (settle u') w'
     | .panicked chain=>LeavesInM Fence.wide 0 C.P fn aCY (fun e w'=>Fin C X w M E K KP w' e) i.defers (raised u' chain) w'
     | .outgrown=>Fin C X w M E K KP w' .outgrown) (a3.put (some t5) v) A j:=by
    rintro A rfl;refine wpSIn_of_wpIn rfl ?_;have bs:InS C o ⟨j.heap.size,[],true,none⟩ n1 ⟨[(0, .ptr b 0),(t5, .d d)],x⟩ (a3.put (some t5) v) j m:=
     {sim:=aq
      size:=by simp[Act.put,aA]
      fix:=fun _ h=>by cases h
      defers:=by
       have:(a3.put (some t5) v).defers=[]:=by rw[au];rfl
       rw[this];exact ax4
      env:=fun t=>by
       rw[atx,aA];simp only[look]
       by_cases bc:0=t
       ·subst bc
        have:¬(0=t5/\t5<n1):=fun hh=>by omega
        rw[if_neg this];simp only[beq_self_eq_true,cond_true];have e0:a3.eval (.tmp 0)= .pointer (some ⟨c,0,none⟩):=by
         rw[au];simp only[Act.eval,aM];rw[aF (by simp)]
         rfl
        rw[e0];exact(aP0.from aD).aJm
       ·have h0:(0==t)=false:=by simp[bc]
        simp only[h0,cond_false]
        by_cases aZr:t5=t
        ·subst aZr
         rw[if_pos ⟨rfl,bD⟩];simp only[beq_self_eq_true,cond_true];exact .d aH
        ·have h5:(t5==t)=false:=by simp[aZr]
         simp only[h5,cond_false];exact .dead}
    have:=aw2 hm c3 ap (nb:=x.boxes.length) (na:=x.anK.length) (M₀:=x) (E₀:=m) (w₀:=j) (am _) (am _) (aqH a5) none [] true none _ _ _ j m (fun _ h=>by cases h) (.inl rfl) (fun _=>a5) bg aSj bs (.refl _ _ _);refine wpIn_mono (F:=RF none) this fun e a4 w4 W=> ?_
    have aB:∀(X4:Nat->Prop) (N:St) (E4:Emb),(∀b,o b->X4 b)->ayq te b K .normal N->InS C X4 ⟨j.heap.size,[],true,none⟩ n1 N a4 w4 E4->From j x m w4 N.mem E4->
      a4.defers=[]/\∃u2,({Q with mode:=u'}::cs:List Frame)={Q with mode:=u2}::cs/\∃v,(results ab a4.tmps).run C.P w4= .ok v w4/\LeavesInM Fence.wide 0 C.P fn aCY (fun e w'=>Fin C X w M E K KP w' e) i.defers (settle u2) w4:=by
     intro X4 N E4 Y B U I;obtain⟨bR,a0p,_,a0i⟩:=U.defers;have bk:a4.defers=[]:=by rw[a0p,a0i rfl];rfl
     refine⟨bk,u',rfl,?_⟩;have bz:(results ab a4.tmps).run C.P w4= .ok (.tuple #[]) w4:=by
      rw[aGM];have:ab.results= #[]:=by simpa using aZo
      rw[this];simp
     refine⟨_,bz,?_⟩;rw[a9];have aZe:okM w.heap.size X4 i.defers w4:=by
      refine⟨fun d hd=> ?_,aEZ.2⟩;obtain⟨D,R,Z,q3,q4⟩:=aEZ.1 d hd;exact⟨D,R,Z,Y _ q3,I.keep _ _ (fun ho=>aq.aA7 ho q3) q4⟩
     have bd:From w M E w4 N.mem E4:=aZ5.trans I;rw[<-aX i.defers];refine aso (by simp) aZe fun w5 z=> ?_
     obtain⟨R,Z,q3⟩:=azH U.sim ay bd aZe z;have aZm:Rep w5 (away X4 N.mem E4) N.mem E4 (.pointer (some ⟨c,0,none⟩)) (.ptr b 0):=(((aP0.from aD).aJm (O':=away o x m) (w':=j)).from I).aJm;have bt:InS C X4 ⟨w5.heap.size,[],true,none⟩ aCY.size ⟨[(te, .ptr b 0)],N.mem⟩ {tmps:=aCY,defers:=[]} w5 E4:=
      {sim:=R,size:=rfl,defers:=ax4,fix:=fun _ h=>by cases h
       env:=fun t=>by
        simp only[look]
        by_cases ht:te=t
        ·subst ht;simp only[beq_self_eq_true,cond_true]
         have:({tmps:=aCY,defers:=[]}:Act).eval (.tmp te)= .pointer (some ⟨c,0,none⟩):=bF;rw[this];exact aZm
        ·have h1:(te==t)=false:=by simp[ht]
         simp only[h1,cond_false];exact .dead}
     have bA:ase [.cell te false 1] ⟨[(te, .ptr b 0)],N.mem⟩ (fun vs=>K (resV vs) N.mem):=by
      simp only[ase,look,beq_self_eq_true,cond_true,resV];exact B
     obtain⟨v5,bS,g1,g2,g3⟩:=aAE bt a8 bA;have aY:∀b,X b->X4 b:=fun b hb=>Y b (k b (bJ b hb))
     exact⟨v5,g1,_,N.mem,E4,g2,R.less aY hS.apF,Z,g3.less aY⟩
    cases e with
    |normal=>
     obtain⟨X4,N,E4,Y,B,U,I⟩:=W;exact aB X4 N E4 Y B U I
    |ret=>
     obtain⟨X4,N,E4,Y,B,U,I⟩:=W;exact aB X4 N E4 Y B U I
    |exit id=>obtain⟨_,_,_,_,G,_⟩:=W;exact G.elim
    |panic ch=>obtain⟨_,_,_,_,_,_,_,G,_⟩:=W;exact G.elim
    |goto l=>exact W.elim
    |outgrown=>exact W.elim
   refine wpSIn_seq (wpSIn_region ?_)
   show wpOpsSIn Fence.wide 0 C.P [r].toArray _ [0] a3 (Q::cs) j
   have bI:Region.wanted r (yielded [r].toArray a3.tmps)=true:=by simp[Region.wanted,bq]
   simp only[wpOpsSIn,a6,aV,bI,if_true,aZp];refine⟨fun _ _=>trivial,?_⟩
   rcases a7 Q cs an with⟨A,R,Z⟩|⟨R,Z,q3⟩
   ·rw[R]
    simp only[aS];exact aO A Z
   ·rw[R]
    simp only[aS];rw[<-Z];exact aO (Q::cs) (by rw[q3,<-an])
  have aj:∀b,C.low b->b<O.heap.size:=fun b hb=>by have:=ay b hb;have:=aT.size;omega
  have ak:∀(o:Nat->Prop) (w2 j:World) (x:Mem) (m:Emb) (L:List Deferred),(∀b,X1 b->o b)->From O s1.mem E1 w2 x m->okM O.heap.size o L w2->Shut L w2 j->okM w.heap.size o i.defers j:=by
   intro o w2 j x m L k H aEZ z;rw[aZh];refine⟨fun d hd=> ?_,aZd.2⟩;obtain⟨D,R,Z,q3,q4⟩:=aZd.1 d hd;refine⟨D,R,Z,k _ q3,?_⟩;rw[z.keep D fun d' bh G=> ?_]
   ·exact H.keep _ _ (fun ho=>J.sim.aA7 ho q3) q4
   ·obtain⟨D',g1,g2,_,_⟩:=aEZ.1 d' bh
    rw[g1]at G
    injection G with G
    have:=aop q4;omega
  have ret:∀(o:Nat->Prop) (s2:St) (m:Emb),(∀b,X1 b->o b)->pwp C s2.mem.boxes.length s2.mem.anK.length ap (ayq te b K) ⟨[(0, .ptr b 0),(t5, .d .nilIface)],s2.mem⟩->
    InS C o ⟨O.heap.size,D1::i.defers,false,some (te, .pointer (some ⟨c,0,none⟩))⟩ n s2 a2 w2 m->From O s1.mem E1 w2 s2.mem m->LeavesInM Fence.wide 0 C.P fn a2.tmps (fun e w'=>Fin C X w M E K KP w' e) a2.defers .returning w2:=by
   intro o s2 m k aSj aXX H;obtain⟨L,aX3,aEZ,_⟩:=aXX.defers;rw[aX3];refine aso (by simp) aEZ fun j z=> ?_
   obtain⟨R,Z,q3⟩:=azH aXX.sim aj H aEZ z;refine hD .returning .returning o j s2.mem m .nilIface .nilIface (by simp) k R Z .nilIface (ak o w2 j s2.mem m L k H aEZ z) (fun Q cs hm=> .inr ⟨by simp[recoverD,hm],rfl,rfl⟩) rfl aSj _ ?_;exact aXX.fix _ rfl
  cases e with
  |normal=>obtain⟨o,s2,m,k,h1,h2,h3⟩:=V;exact ret o s2 m k h1 h2 h3
  |ret=>obtain⟨o,s2,m,k,h1,h2,h3⟩:=V;exact ret o s2 m k h1 h2 h3
  |exit id=>obtain⟨_,_,_,_,G,_⟩:=V;exact G.elim
  |goto l=>exact V.elim
  |outgrown=>exact V.elim
  |panic ch=>
   obtain⟨o,v,d,x,m,k,rfl,aSj,aq,H,aH,⟨L,aX3,aEZ,_⟩,aU⟩:=V
   show LeavesInM Fence.wide 0 C.P fn a2.tmps (fun e w'=>Fin C X w M E K KP w' e) a2.defers (.panicking [{v,recovered:=false}]) w2
   rw[aX3];refine aso (by simp) aEZ fun j z=> ?_
   obtain⟨R,Z,q3⟩:=azH aq aj H aEZ z;refine hD (.panicking [{v,recovered:=false}]) (.panicking [{v,recovered:=true}]) o j x m d v (by simp) k R Z (aH.mono q3) (ak o w2 j x m L k H aEZ z) (fun Q cs hm=> .inl ⟨_,by simp[recoverD,hm],rfl⟩) rfl aSj _ ?_;exact aU _ rfl
end
open Go.Sort
def ay0:∀xs:List Int,flat (xs.map (DV.int .i64))=xs.map (DV.int .i64)
 | []=>rfl
 |x::xs=>by
  have:=ay0 xs;simp only[flat]at this⊢;simp only[aw,List.flatMap_cons,this]
  rfl
def aGK {w:World}{O:Nat->Prop}:∀xs:List Int,an3 w O (xs.map (Value.int .i64)) (xs.map (DV.int .i64))
 | []=> .nil
 |x::xs=> .cons (.int _ _) (aGK xs)
def ayh {w:World}{O:Nat->Prop}:∀{vs:List Value} {xs:List Int},an3 w O vs (xs.map (DV.int .i64))->vs=xs.map (Value.int .i64)
 | _,[], .nil=>rfl
 | _,x::xs, .cons h t=>by
  cases h;rw[ayh t]
  rfl
section
variable {C:Ctx}
def aWf {ρ:Go.Shelf.Ren}(M:Go.Proofs.Lays.n189 C.P ρ){k ver:Nat}{zs:List Int}{bs:List (Option (List PV))}{fz:List Nat}{ar:List (Option Arr)}{K:PV->Mem->Prop}{KP:DV->Mem->Prop}
  (h:ar[k]?=some (some ⟨1,zs.map (DV.int .i64),ver,1⟩))(hz:zs≠[])(hl:zs.length<4611686018427387904)
  (S:K (.d (.tup [])) ⟨bs,fz,ar.set k (some ⟨1,(zs.mergeSort fun x y=>decide (x<=y)).map (DV.int .i64),ver,1⟩)⟩):SC C (ρ.f 189) [.tsl k ver 0] ⟨bs,fz,ar⟩ K KP:=by
 intro X w E L J Q;cases Q with|cons V W=>
 cases W;cases V with|tsl B hh=>
 obtain⟨_,m⟩:=hh _ h;obtain⟨ab,i,z⟩:=m rfl;obtain⟨s1,s2,s3,s4⟩:=J.arr k _ h;obtain⟨q,F⟩:=s3 rfl;rw[F]at i;cases i;obtain⟨a,o,e⟩:=q;obtain⟨hX,vs,T,g2,N,g4,v⟩:=s4 a o e F;obtain⟨_,z⟩:=z
 rcases z with⟨I,U,_,_⟩|⟨O,_⟩
 case inr=>exact absurd (by simpa using O) hz
 cases U;simp only[Z,bD]at N v;rw[ay0]at v;have g:=ayh v;have R:Holds (Value.int .i64) w a o zs.toArray:=by
  intro j u;have c:j<zs.length:=by simpa using u
  have m:vs[o+j]?=some (.int .i64 zs[j]):=by
   have:=congrArg (fun l=>l[j]?) g;simp only[bd,c,if_true,bc,aZ,aS,ak c,Option.map_some]at this;exact this
  refine⟨?_,?_⟩
  ·rw[cell_of_row w a (o+j) vs T.ty T.fr g2,m]
   simp[c]
  ·have B:o+j<vs.size:=(Array.getElem?_eq_some_iff.1 m).1
   obtain⟨ty,⟨f1,f2⟩,D⟩:=T;simp only at D g2;simp[World.frozen?,g2];intro hh;omega
 have p:a<w.heap.size:=aop g2;simp only[Z,bB,Nat.zero_mul,Nat.add_zero];refine(Go.Proofs.Any.slices_Sort_int M a o _ zs w R p hl).mono ?_;rintro en w' ⟨rfl,n,os,rfl⟩;generalize H:(zs.mergeSort fun x y=>decide (x<=y))=ss at*;have G:ss.length=zs.length:=by rw[<-H,List.length_mergeSort]
 have Y:Wrote a w (putRow (Value.int .i64) (Go.Sort.ahead w n) a o ss.toArray) (putCells (Value.int .i64) o ss.toArray vs).toList T.ty T.fr:=
  {os:=rfl
   tape:=rfl
   output:=rfl
   size:=by simp[putRow,mapBlock,Go.Sort.ahead]
   at_:=by simp[putRow,mapBlock,Go.Sort.ahead,aY,g2,onCells]
   keep:=fun b A=>by simp[putRow,mapBlock,Go.Sort.ahead,aY,Ne.symm A]}
 have s:((putCells (Value.int .i64) o ss.toArray vs).toList.drop o).take zs.length=ss.map (Value.int .i64):=by
  apply List.ext_getElem?;intro j;rw[bd,bc,aZ,aS]
  by_cases u:j<zs.length
  ·rw[if_pos u]
   have c:j<ss.length:=by omega
   have m:o+j<vs.size:=by omega
   simp[putCells,m,c]
  ·rw[if_neg u,List.getElem?_eq_none (by omega)];rfl
 have t:=aNO (el:=ss.map (DV.int .i64)) J h rfl F g2 (by simp[G]) (by intro x hx;obtain⟨y,_,rfl⟩:=ax.1 hx;rfl) (by simp[putCells]) (by
  simp only[Z,bD];rw[ay0,s];exact aGK ss) Y
 have r:Later (putRow (Value.int .i64) (Go.Sort.ahead w n) a o ss.toArray) (grow (putRow (Value.int .i64) (Go.Sort.ahead w n) a o ss.toArray) os):=
  ⟨rfl,rfl,rfl,by simp[grow],fun b A=>by simp only[grow];rw[aF A]⟩
 exact⟨_,_,E,S,t.1.later r,t.2.trans (r.from _ _), .d (.tup .nil)⟩
end
section
variable {C:Ctx}
def aFq {X:Nat->Prop}:∀b,away X aok ⟨[],[]⟩ b->X b:=by
 rintro b (h|⟨i,cs,h,_⟩|⟨k,A,o,e,h,_⟩)
 ·exact h
 ·simp[aok]at h
 ·simp[aok]at h
variable{f:FuncId}{ds:List DV}
def aGY {Kr:DV->Prop}{Kp:DV->Prop}(h:SC C f (ds.map .d) aok (fun v M'=>∃x,datum M' v=some x/\Kr x.strip) (fun d _=>Kp d)){M:Mem}{K:PV->Mem->Prop}{KP:DV->Mem->Prop}
  (t:∀x,Kr x->K (.d x) M)(u:∀d,Kp d->KP d M):SC C f (ds.map .d) M K KP:=by
 intro X w E a i s;have k:∀b,C.low b->away X M E b:=fun b g=> .inl (i.apF b g)
 have q:∀b,away X M E b->b<w.heap.size:=fun b g=>i.auS g
 have n:anW w (away (away X M E) aok ⟨[],[]⟩) aok ⟨[],[]⟩ a (ds.map .d):=by
  refine anW.ofD ?_;have:an3 w (away X M E) a ds:=anW.toL s;exact this.weaken aFq
 refine(h (away X M E) w ⟨[],[]⟩ a (aCM i.glob k q) n).mono fun e w' o=> ?_
 cases e with
 |returned v=>
  obtain⟨p,M',r,⟨x,hd,A⟩,h2,l,m⟩:=o;have j:=l.awO;refine⟨.d x.strip,M,E,t _ A,i.later j,j.from M E, .d ?_⟩;exact((aqx (ps:=[p]) h2 m hd (by simp)).weaken fun b g=> .inl g).strip
 |panicked c=>
  obtain⟨v,d,M',r,y,z,h2,l,m⟩:=o;have j:=l.awO;exact⟨v,d,M,E,y,u _ z,i.later j,j.from M E,m.weaken fun b g=> .inl g⟩
 |outgrown=>exact o.elim
def atb {r:DV}
  (h:∀(X:Nat->Prop) (w:World) (a:List Value),C.G w->(∀b,X b->b<w.heap.size)->an3 w X a ds->Calls C.P f a.toArray w fun e w'=>∃v,e= .returned v/\Later w w'/\aof w' X v r):Pure C f ds (.d r) []:=by
 intro X w a g l i m;refine(h X w a g i m).mono fun e w' k=> ?_
 obtain⟨v,rfl,c,n⟩:=k;have j:Sim C X w aok ⟨[],[]⟩:=aCM g l i;exact⟨v,⟨[],[]⟩,rfl,j.later c,c.from _ _, .d (n.weaken aFq)⟩
end
def FzB (M:Mem):Prop:=∀i∈M.fz,i<M.boxes.length
structure Kept (n:Nat) (own auL:Nat->Prop) (M M':Mem):Prop where
 len:M.boxes.length<=M'.boxes.length
 aoc:M.anK.length<=M'.anK.length
 box:∀i,(n<=i\/own i)->i<M.boxes.length->M'.boxes[i]?=M.boxes[i]?
 fz:∀i,(n<=i\/own i)->i<M.boxes.length->(i∈M'.fz↔i∈M.fz)
 row:∀k,auL k->M'.anK[k]?=M.anK[k]?
 fzb:FzB M->FzB M'
structure Moved (n:Nat) (own:Nat->Prop) (M M':Mem):Prop where
 len:M.boxes.length<=M'.boxes.length
 box:∀i,i<n->¬own i->M'.boxes[i]?=M.boxes[i]?
 fz:∀i,i<n->¬own i->(i∈M'.fz↔i∈M.fz)
 anK:M'.anK=M.anK
 fzb:FzB M->FzB M'
def Kept.refl {n:Nat}{own auL:Nat->Prop}(M:Mem):Kept n own auL M M:=⟨am _,am _,fun _ _ _=>rfl,fun _ _ _=>bu,fun _ _=>rfl,id⟩
def Kept.trans {n:Nat}{own auL:Nat->Prop}{M M' a:Mem}(h:Kept n own auL M M')(h':Kept n own auL M' a):Kept n own auL M a:=
 ⟨aN h.len h'.len,aN h.aoc h'.aoc,fun i b c=>(h'.box i b (aD c h.len)).trans (h.box i b c),fun i b c=>(h'.fz i b (aD c h.len)).trans (h.fz i b c),fun k d=>(h'.row k d).trans (h.row k d),fun e=>h'.fzb (h.fzb e)⟩
def Moved.trans {n:Nat}{own:Nat->Prop}{M M' a:Mem}(h:Moved n own M M')(h':Moved n own M' a):Moved n own M a:=
 ⟨aN h.len h'.len,fun i b c=>(h'.box i b c).trans (h.box i b c),fun i b c=>(h'.fz i b c).trans (h.fz i b c),h'.anK.trans h.anK,fun d=>h'.fzb (h.fzb d)⟩
variable{M M':Mem}
def Moved.less {n m:Nat}{own a:Nat->Prop}(h:Moved n own M M')(d:m<=n)(ho:∀i,i<m->own i->a i):Moved m a M M':=
 ⟨h.len,fun i b c=>h.box i (aD b d) fun h=>c (ho i b h),fun i b c=>h.fz i (aD b d) fun h=>c (ho i b h),h.anK,h.fzb⟩
def Moved.ext {n:Nat}{own:Nat->Prop}{bs xb:List (Option (List PV))}{fz xf:List Nat}{ar:List (Option Arr)}(c:n<=bs.length)(hx:∀i∈xf,n<=i/\i<bs.length+xb.length):Moved n own ⟨bs,fz,ar⟩ ⟨bs++xb,xf++fz,ar⟩:=
 ⟨by simp,fun i a _=>by rw[av (aD a c)],fun i a _=>by
  simp only[aK];exact⟨fun h=>h.elim (fun h=>absurd (hx i h).1 (by omega)) id, .inr⟩,rfl,fun b i a=>by
  simp only[ap]
  rcases aK.1 a with h|h
  ·exact(hx i h).2
  ·have:=b i h;simp only at this;omega⟩
def FzB.set {M:Mem}{i:Nat}{x:Option (List PV)}(h:FzB M):FzB {M with boxes:=M.boxes.set i x}:=fun j a=>by simpa using h j a
def Moved.set {n:Nat}{own:Nat->Prop}{M:Mem}{i:Nat}{x:Option (List PV)}(hi:n<=i\/own i):Moved n own M {M with boxes:=M.boxes.set i x}:=
 ⟨by simp,fun j b a=>by
  have:i≠j:=by rintro rfl;exact hi.elim (fun h=>by omega) a
  simp[this],fun _ _ _=>bu,rfl,fun h=>h.set⟩
def Kept.set {n:Nat}{own auL:Nat->Prop}{M:Mem}{i:Nat}{x:Option (List PV)}(hi:i<n)(ho:¬own i):Kept n own auL M {M with boxes:=M.boxes.set i x}:=
 ⟨by simp,am _,fun j a _=>by
  have:i≠j:=by rintro rfl;exact a.elim (fun h=>by omega) ho
  simp[this],fun _ _ _=>bu,fun _ _=>rfl,fun h=>h.set⟩
def Kept.set2 {n:Nat}{own auL:Nat->Prop}{i:Nat}{x:Option (List PV)}(h:Kept n own auL M M')(hi:i<n)(ho:¬own i):Kept n own auL M {M' with boxes:=M'.boxes.set i x}:=h.trans (.set hi ho)
section
variable {C:Ctx}
variable{f:FuncId}{ds:List DV}
def an9 {x:DV}(h:SC C f (ds.map .d) aok (fun p M=>datum M p=some x) (fun _ _=>False)):Pure C f ds (.d x) []:=by
 intro X w a m o t s;refine(h X w ⟨[],[]⟩ a (aCM m o t) (anW.ofD (s.weaken azQ))).mono fun e w' g=> ?_
 cases e with
 |returned v=>
  obtain⟨p,M',j,hd,h2,k,l⟩:=g;have i:av9 M' []:=⟨fun q r=>(by cases r),List.nodup_nil⟩
  exact⟨v,_,rfl,aJD h2 i,aFR k i, .d ((aqx (ps:=[p]) h2 l hd (by simp)).weaken fun b n=> .inl (azQ b n))⟩
 |panicked c=>
  obtain⟨v,d,M',j,_,hh,_⟩:=g;exact hh.elim
 |outgrown=>exact g.elim
def aBn (M:Mem)(p:PV)(sz:Nat)(xs:List DV)(st:Nat):Prop:=∃k ver,p= .tsl k ver 0/\M.anK[k]?=some (some ⟨sz,xs,ver,st⟩)
def aBn.datum {M:Mem}{p:PV}{sz st:Nat}{xs:List DV}(h:aBn M p sz xs st):Go.Am.datum M p=some (.slice false xs):=by
 obtain⟨k,ver,rfl,h⟩:=h;simp[Go.Am.datum,Mem.row,h]
def aEJ {sz st:Nat}{xs:List DV}(a:SC C f (ds.map .d) aok (fun p M=>aBn M p sz xs st) (fun _ _=>False)):Pure C f ds (.tsl 0 0 0) [⟨sz,xs,0,st⟩]:=by
 refine ayc (SC.mono a fun p M h=> ?_);obtain⟨k,ver,rfl,h⟩:=h;refine⟨[(k,0)],⟨fun q b=>by simp only[aI]at b;subst b;simp[auV,h],by simp⟩,?_,?_⟩
 ·simp[ren,aGJ,Mem.row,h,aCD]
 ·simp[mkRow,h]
end
def aHE (C:Ctx)(g:FuncId)(fs cs:List PV)(xs:List (List DV))(own f auL:Nat->Prop)(st:Mem->Prop):Prop:=
 ∀(M:Mem) (b n:Nat) (R:List (List DV)->Mem->Prop) (stop:Mem->Prop) (K:PV->Mem->Prop) (KP:DV->Mem->Prop),b<n->¬own b->n<=M.boxes.length->(∀i∈M.fz,i<M.boxes.length)->st M->
  (∀pre a e,Moved n f a e->R pre a->R pre e)->
  (∀pre x c a,xs=pre++x::c->n<=a.boxes.length->R pre a->
   SY C b (x.map .d) a (fun p M'=>Kept n own auL a M'/\((p= .d (.bool true)/\R (pre++ [x]) M')\/(p= .d (.bool false)/\stop M'))) KP)->
  R [] M->(∀p M',stop M'->K p M')->(∀p M',n<=M'.boxes.length->R xs M'->K p M')->SC C g (fs++ [.asz b]++cs) M K KP
variable{off:Nat}{ps:List (Nat×Nat)}{vs:List PV}
def aE9 {cs:List PV}{p:PV}(h1:p.cells=[p])(h2:p.asO=false)(h:off+1<=cs.length):aro cs ((off,1)::ps) (p::vs)=aro (splice cs off [p]) ps vs:=by
 simp[aro,h1,h2,h]
def aHZ {cs:List PV}{k v s:Nat}(h:off+1<=cs.length):aro cs ((off,1)::ps) (.tsl k v s::vs)=aro (splice cs off [.tsl k v s]) ps vs:=aE9 rfl rfl h
variable{b o:Nat}
def aPR {cs:List PV}(h:off+1<=cs.length):aro cs ((off,1)::ps) (.ptr b o::vs)=aro (splice cs off [.ptr b o]) ps vs:=aE9 rfl rfl h
def aAZ {cs:List PV}(h:off+1<=cs.length):aro cs ((off,1)::ps) (.mref b::vs)=aro (splice cs off [.mref b]) ps vs:=aE9 rfl rfl h
def aPP {cs a:List PV}{off n:Nat}(h1:a.length=n)(h:off+n<=cs.length):aro cs ((off,n)::ps) (.agg a::vs)=aro (splice cs off a) ps vs:=by
 simp[aro,PV.cells,PV.asO,h1,h]
variable{l:List PV}
def an6 {k v s:Nat}:apx (.tsl k v s::l)=none:=rfl
def aHG:apx (.mref b::l)=none:=rfl
def aoI {cs:List PV}:PV.cells (.agg cs)=cs:=rfl
def aBY:PV.one (.mref b)=true:=rfl
def axW {cs:List PV}:PV.asO (.agg cs)=false:=rfl
def arl:apx (.ptr b o::l)=none:=rfl
variable{fn:Fn}{f c:List PV}
def cells_func:PV.cells (.func fn f c)=[.func fn f c]:=rfl
def axa:PV.cells (.ptr b o)=[.ptr b o]:=rfl
def aor {k v s:Nat}:PV.cells (.tsl k v s)=[.tsl k v s]:=rfl
def aMs:PV.cells (.asz b)=[.asz b]:=rfl
def aKC:PV.asO (.asz b)=false:=rfl
def aF0:PV.asO (.ptr b o)=false:=rfl
def aK2:PV.one (.func fn f c)=true:=rfl
def aFh:PV.one (.ptr b o)=true:=rfl
def aox {k v s:Nat}:PV.one (.tsl k v s)=true:=rfl
section
variable {C:Ctx}{nb na:Nat}{Q:Ex->St->Prop}
def auW (env:List (Nat×PV))(b:Nat)(L:Loop)(cells:List PV)(own auL:Nat->Prop)(f:Mem)(c:Mem->Prop)(Q:Ex->St->Prop)(e:Ex)(s:St):Prop:=
 match e with
 | .normal=>s.mem.boxes[b]?=some (some (.apw {L with state:= .busy,pending:=none}::cells))/\b∉s.mem.fz/\Kept (b+1) own auL f s.mem/\c s.mem
 | .ret=>s.mem.boxes[b]?=some (some (.apw {L with state:= .busy,pending:=none}::cells))/\b∉s.mem.fz/\Kept (b+1) own auL f s.mem/\∀a,Moved b (fun _=>False) s.mem a->Q .ret ⟨env,a⟩
 | .exit id=>s.mem.boxes[b]?=some (some (.apw {L with state:= .busy,pending:=none}::cells))/\b∉s.mem.fz/\Kept (b+1) own auL f s.mem/\∀a,Moved b (fun _=>False) s.mem a->Q (.exit id) ⟨env,a⟩
 | .panic d=>Q (.panic d) ⟨[],s.mem⟩
def aF5 {b:Nat}{own auL:Nat->Prop}{c M':Mem}{x y:Option (List PV)}(hb:b<c.boxes.length)(ho:¬own b)(h:Kept (b+1) own auL {c with boxes:=c.boxes.set b x} M'):Kept (b+1) own auL c {M' with boxes:=M'.boxes.set b y}:=by
 have f:c.boxes.length<=M'.boxes.length:=by simpa using h.len
 refine⟨by simpa using h.len,h.aoc,fun i d a=> ?_,fun i d a=>h.fz i d (by simpa using a),h.row,fun hb=>(h.fzb hb.set).set⟩;have e:b≠i:=by rintro rfl;exact d.elim (fun h=>by omega) ho
 have:=h.box i d (by simpa using a)
 simpa[e]using this
def atq {f:Opd}{ps keys:List Nat}{asg body:anH}{s:St}{g:FuncId}{fs cs:List PV}{xs:List (List DV)}{own G auL:Nat->Prop}{st:Mem->Prop}(hit:aHE C g fs cs xs own G auL st)(M:∀i,G i->own i)(hv:aUX (s.val f)=some (g,fs,cs))(hc:callable C.P g=true)
  (ay5:∀i∈s.mem.fz,i<s.mem.boxes.length)(N:∀x∈xs,x.length=ps.length)(c:∀i,own i->i<s.mem.boxes.length)(B:∀M',Moved s.mem.boxes.length (fun _=>False) s.mem M'->st M')
  (I:List (List DV)->Mem->Prop)(w:∀pre a j,Moved s.mem.boxes.length G a j->I pre a->I pre j)(Y:I [] s.mem)
  (hb:∀(L:Loop) (cells:List PV) (pre:List (List DV)) (x:List DV) (m:List (List DV)) (a:Mem),xs=pre++x::m->s.mem.boxes.length<a.boxes.length->
   a.boxes[s.mem.boxes.length]?=some (some (.apw {L with state:= .busy,pending:=none}::cells))->s.mem.boxes.length∉a.fz->I pre a->∀R:Mem,
   pwp C nb na asg (fun e O=>e= .normal/\O.mem=R/\pwp C nb na body (auW s.env s.mem.boxes.length L cells own auL a (I (pre++ [x])) Q) ⟨O.env,a⟩) ⟨ps.zip (x.map .d)++apS s.env keys,R⟩)
  (S:∀a,I xs a->s.mem.boxes.length<a.boxes.length->Q .normal ⟨s.env,a⟩):
  pwp C nb na (.aub f ps keys asg body) Q s:=by
 have u:s.mem.boxes.length∉s.mem.fz:=fun h=>Nat.lt_irrefl _ (ay5 _ h)
 refine⟨g,fs,cs,hv,hc,u,fun L hL aq9=> ?_⟩;generalize H:(List.range L.tmps.size).map (look s.env)=cells at aq9⊢;obtain⟨b,l⟩:∃b,b=s.mem.boxes.length:=⟨_,rfl⟩
 rw[<-l]at aq9 u ay5 c B w hb S⊢;have z:Moved b (fun _=>False) s.mem (apE s.mem L .ready none cells [] [] []):=by
  rw[l];refine⟨by simp[apE],fun i v _=> ?_,fun i v _=>by simp[apE],by simp[apE],fun hb i v=> ?_⟩
  ·simp only[apE]
   rw[av v]
  ·have:=hb i (by simpa[apE]using v)
   simp[apE];omega
 have A:(apE s.mem L .ready none cells [] [] []).boxes[b]?=some (some (.apw {L with state:= .ready,pending:=none}::cells)):=by rw[l];exact aJg
 have k:∀(e:Ex) (st:LoopState) (F:Option Code) (M':Mem),M'.boxes[b]?=some (some (.apw {L with state:=st,pending:=F}::cells))->st≠ .busy->b∉M'.fz->
   (match F with|none=>e= .normal|some .ret=>e= .ret|some (.exit id)=>e= .exit id| _=>False)->(∀j,Moved b (fun _=>False) M' j->Q e ⟨s.env,j⟩)->afterLoop Q s.env b L M':=by
  intro e st F M' h1 h2 r t Z;refine⟨st,F,cells,h1,h2,r,?_⟩;have J:∀x,Q e ⟨s.env,{M' with boxes:=M'.boxes.set b x}⟩:=fun x=>Z _ (Moved.set (.inl (am _)))
  match F,t with
  |none,t=>subst t;exact J _
  |some .ret,t=>subst t;exact J _
  |some (.exit id),t=>subst t;exact J _
 refine hit _ b (b+1) (fun pre a=>a.boxes[b]?=some (some (.apw {L with state:= .ready,pending:=none}::cells))/\b∉a.fz/\I pre a)
  (fun M'=>afterLoop Q s.env b L M') _ _ (by omega) (fun h=>by have:=c _ h;omega) (by rw[l];simp[apE]) (fun i v=>by simp only[apE,aE,ap,aC,bl]at v⊢;have:=ay5 i v;rw[<-l];omega) (B _ z) ?_ ?_ ⟨A,by simpa[apE]using u,w _ _ _ (z.less (am _) fun _ _ h=>h.elim) Y⟩ (fun _ _ h=>h) ?_
 ·rintro pre a j n ⟨h1,h2,r⟩
  have y:¬G b:=fun h=>by have:=c _ (M _ h);omega
  exact⟨by rw[n.box b (by omega) y];exact h1,fun h=>h2 ((n.fz b (by omega) y).1 h),w _ _ _ (n.less (by omega) fun _ _ h=>h) r⟩
 ·rintro pre x m a T hl ⟨h1,h2,r⟩
  have y:¬own b:=fun h=>by have:=c _ h;omega
  refine aq9 x _ _ a (N x (by rw[T];simp)) h1 h2 ?_;have K:=hb L cells pre x m {a with boxes:=a.boxes.set b (some (.apw {L with state:= .busy,pending:=none}::cells))} T (by simp only[bn];omega) (by rw[bi];simp;omega) h2 (w _ _ _ (Moved.set (.inl (am _))) r) a;refine asb ?_ K;rintro e O ⟨V,W,X⟩;refine⟨V,W,asb ?_ X⟩;intro U s2 h;cases U with
  |normal=>
   obtain⟨o,q,D,E⟩:=h;refine⟨cells,o,q,aF5 (by omega) y D, .inl ⟨rfl,?_,q,w _ _ _ (Moved.set (.inl (am _))) E⟩⟩;have:=(ai.1 o).1;simp[this]
  |ret=>
   obtain⟨o,q,D,E⟩:=h;refine⟨cells,o,q,aF5 (by omega) y D, .inr ⟨rfl,k .ret .done (some .ret) _ ?_ (by simp) q rfl fun j n=>E j ((Moved.set (.inl (am _))).trans n)⟩⟩;have:=(ai.1 o).1;simp[this]
  |exit id=>
   obtain⟨o,q,D,E⟩:=h;refine⟨cells,o,q,aF5 (by omega) y D, .inr ⟨rfl,k (.exit id) .done (some (.exit id)) _ ?_ (by simp) q rfl fun j n=>E j ((Moved.set (.inl (am _))).trans n)⟩⟩;have:=(ai.1 o).1;simp[this]
  |panic d=>exact h
 ·rintro p a hl ⟨h1,h2,r⟩
  refine k .normal .ready none a h1 (by simp) h2 rfl fun j n=>S j (w _ _ _ (n.less (am _) fun _ _ h=>h.elim) r) ?_
  have:=n.len;omega
end
end Go.Am
namespace Go.Tel
open Go.Am
namespace F
end F
namespace T
abbrev int:TypeId:=3
abbrev bool:TypeId:=4
abbrev string:TypeId:=9
abbrev aoe:TypeId:=169
abbrev apV:TypeId:=173
abbrev atf:TypeId:=224
abbrev aoZ:TypeId:=263
abbrev aoh:TypeId:=265
abbrev aoU:TypeId:=267
abbrev aoK:TypeId:=269
abbrev ao0:TypeId:=271
abbrev aDc:TypeId:=346
abbrev aPF:TypeId:=348
end T
noncomputable def C:Ctx:=
 {P:=Go.Proofs.Tryz.prog
  low:=fun b=>Go.Proofs.Tryz.prog.globalNamed "internal/strconv.uint64pow10" =some b
  G:=fun w=>Go.Lib.TabIs Go.Proofs.Tryz.prog w "internal/strconv.uint64pow10" .u64 Go.Lib.pow10Tab
  keeps:=fun w w' h hk=>by
   unfold Go.Lib.TabIs World.var? at h⊢;cases hg:Go.Proofs.Tryz.prog.globalNamed "internal/strconv.uint64pow10" with
   |none=>rw[hg]at h;exact h
   |some g=>
    rw[hg]at h;simp only[Option.bind_some]at h⊢;rw[hk g hg];exact h}
def mixed:C.P.follows .mixedOrders=true:=by kernel_rfl
variable{f:FuncId}{ds:List DV}
def ap3 {r:PV}{ls:List Arr}(pc:anH)(a:List ap7)(h:pwp C 0 0 pc (aHr a (fun p M=>∃L,av9 M L/\ren M L p=r/\L.map (mkRow M)=ls) (fun _ _=>False)) ⟨aup 0 (ds.map .d),aok⟩)(hc:aBt C.P f (ds.map PV.d).length pc a=true:=by kernel_rfl):Pure C f ds r ls:=aEI mixed rfl hc h
def am6 {x:DV}(pc:anH)(a:List ap7)(h:pwp C 0 0 pc (aHr a (fun p _=>p= .d x) (fun _ _=>False)) ⟨aup 0 (ds.map .d),aok⟩)(hc:aBt C.P f (ds.map PV.d).length pc a=true:=by kernel_rfl):Pure C f ds (.d x) []:=aAB mixed rfl hc h
def anJ {args:List PV}{M:Mem}{K:PV->Mem->Prop}{KP:DV->Mem->Prop}(pc:anH)(a:List ap7)(h:pwp C M.boxes.length M.anK.length pc (aHr a K KP) ⟨aup 0 args,M⟩)(hc:aBt C.P f args.length pc a=true:=by kernel_rfl):SC C f args M K KP:=aDD mixed rfl hc h
end Go.Tel
namespace Go.Am
abbrev dI (n:Int):DV:= .int .i64 n
abbrev sF (l:List DV):DV:= .slice false l
abbrev pI (n:Int):PV:= .d (.int .i64 n)
end Go.Am
namespace Go.Tel
open Go.Am
abbrev kI (n:Int):Opd:= .c (.int .i64 n)
abbrev mv (d a:Nat):PO:=⟨some d, .mov,[.t a],none,0⟩
abbrev mk (d:Nat)(a:Opd):PO:=⟨some d, .mov,[a],none,0⟩
abbrev oa (d:Nat)(o:POp)(a:Nat):PO:=⟨some d,o,[.t a],none,0⟩
abbrev ob (d:Nat)(o:POp)(a b:Nat):PO:=⟨some d,o,[.t a, .t b],none,0⟩
abbrev oc (d:Nat)(o:POp)(a:Nat)(b:Opd):PO:=⟨some d,o,[.t a,b],none,0⟩
abbrev on (d:Nat)(o:POp)(l:List Opd):PO:=⟨some d,o,l,none,0⟩
abbrev of (d:Nat)(o:POp)(l:List Opd)(f:Nat):PO:=⟨some d,o,l,none,f⟩
abbrev ot (d:Nat)(o:POp)(l:List Opd)(g f:Nat):PO:=⟨some d,o,l,some (g,true),f⟩
abbrev oF (d:Nat)(o:POp)(l:List Opd)(g f:Nat):PO:=⟨some d,o,l,some (g,false),f⟩
abbrev lo (d a:Nat):PO:=⟨some d, .load false 1,[.t a],none,0⟩
abbrev os (o:POp)(l:List Opd)(f:Nat):PO:=⟨none,o,l,none,f⟩
abbrev rg (l:List PO)(n:Nat)(k:List Nat):anH:= .region false l n k []
abbrev ou (d:Nat)(o:POp)(a f:Nat):PO:=⟨some d,o,[.t a],none,f⟩
abbrev ov (d:Nat)(o:POp)(a g f:Nat):PO:=⟨some d,o,[.t a],some (g,true),f⟩
abbrev ow (d:Nat)(o:POp)(a g f:Nat):PO:=⟨some d,o,[.t a],some (g,false),f⟩
abbrev lv (d a:Nat):PO:=⟨some d, .load false 1,[.t a],none,1⟩
abbrev fa (d n a:Nat):PO:=⟨some d, .fld n,[.t a],none,0⟩
abbrev fu (d n a f:Nat):PO:=⟨some d, .fld n,[.t a],none,f⟩
abbrev lw (d n a:Nat):PO:=⟨some d, .load true n,[.t a],none,0⟩
abbrev ba (d n a:Nat):PO:=⟨some d, .box n,[.t a],none,0⟩
abbrev xa (d n a:Nat):PO:=⟨some d, .ext n,[.t a],none,0⟩
abbrev oi (d:Nat)(o:POp)(a:Nat)(n:Int):PO:=⟨some d,o,[.t a, .c (.int .i64 n)],none,0⟩
abbrev sk (n a b f:Nat):PO:=⟨none, .store n,[.t a, .t b],none,f⟩
abbrev pf (d a b:Nat):PO:=⟨some d, .pick,[.t a, .t b, .c (.bool false)],none,0⟩
abbrev pt (d a b:Nat):PO:=⟨some d, .pick,[.t a, .c (.bool true), .t b],none,0⟩
abbrev mf (d:Nat)(b:Bool):PO:=⟨some d, .mov,[.c (.bool b)],none,0⟩
abbrev mi (d:Nat)(n:Int):PO:=⟨some d, .mov,[.c (.int .i64 n)],none,0⟩
abbrev ag (d n:Nat):PO:=⟨some d, .aIM n,[.c (.slice true [])],none,0⟩
abbrev ix (d n a b:Nat):PO:=⟨some d, .anU n,[.t a, .t b],none,0⟩
abbrev sr (l:List PO)(n:Nat)(k:List Nat)(p:anH):anH:= .seq (.region false l n k []) p
abbrev z0:DV:= .int .i64 0
abbrev zs:DV:= .slice true []
abbrev r0 (l:List PO)(n:Nat)(k z:List Nat):anH:= .region false l n k z
abbrev r1 (l:List PO)(n:Nat)(k z:List Nat):anH:= .region true l n k z
abbrev lq (d a g:Nat):PO:=⟨some d, .load false 1,[.t a],some (g,false),0⟩
abbrev ob1 (d:Nat)(o:POp)(a b f:Nat):PO:=⟨some d,o,[.t a, .t b],none,f⟩
abbrev obT (d:Nat)(o:POp)(a b g f:Nat):PO:=⟨some d,o,[.t a, .t b],some (g,true),f⟩
abbrev obF (d:Nat)(o:POp)(a b g f:Nat):PO:=⟨some d,o,[.t a, .t b],some (g,false),f⟩
abbrev al (d i:Nat)(z:List DV):PO:=⟨some d, .alloc i z,[],none,0⟩
abbrev cx (t e:Nat):anH:= .cond (.t t) .skip (.exit e)
abbrev cd (t:Nat)(p q:anH):anH:= .cond (.t t) p q
abbrev sw (p q:anH):anH:= .seq p q
abbrev pA:POp:= .bin .add
abbrev pN:POp:= .un .not
abbrev pL:POp:= .bin .lss
abbrev pE:POp:= .bin .eql
abbrev pU:POp:= .bin .sub
abbrev pM:POp:= .bin .mul
abbrev pQ:POp:= .bin .neq
abbrev pG:POp:= .bin .gtr
abbrev lp (p:anH):anH:= .block 0 (.loop p)
abbrev b1 (p:anH):anH:= .block 1 p
abbrev s0 (l:List PO)(n:Nat)(k z:List Nat)(q:anH):anH:= .seq (.region false l n k z) q
abbrev ze:DV:= .str ⟨#[]⟩
abbrev cS:Opd:= .c (.slice true [])
abbrev ld:POp:= .load false 1
abbrev zd:List DV:=[zs,zs,zs,z0,z0,zs,z0,zs,z0,z0,z0,zs,z0,z0,z0,z0,z0,zs,zs]
def anN:List ap7:=[.tmp 2]
def anO:List ap7:=[.tmp 4]
def apc:List ap7:=[]
def aoj:List ap7:=[.tmp 4, .tmp 5]
def aWN:List ap7:=[.cell 2 true 2, .tmp 3, .tmp 4]
def aAF:List ap7:=[.tmp 6, .tmp 7]
def aEN:List ap7:=[.cell 2 true 2]
def awU:List ap7:=[.cell 4 true 2]
def atF:List ap7:=[.tmp 6]
def aOJ:List ap7:=[.tmp 2, .tmp 3, .tmp 4]
def aJt:List ap7:=[.tmp 8, .tmp 9]
def aJu:List ap7:=[.tmp 10, .tmp 11]
def aJv:List ap7:=[.tmp 3]
def aTn:List ap7:=[.cell 2 true 3]
def aJw:List ap7:=[.tmp 13, .tmp 14]
def asQ:List ap7:=[.tmp 8]
def aNI:List ap7:=[.tmp 5]
def aJx:List ap7:=[.cell 4 true 7]
def azF:List ap7:=[.cell 4 true 3, .tmp 5]
def aTo:List ap7:=[.cell 4 true 3]
def aw7:List ap7:=[.tmp 2, .tmp 3]
def aTp:List ap7:=[.cell 6 true 3, .tmp 7]
def aJy:List ap7:=[.cell 2 true 2, .tmp 3]
def aTq:List ap7:=[.cell 0 true 24]
def aDB:List ap7:=[.cell 2 true 17]
def aTr:List ap7:=[.cell 0 true 12]
def aTs:List ap7:=[.tmp 0]
def aTt:List ap7:=[.cell 0 true 17]
def aDC:List ap7:=[.cell 0 true 2]
def aTu:List ap7:=[.cell 0 true 3]
def aTv:List ap7:=[.cell 4 true 19]
def aTw:List ap7:=[.cell 4 true 6]
def aTx:List ap7:=[.cell 4 true 2, .tmp 5]
def aTy:List ap7:=[.cell 6 true 2]
def z1:((0:Int)==0)=true:=rfl
def j0:(0:Int)<=0:=by omega
def t0:(0:Int).toNat=0:=rfl
def t1:(1:Int).toNat=1:=rfl
def t2:(2:Int).toNat=2:=rfl
def avz:anH:=(sr [ag 2 1] 0 [0] (sw (sr [mv 3 0,oc 4 (.isNil false) 3 cS] 0 [0,4] (cd 4 (sr [ag 2 1] 0 [2] .ret) .skip)) (sr [on 5 (.aoM 1 [] []) [],mv 6 0,ob 7 (.app 1 false) 5 6,mv 2 7] 0 [2] .ret)))
def avc:anH:=(sr [mf 4 false] 0 [0,1] (sr [mv 5 0,mv 6 1,ob 7 (.anD 210) 5 6,mv 4 7] 0 [4] .ret))
def axw:anH:=(sr [ba 1 0 0,mk 2 (.c (.nilFunc))] 1 [1] (sr [oa 3 (.mkF (.func 211) 0) 1,mv 2 3] 0 [2] .ret))
def auB:anH:=(sr [mk 4 (.c ze)] 0 [0,1] (sr [mv 5 0,mv 6 1,ob 7 (.anD 215) 5 6,mv 4 7] 0 [4] .ret))
def aqD:anH:=(sr [mk 2 cS] 0 [0] (sr [mv 4 0,oa 5 (.call 239) 4,mv 3 5] 0 [3] (sr [mv 6 3,oa 7 (.call 240) 6] 0 [3] (sr [mv 8 3,mv 2 8] 0 [2] .ret))))
def avb:anH:=(s0 [ba 1 0 0,mk 2 (.c (.nilFunc))] 1 [1] [1] (sr [oa 3 (.mkF (.func 241) 0) 1,mv 2 3] 0 [2] .ret))
def asa:anH:=(sr [mf 4 false] 0 [0,1] (sr [mv 5 0,mv 6 1,ob 7 (.anD 255) 5 6,oi 8 (.bin .geq) 7 0,mv 4 8] 0 [4] .ret))
def aqd:anH:=(sr [mf 4 false] 0 [0,1] (sr [mv 5 0,mv 6 1,ob 7 (.anD 265) 5 6,oi 8 (.bin .geq) 7 0,mv 4 8] 0 [4] .ret))
def apU:anH:=(sr [mf 4 false] 0 [0,1] (sr [mv 5 0,mv 6 1,ob 7 (.anD 268) 5 6,oi 8 (.bin .geq) 7 0,mv 4 8] 0 [4] .ret))
def arv:anH:=(sr [ag 2 3] 0 [0] (sw (sr [mv 3 0,oc 4 (.isNil false) 3 cS] 0 [0,4] (cd 4 (sr [ag 2 3] 0 [2] .ret) .skip)) (sr [on 5 (.aoM 3 [] []) [],mv 6 0,ob 7 (.app 3 true) 5 6,mv 2 7] 0 [2] .ret)))
def aqr:anH:=(sr [ag 2 2] 0 [0] (sw (sr [mv 3 0,oc 4 (.isNil false) 3 cS] 0 [0,4] (cd 4 (sr [ag 2 2] 0 [2] .ret) .skip)) (sr [on 5 (.aoM 2 [] []) [],mv 6 0,ob 7 (.app 2 true) 5 6,mv 2 7] 0 [2] .ret)))
def aq3:anH:=(sr [ag 2 4] 0 [0] (sw (sr [mv 3 0,oc 4 (.isNil false) 3 cS] 0 [0,4] (cd 4 (sr [ag 2 4] 0 [2] .ret) .skip)) (sr [on 5 (.aoM 4 [] []) [],mv 6 0,ob 7 (.app 4 false) 5 6,mv 2 7] 0 [2] .ret)))
def at6:anH:=(sr [mf 4 false] 0 [0,1] (sr [mv 5 0,mv 6 1,ob 7 (.anD 269) 5 6,oi 8 (.bin .geq) 7 0,mv 4 8] 0 [4] .ret))
def aqI:anH:=(sr [mf 4 false] 0 [0,1] (sr [mv 5 0,oa 6 .ayM 5,mv 7 1,oa 8 .ayM 7,ob 9 (.bin .geq) 6 8,mv 10 9,ov 11 .mov 0 10 0,ov 12 .mov 0 10 0,ov 13 .ayM 12 10 0,ov 14 .mov 1 10 0,ov 15 .ayM 14 10 0,obT 16 pU 13 15 10 0,obT 17 (.aCO true false) 11 16 10 0,ov 18 .mov 1 10 0,obT 19 pE 17 18 10 0,pf 20 10 19,mv 4 20] 0 [4] .ret))
def awo:anH:=(lp (sw (sr [lo 5 1,oa 6 .ayM 5,oi 7 pG 6 0] 0 [0,1,7] (cx 7 0)) (b1 (sr [mk 3 (.c ze)] 0 [0,1] (sw (sr [lo 8 1,oc 9 (.anD 212) 8 (.c (.int .u8 10)),mv 4 9] 0 [0,1,4] (sr [mv 10 4,oi 11 (.bin .geq) 10 0] 0 [0,1,4,11] (cd 11 (r1 [ou 12 ld 1 2,mv 13 4,oi 14 pA 13 1,ob1 15 (.aCO false true) 12 14 1,ou 16 ld 1 2,mv 17 4,oi 18 pA 17 1,ob1 19 (.aCO true false) 16 18 1,mv 3 15,sk 1 1 19 0] 0 [0,1,3] []) (rg [lo 20 1,mv 3 20,os (.store 1) [.t 1,.c ze] 0] 0 [0,1,3])))) (sr [mv 21 0,mv 22 3,ob 23 .aqg 21 22,oa 24 pN 23] 0 [0,1,24] (cd 24 .ret .skip)))))))
def asL:anH:=(sr [mk 4 (.c ze)] 0 [0,1] (sw (sr [mv 5 0,mv 6 1,ob 7 (.anD 210) 5 6] 0 [0,1,7] (cd 7 (sr [mv 8 0,mv 9 0,oa 10 .ayM 9,mv 11 1,oa 12 .ayM 11,ob 13 pU 10 12,ob 14 (.aCO false true) 8 13,mv 4 14] 0 [4] .ret) .skip)) (sr [mv 15 0,mv 4 15] 0 [4] .ret)))
def aqK:anH:=(s0 [ba 3 0 1,mi 4 0] 1 [0,3] [3] (sw (sr [mv 6 0,oa 7 .len 6,mi 8 0] 0 [0,3,7,8] (lp (sr [ob 9 pL 8 7] 0 [0,3,7,8,9] (sw (cx 9 0) (sw (b1 (sr [mv 10 8,mv 5 10] 0 [0,3,5,7,8] (sw (r1 [ou 11 (.load true 2) 3 1,mv 12 0,mv 13 5,ob1 14 (.anU 2) 12 13 1,ou 15 (.load true 2) 14 1,ob 16 (.awZ false [2,1]) 11 15] 0 [0,3,5,7,8,16] []) (cd 16 (sr [mv 17 5,mv 4 17] 0 [4] .ret) .skip)))) (rg [oi 18 pA 8 1,mv 8 18] 0 [0,3,7,8])))))) (sr [mi 4 (-1)] 0 [4] .ret)))
def auA:anH:=(sr [mk 2 cS] 0 [0] (sr [mv 3 0,on 4 (.call 288) [cS,.t 3],mv 2 4] 0 [2] .ret))
def at7:anH:=(sr [lo 5 1,oa 6 .len 5,mi 7 0] 0 [0,5,6,7] (lp (sr [ob 8 pL 7 6] 0 [0,5,6,7,8] (sw (cx 8 0) (sw (b1 (sr [ix 9 1 5 7,lo 10 9,mv 4 10] 0 [0,4,5,6,7] (sr [mv 11 0,mv 12 4,ob 13 .aqg 11 12,oa 14 pN 13] 0 [0,5,6,7,14] (cd 14 .ret .skip)))) (rg [oi 15 pA 7 1,mv 7 15] 0 [0,5,6,7]))))))
def atC:anH:=(sr [mi 4 0] 0 [0,1] (sw (sr [mv 6 0,oa 7 .len 6,mi 8 0] 0 [0,1,7,8] (lp (sr [ob 9 pL 8 7] 0 [0,1,7,8,9] (sw (cx 9 0) (sw (b1 (sr [mv 10 8,mv 5 10] 0 [0,1,5,7,8] (sr [mv 11 1,mv 12 0,mv 13 5,ix 14 1 12 13,lo 15 14,ob 16 .aqg 11 15] 0 [0,1,5,7,8,16] (cd 16 (sr [mv 17 5,mv 4 17] 0 [4] .ret) .skip)))) (rg [oi 18 pA 8 1,mv 8 18] 0 [0,1,7,8])))))) (sr [mi 4 (-1)] 0 [4] .ret)))
def aqe:anH:=(sr [mf 4 false] 0 [0,1] (sr [mv 5 0,mv 6 1,ob 7 (.anD 296) 5 6,oi 8 (.bin .geq) 7 0,mv 4 8] 0 [4] .ret))
def aqs:anH:=(sr [mi 4 0] 0 [0,1] (sw (sr [mv 6 0,oa 7 .len 6,mi 8 0] 0 [0,1,7,8] (lp (sr [ob 9 pL 8 7] 0 [0,1,7,8,9] (sw (cx 9 0) (sw (b1 (sr [mv 10 8,mv 5 10] 0 [0,1,5,7,8] (sr [mv 11 1,mv 12 0,mv 13 5,ix 14 4 12 13,lw 15 4 14,ob 16 .aqg 11 15] 0 [0,1,5,7,8,16] (cd 16 (sr [mv 17 5,mv 4 17] 0 [4] .ret) .skip)))) (rg [oi 18 pA 8 1,mv 8 18] 0 [0,1,7,8])))))) (sr [mi 4 (-1)] 0 [4] .ret)))
def aoC:anH:=(sr [mi 4 0] 0 [0,1] (sw (sr [mv 6 0,oa 7 .len 6,mi 8 0] 0 [0,1,7,8] (lp (sr [ob 9 pL 8 7] 0 [0,1,7,8,9] (sw (cx 9 0) (sw (b1 (sr [mv 10 8,mv 5 10] 0 [0,1,5,7,8] (sr [mv 11 1,mv 12 0,mv 13 5,ix 14 2 12 13,lw 15 2 14,ob 16 .aqg 11 15] 0 [0,1,5,7,8,16] (cd 16 (sr [mv 17 5,mv 4 17] 0 [4] .ret) .skip)))) (rg [oi 18 pA 8 1,mv 8 18] 0 [0,1,7,8])))))) (sr [mi 4 (-1)] 0 [4] .ret)))
def avA:anH:=(sr [mi 4 0] 0 [0,1] (sw (sr [mv 6 0,oa 7 .len 6,mi 8 0] 0 [0,1,7,8] (lp (sr [ob 9 pL 8 7] 0 [0,1,7,8,9] (sw (cx 9 0) (sw (b1 (sr [mv 10 8,mv 5 10] 0 [0,1,5,7,8] (sr [mv 11 1,mv 12 0,mv 13 5,ix 14 1 12 13,lo 15 14,ob 16 pE 11 15] 0 [0,1,5,7,8,16] (cd 16 (sr [mv 17 5,mv 4 17] 0 [4] .ret) .skip)))) (rg [oi 18 pA 8 1,mv 8 18] 0 [0,1,7,8])))))) (sr [mi 4 (-1)] 0 [4] .ret)))
def atB:anH:=(sr [ba 2 0 0,mk 4 cS] 1 [1,2,4] (sw (sr [mv 6 1] 0 [2,4,6] (.block 0 (.aub (.t 6) [7] [2] (rg [mv 5 7] 0 [2,5]) (b1 (rg [lo 8 2,mv 9 5,oa 10 (.aoM 1 [z0] [0]) 9,ob 11 (.app 1 true) 8 10,sk 1 2 11 0] 0 []))))) (sr [lo 12 2,mv 4 12] 0 [4] .ret)))
def ar9:anH:=(sr [mi 4 0,mf 5 false] 0 [0,1] (sr [mv 10 0,oa 11 .len 10,mv 6 11] 0 [0,1,6] (sr [mv 12 6,mi 7 0,mv 8 12] 0 [0,1,6,7,8] (sw (lp (sw (sr [mv 13 7,mv 14 8,ob 15 pL 13 14] 0 [0,1,6,7,8,15] (cx 15 0)) (b1 (sr [mv 16 7,mv 17 8,ob 18 pA 16 17,oa 19 (.conv .u64) 18,oc 20 (.shf .shr) 19 (.c (.int .u64 1)),oa 21 (.conv .i64) 20,mv 9 21] 0 [0,1,6,7,8,9] (sr [mv 22 0,mv 23 9,ix 24 1 22 23,lo 25 24,mv 26 1,ob 27 (.anD 318) 25 26] 0 [0,1,6,7,8,9,27] (cd 27 (rg [mv 28 9,oi 29 pA 28 1,mv 7 29] 0 [0,1,6,7,8]) (rg [mv 30 9,mv 8 30] 0 [0,1,6,7,8]))))))) (sr [mv 31 7,mv 32 7,mv 33 6,ob 34 pL 32 33,mv 35 34,ov 36 .mov 0 35 0,ov 37 .mov 7 35 0,obT 38 (.anU 1) 36 37 35 0,ov 39 ld 38 35 0,ov 40 .mov 1 35 0,obT 41 pE 39 40 35 0,ov 42 .mov 41 35 0,ow 43 .mov 0 42 0,ow 44 .mov 7 42 0,obF 45 (.anU 1) 43 44 42 0,lq 46 45 42,ow 47 (.anD 323) 46 42 0,ow 48 .mov 47 42 0,ov 49 .mov 1 48 0,ov 50 (.anD 323) 49 48 0,oF 51 .pick [.t 48,.t 50,.c (.bool false)] 42 0,ot 52 .pick [.t 42,.c (.bool true),.t 51] 35 0,pf 53 35 52,mv 4 31,mv 5 53] 0 [4,5] .ret)))))
def ayx:anH:=(sr [mf 4 false] 0 [0,1] (sr [mv 5 0,oa 6 (.anD 343) 5,mv 7 6,ov 8 .mov 1 7 0,ov 9 (.anD 343) 8 7 0,ov 10 pN 9 7 0,pf 11 7 10,mv 12 11,ow 13 .mov 0 12 0,ow 14 .mov 1 12 0,obF 15 pL 13 14 12 0,pt 16 12 15,mv 4 16] 0 [4] .ret))
def aqO:anH:=(sr [mf 2 false] 0 [0] (sr [mv 3 0,mv 4 0,ob 5 pQ 3 4,mv 2 5] 0 [2] .ret))
def ava:anH:=(sr [ag 2 1] 0 [0] (sw (sr [mv 3 0,oc 4 (.isNil false) 3 cS] 0 [0,4] (cd 4 (sr [ag 2 1] 0 [2] .ret) .skip)) (sr [on 5 (.aoM 1 [] []) [],mv 6 0,ob 7 (.app 1 true) 5 6,mv 2 7] 0 [2] .ret)))
def aqY:anH:=(sr [ag 2 4] 0 [0] (sw (sr [mv 3 0,oc 4 (.isNil false) 3 cS] 0 [0,4] (cd 4 (sr [ag 2 4] 0 [2] .ret) .skip)) (sr [on 5 (.aoM 4 [] []) [],mv 6 0,ob 7 (.app 4 true) 5 6,mv 2 7] 0 [2] .ret)))
end Go.Tel
namespace Go.Am
def aoq {cs:List PV}:aIL none cs= .agg cs:=rfl
def aoz {cs:List PV}:aN0 none cs= .tup cs:=rfl
def anT {nb na:Nat}{env:List (Nat×PV)}{m:Mem}{α:Type}{len i:Nat}{E:Nat->α->St}{P:Nat->α->Prop}(b:α)(hi:i<len)(hs:(⟨env,m⟩:St)=E (i+1) b)(d:P (i+1) b):
  ∃c a,c<len - i/\Weak nb na ⟨env,m⟩ a/\upJ len E P c a:=⟨len - (i+1),_,by omega, .inl rfl,i+1,b,by omega,rfl,hs,d⟩
end Go.Am
namespace Go.Tel
open Go.Am
structure Pr where
 a:Int
 b:Int
 deriving DecidableEq,Inhabited
structure Fr where
 n:Int
 d:Int
 deriving DecidableEq,Inhabited
structure Lk where
 fr:Int
 pr:Pr
 deriving DecidableEq,Inhabited
structure Pc where
 links:List Lk
 hands:List Int
 deriving DecidableEq,Inhabited
structure Fs where
 mv:Bool
 mo:Int
 da:Int
 af:Int
 deriving DecidableEq,Inhabited
structure Cal where
 ep:Int
 cy:List Int
 deriving DecidableEq,Inhabited
structure apn where
 n:Int
 d:Int
 ad:Int
 deriving DecidableEq,Inhabited
structure Dt where
 y:Int
 m:Int
 d:Int
 deriving DecidableEq,Inhabited
def Pr.dv (p:Pr):DV:= .agg [dI p.a,dI p.b]
def Fr.dv (p:Fr):DV:= .agg [dI p.n,dI p.d]
def Lk.dv (p:Lk):DV:= .agg [dI p.fr,dI p.pr.a,dI p.pr.b]
def Pc.dv (p:Pc):DV:= .agg [sF (p.links.map Lk.dv),sF (p.hands.map anF)]
def Fs.dv (f:Fs):DV:= .agg [.bool f.mv,dI f.mo,dI f.da,dI f.af]
def Cal.dv (c:Cal):DV:= .agg [dI c.ep,sF (c.cy.map anF)]
def apn.dv (m:apn):DV:= .agg [dI m.n,dI m.d,dI m.ad]
def Dt.dv (d:Dt):DV:= .agg [dI d.y,dI d.m,dI d.d]
def aqA {p:Pr}:p.dv= .agg [dI p.a,dI p.b]:=by rw[Pr.dv]
def aoa {p:Fr}:p.dv= .agg [dI p.n,dI p.d]:=by rw[Fr.dv]
def asA {p:Lk}:p.dv= .agg [dI p.fr,dI p.pr.a,dI p.pr.b]:=by rw[Lk.dv]
def aot {p:Pc}:p.dv= .agg [sF (p.links.map Lk.dv),sF (p.hands.map anF)]:=by rw[Pc.dv]
def ayW {f:Fs}:f.dv= .agg [.bool f.mv,dI f.mo,dI f.da,dI f.af]:=by rw[Fs.dv]
def aoJ {c:Cal}:c.dv= .agg [dI c.ep,sF (c.cy.map anF)]:=by rw[Cal.dv]
def apz {m:apn}:m.dv= .agg [dI m.n,dI m.d,dI m.ad]:=by rw[apn.dv]
def arU {d:Dt}:d.dv= .agg [dI d.y,dI d.m,dI d.d]:=by rw[Dt.dv]
section
variable {C:Ctx}{base:Nat}{K:PV->Mem->Prop}{KP:DV->Mem->Prop}{bs:List (Option (List PV))}{fz:List Nat}{ar:List (Option Arr)}
variable{xs:List DV}
def aOf {k ver skip sz st:Nat}(h:ar[k]?=some (some ⟨sz,xs,ver,st⟩)):datum ⟨bs,fz,ar⟩ (.tsl k ver skip)=some (sF (xs.drop skip)):=by
 simp[datum,Mem.row,h]
def aE6 {f:FuncId}{k ver skip sz st:Nat}{x:DV}(h:ar[k]?=some (some ⟨sz,xs,ver,st⟩))(b:Pure C f [sF (xs.drop skip)] (.d x) [])(hx:av2 x=true)(a:K (.d x) ⟨bs,fz,ar⟩):
  anG C base (.apl f) [.tsl k ver skip] ⟨bs,fz,ar⟩ K KP:=by
 rw[aPN];exact⟨[sF (xs.drop skip)],by simp[aos,aOf h],x,by simpa[DV.strip]using b,hx,a⟩
end
variable{i:Nat}
def anR {α:Type}[Inhabited α]{l:List α}(h:i<l.length):l.take (i+1)=l.take i++ [l.getD i default]:=by
 rw[List.take_add_one];congr 1;rw[ab,ak h];rfl
variable{base:Nat}{M:Mem}{K:PV->Mem->Prop}{KP:DV->Mem->Prop}
def auG {C:Ctx}{sz:Nat}{xs:List DV}{k:IntKind}{n:Int}(hs:∀x∈xs,x.cells.length=sz)(a:0<=n)(h1:n<=xs.length):
  anG C base (.axG sz false true false) [.d (.slice false xs), .d (.int k n)] M K KP=K (.d (sF (xs.take n.toNat))) M:=by
 simp only[anG,awV,aoS,Option.getD_none,Option.getD_some,true_and,bk,a,h1,Int.toNat_zero,List.drop_zero,Bool.false_or,aO];simp;intro c x b;exact hs x b
def aSE {ls:List Lk}:∀x∈ls.map Lk.dv,x.cells.length=3:=by intro x a;obtain⟨l,_,rfl⟩:=ax.1 a;rfl
def fits_int {k:IntKind}{n:Int}:DV.fits 1 (.int k n)=true:=rfl
variable{a b:Int}
def aBC:DV.fits 2 (.agg [dI a,dI b])=true:=rfl
def idx {α:Type}[DecidableEq α](v:α):List α->Nat->Int
 | [],_=> -1
 |x::xs,i=>if v=x then i else idx v xs (i+1)
def aSp {α:Type}[DecidableEq α](v:α):∀(xs:List α) (i:Nat),decide (idx v xs i>=0)=xs.contains v
 | [],i=>by simp[idx]
 |x::xs,i=>by
  simp only[idx,List.contains_cons]
  by_cases h:v=x
  ·simp[h]
  ·simp only[h,if_false,aSp v xs (i+1)]
   simp[h]
def aFE {C:Ctx}{neq:Bool}{c d:Int}:anG C base (.awZ neq [1,1]) [.d (.agg [dI a,dI b]), .d (.agg [dI c,dI d])] M K KP=K (.d (.bool (((a==c)&&(b==d)) !=neq))) M:=by
 rw[aOj (t:=(a==c)&&(b==d))];simp[aoR]
def aOb {b:Bool}:(b !=false)=b:=by cases b<;>rfl
def arq {α:Type}(p:α->Bool):List α->Nat->Int
 | [],_=> -1
 |x::xs,i=>if p x then i else arq p xs (i+1)
def aBJ {α:Type}(p:α->Bool):∀(xs:List α) (i:Nat),decide (arq p xs i>=0)=xs.any p
 | [],i=>by simp[arq]
 |x::xs,i=>by
  simp only[arq,bt]
  by_cases h:p x=true
  ·simp[h]
  ·have a:p x=false:=by simpa using h
   have:=aBJ p xs (i+1)
   simpa[a]using this
def axN {α:Type}(p:α->Bool):∀l:List α,(l.any fun w=> !p w)= !l.all p
 | []=>rfl
 |x::l=>by simp only[bt,br,axN p l,Bool.not_and]
variable{f:FuncId}
def aBr {C:Ctx}{fs cs ds ds':List DV}{args:List PV}{x:DV}(h1:apx args=some ds)(hc:callable C.P f=true)(h2:(fs++ds++cs).map DV.strip=ds')(e:Pure C f ds' (.d x) [])(a:K (.d x) M):
  anG C base .aqg (.d (.func (.func f) fs cs)::args) M K KP:=by
 refine⟨hc,auX (aCI ⟨fs++ds++cs,?_,x,h2▸e,a⟩)⟩;have b:args=ds.map .d:=azP h1;have hd:∀l:List DV,apx (l.map .d)=some l:=by
  intro l;induction l with
  |nil=>rfl
  |cons c l g=>simp[apx,g]
 rw[b,<-au,<-au,hd]
def getD_mem {α:Type}[Inhabited α]{l:List α}(h:i<l.length):l.getD i default∈l:=by
 rw[ab,ak h];exact aG h
def arO (n:Int)(g:Int):(n.tdiv g).natAbs<=n.natAbs:=by
 rw[Int.natAbs_tdiv];exact aH _ _
def aKy (xs:List Int)(fn:FuncId)(b:List DV)(p:Int->Bool)(hl:xs.length<=1000000)(hc:callable C.P fn=true)(g:∀x∈xs,Pure C fn ([(anF x).strip]++b.map DV.strip) (.d (.bool (p x))) []):
  Pure C 255 [sF (xs.map anF), .func (.func fn) [] b] (pI (arq p xs 0)) []:=by
 refine am6 atC anO ?_;simp only[atC,anO,Z,RN,J,N];refine anL xs.length (fun i (_:Unit)=>⟨[(0, .d (sF (xs.map anF))),(1, .d (.func (.func fn) [] b)),(7,pI xs.length),(8,pI i)],⟨[],[],[]⟩⟩)
  (fun i _=>arq p xs 0=arq p (xs.drop i) i) 0 () (ay _) rfl rfl (fun i _ h1 a=> ?_) (fun _ a=> ?_)
 ·obtain⟨h2,e,f⟩:=rng h1 hl
  rw[drop_cons h1,arq]at a;have j:=g (xs.getD i default) (by rw[ab,ak h1];exact aG h1);simp only[h2,e,h1,getD_map,ah,Z,anM,RN,J,W];refine aBr rfl hc (by simp only[aE,au,aw,az,anM]) j ?_;cases c:p (xs.getD i default)
  ·simp only[f,RN,J]
   exact aoD () h1 rfl (by rw[if_neg (fun h=>by rw[c]at h;cases h)]at a;exact a) (by simp) (by simp) rfl rfl
  ·(try simp only[RN,J])
   rw[a,if_pos c]
 ·rw[ao,arq]at a
  simp only[aq,a,RN,J]
def atM (xs:List Int)(fn:FuncId)(a:List DV)(p:Int->Bool)(hl:xs.length<=1000000)(hc:callable C.P fn=true)(c:∀x∈xs,Pure C fn ([(anF x).strip]++a.map DV.strip) (.d (.bool (p x))) []):
  Pure C 179 [sF (xs.map anF), .func (.func fn) [] a] (.d (.bool (xs.any p))) []:=by
 have b:=aKy xs fn a p hl hc c;refine am6 asa anO ?_;simp only[asa,anO,RN,J,N];refine anE b ?_;simp only[aBJ,RN]
def aM3 (xs:List Pr)(fn:FuncId)(b:List DV)(p:Pr->Bool)(hl:xs.length<=1000000)(hc:callable C.P fn=true)(g:∀x∈xs,Pure C fn ([(Pr.dv x).strip]++b.map DV.strip) (.d (.bool (p x))) []):
  Pure C 296 [sF (xs.map Pr.dv), .func (.func fn) [] b] (pI (arq p xs 0)) []:=by
 refine am6 aoC anO ?_;simp only[aoC,anO,Z,RN,J,N];refine anL xs.length (fun i (_:Unit)=>⟨[(0, .d (sF (xs.map Pr.dv))),(1, .d (.func (.func fn) [] b)),(7,pI xs.length),(8,pI i)],⟨[],[],[]⟩⟩)
  (fun i _=>arq p xs 0=arq p (xs.drop i) i) 0 () (ay _) rfl rfl (fun i _ h1 a=> ?_) (fun _ a=> ?_)
 ·obtain⟨h2,e,f⟩:=rng h1 hl
  rw[drop_cons h1,arq]at a;have j:=g (xs.getD i default) (by rw[ab,ak h1];exact aG h1);simp only[h2,e,h1,getD_map,ah,Z,aqA,RN,J,N,W];refine aBr rfl hc (by simp only[aE,au,aw,az,aqA]) j ?_;cases c:p (xs.getD i default)
  ·simp only[f,RN,J]
   exact aoD () h1 rfl (by rw[if_neg (fun h=>by rw[c]at h;cases h)]at a;exact a) (by simp) (by simp) rfl rfl
  ·(try simp only[RN,J])
   rw[a,if_pos c]
 ·rw[ao,arq]at a
  simp only[aq,a,RN,J]
def aHo (xs:List Pr)(fn:FuncId)(a:List DV)(p:Pr->Bool)(hl:xs.length<=1000000)(hc:callable C.P fn=true)(c:∀x∈xs,Pure C fn ([(Pr.dv x).strip]++a.map DV.strip) (.d (.bool (p x))) []):
  Pure C 257 [sF (xs.map Pr.dv), .func (.func fn) [] a] (.d (.bool (xs.any p))) []:=by
 have b:=aM3 xs fn a p hl hc c;refine am6 aqe anO ?_;simp only[aqe,anO,RN,J,N];refine anE b ?_;simp only[aBJ,RN]
def aM1 (xs:List Fr)(fn:FuncId)(b:List DV)(p:Fr->Bool)(hl:xs.length<=1000000)(hc:callable C.P fn=true)(g:∀x∈xs,Pure C fn ([(Fr.dv x).strip]++b.map DV.strip) (.d (.bool (p x))) []):
  Pure C 268 [sF (xs.map Fr.dv), .func (.func fn) [] b] (pI (arq p xs 0)) []:=by
 refine am6 aoC anO ?_;simp only[aoC,anO,Z,RN,J,N];refine anL xs.length (fun i (_:Unit)=>⟨[(0, .d (sF (xs.map Fr.dv))),(1, .d (.func (.func fn) [] b)),(7,pI xs.length),(8,pI i)],⟨[],[],[]⟩⟩)
  (fun i _=>arq p xs 0=arq p (xs.drop i) i) 0 () (ay _) rfl rfl (fun i _ h1 a=> ?_) (fun _ a=> ?_)
 ·obtain⟨h2,e,f⟩:=rng h1 hl
  rw[drop_cons h1,arq]at a;have j:=g (xs.getD i default) (by rw[ab,ak h1];exact aG h1);simp only[h2,e,h1,getD_map,ah,Z,aoa,RN,J,N,W];refine aBr rfl hc (by simp only[aE,au,aw,az,aoa]) j ?_;cases c:p (xs.getD i default)
  ·simp only[f,RN,J]
   exact aoD () h1 rfl (by rw[if_neg (fun h=>by rw[c]at h;cases h)]at a;exact a) (by simp) (by simp) rfl rfl
  ·(try simp only[RN,J])
   rw[a,if_pos c]
 ·rw[ao,arq]at a
  simp only[aq,a,RN,J]
def aHm (xs:List Fr)(fn:FuncId)(a:List DV)(p:Fr->Bool)(hl:xs.length<=1000000)(hc:callable C.P fn=true)(c:∀x∈xs,Pure C fn ([(Fr.dv x).strip]++a.map DV.strip) (.d (.bool (p x))) []):
  Pure C 199 [sF (xs.map Fr.dv), .func (.func fn) [] a] (.d (.bool (xs.any p))) []:=by
 have b:=aM1 xs fn a p hl hc c;refine am6 apU anO ?_;simp only[apU,anO,RN,J,N];refine anE b ?_;simp only[aBJ,RN]
def aM2 (xs:List Fs)(fn:FuncId)(b:List DV)(p:Fs->Bool)(hl:xs.length<=1000000)(hc:callable C.P fn=true)(g:∀x∈xs,Pure C fn ([(Fs.dv x).strip]++b.map DV.strip) (.d (.bool (p x))) []):
  Pure C 265 [sF (xs.map Fs.dv), .func (.func fn) [] b] (pI (arq p xs 0)) []:=by
 refine am6 aqs anO ?_;simp only[aqs,anO,Z,RN,J,N];refine anL xs.length (fun i (_:Unit)=>⟨[(0, .d (sF (xs.map Fs.dv))),(1, .d (.func (.func fn) [] b)),(7,pI xs.length),(8,pI i)],⟨[],[],[]⟩⟩)
  (fun i _=>arq p xs 0=arq p (xs.drop i) i) 0 () (ay _) rfl rfl (fun i _ h1 a=> ?_) (fun _ a=> ?_)
 ·obtain⟨h2,e,f⟩:=rng h1 hl
  rw[drop_cons h1,arq]at a;have j:=g (xs.getD i default) (by rw[ab,ak h1];exact aG h1);simp only[h2,e,h1,getD_map,ah,Z,ayW,RN,J,N,W];refine aBr rfl hc (by simp only[aE,au,aw,az,ayW]) j ?_;cases c:p (xs.getD i default)
  ·simp only[f,RN,J]
   exact aoD () h1 rfl (by rw[if_neg (fun h=>by rw[c]at h;cases h)]at a;exact a) (by simp) (by simp) rfl rfl
  ·(try simp only[RN,J])
   rw[a,if_pos c]
 ·rw[ao,arq]at a
  simp only[aq,a,RN,J]
def aHn (xs:List Fs)(fn:FuncId)(a:List DV)(p:Fs->Bool)(hl:xs.length<=1000000)(hc:callable C.P fn=true)(c:∀x∈xs,Pure C fn ([(Fs.dv x).strip]++a.map DV.strip) (.d (.bool (p x))) []):
  Pure C 194 [sF (xs.map Fs.dv), .func (.func fn) [] a] (.d (.bool (xs.any p))) []:=by
 have b:=aM2 xs fn a p hl hc c;refine am6 aqd anO ?_;simp only[aqd,anO,RN,J,N];refine anE b ?_;simp only[aBJ,RN]
def aFZ (xs:List Int)(v:Int)(hl:xs.length<=1000000):Pure C 269 [sF (xs.map anF),dI v] (pI (idx v xs 0)) []:=by
 refine am6 avA anO ?_;simp only[avA,anO,Z,RN,J,N];refine anL xs.length (fun i (_:Unit)=>⟨[(0, .d (sF (xs.map anF))),(1,pI v),(7,pI xs.length),(8,pI i)],⟨[],[],[]⟩⟩) (fun i _=>idx v xs 0=idx v (xs.drop i) i) 0 () (ay _) rfl rfl (fun i _ h1 a=> ?_) (fun _ a=> ?_)
 ·obtain⟨h2,c,e⟩:=rng h1 hl
  rw[drop_cons h1,idx]at a;cases b:(v==xs.getD i default)
  ·simp only[h2,c,h1,e,b,anM,getD_map,ah,Z,RN,J,W]
   exact aoD () h1 rfl (by rw[if_neg (by simpa using b)]at a;exact a) (by simp) (by simp) rfl rfl
  ·simp only[h2,c,h1,b,anM,getD_map,ah,Z,RN,J,W]
   rw[a,if_pos (by simpa using b)]
 ·rw[ao,idx]at a
  simp only[aq,a,RN,J]
def aHp (xs:List Int)(v:Int)(hl:xs.length<=1000000):Pure C 205 [sF (xs.map anF),dI v] (.d (.bool (xs.contains v))) []:=by
 have a:=aFZ xs v hl;refine am6 at6 anO ?_;simp only[at6,anO,RN,J,N];refine anE a ?_;simp only[aSp,RN]
def azw:anH:=(sr [al 2 0 [z0,z0],mf 3 false,mi 4 0] 1 [0,2] (sw (sr [mv 5 0,oa 6 (.anD 181) 5,oa 7 pN 6] 0 [0,2,7] (cd 7 (sr [on 8 (.build [z0,z0] []) [],sk 2 2 8 0,mf 3 false,mi 4 2] 0 [2,3,4] .ret) .skip)) (sr [mv 9 0,oa 10 (.anD 182) 9,mv 11 0,oa 12 .len 11,oi 13 (.bin .rem) 12 2,oi 14 pE 13 0,sk 2 2 10 0,mv 3 14,mi 4 0] 0 [2,3,4] .ret)))
def aCw:anH:=(s0 [ba 4 0 1,mi 6 0,mi 7 0] 1 [0,2,4] [4] (sw (sr [mv 9 0,oa 10 (.anD 181) 9,oa 11 pN 10,mv 12 11,ow 13 (.load true 2) 4 12 0,ow 14 (.anD 184) 13 12 0,ow 15 pN 14 12 0,pt 16 12 15,mv 17 16,ow 18 .mov 2 17 0,ow 19 (.anD 185) 18 17 0,ow 20 pN 19 17 0,pt 21 17 20] 0 [0,2,4,21] (cd 21 (sr [mi 6 0,mi 7 2] 0 [6,7] .ret) .skip)) (s0 [mv 22 0,lw 23 2 4,ob 24 (.anD 186) 22 23,al 8 0 [z0,z0],sk 2 8 24 0] 1 [2,8] [8] (sr [fa 25 0 8,lo 26 25,mv 27 2,ob 28 pM 26 27,fa 29 1 8,lo 30 29,ob 31 (.bin .quo) 28 30,mv 6 31,mi 7 0] 0 [6,7] .ret))))
def axz:anH:=(sr [mf 2 false] 0 [0] (sr [mv 3 0,oa 4 .len 3,on 5 (.anD 256) [.t 4,kI 1,kI 3],mv 6 5,ov 7 .mov 0 6 0,ot 8 (.anD 257) [.t 7,.c (.func (.func 258) [] [])] 6 0,ov 9 pN 8 6 0,pf 10 6 9,mv 2 10] 0 [2] .ret))
def azx:anH:=(sr [al 2 0 [z0,z0]] 1 [0,2] (sr [ag 3 1,ag 4 1] 0 [0,2,3,4] (sw (sr [mv 7 0,oa 8 .len 7,mi 9 0] 0 [2,3,4,7,8,9] (lp (sr [ob 10 pL 9 8] 0 [2,3,4,7,8,9,10] (sw (cx 10 0) (sw (b1 (s0 [ix 11 2 7 9,lw 12 2 11,al 6 0 [z0,z0],sk 2 6 12 0] 1 [2,3,4,6,7,8,9] [6] (r1 [mv 13 3,fu 14 0 6 1,lv 15 14,ou 16 (.aoM 1 [z0] [0]) 15 1,ob 17 (.app 1 false) 13 16,mv 18 4,fu 19 1 6 1,lv 20 19,ou 21 (.aoM 1 [z0] [0]) 20 1,ob 22 (.app 1 false) 18 21,mv 3 17,mv 4 22] 0 [2,3,4,7,8,9] []))) (rg [oi 23 pA 9 1,mv 9 23] 0 [2,3,4,7,8,9])))))) (sr [mv 24 3,oa 25 (.apl 261) 24,mv 26 4,oa 27 (.apl 261) 26,ob 28 (.anD 260) 25 27,sk 2 2 28 0] 0 [2] .ret))))
def avC:anH:=(s0 [ba 1 0 0,mf 2 false] 1 [1] [1] (sr [fa 3 0 1,lo 4 3,on 5 (.anD 256) [.t 4,kI 0,kI 50000],mv 6 5,ov 7 (.fld 1) 1 6 0,ov 8 ld 7 6 0,ot 9 (.anD 256) [.t 8,kI 1,kI 50000] 6 0,pf 10 6 9,mv 2 10] 0 [2] .ret))
def ayK:anH:=(sr [mf 2 false] 0 [0] (sr [mv 3 0,on 4 (.anD 256) [.t 3,kI 0,kI 10000],mv 2 4] 0 [2] .ret))
def axC:anH:=(s0 [ba 3 0 1,al 4 1 [z0,z0]] 2 [0,3,4] [3] (s0 [mv 6 0,oa 7 (.anD 182) 6,al 5 0 [z0,z0],sk 2 5 7 0] 1 [3,4,5] [5] (sw (r1 [ou 8 (.load true 2) 5 1,ou 9 (.load true 2) 3 1,ob 10 (.anD 264) 8 9,oi 11 pM 10 21600,fu 12 1 5 1,lv 13 12,fu 14 1 3 1,lv 15 14,ob 16 pM 13 15,ob 17 (.build [z0,z0] [(0,1),(1,1)]) 11 16,sk 2 4 17 0] 0 [4] []) .ret)))
def aEG:anH:=(sr [mf 6 false] 0 [0,1,2] (sr [mv 7 0,mv 8 1,ob 9 (.bin .geq) 7 8,mv 10 9,ov 11 .mov 0 10 0,ov 12 .mov 2 10 0,obT 13 (.bin .leq) 11 12 10 0,pf 14 10 13,mv 6 14] 0 [6] .ret))
def awp:anH:=(s0 [ba 1 0 0,mf 2 false] 1 [1] [1] (sr [fa 3 0 1,lo 4 3,oa 5 (.anD 259) 4,oa 6 pN 5,mv 7 6,ow 8 (.fld 1) 1 7 0,lq 9 8 7,ow 10 (.anD 259) 9 7 0,ow 11 pN 10 7 0,pt 12 7 11,mv 2 12] 0 [2] .ret))
def axy:anH:=(sr [mf 2 false] 0 [0] (sr [mv 3 0,on 4 (.anD 256) [.t 3,kI 4,kI 60],mv 2 4] 0 [2] .ret))
def axB:anH:=(sr [al 4 0 [z0,z0]] 1 [0,1,4] (sr [mv 6 0,mv 7 1,ob 8 (.anD 297) 6 7,mv 5 8] 0 [0,1,4,5] (sw (r1 [mv 9 0,mv 10 5,ob 11 (.bin .quo) 9 10,mv 12 1,mv 13 5,ob 14 (.bin .quo) 12 13,ob 15 (.build [z0,z0] [(0,1),(1,1)]) 11 14,sk 2 4 15 0] 0 [4] []) .ret)))
def axA:anH:=(sr [mi 2 0] 0 [0] (sr [mi 3 1] 0 [0,3] (sw (sr [mv 6 0,oa 7 .len 6,mi 8 0] 0 [3,6,7,8] (lp (sr [ob 9 pL 8 7] 0 [3,6,7,8,9] (sw (cx 9 0) (sw (b1 (sr [ix 10 1 6 8,lo 11 10,mv 5 11] 0 [3,5,6,7,8] (rg [mv 12 3,mv 13 5,ob 14 pM 12 13,mv 3 14] 0 [3,6,7,8]))) (rg [oi 15 pA 8 1,mv 8 15] 0 [3,6,7,8])))))) (sr [mv 16 3,mv 2 16] 0 [2] .ret))))
def axx:anH:=(s0 [ba 2 0 0,ba 3 1 1,mi 4 0] 2 [2,3] [2,3] (sr [fa 5 0 2,lo 6 5,fa 7 1 3,lo 8 7,ob 9 pM 6 8,fa 10 0 3,lo 11 10,fa 12 1 2,lo 13 12,ob 14 pM 11 13,ob 15 pU 9 14,mv 4 15] 0 [4] .ret))
def avL:anH:=(sr [mi 4 0] 0 [0,1] (sw (lp (sw (sr [mv 5 1,oi 6 pG 5 0] 0 [0,1,6] (cx 6 0)) (b1 (r1 [mv 7 1,mv 8 0,mv 9 1,ob 10 (.bin .rem) 8 9,mv 0 7,mv 1 10] 0 [0,1] [])))) (sr [mv 11 0,mv 4 11] 0 [4] .ret)))
def anP (n:Int):Bool:=inR n 4 60
def Pr.ok (p:Pr):Bool:=anP p.a&&anP p.b
def Fr.ok (f:Fr):Bool:=inR f.n 0 50000&&inR f.d 1 50000
def arj (l:List Pr):Bool:=inR l.length 1 3&&l.all Pr.ok
def awE (n d:Nat):Fr:=⟨(n / aA n d:Nat),(d / aA n d:Nat)⟩
def aqm:List Int->Int->Int
 | [],p=>p
 |x::xs,p=>aqm xs (p*x)
def aod (l:List Pr):Fr:=awE (aqm (l.map (·.a)) 1).natAbs (aqm (l.map (·.b)) 1).natAbs
def aKa (a b:Fr):Int:=a.n*b.d - b.n*a.d
def ark (l:List Pr)(f:Fr):Fr:=⟨aKa (aod l) f*21600,(aod l).d*f.d⟩
def aQe (l:List Pr)(f:Fr)(turns:Int):Int:=((ark l f).n*turns).tdiv (ark l f).d
def aNo (l:List Pr)(f:Fr)(turns:Int):Int×Int:=if arj l&&f.ok&&inR turns 0 10000 then(aQe l f turns,0)else(0,2)
def aw4 (n l h:Int)(hc:aBt C.P f 3 aEG atF=true:=by kernel_rfl):Pure C f [dI n,dI l,dI h] (.d (.bool (inR n l h))) []:=by
 refine aAB mixed rfl hc ?_
 by_cases h1:n>=l<;>simp only[h1,inR,aEG,atF,aO,RN,J,N]
def aOT (n l h:Int):Pure C 256 [dI n,dI l,dI h] (.d (.bool (inR n l h))) []:=aw4 n l h
def aT3 (n:Int):Pure C 259 [dI n] (.d (.bool (anP n))) []:=by
 refine am6 axy anN ?_;simp only[axy,anN,RN,J]
 repeat' first
  |(refine anE (aOT _ _ _) ?_;try simp only[RN,J,N,S,U,V,W])
  |(refine an7 (by rfl) (fun a=> ?_) (fun a=> ?_)<;>simp only[a,RN,J,N,S,U,V,W])
  |(refine aob (by rfl) (fun a=> ?_) (fun a=> ?_)<;>simp only[a,RN,J,N,S,U,V,W])
 all_goals(first|(simp only[anP, *,BSN];done)|(simp_all[anP];done)|(simp_all[anP];omega))
def aWn (n:Int):Pure C 185 [dI n] (.d (.bool (inR n 0 10000))) []:=by
 refine am6 ayK anN ?_;simp only[ayK,anN,RN,J]
 repeat' first
  |(refine anE (aOT _ _ _) ?_;try simp only[])
  |(refine an7 (by rfl) (fun a=> ?_) (fun a=> ?_)<;>simp only[a,RN,J,N,S,U,V,W])
  |(refine aob (by rfl) (fun a=> ?_) (fun a=> ?_)<;>simp only[a,RN,J,N,S,U,V,W])
 all_goals(first|(simp only[inR, *,BSN];done)|(simp_all[inR];done)|(simp_all[inR];omega))
def aWm (f:Fr):Pure C 184 [f.dv] (.d (.bool f.ok)) []:=by
 refine am6 avC anN ?_;simp only[avC,anN,aoa,RN,J,N,W]
 repeat' first
  |(refine anE (aOT _ _ _) ?_;try simp only[aoa,RN,J,N,S,U,V,W])
  |(refine an7 (by rfl) (fun a=> ?_) (fun a=> ?_)<;>simp only[a,RN,J,N,W])
  |(refine aob (by rfl) (fun a=> ?_) (fun a=> ?_)<;>simp only[a,aoa,RN,J,N,S,U,V,W])
 all_goals(first|(simp only[Fr.ok, *,BSN];done)|(simp_all[Fr.ok];done)|(simp_all[Fr.ok];omega))
def aKF (p:Pr):Pure C 258 [p.dv] (.d (.bool (!p.ok))) []:=by
 refine am6 awp anN ?_;simp only[awp,anN,aqA,RN,J,N,W]
 repeat' first
  |(refine anE (aT3 _) ?_;try simp only[RN])
  |(refine an7 (by rfl) (fun a=> ?_) (fun a=> ?_)<;>simp only[a,RN,J,N,W])
  |(refine aob (by rfl) (fun a=> ?_) (fun a=> ?_)<;>simp only[a,aqA,RN,J,N,S,U,V,W])
 all_goals(first|(simp only[Pr.ok, *,BSN];done)|(simp_all[Pr.ok];done)|(simp_all[Pr.ok];omega))
def aH8 (l:List Pr)(hl:l.length<=1000000):Pure C 181 [sF (l.map Pr.dv)] (.d (.bool (arj l))) []:=by
 refine am6 axz anN ?_;simp only[axz,anN,Z,RN,J]
 repeat' first
  |(refine anE (aOT _ _ _) ?_;try simp only[Z,RN,J,N,S,U,V,W])
  |(refine aoQ rfl rfl (aHo l _ [] (fun p=> !p.ok) hl (by kernel_rfl) (fun p _=>aKF p)) ?_;try simp only[RN])
  |(refine an7 (by rfl) (fun a=> ?_) (fun a=> ?_)<;>simp only[a,RN,J])
  |(refine aob (by rfl) (fun a=> ?_) (fun a=> ?_)<;>simp only[a,Z,RN,J,N,S,U,V,W])
 all_goals(first|(rw[axN])|skip)
 all_goals(first|(simp only[arj, *,BSN];done)|(simp_all[arj];done)|(simp_all[arj];omega))
def aYD (a b:Nat):Pure C 297 [dI a,dI b] (pI (aA a b)) []:=by
 refine am6 avL anO ?_;simp only[avL,anO,RN,J,N];refine apW (fun(q:Nat×Nat)=>⟨[(0,pI q.1),(1,pI q.2)],⟨[],[],[]⟩⟩) (fun q=>aA q.1 q.2=aA a b) (fun q=>q.2) (a,b) rfl rfl (fun q e=> ?_)
 by_cases g:q.2=0
 ·have c:¬((q.2:Int)>0):=by omega
  simp only[c,RN,J];rw[<-e,g,Nat.gcd_zero_right]
 ·have c:((q.2:Int)>0):=by omega
  have d:((q.2:Int)≠0):=by omega
  have f:(q.1:Int).tmod (q.2:Int)=((q.1 % q.2:Nat):Int):=(Int.ofNat_tmod q.1 q.2).symm;simp only[c,d,f,RN,J];exact aC0 (q.2,q.1 % q.2) (Nat.mod_lt _ (by omega)) rfl (by simp only;rw[bA,<-Nat.gcd_rec,bA];exact e) (by simp) (by simp) rfl rfl
def aFb {n:Nat}(h:n<=9223372036854775807):bE .i64 (n:Int)=n:=anI (by omega)
def aQB (a b:Nat)(j:a<=4611686018427387904)(hb:b<=4611686018427387904)(h:0<b):Pure C 260 [dI a,dI b] (.d (awE a b).dv) []:=by
 refine am6 axB awU ?_;have i:((aA a b:Nat):Int)≠0:=by
  have:0<aA a b:=aU _ h;omega
 have c:(a:Int).tdiv (aA a b:Nat)=((a / aA a b:Nat):Int):=(bq a _).symm;have e:(b:Int).tdiv (aA a b:Nat)=((b / aA a b:Nat):Int):=(bq b _).symm;have f:bE .i64 ((a:Int).tdiv (aA a b:Nat))=((a / aA a b:Nat):Int):=by
  rw[c];exact aFb (aN (aH _ _) (by omega))
 have g:bE .i64 ((b:Int).tdiv (aA a b:Nat))=((b / aA a b:Nat):Int):=by
  rw[e];exact aFb (aN (aH _ _) (by omega))
 simp only[axB,awU,RN,J,N,W];refine anE (aYD a b) ?_;simp only[i,f,g,aoa,awE,RN,J,N,W]
def aGw:∀(l:List Int) (p:Int) (k:Nat),(∀x∈l,1<=x/\x<=60)->1<=p->p<=60 ^ k->1<=aqm l p/\aqm l p<=60 ^ (k+l.length)
 | [],p,k,_,h1,h2=>⟨h1,h2⟩
 |x::l,p,k,h,h1,h2=>by
  obtain⟨a,b⟩:=h x (by simp);have d:1<=p*x:=by
   have:=aj h1 a (by omega) (by omega);omega
  have e:p*x<=60 ^ (k+1):=by
   rw[bz];exact aj h2 b (by omega) (bf (by omega) h2)
  obtain⟨r1,r2⟩:=aGw l (p*x) (k+1) (fun y c=>h y (by simp[c])) d e;refine⟨r1,?_⟩;rw[aC,show k+(l.length+1)=k+1+l.length by omega];exact r2
def ayb:∀(l:List Int) (p:Int),(∀x∈l,1<=x)->1<=p->p<=aqm l p
 | [],p,_,_=>bk p
 |x::l,p,h,b=>by
  have c:p*1<=p*x:=Int.mul_le_mul_of_nonneg_left (h x (by simp)) (by omega);have:=ayb l (p*x) (fun y a=>h y (by simp[a])) (by omega);simp only[aqm];omega
def aIn (l:List Int)(hl:l.length<=1000000)(hx:∀x∈l,1<=x)(hb:aqm l 1<=9223372036854775807):Pure C 261 [sF (l.map anF)] (pI (aqm l 1)) []:=by
 refine am6 axA anN ?_;simp only[axA,anN,Z,RN,J];refine anL l.length (fun i (p:Int)=>⟨[(3,pI p),(6, .d (sF (l.map anF))),(7,pI l.length),(8,pI i)],⟨[],[],[]⟩⟩)
  (fun i p=>1<=p/\aqm l 1=aqm (l.drop i) p) 0 1 (ay _) rfl ⟨by omega,rfl⟩ (fun i p h1 a=> ?_) (fun p a=> ?_)
 ·obtain⟨h2,g,h⟩:=rng h1 hl
  obtain⟨c,a⟩:=a;rw[drop_cons h1,aqm]at a;have b:=hx _ (getD_mem h1);have e:1<=p*l.getD i default:=by
   have:=aj c b (by omega) (by omega);omega
  have k:=ayb (l.drop (i+1)) (p*l.getD i default) (fun y j=>hx y (a7 j)) e;have f:bE .i64 (p*l.getD i default)=p*l.getD i default:=anI (by omega);simp only[h2,g,h1,h,anM,getD_map,ah,Z,f,RN,J,W];exact aoD (p*l.getD i default) h1 rfl ⟨e,a⟩ (by simp) (by simp) rfl rfl
 ·obtain⟨c,a⟩:=a
  rw[ao,aqm]at a;simp only[aq,a,RN,J]
variable{l:List Pr}
def aw9 (h:arj l=true):1<=l.length/\l.length<=3/\∀p∈l,(4<=p.a/\p.a<=60)/\4<=p.b/\p.b<=60:=by
 simp only[arj,inR,ae,decide_eq_true_eq,aJ,ge_iff_le,Pr.ok,anP]at h;exact⟨by omega,by omega,h.2⟩
def aCW (hl:l.length<=3)(h:∀p∈l,(4<=p.a/\p.a<=60)/\4<=p.b/\p.b<=60):(1<=aqm (l.map (·.a)) 1/\aqm (l.map (·.a)) 1<=216000)/\1<=aqm (l.map (·.b)) 1/\aqm (l.map (·.b)) 1<=216000:=by
 have e:∀k:Nat,k<=3->(60:Int) ^ k<=216000:=by
  intro k f
  match k,f with
  |0,_=>decide
  |1,_=>decide
  |2,_=>decide
  |3,_=>decide
 constructor
 ·obtain⟨a,b⟩:=aGw (l.map (·.a)) 1 0 (fun x d=>by obtain⟨p,c,rfl⟩:=ax.1 d;have:=h p c;omega) (by omega) (by decide)
  exact⟨a,bf b (e _ (by simpa using hl))⟩
 ·obtain⟨a,b⟩:=aGw (l.map (·.b)) 1 0 (fun x d=>by obtain⟨p,c,rfl⟩:=ax.1 d;have:=h p c;omega) (by omega) (by decide)
  exact⟨a,bf b (e _ (by simpa using hl))⟩
def aVN (a b:Nat)(h:0<b):(0<=(awE a b).n/\(awE a b).n<=a)/\1<=(awE a b).d/\(awE a b).d<=b:=by
 have h1:=aH a (aA a b);have h2:=aH b (aA a b);have c:0<b / aA a b:=Nat.div_pos (Nat.le_of_dvd h (Nat.gcd_dvd_right a b)) (aU _ h);exact⟨⟨Int.natCast_nonneg _,bg.2 h1⟩,bg.2 c,bg.2 h2⟩
def aDH (hl:l.length<=3)(h:∀p∈l,(4<=p.a/\p.a<=60)/\4<=p.b/\p.b<=60):(0<=(aod l).n/\(aod l).n<=216000)/\1<=(aod l).d/\(aod l).d<=216000:=by
 obtain⟨⟨c,e⟩,b1,f⟩:=aCW hl h;have:=aVN (aqm (l.map (·.a)) 1).natAbs (aqm (l.map (·.b)) 1).natAbs (by omega);simp only[aod];omega
def aOW (l:List Pr)(hl:l.length<=3)(h:∀p∈l,(4<=p.a/\p.a<=60)/\4<=p.b/\p.b<=60):Pure C 182 [sF (l.map Pr.dv)] (.d (aod l).dv) []:=by
 obtain⟨⟨t,u⟩,b1,w⟩:=aCW hl h;have j:=aIn (l.map (·.a)) (by simp;omega) (fun x m=>by obtain⟨p,g,rfl⟩:=ax.1 m;have:=h p g;omega) (by omega);have k:=aIn (l.map (·.b)) (by simp;omega) (fun x m=>by obtain⟨p,g,rfl⟩:=ax.1 m;have:=h p g;omega) (by omega);obtain⟨na,e⟩:∃n:Nat,aqm (l.map (·.a)) 1=n:=⟨(aqm (l.map (·.a)) 1).toNat,by omega⟩
 obtain⟨nb,f⟩:∃n:Nat,aqm (l.map (·.b)) 1=n:=⟨(aqm (l.map (·.b)) 1).toNat,by omega⟩
 refine am6 azx aEN ?_;simp only[azx,aEN,Z,RN,J,V];refine anL l.length (fun i (v:Nat)=>⟨[(2, .ptr 0 0),(3, .tsl 0 v 0),(4, .tsl 1 v 0),(7, .d (sF (l.map Pr.dv))),(8,pI l.length),(9,pI i)],
   ⟨[some [pI 0,pI 0]],[],[some ⟨1,((l.take i).map (·.a)).map anF,v,0⟩,some ⟨1,((l.take i).map (·.b)).map anF,v,0⟩]⟩⟩)
  (fun i v=>True) 0 0 (ay _) rfl trivial (fun i v h1 _=> ?_) (fun v _=> ?_)
 ·obtain⟨h2,r,s⟩:=rng h1 (by omega)
  have c:(l.take i).length<=1073741823:=by simp;omega
  simp only[h2,r,h1,s,aqA,getD_map,ah,Z,ao8,fits_int,forall_eq,DV.strip,aqi,RN,J,N,U,V,W];refine⟨by simp,c,by simp,c,?_⟩;refine ao7 1 2 (v+1) h1 ?_ trivial (by simp) (by simp) rfl rfl;rw[anR h1];simp[anF]
 ·rw[bj]
  simp only[aq,RN,J];refine aE6 rfl j rfl ?_;refine aE6 rfl k rfl ?_;simp only[e,f];refine aoQ rfl rfl (aQB na nb (by omega) (by omega) (by omega)) ?_;have o:(aqm (l.map (·.a)) 1).natAbs=na:=by omega
  have q:(aqm (l.map (·.b)) 1).natAbs=nb:=by omega
  simp only[aod,o,q,aoa,RN,N,W]
def aRC {a b:Fr}(h1:0<=a.n/\a.n<=216000)(h2:1<=a.d/\a.d<=216000)(c:b.ok=true):(0<=b.n/\b.n<=50000)/\(1<=b.d/\b.d<=50000)/\(0<=a.n*b.d/\a.n*b.d<=10800000000)/\0<=b.n*a.d/\b.n*a.d<=10800000000:=by
 simp only[Fr.ok,inR,ae,decide_eq_true_eq,ge_iff_le]at c;obtain⟨⟨e,f⟩,l,g⟩:=c;have h:=aj h1.2 g (by omega) (by omega);have i:=aB h1.1 (show 0<=b.d by omega);have j:=aj f h2.2 (by omega) (by omega);have k:=aB e (show 0<=a.d by omega);omega
def aPC (a b:Fr)(h1:0<=a.n*b.d/\a.n*b.d<=4000000000000000000)(h2:0<=b.n*a.d/\b.n*a.d<=4000000000000000000):Pure C 264 [a.dv,b.dv] (pI (aKa a b)) []:=by
 have c:bE .i64 (a.n*b.d)=a.n*b.d:=anI (by omega);have e:bE .i64 (b.n*a.d)=b.n*a.d:=anI (by omega);have f:bE .i64 (a.n*b.d - b.n*a.d)=a.n*b.d - b.n*a.d:=anI (by omega);refine am6 axx anO ?_;simp only[axx,anO,aoa,c,e,f,aKa,RN,J,N,W]
def aQ1 (l:List Pr)(f:Fr)(hl:l.length<=3)(h:∀p∈l,(4<=p.a/\p.a<=60)/\4<=p.b/\p.b<=60)(hf:f.ok=true):Pure C 186 [sF (l.map Pr.dv),f.dv] (.d (ark l f).dv) []:=by
 obtain⟨t1,t2⟩:=aDH hl h;obtain⟨q,j,k,m⟩:=aRC t1 t2 hf;have e:=aOW l hl h;have c:=aPC (aod l) f (by omega) (by omega);have g:bE .i64 (aKa (aod l) f*21600)=aKa (aod l) f*21600:=anI (by simp only[aKa];omega);have n:=aj t2.2 j.2 (by omega) (by omega);have o:=aB (show 0<=(aod l).d by omega) (show 0<=f.d by omega);have i:bE .i64 ((aod l).d*f.d)=(aod l).d*f.d:=anI (by omega);refine am6 axC awU ?_;simp only[aoa]at e c⊢;simp only[axC,awU,RN,J,N];refine anE e ?_;(try simp only[RN,J,N,U,W]);refine anE c ?_;simp only[g,i,ark,RN,J,N,U,W]
def aQ2 {f:Fr}(hl:l.length<=3)(h:∀p∈l,(4<=p.a/\p.a<=60)/\4<=p.b/\p.b<=60)(hf:f.ok=true):((ark l f).n.natAbs<=233280000000000)/\1<=(ark l f).d/\(ark l f).d<=10800000000:=by
 obtain⟨t1,t2⟩:=aDH hl h;obtain⟨k,c,e,g⟩:=aRC t1 t2 hf;have i:=aj t2.2 c.2 (by omega) (by omega);have j:=aj t2.1 c.1 (by omega) (by omega);simp only[ark,aKa];omega
def aYK (l:List Pr)(f:Fr)(turns:Int)(hl:l.length<=1000000):Pure C 93 [sF (l.map Pr.dv),f.dv,dI turns] (.d (.tup [dI (aNo l f turns).1,dI (aNo l f turns).2])) []:=by
 refine am6 aCw aAF ?_;have b:=aWm f;simp only[aoa]at b⊢;simp only[aCw,aAF,RN,J,N]
 repeat' first
  |(refine anE (aH8 l hl) ?_;try simp only[RN])
  |(refine anE (b) ?_;try simp only[RN])
  |(refine anE (aWn turns) ?_;try simp only[RN])
  |(refine an7 (by rfl) (fun a=> ?_) (fun a=> ?_)<;>simp only[a,RN,J,N,W])
  |(refine aob (by rfl) (fun a=> ?_) (fun a=> ?_)<;>simp only[a,RN,J,N,W])
 any_goals (simp_all[aNo];done)
 have h1:arj l=true:=by simp_all
 have h2:f.ok=true:=by simp_all
 have c:inR turns 0 10000=true:=by simp_all
 obtain⟨_,g,h⟩:=aw9 h1;obtain⟨m,p⟩:=aQ2 g h h2;have e:=aQ1 l f g h h2;simp only[aoa]at e;have b1:((ark l f).n*turns).natAbs<=2332800000000000000:=by
  rw[Int.natAbs_mul];have:turns.natAbs<=10000:=by simp only[inR,ae,decide_eq_true_eq]at c;omega
  exact Nat.mul_le_mul m this
 have i:bE .i64 ((ark l f).n*turns)=(ark l f).n*turns:=anI (by omega);have o:=arO ((ark l f).n*turns) (ark l f).d;have j:bE .i64 (((ark l f).n*turns).tdiv (ark l f).d)=((ark l f).n*turns).tdiv (ark l f).d:=anI (by omega);have k:(ark l f).d≠0:=by omega
 refine anE e ?_;simp only[i,j,k,RN,J,N,U,W];simp only[aNo,h1,h2,c,a8,if_true,aQe]
def aBm (l:List Pr):Fr×Bool×Int:=if arj l then(aod l,(l.length:Int).tmod 2==0,0)else(⟨0,0⟩,false,2)
def aUn (l:List Pr)(hl:l.length<=1000000):Pure C 90 [sF (l.map Pr.dv)] (.d (.tup [(aBm l).1.dv, .bool (aBm l).2.1,dI (aBm l).2.2])) []:=by
 refine am6 azw aWN ?_;simp only[azw,aWN,RN,J];refine anE (aH8 l hl) ?_;cases h1:arj l
 ·(try simp only[RN,J,N,W])
  simp[aBm,h1,aoa]
 ·obtain⟨_,b,c⟩:=aw9 h1
  have a:=aOW l b c;simp only[aoa]at a;(try simp only[RN,J]);refine anE a ?_;simp only[Z,RN,N,W];simp[aBm,h1,aoa]
def aAy:anH:=(s0 [ba 1 0 0,ag 2 2,ag 3 1,mi 4 0] 1 [1] [1] (sw (sr [lw 11 2 1,oa 12 (.anD 89) 11,oa 13 pN 12] 0 [1,13] (cd 13 (sr [ag 2 2,ag 3 1,mi 4 2] 0 [2,3,4] .ret) .skip)) (sr [on 14 (.build [z0,z0] [(0,1),(1,1)]) [kI 1,kI 1],oa 15 (.arY 2 [.agg [z0,z0]] [0]) 14,on 16 (.arY 1 [.bool false] [0]) [.c (.bool true)],mv 5 15,mv 6 16] 0 [1,5,6] (sw (sr [fa 17 0 1,lo 18 17,oa 19 .len 18,mi 20 0] 0 [1,5,6,19,20] (lp (sr [ob 21 pL 20 19] 0 [1,5,6,19,20,21] (sw (cx 21 0) (sw (b1 (sr [mv 22 20,mv 7 22] 0 [1,5,6,7,19,20] (s0 [lw 24 2 1,mv 25 7,oi 26 pA 25 1,ob 27 (.anD 91) 24 26,oa 28 (.anD 90) 27,mv 23 28,xa 29 0 23,xa 30 1 23,xa 31 2 23,al 8 0 [z0,z0],sk 2 8 29 0,mv 9 30,mv 10 31] 1 [1,5,6,8,9,19,20] [8] (rg [mv 32 5,lw 33 2 8,oa 34 (.aoM 2 [.agg [z0,z0]] [0]) 33,ob 35 (.app 2 false) 32 34,mv 36 6,mv 37 9,oa 38 (.aoM 1 [.bool false] [0]) 37,ob 39 (.app 1 false) 36 38,mv 5 35,mv 6 39] 0 [1,5,6,19,20])))) (rg [oi 40 pA 20 1,mv 20 40] 0 [1,5,6,19,20])))))) (sr [mv 41 5,mv 42 6,mv 2 41,mv 3 42,mi 4 0] 0 [2,3,4] .ret)))))
def aAA:anH:=(s0 [ba 4 0 0,ba 6 1 2,mi 8 0,mi 9 0] 2 [1,3,4,6] [4,6] (sw (sr [lw 10 2 4,oa 11 (.anD 89) 10,oa 12 pN 11,mv 13 12,ow 14 .mov 1 13 0,ow 15 (.fld 1) 4 13 0,lq 16 15 13,ow 17 .len 16 13 0,oF 18 pU [.t 17,kI 1] 13 0,oF 19 (.anD 92) [.t 14,kI 0,.t 18] 13 0,ow 20 pN 19 13 0,pt 21 13 20] 0 [1,3,4,6,21] (cd 21 (sr [mi 8 0,mi 9 2] 0 [8,9] .ret) .skip)) (sw (r1 [ou 22 (.load true 2) 4 1,fu 23 1 4 1,lv 24 23,mv 25 1,ob1 26 (.anU 1) 24 25 1,lv 27 26,ob 28 (.anD 91) 22 27,ou 29 (.load true 2) 6 1,mv 30 3,on 31 (.anD 93) [.t 28,.t 29,.t 30],xa 32 0 31,xa 33 1 31,mv 8 32,mv 9 33] 0 [8,9] []) .ret)))
def aAz:anH:=(s0 [ba 2 0 0,mk 4 cS,mi 5 0] 1 [1,2] [2] (sw (sr [lw 6 2 2,oa 7 (.anD 89) 6,oa 8 pN 7,mv 9 8,ow 10 .mov 1 9 0,ow 11 (.fld 0) 2 9 0,lq 12 11 9,ow 13 .len 12 9 0,oF 14 (.anD 92) [.t 10,kI 1,.t 13] 9 0,ow 15 pN 14 9 0,pt 16 9 15] 0 [1,2,16] (cd 16 (sr [mk 4 cS,mi 5 2] 0 [4,5] .ret) .skip)) (sr [lw 17 2 2,mv 18 1,ob 19 (.anD 91) 17 18,mv 4 19,mi 5 0] 0 [4,5] .ret)))
def aCt:anH:=(s0 [ba 1 0 0,mi 2 0,mi 3 0,mi 4 0] 1 [1] [1] (sw (sr [fa 10 0 1,lo 11 10,oa 12 (.anD 94) 11,oa 13 pN 12,mv 14 13,ow 15 (.fld 1) 1 14 0,lq 16 15 14,oF 17 (.anD 92) [.t 16,kI 0,kI 1000] 14 0,ow 18 pN 17 14 0,pt 19 14 18,mv 20 19,ow 21 (.fld 2) 1 20 0,lq 22 21 20,oF 23 (.anD 92) [.t 22,kI 0,kI 40] 20 0,ow 24 pN 23 20 0,pt 25 20 24,mv 26 25,ow 27 (.fld 3) 1 26 0,lq 28 27 26,oF 29 (.anD 92) [.t 28,kI 0,kI 100] 26 0,ow 30 pN 29 26 0,pt 31 26 30,mv 32 31,ow 33 (.fld 4) 1 32 0,lq 34 33 32,oF 35 (.anD 92) [.t 34,kI 0,kI 100] 32 0,ow 36 pN 35 32 0,pt 37 32 36,mv 38 37,ow 39 (.fld 5) 1 38 0,lq 40 39 38,oF 41 (.anD 92) [.t 40,kI 0,kI 1000000] 38 0,ow 42 pN 41 38 0,pt 43 38 42] 0 [1,43] (cd 43 (sr [mi 2 0,mi 3 0,mi 4 2] 0 [2,3,4] .ret) .skip)) (sr [ag 5 1] 0 [1,5] (sw (sr [fa 44 0 1,lo 45 44,oa 46 .len 45,mi 47 0] 0 [1,5,45,46,47] (lp (sr [ob 48 pL 47 46] 0 [1,5,45,46,47,48] (sw (cx 48 0) (sw (b1 (sr [ix 49 1 45 47,lo 50 49,mv 7 50] 0 [1,5,7,45,46,47] (rg [mv 51 5,mv 52 7,mv 53 7,ob 54 pM 52 53,oa 55 (.aoM 1 [z0] [0]) 54,ob 56 (.app 1 false) 51 55,mv 5 56] 0 [1,5,45,46,47]))) (rg [oi 57 pA 47 1,mv 47 57] 0 [1,5,45,46,47])))))) (sw (r1 [mv 58 5,oa 59 (.apl 96) 58,fu 60 1 1 1,lv 61 60,ob 62 pM 59 61,oi 63 (.anD 95) 62 100,fu 64 2 1 1,lv 65 64,fu 66 3 1 1,lv 67 66,ob 68 pM 65 67,ob 69 pA 63 68,mv 8 69] 0 [1,8] []) (sr [mv 70 8,mv 71 8,fa 72 4 1,lo 73 72,ob 74 pM 71 73,oi 75 (.anD 95) 74 100,ob 76 pA 70 75,mv 9 76] 0 [1,9] (sw (r1 [mv 77 9,mv 78 9,fu 79 5 1 1,lv 80 79,ob 81 pU 78 80,mv 2 77,mv 3 81,mi 4 0] 0 [2,3,4] []) .ret)))))))
def ayG:anH:=(s0 [ba 1 0 0,mf 2 false] 1 [1] [1] (sw (sr [fa 5 0 1,lo 6 5,oa 7 .len 6,on 8 (.anD 92) [.t 7,kI 1,kI 5],oa 9 pN 8,mv 10 9,ow 11 (.fld 1) 1 10 0,lq 12 11 10,ow 13 .len 12 10 0,oF 14 (.anD 92) [.t 13,kI 1,kI 4] 10 0,ow 15 pN 14 10 0,pt 16 10 15] 0 [1,16] (cd 16 (sr [mf 2 false] 0 [2] .ret) .skip)) (sw (sr [fa 17 0 1,lo 18 17,oa 19 .len 18,mi 20 0] 0 [1,18,19,20] (lp (sr [ob 21 pL 20 19] 0 [1,18,19,20,21] (sw (cx 21 0) (sw (b1 (s0 [mv 22 20,ix 23 3 18 20,lw 24 3 23,al 4 0 [z0,z0,z0],mv 3 22,sk 3 4 24 0] 1 [1,3,4,18,19,20] [4] (sw (r1 [fu 25 0 4 1,lv 26 25,mv 27 3,on 28 (.anD 92) [.t 26,kI 0,.t 27],oa 29 pN 28,mv 30 29,ow 31 (.fld 1) 4 30 1,ow 32 (.load true 2) 31 30 1,ow 33 (.anD 177) 32 30 0,ow 34 pN 33 30 0,pt 35 30 34,mv 36 35,ow 37 (.fld 0) 1 36 1,ow 38 ld 37 36 1,ow 39 .mov 3 36 0,obF 40 (.axG 3 false true false) 38 39 36 1,ow 41 (.fld 0) 4 36 1,ow 42 ld 41 36 1,obF 43 (.anD 178) 40 42 36 0,oF 44 (.bin .geq) [.t 43,kI 3] 36 0,pt 45 36 44] 0 [1,18,19,20,45] []) (cd 45 (sr [mf 2 false] 0 [2] .ret) .skip)))) (rg [oi 46 pA 20 1,mv 20 46] 0 [1,18,19,20])))))) (sr [fa 47 1 1,lo 48 47,oa 49 (.mkF (.func 180) 0) 1,ob 50 (.anD 179) 48 49,oa 51 pN 50,mv 2 51] 0 [2] .ret))))
def ayJ:anH:=(s0 [ba 2 0 0,mk 4 cS] 1 [1,2,4] [2] (sr [al 5 0 [zs]] 1 [1,2,4,5] (sw (sr [fa 7 0 2,lo 8 7,mv 9 1,ob 10 (.anD 183) 8 9] 0 [2,4,5,10] (.block 0 (.aub (.t 10) [11] [2,5] (rg [mv 6 11] 0 [2,5,6]) (b1 (r1 [ou 12 ld 5 2,fu 13 0 2 1,lv 14 13,mv 15 6,ob1 16 (.anU 3) 14 15 1,fu 17 1 16 1,ou 18 (.load true 2) 17 1,ou 19 (.aoM 2 [.agg [z0,z0]] [0]) 18 1,ob 20 (.app 2 true) 12 19,sk 1 5 20 0] 0 [] []))))) (sr [lo 21 5,mv 4 21] 0 [4] .ret))))
def axv:anH:=(sr [mf 2 false] 0 [0] (sr [mv 3 0,oa 4 .len 3,oi 5 (.bin .leq) 4 8,mv 6 5,ov 7 .mov 0 6 0,ot 8 (.anD 179) [.t 7,.c (.func (.func 187) [] [])] 6 0,ov 9 pN 8 6 0,pf 10 6 9,mv 2 10] 0 [2] .ret))
def aGu:anH:=(sr [mi 4 0] 0 [0,1] (sr [mv 5 0,mv 6 1,ob 7 pA 5 6,oi 8 pU 7 1,mv 9 1,ob 10 (.bin .quo) 8 9,mv 4 10] 0 [4] .ret))
def awT:anH:=(sr [mi 2 0] 0 [0] (sr [mi 3 0] 0 [0,3] (sw (sr [mv 6 0,oa 7 .len 6,mi 8 0] 0 [3,6,7,8] (lp (sr [ob 9 pL 8 7] 0 [3,6,7,8,9] (sw (cx 9 0) (sw (b1 (sr [ix 10 1 6 8,lo 11 10,mv 5 11] 0 [3,5,6,7,8] (rg [mv 12 3,mv 13 5,ob 14 pA 12 13,mv 3 14] 0 [3,6,7,8]))) (rg [oi 15 pA 8 1,mv 8 15] 0 [3,6,7,8])))))) (sr [mv 16 3,mv 2 16] 0 [2] .ret))))
def ayE:anH:=(s0 [ba 5 0 0,ba 6 1 1,ba 7 2 2,ba 8 3 3,ba 9 4 4,mk 10 cS,mi 11 0] 5 [5,6,7,8,9] [5,6,7,8,9] (sw (sr [lw 18 2 5,oa 19 (.anD 89) 18,oa 20 pN 19,mv 21 20,lq 22 6 21,lq 23 7 21,obF 24 (.anD 242) 22 23 21 0,ow 25 pN 24 21 0,pt 26 21 25,mv 27 26,lq 28 7 27,lq 29 6 27,obF 30 pU 28 29 27 0,oF 31 pG [.t 30,kI 10] 27 0,pt 32 27 31,mv 33 32,lq 34 8 33,ow 35 (.fld 1) 5 33 0,lq 36 35 33,ow 37 .len 36 33 0,oF 38 pU [.t 37,kI 1] 33 0,oF 39 (.anD 92) [.t 34,kI 0,.t 38] 33 0,ow 40 pN 39 33 0,pt 41 33 40,mv 42 41,ow 43 (.load true 2) 9 42 0,ow 44 (.anD 243) 43 42 0,ow 45 pN 44 42 0,pt 46 42 45] 0 [5,6,7,8,9,46] (cd 46 (sr [mk 10 cS,mi 11 2] 0 [10,11] .ret) .skip)) (sw (r1 [ou 47 (.load true 2) 5 1,oa 48 (.anD 244) 47,fu 49 0 9 1,lv 50 49,fu 51 1 9 1,lv 52 51,ob 53 (.build [z0,z0] [(0,1),(1,1)]) 50 52,al 12 0 [zs,zs,zs],al 13 1 [z0,z0],sk 3 12 48 4,sk 2 13 53 5] 2 [5,6,7,8,12,13] [12,13]) (sr [al 14 0 [.nilFunc]] 1 [5,6,7,8,12,13,14] (sr [on 54 (.mkF (.func 245) 0) [.t 12,.t 8,.t 13,.t 5,.t 6,.t 7,.t 14],sk 1 14 54 0] 0 [5,14] (sw (sr [mi 55 0] 0 [5,14,55] (lp (sr [oi 56 pL 55 3] 0 [5,14,55,56] (sw (cx 56 0) (sw (b1 (sr [mv 57 55,mv 15 57] 0 [5,14,15,55] (sr [lo 59 14,lw 60 2 5,mv 61 15,on 62 .aqg [.t 59,.t 60,kI 0,.t 61],mv 58 62,xa 63 0 58,xa 64 1 58,mv 16 63,mv 17 64] 0 [5,14,16,17,55] (sr [mv 65 17] 0 [5,14,16,55,65] (cd 65 (sr [mv 66 16,mv 10 66,mi 11 0] 0 [10,11] .ret) .skip))))) (rg [oi 67 pA 55 1,mv 55 67] 0 [5,14,55])))))) (sr [mk 10 cS,mi 11 5] 0 [10,11] .ret)))))))
def azu:anH:=(s0 [ba 1 0 0,mf 2 false] 1 [1] [1] (sr [fa 3 0 1,lo 4 3,oa 5 (.anD 188) 4,mv 6 5,ov 7 (.fld 1) 1 6 0,ov 8 ld 7 6 0,ov 9 (.anD 188) 8 6 0,pf 10 6 9,mv 2 10] 0 [2] .ret))
def aEF:anH:=(sr [mi 4 0] 0 [0,1,4] (sr [al 5 0 [z0],os (.store 1) [.t 5,kI 0] 0] 1 [0,1,4,5] (sw (sr [mv 6 0,mv 7 1,ob 8 (.anD 183) 6 7] 0 [4,5,8] (.block 0 (.aub (.t 8) [9] [5] .skip (b1 (rg [lo 10 5,oi 11 pA 10 1,sk 1 5 11 0] 0 []))))) (sr [lo 12 5,mv 4 12] 0 [4] .ret))))
def awR:anH:=(sr [mf 3 false] 0 [0,1] (sr [mv 4 0,fa 5 0 1,lo 6 5,oa 7 .len 6,on 8 (.anD 92) [.t 4,kI 1,.t 7],oa 9 pN 8,mv 3 9] 0 [3] .ret))
def aCu:anH:=(s0 [ba 2 0 0,ba 3 1 1,mk 4 (.c (.nilFunc))] 2 [2,3] [2,3] (sr [ob 5 (.mkF (.func 262) 0) 2 3,mv 4 5] 0 [4] .ret))
def awm:anH:=(sr [mf 2 false] 0 [0] (sr [mv 3 0,oa 4 (.anD 188) 3,oa 5 pN 4,mv 2 5] 0 [2] .ret))
def ayI:anH:=(sr [mf 2 false] 0 [0] (sr [mv 3 0,on 4 (.anD 92) [.t 3,kI 4,kI 60],mv 2 4] 0 [2] .ret))
def aAx:anH:=(s0 [ba 1 0 0,mi 2 0] 1 [1] [1] (sw (sr [lw 3 2 1,oa 4 (.anD 89) 3,oa 5 pN 4] 0 [5] (cd 5 (sr [mi 2 2] 0 [2] .ret) .skip)) (sr [mi 2 0] 0 [2] .ret)))
def azt:anH:=(s0 [ba 2 0 0,ba 3 1 1,mk 4 cS,mi 5 0] 2 [2,3] [2,3] (sw (sw (r1 [ou 6 (.load true 2) 2 1,oa 7 (.anD 89) 6,oa 8 pN 7,mv 9 8,ow 10 (.fld 0) 3 9 1,ow 11 ld 10 9 1,ow 12 (.fld 0) 2 9 1,ow 13 ld 12 9 1,ow 14 .len 13 9 1,oF 15 pU [.t 14,kI 1] 9 0,oF 16 (.anD 92) [.t 11,kI 0,.t 15] 9 0,ow 17 pN 16 9 0,pt 18 9 17,mv 19 18,ow 20 (.fld 1) 3 19 1,ow 21 (.load true 2) 20 19 1,ow 22 (.anD 177) 21 19 0,ow 23 pN 22 19 0,pt 24 19 23,mv 25 24,ow 26 (.fld 1) 3 25 1,ow 27 (.load true 2) 26 25 1,ow 28 (.fld 0) 2 25 1,ow 29 ld 28 25 1,ow 30 (.fld 0) 3 25 1,ow 31 ld 30 25 1,obF 32 (.anU 3) 29 31 25 1,ow 33 (.fld 1) 32 25 1,ow 34 (.load true 2) 33 25 1,obF 35 (.awZ false [1,1]) 27 34 25 0,pt 36 25 35] 0 [2,3,36] []) (cd 36 (sr [mk 4 cS,mi 5 2] 0 [4,5] .ret) .skip)) (sw (r1 [ou 37 (.load true 2) 2 1,oa 38 (.anD 244) 37,ou 39 (.load true 2) 2 1,ou 40 (.load true 3) 3 1,ob 41 (.anD 247) 39 40,oa 42 (.anD 244) 41,ob 43 (.anD 270) 38 42,mv 4 43,mi 5 0] 0 [4,5] []) .ret)))
def ayH:anH:=(sr [mf 4 false] 0 [0,1] (sr [mv 5 0,oa 6 (.anD 188) 5,mv 7 6,ov 8 .mov 1 7 0,ov 9 (.anD 188) 8 7 0,pf 10 7 9,mv 11 10,ov 12 .mov 0 11 0,ov 13 .mov 1 11 0,obT 14 (.bin .leq) 12 13 11 0,pf 15 11 14,mv 4 15] 0 [4] .ret))
def awn:anH:=(s0 [ba 1 0 0,mf 2 false] 1 [1] [1] (sr [fa 3 0 1,lo 4 3,on 5 (.anD 92) [.t 4,kI 0,kI 50000],mv 6 5,ov 7 (.fld 1) 1 6 0,ov 8 ld 7 6 0,ot 9 (.anD 92) [.t 8,kI 1,kI 50000] 6 0,pf 10 6 9,mv 2 10] 0 [2] .ret))
def aCv:anH:=(s0 [ba 1 0 0,al 2 1 [zs,zs,zs]] 2 [1,2] [1] (sr [lw 6 2 1,on 7 (.build [z0,z0] [(0,1),(1,1)]) [kI 1,kI 1],oa 8 (.arY 2 [.agg [z0,z0]] [0]) 7,ob 9 (.build [zs,zs,zs] [(0,2),(2,1)]) 6 8,al 3 0 [zs,zs,zs],sk 3 3 9 0] 1 [1,2,3] (sw (sr [fa 10 0 1,lo 11 10,oa 12 .len 11,mi 13 0] 0 [1,2,3,12,13] (lp (sr [ob 14 pL 13 12] 0 [1,2,3,12,13,14] (sw (cx 14 0) (sw (b1 (sr [mv 15 13,mv 4 15] 0 [1,2,3,4,12,13] (sw (r1 [fu 16 2 3 2,ou 17 ld 16 2,fu 18 0 1 1,lv 19 18,mv 20 4,ob1 21 (.anU 3) 19 20 1,fu 22 0 21 1,lv 23 22,ix 24 2 17 23,ou 25 (.load true 2) 24 3,al 5 0 [z0,z0],sk 2 5 25 4] 1 [1,2,3,4,5,12,13] [5]) (r1 [fu 26 2 3 2,ou 27 ld 26 2,fu 28 0 5 1,lv 29 28,fu 30 0 1 1,lv 31 30,mv 32 4,ob1 33 (.anU 3) 31 32 1,fu 34 1 33 1,fu 35 0 34 1,lv 36 35,ob 37 pM 29 36,fu 38 1 5 1,lv 39 38,fu 40 0 1 1,lv 41 40,mv 42 4,ob1 43 (.anU 3) 41 42 1,fu 44 1 43 1,fu 45 1 44 1,lv 46 45,ob 47 pM 39 46,ob 48 (.build [z0,z0] [(0,1),(1,1)]) 37 47,ou 49 (.aoM 2 [.agg [z0,z0]] [0]) 48 1,ob 50 (.app 2 false) 27 49,fu 51 2 3 2,sk 1 51 50 0] 0 [1,2,3,12,13] [])))) (rg [oi 52 pA 13 1,mv 13 52] 0 [1,2,3,12,13])))))) (sr [lw 53 3 3,sk 3 2 53 0] 0 [2] .ret))))
def arL:anH:=(s0 [ba 10 0 0,ag 13 3,mf 14 false] 1 [1,2,3,4,5,6,7,8,9,10] [10] (sw (sr [mv 21 2,oi 22 pE 21 0] 0 [1,2,3,4,5,6,7,8,9,10,22] (cd 22 (sw (r1 [ou 23 (.load true 3) 3 1,ou 24 (.load true 2) 10 1,oa 25 (.anD 244) 24,lv 26 4,ou 27 (.load true 2) 5 1,on 28 (.anD 246) [.t 23,.t 25,.t 26,.t 27],ag 13 3,mv 14 28] 0 [13,14] [13]) .ret) .skip)) (sw (sr [mv 29 1,mv 15 29] 0 [2,6,7,8,9,10,15] (lp (sw (sr [mv 30 15,fa 31 0 6,lo 32 31,oa 33 .len 32,ob 34 pL 30 33] 0 [2,6,7,8,9,10,15,34] (cx 34 0)) (sw (b1 (sr [lo 37 7,mv 16 37] 0 [2,6,7,8,9,10,15,16] (.block 2 (.loop (sw (sr [mv 38 16,lo 39 8,ob 40 (.bin .leq) 38 39] 0 [2,6,7,8,9,10,15,16,40] (cx 40 2)) (sw (.block 3 (sr [lo 43 7,mv 17 43] 0 [2,6,7,8,9,10,15,16,17] (.block 4 (.loop (sw (sr [mv 44 17,lo 45 8,ob 46 (.bin .leq) 44 45] 0 [2,6,7,8,9,10,15,16,17,46] (cx 46 4)) (sw (.block 5 (s0 [mv 49 15,mv 50 16,mv 51 17,ob 52 (.build [z0,z0] [(0,1),(1,1)]) 50 51,ob 53 (.build [z0,z0,z0] [(0,1),(1,2)]) 49 52,al 18 0 [z0,z0,z0],sk 3 18 53 0] 1 [2,6,7,8,9,10,15,16,17,18] [18] (sw (sw (r1 [fu 54 1 18 1,ou 55 (.load true 2) 54 1,fu 56 0 6 1,lv 57 56,mv 58 15,ob1 59 (.anU 3) 57 58 1,fu 60 1 59 1,ou 61 (.load true 2) 60 1,ob 62 (.awZ false [1,1]) 55 61] 0 [2,6,7,8,9,10,15,16,17,18,62] []) (cd 62 (.exit 5) .skip)) (sw (r1 [ou 64 ld 9 2,ou 65 (.load true 2) 10 1,ou 66 (.load true 3) 18 1,ob 67 (.anD 247) 65 66,mv 68 15,oi 69 pA 68 1,mv 70 2,oi 71 pU 70 1,on 72 .aqg [.t 64,.t 67,.t 69,.t 71],mv 63 72,xa 73 0 63,xa 74 1 63,mv 19 73,mv 20 74] 0 [2,6,7,8,9,10,15,16,17,18,19,20] []) (sr [mv 75 20] 0 [2,6,7,8,9,10,15,16,17,18,19,75] (cd 75 (s0 [lw 76 3 18,oa 77 (.aoM 3 [.agg [z0,z0,z0]] [0]) 76,mv 78 19,ob 79 (.app 3 false) 77 78,mv 13 79,mf 14 true] 0 [13,14] [13,13] .ret) .skip)))))) (rg [mv 47 17,oi 48 pA 47 1,mv 17 48] 0 [2,6,7,8,9,10,15,16,17]))))))) (rg [mv 41 16,oi 42 pA 41 1,mv 16 42] 0 [2,6,7,8,9,10,15,16]))))))) (rg [mv 35 15,oi 36 pA 35 1,mv 15 36] 0 [2,6,7,8,9,10,15]))))) (s0 [ag 13 3,mf 14 false] 0 [13,14] [13] .ret))))
def avy:anH:=(s0 [ba 4 0 0,ba 5 1 1,ba 7 2 3,mf 8 false] 3 [2,4,5,7] [4,5,7] (sw (sw (r1 [fu 10 2 5 1,lv 11 10,fu 12 0 4 1,fu 13 1 12 1,lv 14 13,mv 15 2,ob1 16 (.anU 1) 14 15 1,lv 17 16,ob1 18 (.anU 2) 11 17 1,ou 19 (.load true 2) 18 1,ou 20 (.load true 2) 7 1,ob 21 (.anD 291) 19 20,oa 22 pN 21] 0 [2,4,5,22] []) (cd 22 (sr [mf 8 false] 0 [8] .ret) .skip)) (sr [lw 23 3 4,lw 24 3 5,ob 25 (.anD 270) 23 24,mv 9 25] 0 [2,9] (sr [mv 26 9,oa 27 .len 26,oi 28 pE 27 0,mv 29 28,ow 30 .mov 9 29 0,ow 31 .len 30 29 0,oF 32 pE [.t 31,kI 1] 29 0,ow 33 .mov 32 29 0,ov 34 .mov 9 33 0,ot 35 (.anU 1) [.t 34,kI 0] 33 0,ov 36 ld 35 33 0,ov 37 .mov 2 33 0,obT 38 pE 36 37 33 0,oF 39 .pick [.t 33,.t 38,.c (.bool false)] 29 0,pt 40 29 39,mv 8 40] 0 [8] .ret))))
def ayF:anH:=(s0 [ba 2 0 0,ba 3 1 1,al 4 2 [zs,zs]] 3 [2,3,4] [3] (sr [fa 5 0 2,lo 6 5,oa 7 (.atD 202) 6,fa 8 0 2,sk 1 8 7 0] 0 [2,3,4] (sr [fa 9 0 2,lo 10 9,fa 11 0 3,lo 12 11,fa 13 1 3,lw 14 2 13,ix 15 3 10 12,fa 16 1 15,sk 2 16 14 0] 0 [2,4] (sr [lw 17 2 2,sk 2 4 17 0] 0 [4] .ret))))
def azv:anH:=(sr [ba 3 0 0] 1 [1,2,3] (sr [al 4 0 [.nilFunc]] 1 [1,2,3,4] (sr [on 5 (.mkF (.func 263) 0) [.t 4,.t 1,.t 3],sk 1 4 5 0] 0 [2,4] (rg [lo 6 4,lo 7 2,ob 8 .aqg 6 7] 0 []))))
def auM:anH:=(sr [mf 5 false] 0 [0,1,2,3] (sw (sr [mv 6 0,oi 7 pE 6 0] 0 [0,1,2,3,7] (cd 7 (sr [mf 5 true] 0 [5] .ret) .skip)) (sw (r1 [ou 8 ld 1 2,lv 9 2,mv 10 0,oi 11 pU 10 1,ob1 12 (.anU 3) 9 11 1,fu 13 0 12 1,lv 14 13,ob 15 .aqg 8 14,mv 16 15,ov 17 ld 3 16 2,ov 18 .mov 0 16 0,ot 19 pU [.t 18,kI 1] 16 0,obT 20 .aqg 17 19 16 0,pf 21 16 20,mv 5 21] 0 [5] []) .ret)))
def au9:anH:=(s0 [ba 2 0 0,ba 3 1 1,ag 4 1] 2 [2,3] [2,3] (sr [ag 5 1] 0 [2,3,5] (sw (sr [fa 8 0 2,fa 9 1 8,lo 10 9,oa 11 .len 10,mi 12 0] 0 [2,3,5,10,11,12] (lp (sr [ob 13 pL 12 11] 0 [2,3,5,10,11,12,13] (sw (cx 13 0) (sw (b1 (sr [mv 14 12,ix 15 1 10 12,lo 16 15,mv 6 14,mv 7 16] 0 [2,3,5,6,7,10,11,12] (sw (r1 [fu 17 2 2 1,lv 18 17,mv 19 7,ob1 20 (.anU 2) 18 19 1,ou 21 (.load true 2) 20 1,fu 22 2 3 1,lv 23 22,mv 24 7,ob1 25 (.anU 2) 23 24 1,ou 26 (.load true 2) 25 1,ob 27 (.anD 291) 21 26,oa 28 pN 27] 0 [2,3,5,6,10,11,12,28] []) (cd 28 (rg [mv 29 5,mv 30 6,oa 31 (.aoM 1 [z0] [0]) 30,ob 32 (.app 1 true) 29 31,mv 5 32] 0 [2,3,5,10,11,12]) .skip)))) (rg [oi 33 pA 12 1,mv 12 33] 0 [2,3,5,10,11,12])))))) (sr [mv 34 5,mv 4 34] 0 [4] .ret))))
def awS:anH:=(s0 [ba 2 0 0,ba 3 1 1,mf 4 false] 2 [2,3] [2,3] (sr [fa 5 0 2,lo 6 5,fa 7 1 3,lo 8 7,ob 9 pM 6 8,fa 10 0 3,lo 11 10,fa 12 1 2,lo 13 12,ob 14 pM 11 13,ob 15 pE 9 14,mv 4 15] 0 [4] .ret))
def axu:anH:=(s0 [ba 2 0 0,ba 3 1 1,mk 4 cS,mi 5 0] 2 [2,3] [2,3] (sw (sw (r1 [ou 6 (.load true 2) 2 1,oa 7 (.anD 89) 6,oa 8 pN 7,mv 9 8,ow 10 (.fld 0) 3 9 1,ow 11 ld 10 9 1,ow 12 (.fld 0) 2 9 1,ow 13 ld 12 9 1,ow 14 .len 13 9 1,oF 15 pU [.t 14,kI 1] 9 0,oF 16 (.anD 92) [.t 11,kI 0,.t 15] 9 0,ow 17 pN 16 9 0,pt 18 9 17,mv 19 18,ow 20 (.fld 1) 3 19 1,ow 21 (.load true 2) 20 19 1,ow 22 (.anD 177) 21 19 0,ow 23 pN 22 19 0,pt 24 19 23,mv 25 24,ow 26 (.fld 1) 3 25 1,ow 27 (.load true 2) 26 25 1,ow 28 (.fld 0) 2 25 1,ow 29 ld 28 25 1,ow 30 (.fld 0) 3 25 1,ow 31 ld 30 25 1,obF 32 (.anU 3) 29 31 25 1,ow 33 (.fld 1) 32 25 1,ow 34 (.load true 2) 33 25 1,obF 35 (.awZ false [1,1]) 27 34 25 0,pt 36 25 35] 0 [2,3,36] []) (cd 36 (sr [mk 4 cS,mi 5 2] 0 [4,5] .ret) .skip)) (sw (r1 [ou 37 (.load true 2) 2 1,oa 38 (.anD 244) 37,ou 39 (.load true 2) 2 1,ou 40 (.load true 3) 3 1,ob 41 (.anD 247) 39 40,oa 42 (.anD 244) 41,ob1 43 (.atD 270) 38 42 1,mv 4 43,mi 5 0] 0 [4,5] []) .ret)))
end Go.Tel
namespace Go.Am
def axO {α:Type}{l:List α}{x:α}:(l++ [x])[l.length]?=some x:=by simp
def aE4 {α:Type}{l:List α}{x y:α}:(l++ [x]).set l.length y=l++ [y]:=by simp
def aBz {C:Ctx}{base:Nat}{M:Mem}{K:PV->Mem->Prop}{KP:DV->Mem->Prop}{f:FuncId}{fs cs args:List PV}(hc:callable C.P f=true)(h:SC C f (fs++args++cs) M K KP):anG C base .aqg (.func (.func f) fs cs::args) M K KP:=⟨hc,h⟩
def no:Nat->Prop:=fun _=>False
def Kept.aCK {n:Nat}{own auL:Nat->Prop}{bs:List (Option (List PV))}{fz:List Nat}{ar ar':List (Option Arr)}{i:Nat}{x:Option (List PV)}(hi:i<n)(ho:¬own i)(hl:ar.length<=ar'.length)(b:∀k,auL k->ar'[k]?=ar[k]?):
  Kept n own auL ⟨bs,fz,ar⟩ ⟨bs.set i x,fz,ar'⟩:=
 ⟨by simp,hl,fun j a _=>by
  have:i≠j:=by rintro rfl;exact a.elim (fun h=>by omega) ho
  simp[this],fun _ _ _=>bu,b,fun h j a=>by simpa using h j a⟩
end Go.Am
namespace Go.Tel
open Go.Am
def nDV (n:Nat):List DV:=[dI n]
def aur (ls:List Lk):Nat->Nat->List Nat
 |0,_=>[]
 | _+1,0=>[]
 |k+1,a+1=>aur ls k (ls.getD a default).fr.toNat++ [a]
def ao1 (ls:List Lk)(a:Nat):List Nat:=aur ls a a
def linked (ls:List Lk):Prop:=∀i,i<ls.length->0<=(ls.getD i default).fr/\(ls.getD i default).fr<=i
variable{ls:List Lk}
def aNs (h:linked ls):∀(k a:Nat),a<=k->a<=ls.length->aur ls k a=aur ls a a:=by
 intro k a
 induction a using aL generalizing k with
 |ind a c=>
  intro b f
  match a,k,b with
  |0,0,_=>rfl
  |0,k+1,_=>rfl
  |a+1,k+1,b=>
   have e:=h a (by omega);have d:(ls.getD a default).fr.toNat<=a:=by omega
   simp only[aur];rw[c _ (by omega) k (by omega) (by omega),c _ (by omega) a (by omega) (by omega)]
def ar4 (h:linked ls){a:Nat}(b:a<ls.length):ao1 ls (a+1)=ao1 ls (ls.getD a default).fr.toNat++ [a]:=by
 have d:=h a b;have c:(ls.getD a default).fr.toNat<=a:=by omega
 simp only[ao1,aur];rw[aNs h _ _ (by omega) (by omega)]
def aGk (h:linked ls):∀{a:Nat},a<=ls.length->∀i∈ao1 ls a,i<a:=by
 intro a
 induction a using aL with
 |ind a c=>
  intro b i hi
  match a,b,c with
  |0,_,_=>simp[ao1,aur]at hi
  |a+1,b,c=>
   rw[ar4 h b]at hi;have d:=h a b
   rcases aK.1 hi with hi|hi
   ·have:=c _ (by omega) (by omega) i hi;omega
   ·simp only[aI]at hi;omega
def aDs (h:linked ls):∀{a:Nat},a<=ls.length->(ao1 ls a).length<=a:=by
 intro a
 induction a using aL with
 |ind a c=>
  intro b
  match a,b,c with
  |0,_,_=>simp[ao1,aur]
  |a+1,b,c=>
   rw[ar4 h b,ap,an];have d:=h a b;have:=c (ls.getD a default).fr.toNat (by omega) (by omega);omega
section
variable {ls:List Lk}{n b bw bv:Nat}{R:List (List DV)->Mem->Prop}{stop:Mem->Prop}{KP:DV->Mem->Prop}{xs:List (List DV)}
def aT6 (ls:List Lk)(bw bv:Nat):PV:= .func (.func 263) [] [.ptr bw 0, .d (.anY [sF (ls.map Lk.dv)]), .ptr bv 0]
structure aC1 (ls:List Lk) (b bw bv:Nat) (M:Mem):Prop where
 w:M.boxes[bw]?=some (some [.func (.func 263) [] [.ptr bw 0, .d (.anY [sF (ls.map Lk.dv)]), .ptr bv 0]])
 v:M.boxes[bv]?=some (some [.asz b])
def aC1.kept {M M':Mem}(h:aC1 ls b bw bv M)(a:n<=bw)(hv:n<=bv)(hk:Kept n no no M M'):aC1 ls b bw bv M':=
 ⟨(hk.box bw (.inl a) (ai.1 h.w).1).trans h.w,(hk.box bv (.inl hv) (ai.1 h.v).1).trans h.v⟩
def aSW (k:linked ls)(hl:ls.length<=1000000)(G:n<=bw)(hv:n<=bv)
  (aq9:∀pre x c e,xs=pre++x::c->n<=e.boxes.length->R pre e->SY C b (x.map .d) e (fun p M'=>Kept n no no e M'/\((p= .d (.bool true)/\R (pre++ [x]) M')\/(p= .d (.bool false)/\stop M'))) KP):
  ∀(a:Nat) (pre c:List (List DV)) (e:Mem),a<=ls.length->xs=pre++((ao1 ls a).map nDV++c)->aC1 ls b bw bv e->R pre e->
   SC C 263 [pI a, .ptr bw 0, .d (.anY [sF (ls.map Lk.dv)]), .ptr bv 0] e
    (fun p M'=>aC1 ls b bw bv M'/\((p= .d (.bool true)/\R (pre++(ao1 ls a).map nDV) M')\/(p= .d (.bool false)/\stop M'))) KP:=by
 intro a
 induction a using aL with
 |ind a s=>
  intro pre c e w f O E;refine anJ auM aNI ?_;obtain⟨bs,fz,ar⟩:=e;obtain⟨m,t⟩:=O;simp only at m t;have l1:=(ai.1 m).1;have l2:=(ai.1 t).1
  match a,w,f,s with
  |0,w,f,s=>
   simp only[auM,aNI,Int.natCast_zero,BEq.rfl,RN,J,N];exact⟨⟨m,t⟩, .inl (by simpa[ao1,aur]using E)⟩
  |a+1,w,f,s=>
   have z:(((a+1:Nat):Int)==0)=false:=by simp;omega
   have D:bE .i64 (((a+1:Nat):Int) - 1)=(a:Int):=by rw[anI (by omega)];omega
   have S:=k a (by omega);have y:a<ls.length:=by omega
   obtain⟨q,F⟩:∃q:Nat,(ls.getD a default).fr=q:=⟨(ls.getD a default).fr.toNat,by omega⟩
   have l:ao1 ls (a+1)=ao1 ls q++ [a]:=by rw[ar4 k (by omega),F];rfl
   rw[l,au,bh]at f;have L:(0:Int)<=(a:Int):=by omega
   simp only[auM,aNI,z,m,l1,D,L,y,getD_map,ah,Z,asA,F,RN,J,N,W];refine aBz (args:=[_]) (cs:=[_,_,_]) (by kernel_rfl) ?_;refine SC.mono (s q (by omega) pre _ _ (by omega) f ⟨m,t⟩ E) ?_;rintro p ⟨h,i,g⟩ ⟨⟨o,r⟩,A⟩;simp only at o r
   rcases A with⟨rfl,u⟩|⟨rfl,B⟩
   ·simp only[r,l2,D,RN,J,W]
    refine axe ?_;have Q:=aq9 (pre++(ao1 ls q).map nDV) (nDV a) c ⟨h,i,g⟩ (by rw[f];simp) (Nat.le_of_lt (Nat.lt_of_le_of_lt G (ai.1 o).1)) u;refine SY.mono Q ?_;rintro p ⟨I,K,H⟩ ⟨P,A⟩;have j:=aC1.kept (M:=⟨h,i,g⟩) ⟨o,r⟩ G hv P
    rcases A with⟨rfl,v⟩|⟨rfl,B⟩
    ·(try simp only[RN])
     exact⟨j, .inl (by rw[l,au,<-bh];exact v)⟩
    ·(try simp only[RN])
     exact⟨j, .inr B⟩
   ·(try simp only[RN,J])
    exact⟨⟨o,r⟩, .inr B⟩
end
variable{ls:List Lk}
def aIj (g:linked ls)(hl:ls.length<=1000000)(a:Nat)(m:a<=ls.length):
  aHE C 262 [] [.d (.anY [sF (ls.map Lk.dv)]), .d (.anY [dI a])] ((ao1 ls a).map nDV) no no no (fun _=>True):=by
 rintro⟨bs,fz,ar⟩ b n R stop K KP o _ i f _ j aq9 k c e;simp only at i f;refine anJ azv apc ?_;have q:(bs++ [some [PV.asz b]]).length∉fz:=fun h=>by have:=f _ h;simp at this;omega
 simp only[azv,apc,axO,aE4,arl,cells_func,aMs,aKC,aK2,q,RN,J,N,W];refine aBz (args:=[_]) (cs:=[_,_,_]) (by kernel_rfl) ?_;refine SC.mono (aSW (bw:=(bs++ [some [PV.asz b]]).length) (bv:=bs.length) g hl (by simp;omega) i aq9 a [] [] _ m (by simp) ⟨by simp,by simp⟩ (j _ _ _ ?_ k)) ?_
 ·have:=Moved.ext (own:=no) (fz:=fz) (ar:=ar) (xb:=[some [PV.asz b],some [aT6 ls (bs++ [some [PV.asz b]]).length bs.length]]) (xf:=[]) i (by simp)
  simpa[aT6]using this
 ·rintro p M' ⟨⟨u,t⟩,r⟩
  have hl:=(ai.1 t).1
  rcases r with⟨rfl,l⟩|⟨rfl,s⟩
  ·exact e _ _ (by omega) (by simpa using l)
  ·exact c _ _ s
def aSV (ls:List Lk)(a:Int):Pure C 183 [sF (ls.map Lk.dv),dI a] (.d (.func (.func 262) [] [.anY [sF (ls.map Lk.dv)], .anY [dI a]])) []:=by
 refine am6 aCu anO ?_;simp only[aCu,anO,RN,J,N]
def aYR (ls:List Lk)(c:linked ls)(hl:ls.length<=1000)(a:Nat)(j:a<=ls.length):Pure C 178 [sF (ls.map Lk.dv),dI a] (pI ((ao1 ls a).length)) []:=by
 refine am6 aEF anO ?_;simp only[aEF,anO,RN,J,N,W];refine anE (aSV ls a) ?_;have o:=aDs c j;refine atq (aIj c (by omega) a j) (fun _ h=>h) rfl (by kernel_rfl) (by simp) (fun x g=>by obtain⟨i,_,rfl⟩:=ax.1 g;rfl) (fun _ h=>h.elim) (fun _ _=>trivial)
  (fun pre M=>M.boxes[0]?=some (some [pI pre.length])/\0∉M.fz) ?_ ⟨rfl,by simp⟩ ?_ ?_
 ·rintro pre q r k ⟨h1,h2⟩
  exact⟨(k.box 0 (by simp) id).trans h1,fun h=>h2 ((k.fz 0 (by simp) id).1 h)⟩
 ·rintro L cells pre x m ⟨bs,fz,ar⟩ g d b f ⟨h1,h2⟩ p
  simp only[an]at d b f h1 h2⊢;have l:pre.length<=1000:=by
   have:=congrArg bC g;simp at this;omega
  have e:0<bs.length:=by omega
  obtain⟨i,s,rfl⟩:∃i,i∈ao1 ls a/\nDV i=x:=by
   have:x∈(ao1 ls a).map nDV:=by rw[g];simp
   simpa using this
  have n:bE .i64 ((pre.length:Int)+1)=((pre++ [nDV i]).length:Int):=by rw[anI (by omega)];simp
  simp only[h1,h2,n,auW,nDV,aP,aT,RN,J,N,W];exact⟨by simpa using b,f,Kept.set (M:=⟨bs,fz,ar⟩) (by omega) id,by simp[e]⟩
 ·rintro⟨bs,fz,ar⟩ ⟨h1,h2⟩ d
  simp only at h1;simp only[h1,RN,J,W];simp
def anX (ls:List Lk)(a:Nat):List Pr:=(ao1 ls a).map fun i=>(ls.getD i default).pr
def aNZ (p:Pc)(f:linked p.links)(hl:p.links.length<=1000)(a:Nat)(u:a<=p.links.length)(S:0<a):SC C 91 ([p.dv,dI a].map .d) aok (fun v M=>aBn M v 2 ((anX p.links a).map Pr.dv) 1) (fun _ _=>False):=by
 refine anJ ayJ anO ?_;simp only[ayJ,anO,aot,RN,J,N,W];refine anE (aSV p.links a) ?_;have H:=aDs f u;refine atq (aIj f (by omega) a u) (fun _ h=>h) rfl (by kernel_rfl) (by simp) (fun x t=>by obtain⟨i,_,rfl⟩:=ax.1 t;rfl) (fun _ h=>h.elim) (fun _ _=>trivial)
  (fun pre M=>∃(l:List Nat) (v:PV),pre=l.map nDV/\M.boxes[1]?=some (some [v])/\1∉M.fz/\((l=[]/\v= .d (.slice true []))\/(l≠[]/\aBn M v 2 ((l.map fun i=>(p.links.getD i default).pr).map Pr.dv) 1))) ?_ ⟨[],_,rfl,rfl,by simp, .inl ⟨rfl,rfl⟩⟩ ?_ ?_
 ·rintro pre Q R A ⟨l,v,h1,h2,m,n⟩
  refine⟨l,v,h1,(A.box 1 (by simp) id).trans h2,fun h=>m ((A.fz 1 (by simp) id).1 h),n.imp id fun⟨I,k,ver,K,O⟩=>⟨I,k,ver,K,by rw[A.anK];exact O⟩⟩
 ·rintro L cells pre x E ⟨bs,fz,ar⟩ t s e j ⟨l,v,rfl,h1,h2,m⟩ P
  simp only[aC,bl]at s e j h1 h2 m⊢;have D:l.length<=1000:=by
   have:=congrArg bC t;simp at this;omega
  have c:1<bs.length:=by omega
  obtain⟨i,F,rfl⟩:∃i,i∈ao1 p.links a/\nDV i=x:=by
   have:x∈(ao1 p.links a).map nDV:=by rw[t];simp
   simpa using this
  have q:i<p.links.length:=by have:=aGk f u i F;omega
  have o:(0:Int)<=(i:Int):=by omega
  have aWH:∀y,(bs.set 1 y)[2]?=bs[2]?:=fun y=>by simp
  have g:∀y,(bs.set 1 y)[1]?=some y:=fun y=>by simp[c]
  rcases m with⟨rfl,rfl⟩|⟨G,k,ver,rfl,B⟩
  ·simp only[h1,h2,c,o,q,getD_map,ah,Z,asA,DV.strip,auW,nDV,aP,aT,aBC,forall_eq,aor,aox,RN,J,N,V,W]
   refine⟨by simp,by simp,by rw[aWH];exact e,j,Kept.aCK (by omega) id (by simp) (fun _ h=>h.elim),[i],_,rfl,g _, .inr ⟨by simp,ar.length,0,rfl,by simp[aqA]⟩⟩
  ·have z:=(ai.1 B).1
   have r:l.length<=1073741823:=by omega
   simp only[h1,h2,c,o,q,B,getD_map,ah,Z,asA,DV.strip,auW,nDV,aP,aT,aBC,forall_eq,aor,aox,RN,J,N,U,V,W];refine⟨by simp,by simpa using r,by rw[aWH];exact e,j,Kept.aCK (by omega) id (by simp) (fun _ h=>h.elim),l++ [i],_,by simp[nDV],g _, .inr ⟨by simp,k,ver+1,rfl,by simp[z,aqA]⟩⟩
 ·rintro⟨bs,fz,ar⟩ ⟨l,v,h1,h2,m,n⟩ s
  simp only at h2;simp only[h2,RN,J,W];have w:(ao1 p.links a)=l:=(List.map_inj_right (fun x y h=>by simp only[nDV,List.cons.injEq,DV.int.injEq,true_and,and_true,Int.natCast_inj]at h;exact h)).1 h1
  rcases n with⟨rfl,_⟩|⟨_,n⟩
  ·obtain⟨b,rfl⟩:∃b,a=b+1:=⟨a - 1,by omega⟩
   rw[ar4 f (by omega)]at w;simp at w
  ·rw[anX,w];exact n
def aDG (p:Pc)(b:linked p.links)(hl:p.links.length<=1000)(a:Nat)(e:a<=p.links.length)(c:0<a):Pure C 91 [p.dv,dI a] (.d (sF ((anX p.links a).map Pr.dv))) []:=
 an9 (SC.mono (aNZ p b hl a e c) fun _ _ h=>h.datum)
def arF (pre:List Lk)(l:Lk):Bool:=inR l.fr 0 pre.length&&l.pr.ok&& !decide ((ao1 pre l.fr.toNat).length>=3)
def aqo:List Lk->List Lk->Bool
 | _,[]=>true
 |pre,l::ls=>arF pre l&&aqo (pre++ [l]) ls
def Pc.ok (p:Pc):Bool:=inR p.links.length 1 5&&inR p.hands.length 1 4&&aqo [] p.links&&p.hands.all (fun n=>inR n 1 p.links.length)
def azJ (n l h:Int):Pure C 92 [dI n,dI l,dI h] (.d (.bool (inR n l h))) []:=aw4 n l h
def aG5 (n:Int):Pure C 188 [dI n] (.d (.bool (anP n))) []:=by
 refine am6 ayI anN ?_;simp only[ayI,anN,RN,J]
 repeat' first
  |(refine anE (azJ _ _ _) ?_;try simp only[RN,J,N,S,U,V,W])
  |(refine an7 (by rfl) (fun a=> ?_) (fun a=> ?_)<;>simp only[a,RN,J,N,S,U,V,W])
  |(refine aob (by rfl) (fun a=> ?_) (fun a=> ?_)<;>simp only[a,RN,J,N,S,U,V,W])
 all_goals(first|(simp only[anP, *,BSN];done)|(simp_all[anP];done)|(simp_all[anP];omega))
def aWd (f:Fr):Pure C 243 [f.dv] (.d (.bool f.ok)) []:=by
 refine am6 awn anN ?_;simp only[awn,anN,aoa,RN,J,N,W]
 repeat' first
  |(refine anE (azJ _ _ _) ?_;try simp only[aoa,RN,J,N,S,U,V,W])
  |(refine an7 (by rfl) (fun a=> ?_) (fun a=> ?_)<;>simp only[a,RN,J,N,W])
  |(refine aob (by rfl) (fun a=> ?_) (fun a=> ?_)<;>simp only[a,aoa,RN,J,N,S,U,V,W])
 all_goals(first|(simp only[Fr.ok, *,BSN];done)|(simp_all[Fr.ok];done)|(simp_all[Fr.ok];omega))
def aJG (p:Pr):Pure C 177 [p.dv] (.d (.bool p.ok)) []:=by
 refine am6 azu anN ?_;simp only[azu,anN,aqA,RN,J,N,W]
 repeat' first
  |(refine anE (aG5 _) ?_;try simp only[aqA,RN,J,N,S,U,V,W])
  |(refine an7 (by rfl) (fun a=> ?_) (fun a=> ?_)<;>simp only[a,RN,J,N,W])
  |(refine aob (by rfl) (fun a=> ?_) (fun a=> ?_)<;>simp only[a,aqA,RN,J,N,S,U,V,W])
 all_goals(first|(simp only[Pr.ok, *,BSN];done)|(simp_all[Pr.ok];done)|(simp_all[Pr.ok];omega))
def aM4 (p:Pc)(n:Int):Pure C 180 [dI n, .anY [sF (p.links.map Lk.dv),sF (p.hands.map anF)]] (.d (.bool (!inR n 1 p.links.length))) []:=by
 refine am6 awR aJv ?_;simp only[awR,aJv,Z,RN,J,N,W];refine anE (azJ _ _ _) ?_;(try simp only[RN])
variable{pre:List Lk}{l:Lk}
def aA4 (h:linked pre)(h1:0<=l.fr)(h2:l.fr<=pre.length):linked (pre++ [l]):=by
 intro i b;simp only[ap,an]at b
 by_cases a:i<pre.length
 ·have:=h i a
  simpa[ab,av a]using this
 ·have:i=pre.length:=by omega
  subst this;simp[ab];omega
def aJd (h:arF pre l=true):(0<=l.fr/\l.fr<=pre.length)/\l.pr.ok=true/\(ao1 pre l.fr.toNat).length<3:=by
 simp only[arF,inR,ae,decide_eq_true_eq,be,decide_eq_false_iff_not,ge_iff_le]at h;obtain⟨⟨h1,h2⟩,a⟩:=h;exact⟨h1,h2,by omega⟩
def auK (p:Pc)(hl:p.links.length<=1000)(hh:p.hands.length<=1000):Pure C 89 [p.dv] (.d (.bool p.ok)) []:=by
 refine am6 ayG anN ?_;simp only[ayG,anN,aot,Z,RN,J,N,W]
 repeat' first
  |(refine anE (azJ _ _ _) ?_;try simp only[RN])
  |(refine an7 (by rfl) (fun c=> ?_) (fun c=> ?_)<;>simp only[c,Z,RN,J,N,W])
  |(refine aob (by rfl) (fun c=> ?_) (fun c=> ?_)<;>simp only[c,Z,RN,J,N,W])
 any_goals (simp_all[Pc.ok];done)
 have r:inR p.links.length 1 5=true:=by simp_all
 have c:inR p.hands.length 1 4=true:=by simp_all
 have s:p.links.length<=5:=by simp only[inR,ae,decide_eq_true_eq]at r;omega
 have m:p.ok=(aqo [] p.links&&p.hands.all (fun n=>inR n 1 p.links.length)):=by simp[Pc.ok,r,c]
 rw[m];refine anL p.links.length (fun i (_:Unit)=>⟨[(1, .d (.anY [sF (p.links.map Lk.dv),sF (p.hands.map anF)])),(18, .d (sF (p.links.map Lk.dv))),(19,pI p.links.length),(20,pI i)],
   ⟨[some [.d (sF (p.links.map Lk.dv)), .d (sF (p.hands.map anF))]],[0],[]⟩⟩)
  (fun i _=>aqo [] p.links=aqo (p.links.take i) (p.links.drop i)/\linked (p.links.take i)) 0 () (ay _) rfl ⟨by simp,fun i u=>by simp at u⟩ (fun i _ h1 a=> ?_) (fun _ a=> ?_)
 ·obtain⟨h2,o,t⟩:=rng h1 (by omega)
  obtain⟨a,g⟩:=a;have k:(p.links.take i).length=i:=by simp;omega
  rw[drop_cons h1,aqo]at a;simp only[h2,o,h1,getD_map,ah,Z,asA,RN,J,N,U,W];refine anE (azJ _ _ _) ?_;cases e:inR (p.links.getD i default).fr 0 (i:Int)
  ·(try simp only[RN,J,N])
   have:arF (p.links.take i) (p.links.getD i default)=false:=by simp only[arF,k,e,aO]
   rw[a,this];rfl
  ·have j:=aJG (p.links.getD i default).pr
   simp only[aqA]at j;(try simp only[RN,J,N,W]);refine anE j ?_;cases f:(p.links.getD i default).pr.ok
   ·(try simp only[RN,J,N])
    have:arF (p.links.take i) (p.links.getD i default)=false:=by simp only[arF,f,bp,aO]
    rw[a,this];rfl
   ·have v:0<=(p.links.getD i default).fr/\(p.links.getD i default).fr<=i:=by simpa[inR]using e
    obtain⟨q,l⟩:∃q:Nat,(p.links.getD i default).fr=q:=⟨(p.links.getD i default).fr.toNat,by omega⟩
    have aY9:=aYR (p.links.take i) g (by omega) q (by omega);rw[List.map_take]at aY9;simp only[l,RN,J,N,W];rw[auG aSE o (by rw[Z];omega),ah];refine anE aY9 ?_;cases b:decide (((ao1 (p.links.take i) q).length:Int)>=3)
    ·have aXR:¬((ao1 (p.links.take i) q).length>=3):=by have:=of_decide_eq_false b;omega
     simp only[b,t,RN,J,N];have a0b:inR (q:Int) 0 (i:Int)=true:=by rw[<-l];exact e
     have h:arF (p.links.take i) (p.links.getD i default)=true:=by simp only[arF,k,a0b,f,l,ah,decide_eq_false aXR,Bool.not_false,a8]
     rw[h,Bool.true_and,<-anR h1]at a;exact ao7 1 0 () h1 rfl ⟨a,by rw[anR h1];exact aA4 g (by omega) (by omega)⟩ (by simp) (by simp) rfl rfl
    ·have aXR:((ao1 (p.links.take i) q).length>=3):=by have:=of_decide_eq_true b;omega
     simp only[b,RN,J,N];have:arF (p.links.take i) (p.links.getD i default)=false:=by simp only[arF,l,ah,decide_eq_true aXR,Bool.not_true,bp]
     rw[a,this];rfl
 ·obtain⟨a,_⟩:=a
  rw[ao,aqo]at a;simp only[aq,RN,J,N,W];refine aoQ rfl rfl (atM p.hands 180 [.anY [sF (p.links.map Lk.dv),sF (p.hands.map anF)]] (fun n=> !inR n 1 p.links.length) (by omega) (by kernel_rfl) fun n _=>aM4 p n) ?_;simp only[axN,RN];rw[a];simp
def az3 {ls ms:List Lk}(h:linked ls):∀(k a:Nat),a<=ls.length->aur (ls++ms) k a=aur ls k a
 |0,_,_=>rfl
 | _+1,0,_=>rfl
 |k+1,a+1,b=>by
  have e:(ls++ms).getD a default=ls.getD a default:=by
   simp[ab,av (show a<ls.length by omega)]
  have c:=h a (by omega);simp only[aur,e];rw[az3 h k _ (by omega)]
def aAl:∀{ls pre:List Lk},linked pre->(∀a,a<=pre.length->(ao1 pre a).length<=3)->(∀l∈pre,l.pr.ok=true)->aqo pre ls=true->
  linked (pre++ls)/\(∀a,a<=(pre++ls).length->(ao1 (pre++ls) a).length<=3)/\∀l∈pre++ls,l.pr.ok=true
 | [],pre,h1,h2,c,_=>by simpa using⟨h1,h2,c⟩
 |l::ls,pre,h1,h2,c,h=>by
  simp only[aqo,ae]at h;obtain⟨f,j,k⟩:=aJd h.1;have d:=aA4 h1 f.1 f.2;have:=aAl (ls:=ls) d (fun a i=> ?_) (fun x hx=> ?_) h.2
  ·simpa using this
  ·simp only[ap,an]at i
   by_cases b:a<=pre.length
   ·have e:ao1 (pre++ [l]) a=ao1 pre a:=by simp only[ao1];exact az3 h1 a a b
    rw[e];exact h2 a b
   ·have:a=pre.length+1:=by omega
    subst this;rw[ar4 d (by simp)];have e:(pre++ [l]).getD pre.length default=l:=by simp[ab]
    have g:ao1 (pre++ [l]) l.fr.toNat=ao1 pre l.fr.toNat:=by simp only[ao1];exact az3 h1 _ _ (by omega)
    rw[e,g];simp;omega
  ·rcases aK.1 hx with hx|hx
   ·exact c x hx
   ·simp only[aI]at hx;rw[hx];exact j
structure Pc.Good (p:Pc):Prop where
 l1:1<=p.links.length
 l2:p.links.length<=5
 h1:1<=p.hands.length
 h2:p.hands.length<=4
 lk:linked p.links
 short:∀a,a<=p.links.length->(ao1 p.links a).length<=3
 pr:∀l∈p.links,l.pr.ok=true
 hd:∀n∈p.hands,1<=n/\n<=p.links.length
variable{p:Pc}
def Pc.good (h:p.ok=true):p.Good:=by
 simp only[Pc.ok,inR,ae,decide_eq_true_eq,aJ,ge_iff_le]at h;obtain⟨⟨⟨h1,h2⟩,f⟩,g⟩:=h;obtain⟨c,d,e⟩:=aAl (ls:=p.links) (pre:=[]) (fun i j=>by simp at j) (fun a b=>by simp at b;subst b;simp[ao1,aur]) (by simp) f;simp only[aE]at c d e;exact⟨by omega,by omega,by omega,by omega,c,d,e,g⟩
def Pc.Good.aZS (h:p.Good){a:Nat}(c:a<=p.links.length)(e:0<a):arj (anX p.links a)=true:=by
 have h1:=h.short a c;obtain⟨b,rfl⟩:∃b,a=b+1:=⟨a - 1,by omega⟩
 have h2:1<=(ao1 p.links (b+1)).length:=by rw[ar4 h.lk c];simp
 simp only[arj,anX,inR,ae,decide_eq_true_eq,aJ,Z,ax,ge_iff_le];refine⟨by omega,?_⟩;rintro x ⟨i,d,rfl⟩;have:=aGk h.lk c i d;exact h.pr _ (getD_mem (by omega))
def aUe (p:Pc)(hl:p.links.length<=1000)(hh:p.hands.length<=1000):Pure C 197 [p.dv] (pI (if p.ok then 0 else 2)) []:=by
 refine am6 aAx anN ?_;have a:=auK p hl hh;simp only[aot]at a⊢;simp only[aAx,anN,RN,J,N,W];refine anE a ?_;cases h:p.ok<;>(try simp only[RN])<;>rfl
variable{bs:List (Option (List PV))}{fz:List Nat}{ar:List (Option Arr)}{K:PV->Mem->Prop}{base:Nat}{KP:DV->Mem->Prop}{ds:List DV}
def arE {C:Ctx}{f:FuncId}{args:List PV}{ds':List DV}{r:PV}{rows:List Arr}(h1:apx args=some ds)(h2:ds.map DV.strip=ds')(c:Pure C f ds' r rows)(hs:∀A∈rows,A.st≠2)
  (b:K (r.shift ar.length) ⟨bs,fz,ar++rows.map some⟩):anG C base (.atD f) args ⟨bs,fz,ar⟩ K KP:=by
 have e:=azP h1;subst e;have a:aos ⟨bs,fz,ar⟩ (ds.map .d)=some ds:=by
  clear h1 h2 c b
  induction ds with
  |nil=>rfl
  |cons d ds g=>simp only[aw,aos,datum,g]
 exact⟨ds,a,r,rows,h2▸c, .inr ⟨hs,by rw[ay3];exact b⟩⟩
def aUm (p:Pc)(c:p.ok=true)(a:Nat)(g:0<a)(h:a<=p.links.length):Pure C 28 [p.dv,dI a] (.d (.tup [sF ((anX p.links a).map Pr.dv),dI 0])) []:=by
 have i:=Pc.good c;obtain⟨k,l,m,n,f,_⟩:=i;have b:=auK p (by omega) (by omega);have e:=aDG p f (by omega) a h g;have j:inR (a:Int) 1 (p.links.length:Int)=true:=by simp[inR];omega
 refine am6 aAz aoj ?_;simp only[aot]at b e⊢;simp only[aAz,aoj,RN,J,N,W];refine anE b ?_;simp only[c,Z,RN,J,N,W];refine anE (azJ _ _ _) ?_;simp only[j,RN,J,N,W];refine anE e ?_;(try simp only[RN])
def att (p:Pc)(hand:Int)(f:Fr)(turns:Int):Int×Int:=
 if p.ok&&inR hand 0 (p.hands.length - 1)then aNo (anX p.links (p.hands.getD hand.toNat default).toNat) f turns else(0,2)
def aN8 (p:Pc)(hl:p.links.length<=1000)(hh:p.hands.length<=1000)(hand:Int)(f:Fr)(turns:Int):Pure C 27 [p.dv,dI hand,f.dv,dI turns] (.d (.tup [dI (att p hand f turns).1,dI (att p hand f turns).2])) []:=by
 have h:=auK p hl hh;have l:bE .i64 ((p.hands.length:Int) - 1)=(p.hands.length:Int) - 1:=anI (by omega);refine am6 aAA aJt ?_;simp only[aot,aoa]at h⊢;simp only[aAA,aJt,RN,J,N,W];refine anE h ?_;cases b:p.ok
 ·(try simp only[RN,J,N])
  simp[att,b]
 ·have c:=Pc.good b
  simp only[Z,l,RN,J,N,W];refine anE (azJ _ _ _) ?_;cases e:inR hand 0 ((p.hands.length:Int) - 1)
  ·(try simp only[RN,J,N])
   simp[att,b,e]
  ·have g:0<=hand/\hand<=(p.hands.length:Int) - 1:=by simpa[inR]using e
   have a:hand.toNat<p.hands.length:=by omega
   obtain⟨m,n⟩:=c.hd _ (getD_mem a);obtain⟨q,j⟩:∃q:Nat,p.hands.getD hand.toNat default=q:=⟨(p.hands.getD hand.toNat default).toNat,by omega⟩
   have k:=aDG p c.lk hl q (by omega) (by omega);have i:=aYK (anX p.links q) f turns (by have:=c.short q (by omega);simp[anX];omega);simp only[aot,aoa]at k i;simp only[g.1,a,getD_map,anM,Z,j,RN,J,N,W];refine anE k ?_;refine anE i ?_;(try simp only[RN]);simp only[att,b,e,a8,if_true,j,ah]
def aOr (xs:List Lk):∀y∈xs.map Lk.dv,y.fits 3=true:=by
 intro y a;obtain⟨n,_,rfl⟩:=ax.1 a;rfl
def ay6 (xs:List Int):∀y∈xs.map anF,y.fits 1=true:=by
 intro y a;obtain⟨n,_,rfl⟩:=ax.1 a;rfl
def azV {C:Ctx}{sz:Nat}{M:Mem}{z x:DV}(hx:x.strip.fits sz=true)(a:0<sz):anG C base (.arY sz [z] [0]) [.d x] M K KP=K (.tsl M.anK.length 0 0) {M with anK:=M.anK++ [some ⟨sz,[x.strip],0,1⟩]}:=by
 have b:x.strip.cells.length=sz:=by simp only[DV.fits,ae,beq_iff_eq]at hx;exact hx.1
 simp[anG,apx,auq,b,hx,a]
def mulR (f:Fr)(p:Pr):Fr:=⟨f.n*p.a,f.d*p.b⟩
def ath:List Lk->List Fr->List Fr
 | [],a=>a
 |l::ls,a=>ath ls (a++ [mulR (a.getD l.fr.toNat default) l.pr])
def aoX (ls:List Lk):List Fr:=ath ls [⟨1,1⟩]
def awW (a b:Fr):Bool:=a.n*b.d==b.n*a.d
def aye (l:List Fr):Prop:=∀i,i<l.length->(1<=(l.getD i default).n/\(l.getD i default).n<=60 ^ i)/\1<=(l.getD i default).d/\(l.getD i default).d<=60 ^ i
def aSX {i j:Nat}(h:i<=j):(60:Int) ^ i<=60 ^ j:=by
 have:=Nat.pow_le_pow_right (show 60>0 by decide) h
 exact_mod_cast this
def aEK {c:List Fr}(h:aye c)(t:c≠[])(hf:0<=l.fr/\l.fr.toNat<c.length)(f:l.pr.ok=true):aye (c++ [mulR (c.getD l.fr.toNat default) l.pr]):=by
 intro i j;simp only[ap,an]at j
 by_cases d:i<c.length
 ·have:=h i d
  simpa[ab,av d]using this
 ·have:i=c.length:=by omega
  subst this;have e:(c++ [mulR (c.getD l.fr.toNat default) l.pr]).getD c.length default=mulR (c.getD l.fr.toNat default) l.pr:=by simp[ab]
  rw[e];obtain⟨⟨m,n⟩,o,p⟩:=h _ hf.2;simp only[Pr.ok,anP,inR,ae,decide_eq_true_eq,ge_iff_le]at f;have k:l.fr.toNat+1<=c.length:=by omega
  have g:(60:Int) ^ (l.fr.toNat+1)<=60 ^ c.length:=aSX k;rw[bz]at g;have q:=aj n f.1.2 (by omega) (by omega);have r:=aj p f.2.2 (by omega) (by omega);have b1:=aj m (show 1<=l.pr.a by omega) (by omega) (by omega);have s:=aj o (show 1<=l.pr.b by omega) (by omega) (by omega);simp only[mulR];omega
def aAC:∀{ls:List Lk} {a:List Fr},aye a->a≠[]->(∀i,i<ls.length->0<=(ls.getD i default).fr/\(ls.getD i default).fr<(a.length+i:Nat))->(∀l∈ls,l.pr.ok=true)->
  aye (ath ls a)/\(ath ls a).length=a.length+ls.length
 | [],a,h,_,_,_=>by simpa[ath]using h
 |l::ls,a,h,e,b,d=>by
  have c:=b 0 (by simp);simp only[List.getD_cons_zero]at c;obtain⟨g,j⟩:=aAC (ls:=ls) (aEK h e ⟨c.1,by omega⟩ (d l (by simp))) (by simp) (fun i k=>by
   have:=b (i+1) (by simp only[aC];omega);rw[List.getD_cons_succ]at this;rw[ap,an];omega) (fun x f=>d x (by simp[f]))
  refine⟨g,?_⟩;rw[ath,j];simp;omega
def aIq:aye [⟨1,1⟩]:=by
 intro i a;have:i=0:=by simpa using a
 subst this;simp
def aud (h:linked ls)(b:∀l∈ls,l.pr.ok=true):aye (aoX ls)/\(aoX ls).length=ls.length+1:=by
 obtain⟨c,d⟩:=aAC (ls:=ls) aIq (by simp) (fun i a=>by have:=h i a;rw[an];omega) b;exact⟨c,by rw[aoX,d];simp;omega⟩
def auc (p:Pc):DV:= .agg [sF (p.links.map Lk.dv),sF (p.hands.map anF),sF ((aoX p.links).map Fr.dv)]
def aJN (p:Pc)(hl:p.links.length<=6)(hk:linked p.links)(u:∀l∈p.links,l.pr.ok=true):Pure C 244 [p.dv] (.d (auc p)) []:=by
 refine an9 (anJ aCv aTn ?_);simp only[aCv,aTn,aot,aHZ,an6,bo,aoq,aoI,aox,azV (x:= .agg [dI 1,dI 1]) (sz:=2) rfl (by decide),DV.strip,Z,RN,J,N,U,W];refine anL p.links.length (fun i (a:List Fr×Nat)=>⟨[(1, .d (.anY [sF (p.links.map Lk.dv),sF (p.hands.map anF)])),(2, .ptr 1 0),(3, .ptr 2 0),(12,pI p.links.length),(13,pI i)],
   ⟨[some [.d (sF (p.links.map Lk.dv)), .d (sF (p.hands.map anF))],some [.d (.slice true []), .d (.slice true []), .d (.slice true [])],some [.d (sF (p.links.map Lk.dv)), .d (sF (p.hands.map anF)), .tsl 0 a.2 0]],[0],[some ⟨2,a.1.map Fr.dv,a.2,1⟩]⟩⟩)
  (fun i a=>aoX p.links=ath (p.links.drop i) a.1/\aye a.1/\a.1.length=i+1) 0 ([⟨1,1⟩],0) (ay _) ?_ ⟨rfl,aIq,rfl⟩ (fun i a h1 e=> ?_) (fun a e=> ?_)
 ·rfl
 ·obtain⟨h2,s,t⟩:=rng h1 (by omega)
  obtain⟨e,g,f⟩:=e;obtain⟨c,v⟩:=a;simp only at e g f;rw[drop_cons h1,ath]at e;obtain⟨o,A⟩:=hk i h1;have h:(p.links.getD i default).fr.toNat<c.length:=by omega
  have j:=u _ (getD_mem h1);obtain⟨⟨B,D⟩,E,F⟩:=g _ h;have m:=aSX (show(p.links.getD i default).fr.toNat<=6 by omega);rw[show(60:Int) ^ 6=46656000000 by decide]at m;have aX7:=j;simp only[Pr.ok,anP,inR,ae,decide_eq_true_eq,ge_iff_le]at aX7;have w:=aj (show(c.getD (p.links.getD i default).fr.toNat default).n<=46656000000 by omega) aX7.1.2 (by omega) (by omega);have y:=aj (show(c.getD (p.links.getD i default).fr.toNat default).d<=46656000000 by omega) aX7.2.2 (by omega) (by omega);have b1:=aB (show 0<=(c.getD (p.links.getD i default).fr.toNat default).n by omega) (show 0<=(p.links.getD i default).pr.a by omega);have z:=aB (show 0<=(c.getD (p.links.getD i default).fr.toNat default).d by omega) (show 0<=(p.links.getD i default).pr.b by omega);have q:bE .i64 ((c.getD (p.links.getD i default).fr.toNat default).n*(p.links.getD i default).pr.a)=(c.getD (p.links.getD i default).fr.toNat default).n*(p.links.getD i default).pr.a:=anI (by omega);have r:bE .i64 ((c.getD (p.links.getD i default).fr.toNat default).d*(p.links.getD i default).pr.b)=(c.getD (p.links.getD i default).fr.toNat default).d*(p.links.getD i default).pr.b:=anI (by omega);have k:c.length<=1073741823:=by omega
  simp only[h2,h1,s,t,o,h,getD_map,asA,aoa,ah,Z,DV.strip,aBC,forall_eq,aor,aox,q,r,RN,J,N,S,U,V,W];refine⟨by simp,k,?_⟩;refine ao7 3 1 (c++ [mulR (c.getD (p.links.getD i default).fr.toNat default) (p.links.getD i default).pr],v+1) h1 ?_ ⟨e,aEK g (by rintro rfl;simp at f) ⟨o,h⟩ j,by simp[f]⟩ (by simp) (by simp) rfl rfl;simp only[au,aw,az,aoa,mulR]
  rfl
 ·obtain⟨e,g,f⟩:=e
  rw[ao,ath]at e;simp only[aq,an6,bo,aoq,aoI,aox,RN,J,N,U,W];simp[datum,aoi,aoO,Mem.row,auc,e]
structure Chg where
 link:Int
 pr:Pr
 deriving DecidableEq,Inhabited
def Chg.dv (c:Chg):DV:= .agg [dI c.link,dI c.pr.a,dI c.pr.b]
variable{c:Chg}
def ap9:c.dv= .agg [dI c.link,dI c.pr.a,dI c.pr.b]:=by rw[Chg.dv]
def Pc.changed (p:Pc)(c:Chg):Pc:={p with links:=p.links.set c.link.toNat ⟨(p.links.getD c.link.toNat default).fr,c.pr⟩}
def aDa (xs:List DV)(hf:∀y∈xs,y.fits 3=true)(hl:xs.length<=1000000)(a:xs≠[]):Pure C 202 [.slice false xs] (.tsl 0 0 0) [⟨3,xs,0,1⟩]:=by
 refine ap3 arv anN ?_;simp only[arv,anN,RN,J,V];refine⟨fun _=> ?_,fun b=>absurd b a⟩;exact⟨hf,a,by simp,by omega,auY (k:=1) (A:=⟨3,xs,0,1⟩) rfl rfl (ay _) rfl⟩
def awx {n k ver i off sz:Nat}{xs:List DV}{v:PV}{K:Mem->Prop}(h:ar[k]?=some (some ⟨sz,xs,ver,1⟩))(hv:apx v.cells=some ds)(a:0<n)(hl:ds.length=n)(h1:ds.all DV.one=true)(ho:off+n<=(xs.getD i default).cells.length)
  (b:K ⟨bs,fz,ar.set k (some ⟨sz,xs.set i (setCells (xs.getD i default) off ds),ver,1⟩)⟩):apJ n (.aqf k ver i off) v ⟨bs,fz,ar⟩ K:=by
 simp only[apJ,Mem.row,h,if_true,hv];exact⟨trivial,a,hl,h1,ho,b⟩
def aHO (p:Pc)(c:Chg)(hl:p.links.length<=1000)(a:0<=c.link)(h1:c.link.toNat<p.links.length):Pure C 247 [p.dv,c.dv] (.d (p.changed c).dv) []:=by
 refine an9 (anJ ayF awU ?_);have b:p.links.map Lk.dv≠[]:=by intro h;simp at h;rw[h]at h1;simp at h1
 simp only[ayF,awU,aot,ap9,RN,J,N,W];refine arE rfl rfl (aDa _ (aOr _) (by rw[Z];omega) b) (by simp) ?_;simp only[PV.shift,apR,aor,aox,List.not_mem_nil,a,h1,Z,RN,N,U,W];refine awx rfl rfl (by decide) rfl rfl (by rw[getD_map h1,asA];exact am 3) ?_;simp only[getD_map h1,asA,setCells,an6,aoq,aoI,aox,RN,N,U,W];simp only[datum,aoi,aoO,Mem.row,Pc.changed,List.map_set,asA];simp
def avk {α:Type}(l:List α):Nat:=bif l.isEmpty then 0 else 1
def aTT {α:Type}{l:List α}{x:α}:avk (l++ [x])=1:=by cases l<;>rfl
def az8 {α:Type}{l:List α}:avk l≠2:=by cases l<;>simp[avk]
def ayf (l:List Fr):Prop:=∀f∈l,(1<=f.n/\f.n<=777600000)/\1<=f.d/\f.d<=777600000
def aGF (a b:Fr)(c:(1<=a.n/\a.n<=777600000)/\1<=a.d/\a.d<=777600000)(hb:(0<=b.n/\b.n<=777600000)/\1<=b.d/\b.d<=777600000):Pure C 291 [a.dv,b.dv] (.d (.bool (awW a b))) []:=by
 have g:=aj c.1.2 hb.2.2 (by omega) (by omega);have h:=aB (show 0<=a.n by omega) (show 0<=b.d by omega);have i:=aj hb.1.2 c.2.2 (by omega) (by omega);have j:=aB (show 0<=b.n by omega) (show 0<=a.d by omega);have e:bE .i64 (a.n*b.d)=a.n*b.d:=anI (by omega);have f:bE .i64 (b.n*a.d)=b.n*a.d:=anI (by omega);refine am6 awS anO ?_;simp only[awS,anO,aoa,e,f,awW,RN,J,N,W]
def ayg (h:linked ls)(e:∀l∈ls,l.pr.ok=true)(hl:ls.length<=5):ayf (aoX ls):=by
 obtain⟨g,j⟩:=aud h e;intro f c;obtain⟨i,b,rfl⟩:=List.mem_iff_getElem.1 c;have d:(aoX ls).getD i default=(aoX ls)[i]:=by simp[ab,b]
 have:=g i b;rw[d]at this;have a:=aSX (show i<=5 by omega);rw[show(60:Int) ^ 5=777600000 by decide]at a;omega
def aum (a b:List Fr):List Int->Nat->List Int
 | [],_=>[]
 |h::c,i=>(if awW (a.getD h.toNat default) (b.getD h.toNat default)then[]else[(i:Int)])++aum a b c (i+1)
def aCP (a b:List Fr):∀(hs:List Int) (i:Nat),(aum a b hs i).length<=hs.length
 | [],_=>am _
 |h::hs,i=>by
  have:=aCP a b hs (i+1);simp only[aum,ap,aC]
  split<;>simp<;>omega
def Pc.aq1 (p q:Pc):List Int:=aum (aoX p.links) (aoX q.links) p.hands 0
def aGQ (p q:Pc)(hh:p.hands.length<=1000)(u:ayf (aoX p.links))(h:ayf (aoX q.links))(t:∀n∈p.hands,1<=n/\n.toNat<(aoX p.links).length/\n.toNat<(aoX q.links).length):
  SC C 270 ([auc p,auc q].map .d) aok (fun v M=>aBn M v 1 ((p.aq1 q).map anF) (avk (p.aq1 q))) (fun _ _=>False):=by
 refine anJ au9 anO ?_;simp only[au9,anO,auc,Z,RN,J,N,V,W];refine anL p.hands.length (fun i (a:List Int×Nat)=>⟨[(2, .d (.anY [sF (p.links.map Lk.dv),sF (p.hands.map anF),sF ((aoX p.links).map Fr.dv)])),(3, .d (.anY [sF (q.links.map Lk.dv),sF (q.hands.map anF),sF ((aoX q.links).map Fr.dv)])),(5, .tsl 1 a.2 0),(10, .d (sF (p.hands.map anF))),(11,pI p.hands.length),(12,pI i)],
   ⟨[some [.d (sF (p.links.map Lk.dv)), .d (sF (p.hands.map anF)), .d (sF ((aoX p.links).map Fr.dv))],some [.d (sF (q.links.map Lk.dv)), .d (sF (q.hands.map anF)), .d (sF ((aoX q.links).map Fr.dv))]],[1,0],[some ⟨1,[],0,0⟩,some ⟨1,a.1.map anF,a.2,avk a.1⟩]⟩⟩)
  (fun i a=>p.aq1 q=a.1++aum (aoX p.links) (aoX q.links) (p.hands.drop i) i/\a.1.length<=i) 0 ([],0) (ay _) rfl ⟨rfl,am _⟩ (fun i a h1 b=> ?_) (fun a b=> ?_)
 ·obtain⟨h2,s,l⟩:=rng h1 (by omega)
  obtain⟨b,e⟩:=b;obtain⟨c,v⟩:=a;simp only at b e;rw[drop_cons h1,aum]at b;obtain⟨w,r,g⟩:=t _ (getD_mem h1);have k:0<=p.hands.getD i default:=by omega
  have o:=aGF _ _ (u _ (getD_mem r)) ⟨⟨by have:=h _ (getD_mem g);omega,(h _ (getD_mem g)).1.2⟩,(h _ (getD_mem g)).2⟩;simp only[aoa]at o;simp only[h2,h1,s,k,r,g,getD_map,anM,aoa,ah,Z,RN,J,N,W];refine anE o ?_;cases m:awW ((aoX p.links).getD (p.hands.getD i default).toNat default) ((aoX q.links).getD (p.hands.getD i default).toNat default)
  ·have f:c.length<=1073741823:=by omega
   have j:¬avk c=2:=az8;simp only[ao8,DV.strip,fits_int,forall_eq,l,Z,j,RN,J,N,V,W];refine⟨by simp,f,?_⟩;rw[m]at b;refine aoD (c++ [(i:Int)],v+1) h1 ?_ ⟨by simpa using b,by simp;omega⟩ (by simp) (by simp) rfl rfl;simp[aTT,anF]
  ·simp only[l,RN,J,N]
   rw[m]at b;exact aoD (c,v) h1 rfl ⟨by simpa using b,by simp only;omega⟩ (by simp) (by simp) rfl rfl
 ·obtain⟨b,e⟩:=b
  rw[ao,aum,aX]at b;simp only[aq,RN,J,N];exact⟨1,a.2,rfl,by rw[b];rfl⟩
def Pc.ayS (p:Pc)(c:Chg):Bool:=p.ok&&inR c.link 0 (p.links.length - 1)&&c.pr.ok&& !decide (c.pr=(p.links.getD c.link.toNat default).pr)
def aOz {v x:Pr}:((v.a==x.a)&&(v.b==x.b))=decide (v=x):=by
 cases v;cases x;simp only[Pr.mk.injEq,Bool.decide_and];rfl
def axQ (d:p.Good)(hc:c.pr.ok=true):(p.changed c).links.length=p.links.length/\linked (p.changed c).links/\(∀l∈(p.changed c).links,l.pr.ok=true):=by
 refine⟨by simp[Pc.changed],fun i a=> ?_,fun l e=> ?_⟩
 ·simp only[Pc.changed,bn]at a
  have:=d.lk i a
  by_cases b:c.link.toNat=i
  ·subst b
   simpa[Pc.changed,ab,a]using this
  ·simpa[Pc.changed,ab,bi,b]using this
 ·rcases List.mem_or_eq_of_mem_set e with h|h
  ·exact d.pr l h
  ·rw[h];exact hc
def aLK (a:p.Good)(hc:c.pr.ok=true):ayf (aoX p.links)/\ayf (aoX (p.changed c).links)/\∀n∈p.hands,1<=n/\n.toNat<(aoX p.links).length/\n.toNat<(aoX (p.changed c).links).length:=by
 obtain⟨f,b,d⟩:=axQ a hc;refine⟨ayg a.lk a.pr a.l2,ayg b d (by have:=a.l2;omega),fun n e=> ?_⟩;have h1:=(aud a.lk a.pr).2;have h2:=(aud b d).2;have:=a.hd n e;omega
def aRb (p:Pc)(c:Chg)(h:p.ayS c=true):Pure C 208 [p.dv,c.dv] (.tup [.tsl 0 0 0,pI 0]) [⟨1,(p.aq1 (p.changed c)).map anF,0,avk (p.aq1 (p.changed c))⟩]:=by
 simp only[Pc.ayS,ae,be,decide_eq_false_iff_not]at h;obtain⟨⟨⟨q,r⟩,l⟩,m⟩:=h;have d:=Pc.good q;have j:0<=c.link/\c.link<=(p.links.length:Int) - 1:=by simpa[inR]using r
 have f:c.link.toNat<p.links.length:=by have:=d.l1;omega
 have v:=d.l2;have u:=d.h2;have o:=auK p (by omega) (by omega);obtain⟨y,w,x⟩:=axQ d l;obtain⟨r1,r2,r3⟩:=aLK d l;have i:=aJG c.pr;have s:=aJN p (by omega) d.lk d.pr;have k:=aJN (p.changed c) (by omega) w x;have e:=aHO p c (by omega) j.1 f;have n:=aEJ (aGQ p (p.changed c) (by omega) r1 r2 r3);generalize p.aq1 (p.changed c)=sp at n⊢;have t:bE .i64 ((p.links.length:Int) - 1)=(p.links.length:Int) - 1:=anI (by omega);have g:((c.pr.a==(p.links.getD c.link.toNat default).pr.a)&&(c.pr.b==(p.links.getD c.link.toNat default).pr.b))=false:=by rw[aOz];simpa using m
 refine ap3 axu aoj ?_;simp only[aot,ap9,aqA,auc,Pc.changed]at o i s k e n⊢;simp only[axu,aoj,RN,J,N,W];refine anE o ?_;simp only[q,Z,t,RN,J,N,W];refine anE (azJ _ _ _) ?_;simp only[r,RN,J,N,W];refine anE i ?_;simp only[l,j.1,f,getD_map,asA,Z,aFE,g,aOb,RN,J,N,W];refine anE s ?_;(try simp only[RN]);refine anE e ?_;(try simp only[RN,J,N,S,U,V,W]);refine anE k ?_;(try simp only[RN]);refine arE rfl rfl n (by simp[az8]) ?_;simp only[PV.shift,apR,RN];refine⟨[(0,0)],⟨by simp[auV],by simp⟩,?_,?_⟩
 ·simp[apx,aN0,ren,aTi,aGJ,Mem.row,aCD]
 ·simp[mkRow]
def aoA:List Int->Int->Int
 | [],p=>p
 |x::xs,p=>aoA xs (p+x)
def aOR {B:Int}:∀(l:List Int) (p:Int),(∀x∈l,0<=x/\x<=B)->0<=p->0<=aoA l p/\aoA l p<=p+l.length*B
 | [],p,_,h=>by simp[aoA];omega
 |x::l,p,h,e=>by
  obtain⟨a,b⟩:=h x (by simp);obtain⟨d,f⟩:=aOR l (p+x) (fun y c=>h y (by simp[c])) (by omega);refine⟨d,?_⟩;have:((l.length+1:Nat):Int)*B=l.length*B+B:=by rw[Int.natCast_add,Int.add_mul];simp
  rw[aC,this];simp only[aoA];omega
def atG:∀(l:List Int) (p:Int),(∀x∈l,0<=x)->p<=aoA l p
 | [],_,_=>bk _
 |x::l,p,h=>by
  have:=atG l (p+x) fun y a=>h y (by simp[a])
  have:=h x (by simp);simp only[aoA];omega
def aYB (l:List Int)(hl:l.length<=1000000)(hx:∀x∈l,0<=x)(hb:aoA l 0<=9223372036854775807):Pure C 96 [sF (l.map anF)] (pI (aoA l 0)) []:=by
 refine am6 awT anN ?_;simp only[awT,anN,Z,RN,J];refine anL l.length (fun i (p:Int)=>⟨[(3,pI p),(6, .d (sF (l.map anF))),(7,pI l.length),(8,pI i)],⟨[],[],[]⟩⟩)
  (fun i p=>0<=p/\aoA l 0=aoA (l.drop i) p) 0 0 (ay _) rfl ⟨by omega,rfl⟩ (fun i p h1 a=> ?_) (fun p a=> ?_)
 ·obtain⟨h2,c,e⟩:=rng h1 hl
  obtain⟨f,a⟩:=a;rw[drop_cons h1,aoA]at a;have g:=hx _ (getD_mem h1);have j:=atG (l.drop (i+1)) (p+l.getD i default) (fun y h=>hx y (a7 h));have b:bE .i64 (p+l.getD i default)=p+l.getD i default:=anI (by omega);simp only[h2,c,h1,e,anM,getD_map,ah,Z,b,RN,J,W];exact aoD (p+l.getD i default) h1 rfl ⟨by omega,a⟩ (by simp) (by simp) rfl rfl
 ·obtain⟨f,a⟩:=a
  rw[ao,aoA]at a;simp only[aq,a,RN,J]
def upI (a b:Int):Int:=(a+b - 1).tdiv b
def aWP (a b:Int)(g:0<=a/\a<=1000000000000000000)(hb:1<=b/\b<=1000000000000000000):Pure C 95 [dI a,dI b] (pI (upI a b)) []:=by
 have c:bE .i64 (a+b)=a+b:=anI (by omega);have d:bE .i64 (a+b - 1)=a+b - 1:=anI (by omega);have b1:=arO (a+b - 1) b;have e:bE .i64 ((a+b - 1).tdiv b)=(a+b - 1).tdiv b:=anI (by omega);have f:b≠0:=by omega
 refine am6 aGu anO ?_;simp only[aGu,anO,c,d,e,f,upI,RN,J,N]
def aJX (n:Int):Pure C 187 [dI n] (.d (.bool (!anP n))) []:=by
 refine am6 awm anN ?_;simp only[awm,anN,RN,J];refine anE (aG5 n) ?_;(try simp only[RN])
def ati (l:List Int):Bool:=decide ((l.length:Int)<=8)&&l.all anP
def aL5 (l:List Int)(hl:l.length<=1000000):Pure C 94 [sF (l.map anF)] (.d (.bool (ati l))) []:=by
 refine am6 axv anN ?_;simp only[axv,anN,Z,RN,J]
 repeat' first
  |(refine aoQ rfl rfl (atM l _ [] (fun n=> !anP n) hl (by kernel_rfl) (fun n _=>aJX n)) ?_;try simp only[RN])
  |(refine an7 (by rfl) (fun a=> ?_) (fun a=> ?_)<;>simp only[a,RN,J])
  |(refine aob (by rfl) (fun a=> ?_) (fun a=> ?_)<;>simp only[a,Z,RN,J,N,S,U,V,W])
 all_goals(first|(rw[axN])|skip)
 all_goals(first|(simp only[ati, *,BSN];done)|(simp_all[ati];done)|(simp_all[ati];omega))
end Go.Tel
