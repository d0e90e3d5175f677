/-
  Part 10 of a law of desks.
  Conditions: none.
-/
import Derived.Test.YtkbhljmmnbgloaaGreatDoorTopBetterM04
import Derived.Test.YtkbhljmmnbgloaaGreatDoorTopBetterM07
import Derived.Test.YtkbhljmmnbgloaaGreatDoorRows
import Derived.Lay
import Derived.Handed
import Derived.LaidHandle
import Derived.Lib.LaidTab
set_option linter.all false
open List renaming length_cons->A
namespace Go.Am
variable{k:IntKind}{ds:List DV}
def ak4 (h:Has (.int k) ds):∃n,ds=[.int k n]:=by cases h;exact⟨_,rfl⟩
def LP (h:Has (.struct []) ds):ds=[]:=by cases h;rfl
variable{ts:List Ty}
def LK {t:Ty}(h:Has (.struct (t::ts)) ds):∃a b,ds=a++b/\Has t a/\Has (.struct ts) b:=by cases h with|cons h c=>exact⟨_,_,rfl,h,c⟩
def GK (h:Has (.struct (.int k::ts)) ds):∃n b,ds= .int k n::b/\Has (.struct ts) b:=by
 obtain⟨a,b,rfl,h1,h2⟩:=LK h;obtain⟨n,rfl⟩:=ak4 h1;exact⟨n,b,rfl,h2⟩
def agQ {α:Type}{e:Ty}{dv:α->DV}:∀{xs:List DV},(∀x∈xs,∃a,x=dv a)->∃l:List α,xs=l.map dv
 | [],_=>⟨[],rfl⟩
 |x::xs,h=>by
  obtain⟨a,rfl⟩:=h x List.mem_cons_self;obtain⟨l,rfl⟩:=agQ (e:=e) fun y b=>h y (List.mem_cons_of_mem _ b)
  exact⟨a::l,rfl⟩
variable{e:Ty}
def anO {α:Type}{dv:α->DV}(hd:∀x,Has e x.cells->Shp e x->∃a,x=dv a){ds:List DV}(h:Has (.slice e) ds):∃l:List α,ds=[.slice false (l.map dv)]:=by
 cases h with
 |slice h c=>
  rename_i xs
  obtain⟨l,rfl⟩:=agQ (e:=e) fun x b=>hd x (h x b) (c x b)
  exact⟨l,rfl⟩
def amA {α:Type}{dv:α->DV}(hd:∀x,Has e x.cells->Shp e x->∃a,x=dv a){ts:List Ty}{ds:List DV}(h:Has (.struct (.slice e::ts)) ds):∃(l:List α) (b:List DV),ds= .slice false (l.map dv)::b/\Has (.struct ts) b:=by
 obtain⟨a,b,rfl,h1,h2⟩:=LK h;obtain⟨l,rfl⟩:=anO hd h1;exact⟨l,b,rfl,h2⟩
def amx {T:Ty}{Ts:List Ty}{xs:List DV}(h:Ed (T::Ts) xs):∃x l,xs=x::l/\ad7 T x/\Ed Ts l:=by
 cases xs with
 |nil=>exact h.elim
 |cons x l=>exact⟨x,l,rfl,h.1,h.2⟩
def anM {xs:List DV}(h:Ed [] xs):xs=[]:=by
 cases xs with
 |nil=>rfl
 |cons x l=>exact h.elim
end Go.Am
namespace Go.Tel
open Go.Am
abbrev Xn:Ty:= .struct [.int .i64, .int .i64]
end Go.Tel
namespace Go.Am
section
variable {H:Type}{enc:TypeId×Value->H}{P:Program}{w:World}{base:Nat}{spare:Nat->Bool}{held:Bool}
def Qd:∀{ts:List TypeId} {vs:List Value} {ds:List (DataW H)} {ps:List MemPlace},DataW.TrodAll enc P w base spare held ts vs ds ps->ds.length=ts.length
 | [],[],[],_,_=>rfl
 |t::ts,v::vs,d::ds,ps,h=>by
  obtain⟨p,q,_,h2,_⟩:=h;rw[A,A,Qd h2]
 | [],_::_,_,_,h=>by cases h
 | [],[],_::_,_,h=>by cases h
 | _::_,[],_,_,h=>by cases h
 | _::_,_::_,[],_,h=>by cases h
end
def apH {α:Type}{l:List α}(h:l.length=1):∃a,l=[a]:=List.length_eq_one_iff.1 h
def apK {α:Type}{l:List α}{n:Nat}(h:l.length=n+1):∃a r,l=a::r/\r.length=n:=by
 cases l with
 |nil=>cases h
 |cons a r=>exact⟨a,r,rfl,by simpa using h⟩
def apI {α:Type}{l:List α}(h:l.length=2):∃a b,l=[a,b]:=by
 obtain⟨a,r,rfl,h1⟩:=apK h;obtain⟨b,rfl⟩:=apH h1;exact⟨a,b,rfl⟩
end Go.Am
namespace Go.Tel
open Go.Am
abbrev aci:Ty:= .struct [.int .i64, .int .i64, .int .i64, .int .i64, .int .i64, .struct [.int .i64, .int .i64], .struct [.int .i64, .int .i64]]
abbrev NW:Ty:= .struct [.slice Xn, .slice aci]
def ahV (x:DV)(h:Has Xn x.cells)(hs:Shp Xn x):∃p:Pr,x=p.dv:=by
 obtain⟨cs,rfl⟩:=hs.1 rfl;obtain⟨a,_,c,h1⟩:=GK h;obtain⟨b,_,rfl,h2⟩:=GK h1;obtain rfl:=LP h2;exact⟨⟨a,b⟩,by rw[Pr.dv];exact congrArg DV.agg c⟩
def anN (x:DV)(h:Has aci x.cells)(hs:Shp aci x):∃p:Nt,x=p.dv:=by
 obtain⟨cs,rfl⟩:=hs.1 rfl;obtain⟨k,_,c,h1⟩:=GK h;obtain⟨a,_,rfl,h2⟩:=GK h1;obtain⟨b,_,rfl,d⟩:=GK h2;obtain⟨lo,_,rfl,e⟩:=GK d;obtain⟨hi,_,rfl,f⟩:=GK e;obtain⟨_,_,rfl,n,g⟩:=LK f;obtain⟨_,_,rfl,r,i⟩:=LK g;obtain rfl:=LP i;obtain⟨j,_,rfl,o⟩:=GK n;obtain⟨ld,_,rfl,q⟩:=GK o;obtain rfl:=LP q;obtain⟨m,_,rfl,s⟩:=GK r;obtain⟨l,_,rfl,t⟩:=GK s;obtain rfl:=LP t;exact⟨⟨k,a,b,lo,hi,⟨j,ld⟩,⟨m,l⟩⟩,by rw[Nt.dv];exact congrArg DV.agg c⟩
variable{x:DV}
def ap3 (h:ad7 NW x):∃f:Fi,x=f.dv:=by
 obtain⟨h,b⟩:=h;obtain⟨cs,rfl⟩:=b.1 rfl;obtain⟨ws,_,a,h1⟩:=amA ahV h;obtain⟨ns,_,rfl,h2⟩:=amA anN h1;obtain rfl:=LP h2;exact⟨⟨ws,ns⟩,by rw[Fi.dv];exact congrArg DV.agg a⟩
def ap4 (h:ad7 Xn x):∃f:Fr,x=f.dv:=by
 obtain⟨p,rfl⟩:=ahV x h.1 h.2;exact⟨⟨p.a,p.b⟩,rfl⟩
end Go.Tel
namespace Go.Am
variable{P:Program}{l:List (String×DataW Unit)}
def aiu {w:World}(a:(l.filter fun x=>x.2.handleName?.isSome)=[])(h:laidMetH P l w):laidMet P l w:=by
 unfold laidMetH at h;rw[a]at h;exact h
def adZ {P:Program}{w:World}{n:String}{d:DataW Unit}:∀{l:List (String×DataW Unit)} {ps:List MemPlace},DataW.LaidVars P w l ps->(n,d)∈l->
  ∃g t cs a p,P.globalNamed n=some g/\(P.globals[g]?).map (·.type)=some t/\w.var? P n=some cs/\DataW.trod (fun _=>()) P w 0 (fun _=>true) false a t cs.toList=some (d,p)
 | [],_,_,h=>by cases h
 |(j,i)::l,ps,h,b=>by
  obtain⟨g,t,cs,a,p,q,h1,h2,c,e,f,_⟩:=h;cases b with
  |head=>exact⟨g,t,cs,a,p,h1,h2,c,e⟩
  |tail _ b=>exact adZ f b
def ajO {W:World}{name:String}{k:IntKind}{zs:List Int}{g:Nat}{t e:TypeId}{n:Nat}
  (o:P.globalNamed name=some g)(i:(P.globals[g]?).map (·.type)=some t)(r:P.underlying t=some (.array n e))(m:P.underlying e=some (.int k))(b:P.cellsOf e=1)(c:P.cellsOf t=n)
  (h:laidMet P l W)(q:(name,Lib.tabData k zs)∈l):Lib.TabIs P W name k zs:=by
 obtain⟨v,s,_⟩:=h;obtain⟨u,w,cs,j,p,d,f,a,hd⟩:=adZ s q;obtain rfl:=Option.some.inj (o.symm.trans d);obtain rfl:=Option.some.inj (i.symm.trans f);unfold Lib.TabIs;rw[a,<-Lib.cells_of_tab r m b c hd]
end Go.Am
namespace Go.Tel
open Go.Am
def aol {W:World}(h:C.G W):∀b,C.low b->b<W.heap.size/\∀c T fz,W.heap[b]?=some (.cells c T fz)->∀(i:Nat) (n:Int),c[i]?≠some (.int .i64 n):=by
 intro b g;have d:Go.Proofs.Tryz.prog.globalNamed "internal/strconv.uint64pow10" =some b:=g;have a:W.var? Go.Proofs.Tryz.prog "internal/strconv.uint64pow10" =some (Go.Lib.pow10Tab.map fun z=>Value.int .u64 z).toArray:=h;unfold World.var? at a;rw[d]at a;simp only[Option.bind_some]at a;cases e:W.heap[b]? with
 |none=>rw[e]at a;cases a
 |some o=>
  rw[e]at a;refine⟨dw e,fun c T fz j i n hi=> ?_⟩;cases j;simp only[Option.some.injEq]at a;subst a;rw[List.getElem?_toArray,List.getElem?_map]at hi;cases f:Go.Lib.pow10Tab[i]? with
  |none=>rw[f]at hi;cases hi
  |some z=>rw[f]at hi;cases hi
end Go.Tel
namespace Go.Proofs.YtkbhljmmnbgloaaGreatDoor
open Go.ChangeShapes Go.WideShapes Go.RowKit Go.Am
def gK {a b:Bool}(c:a=true)(hb:b=true):(a&&b)=true:=by rw[c,hb];rfl
def own:ownKnob Tryz.prog.godebug=none:=by kernel_rfl
def laidOut:laidOutB Tryz.prog=true:=by kernel_rfl
def Jp:List (String×DataW Unit):=Rows.topBetterRow.laid
def laid_met (os:Os)(args:Array Value):laidMet Tryz.prog Jp ((World.laidAll Tryz.prog os Jp).forCall (fun _ _=>0) ⟨#[],args,[]⟩).memory:=
 laidMet_laidAll args (by kernel_rfl) (by kernel_rfl)
def afy (os:Os)(args:Array Value):laidMetH Tryz.prog Jp ((World.laidAll Tryz.prog os Jp).forCall (fun _ _=>0) ⟨#[],args,[]⟩).memory:=
 laidMetH_of_parts (laid_met os args) (by kernel_rfl)
def ajN:(Rows.laid_internal_strconv_uint64pow10:DataW Unit)=Lib.tabData .u64 Lib.pow10Tab:=rfl
def amh:("internal/strconv.uint64pow10",(Rows.laid_internal_strconv_uint64pow10:DataW Unit))∈Jp:=List.Mem.tail _ (List.Mem.tail _ (List.Mem.head _))
def aoE {W:World}(h:laidMetH Tryz.prog Jp W):Go.Tel.C.G W:=
 ajO (P:=Tryz.prog) (g:=1) (t:=450) (e:=279) (n:=20) (by kernel_rfl) (by kernel_rfl) (by kernel_rfl) (by kernel_rfl) (by kernel_rfl) (by kernel_rfl) (aiu (by kernel_rfl) h) (ajN▸amh)
end Go.Proofs.YtkbhljmmnbgloaaGreatDoor
