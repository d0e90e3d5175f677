/-
  Part 27 of the proof of a law of desks: an abstract machine over the model, contracts of functions, plain laws.
  Conditions: none.
-/
import Derived.Test.YtbefoehadfnkbaaGreatDoorJourneymanParsesM26
import Derived.Test.YtbefoehadfnkbaaGreatDoorRows
import Derived.Lay
import Derived.Handed
import Derived.LaidHandle
import Derived.Lib.LaidTab
set_option linter.all false
namespace Go.Am
theorem ajW {P:Program}{l:List (String×DataW Unit)}{w:World}(he:(l.filter fun x=>x.2.handleName?.isSome)=[])(h:laidMetH P l w):laidMet P l w:=by
 unfold laidMetH at h
 rw[he]at h
 exact h
theorem agp {P:Program}{w:World}{n:String}{d:DataW Unit}:∀{l:List (String×DataW Unit)} {ps:List MemPlace},DataW.LaidVars P w l ps→(n,d)∈l→
  ∃g t cs fuel p,P.globalNamed n=some g∧(P.globals[g]?).map (·.type)=some t∧w.var? P n=some cs∧DataW.trod (fun _=>()) P w 0 (fun _=>true) false fuel t cs.toList=some (d,p)
 | [],_,_,h=>by cases h
 |(n',d')::l,ps,h,hm=>by
  obtain⟨g,t,cs,fuel,p,q,h1,h2,h3,h4,h5,_⟩:=h
  cases hm with
  |head=>exact⟨g,t,cs,fuel,p,h1,h2,h3,h4⟩
  |tail _ hm=>exact agp h5 hm
theorem akP {P:Program}{W:World}{name:String}{k:IntKind}{zs:List Int}{l:List (String×DataW Unit)}{g:Nat}{t e:TypeId}{n:Nat}
  (hg:P.globalNamed name=some g)(hty:(P.globals[g]?).map (·.type)=some t)(ht:P.underlying t=some (.array n e))(he:P.underlying e=some (.int k))(hce:P.cellsOf e=1)(hct:P.cellsOf t=n)
  (h:laidMet P l W)(hm:(name,Lib.tabData k zs)∈l):Lib.TabIs P W name k zs:=by
 obtain⟨ps,hv,_⟩:=h
 obtain⟨g',t',cs,fuel,p,hg',ht',hvar,hd⟩:=agp hv hm
 obtain rfl:=Option.some.inj (hg.symm.trans hg')
 obtain rfl:=Option.some.inj (hty.symm.trans ht')
 unfold Lib.TabIs
 rw[hvar,←Lib.cells_of_tab ht he hce hct hd]
end Go.Am
namespace Go.Tel
open Go.Am
theorem aoL {W:World}(h:C.G W):∀b,C.low b→b<W.heap.size∧∀c T fz,W.heap[b]?=some (.cells c T fz)→∀(i:Nat) (n:Int),c[i]?≠some (.int .i64 n):=by
 intro b hb
 have hb':Go.Proofs.Tryz.prog.globalNamed "internal/strconv.uint64pow10" =some b:=hb
 have h':W.var? Go.Proofs.Tryz.prog "internal/strconv.uint64pow10" =some (Go.Lib.pow10Tab.map fun z=>Value.int .u64 z).toArray:=h
 unfold World.var? at h'
 rw[hb']at h'
 simp only[Option.bind_some]at h'
 cases ho:W.heap[b]? with
 |none=>rw[ho]at h';cases h'
 |some o=>
  rw[ho]at h'
  refine⟨bT ho,fun c T fz hc i n hi=> ?_⟩
  cases hc
  simp only[Option.some.injEq]at h'
  subst h'
  rw[List.getElem?_toArray,List.getElem?_map]at hi
  cases hz:Go.Lib.pow10Tab[i]? with
  |none=>rw[hz]at hi;cases hi
  |some z=>rw[hz]at hi;cases hi
end Go.Tel
namespace Go.Proofs.YtbefoehadfnkbaaGreatDoor
open Go.ChangeShapes Go.WideShapes Go.RowKit Go.Am
theorem fV {a b:Bool}(ha:a=true)(hb:b=true):(a&&b)=true:=by rw[ha,hb];rfl
theorem own:ownKnob Tryz.prog.godebug=none:=by kernel_rfl
theorem laidOut:laidOutB Tryz.prog=true:=by kernel_rfl
def Og:List (String×DataW Unit):=Rows.journeymanWheelsRow.laid
theorem laid_met (os:Os)(args:Array Value):laidMet Tryz.prog Og ((World.laidAll Tryz.prog os Og).forCall (fun _ _=>0) ⟨#[],args,[]⟩).memory:=
 laidMet_laidAll args (by kernel_rfl) (by kernel_rfl)
theorem ahz (os:Os)(args:Array Value):laidMetH Tryz.prog Og ((World.laidAll Tryz.prog os Og).forCall (fun _ _=>0) ⟨#[],args,[]⟩).memory:=
 laidMetH_of_parts (laid_met os args) (by kernel_rfl)
theorem akO:(Rows.laid_internal_strconv_uint64pow10:DataW Unit)=Lib.tabData .u64 Lib.pow10Tab:=rfl
theorem amW:("internal/strconv.uint64pow10",(Rows.laid_internal_strconv_uint64pow10:DataW Unit))∈Og:=List.Mem.tail _ (List.Mem.tail _ (List.Mem.head _))
theorem ao0 {W:World}(h:laidMetH Tryz.prog Og W):Go.Tel.C.G W:=
 akP (P:=Tryz.prog) (g:=1) (t:=390) (e:=372) (n:=20) (by kernel_rfl) (by kernel_rfl) (by kernel_rfl) (by kernel_rfl) (by kernel_rfl) (by kernel_rfl) (ajW (by kernel_rfl) h) (akO▸amW)
end Go.Proofs.YtbefoehadfnkbaaGreatDoor
