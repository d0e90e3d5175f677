/-
  Part 26 of the proof of a law of desks: an abstract machine over the model, contracts of functions, plain laws.
  Conditions: none.
-/
import Derived.Test.YtbefoehadfnkbaaGreatDoorJourneymanNilM25
import Derived.Test.YtbefoehadfnkbaaGreatDoorRows
import Derived.Lay
import Derived.Handed
import Derived.LaidHandle
import Derived.Lib.LaidTab
set_option linter.all false
set_option maxRecDepth 10000
set_option maxHeartbeats 2000000
open Nat renaming reduceBEq→qA,reduceAdd→qB,reduceSub→qC,reduceEqDiff→qD,reduceLT→qE,reduceLeDiff→qF
namespace Go.Tel
open Go.Am
theorem Wn {base sz:Nat}{zs:List DV}{is:List Nat}{args:List PV}{ds xs:List DV}{M:Mem}{K:PV→Mem→Prop}{KP:DV→Mem→Prop}(h1:dw M args=some ds)(h2:yE sz zs is (ds.map DV.strip)=some xs)(h4:M.frz args=M)(hK:K (.d (.slice true xs)) M):aj C base (.iO sz zs is) args M K KP:=by
 simp only[aj,h1,h2,h4]
 exact hK
theorem ad9 (a b:Int):Pure C F.KJ [.int .i64 a, .int .i64 b] (.d (.agg [.int .i64 a, .int .i64 b])) []:=by
 refine ah mixed rfl aby ?_
 simp only[Um,UE,oL,RN,qA,qB,qC,qD,qE,qF]
theorem P_k:Pure C F.aiI [] (.d (.agg [.slice true (aO.pc.links.map Lk.dv), .slice true (aO.pc.hands.map ay)])) []:=by
 refine ah mixed rfl ai1 ?_
 simp only[abP,ab1,oL,RN,qA,qB,qC,qD,qE,qF]
 refine au rfl rfl (ad9 10 20) ?_
 (try simp only[RN,qA,qB,qC,qD,qE,qF])
 refine au rfl rfl (ad9 12 18) ?_
 (try simp only[RN,qA,qB,qC,qD,qE,qF])
 refine au rfl rfl (ad9 15 10) ?_
 (try simp only[RN,qA,qB,qC,qD,qE,qF])
 refine Wn rfl rfl rfl ?_
 (try simp only[RN,qA,qB,qC,qD,qE,qF])
 refine Wn rfl rfl rfl ?_
 simp only[oL,RN,qA,qB,qC,qD,qE,qF]
 rfl
theorem O_k:Pure C F.aiH [] (.d (.agg [.int .i64 0, .slice true [.int .i64 4]])) []:=by
 refine ah mixed rfl ai0 ?_
 simp only[abO,abZ,oL,RN,qA,qB,qC,qD,qE,qF]
 exact⟨rfl,rfl⟩
theorem M_k:Pure C F.aiG [] (.d (.agg [.int .i64 59, .int .i64 2, .int .i64 0])) []:=by
 refine ah mixed rfl aiZ ?_
 simp only[abN,abY,oL,RN,qA,qB,qC,qD,qE,qF]
theorem D_k:Pure C F.aiJ [] (.d (.agg [.int .i64 40, .slice true [.int .i64 15, .int .i64 21, .int .i64 27]])) []:=by
 refine ah mixed rfl ai2 ?_
 simp only[abQ,ab2,RN,qA,qB,qC,qD,qE,qF]
 refine Wn rfl rfl rfl ?_
 simp only[oL,RN,qA,qB,qC,qD,qE,qF]
 rfl
def alD:DV:= .agg [.slice true (aO.pc.links.map Lk.dv), .slice true (aO.pc.hands.map ay), .slice true (aO.tg.map Fr.dv), .int .i64 100, .int .i64 40, .slice true (aO.dvd.cir.map ay), .int .i64 0, .slice true (aO.cal.cy.map ay), .int .i64 59, .int .i64 2, .int .i64 0, .slice true (aO.fs.map Fs.dv), .int .i64 1, .int .i64 3, .int .i64 6, .int .i64 4, .int .i64 10]
theorem aj0:Pure C F.Sj [] (.d alD) []:=by
 refine ah mixed rfl ZH ?_
 simp only[QB,QN,RN,qA,qB,qC,qD,qE,qF]
 refine au rfl rfl P_k ?_
 (try simp only[RN,qA,qB,qC,qD,qE,qF])
 refine Wn rfl rfl rfl ?_
 (try simp only[RN,qA,qB,qC,qD,qE,qF])
 refine au rfl rfl D_k ?_
 (try simp only[RN,qA,qB,qC,qD,qE,qF])
 refine au rfl rfl O_k ?_
 (try simp only[RN,qA,qB,qC,qD,qE,qF])
 refine au rfl rfl M_k ?_
 (try simp only[RN,qA,qB,qC,qD,qE,qF])
 refine Wn rfl rfl rfl ?_
 simp only[oL,RN,qA,qB,qC,qD,qE,qF]
 rfl
theorem Z5:aO.Small:=⟨by decide,by decide,by decide,by decide,by decide⟩
theorem Zt:Pure C F.MQ [] (.d (.bool true)) []:=by
 refine ah mixed rfl ZI ?_
 simp only[QC,QO,RN,qA,qB,qC,qD,qE,qF]
 refine au rfl rfl aj0 ?_
 (try simp only[RN,qA,qB,qC,qD,qE,qF])
 refine au rfl rfl (afo aO Z5 (by kernel_rfl) (by decide:ZT.size≤1500) (by kernel_rfl) aoF) ?_
 have z1:((0:Int)==0)=true:=rfl
 have z2:(PK.toList==PK.toList)=true:=beq_self_eq_true _
 have ha:(.str ⟨#[49,32,51,32,51,32,52,10,110,111,116,101,100,10,101,114,114,111,114,32,55,10,49,32,49,50,32,49,53,10,101,114,114,111,114,32,55,10,101,114,114,111,114,32,55,10,101,114,114,111,114,32,55,10,110,111,116,101,100,10,49,53,10,110,111,116,101,100,10,49,56,10,53,55,10,101,114,114,111,114,32,55,10,110,111,116,101,100,10,110,111,116,104,105,110,103,10,53,55,10,57,55,10,49,48,56,10,51,53,54,10,101,114,114,111,114,32,55,10,101,114,114,111,114,32,55,10,110,111,116,101,100,10,101,114,114,111,114,32,55,10,49,48,10,50,32,57,10,51,52,56,10,50,32,49,32,51,10,101,114,114,111,114,32,55,10,110,111,116,101,100,10,110,111,116,101,100,10,48,10,48,32,50,32,53,10,48,32,49,32,50,10,101,114,114,111,114,32,55,10,101,114,114,111,114,32,50,10,101,114,114,111,114,32,52,10]⟩:DV)= .str PK:=rfl
 simp only[z1,pz,Vk,ha,z2,RN,qA,qB,qC,qD,qE,qF]
end Go.Tel
namespace Go.Tel
open Go.Am
def Sv (d:DV):Prop:=d= .nilPtr∨∃cs,d= .aT (.nilPtr::cs)
theorem aa7 {base:Nat}{M:Mem}{K:PV→Mem→Prop}{KP:DV→Mem→Prop}{d:DV}(h:Sv d)(hK:K (.d (.bool false)) M):aj C base (.iT F.cO) [.d d] M K KP:=by
 rw[Yk]
 refine⟨[d],rfl, .bool false,?_,rfl,hK⟩
 rcases h with rfl|⟨cs,rfl⟩
 ·exact RX _ (.inl rfl)
 ·exact RX _ (.inr ⟨cs,rfl⟩)
theorem Qo {d:DV}(h:Sv d):PV.cells (.d d)=[.d d]∧PV.vw (.d d)=false∧PV.one (.d d)=true:=by
 rcases h with rfl|⟨cs,rfl⟩<;>exact⟨rfl,rfl,rfl⟩
theorem ajS {d:DV}(h:Sv d)(q:Qn):Pure C F.jC [d,q.dv] (.d (.tup [.slice true [], .int .i64 1])) []:=by
 obtain⟨h1,h2,h3⟩:=Qo h
 refine ah mixed rfl wZ ?_
 rw[aeL]
 simp only[nM,nN,h1,h2,h3,RN,qA,qB,qC,qD,qE,qF]
 refine aa7 h ?_
 (try simp only[RN,qA,qB,qC,qD,qE,qF])
theorem afp {d:DV}(h:Sv d)(x:En):Pure C F.iL [d,x.dv] (.d (.int .i64 1)) []:=by
 obtain⟨h1,h2,h3⟩:=Qo h
 refine ah mixed rfl sZ ?_
 rw[Fa]
 simp only[lH,lN,h1,h2,h3,RN,qA,qB,qC,qD,qE,qF]
 refine aa7 h ?_
 (try simp only[RN,qA,qB,qC,qD,qE,qF])
theorem aaf {d:DV}(h:Sv d):Pure C F.mP [d] (.d (.tup [.str ⟨#[]⟩, .int .i64 1])) []:=by
 refine ah mixed rfl DR ?_
 simp only[qo,qH,RN,qA,qB,qC,qD,qE,qF]
 refine au rfl (by rcases h with rfl|⟨cs,rfl⟩<;>rfl) (RX d h) ?_
 (try simp only[RN,qA,qB,qC,qD,qE,qF])
def FW:List DV:=[.nilPtr, .aT [.nilPtr, .slice true [], .slice true [], .slice true []]]
theorem af6 {i:Nat}(hi:i<2):Sv (FW.getD i default):=by
 obtain h|h:i=0∨i=1:=by omega
 ·subst h;exact .inl rfl
 ·subst h;exact .inr ⟨_,rfl⟩
theorem ap6 (x:En)(q:Qn):Pure C F.Fh [x.dv,q.dv] (.d (.bool true)) []:=by
 refine ah mixed rfl KT ?_
 rw[Fa,aeL]
 simp only[Aj,AB,List.length_map,RN,qA,qB,qC,qD,qE,qF]
 cases h1:decide ((x.ns.length:Int)>6)
 case true=>
  simp only[h1,RN,qA,qB,qC,qD,qE,qF]
  refine au rfl rfl Zt ?_
  (try simp only[RN,qA,qB,qC,qD,qE,qF])
 cases h2:decide ((q.ns.length:Int)>6)
 case true=>
  simp only[h1,h2,List.length_map,RN,qA,qB,qC,qD,qE,qF]
  refine au rfl rfl Zt ?_
  (try simp only[RN,qA,qB,qC,qD,qE,qF])
 simp only[h1,h2,List.length_map,RN,qA,qB,qC,qD,qE,qF]
 rw[aks (ds:=FW) (xs:=FW) rfl rfl]
 (try simp only[RN,qA,qB,qC,qD,qE,qF])
 obtain⟨M,hM⟩:∃M:Mem,M=Mem.frz ⟨[some [.d (.int .i64 x.kind), .d (.slice false (x.ns.map ay))],some [.d (.int .i64 q.kind), .d (.slice false (q.ns.map ay))],some [.d .nilPtr, .d (.slice true []), .d (.slice true []), .d (.slice true [])]],[1,0],[]⟩ [.d .nilPtr, .ptr 2 0]:=⟨_,rfl⟩
 rw[←hM]
 refine Ee (fun m s=>∃i:Nat,m=2 - i∧i≤2∧s=⟨[(2, .d (.aT [.int .i64 x.kind, .slice false (x.ns.map ay)])),(3, .d (.aT [.int .i64 q.kind, .slice false (q.ns.map ay)])),(5, .d (.slice true FW)),(6, .d (.int .i64 i))],M⟩) 2 ⟨0,rfl,by decide,rfl⟩ ?_
 rintro m s ⟨i,rfl,hi,rfl⟩
 have hlen:FW.length=2:=rfl
 by_cases hlt:i<2
 case neg=>
  have:i=2:=by omega
  subst this
  simp only[hlen,Int.lt_irrefl,RN,qA,qB,qC,qD,qE,qF]
  refine au rfl rfl Zt ?_
  (try simp only[RN,qA,qB,qC,qD,qE,qF])
 have hno:=af6 hlt
 have hlt':(i:Int)<((2:Nat):Int):=by omega
 have j0:(0:Int)≤(i:Int):=by omega
 have w1:IntKind.i64.wrap ((i:Int)+1)=((i+1:Nat):Int):=by rw[aG (by omega)];omega
 have hdc:(FW.getD i default).cells=[FW.getD i default]:=by rcases hno with h|⟨cs,h⟩<;>rw[h]<;>rfl
 have hds:(FW.getD i default).strip=FW.getD i default:=by rcases hno with h|⟨cs,h⟩<;>rw[h]<;>rfl
 obtain⟨d,hd⟩:∃d,d=FW.getD i default:=⟨_,rfl⟩
 rw[←hd]at hno hdc hds
 have z1:((1:Int) !=1)=false:=rfl
 have z2:((⟨#[]⟩:ByteArray).toList==(⟨#[]⟩:ByteArray).toList)=true:=beq_self_eq_true _
 have z3:(((0:Nat):Int) !=0)=false:=rfl
 simp only[hlen,hlt',hlt,j0,Int.toNat_natCast,←hd,hdc,List.length_cons,List.length_nil,List.getD_cons_zero,RN,qA,qB,qC,qD,qE,qF]
 refine au (ds':=[d,q.dv]) rfl (by simp only[List.map_cons,List.map_nil,hds];rfl) (ajS hno q) ?_
 simp only[hdc,List.length_cons,List.length_nil,List.getD_cons_zero,RN,qA,qB,qC,qD,qE,qF]
 refine au (ds':=[d]) rfl (by simp only[List.map_cons,List.map_nil,hds]) (aaf hno) ?_
 simp only[hdc,List.length_cons,List.length_nil,List.getD_cons_zero,RN,qA,qB,qC,qD,qE,qF]
 refine au (ds':=[d,x.dv]) rfl (by simp only[List.map_cons,List.map_nil,hds];rfl) (afp hno x) ?_
 simp only[z1,z2,z3,pz,Vl,w1,RN,qA,qB,qC,qD,qE,qF]
 exact⟨2 - (i+1),_,by omega, .inl rfl,i+1,rfl,by omega,rfl⟩
end Go.Tel
namespace Go.Am
theorem aeS {k:IntKind}{ds:List DV}(h:Has (.int k) ds):∃n,ds=[.int k n]:=by cases h;exact⟨_,rfl⟩
theorem aeT {ds:List DV}(h:Has (.struct []) ds):ds=[]:=by cases h;rfl
theorem aaT {t:Ty}{ts:List Ty}{ds:List DV}(h:Has (.struct (t::ts)) ds):∃a b,ds=a++b∧Has t a∧Has (.struct ts) b:=by cases h with|cons h h'=>exact⟨_,_,rfl,h,h'⟩
theorem alT {k:IntKind}{ts:List Ty}{ds:List DV}(h:Has (.struct (.int k::ts)) ds):∃n b,ds= .int k n::b∧Has (.struct ts) b:=by
 obtain⟨a,b,rfl,h1,h2⟩:=aaT h
 obtain⟨n,rfl⟩:=aeS h1
 exact⟨n,b,rfl,h2⟩
theorem ahv {α:Type}{e:Ty}{dv:α→DV}:∀{xs:List DV},(∀x∈xs,∃a,x=dv a)→∃l:List α,xs=l.map dv
 | [],_=>⟨[],rfl⟩
 |x::xs,h=>by
  obtain⟨a,rfl⟩:=h x List.mem_cons_self
  obtain⟨l,rfl⟩:=ahv (e:=e) fun y hy=>h y (List.mem_cons_of_mem _ hy)
  exact⟨a::l,rfl⟩
theorem am0 {α:Type}{e:Ty}{dv:α→DV}(hd:∀x,Has e x.cells→Shp e x→∃a,x=dv a){ds:List DV}(h:Has (.slice e) ds):∃l:List α,ds=[.slice false (l.map dv)]:=by
 cases h with
 |slice h h'=>
  rename_i xs
  obtain⟨l,rfl⟩:=ahv (e:=e) fun x hx=>hd x (h x hx) (h' x hx)
  exact⟨l,rfl⟩
theorem alU {α:Type}{e:Ty}{dv:α→DV}(hd:∀x,Has e x.cells→Shp e x→∃a,x=dv a){ts:List Ty}{ds:List DV}(h:Has (.struct (.slice e::ts)) ds):∃(l:List α) (b:List DV),ds= .slice false (l.map dv)::b∧Has (.struct ts) b:=by
 obtain⟨a,b,rfl,h1,h2⟩:=aaT h
 obtain⟨l,rfl⟩:=am0 hd h1
 exact⟨l,b,rfl,h2⟩
theorem alS {T:Ty}{Ts:List Ty}{xs:List DV}(h:Ii (T::Ts) xs):∃x l,xs=x::l∧afq T x∧Ii Ts l:=by
 cases xs with
 |nil=>exact h.elim
 |cons x l=>exact⟨x,l,rfl,h.1,h.2⟩
theorem amX {xs:List DV}(h:Ii [] xs):xs=[]:=by
 cases xs with
 |nil=>rfl
 |cons x l=>exact h.elim
end Go.Am
namespace Go.Tel
open Go.Am
abbrev mg:Ty:= .struct [.int .i64, .slice (.int .i64)]
theorem ail (x:DV)(h:Has (.int .i64) x.cells)(hs:Shp (.int .i64) x):∃n:Int,x=ay n:=by
 obtain⟨n,h⟩:=aeS h
 rw[hs.2 rfl]at h
 exact⟨n,(List.cons.inj h).1⟩
theorem amY (x:DV)(h:Has mg x.cells)(hs:Shp mg x):∃p:En,x=p.dv:=by
 obtain⟨cs,rfl⟩:=hs.1 rfl
 obtain⟨a,_,e1,h1⟩:=alT h
 obtain⟨b,_,rfl,h2⟩:=alU ail h1
 obtain rfl:=aeT h2
 exact⟨⟨a,b⟩,by rw[En.dv];exact congrArg DV.agg e1⟩
theorem amZ (x:DV)(h:Has mg x.cells)(hs:Shp mg x):∃p:Qn,x=p.dv:=by
 obtain⟨cs,rfl⟩:=hs.1 rfl
 obtain⟨a,_,e1,h1⟩:=alT h
 obtain⟨b,_,rfl,h2⟩:=alU ail h1
 obtain rfl:=aeT h2
 exact⟨⟨a,b⟩,by rw[Qn.dv];exact congrArg DV.agg e1⟩
theorem aoY {x:DV}(h:afq mg x):∃p:En,x=p.dv:=amY x h.1 h.2
theorem aoZ {x:DV}(h:afq mg x):∃p:Qn,x=p.dv:=amZ x h.1 h.2
end Go.Tel
namespace Go.Am
section
variable {H:Type}{enc:TypeId×Value→H}{P:Program}{w:World}{base:Nat}{spare:Nat→Bool}{held:Bool}
theorem UQ:∀{ts:List TypeId} {vs:List Value} {ds:List (DataW H)} {ps:List MemPlace},DataW.TrodAll enc P w base spare held ts vs ds ps→ds.length=ts.length
 | [],[],[],_,_=>rfl
 |t::ts,v::vs,d::ds,ps,h=>by
  obtain⟨p,q,_,h2,_⟩:=h
  rw[List.length_cons,List.length_cons,UQ h2]
 | [],_::_,_,_,h=>by cases h
 | [],[],_::_,_,h=>by cases h
 | _::_,[],_,_,h=>by cases h
 | _::_,_::_,[],_,h=>by cases h
end
theorem aoG {α:Type}{l:List α}(h:l.length=1):∃a,l=[a]:=List.length_eq_one_iff.1 h
theorem aoJ {α:Type}{l:List α}{n:Nat}(h:l.length=n+1):∃a r,l=a::r∧r.length=n:=by
 cases l with
 |nil=>cases h
 |cons a r=>exact⟨a,r,rfl,by simpa using h⟩
theorem aoH {α:Type}{l:List α}(h:l.length=2):∃a b,l=[a,b]:=by
 obtain⟨a,r,rfl,h1⟩:=aoJ h
 obtain⟨b,rfl⟩:=aoG h1
 exact⟨a,b,rfl⟩
theorem aiS {P:Program}{l:List (String×DataW Unit)}{w:World}(he:(l.filter fun x=>x.2.handleName?.isSome)=[])(h:laidMetH P l w):laidMet P l w:=by
 unfold laidMetH at h
 rw[he]at h
 exact h
theorem afj {P:Program}{w:World}{n:String}{d:DataW Unit}:∀{l:List (String×DataW Unit)} {ps:List MemPlace},DataW.LaidVars P w l ps→(n,d)∈l→
  ∃g t cs fuel p,P.globalNamed n=some g∧(P.globals[g]?).map (·.type)=some t∧w.var? P n=some cs∧DataW.trod (fun _=>()) P w 0 (fun _=>true) false fuel t cs.toList=some (d,p)
 | [],_,_,h=>by cases h
 |(n',d')::l,ps,h,hm=>by
  obtain⟨g,t,cs,fuel,p,q,h1,h2,h3,h4,h5,_⟩:=h
  cases hm with
  |head=>exact⟨g,t,cs,fuel,p,h1,h2,h3,h4⟩
  |tail _ hm=>exact afj h5 hm
theorem ajH {P:Program}{W:World}{name:String}{k:IntKind}{zs:List Int}{l:List (String×DataW Unit)}{g:Nat}{t e:TypeId}{n:Nat}
  (hg:P.globalNamed name=some g)(hty:(P.globals[g]?).map (·.type)=some t)(ht:P.underlying t=some (.array n e))(he:P.underlying e=some (.int k))(hce:P.cellsOf e=1)(hct:P.cellsOf t=n)
  (h:laidMet P l W)(hm:(name,Lib.tabData k zs)∈l):Lib.TabIs P W name k zs:=by
 obtain⟨ps,hv,_⟩:=h
 obtain⟨g',t',cs,fuel,p,hg',ht',hvar,hd⟩:=afj hv hm
 obtain rfl:=Option.some.inj (hg.symm.trans hg')
 obtain rfl:=Option.some.inj (hty.symm.trans ht')
 unfold Lib.TabIs
 rw[hvar,←Lib.cells_of_tab ht he hce hct hd]
end Go.Am
namespace Go.Tel
open Go.Am
theorem anz {W:World}(h:C.G W):∀b,C.low b→b<W.heap.size∧∀c T fz,W.heap[b]?=some (.cells c T fz)→∀(i:Nat) (n:Int),c[i]?≠some (.int .i64 n):=by
 intro b hb
 have hb':Go.Proofs.Tryz.prog.globalNamed "internal/strconv.uint64pow10" =some b:=hb
 have h':W.var? Go.Proofs.Tryz.prog "internal/strconv.uint64pow10" =some (Go.Lib.pow10Tab.map fun z=>Value.int .u64 z).toArray:=h
 unfold World.var? at h'
 rw[hb']at h'
 simp only[Option.bind_some]at h'
 cases ho:W.heap[b]? with
 |none=>rw[ho]at h';cases h'
 |some o=>
  rw[ho]at h'
  refine⟨bT ho,fun c T fz hc i n hi=> ?_⟩
  cases hc
  simp only[Option.some.injEq]at h'
  subst h'
  rw[List.getElem?_toArray,List.getElem?_map]at hi
  cases hz:Go.Lib.pow10Tab[i]? with
  |none=>rw[hz]at hi;cases hi
  |some z=>rw[hz]at hi;cases hi
end Go.Tel
namespace Go.Proofs.YtbefoehadfnkbaaGreatDoor
open Go.ChangeShapes Go.WideShapes Go.RowKit Go.Am
theorem fV {a b:Bool}(ha:a=true)(hb:b=true):(a&&b)=true:=by rw[ha,hb];rfl
theorem own:ownKnob Tryz.prog.godebug=none:=by kernel_rfl
theorem laidOut:laidOutB Tryz.prog=true:=by kernel_rfl
def NS:List (String×DataW Unit):=Rows.journeymanNilRow.laid
theorem laid_met (os:Os)(args:Array Value):laidMet Tryz.prog NS ((World.laidAll Tryz.prog os NS).forCall (fun _ _=>0) ⟨#[],args,[]⟩).memory:=
 laidMet_laidAll args (by kernel_rfl) (by kernel_rfl)
theorem agz (os:Os)(args:Array Value):laidMetH Tryz.prog NS ((World.laidAll Tryz.prog os NS).forCall (fun _ _=>0) ⟨#[],args,[]⟩).memory:=
 laidMetH_of_parts (laid_met os args) (by kernel_rfl)
theorem ajG:(Rows.laid_internal_strconv_uint64pow10:DataW Unit)=Lib.tabData .u64 Lib.pow10Tab:=rfl
theorem alG:("internal/strconv.uint64pow10",(Rows.laid_internal_strconv_uint64pow10:DataW Unit))∈NS:=List.Mem.tail _ (List.Mem.tail _ (List.Mem.head _))
theorem anN {W:World}(h:laidMetH Tryz.prog NS W):Go.Tel.C.G W:=
 ajH (P:=Tryz.prog) (g:=1) (t:=390) (e:=372) (n:=20) (by kernel_rfl) (by kernel_rfl) (by kernel_rfl) (by kernel_rfl) (by kernel_rfl) (by kernel_rfl) (aiS (by kernel_rfl) h) (ajG▸alG)
end Go.Proofs.YtbefoehadfnkbaaGreatDoor
