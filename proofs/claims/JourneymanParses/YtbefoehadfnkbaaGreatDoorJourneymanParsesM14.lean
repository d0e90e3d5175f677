/-
  Part 14 of the proof of a law of desks: an abstract machine over the model, contracts of functions, plain laws.
  Conditions: none.
-/
import Derived.Test.YtbefoehadfnkbaaGreatDoorJourneymanParsesM12
import Derived.Test.YtbefoehadfnkbaaGreatDoorJourneymanParsesM13
set_option linter.all false
set_option maxRecDepth 10000
set_option maxHeartbeats 1000000
open Nat renaming reduceBEq→qA,reduceAdd→qB,reduceSub→qC,reduceEqDiff→qD,reduceLT→qE,reduceLeDiff→qF
namespace Go.Tel
open Go.Am
def EF:List aJ:=[]
theorem PG:aC C.P F.uU 2 Ef EF=true:=by kernel_rfl
def rO:aB:=(.seq (rg [mk 4 (.c (.str ⟨#[]⟩))] 0 [0,1]) (.seq (.seq (rg [mv 5 0,mv 6 1,ob 7 (.ak F.stringslite_HasSuffix) 5 6] 0 [0,1,7]) (.cond (.t 7) (.seq (rg [mv 8 0,mv 9 0,oa 10 .Kq 9,mv 11 1,oa 12 .Kq 11,ob 13 (.bin .sub) 10 12,ob 14 (.RV false true) 8 13,mv 4 14] 0 [4]) .ret) .skip)) (.seq (rg [mv 15 0,mv 4 15] 0 [4]) .ret)))
def sF:List aJ:=[.tmp 4]
theorem EY:aC C.P F.stringslite_TrimSuffix 2 rO sF=true:=by kernel_rfl
def l7:aB:=(.seq (.region false [oa 3 (.box 0) 1,mk 4 (kI 0)] 1 [0,3] [3]) (.seq (.seq (rg [mv 6 0,oa 7 .len 6,mk 8 (kI 0)] 0 [0,3,7,8]) (.block 0 (.loop (.seq (rg [ob 9 (.bin .lss) 8 7] 0 [0,3,7,8,9]) (.seq (.cond (.t 9) .skip (.exit 0)) (.seq (.block 1 (.seq (rg [mv 10 8,mv 5 10] 0 [0,3,5,7,8]) (.seq (.region true [of 11 (.load true 2) [.t 3] 1,mv 12 0,mv 13 5,of 14 (.bC 2) [.t 12,.t 13] 1,of 15 (.load true 2) [.t 14] 1,ob 16 (.Qg false [2,1]) 11 15] 0 [0,3,5,7,8,16] []) (.cond (.t 16) (.seq (rg [mv 17 5,mv 4 17] 0 [4]) .ret) .skip)))) (rg [oc 18 (.bin .add) 8 (kI 1),mv 8 18] 0 [0,3,7,8]))))))) (.seq (rg [mk 4 (kI (-1))] 0 [4]) .ret)))
def l9:List aJ:=[.tmp 4]
theorem yB:aC C.P F.jA 2 l7 l9=true:=by kernel_rfl
def yM:aB:=(.seq (rg [mk 2 (.c (.slice true []))] 0 [0]) (.seq (rg [mv 3 0,on 4 (.call F.qK) [.c (.slice true []),.t 3],mv 2 4] 0 [2]) .ret))
def yV:List aJ:=[.tmp 2]
theorem KC:aC C.P F.vJ 1 yM yV=true:=by kernel_rfl
def xu:aB:=(.seq (rg [lo 5 1,oa 6 .len 5,mk 7 (kI 0)] 0 [0,5,6,7]) (.block 0 (.loop (.seq (rg [ob 8 (.bin .lss) 7 6] 0 [0,5,6,7,8]) (.seq (.cond (.t 8) .skip (.exit 0)) (.seq (.block 1 (.seq (rg [ob 9 (.bC 1) 5 7,lo 10 9,mv 4 10] 0 [0,4,5,6,7]) (.seq (rg [mv 11 0,mv 12 4,ob 13 .je 11 12,oa 14 (.un .not) 13] 0 [0,5,6,7,14]) (.cond (.t 14) .ret .skip)))) (rg [oc 15 (.bin .add) 7 (kI 1),mv 7 15] 0 [0,5,6,7])))))))
def xW:List aJ:=[]
theorem Jh:aC C.P F.mD 2 xu xW=true:=by kernel_rfl
def vY:aB:=(.seq (rg [mk 4 (kI 0)] 0 [0,1]) (.seq (.seq (rg [mv 6 0,oa 7 .len 6,mk 8 (kI 0)] 0 [0,1,7,8]) (.block 0 (.loop (.seq (rg [ob 9 (.bin .lss) 8 7] 0 [0,1,7,8,9]) (.seq (.cond (.t 9) .skip (.exit 0)) (.seq (.block 1 (.seq (rg [mv 10 8,mv 5 10] 0 [0,1,5,7,8]) (.seq (rg [mv 11 1,mv 12 0,mv 13 5,ob 14 (.bC 1) 12 13,lo 15 14,ob 16 .je 11 15] 0 [0,1,5,7,8,16]) (.cond (.t 16) (.seq (rg [mv 17 5,mv 4 17] 0 [4]) .ret) .skip)))) (rg [oc 18 (.bin .add) 8 (kI 1),mv 8 18] 0 [0,1,7,8]))))))) (.seq (rg [mk 4 (kI (-1))] 0 [4]) .ret)))
def wC:List aJ:=[.tmp 4]
theorem G9:aC C.P F.qL 2 vY wC=true:=by kernel_rfl
def jE:aB:=(.seq (rg [mk 4 (.c (.bool false))] 0 [0,1]) (.seq (rg [mv 5 0,mv 6 1,ob 7 (.ak F.iU) 5 6,oc 8 (.bin .geq) 7 (kI 0),mv 4 8] 0 [4]) .ret))
def jG:List aJ:=[.tmp 4]
theorem sQ:aC C.P F.gU 2 jE jG=true:=by kernel_rfl
def kR:aB:=(.seq (rg [mk 4 (kI 0)] 0 [0,1]) (.seq (.seq (rg [mv 6 0,oa 7 .len 6,mk 8 (kI 0)] 0 [0,1,7,8]) (.block 0 (.loop (.seq (rg [ob 9 (.bin .lss) 8 7] 0 [0,1,7,8,9]) (.seq (.cond (.t 9) .skip (.exit 0)) (.seq (.block 1 (.seq (rg [mv 10 8,mv 5 10] 0 [0,1,5,7,8]) (.seq (rg [mv 11 1,mv 12 0,mv 13 5,ob 14 (.bC 4) 12 13,oa 15 (.load true 4) 14,ob 16 .je 11 15] 0 [0,1,5,7,8,16]) (.cond (.t 16) (.seq (rg [mv 17 5,mv 4 17] 0 [4]) .ret) .skip)))) (rg [oc 18 (.bin .add) 8 (kI 1),mv 8 18] 0 [0,1,7,8]))))))) (.seq (rg [mk 4 (kI (-1))] 0 [4]) .ret)))
def kV:List aJ:=[.tmp 4]
theorem wH:aC C.P F.iT 2 kR kV=true:=by kernel_rfl
def jm:aB:=(.seq (rg [mk 4 (kI 0)] 0 [0,1]) (.seq (.seq (rg [mv 6 0,oa 7 .len 6,mk 8 (kI 0)] 0 [0,1,7,8]) (.block 0 (.loop (.seq (rg [ob 9 (.bin .lss) 8 7] 0 [0,1,7,8,9]) (.seq (.cond (.t 9) .skip (.exit 0)) (.seq (.block 1 (.seq (rg [mv 10 8,mv 5 10] 0 [0,1,5,7,8]) (.seq (rg [mv 11 1,mv 12 0,mv 13 5,ob 14 (.bC 2) 12 13,oa 15 (.load true 2) 14,ob 16 .je 11 15] 0 [0,1,5,7,8,16]) (.cond (.t 16) (.seq (rg [mv 17 5,mv 4 17] 0 [4]) .ret) .skip)))) (rg [oc 18 (.bin .add) 8 (kI 1),mv 8 18] 0 [0,1,7,8]))))))) (.seq (rg [mk 4 (kI (-1))] 0 [4]) .ret)))
def jq:List aJ:=[.tmp 4]
theorem qP:aC C.P F.gu 2 jm jq=true:=by kernel_rfl
def BR:aB:=(.seq (rg [mk 4 (kI 0)] 0 [0,1]) (.seq (.seq (rg [mv 6 0,oa 7 .len 6,mk 8 (kI 0)] 0 [0,1,7,8]) (.block 0 (.loop (.seq (rg [ob 9 (.bin .lss) 8 7] 0 [0,1,7,8,9]) (.seq (.cond (.t 9) .skip (.exit 0)) (.seq (.block 1 (.seq (rg [mv 10 8,mv 5 10] 0 [0,1,5,7,8]) (.seq (rg [mv 11 1,mv 12 0,mv 13 5,ob 14 (.bC 1) 12 13,lo 15 14,ob 16 (.bin .eql) 11 15] 0 [0,1,5,7,8,16]) (.cond (.t 16) (.seq (rg [mv 17 5,mv 4 17] 0 [4]) .ret) .skip)))) (rg [oc 18 (.bin .add) 8 (kI 1),mv 8 18] 0 [0,1,7,8]))))))) (.seq (rg [mk 4 (kI (-1))] 0 [4]) .ret)))
def CO:List aJ:=[.tmp 4]
theorem NZ:aC C.P F.slices_Index_int 2 BR CO=true:=by kernel_rfl
def vX:aB:=(.seq (rg [oa 2 (.box 0) 0,mk 4 (.c (.slice true []))] 1 [1,2,4]) (.seq (.seq (rg [mv 6 1] 0 [2,4,6]) (.block 0 (.xB (.t 6) [7] [2] (rg [mv 5 7] 0 [2,5]) (.block 1 (rg [lo 8 2,mv 9 5,oa 10 (.iH 1 [.int .i64 0] [0]) 9,ob 11 (.app 1 true) 8 10,os (.store 1) [.t 2,.t 11] 0] 0 []))))) (.seq (rg [lo 12 2,mv 4 12] 0 [4]) .ret)))
def wB:List aJ:=[.tmp 4]
theorem G8:aC C.P F.qK 2 vX wB=true:=by kernel_rfl
def ql:aB:=(.seq (rg [mk 4 (kI 0),mk 5 (.c (.bool false))] 0 [0,1]) (.seq (rg [mv 10 0,oa 11 .len 10,mv 6 11] 0 [0,1,6]) (.seq (rg [mv 12 6,mk 7 (kI 0),mv 8 12] 0 [0,1,6,7,8]) (.seq (.block 0 (.loop (.seq (.seq (rg [mv 13 7,mv 14 8,ob 15 (.bin .lss) 13 14] 0 [0,1,6,7,8,15]) (.cond (.t 15) .skip (.exit 0))) (.block 1 (.seq (rg [mv 16 7,mv 17 8,ob 18 (.bin .add) 16 17,oa 19 (.conv .u64) 18,oc 20 (.shf .shr) 19 (.c (.int .u64 1)),oa 21 (.conv .i64) 20,mv 9 21] 0 [0,1,6,7,8,9]) (.seq (rg [mv 22 0,mv 23 9,ob 24 (.bC 1) 22 23,lo 25 24,mv 26 1,ob 27 (.ak F.cmp_Less_int) 25 26] 0 [0,1,6,7,8,9,27]) (.cond (.t 27) (rg [mv 28 9,oc 29 (.bin .add) 28 (kI 1),mv 7 29] 0 [0,1,6,7,8]) (rg [mv 30 9,mv 8 30] 0 [0,1,6,7,8])))))))) (.seq (rg [mv 31 7,mv 32 7,mv 33 6,ob 34 (.bin .lss) 32 33,mv 35 34,ot 36 .mov [.t 0] 35 0,ot 37 .mov [.t 7] 35 0,ot 38 (.bC 1) [.t 36,.t 37] 35 0,ot 39 (.load false 1) [.t 38] 35 0,ot 40 .mov [.t 1] 35 0,ot 41 (.bin .eql) [.t 39,.t 40] 35 0,ot 42 .mov [.t 41] 35 0,oF 43 .mov [.t 0] 42 0,oF 44 .mov [.t 7] 42 0,oF 45 (.bC 1) [.t 43,.t 44] 42 0,oF 46 (.load false 1) [.t 45] 42 0,oF 47 (.ak F.qV) [.t 46] 42 0,oF 48 .mov [.t 47] 42 0,ot 49 .mov [.t 1] 48 0,ot 50 (.ak F.qV) [.t 49] 48 0,oF 51 .pick [.t 48,.t 50,.c (.bool false)] 42 0,ot 52 .pick [.t 42,.c (.bool true),.t 51] 35 0,on 53 .pick [.t 35,.t 52,.c (.bool false)],mv 4 31,mv 5 53] 0 [4,5]) .ret)))))
def qx:List aJ:=[.tmp 4, .tmp 5]
theorem DY:aC C.P F.slices_BinarySearch_int 2 ql qx=true:=by kernel_rfl
def kS:aB:=(.seq (rg [mk 4 (kI 0)] 0 [0,1]) (.seq (.seq (rg [mv 6 0,oa 7 .len 6,mk 8 (kI 0)] 0 [0,1,7,8]) (.block 0 (.loop (.seq (rg [ob 9 (.bin .lss) 8 7] 0 [0,1,7,8,9]) (.seq (.cond (.t 9) .skip (.exit 0)) (.seq (.block 1 (.seq (rg [mv 10 8,mv 5 10] 0 [0,1,5,7,8]) (.seq (rg [mv 11 1,mv 12 0,mv 13 5,ob 14 (.bC 2) 12 13,oa 15 (.load true 2) 14,ob 16 .je 11 15] 0 [0,1,5,7,8,16]) (.cond (.t 16) (.seq (rg [mv 17 5,mv 4 17] 0 [4]) .ret) .skip)))) (rg [oc 18 (.bin .add) 8 (kI 1),mv 8 18] 0 [0,1,7,8]))))))) (.seq (rg [mk 4 (kI (-1))] 0 [4]) .ret)))
def kW:List aJ:=[.tmp 4]
theorem wI:aC C.P F.iU 2 kS kW=true:=by kernel_rfl
def JK:aB:=(.seq (rg [mk 4 (.c (.bool false))] 0 [0,1]) (.seq (rg [mv 5 0,oa 6 (.ak F.cmp_isNaN_int) 5,mv 7 6,ot 8 .mov [.t 1] 7 0,ot 9 (.ak F.cmp_isNaN_int) [.t 8] 7 0,ot 10 (.un .not) [.t 9] 7 0,on 11 .pick [.t 7,.t 10,.c (.bool false)],mv 12 11,oF 13 .mov [.t 0] 12 0,oF 14 .mov [.t 1] 12 0,oF 15 (.bin .lss) [.t 13,.t 14] 12 0,on 16 .pick [.t 12,.c (.bool true),.t 15],mv 4 16] 0 [4]) .ret))
def JY:List aJ:=[.tmp 4]
theorem Vs:aC C.P F.cmp_Less_int 2 JK JY=true:=by kernel_rfl
def BU:aB:=(.seq (rg [mk 2 (.c (.bool false))] 0 [0]) (.seq (rg [mv 3 0,mv 4 0,ob 5 (.bin .neq) 3 4,mv 2 5] 0 [2]) .ret))
def CP:List aJ:=[.tmp 2]
theorem N7:aC C.P F.qV 1 BU CP=true:=by kernel_rfl
def Hf:aB:=(.seq (rg [mk 2 (.c (.bool false))] 0 [0]) (.seq (rg [mv 3 0,mv 4 0,ob 5 (.bin .neq) 3 4,mv 2 5] 0 [2]) .ret))
def H9:List aJ:=[.tmp 2]
theorem Tf:aC C.P F.cmp_isNaN_int 1 Hf H9=true:=by kernel_rfl
end Go.Tel
namespace Go.Am
theorem eP {cs:List PV}:aiA none cs= .agg cs:=rfl
theorem dG {cs:List PV}:afy none cs= .tup cs:=rfl
theorem lI {nb na:Nat}{env:List (Nat×PV)}{m:Mem}{α:Type}{len i:Nat}{E:Nat→α→St}{P:Nat→α→Prop}(a':α)(hi:i<len)(hs:(⟨env,m⟩:St)=E (i+1) a')(hP:P (i+1) a'):
  ∃n' s'',n'<len - i∧Weak nb na ⟨env,m⟩ s''∧upJ len E P n' s'':=⟨len - (i+1),_,by omega, .inl rfl,i+1,a',by omega,rfl,hs,hP⟩
end Go.Am
namespace Go.Tel
open Go.Am
structure Pr where
 a:Int
 b:Int
 deriving DecidableEq,Inhabited
structure Fr where
 n:Int
 d:Int
 deriving DecidableEq,Inhabited
structure Lk where
 fr:Int
 pr:Pr
 deriving DecidableEq,Inhabited
structure Pc where
 links:List Lk
 hands:List Int
 deriving DecidableEq,Inhabited
structure Fs where
 mv:Bool
 mo:Int
 da:Int
 af:Int
 deriving DecidableEq,Inhabited
structure Cal where
 ep:Int
 cy:List Int
 deriving DecidableEq,Inhabited
structure jU where
 n:Int
 d:Int
 ad:Int
 deriving DecidableEq,Inhabited
structure Dt where
 y:Int
 m:Int
 d:Int
 deriving DecidableEq,Inhabited
def Pr.dv (p:Pr):DV:= .agg [.int .i64 p.a, .int .i64 p.b]
def Fr.dv (p:Fr):DV:= .agg [.int .i64 p.n, .int .i64 p.d]
def Lk.dv (p:Lk):DV:= .agg [.int .i64 p.fr, .int .i64 p.pr.a, .int .i64 p.pr.b]
def Pc.dv (p:Pc):DV:= .agg [.slice false (p.links.map Lk.dv), .slice false (p.hands.map ay)]
def Fs.dv (f:Fs):DV:= .agg [.bool f.mv, .int .i64 f.mo, .int .i64 f.da, .int .i64 f.af]
def Cal.dv (c:Cal):DV:= .agg [.int .i64 c.ep, .slice false (c.cy.map ay)]
def jU.dv (m:jU):DV:= .agg [.int .i64 m.n, .int .i64 m.d, .int .i64 m.ad]
def Dt.dv (d:Dt):DV:= .agg [.int .i64 d.y, .int .i64 d.m, .int .i64 d.d]
theorem yC {p:Pr}:p.dv= .agg [.int .i64 p.a, .int .i64 p.b]:=by rw[Pr.dv]
theorem dH {p:Fr}:p.dv= .agg [.int .i64 p.n, .int .i64 p.d]:=by rw[Fr.dv]
theorem JG {p:Lk}:p.dv= .agg [.int .i64 p.fr, .int .i64 p.pr.a, .int .i64 p.pr.b]:=by rw[Lk.dv]
theorem lY {p:Pc}:p.dv= .agg [.slice false (p.links.map Lk.dv), .slice false (p.hands.map ay)]:=by rw[Pc.dv]
theorem Wn {f:Fs}:f.dv= .agg [.bool f.mv, .int .i64 f.mo, .int .i64 f.da, .int .i64 f.af]:=by rw[Fs.dv]
theorem pR {c:Cal}:c.dv= .agg [.int .i64 c.ep, .slice false (c.cy.map ay)]:=by rw[Cal.dv]
theorem uN {m:jU}:m.dv= .agg [.int .i64 m.n, .int .i64 m.d, .int .i64 m.ad]:=by rw[jU.dv]
theorem Fg {d:Dt}:d.dv= .agg [.int .i64 d.y, .int .i64 d.m, .int .i64 d.d]:=by rw[Dt.dv]
section
variable {C:Ctx}{base:Nat}{K:PV→Mem→Prop}{KP:DV→Mem→Prop}{bs:List (Option (List PV))}{fz:List Nat}{ar:List (Option Arr)}
theorem alj {k ver skip sz st:Nat}{xs:List DV}(h:ar[k]?=some (some ⟨sz,xs,ver,st⟩)):datum ⟨bs,fz,ar⟩ (.tsl k ver skip)=some (.slice false (xs.drop skip)):=by
 simp[datum,Mem.row,h]
theorem VE {f:FuncId}{k ver skip sz st:Nat}{xs:List DV}{x:DV}(h:ar[k]?=some (some ⟨sz,xs,ver,st⟩))(hp:Pure C f [.slice false (xs.drop skip)] (.d x) [])(hx:IW x=true)(hK:K (.d x) ⟨bs,fz,ar⟩):
  aj C base (.iZ f) [.tsl k ver skip] ⟨bs,fz,ar⟩ K KP:=by
 rw[ahi]
 exact⟨[.slice false (xs.drop skip)],by simp[dD,alj h],x,by simpa[DV.strip]using hp,hx,hK⟩
end
theorem dQ {α:Type}[Inhabited α]{l:List α}{i:Nat}(h:i<l.length):l.take (i+1)=l.take i++ [l.getD i default]:=by
 rw[List.take_add_one];congr 1;rw[List.getD_eq_getElem?_getD,List.getElem?_eq_getElem h];rfl
theorem Wv {C:Ctx}{base sz:Nat}{M:Mem}{K:PV→Mem→Prop}{KP:DV→Mem→Prop}{xs:List DV}{k:IntKind}{n:Int}(hs:∀x∈xs,x.cells.length=sz)(h0:0≤n)(h1:n≤xs.length):
  aj C base (.RU sz false true false) [.d (.slice false xs), .d (.int k n)] M K KP=K (.d (.slice false (xs.take n.toNat))) M:=by
 simp only[aj,Df,dI,Option.getD_none,Option.getD_some,true_and,Int.le_refl,h0,h1,Int.toNat_zero,List.drop_zero,Bool.false_or,Bool.false_and]
 simp
 intro hk x hx
 exact hs x hx
theorem ajU {ls:List Lk}:∀x∈ls.map Lk.dv,x.cells.length=3:=by intro x hx;obtain⟨l,_,rfl⟩:=List.mem_map.1 hx;rfl
theorem fits_int {k:IntKind}{n:Int}:DV.fits 1 (.int k n)=true:=rfl
theorem VH {a b:Int}:DV.fits 2 (.agg [.int .i64 a, .int .i64 b])=true:=rfl
def idx {α:Type}[DecidableEq α](v:α):List α→Nat→Int
 | [],_=> -1
 |x::xs,i=>if v=x then i else idx v xs (i+1)
theorem ajE {α:Type}[DecidableEq α](v:α):∀(xs:List α) (i:Nat),decide (idx v xs i≥0)=xs.contains v
 | [],i=>by simp[idx]
 |x::xs,i=>by
  simp only[idx,List.contains_cons]
  by_cases h:v=x
  ·simp[h]
  ·simp only[h,if_false,ajE v xs (i+1)]
   simp[h]
theorem Wq {base:Nat}{M:Mem}{K:PV→Mem→Prop}{KP:DV→Mem→Prop}{C:Ctx}{neq:Bool}{a b c d:Int}:aj C base (.Qg neq [1,1]) [.d (.agg [.int .i64 a, .int .i64 b]), .d (.agg [.int .i64 c, .int .i64 d])] M K KP=K (.d (.bool (((a==c)&&(b==d)) !=neq))) M:=by
 rw[afQ (t:=(a==c)&&(b==d))];simp[dB]
theorem afK {b:Bool}:(b !=false)=b:=by cases b<;>rfl
def nG {α:Type}(p:α→Bool):List α→Nat→Int
 | [],_=> -1
 |x::xs,i=>if p x then i else nG p xs (i+1)
theorem Qx {α:Type}(p:α→Bool):∀(xs:List α) (i:Nat),decide (nG p xs i≥0)=xs.any p
 | [],i=>by simp[nG]
 |x::xs,i=>by
  simp only[nG,List.any_cons]
  by_cases h:p x=true
  ·simp[h]
  ·have h':p x=false:=by simpa using h
   have:=Qx p xs (i+1)
   simpa[h']using this
theorem Iw {α:Type}(p:α→Bool):∀l:List α,(l.any fun w=> !p w)= !l.all p
 | []=>rfl
 |x::l=>by simp only[List.any_cons,List.all_cons,Iw p l,Bool.not_and]
theorem Qi {C:Ctx}{base:Nat}{M:Mem}{K:PV→Mem→Prop}{KP:DV→Mem→Prop}{f:FuncId}{fs cs ds ds':List DV}{args:List PV}{x:DV}(h1:jd args=some ds)(hc:callable C.P f=true)(h2:(fs++ds++cs).map DV.strip=ds')(hp:Pure C f ds' (.d x) [])(hK:K (.d x) M):
  aj C base .je (.d (.func (.func f) fs cs)::args) M K KP:=by
 refine⟨hc,zM (RG ⟨fs++ds++cs,?_,x,h2▸hp,hK⟩)⟩
 have he:args=ds.map .d:=MV h1
 have hd:∀l:List DV,jd (l.map .d)=some l:=by
  intro l;induction l with
  |nil=>rfl
  |cons c l ih=>simp[jd,ih]
 rw[he,←List.map_append,←List.map_append,hd]
theorem getD_mem {α:Type}[Inhabited α]{l:List α}{i:Nat}(h:i<l.length):l.getD i default∈l:=by
 rw[List.getD_eq_getElem?_getD,List.getElem?_eq_getElem h];exact List.getElem_mem h
theorem NI (n:Int)(g:Int):(n.tdiv g).natAbs≤n.natAbs:=by
 rw[Int.natAbs_tdiv];exact Nat.div_le_self _ _
theorem abY (xs:List Int)(fn:FuncId)(caps:List DV)(p:Int→Bool)(hl:xs.length≤1000000)(hc:callable C.P fn=true)(hp:∀x∈xs,Pure C fn ([(ay x).strip]++caps.map DV.strip) (.d (.bool (p x))) []):
  Pure C F.qL [.slice false (xs.map ay), .func (.func fn) [] caps] (.d (.int .i64 (nG p xs 0))) []:=by
 refine ah mixed rfl G9 ?_
 simp only[vY,wC,List.length_map,RN,qA,qB,qC,qD,qE,qF]
 refine aT xs.length (fun i (_:Unit)=>⟨[(0, .d (.slice false (xs.map ay))),(1, .d (.func (.func fn) [] caps)),(7, .d (.int .i64 xs.length)),(8, .d (.int .i64 i))],⟨[],[],[]⟩⟩)
  (fun i _=>nG p xs 0=nG p (xs.drop i) i) 0 () (Nat.zero_le _) rfl rfl (fun i _ h1 hix=> ?_) (fun _ hix=> ?_)
 ·obtain⟨h2,h3,h6⟩:=rng h1 hl
  rw[drop_cons h1,nG]at hix
  have hx:=hp (xs.getD i default) (by rw[List.getD_eq_getElem?_getD,List.getElem?_eq_getElem h1];exact List.getElem_mem h1)
  simp only[h2,h3,h1,getD_map,Int.toNat_natCast,List.length_map,aV,RN,qA,qB,qC,qD,qE,qF]
  refine Qi rfl hc (by simp only[List.nil_append,List.map_append,List.map_cons,List.map_nil,aV]) hx ?_
  cases h4:p (xs.getD i default)
  ·simp only[h6,RN,qA,qB,qC,qD,qE,qF]
   exact nR () h1 rfl (by rw[if_neg (fun h=>by rw[h4]at h;cases h)]at hix;exact hix) (by simp) (by simp) rfl rfl
  ·(try simp only[RN,qA,qB,qC,qD,qE,qF])
   rw[hix,if_pos h4]
 ·rw[List.drop_length,nG]at hix
  simp only[Int.lt_irrefl,hix,RN,qA,qB,qC,qD,qE,qF]
theorem wK (xs:List Int)(fn:FuncId)(caps:List DV)(p:Int→Bool)(hl:xs.length≤1000000)(hc:callable C.P fn=true)(hp:∀x∈xs,Pure C fn ([(ay x).strip]++caps.map DV.strip) (.d (.bool (p x))) []):
  Pure C F.dY [.slice false (xs.map ay), .func (.func fn) [] caps] (.d (.bool (xs.any p))) []:=by
 have hi:=abY xs fn caps p hl hc hp
 refine ah mixed rfl DZ ?_
 simp only[qm,qy,RN,qA,qB,qC,qD,qE,qF]
 refine au rfl rfl hi ?_
 simp only[Qx,RN,qA,qB,qC,qD,qE,qF]
theorem aeO (xs:List Pr)(fn:FuncId)(caps:List DV)(p:Pr→Bool)(hl:xs.length≤1000000)(hc:callable C.P fn=true)(hp:∀x∈xs,Pure C fn ([(Pr.dv x).strip]++caps.map DV.strip) (.d (.bool (p x))) []):
  Pure C F.iU [.slice false (xs.map Pr.dv), .func (.func fn) [] caps] (.d (.int .i64 (nG p xs 0))) []:=by
 refine ah mixed rfl wI ?_
 simp only[kS,kW,List.length_map,RN,qA,qB,qC,qD,qE,qF]
 refine aT xs.length (fun i (_:Unit)=>⟨[(0, .d (.slice false (xs.map Pr.dv))),(1, .d (.func (.func fn) [] caps)),(7, .d (.int .i64 xs.length)),(8, .d (.int .i64 i))],⟨[],[],[]⟩⟩)
  (fun i _=>nG p xs 0=nG p (xs.drop i) i) 0 () (Nat.zero_le _) rfl rfl (fun i _ h1 hix=> ?_) (fun _ hix=> ?_)
 ·obtain⟨h2,h3,h6⟩:=rng h1 hl
  rw[drop_cons h1,nG]at hix
  have hx:=hp (xs.getD i default) (by rw[List.getD_eq_getElem?_getD,List.getElem?_eq_getElem h1];exact List.getElem_mem h1)
  simp only[h2,h3,h1,getD_map,Int.toNat_natCast,List.length_map,yC,RN,qA,qB,qC,qD,qE,qF]
  refine Qi rfl hc (by simp only[List.nil_append,List.map_append,List.map_cons,List.map_nil,yC]) hx ?_
  cases h4:p (xs.getD i default)
  ·simp only[h6,RN,qA,qB,qC,qD,qE,qF]
   exact nR () h1 rfl (by rw[if_neg (fun h=>by rw[h4]at h;cases h)]at hix;exact hix) (by simp) (by simp) rfl rfl
  ·(try simp only[RN,qA,qB,qC,qD,qE,qF])
   rw[hix,if_pos h4]
 ·rw[List.drop_length,nG]at hix
  simp only[Int.lt_irrefl,hix,RN,qA,qB,qC,qD,qE,qF]
theorem Yt (xs:List Pr)(fn:FuncId)(caps:List DV)(p:Pr→Bool)(hl:xs.length≤1000000)(hc:callable C.P fn=true)(hp:∀x∈xs,Pure C fn ([(Pr.dv x).strip]++caps.map DV.strip) (.d (.bool (p x))) []):
  Pure C F.gU [.slice false (xs.map Pr.dv), .func (.func fn) [] caps] (.d (.bool (xs.any p))) []:=by
 have hi:=aeO xs fn caps p hl hc hp
 refine ah mixed rfl sQ ?_
 simp only[jE,jG,RN,qA,qB,qC,qD,qE,qF]
 refine au rfl rfl hi ?_
 simp only[Qx,RN,qA,qB,qC,qD,qE,qF]
theorem aeM (xs:List Fr)(fn:FuncId)(caps:List DV)(p:Fr→Bool)(hl:xs.length≤1000000)(hc:callable C.P fn=true)(hp:∀x∈xs,Pure C fn ([(Fr.dv x).strip]++caps.map DV.strip) (.d (.bool (p x))) []):
  Pure C F.gu [.slice false (xs.map Fr.dv), .func (.func fn) [] caps] (.d (.int .i64 (nG p xs 0))) []:=by
 refine ah mixed rfl qP ?_
 simp only[jm,jq,List.length_map,RN,qA,qB,qC,qD,qE,qF]
 refine aT xs.length (fun i (_:Unit)=>⟨[(0, .d (.slice false (xs.map Fr.dv))),(1, .d (.func (.func fn) [] caps)),(7, .d (.int .i64 xs.length)),(8, .d (.int .i64 i))],⟨[],[],[]⟩⟩)
  (fun i _=>nG p xs 0=nG p (xs.drop i) i) 0 () (Nat.zero_le _) rfl rfl (fun i _ h1 hix=> ?_) (fun _ hix=> ?_)
 ·obtain⟨h2,h3,h6⟩:=rng h1 hl
  rw[drop_cons h1,nG]at hix
  have hx:=hp (xs.getD i default) (by rw[List.getD_eq_getElem?_getD,List.getElem?_eq_getElem h1];exact List.getElem_mem h1)
  simp only[h2,h3,h1,getD_map,Int.toNat_natCast,List.length_map,dH,RN,qA,qB,qC,qD,qE,qF]
  refine Qi rfl hc (by simp only[List.nil_append,List.map_append,List.map_cons,List.map_nil,dH]) hx ?_
  cases h4:p (xs.getD i default)
  ·simp only[h6,RN,qA,qB,qC,qD,qE,qF]
   exact nR () h1 rfl (by rw[if_neg (fun h=>by rw[h4]at h;cases h)]at hix;exact hix) (by simp) (by simp) rfl rfl
  ·(try simp only[RN,qA,qB,qC,qD,qE,qF])
   rw[hix,if_pos h4]
 ·rw[List.drop_length,nG]at hix
  simp only[Int.lt_irrefl,hix,RN,qA,qB,qC,qD,qE,qF]
theorem Yq (xs:List Fr)(fn:FuncId)(caps:List DV)(p:Fr→Bool)(hl:xs.length≤1000000)(hc:callable C.P fn=true)(hp:∀x∈xs,Pure C fn ([(Fr.dv x).strip]++caps.map DV.strip) (.d (.bool (p x))) []):
  Pure C F.fE [.slice false (xs.map Fr.dv), .func (.func fn) [] caps] (.d (.bool (xs.any p))) []:=by
 have hi:=aeM xs fn caps p hl hc hp
 refine ah mixed rfl oU ?_
 simp only[iO,iP,RN,qA,qB,qC,qD,qE,qF]
 refine au rfl rfl hi ?_
 simp only[Qx,RN,qA,qB,qC,qD,qE,qF]
theorem aeN (xs:List Fs)(fn:FuncId)(caps:List DV)(p:Fs→Bool)(hl:xs.length≤1000000)(hc:callable C.P fn=true)(hp:∀x∈xs,Pure C fn ([(Fs.dv x).strip]++caps.map DV.strip) (.d (.bool (p x))) []):
  Pure C F.iT [.slice false (xs.map Fs.dv), .func (.func fn) [] caps] (.d (.int .i64 (nG p xs 0))) []:=by
 refine ah mixed rfl wH ?_
 simp only[kR,kV,List.length_map,RN,qA,qB,qC,qD,qE,qF]
 refine aT xs.length (fun i (_:Unit)=>⟨[(0, .d (.slice false (xs.map Fs.dv))),(1, .d (.func (.func fn) [] caps)),(7, .d (.int .i64 xs.length)),(8, .d (.int .i64 i))],⟨[],[],[]⟩⟩)
  (fun i _=>nG p xs 0=nG p (xs.drop i) i) 0 () (Nat.zero_le _) rfl rfl (fun i _ h1 hix=> ?_) (fun _ hix=> ?_)
 ·obtain⟨h2,h3,h6⟩:=rng h1 hl
  rw[drop_cons h1,nG]at hix
  have hx:=hp (xs.getD i default) (by rw[List.getD_eq_getElem?_getD,List.getElem?_eq_getElem h1];exact List.getElem_mem h1)
  simp only[h2,h3,h1,getD_map,Int.toNat_natCast,List.length_map,Wn,RN,qA,qB,qC,qD,qE,qF]
  refine Qi rfl hc (by simp only[List.nil_append,List.map_append,List.map_cons,List.map_nil,Wn]) hx ?_
  cases h4:p (xs.getD i default)
  ·simp only[h6,RN,qA,qB,qC,qD,qE,qF]
   exact nR () h1 rfl (by rw[if_neg (fun h=>by rw[h4]at h;cases h)]at hix;exact hix) (by simp) (by simp) rfl rfl
  ·(try simp only[RN,qA,qB,qC,qD,qE,qF])
   rw[hix,if_pos h4]
 ·rw[List.drop_length,nG]at hix
  simp only[Int.lt_irrefl,hix,RN,qA,qB,qC,qD,qE,qF]
theorem Yr (xs:List Fs)(fn:FuncId)(caps:List DV)(p:Fs→Bool)(hl:xs.length≤1000000)(hc:callable C.P fn=true)(hp:∀x∈xs,Pure C fn ([(Fs.dv x).strip]++caps.map DV.strip) (.d (.bool (p x))) []):
  Pure C F.gQ [.slice false (xs.map Fs.dv), .func (.func fn) [] caps] (.d (.bool (xs.any p))) []:=by
 have hi:=aeN xs fn caps p hl hc hp
 refine ah mixed rfl sO ?_
 simp only[jD,jF,RN,qA,qB,qC,qD,qE,qF]
 refine au rfl rfl hi ?_
 simp only[Qx,RN,qA,qB,qC,qD,qE,qF]
theorem WR (xs:List Int)(v:Int)(hl:xs.length≤1000000):Pure C F.slices_Index_int [.slice false (xs.map ay), .int .i64 v] (.d (.int .i64 (idx v xs 0))) []:=by
 refine ah mixed rfl NZ ?_
 simp only[BR,CO,aV,List.length_map,RN,qA,qB,qC,qD,qE,qF]
 refine aT xs.length (fun i (_:Unit)=>⟨[(0, .d (.slice false (xs.map ay))),(1, .d (.int .i64 v)),(7, .d (.int .i64 xs.length)),(8, .d (.int .i64 i))],⟨[],[],[]⟩⟩) (fun i _=>idx v xs 0=idx v (xs.drop i) i) 0 () (Nat.zero_le _) rfl rfl (fun i _ h1 hix=> ?_) (fun _ hix=> ?_)
 ·obtain⟨h2,h3,h6⟩:=rng h1 hl
  rw[drop_cons h1,idx]at hix
  cases h4:(v==xs.getD i default)
  ·simp only[h2,h3,h1,h6,h4,aV,getD_map,Int.toNat_natCast,List.length_map,RN,qA,qB,qC,qD,qE,qF]
   exact nR () h1 rfl (by rw[if_neg (by simpa using h4)]at hix;exact hix) (by simp) (by simp) rfl rfl
  ·simp only[h2,h3,h1,h4,aV,getD_map,Int.toNat_natCast,List.length_map,RN,qA,qB,qC,qD,qE,qF]
   rw[hix,if_pos (by simpa using h4)]
 ·rw[List.drop_length,idx]at hix
  simp only[Int.lt_irrefl,hix,RN,qA,qB,qC,qD,qE,qF]
theorem Yu (xs:List Int)(v:Int)(hl:xs.length≤1000000):Pure C F.slices_Contains_int [.slice false (xs.map ay), .int .i64 v] (.d (.bool (xs.contains v))) []:=by
 have hi:=WR xs v hl
 refine ah mixed rfl Jg ?_
 simp only[xq,xU,RN,qA,qB,qC,qD,qE,qF]
 refine au rfl rfl hi ?_
 simp only[ajE,RN,qA,qB,qC,qD,qE,qF]
def LV:aB:=(.seq (rg [on 2 (.alloc 0 [.int .i64 0,.int .i64 0]) [],mk 3 (.c (.bool false)),mk 4 (kI 0)] 1 [0,2]) (.seq (.seq (rg [mv 5 0,oa 6 (.ak F.zO) 5,oa 7 (.un .not) 6] 0 [0,2,7]) (.cond (.t 7) (.seq (rg [on 8 (.build [.int .i64 0,.int .i64 0] []) [],os (.store 2) [.t 2,.t 8] 0,mk 3 (.c (.bool false)),mk 4 (kI 2)] 0 [2,3,4]) .ret) .skip)) (.seq (rg [mv 9 0,oa 10 (.ak F.FU) 9,mv 11 0,oa 12 .len 11,oc 13 (.bin .rem) 12 (kI 2),oc 14 (.bin .eql) 13 (kI 0),os (.store 2) [.t 2,.t 10] 0,mv 3 14,mk 4 (kI 0)] 0 [2,3,4]) .ret)))
def MH:List aJ:=[.cell 2 true 2, .tmp 3, .tmp 4]
theorem Xn:aC C.P F.MP 1 LV MH=true:=by kernel_rfl
def Q5:aB:=(.seq (.region false [oa 4 (.box 0) 1,mk 6 (kI 0),mk 7 (kI 0)] 1 [0,2,4] [4]) (.seq (.seq (rg [mv 9 0,oa 10 (.ak F.zO) 9,oa 11 (.un .not) 10,mv 12 11,oF 13 (.load true 2) [.t 4] 12 0,oF 14 (.ak F.zD) [.t 13] 12 0,oF 15 (.un .not) [.t 14] 12 0,on 16 .pick [.t 12,.c (.bool true),.t 15],mv 17 16,oF 18 .mov [.t 2] 17 0,oF 19 (.ak F.JB) [.t 18] 17 0,oF 20 (.un .not) [.t 19] 17 0,on 21 .pick [.t 17,.c (.bool true),.t 20]] 0 [0,2,4,21]) (.cond (.t 21) (.seq (rg [mk 6 (kI 0),mk 7 (kI 2)] 0 [6,7]) .ret) .skip)) (.seq (.region false [mv 22 0,oa 23 (.load true 2) 4,ob 24 (.ak F.GK) 22 23,on 8 (.alloc 0 [.int .i64 0,.int .i64 0]) [],os (.store 2) [.t 8,.t 24] 0] 1 [2,8] [8]) (.seq (rg [oa 25 (.fld 0) 8,lo 26 25,mv 27 2,ob 28 (.bin .mul) 26 27,oa 29 (.fld 1) 8,lo 30 29,ob 31 (.bin .quo) 28 30,mv 6 31,mk 7 (kI 0)] 0 [6,7]) .ret))))
def Rw:List aJ:=[.tmp 6, .tmp 7]
theorem aaK:aC C.P F.TY 3 Q5 Rw=true:=by kernel_rfl
def Hy:aB:=(.seq (rg [mk 2 (.c (.bool false))] 0 [0]) (.seq (rg [mv 3 0,oa 4 .len 3,on 5 (.ak F.EM) [.t 4,kI 1,kI 3],mv 6 5,ot 7 .mov [.t 0] 6 0,ot 8 (.ak F.gU) [.t 7,.c (.func (.func F.Bz) [] [])] 6 0,ot 9 (.un .not) [.t 8] 6 0,on 10 .pick [.t 6,.t 9,.c (.bool false)],mv 2 10] 0 [2]) .ret))
def Ik:List aJ:=[.tmp 2]
theorem TF:aC C.P F.zO 1 Hy Ik=true:=by kernel_rfl
def LW:aB:=(.seq (rg [on 2 (.alloc 0 [.int .i64 0,.int .i64 0]) []] 1 [0,2]) (.seq (rg [on 3 (.jV 1) [.c (.slice true [])],on 4 (.jV 1) [.c (.slice true [])]] 0 [0,2,3,4]) (.seq (.seq (rg [mv 7 0,oa 8 .len 7,mk 9 (kI 0)] 0 [2,3,4,7,8,9]) (.block 0 (.loop (.seq (rg [ob 10 (.bin .lss) 9 8] 0 [2,3,4,7,8,9,10]) (.seq (.cond (.t 10) .skip (.exit 0)) (.seq (.block 1 (.seq (.region false [ob 11 (.bC 2) 7 9,oa 12 (.load true 2) 11,on 6 (.alloc 0 [.int .i64 0,.int .i64 0]) [],os (.store 2) [.t 6,.t 12] 0] 1 [2,3,4,6,7,8,9] [6]) (.region true [mv 13 3,of 14 (.fld 0) [.t 6] 1,of 15 (.load false 1) [.t 14] 1,of 16 (.iH 1 [.int .i64 0] [0]) [.t 15] 1,ob 17 (.app 1 false) 13 16,mv 18 4,of 19 (.fld 1) [.t 6] 1,of 20 (.load false 1) [.t 19] 1,of 21 (.iH 1 [.int .i64 0] [0]) [.t 20] 1,ob 22 (.app 1 false) 18 21,mv 3 17,mv 4 22] 0 [2,3,4,7,8,9] []))) (rg [oc 23 (.bin .add) 9 (kI 1),mv 9 23] 0 [2,3,4,7,8,9]))))))) (.seq (rg [mv 24 3,oa 25 (.iZ F.zQ) 24,mv 26 4,oa 27 (.iZ F.zQ) 26,ob 28 (.ak F.GI) 25 27,os (.store 2) [.t 2,.t 28] 0] 0 [2]) .ret))))
def MI:List aJ:=[.cell 2 true 2]
theorem Xo:aC C.P F.FU 1 LW MI=true:=by kernel_rfl
def BX:aB:=(.seq (.region false [oa 1 (.box 0) 0,mk 2 (.c (.bool false))] 1 [1] [1]) (.seq (rg [oa 3 (.fld 0) 1,lo 4 3,on 5 (.ak F.EM) [.t 4,kI 0,kI 50000],mv 6 5,ot 7 (.fld 1) [.t 1] 6 0,ot 8 (.load false 1) [.t 7] 6 0,ot 9 (.ak F.EM) [.t 8,kI 1,kI 50000] 6 0,on 10 .pick [.t 6,.t 9,.c (.bool false)],mv 2 10] 0 [2]) .ret))
def CQ:List aJ:=[.tmp 2]
theorem N8:aC C.P F.zD 1 BX CQ=true:=by kernel_rfl
def JX:aB:=(.seq (rg [mk 2 (.c (.bool false))] 0 [0]) (.seq (rg [mv 3 0,on 4 (.ak F.EM) [.t 3,kI 0,kI 10000],mv 2 4] 0 [2]) .ret))
def J9:List aJ:=[.tmp 2]
theorem VB:aC C.P F.JB 1 JX J9=true:=by kernel_rfl
def H6:aB:=(.seq (.region false [oa 3 (.box 0) 1,on 4 (.alloc 1 [.int .i64 0,.int .i64 0]) []] 2 [0,3,4] [3]) (.seq (.region false [mv 6 0,oa 7 (.ak F.FU) 6,on 5 (.alloc 0 [.int .i64 0,.int .i64 0]) [],os (.store 2) [.t 5,.t 7] 0] 1 [3,4,5] [5]) (.seq (.region true [of 8 (.load true 2) [.t 5] 1,of 9 (.load true 2) [.t 3] 1,ob 10 (.ak F.GH) 8 9,oc 11 (.bin .mul) 10 (kI 21600),of 12 (.fld 1) [.t 5] 1,of 13 (.load false 1) [.t 12] 1,of 14 (.fld 1) [.t 3] 1,of 15 (.load false 1) [.t 14] 1,ob 16 (.bin .mul) 13 15,ob 17 (.build [.int .i64 0,.int .i64 0] [(0,1),(1,1)]) 11 16,os (.store 2) [.t 4,.t 17] 0] 0 [4] []) .ret)))
def Ip:List aJ:=[.cell 4 true 2]
theorem TJ:aC C.P F.GK 2 H6 Ip=true:=by kernel_rfl
def UW:aB:=(.seq (rg [mk 6 (.c (.bool false))] 0 [0,1,2]) (.seq (rg [mv 7 0,mv 8 1,ob 9 (.bin .geq) 7 8,mv 10 9,ot 11 .mov [.t 0] 10 0,ot 12 .mov [.t 2] 10 0,ot 13 (.bin .leq) [.t 11,.t 12] 10 0,on 14 .pick [.t 10,.t 13,.c (.bool false)],mv 6 14] 0 [6]) .ret))
def Vh:List aJ:=[.tmp 6]
theorem acN:aC C.P F.EM 3 UW Vh=true:=by kernel_rfl
def Eh:aB:=(.seq (.region false [oa 1 (.box 0) 0,mk 2 (.c (.bool false))] 1 [1] [1]) (.seq (rg [oa 3 (.fld 0) 1,lo 4 3,oa 5 (.ak F.zN) 4,oa 6 (.un .not) 5,mv 7 6,oF 8 (.fld 1) [.t 1] 7 0,oF 9 (.load false 1) [.t 8] 7 0,oF 10 (.ak F.zN) [.t 9] 7 0,oF 11 (.un .not) [.t 10] 7 0,on 12 .pick [.t 7,.c (.bool true),.t 11],mv 2 12] 0 [2]) .ret))
def EG:List aJ:=[.tmp 2]
theorem PI:aC C.P F.Bz 1 Eh EG=true:=by kernel_rfl
def Hw:aB:=(.seq (rg [mk 2 (.c (.bool false))] 0 [0]) (.seq (rg [mv 3 0,on 4 (.ak F.EM) [.t 3,kI 4,kI 60],mv 2 4] 0 [2]) .ret))
def Ij:List aJ:=[.tmp 2]
theorem TD:aC C.P F.zN 1 Hw Ij=true:=by kernel_rfl
def HY:aB:=(.seq (rg [on 4 (.alloc 0 [.int .i64 0,.int .i64 0]) []] 1 [0,1,4]) (.seq (rg [mv 6 0,mv 7 1,ob 8 (.ak F.Ua) 6 7,mv 5 8] 0 [0,1,4,5]) (.seq (.region true [mv 9 0,mv 10 5,ob 11 (.bin .quo) 9 10,mv 12 1,mv 13 5,ob 14 (.bin .quo) 12 13,ob 15 (.build [.int .i64 0,.int .i64 0] [(0,1),(1,1)]) 11 14,os (.store 2) [.t 4,.t 15] 0] 0 [4] []) .ret)))
def Io:List aJ:=[.cell 4 true 2]
theorem TI:aC C.P F.GI 2 HY Io=true:=by kernel_rfl
def Hz:aB:=(.seq (rg [mk 2 (kI 0)] 0 [0]) (.seq (rg [mk 3 (kI 1)] 0 [0,3]) (.seq (.seq (rg [mv 6 0,oa 7 .len 6,mk 8 (kI 0)] 0 [3,6,7,8]) (.block 0 (.loop (.seq (rg [ob 9 (.bin .lss) 8 7] 0 [3,6,7,8,9]) (.seq (.cond (.t 9) .skip (.exit 0)) (.seq (.block 1 (.seq (rg [ob 10 (.bC 1) 6 8,lo 11 10,mv 5 11] 0 [3,5,6,7,8]) (rg [mv 12 3,mv 13 5,ob 14 (.bin .mul) 12 13,mv 3 14] 0 [3,6,7,8]))) (rg [oc 15 (.bin .add) 8 (kI 1),mv 8 15] 0 [3,6,7,8]))))))) (.seq (rg [mv 16 3,mv 2 16] 0 [2]) .ret))))
def Il:List aJ:=[.tmp 2]
theorem TG:aC C.P F.zQ 1 Hz Il=true:=by kernel_rfl
def Hu:aB:=(.seq (.region false [oa 2 (.box 0) 0,oa 3 (.box 1) 1,mk 4 (kI 0)] 2 [2,3] [2,3]) (.seq (rg [oa 5 (.fld 0) 2,lo 6 5,oa 7 (.fld 1) 3,lo 8 7,ob 9 (.bin .mul) 6 8,oa 10 (.fld 0) 3,lo 11 10,oa 12 (.fld 1) 2,lo 13 12,ob 14 (.bin .mul) 11 13,ob 15 (.bin .sub) 9 14,mv 4 15] 0 [4]) .ret))
def Ii:List aJ:=[.tmp 4]
theorem TB:aC C.P F.GH 2 Hu Ii=true:=by kernel_rfl
def Q7:aB:=(.seq (rg [mk 4 (kI 0)] 0 [0,1]) (.seq (.block 0 (.loop (.seq (.seq (rg [mv 5 1,oc 6 (.bin .gtr) 5 (kI 0)] 0 [0,1,6]) (.cond (.t 6) .skip (.exit 0))) (.block 1 (.region true [mv 7 1,mv 8 0,mv 9 1,ob 10 (.bin .rem) 8 9,mv 0 7,mv 1 10] 0 [0,1] []))))) (.seq (rg [mv 11 0,mv 4 11] 0 [4]) .ret)))
def Rx:List aJ:=[.tmp 4]
theorem aaL:aC C.P F.Ua 2 Q7 Rx=true:=by kernel_rfl
end Go.Tel
namespace Go.Tel
open Go.Am
def bg (n:Int):Bool:=inR n 4 60
def Pr.ok (p:Pr):Bool:=bg p.a&&bg p.b
def Fr.ok (f:Fr):Bool:=inR f.n 0 50000&&inR f.d 1 50000
def uV (l:List Pr):Bool:=inR l.length 1 3&&l.all Pr.ok
def afl (n d:Nat):Fr:=⟨(n / Nat.gcd n d:Nat),(d / Nat.gcd n d:Nat)⟩
def oz:List Int→Int→Int
 | [],p=>p
 |x::xs,p=>oz xs (p*x)
def nP (l:List Pr):Fr:=afl (oz (l.map (·.a)) 1).natAbs (oz (l.map (·.b)) 1).natAbs
def aee (a b:Fr):Int:=a.n*b.d - b.n*a.d
def oW (l:List Pr)(f:Fr):Fr:=⟨aee (nP l) f*21600,(nP l).d*f.d⟩
def ap4 (l:List Pr)(f:Fr)(turns:Int):Int:=((oW l f).n*turns).tdiv (oW l f).d
def ahK (l:List Pr)(f:Fr)(turns:Int):Int×Int:=if uV l&&f.ok&&inR turns 0 10000 then(ap4 l f turns,0)else(0,2)
theorem agk (n l h:Int):Pure C F.EM [.int .i64 n, .int .i64 l, .int .i64 h] (.d (.bool (inR n l h))) []:=by
 refine ah mixed rfl acN ?_
 by_cases h1:n≥l<;>simp only[h1,inR,UW,Vh,Bool.false_and,RN,qA,qB,qC,qD,qE,qF]
theorem akR (n:Int):Pure C F.zN [.int .i64 n] (.d (.bool (bg n))) []:=by
 refine ah mixed rfl TD ?_
 simp only[Hw,Ij,RN,qA,qB,qC,qD,qE,qF]
 repeat' first
  |(refine au rfl rfl (agk _ _ _) ?_;try simp only[RN,qA,qB,qC,qD,qE,qF])
  |(refine bJ (by rfl) (fun hB=> ?_) (fun hB=> ?_)<;>simp only[hB,RN,qA,qB,qC,qD,qE,qF])
  |(refine bZ (by rfl) (fun hB=> ?_) (fun hB=> ?_)<;>simp only[hB,RN,qA,qB,qC,qD,qE,qF])
 all_goals(first|(simp only[bg, *,Bool.not_true,Bool.not_false,Bool.not_not,Bool.and_true,Bool.true_and,Bool.and_false,Bool.false_and,Bool.or_true,Bool.true_or,Bool.or_false,Bool.false_or,Bool.and_self,Bool.or_self,if_true,if_false,reduceIte,cond_true,cond_false,Bool.false_eq_true];done)|(simp_all[bg];done)|(simp_all[bg];omega))
theorem amY (n:Int):Pure C F.JB [.int .i64 n] (.d (.bool (inR n 0 10000))) []:=by
 refine ah mixed rfl VB ?_
 simp only[JX,J9,RN,qA,qB,qC,qD,qE,qF]
 repeat' first
  |(refine au rfl rfl (agk _ _ _) ?_;try simp only[RN,qA,qB,qC,qD,qE,qF])
  |(refine bJ (by rfl) (fun hB=> ?_) (fun hB=> ?_)<;>simp only[hB,RN,qA,qB,qC,qD,qE,qF])
  |(refine bZ (by rfl) (fun hB=> ?_) (fun hB=> ?_)<;>simp only[hB,RN,qA,qB,qC,qD,qE,qF])
 all_goals(first|(simp only[inR, *,Bool.not_true,Bool.not_false,Bool.not_not,Bool.and_true,Bool.true_and,Bool.and_false,Bool.false_and,Bool.or_true,Bool.true_or,Bool.or_false,Bool.false_or,Bool.and_self,Bool.or_self,if_true,if_false,reduceIte,cond_true,cond_false,Bool.false_eq_true];done)|(simp_all[inR];done)|(simp_all[inR];omega))
theorem amX (f:Fr):Pure C F.zD [f.dv] (.d (.bool f.ok)) []:=by
 refine ah mixed rfl N8 ?_
 simp only[BX,CQ,dH,RN,qA,qB,qC,qD,qE,qF]
 repeat' first
  |(refine au rfl rfl (agk _ _ _) ?_;try simp only[dH,RN,qA,qB,qC,qD,qE,qF])
  |(refine bJ (by rfl) (fun hB=> ?_) (fun hB=> ?_)<;>simp only[hB,dH,RN,qA,qB,qC,qD,qE,qF])
  |(refine bZ (by rfl) (fun hB=> ?_) (fun hB=> ?_)<;>simp only[hB,dH,RN,qA,qB,qC,qD,qE,qF])
 all_goals(first|(simp only[Fr.ok, *,Bool.not_true,Bool.not_false,Bool.not_not,Bool.and_true,Bool.true_and,Bool.and_false,Bool.false_and,Bool.or_true,Bool.true_or,Bool.or_false,Bool.false_or,Bool.and_self,Bool.or_self,if_true,if_false,reduceIte,cond_true,cond_false,Bool.false_eq_true];done)|(simp_all[Fr.ok];done)|(simp_all[Fr.ok];omega))
theorem ab7 (p:Pr):Pure C F.Bz [p.dv] (.d (.bool (!p.ok))) []:=by
 refine ah mixed rfl PI ?_
 simp only[Eh,EG,yC,RN,qA,qB,qC,qD,qE,qF]
 repeat' first
  |(refine au rfl rfl (akR _) ?_;try simp only[yC,RN,qA,qB,qC,qD,qE,qF])
  |(refine bJ (by rfl) (fun hB=> ?_) (fun hB=> ?_)<;>simp only[hB,yC,RN,qA,qB,qC,qD,qE,qF])
  |(refine bZ (by rfl) (fun hB=> ?_) (fun hB=> ?_)<;>simp only[hB,yC,RN,qA,qB,qC,qD,qE,qF])
 all_goals(first|(simp only[Pr.ok, *,Bool.not_true,Bool.not_false,Bool.not_not,Bool.and_true,Bool.true_and,Bool.and_false,Bool.false_and,Bool.or_true,Bool.true_or,Bool.or_false,Bool.false_or,Bool.and_self,Bool.or_self,if_true,if_false,reduceIte,cond_true,cond_false,Bool.false_eq_true];done)|(simp_all[Pr.ok];done)|(simp_all[Pr.ok];omega))
theorem Za (l:List Pr)(hl:l.length≤1000000):Pure C F.zO [.slice false (l.map Pr.dv)] (.d (.bool (uV l))) []:=by
 refine ah mixed rfl TF ?_
 simp only[Hy,Ik,List.length_map,RN,qA,qB,qC,qD,qE,qF]
 repeat' first
  |(refine au rfl rfl (agk _ _ _) ?_;try simp only[List.length_map,RN,qA,qB,qC,qD,qE,qF])
  |(refine au rfl rfl (Yt l _ [] (fun p=> !p.ok) hl (by kernel_rfl) (fun p _=>ab7 p)) ?_;try simp only[List.length_map,RN,qA,qB,qC,qD,qE,qF])
  |(refine bJ (by rfl) (fun hB=> ?_) (fun hB=> ?_)<;>simp only[hB,List.length_map,RN,qA,qB,qC,qD,qE,qF])
  |(refine bZ (by rfl) (fun hB=> ?_) (fun hB=> ?_)<;>simp only[hB,List.length_map,RN,qA,qB,qC,qD,qE,qF])
 all_goals(first|(rw[Iw])|skip)
 all_goals(first|(simp only[uV, *,Bool.not_true,Bool.not_false,Bool.not_not,Bool.and_true,Bool.true_and,Bool.and_false,Bool.false_and,Bool.or_true,Bool.true_or,Bool.or_false,Bool.false_or,Bool.and_self,Bool.or_self,if_true,if_false,reduceIte,cond_true,cond_false,Bool.false_eq_true];done)|(simp_all[uV];done)|(simp_all[uV];omega))
theorem ao1 (a b:Nat):Pure C F.Ua [.int .i64 a, .int .i64 b] (.d (.int .i64 (Nat.gcd a b))) []:=by
 refine ah mixed rfl aaL ?_
 simp only[Q7,Rx,RN,qA,qB,qC,qD,qE,qF]
 refine qR (fun(q:Nat×Nat)=>⟨[(0, .d (.int .i64 q.1)),(1, .d (.int .i64 q.2))],⟨[],[],[]⟩⟩) (fun q=>Nat.gcd q.1 q.2=Nat.gcd a b) (fun q=>q.2) (a,b) rfl rfl (fun q hq=> ?_)
 by_cases hz:q.2=0
 ·have hb:¬((q.2:Int)>0):=by omega
  simp only[hb,RN,qA,qB,qC,qD,qE,qF]
  rw[←hq,hz,Nat.gcd_zero_right]
 ·have hb:((q.2:Int)>0):=by omega
  have hne:((q.2:Int)≠0):=by omega
  have ht:(q.1:Int).tmod (q.2:Int)=((q.1 % q.2:Nat):Int):=(Int.ofNat_tmod q.1 q.2).symm
  simp only[hb,hne,ht,RN,qA,qB,qC,qD,qE,qF]
  exact aa1 (q.2,q.1 % q.2) (Nat.mod_lt _ (by omega)) rfl (by simp only;rw[Nat.gcd_comm,←Nat.gcd_rec,Nat.gcd_comm];exact hq) (by simp) (by simp) rfl rfl
theorem afY {n:Nat}(h:n≤9223372036854775807):IntKind.i64.wrap (n:Int)=n:=aG (by omega)
theorem ahY (a b:Nat)(ha:a≤4611686018427387904)(hb:b≤4611686018427387904)(h0:0<b):Pure C F.GI [.int .i64 a, .int .i64 b] (.d (afl a b).dv) []:=by
 refine ah mixed rfl TI ?_
 have hg:((Nat.gcd a b:Nat):Int)≠0:=by
  have:0<Nat.gcd a b:=Nat.gcd_pos_of_pos_right _ h0
  omega
 have d1:(a:Int).tdiv (Nat.gcd a b:Nat)=((a / Nat.gcd a b:Nat):Int):=(Int.ofNat_tdiv a _).symm
 have d2:(b:Int).tdiv (Nat.gcd a b:Nat)=((b / Nat.gcd a b:Nat):Int):=(Int.ofNat_tdiv b _).symm
 have e1:IntKind.i64.wrap ((a:Int).tdiv (Nat.gcd a b:Nat))=((a / Nat.gcd a b:Nat):Int):=by
  rw[d1];exact afY (Nat.le_trans (Nat.div_le_self _ _) (by omega))
 have e2:IntKind.i64.wrap ((b:Int).tdiv (Nat.gcd a b:Nat))=((b / Nat.gcd a b:Nat):Int):=by
  rw[d2];exact afY (Nat.le_trans (Nat.div_le_self _ _) (by omega))
 simp only[HY,Io,RN,qA,qB,qC,qD,qE,qF]
 refine au rfl rfl (ao1 a b) ?_
 simp only[hg,e1,e2,dH,afl,RN,qA,qB,qC,qD,qE,qF]
theorem Xx:∀(l:List Int) (p:Int) (k:Nat),(∀x∈l,1≤x∧x≤60)→1≤p→p≤60 ^ k→1≤oz l p∧oz l p≤60 ^ (k+l.length)
 | [],p,k,_,h1,h2=>⟨h1,h2⟩
 |x::l,p,k,h,h1,h2=>by
  obtain⟨a,b⟩:=h x (by simp)
  have q1:1≤p*x:=by
   have:=Int.mul_le_mul h1 a (by omega) (by omega)
   omega
  have q2:p*x≤60 ^ (k+1):=by
   rw[Int.pow_succ]
   exact Int.mul_le_mul h2 b (by omega) (Int.le_trans (by omega) h2)
  obtain⟨r1,r2⟩:=Xx l (p*x) (k+1) (fun y hy=>h y (by simp[hy])) q1 q2
  refine⟨r1,?_⟩
  rw[List.length_cons,show k+(l.length+1)=k+1+l.length by omega]
  exact r2
theorem Xz:∀(l:List Int) (p:Int),(∀x∈l,1≤x)→1≤p→p≤oz l p
 | [],p,_,_=>Int.le_refl p
 |x::l,p,h,hp=>by
  have q1:p*1≤p*x:=Int.mul_le_mul_of_nonneg_left (h x (by simp)) (by omega)
  have:=Xz l (p*x) (fun y hy=>h y (by simp[hy])) (by omega)
  simp only[oz];omega
theorem Zp (l:List Int)(hl:l.length≤1000000)(hx:∀x∈l,1≤x)(hb:oz l 1≤9223372036854775807):Pure C F.zQ [.slice false (l.map ay)] (.d (.int .i64 (oz l 1))) []:=by
 refine ah mixed rfl TG ?_
 simp only[Hz,Il,List.length_map,RN,qA,qB,qC,qD,qE,qF]
 refine aT l.length (fun i (p:Int)=>⟨[(3, .d (.int .i64 p)),(6, .d (.slice false (l.map ay))),(7, .d (.int .i64 l.length)),(8, .d (.int .i64 i))],⟨[],[],[]⟩⟩)
  (fun i p=>1≤p∧oz l 1=oz (l.drop i) p) 0 1 (Nat.zero_le _) rfl ⟨by omega,rfl⟩ (fun i p h1 hix=> ?_) (fun p hix=> ?_)
 ·obtain⟨h2,h3,h6⟩:=rng h1 hl
  obtain⟨hp,hix⟩:=hix
  rw[drop_cons h1,oz]at hix
  have hx1:=hx _ (getD_mem h1)
  have q1:1≤p*l.getD i default:=by
   have:=Int.mul_le_mul hp hx1 (by omega) (by omega)
   omega
  have q2:=Xz (l.drop (i+1)) (p*l.getD i default) (fun y hy=>hx y (List.mem_of_mem_drop hy)) q1
  have e1:IntKind.i64.wrap (p*l.getD i default)=p*l.getD i default:=aG (by omega)
  simp only[h2,h3,h1,h6,aV,getD_map,Int.toNat_natCast,List.length_map,e1,RN,qA,qB,qC,qD,qE,qF]
  exact nR (p*l.getD i default) h1 rfl ⟨q1,hix⟩ (by simp) (by simp) rfl rfl
 ·obtain⟨hp,hix⟩:=hix
  rw[List.drop_length,oz]at hix
  simp only[Int.lt_irrefl,hix,RN,qA,qB,qC,qD,qE,qF]
theorem Gz {l:List Pr}(h:uV l=true):1≤l.length∧l.length≤3∧∀p∈l,(4≤p.a∧p.a≤60)∧4≤p.b∧p.b≤60:=by
 simp only[uV,inR,Bool.and_eq_true,decide_eq_true_eq,List.all_eq_true,ge_iff_le,Pr.ok,bg]at h
 exact⟨by omega,by omega,h.2⟩
theorem ady {l:List Pr}(hl:l.length≤3)(h:∀p∈l,(4≤p.a∧p.a≤60)∧4≤p.b∧p.b≤60):(1≤oz (l.map (·.a)) 1∧oz (l.map (·.a)) 1≤216000)∧1≤oz (l.map (·.b)) 1∧oz (l.map (·.b)) 1≤216000:=by
 have pw:∀k:Nat,k≤3→(60:Int) ^ k≤216000:=by
  intro k hk
  match k,hk with
  |0,_=>decide
  |1,_=>decide
  |2,_=>decide
  |3,_=>decide
 constructor
 ·obtain⟨a,b⟩:=Xx (l.map (·.a)) 1 0 (fun x hx=>by obtain⟨p,hp,rfl⟩:=List.mem_map.1 hx;have:=h p hp;omega) (by omega) (by decide)
  exact⟨a,Int.le_trans b (pw _ (by simpa using hl))⟩
 ·obtain⟨a,b⟩:=Xx (l.map (·.b)) 1 0 (fun x hx=>by obtain⟨p,hp,rfl⟩:=List.mem_map.1 hx;have:=h p hp;omega) (by omega) (by decide)
  exact⟨a,Int.le_trans b (pw _ (by simpa using hl))⟩
theorem amu (a b:Nat)(h:0<b):(0≤(afl a b).n∧(afl a b).n≤a)∧1≤(afl a b).d∧(afl a b).d≤b:=by
 have h1:=Nat.div_le_self a (Nat.gcd a b)
 have h2:=Nat.div_le_self b (Nat.gcd a b)
 have h3:0<b / Nat.gcd a b:=Nat.div_pos (Nat.le_of_dvd h (Nat.gcd_dvd_right a b)) (Nat.gcd_pos_of_pos_right _ h)
 exact⟨⟨Int.natCast_nonneg _,Int.ofNat_le.2 h1⟩,Int.ofNat_le.2 h3,Int.ofNat_le.2 h2⟩
theorem ZL {l:List Pr}(hl:l.length≤3)(h:∀p∈l,(4≤p.a∧p.a≤60)∧4≤p.b∧p.b≤60):(0≤(nP l).n∧(nP l).n≤216000)∧1≤(nP l).d∧(nP l).d≤216000:=by
 obtain⟨⟨a1,a2⟩,b1,b2⟩:=ady hl h
 have:=amu (oz (l.map (·.a)) 1).natAbs (oz (l.map (·.b)) 1).natAbs (by omega)
 simp only[nP];omega
theorem agn (l:List Pr)(hl:l.length≤3)(h:∀p∈l,(4≤p.a∧p.a≤60)∧4≤p.b∧p.b≤60):Pure C F.FU [.slice false (l.map Pr.dv)] (.d (nP l).dv) []:=by
 obtain⟨⟨a1,a2⟩,b1,b2⟩:=ady hl h
 have hpa:=Zp (l.map (·.a)) (by simp;omega) (fun x hx=>by obtain⟨p,hp,rfl⟩:=List.mem_map.1 hx;have:=h p hp;omega) (by omega)
 have hpb:=Zp (l.map (·.b)) (by simp;omega) (fun x hx=>by obtain⟨p,hp,rfl⟩:=List.mem_map.1 hx;have:=h p hp;omega) (by omega)
 obtain⟨na,hna⟩:∃n:Nat,oz (l.map (·.a)) 1=n:=⟨(oz (l.map (·.a)) 1).toNat,by omega⟩
 obtain⟨nb,hnb⟩:∃n:Nat,oz (l.map (·.b)) 1=n:=⟨(oz (l.map (·.b)) 1).toNat,by omega⟩
 refine ah mixed rfl Xo ?_
 simp only[LW,MI,List.length_map,RN,qA,qB,qC,qD,qE,qF]
 refine aT l.length (fun i (v:Nat)=>⟨[(2, .ptr 0 0),(3, .tsl 0 v 0),(4, .tsl 1 v 0),(7, .d (.slice false (l.map Pr.dv))),(8, .d (.int .i64 l.length)),(9, .d (.int .i64 i))],
   ⟨[some [.d (.int .i64 0), .d (.int .i64 0)]],[],[some ⟨1,((l.take i).map (·.a)).map ay,v,0⟩,some ⟨1,((l.take i).map (·.b)).map ay,v,0⟩]⟩⟩)
  (fun i v=>True) 0 0 (Nat.zero_le _) rfl trivial (fun i v h1 _=> ?_) (fun v _=> ?_)
 ·obtain⟨h2,h3,h6⟩:=rng h1 (by omega)
  have hlen:(l.take i).length≤1073741823:=by simp;omega
  simp only[h2,h3,h1,h6,yC,getD_map,Int.toNat_natCast,List.length_map,jZ,fits_int,forall_eq,DV.strip,jX,RN,qA,qB,qC,qD,qE,qF]
  refine⟨by simp,hlen,by simp,hlen,?_⟩
  refine jR 1 2 (v+1) h1 ?_ trivial (by simp) (by simp) rfl rfl
  rw[dQ h1]
  simp[ay]
 ·rw[List.take_length]
  simp only[Int.lt_irrefl,RN,qA,qB,qC,qD,qE,qF]
  refine VE rfl hpa rfl ?_
  refine VE rfl hpb rfl ?_
  simp only[hna,hnb,RN,qA,qB,qC,qD,qE,qF]
  refine au rfl rfl (ahY na nb (by omega) (by omega) (by omega)) ?_
  have e1:(oz (l.map (·.a)) 1).natAbs=na:=by omega
  have e2:(oz (l.map (·.b)) 1).natAbs=nb:=by omega
  simp only[nP,e1,e2,dH,RN,qA,qB,qC,qD,qE,qF]
theorem aiU {a b:Fr}(h1:0≤a.n∧a.n≤216000)(h2:1≤a.d∧a.d≤216000)(h3:b.ok=true):(0≤b.n∧b.n≤50000)∧(1≤b.d∧b.d≤50000)∧(0≤a.n*b.d∧a.n*b.d≤10800000000)∧0≤b.n*a.d∧b.n*a.d≤10800000000:=by
 simp only[Fr.ok,inR,Bool.and_eq_true,decide_eq_true_eq,ge_iff_le]at h3
 obtain⟨⟨q1,q2⟩,q3,q4⟩:=h3
 have e1:=Int.mul_le_mul h1.2 q4 (by omega) (by omega)
 have e2:=Int.mul_nonneg h1.1 (show 0≤b.d by omega)
 have e3:=Int.mul_le_mul q2 h2.2 (by omega) (by omega)
 have e4:=Int.mul_nonneg q1 (show 0≤a.d by omega)
 omega
theorem ag4 (a b:Fr)(h1:0≤a.n*b.d∧a.n*b.d≤4000000000000000000)(h2:0≤b.n*a.d∧b.n*a.d≤4000000000000000000):Pure C F.GH [a.dv,b.dv] (.d (.int .i64 (aee a b))) []:=by
 have e1:IntKind.i64.wrap (a.n*b.d)=a.n*b.d:=aG (by omega)
 have e2:IntKind.i64.wrap (b.n*a.d)=b.n*a.d:=aG (by omega)
 have e3:IntKind.i64.wrap (a.n*b.d - b.n*a.d)=a.n*b.d - b.n*a.d:=aG (by omega)
 refine ah mixed rfl TB ?_
 simp only[Hu,Ii,dH,e1,e2,e3,aee,RN,qA,qB,qC,qD,qE,qF]
theorem ain (l:List Pr)(f:Fr)(hl:l.length≤3)(h:∀p∈l,(4≤p.a∧p.a≤60)∧4≤p.b∧p.b≤60)(hf:f.ok=true):Pure C F.GK [.slice false (l.map Pr.dv),f.dv] (.d (oW l f).dv) []:=by
 obtain⟨t1,t2⟩:=ZL hl h
 obtain⟨f1,f2,c1,c2⟩:=aiU t1 t2 hf
 have ht:=agn l hl h
 have hc:=ag4 (nP l) f (by omega) (by omega)
 have e1:IntKind.i64.wrap (aee (nP l) f*21600)=aee (nP l) f*21600:=aG (by simp only[aee];omega)
 have c3:=Int.mul_le_mul t2.2 f2.2 (by omega) (by omega)
 have c4:=Int.mul_nonneg (show 0≤(nP l).d by omega) (show 0≤f.d by omega)
 have e2:IntKind.i64.wrap ((nP l).d*f.d)=(nP l).d*f.d:=aG (by omega)
 refine ah mixed rfl TJ ?_
 simp only[dH]at ht hc⊢
 simp only[H6,Ip,RN,qA,qB,qC,qD,qE,qF]
 refine au rfl rfl ht ?_
 (try simp only[RN,qA,qB,qC,qD,qE,qF])
 refine au rfl rfl hc ?_
 simp only[e1,e2,oW,RN,qA,qB,qC,qD,qE,qF]
theorem aio {l:List Pr}{f:Fr}(hl:l.length≤3)(h:∀p∈l,(4≤p.a∧p.a≤60)∧4≤p.b∧p.b≤60)(hf:f.ok=true):((oW l f).n.natAbs≤233280000000000)∧1≤(oW l f).d∧(oW l f).d≤10800000000:=by
 obtain⟨t1,t2⟩:=ZL hl h
 obtain⟨f1,f2,c1,c2⟩:=aiU t1 t2 hf
 have c3:=Int.mul_le_mul t2.2 f2.2 (by omega) (by omega)
 have c4:=Int.mul_le_mul t2.1 f2.1 (by omega) (by omega)
 simp only[oW,aee];omega
theorem ao9 (l:List Pr)(f:Fr)(turns:Int)(hl:l.length≤1000000):Pure C F.TY [.slice false (l.map Pr.dv),f.dv, .int .i64 turns] (.d (.tup [.int .i64 (ahK l f turns).1, .int .i64 (ahK l f turns).2])) []:=by
 refine ah mixed rfl aaK ?_
 have hfr:=amX f
 simp only[dH]at hfr⊢
 simp only[Q5,Rw,RN,qA,qB,qC,qD,qE,qF]
 repeat' first
  |(refine au rfl rfl (Za l hl) ?_;try simp only[RN,qA,qB,qC,qD,qE,qF])
  |(refine au rfl rfl (hfr) ?_;try simp only[RN,qA,qB,qC,qD,qE,qF])
  |(refine au rfl rfl (amY turns) ?_;try simp only[RN,qA,qB,qC,qD,qE,qF])
  |(refine bJ (by rfl) (fun hB=> ?_) (fun hB=> ?_)<;>simp only[hB,RN,qA,qB,qC,qD,qE,qF])
  |(refine bZ (by rfl) (fun hB=> ?_) (fun hB=> ?_)<;>simp only[hB,RN,qA,qB,qC,qD,qE,qF])
 any_goals (simp_all[ahK];done)
 have h1:uV l=true:=by simp_all
 have h2:f.ok=true:=by simp_all
 have h3:inR turns 0 10000=true:=by simp_all
 obtain⟨_,q1,q2⟩:=Gz h1
 obtain⟨w1,w2⟩:=aio q1 q2 h2
 have hw:=ain l f q1 q2 h2
 simp only[dH]at hw
 have b1:((oW l f).n*turns).natAbs≤2332800000000000000:=by
  rw[Int.natAbs_mul]
  have:turns.natAbs≤10000:=by simp only[inR,Bool.and_eq_true,decide_eq_true_eq]at h3;omega
  exact Nat.mul_le_mul w1 this
 have e1:IntKind.i64.wrap ((oW l f).n*turns)=(oW l f).n*turns:=aG (by omega)
 have b2:=NI ((oW l f).n*turns) (oW l f).d
 have e2:IntKind.i64.wrap (((oW l f).n*turns).tdiv (oW l f).d)=((oW l f).n*turns).tdiv (oW l f).d:=aG (by omega)
 have n1:(oW l f).d≠0:=by omega
 refine au rfl rfl hw ?_
 simp only[e1,e2,n1,RN,qA,qB,qC,qD,qE,qF]
 simp only[ahK,h1,h2,h3,Bool.and_self,if_true,ap4]
def Qc (l:List Pr):Fr×Bool×Int:=if uV l then(nP l,(l.length:Int).tmod 2==0,0)else(⟨0,0⟩,false,2)
theorem ak8 (l:List Pr)(hl:l.length≤1000000):Pure C F.MP [.slice false (l.map Pr.dv)] (.d (.tup [(Qc l).1.dv, .bool (Qc l).2.1, .int .i64 (Qc l).2.2])) []:=by
 refine ah mixed rfl Xn ?_
 simp only[LV,MH,RN,qA,qB,qC,qD,qE,qF]
 refine au rfl rfl (Za l hl) ?_
 cases h1:uV l
 ·(try simp only[RN,qA,qB,qC,qD,qE,qF])
  simp[Qc,h1,dH]
 ·obtain⟨_,q1,q2⟩:=Gz h1
  have ht:=agn l q1 q2
  simp only[dH]at ht
  (try simp only[RN,qA,qB,qC,qD,qE,qF])
  refine au rfl rfl ht ?_
  simp only[List.length_map,RN,qA,qB,qC,qD,qE,qF]
  simp[Qc,h1,dH]
def Oy:aB:=(.seq (.region false [oa 1 (.box 0) 0,on 2 (.jV 2) [.c (.slice true [])],on 3 (.jV 1) [.c (.slice true [])],mk 4 (kI 0)] 1 [1] [1]) (.seq (.seq (rg [oa 11 (.load true 2) 1,oa 12 (.ak F.jP) 11,oa 13 (.un .not) 12] 0 [1,13]) (.cond (.t 13) (.seq (rg [on 2 (.jV 2) [.c (.slice true [])],on 3 (.jV 1) [.c (.slice true [])],mk 4 (kI 2)] 0 [2,3,4]) .ret) .skip)) (.seq (rg [on 14 (.build [.int .i64 0,.int .i64 0] [(0,1),(1,1)]) [kI 1,kI 1],oa 15 (.qc 2 [.agg [.int .i64 0,.int .i64 0]] [0]) 14,on 16 (.qc 1 [.bool false] [0]) [.c (.bool true)],mv 5 15,mv 6 16] 0 [1,5,6]) (.seq (.seq (rg [oa 17 (.fld 0) 1,lo 18 17,oa 19 .len 18,mk 20 (kI 0)] 0 [1,5,6,19,20]) (.block 0 (.loop (.seq (rg [ob 21 (.bin .lss) 20 19] 0 [1,5,6,19,20,21]) (.seq (.cond (.t 21) .skip (.exit 0)) (.seq (.block 1 (.seq (rg [mv 22 20,mv 7 22] 0 [1,5,6,7,19,20]) (.seq (.region false [oa 24 (.load true 2) 1,mv 25 7,oc 26 (.bin .add) 25 (kI 1),ob 27 (.ak F.qU) 24 26,oa 28 (.ak F.MP) 27,mv 23 28,oa 29 (.ext 0) 23,oa 30 (.ext 1) 23,oa 31 (.ext 2) 23,on 8 (.alloc 0 [.int .i64 0,.int .i64 0]) [],os (.store 2) [.t 8,.t 29] 0,mv 9 30,mv 10 31] 1 [1,5,6,8,9,19,20] [8]) (rg [mv 32 5,oa 33 (.load true 2) 8,oa 34 (.iH 2 [.agg [.int .i64 0,.int .i64 0]] [0]) 33,ob 35 (.app 2 false) 32 34,mv 36 6,mv 37 9,oa 38 (.iH 1 [.bool false] [0]) 37,ob 39 (.app 1 false) 36 38,mv 5 35,mv 6 39] 0 [1,5,6,19,20])))) (rg [oc 40 (.bin .add) 20 (kI 1),mv 20 40] 0 [1,5,6,19,20]))))))) (.seq (rg [mv 41 5,mv 42 6,mv 2 41,mv 3 42,mk 4 (kI 0)] 0 [2,3,4]) .ret)))))
def OL:List aJ:=[.tmp 2, .tmp 3, .tmp 4]
theorem YF:aC C.P F.P6 1 Oy OL=true:=by kernel_rfl
def OA:aB:=(.seq (.region false [oa 4 (.box 0) 0,oa 6 (.box 1) 2,mk 8 (kI 0),mk 9 (kI 0)] 2 [1,3,4,6] [4,6]) (.seq (.seq (rg [oa 10 (.load true 2) 4,oa 11 (.ak F.jP) 10,oa 12 (.un .not) 11,mv 13 12,oF 14 .mov [.t 1] 13 0,oF 15 (.fld 1) [.t 4] 13 0,oF 16 (.load false 1) [.t 15] 13 0,oF 17 .len [.t 16] 13 0,oF 18 (.bin .sub) [.t 17,kI 1] 13 0,oF 19 (.ak F.jO) [.t 14,kI 0,.t 18] 13 0,oF 20 (.un .not) [.t 19] 13 0,on 21 .pick [.t 13,.c (.bool true),.t 20]] 0 [1,3,4,6,21]) (.cond (.t 21) (.seq (rg [mk 8 (kI 0),mk 9 (kI 2)] 0 [8,9]) .ret) .skip)) (.seq (.region true [of 22 (.load true 2) [.t 4] 1,of 23 (.fld 1) [.t 4] 1,of 24 (.load false 1) [.t 23] 1,mv 25 1,of 26 (.bC 1) [.t 24,.t 25] 1,of 27 (.load false 1) [.t 26] 1,ob 28 (.ak F.qU) 22 27,of 29 (.load true 2) [.t 6] 1,mv 30 3,on 31 (.ak F.TY) [.t 28,.t 29,.t 30],oa 32 (.ext 0) 31,oa 33 (.ext 1) 31,mv 8 32,mv 9 33] 0 [8,9] []) .ret)))
def OO:List aJ:=[.tmp 8, .tmp 9]
theorem YH:aC C.P F.Jv 4 OA OO=true:=by kernel_rfl
def Oz:aB:=(.seq (.region false [oa 2 (.box 0) 0,mk 4 (.c (.slice true [])),mk 5 (kI 0)] 1 [1,2] [2]) (.seq (.seq (rg [oa 6 (.load true 2) 2,oa 7 (.ak F.jP) 6,oa 8 (.un .not) 7,mv 9 8,oF 10 .mov [.t 1] 9 0,oF 11 (.fld 0) [.t 2] 9 0,oF 12 (.load false 1) [.t 11] 9 0,oF 13 .len [.t 12] 9 0,oF 14 (.ak F.jO) [.t 10,kI 1,.t 13] 9 0,oF 15 (.un .not) [.t 14] 9 0,on 16 .pick [.t 9,.c (.bool true),.t 15]] 0 [1,2,16]) (.cond (.t 16) (.seq (rg [mk 4 (.c (.slice true [])),mk 5 (kI 2)] 0 [4,5]) .ret) .skip)) (.seq (rg [oa 17 (.load true 2) 2,mv 18 1,ob 19 (.ak F.qU) 17 18,mv 4 19,mk 5 (kI 0)] 0 [4,5]) .ret)))
def OM:List aJ:=[.tmp 4, .tmp 5]
theorem YG:aC C.P F.P7 2 Oz OM=true:=by kernel_rfl
def QX:aB:=(.seq (.region false [oa 1 (.box 0) 0,mk 2 (kI 0),mk 3 (kI 0),mk 4 (kI 0)] 1 [1] [1]) (.seq (.seq (rg [oa 10 (.fld 0) 1,lo 11 10,oa 12 (.ak F.Gx) 11,oa 13 (.un .not) 12,mv 14 13,oF 15 (.fld 1) [.t 1] 14 0,oF 16 (.load false 1) [.t 15] 14 0,oF 17 (.ak F.jO) [.t 16,kI 0,kI 1000] 14 0,oF 18 (.un .not) [.t 17] 14 0,on 19 .pick [.t 14,.c (.bool true),.t 18],mv 20 19,oF 21 (.fld 2) [.t 1] 20 0,oF 22 (.load false 1) [.t 21] 20 0,oF 23 (.ak F.jO) [.t 22,kI 0,kI 40] 20 0,oF 24 (.un .not) [.t 23] 20 0,on 25 .pick [.t 20,.c (.bool true),.t 24],mv 26 25,oF 27 (.fld 3) [.t 1] 26 0,oF 28 (.load false 1) [.t 27] 26 0,oF 29 (.ak F.jO) [.t 28,kI 0,kI 100] 26 0,oF 30 (.un .not) [.t 29] 26 0,on 31 .pick [.t 26,.c (.bool true),.t 30],mv 32 31,oF 33 (.fld 4) [.t 1] 32 0,oF 34 (.load false 1) [.t 33] 32 0,oF 35 (.ak F.jO) [.t 34,kI 0,kI 100] 32 0,oF 36 (.un .not) [.t 35] 32 0,on 37 .pick [.t 32,.c (.bool true),.t 36],mv 38 37,oF 39 (.fld 5) [.t 1] 38 0,oF 40 (.load false 1) [.t 39] 38 0,oF 41 (.ak F.jO) [.t 40,kI 0,kI 1000000] 38 0,oF 42 (.un .not) [.t 41] 38 0,on 43 .pick [.t 38,.c (.bool true),.t 42]] 0 [1,43]) (.cond (.t 43) (.seq (rg [mk 2 (kI 0),mk 3 (kI 0),mk 4 (kI 2)] 0 [2,3,4]) .ret) .skip)) (.seq (rg [on 5 (.jV 1) [.c (.slice true [])]] 0 [1,5]) (.seq (.seq (rg [oa 44 (.fld 0) 1,lo 45 44,oa 46 .len 45,mk 47 (kI 0)] 0 [1,5,45,46,47]) (.block 0 (.loop (.seq (rg [ob 48 (.bin .lss) 47 46] 0 [1,5,45,46,47,48]) (.seq (.cond (.t 48) .skip (.exit 0)) (.seq (.block 1 (.seq (rg [ob 49 (.bC 1) 45 47,lo 50 49,mv 7 50] 0 [1,5,7,45,46,47]) (rg [mv 51 5,mv 52 7,mv 53 7,ob 54 (.bin .mul) 52 53,oa 55 (.iH 1 [.int .i64 0] [0]) 54,ob 56 (.app 1 false) 51 55,mv 5 56] 0 [1,5,45,46,47]))) (rg [oc 57 (.bin .add) 47 (kI 1),mv 47 57] 0 [1,5,45,46,47]))))))) (.seq (.region true [mv 58 5,oa 59 (.iZ F.Yb) 58,of 60 (.fld 1) [.t 1] 1,of 61 (.load false 1) [.t 60] 1,ob 62 (.bin .mul) 59 61,oc 63 (.ak F.VN) 62 (kI 100),of 64 (.fld 2) [.t 1] 1,of 65 (.load false 1) [.t 64] 1,of 66 (.fld 3) [.t 1] 1,of 67 (.load false 1) [.t 66] 1,ob 68 (.bin .mul) 65 67,ob 69 (.bin .add) 63 68,mv 8 69] 0 [1,8] []) (.seq (rg [mv 70 8,mv 71 8,oa 72 (.fld 4) 1,lo 73 72,ob 74 (.bin .mul) 71 73,oc 75 (.ak F.VN) 74 (kI 100),ob 76 (.bin .add) 70 75,mv 9 76] 0 [1,9]) (.seq (.region true [mv 77 9,mv 78 9,of 79 (.fld 5) [.t 1] 1,of 80 (.load false 1) [.t 79] 1,ob 81 (.bin .sub) 78 80,mv 2 77,mv 3 81,mk 4 (kI 0)] 0 [2,3,4] []) .ret)))))))
def Rq:List aJ:=[.tmp 2, .tmp 3, .tmp 4]
theorem aaH:aC C.P F.Ny 1 QX Rq=true:=by kernel_rfl
def JR:aB:=(.seq (.region false [oa 1 (.box 0) 0,mk 2 (.c (.bool false))] 1 [1] [1]) (.seq (.seq (rg [oa 5 (.fld 0) 1,lo 6 5,oa 7 .len 6,on 8 (.ak F.jO) [.t 7,kI 1,kI 5],oa 9 (.un .not) 8,mv 10 9,oF 11 (.fld 1) [.t 1] 10 0,oF 12 (.load false 1) [.t 11] 10 0,oF 13 .len [.t 12] 10 0,oF 14 (.ak F.jO) [.t 13,kI 1,kI 4] 10 0,oF 15 (.un .not) [.t 14] 10 0,on 16 .pick [.t 10,.c (.bool true),.t 15]] 0 [1,16]) (.cond (.t 16) (.seq (rg [mk 2 (.c (.bool false))] 0 [2]) .ret) .skip)) (.seq (.seq (rg [oa 17 (.fld 0) 1,lo 18 17,oa 19 .len 18,mk 20 (kI 0)] 0 [1,18,19,20]) (.block 0 (.loop (.seq (rg [ob 21 (.bin .lss) 20 19] 0 [1,18,19,20,21]) (.seq (.cond (.t 21) .skip (.exit 0)) (.seq (.block 1 (.seq (.region false [mv 22 20,ob 23 (.bC 3) 18 20,oa 24 (.load true 3) 23,on 4 (.alloc 0 [.int .i64 0,.int .i64 0,.int .i64 0]) [],mv 3 22,os (.store 3) [.t 4,.t 24] 0] 1 [1,3,4,18,19,20] [4]) (.seq (.region true [of 25 (.fld 0) [.t 4] 1,of 26 (.load false 1) [.t 25] 1,mv 27 3,on 28 (.ak F.jO) [.t 26,kI 0,.t 27],oa 29 (.un .not) 28,mv 30 29,oF 31 (.fld 1) [.t 4] 30 1,oF 32 (.load true 2) [.t 31] 30 1,oF 33 (.ak F.AU) [.t 32] 30 0,oF 34 (.un .not) [.t 33] 30 0,on 35 .pick [.t 30,.c (.bool true),.t 34],mv 36 35,oF 37 (.fld 0) [.t 1] 36 1,oF 38 (.load false 1) [.t 37] 36 1,oF 39 .mov [.t 3] 36 0,oF 40 (.RU 3 false true false) [.t 38,.t 39] 36 1,oF 41 (.fld 0) [.t 4] 36 1,oF 42 (.load false 1) [.t 41] 36 1,oF 43 (.ak F.Ya) [.t 40,.t 42] 36 0,oF 44 (.bin .geq) [.t 43,kI 3] 36 0,on 45 .pick [.t 36,.c (.bool true),.t 44]] 0 [1,18,19,20,45] []) (.cond (.t 45) (.seq (rg [mk 2 (.c (.bool false))] 0 [2]) .ret) .skip)))) (rg [oc 46 (.bin .add) 20 (kI 1),mv 20 46] 0 [1,18,19,20]))))))) (.seq (rg [oa 47 (.fld 1) 1,lo 48 47,oa 49 (.mkF (.func F.yh) 0) 1,ob 50 (.ak F.dY) 48 49,oa 51 (.un .not) 50,mv 2 51] 0 [2]) .ret))))
def J5:List aJ:=[.tmp 2]
theorem Vx:aC C.P F.jP 1 JR J5=true:=by kernel_rfl
def JW:aB:=(.seq (.region false [oa 2 (.box 0) 0,mk 4 (.c (.slice true []))] 1 [1,2,4] [2]) (.seq (rg [on 5 (.alloc 0 [.slice true []]) []] 1 [1,2,4,5]) (.seq (.seq (rg [oa 7 (.fld 0) 2,lo 8 7,mv 9 1,ob 10 (.ak F.Nz) 8 9] 0 [2,4,5,10]) (.block 0 (.xB (.t 10) [11] [2,5] (rg [mv 6 11] 0 [2,5,6]) (.block 1 (.region true [of 12 (.load false 1) [.t 5] 2,of 13 (.fld 0) [.t 2] 1,of 14 (.load false 1) [.t 13] 1,mv 15 6,of 16 (.bC 3) [.t 14,.t 15] 1,of 17 (.fld 1) [.t 16] 1,of 18 (.load true 2) [.t 17] 1,of 19 (.iH 2 [.agg [.int .i64 0,.int .i64 0]] [0]) [.t 18] 1,ob 20 (.app 2 true) 12 19,os (.store 1) [.t 5,.t 20] 0] 0 [] []))))) (.seq (rg [lo 21 5,mv 4 21] 0 [4]) .ret))))
def J8:List aJ:=[.tmp 4]
theorem VA:aC C.P F.qU 2 JW J8=true:=by kernel_rfl
def Xv:aB:=(.seq (rg [mk 6 (.c (.bool false))] 0 [0,1,2]) (.seq (rg [mv 7 0,mv 8 1,ob 9 (.bin .geq) 7 8,mv 10 9,ot 11 .mov [.t 0] 10 0,ot 12 .mov [.t 2] 10 0,ot 13 (.bin .leq) [.t 11,.t 12] 10 0,on 14 .pick [.t 10,.t 13,.c (.bool false)],mv 6 14] 0 [6]) .ret))
def XR:List aJ:=[.tmp 6]
theorem ae8:aC C.P F.jO 3 Xv XR=true:=by kernel_rfl
def Hr:aB:=(.seq (rg [mk 2 (.c (.bool false))] 0 [0]) (.seq (rg [mv 3 0,oa 4 .len 3,oc 5 (.bin .leq) 4 (kI 8),mv 6 5,ot 7 .mov [.t 0] 6 0,ot 8 (.ak F.dY) [.t 7,.c (.func (.func F.Bj) [] [])] 6 0,ot 9 (.un .not) [.t 8] 6 0,on 10 .pick [.t 6,.t 9,.c (.bool false)],mv 2 10] 0 [2]) .ret))
def Ig:List aJ:=[.tmp 2]
theorem Tv:aC C.P F.Gx 1 Hr Ig=true:=by kernel_rfl
def Xw:aB:=(.seq (rg [mk 4 (kI 0)] 0 [0,1]) (.seq (rg [mv 5 0,mv 6 1,ob 7 (.bin .add) 5 6,oc 8 (.bin .sub) 7 (kI 1),mv 9 1,ob 10 (.bin .quo) 8 9,mv 4 10] 0 [4]) .ret))
def XT:List aJ:=[.tmp 4]
theorem ae9:aC C.P F.VN 2 Xw XT=true:=by kernel_rfl
def UU:aB:=(.seq (rg [mk 2 (kI 0)] 0 [0]) (.seq (rg [mk 3 (kI 0)] 0 [0,3]) (.seq (.seq (rg [mv 6 0,oa 7 .len 6,mk 8 (kI 0)] 0 [3,6,7,8]) (.block 0 (.loop (.seq (rg [ob 9 (.bin .lss) 8 7] 0 [3,6,7,8,9]) (.seq (.cond (.t 9) .skip (.exit 0)) (.seq (.block 1 (.seq (rg [ob 10 (.bC 1) 6 8,lo 11 10,mv 5 11] 0 [3,5,6,7,8]) (rg [mv 12 3,mv 13 5,ob 14 (.bin .add) 12 13,mv 3 14] 0 [3,6,7,8]))) (rg [oc 15 (.bin .add) 8 (kI 1),mv 8 15] 0 [3,6,7,8]))))))) (.seq (rg [mv 16 3,mv 2 16] 0 [2]) .ret))))
def Vg:List aJ:=[.tmp 2]
theorem acM:aC C.P F.Yb 1 UU Vg=true:=by kernel_rfl
def JO:aB:=(.seq (.region false [oa 5 (.box 0) 0,oa 6 (.box 1) 1,oa 7 (.box 2) 2,oa 8 (.box 3) 3,oa 9 (.box 4) 4,mk 10 (.c (.slice true [])),mk 11 (kI 0)] 5 [5,6,7,8,9] [5,6,7,8,9]) (.seq (.seq (rg [oa 18 (.load true 2) 5,oa 19 (.ak F.jP) 18,oa 20 (.un .not) 19,mv 21 20,oF 22 (.load false 1) [.t 6] 21 0,oF 23 (.load false 1) [.t 7] 21 0,oF 24 (.ak F.Jw) [.t 22,.t 23] 21 0,oF 25 (.un .not) [.t 24] 21 0,on 26 .pick [.t 21,.c (.bool true),.t 25],mv 27 26,oF 28 (.load false 1) [.t 7] 27 0,oF 29 (.load false 1) [.t 6] 27 0,oF 30 (.bin .sub) [.t 28,.t 29] 27 0,oF 31 (.bin .gtr) [.t 30,kI 10] 27 0,on 32 .pick [.t 27,.c (.bool true),.t 31],mv 33 32,oF 34 (.load false 1) [.t 8] 33 0,oF 35 (.fld 1) [.t 5] 33 0,oF 36 (.load false 1) [.t 35] 33 0,oF 37 .len [.t 36] 33 0,oF 38 (.bin .sub) [.t 37,kI 1] 33 0,oF 39 (.ak F.jO) [.t 34,kI 0,.t 38] 33 0,oF 40 (.un .not) [.t 39] 33 0,on 41 .pick [.t 33,.c (.bool true),.t 40],mv 42 41,oF 43 (.load true 2) [.t 9] 42 0,oF 44 (.ak F.Bl) [.t 43] 42 0,oF 45 (.un .not) [.t 44] 42 0,on 46 .pick [.t 42,.c (.bool true),.t 45]] 0 [5,6,7,8,9,46]) (.cond (.t 46) (.seq (rg [mk 10 (.c (.slice true [])),mk 11 (kI 2)] 0 [10,11]) .ret) .skip)) (.seq (.region true [of 47 (.load true 2) [.t 5] 1,oa 48 (.ak F.wE) 47,of 49 (.fld 0) [.t 9] 1,of 50 (.load false 1) [.t 49] 1,of 51 (.fld 1) [.t 9] 1,of 52 (.load false 1) [.t 51] 1,ob 53 (.build [.int .i64 0,.int .i64 0] [(0,1),(1,1)]) 50 52,on 12 (.alloc 0 [.slice true [],.slice true [],.slice true []]) [],on 13 (.alloc 1 [.int .i64 0,.int .i64 0]) [],os (.store 3) [.t 12,.t 48] 4,os (.store 2) [.t 13,.t 53] 5] 2 [5,6,7,8,12,13] [12,13]) (.seq (rg [on 14 (.alloc 0 [.nilFunc]) []] 1 [5,6,7,8,12,13,14]) (.seq (rg [on 54 (.mkF (.func F.yc) 0) [.t 12,.t 8,.t 13,.t 5,.t 6,.t 7,.t 14],os (.store 1) [.t 14,.t 54] 0] 0 [5,14]) (.seq (.seq (rg [mk 55 (kI 0)] 0 [5,14,55]) (.block 0 (.loop (.seq (rg [oc 56 (.bin .lss) 55 (kI 3)] 0 [5,14,55,56]) (.seq (.cond (.t 56) .skip (.exit 0)) (.seq (.block 1 (.seq (rg [mv 57 55,mv 15 57] 0 [5,14,15,55]) (.seq (rg [lo 59 14,oa 60 (.load true 2) 5,mv 61 15,on 62 .je [.t 59,.t 60,kI 0,.t 61],mv 58 62,oa 63 (.ext 0) 58,oa 64 (.ext 1) 58,mv 16 63,mv 17 64] 0 [5,14,16,17,55]) (.seq (rg [mv 65 17] 0 [5,14,16,55,65]) (.cond (.t 65) (.seq (rg [mv 66 16,mv 10 66,mk 11 (kI 0)] 0 [10,11]) .ret) .skip))))) (rg [oc 67 (.bin .add) 55 (kI 1),mv 55 67] 0 [5,14,55]))))))) (.seq (rg [mk 10 (.c (.slice true [])),mk 11 (kI 5)] 0 [10,11]) .ret)))))))
def J3:List aJ:=[.tmp 10, .tmp 11]
theorem Vu:aC C.P F.Ju 5 JO J3=true:=by kernel_rfl
end Go.Tel
