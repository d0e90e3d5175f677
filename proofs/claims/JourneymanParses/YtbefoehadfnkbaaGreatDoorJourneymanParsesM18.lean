/-
  Part 18 of the proof of a law of desks: an abstract machine over the model, contracts of functions, plain laws.
  Conditions: none.
-/
import Derived.Test.YtbefoehadfnkbaaGreatDoorJourneymanParsesM13
import Derived.Test.YtbefoehadfnkbaaGreatDoorJourneymanParsesM17
set_option linter.all false
set_option maxRecDepth 10000
set_option maxHeartbeats 2000000
open Nat renaming reduceBEq→qA,reduceAdd→qB,reduceSub→qC,reduceEqDiff→qD,reduceLT→qE,reduceLeDiff→qF
namespace Go.Tel
open Go.Am
def Oo:aB:=(.region false [⟨some 2,.alloc 0 [.int .i64 0],[],none,0⟩] 1 [0,2] [])
def Oq:aB:=(.seq (.region false [⟨some 4,.mov,[.t 0],none,0⟩,⟨some 5,.je,[.t 4],none,0⟩] 0 [2] []) (.seq (.region false [⟨none,.store 1,[.t 2,.c (.int .i64 0)],none,0⟩] 0 [2] []) .ret))
def JL:aB:=(.block 0 (.seq (.region false [⟨some 7,.IX false,[.t 5,.c (.nilIface)],none,0⟩] 0 [0,5,7] []) (.cond (.t 7) (.region false [⟨some 1,.mov,[.t 5],none,0⟩] 0 [] []) (.seq (.region false [⟨some 8,.tas T.SA (.agg [.int .i64 0]),[.t 5],none,0⟩,⟨some 9,.ext 1,[.t 8],none,0⟩,⟨some 10,.ext 0,[.t 8],none,0⟩] 0 [0,5,9,10] []) (.cond (.t 9) (.seq (.region false [⟨some 2,.alloc 0 [.int .i64 0],[],none,0⟩,⟨none,.store 1,[.t 2,.t 10],none,0⟩] 1 [0] []) (.region false [⟨none,.store 1,[.t 0,.c (.int .i64 5)],none,0⟩] 0 [] [])) (.seq (.region false [⟨some 11,.tas T.ag8 (.agg [.str ⟨#[]⟩]),[.t 5],none,0⟩,⟨some 12,.ext 1,[.t 11],none,0⟩,⟨some 13,.ext 0,[.t 11],none,0⟩] 0 [0,5,12,13] []) (.cond (.t 12) (.seq (.region false [⟨some 3,.alloc 0 [.str ⟨#[]⟩],[],none,0⟩,⟨none,.store 1,[.t 3,.t 13],none,0⟩] 1 [0] []) (.region false [⟨none,.store 1,[.t 0,.c (.int .i64 4)],none,0⟩] 0 [] [])) (.seq (.region false [⟨some 4,.mov,[.t 5],none,0⟩] 0 [4] []) (.region false [⟨some 6,.mov,[.t 4],none,0⟩,⟨none,.panic,[.t 6],none,0⟩] 0 [] [])))))))))
theorem acC:Z5 C.P F.abC F.aeh 1 6 14 2 3 5 Oo Oq JL=true:=by kernel_rfl
end Go.Tel
namespace Go.Am
theorem Y2 {C:Ctx}{base:Nat}{M:Mem}{K:PV→Mem→Prop}{KP:DV→Mem→Prop}{f:FuncId}{fs cs args:List PV}:aj C base .je (.func (.func f) fs cs::args) M K KP=(callable C.P f=true∧SC C f (fs++args++cs) M K KP):=propext ⟨id,id⟩
section
variable {C:Ctx}{base te t5 b:Nat}{pc3:aB}{K:PV→Mem→Prop}{KP:DV→Mem→Prop}{env:List (Nat×PV)}{bs:List (Option (List PV))}{fz:List Nat}{ar:List (Option Arr)}{M:Mem}
theorem adA:ao2 C te t5 pc3 b K .ret ⟨env,⟨bs,fz,ar⟩⟩=pwp C bs.length ar.length pc3 (JC te b K) ⟨[(0, .ptr b 0),(t5, .d .nilIface)],⟨bs,fz,ar⟩⟩:=propext ⟨id,id⟩
theorem Yl {d:DV}:ao2 C te t5 pc3 b K (.panic d) ⟨env,⟨bs,fz,ar⟩⟩=pwp C bs.length ar.length pc3 (JC te b K) ⟨[(0, .ptr b 0),(t5, .d d)],⟨bs,fz,ar⟩⟩:=propext ⟨id,id⟩
theorem zS:JC te b K .normal ⟨env,⟨bs,fz,ar⟩⟩=bQ false 1 (.ptr b 0) ⟨bs,fz,ar⟩ fun v=>K v ⟨bs,fz,ar⟩:=propext ⟨id,id⟩
theorem Uo {neq:Bool}:aj C base (.IX neq) [.d .nilIface, .d .nilIface] M K KP=K (.d (.bool !neq)) M:=propext ⟨id,id⟩
theorem Un {neq:Bool}{t:TypeId}{v:DV}:aj C base (.IX neq) [.d (.iface t v), .d .nilIface] M K KP=K (.d (.bool neq)) M:=propext ⟨id,id⟩
theorem oI {t:TypeId}{z v:DV}:aj C base (.tas t z) [.d (.iface t v)] M K KP=K (.d (.tup [v, .bool true])) M:=by simp[aj]
theorem eX {t t':TypeId}{z v:DV}(h:(t'==t)=false):aj C base (.tas t z) [.d (.iface t' v)] M K KP=K (.d (.tup [z, .bool false])) M:=by
 have h':¬t'=t:=by simpa using h
 simp[aj,h']
end
end Go.Am
namespace Go.Tel
open Go.Am
theorem anq (c:Cal)(Y:Nat)(day:Int)(hc:c.ok=true)(hY:Y≤4000)(h1:c.first Y≤day)(h2:day<c.first (Y+1)):Pure C F.Sz [c.dv, .int .i64 day] (.d (.tup [(V8 c Y day).dv, .int .i64 0])) []:=by
 obtain⟨he,hl,hn⟩:=Cal.facts hc
 have hbd:=c.pW Y
 have hbd1:=c.pW (Y+1)
 have hd:inR day 0 2000000=true:=by simp[inR];omega
 refine ah mixed rfl aaC ?_
 simp only[QS,Rh,pR,RN,qA,qB,qC,qD,qE,qF]
 have hic:=aan c (by omega)
 rw[pR,hc]at hic
 refine au rfl rfl hic ?_
 (try simp only[RN,qA,qB,qC,qD,qE,qF])
 refine au rfl rfl (ai2 _) ?_
 simp only[hd,pJ,Option.map_none,List.take_zero,List.drop_zero,RN,qA,qB,qC,qD,qE,qF]
 refine akQ mixed acC ?_
 simp only[Oo,RN,qA,qB,qC,qD,qE,qF]
 refine⟨4,rfl,?_⟩
 simp only[Oq,Y2,RN,qA,qB,qC,qD,qE,qF]
 refine⟨by kernel_rfl,aF mixed rfl Xe ?_⟩
 simp only[LD,L8,RN,qA,qB,qC,qD,qE,qF]
 have ho:=akc c ⟨0,0,0⟩ hc
 rw[pR,uN,vS]at ho
 refine au rfl rfl ho ?_
 (try simp only[RN,qA,qB,qC,qD,qE,qF])
 have hda:=anJ c ⟨0,0,0⟩ (some []) Y day hc hY h1 h2
 rw[vS,Fg]at hda
 refine au rfl rfl hda ?_
 have h0:((0:Int) !=0)=false:=rfl
 (try simp only[RN,qA,qB,qC,qD,qE,qF])
 simp only[adA,JL,Uo,zS,h0,RN,qA,qB,qC,qD,qE,qF]
 rw[Fg]
def Ot:aB:=(.seq (.region false [oa 2 (.box 0) 0,on 4 (.alloc 1 [.int .i64 0,.int .i64 0,.int .i64 0]) [],mk 5 (kI 0)] 2 [1,2,4] [2]) (.seq (.seq (rg [oa 9 (.load true 2) 2,oa 10 (.ak F.uS) 9,oa 11 (.un .not) 10,mv 12 11,oF 13 .mov [.t 1] 12 0,oF 14 (.ak F.Gw) [.t 13] 12 0,oF 15 (.un .not) [.t 14] 12 0,on 16 .pick [.t 12,.c (.bool true),.t 15]] 0 [1,2,4,16]) (.cond (.t 16) (.seq (rg [on 17 (.build [.int .i64 0,.int .i64 0,.int .i64 0] []) [],os (.store 3) [.t 4,.t 17] 0,mk 5 (kI 2)] 0 [4,5]) .ret) .skip)) (.seq (.seq (rg [oa 18 (.fld 1) 2,lo 19 18,oa 20 .len 19,mk 21 (kI 0)] 0 [1,2,4,20,21]) (.block 0 (.loop (.seq (rg [ob 22 (.bin .lss) 21 20] 0 [1,2,4,20,21,22]) (.seq (.cond (.t 22) .skip (.exit 0)) (.seq (.block 1 (.seq (rg [mv 23 21,mv 6 23] 0 [1,2,4,6,20,21]) (.seq (.region false [oa 25 (.load true 2) 2,mv 26 6,mv 27 1,on 28 (.ak F.PL) [.t 25,.t 26,.t 27],mv 24 28,oa 29 (.ext 0) 24,oa 30 (.ext 1) 24,on 7 (.alloc 0 [.int .i64 0,.int .i64 0,.int .i64 0]) [],os (.store 3) [.t 7,.t 29] 0,mv 8 30] 1 [1,2,4,7,8,20,21] [7]) (.seq (rg [mv 31 8] 0 [1,2,4,7,20,21,31]) (.cond (.t 31) (.seq (rg [oa 32 (.load true 3) 7,os (.store 3) [.t 4,.t 32] 0,mk 5 (kI 0)] 0 [4,5]) .ret) .skip))))) (rg [oc 33 (.bin .add) 21 (kI 1),mv 21 33] 0 [1,2,4,20,21]))))))) (.seq (rg [on 34 (.build [.int .i64 0,.int .i64 0,.int .i64 0] []) [],os (.store 3) [.t 4,.t 34] 0,mk 5 (kI 5)] 0 [4,5]) .ret))))
def OG:List aJ:=[.cell 4 true 3, .tmp 5]
theorem YB:aC C.P F.Ei 2 Ot OG=true:=by kernel_rfl
def Hl:aB:=(.seq (.region false [oa 1 (.box 0) 0,on 2 (.jV 1) [.c (.slice true [])],mk 3 (kI 0)] 1 [1] [1]) (.seq (.seq (rg [oa 8 (.load true 2) 1,oa 9 (.ak F.uS) 8,oa 10 (.un .not) 9] 0 [1,10]) (.cond (.t 10) (.seq (rg [on 2 (.jV 1) [.c (.slice true [])],mk 3 (kI 2)] 0 [2,3]) .ret) .skip)) (.seq (rg [on 4 (.jV 1) [.c (.slice true [])]] 0 [1,4]) (.seq (.seq (rg [mk 5 (kI 1)] 0 [1,4,5]) (.block 0 (.loop (.seq (.seq (rg [mv 11 5,oc 12 (.bin .leq) 11 (kI 400)] 0 [1,4,5,12]) (.cond (.t 12) .skip (.exit 0))) (.seq (.block 1 (.seq (rg [oa 16 (.load true 2) 1,mv 17 5,ob 18 (.ak F.Ei) 16 17,mv 15 18,oa 19 (.ext 0) 15,oa 20 (.ext 1) 15,on 6 (.alloc 0 [.int .i64 0,.int .i64 0,.int .i64 0]) [],os (.store 3) [.t 6,.t 19] 0,mv 7 20] 1 [1,4,5,7]) (.seq (rg [mv 21 7,oc 22 (.bin .eql) 21 (kI 0)] 0 [1,4,5,22]) (.cond (.t 22) (rg [mv 23 4,mv 24 5,oa 25 (.iH 1 [.int .i64 0] [0]) 24,ob 26 (.app 1 false) 23 25,mv 4 26] 0 [1,4,5]) .skip)))) (rg [mv 13 5,oc 14 (.bin .add) 13 (kI 1),mv 5 14] 0 [1,4,5])))))) (.seq (rg [mv 27 4,mv 2 27,mk 3 (kI 0)] 0 [2,3]) .ret)))))
def Ib:List aJ:=[.tmp 2, .tmp 3]
theorem Tj:aC C.P F.Gv 1 Hl Ib=true:=by kernel_rfl
def Eb:aB:=(.seq (.region false [oa 1 (.box 0) 0,mk 2 (.c (.bool false))] 1 [1] [1]) (.seq (rg [oa 3 (.fld 0) 1,lo 4 3,on 5 (.ak F.H7) [.t 4,kI 1,kI 60],mv 6 5,ot 7 (.fld 1) [.t 1] 6 0,ot 8 (.load false 1) [.t 7] 6 0,ot 9 .len [.t 8] 6 0,ot 10 (.ak F.H7) [.t 9,kI 1,kI 6] 6 0,on 11 .pick [.t 6,.t 10,.c (.bool false)],mv 12 11,ot 13 (.fld 1) [.t 1] 12 0,ot 14 (.load false 1) [.t 13] 12 0,ot 15 (.ak F.dY) [.t 14,.c (.func (.func F.xw) [] [])] 12 0,ot 16 (.un .not) [.t 15] 12 0,on 17 .pick [.t 12,.t 16,.c (.bool false)],mv 2 17] 0 [2]) .ret))
def Ew:List aJ:=[.tmp 2]
theorem Py:aC C.P F.uS 1 Eb Ew=true:=by kernel_rfl
def Ho:aB:=(.seq (rg [mk 2 (.c (.bool false))] 0 [0]) (.seq (rg [mv 3 0,on 4 (.ak F.H7) [.t 3,kI 1,kI 400],mv 2 4] 0 [2]) .ret))
def Ic:List aJ:=[.tmp 2]
theorem Tq:aC C.P F.Gw 1 Ho Ic=true:=by kernel_rfl
def Ou:aB:=(.seq (.region false [oa 3 (.box 0) 0,on 6 (.alloc 1 [.int .i64 0,.int .i64 0,.int .i64 0]) [],mk 7 (.c (.bool false))] 2 [1,2,3,6] [3]) (.seq (rg [oa 10 (.fld 1) 3,lo 11 10,mv 12 1,ob 13 (.bC 1) 11 12,lo 14 13,mv 8 14] 0 [1,2,3,6,8]) (.seq (rg [oa 15 (.fld 0) 3,lo 16 15,mv 17 8,ob 18 (.bin .mul) 16 17,mv 9 18] 0 [1,2,6,8,9]) (.seq (.region true [mv 19 1,mv 20 9,mv 21 2,ob 22 (.bin .quo) 20 21,mv 23 8,ob 24 (.bin .quo) 22 23,mv 25 9,mv 26 2,ob 27 (.bin .quo) 25 26,mv 28 8,ob 29 (.bin .rem) 27 28,on 30 (.build [.int .i64 0,.int .i64 0,.int .i64 0] [(0,1),(1,1),(2,1)]) [.t 19,.t 24,.t 29],mv 31 9,mv 32 2,ob 33 (.bin .rem) 31 32,oc 34 (.bin .eql) 33 (kI 0),os (.store 3) [.t 6,.t 30] 0,mv 7 34] 0 [6,7] []) .ret))))
def OH:List aJ:=[.cell 6 true 3, .tmp 7]
theorem YC:aC C.P F.PL 3 Ou OH=true:=by kernel_rfl
def UK:aB:=(.seq (rg [mk 6 (.c (.bool false))] 0 [0,1,2]) (.seq (rg [mv 7 0,mv 8 1,ob 9 (.bin .geq) 7 8,mv 10 9,ot 11 .mov [.t 0] 10 0,ot 12 .mov [.t 2] 10 0,ot 13 (.bin .leq) [.t 11,.t 12] 10 0,on 14 .pick [.t 10,.t 13,.c (.bool false)],mv 6 14] 0 [6]) .ret))
def U8:List aJ:=[.tmp 6]
theorem acF:aC C.P F.H7 3 UK U8=true:=by kernel_rfl
def Ah:aB:=(.seq (rg [mk 2 (.c (.bool false))] 0 [0]) (.seq (rg [mv 3 0,on 4 (.ak F.H7) [.t 3,kI 1,kI 120],oa 5 (.un .not) 4,mv 2 5] 0 [2]) .ret))
def Az:List aJ:=[.tmp 2]
theorem Lj:aC C.P F.xw 1 Ah Az=true:=by kernel_rfl
end Go.Tel
namespace Go.Tel
open Go.Am
theorem aoG (n l h:Int):Pure C F.H7 [.int .i64 n, .int .i64 l, .int .i64 h] (.d (.bool (inR n l h))) []:=by
 refine ah mixed rfl acF ?_
 by_cases h1:n≥l<;>simp only[h1,inR,UK,U8,Bool.false_and,RN,qA,qB,qC,qD,qE,qF]
structure Dvd where
 jI:Int
 cir:List Int
 deriving DecidableEq,Inhabited
structure Ix where
 circle:Int
 turns:Int
 holes:Int
 deriving DecidableEq,Inhabited
def Dvd.dv (d:Dvd):DV:= .agg [.int .i64 d.jI, .slice false (d.cir.map ay)]
def Ix.dv (d:Ix):DV:= .agg [.int .i64 d.circle, .int .i64 d.turns, .int .i64 d.holes]
theorem IJ {d:Dvd}:d.dv= .agg [.int .i64 d.jI, .slice false (d.cir.map ay)]:=by rw[Dvd.dv]
theorem KN {d:Ix}:d.dv= .agg [.int .i64 d.circle, .int .i64 d.turns, .int .i64 d.holes]:=by rw[Ix.dv]
def Dvd.ok (d:Dvd):Bool:=inR d.jI 1 60&&inR d.cir.length 1 6&&d.cir.all (fun n=>inR n 1 120)
theorem Yy (n:Int):Pure C F.xw [.int .i64 n] (.d (.bool (!inR n 1 120))) []:=by
 refine ah mixed rfl Lj ?_
 simp only[Ah,Az,RN,qA,qB,qC,qD,qE,qF]
 refine au rfl rfl (aoG _ _ _) ?_
 (try simp only[RN,qA,qB,qC,qD,qE,qF])
theorem ahx (n:Int):Pure C F.Gw [.int .i64 n] (.d (.bool (inR n 1 400))) []:=by
 refine ah mixed rfl Tq ?_
 simp only[Ho,Ic,RN,qA,qB,qC,qD,qE,qF]
 refine au rfl rfl (aoG _ _ _) ?_
 (try simp only[RN,qA,qB,qC,qD,qE,qF])
theorem Uu (d:Dvd)(hl:d.cir.length≤1000000):Pure C F.uS [d.dv] (.d (.bool d.ok)) []:=by
 refine ah mixed rfl Py ?_
 simp only[Eb,Ew,IJ,RN,qA,qB,qC,qD,qE,qF]
 repeat' first
  |(refine au rfl rfl (aoG _ _ _) ?_;try simp only[List.length_map,RN,qA,qB,qC,qD,qE,qF])
  |(refine au rfl rfl (wK d.cir _ [] (fun n=> !inR n 1 120) hl (by kernel_rfl) (fun n _=>Yy n)) ?_;try simp only[List.length_map,RN,qA,qB,qC,qD,qE,qF])
  |(refine bJ (by rfl) (fun hB=> ?_) (fun hB=> ?_)<;>simp only[hB,List.length_map,RN,qA,qB,qC,qD,qE,qF])
  |(refine bZ (by rfl) (fun hB=> ?_) (fun hB=> ?_)<;>simp only[hB,List.length_map,RN,qA,qB,qC,qD,qE,qF])
 all_goals(first|(rw[Iw])|skip)
 all_goals(first|(simp only[Dvd.ok, *,Bool.not_true,Bool.not_false,Bool.not_not,Bool.and_true,Bool.true_and,Bool.and_false,Bool.false_and,Bool.or_true,Bool.true_or,Bool.or_false,Bool.false_or,Bool.and_self,Bool.or_self,if_true,if_false,reduceIte,cond_true,cond_false,Bool.false_eq_true];done)|(simp_all[Dvd.ok];done)|(simp_all[Dvd.ok];omega))
def aiX (jI h t i:Int):Ix:=⟨i,((jI*h).tdiv t).tdiv h,((jI*h).tdiv t).tmod h⟩
def ZU (jI h t:Int):Bool:=(jI*h).tmod t==0
theorem anH (d:Dvd)(i:Nat)(t:Int)(hw:1≤d.jI∧d.jI≤60)(hi:i<d.cir.length)(hc:1≤d.cir.getD i default∧d.cir.getD i default≤120)(ht:1≤t):
  Pure C F.PL [d.dv, .int .i64 i, .int .i64 t] (.d (.tup [(aiX d.jI (d.cir.getD i default) t i).dv, .bool (ZU d.jI (d.cir.getD i default) t)])) []:=by
 have hi0:(0:Int)≤(i:Int):=by omega
 have hm:1≤d.jI*d.cir.getD i default∧d.jI*d.cir.getD i default≤7200:=by
  have h1:=Int.mul_le_mul hw.2 hc.2 (by omega) (by omega)
  have h2:=Int.mul_le_mul hw.1 hc.1 (by omega) (by omega)
  omega
 have e1:IntKind.i64.wrap (d.jI*d.cir.getD i default)=d.jI*d.cir.getD i default:=aG (by omega)
 have b1:((d.jI*d.cir.getD i default).tdiv t).natAbs≤7200:=by
  have:=NI (d.jI*d.cir.getD i default) t
  omega
 have e2:IntKind.i64.wrap ((d.jI*d.cir.getD i default).tdiv t)=(d.jI*d.cir.getD i default).tdiv t:=aG (by omega)
 have b2:(((d.jI*d.cir.getD i default).tdiv t).tdiv (d.cir.getD i default)).natAbs≤7200:=by
  have:=NI ((d.jI*d.cir.getD i default).tdiv t) (d.cir.getD i default)
  omega
 have e3:IntKind.i64.wrap (((d.jI*d.cir.getD i default).tdiv t).tdiv (d.cir.getD i default))=((d.jI*d.cir.getD i default).tdiv t).tdiv (d.cir.getD i default):=aG (by omega)
 have n1:t≠0:=by omega
 have n2:d.cir.getD i default≠0:=by omega
 refine ah mixed rfl YC ?_
 simp only[Ou,OH,IJ,hi,hi0,getD_map,Int.toNat_natCast,List.length_map,aV,e1,e2,e3,n1,n2,KN,aiX,ZU,RN,qA,qB,qC,qD,qE,qF]
def Ui (jI t:Int):Nat→List Int→Option Ix
 | _,[]=>none
 |i,h::hs=>if ZU jI h t then some (aiX jI h t i)else Ui jI t (i+1) hs
def Dvd.cuts (d:Dvd)(t:Int):Ix×Int:=
 if d.ok&&inR t 1 400 then(match Ui d.jI t 0 d.cir with|some x=>(x,0)|none=>(⟨0,0,0⟩,5))else(⟨0,0,0⟩,2)
theorem Dvd.acD {d:Dvd}(h:d.ok=true):(1≤d.jI∧d.jI≤60)∧(1≤d.cir.length∧d.cir.length≤6)∧∀n∈d.cir,1≤n∧n≤120:=by
 simp only[Dvd.ok,inR,Bool.and_eq_true,decide_eq_true_eq,List.all_eq_true,ge_iff_le]at h
 obtain⟨⟨h1,h2⟩,h3⟩:=h
 exact⟨h1,by omega,h3⟩
theorem adK (d:Dvd)(t:Int)(hl:d.cir.length≤1000000):Pure C F.Ei [d.dv, .int .i64 t] (.d (.tup [(d.cuts t).1.dv, .int .i64 (d.cuts t).2])) []:=by
 refine ah mixed rfl YB ?_
 simp only[Ot,OG,IJ,RN,qA,qB,qC,qD,qE,qF]
 repeat' first
  |(refine au rfl rfl (Uu d hl) ?_;try simp only[List.length_map,KN,RN,qA,qB,qC,qD,qE,qF])
  |(refine au rfl rfl (ahx t) ?_;try simp only[List.length_map,KN,RN,qA,qB,qC,qD,qE,qF])
  |(refine bJ (by rfl) (fun hB=> ?_) (fun hB=> ?_)<;>simp only[hB,List.length_map,KN,RN,qA,qB,qC,qD,qE,qF])
  |(refine bZ (by rfl) (fun hB=> ?_) (fun hB=> ?_)<;>simp only[hB,List.length_map,KN,RN,qA,qB,qC,qD,qE,qF])
 any_goals (simp_all[Dvd.cuts,KN];done)
 have hd:d.ok=true:=by simp_all
 have ht:inR t 1 400=true:=by simp_all
 obtain⟨hw,hc,hcs⟩:=Dvd.acD hd
 have ht1:1≤t:=by simp only[inR,Bool.and_eq_true,decide_eq_true_eq]at ht;omega
 have anc:d.cuts t=(match Ui d.jI t 0 d.cir with|some x=>(x,0)|none=>(⟨0,0,0⟩,5)):=by simp only[Dvd.cuts,hd,ht,Bool.and_self,if_true]
 refine aT d.cir.length (fun i (_:Unit)=>⟨[(1, .d (.int .i64 t)),(2, .d (.aX [.int .i64 d.jI, .slice false (d.cir.map ay)])),(4, .ptr 1 0),(20, .d (.int .i64 d.cir.length)),(21, .d (.int .i64 i))],⟨[some [.d (.int .i64 d.jI), .d (.slice false (d.cir.map ay))],some [.d (.int .i64 0), .d (.int .i64 0), .d (.int .i64 0)]],[0],[]⟩⟩)
  (fun i _=>Ui d.jI t 0 d.cir=Ui d.jI t i (d.cir.drop i)) 0 () (Nat.zero_le _) rfl (by simp) (fun i _ h1 hix=> ?_) (fun _ hix=> ?_)
 ·obtain⟨h2,h3,h6⟩:=rng h1 hl
  rw[drop_cons h1,Ui]at hix
  simp only[h2,h3,h1,Int.toNat_natCast,List.length_map,RN,qA,qB,qC,qD,qE,qF]
  refine au rfl rfl (anH d i t hw h1 (hcs _ (getD_mem h1)) ht1) ?_
  cases hb:ZU d.jI (d.cir.getD i default) t
  ·simp only[h6,KN,RN,qA,qB,qC,qD,qE,qF]
   exact jR 2 0 () h1 rfl (by rw[hix,hb];rfl) (by simp) (by simp) rfl rfl
  ·simp only[KN,RN,qA,qB,qC,qD,qE,qF]
   rw[anc,hix,hb]
   rfl
 ·rw[List.drop_length,Ui]at hix
  simp only[Int.lt_irrefl,RN,qA,qB,qC,qD,qE,qF]
  rw[anc,hix]
def Dvd.first (d:Dvd)(t:Int):Option Ix:=Ui d.jI t 0 d.cir
def Dvd.I7 (d:Dvd)(n:Nat):List Int:=((List.range n).map fun(i:Nat)=>(i:Int)+1).filter fun t=>(d.first t).isSome
def Dvd.numbers (d:Dvd):List Int×Int:=if d.ok then(d.I7 400,0)else([],2)
theorem acv (d:Dvd)(n:Nat):d.I7 (n+1)=d.I7 n++(if(d.first ((n:Int)+1)).isSome then[(n:Int)+1]else[]):=by
 rw[Dvd.I7,List.range_succ,List.map_append,List.filter_append,←Dvd.I7,List.map_cons,List.map_nil,List.filter_cons,List.filter_nil]
theorem ae6 (d:Dvd)(n:Nat):(d.I7 n).length≤n:=by
 rw[Dvd.I7]
 refine Nat.le_trans (List.length_filter_le _ _) ?_
 simp
theorem agu (d:Dvd)(hl:d.cir.length≤1000):Pure C F.Gv [d.dv] (.d (.tup [.slice false (d.numbers.1.map ay), .int .i64 d.numbers.2])) []:=by
 have hd:=Uu d (by omega)
 rw[IJ]at hd
 refine gI (aF mixed rfl Tj ?_)
 simp only[Hl,Ib,IJ,RN,qA,qB,qC,qD,qE,qF]
 refine au rfl rfl hd ?_
 cases hok:d.ok
 ·have e:d.numbers=([],2):=by rw[Dvd.numbers,hok];rfl
  simp only[bn,Option.map_none,dG,RN,qA,qB,qC,qD,qE,qF]
  simp[datum,bW,eU,Mem.row,e]
 have e:d.numbers=(d.I7 400,0):=by rw[Dvd.numbers,hok];rfl
 (try simp only[RN,qA,qB,qC,qD,qE,qF])
 refine aT 400 (fun i (q:List Int×Nat)=>⟨[(1, .d (.aX [.int .i64 d.jI, .slice false (d.cir.map ay)])),(4, .tsl 1 q.2 0),(5, .d (.int .i64 ((i:Int)+1)))],⟨[some [.d (.int .i64 d.jI), .d (.slice false (d.cir.map ay))]],[0],[some ⟨1,[],0,0⟩,some ⟨1,q.1.map ay,q.2,0⟩]⟩⟩)
  (fun i q=>q.1=d.I7 i) 0 ([],0) (Nat.zero_le _) rfl rfl (fun i q g1 hix=> ?_) (fun q hix=> ?_)
 ·obtain⟨acc,ver⟩:=q
  simp only at hix
  have g2:(i:Int)+1≤400:=by omega
  have g6:IntKind.i64.wrap ((i:Int)+1+1)=((i+1:Nat):Int)+1:=by rw[aG (by omega)];omega
  have hcu:=adK d ((i:Int)+1) (by omega)
  rw[IJ,KN]at hcu
  have hs:=acv d i
  have hln:=ae6 d i
  rw[←hix]at hs hln
  have hin:inR ((i:Int)+1) 1 400=true:=by simp only[inR,Bool.and_eq_true,decide_eq_true_eq];omega
  have hc2:d.cuts ((i:Int)+1)=(match d.first ((i:Int)+1)with|some x=>(x,0)|none=>(⟨0,0,0⟩,5)):=by rw[Dvd.cuts,hok,hin];rfl
  have z0:((0:Int)==0)=true:=rfl
  have z5:((5:Int)==0)=false:=rfl
  simp only[g2,RN,qA,qB,qC,qD,qE,qF]
  refine au rfl rfl hcu ?_
  cases hx:d.first ((i:Int)+1)with
  |none=>
   rw[hx]at hs hc2
   simp only[hc2,z5,g6,RN,qA,qB,qC,qD,qE,qF]
   exact jR 1 2 (acc,ver) g1 rfl (by simpa using hs.symm) (by simp) (by simp) rfl rfl
  |some x=>
   rw[hx]at hs hc2
   simp only[hc2,z0,jZ,fits_int,forall_eq,DV.strip,jX,List.length_map,RN,qA,qB,qC,qD,qE,qF]
   refine⟨by simp,by omega,?_⟩
   simp only[g6,RN,qA,qB,qC,qD,qE,qF]
   refine jR 1 2 (acc++ [(i:Int)+1],ver+1) g1 ?_ (by simpa using hs.symm) (by simp) (by simp) rfl rfl
   simp only[List.map_append,List.map_cons,List.map_nil,aV];rfl
 ·obtain⟨acc,ver⟩:=q
  simp only at hix
  have g2:¬((400:Nat):Int)+1≤400:=by omega
  simp only[g2,bn,Option.map_none,dG,RN,qA,qB,qC,qD,qE,qF]
  simp[datum,bW,eU,Mem.row,hix,e]
def wV:aB:=(.seq (.region false [oa 2 (.box 0) 0,oa 3 (.box 1) 1,mk 4 (.c (.slice true [])),mk 5 (kI 0)] 2 [2,3] [3]) (.seq (.seq (rg [lo 11 2,oa 12 (.iZ F.gY) 11,oa 13 (.un .not) 12] 0 [2,3,13]) (.cond (.t 13) (.seq (rg [mk 4 (.c (.slice true [])),mk 5 (kI 1)] 0 [4,5]) .ret) .skip)) (.seq (.seq (.region true [of 14 (.fld 0) [.t 3] 1,of 15 (.load false 1) [.t 14] 1,on 16 (.ak F.dh) [.t 15,kI 1,kI 12],oa 17 (.un .not) 16,mv 18 17,oF 19 (.fld 1) [.t 3] 18 1,oF 20 (.load false 1) [.t 19] 18 1,oF 21 .len [.t 20] 18 1,oF 22 (.ak F.uO) [] 18 0,oF 23 (.fld 0) [.t 3] 18 1,oF 24 (.load false 1) [.t 23] 18 1,oF 25 (.bin .sub) [.t 24,kI 1] 18 0,oF 26 (.WQ true 2 12) [.t 22,.t 25] 18 0,oF 27 (.WH false 1 1) [.t 26] 18 0,oF 28 (.bin .neq) [.t 21,.t 27] 18 0,on 29 .pick [.t 18,.c (.bool true),.t 28]] 0 [2,3,29] []) (.cond (.t 29) (.seq (rg [mk 4 (.c (.slice true [])),mk 5 (kI 2)] 0 [4,5]) .ret) .skip)) (.seq (rg [lo 30 2,oa 31 (.build [.nilPtr,.nilPtr] [(1,1)]) 30,on 6 (.alloc 0 [.nilPtr,.nilPtr]) [],os (.store 2) [.t 6,.t 31] 0] 1 [2,3,6]) (.seq (.seq (rg [ob 32 (.mkF (.func F.oM) 0) 2 6,oa 33 (.call F.ku) 32,mv 7 33] 0 [3,6,7]) (.seq (rg [mv 34 7,oc 35 (.bin .neq) 34 (kI 0)] 0 [3,6,7,35]) (.cond (.t 35) (.seq (rg [mv 36 7,mk 4 (.c (.slice true [])),mv 5 36] 0 [4,5]) .ret) .skip))) (.seq (rg [on 37 (.build [.nilFunc,.nilFunc,.nilFunc,.nilFunc,.nilFunc,.nilFunc,.nilFunc,.nilFunc,.nilFunc,.nilFunc,.nilFunc,.nilFunc] [(0,1),(1,1),(2,1),(3,1),(4,1),(5,1),(6,1),(7,1),(8,1),(9,1),(10,1),(11,1)]) [.c (.func (.func F.fB) [] []),.c (.func (.func F.dX) [] []),.c (.func (.func F.dW) [] []),.c (.func (.func F.fH) [] []),.c (.func (.func F.fM) [] []),.c (.func (.func F.gG) [] []),.c (.func (.func F.fD) [] []),.c (.func (.func F.fC) [] []),.c (.func (.func F.fK) [] []),.c (.func (.func F.fJ) [] []),.c (.func (.func F.fO) [] []),.c (.func (.func F.dK) [] [])],on 8 (.alloc 0 [.nilFunc,.nilFunc,.nilFunc,.nilFunc,.nilFunc,.nilFunc,.nilFunc,.nilFunc,.nilFunc,.nilFunc,.nilFunc,.nilFunc]) [],os (.store 12) [.t 8,.t 37] 0] 1 [3,6,8]) (.seq (.region true [of 39 (.fld 0) [.t 3] 1,of 40 (.load false 1) [.t 39] 1,oc 41 (.bin .sub) 40 (kI 1),ob 42 (.Oe 1 12) 8 41,of 43 (.load false 1) [.t 42] 2,of 44 (.load true 2) [.t 6] 2,of 45 (.fld 1) [.t 3] 1,of 46 (.load false 1) [.t 45] 1,on 47 .je [.t 43,.t 44,.t 46],mv 38 47,oa 48 (.ext 0) 38,oa 49 (.ext 1) 38,mv 9 48,mv 10 49] 0 [9,10] []) (.seq (.seq (rg [mv 50 10,oc 51 (.bin .neq) 50 (kI 0)] 0 [9,10,51]) (.cond (.t 51) (.seq (rg [mv 52 10,mk 4 (.c (.slice true [])),mv 5 52] 0 [4,5]) .ret) .skip)) (.seq (rg [mv 53 9,mv 4 53,mk 5 (kI 0)] 0 [4,5]) .ret)))))))))
def xJ:List aJ:=[.tmp 4, .tmp 5]
theorem Ja:aC C.P F.sG 2 wV xJ=true:=by kernel_rfl
def D7:aB:=(.seq (.region false [oa 1 (.box 0) 0,mk 2 (.c (.nilPtr)),mk 3 (kI 0)] 1 [1] [1]) (.seq (.seq (rg [oa 5 (.load true 17) 1,oa 6 (.ak F.vw) 5,oa 7 (.un .not) 6] 0 [1,7]) (.cond (.t 7) (.seq (rg [mk 2 (.c (.nilPtr)),mk 3 (kI 2)] 0 [2,3]) .ret) .skip)) (.seq (.region false [oa 8 (.load true 17) 1,oa 9 (.ak F.lC) 8,on 4 (.alloc 0 [.slice true [],.slice true [],.slice true [],.int .i64 0,.int .i64 0,.slice true [],.int .i64 0,.slice true [],.int .i64 0,.int .i64 0,.int .i64 0,.slice true [],.int .i64 0,.int .i64 0,.int .i64 0,.int .i64 0,.int .i64 0]) [],os (.store 17) [.t 4,.t 9] 0] 1 [4] [4]) (.seq (rg [oa 10 (.load true 17) 4,oa 11 (.ak F.Bd) 10,ob 12 (.build [.nilPtr,.slice true [],.slice true [],.slice true []] [(0,1),(1,1)]) 4 11,oa 13 (.box 0) 12,mv 2 13,mk 3 (kI 0)] 1 [2,3]) .ret))))
def Ep:List aJ:=[.tmp 2, .tmp 3]
theorem Pn:aC C.P F.Bc 1 D7 Ep=true:=by kernel_rfl
def tu:aB:=(.seq (.region false [oa 2 (.box 0) 0,oa 3 (.box 1) 1,mk 4 (kI 0)] 2 [2,3] [3]) (.seq (.seq (rg [lo 9 2,oa 10 (.iZ F.gY) 9,oa 11 (.un .not) 10] 0 [2,3,11]) (.cond (.t 11) (.seq (rg [mk 4 (kI 1)] 0 [4]) .ret) .skip)) (.seq (.seq (rg [oa 12 (.load true 2) 3,oa 13 (.ak F.jB) 12,oa 14 (.un .not) 13] 0 [2,3,14]) (.cond (.t 14) (.seq (rg [mk 4 (kI 2)] 0 [4]) .ret) .skip)) (.seq (.seq (rg [lo 15 2,oa 16 .aW 15,oa 17 (.fld 2) 16,lo 18 17,oa 19 .len 18,oc 20 (.bin .eql) 19 (kI 24)] 0 [2,3,20]) (.cond (.t 20) (.seq (rg [mk 4 (kI 3)] 0 [4]) .ret) .skip)) (.seq (.region false [oa 21 (.load true 2) 3,oa 22 (.ak F.lD) 21,on 5 (.alloc 0 [.nilIface]) [],os (.store 1) [.t 5,.t 22] 0] 1 [2,3,5] [5]) (.seq (.seq (rg [lo 23 5,lo 24 2,ob 25 (.inv "tellurion/journeyman.fine") 23 24,oa 26 (.un .not) 25] 0 [2,3,5,26]) (.cond (.t 26) (.seq (rg [mk 4 (kI 2)] 0 [4]) .ret) .skip)) (.seq (rg [ob 27 (.mkF (.func F.jh) 0) 5 2,oa 28 (.call F.ku) 27,mv 6 28] 0 [2,3,5,6]) (.seq (.seq (rg [mv 29 6,oc 30 (.bin .neq) 29 (kI 0)] 0 [2,3,5,6,30]) (.cond (.t 30) (.seq (rg [mv 31 6,mv 4 31] 0 [4]) .ret) .skip)) (.seq (.seq (.region false [lo 33 5,oa 34 (.tas T.aZ (.agg [.int .i64 0])) 33,mv 32 34,oa 35 (.ext 0) 32,oa 36 (.ext 1) 32,on 7 (.alloc 0 [.int .i64 0]) [],os (.store 1) [.t 7,.t 35] 0,mv 8 36] 1 [2,3,7,8] [7]) (.seq (rg [mv 37 8] 0 [2,3,7,37]) (.cond (.t 37) (.region true [of 38 (.load false 1) [.t 2] 2,oa 39 .aW 38,of 40 (.fld 3) [.t 39] 2,of 41 (.load false 1) [.t 40] 2,of 42 (.fld 0) [.t 7] 1,of 43 (.load false 1) [.t 42] 1,ob 44 (.bC 1) 41 43,os (.store 1) [.t 44,.c (.bool true)] 3] 0 [2,3] []) .skip))) (.seq (.region true [of 45 (.load false 1) [.t 2] 2,of 46 (.load false 1) [.t 2] 2,oa 47 .aW 46,of 48 (.fld 2) [.t 47] 2,of 49 (.load false 1) [.t 48] 2,of 50 (.fld 0) [.t 3] 1,of 51 (.load false 1) [.t 50] 1,of 52 (.fld 1) [.t 3] 1,of 53 (.load false 1) [.t 52] 1,oa 54 (.ak F.slices_Clone_int) 53,ob 55 (.build [.int .i64 0,.slice true []] [(0,1),(1,1)]) 51 54,of 56 (.iH 2 [.agg [.int .i64 0,.slice true []]] [0]) [.t 55] 1,ob 57 (.app 2 false) 49 56,oa 58 .aW 45,of 59 (.fld 2) [.t 58] 2,os (.store 1) [.t 59,.t 57] 0] 0 [2] []) (.seq (.region true [of 60 (.load false 1) [.t 2] 2,of 61 (.load false 1) [.t 2] 2,oa 62 .aW 61,of 63 (.fld 3) [.t 62] 2,of 64 (.load false 1) [.t 63] 2,of 65 (.iH 1 [.bool false] [0]) [.c (.bool false)] 1,ob 66 (.app 1 true) 64 65,oa 67 .aW 60,of 68 (.fld 3) [.t 67] 2,os (.store 1) [.t 68,.t 66] 0] 0 [] []) (.seq (rg [mk 4 (kI 0)] 0 [4]) .ret))))))))))))
def um:List aJ:=[.tmp 4]
theorem F9:aC C.P F.oN 2 tu um=true:=by kernel_rfl
def yI:aB:=(.seq (.region false [oa 2 (.box 0) 0,mk 4 (.c (.str ⟨#[]⟩)),mk 5 (kI 0)] 1 [1,2,4,5] [2]) (.seq (rg [oa 11 (.load true 17) 2,oa 12 (.call F.Bc) 11,mv 10 12,oa 13 (.ext 0) 10,oa 14 (.ext 1) 10,on 6 (.alloc 0 [.nilPtr]) [],os (.store 1) [.t 6,.t 13] 0,mv 7 14] 1 [1,4,5,6,7]) (.seq (.seq (rg [mv 15 7,oc 16 (.bin .neq) 15 (kI 0)] 0 [1,4,5,6,7,16]) (.cond (.t 16) (.seq (rg [mv 17 7,mk 4 (.c (.str ⟨#[]⟩)),mv 5 17] 0 [4,5]) .ret) .skip)) (.seq (.seq (rg [mv 18 1,oa 19 .Kq 18,oc 20 (.bin .gtr) 19 (kI 1500)] 0 [1,4,5,6,20]) (.cond (.t 20) (.seq (rg [mk 4 (.c (.str ⟨#[]⟩)),mk 5 (kI 3)] 0 [4,5]) .ret) .skip)) (.seq (.seq (rg [mv 21 1,oc 22 (.bin .neq) 21 (.c (.str ⟨#[]⟩)),mv 23 22,ot 24 .mov [.t 1] 23 0,ot 25 (.ak F.strings_HasSuffix) [.t 24,.c (.str ⟨#[10]⟩)] 23 0,ot 26 (.un .not) [.t 25] 23 0,on 27 .pick [.t 23,.t 26,.c (.bool false)]] 0 [1,4,5,6,27]) (.cond (.t 27) (.seq (rg [mk 4 (.c (.str ⟨#[]⟩)),mk 5 (kI 4)] 0 [4,5]) .ret) .skip)) (.seq (rg [on 8 (.alloc 0 [.str ⟨#[]⟩]) [],os (.store 1) [.t 8,.c (.str ⟨#[]⟩)] 0] 1 [1,4,5,6,8]) (.seq (.seq (rg [mv 28 1,oa 29 (.call F.Gy) 28] 0 [4,5,6,8,29]) (.block 0 (.xB (.t 29) [30] [6,8] (rg [mv 9 30] 0 [6,8,9]) (.block 1 (.region true [lo 31 8,of 32 (.load false 1) [.t 6] 2,mv 33 9,oc 34 (.ak F.strings_TrimSuffix) 33 (.c (.str ⟨#[10]⟩)),on 35 (.JE false 1 F.nH) [.t 8,.t 32,.t 34],oc 36 (.bin .add) 35 (.c (.str ⟨#[10]⟩)),ob 37 (.bin .add) 31 36,os (.store 1) [.t 8,.t 37] 0] 0 [] []))))) (.seq (rg [lo 38 8,mv 4 38,mk 5 (kI 0)] 0 [4,5]) .ret))))))))
def yR:List aJ:=[.tmp 4, .tmp 5]
theorem Kw:aC C.P F.vg 2 yI yR=true:=by kernel_rfl
def BL:aB:=(.seq (.region false [oa 1 (.box 0) 0,mk 2 (.c (.str ⟨#[]⟩)),mk 3 (kI 0)] 1 [1] [1]) (.seq (.seq (rg [oa 4 (.load true 2) 1,oa 5 (.ak F.jB) 4,oa 6 (.un .not) 5] 0 [1,6]) (.cond (.t 6) (.seq (rg [mk 2 (.c (.str ⟨#[]⟩)),mk 3 (kI 2)] 0 [2,3]) .ret) .skip)) (.seq (.region true [on 7 (.ak F.mM) [],of 8 (.fld 0) [.t 1] 1,of 9 (.load false 1) [.t 8] 1,oc 10 (.bin .sub) 9 (kI 1),ob 11 (.WQ true 2 6) 7 10,oa 12 (.WH false 0 1) 11,oc 13 (.bin .add) 12 (.c (.str ⟨#[32]⟩)),of 14 (.fld 1) [.t 1] 1,of 15 (.load false 1) [.t 14] 1,oa 16 (.ak F.oZ) 15,ob 17 (.bin .add) 13 16,mv 2 17,mk 3 (kI 0)] 0 [2,3] []) .ret)))
def Cm:List aJ:=[.tmp 2, .tmp 3]
theorem NU:aC C.P F.zo 1 BL Cm=true:=by kernel_rfl
def BK:aB:=(.seq (.region false [oa 1 (.box 0) 0,on 2 (.alloc 1 [.int .i64 0,.slice true []]) [],mk 3 (kI 0)] 2 [1,2] [1]) (.seq (.seq (rg [lo 6 1,oa 7 .Kq 6,oc 8 (.bin .gtr) 7 (kI 60)] 0 [1,2,8]) (.cond (.t 8) (.seq (rg [on 9 (.build [.int .i64 0,.slice true []] []) [],os (.store 2) [.t 2,.t 9] 0,mk 3 (kI 3)] 0 [2,3]) .ret) .skip)) (.seq (rg [on 4 (.alloc 0 [.int .i64 0,.slice true []]) []] 1 [1,2,4]) (.seq (rg [ob 10 (.mkF (.func F.vk) 0) 1 4,oa 11 (.call F.ku) 10,mv 5 11] 0 [2,4,5]) (.seq (.seq (rg [mv 12 5,oc 13 (.bin .neq) 12 (kI 0)] 0 [2,4,5,13]) (.cond (.t 13) (.seq (rg [on 14 (.build [.int .i64 0,.slice true []] []) [],mv 15 5,os (.store 2) [.t 2,.t 14] 0,mv 3 15] 0 [2,3]) .ret) .skip)) (.seq (rg [oa 16 (.load true 2) 4,os (.store 2) [.t 2,.t 16] 0,mk 3 (kI 0)] 0 [2,3]) .ret))))))
def Cj:List aJ:=[.cell 2 true 2, .tmp 3]
theorem NT:aC C.P F.qN 1 BK Cj=true:=by kernel_rfl
def rD:aB:=(.seq (rg [mk 2 (.c (.bool false))] 0 [0]) (.seq (rg [mv 3 0,oc 4 (.Ba true) 3 (.c (.nilPtr)),mv 5 4,ot 6 .mov [.t 0] 5 0,ot 7 .aW [.t 6] 5 0,ot 8 (.fld 0) [.t 7] 5 0,ot 9 (.load false 1) [.t 8] 5 0,ot 10 (.Ba true) [.t 9,.c (.nilPtr)] 5 0,on 11 .pick [.t 5,.t 10,.c (.bool false)],mv 2 11] 0 [2]) .ret))
def rU:List aJ:=[.tmp 2]
theorem EP:aC C.P F.gY 1 rD rU=true:=by kernel_rfl
def Hg:aB:=(.seq (rg [mk 6 (.c (.bool false))] 0 [0,1,2]) (.seq (rg [mv 7 0,mv 8 1,ob 9 (.bin .geq) 7 8,mv 10 9,ot 11 .mov [.t 0] 10 0,ot 12 .mov [.t 2] 10 0,ot 13 (.bin .leq) [.t 11,.t 12] 10 0,on 14 .pick [.t 10,.t 13,.c (.bool false)],mv 6 14] 0 [6]) .ret))
def Ia:List aJ:=[.tmp 6]
theorem Ti:aC C.P F.dh 3 Hg Ia=true:=by kernel_rfl
def D8:aB:=(.seq (rg [on 0 (.alloc 0 [.str ⟨#[]⟩,.int .i64 0,.str ⟨#[]⟩,.int .i64 0,.str ⟨#[]⟩,.int .i64 0,.str ⟨#[]⟩,.int .i64 0,.str ⟨#[]⟩,.int .i64 0,.str ⟨#[]⟩,.int .i64 0,.str ⟨#[]⟩,.int .i64 0,.str ⟨#[]⟩,.int .i64 0,.str ⟨#[]⟩,.int .i64 0,.str ⟨#[]⟩,.int .i64 0,.str ⟨#[]⟩,.int .i64 0,.str ⟨#[]⟩,.int .i64 0]) []] 1 [0]) (.seq (rg [on 1 (.build [.str ⟨#[]⟩,.int .i64 0] [(0,1),(1,1)]) [.c (.str ⟨#[104,97,110,100,115]⟩),kI 0],on 2 (.build [.str ⟨#[]⟩,.int .i64 0] [(0,1),(1,1)]) [.c (.str ⟨#[115,116,111,99,107]⟩),kI 0],on 3 (.build [.str ⟨#[]⟩,.int .i64 0] [(0,1),(1,1)]) [.c (.str ⟨#[111,112,101,110]⟩),kI 0],on 4 (.build [.str ⟨#[]⟩,.int .i64 0] [(0,1),(1,1)]) [.c (.str ⟨#[112,114,105,99,101]⟩),kI 1],on 5 (.build [.str ⟨#[]⟩,.int .i64 0] [(0,1),(1,1)]) [.c (.str ⟨#[110,101,101,100]⟩),kI 3],on 6 (.build [.str ⟨#[]⟩,.int .i64 0] [(0,1),(1,1)]) [.c (.str ⟨#[111,102,102]⟩),kI 2],on 7 (.build [.str ⟨#[]⟩,.int .i64 0] [(0,1),(1,1)]) [.c (.str ⟨#[119,114,111,110,103]⟩),kI 0],on 8 (.build [.str ⟨#[]⟩,.int .i64 0] [(0,1),(1,1)]) [.c (.str ⟨#[119,111,114,107,115]⟩),kI 1],on 9 (.build [.str ⟨#[]⟩,.int .i64 0] [(0,1),(1,1)]) [.c (.str ⟨#[100,97,116,101]⟩),kI 1],on 10 (.build [.str ⟨#[]⟩,.int .i64 0] [(0,1),(1,1)]) [.c (.str ⟨#[99,117,116,115]⟩),kI 1],on 11 (.build [.str ⟨#[]⟩,.int .i64 0] [(0,1),(1,1)]) [.c (.str ⟨#[99,111,105,110,115]⟩),kI 0],on 12 (.build [.str ⟨#[]⟩,.int .i64 0] [(0,1),(1,1)]) [.c (.str ⟨#[115,116,97,110,100,115]⟩),kI 0],on 13 (.build [.str ⟨#[]⟩,.int .i64 0,.str ⟨#[]⟩,.int .i64 0,.str ⟨#[]⟩,.int .i64 0,.str ⟨#[]⟩,.int .i64 0,.str ⟨#[]⟩,.int .i64 0,.str ⟨#[]⟩,.int .i64 0,.str ⟨#[]⟩,.int .i64 0,.str ⟨#[]⟩,.int .i64 0,.str ⟨#[]⟩,.int .i64 0,.str ⟨#[]⟩,.int .i64 0,.str ⟨#[]⟩,.int .i64 0,.str ⟨#[]⟩,.int .i64 0] [(0,2),(2,2),(4,2),(6,2),(8,2),(10,2),(12,2),(14,2),(16,2),(18,2),(20,2),(22,2)]) [.t 1,.t 2,.t 3,.t 4,.t 5,.t 6,.t 7,.t 8,.t 9,.t 10,.t 11,.t 12],os (.store 24) [.t 0,.t 13] 0] 0 [0]) .ret))
def Es:List aJ:=[.cell 0 true 24]
theorem Po:aC C.P F.uO 0 D8 Es=true:=by kernel_rfl
def tq:aB:=(rg [lo 2 0,oc 3 (.call F.iM) 2 (kI (-1)),oa 4 (.fld 0) 1,os (.store 1) [.t 4,.t 3] 0] 0 [])
def uj:List aJ:=[]
theorem F8:aC C.P F.oM 2 tq uj=true:=by kernel_rfl
def tH:aB:=(.seq (.region false [oa 3 (.box 0) 1,mk 4 (.c (.nilPtr))] 1 [0,3,4] [3]) (.seq (.region true [mv 8 0,oa 9 .aW 8,of 10 (.fld 0) [.t 9] 2,of 11 (.load false 1) [.t 10] 2,oa 12 .aW 11,of 13 (.load true 17) [.t 12] 1,of 14 (.Ap F.lC) [.t 13] 1,mv 15 0,oa 16 .aW 15,of 17 (.fld 1) [.t 16] 2,of 18 (.load false 1) [.t 17] 2,on 19 (.mkMap 0) [],on 20 (.build [.slice true [],.slice true [],.slice true [],.int .i64 0,.int .i64 0,.slice true [],.int .i64 0,.slice true [],.int .i64 0,.int .i64 0,.int .i64 0,.slice true [],.int .i64 0,.int .i64 0,.int .i64 0,.int .i64 0,.int .i64 0,.slice true [],.slice true [],.map none,.int .i64 0,.slice true []] [(0,17),(17,1),(19,1)]) [.t 14,.t 18,.t 19],oa 21 (.box 1) 20,on 5 (.alloc 2 [.nilPtr]) [],os (.store 1) [.t 5,.t 21] 6] 3 [0,3,4,5] []) (.seq (.seq (rg [mv 22 0,oa 23 (.mkF (.func F.gZ) 1) 22] 0 [3,4,5,23]) (.block 0 (.xB (.t 23) [24,25] [3,5] (.seq (rg [mv 6 24] 0 [3,5,6,25]) (rg [mv 7 25] 0 [3,5,6,7])) (.block 1 (.seq (rg [mv 26 6,lo 27 3,ob 28 (.bin .neq) 26 27] 0 [5,7,28]) (.cond (.t 28) (rg [lo 29 5,mv 30 7,ob 31 (.call F.bF) 29 30] 0 []) .skip)))))) (.seq (rg [lo 32 5,mv 4 32] 0 [4]) .ret))))
def uq:List aJ:=[.tmp 4]
theorem Gg:aC C.P F.iM 2 tH uq=true:=by kernel_rfl
def rE:aB:=(.seq (.region false [oa 2 (.box 0) 0,on 4 (.jV 1) [.c (.slice true [])],mk 5 (kI 0)] 1 [2] [2]) (.seq (rg [oa 13 (.fld 0) 2,lo 14 13,oa 15 .aW 14,oa 16 (.fld 0) 15,oa 17 (.fld 0) 16,oa 18 (.load true 2) 17,oa 19 (.ak F.P6) 18,mv 12 19,oa 20 (.ext 0) 12,oa 21 (.ext 1) 12,oa 22 (.ext 2) 12,mv 6 20,mv 7 21,mv 8 22] 0 [2,6,8]) (.seq (rg [on 9 (.jV 1) [.c (.slice true [])]] 0 [2,6,8,9]) (.seq (.seq (rg [oa 23 (.fld 0) 2,lo 24 23,oa 25 .aW 24,oa 26 (.fld 0) 25,oa 27 (.fld 0) 26,oa 28 (.fld 1) 27,lo 29 28,oa 30 .len 29,mk 31 (kI 0)] 0 [6,8,9,29,30,31]) (.block 0 (.loop (.seq (rg [ob 32 (.bin .lss) 31 30] 0 [6,8,9,29,30,31,32]) (.seq (.cond (.t 32) .skip (.exit 0)) (.seq (.block 1 (.seq (rg [ob 33 (.bC 1) 29 31,lo 34 33,mv 11 34] 0 [6,8,9,11,29,30,31]) (.region true [mv 35 9,mv 36 6,mv 37 11,of 38 (.bC 2) [.t 36,.t 37] 1,of 39 (.fld 0) [.t 38] 1,of 40 (.load false 1) [.t 39] 1,mv 41 6,mv 42 11,of 43 (.bC 2) [.t 41,.t 42] 1,of 44 (.fld 1) [.t 43] 1,of 45 (.load false 1) [.t 44] 1,of 46 (.iH 1 [.int .i64 0,.int .i64 0] [0,1]) [.t 40,.t 45] 1,ob 47 (.app 1 true) 35 46,mv 9 47] 0 [6,8,9,29,30,31] []))) (rg [oc 48 (.bin .add) 31 (kI 1),mv 31 48] 0 [6,8,9,29,30,31]))))))) (.seq (rg [mv 49 9,mv 50 8,mv 4 49,mv 5 50] 0 [4,5]) .ret)))))
def rV:List aJ:=[.tmp 4, .tmp 5]
theorem ER:aC C.P F.fB 2 rE rV=true:=by kernel_rfl
def kE:aB:=(.seq (.region false [oa 2 (.box 0) 0,mk 4 (.c (.slice true [])),mk 5 (kI 0)] 1 [2] [2]) (.seq (rg [oa 6 (.fld 0) 2,lo 7 6,oa 8 .aW 7,oa 9 (.fld 18) 8,lo 10 9,oa 11 (.ak F.yt) 10,oa 12 (.Ap F.pF) 11,mv 4 12,mk 5 (kI 0)] 0 [4,5]) .ret))
def kG:List aJ:=[.tmp 4, .tmp 5]
theorem qh:aC C.P F.dX 2 kE kG=true:=by kernel_rfl
def qj:aB:=(.seq (.region false [oa 2 (.box 0) 0,on 4 (.jV 1) [.c (.slice true [])],mk 5 (kI 0)] 1 [2] [2]) (.seq (rg [on 6 (.jV 1) [.c (.slice true [])]] 0 [2,6]) (.seq (.seq (rg [oa 10 (.fld 0) 2,lo 11 10,oa 12 .aW 11,oa 13 (.fld 0) 12,oa 14 (.fld 0) 13,oa 15 (.fld 1) 14,lo 16 15,oa 17 .len 16,mk 18 (kI 0)] 0 [2,6,17,18]) (.block 0 (.loop (.seq (rg [ob 19 (.bin .lss) 18 17] 0 [2,6,17,18,19]) (.seq (.cond (.t 19) .skip (.exit 0)) (.seq (.block 1 (.seq (rg [mv 20 18,mv 7 20] 0 [2,6,7,17,18]) (.seq (.region false [oa 22 (.fld 0) 2,lo 23 22,oa 24 .aW 23,oa 25 (.fld 19) 24,lo 26 25,mv 27 7,ob 28 (.NM true [] (.agg [.int .i64 0,.int .i64 0])) 26 27,mv 21 28,oa 29 (.ext 0) 21,oa 30 (.ext 1) 21,on 8 (.alloc 0 [.int .i64 0,.int .i64 0]) [],os (.store 2) [.t 8,.t 29] 0,mv 9 30] 1 [2,6,7,8,9,17,18] [8]) (.seq (rg [mv 31 9] 0 [2,6,7,8,17,18,31]) (.cond (.t 31) (rg [mv 32 6,mv 33 7,oa 34 (.fld 0) 8,lo 35 34,oa 36 (.fld 1) 8,lo 37 36,on 38 (.iH 1 [.int .i64 0,.int .i64 0,.int .i64 0] [0,1,2]) [.t 33,.t 35,.t 37],ob 39 (.app 1 true) 32 38,mv 6 39] 0 [2,6,17,18]) .skip))))) (rg [oc 40 (.bin .add) 18 (kI 1),mv 18 40] 0 [2,6,17,18]))))))) (.seq (rg [mv 41 6,mv 4 41,mk 5 (kI 0)] 0 [4,5]) .ret))))
def qw:List aJ:=[.tmp 4, .tmp 5]
theorem DX:aC C.P F.dW 2 qj qw=true:=by kernel_rfl
def lK:aB:=(.seq (.region false [oa 2 (.box 0) 0,mk 4 (.c (.slice true [])),mk 5 (kI 0)] 1 [1,2] [2]) (.seq (.seq (.region true [of 6 (.fld 1) [.t 2] 1,of 7 (.load false 1) [.t 6] 1,mv 8 1,of 9 (.bC 1) [.t 8,kI 0] 1,of 10 (.load false 1) [.t 9] 1,ob 11 (.ak F.dL) 7 10,oa 12 (.un .not) 11] 0 [1,2,12] []) (.cond (.t 12) (.seq (rg [mk 4 (.c (.slice true [])),mk 5 (kI 2)] 0 [4,5]) .ret) .skip)) (.seq (.region true [of 13 (.fld 0) [.t 2] 1,of 14 (.load false 1) [.t 13] 1,mv 15 1,of 16 (.bC 1) [.t 15,kI 0] 1,of 17 (.load false 1) [.t 16] 1,ob 18 (.ak F.jL) 14 17,of 19 (.qc 1 [.int .i64 0] [0]) [.t 18] 1,mv 4 19,mk 5 (kI 0)] 0 [4,5] []) .ret)))
def lS:List aJ:=[.tmp 4, .tmp 5]
theorem sU:aC C.P F.fH 2 lK lS=true:=by kernel_rfl
def dw:aB:=(.seq (.region false [oa 2 (.box 0) 0,on 4 (.jV 1) [.c (.slice true [])],mk 5 (kI 0)] 1 [1,2] [2]) (.seq (.region true [mv 16 1,of 17 (.bC 1) [.t 16,kI 0] 1,of 18 (.load false 1) [.t 17] 1,mv 19 1,of 20 (.bC 1) [.t 19,kI 1] 1,of 21 (.load false 1) [.t 20] 1,mv 22 1,of 23 (.bC 1) [.t 22,kI 2] 1,of 24 (.load false 1) [.t 23] 1,mv 6 18,mv 7 21,mv 8 24] 0 [2,6,7,8] []) (.seq (.seq (rg [oa 25 (.fld 1) 2,lo 26 25,mv 27 6,ob 28 (.ak F.dL) 26 27,oa 29 (.un .not) 28,mv 30 29,oF 31 .mov [.t 7] 30 0,oF 32 (.ak F.fZ) [.t 31] 30 0,oF 33 (.un .not) [.t 32] 30 0,on 34 .pick [.t 30,.c (.bool true),.t 33],mv 35 34,oF 36 .mov [.t 8] 35 0,oF 37 (.ak F.fZ) [.t 36] 35 0,oF 38 (.un .not) [.t 37] 35 0,on 39 .pick [.t 35,.c (.bool true),.t 38],mv 40 39,oF 41 .mov [.t 8] 40 0,oF 42 .mov [.t 7] 40 0,oF 43 (.bin .sub) [.t 41,.t 42] 40 0,oF 44 (.ak F.dh) [.t 43,kI 0,kI 10] 40 0,oF 45 (.un .not) [.t 44] 40 0,on 46 .pick [.t 40,.c (.bool true),.t 45]] 0 [2,6,7,8,46]) (.cond (.t 46) (.seq (rg [on 4 (.jV 1) [.c (.slice true [])],mk 5 (kI 2)] 0 [4,5]) .ret) .skip)) (.seq (.region false [oa 48 (.fld 0) 2,lo 49 48,oa 50 .aW 49,oa 51 (.fld 19) 50,lo 52 51,mv 53 6,ob 54 (.NM true [] (.agg [.int .i64 0,.int .i64 0])) 52 53,mv 47 54,oa 55 (.ext 0) 47,oa 56 (.ext 1) 47,on 9 (.alloc 0 [.int .i64 0,.int .i64 0]) [],os (.store 2) [.t 9,.t 55] 0,mv 10 56] 1 [2,6,7,8,9,10] [9]) (.seq (.seq (rg [mv 57 10,oa 58 (.un .not) 57] 0 [2,6,7,8,9,58]) (.cond (.t 58) (.seq (rg [on 4 (.jV 1) [.c (.slice true [])],mk 5 (kI 7)] 0 [4,5]) .ret) .skip)) (.seq (.region true [of 60 (.fld 0) [.t 2] 1,of 61 (.load false 1) [.t 60] 1,oa 62 .aW 61,of 63 (.fld 0) [.t 62] 1,of 64 (.fld 0) [.t 63] 1,of 65 (.load true 2) [.t 64] 1,mv 66 7,mv 67 8,mv 68 6,of 69 (.load true 2) [.t 9] 1,on 70 (.ak F.Ju) [.t 65,.t 66,.t 67,.t 68,.t 69],mv 59 70,oa 71 (.ext 0) 59,oa 72 (.ext 1) 59,mv 11 71,mv 12 72] 0 [11,12] []) (.seq (rg [on 13 (.jV 1) [.c (.slice true [])]] 0 [11,12,13]) (.seq (.seq (rg [mv 73 11,oa 74 .len 73,mk 75 (kI 0)] 0 [12,13,73,74,75]) (.block 0 (.loop (.seq (rg [ob 76 (.bin .lss) 75 74] 0 [12,13,73,74,75,76]) (.seq (.cond (.t 76) .skip (.exit 0)) (.seq (.block 1 (.seq (.region false [ob 77 (.bC 3) 73 75,oa 78 (.load true 3) 77,on 15 (.alloc 0 [.int .i64 0,.int .i64 0,.int .i64 0]) [],os (.store 3) [.t 15,.t 78] 0] 1 [12,13,15,73,74,75] [15]) (rg [mv 79 13,oa 80 (.fld 0) 15,lo 81 80,oa 82 (.fld 1) 15,oa 83 (.fld 0) 82,lo 84 83,oa 85 (.fld 1) 15,oa 86 (.fld 1) 85,lo 87 86,on 88 (.iH 1 [.int .i64 0,.int .i64 0,.int .i64 0] [0,1,2]) [.t 81,.t 84,.t 87],ob 89 (.app 1 true) 79 88,mv 13 89] 0 [12,13,73,74,75]))) (rg [oc 90 (.bin .add) 75 (kI 1),mv 75 90] 0 [12,13,73,74,75]))))))) (.seq (rg [mv 91 13,mv 92 12,mv 4 91,mv 5 92] 0 [4,5]) .ret)))))))))
def dA:List aJ:=[.tmp 4, .tmp 5]
theorem dS:aC C.P F.fM 2 dw dA=true:=by kernel_rfl
def ji:aB:=(.seq (.region false [oa 2 (.box 0) 0,mk 4 (.c (.slice true [])),mk 5 (kI 0)] 1 [1,2] [2]) (.seq (.seq (.region true [of 8 (.fld 1) [.t 2] 1,of 9 (.load false 1) [.t 8] 1,mv 10 1,of 11 (.bC 1) [.t 10,kI 0] 1,of 12 (.load false 1) [.t 11] 1,ob 13 (.ak F.dL) 9 12,oa 14 (.un .not) 13,mv 15 14,oF 16 (.fld 1) [.t 2] 15 1,oF 17 (.load false 1) [.t 16] 15 1,oF 18 .mov [.t 1] 15 0,oF 19 (.bC 1) [.t 18,kI 1] 15 1,oF 20 (.load false 1) [.t 19] 15 1,oF 21 (.ak F.fG) [.t 17,.t 20] 15 0,oF 22 (.un .not) [.t 21] 15 0,on 23 .pick [.t 15,.c (.bool true),.t 22]] 0 [1,2,23] []) (.cond (.t 23) (.seq (rg [mk 4 (.c (.slice true [])),mk 5 (kI 2)] 0 [4,5]) .ret) .skip)) (.seq (.region true [of 25 (.fld 0) [.t 2] 1,of 26 (.load false 1) [.t 25] 1,oa 27 .aW 26,of 28 (.fld 0) [.t 27] 1,of 29 (.fld 0) [.t 28] 1,of 30 (.load true 2) [.t 29] 1,mv 31 1,of 32 (.bC 1) [.t 31,kI 0] 1,of 33 (.load false 1) [.t 32] 1,of 34 (.fld 0) [.t 2] 1,of 35 (.load false 1) [.t 34] 1,oa 36 .aW 35,of 37 (.fld 0) [.t 36] 1,of 38 (.fld 2) [.t 37] 1,of 39 (.load false 1) [.t 38] 1,mv 40 1,of 41 (.bC 1) [.t 40,kI 0] 1,of 42 (.load false 1) [.t 41] 1,of 43 (.bC 2) [.t 39,.t 42] 1,of 44 (.load true 2) [.t 43] 1,of 45 (.load true 2) [.t 2] 1,mv 46 1,of 47 (.bC 1) [.t 46,kI 1] 1,of 48 (.load false 1) [.t 47] 1,ob 49 (.ak F.jK) 45 48,on 50 (.ak F.Jv) [.t 30,.t 33,.t 44,.t 49],mv 24 50,oa 51 (.ext 0) 24,oa 52 (.ext 1) 24,mv 6 51,mv 7 52] 0 [6,7] []) (.seq (rg [mv 53 6,oa 54 (.qc 1 [.int .i64 0] [0]) 53,mv 55 7,mv 4 54,mv 5 55] 0 [4,5]) .ret))))
def jo:List aJ:=[.tmp 4, .tmp 5]
theorem mO:aC C.P F.gG 2 ji jo=true:=by kernel_rfl
def rG:aB:=(.seq (.region false [oa 2 (.box 0) 0,mk 4 (.c (.slice true [])),mk 5 (kI 0)] 1 [2] [2]) (.scope (.seq (rg [mk 6 (kI 0)] 0 [2,6]) (.seq (.label 0) (.seq (.seq (rg [oa 10 (.fld 0) 2,lo 11 10,oa 12 .aW 11,oa 13 (.fld 17) 12,lo 14 13,oa 15 .len 14,mk 16 (kI 0)] 0 [2,6,15,16]) (.block 0 (.loop (.seq (rg [ob 17 (.bin .lss) 16 15] 0 [2,6,15,16,17]) (.seq (.cond (.t 17) .skip (.exit 0)) (.seq (.block 1 (.seq (rg [mv 18 16,mv 7 18] 0 [2,6,7,15,16]) (.seq (rg [oa 19 (.fld 0) 2,lo 20 19,oa 21 .aW 20,oa 22 (.fld 0) 21,oa 23 (.fld 2) 22,lo 24 23,oa 25 .len 24,mk 26 (kI 0)] 0 [2,6,7,15,16,24,25,26]) (.block 2 (.loop (.seq (rg [ob 27 (.bin .lss) 26 25] 0 [2,6,7,15,16,24,25,26,27]) (.seq (.cond (.t 27) .skip (.exit 2)) (.seq (.block 3 (.seq (.region false [mv 28 26,ob 29 (.bC 2) 24 26,oa 30 (.load true 2) 29,on 9 (.alloc 0 [.int .i64 0,.int .i64 0]) [],mv 8 28,os (.store 2) [.t 9,.t 30] 0] 1 [2,6,7,8,9,15,16,24,25,26] [9]) (.seq (.region true [of 31 (.fld 0) [.t 2] 1,of 32 (.load false 1) [.t 31] 1,mv 33 8,of 34 (.load true 2) [.t 9] 1,of 35 (.load true 2) [.t 2] 1,mv 36 7,oc 37 (.bin .add) 36 (kI 1),ob 38 (.ak F.jK) 35 37,on 39 (.ak F.kM) [.t 32,.t 33,.t 34,.t 38],oa 40 (.un .not) 39] 0 [2,6,7,15,16,24,25,26,40] []) (.cond (.t 40) (.seq (rg [mv 41 6,oc 42 (.bin .add) 41 (kI 1),mv 6 42] 0 [2,6,15,16]) (.exit 1)) .skip)))) (rg [oc 43 (.bin .add) 26 (kI 1),mv 26 43] 0 [2,6,7,15,16,24,25,26]))))))))) (rg [oc 44 (.bin .add) 16 (kI 1),mv 16 44] 0 [2,6,15,16]))))))) (.seq (rg [mv 45 6,oa 46 (.qc 1 [.int .i64 0] [0]) 45,mv 4 46,mk 5 (kI 0)] 0 [4,5]) .ret))))))
def rX:List aJ:=[.tmp 4, .tmp 5]
theorem ET:aC C.P F.fD 2 rG rX=true:=by kernel_rfl
def iJ:aB:=(.seq (.region false [oa 2 (.box 0) 0,mk 4 (.c (.slice true [])),mk 5 (kI 0)] 1 [1,2] [2]) (.seq (.seq (.region true [of 8 (.fld 1) [.t 2] 1,of 9 (.load false 1) [.t 8] 1,mv 10 1,of 11 (.bC 1) [.t 10,kI 0] 1,of 12 (.load false 1) [.t 11] 1,ob 13 (.ak F.fG) 9 12,oa 14 (.un .not) 13] 0 [1,2,14] []) (.cond (.t 14) (.seq (rg [mk 4 (.c (.slice true [])),mk 5 (kI 2)] 0 [4,5]) .ret) .skip)) (.seq (.region true [mv 16 1,of 17 (.bC 1) [.t 16,kI 0] 1,of 18 (.load false 1) [.t 17] 1,of 19 (.fld 0) [.t 2] 1,of 20 (.load false 1) [.t 19] 1,oa 21 .aW 20,of 22 (.fld 17) [.t 21] 1,of 23 (.load false 1) [.t 22] 1,of 24 .len [.t 23] 1,oa 25 (.mkF (.func F.iW) 0) 2,on 26 (.ak F.pY) [.t 18,.t 24,.t 25],mv 15 26,oa 27 (.ext 0) 15,oa 28 (.ext 1) 15,mv 6 27,mv 7 28] 0 [6,7] []) (.seq (.seq (rg [mv 29 7,oa 30 (.un .not) 29] 0 [6,30]) (.cond (.t 30) (.seq (rg [mk 4 (.c (.slice true [])),mk 5 (kI 5)] 0 [4,5]) .ret) .skip)) (.seq (rg [mv 31 6,oa 32 (.qc 1 [.int .i64 0] [0]) 31,mv 4 32,mk 5 (kI 0)] 0 [4,5]) .ret)))))
def iK:List aJ:=[.tmp 4, .tmp 5]
theorem kX:aC C.P F.fC 2 iJ iK=true:=by kernel_rfl
def lM:aB:=(.seq (.region false [oa 2 (.box 0) 0,mk 4 (.c (.slice true [])),mk 5 (kI 0)] 1 [1,2] [2]) (.seq (.seq (.region true [of 8 (.fld 1) [.t 2] 1,of 9 (.load false 1) [.t 8] 1,mv 10 1,of 11 (.bC 1) [.t 10,kI 0] 1,of 12 (.load false 1) [.t 11] 1,ob 13 (.ak F.fG) 9 12,oa 14 (.un .not) 13] 0 [1,2,14] []) (.cond (.t 14) (.seq (rg [mk 4 (.c (.slice true [])),mk 5 (kI 2)] 0 [4,5]) .ret) .skip)) (.seq (.region true [of 16 (.fld 0) [.t 2] 1,of 17 (.load false 1) [.t 16] 1,oa 18 .aW 17,of 19 (.fld 0) [.t 18] 1,of 20 (.fld 6) [.t 19] 1,of 21 (.load true 2) [.t 20] 1,of 22 (.fld 0) [.t 2] 1,of 23 (.load false 1) [.t 22] 1,oa 24 .aW 23,of 25 (.fld 17) [.t 24] 1,of 26 (.load false 1) [.t 25] 1,mv 27 1,of 28 (.bC 1) [.t 27,kI 0] 1,of 29 (.load false 1) [.t 28] 1,oc 30 (.bin .sub) 29 (kI 1),of 31 (.bC 2) [.t 26,.t 30] 1,of 32 (.fld 0) [.t 31] 1,of 33 (.load false 1) [.t 32] 1,ob 34 (.ak F.Sz) 21 33,mv 15 34,oa 35 (.ext 0) 15,oa 36 (.ext 1) 15,on 6 (.alloc 0 [.int .i64 0,.int .i64 0,.int .i64 0]) [],os (.store 3) [.t 6,.t 35] 4,mv 7 36] 1 [6,7] [6]) (.seq (rg [oa 37 (.fld 1) 6,lo 38 37,oa 39 (.fld 2) 6,lo 40 39,ob 41 (.qc 1 [.int .i64 0,.int .i64 0] [0,1]) 38 40,mv 42 7,mv 4 41,mv 5 42] 0 [4,5]) .ret))))
def lT:List aJ:=[.tmp 4, .tmp 5]
theorem sV:aC C.P F.fK 2 lM lT=true:=by kernel_rfl
def tJ:aB:=(.seq (.region false [oa 2 (.box 0) 0,mk 4 (.c (.slice true [])),mk 5 (kI 0)] 1 [1,2] [2]) (.seq (.region true [of 9 (.fld 0) [.t 2] 1,of 10 (.load false 1) [.t 9] 1,oa 11 .aW 10,of 12 (.fld 0) [.t 11] 1,of 13 (.fld 4) [.t 12] 1,of 14 (.load true 2) [.t 13] 1,mv 15 1,of 16 (.bC 1) [.t 15,kI 0] 1,of 17 (.load false 1) [.t 16] 1,ob 18 (.ak F.Ei) 14 17,mv 8 18,oa 19 (.ext 0) 8,oa 20 (.ext 1) 8,on 6 (.alloc 0 [.int .i64 0,.int .i64 0,.int .i64 0]) [],os (.store 3) [.t 6,.t 19] 4,mv 7 20] 1 [6,7] [6]) (.seq (rg [oa 21 (.fld 0) 6,lo 22 21,oa 23 (.fld 1) 6,lo 24 23,oa 25 (.fld 2) 6,lo 26 25,on 27 (.qc 1 [.int .i64 0,.int .i64 0,.int .i64 0] [0,1,2]) [.t 22,.t 24,.t 26],mv 28 7,mv 4 27,mv 5 28] 0 [4,5]) .ret)))
def uw:List aJ:=[.tmp 4, .tmp 5]
theorem Gh:aC C.P F.fJ 2 tJ uw=true:=by kernel_rfl
def tK:aB:=(.seq (.region false [oa 2 (.box 0) 0,mk 4 (.c (.slice true [])),mk 5 (kI 0)] 1 [2] [2]) (.seq (rg [oa 6 (.fld 0) 2,lo 7 6,oa 8 .aW 7,oa 9 (.fld 20) 8,lo 10 9,oa 11 (.qc 1 [.int .i64 0] [0]) 10,mv 4 11,mk 5 (kI 0)] 0 [4,5]) .ret))
def uy:List aJ:=[.tmp 4, .tmp 5]
theorem Gi:aC C.P F.fO 2 tK uy=true:=by kernel_rfl
def jw:aB:=(.seq (.region false [oa 2 (.box 0) 0,mk 4 (.c (.slice true [])),mk 5 (kI 0)] 1 [2,4,5] [2]) (.seq (rg [on 6 (.alloc 0 [.slice true []]) []] 1 [2,4,5,6]) (.seq (.seq (rg [oa 8 (.fld 1) 2,lo 9 8,oa 10 (.mkF (.func F.gZ) 1) 9] 0 [4,5,6,10]) (.block 0 (.xB (.t 10) [11,12] [6] (rg [mv 7 11] 0 [6,7]) (.block 1 (rg [lo 13 6,mv 14 7,oa 15 (.iH 1 [.int .i64 0] [0]) 14,ob 16 (.app 1 true) 13 15,os (.store 1) [.t 6,.t 16] 0] 0 []))))) (.seq (rg [lo 17 6,mv 4 17,mk 5 (kI 0)] 0 [4,5]) .ret))))
def jy:List aJ:=[.tmp 4, .tmp 5]
theorem oq:aC C.P F.dK 2 jw jy=true:=by kernel_rfl
def yK:aB:=(.seq (.region false [oa 1 (.box 0) 0,mk 2 (.c (.bool false))] 1 [1] [1]) (.seq (.seq (rg [oa 10 (.fld 0) 1,oa 11 (.load true 2) 10,oa 12 (.ak F.P5) 11,oc 13 (.bin .neq) 12 (kI 0),mv 14 13,oF 15 (.fld 2) [.t 1] 14 0,oF 16 (.load false 1) [.t 15] 14 0,oF 17 .len [.t 16] 14 0,oF 18 (.fld 0) [.t 1] 14 0,oF 19 (.fld 1) [.t 18] 14 0,oF 20 (.load false 1) [.t 19] 14 0,oF 21 .len [.t 20] 14 0,oF 22 (.bin .neq) [.t 17,.t 21] 14 0,on 23 .pick [.t 14,.c (.bool true),.t 22],mv 24 23,oF 25 (.fld 3) [.t 1] 24 0,oF 26 (.load false 1) [.t 25] 24 0,oF 27 (.ak F.dh) [.t 26,kI 0,kI 10800] 24 0,oF 28 (.un .not) [.t 27] 24 0,on 29 .pick [.t 24,.c (.bool true),.t 28]] 0 [1,29]) (.cond (.t 29) (.seq (rg [mk 2 (.c (.bool false))] 0 [2]) .ret) .skip)) (.seq (rg [oa 31 (.fld 4) 1,oa 32 (.load true 2) 31,oa 33 (.ak F.Gv) 32,mv 30 33,oa 34 (.ext 0) 30,oa 35 (.ext 1) 30,mv 3 34,mv 4 35] 0 [1,4]) (.seq (rg [oa 37 (.fld 6) 1,oa 38 (.load true 2) 37,oa 39 (.fld 8) 1,oa 40 (.load true 3) 39,oa 41 (.fld 11) 1,lo 42 41,oa 43 (.fld 12) 1,lo 44 43,on 45 (.ak F.Fe) [.t 38,.t 40,.t 42,.t 44],mv 36 45,oa 46 (.ext 0) 36,oa 47 (.ext 1) 36,mv 5 46,mv 6 47] 0 [1,4,6]) (.seq (rg [oa 49 (.fld 13) 1,lo 50 49,oa 51 (.fld 14) 1,lo 52 51,oa 53 (.fld 15) 1,lo 54 53,oa 55 (.fld 16) 1,lo 56 55,on 57 (.build [.slice true [],.int .i64 0,.int .i64 0,.int .i64 0,.int .i64 0,.int .i64 0] [(1,1),(2,1),(3,1),(4,1)]) [.t 50,.t 52,.t 54,.t 56],oa 58 (.ak F.Ny) 57,mv 48 58,oa 59 (.ext 0) 48,oa 60 (.ext 1) 48,oa 61 (.ext 2) 48,mv 7 59,mv 8 60,mv 9 61] 0 [1,4,6,9]) (.seq (rg [mv 62 4,oc 63 (.bin .eql) 62 (kI 0),mv 64 63,ot 65 .mov [.t 6] 64 0,ot 66 (.bin .eql) [.t 65,kI 0] 64 0,on 67 .pick [.t 64,.t 66,.c (.bool false)],mv 68 67,ot 69 .mov [.t 9] 68 0,ot 70 (.bin .eql) [.t 69,kI 0] 68 0,on 71 .pick [.t 68,.t 70,.c (.bool false)],mv 72 71,ot 73 (.fld 2) [.t 1] 72 0,ot 74 (.load false 1) [.t 73] 72 0,ot 75 (.ak F.fE) [.t 74,.c (.func (.func F.lF) [] [])] 72 0,ot 76 (.un .not) [.t 75] 72 0,on 77 .pick [.t 72,.t 76,.c (.bool false)],mv 2 77] 0 [2]) .ret))))))
def yT:List aJ:=[.tmp 2]
theorem Kz:aC C.P F.vw 1 yK yT=true:=by kernel_rfl
def Ad:aB:=(.seq (rg [oa 1 (.box 0) 0,on 2 (.alloc 1 [.slice true [],.slice true [],.slice true [],.int .i64 0,.int .i64 0,.slice true [],.int .i64 0,.slice true [],.int .i64 0,.int .i64 0,.int .i64 0,.slice true [],.int .i64 0,.int .i64 0,.int .i64 0,.int .i64 0,.int .i64 0]) []] 2 [1,2]) (.seq (.region true [of 3 (.fld 0) [.t 1] 2,of 4 (.fld 0) [.t 3] 2,of 5 (.load false 1) [.t 4] 2,of 6 (.Ap F.iL) [.t 5] 1,of 7 (.fld 0) [.t 1] 2,of 8 (.fld 1) [.t 7] 2,of 9 (.load false 1) [.t 8] 2,of 10 (.Ap F.slices_Clone_int) [.t 9] 1,of 11 (.fld 0) [.t 1] 2,of 12 (.fld 0) [.t 11] 2,os (.store 1) [.t 12,.t 6] 0,of 13 (.fld 0) [.t 1] 2,of 14 (.fld 1) [.t 13] 2,os (.store 1) [.t 14,.t 10] 0] 0 [1,2] []) (.seq (.region true [of 15 (.fld 2) [.t 1] 2,of 16 (.load false 1) [.t 15] 2,of 17 (.Ap F.iR) [.t 16] 1,of 18 (.fld 11) [.t 1] 2,of 19 (.load false 1) [.t 18] 2,of 20 (.Ap F.kJ) [.t 19] 1,of 21 (.fld 2) [.t 1] 2,os (.store 1) [.t 21,.t 17] 0,of 22 (.fld 11) [.t 1] 2,os (.store 1) [.t 22,.t 20] 0] 0 [1,2] []) (.seq (.region true [of 23 (.fld 4) [.t 1] 2,of 24 (.fld 1) [.t 23] 2,of 25 (.load false 1) [.t 24] 2,of 26 (.Ap F.slices_Clone_int) [.t 25] 1,of 27 (.fld 6) [.t 1] 2,of 28 (.fld 1) [.t 27] 2,of 29 (.load false 1) [.t 28] 2,of 30 (.Ap F.slices_Clone_int) [.t 29] 1,of 31 (.fld 4) [.t 1] 2,of 32 (.fld 1) [.t 31] 2,os (.store 1) [.t 32,.t 26] 0,of 33 (.fld 6) [.t 1] 2,of 34 (.fld 1) [.t 33] 2,os (.store 1) [.t 34,.t 30] 0] 0 [1,2] []) (.seq (rg [oa 35 (.load true 17) 1,os (.store 17) [.t 2,.t 35] 0] 0 [2]) .ret)))))
def Ar:List aJ:=[.cell 2 true 17]
theorem Ld:aC C.P F.lC 1 Ad Ar=true:=by kernel_rfl
def Ea:aB:=(.seq (.region false [oa 1 (.box 0) 0,on 2 (.jV 2) [.c (.slice true [])]] 1 [1] [1]) (.seq (rg [oa 13 (.fld 6) 1,oa 14 (.load true 2) 13,oa 15 (.fld 12) 1,lo 16 15,on 17 (.build [.int .i64 0,.int .i64 0,.int .i64 0] [(0,1),(1,1),(2,1)]) [.t 16,kI 1,kI 1],ob 18 (.ak F.Qm) 14 17,mv 12 18,oa 19 (.ext 0) 12,oa 20 (.ext 1) 12,mv 3 19,mv 4 20] 0 [1,3]) (.seq (rg [oa 22 (.fld 6) 1,oa 23 (.load true 2) 22,oa 24 (.fld 12) 1,lo 25 24,on 26 (.build [.int .i64 0,.int .i64 0,.int .i64 0] [(0,1),(1,1),(2,1)]) [.t 25,kI 12,kI 31],ob 27 (.ak F.Qm) 23 26,mv 21 27,oa 28 (.ext 0) 21,oa 29 (.ext 1) 21,mv 5 28,mv 6 29] 0 [1,3,5]) (.seq (rg [oa 31 (.fld 6) 1,oa 32 (.load true 2) 31,oa 33 (.fld 8) 1,oa 34 (.load true 3) 33,oa 35 (.fld 11) 1,lo 36 35,oa 37 (.fld 12) 1,lo 38 37,on 39 (.ak F.Fe) [.t 32,.t 34,.t 36,.t 38],mv 30 39,oa 40 (.ext 0) 30,oa 41 (.ext 1) 30,mv 7 40,mv 8 41] 0 [3,5,7]) (.seq (rg [on 9 (.jV 2) [.c (.slice true [])]] 0 [3,5,7,9]) (.seq (.seq (rg [mv 42 5,mv 43 3,ob 44 (.bin .sub) 42 43,oc 45 (.bin .add) 44 (kI 1),mk 46 (kI 0)] 0 [3,7,9,45,46]) (.block 0 (.loop (.seq (rg [ob 47 (.bin .lss) 46 45] 0 [3,7,9,45,46,47]) (.seq (.cond (.t 47) .skip (.exit 0)) (.seq (.block 1 (.seq (rg [mv 48 46,mv 10 48] 0 [3,7,9,10,45,46]) (.seq (rg [mv 49 3,mv 50 10,ob 51 (.bin .add) 49 50,mv 11 51] 0 [3,7,9,11,45,46]) (rg [mv 52 9,mv 53 11,mv 54 11,oc 55 (.bin .add) 54 (kI 4),oc 56 (.bin .rem) 55 (kI 7),oc 57 (.bin .neq) 56 (kI 0),mv 58 57,ot 59 .mov [.t 7] 58 0,ot 60 .mov [.t 11] 58 0,ot 61 (.ak F.slices_Contains_int) [.t 59,.t 60] 58 0,ot 62 (.un .not) [.t 61] 58 0,on 63 .pick [.t 58,.t 62,.c (.bool false)],ob 64 (.build [.int .i64 0,.bool false] [(0,1),(1,1)]) 53 63,oa 65 (.iH 2 [.agg [.int .i64 0,.bool false]] [0]) 64,ob 66 (.app 2 false) 52 65,mv 9 66] 0 [3,7,9,45,46])))) (rg [oc 67 (.bin .add) 46 (kI 1),mv 46 67] 0 [3,7,9,45,46]))))))) (.seq (rg [mv 68 9,mv 2 68] 0 [2]) .ret)))))))
def Eu:List aJ:=[.tmp 2]
theorem Px:aC C.P F.Bd 1 Ea Eu=true:=by kernel_rfl
def wX:aB:=(.seq (.region false [oa 1 (.box 0) 0,mk 2 (.c (.bool false))] 1 [1] [1]) (.seq (.seq (.region true [of 3 (.fld 0) [.t 1] 1,of 4 (.load false 1) [.t 3] 1,on 5 (.ak F.dh) [.t 4,kI 1,kI 6],oa 6 (.un .not) 5,mv 7 6,oF 8 (.fld 1) [.t 1] 7 1,oF 9 (.load false 1) [.t 8] 7 1,oF 10 .len [.t 9] 7 1,oF 11 (.ak F.mM) [] 7 0,oF 12 (.fld 0) [.t 1] 7 1,oF 13 (.load false 1) [.t 12] 7 1,oF 14 (.bin .sub) [.t 13,kI 1] 7 0,oF 15 (.WQ true 2 6) [.t 11,.t 14] 7 0,oF 16 (.WH false 1 1) [.t 15] 7 0,oF 17 (.bin .neq) [.t 10,.t 16] 7 0,on 18 .pick [.t 7,.c (.bool true),.t 17]] 0 [1,18] []) (.cond (.t 18) (.seq (rg [mk 2 (.c (.bool false))] 0 [2]) .ret) .skip)) (.seq (rg [oa 19 (.fld 1) 1,lo 20 19,oc 21 (.ak F.dY) 20 (.c (.func (.func F.kK) [] [])),oa 22 (.un .not) 21,mv 2 22] 0 [2]) .ret)))
def xM:List aJ:=[.tmp 2]
theorem Jc:aC C.P F.jB 1 wX xM=true:=by kernel_rfl
def Ae:aB:=(.seq (.region false [oa 1 (.box 0) 0,mk 2 (.c (.nilIface))] 1 [1] [1]) (.seq (rg [oa 4 (.fld 1) 1,lo 5 4,mv 3 5] 0 [1,3]) (.seq (.seq (rg [oa 6 (.fld 0) 1,lo 7 6] 0 [3,7]) (.block 0 (.seq (rg [oc 9 (.bin .eql) 7 (kI 1),mv 8 9] 0 [3,7,8]) (.cond (.t 8) (.seq (rg [mv 10 3,oc 11 (.bC 1) 10 (kI 0),lo 12 11,oa 13 (.build [.int .i64 0] [(0,1)]) 12,oa 14 (.mkI T.eu) 13,mv 2 14] 0 [2]) .ret) (.seq (rg [oc 16 (.bin .eql) 7 (kI 2),mv 15 16] 0 [3,7,15]) (.cond (.t 15) (.seq (.region true [mv 17 3,of 18 (.bC 1) [.t 17,kI 0] 1,of 19 (.load false 1) [.t 18] 1,mv 20 3,of 21 (.bC 1) [.t 20,kI 1] 1,of 22 (.load false 1) [.t 21] 1,mv 23 3,of 24 (.bC 1) [.t 23,kI 2] 1,of 25 (.load false 1) [.t 24] 1,ob 26 (.build [.int .i64 0,.int .i64 0] [(0,1),(1,1)]) 22 25,ob 27 (.build [.int .i64 0,.int .i64 0,.int .i64 0] [(0,1),(1,2)]) 19 26,oa 28 (.build [.int .i64 0,.int .i64 0,.int .i64 0] [(0,3)]) 27,of 29 (.mkI T.bD) [.t 28] 1,mv 2 29] 0 [2] []) .ret) (.seq (rg [oc 31 (.bin .eql) 7 (kI 3),mv 30 31] 0 [3,7,30]) (.cond (.t 30) (.seq (.region true [mv 32 3,of 33 (.bC 1) [.t 32,kI 0] 1,of 34 (.load false 1) [.t 33] 1,mv 35 3,of 36 (.bC 1) [.t 35,kI 1] 1,of 37 (.load false 1) [.t 36] 1,mv 38 3,of 39 (.bC 1) [.t 38,kI 2] 1,of 40 (.load false 1) [.t 39] 1,ob 41 (.build [.int .i64 0,.int .i64 0] [(0,1),(1,1)]) 37 40,ob 42 (.build [.int .i64 0,.int .i64 0,.int .i64 0] [(0,1),(1,2)]) 34 41,of 43 (.mkI T.dR) [.t 42] 1,mv 2 43] 0 [2] []) .ret) (.seq (rg [oc 45 (.bin .eql) 7 (kI 4),mv 44 45] 0 [3,7,44]) (.cond (.t 44) (.seq (.region true [mv 46 3,of 47 (.bC 1) [.t 46,kI 0] 1,of 48 (.load false 1) [.t 47] 1,mv 49 3,of 50 (.bC 1) [.t 49,kI 1] 1,of 51 (.load false 1) [.t 50] 1,ob 52 (.build [.int .i64 0,.int .i64 0] [(0,1),(1,1)]) 48 51,of 53 (.mkI T.dF) [.t 52] 1,mv 2 53] 0 [2] []) .ret) (.seq (rg [oc 55 (.bin .eql) 7 (kI 5),mv 54 55] 0 [3,54]) (.cond (.t 54) (.seq (rg [mv 56 3,oc 57 (.bC 1) 56 (kI 0),lo 58 57,oa 59 (.build [.int .i64 0] [(0,1)]) 58,oa 60 (.mkI T.eF) 59,mv 2 60] 0 [2]) .ret) .skip)))))))))))) (.seq (rg [mv 61 3,oc 62 (.bC 1) 61 (kI 0),lo 63 62,oa 64 (.build [.int .i64 0] [(0,1)]) 63,oa 65 (.mkI T.aZ) 64,mv 2 65] 0 [2]) .ret))))
def Au:List aJ:=[.tmp 2]
theorem Le:aC C.P F.lD 1 Ae Au=true:=by kernel_rfl
def kD:aB:=(.seq (.region false [lo 5 0,oa 6 (.tas T.aZ (.agg [.int .i64 0])) 5,mv 4 6,oa 7 (.ext 0) 4,oa 8 (.ext 1) 4,on 2 (.alloc 0 [.int .i64 0]) [],os (.store 1) [.t 2,.t 7] 0,mv 3 8] 1 [0,1,2,3] [2]) (.seq (.seq (rg [mv 9 3,oa 10 (.un .not) 9] 0 [0,1,2,10]) (.cond (.t 10) (.seq (.region true [of 11 (.load false 1) [.t 1] 2,on 12 (.JE false 1 F.iM) [.t 0,.t 11,kI (-1)],lo 13 0,ob 14 (.call F.bF) 12 13] 0 [] []) .ret) .skip)) (.seq (.seq (.region true [of 15 (.load false 1) [.t 1] 2,oa 16 .aW 15,of 17 (.fld 3) [.t 16] 2,of 18 (.load false 1) [.t 17] 2,of 19 (.fld 0) [.t 2] 1,of 20 (.load false 1) [.t 19] 1,ob 21 (.bC 1) 18 20,of 22 (.load false 1) [.t 21] 3] 0 [0,1,2,22] []) (.cond (.t 22) (rg [lo 23 0,oa 24 (.build [.nilIface] [(0,1)]) 23,oa 25 (.mkI T.iQ) 24,os .panic [.t 25] 0] 0 [1,2]) .skip)) (rg [lo 26 1,oa 27 (.fld 0) 2,lo 28 27,ob 29 (.call F.iM) 26 28] 0 []))))
def kF:List aJ:=[]
theorem DW:aC C.P F.jh 2 kD kF=true:=by kernel_rfl
end Go.Tel
