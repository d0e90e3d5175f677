/-
  Part 15 of the proof of a law of desks: an abstract machine over the model, contracts of functions, plain laws.
  Conditions: none.
-/
import Derived.Test.YtbefoehadfnkbaaGreatDoorJourneymanNilM13
import Derived.Test.YtbefoehadfnkbaaGreatDoorJourneymanNilM14
set_option linter.all false
set_option maxRecDepth 10000
set_option maxHeartbeats 1000000
open Nat renaming reduceBEq→qA,reduceAdd→qB,reduceSub→qC,reduceEqDiff→qD,reduceLT→qE,reduceLeDiff→qF
namespace Go.Tel
open Go.Am
def Lr:aB:=(.seq (.region false [oa 1 (.box 0) 0,mk 2 (.c (.bool false))] 1 [1] [1]) (.seq (rg [oa 3 (.fld 0) 1,lo 4 3,oa 5 (.ak F.nR) 4,mv 6 5,ot 7 (.fld 1) [.t 1] 6 0,ot 8 (.load false 1) [.t 7] 6 0,ot 9 (.ak F.nR) [.t 8] 6 0,on 10 .pick [.t 6,.t 9,.c (.bool false)],mv 2 10] 0 [2]) .ret))
def LW:List aN:=[.tmp 2]
theorem WB:aC C.P F.AY 1 Lr LW=true:=by kernel_rfl
def Uo:aB:=(.seq (rg [mk 4 (kI 0)] 0 [0,1,4]) (.seq (rg [on 5 (.alloc 0 [.int .i64 0]) [],os (.store 1) [.t 5,kI 0] 0] 1 [0,1,4,5]) (.seq (.seq (rg [mv 6 0,mv 7 1,ob 8 (.ak F.Nh) 6 7] 0 [4,5,8]) (.block 0 (.xG (.t 8) [9] [5] .skip (.block 1 (rg [lo 10 5,oc 11 (.bin .add) 10 (kI 1),os (.store 1) [.t 5,.t 11] 0] 0 []))))) (.seq (rg [lo 12 5,mv 4 12] 0 [4]) .ret))))
def UG:List aN:=[.tmp 4]
theorem abA:aC C.P F.Xo 2 Uo UG=true:=by kernel_rfl
def Fz:aB:=(.seq (rg [mk 3 (.c (.bool false))] 0 [0,1]) (.seq (rg [mv 4 0,oa 5 (.fld 0) 1,lo 6 5,oa 7 .len 6,on 8 (.ak F.jP) [.t 4,kI 1,.t 7],oa 9 (.un .not) 8,mv 3 9] 0 [3]) .ret))
def FD:List aN:=[.tmp 3]
theorem Qv:aC C.P F.yj 2 Fz FD=true:=by kernel_rfl
def QE:aB:=(.seq (.region false [oa 2 (.box 0) 0,oa 3 (.box 1) 1,mk 4 (.c (.nilFunc))] 2 [2,3] [2,3]) (.seq (rg [ob 5 (.mkF (.func F.FK) 0) 2 3,mv 4 5] 0 [4]) .ret))
def QT:List aN:=[.tmp 4]
theorem ZK:aC C.P F.Nh 2 QE QT=true:=by kernel_rfl
def D9:aB:=(.seq (rg [mk 2 (.c (.bool false))] 0 [0]) (.seq (rg [mv 3 0,oa 4 (.ak F.nR) 3,oa 5 (.un .not) 4,mv 2 5] 0 [2]) .ret))
def Et:List aN:=[.tmp 2]
theorem O4:aC C.P F.Bq 1 D9 Et=true:=by kernel_rfl
def JG:aB:=(.seq (rg [mk 2 (.c (.bool false))] 0 [0]) (.seq (rg [mv 3 0,on 4 (.ak F.jP) [.t 3,kI 4,kI 60],mv 2 4] 0 [2]) .ret))
def JR:List aN:=[.tmp 2]
theorem U3:aC C.P F.nR 1 JG JR=true:=by kernel_rfl
def Oa:aB:=(.seq (.region false [oa 1 (.box 0) 0,mk 2 (kI 0)] 1 [1] [1]) (.seq (.seq (rg [oa 3 (.load true 2) 1,oa 4 (.ak F.jQ) 3,oa 5 (.un .not) 4] 0 [5]) (.cond (.t 5) (.seq (rg [mk 2 (kI 2)] 0 [2]) .ret) .skip)) (.seq (rg [mk 2 (kI 0)] 0 [2]) .ret)))
def Oo:List aN:=[.tmp 2]
theorem XR:aC C.P F.Pq 1 Oa Oo=true:=by kernel_rfl
def Lp:aB:=(.seq (.region false [oa 2 (.box 0) 0,oa 3 (.box 1) 1,mk 4 (.c (.slice true [])),mk 5 (kI 0)] 2 [2,3] [2,3]) (.seq (.seq (.region true [of 6 (.load true 2) [.t 2] 1,oa 7 (.ak F.jQ) 6,oa 8 (.un .not) 7,mv 9 8,oF 10 (.fld 0) [.t 3] 9 1,oF 11 (.load false 1) [.t 10] 9 1,oF 12 (.fld 0) [.t 2] 9 1,oF 13 (.load false 1) [.t 12] 9 1,oF 14 .len [.t 13] 9 1,oF 15 (.bin .sub) [.t 14,kI 1] 9 0,oF 16 (.ak F.jP) [.t 11,kI 0,.t 15] 9 0,oF 17 (.un .not) [.t 16] 9 0,on 18 .pick [.t 9,.c (.bool true),.t 17],mv 19 18,oF 20 (.fld 1) [.t 3] 19 1,oF 21 (.load true 2) [.t 20] 19 1,oF 22 (.ak F.AY) [.t 21] 19 0,oF 23 (.un .not) [.t 22] 19 0,on 24 .pick [.t 19,.c (.bool true),.t 23],mv 25 24,oF 26 (.fld 1) [.t 3] 25 1,oF 27 (.load true 2) [.t 26] 25 1,oF 28 (.fld 0) [.t 2] 25 1,oF 29 (.load false 1) [.t 28] 25 1,oF 30 (.fld 0) [.t 3] 25 1,oF 31 (.load false 1) [.t 30] 25 1,oF 32 (.bF 3) [.t 29,.t 31] 25 1,oF 33 (.fld 1) [.t 32] 25 1,oF 34 (.load true 2) [.t 33] 25 1,oF 35 (.PL false [1,1]) [.t 27,.t 34] 25 0,on 36 .pick [.t 25,.c (.bool true),.t 35]] 0 [2,3,36] []) (.cond (.t 36) (.seq (rg [mk 4 (.c (.slice true [])),mk 5 (kI 2)] 0 [4,5]) .ret) .skip)) (.seq (.region true [of 37 (.load true 2) [.t 2] 1,oa 38 (.ak F.wI) 37,of 39 (.load true 2) [.t 2] 1,of 40 (.load true 3) [.t 3] 1,ob 41 (.ak F.yh) 39 40,oa 42 (.ak F.wI) 41,ob 43 (.ak F.lF) 38 42,mv 4 43,mk 5 (kI 0)] 0 [4,5] []) .ret)))
def LV:List aN:=[.tmp 4, .tmp 5]
theorem WA:aC C.P F.AX 2 Lp LV=true:=by kernel_rfl
def JF:aB:=(.seq (rg [mk 4 (.c (.bool false))] 0 [0,1]) (.seq (rg [mv 5 0,oa 6 (.ak F.nR) 5,mv 7 6,ot 8 .mov [.t 1] 7 0,ot 9 (.ak F.nR) [.t 8] 7 0,on 10 .pick [.t 7,.t 9,.c (.bool false)],mv 11 10,ot 12 .mov [.t 0] 11 0,ot 13 .mov [.t 1] 11 0,ot 14 (.bin .leq) [.t 12,.t 13] 11 0,on 15 .pick [.t 11,.t 14,.c (.bool false)],mv 4 15] 0 [4]) .ret))
def JQ:List aN:=[.tmp 4]
theorem U2:aC C.P F.Jk 2 JF JQ=true:=by kernel_rfl
def Ea:aB:=(.seq (.region false [oa 1 (.box 0) 0,mk 2 (.c (.bool false))] 1 [1] [1]) (.seq (rg [oa 3 (.fld 0) 1,lo 4 3,on 5 (.ak F.jP) [.t 4,kI 0,kI 50000],mv 6 5,ot 7 (.fld 1) [.t 1] 6 0,ot 8 (.load false 1) [.t 7] 6 0,ot 9 (.ak F.jP) [.t 8,kI 1,kI 50000] 6 0,on 10 .pick [.t 6,.t 9,.c (.bool false)],mv 2 10] 0 [2]) .ret))
def Eu:List aN:=[.tmp 2]
theorem O5:aC C.P F.Bv 1 Ea Eu=true:=by kernel_rfl
def QF:aB:=(.seq (.region false [oa 1 (.box 0) 0,on 2 (.alloc 1 [.slice true [],.slice true [],.slice true []]) []] 2 [1,2] [1]) (.seq (rg [oa 6 (.load true 2) 1,on 7 (.build [.int .i64 0,.int .i64 0] [(0,1),(1,1)]) [kI 1,kI 1],oa 8 (.qj 2 [.agg [.int .i64 0,.int .i64 0]] [0]) 7,ob 9 (.build [.slice true [],.slice true [],.slice true []] [(0,2),(2,1)]) 6 8,on 3 (.alloc 0 [.slice true [],.slice true [],.slice true []]) [],os (.store 3) [.t 3,.t 9] 0] 1 [1,2,3]) (.seq (.seq (rg [oa 10 (.fld 0) 1,lo 11 10,oa 12 .len 11,mk 13 (kI 0)] 0 [1,2,3,12,13]) (.block 0 (.loop (.seq (rg [ob 14 (.bin .lss) 13 12] 0 [1,2,3,12,13,14]) (.seq (.cond (.t 14) .skip (.exit 0)) (.seq (.block 1 (.seq (rg [mv 15 13,mv 4 15] 0 [1,2,3,4,12,13]) (.seq (.region true [of 16 (.fld 2) [.t 3] 2,of 17 (.load false 1) [.t 16] 2,of 18 (.fld 0) [.t 1] 1,of 19 (.load false 1) [.t 18] 1,mv 20 4,of 21 (.bF 3) [.t 19,.t 20] 1,of 22 (.fld 0) [.t 21] 1,of 23 (.load false 1) [.t 22] 1,ob 24 (.bF 2) 17 23,of 25 (.load true 2) [.t 24] 3,on 5 (.alloc 0 [.int .i64 0,.int .i64 0]) [],os (.store 2) [.t 5,.t 25] 4] 1 [1,2,3,4,5,12,13] [5]) (.region true [of 26 (.fld 2) [.t 3] 2,of 27 (.load false 1) [.t 26] 2,of 28 (.fld 0) [.t 5] 1,of 29 (.load false 1) [.t 28] 1,of 30 (.fld 0) [.t 1] 1,of 31 (.load false 1) [.t 30] 1,mv 32 4,of 33 (.bF 3) [.t 31,.t 32] 1,of 34 (.fld 1) [.t 33] 1,of 35 (.fld 0) [.t 34] 1,of 36 (.load false 1) [.t 35] 1,ob 37 (.bin .mul) 29 36,of 38 (.fld 1) [.t 5] 1,of 39 (.load false 1) [.t 38] 1,of 40 (.fld 0) [.t 1] 1,of 41 (.load false 1) [.t 40] 1,mv 42 4,of 43 (.bF 3) [.t 41,.t 42] 1,of 44 (.fld 1) [.t 43] 1,of 45 (.fld 1) [.t 44] 1,of 46 (.load false 1) [.t 45] 1,ob 47 (.bin .mul) 39 46,ob 48 (.build [.int .i64 0,.int .i64 0] [(0,1),(1,1)]) 37 47,of 49 (.iO 2 [.agg [.int .i64 0,.int .i64 0]] [0]) [.t 48] 1,ob 50 (.app 2 false) 27 49,of 51 (.fld 2) [.t 3] 2,os (.store 1) [.t 51,.t 50] 0] 0 [1,2,3,12,13] [])))) (rg [oc 52 (.bin .add) 13 (kI 1),mv 13 52] 0 [1,2,3,12,13]))))))) (.seq (rg [oa 53 (.load true 3) 3,os (.store 3) [.t 2,.t 53] 0] 0 [2]) .ret))))
def QU:List aN:=[.cell 2 true 3]
theorem ZL:aC C.P F.wI 1 QF QU=true:=by kernel_rfl
def xw:aB:=(.seq (.region false [oa 10 (.box 0) 0,on 13 (.jV 3) [.c (.slice true [])],mk 14 (.c (.bool false))] 1 [1,2,3,4,5,6,7,8,9,10] [10]) (.seq (.seq (rg [mv 21 2,oc 22 (.bin .eql) 21 (kI 0)] 0 [1,2,3,4,5,6,7,8,9,10,22]) (.cond (.t 22) (.seq (.region true [of 23 (.load true 3) [.t 3] 1,of 24 (.load true 2) [.t 10] 1,oa 25 (.ak F.wI) 24,of 26 (.load false 1) [.t 4] 1,of 27 (.load true 2) [.t 5] 1,on 28 (.ak F.zF) [.t 23,.t 25,.t 26,.t 27],on 13 (.jV 3) [.c (.slice true [])],mv 14 28] 0 [13,14] [13]) .ret) .skip)) (.seq (.seq (rg [mv 29 1,mv 15 29] 0 [2,6,7,8,9,10,15]) (.block 0 (.loop (.seq (.seq (rg [mv 30 15,oa 31 (.fld 0) 6,lo 32 31,oa 33 .len 32,ob 34 (.bin .lss) 30 33] 0 [2,6,7,8,9,10,15,34]) (.cond (.t 34) .skip (.exit 0))) (.seq (.block 1 (.seq (rg [lo 37 7,mv 16 37] 0 [2,6,7,8,9,10,15,16]) (.block 2 (.loop (.seq (.seq (rg [mv 38 16,lo 39 8,ob 40 (.bin .leq) 38 39] 0 [2,6,7,8,9,10,15,16,40]) (.cond (.t 40) .skip (.exit 2))) (.seq (.block 3 (.seq (rg [lo 43 7,mv 17 43] 0 [2,6,7,8,9,10,15,16,17]) (.block 4 (.loop (.seq (.seq (rg [mv 44 17,lo 45 8,ob 46 (.bin .leq) 44 45] 0 [2,6,7,8,9,10,15,16,17,46]) (.cond (.t 46) .skip (.exit 4))) (.seq (.block 5 (.seq (.region false [mv 49 15,mv 50 16,mv 51 17,ob 52 (.build [.int .i64 0,.int .i64 0] [(0,1),(1,1)]) 50 51,ob 53 (.build [.int .i64 0,.int .i64 0,.int .i64 0] [(0,1),(1,2)]) 49 52,on 18 (.alloc 0 [.int .i64 0,.int .i64 0,.int .i64 0]) [],os (.store 3) [.t 18,.t 53] 0] 1 [2,6,7,8,9,10,15,16,17,18] [18]) (.seq (.seq (.region true [of 54 (.fld 1) [.t 18] 1,of 55 (.load true 2) [.t 54] 1,of 56 (.fld 0) [.t 6] 1,of 57 (.load false 1) [.t 56] 1,mv 58 15,of 59 (.bF 3) [.t 57,.t 58] 1,of 60 (.fld 1) [.t 59] 1,of 61 (.load true 2) [.t 60] 1,ob 62 (.PL false [1,1]) 55 61] 0 [2,6,7,8,9,10,15,16,17,18,62] []) (.cond (.t 62) (.exit 5) .skip)) (.seq (.region true [of 64 (.load false 1) [.t 9] 2,of 65 (.load true 2) [.t 10] 1,of 66 (.load true 3) [.t 18] 1,ob 67 (.ak F.yh) 65 66,mv 68 15,oc 69 (.bin .add) 68 (kI 1),mv 70 2,oc 71 (.bin .sub) 70 (kI 1),on 72 .jf [.t 64,.t 67,.t 69,.t 71],mv 63 72,oa 73 (.ext 0) 63,oa 74 (.ext 1) 63,mv 19 73,mv 20 74] 0 [2,6,7,8,9,10,15,16,17,18,19,20] []) (.seq (rg [mv 75 20] 0 [2,6,7,8,9,10,15,16,17,18,19,75]) (.cond (.t 75) (.seq (.region false [oa 76 (.load true 3) 18,oa 77 (.iO 3 [.agg [.int .i64 0,.int .i64 0,.int .i64 0]] [0]) 76,mv 78 19,ob 79 (.app 3 false) 77 78,mv 13 79,mk 14 (.c (.bool true))] 0 [13,14] [13,13]) .ret) .skip)))))) (rg [mv 47 17,oc 48 (.bin .add) 47 (kI 1),mv 17 48] 0 [2,6,7,8,9,10,15,16,17]))))))) (rg [mv 41 16,oc 42 (.bin .add) 41 (kI 1),mv 16 42] 0 [2,6,7,8,9,10,15,16]))))))) (rg [mv 35 15,oc 36 (.bin .add) 35 (kI 1),mv 15 36] 0 [2,6,7,8,9,10,15])))))) (.seq (.region false [on 13 (.jV 3) [.c (.slice true [])],mk 14 (.c (.bool false))] 0 [13,14] [13]) .ret))))
def xU:List aN:=[.tmp 13, .tmp 14]
theorem Fq:aC C.P F.yg 10 xw xU=true:=by kernel_rfl
def BQ:aB:=(.seq (.region false [oa 4 (.box 0) 0,oa 5 (.box 1) 1,oa 7 (.box 2) 3,mk 8 (.c (.bool false))] 3 [2,4,5,7] [4,5,7]) (.seq (.seq (.region true [of 10 (.fld 2) [.t 5] 1,of 11 (.load false 1) [.t 10] 1,of 12 (.fld 0) [.t 4] 1,of 13 (.fld 1) [.t 12] 1,of 14 (.load false 1) [.t 13] 1,mv 15 2,of 16 (.bF 1) [.t 14,.t 15] 1,of 17 (.load false 1) [.t 16] 1,of 18 (.bF 2) [.t 11,.t 17] 1,of 19 (.load true 2) [.t 18] 1,of 20 (.load true 2) [.t 7] 1,ob 21 (.ak F.yt) 19 20,oa 22 (.un .not) 21] 0 [2,4,5,22] []) (.cond (.t 22) (.seq (rg [mk 8 (.c (.bool false))] 0 [8]) .ret) .skip)) (.seq (rg [oa 23 (.load true 3) 4,oa 24 (.load true 3) 5,ob 25 (.ak F.lF) 23 24,mv 9 25] 0 [2,9]) (.seq (rg [mv 26 9,oa 27 .len 26,oc 28 (.bin .eql) 27 (kI 0),mv 29 28,oF 30 .mov [.t 9] 29 0,oF 31 .len [.t 30] 29 0,oF 32 (.bin .eql) [.t 31,kI 1] 29 0,oF 33 .mov [.t 32] 29 0,ot 34 .mov [.t 9] 33 0,ot 35 (.bF 1) [.t 34,kI 0] 33 0,ot 36 (.load false 1) [.t 35] 33 0,ot 37 .mov [.t 2] 33 0,ot 38 (.bin .eql) [.t 36,.t 37] 33 0,oF 39 .pick [.t 33,.t 38,.c (.bool false)] 29 0,on 40 .pick [.t 29,.c (.bool true),.t 39],mv 8 40] 0 [8]) .ret))))
def CG:List aN:=[.tmp 8]
theorem NG:aC C.P F.zF 4 BQ CG=true:=by kernel_rfl
def JD:aB:=(.seq (.region false [oa 2 (.box 0) 0,oa 3 (.box 1) 1,on 4 (.alloc 2 [.slice true [],.slice true []]) []] 3 [2,3,4] [3]) (.seq (rg [oa 5 (.fld 0) 2,lo 6 5,oa 7 (.Au F.iK) 6,oa 8 (.fld 0) 2,os (.store 1) [.t 8,.t 7] 0] 0 [2,3,4]) (.seq (rg [oa 9 (.fld 0) 2,lo 10 9,oa 11 (.fld 0) 3,lo 12 11,oa 13 (.fld 1) 3,oa 14 (.load true 2) 13,ob 15 (.bF 3) 10 12,oa 16 (.fld 1) 15,os (.store 2) [.t 16,.t 14] 0] 0 [2,4]) (.seq (rg [oa 17 (.load true 2) 2,os (.store 2) [.t 4,.t 17] 0] 0 [4]) .ret))))
def JM:List aN:=[.cell 4 true 2]
theorem U0:aC C.P F.yh 2 JD JM=true:=by kernel_rfl
def Ls:aB:=(.seq (rg [oa 3 (.box 0) 0] 1 [1,2,3]) (.seq (rg [on 4 (.alloc 0 [.nilFunc]) []] 1 [1,2,3,4]) (.seq (rg [on 5 (.mkF (.func F.uN) 0) [.t 4,.t 1,.t 3],os (.store 1) [.t 4,.t 5] 0] 0 [2,4]) (rg [lo 6 4,lo 7 2,ob 8 .jf 6 7] 0 []))))
def LX:List aN:=[]
theorem WC:aC C.P F.FK 3 Ls LX=true:=by kernel_rfl
def zB:aB:=(.seq (rg [mk 5 (.c (.bool false))] 0 [0,1,2,3]) (.seq (.seq (rg [mv 6 0,oc 7 (.bin .eql) 6 (kI 0)] 0 [0,1,2,3,7]) (.cond (.t 7) (.seq (rg [mk 5 (.c (.bool true))] 0 [5]) .ret) .skip)) (.seq (.region true [of 8 (.load false 1) [.t 1] 2,of 9 (.load false 1) [.t 2] 1,mv 10 0,oc 11 (.bin .sub) 10 (kI 1),of 12 (.bF 3) [.t 9,.t 11] 1,of 13 (.fld 0) [.t 12] 1,of 14 (.load false 1) [.t 13] 1,ob 15 .jf 8 14,mv 16 15,ot 17 (.load false 1) [.t 3] 16 2,ot 18 .mov [.t 0] 16 0,ot 19 (.bin .sub) [.t 18,kI 1] 16 0,ot 20 .jf [.t 17,.t 19] 16 0,on 21 .pick [.t 16,.t 20,.c (.bool false)],mv 5 21] 0 [5] []) .ret)))
def zC:List aN:=[.tmp 5]
theorem SL:aC C.P F.uN 4 zB zC=true:=by kernel_rfl
def Ap:aB:=(.seq (.region false [oa 2 (.box 0) 0,oa 3 (.box 1) 1,on 4 (.jV 1) [.c (.slice true [])]] 2 [2,3] [2,3]) (.seq (rg [on 5 (.jV 1) [.c (.slice true [])]] 0 [2,3,5]) (.seq (.seq (rg [oa 8 (.fld 0) 2,oa 9 (.fld 1) 8,lo 10 9,oa 11 .len 10,mk 12 (kI 0)] 0 [2,3,5,10,11,12]) (.block 0 (.loop (.seq (rg [ob 13 (.bin .lss) 12 11] 0 [2,3,5,10,11,12,13]) (.seq (.cond (.t 13) .skip (.exit 0)) (.seq (.block 1 (.seq (rg [mv 14 12,ob 15 (.bF 1) 10 12,lo 16 15,mv 6 14,mv 7 16] 0 [2,3,5,6,7,10,11,12]) (.seq (.region true [of 17 (.fld 2) [.t 2] 1,of 18 (.load false 1) [.t 17] 1,mv 19 7,of 20 (.bF 2) [.t 18,.t 19] 1,of 21 (.load true 2) [.t 20] 1,of 22 (.fld 2) [.t 3] 1,of 23 (.load false 1) [.t 22] 1,mv 24 7,of 25 (.bF 2) [.t 23,.t 24] 1,of 26 (.load true 2) [.t 25] 1,ob 27 (.ak F.yt) 21 26,oa 28 (.un .not) 27] 0 [2,3,5,6,10,11,12,28] []) (.cond (.t 28) (rg [mv 29 5,mv 30 6,oa 31 (.iO 1 [.int .i64 0] [0]) 30,ob 32 (.app 1 true) 29 31,mv 5 32] 0 [2,3,5,10,11,12]) .skip)))) (rg [oc 33 (.bin .add) 12 (kI 1),mv 12 33] 0 [2,3,5,10,11,12]))))))) (.seq (rg [mv 34 5,mv 4 34] 0 [4]) .ret))))
def AO:List aN:=[.tmp 4]
theorem KW:aC C.P F.lF 2 Ap AO=true:=by kernel_rfl
def FB:aB:=(.seq (.region false [oa 2 (.box 0) 0,oa 3 (.box 1) 1,mk 4 (.c (.bool false))] 2 [2,3] [2,3]) (.seq (rg [oa 5 (.fld 0) 2,lo 6 5,oa 7 (.fld 1) 3,lo 8 7,ob 9 (.bin .mul) 6 8,oa 10 (.fld 0) 3,lo 11 10,oa 12 (.fld 1) 2,lo 13 12,ob 14 (.bin .mul) 11 13,ob 15 (.bin .eql) 9 14,mv 4 15] 0 [4]) .ret))
def FH:List aN:=[.tmp 4]
theorem Qw:aC C.P F.yt 2 FB FH=true:=by kernel_rfl
def G8:aB:=(.seq (.region false [oa 2 (.box 0) 0,oa 3 (.box 1) 1,mk 4 (.c (.slice true [])),mk 5 (kI 0)] 2 [2,3] [2,3]) (.seq (.seq (.region true [of 6 (.load true 2) [.t 2] 1,oa 7 (.ak F.jQ) 6,oa 8 (.un .not) 7,mv 9 8,oF 10 (.fld 0) [.t 3] 9 1,oF 11 (.load false 1) [.t 10] 9 1,oF 12 (.fld 0) [.t 2] 9 1,oF 13 (.load false 1) [.t 12] 9 1,oF 14 .len [.t 13] 9 1,oF 15 (.bin .sub) [.t 14,kI 1] 9 0,oF 16 (.ak F.jP) [.t 11,kI 0,.t 15] 9 0,oF 17 (.un .not) [.t 16] 9 0,on 18 .pick [.t 9,.c (.bool true),.t 17],mv 19 18,oF 20 (.fld 1) [.t 3] 19 1,oF 21 (.load true 2) [.t 20] 19 1,oF 22 (.ak F.AY) [.t 21] 19 0,oF 23 (.un .not) [.t 22] 19 0,on 24 .pick [.t 19,.c (.bool true),.t 23],mv 25 24,oF 26 (.fld 1) [.t 3] 25 1,oF 27 (.load true 2) [.t 26] 25 1,oF 28 (.fld 0) [.t 2] 25 1,oF 29 (.load false 1) [.t 28] 25 1,oF 30 (.fld 0) [.t 3] 25 1,oF 31 (.load false 1) [.t 30] 25 1,oF 32 (.bF 3) [.t 29,.t 31] 25 1,oF 33 (.fld 1) [.t 32] 25 1,oF 34 (.load true 2) [.t 33] 25 1,oF 35 (.PL false [1,1]) [.t 27,.t 34] 25 0,on 36 .pick [.t 25,.c (.bool true),.t 35]] 0 [2,3,36] []) (.cond (.t 36) (.seq (rg [mk 4 (.c (.slice true [])),mk 5 (kI 2)] 0 [4,5]) .ret) .skip)) (.seq (.region true [of 37 (.load true 2) [.t 2] 1,oa 38 (.ak F.wI) 37,of 39 (.load true 2) [.t 2] 1,of 40 (.load true 3) [.t 3] 1,ob 41 (.ak F.yh) 39 40,oa 42 (.ak F.wI) 41,of 43 (.Au F.lF) [.t 38,.t 42] 1,mv 4 43,mk 5 (kI 0)] 0 [4,5] []) .ret)))
def HY:List aN:=[.tmp 4, .tmp 5]
theorem SI:aC C.P F.AX 2 G8 HY=true:=by kernel_rfl
end Go.Tel
namespace Go.Am
theorem EW {α:Type}{l:List α}{x:α}:(l++ [x])[l.length]?=some x:=by simp
theorem U6 {α:Type}{l:List α}{x y:α}:(l++ [x]).set l.length y=l++ [y]:=by simp
theorem P6 {C:Ctx}{base:Nat}{M:Mem}{K:PV→Mem→Prop}{KP:DV→Mem→Prop}{f:FuncId}{fs cs args:List PV}(hc:callable C.P f=true)(h:SC C f (fs++args++cs) M K KP):aj C base .jf (.func (.func f) fs cs::args) M K KP:=⟨hc,h⟩
def no:Nat→Prop:=fun _=>False
theorem Kept.Q8 {n:Nat}{own wO:Nat→Prop}{bs:List (Option (List PV))}{fz:List Nat}{ar ar':List (Option Arr)}{i:Nat}{x:Option (List PV)}(hi:i<n)(ho:¬own i)(hl:ar.length≤ar'.length)(hr:∀k,wO k→ar'[k]?=ar[k]?):
  Kept n own wO ⟨bs,fz,ar⟩ ⟨bs.set i x,fz,ar'⟩:=
 ⟨by simp,hl,fun j hj _=>by
  have:i≠j:=by rintro rfl;exact hj.elim (fun h=>by omega) ho
  simp[this],fun _ _ _=>Iff.rfl,hr,fun h j hj=>by simpa using h j hj⟩
end Go.Am
namespace Go.Tel
open Go.Am
def nDV (n:Nat):List DV:=[.int .i64 n]
def BH (ls:List Lk):Nat→Nat→List Nat
 |0,_=>[]
 | _+1,0=>[]
 |k+1,a+1=>BH ls k (ls.getD a default).fr.toNat++ [a]
def iq (ls:List Lk)(a:Nat):List Nat:=BH ls a a
def linked (ls:List Lk):Prop:=∀i,i<ls.length→0≤(ls.getD i default).fr∧(ls.getD i default).fr≤i
theorem aea {ls:List Lk}(h:linked ls):∀(k a:Nat),a≤k→a≤ls.length→BH ls k a=BH ls a a:=by
 intro k a
 induction a using Nat.strongRecOn generalizing k with
 |ind a ih=>
  intro hk hl
  match a,k,hk with
  |0,0,_=>rfl
  |0,k+1,_=>rfl
  |a+1,k+1,hk=>
   have hf:=h a (by omega)
   have hle:(ls.getD a default).fr.toNat≤a:=by omega
   simp only[BH]
   rw[ih _ (by omega) k (by omega) (by omega),ih _ (by omega) a (by omega) (by omega)]
theorem zA {ls:List Lk}(h:linked ls){a:Nat}(ha:a<ls.length):iq ls (a+1)=iq ls (ls.getD a default).fr.toNat++ [a]:=by
 have hf:=h a ha
 have hle:(ls.getD a default).fr.toNat≤a:=by omega
 simp only[iq,BH]
 rw[aea h _ _ (by omega) (by omega)]
theorem abL {ls:List Lk}(h:linked ls):∀{a:Nat},a≤ls.length→∀i∈iq ls a,i<a:=by
 intro a
 induction a using Nat.strongRecOn with
 |ind a ih=>
  intro hl i hi
  match a,hl,ih with
  |0,_,_=>simp[iq,BH]at hi
  |a+1,hl,ih=>
   rw[zA h hl]at hi
   have hf:=h a hl
   rcases List.mem_append.1 hi with hi|hi
   ·have:=ih _ (by omega) (by omega) i hi;omega
   ·simp only[List.mem_singleton]at hi;omega
theorem YE {ls:List Lk}(h:linked ls):∀{a:Nat},a≤ls.length→(iq ls a).length≤a:=by
 intro a
 induction a using Nat.strongRecOn with
 |ind a ih=>
  intro hl
  match a,hl,ih with
  |0,_,_=>simp[iq,BH]
  |a+1,hl,ih=>
   rw[zA h hl,List.length_append,List.length_singleton]
   have hf:=h a hl
   have:=ih (ls.getD a default).fr.toNat (by omega) (by omega)
   omega
section
variable {ls:List Lk}{n b bw bv:Nat}{R:List (List DV)→Mem→Prop}{stop:Mem→Prop}{KP:DV→Mem→Prop}{xs:List (List DV)}
def ajM (ls:List Lk)(bw bv:Nat):PV:= .func (.func F.uN) [] [.ptr bw 0, .d (.aT [.slice false (ls.map Lk.dv)]), .ptr bv 0]
structure Rx (ls:List Lk) (b bw bv:Nat) (M:Mem):Prop where
 w:M.boxes[bw]?=some (some [.func (.func F.uN) [] [.ptr bw 0, .d (.aT [.slice false (ls.map Lk.dv)]), .ptr bv 0]])
 v:M.boxes[bv]?=some (some [.rE b])
theorem Rx.kept {M M':Mem}(h:Rx ls b bw bv M)(hw:n≤bw)(hv:n≤bv)(hk:Kept n no no M M'):Rx ls b bw bv M':=
 ⟨(hk.box bw (.inl hw) (List.getElem?_eq_some_iff.1 h.w).1).trans h.w,(hk.box bv (.inl hv) (List.getElem?_eq_some_iff.1 h.v).1).trans h.v⟩
theorem ai9 (hls:linked ls)(hl:ls.length≤1000000)(hw:n≤bw)(hv:n≤bv)
  (nH:∀pre x post M1,xs=pre++x::post→n≤M1.boxes.length→R pre M1→SY C b (x.map .d) M1 (fun p M'=>Kept n no no M1 M'∧((p= .d (.bool true)∧R (pre++ [x]) M')∨(p= .d (.bool false)∧stop M'))) KP):
  ∀(a:Nat) (pre post:List (List DV)) (M1:Mem),a≤ls.length→xs=pre++((iq ls a).map nDV++post)→Rx ls b bw bv M1→R pre M1→
   SC C F.uN [.d (.int .i64 a), .ptr bw 0, .d (.aT [.slice false (ls.map Lk.dv)]), .ptr bv 0] M1
    (fun p M'=>Rx ls b bw bv M'∧((p= .d (.bool true)∧R (pre++(iq ls a).map nDV) M')∨(p= .d (.bool false)∧stop M'))) KP:=by
 intro a
 induction a using Nat.strongRecOn with
 |ind a ih=>
  intro pre post M1 ha hx hP hR
  refine aF mixed rfl SL ?_
  obtain⟨bs,fz,ar⟩:=M1
  obtain⟨p1,p2⟩:=hP
  simp only at p1 p2
  have l1:=(List.getElem?_eq_some_iff.1 p1).1
  have l2:=(List.getElem?_eq_some_iff.1 p2).1
  match a,ha,hx,ih with
  |0,ha,hx,ih=>
   simp only[zB,zC,Int.natCast_zero,BEq.rfl,decide_true,RN,qA,qB,qC,qD,qE,qF]
   exact⟨⟨p1,p2⟩, .inl (by simpa[iq,BH]using hR)⟩
  |a+1,ha,hx,ih=>
   have hne:(((a+1:Nat):Int)==0)=false:=by simp;omega
   have e1:IntKind.i64.wrap (((a+1:Nat):Int) - 1)=(a:Int):=by rw[aG (by omega)];omega
   have hf:=hls a (by omega)
   have hlt:a<ls.length:=by omega
   obtain⟨q,hq⟩:∃q:Nat,(ls.getD a default).fr=q:=⟨(ls.getD a default).fr.toNat,by omega⟩
   have hpl:iq ls (a+1)=iq ls q++ [a]:=by rw[zA hls (by omega),hq];rfl
   rw[hpl,List.map_append,List.append_assoc]at hx
   have h0:(0:Int)≤(a:Int):=by omega
   simp only[zB,zC,hne,p1,p2,l1,l2,e1,h0,hlt,getD_map,Int.toNat_natCast,List.length_map,Ju,hq,RN,qA,qB,qC,qD,qE,qF]
   refine P6 (args:=[_]) (cs:=[_,_,_]) (by kernel_rfl) ?_
   refine SC.mono (ih q (by omega) pre _ _ (by omega) hx ⟨p1,p2⟩ hR) ?_
   rintro p ⟨bs',fz',ar'⟩ ⟨⟨g1,g2⟩,hp⟩
   simp only at g1 g2
   rcases hp with⟨rfl,hR'⟩|⟨rfl,hs⟩
   ·simp only[g1,g2,l1,l2,e1,RN,qA,qB,qC,qD,qE,qF]
    refine GI ?_
    have hy:=nH (pre++(iq ls q).map nDV) (nDV a) post ⟨bs',fz',ar'⟩ (by rw[hx];simp) (Nat.le_of_lt (Nat.lt_of_le_of_lt hw (List.getElem?_eq_some_iff.1 g1).1)) hR'
    refine SY.mono hy ?_
    rintro p ⟨bs2,fz2,ar2⟩ ⟨hk,hp⟩
    have hP2:=Rx.kept (M:=⟨bs',fz',ar'⟩) ⟨g1,g2⟩ hw hv hk
    rcases hp with⟨rfl,hR2⟩|⟨rfl,hs⟩
    ·(try simp only[RN,qA,qB,qC,qD,qE,qF])
     exact⟨hP2, .inl (by rw[hpl,List.map_append,←List.append_assoc];exact hR2)⟩
    ·(try simp only[RN,qA,qB,qC,qD,qE,qF])
     exact⟨hP2, .inr hs⟩
   ·(try simp only[RN,qA,qB,qC,qD,qE,qF])
    exact⟨⟨g1,g2⟩, .inr hs⟩
end
theorem YF {ls:List Lk}(hls:linked ls)(hl:ls.length≤1000000)(a:Nat)(ha:a≤ls.length):
  X7 C F.FK [] [.d (.aT [.slice false (ls.map Lk.dv)]), .d (.aT [.int .i64 a])] ((iq ls a).map nDV) no no no (fun _=>True):=by
 rintro⟨bs,fz,ar⟩ b n R stop K KP hbn _ hn hfz _ hst nH h0 hstop hend
 simp only at hn hfz
 refine aF mixed rfl WC ?_
 have hf:(bs++ [some [PV.rE b]]).length∉fz:=fun h=>by have:=hfz _ h;simp at this;omega
 simp only[Ls,LX,EW,U6,pR,cells_func,ac4,aa4,abD,hf,RN,qA,qB,qC,qD,qE,qF]
 refine P6 (args:=[_]) (cs:=[_,_,_]) (by kernel_rfl) ?_
 refine SC.mono (ai9 (bw:=(bs++ [some [PV.rE b]]).length) (bv:=bs.length) hls hl (by simp;omega) hn nH a [] [] _ ha (by simp) ⟨by simp,by simp⟩ (hst _ _ _ ?_ h0)) ?_
 ·have:=Moved.ext (own:=no) (fz:=fz) (ar:=ar) (xb:=[some [PV.rE b],some [ajM ls (bs++ [some [PV.rE b]]).length bs.length]]) (xf:=[]) hn (by simp)
  simpa[ajM]using this
 ·rintro p M' ⟨⟨q1,q2⟩,hp⟩
  have hl:=(List.getElem?_eq_some_iff.1 q2).1
  rcases hp with⟨rfl,hR⟩|⟨rfl,hs⟩
  ·exact hend _ _ (by omega) (by simpa using hR)
  ·exact hstop _ _ hs
theorem ai8 (ls:List Lk)(a:Int):Pure C F.Nh [.slice false (ls.map Lk.dv), .int .i64 a] (.d (.func (.func F.FK) [] [.aT [.slice false (ls.map Lk.dv)], .aT [.int .i64 a]])) []:=by
 refine ah mixed rfl ZK ?_
 simp only[QE,QT,List.not_mem_nil,RN,qA,qB,qC,qD,qE,qF]
theorem an2 (ls:List Lk)(hls:linked ls)(hl:ls.length≤1000)(a:Nat)(ha:a≤ls.length):Pure C F.Xo [.slice false (ls.map Lk.dv), .int .i64 a] (.d (.int .i64 (iq ls a).length)) []:=by
 refine ah mixed rfl abA ?_
 simp only[Uo,UG,RN,qA,qB,qC,qD,qE,qF]
 refine au rfl rfl (ai8 ls a) ?_
 have hpl:=YE hls ha
 refine vJ (YF hls (by omega) a ha) (fun _ h=>h) rfl (by kernel_rfl) (by simp) (fun x hx=>by obtain⟨i,_,rfl⟩:=List.mem_map.1 hx;rfl) (fun _ h=>h.elim) (fun _ _=>trivial)
  (fun pre M=>M.boxes[0]?=some (some [.d (.int .i64 pre.length)])∧0∉M.fz) ?_ ⟨rfl,by simp⟩ ?_ ?_
 ·rintro pre M1 M2 hm ⟨h1,h2⟩
  exact⟨(hm.box 0 (by simp) id).trans h1,fun h=>h2 ((hm.fz 0 (by simp) id).1 h)⟩
 ·rintro L cells pre x post ⟨bs,fz,ar⟩ hx hlt hrec hnf ⟨h1,h2⟩ M0
  simp only[List.length_singleton]at hlt hrec hnf h1 h2⊢
  have hpre:pre.length≤1000:=by
   have:=congrArg List.length hx
   simp at this;omega
  have hlt0:0<bs.length:=by omega
  obtain⟨i,hi,rfl⟩:∃i,i∈iq ls a∧nDV i=x:=by
   have:x∈(iq ls a).map nDV:=by rw[hx];simp
   simpa using this
  have e1:IntKind.i64.wrap ((pre.length:Int)+1)=((pre++ [nDV i]).length:Int):=by rw[aG (by omega)];simp
  simp only[h1,h2,e1,zN,nDV,List.zip_cons_cons,List.zip_nil_left,RN,qA,qB,qC,qD,qE,qF]
  exact⟨by simpa using hrec,hnf,Kept.set (M:=⟨bs,fz,ar⟩) (by omega) id,by simp[hlt0]⟩
 ·rintro⟨bs,fz,ar⟩ ⟨h1,h2⟩ hlt
  simp only at h1
  simp only[h1,RN,qA,qB,qC,qD,qE,qF]
  simp
theorem zl {C:Ctx}{base sz:Nat}{M:Mem}{K:PV→Mem→Prop}{KP:DV→Mem→Prop}{z:DV}{cs:List DV}:aj C base (.iO sz [z] [0]) [.d (.agg cs)] M K KP=((DV.strip (.agg cs)).cells.length=sz∧K (.d (.slice true [DV.strip (.agg cs)])) M):=mM
def mW (ls:List Lk)(a:Nat):List Pr:=(iq ls a).map fun i=>(ls.getD i default).pr
theorem aeu (p:Pc)(hls:linked p.links)(hl:p.links.length≤1000)(a:Nat)(ha:a≤p.links.length)(h0:0<a):SC C F.qY ([p.dv, .int .i64 a].map .d) bH (fun v M=>PI M v 2 ((mW p.links a).map Pr.dv) 1) (fun _ _=>False):=by
 refine aF mixed rfl U4 ?_
 simp only[JH,JU,lX,List.not_mem_nil,RN,qA,qB,qC,qD,qE,qF]
 refine au rfl rfl (ai8 p.links a) ?_
 have hpl:=YE hls ha
 refine vJ (YF hls (by omega) a ha) (fun _ h=>h) rfl (by kernel_rfl) (by simp) (fun x hx=>by obtain⟨i,_,rfl⟩:=List.mem_map.1 hx;rfl) (fun _ h=>h.elim) (fun _ _=>trivial)
  (fun pre M=>∃(l:List Nat) (v:PV),pre=l.map nDV∧M.boxes[1]?=some (some [v])∧1∉M.fz∧((l=[]∧v= .d (.slice true []))∨(l≠[]∧PI M v 2 ((l.map fun i=>(p.links.getD i default).pr).map Pr.dv) 1))) ?_ ⟨[],_,rfl,rfl,by simp, .inl ⟨rfl,rfl⟩⟩ ?_ ?_
 ·rintro pre M1 M2 hm ⟨l,v,h1,h2,h3,h4⟩
  refine⟨l,v,h1,(hm.box 1 (by simp) id).trans h2,fun h=>h3 ((hm.fz 1 (by simp) id).1 h),h4.imp id fun⟨q1,k,ver,q2,q3⟩=>⟨q1,k,ver,q2,by rw[hm.aA];exact q3⟩⟩
 ·rintro L cells pre x post ⟨bs,fz,ar⟩ hx hlt hrec hnf ⟨l,v,rfl,h1,h2,h3⟩ M0
  simp only[List.length_cons,List.length_nil]at hlt hrec hnf h1 h2 h3⊢
  have hpre:l.length≤1000:=by
   have:=congrArg List.length hx
   simp at this;omega
  have hlt0:1<bs.length:=by omega
  obtain⟨i,hi,rfl⟩:∃i,i∈iq p.links a∧nDV i=x:=by
   have:x∈(iq p.links a).map nDV:=by rw[hx];simp
   simpa using this
  have hil:i<p.links.length:=by have:=abL hls ha i hi;omega
  have hi0:(0:Int)≤(i:Int):=by omega
  have alZ:∀y,(bs.set 1 y)[2]?=bs[2]?:=fun y=>by simp
  have hset:∀y,(bs.set 1 y)[1]?=some y:=fun y=>by simp[hlt0]
  rcases h3 with⟨rfl,rfl⟩|⟨hne,k,ver,rfl,hk⟩
  ·simp only[h1,h2,hlt0,hi0,hil,getD_map,Int.toNat_natCast,List.length_map,Ju,zl,DV.strip,zN,nDV,List.zip_cons_cons,List.zip_nil_left,U9,forall_eq,bM,dO,RN,qA,qB,qC,qD,qE,qF]
   refine⟨by simp,by simp,by rw[alZ];exact hrec,hnf,Kept.Q8 (by omega) id (by simp) (fun _ h=>h.elim),[i],_,rfl,hset _, .inr ⟨by simp,ar.length,0,rfl,by simp[yD]⟩⟩
  ·have hkl:=(List.getElem?_eq_some_iff.1 hk).1
   have hlen:l.length≤1073741823:=by omega
   simp only[h1,h2,hlt0,hi0,hil,hk,getD_map,Int.toNat_natCast,List.length_map,Ju,zl,DV.strip,zN,nDV,List.zip_cons_cons,List.zip_nil_left,U9,forall_eq,bM,dO,RN,qA,qB,qC,qD,qE,qF]
   refine⟨by simp,by simpa using hlen,by rw[alZ];exact hrec,hnf,Kept.Q8 (by omega) id (by simp) (fun _ h=>h.elim),l++ [i],_,by simp[nDV],hset _, .inr ⟨by simp,k,ver+1,rfl,by simp[hkl,yD]⟩⟩
 ·rintro⟨bs,fz,ar⟩ ⟨l,v,h1,h2,h3,h4⟩ hlt
  simp only at h2
  simp only[h2,RN,qA,qB,qC,qD,qE,qF]
  have he:(iq p.links a)=l:=(List.map_inj_right (fun x y h=>by simp only[nDV,List.cons.injEq,DV.int.injEq,true_and,and_true,Int.natCast_inj]at h;exact h)).1 h1
  rcases h4 with⟨rfl,_⟩|⟨_,h4⟩
  ·obtain⟨b,rfl⟩:∃b,a=b+1:=⟨a - 1,by omega⟩
   rw[zA hls (by omega)]at he
   simp at he
  ·rw[mW,he];exact h4
theorem TB (p:Pc)(hls:linked p.links)(hl:p.links.length≤1000)(a:Nat)(ha:a≤p.links.length)(h0:0<a):Pure C F.qY [p.dv, .int .i64 a] (.d (.slice false ((mW p.links a).map Pr.dv))) []:=
 gJ (SC.mono (aeu p hls hl a ha h0) fun _ _ h=>h.datum)
def Bl (pre:List Lk)(l:Lk):Bool:=inR l.fr 0 pre.length&&l.pr.ok&& !decide ((iq pre l.fr.toNat).length≥3)
def uT:List Lk→List Lk→Bool
 | _,[]=>true
 |pre,l::ls=>Bl pre l&&uT (pre++ [l]) ls
def Pc.ok (p:Pc):Bool:=inR p.links.length 1 5&&inR p.hands.length 1 4&&uT [] p.links&&p.hands.all (fun n=>inR n 1 p.links.length)
theorem L9 (n l h:Int):Pure C F.jP [.int .i64 n, .int .i64 l, .int .i64 h] (.d (.bool (inR n l h))) []:=by
 refine ah mixed rfl ad7 ?_
 by_cases h1:n≥l<;>simp only[h1,inR,WO,Xc,Bool.false_and,RN,qA,qB,qC,qD,qE,qF]
theorem Xv (n:Int):Pure C F.nR [.int .i64 n] (.d (.bool (bG n))) []:=by
 refine ah mixed rfl U3 ?_
 simp only[JG,JR,RN,qA,qB,qC,qD,qE,qF]
 repeat' first
  |(refine au rfl rfl (L9 _ _ _) ?_;try simp only[RN,qA,qB,qC,qD,qE,qF])
  |(refine bJ (by rfl) (fun hB=> ?_) (fun hB=> ?_)<;>simp only[hB,RN,qA,qB,qC,qD,qE,qF])
  |(refine bZ (by rfl) (fun hB=> ?_) (fun hB=> ?_)<;>simp only[hB,RN,qA,qB,qC,qD,qE,qF])
 all_goals(first|(simp only[bG, *,Bool.not_true,Bool.not_false,Bool.not_not,Bool.and_true,Bool.true_and,Bool.and_false,Bool.false_and,Bool.or_true,Bool.true_or,Bool.or_false,Bool.false_or,Bool.and_self,Bool.or_self,if_true,if_false,reduceIte,cond_true,cond_false,Bool.false_eq_true];done)|(simp_all[bG];done)|(simp_all[bG];omega))
theorem alA (f:Fr):Pure C F.Bv [f.dv] (.d (.bool f.ok)) []:=by
 refine ah mixed rfl O5 ?_
 simp only[Ea,Eu,dI,RN,qA,qB,qC,qD,qE,qF]
 repeat' first
  |(refine au rfl rfl (L9 _ _ _) ?_;try simp only[dI,RN,qA,qB,qC,qD,qE,qF])
  |(refine bJ (by rfl) (fun hB=> ?_) (fun hB=> ?_)<;>simp only[hB,dI,RN,qA,qB,qC,qD,qE,qF])
  |(refine bZ (by rfl) (fun hB=> ?_) (fun hB=> ?_)<;>simp only[hB,dI,RN,qA,qB,qC,qD,qE,qF])
 all_goals(first|(simp only[Fr.ok, *,Bool.not_true,Bool.not_false,Bool.not_not,Bool.and_true,Bool.true_and,Bool.and_false,Bool.false_and,Bool.or_true,Bool.true_or,Bool.or_false,Bool.false_or,Bool.and_self,Bool.or_self,if_true,if_false,reduceIte,cond_true,cond_false,Bool.false_eq_true];done)|(simp_all[Fr.ok];done)|(simp_all[Fr.ok];omega))
theorem ZY (p:Pr):Pure C F.AY [p.dv] (.d (.bool p.ok)) []:=by
 refine ah mixed rfl WB ?_
 simp only[Lr,LW,yD,RN,qA,qB,qC,qD,qE,qF]
 repeat' first
  |(refine au rfl rfl (Xv _) ?_;try simp only[yD,RN,qA,qB,qC,qD,qE,qF])
  |(refine bJ (by rfl) (fun hB=> ?_) (fun hB=> ?_)<;>simp only[hB,yD,RN,qA,qB,qC,qD,qE,qF])
  |(refine bZ (by rfl) (fun hB=> ?_) (fun hB=> ?_)<;>simp only[hB,yD,RN,qA,qB,qC,qD,qE,qF])
 all_goals(first|(simp only[Pr.ok, *,Bool.not_true,Bool.not_false,Bool.not_not,Bool.and_true,Bool.true_and,Bool.and_false,Bool.false_and,Bool.or_true,Bool.true_or,Bool.or_false,Bool.false_or,Bool.and_self,Bool.or_self,if_true,if_false,reduceIte,cond_true,cond_false,Bool.false_eq_true];done)|(simp_all[Pr.ok];done)|(simp_all[Pr.ok];omega))
theorem adL (p:Pc)(n:Int):Pure C F.yj [.int .i64 n, .aT [.slice false (p.links.map Lk.dv), .slice false (p.hands.map ay)]] (.d (.bool (!inR n 1 p.links.length))) []:=by
 refine ah mixed rfl Qv ?_
 simp only[Fz,FD,List.length_map,RN,qA,qB,qC,qD,qE,qF]
 refine au rfl rfl (L9 _ _ _) ?_
 (try simp only[RN,qA,qB,qC,qD,qE,qF])
theorem V9 {pre:List Lk}{l:Lk}(h:linked pre)(h1:0≤l.fr)(h2:l.fr≤pre.length):linked (pre++ [l]):=by
 intro i hi
 simp only[List.length_append,List.length_singleton]at hi
 by_cases hlt:i<pre.length
 ·have:=h i hlt
  simpa[List.getD_eq_getElem?_getD,List.getElem?_append_left hlt]using this
 ·have:i=pre.length:=by omega
  subst this
  simp[List.getD_eq_getElem?_getD];omega
theorem Zw {pre:List Lk}{l:Lk}(h:Bl pre l=true):(0≤l.fr∧l.fr≤pre.length)∧l.pr.ok=true∧(iq pre l.fr.toNat).length<3:=by
 simp only[Bl,inR,Bool.and_eq_true,decide_eq_true_eq,Bool.not_eq_true',decide_eq_false_iff_not,ge_iff_le]at h
 obtain⟨⟨h1,h2⟩,h3⟩:=h
 exact⟨h1,h2,by omega⟩
theorem zu (p:Pc)(hl:p.links.length≤1000)(hh:p.hands.length≤1000):Pure C F.jQ [p.dv] (.d (.bool p.ok)) []:=by
 refine ah mixed rfl U1 ?_
 simp only[JE,JO,lX,List.length_map,RN,qA,qB,qC,qD,qE,qF]
 repeat' first
  |(refine au rfl rfl (L9 _ _ _) ?_;try simp only[List.length_map,RN,qA,qB,qC,qD,qE,qF])
  |(refine bJ (by rfl) (fun hB=> ?_) (fun hB=> ?_)<;>simp only[hB,List.length_map,RN,qA,qB,qC,qD,qE,qF])
  |(refine bZ (by rfl) (fun hB=> ?_) (fun hB=> ?_)<;>simp only[hB,List.length_map,RN,qA,qB,qC,qD,qE,qF])
 any_goals (simp_all[Pc.ok];done)
 have hA:inR p.links.length 1 5=true:=by simp_all
 have hB:inR p.hands.length 1 4=true:=by simp_all
 have hlen:p.links.length≤5:=by simp only[inR,Bool.and_eq_true,decide_eq_true_eq]at hA;omega
 have hok:p.ok=(uT [] p.links&&p.hands.all (fun n=>inR n 1 p.links.length)):=by simp[Pc.ok,hA,hB]
 rw[hok]
 refine aX p.links.length (fun i (_:Unit)=>⟨[(1, .d (.aT [.slice false (p.links.map Lk.dv), .slice false (p.hands.map ay)])),(18, .d (.slice false (p.links.map Lk.dv))),(19, .d (.int .i64 p.links.length)),(20, .d (.int .i64 i))],
   ⟨[some [.d (.slice false (p.links.map Lk.dv)), .d (.slice false (p.hands.map ay))]],[0],[]⟩⟩)
  (fun i _=>uT [] p.links=uT (p.links.take i) (p.links.drop i)∧linked (p.links.take i)) 0 () (Nat.zero_le _) rfl ⟨by simp,fun i hi=>by simp at hi⟩ (fun i _ h1 hix=> ?_) (fun _ hix=> ?_)
 ·obtain⟨h2,h3,h6⟩:=rng h1 (by omega)
  obtain⟨hix,hlk⟩:=hix
  have htl:(p.links.take i).length=i:=by simp;omega
  rw[drop_cons h1,uT]at hix
  simp only[h2,h3,h1,getD_map,Int.toNat_natCast,List.length_map,Ju,RN,qA,qB,qC,qD,qE,qF]
  refine au rfl rfl (L9 _ _ _) ?_
  cases hc1:inR (p.links.getD i default).fr 0 (i:Int)
  ·(try simp only[RN,qA,qB,qC,qD,qE,qF])
   have:Bl (p.links.take i) (p.links.getD i default)=false:=by simp only[Bl,htl,hc1,Bool.false_and]
   rw[hix,this];rfl
  ·have hsp:=ZY (p.links.getD i default).pr
   simp only[yD]at hsp
   (try simp only[RN,qA,qB,qC,qD,qE,qF])
   refine au rfl rfl hsp ?_
   cases hc2:(p.links.getD i default).pr.ok
   ·(try simp only[RN,qA,qB,qC,qD,qE,qF])
    have:Bl (p.links.take i) (p.links.getD i default)=false:=by simp only[Bl,hc2,Bool.and_false,Bool.false_and]
    rw[hix,this];rfl
   ·have hr:0≤(p.links.getD i default).fr∧(p.links.getD i default).fr≤i:=by simpa[inR]using hc1
    obtain⟨q,hq⟩:∃q:Nat,(p.links.getD i default).fr=q:=⟨(p.links.getD i default).fr.toNat,by omega⟩
    have aoi:=an2 (p.links.take i) hlk (by omega) q (by omega)
    rw[List.map_take]at aoi
    simp only[hq,RN,qA,qB,qC,qD,qE,qF]
    rw[VJ aiQ h3 (by rw[List.length_map];omega),Int.toNat_natCast]
    refine au rfl rfl aoi ?_
    cases hc3:decide (((iq (p.links.take i) q).length:Int)≥3)
    ·have am3:¬((iq (p.links.take i) q).length≥3):=by have:=of_decide_eq_false hc3;omega
     simp only[hc3,h6,RN,qA,qB,qC,qD,qE,qF]
     have apb:inR (q:Int) 0 (i:Int)=true:=by rw[←hq];exact hc1
     have hok':Bl (p.links.take i) (p.links.getD i default)=true:=by simp only[Bl,htl,apb,hc2,hq,Int.toNat_natCast,decide_eq_false am3,Bool.not_false,Bool.and_self]
     rw[hok',Bool.true_and,←dQ h1]at hix
     exact jR 1 0 () h1 rfl ⟨hix,by rw[dQ h1];exact V9 hlk (by omega) (by omega)⟩ (by simp) (by simp) rfl rfl
    ·have am3:((iq (p.links.take i) q).length≥3):=by have:=of_decide_eq_true hc3;omega
     simp only[hc3,RN,qA,qB,qC,qD,qE,qF]
     have:Bl (p.links.take i) (p.links.getD i default)=false:=by simp only[Bl,hq,Int.toNat_natCast,decide_eq_true am3,Bool.not_true,Bool.and_false]
     rw[hix,this];rfl
 ·obtain⟨hix,_⟩:=hix
  rw[List.drop_length,uT]at hix
  simp only[Int.lt_irrefl,RN,qA,qB,qC,qD,qE,qF]
  refine au rfl rfl (wP p.hands F.yj [.aT [.slice false (p.links.map Lk.dv), .slice false (p.hands.map ay)]] (fun n=> !inR n 1 p.links.length) (by omega) (by kernel_rfl) fun n _=>adL p n) ?_
  simp only[Ij,RN,qA,qB,qC,qD,qE,qF]
  rw[hix];simp
theorem Ti {ls ms:List Lk}(h:linked ls):∀(k a:Nat),a≤ls.length→BH (ls++ms) k a=BH ls k a
 |0,_,_=>rfl
 | _+1,0,_=>rfl
 |k+1,a+1,ha=>by
  have e:(ls++ms).getD a default=ls.getD a default:=by
   simp[List.getD_eq_getElem?_getD,List.getElem?_append_left (show a<ls.length by omega)]
  have hf:=h a (by omega)
  simp only[BH,e]
  rw[Ti h k _ (by omega)]
theorem NT:∀{ls pre:List Lk},linked pre→(∀a,a≤pre.length→(iq pre a).length≤3)→(∀l∈pre,l.pr.ok=true)→uT pre ls=true→
  linked (pre++ls)∧(∀a,a≤(pre++ls).length→(iq (pre++ls) a).length≤3)∧∀l∈pre++ls,l.pr.ok=true
 | [],pre,h1,h2,h3,_=>by simpa using⟨h1,h2,h3⟩
 |l::ls,pre,h1,h2,h3,h=>by
  simp only[uT,Bool.and_eq_true]at h
  obtain⟨q1,q2,q3⟩:=Zw h.1
  have hl:=V9 h1 q1.1 q1.2
  have:=NT (ls:=ls) hl (fun a ha=> ?_) (fun x hx=> ?_) h.2
  ·simpa using this
  ·simp only[List.length_append,List.length_singleton]at ha
   by_cases hlt:a≤pre.length
   ·have e:iq (pre++ [l]) a=iq pre a:=by simp only[iq];exact Ti h1 a a hlt
    rw[e];exact h2 a hlt
   ·have:a=pre.length+1:=by omega
    subst this
    rw[zA hl (by simp)]
    have e:(pre++ [l]).getD pre.length default=l:=by simp[List.getD_eq_getElem?_getD]
    have e2:iq (pre++ [l]) l.fr.toNat=iq pre l.fr.toNat:=by simp only[iq];exact Ti h1 _ _ (by omega)
    rw[e,e2];simp;omega
  ·rcases List.mem_append.1 hx with hx|hx
   ·exact h3 x hx
   ·simp only[List.mem_singleton]at hx;rw[hx];exact q2
structure Pc.Good (p:Pc):Prop where
 l1:1≤p.links.length
 l2:p.links.length≤5
 h1:1≤p.hands.length
 h2:p.hands.length≤4
 lk:linked p.links
 short:∀a,a≤p.links.length→(iq p.links a).length≤3
 pr:∀l∈p.links,l.pr.ok=true
 hd:∀n∈p.hands,1≤n∧n≤p.links.length
theorem Pc.good {p:Pc}(h:p.ok=true):p.Good:=by
 simp only[Pc.ok,inR,Bool.and_eq_true,decide_eq_true_eq,List.all_eq_true,ge_iff_le]at h
 obtain⟨⟨⟨h1,h2⟩,h3⟩,h4⟩:=h
 obtain⟨q1,q2,q3⟩:=NT (ls:=p.links) (pre:=[]) (fun i hi=>by simp at hi) (fun a ha=>by simp at ha;subst ha;simp[iq,BH]) (by simp) h3
 simp only[List.nil_append]at q1 q2 q3
 exact⟨by omega,by omega,by omega,by omega,q1,q2,q3,h4⟩
theorem Pc.Good.aoV {p:Pc}(h:p.Good){a:Nat}(ha:a≤p.links.length)(h0:0<a):uY (mW p.links a)=true:=by
 have h1:=h.short a ha
 obtain⟨b,rfl⟩:∃b,a=b+1:=⟨a - 1,by omega⟩
 have h2:1≤(iq p.links (b+1)).length:=by rw[zA h.lk ha];simp
 simp only[uY,mW,inR,Bool.and_eq_true,decide_eq_true_eq,List.all_eq_true,List.length_map,List.mem_map,ge_iff_le]
 refine⟨by omega,?_⟩
 rintro x ⟨i,hi,rfl⟩
 have:=abL h.lk ha i hi
 exact h.pr _ (getD_mem (by omega))
theorem ajT (p:Pc)(hl:p.links.length≤1000)(hh:p.hands.length≤1000):Pure C F.Pq [p.dv] (.d (.int .i64 (if p.ok then 0 else 2))) []:=by
 refine ah mixed rfl XR ?_
 have hp:=zu p hl hh
 simp only[lX]at hp⊢
 simp only[Oa,Oo,RN,qA,qB,qC,qD,qE,qF]
 refine au rfl rfl hp ?_
 cases h:p.ok<;>(try simp only[RN,qA,qB,qC,qD,qE,qF])<;>rfl
end Go.Tel
namespace Go.Tel
open Go.Am
theorem Dq {C:Ctx}{bs:List (Option (List PV))}{fz:List Nat}{ar:List (Option Arr)}{K:PV→Mem→Prop}{base:Nat}{KP:DV→Mem→Prop}{f:FuncId}{args:List PV}{ds ds':List DV}{r:PV}{rows:List Arr}(h1:je args=some ds)(h2:ds.map DV.strip=ds')(hp:Pure C f ds' r rows)(hs:∀A∈rows,A.st≠2)
  (hK:K (r.shift ar.length) ⟨bs,fz,ar++rows.map some⟩):aj C base (.Au f) args ⟨bs,fz,ar⟩ K KP:=by
 have he:=MG h1
 subst he
 have hdl:dw ⟨bs,fz,ar⟩ (ds.map .d)=some ds:=by
  clear h1 h2 hp hK
  induction ds with
  |nil=>rfl
  |cons d ds ih=>simp only[List.map_cons,dw,datum,ih]
 exact⟨ds,hdl,r,rows,h2▸hp, .inr ⟨hs,by rw[KE];exact hK⟩⟩
theorem aj1 (p:Pc)(hp:p.ok=true)(a:Nat)(h0:0<a)(ha:a≤p.links.length):Pure C F.Px [p.dv, .int .i64 a] (.d (.tup [.slice false ((mW p.links a).map Pr.dv), .int .i64 0])) []:=by
 have hg:=Pc.good hp
 obtain⟨g1,g2,g3,g4,g5,_⟩:=hg
 have hi:=zu p (by omega) (by omega)
 have ht:=TB p g5 (by omega) a ha h0
 have hr:inR (a:Int) 1 (p.links.length:Int)=true:=by simp[inR];omega
 refine ah mixed rfl XU ?_
 simp only[lX]at hi ht⊢
 simp only[Oc,Ot,RN,qA,qB,qC,qD,qE,qF]
 refine au rfl rfl hi ?_
 simp only[hp,List.length_map,RN,qA,qB,qC,qD,qE,qF]
 refine au rfl rfl (L9 _ _ _) ?_
 simp only[hr,RN,qA,qB,qC,qD,qE,qF]
 refine au rfl rfl ht ?_
 (try simp only[RN,qA,qB,qC,qD,qE,qF])
def zI (p:Pc)(hand:Int)(f:Fr)(turns:Int):Int×Int:=
 if p.ok&&inR hand 0 (p.hands.length - 1)then agK (mW p.links (p.hands.getD hand.toNat default).toNat) f turns else(0,2)
theorem aeE (p:Pc)(hl:p.links.length≤1000)(hh:p.hands.length≤1000)(hand:Int)(f:Fr)(turns:Int):Pure C F.Jj [p.dv, .int .i64 hand,f.dv, .int .i64 turns] (.d (.tup [.int .i64 (zI p hand f turns).1, .int .i64 (zI p hand f turns).2])) []:=by
 have hi:=zu p hl hh
 have e1:IntKind.i64.wrap ((p.hands.length:Int) - 1)=(p.hands.length:Int) - 1:=aG (by omega)
 refine ah mixed rfl XV ?_
 simp only[lX,dI]at hi⊢
 simp only[Oe,Ou,RN,qA,qB,qC,qD,qE,qF]
 refine au rfl rfl hi ?_
 cases hp:p.ok
 ·(try simp only[RN,qA,qB,qC,qD,qE,qF])
  simp[zI,hp]
 ·have hg:=Pc.good hp
  simp only[List.length_map,e1,RN,qA,qB,qC,qD,qE,qF]
  refine au rfl rfl (L9 _ _ _) ?_
  cases hr:inR hand 0 ((p.hands.length:Int) - 1)
  ·(try simp only[RN,qA,qB,qC,qD,qE,qF])
   simp[zI,hp,hr]
  ·have hr':0≤hand∧hand≤(p.hands.length:Int) - 1:=by simpa[inR]using hr
   have hlt:hand.toNat<p.hands.length:=by omega
   obtain⟨d1,d2⟩:=hg.hd _ (getD_mem hlt)
   obtain⟨q,hq⟩:∃q:Nat,p.hands.getD hand.toNat default=q:=⟨(p.hands.getD hand.toNat default).toNat,by omega⟩
   have ht:=TB p hg.lk hl q (by omega) (by omega)
   have ho:=anV (mW p.links q) f turns (by have:=hg.short q (by omega);simp[mW];omega)
   simp only[lX,dI]at ht ho
   simp only[hr'.1,hlt,getD_map,aW,List.length_map,hq,RN,qA,qB,qC,qD,qE,qF]
   refine au rfl rfl ht ?_
   refine au rfl rfl ho ?_
   (try simp only[RN,qA,qB,qC,qD,qE,qF])
   simp only[zI,hp,hr,Bool.and_self,if_true,hq,Int.toNat_natCast]
theorem akZ (xs:List Lk):∀y∈xs.map Lk.dv,y.fits 3=true:=by
 intro y hy;obtain⟨n,_,rfl⟩:=List.mem_map.1 hy;rfl
theorem MN {C:Ctx}{base sz:Nat}{M:Mem}{K:PV→Mem→Prop}{KP:DV→Mem→Prop}{z x:DV}(hx:x.strip.fits sz=true)(h0:0<sz):aj C base (.qj sz [z] [0]) [.d x] M K KP=K (.tsl M.aA.length 0 0) {M with aA:=M.aA++ [some ⟨sz,[x.strip],0,1⟩]}:=by
 have hc:x.strip.cells.length=sz:=by simp only[DV.fits,Bool.and_eq_true,beq_iff_eq]at hx;exact hx.1
 simp[aj,je,yE,hc,hx,h0]
def mulR (f:Fr)(p:Pr):Fr:=⟨f.n*p.a,f.d*p.b⟩
def C9:List Lk→List Fr→List Fr
 | [],acc=>acc
 |l::ls,acc=>C9 ls (acc++ [mulR (acc.getD l.fr.toNat default) l.pr])
def fF (ls:List Lk):List Fr:=C9 ls [⟨1,1⟩]
def YS (a b:Fr):Bool:=a.n*b.d==b.n*a.d
def Ja (l:List Fr):Prop:=∀i,i<l.length→(1≤(l.getD i default).n∧(l.getD i default).n≤60 ^ i)∧1≤(l.getD i default).d∧(l.getD i default).d≤60 ^ i
theorem aja {i j:Nat}(h:i≤j):(60:Int) ^ i≤60 ^ j:=by
 have:=Nat.pow_le_pow_right (show 60>0 by decide) h
 exact_mod_cast this
theorem Uw {acc:List Fr}{l:Lk}(h:Ja acc)(h0:acc≠[])(hf:0≤l.fr∧l.fr.toNat<acc.length)(hp:l.pr.ok=true):Ja (acc++ [mulR (acc.getD l.fr.toNat default) l.pr]):=by
 intro i hi
 simp only[List.length_append,List.length_singleton]at hi
 by_cases hlt:i<acc.length
 ·have:=h i hlt
  simpa[List.getD_eq_getElem?_getD,List.getElem?_append_left hlt]using this
 ·have:i=acc.length:=by omega
  subst this
  have e:(acc++ [mulR (acc.getD l.fr.toNat default) l.pr]).getD acc.length default=mulR (acc.getD l.fr.toNat default) l.pr:=by simp[List.getD_eq_getElem?_getD]
  rw[e]
  obtain⟨⟨q1,q2⟩,q3,q4⟩:=h _ hf.2
  simp only[Pr.ok,bG,inR,Bool.and_eq_true,decide_eq_true_eq,ge_iff_le]at hp
  have hl:l.fr.toNat+1≤acc.length:=by omega
  have hpw:(60:Int) ^ (l.fr.toNat+1)≤60 ^ acc.length:=aja hl
  rw[Int.pow_succ]at hpw
  have a1:=Int.mul_le_mul q2 hp.1.2 (by omega) (by omega)
  have a2:=Int.mul_le_mul q4 hp.2.2 (by omega) (by omega)
  have b1:=Int.mul_le_mul q1 (show 1≤l.pr.a by omega) (by omega) (by omega)
  have b2:=Int.mul_le_mul q3 (show 1≤l.pr.b by omega) (by omega) (by omega)
  simp only[mulR]
  omega
theorem Og:∀{ls:List Lk} {acc:List Fr},Ja acc→acc≠[]→(∀i,i<ls.length→0≤(ls.getD i default).fr∧(ls.getD i default).fr<(acc.length+i:Nat))→(∀l∈ls,l.pr.ok=true)→
  Ja (C9 ls acc)∧(C9 ls acc).length=acc.length+ls.length
 | [],acc,h,_,_,_=>by simpa[C9]using h
 |l::ls,acc,h,h0,hf,hp=>by
  have hl:=hf 0 (by simp)
  simp only[List.getD_cons_zero]at hl
  obtain⟨q1,q2⟩:=Og (ls:=ls) (Uw h h0 ⟨hl.1,by omega⟩ (hp l (by simp))) (by simp) (fun i hi=>by
   have:=hf (i+1) (by simp only[List.length_cons];omega)
   rw[List.getD_cons_succ]at this
   rw[List.length_append,List.length_singleton];omega) (fun x hx=>hp x (by simp[hx]))
  refine⟨q1,?_⟩
  rw[C9,q2];simp;omega
theorem YJ:Ja [⟨1,1⟩]:=by
 intro i hi
 have:i=0:=by simpa using hi
 subst this
 simp
theorem xI {ls:List Lk}(h:linked ls)(hp:∀l∈ls,l.pr.ok=true):Ja (fF ls)∧(fF ls).length=ls.length+1:=by
 obtain⟨q1,q2⟩:=Og (ls:=ls) YJ (by simp) (fun i hi=>by have:=h i hi;rw[List.length_singleton];omega) hp
 exact⟨q1,by rw[fF,q2];simp;omega⟩
def xH (p:Pc):DV:= .agg [.slice false (p.links.map Lk.dv), .slice false (p.hands.map ay), .slice false ((fF p.links).map Fr.dv)]
theorem Z8 (p:Pc)(hl:p.links.length≤6)(hk:linked p.links)(hp:∀l∈p.links,l.pr.ok=true):Pure C F.wI [p.dv] (.d (xH p)) []:=by
 refine gJ (aF mixed rfl ZL ?_)
 simp only[QF,QU,lX,agn,bg,Option.map_none,eP,jv,dO,MN (x:= .agg [.int .i64 1, .int .i64 1]) (sz:=2) rfl (by decide),DV.strip,List.length_map,RN,qA,qB,qC,qD,qE,qF]
 refine aX p.links.length (fun i (a:List Fr×Nat)=>⟨[(1, .d (.aT [.slice false (p.links.map Lk.dv), .slice false (p.hands.map ay)])),(2, .ptr 1 0),(3, .ptr 2 0),(12, .d (.int .i64 p.links.length)),(13, .d (.int .i64 i))],
   ⟨[some [.d (.slice false (p.links.map Lk.dv)), .d (.slice false (p.hands.map ay))],some [.d (.slice true []), .d (.slice true []), .d (.slice true [])],some [.d (.slice false (p.links.map Lk.dv)), .d (.slice false (p.hands.map ay)), .tsl 0 a.2 0]],[0],[some ⟨2,a.1.map Fr.dv,a.2,1⟩]⟩⟩)
  (fun i a=>fF p.links=C9 (p.links.drop i) a.1∧Ja a.1∧a.1.length=i+1) 0 ([⟨1,1⟩],0) (Nat.zero_le _) ?_ ⟨rfl,YJ,rfl⟩ (fun i a h1 hix=> ?_) (fun a hix=> ?_)
 ·rfl
 ·obtain⟨h2,h3,h6⟩:=rng h1 (by omega)
  obtain⟨hix,hbd,hlen⟩:=hix
  obtain⟨acc,v⟩:=a
  simp only at hix hbd hlen
  rw[drop_cons h1,C9]at hix
  obtain⟨f0,f1⟩:=hk i h1
  have hfn:(p.links.getD i default).fr.toNat<acc.length:=by omega
  have hpr:=hp _ (getD_mem h1)
  obtain⟨⟨q1,q2⟩,q3,q4⟩:=hbd _ hfn
  have hpw:=aja (show(p.links.getD i default).fr.toNat≤6 by omega)
  rw[show(60:Int) ^ 6=46656000000 by decide]at hpw
  have anl:=hpr
  simp only[Pr.ok,bG,inR,Bool.and_eq_true,decide_eq_true_eq,ge_iff_le]at anl
  have a1:=Int.mul_le_mul (show(acc.getD (p.links.getD i default).fr.toNat default).n≤46656000000 by omega) anl.1.2 (by omega) (by omega)
  have a2:=Int.mul_le_mul (show(acc.getD (p.links.getD i default).fr.toNat default).d≤46656000000 by omega) anl.2.2 (by omega) (by omega)
  have b1:=Int.mul_nonneg (show 0≤(acc.getD (p.links.getD i default).fr.toNat default).n by omega) (show 0≤(p.links.getD i default).pr.a by omega)
  have b2:=Int.mul_nonneg (show 0≤(acc.getD (p.links.getD i default).fr.toNat default).d by omega) (show 0≤(p.links.getD i default).pr.b by omega)
  have e1:IntKind.i64.wrap ((acc.getD (p.links.getD i default).fr.toNat default).n*(p.links.getD i default).pr.a)=(acc.getD (p.links.getD i default).fr.toNat default).n*(p.links.getD i default).pr.a:=aG (by omega)
  have e2:IntKind.i64.wrap ((acc.getD (p.links.getD i default).fr.toNat default).d*(p.links.getD i default).pr.b)=(acc.getD (p.links.getD i default).fr.toNat default).d*(p.links.getD i default).pr.b:=aG (by omega)
  have hal:acc.length≤1073741823:=by omega
  simp only[h2,h1,h3,h6,f0,hfn,getD_map,Ju,dI,Int.toNat_natCast,List.length_map,zl,DV.strip,U9,forall_eq,bM,dO,e1,e2,RN,qA,qB,qC,qD,qE,qF]
  refine⟨by simp,hal,?_⟩
  refine jR 3 1 (acc++ [mulR (acc.getD (p.links.getD i default).fr.toNat default) (p.links.getD i default).pr],v+1) h1 ?_ ⟨hix,Uw hbd (by rintro rfl;simp at hlen) ⟨f0,hfn⟩ hpr,by simp[hlen]⟩ (by simp) (by simp) rfl rfl
  simp only[List.map_append,List.map_cons,List.map_nil,dI,mulR]
  rfl
 ·obtain⟨hix,hbd,hlen⟩:=hix
  rw[List.drop_length,C9]at hix
  simp only[Int.lt_irrefl,bg,Option.map_none,eP,jv,dO,RN,qA,qB,qC,qD,qE,qF]
  simp[datum,bW,eU,Mem.row,xH,hix]
structure Chg where
 link:Int
 pr:Pr
 deriving DecidableEq,Inhabited
def Chg.dv (c:Chg):DV:= .agg [.int .i64 c.link, .int .i64 c.pr.a, .int .i64 c.pr.b]
theorem Kw {c:Chg}:c.dv= .agg [.int .i64 c.link, .int .i64 c.pr.a, .int .i64 c.pr.b]:=by rw[Chg.dv]
def Pc.changed (p:Pc)(c:Chg):Pc:={p with links:=p.links.set c.link.toNat ⟨(p.links.getD c.link.toNat default).fr,c.pr⟩}
theorem Ye (xs:List DV)(hf:∀y∈xs,y.fits 3=true)(hl:xs.length≤1000000)(hn:xs≠[]):Pure C F.iK [.slice false xs] (.tsl 0 0 0) [⟨3,xs,0,1⟩]:=by
 refine wB mixed rfl Bo ?_
 simp only[oG,oK,RN,qA,qB,qC,qD,qE,qF]
 refine⟨fun _=> ?_,fun hx=>absurd hx hn⟩
 exact⟨hf,hn,by simp,by omega,FI (k:=1) (A:=⟨3,xs,0,1⟩) rfl rfl (Nat.zero_le _) rfl⟩
theorem Md {bs:List (Option (List PV))}{fz:List Nat}{ar:List (Option Arr)}{n k ver i off sz:Nat}{xs:List DV}{v:PV}{ds:List DV}{K:Mem→Prop}(h:ar[k]?=some (some ⟨sz,xs,ver,1⟩))(hv:je v.cells=some ds)(h0:0<n)(hl:ds.length=n)(h1:ds.all DV.one=true)(ho:off+n≤(xs.getD i default).cells.length)
  (hK:K ⟨bs,fz,ar.set k (some ⟨sz,xs.set i (setCells (xs.getD i default) off ds),ver,1⟩)⟩):jI n (.jX k ver i off) v ⟨bs,fz,ar⟩ K:=by
 simp only[jI,Mem.row,h,if_true,hv]
 exact⟨trivial,h0,hl,h1,ho,hK⟩
theorem Yd (p:Pc)(c:Chg)(hl:p.links.length≤1000)(h0:0≤c.link)(h1:c.link.toNat<p.links.length):Pure C F.yh [p.dv,c.dv] (.d (p.changed c).dv) []:=by
 refine gJ (aF mixed rfl U0 ?_)
 have hn:p.links.map Lk.dv≠[]:=by intro h;simp at h;rw[h]at h1;simp at h1
 simp only[JD,JM,lX,Kw,RN,qA,qB,qC,qD,qE,qF]
 refine Dq rfl rfl (Ye _ (akZ _) (by rw[List.length_map];omega) hn) (by simp) ?_
 simp only[PV.shift,lV,bM,dO,List.not_mem_nil,h0,h1,List.length_map,RN,qA,qB,qC,qD,qE,qF]
 refine Md rfl rfl (by decide) rfl rfl (by rw[getD_map h1,Ju];exact Nat.le_refl 3) ?_
 simp only[getD_map h1,Ju,setCells,bg,Option.map_none,eP,jv,dO,RN,qA,qB,qC,qD,qE,qF]
 simp only[datum,bW,eU,Mem.row,lX,Pc.changed,List.map_set,Ju]
 simp
end Go.Tel
