/-
  Part 15 of the proof of a law of desks: an abstract machine over the model, contracts of functions, plain laws.
  Conditions: none.
-/
import Derived.Test.YtbefoehadfnkbaaGreatDoorJourneymanParsesM13
import Derived.Test.YtbefoehadfnkbaaGreatDoorJourneymanParsesM14
set_option linter.all false
set_option maxRecDepth 10000
set_option maxHeartbeats 1000000
open Nat renaming reduceBEq→qA,reduceAdd→qB,reduceSub→qC,reduceEqDiff→qD,reduceLT→qE,reduceLeDiff→qF
namespace Go.Tel
open Go.Am
def LQ:aB:=(.seq (.region false [oa 1 (.box 0) 0,mk 2 (.c (.bool false))] 1 [1] [1]) (.seq (rg [oa 3 (.fld 0) 1,lo 4 3,oa 5 (.ak F.nN) 4,mv 6 5,ot 7 (.fld 1) [.t 1] 6 0,ot 8 (.load false 1) [.t 7] 6 0,ot 9 (.ak F.nN) [.t 8] 6 0,on 10 .pick [.t 6,.t 9,.c (.bool false)],mv 2 10] 0 [2]) .ret))
def MF:List aJ:=[.tmp 2]
theorem Xl:aC C.P F.AU 1 LQ MF=true:=by kernel_rfl
def UR:aB:=(.seq (rg [mk 4 (kI 0)] 0 [0,1,4]) (.seq (rg [on 5 (.alloc 0 [.int .i64 0]) [],os (.store 1) [.t 5,kI 0] 0] 1 [0,1,4,5]) (.seq (.seq (rg [mv 6 0,mv 7 1,ob 8 (.ak F.Nz) 6 7] 0 [4,5,8]) (.block 0 (.xB (.t 8) [9] [5] .skip (.block 1 (rg [lo 10 5,oc 11 (.bin .add) 10 (kI 1),os (.store 1) [.t 5,.t 11] 0] 0 []))))) (.seq (rg [lo 12 5,mv 4 12] 0 [4]) .ret))))
def Vf:List aJ:=[.tmp 4]
theorem acL:aC C.P F.Ya 2 UR Vf=true:=by kernel_rfl
def FD:aB:=(.seq (rg [mk 3 (.c (.bool false))] 0 [0,1]) (.seq (rg [mv 4 0,oa 5 (.fld 0) 1,lo 6 5,oa 7 .len 6,on 8 (.ak F.jO) [.t 4,kI 1,.t 7],oa 9 (.un .not) 8,mv 3 9] 0 [3]) .ret))
def FK:List aJ:=[.tmp 3]
theorem QL:aC C.P F.yh 2 FD FK=true:=by kernel_rfl
def QY:aB:=(.seq (.region false [oa 2 (.box 0) 0,oa 3 (.box 1) 1,mk 4 (.c (.nilFunc))] 2 [2,3] [2,3]) (.seq (rg [ob 5 (.mkF (.func F.FP) 0) 2 3,mv 4 5] 0 [4]) .ret))
def Rt:List aJ:=[.tmp 4]
theorem aaI:aC C.P F.Nz 2 QY Rt=true:=by kernel_rfl
def Ed:aB:=(.seq (rg [mk 2 (.c (.bool false))] 0 [0]) (.seq (rg [mv 3 0,oa 4 (.ak F.nN) 3,oa 5 (.un .not) 4,mv 2 5] 0 [2]) .ret))
def EC:List aJ:=[.tmp 2]
theorem PD:aC C.P F.Bj 1 Ed EC=true:=by kernel_rfl
def JV:aB:=(.seq (rg [mk 2 (.c (.bool false))] 0 [0]) (.seq (rg [mv 3 0,on 4 (.ak F.jO) [.t 3,kI 4,kI 60],mv 2 4] 0 [2]) .ret))
def J7:List aJ:=[.tmp 2]
theorem Vz:aC C.P F.nN 1 JV J7=true:=by kernel_rfl
def Ox:aB:=(.seq (.region false [oa 1 (.box 0) 0,mk 2 (kI 0)] 1 [1] [1]) (.seq (.seq (rg [oa 3 (.load true 2) 1,oa 4 (.ak F.jP) 3,oa 5 (.un .not) 4] 0 [5]) (.cond (.t 5) (.seq (rg [mk 2 (kI 2)] 0 [2]) .ret) .skip)) (.seq (rg [mk 2 (kI 0)] 0 [2]) .ret)))
def OJ:List aJ:=[.tmp 2]
theorem YE:aC C.P F.P5 1 Ox OJ=true:=by kernel_rfl
def LP:aB:=(.seq (.region false [oa 2 (.box 0) 0,oa 3 (.box 1) 1,mk 4 (.c (.slice true [])),mk 5 (kI 0)] 2 [2,3] [2,3]) (.seq (.seq (.region true [of 6 (.load true 2) [.t 2] 1,oa 7 (.ak F.jP) 6,oa 8 (.un .not) 7,mv 9 8,oF 10 (.fld 0) [.t 3] 9 1,oF 11 (.load false 1) [.t 10] 9 1,oF 12 (.fld 0) [.t 2] 9 1,oF 13 (.load false 1) [.t 12] 9 1,oF 14 .len [.t 13] 9 1,oF 15 (.bin .sub) [.t 14,kI 1] 9 0,oF 16 (.ak F.jO) [.t 11,kI 0,.t 15] 9 0,oF 17 (.un .not) [.t 16] 9 0,on 18 .pick [.t 9,.c (.bool true),.t 17],mv 19 18,oF 20 (.fld 1) [.t 3] 19 1,oF 21 (.load true 2) [.t 20] 19 1,oF 22 (.ak F.AU) [.t 21] 19 0,oF 23 (.un .not) [.t 22] 19 0,on 24 .pick [.t 19,.c (.bool true),.t 23],mv 25 24,oF 26 (.fld 1) [.t 3] 25 1,oF 27 (.load true 2) [.t 26] 25 1,oF 28 (.fld 0) [.t 2] 25 1,oF 29 (.load false 1) [.t 28] 25 1,oF 30 (.fld 0) [.t 3] 25 1,oF 31 (.load false 1) [.t 30] 25 1,oF 32 (.bC 3) [.t 29,.t 31] 25 1,oF 33 (.fld 1) [.t 32] 25 1,oF 34 (.load true 2) [.t 33] 25 1,oF 35 (.Qg false [1,1]) [.t 27,.t 34] 25 0,on 36 .pick [.t 25,.c (.bool true),.t 35]] 0 [2,3,36] []) (.cond (.t 36) (.seq (rg [mk 4 (.c (.slice true [])),mk 5 (kI 2)] 0 [4,5]) .ret) .skip)) (.seq (.region true [of 37 (.load true 2) [.t 2] 1,oa 38 (.ak F.wE) 37,of 39 (.load true 2) [.t 2] 1,of 40 (.load true 3) [.t 3] 1,ob 41 (.ak F.yg) 39 40,oa 42 (.ak F.wE) 41,ob 43 (.ak F.lH) 38 42,mv 4 43,mk 5 (kI 0)] 0 [4,5] []) .ret)))
def MC:List aJ:=[.tmp 4, .tmp 5]
theorem Xk:aC C.P F.AQ 2 LP MC=true:=by kernel_rfl
def JU:aB:=(.seq (rg [mk 4 (.c (.bool false))] 0 [0,1]) (.seq (rg [mv 5 0,oa 6 (.ak F.nN) 5,mv 7 6,ot 8 .mov [.t 1] 7 0,ot 9 (.ak F.nN) [.t 8] 7 0,on 10 .pick [.t 7,.t 9,.c (.bool false)],mv 11 10,ot 12 .mov [.t 0] 11 0,ot 13 .mov [.t 1] 11 0,ot 14 (.bin .leq) [.t 12,.t 13] 11 0,on 15 .pick [.t 11,.t 14,.c (.bool false)],mv 4 15] 0 [4]) .ret))
def J6:List aJ:=[.tmp 4]
theorem Vy:aC C.P F.Jw 2 JU J6=true:=by kernel_rfl
def Ee:aB:=(.seq (.region false [oa 1 (.box 0) 0,mk 2 (.c (.bool false))] 1 [1] [1]) (.seq (rg [oa 3 (.fld 0) 1,lo 4 3,on 5 (.ak F.jO) [.t 4,kI 0,kI 50000],mv 6 5,ot 7 (.fld 1) [.t 1] 6 0,ot 8 (.load false 1) [.t 7] 6 0,ot 9 (.ak F.jO) [.t 8,kI 1,kI 50000] 6 0,on 10 .pick [.t 6,.t 9,.c (.bool false)],mv 2 10] 0 [2]) .ret))
def ED:List aJ:=[.tmp 2]
theorem PE:aC C.P F.Bl 1 Ee ED=true:=by kernel_rfl
def QZ:aB:=(.seq (.region false [oa 1 (.box 0) 0,on 2 (.alloc 1 [.slice true [],.slice true [],.slice true []]) []] 2 [1,2] [1]) (.seq (rg [oa 6 (.load true 2) 1,on 7 (.build [.int .i64 0,.int .i64 0] [(0,1),(1,1)]) [kI 1,kI 1],oa 8 (.qc 2 [.agg [.int .i64 0,.int .i64 0]] [0]) 7,ob 9 (.build [.slice true [],.slice true [],.slice true []] [(0,2),(2,1)]) 6 8,on 3 (.alloc 0 [.slice true [],.slice true [],.slice true []]) [],os (.store 3) [.t 3,.t 9] 0] 1 [1,2,3]) (.seq (.seq (rg [oa 10 (.fld 0) 1,lo 11 10,oa 12 .len 11,mk 13 (kI 0)] 0 [1,2,3,12,13]) (.block 0 (.loop (.seq (rg [ob 14 (.bin .lss) 13 12] 0 [1,2,3,12,13,14]) (.seq (.cond (.t 14) .skip (.exit 0)) (.seq (.block 1 (.seq (rg [mv 15 13,mv 4 15] 0 [1,2,3,4,12,13]) (.seq (.region true [of 16 (.fld 2) [.t 3] 2,of 17 (.load false 1) [.t 16] 2,of 18 (.fld 0) [.t 1] 1,of 19 (.load false 1) [.t 18] 1,mv 20 4,of 21 (.bC 3) [.t 19,.t 20] 1,of 22 (.fld 0) [.t 21] 1,of 23 (.load false 1) [.t 22] 1,ob 24 (.bC 2) 17 23,of 25 (.load true 2) [.t 24] 3,on 5 (.alloc 0 [.int .i64 0,.int .i64 0]) [],os (.store 2) [.t 5,.t 25] 4] 1 [1,2,3,4,5,12,13] [5]) (.region true [of 26 (.fld 2) [.t 3] 2,of 27 (.load false 1) [.t 26] 2,of 28 (.fld 0) [.t 5] 1,of 29 (.load false 1) [.t 28] 1,of 30 (.fld 0) [.t 1] 1,of 31 (.load false 1) [.t 30] 1,mv 32 4,of 33 (.bC 3) [.t 31,.t 32] 1,of 34 (.fld 1) [.t 33] 1,of 35 (.fld 0) [.t 34] 1,of 36 (.load false 1) [.t 35] 1,ob 37 (.bin .mul) 29 36,of 38 (.fld 1) [.t 5] 1,of 39 (.load false 1) [.t 38] 1,of 40 (.fld 0) [.t 1] 1,of 41 (.load false 1) [.t 40] 1,mv 42 4,of 43 (.bC 3) [.t 41,.t 42] 1,of 44 (.fld 1) [.t 43] 1,of 45 (.fld 1) [.t 44] 1,of 46 (.load false 1) [.t 45] 1,ob 47 (.bin .mul) 39 46,ob 48 (.build [.int .i64 0,.int .i64 0] [(0,1),(1,1)]) 37 47,of 49 (.iH 2 [.agg [.int .i64 0,.int .i64 0]] [0]) [.t 48] 1,ob 50 (.app 2 false) 27 49,of 51 (.fld 2) [.t 3] 2,os (.store 1) [.t 51,.t 50] 0] 0 [1,2,3,12,13] [])))) (rg [oc 52 (.bin .add) 13 (kI 1),mv 13 52] 0 [1,2,3,12,13]))))))) (.seq (rg [oa 53 (.load true 3) 3,os (.store 3) [.t 2,.t 53] 0] 0 [2]) .ret))))
def Ru:List aJ:=[.cell 2 true 3]
theorem aaJ:aC C.P F.wE 1 QZ Ru=true:=by kernel_rfl
def xk:aB:=(.seq (.region false [oa 10 (.box 0) 0,on 13 (.jV 3) [.c (.slice true [])],mk 14 (.c (.bool false))] 1 [1,2,3,4,5,6,7,8,9,10] [10]) (.seq (.seq (rg [mv 21 2,oc 22 (.bin .eql) 21 (kI 0)] 0 [1,2,3,4,5,6,7,8,9,10,22]) (.cond (.t 22) (.seq (.region true [of 23 (.load true 3) [.t 3] 1,of 24 (.load true 2) [.t 10] 1,oa 25 (.ak F.wE) 24,of 26 (.load false 1) [.t 4] 1,of 27 (.load true 2) [.t 5] 1,on 28 (.ak F.zB) [.t 23,.t 25,.t 26,.t 27],on 13 (.jV 3) [.c (.slice true [])],mv 14 28] 0 [13,14] [13]) .ret) .skip)) (.seq (.seq (rg [mv 29 1,mv 15 29] 0 [2,6,7,8,9,10,15]) (.block 0 (.loop (.seq (.seq (rg [mv 30 15,oa 31 (.fld 0) 6,lo 32 31,oa 33 .len 32,ob 34 (.bin .lss) 30 33] 0 [2,6,7,8,9,10,15,34]) (.cond (.t 34) .skip (.exit 0))) (.seq (.block 1 (.seq (rg [lo 37 7,mv 16 37] 0 [2,6,7,8,9,10,15,16]) (.block 2 (.loop (.seq (.seq (rg [mv 38 16,lo 39 8,ob 40 (.bin .leq) 38 39] 0 [2,6,7,8,9,10,15,16,40]) (.cond (.t 40) .skip (.exit 2))) (.seq (.block 3 (.seq (rg [lo 43 7,mv 17 43] 0 [2,6,7,8,9,10,15,16,17]) (.block 4 (.loop (.seq (.seq (rg [mv 44 17,lo 45 8,ob 46 (.bin .leq) 44 45] 0 [2,6,7,8,9,10,15,16,17,46]) (.cond (.t 46) .skip (.exit 4))) (.seq (.block 5 (.seq (.region false [mv 49 15,mv 50 16,mv 51 17,ob 52 (.build [.int .i64 0,.int .i64 0] [(0,1),(1,1)]) 50 51,ob 53 (.build [.int .i64 0,.int .i64 0,.int .i64 0] [(0,1),(1,2)]) 49 52,on 18 (.alloc 0 [.int .i64 0,.int .i64 0,.int .i64 0]) [],os (.store 3) [.t 18,.t 53] 0] 1 [2,6,7,8,9,10,15,16,17,18] [18]) (.seq (.seq (.region true [of 54 (.fld 1) [.t 18] 1,of 55 (.load true 2) [.t 54] 1,of 56 (.fld 0) [.t 6] 1,of 57 (.load false 1) [.t 56] 1,mv 58 15,of 59 (.bC 3) [.t 57,.t 58] 1,of 60 (.fld 1) [.t 59] 1,of 61 (.load true 2) [.t 60] 1,ob 62 (.Qg false [1,1]) 55 61] 0 [2,6,7,8,9,10,15,16,17,18,62] []) (.cond (.t 62) (.exit 5) .skip)) (.seq (.region true [of 64 (.load false 1) [.t 9] 2,of 65 (.load true 2) [.t 10] 1,of 66 (.load true 3) [.t 18] 1,ob 67 (.ak F.yg) 65 66,mv 68 15,oc 69 (.bin .add) 68 (kI 1),mv 70 2,oc 71 (.bin .sub) 70 (kI 1),on 72 .je [.t 64,.t 67,.t 69,.t 71],mv 63 72,oa 73 (.ext 0) 63,oa 74 (.ext 1) 63,mv 19 73,mv 20 74] 0 [2,6,7,8,9,10,15,16,17,18,19,20] []) (.seq (rg [mv 75 20] 0 [2,6,7,8,9,10,15,16,17,18,19,75]) (.cond (.t 75) (.seq (.region false [oa 76 (.load true 3) 18,oa 77 (.iH 3 [.agg [.int .i64 0,.int .i64 0,.int .i64 0]] [0]) 76,mv 78 19,ob 79 (.app 3 false) 77 78,mv 13 79,mk 14 (.c (.bool true))] 0 [13,14] [13,13]) .ret) .skip)))))) (rg [mv 47 17,oc 48 (.bin .add) 47 (kI 1),mv 17 48] 0 [2,6,7,8,9,10,15,16,17]))))))) (rg [mv 41 16,oc 42 (.bin .add) 41 (kI 1),mv 16 42] 0 [2,6,7,8,9,10,15,16]))))))) (rg [mv 35 15,oc 36 (.bin .add) 35 (kI 1),mv 15 36] 0 [2,6,7,8,9,10,15])))))) (.seq (.region false [on 13 (.jV 3) [.c (.slice true [])],mk 14 (.c (.bool false))] 0 [13,14] [13]) .ret))))
def xR:List aJ:=[.tmp 13, .tmp 14]
theorem FB:aC C.P F.yc 10 xk xR=true:=by kernel_rfl
def BP:aB:=(.seq (.region false [oa 4 (.box 0) 0,oa 5 (.box 1) 1,oa 7 (.box 2) 3,mk 8 (.c (.bool false))] 3 [2,4,5,7] [4,5,7]) (.seq (.seq (.region true [of 10 (.fld 2) [.t 5] 1,of 11 (.load false 1) [.t 10] 1,of 12 (.fld 0) [.t 4] 1,of 13 (.fld 1) [.t 12] 1,of 14 (.load false 1) [.t 13] 1,mv 15 2,of 16 (.bC 1) [.t 14,.t 15] 1,of 17 (.load false 1) [.t 16] 1,of 18 (.bC 2) [.t 11,.t 17] 1,of 19 (.load true 2) [.t 18] 1,of 20 (.load true 2) [.t 7] 1,ob 21 (.ak F.yj) 19 20,oa 22 (.un .not) 21] 0 [2,4,5,22] []) (.cond (.t 22) (.seq (rg [mk 8 (.c (.bool false))] 0 [8]) .ret) .skip)) (.seq (rg [oa 23 (.load true 3) 4,oa 24 (.load true 3) 5,ob 25 (.ak F.lH) 23 24,mv 9 25] 0 [2,9]) (.seq (rg [mv 26 9,oa 27 .len 26,oc 28 (.bin .eql) 27 (kI 0),mv 29 28,oF 30 .mov [.t 9] 29 0,oF 31 .len [.t 30] 29 0,oF 32 (.bin .eql) [.t 31,kI 1] 29 0,oF 33 .mov [.t 32] 29 0,ot 34 .mov [.t 9] 33 0,ot 35 (.bC 1) [.t 34,kI 0] 33 0,ot 36 (.load false 1) [.t 35] 33 0,ot 37 .mov [.t 2] 33 0,ot 38 (.bin .eql) [.t 36,.t 37] 33 0,oF 39 .pick [.t 33,.t 38,.c (.bool false)] 29 0,on 40 .pick [.t 29,.c (.bool true),.t 39],mv 8 40] 0 [8]) .ret))))
def CG:List aJ:=[.tmp 8]
theorem NW:aC C.P F.zB 4 BP CG=true:=by kernel_rfl
def JQ:aB:=(.seq (.region false [oa 2 (.box 0) 0,oa 3 (.box 1) 1,on 4 (.alloc 2 [.slice true [],.slice true []]) []] 3 [2,3,4] [3]) (.seq (rg [oa 5 (.fld 0) 2,lo 6 5,oa 7 (.Ap F.iL) 6,oa 8 (.fld 0) 2,os (.store 1) [.t 8,.t 7] 0] 0 [2,3,4]) (.seq (rg [oa 9 (.fld 0) 2,lo 10 9,oa 11 (.fld 0) 3,lo 12 11,oa 13 (.fld 1) 3,oa 14 (.load true 2) 13,ob 15 (.bC 3) 10 12,oa 16 (.fld 1) 15,os (.store 2) [.t 16,.t 14] 0] 0 [2,4]) (.seq (rg [oa 17 (.load true 2) 2,os (.store 2) [.t 4,.t 17] 0] 0 [4]) .ret))))
def J4:List aJ:=[.cell 4 true 2]
theorem Vw:aC C.P F.yg 2 JQ J4=true:=by kernel_rfl
def LU:aB:=(.seq (rg [oa 3 (.box 0) 0] 1 [1,2,3]) (.seq (rg [on 4 (.alloc 0 [.nilFunc]) []] 1 [1,2,3,4]) (.seq (rg [on 5 (.mkF (.func F.uK) 0) [.t 4,.t 1,.t 3],os (.store 1) [.t 4,.t 5] 0] 0 [2,4]) (rg [lo 6 4,lo 7 2,ob 8 .je 6 7] 0 []))))
def MG:List aJ:=[]
theorem Xm:aC C.P F.FP 3 LU MG=true:=by kernel_rfl
def zx:aB:=(.seq (rg [mk 5 (.c (.bool false))] 0 [0,1,2,3]) (.seq (.seq (rg [mv 6 0,oc 7 (.bin .eql) 6 (kI 0)] 0 [0,1,2,3,7]) (.cond (.t 7) (.seq (rg [mk 5 (.c (.bool true))] 0 [5]) .ret) .skip)) (.seq (.region true [of 8 (.load false 1) [.t 1] 2,of 9 (.load false 1) [.t 2] 1,mv 10 0,oc 11 (.bin .sub) 10 (kI 1),of 12 (.bC 3) [.t 9,.t 11] 1,of 13 (.fld 0) [.t 12] 1,of 14 (.load false 1) [.t 13] 1,ob 15 .je 8 14,mv 16 15,ot 17 (.load false 1) [.t 3] 16 2,ot 18 .mov [.t 0] 16 0,ot 19 (.bin .sub) [.t 18,kI 1] 16 0,ot 20 .je [.t 17,.t 19] 16 0,on 21 .pick [.t 16,.t 20,.c (.bool false)],mv 5 21] 0 [5] []) .ret)))
def zy:List aJ:=[.tmp 5]
theorem Tz:aC C.P F.uK 4 zx zy=true:=by kernel_rfl
def Ai:aB:=(.seq (.region false [oa 2 (.box 0) 0,oa 3 (.box 1) 1,on 4 (.jV 1) [.c (.slice true [])]] 2 [2,3] [2,3]) (.seq (rg [on 5 (.jV 1) [.c (.slice true [])]] 0 [2,3,5]) (.seq (.seq (rg [oa 8 (.fld 0) 2,oa 9 (.fld 1) 8,lo 10 9,oa 11 .len 10,mk 12 (kI 0)] 0 [2,3,5,10,11,12]) (.block 0 (.loop (.seq (rg [ob 13 (.bin .lss) 12 11] 0 [2,3,5,10,11,12,13]) (.seq (.cond (.t 13) .skip (.exit 0)) (.seq (.block 1 (.seq (rg [mv 14 12,ob 15 (.bC 1) 10 12,lo 16 15,mv 6 14,mv 7 16] 0 [2,3,5,6,7,10,11,12]) (.seq (.region true [of 17 (.fld 2) [.t 2] 1,of 18 (.load false 1) [.t 17] 1,mv 19 7,of 20 (.bC 2) [.t 18,.t 19] 1,of 21 (.load true 2) [.t 20] 1,of 22 (.fld 2) [.t 3] 1,of 23 (.load false 1) [.t 22] 1,mv 24 7,of 25 (.bC 2) [.t 23,.t 24] 1,of 26 (.load true 2) [.t 25] 1,ob 27 (.ak F.yj) 21 26,oa 28 (.un .not) 27] 0 [2,3,5,6,10,11,12,28] []) (.cond (.t 28) (rg [mv 29 5,mv 30 6,oa 31 (.iH 1 [.int .i64 0] [0]) 30,ob 32 (.app 1 true) 29 31,mv 5 32] 0 [2,3,5,10,11,12]) .skip)))) (rg [oc 33 (.bin .add) 12 (kI 1),mv 12 33] 0 [2,3,5,10,11,12]))))))) (.seq (rg [mv 34 5,mv 4 34] 0 [4]) .ret))))
def AA:List aJ:=[.tmp 4]
theorem Ll:aC C.P F.lH 2 Ai AA=true:=by kernel_rfl
def FH:aB:=(.seq (.region false [oa 2 (.box 0) 0,oa 3 (.box 1) 1,mk 4 (.c (.bool false))] 2 [2,3] [2,3]) (.seq (rg [oa 5 (.fld 0) 2,lo 6 5,oa 7 (.fld 1) 3,lo 8 7,ob 9 (.bin .mul) 6 8,oa 10 (.fld 0) 3,lo 11 10,oa 12 (.fld 1) 2,lo 13 12,ob 14 (.bin .mul) 11 13,ob 15 (.bin .eql) 9 14,mv 4 15] 0 [4]) .ret))
def FM:List aJ:=[.tmp 4]
theorem QM:aC C.P F.yj 2 FH FM=true:=by kernel_rfl
def Hq:aB:=(.seq (.region false [oa 2 (.box 0) 0,oa 3 (.box 1) 1,mk 4 (.c (.slice true [])),mk 5 (kI 0)] 2 [2,3] [2,3]) (.seq (.seq (.region true [of 6 (.load true 2) [.t 2] 1,oa 7 (.ak F.jP) 6,oa 8 (.un .not) 7,mv 9 8,oF 10 (.fld 0) [.t 3] 9 1,oF 11 (.load false 1) [.t 10] 9 1,oF 12 (.fld 0) [.t 2] 9 1,oF 13 (.load false 1) [.t 12] 9 1,oF 14 .len [.t 13] 9 1,oF 15 (.bin .sub) [.t 14,kI 1] 9 0,oF 16 (.ak F.jO) [.t 11,kI 0,.t 15] 9 0,oF 17 (.un .not) [.t 16] 9 0,on 18 .pick [.t 9,.c (.bool true),.t 17],mv 19 18,oF 20 (.fld 1) [.t 3] 19 1,oF 21 (.load true 2) [.t 20] 19 1,oF 22 (.ak F.AU) [.t 21] 19 0,oF 23 (.un .not) [.t 22] 19 0,on 24 .pick [.t 19,.c (.bool true),.t 23],mv 25 24,oF 26 (.fld 1) [.t 3] 25 1,oF 27 (.load true 2) [.t 26] 25 1,oF 28 (.fld 0) [.t 2] 25 1,oF 29 (.load false 1) [.t 28] 25 1,oF 30 (.fld 0) [.t 3] 25 1,oF 31 (.load false 1) [.t 30] 25 1,oF 32 (.bC 3) [.t 29,.t 31] 25 1,oF 33 (.fld 1) [.t 32] 25 1,oF 34 (.load true 2) [.t 33] 25 1,oF 35 (.Qg false [1,1]) [.t 27,.t 34] 25 0,on 36 .pick [.t 25,.c (.bool true),.t 35]] 0 [2,3,36] []) (.cond (.t 36) (.seq (rg [mk 4 (.c (.slice true [])),mk 5 (kI 2)] 0 [4,5]) .ret) .skip)) (.seq (.region true [of 37 (.load true 2) [.t 2] 1,oa 38 (.ak F.wE) 37,of 39 (.load true 2) [.t 2] 1,of 40 (.load true 3) [.t 3] 1,ob 41 (.ak F.yg) 39 40,oa 42 (.ak F.wE) 41,of 43 (.Ap F.lH) [.t 38,.t 42] 1,mv 4 43,mk 5 (kI 0)] 0 [4,5] []) .ret)))
def Ie:List aJ:=[.tmp 4, .tmp 5]
theorem Tt:aC C.P F.AQ 2 Hq Ie=true:=by kernel_rfl
end Go.Tel
namespace Go.Am
theorem E8 {α:Type}{l:List α}{x:α}:(l++ [x])[l.length]?=some x:=by simp
theorem VD {α:Type}{l:List α}{x y:α}:(l++ [x]).set l.length y=l++ [y]:=by simp
theorem Qq {C:Ctx}{base:Nat}{M:Mem}{K:PV→Mem→Prop}{KP:DV→Mem→Prop}{f:FuncId}{fs cs args:List PV}(hc:callable C.P f=true)(h:SC C f (fs++args++cs) M K KP):aj C base .je (.func (.func f) fs cs::args) M K KP:=⟨hc,h⟩
def no:Nat→Prop:=fun _=>False
theorem Kept.RI {n:Nat}{own wJ:Nat→Prop}{bs:List (Option (List PV))}{fz:List Nat}{ar ar':List (Option Arr)}{i:Nat}{x:Option (List PV)}(hi:i<n)(ho:¬own i)(hl:ar.length≤ar'.length)(hr:∀k,wJ k→ar'[k]?=ar[k]?):
  Kept n own wJ ⟨bs,fz,ar⟩ ⟨bs.set i x,fz,ar'⟩:=
 ⟨by simp,hl,fun j hj _=>by
  have:i≠j:=by rintro rfl;exact hj.elim (fun h=>by omega) ho
  simp[this],fun _ _ _=>Iff.rfl,hr,fun h j hj=>by simpa using h j hj⟩
end Go.Am
namespace Go.Tel
open Go.Am
def nDV (n:Nat):List DV:=[.int .i64 n]
def BF (ls:List Lk):Nat→Nat→List Nat
 |0,_=>[]
 | _+1,0=>[]
 |k+1,a+1=>BF ls k (ls.getD a default).fr.toNat++ [a]
def iw (ls:List Lk)(a:Nat):List Nat:=BF ls a a
def linked (ls:List Lk):Prop:=∀i,i<ls.length→0≤(ls.getD i default).fr∧(ls.getD i default).fr≤i
theorem afc {ls:List Lk}(h:linked ls):∀(k a:Nat),a≤k→a≤ls.length→BF ls k a=BF ls a a:=by
 intro k a
 induction a using Nat.strongRecOn generalizing k with
 |ind a ih=>
  intro hk hl
  match a,k,hk with
  |0,0,_=>rfl
  |0,k+1,_=>rfl
  |a+1,k+1,hk=>
   have hf:=h a (by omega)
   have hle:(ls.getD a default).fr.toNat≤a:=by omega
   simp only[BF]
   rw[ih _ (by omega) k (by omega) (by omega),ih _ (by omega) a (by omega) (by omega)]
theorem zu {ls:List Lk}(h:linked ls){a:Nat}(ha:a<ls.length):iw ls (a+1)=iw ls (ls.getD a default).fr.toNat++ [a]:=by
 have hf:=h a ha
 have hle:(ls.getD a default).fr.toNat≤a:=by omega
 simp only[iw,BF]
 rw[afc h _ _ (by omega) (by omega)]
theorem acV {ls:List Lk}(h:linked ls):∀{a:Nat},a≤ls.length→∀i∈iw ls a,i<a:=by
 intro a
 induction a using Nat.strongRecOn with
 |ind a ih=>
  intro hl i hi
  match a,hl,ih with
  |0,_,_=>simp[iw,BF]at hi
  |a+1,hl,ih=>
   rw[zu h hl]at hi
   have hf:=h a hl
   rcases List.mem_append.1 hi with hi|hi
   ·have:=ih _ (by omega) (by omega) i hi;omega
   ·simp only[List.mem_singleton]at hi;omega
theorem Zm {ls:List Lk}(h:linked ls):∀{a:Nat},a≤ls.length→(iw ls a).length≤a:=by
 intro a
 induction a using Nat.strongRecOn with
 |ind a ih=>
  intro hl
  match a,hl,ih with
  |0,_,_=>simp[iw,BF]
  |a+1,hl,ih=>
   rw[zu h hl,List.length_append,List.length_singleton]
   have hf:=h a hl
   have:=ih (ls.getD a default).fr.toNat (by omega) (by omega)
   omega
section
variable {ls:List Lk}{n b bw bv:Nat}{R:List (List DV)→Mem→Prop}{stop:Mem→Prop}{KP:DV→Mem→Prop}{xs:List (List DV)}
def akU (ls:List Lk)(bw bv:Nat):PV:= .func (.func F.uK) [] [.ptr bw 0, .d (.aX [.slice false (ls.map Lk.dv)]), .ptr bv 0]
structure Sj (ls:List Lk) (b bw bv:Nat) (M:Mem):Prop where
 w:M.boxes[bw]?=some (some [.func (.func F.uK) [] [.ptr bw 0, .d (.aX [.slice false (ls.map Lk.dv)]), .ptr bv 0]])
 v:M.boxes[bv]?=some (some [.qY b])
theorem Sj.kept {M M':Mem}(h:Sj ls b bw bv M)(hw:n≤bw)(hv:n≤bv)(hk:Kept n no no M M'):Sj ls b bw bv M':=
 ⟨(hk.box bw (.inl hw) (List.getElem?_eq_some_iff.1 h.w).1).trans h.w,(hk.box bv (.inl hv) (List.getElem?_eq_some_iff.1 h.v).1).trans h.v⟩
theorem akg (hls:linked ls)(hl:ls.length≤1000000)(hw:n≤bw)(hv:n≤bv)
  (nD:∀pre x post M1,xs=pre++x::post→n≤M1.boxes.length→R pre M1→SY C b (x.map .d) M1 (fun p M'=>Kept n no no M1 M'∧((p= .d (.bool true)∧R (pre++ [x]) M')∨(p= .d (.bool false)∧stop M'))) KP):
  ∀(a:Nat) (pre post:List (List DV)) (M1:Mem),a≤ls.length→xs=pre++((iw ls a).map nDV++post)→Sj ls b bw bv M1→R pre M1→
   SC C F.uK [.d (.int .i64 a), .ptr bw 0, .d (.aX [.slice false (ls.map Lk.dv)]), .ptr bv 0] M1
    (fun p M'=>Sj ls b bw bv M'∧((p= .d (.bool true)∧R (pre++(iw ls a).map nDV) M')∨(p= .d (.bool false)∧stop M'))) KP:=by
 intro a
 induction a using Nat.strongRecOn with
 |ind a ih=>
  intro pre post M1 ha hx hP hR
  refine aF mixed rfl Tz ?_
  obtain⟨bs,fz,ar⟩:=M1
  obtain⟨p1,p2⟩:=hP
  simp only at p1 p2
  have l1:=(List.getElem?_eq_some_iff.1 p1).1
  have l2:=(List.getElem?_eq_some_iff.1 p2).1
  match a,ha,hx,ih with
  |0,ha,hx,ih=>
   simp only[zx,zy,Int.natCast_zero,BEq.rfl,decide_true,RN,qA,qB,qC,qD,qE,qF]
   exact⟨⟨p1,p2⟩, .inl (by simpa[iw,BF]using hR)⟩
  |a+1,ha,hx,ih=>
   have hne:(((a+1:Nat):Int)==0)=false:=by simp;omega
   have e1:IntKind.i64.wrap (((a+1:Nat):Int) - 1)=(a:Int):=by rw[aG (by omega)];omega
   have hf:=hls a (by omega)
   have hlt:a<ls.length:=by omega
   obtain⟨q,hq⟩:∃q:Nat,(ls.getD a default).fr=q:=⟨(ls.getD a default).fr.toNat,by omega⟩
   have hpl:iw ls (a+1)=iw ls q++ [a]:=by rw[zu hls (by omega),hq];rfl
   rw[hpl,List.map_append,List.append_assoc]at hx
   have h0:(0:Int)≤(a:Int):=by omega
   simp only[zx,zy,hne,p1,p2,l1,l2,e1,h0,hlt,getD_map,Int.toNat_natCast,List.length_map,JG,hq,RN,qA,qB,qC,qD,qE,qF]
   refine Qq (args:=[_]) (cs:=[_,_,_]) (by kernel_rfl) ?_
   refine SC.mono (ih q (by omega) pre _ _ (by omega) hx ⟨p1,p2⟩ hR) ?_
   rintro p ⟨bs',fz',ar'⟩ ⟨⟨g1,g2⟩,hp⟩
   simp only at g1 g2
   rcases hp with⟨rfl,hR'⟩|⟨rfl,hs⟩
   ·simp only[g1,g2,l1,l2,e1,RN,qA,qB,qC,qD,qE,qF]
    refine GU ?_
    have hy:=nD (pre++(iw ls q).map nDV) (nDV a) post ⟨bs',fz',ar'⟩ (by rw[hx];simp) (Nat.le_of_lt (Nat.lt_of_le_of_lt hw (List.getElem?_eq_some_iff.1 g1).1)) hR'
    refine SY.mono hy ?_
    rintro p ⟨bs2,fz2,ar2⟩ ⟨hk,hp⟩
    have hP2:=Sj.kept (M:=⟨bs',fz',ar'⟩) ⟨g1,g2⟩ hw hv hk
    rcases hp with⟨rfl,hR2⟩|⟨rfl,hs⟩
    ·(try simp only[RN,qA,qB,qC,qD,qE,qF])
     exact⟨hP2, .inl (by rw[hpl,List.map_append,←List.append_assoc];exact hR2)⟩
    ·(try simp only[RN,qA,qB,qC,qD,qE,qF])
     exact⟨hP2, .inr hs⟩
   ·(try simp only[RN,qA,qB,qC,qD,qE,qF])
    exact⟨⟨g1,g2⟩, .inr hs⟩
end
theorem Zn {ls:List Lk}(hls:linked ls)(hl:ls.length≤1000000)(a:Nat)(ha:a≤ls.length):
  YN C F.FP [] [.d (.aX [.slice false (ls.map Lk.dv)]), .d (.aX [.int .i64 a])] ((iw ls a).map nDV) no no no (fun _=>True):=by
 rintro⟨bs,fz,ar⟩ b n R stop K KP hbn _ hn hfz _ hst nD h0 hstop hend
 simp only at hn hfz
 refine aF mixed rfl Xm ?_
 have hf:(bs++ [some [PV.qY b]]).length∉fz:=fun h=>by have:=hfz _ h;simp at this;omega
 simp only[LU,MG,E8,VD,pJ,cells_func,aeb,ab3,acO,hf,RN,qA,qB,qC,qD,qE,qF]
 refine Qq (args:=[_]) (cs:=[_,_,_]) (by kernel_rfl) ?_
 refine SC.mono (akg (bw:=(bs++ [some [PV.qY b]]).length) (bv:=bs.length) hls hl (by simp;omega) hn nD a [] [] _ ha (by simp) ⟨by simp,by simp⟩ (hst _ _ _ ?_ h0)) ?_
 ·have:=Moved.ext (own:=no) (fz:=fz) (ar:=ar) (xb:=[some [PV.qY b],some [akU ls (bs++ [some [PV.qY b]]).length bs.length]]) (xf:=[]) hn (by simp)
  simpa[akU]using this
 ·rintro p M' ⟨⟨q1,q2⟩,hp⟩
  have hl:=(List.getElem?_eq_some_iff.1 q2).1
  rcases hp with⟨rfl,hR⟩|⟨rfl,hs⟩
  ·exact hend _ _ (by omega) (by simpa using hR)
  ·exact hstop _ _ hs
theorem akf (ls:List Lk)(a:Int):Pure C F.Nz [.slice false (ls.map Lk.dv), .int .i64 a] (.d (.func (.func F.FP) [] [.aX [.slice false (ls.map Lk.dv)], .aX [.int .i64 a]])) []:=by
 refine ah mixed rfl aaI ?_
 simp only[QY,Rt,List.not_mem_nil,RN,qA,qB,qC,qD,qE,qF]
theorem apg (ls:List Lk)(hls:linked ls)(hl:ls.length≤1000)(a:Nat)(ha:a≤ls.length):Pure C F.Ya [.slice false (ls.map Lk.dv), .int .i64 a] (.d (.int .i64 (iw ls a).length)) []:=by
 refine ah mixed rfl acL ?_
 simp only[UR,Vf,RN,qA,qB,qC,qD,qE,qF]
 refine au rfl rfl (akf ls a) ?_
 have hpl:=Zm hls ha
 refine vG (Zn hls (by omega) a ha) (fun _ h=>h) rfl (by kernel_rfl) (by simp) (fun x hx=>by obtain⟨i,_,rfl⟩:=List.mem_map.1 hx;rfl) (fun _ h=>h.elim) (fun _ _=>trivial)
  (fun pre M=>M.boxes[0]?=some (some [.d (.int .i64 pre.length)])∧0∉M.fz) ?_ ⟨rfl,by simp⟩ ?_ ?_
 ·rintro pre M1 M2 hm ⟨h1,h2⟩
  exact⟨(hm.box 0 (by simp) id).trans h1,fun h=>h2 ((hm.fz 0 (by simp) id).1 h)⟩
 ·rintro L cells pre x post ⟨bs,fz,ar⟩ hx hlt hrec hnf ⟨h1,h2⟩ M0
  simp only[List.length_singleton]at hlt hrec hnf h1 h2⊢
  have hpre:pre.length≤1000:=by
   have:=congrArg List.length hx
   simp at this;omega
  have hlt0:0<bs.length:=by omega
  obtain⟨i,hi,rfl⟩:∃i,i∈iw ls a∧nDV i=x:=by
   have:x∈(iw ls a).map nDV:=by rw[hx];simp
   simpa using this
  have e1:IntKind.i64.wrap ((pre.length:Int)+1)=((pre++ [nDV i]).length:Int):=by rw[aG (by omega)];simp
  simp only[h1,h2,e1,zL,nDV,List.zip_cons_cons,List.zip_nil_left,RN,qA,qB,qC,qD,qE,qF]
  exact⟨by simpa using hrec,hnf,Kept.set (M:=⟨bs,fz,ar⟩) (by omega) id,by simp[hlt0]⟩
 ·rintro⟨bs,fz,ar⟩ ⟨h1,h2⟩ hlt
  simp only at h1
  simp only[h1,RN,qA,qB,qC,qD,qE,qF]
  simp
theorem zi {C:Ctx}{base sz:Nat}{M:Mem}{K:PV→Mem→Prop}{KP:DV→Mem→Prop}{z:DV}{cs:List DV}:aj C base (.iH sz [z] [0]) [.d (.agg cs)] M K KP=((DV.strip (.agg cs)).cells.length=sz∧K (.d (.slice true [DV.strip (.agg cs)])) M):=jZ
def mV (ls:List Lk)(a:Nat):List Pr:=(iw ls a).map fun i=>(ls.getD i default).pr
theorem afx (p:Pc)(hls:linked p.links)(hl:p.links.length≤1000)(a:Nat)(ha:a≤p.links.length)(h0:0<a):SC C F.qU ([p.dv, .int .i64 a].map .d) bH (fun v M=>Qd M v 2 ((mV p.links a).map Pr.dv) 1) (fun _ _=>False):=by
 refine aF mixed rfl VA ?_
 simp only[JW,J8,lY,List.not_mem_nil,RN,qA,qB,qC,qD,qE,qF]
 refine au rfl rfl (akf p.links a) ?_
 have hpl:=Zm hls ha
 refine vG (Zn hls (by omega) a ha) (fun _ h=>h) rfl (by kernel_rfl) (by simp) (fun x hx=>by obtain⟨i,_,rfl⟩:=List.mem_map.1 hx;rfl) (fun _ h=>h.elim) (fun _ _=>trivial)
  (fun pre M=>∃(l:List Nat) (v:PV),pre=l.map nDV∧M.boxes[1]?=some (some [v])∧1∉M.fz∧((l=[]∧v= .d (.slice true []))∨(l≠[]∧Qd M v 2 ((l.map fun i=>(p.links.getD i default).pr).map Pr.dv) 1))) ?_ ⟨[],_,rfl,rfl,by simp, .inl ⟨rfl,rfl⟩⟩ ?_ ?_
 ·rintro pre M1 M2 hm ⟨l,v,h1,h2,h3,h4⟩
  refine⟨l,v,h1,(hm.box 1 (by simp) id).trans h2,fun h=>h3 ((hm.fz 1 (by simp) id).1 h),h4.imp id fun⟨q1,k,ver,q2,q3⟩=>⟨q1,k,ver,q2,by rw[hm.aA];exact q3⟩⟩
 ·rintro L cells pre x post ⟨bs,fz,ar⟩ hx hlt hrec hnf ⟨l,v,rfl,h1,h2,h3⟩ M0
  simp only[List.length_cons,List.length_nil]at hlt hrec hnf h1 h2 h3⊢
  have hpre:l.length≤1000:=by
   have:=congrArg List.length hx
   simp at this;omega
  have hlt0:1<bs.length:=by omega
  obtain⟨i,hi,rfl⟩:∃i,i∈iw p.links a∧nDV i=x:=by
   have:x∈(iw p.links a).map nDV:=by rw[hx];simp
   simpa using this
  have hil:i<p.links.length:=by have:=acV hls ha i hi;omega
  have hi0:(0:Int)≤(i:Int):=by omega
  have ang:∀y,(bs.set 1 y)[2]?=bs[2]?:=fun y=>by simp
  have hset:∀y,(bs.set 1 y)[1]?=some y:=fun y=>by simp[hlt0]
  rcases h3 with⟨rfl,rfl⟩|⟨hne,k,ver,rfl,hk⟩
  ·simp only[h1,h2,hlt0,hi0,hil,getD_map,Int.toNat_natCast,List.length_map,JG,zi,DV.strip,zL,nDV,List.zip_cons_cons,List.zip_nil_left,VH,forall_eq,bM,dN,RN,qA,qB,qC,qD,qE,qF]
   refine⟨by simp,by simp,by rw[ang];exact hrec,hnf,Kept.RI (by omega) id (by simp) (fun _ h=>h.elim),[i],_,rfl,hset _, .inr ⟨by simp,ar.length,0,rfl,by simp[yC]⟩⟩
  ·have hkl:=(List.getElem?_eq_some_iff.1 hk).1
   have hlen:l.length≤1073741823:=by omega
   simp only[h1,h2,hlt0,hi0,hil,hk,getD_map,Int.toNat_natCast,List.length_map,JG,zi,DV.strip,zL,nDV,List.zip_cons_cons,List.zip_nil_left,VH,forall_eq,bM,dN,RN,qA,qB,qC,qD,qE,qF]
   refine⟨by simp,by simpa using hlen,by rw[ang];exact hrec,hnf,Kept.RI (by omega) id (by simp) (fun _ h=>h.elim),l++ [i],_,by simp[nDV],hset _, .inr ⟨by simp,k,ver+1,rfl,by simp[hkl,yC]⟩⟩
 ·rintro⟨bs,fz,ar⟩ ⟨l,v,h1,h2,h3,h4⟩ hlt
  simp only at h2
  simp only[h2,RN,qA,qB,qC,qD,qE,qF]
  have he:(iw p.links a)=l:=(List.map_inj_right (fun x y h=>by simp only[nDV,List.cons.injEq,DV.int.injEq,true_and,and_true,Int.natCast_inj]at h;exact h)).1 h1
  rcases h4 with⟨rfl,_⟩|⟨_,h4⟩
  ·obtain⟨b,rfl⟩:∃b,a=b+1:=⟨a - 1,by omega⟩
   rw[zu hls (by omega)]at he
   simp at he
  ·rw[mV,he];exact h4
theorem TW (p:Pc)(hls:linked p.links)(hl:p.links.length≤1000)(a:Nat)(ha:a≤p.links.length)(h0:0<a):Pure C F.qU [p.dv, .int .i64 a] (.d (.slice false ((mV p.links a).map Pr.dv))) []:=
 gI (SC.mono (afx p hls hl a ha h0) fun _ _ h=>h.datum)
def Bf (pre:List Lk)(l:Lk):Bool:=inR l.fr 0 pre.length&&l.pr.ok&& !decide ((iw pre l.fr.toNat).length≥3)
def uQ:List Lk→List Lk→Bool
 | _,[]=>true
 |pre,l::ls=>Bf pre l&&uQ (pre++ [l]) ls
def Pc.ok (p:Pc):Bool:=inR p.links.length 1 5&&inR p.hands.length 1 4&&uQ [] p.links&&p.hands.all (fun n=>inR n 1 p.links.length)
theorem ML (n l h:Int):Pure C F.jO [.int .i64 n, .int .i64 l, .int .i64 h] (.d (.bool (inR n l h))) []:=by
 refine ah mixed rfl ae8 ?_
 by_cases h1:n≥l<;>simp only[h1,inR,Xv,XR,Bool.false_and,RN,qA,qB,qC,qD,qE,qF]
theorem Yi (n:Int):Pure C F.nN [.int .i64 n] (.d (.bool (bg n))) []:=by
 refine ah mixed rfl Vz ?_
 simp only[JV,J7,RN,qA,qB,qC,qD,qE,qF]
 repeat' first
  |(refine au rfl rfl (ML _ _ _) ?_;try simp only[RN,qA,qB,qC,qD,qE,qF])
  |(refine bJ (by rfl) (fun hB=> ?_) (fun hB=> ?_)<;>simp only[hB,RN,qA,qB,qC,qD,qE,qF])
  |(refine bZ (by rfl) (fun hB=> ?_) (fun hB=> ?_)<;>simp only[hB,RN,qA,qB,qC,qD,qE,qF])
 all_goals(first|(simp only[bg, *,Bool.not_true,Bool.not_false,Bool.not_not,Bool.and_true,Bool.true_and,Bool.and_false,Bool.false_and,Bool.or_true,Bool.true_or,Bool.or_false,Bool.false_or,Bool.and_self,Bool.or_self,if_true,if_false,reduceIte,cond_true,cond_false,Bool.false_eq_true];done)|(simp_all[bg];done)|(simp_all[bg];omega))
theorem amQ (f:Fr):Pure C F.Bl [f.dv] (.d (.bool f.ok)) []:=by
 refine ah mixed rfl PE ?_
 simp only[Ee,ED,dH,RN,qA,qB,qC,qD,qE,qF]
 repeat' first
  |(refine au rfl rfl (ML _ _ _) ?_;try simp only[dH,RN,qA,qB,qC,qD,qE,qF])
  |(refine bJ (by rfl) (fun hB=> ?_) (fun hB=> ?_)<;>simp only[hB,dH,RN,qA,qB,qC,qD,qE,qF])
  |(refine bZ (by rfl) (fun hB=> ?_) (fun hB=> ?_)<;>simp only[hB,dH,RN,qA,qB,qC,qD,qE,qF])
 all_goals(first|(simp only[Fr.ok, *,Bool.not_true,Bool.not_false,Bool.not_not,Bool.and_true,Bool.true_and,Bool.and_false,Bool.false_and,Bool.or_true,Bool.true_or,Bool.or_false,Bool.false_or,Bool.and_self,Bool.or_self,if_true,if_false,reduceIte,cond_true,cond_false,Bool.false_eq_true];done)|(simp_all[Fr.ok];done)|(simp_all[Fr.ok];omega))
theorem aaV (p:Pr):Pure C F.AU [p.dv] (.d (.bool p.ok)) []:=by
 refine ah mixed rfl Xl ?_
 simp only[LQ,MF,yC,RN,qA,qB,qC,qD,qE,qF]
 repeat' first
  |(refine au rfl rfl (Yi _) ?_;try simp only[yC,RN,qA,qB,qC,qD,qE,qF])
  |(refine bJ (by rfl) (fun hB=> ?_) (fun hB=> ?_)<;>simp only[hB,yC,RN,qA,qB,qC,qD,qE,qF])
  |(refine bZ (by rfl) (fun hB=> ?_) (fun hB=> ?_)<;>simp only[hB,yC,RN,qA,qB,qC,qD,qE,qF])
 all_goals(first|(simp only[Pr.ok, *,Bool.not_true,Bool.not_false,Bool.not_not,Bool.and_true,Bool.true_and,Bool.and_false,Bool.false_and,Bool.or_true,Bool.true_or,Bool.or_false,Bool.false_or,Bool.and_self,Bool.or_self,if_true,if_false,reduceIte,cond_true,cond_false,Bool.false_eq_true];done)|(simp_all[Pr.ok];done)|(simp_all[Pr.ok];omega))
theorem aeP (p:Pc)(n:Int):Pure C F.yh [.int .i64 n, .aX [.slice false (p.links.map Lk.dv), .slice false (p.hands.map ay)]] (.d (.bool (!inR n 1 p.links.length))) []:=by
 refine ah mixed rfl QL ?_
 simp only[FD,FK,List.length_map,RN,qA,qB,qC,qD,qE,qF]
 refine au rfl rfl (ML _ _ _) ?_
 (try simp only[RN,qA,qB,qC,qD,qE,qF])
theorem WZ {pre:List Lk}{l:Lk}(h:linked pre)(h1:0≤l.fr)(h2:l.fr≤pre.length):linked (pre++ [l]):=by
 intro i hi
 simp only[List.length_append,List.length_singleton]at hi
 by_cases hlt:i<pre.length
 ·have:=h i hlt
  simpa[List.getD_eq_getElem?_getD,List.getElem?_append_left hlt]using this
 ·have:i=pre.length:=by omega
  subst this
  simp[List.getD_eq_getElem?_getD];omega
theorem aas {pre:List Lk}{l:Lk}(h:Bf pre l=true):(0≤l.fr∧l.fr≤pre.length)∧l.pr.ok=true∧(iw pre l.fr.toNat).length<3:=by
 simp only[Bf,inR,Bool.and_eq_true,decide_eq_true_eq,Bool.not_eq_true',decide_eq_false_iff_not,ge_iff_le]at h
 obtain⟨⟨h1,h2⟩,h3⟩:=h
 exact⟨h1,h2,by omega⟩
theorem zn (p:Pc)(hl:p.links.length≤1000)(hh:p.hands.length≤1000):Pure C F.jP [p.dv] (.d (.bool p.ok)) []:=by
 refine ah mixed rfl Vx ?_
 simp only[JR,J5,lY,List.length_map,RN,qA,qB,qC,qD,qE,qF]
 repeat' first
  |(refine au rfl rfl (ML _ _ _) ?_;try simp only[List.length_map,RN,qA,qB,qC,qD,qE,qF])
  |(refine bJ (by rfl) (fun hB=> ?_) (fun hB=> ?_)<;>simp only[hB,List.length_map,RN,qA,qB,qC,qD,qE,qF])
  |(refine bZ (by rfl) (fun hB=> ?_) (fun hB=> ?_)<;>simp only[hB,List.length_map,RN,qA,qB,qC,qD,qE,qF])
 any_goals (simp_all[Pc.ok];done)
 have hA:inR p.links.length 1 5=true:=by simp_all
 have hB:inR p.hands.length 1 4=true:=by simp_all
 have hlen:p.links.length≤5:=by simp only[inR,Bool.and_eq_true,decide_eq_true_eq]at hA;omega
 have hok:p.ok=(uQ [] p.links&&p.hands.all (fun n=>inR n 1 p.links.length)):=by simp[Pc.ok,hA,hB]
 rw[hok]
 refine aT p.links.length (fun i (_:Unit)=>⟨[(1, .d (.aX [.slice false (p.links.map Lk.dv), .slice false (p.hands.map ay)])),(18, .d (.slice false (p.links.map Lk.dv))),(19, .d (.int .i64 p.links.length)),(20, .d (.int .i64 i))],
   ⟨[some [.d (.slice false (p.links.map Lk.dv)), .d (.slice false (p.hands.map ay))]],[0],[]⟩⟩)
  (fun i _=>uQ [] p.links=uQ (p.links.take i) (p.links.drop i)∧linked (p.links.take i)) 0 () (Nat.zero_le _) rfl ⟨by simp,fun i hi=>by simp at hi⟩ (fun i _ h1 hix=> ?_) (fun _ hix=> ?_)
 ·obtain⟨h2,h3,h6⟩:=rng h1 (by omega)
  obtain⟨hix,hlk⟩:=hix
  have htl:(p.links.take i).length=i:=by simp;omega
  rw[drop_cons h1,uQ]at hix
  simp only[h2,h3,h1,getD_map,Int.toNat_natCast,List.length_map,JG,RN,qA,qB,qC,qD,qE,qF]
  refine au rfl rfl (ML _ _ _) ?_
  cases hc1:inR (p.links.getD i default).fr 0 (i:Int)
  ·(try simp only[RN,qA,qB,qC,qD,qE,qF])
   have:Bf (p.links.take i) (p.links.getD i default)=false:=by simp only[Bf,htl,hc1,Bool.false_and]
   rw[hix,this];rfl
  ·have hsp:=aaV (p.links.getD i default).pr
   simp only[yC]at hsp
   (try simp only[RN,qA,qB,qC,qD,qE,qF])
   refine au rfl rfl hsp ?_
   cases hc2:(p.links.getD i default).pr.ok
   ·(try simp only[RN,qA,qB,qC,qD,qE,qF])
    have:Bf (p.links.take i) (p.links.getD i default)=false:=by simp only[Bf,hc2,Bool.and_false,Bool.false_and]
    rw[hix,this];rfl
   ·have hr:0≤(p.links.getD i default).fr∧(p.links.getD i default).fr≤i:=by simpa[inR]using hc1
    obtain⟨q,hq⟩:∃q:Nat,(p.links.getD i default).fr=q:=⟨(p.links.getD i default).fr.toNat,by omega⟩
    have apA:=apg (p.links.take i) hlk (by omega) q (by omega)
    rw[List.map_take]at apA
    simp only[hq,RN,qA,qB,qC,qD,qE,qF]
    rw[Wv ajU h3 (by rw[List.length_map];omega),Int.toNat_natCast]
    refine au rfl rfl apA ?_
    cases hc3:decide (((iw (p.links.take i) q).length:Int)≥3)
    ·have aoj:¬((iw (p.links.take i) q).length≥3):=by have:=of_decide_eq_false hc3;omega
     simp only[hc3,h6,RN,qA,qB,qC,qD,qE,qF]
     have aqs:inR (q:Int) 0 (i:Int)=true:=by rw[←hq];exact hc1
     have hok':Bf (p.links.take i) (p.links.getD i default)=true:=by simp only[Bf,htl,aqs,hc2,hq,Int.toNat_natCast,decide_eq_false aoj,Bool.not_false,Bool.and_self]
     rw[hok',Bool.true_and,←dQ h1]at hix
     exact jR 1 0 () h1 rfl ⟨hix,by rw[dQ h1];exact WZ hlk (by omega) (by omega)⟩ (by simp) (by simp) rfl rfl
    ·have aoj:((iw (p.links.take i) q).length≥3):=by have:=of_decide_eq_true hc3;omega
     simp only[hc3,RN,qA,qB,qC,qD,qE,qF]
     have:Bf (p.links.take i) (p.links.getD i default)=false:=by simp only[Bf,hq,Int.toNat_natCast,decide_eq_true aoj,Bool.not_true,Bool.and_false]
     rw[hix,this];rfl
 ·obtain⟨hix,_⟩:=hix
  rw[List.drop_length,uQ]at hix
  simp only[Int.lt_irrefl,RN,qA,qB,qC,qD,qE,qF]
  refine au rfl rfl (wK p.hands F.yh [.aX [.slice false (p.links.map Lk.dv), .slice false (p.hands.map ay)]] (fun n=> !inR n 1 p.links.length) (by omega) (by kernel_rfl) fun n _=>aeP p n) ?_
  simp only[Iw,RN,qA,qB,qC,qD,qE,qF]
  rw[hix];simp
theorem TN {ls ms:List Lk}(h:linked ls):∀(k a:Nat),a≤ls.length→BF (ls++ms) k a=BF ls k a
 |0,_,_=>rfl
 | _+1,0,_=>rfl
 |k+1,a+1,ha=>by
  have e:(ls++ms).getD a default=ls.getD a default:=by
   simp[List.getD_eq_getElem?_getD,List.getElem?_append_left (show a<ls.length by omega)]
  have hf:=h a (by omega)
  simp only[BF,e]
  rw[TN h k _ (by omega)]
theorem Oh:∀{ls pre:List Lk},linked pre→(∀a,a≤pre.length→(iw pre a).length≤3)→(∀l∈pre,l.pr.ok=true)→uQ pre ls=true→
  linked (pre++ls)∧(∀a,a≤(pre++ls).length→(iw (pre++ls) a).length≤3)∧∀l∈pre++ls,l.pr.ok=true
 | [],pre,h1,h2,h3,_=>by simpa using⟨h1,h2,h3⟩
 |l::ls,pre,h1,h2,h3,h=>by
  simp only[uQ,Bool.and_eq_true]at h
  obtain⟨q1,q2,q3⟩:=aas h.1
  have hl:=WZ h1 q1.1 q1.2
  have:=Oh (ls:=ls) hl (fun a ha=> ?_) (fun x hx=> ?_) h.2
  ·simpa using this
  ·simp only[List.length_append,List.length_singleton]at ha
   by_cases hlt:a≤pre.length
   ·have e:iw (pre++ [l]) a=iw pre a:=by simp only[iw];exact TN h1 a a hlt
    rw[e];exact h2 a hlt
   ·have:a=pre.length+1:=by omega
    subst this
    rw[zu hl (by simp)]
    have e:(pre++ [l]).getD pre.length default=l:=by simp[List.getD_eq_getElem?_getD]
    have e2:iw (pre++ [l]) l.fr.toNat=iw pre l.fr.toNat:=by simp only[iw];exact TN h1 _ _ (by omega)
    rw[e,e2];simp;omega
  ·rcases List.mem_append.1 hx with hx|hx
   ·exact h3 x hx
   ·simp only[List.mem_singleton]at hx;rw[hx];exact q2
structure Pc.Good (p:Pc):Prop where
 l1:1≤p.links.length
 l2:p.links.length≤5
 h1:1≤p.hands.length
 h2:p.hands.length≤4
 lk:linked p.links
 short:∀a,a≤p.links.length→(iw p.links a).length≤3
 pr:∀l∈p.links,l.pr.ok=true
 hd:∀n∈p.hands,1≤n∧n≤p.links.length
theorem Pc.good {p:Pc}(h:p.ok=true):p.Good:=by
 simp only[Pc.ok,inR,Bool.and_eq_true,decide_eq_true_eq,List.all_eq_true,ge_iff_le]at h
 obtain⟨⟨⟨h1,h2⟩,h3⟩,h4⟩:=h
 obtain⟨q1,q2,q3⟩:=Oh (ls:=p.links) (pre:=[]) (fun i hi=>by simp at hi) (fun a ha=>by simp at ha;subst ha;simp[iw,BF]) (by simp) h3
 simp only[List.nil_append]at q1 q2 q3
 exact⟨by omega,by omega,by omega,by omega,q1,q2,q3,h4⟩
theorem Pc.Good.aqc {p:Pc}(h:p.Good){a:Nat}(ha:a≤p.links.length)(h0:0<a):uV (mV p.links a)=true:=by
 have h1:=h.short a ha
 obtain⟨b,rfl⟩:∃b,a=b+1:=⟨a - 1,by omega⟩
 have h2:1≤(iw p.links (b+1)).length:=by rw[zu h.lk ha];simp
 simp only[uV,mV,inR,Bool.and_eq_true,decide_eq_true_eq,List.all_eq_true,List.length_map,List.mem_map,ge_iff_le]
 refine⟨by omega,?_⟩
 rintro x ⟨i,hi,rfl⟩
 have:=acV h.lk ha i hi
 exact h.pr _ (getD_mem (by omega))
theorem ak0 (p:Pc)(hl:p.links.length≤1000)(hh:p.hands.length≤1000):Pure C F.P5 [p.dv] (.d (.int .i64 (if p.ok then 0 else 2))) []:=by
 refine ah mixed rfl YE ?_
 have hp:=zn p hl hh
 simp only[lY]at hp⊢
 simp only[Ox,OJ,RN,qA,qB,qC,qD,qE,qF]
 refine au rfl rfl hp ?_
 cases h:p.ok<;>(try simp only[RN,qA,qB,qC,qD,qE,qF])<;>rfl
end Go.Tel
namespace Go.Tel
open Go.Am
theorem Dw {C:Ctx}{bs:List (Option (List PV))}{fz:List Nat}{ar:List (Option Arr)}{K:PV→Mem→Prop}{base:Nat}{KP:DV→Mem→Prop}{f:FuncId}{args:List PV}{ds ds':List DV}{r:PV}{rows:List Arr}(h1:jd args=some ds)(h2:ds.map DV.strip=ds')(hp:Pure C f ds' r rows)(hs:∀A∈rows,A.st≠2)
  (hK:K (r.shift ar.length) ⟨bs,fz,ar++rows.map some⟩):aj C base (.Ap f) args ⟨bs,fz,ar⟩ K KP:=by
 have he:=MV h1
 subst he
 have hdl:dD ⟨bs,fz,ar⟩ (ds.map .d)=some ds:=by
  clear h1 h2 hp hK
  induction ds with
  |nil=>rfl
  |cons d ds ih=>simp only[List.map_cons,dD,datum,ih]
 exact⟨ds,hdl,r,rows,h2▸hp, .inr ⟨hs,by rw[KU];exact hK⟩⟩
theorem ak7 (p:Pc)(hp:p.ok=true)(a:Nat)(h0:0<a)(ha:a≤p.links.length):Pure C F.P7 [p.dv, .int .i64 a] (.d (.tup [.slice false ((mV p.links a).map Pr.dv), .int .i64 0])) []:=by
 have hg:=Pc.good hp
 obtain⟨g1,g2,g3,g4,g5,_⟩:=hg
 have hi:=zn p (by omega) (by omega)
 have ht:=TW p g5 (by omega) a ha h0
 have hr:inR (a:Int) 1 (p.links.length:Int)=true:=by simp[inR];omega
 refine ah mixed rfl YG ?_
 simp only[lY]at hi ht⊢
 simp only[Oz,OM,RN,qA,qB,qC,qD,qE,qF]
 refine au rfl rfl hi ?_
 simp only[hp,List.length_map,RN,qA,qB,qC,qD,qE,qF]
 refine au rfl rfl (ML _ _ _) ?_
 simp only[hr,RN,qA,qB,qC,qD,qE,qF]
 refine au rfl rfl ht ?_
 (try simp only[RN,qA,qB,qC,qD,qE,qF])
def zF (p:Pc)(hand:Int)(f:Fr)(turns:Int):Int×Int:=
 if p.ok&&inR hand 0 (p.hands.length - 1)then ahK (mV p.links (p.hands.getD hand.toNat default).toNat) f turns else(0,2)
theorem afI (p:Pc)(hl:p.links.length≤1000)(hh:p.hands.length≤1000)(hand:Int)(f:Fr)(turns:Int):Pure C F.Jv [p.dv, .int .i64 hand,f.dv, .int .i64 turns] (.d (.tup [.int .i64 (zF p hand f turns).1, .int .i64 (zF p hand f turns).2])) []:=by
 have hi:=zn p hl hh
 have e1:IntKind.i64.wrap ((p.hands.length:Int) - 1)=(p.hands.length:Int) - 1:=aG (by omega)
 refine ah mixed rfl YH ?_
 simp only[lY,dH]at hi⊢
 simp only[OA,OO,RN,qA,qB,qC,qD,qE,qF]
 refine au rfl rfl hi ?_
 cases hp:p.ok
 ·(try simp only[RN,qA,qB,qC,qD,qE,qF])
  simp[zF,hp]
 ·have hg:=Pc.good hp
  simp only[List.length_map,e1,RN,qA,qB,qC,qD,qE,qF]
  refine au rfl rfl (ML _ _ _) ?_
  cases hr:inR hand 0 ((p.hands.length:Int) - 1)
  ·(try simp only[RN,qA,qB,qC,qD,qE,qF])
   simp[zF,hp,hr]
  ·have hr':0≤hand∧hand≤(p.hands.length:Int) - 1:=by simpa[inR]using hr
   have hlt:hand.toNat<p.hands.length:=by omega
   obtain⟨d1,d2⟩:=hg.hd _ (getD_mem hlt)
   obtain⟨q,hq⟩:∃q:Nat,p.hands.getD hand.toNat default=q:=⟨(p.hands.getD hand.toNat default).toNat,by omega⟩
   have ht:=TW p hg.lk hl q (by omega) (by omega)
   have ho:=ao9 (mV p.links q) f turns (by have:=hg.short q (by omega);simp[mV];omega)
   simp only[lY,dH]at ht ho
   simp only[hr'.1,hlt,getD_map,aV,List.length_map,hq,RN,qA,qB,qC,qD,qE,qF]
   refine au rfl rfl ht ?_
   refine au rfl rfl ho ?_
   (try simp only[RN,qA,qB,qC,qD,qE,qF])
   simp only[zF,hp,hr,Bool.and_self,if_true,hq,Int.toNat_natCast]
theorem al9 (xs:List Lk):∀y∈xs.map Lk.dv,y.fits 3=true:=by
 intro y hy;obtain⟨n,_,rfl⟩:=List.mem_map.1 hy;rfl
theorem Nc {C:Ctx}{base sz:Nat}{M:Mem}{K:PV→Mem→Prop}{KP:DV→Mem→Prop}{z x:DV}(hx:x.strip.fits sz=true)(h0:0<sz):aj C base (.qc sz [z] [0]) [.d x] M K KP=K (.tsl M.aA.length 0 0) {M with aA:=M.aA++ [some ⟨sz,[x.strip],0,1⟩]}:=by
 have hc:x.strip.cells.length=sz:=by simp only[DV.fits,Bool.and_eq_true,beq_iff_eq]at hx;exact hx.1
 simp[aj,jd,zU,hc,hx,h0]
def mulR (f:Fr)(p:Pr):Fr:=⟨f.n*p.a,f.d*p.b⟩
def Dc:List Lk→List Fr→List Fr
 | [],acc=>acc
 |l::ls,acc=>Dc ls (acc++ [mulR (acc.getD l.fr.toNat default) l.pr])
def fF (ls:List Lk):List Fr:=Dc ls [⟨1,1⟩]
def ZE (a b:Fr):Bool:=a.n*b.d==b.n*a.d
def Jl (l:List Fr):Prop:=∀i,i<l.length→(1≤(l.getD i default).n∧(l.getD i default).n≤60 ^ i)∧1≤(l.getD i default).d∧(l.getD i default).d≤60 ^ i
theorem akh {i j:Nat}(h:i≤j):(60:Int) ^ i≤60 ^ j:=by
 have:=Nat.pow_le_pow_right (show 60>0 by decide) h
 exact_mod_cast this
theorem U0 {acc:List Fr}{l:Lk}(h:Jl acc)(h0:acc≠[])(hf:0≤l.fr∧l.fr.toNat<acc.length)(hp:l.pr.ok=true):Jl (acc++ [mulR (acc.getD l.fr.toNat default) l.pr]):=by
 intro i hi
 simp only[List.length_append,List.length_singleton]at hi
 by_cases hlt:i<acc.length
 ·have:=h i hlt
  simpa[List.getD_eq_getElem?_getD,List.getElem?_append_left hlt]using this
 ·have:i=acc.length:=by omega
  subst this
  have e:(acc++ [mulR (acc.getD l.fr.toNat default) l.pr]).getD acc.length default=mulR (acc.getD l.fr.toNat default) l.pr:=by simp[List.getD_eq_getElem?_getD]
  rw[e]
  obtain⟨⟨q1,q2⟩,q3,q4⟩:=h _ hf.2
  simp only[Pr.ok,bg,inR,Bool.and_eq_true,decide_eq_true_eq,ge_iff_le]at hp
  have hl:l.fr.toNat+1≤acc.length:=by omega
  have hpw:(60:Int) ^ (l.fr.toNat+1)≤60 ^ acc.length:=akh hl
  rw[Int.pow_succ]at hpw
  have a1:=Int.mul_le_mul q2 hp.1.2 (by omega) (by omega)
  have a2:=Int.mul_le_mul q4 hp.2.2 (by omega) (by omega)
  have b1:=Int.mul_le_mul q1 (show 1≤l.pr.a by omega) (by omega) (by omega)
  have b2:=Int.mul_le_mul q3 (show 1≤l.pr.b by omega) (by omega) (by omega)
  simp only[mulR]
  omega
theorem OB:∀{ls:List Lk} {acc:List Fr},Jl acc→acc≠[]→(∀i,i<ls.length→0≤(ls.getD i default).fr∧(ls.getD i default).fr<(acc.length+i:Nat))→(∀l∈ls,l.pr.ok=true)→
  Jl (Dc ls acc)∧(Dc ls acc).length=acc.length+ls.length
 | [],acc,h,_,_,_=>by simpa[Dc]using h
 |l::ls,acc,h,h0,hf,hp=>by
  have hl:=hf 0 (by simp)
  simp only[List.getD_cons_zero]at hl
  obtain⟨q1,q2⟩:=OB (ls:=ls) (U0 h h0 ⟨hl.1,by omega⟩ (hp l (by simp))) (by simp) (fun i hi=>by
   have:=hf (i+1) (by simp only[List.length_cons];omega)
   rw[List.getD_cons_succ]at this
   rw[List.length_append,List.length_singleton];omega) (fun x hx=>hp x (by simp[hx]))
  refine⟨q1,?_⟩
  rw[Dc,q2];simp;omega
theorem Zt:Jl [⟨1,1⟩]:=by
 intro i hi
 have:i=0:=by simpa using hi
 subst this
 simp
theorem xE {ls:List Lk}(h:linked ls)(hp:∀l∈ls,l.pr.ok=true):Jl (fF ls)∧(fF ls).length=ls.length+1:=by
 obtain⟨q1,q2⟩:=OB (ls:=ls) Zt (by simp) (fun i hi=>by have:=h i hi;rw[List.length_singleton];omega) hp
 exact⟨q1,by rw[fF,q2];simp;omega⟩
def xC (p:Pc):DV:= .agg [.slice false (p.links.map Lk.dv), .slice false (p.hands.map ay), .slice false ((fF p.links).map Fr.dv)]
theorem aa2 (p:Pc)(hl:p.links.length≤6)(hk:linked p.links)(hp:∀l∈p.links,l.pr.ok=true):Pure C F.wE [p.dv] (.d (xC p)) []:=by
 refine gI (aF mixed rfl aaJ ?_)
 simp only[QZ,Ru,lY,ahn,bn,Option.map_none,eP,jr,dN,Nc (x:= .agg [.int .i64 1, .int .i64 1]) (sz:=2) rfl (by decide),DV.strip,List.length_map,RN,qA,qB,qC,qD,qE,qF]
 refine aT p.links.length (fun i (a:List Fr×Nat)=>⟨[(1, .d (.aX [.slice false (p.links.map Lk.dv), .slice false (p.hands.map ay)])),(2, .ptr 1 0),(3, .ptr 2 0),(12, .d (.int .i64 p.links.length)),(13, .d (.int .i64 i))],
   ⟨[some [.d (.slice false (p.links.map Lk.dv)), .d (.slice false (p.hands.map ay))],some [.d (.slice true []), .d (.slice true []), .d (.slice true [])],some [.d (.slice false (p.links.map Lk.dv)), .d (.slice false (p.hands.map ay)), .tsl 0 a.2 0]],[0],[some ⟨2,a.1.map Fr.dv,a.2,1⟩]⟩⟩)
  (fun i a=>fF p.links=Dc (p.links.drop i) a.1∧Jl a.1∧a.1.length=i+1) 0 ([⟨1,1⟩],0) (Nat.zero_le _) ?_ ⟨rfl,Zt,rfl⟩ (fun i a h1 hix=> ?_) (fun a hix=> ?_)
 ·rfl
 ·obtain⟨h2,h3,h6⟩:=rng h1 (by omega)
  obtain⟨hix,hbd,hlen⟩:=hix
  obtain⟨acc,v⟩:=a
  simp only at hix hbd hlen
  rw[drop_cons h1,Dc]at hix
  obtain⟨f0,f1⟩:=hk i h1
  have hfn:(p.links.getD i default).fr.toNat<acc.length:=by omega
  have hpr:=hp _ (getD_mem h1)
  obtain⟨⟨q1,q2⟩,q3,q4⟩:=hbd _ hfn
  have hpw:=akh (show(p.links.getD i default).fr.toNat≤6 by omega)
  rw[show(60:Int) ^ 6=46656000000 by decide]at hpw
  have aoA:=hpr
  simp only[Pr.ok,bg,inR,Bool.and_eq_true,decide_eq_true_eq,ge_iff_le]at aoA
  have a1:=Int.mul_le_mul (show(acc.getD (p.links.getD i default).fr.toNat default).n≤46656000000 by omega) aoA.1.2 (by omega) (by omega)
  have a2:=Int.mul_le_mul (show(acc.getD (p.links.getD i default).fr.toNat default).d≤46656000000 by omega) aoA.2.2 (by omega) (by omega)
  have b1:=Int.mul_nonneg (show 0≤(acc.getD (p.links.getD i default).fr.toNat default).n by omega) (show 0≤(p.links.getD i default).pr.a by omega)
  have b2:=Int.mul_nonneg (show 0≤(acc.getD (p.links.getD i default).fr.toNat default).d by omega) (show 0≤(p.links.getD i default).pr.b by omega)
  have e1:IntKind.i64.wrap ((acc.getD (p.links.getD i default).fr.toNat default).n*(p.links.getD i default).pr.a)=(acc.getD (p.links.getD i default).fr.toNat default).n*(p.links.getD i default).pr.a:=aG (by omega)
  have e2:IntKind.i64.wrap ((acc.getD (p.links.getD i default).fr.toNat default).d*(p.links.getD i default).pr.b)=(acc.getD (p.links.getD i default).fr.toNat default).d*(p.links.getD i default).pr.b:=aG (by omega)
  have hal:acc.length≤1073741823:=by omega
  simp only[h2,h1,h3,h6,f0,hfn,getD_map,JG,dH,Int.toNat_natCast,List.length_map,zi,DV.strip,VH,forall_eq,bM,dN,e1,e2,RN,qA,qB,qC,qD,qE,qF]
  refine⟨by simp,hal,?_⟩
  refine jR 3 1 (acc++ [mulR (acc.getD (p.links.getD i default).fr.toNat default) (p.links.getD i default).pr],v+1) h1 ?_ ⟨hix,U0 hbd (by rintro rfl;simp at hlen) ⟨f0,hfn⟩ hpr,by simp[hlen]⟩ (by simp) (by simp) rfl rfl
  simp only[List.map_append,List.map_cons,List.map_nil,dH,mulR]
  rfl
 ·obtain⟨hix,hbd,hlen⟩:=hix
  rw[List.drop_length,Dc]at hix
  simp only[Int.lt_irrefl,bn,Option.map_none,eP,jr,dN,RN,qA,qB,qC,qD,qE,qF]
  simp[datum,bW,eU,Mem.row,xC,hix]
structure Chg where
 link:Int
 pr:Pr
 deriving DecidableEq,Inhabited
def Chg.dv (c:Chg):DV:= .agg [.int .i64 c.link, .int .i64 c.pr.a, .int .i64 c.pr.b]
theorem KL {c:Chg}:c.dv= .agg [.int .i64 c.link, .int .i64 c.pr.a, .int .i64 c.pr.b]:=by rw[Chg.dv]
def Pc.changed (p:Pc)(c:Chg):Pc:={p with links:=p.links.set c.link.toNat ⟨(p.links.getD c.link.toNat default).fr,c.pr⟩}
theorem YV (xs:List DV)(hf:∀y∈xs,y.fits 3=true)(hl:xs.length≤1000000)(hn:xs≠[]):Pure C F.iL [.slice false xs] (.tsl 0 0 0) [⟨3,xs,0,1⟩]:=by
 refine vZ mixed rfl Bg ?_
 simp only[ou,oG,RN,qA,qB,qC,qD,qE,qF]
 refine⟨fun _=> ?_,fun hx=>absurd hx hn⟩
 exact⟨hf,hn,by simp,by omega,FN (k:=1) (A:=⟨3,xs,0,1⟩) rfl rfl (Nat.zero_le _) rfl⟩
theorem MO {bs:List (Option (List PV))}{fz:List Nat}{ar:List (Option Arr)}{n k ver i off sz:Nat}{xs:List DV}{v:PV}{ds:List DV}{K:Mem→Prop}(h:ar[k]?=some (some ⟨sz,xs,ver,1⟩))(hv:jd v.cells=some ds)(h0:0<n)(hl:ds.length=n)(h1:ds.all DV.one=true)(ho:off+n≤(xs.getD i default).cells.length)
  (hK:K ⟨bs,fz,ar.set k (some ⟨sz,xs.set i (setCells (xs.getD i default) off ds),ver,1⟩)⟩):jH n (.jY k ver i off) v ⟨bs,fz,ar⟩ K:=by
 simp only[jH,Mem.row,h,if_true,hv]
 exact⟨trivial,h0,hl,h1,ho,hK⟩
theorem YU (p:Pc)(c:Chg)(hl:p.links.length≤1000)(h0:0≤c.link)(h1:c.link.toNat<p.links.length):Pure C F.yg [p.dv,c.dv] (.d (p.changed c).dv) []:=by
 refine gI (aF mixed rfl Vw ?_)
 have hn:p.links.map Lk.dv≠[]:=by intro h;simp at h;rw[h]at h1;simp at h1
 simp only[JQ,J4,lY,KL,RN,qA,qB,qC,qD,qE,qF]
 refine Dw rfl rfl (YV _ (al9 _) (by rw[List.length_map];omega) hn) (by simp) ?_
 simp only[PV.shift,lW,bM,dN,List.not_mem_nil,h0,h1,List.length_map,RN,qA,qB,qC,qD,qE,qF]
 refine MO rfl rfl (by decide) rfl rfl (by rw[getD_map h1,JG];exact Nat.le_refl 3) ?_
 simp only[getD_map h1,JG,setCells,bn,Option.map_none,eP,jr,dN,RN,qA,qB,qC,qD,qE,qF]
 simp only[datum,bW,eU,Mem.row,lY,Pc.changed,List.map_set,JG]
 simp
end Go.Tel
