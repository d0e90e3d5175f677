/-
  Part 8 of a law of desks.
  Conditions: none.
-/
import Derived.Test.YtbefoehadfnkbaaGreatDoorJourneymanConsolesM04
import Derived.Test.YtbefoehadfnkbaaGreatDoorJourneymanConsolesM07
set_option linter.all false
set_option maxRecDepth 10000
set_option maxHeartbeats 4000000
open Nat renaming reduceBEq->r,reduceAdd->B,reduceSub->F,reduceEqDiff->H,reduceLT->I,reduceLeDiff->J,zero_le->V,le_refl->ai,le_trans->a6,gcd->bd,mul_le_mul->be,mod_lt->bR,lt_succ_self->ca,mod_eq_of_lt->cb,div_le_self->cg,gcd_comm->cr,succ_mul->ct,zero_add->cv
open List renaming length_map->O,drop_length->Z,length_take->ae,getD_eq_getElem?_getD->an,take_length->ao,mem_of_mem_take->ap,getD_cons_succ->aq,mem_map->av,length_append->az,append_assoc->aL,map_append->a7,getD_cons_zero->a8,append_nil->bc,range->bh,all_cons->bi,take_succ_cons->bj,count_pos_iff->bk,mem_cons->bo,all_eq_true->bq,length_cons->br,all_nil->bs,nil_append->bu,getElem?_range->bz,map_drop->bE,map_take->bL,mem_cons_self->bN,pairwise_cons->bO,getElem?_map->b0,cons_append->b7,mem_flatMap->b8,not_mem_nil->b9,mem_filter->cf,mem_range->cl,any_cons->cq
open Int renaming toNat_natCast->Q,lt_irrefl->X,mul_le_mul->ab,tmod_eq_emod_of_nonneg->am,lt_of_mul_lt_mul_right->ax,mul_le_mul_of_nonneg_right->aM,mul_nonneg->aR,add_mul->bl,natCast_zero->bp,ofNat_tdiv->bw,add_zero->bX,le_refl->ce,natAbs_mul->cj,ofNat_tmod->ck,add_assoc->cn,mul_assoc->cp
open Bool renaming and_eq_true->U,false_and->W,true_and->Y,and_false->aw,and_eq_false_iff->aD,eq_iff_iff->bt,not_eq_eq_eq_not->bv,and_true->bA,false_or->bB,true_or->bS,not_false->ch,not_true->cm
open ByteArray renaming size_append->aE
open Go.IntKind renaming wrap->cw
namespace Go.Tel
open Go.Am
def La:aA:=(sr [ag 4 1] 0 [0,1] (sr [ag 5 1] 0 [0,1,5] (sr [mi 6 0] 0 [0,1,5,6] (sw (sr [mi 7 0] 0 [0,1,5,6,7] (lp (sw (sr [mv 8 7,mv 9 0,oa 10 .xP 9,ob 11 pL 8 10] 0 [0,1,5,6,7,11] (cx 11 0)) (sw (b1 (sr [mv 14 0,mv 15 7,ob 16 .PZ 14 15,mv 17 1,ob 18 pE 16 17] 0 [0,1,5,6,7,18] (cd 18 (sr [mv 19 5,mv 20 0,mv 21 6,mv 22 7,on 23 (.EJ true true) [.t 20,.t 21,.t 22],oa 24 (.dV 1 [ze] [0]) 23,ob 25 (.app 1 false) 19 24,mv 5 25] 0 [0,1,5,7] (rg [mv 26 7,oi 27 pA 26 1,mv 6 27] 0 [0,1,5,6,7])) .skip))) (rg [mv 12 7,oi 13 pA 12 1,mv 7 13] 0 [0,1,5,6,7]))))) (sr [mv 28 5,mv 29 0,mv 30 6,ob 31 (.EJ true false) 29 30,oa 32 (.dV 1 [ze] [0]) 31,ob 33 (.app 1 false) 28 32,mv 4 33] 0 [4] .ret)))))
def zx:aA:=(s0 [ba 2 0 0,al 4 1 zd,mk 5 (.c ze)] 2 [1,2,4] [2] (sr [mi 6 4] 0 [1,2,4,6] (s0 [mv 14 1,oa 15 (.aj 47) 14,mv 13 15,xa 16 0 13,xa 17 1 13,al 7 0 [z0,zs],sk 2 7 16 0,mv 8 17] 1 [1,2,4,6,7,8] [7] (s0 [mv 19 1,oa 20 (.aj 216) 19,mv 18 20,xa 21 0 18,xa 22 1 18,al 9 0 [z0,zs],sk 2 9 21 0,mv 10 22] 1 [1,2,4,6,7,8,9,10] [9] (sw (sr [mv 23 1,oa 24 .xP 23,oi 25 pG 24 60] 0 [2,4,6,7,8,9,10,25] (cd 25 (rg [mi 6 3] 0 [2,4,6]) (sr [mv 26 8] 0 [2,4,6,7,9,10,26] (cd 26 (sr [lw 27 19 2,lw 28 2 7,ob 29 (.aj 50) 27 28,mv 6 29] 0 [2,4,6,7] (sr [mv 30 6,oi 31 pE 30 0] 0 [2,4,6,7,31] (cd 31 (sr [lw 32 19 2,lw 33 2 7,ob 34 (.aj 51) 32 33,sk 19 4 34 0,mk 5 (.c (.str ⟨#[110,111,116,101,100]⟩))] 0 [4,5] .ret) .skip))) (sr [mv 35 10] 0 [2,4,6,9,35] (cd 35 (sr [lw 37 19 2,lw 38 2 9,ob 39 (.aj 54) 37 38,mv 36 39,xa 40 0 36,xa 41 1 36,mv 11 40,mv 12 41] 0 [2,4,11,12] (sr [mv 42 12,mv 6 42] 0 [2,4,6,11,12] (sw (sr [mv 43 12,oi 44 pE 43 0,mv 45 44,ov 46 .mov 11 45 0,ov 47 .len 46 45 0,ot 48 pE [.t 47,kI 0] 45 0,pf 49 45 48] 0 [2,4,6,11,12,49] (cd 49 (sr [lw 50 19 2,sk 19 4 50 0,mk 5 (.c (.str ⟨#[110,111,116,104,105,110,103]⟩))] 0 [4,5] .ret) .skip)) (sr [mv 51 12,oi 52 pE 51 0] 0 [2,4,6,11,52] (cd 52 (sw (r1 [ou 53 (.load true 19) 2 1,mv 54 11,oa 55 (.aj 128) 54,of 56 (.EJ true false) [.t 55,kI 1] 1,sk 19 4 53 0,mv 5 56] 0 [4,5] []) .ret) .skip))))) .skip)))))) (sw (r1 [ou 57 (.load true 19) 2 1,mv 58 6,oa 59 (.aj 217) 58,on 60 pA [.c (.str ⟨#[101,114,114,111,114,32]⟩),.t 59],sk 19 4 57 0,mv 5 60] 0 [4,5] []) .ret))))))
def O7:aA:=(sr [mi 2 0] 0 [0] (sw (sr [mv 3 0] 0 [3] (.block 0 (sw (sr [oi 5 pE 3 1,mv 4 5] 0 [3,4] (cd 4 .skip (sr [oi 6 pE 3 5,mv 4 6] 0 [3,4] (cd 4 .skip (rg [oi 7 pE 3 6,mv 4 7] 0 [3,4]))))) (cd 4 (sr [mi 2 1] 0 [2] .ret) (sr [oi 9 pE 3 4,mv 8 9] 0 [3,8] (cd 8 (sr [mi 2 2] 0 [2] .ret) (sw (sr [oi 11 pE 3 2,mv 10 11] 0 [3,10] (cd 10 .skip (rg [oi 12 pE 3 3,mv 10 12] 0 [10]))) (cd 10 (sr [mi 2 3] 0 [2] .ret) .skip)))))))) (sr [mi 2 (-1)] 0 [2] .ret)))
def O8:aA:=(sr [mk 2 (.c ze)] 0 [0] (sr [on 3 (.dV 1 [ze,ze,ze,ze,ze,ze,ze] [0,1,2,3,4,5,6]) [.c ze,.c (.str ⟨#[99,117,116]⟩),.c (.str ⟨#[99,104,97,110,103,101]⟩),.c (.str ⟨#[111,114,100,101,114]⟩),.c (.str ⟨#[115,101,114,118,101]⟩),.c (.str ⟨#[115,101,116]⟩),.c (.str ⟨#[115,116,114,105,107,101]⟩)],mv 4 0,ix 5 1 3 4,lo 6 5,mv 2 6] 0 [2] .ret))
def Lc:aA:=(sr [mk 2 (.c ze)] 0 [0] (sr [mk 3 (.c ze)] 0 [0,3] (sw (sr [mi 4 0] 0 [0,3,4] (lp (sw (sr [mv 5 4,mv 6 0,oa 7 .len 6,ob 8 pL 5 7] 0 [0,3,4,8] (cx 8 0)) (sw (b1 (sr [mv 11 0,mv 12 4,ix 13 1 11 12,lo 14 13,oi 15 pL 14 0] 0 [0,3,4,15] (cd 15 (rg [mv 16 3,oc 17 pA 16 (.c (.str ⟨#[32,45]⟩)),mv 18 0,mv 19 4,ix 20 1 18 19,lo 21 20,oa 22 (.un .neg) 21,oa 23 (.aj 217) 22,ob 24 pA 17 23,mv 3 24] 0 [0,3,4]) (rg [mv 25 3,oc 26 pA 25 (.c (.str ⟨#[32]⟩)),mv 27 0,mv 28 4,ix 29 1 27 28,lo 30 29,oa 31 (.aj 217) 30,ob 32 pA 26 31,mv 3 32] 0 [0,3,4])))) (rg [mv 9 4,oi 10 pA 9 1,mv 4 10] 0 [0,3,4]))))) (sr [mv 33 3,mv 2 33] 0 [2] .ret))))
def Es:aA:=(sr [ag 2 1,mf 3 false] 0 [0] (sr [ag 4 1] 0 [0,4] (sw (sr [mi 5 0] 0 [0,4,5] (lp (sw (sr [mv 8 5,mv 9 0,oa 10 .len 9,ob 11 pL 8 10] 0 [0,4,5,11] (cx 11 0)) (sw (b1 (sr [mi 6 0] 0 [0,4,5,6] (sw (sr [mi 7 0] 0 [0,4,5,6,7] (.block 2 (.loop (sw (sr [mv 14 7,mv 15 0,mv 16 5,ix 17 1 15 16,lo 18 17,oa 19 .xP 18,ob 20 pL 14 19,mv 21 20,ov 22 .mov 7 21 0,ot 23 pL [.t 22,kI 5] 21 0,pf 24 21 23] 0 [0,4,5,6,7,24] (cx 24 2)) (sw (.block 3 (sw (sr [mv 27 0,mv 28 5,ix 29 1 27 28,lo 30 29,mv 31 7,ob 32 .PZ 30 31,oc 33 pL 32 (.c (.int .u8 48)),mv 34 33,ow 35 .mov 0 34 0,ow 36 .mov 5 34 0,obF 37 (.aS 1) 35 36 34 0,lq 38 37 34,ow 39 .mov 7 34 0,obF 40 .PZ 38 39 34 0,oF 41 pG [.t 40,.c (.int .u8 57)] 34 0,pt 42 34 41] 0 [0,4,5,6,7,42] (cd 42 (sr [ag 2 1,mf 3 false] 0 [2,3] .ret) .skip)) (rg [mv 43 6,on 44 pM [kI 10,.t 43],mv 45 0,mv 46 5,ix 47 1 45 46,lo 48 47,mv 49 7,ob 50 .PZ 48 49,oc 51 pU 50 (.c (.int .u8 48)),oa 52 (.conv .i64) 51,ob 53 pA 44 52,mv 6 53] 0 [0,4,5,6,7]))) (rg [mv 25 7,oi 26 pA 25 1,mv 7 26] 0 [0,4,5,6,7])))))) (sw (sw (r1 [mv 54 6,oi 55 pG 54 9999,mv 56 55,ow 57 .mov 6 56 0,ow 58 (.aj 217) 57 56 0,ow 59 .mov 0 56 0,ow 60 .mov 5 56 0,obF 61 (.aS 1) 59 60 56 1,ow 62 ld 61 56 1,obF 63 pQ 58 62 56 0,pt 64 56 63] 0 [0,4,5,6,64] []) (cd 64 (sr [ag 2 1,mf 3 false] 0 [2,3] .ret) .skip)) (rg [mv 65 4,mv 66 6,oa 67 (.dV 1 [z0] [0]) 66,ob 68 (.app 1 false) 65 67,mv 4 68] 0 [0,4,5]))))) (rg [mv 12 5,oi 13 pA 12 1,mv 5 13] 0 [0,4,5]))))) (sr [mv 69 4,mv 2 69,mf 3 true] 0 [2,3] .ret))))
def KY:aA:=(s0 [ba 2 0 0,mf 4 false] 1 [1,2] [2] (sw (sr [mi 5 0] 0 [1,2,5] (lp (sw (sr [mv 6 5,mv 7 1,oa 8 .len 7,ob 9 pL 6 8] 0 [1,2,5,9] (cx 9 0)) (sw (b1 (sw (r1 [ou 12 (.load true 17) 2 1,mv 13 1,mv 14 5,ob1 15 (.zV 2 false true false) 13 14 1,mv 16 1,mv 17 5,ob1 18 (.aS 2) 16 17 1,ou 19 (.load true 2) 18 1,on 20 (.aj 133) [.t 12,.t 15,.t 19],oa 21 pN 20] 0 [1,2,5,21] []) (cd 21 (sr [mf 4 false] 0 [4] .ret) .skip))) (rg [mv 10 5,oi 11 pA 10 1,mv 5 11] 0 [1,2,5]))))) (sr [mf 4 true] 0 [4] .ret)))
def KR:aA:=(s0 [ba 2 0 0,ba 3 1 1,mf 4 false] 2 [2,3] [2,3] (sr [fa 6 1 3,lo 7 6,mv 5 7] 0 [2,3,5] (sw (sr [fa 8 0 3,lo 9 8] 0 [2,5,9] (.block 0 (sr [oi 11 pE 9 1,mv 10 11] 0 [2,5,9,10] (cd 10 (sr [mv 12 5,oi 13 (.aS 1) 12 0,lo 14 13,oa 15 (.aj 157) 14,mv 4 15] 0 [4] .ret) (sr [oi 17 pE 9 2,mv 16 17] 0 [2,5,9,16] (cd 16 (sw (r1 [mv 18 5,of 19 (.aS 1) [.t 18,kI 0] 1,lv 20 19,fu 21 0 2 1,fu 22 0 21 1,lv 23 22,ou 24 .len 23 1,ob 25 pL 20 24,mv 26 25,ov 27 .mov 5 26 0,ot 28 (.aS 1) [.t 27,kI 1] 26 1,ov 29 ld 28 26 1,ov 30 (.aj 157) 29 26 0,pf 31 26 30,mv 32 31,ov 33 .mov 5 32 0,ot 34 (.aS 1) [.t 33,kI 2] 32 1,ov 35 ld 34 32 1,ov 36 (.aj 157) 35 32 0,pf 37 32 36,mv 4 37] 0 [4] []) .ret) (sr [oi 39 pE 9 3,mv 38 39] 0 [2,5,9,38] (cd 38 (sw (r1 [ou 40 (.load true 17) 2 1,mv 41 5,of 42 (.aS 1) [.t 41,kI 0] 1,lv 43 42,ob 44 (.aj 135) 40 43,mv 45 44,ov 46 .mov 5 45 0,ot 47 (.aS 1) [.t 46,kI 2] 45 1,ov 48 ld 47 45 1,ot 49 pG [.t 48,kI 0] 45 0,pf 50 45 49,mv 4 50] 0 [4] []) .ret) (sr [oi 52 pE 9 4,mv 51 52] 0 [2,5,51] (cd 51 (sw (r1 [ou 53 (.load true 17) 2 1,mv 54 5,of 55 (.aS 1) [.t 54,kI 0] 1,lv 56 55,ob 57 (.aj 135) 53 56,mv 4 57] 0 [4] []) .ret) .skip)))))))))) (sw (r1 [ou 58 (.load true 17) 2 1,mv 59 5,of 60 (.aS 1) [.t 59,kI 0] 1,lv 61 60,ob 62 (.aj 139) 58 61,mv 4 62] 0 [4] []) .ret))))
def O5:aA:=(s0 [ba 3 0 0,ba 5 1 2,mf 6 false] 2 [1,3,5] [3,5] (sr [fa 23 1 5,lo 24 23,mv 7 24] 0 [1,3,5,7] (s0 [lw 25 17 3,mv 26 1,ob 27 (.aj 137) 25 26,al 8 0 [zs,zs],sk 2 8 27 0] 1 [1,3,5,7,8] [8] (sw (sr [fa 28 0 5,lo 29 28] 0 [1,3,5,7,8,29] (.block 0 (sr [oi 31 pE 29 1,mv 30 31] 0 [1,3,5,7,8,29,30] (cd 30 (sw (r1 [fu 33 4 3 1,ou 34 (.load true 2) 33 1,mv 35 7,of 36 (.aS 1) [.t 35,kI 0] 1,lv 37 36,ob 38 (.aj 146) 34 37,mv 32 38,xa 39 0 32,xa 40 1 32,al 9 0 [z0,z0,z0],sk 3 9 39 4,mv 10 40] 1 [1,3,10] []) (sr [mv 41 10,mv 42 41,ov 43 (.load true 17) 3 42 0,ov 44 .mov 1 42 0,obT 45 (.aj 222) 43 44 42 0,ov 46 .len 45 42 0,ot 47 pL [.t 46,kI 8] 42 0,pf 48 42 47,mv 6 48] 0 [6] .ret)) (sr [oi 50 pE 29 2,mv 49 50] 0 [1,3,5,7,8,29,49] (cd 49 (sw (r1 [mv 51 7,of 52 (.aS 1) [.t 51,kI 0] 1,lv 53 52,ou 54 (.load true 2) 5 1,oa 55 (.aj 223) 54,ob 56 (.build [z0,z0,z0] [(0,1),(1,2)]) 53 55,al 11 0 [z0,z0,z0],sk 3 11 56 4] 1 [1,3,7,8,11] [11]) (sw (sw (r1 [fu 57 0 8 1,lv 58 57,mv 59 7,of 60 (.aS 1) [.t 59,kI 0] 1,lv 61 60,ob1 62 (.aS 3) 58 61 1,fu 63 1 62 1,ou 64 (.load true 2) 63 1,fu 65 1 11 1,ou 66 (.load true 2) 65 1,ob 67 (.AL false [1,1]) 64 66] 0 [1,3,7,8,11,67] []) (cd 67 (sr [mf 6 false] 0 [6] .ret) .skip)) (sw (sw (r1 [ou 69 (.load true 17) 3 1,mv 70 1,ob 71 (.aj 222) 69 70,fu 72 0 8 1,lv 73 72,mv 74 7,of 75 (.aS 1) [.t 74,kI 0] 1,lv 76 75,ob1 77 (.aS 3) 73 76 1,fu 78 1 77 1,ou 79 (.load true 2) 78 1,fu 80 1 11 1,ou 81 (.load true 2) 80 1,on 82 (.aj 224) [.t 71,.t 79,.t 81],mv 68 82,xa 83 0 68,xa 84 1 68,mv 12 83,mv 13 84] 0 [1,8,11,13] []) (sr [mv 85 13,oa 86 pN 85] 0 [1,8,11,86] (cd 86 (sr [mf 6 false] 0 [6] .ret) .skip))) (sr [lw 87 2 8,lw 88 3 11,ob 89 (.aj 225) 87 88,mv 14 89] 0 [1,14] (sw (sr [mi 15 0] 0 [1,14,15] (b1 (.loop (sw (sr [mv 90 15,mv 91 14,oa 92 .len 91,ob 93 pL 90 92] 0 [1,14,15,93] (cx 93 1)) (sw (.block 2 (sr [mv 97 1,mv 98 14,mv 99 15,ix 100 1 98 99,lo 101 100,ob 102 (.aj 226) 97 101,mv 96 102,xa 103 0 96,xa 104 1 96,al 16 0 [z0,z0],sk 2 16 103 0,mv 17 104] 1 [1,14,15,17] (sr [mv 105 17,oa 106 pN 105] 0 [1,14,15,106] (cd 106 (sr [mf 6 false] 0 [6] .ret) .skip)))) (rg [mv 94 15,oi 95 pA 94 1,mv 15 95] 0 [1,14,15])))))) (sr [mf 6 true] 0 [6] .ret)))))) (sr [oi 108 pE 29 3,mv 107 108] 0 [1,3,7,8,29,107] (cd 107 (sr [mv 110 1,mv 111 7,oi 112 (.aS 1) 111 0,lo 113 112,ob 114 (.aj 226) 110 113,mv 109 114,xa 115 0 109,xa 116 1 109,al 18 0 [z0,z0],sk 2 18 115 0,mv 19 116] 1 [19] (sr [mv 117 19,oa 118 pN 117,mv 6 118] 0 [6] .ret)) (sr [oi 120 pE 29 4,mv 119 120] 0 [1,3,7,8,119] (cd 119 (s0 [mv 122 1,mv 123 7,oi 124 (.aS 1) 123 0,lo 125 124,ob 126 (.aj 226) 122 125,mv 121 126,xa 127 0 121,xa 128 1 121,al 20 0 [z0,z0],sk 2 20 127 0,mv 21 128] 1 [3,7,8,20,21] [20] (sw (r1 [mv 129 21,mv 130 129,ov 131 (.load true 2) 8 130 1,ov 132 .mov 7 130 0,ot 133 (.aS 1) [.t 132,kI 0] 130 1,ov 134 ld 133 130 1,ov 135 (.load true 2) 20 130 1,ot 136 (.aj 227) [.t 131,.t 134,.t 135,kI 100] 130 0,ov 137 (.fld 3) 3 130 1,ov 138 ld 137 130 1,ov 139 (.un .neg) 138 130 0,ov 140 (.fld 3) 3 130 1,ov 141 ld 140 130 1,ot 142 (.aj 124) [.t 136,.t 139,.t 141] 130 0,pf 143 130 142,mv 144 143,ov 145 .mov 7 144 0,ot 146 (.aS 1) [.t 145,kI 1] 144 1,ov 147 ld 146 144 1,ov 148 (.load true 17) 3 144 1,ov 149 (.load true 2) 8 144 1,ov 150 .mov 7 144 0,ot 151 (.aS 1) [.t 150,kI 0] 144 1,ov 152 ld 151 144 1,ot 153 (.aj 136) [.t 148,.t 149,.t 152] 144 0,obT 154 (.bin .geq) 147 153 144 0,pf 155 144 154,mv 6 155] 0 [6] []) .ret)) .skip)))))))))) (sw (sr [mi 22 0] 0 [1,3,7,22] (.block 3 (.loop (sw (sr [mv 156 22,mv 157 1,oa 158 .len 157,ob 159 pL 156 158] 0 [1,3,7,22,159] (cx 159 3)) (sw (.block 4 (sw (r1 [mv 162 1,mv 163 22,ob1 164 (.aS 2) 162 163 1,fu 165 0 164 1,lv 166 165,oi 167 pE 166 5,mv 168 167,ov 169 .mov 1 168 0,ov 170 .mov 22 168 0,obT 171 (.aS 2) 169 170 168 1,ov 172 (.fld 1) 171 168 1,ov 173 ld 172 168 1,ot 174 (.aS 1) [.t 173,kI 0] 168 1,ov 175 ld 174 168 1,ov 176 .mov 7 168 0,ot 177 (.aS 1) [.t 176,kI 0] 168 1,ov 178 ld 177 168 1,obT 179 (.bin .geq) 175 178 168 0,pf 180 168 179] 0 [1,3,7,22,180] []) (cd 180 (sr [mf 6 false] 0 [6] .ret) .skip))) (rg [mv 160 22,oi 161 pA 160 1,mv 22 161] 0 [1,3,7,22])))))) (sw (r1 [ou 181 (.load true 17) 3 1,mv 182 7,of 183 (.aS 1) [.t 182,kI 0] 1,lv 184 183,ob 185 (.aj 142) 181 184,mv 6 185] 0 [6] []) .ret))))))
def KZ:aA:=(sr [mi 2 0] 0 [0] (sw (sr [mv 3 0] 0 [3] (.block 0 (sw (sr [oi 5 pE 3 1,mv 4 5] 0 [3,4] (cd 4 .skip (sr [oi 6 pE 3 2,mv 4 6] 0 [3,4] (cd 4 .skip (sr [oi 7 pE 3 3,mv 4 7] 0 [3,4] (cd 4 .skip (sr [oi 8 pE 3 7,mv 4 8] 0 [3,4] (cd 4 .skip (sr [oi 9 pE 3 11,mv 4 9] 0 [3,4] (cd 4 .skip (rg [oi 10 pE 3 12,mv 4 10] 0 [3,4]))))))))))) (cd 4 (sr [mi 2 0] 0 [2] .ret) (sw (sr [oi 12 pE 3 4,mv 11 12] 0 [3,11] (cd 11 .skip (sr [oi 13 pE 3 8,mv 11 13] 0 [3,11] (cd 11 .skip (sr [oi 14 pE 3 9,mv 11 14] 0 [3,11] (cd 11 .skip (rg [oi 15 pE 3 10,mv 11 15] 0 [3,11]))))))) (cd 11 (sr [mi 2 1] 0 [2] .ret) (sr [oi 17 pE 3 6,mv 16 17] 0 [3,16] (cd 16 (sr [mi 2 2] 0 [2] .ret) (sr [oi 19 pE 3 5,mv 18 19] 0 [18] (cd 18 (sr [mi 2 3] 0 [2] .ret) .skip)))))))))) (sr [mi 2 (-1)] 0 [2] .ret)))
def O6:aA:=(s0 [ba 2 0 0,mf 4 false] 1 [1,2] [2] (sr [mv 5 1,fa 6 0 2,fa 7 1 6,lo 8 7,oa 9 .len 8,oi 10 pU 9 1,on 11 (.aj 124) [.t 5,kI 0,.t 10],mv 4 11] 0 [4] .ret))
def KQ:aA:=(s0 [ba 3 0 0,ba 4 1 1,mi 6 0] 2 [2,3,4] [3,4] (sr [ag 7 1] 0 [2,3,4,7] (sw (r1 [ou 10 (.load true 2) 4 1,fu 11 1 4 1,lv 12 11,mv 13 2,ob1 14 (.aS 1) 12 13 1,lv 15 14,ob 16 (.aj 152) 10 15,mv 8 16] 0 [3,7,8] []) (sw (sr [mi 9 0] 0 [3,7,8,9] (lp (sw (sr [mv 17 9,mv 18 8,oa 19 .len 18,ob 20 pL 17 19] 0 [3,7,8,9,20] (cx 20 0)) (sw (b1 (r1 [mv 23 7,mv 24 8,mv 25 9,ob1 26 (.aS 2) 24 25 1,fu 27 0 26 1,lv 28 27,mv 29 8,mv 30 9,ob1 31 (.aS 2) 29 30 1,fu 32 1 31 1,lv 33 32,ob1 34 (.dV 1 [z0,z0] [0,1]) 28 33 1,ob 35 (.app 1 false) 23 34,mv 7 35] 0 [3,7,8,9] [])) (rg [mv 21 9,oi 22 pA 21 1,mv 9 22] 0 [3,7,8,9]))))) (sr [lw 36 17 3,mv 37 7,ob 38 (.uO 67) 36 37,oa 39 (.aj 228) 38,mv 6 39] 0 [6] .ret)))))
def KO:aA:=(s0 [ba 2 0 0,al 4 1 [zs,zs]] 2 [1,2,4] [2] (sr [fa 7 0 2,lw 8 2 7,al 5 0 [zs,zs],sk 2 5 8 0] 1 [1,4,5] (sw (sr [mi 6 0] 0 [1,4,5,6] (lp (sw (sr [mv 9 6,mv 10 1,oa 11 .len 10,ob 12 pL 9 11] 0 [1,4,5,6,12] (cx 12 0)) (sw (b1 (sr [mv 15 1,mv 16 6,ix 17 2 15 16,fa 18 0 17,lo 19 18,oi 20 pE 19 2] 0 [1,4,5,6,20] (cd 20 (r1 [ou 21 (.load true 2) 5 2,mv 22 1,mv 23 6,ob1 24 (.aS 2) 22 23 1,fu 25 1 24 1,lv 26 25,of 27 (.aS 1) [.t 26,kI 0] 1,lv 28 27,mv 29 1,mv 30 6,ob1 31 (.aS 2) 29 30 1,ou 32 (.load true 2) 31 1,oa 33 (.aj 223) 32,ob 34 (.build [z0,z0,z0] [(0,1),(1,2)]) 28 33,ob 35 (.aj 88) 21 34,sk 2 5 35 0] 0 [1,4,5,6] []) .skip))) (rg [mv 13 6,oi 14 pA 13 1,mv 6 14] 0 [1,4,5,6]))))) (sr [lw 36 2 5,sk 2 4 36 0] 0 [4] .ret))))
def O9:aA:=(s0 [ba 3 0 0,ag 6 1,mi 7 0] 1 [1,2,3] [3] (sw (sw (r1 [ou 14 (.load true 17) 3 1,mv 15 2,of 16 (.aS 1) [.t 15,kI 0] 1,lv 17 16,ob 18 (.aj 135) 14 17,oa 19 pN 18,mv 20 19,ow 21 .mov 2 20 0,oF 22 (.aS 1) [.t 21,kI 1] 20 1,ow 23 ld 22 20 1,ow 24 .mov 2 20 0,oF 25 (.aS 1) [.t 24,kI 2] 20 1,ow 26 ld 25 20 1,obF 27 (.aj 229) 23 26 20 0,ow 28 pN 27 20 0,pt 29 20 28,mv 30 29,ow 31 .mov 2 30 0,oF 32 (.aS 1) [.t 31,kI 2] 30 1,ow 33 ld 32 30 1,ow 34 .mov 2 30 0,oF 35 (.aS 1) [.t 34,kI 1] 30 1,ow 36 ld 35 30 1,obF 37 pU 33 36 30 0,oF 38 pG [.t 37,kI 10] 30 0,pt 39 30 38] 0 [1,2,3,39] []) (cd 39 (sr [ag 6 1,mi 7 2] 0 [6,7] .ret) .skip)) (s0 [mv 41 1,mv 42 2,oi 43 (.aS 1) 42 0,lo 44 43,ob 45 (.aj 226) 41 44,mv 40 45,xa 46 0 40,xa 47 1 40,al 8 0 [z0,z0],sk 2 8 46 0,mv 9 47] 1 [1,2,3,8,9] [8] (sw (sr [mv 48 9,oa 49 pN 48] 0 [1,2,3,8,49] (cd 49 (sr [ag 6 1,mi 7 7] 0 [6,7] .ret) .skip)) (sw (r1 [ou 51 (.load true 17) 3 1,mv 52 1,ob 53 (.aj 137) 51 52,mv 54 2,of 55 (.aS 1) [.t 54,kI 1] 1,lv 56 55,mv 57 2,of 58 (.aS 1) [.t 57,kI 2] 1,lv 59 58,mv 60 2,of 61 (.aS 1) [.t 60,kI 0] 1,lv 62 61,ou 63 (.load true 2) 8 1,on 64 (.aj 230) [.t 53,.t 56,.t 59,.t 62,.t 63],mv 50 64,xa 65 0 50,xa 66 1 50,mv 10 65,mv 11 66] 0 [10,11] []) (sw (sr [mv 67 11,oa 68 pN 67] 0 [10,68] (cd 68 (sr [ag 6 1,mi 7 5] 0 [6,7] .ret) .skip)) (sr [ag 12 1] 0 [10,12] (sw (sr [mi 13 0] 0 [10,12,13] (lp (sw (sr [mv 69 13,mv 70 10,oa 71 .len 70,ob 72 pL 69 71] 0 [10,12,13,72] (cx 72 0)) (sw (b1 (r1 [mv 75 12,mv 76 10,mv 77 13,ob1 78 (.aS 3) 76 77 1,fu 79 0 78 1,lv 80 79,mv 81 10,mv 82 13,ob1 83 (.aS 3) 81 82 1,fu 84 1 83 1,fu 85 0 84 1,lv 86 85,mv 87 10,mv 88 13,ob1 89 (.aS 3) 87 88 1,fu 90 1 89 1,fu 91 1 90 1,lv 92 91,of 93 (.dV 1 [z0,z0,z0] [0,1,2]) [.t 80,.t 86,.t 92] 1,ob 94 (.app 1 false) 75 93,mv 12 94] 0 [10,12,13] [])) (rg [mv 73 13,oi 74 pA 73 1,mv 13 74] 0 [10,12,13]))))) (sr [mv 95 12,mv 6 95,mi 7 0] 0 [6,7] .ret)))))))))
def Si:aA:=(s0 [ba 2 0 0,mf 4 false] 1 [1,2] [2] (sr [mv 5 1,lw 6 17 2,oa 7 (.aj 141) 6,on 8 (.aj 124) [.t 5,kI 1,.t 7],mv 4 8] 0 [4] .ret))
def RZ:aA:=(s0 [ba 4 0 0,mi 8 0] 1 [1,2,3,4] [4] (sr [mi 9 0] 0 [1,2,3,4,9] (sw (sr [mi 10 0] 0 [1,2,3,4,9,10] (lp (sw (sr [mv 11 10,mv 12 1,oa 13 .len 12,ob 14 pL 11 13] 0 [1,2,3,4,9,10,14] (cx 14 0)) (sw (b1 (sr [mv 17 1,mv 18 10,ix 19 2 17 18,fa 20 0 19,lo 21 20,oi 22 pE 21 5,mv 23 22,ov 24 .mov 1 23 0,ov 25 .mov 10 23 0,obT 26 (.aS 2) 24 25 23 0,ov 27 (.fld 1) 26 23 0,ov 28 ld 27 23 0,ot 29 (.aS 1) [.t 28,kI 0] 23 0,ov 30 ld 29 23 0,ov 31 .mov 3 23 0,obT 32 (.bin .leq) 30 31 23 0,pf 33 23 32] 0 [1,2,3,4,9,10,33] (cd 33 (rg [mv 34 9,mv 35 1,mv 36 10,ix 37 2 35 36,fa 38 1 37,lo 39 38,oi 40 (.aS 1) 39 0,lo 41 40,ob 42 (.Dh true) 34 41,mv 9 42] 0 [1,2,3,4,9,10]) .skip))) (rg [mv 15 10,oi 16 pA 15 1,mv 10 16] 0 [1,2,3,4,9,10]))))) (sw (r1 [ou 43 (.load true 17) 4 1,mv 44 1,ob 45 (.aj 137) 43 44,mv 46 2,ou 47 (.load true 17) 4 1,mv 48 1,mv 49 2,on 50 (.aj 231) [.t 47,.t 48,.t 49],mv 51 3,mv 52 9,ob 53 pU 51 52,on 54 (.aj 227) [.t 45,.t 46,.t 50,.t 53],mv 8 54] 0 [8] []) .ret))))
def O1:aA:=(s0 [ba 1 0 0,mi 2 0] 1 [1] [1] (sr [fa 3 6 1,lw 4 2 3,fa 5 12 1,lo 6 5,ob 7 (.aj 35) 4 6,mv 2 7] 0 [2] .ret))
def KX:aA:=(s0 [ba 2 0 0,mf 4 false] 1 [1,2] [2] (sr [fa 8 6 2,lw 9 2 8,fa 10 12 2,lo 11 10,ob 12 (.aj 144) 9 11,mv 13 1,ob 14 pA 12 13,oi 15 pU 14 1,mv 5 15] 0 [2,5] (sr [fa 16 6 2,lw 17 2 16,fa 18 8 2,lw 19 3 18,fa 20 11 2,lo 21 20,fa 22 12 2,lo 23 22,on 24 (.aj 232) [.t 17,.t 19,.t 21,.t 23],mv 6 24] 0 [5,6] (sw (sr [mi 7 0] 0 [5,6,7] (lp (sw (sr [mv 25 7,mv 26 6,oa 27 .len 26,ob 28 pL 25 27] 0 [5,6,7,28] (cx 28 0)) (sw (b1 (sr [mv 31 6,mv 32 7,ix 33 1 31 32,lo 34 33,mv 35 5,ob 36 pE 34 35] 0 [5,6,7,36] (cd 36 (sr [mf 4 false] 0 [4] .ret) .skip))) (rg [mv 29 7,oi 30 pA 29 1,mv 7 30] 0 [5,6,7]))))) (sr [mv 37 5,oa 38 (.aj 33) 37,oi 39 pQ 38 0,mv 4 39] 0 [4] .ret)))))
def Eo:aA:=(s0 [ba 2 0 0,ag 4 1] 1 [1,2] [2] (sw (r1 [fu 20 0 2 1,ou 21 (.load true 17) 20 1,ou 22 (.load true 19) 2 1,oi 23 (.aj 22) 22 (-1),al 5 0 [zs,zs,zs,z0,z0,zs,z0,zs,z0,z0,z0,zs,z0,z0,z0,z0,z0],sk 17 5 21 4,mv 6 23] 1 [1,2,5,6] [5]) (s0 [lw 24 17 5,mv 25 6,ob 26 (.aj 137) 24 25,al 7 0 [zs,zs],sk 2 7 26 0] 1 [1,2,5,6,7] [7] (sr [ag 8 1] 0 [1,2,5,6,7,8] (sw (sr [mv 27 1] 0 [2,5,6,7,8,27] (.block 0 (sr [oi 29 pE 27 1,mv 28 29] 0 [2,5,6,7,8,27,28] (cd 28 (sw (sr [mi 9 0] 0 [7,8,9] (b1 (.loop (sw (sr [mv 30 9,fa 31 1 7,lo 32 31,oa 33 .len 32,ob 34 pL 30 33] 0 [7,8,9,34] (cx 34 1)) (sw (.block 2 (sw (r1 [ou 37 (.load true 2) 7 1,fu 38 1 7 1,lv 39 38,mv 40 9,ob1 41 (.aS 1) 39 40 1,lv 42 41,ob 43 (.aj 235) 37 42,al 10 0 [z0,z0],sk 2 10 43 4] 1 [7,8,9,10] [10]) (rg [mv 44 8,fa 45 0 10,lo 46 45,fa 47 1 10,lo 48 47,ob 49 (.dV 1 [z0,z0] [0,1]) 46 48,ob 50 (.app 1 false) 44 49,mv 8 50] 0 [7,8,9]))) (rg [mv 35 9,oi 36 pA 35 1,mv 9 36] 0 [7,8,9])))))) (sr [mv 51 8,mv 4 51] 0 [4] .ret)) (sr [oi 53 pE 27 2,mv 52 53] 0 [2,5,6,7,8,27,52] (cd 52 (sr [lw 54 17 5,mv 55 6,ob 56 (.aj 222) 54 55,mv 4 56] 0 [4] .ret) (sr [oi 58 pE 27 3,mv 57 58] 0 [2,5,6,7,8,27,57] (cd 57 (sw (sr [mi 11 0] 0 [6,7,8,11] (.block 3 (.loop (sw (sr [mv 59 11,fa 60 1 7,lo 61 60,oa 62 .len 61,ob 63 pL 59 62] 0 [6,7,8,11,63] (cx 63 3)) (sw (.block 4 (s0 [mv 67 6,mv 68 11,ob 69 (.aj 226) 67 68,mv 66 69,xa 70 0 66,xa 71 1 66,al 12 0 [z0,z0],sk 2 12 70 0,mv 13 71] 1 [6,7,8,11,12,13] [12] (sr [mv 72 13] 0 [6,7,8,11,12,72] (cd 72 (rg [mv 73 8,mv 74 11,fa 75 0 12,lo 76 75,fa 77 1 12,lo 78 77,on 79 (.dV 1 [z0,z0,z0] [0,1,2]) [.t 74,.t 76,.t 78],ob 80 (.app 1 false) 73 79,mv 8 80] 0 [6,7,8,11]) .skip)))) (rg [mv 64 11,oi 65 pA 64 1,mv 11 65] 0 [6,7,8,11])))))) (sr [mv 81 8,mv 4 81] 0 [4] .ret)) (sr [oi 83 pE 27 7,mv 82 83] 0 [2,5,6,7,27,82] (cd 82 (sr [mi 14 0] 0 [5,6,7,14] (sw (sr [mi 15 1] 0 [5,6,7,14,15] (.block 5 (.loop (sw (sr [mv 84 15,lw 85 17 5,oa 86 (.aj 141) 85,ob 87 (.bin .leq) 84 86] 0 [5,6,7,14,15,87] (cx 87 5)) (sw (.block 6 (sr [mf 16 false] 0 [5,6,7,14,15,16] (sw (sr [mi 17 0] 0 [5,6,7,14,15,16,17] (.block 7 (.loop (sw (sr [mv 90 17,fa 91 1 7,lo 92 91,oa 93 .len 92,ob 94 pL 90 93] 0 [5,6,7,14,15,16,17,94] (cx 94 7)) (sw (.block 8 (r1 [mv 97 16,mv 98 97,ow 99 (.load true 17) 5 98 1,ow 100 .mov 6 98 0,ow 101 .mov 17 98 0,ow 102 .mov 15 98 0,oF 103 (.aj 140) [.t 99,.t 100,.t 101,.t 102] 98 0,ow 104 (.fld 3) 5 98 1,ow 105 ld 104 98 1,ow 106 (.un .neg) 105 98 0,ow 107 (.fld 3) 5 98 1,ow 108 ld 107 98 1,oF 109 (.aj 124) [.t 103,.t 106,.t 108] 98 0,ow 110 pN 109 98 0,pt 111 98 110,mv 16 111] 0 [5,6,7,14,15,16,17] [])) (rg [mv 95 17,oi 96 pA 95 1,mv 17 96] 0 [5,6,7,14,15,16,17])))))) (sr [mv 112 16] 0 [5,6,7,14,15,112] (cd 112 (rg [mv 113 14,oi 114 pA 113 1,mv 14 114] 0 [5,6,7,14,15]) .skip))))) (rg [mv 88 15,oi 89 pA 88 1,mv 15 89] 0 [5,6,7,14,15])))))) (sr [mv 115 14,oa 116 (.dV 1 [z0] [0]) 115,mv 4 116] 0 [4] .ret))) (sr [oi 118 pE 27 11,mv 117 118] 0 [2,6,117] (cd 117 (sr [mi 18 0] 0 [6,18] (sw (sr [mi 19 0] 0 [6,18,19] (.block 9 (.loop (sw (sr [mv 119 19,mv 120 6,oa 121 .len 120,ob 122 pL 119 121] 0 [6,18,19,122] (cx 122 9)) (sw (.block 10 (sr [mv 125 6,mv 126 19,ix 127 2 125 126,fa 128 0 127,lo 129 128,oi 130 pE 129 4] 0 [6,18,19,130] (cd 130 (rg [mv 131 18,mv 132 6,mv 133 19,ix 134 2 132 133,fa 135 1 134,lo 136 135,oi 137 (.aS 1) 136 1,lo 138 137,ob 139 pA 131 138,mv 18 139] 0 [6,18,19]) .skip))) (rg [mv 123 19,oi 124 pA 123 1,mv 19 124] 0 [6,18,19])))))) (sr [mv 140 18,oa 141 (.dV 1 [z0] [0]) 140,mv 4 141] 0 [4] .ret))) .skip)))))))))))) (sr [lw 142 19 2,oa 143 (.aj 37) 142,mv 4 143] 0 [4] .ret))))))
def Ep:aA:=(sr [al 2 0 [z0,zs],mf 3 false] 1 [0,2] (sr [mv 8 0,oc 9 (.aj 119) 8 (.c (.int .u8 32)),mv 4 9] 0 [2,4] (sr [mv 11 4,oi 12 (.zV 1 true false false) 11 1,oa 13 (.aj 129) 12,mv 10 13,xa 14 0 10,xa 15 1 10,mv 5 14,mv 6 15] 0 [2,4,5,6] (sw (sr [mi 7 1] 0 [2,4,5,6,7] (lp (sw (sr [mv 16 6,mv 17 16,ov 18 .mov 7 17 0,ot 19 (.bin .leq) [.t 18,kI 12] 17 0,pf 20 17 19] 0 [2,4,5,6,7,20] (cx 20 0)) (sw (b1 (sw (r1 [mv 23 4,of 24 (.aS 1) [.t 23,kI 0] 1,lv 25 24,mv 26 7,oa 27 (.aj 275) 26,ob 28 pE 25 27,mv 29 28,ov 30 .mov 5 29 0,ov 31 .len 30 29 1,ov 32 .mov 7 29 0,ov 33 (.aj 134) 32 29 0,obT 34 pE 31 33 29 0,pf 35 29 34] 0 [2,4,5,6,7,35] []) (cd 35 (sr [mv 36 7,mv 37 5,ob 38 (.build [z0,zs] [(0,1),(1,1)]) 36 37,sk 2 2 38 0,mf 3 true] 0 [2,3] .ret) .skip))) (rg [mv 21 7,oi 22 pA 21 1,mv 7 22] 0 [2,4,5,6,7]))))) (sr [on 39 (.build [z0,zs] []) [],sk 2 2 39 0,mf 3 false] 0 [2,3] .ret)))))
def FQ:aA:=(sr [mk 2 (.c ze)] 0 [0] (sr [mv 4 0,oi 5 (.bin .rem) 4 10,on 6 pA [kI 48,.t 5],oa 7 (.conv .u8) 6,oa 8 (.dV 1 [.int .u8 0] [0]) 7,oa 9 .b2s 8,mv 3 9] 0 [0,3] (sw (lp (sw (sr [mv 10 0,oi 11 (.bin .geq) 10 10] 0 [0,3,11] (cx 11 0)) (b1 (sr [mv 12 0,oi 13 (.bin .quo) 12 10,mv 0 13] 0 [0,3] (rg [mv 14 0,oi 15 (.bin .rem) 14 10,on 16 pA [kI 48,.t 15],oa 17 (.conv .u8) 16,oa 18 (.dV 1 [.int .u8 0] [0]) 17,oa 19 .b2s 18,mv 20 3,ob 21 pA 19 20,mv 3 21] 0 [0,3]))))) (sr [mv 22 3,mv 2 22] 0 [2] .ret))))
def KT:aA:=(s0 [ba 2 0 0,mk 4 cS] 1 [1,2] [2] (sr [mk 5 cS] 0 [1,2,5] (sw (sr [mi 6 0] 0 [1,2,5,6] (lp (sw (sr [mv 7 6,mv 8 1,oa 9 .len 8,ob 10 pL 7 9] 0 [1,2,5,6,10] (cx 10 0)) (sw (b1 (sw (sr [mv 13 1,mv 14 6,ix 15 2 13 14,fa 16 0 15,lo 17 16,oi 18 pE 17 1] 0 [1,2,5,6,18] (cd 18 (rg [mv 19 5,mv 20 1,mv 21 6,ix 22 2 20 21,fa 23 1 22,lo 24 23,oi 25 (.aS 1) 24 0,lo 26 25,ob 27 (.aj 280) 19 26,mv 5 27] 0 [1,2,5,6]) .skip)) (sr [mv 28 1,mv 29 6,ix 30 2 28 29,fa 31 0 30,lo 32 31,oi 33 pE 32 2] 0 [1,2,5,6,33] (cd 33 (r1 [mv 35 5,ou 36 (.load true 17) 2 1,mv 37 1,mv 38 6,ob1 39 (.zV 2 false true false) 37 38 1,ob 40 (.aj 137) 36 39,oa 41 (.QY false 0 1) 40,mv 42 1,mv 43 6,ob1 44 (.aS 2) 42 43 1,fu 45 1 44 1,lv 46 45,of 47 (.aS 1) [.t 46,kI 0] 1,lv 48 47,ob1 49 (.aS 3) 41 48 1,fu 50 1 49 1,ou 51 (.load true 2) 50 1,mv 52 1,mv 53 6,ob1 54 (.aS 2) 52 53 1,ou 55 (.load true 2) 54 1,oa 56 (.aj 223) 55,on 57 (.aj 224) [.t 35,.t 51,.t 56],mv 34 57,xa 58 0 34,xa 59 1 34,mv 5 58] 0 [1,2,5,6] []) .skip)))) (rg [mv 11 6,oi 12 pA 11 1,mv 6 12] 0 [1,2,5,6]))))) (sr [mv 60 5,mv 4 60] 0 [4] .ret))))
def Pg:aA:=(s0 [ba 1 0 0,al 2 1 [z0,z0]] 2 [1,2] [1] (sw (r1 [fu 3 1 1 1,lv 4 3,of 5 (.aS 1) [.t 4,kI 1] 1,lv 6 5,fu 7 1 1 1,lv 8 7,of 9 (.aS 1) [.t 8,kI 2] 1,lv 10 9,ob 11 (.build [z0,z0] [(0,1),(1,1)]) 6 10,sk 2 2 11 0] 0 [2] []) .ret))
def FU:aA:=(s0 [ba 4 0 1,ba 5 1 2,mk 6 cS,mf 7 false] 2 [0,4,5] [4,5] (sw (r1 [fu 11 0 4 1,lv 12 11,fu 13 0 5 1,lv 14 13,ob 15 pQ 12 14,fu 16 1 4 1,lv 17 16,fu 18 1 5 1,lv 19 18,ob 20 pQ 17 19,mv 8 15,mv 9 20] 0 [0,4,5,8,9] []) (sr [mf 10 true] 0 [0,4,5,8,9,10] (sw (sr [mv 21 8] 0 [0,4,5,8,9,10,21] (cd 21 (rg [mv 23 0,fa 24 0 5,lo 25 24,ob 26 (.aj 281) 23 25,mv 22 26,xa 27 0 22,xa 28 1 22,mv 0 27,mv 10 28] 0 [0,4,5,8,9,10]) .skip)) (sw (sr [mv 29 10,mv 30 29,ov 31 .mov 9 30 0,pf 32 30 31] 0 [0,4,5,8,9,10,32] (cd 32 (rg [mv 34 0,fa 35 1 5,lo 36 35,ob 37 (.aj 281) 34 36,mv 33 37,xa 38 0 33,xa 39 1 33,mv 0 38,mv 10 39] 0 [0,4,8,9,10]) .skip)) (sw (sr [mv 40 8] 0 [0,4,9,10,40] (cd 40 (rg [mv 41 0,fa 42 0 4,lo 43 42,ob 44 (.aj 280) 41 43,mv 0 44] 0 [0,4,9,10]) .skip)) (sw (sr [mv 45 9] 0 [0,4,10,45] (cd 45 (rg [mv 46 0,fa 47 1 4,lo 48 47,ob 49 (.aj 280) 46 48,mv 0 49] 0 [0,10]) .skip)) (sr [mv 50 0,mv 51 10,mv 6 50,mv 7 51] 0 [6,7] .ret))))))))
def KL:aA:=(sr [al 4 0 [z0,z0],mf 5 false] 1 [0,1,4] (sr [on 10 (.build [z0,z0] []) [],al 6 0 [z0,z0],sk 2 6 10 0,mf 7 false] 1 [0,1,4,6,7] (sw (sr [mi 8 0] 0 [0,1,4,6,7,8] (lp (sw (sr [mv 11 8,mv 12 0,oa 13 .len 12,ob 14 pL 11 13] 0 [0,1,4,6,7,8,14] (cx 14 0)) (sw (b1 (sr [mv 17 0,mv 18 8,ix 19 2 17 18,fa 20 1 19,lo 21 20,mv 9 21] 0 [0,1,4,6,7,8,9] (sw (sr [mv 22 0,mv 23 8,ix 24 2 22 23,fa 25 0 24,lo 26 25,oi 27 pE 26 3,mv 28 27,ov 29 .mov 9 28 0,ot 30 (.aS 1) [.t 29,kI 0] 28 0,ov 31 ld 30 28 0,ov 32 .mov 1 28 0,obT 33 pE 31 32 28 0,pf 34 28 33] 0 [0,1,4,6,7,8,9,34] (cd 34 (r1 [mv 35 9,of 36 (.aS 1) [.t 35,kI 1] 1,lv 37 36,mv 38 9,of 39 (.aS 1) [.t 38,kI 2] 1,lv 40 39,ob 41 (.build [z0,z0] [(0,1),(1,1)]) 37 40,sk 2 6 41 0,mf 7 true] 0 [0,1,4,6,7,8,9] []) .skip)) (sr [mv 42 0,mv 43 8,ix 44 2 42 43,fa 45 0 44,lo 46 45,oi 47 pE 46 4,mv 48 47,ov 49 .mov 9 48 0,ot 50 (.aS 1) [.t 49,kI 0] 48 0,ov 51 ld 50 48 0,ov 52 .mov 1 48 0,obT 53 pE 51 52 48 0,pf 54 48 53] 0 [0,1,4,6,7,8,54] (cd 54 (rg [mf 7 false] 0 [0,1,4,6,7,8]) .skip))))) (rg [mv 15 8,oi 16 pA 15 1,mv 8 16] 0 [0,1,4,6,7,8]))))) (sr [lw 55 2 6,mv 56 7,sk 2 4 55 0,mv 5 56] 0 [4,5] .ret))))
def Ld:aA:=(s0 [ba 4 0 0,ba 6 1 2,mi 8 0] 2 [1,3,4,6] [4,6] (sw (r1 [ou 9 (.load true 2) 4 1,fu 10 1 4 1,lv 11 10,mv 12 1,ob1 13 (.aS 1) 11 12 1,lv 14 13,ob 15 (.aj 152) 9 14,ou 16 (.load true 2) 6 1,mv 17 3,on 18 (.aj 282) [.t 15,.t 16,.t 17],mv 8 18] 0 [8] []) .ret))
def Ij:aA:=(s0 [ba 3 0 0,al 6 1 [z0,z0]] 2 [1,2,3,6] [3] (sr [fa 9 2 3,lo 10 9,mv 11 2,ix 12 2 10 11,lw 13 2 12,al 7 0 [z0,z0],sk 2 7 13 0] 1 [1,2,6,7] (sw (sr [mi 8 0] 0 [1,2,6,7,8] (lp (sw (sr [mv 14 8,mv 15 1,oa 16 .len 15,ob 17 pL 14 16] 0 [1,2,6,7,8,17] (cx 17 0)) (sw (b1 (sr [mv 20 1,mv 21 8,ix 22 2 20 21,fa 23 0 22,lo 24 23,oi 25 pE 24 4,mv 26 25,ov 27 .mov 1 26 0,ov 28 .mov 8 26 0,obT 29 (.aS 2) 27 28 26 0,ov 30 (.fld 1) 29 26 0,ov 31 ld 30 26 0,ot 32 (.aS 1) [.t 31,kI 0] 26 0,ov 33 ld 32 26 0,ov 34 .mov 2 26 0,obT 35 pE 33 34 26 0,pf 36 26 35] 0 [1,2,6,7,8,36] (cd 36 (rg [mv 38 1,mv 39 8,ob 40 (.zV 2 false true false) 38 39,mv 41 2,ob 42 (.aj 226) 40 41,mv 37 42,xa 43 0 37,xa 44 1 37,sk 2 7 43 0] 0 [1,2,6,7,8]) .skip))) (rg [mv 18 8,oi 19 pA 18 1,mv 8 19] 0 [1,2,6,7,8]))))) (sr [lw 45 2 7,sk 2 6 45 0] 0 [6] .ret))))
def FT:aA:=(sr [mk 2 (.c ze)] 0 [0] (sr [on 3 (.dV 1 [ze,ze,ze,ze,ze,ze,ze,ze,ze,ze,ze,ze,ze] [0,1,2,3,4,5,6,7,8,9,10,11,12]) [.c ze,.c (.str ⟨#[104,97,110,100,115]⟩),.c (.str ⟨#[115,116,111,99,107]⟩),.c (.str ⟨#[111,112,101,110]⟩),.c (.str ⟨#[112,114,105,99,101]⟩),.c (.str ⟨#[110,101,101,100]⟩),.c (.str ⟨#[111,102,102]⟩),.c (.str ⟨#[119,114,111,110,103]⟩),.c (.str ⟨#[119,111,114,107,115]⟩),.c (.str ⟨#[100,97,116,101]⟩),.c (.str ⟨#[99,117,116,115]⟩),.c (.str ⟨#[99,111,105,110,115]⟩),.c (.str ⟨#[115,116,97,110,100,115]⟩)],mv 4 0,ix 5 1 3 4,lo 6 5,mv 2 6] 0 [2] .ret))
def Sj:aA:=(sr [ag 4 1] 0 [0,1] (sr [ag 5 1] 0 [0,1,5] (sr [mi 6 0] 0 [0,1,5,6] (sw (lp (sw (sr [mv 7 6,mv 8 0,oa 9 .len 8,ob 10 pL 7 9,mv 11 10,ov 12 .mov 0 11 0,ov 13 .mov 6 11 0,obT 14 (.aS 1) 12 13 11 0,ov 15 ld 14 11 0,ov 16 .mov 1 11 0,obT 17 (.bin .leq) 15 16 11 0,pf 18 11 17] 0 [0,1,5,6,18] (cx 18 0)) (b1 (sr [mv 19 5,mv 20 0,mv 21 6,ix 22 1 20 21,lo 23 22,oa 24 (.dV 1 [z0] [0]) 23,ob 25 (.app 1 false) 19 24,mv 5 25] 0 [0,1,5,6] (rg [mv 26 6,oi 27 pA 26 1,mv 6 27] 0 [0,1,5,6]))))) (sw (r1 [mv 28 5,mv 29 1,ou 30 (.dV 1 [z0] [0]) 29 1,ob 31 (.app 1 false) 28 30,mv 32 0,mv 33 6,ob1 34 (.zV 1 true false false) 32 33 1,ob 35 (.app 1 false) 31 34,mv 4 35] 0 [4] []) .ret)))))
def KW:aA:=(sr [ag 4 1,mf 5 false] 0 [0,1] (sw (sr [mi 6 0] 0 [0,1,6] (lp (sw (sr [mv 7 6,mv 8 0,oa 9 .len 8,ob 10 pL 7 9] 0 [0,1,6,10] (cx 10 0)) (sw (b1 (sr [mv 13 0,mv 14 6,ix 15 1 13 14,lo 16 15,mv 17 1,ob 18 pE 16 17] 0 [0,1,6,18] (cd 18 (sw (r1 [mv 19 0,mv 20 6,ob1 21 (.zV 1 false true false) 19 20 1,on 22 (.app 1 false) [cS,.t 21],mv 23 0,mv 24 6,oi 25 pA 24 1,ob1 26 (.zV 1 true false false) 23 25 1,ob 27 (.app 1 false) 22 26,mv 4 27,mf 5 true] 0 [4,5] []) .ret) .skip))) (rg [mv 11 6,oi 12 pA 11 1,mv 6 12] 0 [0,1,6]))))) (sr [mv 28 0,mv 4 28,mf 5 false] 0 [4,5] .ret)))
def Ky:aA:=(sr [mf 2 false] 0 [0] (sr [mv 3 0,on 4 (.aj 154) [.t 3,kI 0,kI 10800],mv 2 4] 0 [2] .ret))
def Eh:aA:=(s0 [ba 1 0 0,mf 2 false] 1 [1] [1] (sr [fa 3 0 1,lo 4 3,on 5 (.aj 154) [.t 4,kI 0,kI 50000],mv 6 5,ov 7 (.fld 1) 1 6 0,ov 8 ld 7 6 0,ot 9 (.aj 154) [.t 8,kI 1,kI 50000] 6 0,pf 10 6 9,mv 2 10] 0 [2] .ret))
def Kz:aA:=(sr [mf 2 false] 0 [0] (sr [mv 3 0,on 4 (.aj 154) [.t 3,kI 4,kI 60],mv 2 4] 0 [2] .ret))
def RS:aA:=(s0 [ba 4 0 1,mi 6 0] 1 [0,2,4] [4] (sr [mv 10 0,lw 11 2 4,mv 12 2,on 13 (.aj 306) [.t 10,.t 11,.t 12],mv 9 13,xa 14 0 9,xa 15 1 9,mv 7 14,mv 8 15] 0 [7,8] (sw (sr [mv 16 7,oi 17 pL 16 0] 0 [7,8,17] (cd 17 (sr [mv 18 7,oa 19 (.un .neg) 18,mv 20 8,ob 21 (.bin .quo) 19 20,oa 22 (.un .neg) 21,mv 6 22] 0 [6] .ret) .skip)) (sr [mv 23 7,mv 24 8,ob 25 (.bin .quo) 23 24,mv 6 25] 0 [6] .ret))))
def KA:aA:=(sr [al 2 0 [z0,z0]] 1 [0,2] (sr [on 5 (.build [z0,z0] [(0,1),(1,1)]) [kI 1,kI 1],al 3 0 [z0,z0],sk 2 3 5 0] 1 [0,2,3] (sw (sr [mi 4 0] 0 [0,2,3,4] (lp (sw (sr [mv 6 4,mv 7 0,oa 8 .len 7,ob 9 pL 6 8] 0 [0,2,3,4,9] (cx 9 0)) (sw (b1 (r1 [fu 12 0 3 2,ou 13 ld 12 2,mv 14 0,mv 15 4,ob1 16 (.aS 2) 14 15 1,fu 17 0 16 1,lv 18 17,ob 19 pM 13 18,fu 20 1 3 2,ou 21 ld 20 2,mv 22 0,mv 23 4,ob1 24 (.aS 2) 22 23 1,fu 25 1 24 1,lv 26 25,ob 27 pM 21 26,ob 28 (.build [z0,z0] [(0,1),(1,1)]) 19 27,sk 2 3 28 0] 0 [0,2,3,4] [])) (rg [mv 10 4,oi 11 pA 10 1,mv 4 11] 0 [0,2,3,4]))))) (sr [lw 29 2 3,oa 30 (.aj 307) 29,sk 2 2 30 0] 0 [2] .ret))))
def RU:aA:=(s0 [ba 4 0 1,mi 6 0,mi 7 0] 1 [0,2,4] [4] (s0 [mv 9 0,oa 10 (.aj 287) 9,al 8 0 [z0,z0],sk 2 8 10 0] 1 [2,4,8] [8] (sw (r1 [fu 11 0 8 1,lv 12 11,fu 13 1 4 1,lv 14 13,ob 15 pM 12 14,fu 16 0 4 1,lv 17 16,fu 18 1 8 1,lv 19 18,ob 20 pM 17 19,ob 21 pU 15 20,mv 22 2,ob 23 pM 21 22,oi 24 pM 23 21600,fu 25 1 8 1,lv 26 25,fu 27 1 4 1,lv 28 27,ob 29 pM 26 28,mv 6 24,mv 7 29] 0 [6,7] []) .ret)))
def FI:aA:=(s0 [ba 1 0 0,al 2 1 [z0,z0]] 2 [1,2] [1] (sr [fa 4 0 1,lo 5 4,fa 6 1 1,lo 7 6,ob 8 (.aj 334) 5 7,mv 3 8] 0 [1,2,3] (sw (r1 [fu 9 0 1 1,lv 10 9,mv 11 3,ob 12 (.bin .quo) 10 11,fu 13 1 1 1,lv 14 13,mv 15 3,ob 16 (.bin .quo) 14 15,ob 17 (.build [z0,z0] [(0,1),(1,1)]) 12 16,sk 2 2 17 0] 0 [2] []) .ret)))
end Go.Tel
namespace Go.Am
def ag3 {C:Ctx}{base:Nat}{M:Mem}{K:PV->Mem->Prop}{KP:DV->Mem->Prop}{xs:List DV}{l:List UInt8}{ex:Bool}(h:bytesOf xs=some l)(a:K (.d (.str ⟨l.toArray⟩)) M):ay C base .b2s [.d (.slice ex xs)] M K KP:=by
 simp only[ay,yQ,h];exact a
end Go.Am
namespace Go.Tel
open Go.Am Go.Lib
def ZV (n l h:Int):Pure C 124 [dI n,dI l,dI h] (.d (.bool (inR n l h))) []:=AU n l h
def JZ (k:Int):Int:=if k=1\/k=5\/k=6 then 1 else if k=4 then 2 else if k=2\/k=3 then 3 else -1
def alc (k:Int):Pure C 123 [dI k] (pI (JZ k)) []:=by
 refine ah O7 aN ?_;simp only[O7,aN,RN,r];unfold JZ
 by_cases h1:k=1
 ·have b1:(k==1)=true:=by simp[h1]
  simp only[b1,RN,r];simp[h1]
 have b1:(k==1)=false:=beq_false_of_ne h1;simp only[b1,RN,r]
 by_cases h2:k=5
 ·have e:(k==5)=true:=by simp[h2]
  simp only[e,RN,r];simp[h2]
 have e:(k==5)=false:=beq_false_of_ne h2;simp only[e,RN,r]
 by_cases a:k=6
 ·have f:(k==6)=true:=by simp[a]
  simp only[f,RN,r];simp[a]
 have f:(k==6)=false:=beq_false_of_ne a;simp only[f,RN,r]
 by_cases b:k=4
 ·have g:(k==4)=true:=by simp[b]
  simp only[g,RN,r];simp[b]
 have g:(k==4)=false:=beq_false_of_ne b;simp only[g,RN,r]
 by_cases c:k=2
 ·have h:(k==2)=true:=by simp[c]
  simp only[h,RN,r];simp[c]
 have h:(k==2)=false:=beq_false_of_ne c;simp only[h,RN,r]
 by_cases d:k=3
 ·have i:(k==3)=true:=by simp[d]
  simp only[i,RN];simp[d]
 have i:(k==3)=false:=beq_false_of_ne d;simp only[i,RN];simp[h1,h2,a,b,c,d]
def abq (x:En):x.formed=(decide ((x.ns.length:Int)=JZ x.kind)&&x.ns.all fun n=>inR n 0 9999):=by
 unfold En.formed
 congr 1
 by_cases h:1<=x.kind/\x.kind<=6
 ·rw[show inR x.kind 1 6=true by simp[inR,h],Y]
  have:JZ x.kind=(gI x.kind:Int):=by
   rcases MV h with e|e|e|e|e|e<;>rw[e]<;>rfl
  rw[this]
  by_cases a:x.ns.length=gI x.kind
  ·rw[decide_eq_true a,decide_eq_true (by omega)]
  ·rw[decide_eq_false a,decide_eq_false (by omega)]
 ·rw[show inR x.kind 1 6=false by simp only[inR,aD,decide_eq_false_iff_not];omega,W]
  have:JZ x.kind= -1:=by
   unfold JZ;rw[if_neg (by omega),if_neg (by omega),if_neg (by omega)]
  rw[this,decide_eq_false (by omega)]
def VF (x:En)(hx:x.ns.length<=1000000):Pure C 43 [x.dv] (.d (.bool x.formed)) []:=by
 refine ah Ii aN ?_;rw[dO,abq];simp only[Ii,aN,O,RN,r,B,J];refine ak (alc _) ?_
 by_cases e:(x.ns.length:Int)=JZ x.kind
 case neg=>
  have b:((x.ns.length:Int) !=JZ x.kind)=true:=by simp[e]
  simp only[b,RN,r];simp[e]
 have b:((x.ns.length:Int) !=JZ x.kind)=false:=by simp[e]
 simp only[b,RN,r];rw[decide_eq_true e,Y];refine aG x.ns.length (fun i (_:Unit)=>⟨[(1, .d (.aV [dI x.kind,sF (x.ns.map au)])),(3,pI i)],⟨[some [pI x.kind, .d (sF (x.ns.map au))]],[0],[]⟩⟩)
  (fun i _=>(x.ns.all fun n=>inR n 0 9999)=((x.ns.drop i).all fun n=>inR n 0 9999)) 0 () (V _) rfl rfl (fun i _ c a=> ?_) (fun _ a=> ?_)
 ·obtain⟨g,h,j⟩:=rng c hx
  rw[drop_cons c,bi]at a;simp only[g,h,c,getD_map,aH,Q,O,RN,r,B,J];refine ak (ZV _ _ _) ?_;cases f:inR (x.ns.getD i default) 0 9999
  ·rw[f,W]at a
   simp only[a,RN,r]
  ·rw[f,Y]at a
   simp only[j,RN,r];exact aX () c rfl a
 ·rw[Z,bs]at a
  simp only[X,O,a,RN,r,B,J]
def Uk (d:Nat):ByteArray:=⟨#[UInt8.ofNat (48+d)]⟩
def Ht:Nat->Nat->ByteArray->ByteArray
 |0,_,s=>s
 |k+1,n,s=>if 10<=n then Ht k (n / 10) (Uk (n / 10 % 10)++s)else s
def Yt:∀(k n:Nat) (s:ByteArray),n<=k->(Ht k n s).data.toList=(if 10<=n then decDigits (n / 10)else[])++s.data.toList
 |0,n,s,h=>by rw[Ht,if_neg (by omega),bu]
 |k+1,n,s,h=>by
  rw[Ht]
  by_cases h1:10<=n
  ·have hd:(Uk (n / 10 % 10)).data.toList=[UInt8.ofNat (48+n / 10 % 10)]:=rfl
   rw[if_pos h1,if_pos h1,Yt k (n / 10) _ (by omega),tV,hd]
   by_cases h2:10<=n / 10
   ·rw[if_pos h2,agR (show¬n / 10<10 by omega)];simp
   ·rw[if_neg h2,aeJ (show n / 10<10 by omega),cb (show n / 10<10 by omega)];simp
  ·rw[if_neg h1,if_neg h1,bu]
def ajQ (n:Nat):Ht n n (Uk (n % 10))=eu n:=by
 refine ML ?_;rw[Nk,Yt n n _ (ai _)];have hd:(Uk (n % 10)).data.toList=[UInt8.ofNat (48+n % 10)]:=rfl;rw[hd]
 by_cases h:10<=n
 ·rw[if_pos h,agR (show¬n<10 by omega)]
 ·rw[if_neg h,aeJ (show n<10 by omega),cb (show n<10 by omega)];rfl
def UZ {d:Nat}(h:d<10):bytesOf [.int .u8 ((48+d:Nat):Int)]=some [UInt8.ofNat (48+d)]:=by
 exact(by decide:∀d<10,bytesOf [.int .u8 ((48+d:Nat):Int)]=some [UInt8.ofNat (48+d)]) d h
def ajk {n:Nat}:IntKind.u8.wrap (cw .i64 (48+((n % 10:Nat):Int)))=((48+n % 10:Nat):Int):=by
 have h:n % 10<10:=bR _ (by decide);generalize n % 10=d at h;exact(by decide:∀d<10,IntKind.u8.wrap (cw .i64 (48+((d:Nat):Int)))=((48+d:Nat):Int)) d h
def acn (n:Nat)(o:n<=4611686018427387904):Pure C 217 [dI n] (.d (.str (eu n))) []:=by
 have t1:∀m:Nat,(m:Int).tmod 10=((m % 10:Nat):Int):=fun m=>(ck m 10).symm
 have t2:∀m:Nat,(m:Int).tdiv 10=((m / 10:Nat):Int):=fun m=>(bw m 10).symm
 have z:(10:Int)≠0:=by decide
 refine ah FQ aN ?_;rw[<-ajQ];simp only[FQ,aN,t1,z,ajk,fD,DV.strip,jH,RN,r];refine ag3 (UZ (bR _ (by decide))) ?_;refine iE (fun(q:Nat×Nat×ByteArray)=>⟨[(0,pI q.2.1),(3, .d (.str q.2.2))],⟨[],[],[]⟩⟩)
  (fun q=>Ht n n (Uk (n % 10))=Ht q.1 q.2.1 q.2.2/\q.2.1<=q.1/\q.2.2.size+q.1<=n+1) (fun q=>q.1) (n,n,Uk (n % 10)) rfl ⟨rfl,ai _,by simp[Uk,ByteArray.size];omega⟩ (fun q g=> ?_)
 obtain⟨k,m,t⟩:=q;obtain⟨b,i,j⟩:=g;simp only at b i j
 by_cases c:10<=m
 ·obtain⟨k,rfl⟩:∃h,k=h+1:=⟨k - 1,by omega⟩
  rw[Ht,if_pos c]at b;have b1:(m:Int)>=10:=by omega
  have l:cw .i64 ((m / 10:Nat):Int)=((m / 10:Nat):Int):=aB (by omega);simp only[b1,t1,t2,l,z,ajk,fD,DV.strip,jH,RN,r];refine ag3 (UZ (bR _ (by decide))) ?_;have hd:(⟨[UInt8.ofNat (48+m / 10 % 10)].toArray⟩:ByteArray)=Uk (m / 10 % 10):=rfl;have e:(Uk (m / 10 % 10)).size=1:=rfl;rw[hd];simp only[dM,lH];refine⟨by omega,?_⟩;exact MC (a:=(k+1,m,t)) (μ:=fun q=>q.1) (k,m / 10,Uk (m / 10 % 10)++t) (ca _) rfl ⟨b,by simp only;omega,by simp only[aE];omega⟩ (by simp) (by simp) rfl rfl
 ·have b1:¬(m:Int)>=10:=by omega
  have f:Ht k m t=t:=by cases k with
   |zero=>rfl
   |succ k=>rw[Ht,if_neg c]
  simp only[b1,RN,r];rw[b,f]
def DF {n:Int}(h:0<=n/\n<=4611686018427387904):Pure C 217 [dI n] (.d (.str (eu n))) []:=by
 obtain⟨m,rfl⟩:=Int.eq_ofNat_of_zero_le h.1;exact acn m (by omega)
def MG (out:ByteArray):List Int->ByteArray
 | []=>out
 |n::l=>MG (out++⟨#[32]⟩++eu n) l
def UG:∀(ns:List Int) (out:ByteArray),(MG out ns).data.toList=out.data.toList++(ns.map fun n=>32::(eu n).data.toList).flatten
 | [],out=>by simp[MG]
 |n::ns,out=>by
  rw[MG,UG ns,tV,tV];simp
def itoa_neg {n:Int}(h:n<0)(s:ByteArray):s++⟨#[32,45]⟩++eu (0 - n)=s++⟨#[32]⟩++eu n:=by
 refine ML ?_;have a:(eu n).data.toList=45::decDigits n.natAbs:=by rw[eu,itoa,if_pos h]
 have b:(eu (0 - n)).data.toList=decDigits n.natAbs:=by
  have:0 - n=((n.natAbs:Nat):Int):=by omega
  rw[this,Nk]
 simp only[tV,a,b,aL]
 rfl
def aiR (l:List Int)(hl:l.length<=1000)(hb:∀n∈l, -4611686018427387904<=n/\n<=4611686018427387904):Pure C 128 [sF (l.map au)] (.d (.str (MG ⟨#[]⟩ l))) []:=by
 refine ah Lc aN ?_;simp only[Lc,aN,RN,r];refine aG l.length (fun i (out:ByteArray)=>⟨[(0, .d (sF (l.map au))),(3, .d (.str out)),(4,pI i)],⟨[],[],[]⟩⟩)
  (fun i out=>MG ⟨#[]⟩ l=MG out (l.drop i)/\out.size<=30*i) 0 ⟨#[]⟩ (V _) rfl ⟨rfl,ai _⟩ (fun i out a b=> ?_) (fun out b=> ?_)
 ·obtain⟨r1,r2⟩:=b
  obtain⟨f,g,h⟩:=rng a (by omega);rw[drop_cons a,MG]at r1;have m:=hb _ (getD_mem a);have j:(⟨#[32]⟩:ByteArray).size=1:=rfl;have k:(⟨#[32,45]⟩:ByteArray).size=2:=rfl;obtain⟨n,c⟩:∃n,n=l.getD i default:=⟨_,rfl⟩
  rw[<-c]at r1 m;have q:=wG (n:=n) ⟨by omega,by omega⟩;have s:=wG (n:=0 - n) ⟨by omega,by omega⟩;have p:out.size+1+(eu n).size<=30*(i+1):=by omega
  by_cases e:n<0
  ·have o:cw .i64 (0 - n)=0 - n:=aB (by omega)
   simp only[O,f,g,a,Q,getD_map,aH,<-c,e,dM,lH,o,RN,r,J];refine⟨by omega,?_⟩;refine eG rfl rfl (DF ⟨by omega,by omega⟩) ?_;simp only[dM,lH,h,itoa_neg e];refine⟨by rw[aE];omega,?_⟩;exact dD (out++⟨#[32]⟩++eu n) a rfl ⟨r1,by simp only[aE];omega⟩ (by simp) (by simp) rfl rfl
  ·simp only[O,f,g,a,Q,getD_map,aH,<-c,e,dM,lH,RN,r,J]
   refine⟨by omega,?_⟩;refine eG rfl rfl (DF ⟨by omega,by omega⟩) ?_;simp only[dM,lH,h];refine⟨by rw[aE];omega,?_⟩;exact dD (out++⟨#[32]⟩++eu n) a rfl ⟨r1,by simp only[aE];omega⟩ (by simp) (by simp) rfl rfl
 ·obtain⟨r1,r2⟩:=b
  rw[Z,MG]at r1;simp only[X,O,RN,r];rw[r1]
def alo {k:Int}(hk:1<=k/\k<=6):Pure C 127 [dI k] (.d (.str (fwE k))) []:=by
 refine ah O8 aN ?_;simp only[O8,aN,RN,r];refine Di rfl rfl rfl ?_
 rcases MV hk with rfl|rfl|rfl|rfl|rfl|rfl
 all_goals((try simp only[RN,B]);exact⟨by decide,by decide,rfl,ai 1,rfl⟩)
def OT:aA:=(s0 [ba 2 0 0,mi 4 0] 1 [1,2] [2] (sw (sr [lw 5 2 2,mv 6 1,ob 7 (.aj 106) 5 6] 0 [7] (cd 7 (sr [mi 4 366] 0 [4] .ret) .skip)) (sr [mi 4 365] 0 [4] .ret)))
def Ei:aA:=(s0 [ba 1 0 0,mf 2 false] 1 [1] [1] (sw (sr [mi 3 0] 0 [1,3] (lp (sw (sr [mv 4 3,fa 5 1 1,lo 6 5,oa 7 .len 6,ob 8 pL 4 7] 0 [1,3,8] (cx 8 0)) (sw (b1 (sw (r1 [fu 11 1 1 1,lv 12 11,mv 13 3,ob1 14 (.aS 1) 12 13 1,lv 15 14,on 16 (.aj 105) [.t 15,kI 2,kI 1000],oa 17 pN 16,mv 18 17,ow 19 .mov 3 18 0,oF 20 pG [.t 19,kI 0] 18 0,ow 21 .mov 20 18 0,ov 22 (.fld 1) 1 21 1,ov 23 ld 22 21 1,ov 24 .mov 3 21 0,obT 25 (.aS 1) 23 24 21 1,ov 26 ld 25 21 1,ov 27 (.fld 1) 1 21 1,ov 28 ld 27 21 1,ov 29 .mov 3 21 0,ot 30 pU [.t 29,kI 1] 21 0,obT 31 (.aS 1) 28 30 21 1,ov 32 ld 31 21 1,obT 33 (.bin .leq) 26 32 21 0,oF 34 .pick [.t 21,.t 33,.c (.bool false)] 18 0,pt 35 18 34] 0 [1,3,35] []) (cd 35 (sr [mf 2 false] 0 [2] .ret) .skip))) (rg [mv 9 3,oi 10 pA 9 1,mv 3 10] 0 [1,3]))))) (sr [fa 36 0 1,lo 37 36,on 38 (.aj 105) [.t 37,kI 0,kI 1000],mv 39 38,ov 40 (.fld 1) 1 39 0,ov 41 ld 40 39 0,ov 42 .len 41 39 0,ot 43 (.aj 105) [.t 42,kI 1,kI 3] 39 0,pf 44 39 43,mv 2 44] 0 [2] .ret)))
def OU:aA:=(s0 [ba 1 0 0,mf 2 false] 1 [1] [1] (sr [fa 3 1 1,lo 4 3,on 5 (.aj 105) [.t 4,kI 1,kI 1000],mv 6 5,ov 7 (.fld 0) 1 6 0,ov 8 ld 7 6 0,ov 9 (.fld 1) 1 6 0,ov 10 ld 9 6 0,ot 11 pM [kI 29,.t 10] 6 0,ov 12 (.fld 1) 1 6 0,ov 13 ld 12 6 0,ot 14 pM [kI 30,.t 13] 6 0,ot 15 (.aj 105) [.t 8,.t 11,.t 14] 6 0,pf 16 6 15,mv 17 16,ov 18 (.fld 2) 1 17 0,ov 19 ld 18 17 0,ov 20 (.fld 0) 1 17 0,ov 21 ld 20 17 0,ot 22 pU [.t 21,kI 1] 17 0,ot 23 (.aj 105) [.t 19,kI 0,.t 22] 17 0,pf 24 17 23,mv 2 24] 0 [2] .ret))
def Ic:aA:=(sr [mf 2 false] 0 [0] (sw (sr [mi 3 0] 0 [0,3] (lp (sw (sr [mv 4 3,mv 5 0,oa 6 .len 5,ob 7 pL 4 6] 0 [0,3,7] (cx 7 0)) (sw (b1 (sr [mv 10 0,mv 11 3,ix 12 4 10 11,lw 13 4 12,oa 14 (.aj 156) 13,oa 15 pN 14] 0 [0,3,15] (cd 15 (sr [mf 2 false] 0 [2] .ret) .skip))) (rg [mv 8 3,oi 9 pA 8 1,mv 3 9] 0 [0,3]))))) (sr [mv 16 0,oa 17 .len 16,oi 18 (.bin .leq) 17 6,mv 2 18] 0 [2] .ret)))
def OW:aA:=(sr [mf 2 false] 0 [0] (sr [mv 3 0,on 4 (.aj 105) [.t 3,kI 0,kI 4000],mv 2 4] 0 [2] .ret))
def OQ:aA:=(s0 [ba 2 0 0,mf 4 false] 1 [1,2] [2] (sr [mi 5 0] 0 [1,2,5] (sw (sr [mi 6 0] 0 [1,2,5,6] (lp (sw (sr [mv 7 6,fa 8 1 2,lo 9 8,oa 10 .len 9,ob 11 pL 7 10] 0 [1,2,5,6,11] (cx 11 0)) (sw (b1 (sr [mv 14 1,fa 15 1 2,lo 16 15,mv 17 6,ix 18 1 16 17,lo 19 18,ob 20 (.bin .rem) 14 19,oi 21 pE 20 0] 0 [1,2,5,6,21] (cd 21 (rg [mv 22 5,oi 23 pA 22 1,mv 5 23] 0 [1,2,5,6]) .skip))) (rg [mv 12 6,oi 13 pA 12 1,mv 6 13] 0 [1,2,5,6]))))) (sr [mv 24 5,oi 25 (.bin .rem) 24 2,oi 26 pE 25 1,mv 4 26] 0 [4] .ret))))
def OM:aA:=(s0 [ba 2 0 0,al 4 1 [z0,z0,z0],mf 5 false] 2 [1,2,4] [2] (sr [mv 11 1,fa 12 0 2,lo 13 12,ob 14 pU 11 13,mv 6 14] 0 [2,4,6] (sw (sr [mv 15 6,oi 16 pL 15 0] 0 [2,4,6,16] (cd 16 (sr [on 17 (.build [z0,z0,z0] []) [],sk 3 4 17 0,mf 5 false] 0 [4,5] .ret) .skip)) (sw (sr [mi 7 0] 0 [2,4,6,7] (lp (sw (sr [mv 18 7,oi 19 (.bin .leq) 18 4000] 0 [2,4,6,7,19] (cx 19 0)) (sw (b1 (sw (sr [lw 22 2 2,mv 23 7,ob 24 (.aj 35) 22 23,mv 8 24] 0 [2,4,6,7,8] (sr [mv 25 6,mv 26 8,ob 27 (.bin .geq) 25 26] 0 [2,4,6,7,8,27] (cd 27 (sr [mv 28 6,mv 29 8,ob 30 pU 28 29,mv 6 30] 0 [2,4,6,7] (.exit 1)) .skip))) (sr [mi 9 1] 0 [2,4,6,7,9] (.block 2 (.loop (sw (sr [mv 31 9,oi 32 (.bin .leq) 31 12] 0 [2,4,6,7,9,32] (cx 32 2)) (sw (.block 3 (sr [mv 35 9,lw 36 2 2,mv 37 7,ob 38 (.aj 106) 36 37,ob 39 (.aj 233) 35 38,mv 10 39] 0 [2,4,6,7,9,10] (sw (sr [mv 40 6,mv 41 10,ob 42 pL 40 41] 0 [2,4,6,7,9,10,42] (cd 42 (sr [mv 43 7,mv 44 9,mv 45 6,oi 46 pA 45 1,on 47 (.build [z0,z0,z0] [(0,1),(1,1),(2,1)]) [.t 43,.t 44,.t 46],sk 3 4 47 0,mf 5 true] 0 [4,5] .ret) .skip)) (rg [mv 48 6,mv 49 10,ob 50 pU 48 49,mv 6 50] 0 [2,4,6,7,9])))) (rg [mv 33 9,oi 34 pA 33 1,mv 9 34] 0 [2,4,6,7,9])))))))) (rg [mv 20 7,oi 21 pA 20 1,mv 7 21] 0 [2,4,6,7]))))) (sr [on 51 (.build [z0,z0,z0] []) [],sk 3 4 51 0,mf 5 false] 0 [4,5] .ret)))))
def KD:aA:=(s0 [ba 2 0 0,mi 4 0] 1 [1,2] [2] (sr [fa 7 0 2,lo 8 7,mv 9 1,on 10 pM [kI 365,.t 9],ob 11 pA 8 10,mv 5 11] 0 [1,2,5] (sw (sr [mi 6 0] 0 [1,2,5,6] (lp (sw (sr [mv 12 6,mv 13 1,ob 14 pL 12 13] 0 [1,2,5,6,14] (cx 14 0)) (sw (b1 (sr [lw 17 2 2,mv 18 6,ob 19 (.aj 106) 17 18] 0 [1,2,5,6,19] (cd 19 (rg [mv 20 5,oi 21 pA 20 1,mv 5 21] 0 [1,2,5,6]) .skip))) (rg [mv 15 6,oi 16 pA 15 1,mv 6 16] 0 [1,2,5,6]))))) (sr [mv 22 5,mv 4 22] 0 [4] .ret))))
def KC:aA:=(s0 [ba 1 0 0,mf 2 false] 1 [1] [1] (sw (sr [fa 3 0 1,lo 4 3] 0 [1,4] (cd 4 (sr [fa 5 1 1,lo 6 5,oi 7 pE 6 0,mv 8 7,ov 9 (.fld 2) 1 8 0,ov 10 ld 9 8 0,ot 11 pE [.t 10,kI 0] 8 0,pf 12 8 11,mv 13 12,ov 14 (.fld 3) 1 13 0,ov 15 ld 14 13 0,ot 16 (.aj 105) [.t 15,kI (-60),kI 60] 13 0,pf 17 13 16,mv 2 17] 0 [2] .ret) .skip)) (sr [fa 18 1 1,lo 19 18,on 20 (.aj 105) [.t 19,kI 1,kI 12],mv 21 20,ov 22 (.fld 2) 1 21 0,ov 23 ld 22 21 0,ot 24 (.aj 105) [.t 23,kI 1,kI 31] 21 0,pf 25 21 24,mv 26 25,ov 27 (.fld 3) 1 26 0,ov 28 ld 27 26 0,ot 29 pE [.t 28,kI 0] 26 0,pf 30 26 29,mv 2 30] 0 [2] .ret)))
def BG:aA:=(s0 [ba 4 0 0,ba 5 1 1,ag 8 1] 2 [2,3,4,5] [4,5] (sr [ag 9 1] 0 [2,3,4,5,9] (sw (sr [mi 10 0] 0 [2,3,4,5,9,10] (lp (sw (sr [mv 11 10,mv 12 2,oa 13 .len 12,ob 14 pL 11 13] 0 [2,3,4,5,9,10,14] (cx 14 0)) (sw (b1 (r1 [mv 17 9,ou 18 (.load true 2) 4 1,ou 19 (.load true 3) 5 1,mv 20 2,mv 21 10,ob1 22 (.aS 4) 20 21 1,ou 23 (.load true 4) 22 1,mv 24 3,on 25 (.aj 286) [.t 18,.t 19,.t 23,.t 24],ou 26 (.dV 1 [z0] [0]) 25 1,ob 27 (.app 1 false) 17 26,mv 9 27] 0 [2,3,4,5,9,10] [])) (rg [mv 15 10,oi 16 pA 15 1,mv 10 16] 0 [2,3,4,5,9,10]))))) (sr [mv 28 9,mv 8 28] 0 [8] .ret))))
def Ie:aA:=(sr [mi 4 0] 0 [0,1] (sw (sr [mv 5 0,oi 6 pE 5 2,mv 7 6,ov 8 .mov 1 7 0,pf 9 7 8] 0 [0,9] (cd 9 (sr [mi 4 29] 0 [4] .ret) .skip)) (sr [on 10 (.dV 1 [z0,z0,z0,z0,z0,z0,z0,z0,z0,z0,z0,z0] [0,1,2,3,4,5,6,7,8,9,10,11]) [kI 31,kI 28,kI 31,kI 30,kI 31,kI 30,kI 31,kI 31,kI 30,kI 31,kI 30,kI 31],mv 11 0,oi 12 pU 11 1,ix 13 1 10 12,lo 14 13,mv 4 14] 0 [4] .ret)))
def Ej:aA:=(s0 [ba 4 0 0,ba 5 1 1,ba 6 2 2,mi 8 0] 3 [3,4,5,6] [4,5,6] (sw (sr [fa 10 0 6,lo 11 10] 0 [3,4,5,6,11] (cd 11 (sw (r1 [ou 12 (.load true 2) 4 1,ou 13 (.load true 3) 5 1,mv 14 3,on 15 (.aj 309) [.t 12,.t 13,.t 14],fu 16 3 6 1,lv 17 16,ob 18 pA 15 17,mv 8 18] 0 [8] []) .ret) .skip)) (s0 [mv 19 3,fa 20 1 6,lo 21 20,fa 22 2 6,lo 23 22,on 24 (.build [z0,z0,z0] [(0,1),(1,1),(2,1)]) [.t 19,.t 21,.t 23],al 9 0 [z0,z0,z0],sk 3 9 24 0] 1 [4,9] [9] (sw (sr [lw 25 2 4,lw 26 3 9,ob 27 (.aj 310) 25 26,oa 28 pN 27] 0 [4,9,28] (cd 28 (sr [mi 8 (-1)] 0 [8] .ret) .skip)) (sr [lw 29 2 4,lw 30 3 9,ob 31 (.aj 311) 29 30,mv 8 31] 0 [8] .ret)))))
def BF:aA:=(s0 [ba 3 0 0,ba 4 1 1,mi 6 0] 2 [2,3,4] [3,4] (sr [lw 8 2 3,mv 9 2,on 10 (.build [z0,z0,z0] [(0,1),(1,1),(2,1)]) [.t 9,kI 3,kI 21],ob 11 (.aj 311) 8 10,mv 7 11] 0 [4,7] (sw (lp (sw (sr [lw 12 3 4,mv 13 7,ob 14 (.aj 335) 12 13,oi 15 pQ 14 13] 0 [4,7,15] (cx 15 0)) (b1 (rg [mv 16 7,oi 17 pA 16 1,mv 7 17] 0 [4,7])))) (sr [mv 18 7,oi 19 pA 18 1,mv 7 19] 0 [7] (sw (.block 2 (.loop (sw (sr [mv 20 7,oa 21 (.aj 33) 20,oi 22 pQ 21 0] 0 [7,22] (cx 22 2)) (.block 3 (rg [mv 23 7,oi 24 pA 23 1,mv 7 24] 0 [7]))))) (sr [mv 25 7,mv 6 25] 0 [6] .ret))))))
def OV:aA:=(s0 [ba 2 0 0,ba 3 1 1,mf 4 false] 2 [2,3] [2,3] (sw (r1 [ou 5 (.load true 3) 3 1,oa 6 (.aj 336) 5,mv 7 6,ov 8 (.fld 2) 3 7 1,ov 9 ld 8 7 1,ov 10 (.fld 1) 3 7 1,ov 11 ld 10 7 1,ov 12 (.load true 2) 2 7 1,ov 13 (.fld 0) 3 7 1,ov 14 ld 13 7 1,obT 15 (.aj 106) 12 14 7 0,obT 16 (.aj 233) 11 15 7 0,obT 17 (.bin .leq) 9 16 7 0,pf 18 7 17,mv 4 18] 0 [4] []) .ret))
def RX:aA:=(s0 [ba 2 0 0,ba 3 1 1,mi 4 0] 2 [2,3] [2,3] (sw (r1 [ou 5 (.load true 2) 2 1,fu 6 0 3 1,lv 7 6,ob 8 (.aj 144) 5 7,ou 9 (.load true 2) 2 1,ou 10 (.load true 3) 3 1,ob 11 (.aj 337) 9 10,ob 12 pA 8 11,mv 4 12] 0 [4] []) .ret))
def RV:aA:=(s0 [ba 2 0 0,mi 4 0] 1 [1,2] [2] (sr [mi 5 0] 0 [1,2,5] (sw (lp (sw (sr [lw 6 3 2,mv 7 1,mv 8 5,ob 9 pU 7 8,ob 10 (.aj 352) 6 9,oa 11 pN 10] 0 [1,2,5,11] (cx 11 0)) (b1 (rg [mv 12 5,oi 13 pA 12 1,mv 5 13] 0 [1,2,5])))) (sr [mv 14 5,mv 4 14] 0 [4] .ret))))
def FK:aA:=(s0 [ba 1 0 0,mf 2 false] 1 [1] [1] (sr [fa 3 0 1,lo 4 3,oa 5 (.aj 65) 4,mv 6 5,ov 7 (.fld 1) 1 6 0,ov 8 ld 7 6 0,ot 9 (.aj 105) [.t 8,kI 1,kI 12] 6 0,pf 10 6 9,mv 11 10,ov 12 (.fld 2) 1 11 0,ov 13 ld 12 11 0,ot 14 (.aj 105) [.t 13,kI 1,kI 31] 11 0,pf 15 11 14,mv 2 15] 0 [2] .ret))
def OO:aA:=(s0 [ba 2 0 0,ba 3 1 1,mi 4 0] 2 [2,3] [2,3] (sr [fa 7 2 3,lo 8 7,oi 9 pU 8 1,mv 5 9] 0 [2,3,5] (sw (sr [mi 6 1] 0 [2,3,5,6] (lp (sw (sr [mv 10 6,fa 11 1 3,lo 12 11,ob 13 pL 10 12] 0 [2,3,5,6,13] (cx 13 0)) (sw (b1 (rg [mv 16 5,mv 17 6,lw 18 2 2,fa 19 0 3,lo 20 19,ob 21 (.aj 106) 18 20,ob 22 (.aj 233) 17 21,ob 23 pA 16 22,mv 5 23] 0 [2,3,5,6])) (rg [mv 14 6,oi 15 pA 14 1,mv 6 15] 0 [2,3,5,6]))))) (sr [mv 24 5,mv 4 24] 0 [4] .ret))))
def RY:aA:=(s0 [ba 2 0 0,mf 4 false] 1 [1,2] [2] (sr [mv 6 1,fa 7 1 2,lo 8 7,ob 9 pM 6 8,fa 10 2 2,lo 11 10,ob 12 pU 9 11,fa 13 0 2,lo 14 13,ob 15 (.aj 357) 12 14,mv 5 15] 0 [1,2,5] (sw (lp (sw (sr [mv 16 5,fa 17 0 2,lo 18 17,ob 19 pM 16 18,fa 20 2 2,lo 21 20,ob 22 pA 19 21,fa 23 1 2,lo 24 23,ob 25 (.aj 357) 22 24,mv 26 1,ob 27 pL 25 26] 0 [1,2,5,27] (cx 27 0)) (b1 (rg [mv 28 5,oi 29 pA 28 1,mv 5 29] 0 [1,2,5])))) (sr [mv 30 5,fa 31 0 2,lo 32 31,ob 33 pM 30 32,fa 34 2 2,lo 35 34,ob 36 pA 33 35,fa 37 1 2,lo 38 37,ob 39 (.aj 357) 36 38,mv 40 1,ob 41 pE 39 40,mv 4 41] 0 [4] .ret))))
def KF:aA:=(s0 [ba 1 0 0,mf 2 false] 1 [1] [1] (sw (sr [fa 5 0 1,lo 6 5,oa 7 .len 6,on 8 (.aj 150) [.t 7,kI 1,kI 5],oa 9 pN 8,mv 10 9,ow 11 (.fld 1) 1 10 0,lq 12 11 10,ow 13 .len 12 10 0,oF 14 (.aj 150) [.t 13,kI 1,kI 4] 10 0,ow 15 pN 14 10 0,pt 16 10 15] 0 [1,16] (cd 16 (sr [mf 2 false] 0 [2] .ret) .skip)) (sw (sr [mi 3 0] 0 [1,3] (lp (sw (sr [mv 17 3,fa 18 0 1,lo 19 18,oa 20 .len 19,ob 21 pL 17 20] 0 [1,3,21] (cx 21 0)) (sw (b1 (sr [fa 24 0 1,lo 25 24,mv 26 3,ix 27 3 25 26,fa 28 0 27,lo 29 28,mv 30 3,on 31 (.aj 150) [.t 29,kI 0,.t 30],oa 32 pN 31,mv 33 32,ow 34 (.fld 0) 1 33 0,lq 35 34 33,ow 36 .mov 3 33 0,obF 37 (.aS 3) 35 36 33 0,ow 38 (.fld 1) 37 33 0,ow 39 (.load true 2) 38 33 0,ow 40 (.aj 151) 39 33 0,ow 41 pN 40 33 0,pt 42 33 41,mv 43 42,ow 44 (.load true 2) 1 43 0,ow 45 .mov 3 43 0,oF 46 pA [.t 45,kI 1] 43 0,obF 47 (.aj 152) 44 46 43 0,ow 48 .len 47 43 0,oF 49 pG [.t 48,kI 3] 43 0,pt 50 43 49] 0 [1,3,50] (cd 50 (sr [mf 2 false] 0 [2] .ret) .skip))) (rg [mv 22 3,oi 23 pA 22 1,mv 3 23] 0 [1,3]))))) (sw (sr [mi 4 0] 0 [1,4] (.block 2 (.loop (sw (sr [mv 51 4,fa 52 1 1,lo 53 52,oa 54 .len 53,ob 55 pL 51 54] 0 [1,4,55] (cx 55 2)) (sw (.block 3 (sw (r1 [ou 58 (.load true 2) 1 1,fu 59 1 1 1,lv 60 59,mv 61 4,ob1 62 (.aS 1) 60 61 1,lv 63 62,ob 64 (.aj 153) 58 63,oa 65 pN 64] 0 [1,4,65] []) (cd 65 (sr [mf 2 false] 0 [2] .ret) .skip))) (rg [mv 56 4,oi 57 pA 56 1,mv 4 57] 0 [1,4])))))) (sr [mf 2 true] 0 [2] .ret)))))
def OX:aA:=(s0 [ba 1 0 0,mf 2 false] 1 [1] [1] (sw (sr [mi 3 0] 0 [1,3] (lp (sw (sr [mv 4 3,fa 5 0 1,lo 6 5,oa 7 .len 6,ob 8 pL 4 7] 0 [1,3,8] (cx 8 0)) (sw (b1 (sr [fa 11 0 1,lo 12 11,mv 13 3,ix 14 1 12 13,lo 15 14,oa 16 (.aj 157) 15,oa 17 pN 16] 0 [1,3,17] (cd 17 (sr [mf 2 false] 0 [2] .ret) .skip))) (rg [mv 9 3,oi 10 pA 9 1,mv 3 10] 0 [1,3]))))) (sr [fa 18 0 1,lo 19 18,oa 20 .len 19,oi 21 (.bin .leq) 20 8,mv 22 21,ov 23 (.fld 1) 1 22 0,ov 24 ld 23 22 0,ot 25 (.aj 150) [.t 24,kI 0,kI 1000] 22 0,pf 26 22 25,mv 27 26,ov 28 (.fld 2) 1 27 0,ov 29 ld 28 27 0,ot 30 (.aj 150) [.t 29,kI 0,kI 40] 27 0,pf 31 27 30,mv 32 31,ov 33 (.fld 3) 1 32 0,ov 34 ld 33 32 0,ot 35 (.aj 150) [.t 34,kI 0,kI 100] 32 0,pf 36 32 35,mv 37 36,ov 38 (.fld 4) 1 37 0,ov 39 ld 38 37 0,ot 40 (.aj 150) [.t 39,kI 0,kI 100] 37 0,pf 41 37 40,mv 42 41,ov 43 (.fld 5) 1 42 0,ov 44 ld 43 42 0,ot 45 (.aj 150) [.t 44,kI 0,kI 1000000] 42 0,pf 46 42 45,mv 2 46] 0 [2] .ret)))
def FM:aA:=(s0 [ba 2 0 0,ba 3 1 1,al 4 2 [zs,zs]] 3 [2,3,4] [2,3] (sr [lw 6 2 2,al 5 0 [zs,zs],sk 2 5 6 0] 1 [2,3,4,5] (sr [fa 7 0 2,lo 8 7,on 9 (.app 3 true) [cS,.t 8],fa 10 0 5,sk 1 10 9 0] 0 [3,4,5] (sr [fa 11 0 5,lo 12 11,fa 13 0 3,lo 14 13,fa 15 1 3,lw 16 2 15,ix 17 3 12 14,fa 18 1 17,sk 2 18 16 0] 0 [4,5] (sr [lw 19 2 5,sk 2 4 19 0] 0 [4] .ret)))))
def OY:aA:=(s0 [ba 1 0 0,mf 2 false] 1 [1] [1] (sr [fa 3 0 1,lo 4 3,oa 5 (.aj 157) 4,mv 6 5,ov 7 (.fld 1) 1 6 0,ov 8 ld 7 6 0,ov 9 (.aj 157) 8 6 0,pf 10 6 9,mv 2 10] 0 [2] .ret))
def Dw:aA:=(s0 [ba 2 0 0,ag 4 2] 1 [1,2] [2] (sw (sr [mv 6 1,oi 7 pE 6 0] 0 [1,2,7] (cd 7 (sr [ag 4 2] 0 [4] .ret) .skip)) (s0 [fa 8 0 2,lo 9 8,mv 10 1,oi 11 pU 10 1,ix 12 3 9 11,lw 13 3 12,al 5 0 [z0,z0,z0],sk 3 5 13 0] 1 [2,5] [5] (sw (r1 [ou 14 (.load true 2) 2 1,fu 15 0 5 1,lv 16 15,ob 17 (.aj 152) 14 16,on 18 (.app 2 false) [cS,.t 17],fu 19 1 5 1,ou 20 (.load true 2) 19 1,ou 21 (.dV 2 [.agg [z0,z0]] [0]) 20 1,ob 22 (.app 2 false) 18 21,mv 4 22] 0 [4] []) .ret))))
def KE:aA:=(s0 [ba 2 0 0,mf 4 false] 1 [1,2] [2] (sr [mv 5 1,fa 6 0 2,lo 7 6,oa 8 .len 7,on 9 (.aj 150) [.t 5,kI 1,.t 8],mv 4 9] 0 [4] .ret))
def Ih:aA:=(s0 [ba 2 0 0,ba 3 1 1,ag 4 1] 2 [2,3] [2,3] (sr [ag 5 1] 0 [2,3,5] (s0 [lw 8 2 2,lw 9 3 3,ob 10 (.aj 88) 8 9,al 6 0 [zs,zs],sk 2 6 10 0] 1 [2,5,6] [6] (sw (sr [mi 7 0] 0 [2,5,6,7] (lp (sw (sr [mv 11 7,fa 12 1 2,lo 13 12,oa 14 .len 13,ob 15 pL 11 14] 0 [2,5,6,7,15] (cx 15 0)) (sw (b1 (sw (r1 [ou 18 (.load true 2) 2 1,fu 19 1 2 1,lv 20 19,mv 21 7,ob1 22 (.aS 1) 20 21 1,lv 23 22,ob 24 (.aj 235) 18 23,ou 25 (.load true 2) 6 1,fu 26 1 2 1,lv 27 26,mv 28 7,ob1 29 (.aS 1) 27 28 1,lv 30 29,ob 31 (.aj 235) 25 30,ob 32 (.AL true [1,1]) 24 31] 0 [2,5,6,7,32] []) (cd 32 (rg [mv 33 5,mv 34 7,oa 35 (.dV 1 [z0] [0]) 34,ob 36 (.app 1 false) 33 35,mv 5 36] 0 [2,5,6,7]) .skip))) (rg [mv 16 7,oi 17 pA 16 1,mv 7 17] 0 [2,5,6,7]))))) (sr [mv 37 5,mv 4 37] 0 [4] .ret)))))
def KG:aA:=(s0 [ba 1 0 0,mi 2 0] 1 [1] [1] (sr [mi 3 0] 0 [1,3] (sw (sr [mi 4 0] 0 [1,3,4] (lp (sw (sr [mv 6 4,fa 7 0 1,lo 8 7,oa 9 .len 8,ob 10 pL 6 9] 0 [1,3,4,10] (cx 10 0)) (sw (b1 (r1 [mv 13 3,fu 14 0 1 1,lv 15 14,mv 16 4,ob1 17 (.aS 1) 15 16 1,lv 18 17,fu 19 0 1 1,lv 20 19,mv 21 4,ob1 22 (.aS 1) 20 21 1,lv 23 22,ob 24 pM 18 23,ob 25 pA 13 24,mv 3 25] 0 [1,3,4] [])) (rg [mv 11 4,oi 12 pA 11 1,mv 4 12] 0 [1,3,4]))))) (sw (r1 [mv 26 3,fu 27 1 1 1,lv 28 27,ob 29 pM 26 28,oa 30 (.aj 283) 29,fu 31 2 1 1,lv 32 31,fu 33 3 1 1,lv 34 33,ob 35 pM 32 34,ob 36 pA 30 35,mv 5 36] 0 [1,5] []) (sr [mv 37 5,mv 38 5,fa 39 4 1,lo 40 39,ob 41 pM 38 40,oa 42 (.aj 283) 41,ob 43 pA 37 42,mv 2 43] 0 [2] .ret)))))
def KH:aA:=(sr [mf 4 false] 0 [0,1] (sr [mv 5 0,oa 6 (.aj 157) 5,mv 7 6,ov 8 .mov 1 7 0,ov 9 (.aj 157) 8 7 0,pf 10 7 9,mv 11 10,ov 12 .mov 0 11 0,ov 13 .mov 1 11 0,obT 14 (.bin .leq) 12 13 11 0,pf 15 11 14,mv 4 15] 0 [4] .ret))
def FN:aA:=(s0 [ba 5 0 0,ba 9 1 4,mk 10 cS,mf 11 false] 2 [1,2,3,5,9] [5,9] (sw (sr [lw 17 2 5,lw 18 2 5,mv 19 3,lw 20 2 9,on 21 (.aj 284) [.t 17,.t 18,.t 19,.t 20]] 0 [1,2,3,5,9,21] (cd 21 (sr [mk 10 cS,mf 11 true] 0 [10,11] .ret) .skip)) (sr [lw 22 2 5,mv 23 1,mv 24 2,on 25 (.aj 285) [.t 22,kI 0,.t 23,.t 24],mv 12 25] 0 [3,5,9,12] (sw (sr [mi 13 0] 0 [3,5,9,12,13] (lp (sw (sr [mv 26 13,mv 27 12,oa 28 .len 27,ob 29 pL 26 28] 0 [3,5,9,12,13,29] (cx 29 0)) (sw (b1 (sw (r1 [ou 32 (.load true 2) 5 1,ou 33 (.load true 2) 5 1,mv 34 12,mv 35 13,ob1 36 (.aS 3) 34 35 1,ou 37 (.load true 3) 36 1,ob 38 (.aj 88) 33 37,mv 39 3,ou 40 (.load true 2) 9 1,on 41 (.aj 284) [.t 32,.t 38,.t 39,.t 40]] 0 [3,5,9,12,13,41] []) (cd 41 (sr [mv 42 12,mv 43 13,ix 44 3 42 43,lw 45 3 44,oa 46 (.dV 3 [.agg [z0,z0,z0]] [0]) 45,mv 10 46,mf 11 true] 0 [10,11] .ret) .skip))) (rg [mv 30 13,oi 31 pA 30 1,mv 13 31] 0 [3,5,9,12,13]))))) (sw (sr [mi 14 0] 0 [3,5,9,12,14] (.block 2 (.loop (sw (sr [mv 47 14,mv 48 12,oa 49 .len 48,ob 50 pL 47 49] 0 [3,5,9,12,14,50] (cx 50 2)) (sw (.block 3 (sw (r1 [ou 53 (.load true 2) 5 1,mv 54 12,mv 55 14,ob1 56 (.aS 3) 54 55 1,ou 57 (.load true 3) 56 1,ob 58 (.aj 88) 53 57,al 15 0 [zs,zs],sk 2 15 58 4] 1 [3,5,9,12,14,15] [15]) (sr [mv 59 14,oi 60 pA 59 1,mv 16 60] 0 [3,5,9,12,14,15,16] (.block 4 (.loop (sw (sr [mv 61 16,mv 62 12,oa 63 .len 62,ob 64 pL 61 63] 0 [3,5,9,12,14,15,16,64] (cx 64 4)) (sw (.block 5 (sw (r1 [mv 67 12,mv 68 16,ob1 69 (.aS 3) 67 68 1,fu 70 0 69 1,lv 71 70,mv 72 12,mv 73 14,ob1 74 (.aS 3) 72 73 1,fu 75 0 74 1,lv 76 75,ob 77 pG 71 76,mv 78 77,ov 79 (.load true 2) 5 78 1,ov 80 (.load true 2) 15 78 1,ov 81 .mov 12 78 0,ov 82 .mov 16 78 0,obT 83 (.aS 3) 81 82 78 1,ov 84 (.load true 3) 83 78 1,obT 85 (.aj 88) 80 84 78 0,ov 86 .mov 3 78 0,ov 87 (.load true 2) 9 78 1,ot 88 (.aj 284) [.t 79,.t 85,.t 86,.t 87] 78 0,pf 89 78 88] 0 [3,5,9,12,14,15,16,89] []) (cd 89 (sw (r1 [mv 90 12,mv 91 14,ob1 92 (.aS 3) 90 91 1,ou 93 (.load true 3) 92 1,mv 94 12,mv 95 16,ob1 96 (.aS 3) 94 95 1,ou 97 (.load true 3) 96 1,ob1 98 (.dV 3 [.agg [z0,z0,z0],.agg [z0,z0,z0]] [0,1]) 93 97 1,mv 10 98,mf 11 true] 0 [10,11] []) .ret) .skip))) (rg [mv 65 16,oi 66 pA 65 1,mv 16 66] 0 [3,5,9,12,14,15,16])))))))) (rg [mv 51 14,oi 52 pA 51 1,mv 14 52] 0 [3,5,9,12,14])))))) (sr [mk 10 cS,mf 11 false] 0 [10,11] .ret))))))
def OZ:aA:=(s0 [ba 2 0 0,al 4 1 [z0,z0]] 2 [1,2,4] [2] (sr [lw 5 2 2,mv 6 1,ob 7 (.aj 152) 5 6,oa 8 (.aj 287) 7,sk 2 4 8 0] 0 [4] .ret))
def Vz:aA:=(sr [mi 2 0] 0 [0] (sr [mv 3 0,oi 4 pA 3 99,oi 5 (.bin .quo) 4 100,mv 2 5] 0 [2] .ret))
def KI:aA:=(s0 [ba 4 0 0,ba 5 1 1,ba 7 2 3,mf 8 false] 3 [2,4,5,7] [4,5,7] (sw (sw (r1 [ou 10 (.load true 2) 5 1,fu 11 1 4 1,lv 12 11,mv 13 2,ob1 14 (.aS 1) 12 13 1,lv 15 14,ob 16 (.aj 235) 10 15,ou 17 (.load true 2) 7 1,oa 18 (.aj 307) 17,ob 19 (.AL true [1,1]) 16 18] 0 [2,4,5,19] []) (cd 19 (sr [mf 8 false] 0 [8] .ret) .skip)) (sw (sr [mi 9 0] 0 [2,4,5,9] (lp (sw (sr [mv 20 9,fa 21 1 4,lo 22 21,oa 23 .len 22,ob 24 pL 20 23] 0 [2,4,5,9,24] (cx 24 0)) (sw (b1 (sw (r1 [mv 27 9,mv 28 2,ob 29 pQ 27 28,mv 30 29,ov 31 (.load true 2) 4 30 1,ov 32 (.fld 1) 4 30 1,ov 33 ld 32 30 1,ov 34 .mov 9 30 0,obT 35 (.aS 1) 33 34 30 1,ov 36 ld 35 30 1,obT 37 (.aj 235) 31 36 30 0,ov 38 (.load true 2) 5 30 1,ov 39 (.fld 1) 4 30 1,ov 40 ld 39 30 1,ov 41 .mov 9 30 0,obT 42 (.aS 1) 40 41 30 1,ov 43 ld 42 30 1,obT 44 (.aj 235) 38 43 30 0,obT 45 (.AL true [1,1]) 37 44 30 0,pf 46 30 45] 0 [2,4,5,9,46] []) (cd 46 (sr [mf 8 false] 0 [8] .ret) .skip))) (rg [mv 25 9,oi 26 pA 25 1,mv 9 26] 0 [2,4,5,9]))))) (sr [mf 8 true] 0 [8] .ret))))
def KJ:aA:=(s0 [ba 4 0 0,ag 8 3] 1 [1,2,3,4] [4] (sr [ag 9 3] 0 [1,2,3,4,9] (sw (sr [mv 14 1,mv 10 14] 0 [2,3,4,9,10] (lp (sw (sr [mv 15 10,fa 16 0 4,lo 17 16,oa 18 .len 17,ob 19 pL 15 18] 0 [2,3,4,9,10,19] (cx 19 0)) (sw (b1 (sr [mv 22 2,mv 11 22] 0 [2,3,4,9,10,11] (.block 2 (.loop (sw (sr [mv 23 11,mv 24 3,ob 25 (.bin .leq) 23 24] 0 [2,3,4,9,10,11,25] (cx 25 2)) (sw (.block 3 (sr [mv 28 2,mv 12 28] 0 [2,3,4,9,10,11,12] (.block 4 (.loop (sw (sr [mv 29 12,mv 30 3,ob 31 (.bin .leq) 29 30] 0 [2,3,4,9,10,11,12,31] (cx 31 4)) (sw (.block 5 (s0 [mv 34 10,mv 35 11,mv 36 12,ob 37 (.build [z0,z0] [(0,1),(1,1)]) 35 36,ob 38 (.build [z0,z0,z0] [(0,1),(1,2)]) 34 37,al 13 0 [z0,z0,z0],sk 3 13 38 0] 1 [2,3,4,9,10,11,12,13] [13] (sr [lw 39 2 4,lw 40 3 13,ob 41 (.aj 308) 39 40] 0 [2,3,4,9,10,11,12,13,41] (cd 41 (rg [mv 42 9,lw 43 3 13,oa 44 (.dV 3 [.agg [z0,z0,z0]] [0]) 43,ob 45 (.app 3 false) 42 44,mv 9 45] 0 [2,3,4,9,10,11,12]) .skip)))) (rg [mv 32 12,oi 33 pA 32 1,mv 12 33] 0 [2,3,4,9,10,11,12]))))))) (rg [mv 26 11,oi 27 pA 26 1,mv 11 27] 0 [2,3,4,9,10,11]))))))) (rg [mv 20 10,oi 21 pA 20 1,mv 10 21] 0 [2,3,4,9,10]))))) (sr [mv 46 9,mv 8 46] 0 [8] .ret))))
def Ig:aA:=(s0 [ba 2 0 0,ba 3 1 1,mf 4 false] 2 [2,3] [2,3] (sw (r1 [fu 5 0 3 1,lv 6 5,fu 7 0 2 1,lv 8 7,ou 9 .len 8 1,oi 10 pU 9 1,on 11 (.aj 150) [.t 6,kI 0,.t 10],mv 12 11,ov 13 (.fld 1) 3 12 1,ov 14 (.load true 2) 13 12 1,ov 15 (.aj 151) 14 12 0,pf 16 12 15,mv 17 16,ov 18 (.fld 0) 2 17 1,ov 19 ld 18 17 1,ov 20 (.fld 0) 3 17 1,ov 21 ld 20 17 1,obT 22 (.aS 3) 19 21 17 1,ov 23 (.fld 1) 22 17 1,ov 24 (.load true 2) 23 17 1,ov 25 (.fld 1) 3 17 1,ov 26 (.load true 2) 25 17 1,obT 27 (.AL true [1,1]) 24 26 17 0,pf 28 17 27,mv 4 28] 0 [4] []) .ret))
def FV:aA:=(s0 [ba 1 0 0,mf 2 false] 1 [1] [1] (sw (sr [mi 3 0] 0 [1,3] (lp (sw (sr [mv 4 3,fa 5 1 1,lo 6 5,oa 7 .len 6,ob 8 pL 4 7] 0 [1,3,8] (cx 8 0)) (sw (b1 (sr [fa 11 1 1,lo 12 11,mv 13 3,ix 14 1 12 13,lo 15 14,on 16 (.aj 155) [.t 15,kI 1,kI 120],oa 17 pN 16] 0 [1,3,17] (cd 17 (sr [mf 2 false] 0 [2] .ret) .skip))) (rg [mv 9 3,oi 10 pA 9 1,mv 3 10] 0 [1,3]))))) (sr [fa 18 0 1,lo 19 18,on 20 (.aj 155) [.t 19,kI 1,kI 60],mv 21 20,ov 22 (.fld 1) 1 21 0,ov 23 ld 22 21 0,ov 24 .len 23 21 0,ot 25 (.aj 155) [.t 24,kI 1,kI 6] 21 0,pf 26 21 25,mv 2 26] 0 [2] .ret)))
def Le:aA:=(sr [mf 2 false] 0 [0] (sr [mv 3 0,on 4 (.aj 155) [.t 3,kI 1,kI 400],mv 2 4] 0 [2] .ret))
def Ph:aA:=(s0 [ba 2 0 0,al 4 1 [z0,z0,z0],mf 5 false] 2 [1,2,4] [2] (sw (sr [mi 6 0] 0 [1,2,4,6] (lp (sw (sr [mv 8 6,fa 9 1 2,lo 10 9,oa 11 .len 10,ob 12 pL 8 11] 0 [1,2,4,6,12] (cx 12 0)) (sw (b1 (sr [lw 15 2 2,mv 16 6,mv 17 1,on 18 (.aj 234) [.t 15,.t 16,.t 17]] 0 [1,2,4,6,18] (cd 18 (sw (r1 [fu 19 0 2 1,lv 20 19,fu 21 1 2 1,lv 22 21,mv 23 6,ob1 24 (.aS 1) 22 23 1,lv 25 24,ob 26 pM 20 25,mv 27 1,ob 28 (.bin .quo) 26 27,mv 7 28] 0 [2,4,6,7] []) (sw (r1 [mv 29 6,mv 30 7,fu 31 1 2 1,lv 32 31,mv 33 6,ob1 34 (.aS 1) 32 33 1,lv 35 34,ob 36 (.bin .quo) 30 35,mv 37 7,fu 38 1 2 1,lv 39 38,mv 40 6,ob1 41 (.aS 1) 39 40 1,lv 42 41,ob 43 (.bin .rem) 37 42,on 44 (.build [z0,z0,z0] [(0,1),(1,1),(2,1)]) [.t 29,.t 36,.t 43],sk 3 4 44 0,mf 5 true] 0 [4,5] []) .ret)) .skip))) (rg [mv 13 6,oi 14 pA 13 1,mv 6 14] 0 [1,2,4,6]))))) (sr [on 45 (.build [z0,z0,z0] []) [],sk 3 4 45 0,mf 5 false] 0 [4,5] .ret)))
def Sl:aA:=(s0 [ba 3 0 0,mf 6 false] 1 [1,2,3] [3] (sw (r1 [fu 7 0 3 1,lv 8 7,fu 9 1 3 1,lv 10 9,mv 11 1,ob1 12 (.aS 1) 10 11 1,lv 13 12,ob 14 pM 8 13,mv 15 2,ob 16 (.bin .rem) 14 15,oi 17 pE 16 0,mv 6 17] 0 [6] []) .ret))
def NK (n l h:Int):Pure C 150 [dI n,dI l,dI h] (.d (.bool (inR n l h))) []:=AU n l h
def AY (n l h:Int):Pure C 105 [dI n,dI l,dI h] (.d (.bool (inR n l h))) []:=AU n l h
def acy (n l h:Int):Pure C 154 [dI n,dI l,dI h] (.d (.bool (inR n l h))) []:=AU n l h
def Xr (n l h:Int):Pure C 155 [dI n,dI l,dI h] (.d (.bool (inR n l h))) []:=AU n l h
def zH (n:Int):Pure C 157 [dI n] (.d (.bool (aI n))) []:=by
 refine ah Kz aN ?_;simp only[Kz,aN,RN,r]
 repeat' first
  |(refine ak (acy _ _ _) ?_;try simp only[RN,r,B,F,H,I,J])
  |(refine bF (by rfl) (fun a=> ?_) (fun a=> ?_)<;>simp only[a,RN,r,B,F,H,I,J])
  |(refine bM (by rfl) (fun a=> ?_) (fun a=> ?_)<;>simp only[a,RN,r,B,F,H,I,J])
 all_goals(first|(simp only[aI, *,BSN];done)|(simp_all[aI];done)|(simp_all[aI];omega))
def aiv (n:Int):Pure C 59 [dI n] (.d (.bool (inR n 0 10800))) []:=by
 refine ah Ky aN ?_;simp only[Ky,aN,RN,r]
 repeat' first
  |(refine ak (acy _ _ _) ?_;try simp only[])
  |(refine bF (by rfl) (fun a=> ?_) (fun a=> ?_)<;>simp only[a,RN,r,B,F,H,I,J])
  |(refine bM (by rfl) (fun a=> ?_) (fun a=> ?_)<;>simp only[a,RN,r,B,F,H,I,J])
 all_goals(first|(simp only[inR, *,BSN];done)|(simp_all[inR];done)|(simp_all[inR];omega))
def ala (f:Fr):Pure C 61 [f.dv] (.d (.bool f.ok)) []:=by
 refine ah Eh aN ?_;simp only[Eh,aN,bK,RN,r,B,J]
 repeat' first
  |(refine ak (acy _ _ _) ?_;try simp only[bK,RN,r,B,F,H,I,J])
  |(refine bF (by rfl) (fun a=> ?_) (fun a=> ?_)<;>simp only[a,RN,r,B,J])
  |(refine bM (by rfl) (fun a=> ?_) (fun a=> ?_)<;>simp only[a,bK,RN,r,B,F,H,I,J])
 all_goals(first|(simp only[Fr.ok, *,BSN];done)|(simp_all[Fr.ok];done)|(simp_all[Fr.ok];omega))
def adH (p:Pr):Pure C 151 [p.dv] (.d (.bool p.ok)) []:=by
 refine ah OY aN ?_;simp only[OY,aN,kP,RN,r,B,J]
 repeat' first
  |(refine ak (zH _) ?_;try simp only[kP,RN,r,B,F,H,I,J])
  |(refine bF (by rfl) (fun a=> ?_) (fun a=> ?_)<;>simp only[a,RN,r,B,J])
  |(refine bM (by rfl) (fun a=> ?_) (fun a=> ?_)<;>simp only[a,kP,RN,r,B,F,H,I,J])
 all_goals(first|(simp only[Pr.ok, *,BSN];done)|(simp_all[Pr.ok];done)|(simp_all[Pr.ok];omega))
def adJ (n:Int):Pure C 65 [dI n] (.d (.bool (inR n 0 4000))) []:=by
 refine ah OW aN ?_;simp only[OW,aN,RN,r]
 repeat' first
  |(refine ak (AY _ _ _) ?_;try simp only[])
  |(refine bF (by rfl) (fun a=> ?_) (fun a=> ?_)<;>simp only[a,RN,r,B,F,H,I,J])
  |(refine bM (by rfl) (fun a=> ?_) (fun a=> ?_)<;>simp only[a,RN,r,B,F,H,I,J])
 all_goals(first|(simp only[inR, *,BSN];done)|(simp_all[inR];done)|(simp_all[inR];omega))
def ald (m:iw):Pure C 63 [m.dv] (.d (.bool m.ok)) []:=by
 refine ah OU aN ?_;simp only[OU,aN,iO,RN,r,B,J];refine ak (AY _ _ _) ?_;cases h1:inR m.d 1 1000
 ·(try simp only[RN,r])
  simp[iw.ok,h1]
 have a:1<=m.d/\m.d<=1000:=by simpa[inR]using h1
 have c:cw .i64 (29*m.d)=29*m.d:=aB (by omega);have e:cw .i64 (30*m.d)=30*m.d:=aB (by omega);simp only[c,e,RN,r,B,J];refine ak (AY _ _ _) ?_;cases h2:inR m.n (29*m.d) (30*m.d)
 ·(try simp only[RN,r])
  simp[iw.ok,h1,h2]
 have b:29*m.d<=m.n/\m.n<=30*m.d:=by simpa[inR]using h2
 have f:cw .i64 (m.n - 1)=m.n - 1:=aB (by omega);simp only[f,RN,r,B,J];refine ak (AY _ _ _) ?_;(try simp only[RN,r,B,F,H,I,J]);simp[iw.ok,h1,h2]
def aiu (f:Fs):Pure C 156 [f.dv] (.d (.bool (!f.bad))) []:=by
 refine ah KC aN ?_;simp only[KC,aN,EP,RN,r,B,J]
 repeat' first
  |(refine ak (AY _ _ _) ?_;try simp only[EP,RN,r,B,F,H,I,J])
  |(refine bF (by rfl) (fun a=> ?_) (fun a=> ?_)<;>simp only[a,RN,r,B,J])
  |(refine bM (by rfl) (fun a=> ?_) (fun a=> ?_)<;>simp only[a,RN,r,B,J])
 all_goals first|(simp_all[Fs.bad];done)|(simp_all[Fs.bad,bne];done)
def afH (l:List Fs)(hl:l.length<=1000000):Pure C 64 [sF (l.map Fs.dv)] (.d (.bool (jK l))) []:=by
 refine ah Ic aN ?_;simp only[Ic,aN,RN,r];refine aG l.length (fun i (_:Unit)=>⟨[(0, .d (sF (l.map Fs.dv))),(3,pI i)],⟨[],[],[]⟩⟩)
  (fun i _=>l.any Fs.bad=(l.drop i).any Fs.bad) 0 () (V _) rfl rfl (fun i _ b a=> ?_) (fun _ a=> ?_)
 ·obtain⟨f,g,h⟩:=rng b hl
  rw[drop_cons b,cq]at a;have e:=aiu (l.getD i default);rw[EP]at e;simp only[f,g,b,getD_map,EP,Q,O,RN,r,B,J];refine ak e ?_;cases c:(l.getD i default).bad
  ·rw[c,bB]at a
   simp only[h,RN,r];exact aX () b rfl a
  ·rw[c,bS]at a
   (try simp only[RN,r]);simp[jK,a]
 ·rw[Z,List.any_nil]at a
  simp only[X,O,RN,r];simp[jK,a];omega
def anN (d:Dvd)(hl:d.cir.length<=1000000):Pure C 60 [d.dv] (.d (.bool d.ok)) []:=by
 refine ah FV aN ?_;rw[rW];simp only[FV,aN,RN,r];refine aG d.cir.length (fun i (_:Unit)=>⟨[(1, .d (.aV [dI d.dK,sF (d.cir.map au)])),(3,pI i)],⟨[some [pI d.dK, .d (sF (d.cir.map au))]],[0],[]⟩⟩)
  (fun i _=>(d.cir.all fun n=>inR n 1 120)=((d.cir.drop i).all fun n=>inR n 1 120)) 0 () (V _) rfl rfl (fun i _ b a=> ?_) (fun _ a=> ?_)
 ·obtain⟨e,f,g⟩:=rng b hl
  rw[drop_cons b,bi]at a;simp only[e,f,b,getD_map,aH,Q,O,RN,r,B,J];refine ak (Xr _ _ _) ?_;cases c:inR (d.cir.getD i default) 1 120
  ·rw[c,W]at a
   (try simp only[RN,r]);simp only[Dvd.ok,a,aw]
  ·rw[c,Y]at a
   simp only[g,RN,r];exact aX () b rfl a
 ·rw[Z,bs]at a
  simp only[X,O,RN,r,B,J];refine ak (Xr _ _ _) ?_;cases h1:inR d.dK 1 60
  ·(try simp only[RN,r])
   simp only[Dvd.ok,h1,W]
  simp only[O,RN,r,B,J];refine ak (Xr _ _ _) ?_;(try simp only[RN,r,B,F,H,I,J]);simp only[Dvd.ok,h1,a,Y,bA]
def anM (c:Cal)(hl:c.cy.length<=1000000):Pure C 62 [c.dv] (.d (.bool c.ok)) []:=by
 refine ah Ei aN ?_;rw[dZ];simp only[Ei,aN,RN,r];refine aG c.cy.length (fun i (_:Unit)=>⟨[(1, .d (.aV [dI c.ep,sF (c.cy.map au)])),(3,pI i)],⟨[some [pI c.ep, .d (sF (c.cy.map au))]],[0],[]⟩⟩)
  (fun i _=>IX c.cy 1=IX (c.cy.drop i) (if i=0 then 1 else c.cy.getD (i - 1) default)/\(i≠0->2<=c.cy.getD (i - 1) default)) 0 () (V _) rfl ⟨rfl,fun h=>absurd rfl h⟩ (fun i _ g e=> ?_) (fun _ e=> ?_)
 ·obtain⟨q,o,p⟩:=rng g hl
  obtain⟨e,n⟩:=e;rw[drop_cons g,IX]at e;simp only[q,o,g,getD_map,aH,Q,O,RN,r,B,J];refine ak (AY _ _ _) ?_;have a:∀b,inR (c.cy.getD i default) ((if i=0 then 1 else c.cy.getD (i - 1) default)+1) 1000=b->IX c.cy 1=(b&&IX (c.cy.drop (i+1)) (c.cy.getD i default)):=fun b m=>by rw[e,m]
  cases m:inR (c.cy.getD i default) 2 1000
  ·have f:=a false (by
    simp only[inR,aD,decide_eq_false_iff_not]at m⊢
    split
    ·omega
    ·rename_i h;have:=n h;omega)
   (try simp only[RN,r]);simp only[Cal.ok,f,W,aw]
  have j:2<=c.cy.getD i default/\c.cy.getD i default<=1000:=by simpa[inR]using m
  by_cases k:i=0
  ·subst k
   have f:=a true (by simp only[inR,if_true,U,decide_eq_true_eq];omega);have z:¬((0:Nat):Int)>0:=by decide
   simp only[z,p,RN,r];exact aX () g rfl ⟨by rw[f];rfl,fun _=>j.1⟩
  ·have z:(i:Int)>0:=by omega
   have t:cw .i64 ((i:Int) - 1)=((i - 1:Nat):Int):=by rw[aB (by omega)];omega
   have j0:(0:Int)<=((i - 1:Nat):Int):=by omega
   have s:i - 1<c.cy.length:=by omega
   rw[if_neg k]at a;simp only[z,t,j0,s,o,g,getD_map,aH,Q,O,RN,r,B,J]
   by_cases l:c.cy.getD i default<=c.cy.getD (i - 1) default
   ·have f:=a false (by simp only[inR,aD,decide_eq_false_iff_not];omega)
    simp only[l,RN,r];simp only[Cal.ok,f,W,aw]
   ·have f:=a true (by simp only[inR,U,decide_eq_true_eq];omega)
    simp only[l,p,RN,r];exact aX () g rfl ⟨by rw[f,if_neg (by omega)];rfl,fun _=>j.1⟩
 ·rw[Z]at e
  have f:=e.1;rw[IX]at f;simp only[X,O,RN,r,B,J];refine ak (AY _ _ _) ?_;cases h1:inR c.ep 0 1000
  ·(try simp only[RN,r])
   simp only[Cal.ok,h1,W]
  simp only[O,RN,r,B,J];refine ak (AY _ _ _) ?_;(try simp only[RN,r,B,F,H,I,J]);simp only[Cal.ok,h1,f,Y,bA]
def afE (b:Bil)(hl:b.dJ.length<=1000000):Pure C 66 [b.dv] (.d (.bool b.ok)) []:=by
 refine ah OX aN ?_;rw[I5];simp only[OX,aN,RN,r];refine aG b.dJ.length (fun i (_:Unit)=>⟨[(1, .d (.aV [sF (b.dJ.map au),dI b.gG,dI b.hours,dI b.lW,dI b.pct,dI b.adv])),(3,pI i)],⟨[some [.d (sF (b.dJ.map au)),pI b.gG,pI b.hours,pI b.lW,pI b.pct,pI b.adv]],[0],[]⟩⟩)
  (fun i _=>b.dJ.all aI=(b.dJ.drop i).all aI) 0 () (V _) rfl rfl (fun i _ f a=> ?_) (fun _ a=> ?_)
 ·obtain⟨h,j,k⟩:=rng f hl
  rw[drop_cons f,bi]at a;simp only[h,j,f,getD_map,aH,Q,O,RN,r,B,J];refine ak (zH _) ?_;cases g:aI (b.dJ.getD i default)
  ·rw[g,W]at a
   (try simp only[RN,r]);simp only[Bil.ok,pY,a,aw,W]
  ·rw[g,Y]at a
   simp only[k,RN,r];exact aX () f rfl a
 ·rw[Z,bs]at a
  simp only[X,O,RN,r,B,J]
  by_cases c:(b.dJ.length:Int)<=8
  case neg=>
   simp only[c,RN,r];have:¬b.dJ.length<=8:=by omega
   simp[Bil.ok,pY,c]
  have l:b.dJ.length<=8:=by omega
  simp only[c,RN,r,B,J]
  repeat' first
   |(refine ak (NK _ _ _) ?_;try simp only[c,RN,r,B,F,H,I,J])
   |(refine bF (by rfl) (fun e=> ?_) (fun e=> ?_)<;>simp only[e,RN,r,B,J])
   |(refine bM (by rfl) (fun e=> ?_) (fun e=> ?_)<;>simp only[e,c,RN,r,B,F,H,I,J])
  all_goals(simp_all[Bil.ok,pY];done)
def adE (s:Su)(ts:List Int)(ex:Bool):Pure C 67 [s.dv, .slice ex (ts.map au)] (.d (.agg [.slice ex (ts.map au),dI s.gG,dI s.hours,dI s.lW,dI s.pct,dI 0])) []:=by
 refine ah O4 aiH ?_;rw[dF];simp only[O4,aiH,gV,RN,r,B,H,J]
variable{ls:List Lk}
def Dv {n:Nat}(c:n<=ls.length)(h:linked (ls.take n)){a:Nat}(b:a<=n):fP ls a=fP (ls.take n) a:=by
 have:=G5 (ms:=ls.drop n) h a a (by rw[ae];omega);rw[List.take_append_drop]at this;exact this
def afW {n a:Nat}(b:a<n):(ls.take n).getD a default=ls.getD a default:=by
 rw[an,an,List.getElem?_take,if_pos b]
def OH {n a:Nat}(b:n<=ls.length)(h:linked (ls.take n))(c:a<n):(0<=(ls.getD a default).fr/\(ls.getD a default).fr<=a)/\fP ls (a+1)=fP ls (ls.getD a default).fr.toNat++ [a]:=by
 have d:(ls.take n).length=n:=by rw[ae];omega
 have h1:=h a (by omega);have h2:=oM h (a:=a) (by omega);rw[afW c]at h1 h2;refine⟨h1,?_⟩;rw[Dv b h (show a+1<=n by omega),h2,Dv b h (show(ls.getD a default).fr.toNat<=n by omega)]
def acd {n a:Nat}(c:n<=ls.length)(h:linked (ls.take n))(b:a<=n):(fP ls a).length<=a:=by
 rw[Dv c h b];exact Nz h (by rw[ae];omega)
def ZM (p:Pc)(n:Nat)(k:n<=p.links.length)(b:linked (p.links.take n))(hl:p.links.length<=1000):∀a,a<=n->Pure C 152 [p.dv,dI (a:Nat)] (.d (sF ((aP p.links a).map Pr.dv))) []:=by
 intro a
 induction a using Nat.strongRecOn with
 |ind a h=>
  intro j;refine bG (aC Dw aK ?_);rw[dA]at*
  match a,h,j with
  |0,_,_=>
   have z:(((0:Nat):Int)==0)=true:=rfl;simp only[Dw,aK,z,RN,r,B,I];simp[datum,Mem.row,aP,fP,vK]
  |a+1,h,j=>
   have z:(((a+1:Nat):Int)==0)=false:=by simp;omega
   have t:cw .i64 (((a+1:Nat):Int) - 1)=(a:Int):=by rw[aB (by omega)];omega
   obtain⟨u,e⟩:=OH k b (show a<n by omega);have l:(p.links.getD a default).fr.toNat<=a:=by omega
   have i:=h (p.links.getD a default).fr.toNat (by omega) (by omega);have c:(((p.links.getD a default).fr.toNat:Nat):Int)=(p.links.getD a default).fr:=by omega
   rw[c]at i;have j0:(0:Int)<=(a:Int):=by omega
   have s:a<p.links.length:=by omega
   have m:(aP p.links (p.links.getD a default).fr.toNat).length<=1000:=by
    rw[aP,O];have:=acd k b (show(p.links.getD a default).fr.toNat<=n by omega);omega
   have f:∀x∈(aP p.links (p.links.getD a default).fr.toNat).map Pr.dv,x.fits 2=true:=by
    intro x o;obtain⟨y,_,rfl⟩:=av.1 o;rw[kP];exact JL
   simp only[Dw,aK,z,t,j0,s,getD_map,qh,Q,O,RN,r,B,H,I,J];refine ak i ?_;(try simp only[RN,H,I,J]);have g:aP p.links (a+1)=aP p.links (p.links.getD a default).fr.toNat++ [(p.links.getD a default).pr]:=by rw[aP,e,a7];rfl
   refine⟨f,by simp,by simp,by rw[O];omega,rfl,by intro y q;subst q;rfl,by simp,by rw[O];omega,?_⟩;rw[g];simp[datum,Mem.row,kP,DV.strip]
def SH (p:Pc)(b:linked p.links)(hl:p.links.length<=1000){a:Nat}(c:a<=p.links.length):Pure C 152 [p.dv,dI (a:Nat)] (.d (sF ((aP p.links a).map Pr.dv))) []:=
 ZM p p.links.length (ai _) (by rw[ao];exact b) hl a c
def aic (p:Pc)(n:Int):Pure C 153 [p.dv,dI n] (.d (.bool (inR n 1 p.links.length))) []:=by
 refine ah KE aK ?_;rw[dA];simp only[KE,aK,O,RN,r,B,J];refine ak (NK _ _ _) ?_;(try simp only[])
def aii (p:Pc)(hl:p.links.length<=1000)(hh:p.hands.length<=1000):Pure C 58 [p.dv] (.d (.bool p.ok)) []:=by
 have A:∀q:Pr,Pure C 151 [.agg [dI q.a,dI q.b]] (.d (.bool q.ok)) []:=fun q=>by have:=adH q;rwa [kP]at this
 have w:∀n:Int,Pure C 153 [.agg [sF (p.links.map Lk.dv),sF (p.hands.map au)],dI n] (.d (.bool (inR n 1 p.links.length))) []:=fun n=>by have:=aic p n;rwa [dA]at this
 refine ah KF aN ?_;have y:=dA (p:=p);rw[dA];simp only[KF,aN,O,RN,r,B,J];refine ak (NK _ _ _) ?_;cases u:inR p.links.length 1 5
 ·(try simp only[RN,r])
  simp only[Pc.ok,u,W]
 simp only[O,RN,r,B,J];refine ak (NK _ _ _) ?_;cases E:inR p.hands.length 1 4
 ·(try simp only[RN,r])
  simp only[Pc.ok,u,E,W,Y]
 have H:p.links.length<=5:=by simp only[inR,U,decide_eq_true_eq]at u;omega
 have x:p.ok=(jZ [] p.links&&p.hands.all (fun n=>inR n 1 p.links.length)):=by simp[Pc.ok,u,E]
 rw[x];(try simp only[RN,r]);refine aG p.links.length (fun i (_:Unit)=>⟨[(1, .d (.aV [sF (p.links.map Lk.dv),sF (p.hands.map au)])),(3,pI i)],⟨[some [.d (sF (p.links.map Lk.dv)), .d (sF (p.hands.map au))]],[0],[]⟩⟩)
  (fun i _=>jZ [] p.links=jZ (p.links.take i) (p.links.drop i)/\linked (p.links.take i)) 0 () (V _) rfl ⟨by simp,fun i K=>by simp at K⟩ (fun i _ e c=> ?_) (fun _ c=> ?_)
 ·obtain⟨v,s,t⟩:=rng e (by omega)
  obtain⟨c,j⟩:=c;have l:(p.links.take i).length=i:=by simp;omega
  rw[drop_cons e,jZ]at c;have k:nM (p.links.take i) (p.links.getD i default)=false->jZ [] p.links=false:=fun h=>by rw[c,h,W]
  simp only[v,s,e,getD_map,qh,Q,O,RN,r,B,J];refine ak (NK _ _ _) ?_;cases g:inR (p.links.getD i default).fr 0 (i:Int)
  ·(try simp only[RN,r])
   rw[k (by simp only[nM,l,g,W])];rfl
  simp only[s,e,getD_map,qh,Q,O,RN,r,B,J];refine ak (A _) ?_;cases o:(p.links.getD i default).pr.ok
  ·(try simp only[RN,r])
   rw[k (by simp only[nM,o,aw,W])];rfl
  have G:0<=(p.links.getD i default).fr/\(p.links.getD i default).fr<=(i:Int):=by simpa[inR]using g
  have f:linked (p.links.take (i+1)):=by rw[aU e];exact Je j G.1 (by rw[l];exact G.2)
  obtain⟨_,D⟩:=OH (show i+1<=p.links.length by omega) f (ca i);have z:=Dv (show i<=p.links.length by omega) j (show(p.links.getD i default).fr.toNat<=i by omega);have m:=ZM p (i+1) (by omega) f hl (i+1) (ai _);have L:(aP p.links (i+1)).length=(fP (p.links.take i) (p.links.getD i default).fr.toNat).length+1:=by rw[aP,O,D,az,z];rfl
  rw[y]at m;simp only[t,RN,r,B,J];refine ak m ?_;simp only[O,RN]
  by_cases I:(((aP p.links (i+1)).length:Nat):Int)>3
  ·simp only[I,RN,r]
   rw[k (by simp only[nM,aD,bv,ch,decide_eq_true_eq];right;omega)];rfl
  ·simp only[I,t,RN,r]
   have M:nM (p.links.take i) (p.links.getD i default)=true:=by
    simp only[nM,l,g,o,Y,bv,cm,decide_eq_false_iff_not];omega
   rw[M,Y,<-aU e]at c;exact aX () e rfl ⟨c,f⟩
 ·obtain⟨c,j⟩:=c
  rw[Z,jZ]at c;rw[c,Y];simp only[X,O,RN,r,B,J];refine aG p.hands.length (fun i (_:Unit)=>⟨[(1, .d (.aV [sF (p.links.map Lk.dv),sF (p.hands.map au)])),(4,pI i)],⟨[some [.d (sF (p.links.map Lk.dv)), .d (sF (p.hands.map au))]],[0],[]⟩⟩)
   (fun i _=>(p.hands.all (fun n=>inR n 1 p.links.length))=((p.hands.drop i).all (fun n=>inR n 1 p.links.length))) 0 () (V _) rfl rfl (fun i _ e c=> ?_) (fun _ c=> ?_)
  ·obtain⟨v,s,t⟩:=rng e (by omega)
   rw[drop_cons e,bi]at c;simp only[v,s,e,getD_map,aH,Q,O,RN,r,B,J];refine ak (w _) ?_;cases F:inR (p.hands.getD i default) 1 p.links.length
   ·rw[F,W]at c
    simp only[c,RN,r]
   ·rw[F,Y]at c
    simp only[t,RN,r];exact aX () e rfl c
  ·rw[Z,bs]at c
   simp only[X,O,c,RN,r,B,J]
def abX (m:iw)(d:Int):Bool:=
 let k:=dU (d*m.d - m.ad) m.n
 if dU (k*m.n+m.ad) m.d<d then dU ((k+1)*m.n+m.ad) m.d==d else dU (k*m.n+m.ad) m.d==d
variable{a b c:Int}
def Bd (hc:0<c)(h:a<=b):dU a c<=dU b c:=by
 obtain⟨d,e⟩:=o7 a c hc;obtain⟨f,g⟩:=o7 b c hc;have:dU a c<dU b c+1:=ax (a:=c) (by omega) (by omega);omega
variable{m:iw}
def Rz (a:m.ok=true)(d:Int):dU (dU (d*m.d - m.ad) m.n*m.n+m.ad) m.d<=d/\d<=dU ((dU (d*m.d - m.ad) m.n+1)*m.n+m.ad) m.d:=by
 obtain⟨hd,h,g⟩:=m.facts a;obtain⟨e,f⟩:=o7 (d*m.d - m.ad) m.n (by omega);have b:dU (d*m.d) m.d=d:=U1 (by omega) (ce _) (by rw[bl];omega);refine⟨?_,?_⟩
 ·have:=Bd (c:=m.d) (by omega) (show dU (d*m.d - m.ad) m.n*m.n+m.ad<=d*m.d by omega)
  omega
 ·have:=Bd (c:=m.d) (by omega) (show d*m.d<=(dU (d*m.d - m.ad) m.n+1)*m.n+m.ad by omega)
  omega
def Za (g:m.ok=true)(d:Int):abX m d=true↔∃k,dU (k*m.n+m.ad) m.d=d:=by
 obtain⟨hd,p,j⟩:=m.facts g;obtain⟨r1,r2⟩:=Rz g d;have e:∀{a b:Int},a<=b->a*m.n+m.ad<=b*m.n+m.ad:=fun h=>by
  have:=aM h (show 0<=m.n by omega);omega
 unfold abX;simp only;generalize dU (d*m.d - m.ad) m.n=K at r1 r2;constructor
 ·intro h
  split at h
  ·exact⟨_,beq_iff_eq.1 h⟩
  ·exact⟨_,beq_iff_eq.1 h⟩
 ·rintro⟨k,o⟩
  split
  ·rename_i i
   have f:K+1<=k:=by
    apply Classical.byContradiction;intro l;have:=Bd (c:=m.d) (by omega) (e (show k<=K by omega));omega
   have:=Bd (c:=m.d) (by omega) (e f);exact beq_iff_eq.2 (by omega)
  ·exact beq_iff_eq.2 (by omega)
def ajD (b:m.ok=true)(n:Int):(0<=yA m n/\yA m n<=30)/\abX m (n - yA m n)=true/\∀j,0<=j->j<yA m n->abX m (n - j)=false:=by
 obtain⟨hd,E,C⟩:=m.facts b;obtain⟨K,f⟩:∃K,K=dU ((n+1)*m.d - 1 - m.ad) m.n:=⟨_,rfl⟩
 obtain⟨i,l⟩:=o7 ((n+1)*m.d - 1 - m.ad) m.n (by omega);rw[<-f]at i l;obtain⟨s,e⟩:∃s,s=dU (K*m.n+m.ad) m.d:=⟨_,rfl⟩
 obtain⟨o,p⟩:=o7 (K*m.n+m.ad) m.d (by omega);rw[<-e]at o p;have w:(K+1)*m.n=K*m.n+m.n:=by rw[bl];omega
 have x:(n+1)*m.d=n*m.d+m.d:=by rw[bl];omega
 have y:(s+1)*m.d=s*m.d+m.d:=by rw[bl];omega
 have z:(n - 30)*m.d=n*m.d - 30*m.d:=by rw[Int.sub_mul]
 have b1:s<n+1:=ax (a:=m.d) (by omega) (by omega);have v:n - 30<s+1:=ax (a:=m.d) (by omega) (by omega);have g:yA m n=n - s:=by unfold yA;rw[<-f,<-e]
 rw[g];refine⟨by omega,?_,fun j B D=> ?_⟩
 ·rw[show n - (n - s)=s by omega]
  exact(Za b s).2 ⟨K,e.symm⟩
 ·cases h:abX m (n - j)
  ·rfl
  obtain⟨k,t⟩:=(Za b _).1 h;obtain⟨q,r⟩:=o7 (k*m.n+m.ad) m.d (by omega);rw[t]at q r;have A:(n - j+1)*m.d<=(n+1)*m.d:=aM (by omega) (by omega);have u:k<K+1:=ax (a:=m.n) (by omega) (by omega);have:=Bd (c:=m.d) (by omega) (show k*m.n+m.ad<=K*m.n+m.ad by
   have:=aM (show k<=K by omega) (show 0<=m.n by omega);omega)
  omega
def alI (n:Int)(h:0<=n):wd (n+(7 - wd n))=0/\(1<=7 - wd n/\7 - wd n<=7)/\∀j,1<=j->j<7 - wd n->wd (n+j)≠0:=by
 unfold wd;rw[am (show 0<=n+4 by omega)];refine⟨?_,by omega,fun j h1 h2=> ?_⟩
 ·rw[am (by omega)];omega
 ·rw[am (by omega)];omega
def SI (n:Int)(h:0<=n/\n<=1000000000):Pure C 33 [dI n] (pI (wd n)) []:=by
 have a:cw .i64 (n+4)=n+4:=aB (by omega);have b1:0<=(n+4).tmod 7:=Int.tmod_nonneg 7 (by omega);have b:(n+4).tmod 7<7:=Int.tmod_lt_of_pos _ (by decide);have c:cw .i64 ((n+4).tmod 7)=(n+4).tmod 7:=aB (by omega);refine ah rQ aN ?_;simp only[rQ,aN,a,wd,RN,r];simp
def Tc (n b:Int)(h:n.natAbs<=1000000000000000000)(hb:b≠0):Pure C 357 [dI n,dI b] (pI (dU n b)) []:=by
 have b1:=kU n b;have f:=Gt n b;have c:cw .i64 (n.tdiv b)=n.tdiv b:=aB (by omega);have d:cw .i64 (n.tdiv b*b)=n.tdiv b*b:=aB (by omega);have e:cw .i64 (n.tdiv b - 1)=n.tdiv b - 1:=aB (by omega);refine ah yH aK ?_;simp only[yH,aK,c,d,hb,RN,r,B]
 by_cases a:n.tdiv b*b>n
 ·simp only[a,e,dU,if_true,RN,r]
 ·simp only[a,dU,if_false,RN,r]
def Ls (c:Cal)(y:Int)(hl:c.cy.length<=1000000)(q:∀n∈c.cy,n≠0):Pure C 106 [c.dv,dI y] (.d (.bool (c.leap y))) []:=by
 refine ah OQ aK ?_;rw[dZ];simp only[OQ,aK,RN,r,B];refine aG c.cy.length (fun i (n:Nat)=>⟨[(1,pI y),(2, .d (.aV [dI c.ep,sF (c.cy.map au)])),(5,pI (n:Int)),(6,pI i)],⟨[some [pI c.ep, .d (sF (c.cy.map au))]],[0],[]⟩⟩)
  (fun i n=>n<=i/\c.leap y=Fg (c.cy.drop i) y (decide (n % 2=1))) 0 0 (V _) rfl ⟨ai _,rfl⟩ (fun i n b a=> ?_) (fun n a=> ?_)
 ·obtain⟨o,p,g⟩:=rng b hl
  obtain⟨f,a⟩:=a;rw[drop_cons b,Fg]at a;have e:=q _ (getD_mem b);have k:cw .i64 ((n:Int)+1)=((n+1:Nat):Int):=by rw[aB (by omega)];omega
  simp only[o,p,b,aH,getD_map,Q,O,e,RN,r,B,J];cases j:(y.tmod (c.cy.getD i default)==0)
  ·rw[j]at a
   simp only[g,RN,r];exact aX n b rfl ⟨by omega,a⟩
  ·rw[j]at a
   simp only[k,g,RN,r];refine aX (n+1) b rfl ⟨by omega,?_⟩;rw[a]
   congr 1
   by_cases h:n % 2=1
   ·simp[h];omega
   ·simp[h];omega
 ·obtain⟨f,a⟩:=a
  rw[Z,Fg]at a;have t:cw .i64 ((n:Int).tmod 2)=((n % 2:Nat):Int):=by
   rw[am (by omega),aB (by omega)];omega
  have l:(n:Int).tmod 2=((n % 2:Nat):Int):=by rw[am (by omega)];omega
  have s:¬(2:Int)=0:=by decide
  have m:(((n % 2:Nat):Int)==1)=decide (n % 2=1):=by
   by_cases h:n % 2=1
   ·rw[h];rfl
   ·rw[decide_eq_false h];exact beq_false_of_ne (by omega)
  simp only[X,O,l,a,s,m,RN,r,B,J]
def ajL {k:Int}(h:1<=k/\k<=12):k=1\/k=2\/k=3\/k=4\/k=5\/k=6\/k=7\/k=8\/k=9\/k=10\/k=11\/k=12:=by omega
def ND {m:Int}(a:1<=m/\m<=12)(leap:Bool):Pure C 233 [dI m, .bool leap] (.d (dI ((aQ leap).getD (m - 1).toNat default))) []:=by
 refine ah Ie aK ?_;simp only[Ie,aK,RN,r,B]
 by_cases h2:m=2
 ·subst h2
  have z:((2:Int)==2)=true:=rfl;cases leap
  ·simp only[z,RN,r]
   refine Di rfl rfl rfl ?_;(try simp only[RN,B]);exact⟨by decide,by decide,rfl,ai 1,rfl⟩
  ·simp only[z,RN,r]
   rfl
 ·have z:(m==2)=false:=beq_false_of_ne h2
  simp only[z,RN,r];refine Di rfl rfl rfl ?_
  rcases ajL a with rfl|rfl|rfl|rfl|rfl|rfl|rfl|rfl|rfl|rfl|rfl|rfl
  all_goals first|exact absurd rfl h2|(cases leap<;>((try simp only[RN,B]);exact⟨by decide,by decide,rfl,ai 1,rfl⟩))
def adC (c:Cal)(y:Int)(hl:c.cy.length<=1000000)(a:∀n∈c.cy,n≠0):Pure C 35 [c.dv,dI y] (.d (dI (o8 (c.leap y)))) []:=by
 refine ah OT aK ?_;have h:=Ls c y hl a;rw[dZ]at h⊢;simp only[OT,aK,RN,r,B,J];refine ak h ?_;cases c.leap y
 ·(try simp only[RN])
  rfl
 ·(try simp only[RN])
  rfl
def o9 (c:Cal):Nat->Int
 |0=>0
 |y+1=>o9 c y+(if c.leap y then 1 else 0)
def Y3 (c:Cal):∀n,0<=o9 c n/\o9 c n<=n
 |0=>⟨ce _,ce _⟩
 |n+1=>by
  have:=Y3 c n;rw[o9];split<;>omega
def Oq (c:Cal):∀n:Nat,c.first n=c.ep+365*n+o9 c n
 |0=>by simp[Cal.first,o9]
 |n+1=>by
  rw[Cal.first,Oq c n,o9,l9]
  split<;>omega
def SB (c:Cal)(hc:c.ok=true)(n:Nat)(u:n<=4000):Pure C 144 [c.dv,dI (n:Int)] (pI (c.first n)) []:=by
 obtain⟨s,t,p⟩:=Cal.facts hc;refine ah KD aK ?_;rw[dZ];have g:cw .i64 (365*(n:Int))=365*n:=aB (by omega);have j:cw .i64 (c.ep+365*(n:Int))=c.ep+365*n:=aB (by omega);simp only[KD,aK,g,j,RN,r,B,J];refine aG n (fun i (_:Unit)=>⟨[(1,pI n),(2, .d (.aV [dI c.ep,sF (c.cy.map au)])),(5,pI (c.ep+365*n+o9 c i)),(6,pI i)],⟨[some [pI c.ep, .d (sF (c.cy.map au))]],[0],[]⟩⟩)
  (fun i _=>True) 0 () (V _) (by simp[o9]) trivial (fun i _ b e=> ?_) (fun _ e=> ?_)
 ·obtain⟨m,q,f⟩:=rng b (by omega)
  have a:=Y3 c i;have h:=Ls c i (by omega) (fun k o=>by have:=p k o;omega);rw[dZ]at h;have l:cw .i64 (c.ep+365*(n:Int)+o9 c i+1)=c.ep+365*n+o9 c i+1:=aB (by omega);simp only[m,RN,r,B,J];refine ak h ?_;cases a:c.leap i
  ·simp only[f,RN,r]
   exact aX () b (by simp[o9,a]) trivial
  ·simp only[l,f,RN,r]
   exact aX () b (by simp[o9,a,cn]) trivial
 ·simp only[X,RN,r]
  rw[Oq]
def IC:∀(l:List Int) (p:Int) (i:Nat),i<l.length->dN (l.take (i+1)) p=dN (l.take i) p+l.getD i default
 | [],_,_,h=>by simp at h
 |x::l,p,0,_=>by simp[dN]
 |x::l,p,i+1,h=>by
  rw[bj,bj,dN,dN,aq];exact IC l _ i (by simpa using h)
def ak1 (c:Cal)(hc:c.ok=true)(d:Dt)(D:1<=d.m/\d.m<=12)(hd:1<=d.d/\d.d<=31):Pure C 337 [c.dv,d.dv] (.d (dI (d.d - 1+dN ((aQ (c.leap d.y)).take (d.m - 1).toNat) 0))) []:=by
 obtain⟨w,A,t⟩:=Cal.facts hc;refine ah OO aK ?_;rw[dZ,oG];have n:cw .i64 (d.d - 1)=d.d - 1:=aB (by omega);simp only[OO,aK,n,RN,r,B,J];refine aG (d.m - 1).toNat (fun i (_:Unit)=>⟨[(2, .d (.aV [dI c.ep,sF (c.cy.map au)])),(3, .d (.aV [dI d.y,dI d.m,dI d.d])),(5, .d (dI (d.d - 1+dN ((aQ (c.leap d.y)).take i) 0))),(6, .d (dI ((i:Int)+1)))],⟨[some [pI c.ep, .d (sF (c.cy.map au))],some [pI d.y,pI d.m,pI d.d]],[1,0],[]⟩⟩)
  (fun i _=>True) 0 () (V _) (by simp[dN]) trivial (fun i _ p f=> ?_) (fun _ f=> ?_)
 ·have g:(i:Int)+1<d.m:=by omega
  have q:cw .i64 ((i:Int)+1+1)=(((i+1:Nat):Int)+1):=by rw[aB (by omega)];omega
  have h:=Ls c d.y (by omega) (fun k s=>by have:=t k s;omega);rw[dZ]at h;have l:=ND (m:=(i:Int)+1) (by omega) (c.leap d.y);have b:i<(aQ (c.leap d.y)).length:=by rw[mF];omega
  have a:=kL (c.leap d.y);have E:=BZ (aQ (c.leap d.y)) i 0 fun x e=>by have:=a x e;omega
  have u:=tJ ((aQ (c.leap d.y)).take i) 0 fun x e=>by have:=a x (ap e);omega
  have v:dN (aQ (c.leap d.y)) 0<=366:=by have:=l9 (c.leap d.y);unfold o8 at this;rw[this];split<;>decide
  have z:=a _ (getD_mem b);have j:=IC (aQ (c.leap d.y)) 0 i b;rw[show((i:Int)+1 - 1).toNat=i by omega]at l;have o:cw .i64 (d.d - 1+dN ((aQ (c.leap d.y)).take i) 0+(aQ (c.leap d.y)).getD i default)=d.d - 1+dN ((aQ (c.leap d.y)).take i) 0+(aQ (c.leap d.y)).getD i default:=aB (by omega);simp only[g,RN,r,B,J];refine ak h ?_;(try simp only[RN,r,B,F,H,I,J]);refine ak l ?_;simp only[o,q,RN];exact aX () p (by rw[j,cn]) trivial
 ·have e:¬(((d.m - 1).toNat:Int)+1<d.m):=by omega
  simp only[e,RN,r,B,J]
def aie (c:Cal)(hc:c.ok=true)(d:Dt)(p:0<=d.y/\d.y<=4000)(g:1<=d.m/\d.m<=12)(hd:1<=d.d/\d.d<=31):Pure C 311 [c.dv,d.dv] (.d (dI (AQ c (c.firsts 4002) d))) []:=by
 obtain⟨k,l,n⟩:=Cal.facts hc;have h1:=SB c hc d.y.toNat (by omega);have h2:=ak1 c hc d g hd;rw[show((d.y.toNat:Nat):Int)=d.y by omega]at h1;have f:(c.firsts 4002).getD d.y.toNat default=c.first d.y.toNat:=by
  rw[Cal.firsts,an,b0,bz (by omega)];rfl
 have j:=c.jC d.y.toNat;have a:=kL (c.leap d.y);have o:=BZ (aQ (c.leap d.y)) (d.m - 1).toNat 0 fun x b=>by have:=a x b;omega
 have h:=tJ ((aQ (c.leap d.y)).take (d.m - 1).toNat) 0 fun x b=>by have:=a x (ap b);omega
 have i:dN (aQ (c.leap d.y)) 0<=366:=by have:=l9 (c.leap d.y);unfold o8 at this;rw[this];split<;>decide
 have e:cw .i64 (c.first d.y.toNat+(d.d - 1+dN ((aQ (c.leap d.y)).take (d.m - 1).toNat) 0))=AQ c (c.firsts 4002) d:=by
  rw[AQ,f,aB (by omega)];omega
 refine ah RX aK ?_;rw[dZ]at h1 h2⊢;rw[oG]at h2⊢;simp only[RX,aK,RN,r,B,J];refine ak h1 ?_;(try simp only[RN,r,B,F,H,I,J]);refine ak h2 ?_;simp only[e,RN]
def acp (d:Dt):Pure C 336 [d.dv] (.d (.bool (inR d.y 0 4000&&inR d.m 1 12&&inR d.d 1 31))) []:=by
 refine ah FK aN ?_;rw[oG];simp only[FK,aN,RN,r,B,J];refine ak (adJ _) ?_;cases h1:inR d.y 0 4000
 ·simp only[W,RN,r]
 (try simp only[RN,r,B,J]);refine ak (AY _ _ _) ?_;cases h2:inR d.m 1 12
 ·simp only[W,RN,r]
 (try simp only[RN,r,B,J]);refine ak (AY _ _ _) ?_;(try simp only[])
def ak3 (c:Cal)(hc:c.ok=true)(d:Dt):Pure C 310 [c.dv,d.dv] (.d (.bool (kG c d))) []:=by
 obtain⟨l,o,j⟩:=Cal.facts hc;have h1:=acp d;have h2:=Ls c d.y (by omega) (fun k h=>by have:=j k h;omega);refine ah OV aK ?_;rw[dZ]at h2⊢;rw[oG]at h1⊢;simp only[OV,aK,RN,r,B,J];refine ak h1 ?_;cases e:inR d.y 0 4000
 ·simp only[W,RN,r]
  simp[kG,e]
 cases a:inR d.m 1 12
 ·simp only[W,aw,RN,r]
  simp[kG,a]
 have i:1<=d.m/\d.m<=12:=by simpa[inR]using a
 have g:=ND i (c.leap d.y);have b:(d.m - 1).toNat<(aQ (c.leap d.y)).length:=by rw[mF];omega
 have n:=kL (c.leap d.y) _ (getD_mem b);cases f:inR d.d 1 31
 ·(try simp only[RN,r])
  have:inR d.d 1 ((aQ (c.leap d.y)).getD (d.m - 1).toNat default)=false:=by
   simp only[inR,aD,decide_eq_false_iff_not]at f⊢;omega
  simp only[kG,e,a,this,aw]
 have hd:1<=d.d/\d.d<=31:=by simpa[inR]using f
 (try simp only[RN,r,B,J]);refine ak h2 ?_;(try simp only[RN,r,B,F,H,I,J]);refine ak g ?_;(try simp only[RN]);have:kG c d=decide (d.d<=(aQ (c.leap d.y)).getD (d.m - 1).toNat default):=by
  rw[kG,e,a,Y,Y];simp only[inR];rw[decide_eq_true (show d.d>=1 by omega),Y]
 rw[this]
def anK (m:iw)(n:Int)(q:m.ok=true)(h:0<=n/\n<=100000000):Pure C 352 [m.dv,dI n] (.d (.bool (abX m n))) []:=by
 obtain⟨hd,A,y⟩:=m.facts q;have D:0<=n*m.d/\n*m.d<=100000000*1000:=⟨aR (by omega) (by omega),ab (by omega) hd.2 (by omega) (by omega)⟩
 have v:=WG (n*m.d - m.ad) m.n (by omega);have w:=Yv (n*m.d - m.ad) m.n;obtain⟨r1,r2⟩:=Rz q n;have s:cw .i64 (n*m.d)=n*m.d:=aB (by omega);have t:cw .i64 (n*m.d - m.ad)=n*m.d - m.ad:=aB (by omega);obtain⟨K,o⟩:∃K,K=dU (n*m.d - m.ad) m.n:=⟨_,rfl⟩
 have b:abX m n=if dU (K*m.n+m.ad) m.d<n then dU ((K+1)*m.n+m.ad) m.d==n else dU (K*m.n+m.ad) m.d==n:=by rw[o];rfl
 have p:=Tc (n*m.d - m.ad) m.n (by omega) (by omega);rw[<-o]at v w r1 r2 p;have x:(K+1)*m.n=K*m.n+m.n:=by rw[bl];omega
 have e:cw .i64 (K*m.n)=K*m.n:=aB (by omega);have f:cw .i64 (K*m.n+m.ad)=K*m.n+m.ad:=aB (by omega);have u:cw .i64 (K+1)=K+1:=aB (by omega);have g:cw .i64 ((K+1)*m.n)=(K+1)*m.n:=aB (by omega);have j:cw .i64 ((K+1)*m.n+m.ad)=(K+1)*m.n+m.ad:=aB (by omega);have k:=Tc (K*m.n+m.ad) m.d (by omega) (by omega);have l:=Tc ((K+1)*m.n+m.ad) m.d (by omega) (by omega);refine ah RY aK ?_;rw[iO];simp only[RY,aK,s,t,RN,r,B,J];refine ak p ?_;(try simp only[RN,r,B,F,H,I,J]);refine iE (fun i:Nat=>⟨[(1,pI n),(2, .d (.aV [dI m.n,dI m.d,dI m.ad])),(5,pI (K+i))],⟨[some [pI m.n,pI m.d,pI m.ad]],[0],[]⟩⟩)
  (fun i=>i=0\/(i=1/\dU (K*m.n+m.ad) m.d<n)) (fun i=>1 - i) 0 (by simp) (.inl rfl) ?_
 rintro i (rfl|⟨rfl,a⟩)
 ·have z:K+((0:Nat):Int)=K:=by omega
  simp only[z,e,f,RN,r,B,F,J];refine ak k ?_
  by_cases a:dU (K*m.n+m.ad) m.d<n
  ·simp only[a,u,RN,r]
   refine⟨0,_,by omega, .inl rfl,?_⟩;exact⟨(1:Nat),rfl,rfl,Or.inr rfl⟩
  ·simp only[a,e,f,RN,r,B,J]
   refine ak k ?_;(try simp only[RN]);rw[b,if_neg a]
 ·have z:K+((1:Nat):Int)=K+1:=by omega
  have c:¬dU ((K+1)*m.n+m.ad) m.d<n:=by omega
  simp only[z,g,j,RN,r,B,F,J];refine ak l ?_;simp only[c,g,j,RN,r,B,J];refine ak l ?_;(try simp only[RN]);rw[b,if_pos a]
def anH (m:iw)(n:Int)(f:m.ok=true)(h:30<=n/\n<=100000000):Pure C 335 [m.dv,dI n] (pI (yA m n)) []:=by
 obtain⟨j,b,c⟩:=ajD f n;obtain⟨g,p⟩:∃g:Nat,yA m n=(g:Int):=⟨(yA m n).toNat,by omega⟩
 rw[p]at j b c⊢;refine ah RV aK ?_;rw[iO];simp only[RV,aK,RN,r,B];refine iE (fun i:Nat=>⟨[(1,pI n),(2, .d (.aV [dI m.n,dI m.d,dI m.ad])),(5,pI (i:Int))],⟨[some [pI m.n,pI m.d,pI m.ad]],[0],[]⟩⟩)
  (fun i=>i<=g) (fun i=>g - i) 0 rfl (V _) ?_
 intro i q;have k:cw .i64 (n - (i:Int))=n - i:=aB (by omega);have e:=anK m (n - i) f (by omega);rw[iO]at e;simp only[k,RN,r,B,J];refine ak e ?_
 by_cases o:i=g
 ·subst o
  rw[b];(try simp only[RN,r])
 ·have l:cw .i64 ((i:Int)+1)=((i+1:Nat):Int):=by rw[aB (by omega)];omega
  rw[c i (by omega) (by omega)];simp only[l,RN,r];exact vF (μ:=fun i=>g - i) (a:=i) (E:=fun i:Nat=>⟨[(1,pI n),(2, .d (.aV [dI m.n,dI m.d,dI m.ad])),(5,pI (i:Int))],⟨[some [pI m.n,pI m.d,pI m.ad]],[0],[]⟩⟩) (P:=fun i=>i<=g) (i+1) (by omega) rfl (by omega)
def ae0 (g:m.ok=true)(n:Int):yA m (m.full n)=13/\(n<=m.full n/\m.full n<=n+44)/\∀j,n<=j->j<m.full n->yA m j≠13:=by
 have go:∀(k:Nat) (n:Int),(∃j:Nat,j<k/\yA m (n+j)=13)->yA m (qL m k n)=13/\(n<=qL m k n/\qL m k n<n+k)/\∀j,n<=j->j<qL m k n->yA m j≠13:=by
  intro k
  induction k with
  |zero=>rintro n ⟨j,d,_⟩;omega
  |succ k l=>
   rintro n ⟨j,d,a⟩;rw[qL]
   split
   ·rename_i h;exact⟨h,by omega,fun j h1 h2=>by omega⟩
   ·rename_i h
    have f:j≠0:=by rintro rfl;simp at a;exact h a
    obtain⟨b,i,c⟩:=l (n+1) ⟨j - 1,by omega,by rw[show n+1+((j - 1:Nat):Int)=n+j by omega];exact a⟩;refine⟨b,by omega,fun q h1 h2=> ?_⟩
    by_cases e:q=n
    ·rw[e];exact h
    ·exact c q (by omega) h2
 obtain⟨j,d,a⟩:=Vd m g n;obtain⟨b,i,c⟩:=go 45 n ⟨j,by omega,a⟩;exact⟨b,by unfold iw.full;omega,c⟩
def afA (c:Cal)(m:iw)(y:Int)(hc:c.ok=true)(t:m.ok=true)(K:0<=y/\y<=4000):Pure C 309 [c.dv,m.dv,dI y] (pI (sunday c m y)) []:=by
 obtain⟨Q,T,U⟩:=Cal.facts hc;have l:=aie c hc ⟨y,3,21⟩ K (by simp only;omega) (by simp only;omega);have e:(c.firsts 4002).length=4002:=wC c 4002;have x:=aa5 c (c.firsts 4002) ⟨y,3,21⟩ (yN c hc) (by rw[e];simp only;omega) (by simp only;omega);have g:79<=AQ c (c.firsts 4002) ⟨y,3,21⟩:=by
  have D:(c.firsts 4002).getD y.toNat default=c.first y.toNat:=by
   rw[Cal.firsts,an,b0,bz (by omega)];rfl
  have h1:=c.jC y.toNat;have h2:59<=dN ((aQ (c.leap y)).take 2) 0:=by cases c.leap y<;>decide
  simp only[AQ,D,show((3:Int) - 1).toNat=2 from rfl];omega
 obtain⟨b,h⟩:∃b,b=AQ c (c.firsts 4002) ⟨y,3,21⟩:=⟨_,rfl⟩
 obtain⟨v,N,w⟩:=ae0 t b;have p:sunday c m y=m.full b+(7 - wd (m.full b)):=by rw[h];rfl
 rw[<-h]at l x g;obtain⟨L,V,M⟩:=alI (m.full b) (by omega);rw[p];generalize m.full b=f at*;generalize O:7 - wd f=E at*;rw[dZ,oG]at l;refine ah BF Ar ?_;rw[dZ,iO];simp only[BF,Ar,RN,r,B,J];refine ak l ?_;(try simp only[RN,r,B,F,H,I,J]);refine iE (fun i:Nat=>⟨[(4, .d (.aV [dI m.n,dI m.d,dI m.ad])),(7,pI (b+i))],⟨[some [pI c.ep, .d (sF (c.cy.map au))],some [pI m.n,pI m.d,pI m.ad]],[1,0],[]⟩⟩)
  (fun i=>b+(i:Int)<=f) (fun i=>(f - b - i).toNat) 0 (by simp) (by omega) ?_
 intro i R;have s:=anH m (b+i) t (by omega);rw[iO]at s;(try simp only[RN,r,B,J]);refine ak s ?_
 by_cases o:b+(i:Int)=f
 ·have z:(yA m (b+(i:Int)) !=13)=false:=by rw[o,v];rfl
  have k:cw .i64 (b+(i:Int)+1)=f+1:=by rw[aB (by omega)];omega
  simp only[z,k,RN,r,B];refine iE (fun j:Nat=>⟨[(7,pI (f+1+j))],⟨[some [pI c.ep, .d (sF (c.cy.map au))],some [pI m.n,pI m.d,pI m.ad]],[1,0],[]⟩⟩)
   (fun j=>(j:Int)+1<=E) (fun j=>(E - j).toNat) 0 (by simp) (by omega) ?_
  intro j S;have G:=SI (f+1+j) (by omega);(try simp only[RN,r,B]);refine ak G ?_
  by_cases A:(j:Int)+1=E
  ·have q:(wd (f+1+(j:Int)) !=0)=false:=by rw[show f+1+(j:Int)=f+E by omega,L];rfl
   simp only[q,RN,r,B];rw[show f+1+(j:Int)=f+E by omega]
  ·have q:(wd (f+1+(j:Int)) !=0)=true:=by
    have:=M ((j:Int)+1) (by omega) (by omega);rw[show f+((j:Int)+1)=f+1+j by omega]at this;exact bne_iff_ne.2 this
   have u:cw .i64 (f+1+(j:Int)+1)=f+1+((j+1:Nat):Int):=by rw[aB (by omega)];omega
   simp only[q,u,RN,r,B];exact vF (μ:=fun j:Nat=>(E - j).toNat) (a:=j) (E:=fun j:Nat=>⟨[(7,pI (f+1+j))],⟨[some [pI c.ep, .d (sF (c.cy.map au))],some [pI m.n,pI m.d,pI m.ad]],[1,0],[]⟩⟩) (P:=fun j:Nat=>(j:Int)+1<=E) (j+1) (by omega) rfl (by omega)
 ·have z:(yA m (b+(i:Int)) !=13)=true:=bne_iff_ne.2 (w _ (by omega) (by omega))
  have k:cw .i64 (b+(i:Int)+1)=b+((i+1:Nat):Int):=by rw[aB (by omega)];omega
  simp only[z,k,RN,r,B];exact vF (μ:=fun i:Nat=>(f - b - i).toNat) (a:=i) (E:=fun i:Nat=>⟨[(4, .d (.aV [dI m.n,dI m.d,dI m.ad])),(7,pI (b+i))],⟨[some [pI c.ep, .d (sF (c.cy.map au))],some [pI m.n,pI m.d,pI m.ad]],[1,0],[]⟩⟩) (P:=fun i:Nat=>b+(i:Int)<=f) (i+1) (by omega) rfl (by omega)
def ZH (c:Cal)(m:iw)(f:Fs)(y:Int)(hc:c.ok=true)(k:m.ok=true)(d:0<=y/\y<=4000)(hf:f.bad=false):Pure C 286 [c.dv,m.dv,f.dv,dI y] (pI (lM c m y f)) []:=by
 obtain⟨n,i⟩:=Fs.facts hf;have g:=afA c m y hc k d;have l:=V3 c m y hc d;have h:=ak3 c hc ⟨y,f.mo,f.da⟩;refine ah Ej qO ?_;rw[dZ,iO]at g;rw[dZ,oG]at h;rw[dZ,iO,EP];simp only[Ej,qO,RN,r,B,J];cases a:f.mv
 ·have e:=aie c hc ⟨y,f.mo,f.da⟩ d (i a).1 (i a).2
  rw[dZ,oG]at e;(try simp only[RN,r,B,H,J]);refine ak h ?_;cases b:kG c ⟨y,f.mo,f.da⟩
  ·(try simp only[RN,r,B])
   simp[lM,a,b]
  ·(try simp only[RN,r,B,J])
   refine ak e ?_;(try simp only[RN,r,B,F,H,I,J]);simp[lM,a,b]
 ·have:=n a
  have j:cw .i64 (sunday c m y+f.af)=sunday c m y+f.af:=aB (by omega);(try simp only[RN,r,B,J]);refine ak g ?_;simp only[j,RN];simp[lM,a]
def Xn (c:Cal)(m:iw)(l:List Fs)(y:Int)(hc:c.ok=true)(o:m.ok=true)(p:0<=y/\y<=4000)(hl:l.length<=6)(hf:∀f∈l,f.bad=false):
  Pure C 232 [c.dv,m.dv,sF (l.map Fs.dv),dI y] (.d (sF ((l.map (lM c m y)).map au))) []:=by
 refine bG (aC BG qO ?_);have e:=fun f hf=>ZH c m f y hc o p hf
 rw[dZ,iO]at e⊢;simp only[BG,qO,RN,r,B,I];refine aG l.length (fun i (_:Unit)=>⟨[(2, .d (sF (l.map Fs.dv))),(3,pI y),(4, .d (.aV [dI c.ep,sF (c.cy.map au)])),(5, .d (.aV [dI m.n,dI m.d,dI m.ad])),(9, .tsl 1 i 0),(10,pI i)],
  ⟨[some [pI c.ep, .d (sF (c.cy.map au))],some [pI m.n,pI m.d,pI m.ad]],[1,0],[some ⟨1,[],0,0⟩,some ⟨1,((l.take i).map (lM c m y)).map au,i,0⟩]⟩⟩)
  (fun i _=>True) 0 () (V _) rfl trivial (fun i _ a _=> ?_) (fun _ _=> ?_)
 ·obtain⟨g,j,k⟩:=rng a (by omega)
  have h:=e _ (hf _ (getD_mem a));have b:((l.take i).map (lM c m y)).map au++ [dI (lM c m y (l.getD i default))]=((l.take (i+1)).map (lM c m y)).map au:=by
   rw[aU a];simp[au]
  rw[EP]at h;simp only[g,j,a,EP,getD_map,Q,O,RN,r,B,J];refine ak h ?_;simp only[DV.strip,fits_int,forall_eq,O,RN,H,I,J];refine⟨by simp,by simp;omega,?_⟩;rw[b,k];exact dD () a rfl trivial (by simp) (by simp) rfl rfl
 ·simp only[X,O,RN,r,B]
  simp[datum,Mem.row]
def al1 (n:Int)(h:0<=n/\n<=1000000000000):Pure C 283 [dI n] (pI (upI n 100)) []:=by
 have a:cw .i64 (n+99)=n+99:=aB (by omega);have b1:=kU (n+99) 100;have b:cw .i64 ((n+99).tdiv 100)=(n+99).tdiv 100:=aB (by omega);have z:¬(100:Int)=0:=by decide
 refine ah Vz aN ?_;simp only[Vz,aN,a,b,z,RN,r];rw[upI,show n+100 - 1=n+99 by omega]
def TT:∀(l:List Int) (p:Int),dN l p=p+dN l 0
 | [],p=>by simp[dN]
 |x::l,p=>by rw[dN,dN,TT l (p+x),TT l (0+x)];omega
def ao4 {ts:List Int}(h:∀n∈ts,aI n=true):∀x∈ts.map (fun n=>n*n),0<=x/\x<=3600:=by
 intro x b;obtain⟨n,a,rfl⟩:=av.1 b;have:=h n a;simp only[aI,inR,U,decide_eq_true_eq]at this;have h1:=aR (show 0<=n by omega) (show 0<=n by omega);have h2:=ab (show n<=60 by omega) (show n<=60 by omega) (by omega) (by omega);omega
def acP:∀(l:List Int) (b:Int),(∀x∈l,0<=x/\x<=b)->0<=dN l 0/\dN l 0<=b*l.length
 | [],b,_=>by simp[dN]
 |x::l,b,h=>by
  have h1:=h x (by simp);have h2:=acP l b fun y a=>h y (by simp[a])
  rw[dN,TT,br];have:b*((l.length+1:Nat):Int)=b*l.length+b:=by
   rw[Int.natCast_add,Int.mul_add];simp
  omega
def afB (b:Bil)(hb:b.ok=true):Pure C 228 [b.dv] (pI b.price) []:=by
 have e:=hb;simp only[Bil.ok,pY,inR,U,decide_eq_true_eq,bq]at e;obtain⟨⟨⟨⟨⟨⟨L,H⟩,M⟩,N⟩,P⟩,k6⟩,R⟩:=e;have a:=ao4 H;obtain⟨j,k⟩:=acP _ 3600 a;rw[O]at k;obtain⟨S,g⟩:∃S,S=dN (b.dJ.map fun n=>n*n) 0:=⟨_,rfl⟩
 rw[<-g]at j k;have T:0<=S*b.gG/\S*b.gG<=28800*1000:=⟨aR j (by omega),ab (by omega) (by omega) (by omega) (by omega)⟩
 have W:0<=b.hours*b.lW/\b.hours*b.lW<=40*100:=⟨aR (by omega) (by omega),ab (by omega) (by omega) (by omega) (by omega)⟩
 have Z:=kU (S*b.gG+100 - 1) 100;have I:0<=(S*b.gG+100 - 1).tdiv 100:=Int.tdiv_nonneg (by omega) (by decide);have h:b.cost=upI (S*b.gG) 100+b.hours*b.lW:=by rw[Bil.cost,<-g]
 have f:0<=b.cost/\b.cost<=30000000:=by rw[h,upI];omega
 have Y:0<=b.cost*b.pct/\b.cost*b.pct<=30000000*100:=⟨aR f.1 (by omega),ab f.2 (by omega) (by omega) (by omega)⟩
 have u2:=kU (b.cost*b.pct+100 - 1) 100;have m:cw .i64 (S*b.gG)=S*b.gG:=aB (by omega);have o:cw .i64 (b.hours*b.lW)=b.hours*b.lW:=aB (by omega);have q:cw .i64 (upI (S*b.gG) 100+b.hours*b.lW)=b.cost:=by rw[h,aB (by rw[upI];omega)]
 have s:cw .i64 (b.cost*b.pct)=b.cost*b.pct:=aB (by omega);have t:cw .i64 (b.cost+upI (b.cost*b.pct) 100)=b.price:=by rw[Bil.price,aB (by rw[upI];omega)]
 have r1:=al1 (S*b.gG) (by omega);have r2:=al1 (b.cost*b.pct) (by omega);refine ah KG aN ?_;rw[I5];simp only[KG,aN,RN,r];refine aG b.dJ.length (fun i (_:Unit)=>⟨[(1, .d (.aV [sF (b.dJ.map au),dI b.gG,dI b.hours,dI b.lW,dI b.pct,dI b.adv])),(3, .d (dI (dN ((b.dJ.take i).map fun n=>n*n) 0))),(4,pI i)],
   ⟨[some [.d (sF (b.dJ.map au)),pI b.gG,pI b.hours,pI b.lW,pI b.pct,pI b.adv]],[0],[]⟩⟩)
  (fun i _=>True) 0 () (V _) rfl trivial (fun i _ c _=> ?_) (fun _ _=> ?_)
 ·obtain⟨w,z,A⟩:=rng c (by omega)
  have K:=a _ (av.2 ⟨_,getD_mem c,rfl⟩);have E:=acP ((b.dJ.take i).map fun n=>n*n) 3600 (fun x F=>a x (by
   obtain⟨n,D,rfl⟩:=av.1 F;exact av.2 ⟨n,ap D,rfl⟩))
  rw[O,ae]at E;have u:cw .i64 (b.dJ.getD i default*b.dJ.getD i default)=b.dJ.getD i default*b.dJ.getD i default:=aB (by omega);have v:cw .i64 (dN ((b.dJ.take i).map fun n=>n*n) 0+b.dJ.getD i default*b.dJ.getD i default)=dN ((b.dJ.take (i+1)).map fun n=>n*n) 0:=by
   rw[aU c,a7,List.map_cons,List.map_nil];have:∀(l:List Int) (x p:Int),dN (l++ [x]) p=dN l p+x:=by
    intro l x
    induction l with
    |nil=>intro p;simp[dN]
    |cons y l G=>intro p;rw[b7,dN,dN,G]
   rw[this,aB (by omega)]
  simp only[w,z,c,getD_map,aH,Q,O,u,v,A,RN,r,B,J];exact aX () c rfl trivial
 ·rw[ao,<-g]
  simp only[X,O,m,RN,r,B,J];refine ak r1 ?_;simp only[o,q,s,RN];refine ak r2 ?_;simp only[t,RN]
def alb (a b:Nat):Pure C 334 [dI a,dI b] (pI (bd a b:Nat)) []:=by
 refine ah yJ aK ?_;simp only[yJ,aK,RN,r,B];refine iE (fun(q:Nat×Nat)=>⟨[(0,pI q.1),(1,pI q.2)],⟨[],[],[]⟩⟩) (fun q=>bd q.1 q.2=bd a b) (fun q=>q.2) (a,b) rfl rfl (fun q e=> ?_)
 by_cases g:q.2=0
 ·have c:¬((q.2:Int)>0):=by omega
  simp only[c,RN,r];rw[<-e,g,Nat.gcd_zero_right]
 ·have c:((q.2:Int)>0):=by omega
  have d:((q.2:Int)≠0):=by omega
  have f:(q.1:Int).tmod (q.2:Int)=((q.1 % q.2:Nat):Int):=(ck q.1 q.2).symm;simp only[c,d,f,RN,r];exact MC (q.2,q.1 % q.2) (bR _ (by omega)) rfl (by simp only;rw[cr,<-Nat.gcd_rec,cr];exact e) (by simp) (by simp) rfl rfl
def SG (a b:Nat)(j:a<=4611686018427387904)(hb:b<=4611686018427387904)(h:0<b):Pure C 307 [.agg [dI a,dI b]] (.d (zU a b).dv) []:=by
 refine ah FI Pz ?_;have i:((bd a b:Nat):Int)≠0:=by
  have:0<bd a b:=Nat.gcd_pos_of_pos_right _ h;omega
 have c:(a:Int).tdiv (bd a b:Nat)=((a / bd a b:Nat):Int):=(bw a _).symm;have e:(b:Int).tdiv (bd a b:Nat)=((b / bd a b:Nat):Int):=(bw b _).symm;have f:cw .i64 ((a:Int).tdiv (bd a b:Nat))=((a / bd a b:Nat):Int):=by
  rw[c];exact Qd (a6 (cg _ _) (by omega))
 have g:cw .i64 ((b:Int).tdiv (bd a b:Nat))=((b / bd a b:Nat):Int):=by
  rw[e];exact Qd (a6 (cg _ _) (by omega))
 simp only[FI,Pz,RN,r,B,J];refine ak (alb a b) ?_;simp only[i,f,g,bK,zU,RN,r,B,H,J]
def Md {l:List Pr}(h:∀p∈l,p.ok=true):∀p∈l,(4<=p.a/\p.a<=60)/\4<=p.b/\p.b<=60:=by
 intro p c;have:=h p c;simp only[Pr.ok,aI,inR,U,decide_eq_true_eq]at this;omega
def ZN (l:List Pr)(hl:l.length<=3)(j:∀p∈l,p.ok=true):Pure C 287 [sF (l.map Pr.dv)] (.d (bQ l).dv) []:=by
 have k:=fun i=>Mc (l:=l.take i) (by rw[ae];omega) (Md fun p h=>j p (ap h))
 have g:=Mc hl (Md j);refine ah KA Pz ?_;simp only[KA,Pz,RN,r,B,J];refine aG l.length (fun i (_:Unit)=>⟨[(0, .d (sF (l.map Pr.dv))),(2, .ptr 0 0),(3, .ptr 1 0),(4,pI i)],
   ⟨[some [pI 0,pI 0],some [.d (dI (gu (l.take i)).n), .d (dI (gu (l.take i)).d)]],[],[]⟩⟩)
  (fun i _=>True) 0 () (V _) rfl trivial (fun i _ c _=> ?_) (fun _ _=> ?_)
 ·obtain⟨s,t,u⟩:=rng c (by omega)
  have w:=Md j _ (getD_mem c);have h1:=k i;have h2:=k (i+1);have m:gu (l.take (i+1))=mulR (gu (l.take i)) (l.getD i default):=by rw[aU c,Sr]
  have e:(1<=(gu (l.take (i+1))).n/\(gu (l.take (i+1))).n<=216000)/\1<=(gu (l.take (i+1))).d/\(gu (l.take (i+1))).d<=216000:=h2;rw[m]at e;simp only[mulR]at e;have o:cw .i64 ((gu (l.take i)).n*(l.getD i default).a)=(gu (l.take i)).n*(l.getD i default).a:=aB (by omega);have q:cw .i64 ((gu (l.take i)).d*(l.getD i default).b)=(gu (l.take i)).d*(l.getD i default).b:=aB (by omega);simp only[s,t,c,getD_map,kP,Q,O,o,q,u,RN,r,B,I,J];exact aX () c (by rw[m];rfl) trivial
 ·rw[ao]
  have aoj:(1<=(gu l).n/\(gu l).n<=216000)/\1<=(gu l).d/\(gu l).d<=216000:=g;have f:=SG (gu l).n.natAbs (gu l).d.natAbs (by omega) (by omega) (by omega);rw[show(((gu l).n.natAbs:Nat):Int)=(gu l).n by omega,show(((gu l).d.natAbs:Nat):Int)=(gu l).d by omega]at f;have v:zU (gu l).n.natAbs (gu l).d.natAbs=bQ l:=rfl;rw[v,bK]at f;rw[bK];simp only[X,O,RN,r,B,J];refine ak f ?_;(try simp only[RN,B,J])
def anL (l:List Pr)(f:Fr)(turns:Int)(hl:l.length<=3)(j:∀p∈l,p.ok=true)(hf:f.ok=true)(I:0<=turns/\turns<=10000):Pure C 282 [sF (l.map Pr.dv),f.dv,dI turns] (pI (ab5 l f turns)) []:=by
 obtain⟨b1,m⟩:=Ho hl (Md j);have E:(0<=f.n/\f.n<=50000)/\1<=f.d/\f.d<=50000:=by simp only[Fr.ok,inR,U,decide_eq_true_eq]at hf;omega
 have e:=ZN l hl j;rw[bK]at e;obtain⟨x,k⟩:∃x,x=bQ l:=⟨_,rfl⟩
 rw[<-k]at e b1 m;have K:0<=x.n*f.d/\x.n*f.d<=216000*50000:=⟨aR (by omega) (by omega),ab (by omega) (by omega) (by omega) (by omega)⟩
 have L:0<=f.n*x.d/\f.n*x.d<=50000*216000:=⟨aR (by omega) (by omega),ab (by omega) (by omega) (by omega) (by omega)⟩
 have F:((x.n*f.d - f.n*x.d)*turns).natAbs<=10800000000*10000:=by
  rw[cj];exact be (by omega) (by omega)
 have G:1<=x.d*f.d/\x.d*f.d<=216000*50000:=by
  have h1:=ab (show 1<=x.d by omega) (show 1<=f.d by omega) (by omega) (by omega);have h2:=ab (show x.d<=216000 by omega) (show f.d<=50000 by omega) (by omega) (by omega);omega
 have o:cw .i64 (x.n*f.d)=x.n*f.d:=aB (by omega);have q:cw .i64 (f.n*x.d)=f.n*x.d:=aB (by omega);have s:cw .i64 (x.n*f.d - f.n*x.d)=x.n*f.d - f.n*x.d:=aB (by omega);have t:cw .i64 ((x.n*f.d - f.n*x.d)*turns)=(x.n*f.d - f.n*x.d)*turns:=aB (by omega);have u:cw .i64 ((x.n*f.d - f.n*x.d)*turns*21600)=(x.n*f.d - f.n*x.d)*turns*21600:=aB (by omega);have v:cw .i64 (x.d*f.d)=x.d*f.d:=aB (by omega);have i:Pure C 306 [sF (l.map Pr.dv), .agg [dI f.n,dI f.d],dI turns] (.d (.tup [dI ((x.n*f.d - f.n*x.d)*turns*21600),dI (x.d*f.d)])) []:=by
  refine ah RU Iy ?_;simp only[RU,Iy,RN,r,B];refine ak e ?_;simp only[o,q,s,t,u,v,RN,r,B,H,J]
 have b:ab5 l f turns=((x.n*f.d - f.n*x.d)*turns*21600).tdiv (x.d*f.d):=by
  rw[ab5,kK,<-k];simp only[Ym];rw[cp,cp,Int.mul_comm 21600 turns]
 obtain⟨N,g⟩:∃N,N=(x.n*f.d - f.n*x.d)*turns*21600:=⟨_,rfl⟩
 obtain⟨a,c⟩:∃a,a=x.d*f.d:=⟨_,rfl⟩
 have nb:N.natAbs<=10800000000*10000*21600:=by
  rw[g,cj];exact be F (by decide)
 rw[<-g,<-c]at i b;rw[<-c]at G;have M:=kU N a;have O:=kU (-N) a;have z:a≠0:=by omega
 have w:cw .i64 (0 - N)= -N:=by rw[aB (by omega)];omega
 have y:cw .i64 ((-N).tdiv a)=(-N).tdiv a:=aB (by omega);have A:cw .i64 (0 - (-N).tdiv a)=N.tdiv a:=by rw[aB (by omega),Int.neg_tdiv];omega
 have D:cw .i64 (N.tdiv a)=N.tdiv a:=aB (by omega);refine ah RS Ar ?_;rw[bK];simp only[RS,Ar,RN,r,B,J];refine ak i ?_;(try simp only[RN])
 by_cases h:N<0
 ·simp only[h,w,y,A,z,b,RN,r]
 ·simp only[h,D,z,b,RN,r]
def LC (p:Pc)(f:p.ok=true){a:Nat}(b:a<=p.links.length):Pure C 235 [p.dv,dI (a:Nat)] (.d (bQ (aP p.links a)).dv) []:=by
 have g:=Pc.good f;have c:=SH p g.lk (by have:=g.l2;omega) b;have e:=ZN (aP p.links a) (by rw[aP,O];exact g.short a b) (qc g.lk g.pr b);refine ah OZ Aq ?_;rw[dA]at c⊢;rw[bK]at e⊢;simp only[OZ,Aq,RN,r,B,J];refine ak c ?_;(try simp only[RN,r,B,F,H,I,J]);refine ak e ?_;(try simp only[RN,B,H,J])
def Ji (p:Pc)(c:Chg)(hl:p.links.length<=1000)(a:0<=c.link)(h1:c.link.toNat<p.links.length):Pure C 88 [p.dv,c.dv] (.d (p.changed c).dv) []:=by
 refine bG (aC FM Aq ?_);have b:p.links.map Lk.dv≠[]:=by intro h;simp at h;rw[h]at h1;simp at h1
 simp only[FM,Aq,dA,jI,RN,r,B,H,I,J];refine⟨adl _,b,by simp,by simp;omega,?_⟩;simp only[dX,fB,a,h1,O,RN,B,J];refine zN rfl rfl (by decide) rfl rfl (by rw[getD_map h1,qh];exact ai 3) ?_;simp only[getD_map h1,qh,setCells,bI,eU,ig,fB,RN,B,H,J];simp only[datum,bY,dY,Mem.row,Pc.changed,List.map_set,qh];simp
def Uz (p:Pc)(c:Chg)(i:Nat):(((bh (i+1)).filter fun i=>decide (bQ (aP p.links (p.hands.getD i default).toNat)≠bQ (aP (p.changed c).links (p.hands.getD i default).toNat))).map fun(i:Nat)=>(i:Int))=
  (((bh i).filter fun i=>decide (bQ (aP p.links (p.hands.getD i default).toNat)≠bQ (aP (p.changed c).links (p.hands.getD i default).toNat))).map fun(i:Nat)=>(i:Int))++if bQ (aP p.links (p.hands.getD i default).toNat)≠bQ (aP (p.changed c).links (p.hands.getD i default).toNat)then[(i:Int)]else[]:=by
 rw[List.range_succ,List.filter_append,a7]
 congr 1
 rw[List.filter_cons,List.filter_nil]
 by_cases h:bQ (aP p.links (p.hands.getD i default).toNat)≠bQ (aP (p.changed c).links (p.hands.getD i default).toNat)
 ·rw[if_pos (decide_eq_true h),if_pos h];rfl
 ·rw[if_neg (by rw[decide_eq_true_iff];exact h),if_neg h];rfl
def zL (p:Pc)(c:Chg)(n:Nat):List Int:=((bh n).filter fun i=>decide (bQ (aP p.links (p.hands.getD i default).toNat)≠bQ (aP (p.changed c).links (p.hands.getD i default).toNat))).map fun(i:Nat)=>(i:Int)
def XH (p:Pc)(c:Chg)(n:Nat):(zL p c n).length<=n:=by
 rw[zL,O];exact a6 (List.length_filter_le _ _) (by simp)
def WJ {C:Ctx}{base:Nat}{M:Mem}{K:PV->Mem->Prop}{KP:DV->Mem->Prop}{d:Int}:ay C base (.AL true [1,1]) [.d (.agg [dI a,dI b]), .d (.agg [dI c,dI d])] M K KP=K (.d (.bool (!((a==c)&&(b==d))))) M:=by
 simp[ay,fA]
def afC (p:Pc)(c:Chg)(t:p.ok=true)(hc:c.pr.ok=true)(D:0<=c.link)(h1:c.link.toNat<p.links.length):Pure C 225 [p.dv,c.dv] (.d (sF ((nU p c).map au))) []:=by
 have g:=Pc.good t;have G:=rV t hc;have l:=Ji p c (by have:=g.l2;omega) D h1;have y:=fun{a:Nat} (s:a<=p.links.length)=>LC p t s
 have e:=fun{a:Nat} (s:a<=(p.changed c).links.length)=>LC (p.changed c) G s
 have E:(p.changed c).links.length=p.links.length:=by simp[Pc.changed]
 rw[E]at e;obtain⟨q,f⟩:∃q,q=p.changed c:=⟨_,rfl⟩
 have K:q.hands=p.hands:=by rw[f];rfl
 rw[<-f]at l e;rw[dA (p:=q)]at l e;rw[dA]at l y;rw[jI]at l;have L:∀n,zL p c n=((bh n).filter fun i=>decide (bQ (aP p.links (p.hands.getD i default).toNat)≠bQ (aP q.links (p.hands.getD i default).toNat))).map fun(i:Nat)=>(i:Int):=fun n=>by rw[f];rfl
 refine bG (aC Ih aK ?_);rw[dA,jI];simp only[Ih,aK,RN,r,B,I,J];refine ak l ?_;(try simp only[RN,r,B,H,J]);refine aG p.hands.length (fun i (v:Nat)=>⟨[(2, .d (.aV [sF (p.links.map Lk.dv),sF (p.hands.map au)])),(5, .tsl 1 v 0),(6, .d (.aV [sF (q.links.map Lk.dv),sF (q.hands.map au)])),(7,pI i)],
   ⟨[some [.d (sF (p.links.map Lk.dv)), .d (sF (p.hands.map au))],some [pI c.link,pI c.pr.a,pI c.pr.b],some [.d (sF (q.links.map Lk.dv)), .d (sF (q.hands.map au))]],[2,1,0],[some ⟨1,[],0,0⟩,some ⟨1,(zL p c i).map au,v,0⟩]⟩⟩)
  (fun i _=>True) 0 0 (V _) rfl trivial (fun i v k _=> ?_) (fun v _=> ?_)
 ·obtain⟨u,w,x⟩:=rng k (by have:=g.h2;omega)
  have M:=g.hd _ (getD_mem k);have j:zL p c (i+1)=zL p c i++if bQ (aP p.links (p.hands.getD i default).toNat)≠bQ (aP q.links (p.hands.getD i default).toNat)then[(i:Int)]else[]:=by rw[f];exact Uz p c i
  have A:=XH p c i;have r1:=y (a:=(p.hands.getD i default).toNat) (by omega);have r2:=e (a:=(p.hands.getD i default).toNat) (by omega);rw[show(((p.hands.getD i default).toNat:Nat):Int)=p.hands.getD i default by omega,bK]at r1 r2;generalize bQ (aP p.links (p.hands.getD i default).toNat)=u1 at*;generalize bQ (aP q.links (p.hands.getD i default).toNat)=u2 at*;simp only[u,w,k,getD_map,aH,Q,O,RN,r,B,J];refine ak r1 ?_
  try simp only[u,w,k,getD_map,aH,Q,O,RN,r,B,F,H,I,J]
  refine ak r2 ?_;simp only[WJ]
  by_cases o:u1=u2
  ·have z:((u1.n==u2.n)&&(u1.d==u2.d))=true:=by rw[o];simp
   rw[if_neg (by simp[o]),bc]at j;simp only[z,x,RN,r,B];rw[<-j];exact dD v k rfl trivial (by simp) (by simp) rfl rfl
  ·have z:((u1.n==u2.n)&&(u1.d==u2.d))=false:=by
    rw[Bool.eq_false_iff];intro h;simp only[U,beq_iff_eq]at h;apply o;cases u1;cases u2;simp only at h;rw[h.1,h.2]
   rw[if_pos o]at j;simp only[z,DV.strip,fits_int,forall_eq,O,x,RN,r,B,H,I,J];refine⟨by simp,by have:=g.h2;omega,?_⟩;refine dD (v+1) k ?_ trivial (by simp) (by simp) rfl rfl;rw[j,a7];rfl
 ·have m:zL p c p.hands.length=nU p c:=rfl
  simp only[X,O,RN,r,B,J];rw[m];simp[datum,Mem.row]
def acu (n:Int):Pure C 145 [dI n] (.d (.bool (inR n 1 400))) []:=by
 refine ah Le aN ?_;simp only[Le,aN,RN,r]
 repeat' first
  |(refine ak (Xr _ _ _) ?_;try simp only[])
  |(refine bF (by rfl) (fun a=> ?_) (fun a=> ?_)<;>simp only[a,RN,r,B,F,H,I,J])
  |(refine bM (by rfl) (fun a=> ?_) (fun a=> ?_)<;>simp only[a,RN,r,B,F,H,I,J])
 all_goals(first|(simp only[inR, *,BSN];done)|(simp_all[inR];done)|(simp_all[inR];omega))
def air (d:Dvd)(i:Nat)(t:Int)(b:1<=d.dK/\d.dK<=60)(hi:i<d.cir.length)(hc:1<=d.cir.getD i default/\d.cir.getD i default<=120)(g:1<=t):Pure C 234 [d.dv,dI i,dI t] (.d (.bool (IW d.dK (d.cir.getD i default) t))) []:=by
 have a:(0:Int)<=(i:Int):=by omega
 have f:1<=d.dK*d.cir.getD i default/\d.dK*d.cir.getD i default<=7200:=by
  have h1:=ab b.2 hc.2 (by omega) (by omega);have h2:=ab b.1 hc.1 (by omega) (by omega);omega
 have c:cw .i64 (d.dK*d.cir.getD i default)=d.dK*d.cir.getD i default:=aB (by omega);have e:t≠0:=by omega
 refine ah Sl Ar ?_;simp only[Sl,Ar,rW,hi,a,getD_map,Q,O,aH,c,e,IW,RN,r,B,J]
def VK (d:Dvd)(t:Int)(hd:d.ok=true)(p:1<=t):Pure C 146 [d.dv,dI t] (.d (.tup [(ae9 (d.first t)).dv, .bool (d.first t).isSome])) []:=by
 obtain⟨f,v,e⟩:=Dvd.J7 hd;refine ah Ph Gi ?_;have aof:=fun(i:Nat) (h:i<d.cir.length)=>air d i t f h (e _ (getD_mem h)) p
 rw[rW]at aof⊢;simp only[Ph,Gi,RN,r,B];refine aG d.cir.length (fun i (_:Unit)=>⟨[(1,pI t),(2, .d (.aV [dI d.dK,sF (d.cir.map au)])),(4, .ptr 1 0),(6,pI i)],⟨[some [pI d.dK, .d (sF (d.cir.map au))],some [pI 0,pI 0,pI 0]],[0],[]⟩⟩)
  (fun i _=>d.first t=xX d.dK t i (d.cir.drop i)) 0 () (V _) rfl rfl (fun i _ b a=> ?_) (fun _ a=> ?_)
 ·obtain⟨m,n,o⟩:=rng b (by omega)
  rw[drop_cons b,xX]at a;have c:=e _ (getD_mem b);have w:1<=d.dK*d.cir.getD i default/\d.dK*d.cir.getD i default<=7200:=by
   have h1:=ab f.2 c.2 (by omega) (by omega);have h2:=ab f.1 c.1 (by omega) (by omega);omega
  have j:cw .i64 (d.dK*d.cir.getD i default)=d.dK*d.cir.getD i default:=aB (by omega);have b1:((d.dK*d.cir.getD i default).tdiv t).natAbs<=7200:=by
   have:=kU (d.dK*d.cir.getD i default) t;omega
  have k:cw .i64 ((d.dK*d.cir.getD i default).tdiv t)=(d.dK*d.cir.getD i default).tdiv t:=aB (by omega);have u:(((d.dK*d.cir.getD i default).tdiv t).tdiv (d.cir.getD i default)).natAbs<=7200:=by
   have:=kU ((d.dK*d.cir.getD i default).tdiv t) (d.cir.getD i default);omega
  have l:cw .i64 (((d.dK*d.cir.getD i default).tdiv t).tdiv (d.cir.getD i default))=((d.dK*d.cir.getD i default).tdiv t).tdiv (d.cir.getD i default):=aB (by omega);have q:t≠0:=by omega
  have s:d.cir.getD i default≠0:=by omega
  simp only[m,O,RN,r,B,J];refine ak (aof i b) ?_;cases g:IW d.dK (d.cir.getD i default) t
  ·rw[g]at a
   simp only[o,RN,r,B];exact aX () b rfl a
  ·rw[g,if_pos rfl]at a
   simp only[n,b,getD_map,aH,Q,O,j,k,l,q,s,RN,r,B,H,J];rw[a]
   rfl
 ·rw[Z,xX]at a
  simp only[X,O,RN,r,B,H,J];rw[a]
  rfl
def aik (a b:Int):Pure C 229 [dI a,dI b] (.d (.bool (aI a&&aI b&&decide (a<=b)))) []:=by
 refine ah KH aK ?_;simp only[KH,aK,RN,r,B];refine ak (zH a) ?_;cases h1:aI a
 ·simp only[W,RN,r]
 (try simp only[RN,r]);refine ak (zH b) ?_;cases h2:aI b
 ·simp only[W,RN,r]
 (try simp only[RN,r])
def aoZ (a b:Pr):(!((a.a==b.a)&&(a.b==b.b)))= !decide (a=b):=by
 cases a;cases b;simp only[Pr.mk.injEq];rw[bt];simp
def afz (p:Pc)(c:Chg)(hl:p.links.length<=1000)(e:0<=c.link)(h1:c.link.toNat<p.links.length)(hc:c.pr.ok=true):Pure C 308 [p.dv,c.dv] (.d (.bool (!decide ((p.links.getD c.link.toNat default).pr=c.pr)))) []:=by
 have w:cw .i64 ((p.links.length:Int) - 1)=(p.links.length:Int) - 1:=aB (by omega);have a:=NK c.link 0 ((p.links.length:Int) - 1);rw[Jc (show 0<=c.link/\c.link<=(p.links.length:Int) - 1 by omega)]at a;have b:=adH c.pr;rw[hc,kP]at b;refine ah Ig aK ?_;rw[dA,jI];simp only[Ig,aK,O,w,RN,r,B,J];refine ak a ?_;(try simp only[RN,r,B,J]);refine ak b ?_;simp only[e,h1,O,getD_map,qh,WJ,aoZ,RN,r,B,J]
def alR (a b:Fr):(!((a.n==b.n)&&(a.d==b.d)))= !decide (a=b):=by
 cases a;cases b;simp only[Fr.mk.injEq];rw[bt];simp
def ZL (p q:Pc)(w:p.ok=true)(x:q.ok=true)(hl:q.links.length=p.links.length)(hand:Int)(E:0<=hand)(h1:hand.toNat<p.hands.length)(f:Fr)(hf:f.ok=true):Pure C 284 [p.dv,q.dv,dI hand,f.dv] (.d (.bool (kJ p q hand f))) []:=by
 have g:=Pc.good w;have L:=Pc.good x;have G:0<=f.n/\1<=f.d/\f.n<=50000/\f.d<=50000:=by
  have:(0<=f.n/\f.n<=50000)/\1<=f.d/\f.d<=50000:=by simpa[Fr.ok,inR]using hf
  omega
 have h:=SG f.n.natAbs f.d.natAbs (by omega) (by omega) (by omega);rw[show((f.n.natAbs:Nat):Int)=f.n by omega,show((f.d.natAbs:Nat):Int)=f.d by omega,bK]at h;have v:=fun(i:Nat) (l:i<p.hands.length)=>LC p w (a:=(p.hands.getD i default).toNat) (by have:=g.hd _ (getD_mem l);omega)
 have j:=fun(i:Nat) (l:i<p.hands.length)=>LC q x (a:=(p.hands.getD i default).toNat) (by have:=g.hd _ (getD_mem l);omega)
 have c:∀i,i<p.hands.length->(((p.hands.getD i default).toNat:Nat):Int)=p.hands.getD i default:=fun i l=>by have:=g.hd _ (getD_mem l);omega
 have o:=j hand.toNat h1;rw[c _ h1,bK,dA]at o;refine ah KI qO ?_;rw[dA,dA,bK,afT w x hl h1 hf,acO];simp only[KI,qO,E,h1,getD_map,aH,O,RN,r,B,J];refine ak o ?_;(try simp only[RN,r,B,F,H,I,J]);refine ak h ?_;simp only[WJ,alR];cases M:decide (bQ (aP q.links (p.hands.getD hand.toNat default).toNat)=zU f.n.natAbs f.d.natAbs)
 ·simp only[W,RN,r,B]
 (try simp only[RN,r,B]);refine aG p.hands.length (fun i (_:Unit)=>⟨[(2,pI hand),(4, .d (.aV [sF (p.links.map Lk.dv),sF (p.hands.map au)])),(5, .d (.aV [sF (q.links.map Lk.dv),sF (q.hands.map au)])),(9,pI i)],
   ⟨[some [.d (sF (p.links.map Lk.dv)), .d (sF (p.hands.map au))],some [.d (sF (q.links.map Lk.dv)), .d (sF (q.hands.map au))],some [pI f.n,pI f.d]],[2,1,0],[]⟩⟩)
  (fun i _=>((bh p.hands.length).all fun(i:Nat)=>decide ((i:Int)=hand)||decide (bQ (aP p.links (p.hands.getD i default).toNat)=bQ (aP q.links (p.hands.getD i default).toNat)))=((List.range' i (p.hands.length - i)).all fun(i:Nat)=>decide ((i:Int)=hand)||decide (bQ (aP p.links (p.hands.getD i default).toNat)=bQ (aP q.links (p.hands.getD i default).toNat)))) 0 () (V _) rfl (by rw[List.range_eq_range',Nat.sub_zero]) (fun i _ e b=> ?_) (fun _ b=> ?_)
 ·obtain⟨y,A,D⟩:=rng e (by have:=g.h2;omega)
  have s:=v i e;have t:=j i e;rw[c _ e,bK,dA]at s t;obtain⟨k,K⟩:∃k,p.hands.length - i=k+1:=⟨p.hands.length - i - 1,by omega⟩
  rw[K,List.range'_succ,bi]at b;have m:p.hands.length - (i+1)=k:=by omega
  simp only[y,O,RN,r,B,J]
  by_cases u:(i:Int)=hand
  ·have z:((i:Int) !=hand)=false:=by simp[u]
   rw[decide_eq_true u,bS,Y]at b;simp only[z,D,RN,r,B];exact aX () e rfl (by rw[m];exact b)
  ·have z:((i:Int) !=hand)=true:=by simp[u]
   rw[decide_eq_false u,bB]at b;simp only[z,A,e,getD_map,aH,Q,O,RN,r,B,J];refine ak s ?_
   try simp only[y,A,e,getD_map,aH,Q,O,RN,r,B,F,H,I,J]
   refine ak t ?_;simp only[WJ,alR];cases hd:decide (bQ (aP p.links (p.hands.getD i default).toNat)=bQ (aP q.links (p.hands.getD i default).toNat))
   ·rw[hd,W]at b
    simp only[b,RN,r,B]
   ·rw[hd,Y]at b
    simp only[D,RN,r,B];exact aX () e rfl (by rw[m];exact b)
 ·rw[Nat.sub_self]at b
  simp only[X,O,RN,r,B,J];rw[b]
  rfl
def QD (p:Pc)(link:Nat)(a:Int):∀(k:Nat) (b:Int),vH p link a (k+1) b=vH p link a k b++if(p.links.getD link default).pr=⟨a,b+k⟩then[]else[⟨link,⟨a,b+k⟩⟩]
 |0,b=>by
  simp only[vH,bc,bu,bp,bX]
  by_cases h:(p.links.getD link default).pr=⟨a,b⟩
  ·rw[if_pos h,if_pos h.symm]
  ·rw[if_neg h,if_neg fun e=>h e.symm]
 |k+1,b=>by
  rw[vH,QD p link a k (b+1),vH,aL,show b+1+(k:Int)=b+((k+1:Nat):Int) by omega]
def QB (p:Pc)(b:Int)(w link:Nat):∀(k:Nat) (a:Int),sO p b w link (k+1) a=sO p b w link k a++vH p link (a+k) w b
 |0,a=>by simp[sO]
 |k+1,a=>by
  rw[sO,QB p b w link k (a+1),sO,aL,show a+1+(k:Int)=a+((k+1:Nat):Int) by omega]
def QC (p:Pc)(a:Int)(w:Nat):∀(k link:Nat),iM p a w (k+1) link=iM p a w k link++sO p a w (link+k) w a
 |0,link=>by simp[iM]
 |k+1,link=>by
  rw[iM,QC p a w k (link+1),iM,aL,show link+1+k=link+(k+1) by omega]
def MS (p:Pc)(link:Nat)(a:Int):∀(k:Nat) (b:Int),(vH p link a k b).length<=k
 |0,_=>ai _
 |k+1,b=>by
  have:=MS p link a k (b+1);rw[vH,az]
  split<;>simp<;>omega
def MP (p:Pc)(b:Int)(w link:Nat):∀(k:Nat) (a:Int),(sO p b w link k a).length<=k*w
 |0,_=>V _
 |k+1,a=>by
  have:=MP p b w link k (a+1);have:=MS p link a w b;rw[sO,az,ct];omega
def MR (p:Pc)(a:Int)(w:Nat):∀(k link:Nat),(iM p a w k link).length<=k*(w*w)
 |0,_=>V _
 |k+1,link=>by
  have:=MR p a w k (link+1);have:=MP p a w link w a;rw[iM,az,ct];omega
def IK (p:Pc):List (Option (List PV)):=[some [.d (sF (p.links.map Lk.dv)), .d (sF (p.hands.map au))]]
def Ci (L:List Chg)(v:Nat):List (Option Arr):=[some ⟨3,[],0,0⟩,some ⟨3,L.map Chg.dv,v,0⟩]
def aib (p:Pc)(L:p.ok=true)(c e:Int)(hl:aI c=true)(K:aI e=true)(G:c<=e)(W:e - c<=10):Pure C 285 [p.dv,dI 0,dI c,dI e] (.d (sF ((iM p c (e - c+1).toNat p.links.length 0).map Chg.dv))) []:=by
 have g:=Pc.good L;have u:4<=c/\c<=60:=by simpa[aI,inR]using hl
 have aox:4<=e/\e<=60:=by simpa[aI,inR]using K
 obtain⟨w,o⟩:∃w:Nat,e - c+1=w:=⟨(e - c+1).toNat,by omega⟩
 have anp:w<=11:=by omega
 rw[o,Q];have t:=fun(i:Nat) (a b:Int) (n:i<p.links.length) (T:4<=a/\a<=60) (U:4<=b/\b<=60)=>afz p ⟨i,⟨a,b⟩⟩ (by have:=g.l2;omega) (by simp only;omega) (by simpa using n) (by simp[Pr.ok,aI,inR];omega)
 simp only[dA,jI,Q]at t;refine bG (aC KJ qO ?_);rw[dA];simp only[KJ,qO,RN,r,B,I];have h:∀i,i<=p.links.length->(iM p c w i 0).length<=605:=fun i n=>a6 (MR p c w i 0) (a6 (be (a6 n g.l2) (be anp anp)) (by decide))
 refine aG p.links.length (fun i (v:Nat)=>⟨[(2,pI c),(3,pI e),(4, .d (.aV [sF (p.links.map Lk.dv),sF (p.hands.map au)])),(9, .tsl 1 v 0),(10,pI i)],⟨IK p,[0],Ci (iM p c w i 0) v⟩⟩)
  (fun i _=>True) 0 0 (V _) rfl trivial (fun i v l _=> ?_) (fun v _=> ?_)
 ·obtain⟨D,N,E⟩:=rng l (by have:=g.l2;omega)
  simp only[D,O,RN,r,B,J];refine aG w (fun k (v:Nat)=>⟨[(2,pI c),(3,pI e),(4, .d (.aV [sF (p.links.map Lk.dv),sF (p.hands.map au)])),(9, .tsl 1 v 0),(10,pI i),(11,pI (c+k))],⟨IK p,[0],Ci (iM p c w i 0++sO p c w i k c) v⟩⟩)
   (fun i _=>True) 0 v (V _) (by rw[bp,bX,sO,bc]) trivial (fun k v M _=> ?_) (fun v _=> ?_)
  ·have q:c+(k:Int)<=e:=by omega
   have k6:cw .i64 (c+(k:Int)+1)=c+((k+1:Nat):Int):=by rw[aB (by omega)];omega
   simp only[q,RN,r];refine aG w (fun m (v:Nat)=>⟨[(2,pI c),(3,pI e),(4, .d (.aV [sF (p.links.map Lk.dv),sF (p.hands.map au)])),(9, .tsl 1 v 0),(10,pI i),(11,pI (c+k)),(12,pI (c+m))],⟨IK p,[0],Ci (iM p c w i 0++sO p c w i k c++vH p i (c+k) m c) v⟩⟩)
    (fun i _=>True) 0 v (V _) (by rw[bp,bX,vH,bc]) trivial (fun m v x _=> ?_) (fun v _=> ?_)
   ·have s:c+(m:Int)<=e:=by omega
    have A:cw .i64 (c+(m:Int)+1)=c+((m+1:Nat):Int):=by rw[aB (by omega)];omega
    have F:=t i (c+k) (c+m) l (by omega) (by omega);have f:=QD p i (c+k) m c;have S:(iM p c w i 0++sO p c w i k c++vH p i (c+k) m c).length<=1000:=by
     have h1:=h i (by omega);have h2:=MP p c w i k c;have P:=MS p i (c+k) m c;have R:k*w<=11*11:=be (by omega) anp;simp only[az];omega
    simp only[s,IK,Ci,RN,r,B,H,J];refine ak F ?_
    by_cases j:(p.links.getD i default).pr=⟨c+k,c+m⟩
    ·have z:(!decide ((p.links.getD i default).pr=⟨c+k,c+m⟩))=false:=by rw[decide_eq_true j];rfl
     rw[if_pos j,bc]at f;simp only[z,A,RN,r,B];refine fC 1 2 v x (by rw[f];rfl) trivial (by simp) (by simp) rfl rfl
    ·have z:(!decide ((p.links.getD i default).pr=⟨c+k,c+m⟩))=true:=by rw[decide_eq_false j];rfl
     rw[if_neg j]at f;simp only[z,A,DV.strip,O,RN,r,B,H,I,J];refine⟨by rintro y rfl;rfl,by simp,by omega,?_⟩;refine fC 1 2 (v+1) x ?_ trivial (by simp) (by simp) rfl rfl;simp only[f,<-aL,a7 (l₂:=[_])]
     rfl
   ·have s:¬c+(w:Int)<=e:=by omega
    have f:=QB p c w i k c;simp only[s,k6,RN,r];refine dD v M (by rw[f,aL];rfl) trivial (by simp[IK]) (by simp[Ci]) rfl rfl
  ·have q:¬c+(w:Int)<=e:=by omega
   have f:=QC p c w i 0;rw[cv]at f;simp only[q,E,RN,r];refine dD v l (by rw[f];rfl) trivial (by simp[IK]) (by simp[Ci]) rfl rfl
 ·simp only[X,O,IK,Ci,RN,r,B,J]
  simp[datum,Mem.row]
def aa9 (xs:List En):∀y∈xs.map En.dv,y.cells.length=2:=by
 intro y a;obtain⟨z,_,rfl⟩:=av.1 a;rw[dO];rfl
def Qe (xs:List Int):∀y∈xs.map au,y.cells.length=1:=by
 intro y a;obtain⟨z,_,rfl⟩:=av.1 a
 rfl
def Xo (s:Su)(hh:s.pc.hands.length<=1000)(n:Int):Pure C 135 [s.dv,dI n] (.d (.bool (inR n 0 ((s.pc.hands.length:Int) - 1)))) []:=by
 have a:cw .i64 ((s.pc.hands.length:Int) - 1)=(s.pc.hands.length:Int) - 1:=aB (by omega);refine ah O6 aK ?_;rw[dF];simp only[O6,aK,O,a,RN,r,B,J];refine ak (ZV _ _ _) ?_;(try simp only[])
def Xp (s:Su)(hs:s.ok=true):Pure C 141 [s.dv] (.d (dI (o8 (s.cal.leap s.year)))) []:=by
 obtain⟨_,_,_,_,a,_⟩:=Su.facts hs;obtain⟨c,e,b⟩:=Cal.facts a;have h:=adC s.cal s.year (by omega) (fun n h=>by have:=b n h;omega);refine ah O1 aN ?_;rw[dZ]at h;rw[dF];simp only[O1,aN,RN,r,B,J];refine ak h ?_;(try simp only[])
def ZG (s:Su)(hs:s.ok=true)(n:Int):Pure C 139 [s.dv,dI n] (.d (.bool (inR n 1 (o8 (s.cal.leap s.year))))) []:=by
 have h:=Xp s hs;refine ah Si aK ?_;rw[dF]at h⊢;simp only[Si,aK,RN,r,B,J];refine ak h ?_;(try simp only[RN,r,B,F,H,I,J]);refine ak (ZV _ _ _) ?_;(try simp only[])
def ZO (s:Su)(hs:s.ok=true)(n:Int)(D:1<=n/\n<=1000):Pure C 142 [s.dv,dI n] (.d (.bool (s.works (s.first+n - 1)))) []:=by
 obtain⟨_,_,_,_,g,y,x,A,_⟩:=Su.facts hs;obtain⟨e,h⟩:=uo x;obtain⟨c,_,_⟩:=Cal.facts g;have h1:=SB s.cal g s.year.toNat (by omega);rw[show((s.year.toNat:Nat):Int)=s.year by omega]at h1;have h2:=Xn s.cal s.jG s.fs s.year g y A e h;have v:=s.cal.jC s.year.toNat;have j:s.first=s.cal.first s.year.toNat:=rfl;have b:s.dates=s.fs.map (lM s.cal s.jG s.year):=rfl;rw[<-j]at h1 v;rw[<-b]at h2;have p:cw .i64 (s.first+n)=s.first+n:=aB (by omega);have l:cw .i64 (s.first+n - 1)=s.first+n - 1:=aB (by omega);have m:=SI (s.first+n - 1) (by omega);obtain⟨N,o⟩:∃N,N=s.first+n - 1:=⟨_,rfl⟩
 rw[<-o]at l m;refine ah KX aK ?_;rw[dZ]at h1;rw[dZ,iO]at h2;rw[dF];simp only[KX,aK,RN,r,B,J];refine ak h1 ?_;simp only[p,<-o,l,RN];refine ak h2 ?_;simp only[];have w:s.dates.length<=6:=by rw[b,O];exact e
 refine aG s.dates.length (fun i (_:Unit)=>⟨[(5,pI N),(6, .d (sF (s.dates.map au))),(7,pI i)],⟨[some (s.cs.map .d)],[0],[]⟩⟩)
  (fun i _=>s.dates.contains N=(s.dates.drop i).contains N) 0 () (V _) rfl rfl (fun i _ f a=> ?_) (fun _ a=> ?_)
 ·obtain⟨q,t,u⟩:=rng f (by omega)
  rw[drop_cons f,List.contains_cons]at a;simp only[q,t,f,getD_map,aH,Q,O,RN,r,J]
  by_cases c:s.dates.getD i default=N
  ·have z:(s.dates.getD i default==N)=true:=by rw[c];exact beq_self_eq_true _
   have k:(N==s.dates.getD i default)=true:=by rw[c];exact beq_self_eq_true _
   rw[k,bS]at a;simp only[z,RN,r];simp only[Su.works,a,cm,aw]
  ·have z:(s.dates.getD i default==N)=false:=beq_false_of_ne c
   have k:(N==s.dates.getD i default)=false:=beq_false_of_ne (Ne.symm c);rw[k,bB]at a;simp only[z,u,RN,r];exact aX () f rfl a
 ·rw[Z]at a
  simp only[X,O,RN,r];refine ak m ?_;(try simp only[RN]);have:s.dates.contains N=false:=by rw[a];rfl
  simp only[Su.works,this,ch,bA,wd]
def aij (x:En)(h:3<=x.ns.length):Pure C 223 [x.dv] (.d (.agg [dI (x.n 1),dI (x.n 2)])) []:=by
 have a:(0:Int)<=1:=by omega
 have l1:1<x.ns.length:=by omega
 have b:(0:Int)<=2:=by omega
 have l2:2<x.ns.length:=by omega
 refine ah Pg Pz ?_;rw[dO];simp only[Pg,Pz,a,t1,l1,b,t2,l2,O,getD_map,aH,RN,r,B,H,J]
 rfl
def yK (s:Su)(l:List En):(bD s l).links.length=s.pc.links.length/\(bD s l).hands=s.pc.hands:=by
 induction l using ni with
 |h0=>exact⟨rfl,rfl⟩
 |h1 l x a=>
  rw[jF,qN]
  split
  ·exact⟨by simp[Pc.changed,a.1],a.2⟩
  ·exact a
variable{s:Su}
def BU (hs:s.ok=true)(l:List En)(hl:∀x∈l,x.Fit s):(bD s l).ok=true:=by
 induction l using ni with
 |h0=>exact(Su.facts hs).1
 |h1 l x a=>
  rw[jF,qN];have a:=a fun y b=>hl y (by simp[b])
  split
  ·rename_i k
   have hd:=(hl x (by simp)).df;rw[En.deed2 k]at hd;exact rV a hd.2
  ·exact a
variable{x:En}
def wR (h:x.Fit s):x.ns.length=gI x.kind:=by
 have:=h.fm;simp only[En.formed,U,decide_eq_true_eq]at this;exact this.1.2
def JK (h:x.Fit s)(k:x.kind=2):(0<=x.n 0/\(x.n 0).toNat<s.pc.links.length)/\x.chg.pr.ok=true:=by
 have hd:=h.df;rw[En.deed2 k]at hd;obtain⟨h1,h2⟩:=hd;have h1:inR (x.n 0) 0 ((s.pc.links.length:Int) - 1)=true:=h1;simp only[inR,U,decide_eq_true_eq]at h1;exact⟨by omega,h2⟩
def wL (s:Su)(hs:s.ok=true)(l:List En)(hl:∀x∈l,x.Fit s)(o:l.length<=1000):Pure C 137 [s.dv,sF (l.map En.dv)] (.d (bD s l).dv) []:=by
 have p:=(Pc.good (Su.facts hs).1).l2;have b:=fun i (x:En) (f:x.Fit s) (k:x.kind=2)=>Ji (bD s (l.take i)) x.chg (by rw[(yK _ _).1];omega) (JK f k).1.1 (by rw[(yK _ _).1];exact(JK f k).1.2)
 simp only[dA,jI]at b;refine ah KO Aq ?_;rw[dF];simp only[KO,Aq,RN,r,B,H,J];refine aG l.length (fun i (_:Unit)=>⟨[(1, .d (sF (l.map En.dv))),(4, .ptr 1 0),(5, .ptr 2 0),(6,pI i)],
   ⟨[some (s.cs.map .d),some [.d (.slice true []), .d (.slice true [])],some [.d (sF ((bD s (l.take i)).links.map Lk.dv)), .d (sF ((bD s (l.take i)).hands.map au))]],[0],[]⟩⟩)
  (fun i _=>True) 0 () (V _) rfl trivial (fun i _ a _=> ?_) (fun _ _=> ?_)
 ·obtain⟨m,g,h⟩:=rng a (by omega)
  have f:=hl _ (getD_mem a);have c:=wR f;have e:bD s (l.take (i+1))=qN (bD s (l.take i)) (l.getD i default):=by rw[aU a,jF]
  simp only[m,g,a,getD_map,dO,Q,O,RN,r,B,J]
  by_cases k:(l.getD i default).kind=2
  ·have z:((l.getD i default).kind==2)=true:=beq_iff_eq.2 k
   have t:(l.getD i default).ns.length=3:=by rw[c,k];rfl
   have j:=aij (l.getD i default) (by omega);have n:=b i _ f k;rw[dO]at j;have q:0<(l.getD i default).ns.length:=by omega
   simp only[z,g,a,getD_map,dO,Q,O,j0,t0,q,aH,RN,r,B,I,J];refine ak j ?_;(try simp only[RN,r,B,J]);refine ak n ?_;simp only[h,RN,B,H,J];exact aX () a (by rw[e,qN,if_pos k]) trivial
  ·have z:((l.getD i default).kind==2)=false:=beq_false_of_ne k
   simp only[z,h,RN,r,B];exact aX () a (by rw[e,qN,if_neg k]) trivial
 ·simp only[X,O,RN,r,B,H,J]
  rw[ao,dA]
def F6 (l:List Int)(n:Int):(pK l n).length=l.length+1:=by rw[(nJ l n).length_eq];rfl
def adB (n:Int):∀(l:List Int) (i:Nat),i<=l.length->(∀j,j<i->l.getD j default<=n)->pK l n=l.take i++pK (l.drop i) n
 |l,0,_,_=>by simp
 | [],i+1,h,_=>by simp at h
 |x::l,i+1,h,b=>by
  have a:=b 0 (by omega);simp only[a8]at a;rw[pK,if_pos a,bj,List.drop_succ_cons,b7,adB n l i (by simpa using h) fun j c=>by
   have:=b (j+1) (by omega)
   rwa [aq]at this]
def F8 (l:List Int)(n:Int)(u:l.length<=1000):Pure C 280 [sF (l.map au),dI n] (.d (sF ((pK l n).map au))) []:=by
 refine bG (aC Sj aK ?_);simp only[Sj,aK,RN,r,B,I];refine iE (fun i:Nat=>⟨[(0, .d (sF (l.map au))),(1,pI n),(5, .tsl 1 i 0),(6,pI i)],⟨[],[],[some ⟨1,[],0,0⟩,some ⟨1,(l.take i).map au,i,0⟩]⟩⟩)
  (fun i=>i<=l.length/\∀j,j<i->l.getD j default<=n) (fun i=>l.length - i) 0 rfl ⟨V _,fun j h=>by omega⟩ ?_
 rintro i ⟨t,o⟩;have g:=adB n l i t o;have f:(i=l.length\/(∃h:i<l.length,¬l.getD i default<=n))->(l.take i).map au++(dI n::(l.drop i).map au)=(pK l n).map au:=by
  intro h;rw[g]
  rcases h with rfl|⟨h,v⟩
  ·simp[pK,au]
  ·rw[drop_cons h,pK,if_neg v];simp[au]
 have p:(0:Int)<=(i:Int):=by omega
 have q:(i:Int)<=((l.map au).length:Int):=by rw[O];omega
 have c:(i=l.length\/(∃h:i<l.length,¬l.getD i default<=n))->datum ⟨[],[],[some ⟨1,[],0,0⟩,some ⟨1,(l.take i).map au++ [dI n]++(l.drop i).map au,i+1+1,0⟩]⟩ (.tsl 1 (i+1+1) 0)=some (sF ((pK l n).map au)):=by
  intro h;rw[<-f h];simp[datum,Mem.row]
 by_cases a:i<l.length
 ·obtain⟨k,m,s⟩:=rng a (by omega)
  by_cases b:l.getD i default<=n
  ·simp only[k,m,a,getD_map,aH,Q,O,b,fD,DV.strip,fits_int,forall_eq,RN,r,H,I,J]
   refine⟨by simp,by simp;omega,?_⟩;simp only[s];refine MC (i+1) (by omega) ?_ ⟨by omega,fun j h=> ?_⟩ (by simp) (by simp) rfl rfl
   ·rw[aU a,a7];rfl
   ·by_cases e:j=i
    ·rw[e];exact b
    ·exact o j (by omega)
  ·simp only[k,m,a,getD_map,aH,Q,O,b,fD,DV.strip,fits_int,forall_eq,RN,r,H,I,J]
   refine⟨by simp,by simp;omega,?_⟩;rw[wB (Qe l) p q,<-bE,Q];simp only[O,RN,H,I];refine⟨Fa _,by simp,by simp;omega,?_⟩;exact c (.inr ⟨a,b⟩)
 ·have w:¬(i:Int)<(l.length:Int):=by omega
  simp only[w,O,fD,DV.strip,fits_int,forall_eq,RN,r,H,I,J];refine⟨by simp,by simp;omega,?_⟩;rw[wB (Qe l) p q,<-bE,Q];simp only[O,RN,H,I];refine⟨Fa _,by simp,by simp;omega,?_⟩;exact c (.inl (by omega))
def TV (n:Int):∀(l:List Int) (i:Nat),i<=l.length->(∀j,j<i->l.getD j default≠n)->(n∈l↔n∈l.drop i)/\(∀_:i<l.length,l.getD i default=n->l.erase n=l.take i++l.drop (i+1))
 |l,0,_,_=>⟨by simp,fun h e=>by
  cases l with
  |nil=>simp at h
  |cons x l=>simp only[a8]at e;subst e;simp⟩
 | [],i+1,h,_=>by simp at h
 |x::l,i+1,h,b=>by
  have a:=b 0 (by omega);simp only[a8]at a;obtain⟨f,g⟩:=TV n l i (by simpa using h) fun j d=>by
   have:=b (j+1) (by omega)
   rwa [aq]at this
  refine⟨by simp[Ne.symm a,f],fun h1 e=> ?_⟩;rw[aq]at e;have c:¬(x==n)=true:=by simp[a]
  rw[List.erase_cons_tail c,g (by simpa using h1) e];simp
def LD (l:List Int)(n:Int)(p:l.length<=1000):Pure C 281 [sF (l.map au),dI n] (.d (.tup [sF ((dH l n).1.map au), .bool (dH l n).2])) []:=by
 refine bG (aC KW bW ?_);simp only[KW,bW,RN,r,B,I];refine aG l.length (fun i (_:Unit)=>⟨[(0, .d (sF (l.map au))),(1,pI n),(6,pI i)],⟨[],[],[some ⟨1,[],0,0⟩]⟩⟩)
  (fun i _=>∀j,j<i->l.getD j default≠n) 0 () (V _) rfl (fun j h=>by omega) (fun i _ b a=> ?_) (fun _ a=> ?_)
 ·obtain⟨m,o,k⟩:=rng b (by omega)
  obtain⟨t1,t2⟩:=TV n l i (by omega) a;simp only[m,o,b,getD_map,aH,Q,O,RN,r,J]
  by_cases c:l.getD i default=n
  ·have z:(l.getD i default==n)=true:=by rw[c];exact beq_self_eq_true _
   have q:(0:Int)<=(i:Int):=by omega
   have s:(i:Int)<=((l.map au).length:Int):=by rw[O];omega
   have t:(0:Int)<=((i+1:Nat):Int):=by omega
   have u:((i+1:Nat):Int)<=((l.map au).length:Int):=by rw[O];omega
   have f:n∈l:=by rw[<-c];exact getD_mem b
   have g:dH l n=(l.take i++l.drop (i+1),true):=by rw[dH,if_pos f,t2 b c]
   simp only[z,RN,r];rw[wz (Qe l) q s,<-bL,Q];simp only[O,RN,I];refine⟨Fa _,by simp,by simp,by simp;omega,?_⟩;simp only[k];rw[wB (Qe l) t u,<-bE,Q];simp only[O,RN,H,I];refine⟨Fa _,by simp,by simp;omega,?_⟩;rw[g];simp[datum,bY,dY,Mem.row,aau,ji]
  ·have z:(l.getD i default==n)=false:=beq_false_of_ne c
   simp only[z,k,RN,r];refine aX () b rfl fun j v=> ?_
   by_cases e:j=i
   ·rw[e];exact c
   ·exact a j (by omega)
 ·obtain⟨t1,_⟩:=TV n l l.length (ai _) a
  rw[Z]at t1;have f:n∉l:=fun e=>by simpa using t1.1 e
  have g:dH l n=(l,false):=by rw[dH,if_neg f]
  simp only[X,O,RN,r];rw[g];rfl
end Go.Tel
namespace Go.Am
def ami {C:Ctx}{M:Mem}{K:PV->Mem->Prop}{base:Nat}{KP:DV->Mem->Prop}{f:FuncId}{args:List PV}{ds ds':List DV}{x:DV}(h1:dL M args=some ds)(h2:ds.map DV.strip=ds')(b:Pure C f ds' (.d x) [])(a:∀M',K (.d x) M'):ay C base (.uO f) args M K KP:=
 ⟨ds,h1, .d x,[],h2▸b, .inr ⟨fun A h=>(by cases h),a _⟩⟩
end Go.Am
namespace Go.Tel
open Go.Am
def zO (l:List Int)(n:Int):(dH l n).1.length<=l.length:=by
 unfold dH
 split
 ·exact List.length_erase_le
 ·exact ai _
def adD (l:List Int)(c f:Pr)(k:l.length<=900):Pure C 224 [sF (l.map au),c.dv,f.dv] (.d (.tup [sF ((iG l c f).1.map au), .bool (iG l c f).2])) []:=by
 have m:=zO l f.a;have n:=zO l f.b;have o:=zO (dH l f.a).1 f.b;refine ah FU Iy ?_;rw[kP,kP];simp only[FU,Iy,RN,r,B,J]
 by_cases h:c.a=f.a
 ·have j:(c.a !=f.a)=false:=by simp[h]
  by_cases g:c.b=f.b
  ·have i:(c.b !=f.b)=false:=by simp[g]
   have e:iG l c f=(l,true):=by simp[iG,h,g]
   rw[e];simp only[j,i,RN,r,B]
  ·have i:(c.b !=f.b)=true:=by simp[g]
   have e:iG l c f=(pK (dH l f.b).1 c.b,(dH l f.b).2):=by simp[iG,h,g]
   rw[e];simp only[j,i,RN,r,B,J];refine eG rfl rfl (LD l f.b (by omega)) ?_;(try simp only[RN,B]);refine eG rfl rfl (F8 _ _ (by omega)) ?_;(try simp only[RN])
 ·have j:(c.a !=f.a)=true:=by simp[h]
  by_cases g:c.b=f.b
  ·have i:(c.b !=f.b)=false:=by simp[g]
   have e:iG l c f=(pK (dH l f.a).1 c.a,(dH l f.a).2):=by simp[iG,h,g]
   rw[e];simp only[j,i,RN,r,B,J];refine eG rfl rfl (LD l f.a (by omega)) ?_;cases h1:(dH l f.a).2
   ·(try simp only[RN,r,B,J])
    refine eG rfl rfl (F8 _ _ (by omega)) ?_;(try simp only[RN])
   ·(try simp only[RN,r,B,J])
    refine eG rfl rfl (F8 _ _ (by omega)) ?_;(try simp only[RN])
  ·have i:(c.b !=f.b)=true:=by simp[g]
   simp only[j,i,RN,r,B,J];refine eG rfl rfl (LD l f.a (by omega)) ?_;cases h1:(dH l f.a).2
   ·have e:iG l c f=(pK (pK (dH l f.a).1 c.a) c.b,false):=by simp[iG,h,g,h1]
    rw[e];(try simp only[RN,r,B,J]);refine eG rfl rfl (F8 _ _ (by omega)) ?_;(try simp only[RN,B]);refine eG rfl rfl (F8 _ _ (by rw[F6];omega)) ?_;(try simp only[RN])
   ·have e:iG l c f=(pK (pK (dH (dH l f.a).1 f.b).1 c.a) c.b,(dH (dH l f.a).1 f.b).2):=by simp[iG,h,g,h1]
    rw[e];(try simp only[RN,r,B,J]);refine eG rfl rfl (LD _ f.b (by omega)) ?_;(try simp only[RN,B]);refine eG rfl rfl (F8 _ _ (by omega)) ?_;(try simp only[RN,B]);refine eG rfl rfl (F8 _ _ (by rw[F6];omega)) ?_;(try simp only[RN])
def afV (l:List Int)(a b:Pr):(iG l a b).1.length<=l.length+2:=by
 have h1:(if a.a≠b.a then dH l b.a else(l,true)).1.length<=l.length:=by split;exact zO _ _;exact ai _
 unfold iG;simp only;generalize (if a.a≠b.a then dH l b.a else(l,true))=r1 at h1;have h2:(if r1.2=true/\a.b≠b.b then dH r1.1 b.b else r1).1.length<=l.length:=by
  split
  ·exact a6 (zO _ _) h1
  ·exact h1
 generalize (if r1.2=true/\a.b≠b.b then dH r1.1 b.b else r1)=r2 at h2;have c:(if a.a≠b.a then pK r2.1 a.a else r2.1).length<=l.length+1:=by
  split
  ·rw[F6];omega
  ·omega
 split
 ·rw[F6];omega
 ·omega
def Jt (s:Su)(l:List En):(jd s l).length<=2*l.length:=by
 induction l using ni with
 |h0=>simp[jd]
 |h1 l x a=>
  rw[iF,az,List.length_singleton]
  split
  ·rw[F6];omega
  ·split
   ·have:=afV (jd s l) (jQ (bD s l) x) x.chg.pr;omega
   ·omega
variable{s:Su}{l:List En}
def aap (hl:∀x∈l,x.Fit s)(i:Nat):∀x∈l.take i,x.Fit s:=fun x a=>hl x (ap a)
def stE (l:List En):Bool:=l.all fun x=>x.kind !=1&&x.kind !=2
def ai4 (l:List En)(x:En):stE (l++ [x])=(stE l&&(x.kind !=1&&x.kind !=2)):=by simp[stE]
def ZK (s:Su)(hs:s.ok=true)(l:List En)(hl:∀x∈l,x.Fit s)(E:l.length<=400):Pure C 222 [s.dv,sF (l.map En.dv)] (.d (.slice (stE l) ((jd s l).map au))) []:=by
 have y:=fun i=>wL s hs (l.take i) (aap hl i) (by rw[ae];omega)
 have k:=fun i (x:En)=>adD (jd s (l.take i)) (jQ (bD s (l.take i)) x) x.chg.pr (by have:=Jt s (l.take i);rw[ae]at this;omega)
 simp only[dA,dF,kP]at y k;refine ah KT aK ?_;rw[dF];simp only[KT,aK,RN,r,B];refine aG l.length (fun i (_:Unit)=>⟨[(1, .d (sF (l.map En.dv))),(2, .d (.aV s.cs)),(5, .d (.slice (stE (l.take i)) ((jd s (l.take i)).map au))),(6,pI i)],⟨[some (s.cs.map .d)],[0],[]⟩⟩)
  (fun i _=>True) 0 () (V _) rfl trivial (fun i _ c _=> ?_) (fun _ _=> ?_)
 ·obtain⟨D,o,t⟩:=rng c (by omega)
  have v:=hl _ (getD_mem c);have b:=wR v;have u:=Jt s (l.take i);rw[ae]at u;have a:=iF s (l.take i) (l.getD i default);rw[<-aU c]at a;have e:=ai4 (l.take i) (l.getD i default);rw[<-aU c]at e;obtain⟨x,f⟩:∃x,x=l.getD i default:=⟨_,rfl⟩
  rw[<-f]at v b a e;simp only[D,o,c,getD_map,<-f,dO,Q,O,RN,r,B,J]
  by_cases h:x.kind=1
  ·have z1:(x.kind==1)=true:=by simp[h]
   have m:(x.kind==2)=false:=by simp[h]
   have w:0<x.ns.length:=by rw[b,h];decide
   rw[if_pos h]at a;simp only[z1,o,c,getD_map,<-f,dO,Q,O,j0,t0,w,aH,RN,r,B,J];refine eG rfl rfl (F8 (jd s (l.take i)) (x.n 0) (by omega)) ?_;simp only[m,t,RN,r];exact aX () c (by rw[a,e];simp[h]) trivial
  have z1:(x.kind==1)=false:=beq_false_of_ne h;rw[if_neg h]at a
  by_cases g:x.kind=2
  ·have m:(x.kind==2)=true:=by simp[g]
   have w:0<x.ns.length:=by rw[b,g];decide
   have j:=aij x (by rw[b,g];decide);rw[dO]at j;obtain⟨⟨z,A⟩,_⟩:=JK v g;have p:(0:Int)<=x.ns.getD 0 default:=z;have q:(x.ns.getD 0 default).toNat<(bD s (l.take i)).links.length:=by rw[(yK _ _).1];exact A
   rw[if_pos g]at a;have G:(0:Int)<=(i:Int):=by omega
   have K:(i:Int)<=((l.map En.dv).length:Int):=by rw[O];omega
   simp only[z1,m,nO,o,c,getD_map,<-f,dO,Q,O,RN,r,B,J];rw[wz (aa9 l) G K,<-bL,Q];(try simp only[RN,r,B,F,H,I,J]);refine ak (y i) ?_;simp only[getD_map,qh,O,j0,t0,w,aH,p,q,RN,B,J];refine ak j ?_;(try simp only[RN,r,B,F,H,I,J]);refine ak (k i x) ?_;simp only[t,RN];exact aX () c (by rw[a,e];simp[g]) trivial
  ·have m:(x.kind==2)=false:=beq_false_of_ne g
   rw[if_neg g]at a;simp only[z1,m,o,c,getD_map,<-f,dO,Q,O,t,RN,r,B,J];exact aX () c (by rw[a,e];simp[h,g]) trivial
 ·simp only[X,O,RN,r]
  rw[ao]
def Lu (l:List En)(h:Int)(hl:∀x∈l,x.ns.length=gI x.kind)(y:l.length<=1000):Pure C 226 [sF (l.map En.dv),dI h] (.d (.tup [(bg l h).1.dv, .bool (bg l h).2])) []:=by
 refine ah KL aiJ ?_;rw[bK];simp only[KL,aiJ,RN,r,B,J];refine aG l.length (fun i (_:Unit)=>⟨[(0, .d (sF (l.map En.dv))),(1,pI h),(4, .ptr 0 0),(6, .ptr 1 0),(7, .d (.bool (bg (l.take i) h).2)),(8,pI i)],
   ⟨[some [pI 0,pI 0],some [.d (dI (bg (l.take i) h).1.n), .d (dI (bg (l.take i) h).1.d)]],[],[]⟩⟩)
  (fun i _=>True) 0 () (V _) rfl trivial (fun i _ c _=> ?_) (fun _ _=> ?_)
 ·obtain⟨u,j,o⟩:=rng c (by omega)
  have e:=hl _ (getD_mem c);have a:bg (l.take (i+1)) h=lC h (bg (l.take i) h) (l.getD i default):=by rw[aU c,lX]
  obtain⟨x,b⟩:∃x,x=l.getD i default:=⟨_,rfl⟩
  rw[<-b]at e a;have z:(0:Int)<=1:=by omega
  have A:(0:Int)<=2:=by omega
  have p:x.n 0=x.ns.getD 0 default:=rfl;simp only[u,j,c,getD_map,<-b,dO,Q,O,RN,r,B,J]
  by_cases k:x.kind=3
  ·have m:(x.kind==3)=true:=by simp[k]
   have g:(x.kind==4)=false:=by simp[k]
   have w:x.ns.length=3:=by rw[e,k];rfl
   have t:0<x.ns.length:=by omega
   have l1:1<x.ns.length:=by omega
   have l2:2<x.ns.length:=by omega
   by_cases f:x.n 0=h
   ·have ze:(x.ns.getD 0 default==h)=true:=by rw[<-p,f];exact beq_self_eq_true _
    rw[lC,if_pos ⟨k,f⟩]at a;simp only[m,ze,g,j,c,getD_map,<-b,dO,Q,O,j0,t0,t,z,t1,l1,A,t2,l2,aH,o,RN,r,B,J];exact aX () c (by rw[a];rfl) trivial
   ·have ze:(x.ns.getD 0 default==h)=false:=beq_false_of_ne f
    rw[lC,if_neg (fun q=>f q.2),if_neg (by omega)]at a;simp only[m,ze,g,j,c,getD_map,<-b,dO,Q,O,j0,t0,t,aH,o,RN,r,B,J];exact aX () c (by rw[a]) trivial
  have m:(x.kind==3)=false:=beq_false_of_ne k
  by_cases s:x.kind=4
  ·have g:(x.kind==4)=true:=by simp[s]
   have v:x.ns.length=2:=by rw[e,s];rfl
   have t:0<x.ns.length:=by omega
   by_cases f:x.n 0=h
   ·have ze:(x.ns.getD 0 default==h)=true:=by rw[<-p,f];exact beq_self_eq_true _
    rw[lC,if_neg (by omega),if_pos ⟨s,f⟩]at a;simp only[m,ze,g,j,c,getD_map,<-b,dO,Q,O,j0,t0,t,aH,o,RN,r,B,J];exact aX () c (by rw[a]) trivial
   ·have ze:(x.ns.getD 0 default==h)=false:=beq_false_of_ne f
    rw[lC,if_neg (by omega),if_neg (fun q=>f q.2)]at a;simp only[m,ze,g,j,c,getD_map,<-b,dO,Q,O,j0,t0,t,aH,o,RN,r,B,J];exact aX () c (by rw[a]) trivial
  ·have g:(x.kind==4)=false:=beq_false_of_ne s
   rw[lC,if_neg (fun q=>k q.1),if_neg (fun q=>s q.1)]at a;simp only[m,g,j,c,getD_map,<-b,dO,Q,O,o,RN,r,B,J];exact aX () c (by rw[a]) trivial
 ·simp only[X,O,RN,r,B,J]
  rw[ao]
def afD (s:Su)(l:List En)(h:Int)(v:0<=h)(h1:h.toNat<s.tg.length)(hl:∀x∈l,x.ns.length=gI x.kind)(y:l.length<=1000):Pure C 231 [s.dv,sF (l.map En.dv),dI h] (.d (pX s l h).dv) []:=by
 have p:=fun i=>Lu (l.take i) h (fun x z=>hl x (ap z)) (by rw[ae];omega)
 simp only[bK]at p;refine ah Ij aiK ?_;rw[bK,dF];simp only[Ij,aiK,O,v,h1,getD_map,bK,RN,r,B,H,J];refine aG l.length (fun i (_:Unit)=>⟨[(1, .d (sF (l.map En.dv))),(2,pI h),(6, .ptr 1 0),(7, .ptr 2 0),(8,pI i)],
   ⟨[some (s.cs.map .d),some [pI 0,pI 0],some [.d (dI (pX s (l.take i) h).n), .d (dI (pX s (l.take i) h).d)]],[0],[]⟩⟩)
  (fun i _=>True) 0 () (V _) rfl trivial (fun i _ b _=> ?_) (fun _ _=> ?_)
 ·obtain⟨u,k,m⟩:=rng b (by omega)
  have e:=hl _ (getD_mem b);have a:=mP s (l.take i) h (l.getD i default);rw[<-aU b]at a;obtain⟨x,c⟩:∃x,x=l.getD i default:=⟨_,rfl⟩
  rw[<-c]at e a;have o:x.n 0=x.ns.getD 0 default:=rfl;have A:(0:Int)<=(i:Int):=by omega
  have D:(i:Int)<=((l.map En.dv).length:Int):=by rw[O];omega
  simp only[u,k,b,getD_map,<-c,dO,Q,O,RN,r,B,J]
  by_cases f:x.kind=4
  ·have j:(x.kind==4)=true:=by simp[f]
   have w:x.ns.length=2:=by rw[e,f];rfl
   have t:0<x.ns.length:=by omega
   by_cases g:x.n 0=h
   ·have ze:(x.ns.getD 0 default==h)=true:=by rw[<-o,g];exact beq_self_eq_true _
    rw[if_pos ⟨f,g⟩]at a;simp only[ze,j,k,b,getD_map,<-c,dO,Q,O,j0,t0,t,aH,RN,r,B,J];rw[wz (aa9 l) A D,<-bL,Q];(try simp only[RN,r,B,F,H,I,J]);refine ak (p i) ?_;simp only[m,RN,B,H,J];exact aX () b (by rw[a]) trivial
   ·have ze:(x.ns.getD 0 default==h)=false:=beq_false_of_ne g
    rw[if_neg (fun q=>g q.2)]at a;simp only[ze,j,k,b,getD_map,<-c,dO,Q,O,j0,t0,t,aH,m,RN,r,B,J];exact aX () b (by rw[a]) trivial
  ·have j:(x.kind==4)=false:=beq_false_of_ne f
   rw[if_neg (fun q=>f q.1)]at a;simp only[j,m,RN,r,B];exact aX () b (by rw[a]) trivial
 ·simp only[X,O,RN,r,B,H,J]
  rw[ao]
def ZP (p:Pc)(e:p.ok=true)(h:Int)(d:0<=h)(h1:h.toNat<p.hands.length)(f:Fr)(hf:f.ok=true)(t:Int)(i:0<=t/\t<=10000):Pure C 227 [p.dv,dI h,f.dv,dI t] (pI (Nu p h f t)) []:=by
 have g:=Pc.good e;have j:=g.hd _ (getD_mem h1);have b:=SH p g.lk (by have:=g.l2;omega) (a:=(p.hands.getD h.toNat default).toNat) (by omega);rw[show(((p.hands.getD h.toNat default).toNat:Nat):Int)=p.hands.getD h.toNat default by omega]at b;have c:=anL (aP p.links (p.hands.getD h.toNat default).toNat) f t (by rw[aP,O];exact g.short _ (by omega)) (qc g.lk g.pr (by omega)) hf i;refine ah Ld qO ?_;rw[dA]at b⊢;rw[bK]at c⊢;simp only[Ld,qO,d,h1,getD_map,aH,O,RN,r,B,J];refine ak b ?_;(try simp only[RN,r,B,F,H,I,J]);refine ak c ?_;(try simp only[RN,r,B,F,H,I,J])
 rfl
def SE (s:Su)(hs:s.ok=true)(p:Pc)(G:p.ok=true)(h:Int)(E:0<=h)(h1:h.toNat<p.hands.length):Pure C 136 [s.dv,p.dv,dI h] (pI (Dy s p h)) []:=by
 have g:=Pc.good G;have N:=g.hd _ (getD_mem h1);have m:=SH p g.lk (by have:=g.l2;omega) (a:=(p.hands.getD h.toNat default).toNat) (by omega);rw[show(((p.hands.getD h.toNat default).toNat:Nat):Int)=p.hands.getD h.toNat default by omega]at m;obtain⟨t,e⟩:∃t,t=aP p.links (p.hands.getD h.toNat default).toNat:=⟨_,rfl⟩
 have L:t.length<=3:=by rw[e,aP,O];exact g.short _ (by omega)
 have w:∀q∈t,q.ok=true:=by rw[e];exact qc g.lk g.pr (by omega)
 have u:Dy s p h=(s.bil (bZ t)).price:=by rw[e];rfl
 rw[<-e]at m;have c:=(Su.facts hs).2.2.2.2.2.2.2.2.1;have o:(s.bil (bZ t)).ok=true:=by
  simp only[Bil.ok,Su.bil,U]at c⊢;refine⟨⟨⟨⟨⟨?_,c.1.1.1.1.2⟩,c.1.1.1.2⟩,c.1.1.2⟩,c.1.2⟩,c.2⟩;simp only[pY,U,decide_eq_true_eq,bq];refine⟨by rw[nH];omega,fun x k=> ?_⟩;simp only[bZ,b8]at k;obtain⟨q,K,k⟩:=k;have:=w q K;simp only[Pr.ok,U]at this;simp only[bo,b9,or_false]at k
  rcases k with rfl|rfl
  ·exact this.1
  ·exact this.2
 have j:=afB _ o;rw[I5,<-u]at j;have f:=adE s (bZ t) false;refine ah KQ Ar ?_;rw[dF]at f⊢;rw[dA]at m⊢;simp only[KQ,Ar,E,h1,getD_map,aH,O,RN,r,B,I,J];refine ak m ?_;simp only[];refine aG t.length (fun i (_:Unit)=>⟨[(3, .d (.aV s.cs)),(7, .tsl 0 i 0),(8, .d (sF (t.map Pr.dv))),(9,pI i)],
   ⟨[some (s.cs.map .d),some [.d (sF (p.links.map Lk.dv)), .d (sF (p.hands.map au))]],[1,0],[some ⟨1,(bZ (t.take i)).map au,i,0⟩]⟩⟩)
  (fun i _=>True) 0 () (V _) rfl trivial (fun i _ l _=> ?_) (fun _ _=> ?_)
 ·obtain⟨z,A,D⟩:=rng l (by omega)
  have v:(bZ (t.take i)).map au++ [dI (t.getD i default).a,dI (t.getD i default).b]=(bZ (t.take (i+1))).map au:=by
   rw[aU l];simp[bZ,au]
  have n:((bZ (t.take i)).map au).length<=2000000:=by simp only[O,nH,ae];omega
  simp only[z,A,l,O,getD_map,Q,kP,Bg,RN,r,B,H,I,J];refine⟨by rintro y (rfl|rfl)<;>rfl,by simp,?_⟩
  (repeat(refine And.intro (by first|assumption|rfl|(simp;done)|(simp;omega)) ?_))
  refine⟨by simpa using a6 n (by decide),?_⟩;rw[v,D];exact dD () l rfl trivial (by simp) (by simp) rfl rfl
 ·rw[ao]
  simp only[X,O,nO,RN,r,B,J];refine ami (ds:=[.agg s.cs,sF ((bZ t).map au)]) (by rw[nO];simp[dL,datum,Mem.row]) (by rw[nO];rfl) f fun M=> ?_
  (try simp only[RN,r,B,F,H,I,J]);refine ak j ?_;(try simp only[])
def ind (a v:Int):Nat:=if a=v then 1 else 0
def A8 (a:Int)(l:List Int)(v:Int):(a::l).count v=l.count v+ind a v:=by
 rw[List.count_cons];unfold ind;by_cases h:a=v<;>simp[h]
def JC (l:List Int)(n v:Int):(pK l n).count v=l.count v+ind n v:=by rw[(nJ l n).count_eq,A8]
def aeE {l:List Int}{n:Int}(h:n∈l)(v:Int):l.count v=(l.erase n).count v+ind n v:=by rw[(List.perm_cons_erase h).count_eq,A8]
def Hl {l:List Int}{n:Int}(h:(dH l n).2=true)(v:Int):l.count v=(dH l n).1.count v+ind n v:=by
 unfold dH at h⊢
 by_cases a:n∈l
 ·rw[if_pos a];exact aeE a v
 ·rw[if_neg a]at h;cases h
variable{st:List Int}
def aan {o t:Pr}(h:(iG st o t).2=true)(v:Int):(iG st o t).1.count v+ind t.a v+ind t.b v=st.count v+ind o.a v+ind o.b v:=by
 by_cases d:o.a=t.a
 ·by_cases c:o.b=t.b
  ·have e:iG st o t=(st,true):=by simp[iG,d,c]
   rw[e,d,c]
  ·have e:iG st o t=(pK (dH st t.b).1 o.b,(dH st t.b).2):=by simp[iG,d,c]
   rw[e]at h⊢;have h1:=Hl h v;simp only;rw[JC,d];omega
 ·by_cases c:o.b=t.b
  ·have e:iG st o t=(pK (dH st t.a).1 o.a,(dH st t.a).2):=by simp[iG,d,c]
   rw[e]at h⊢;have h1:=Hl h v;simp only;rw[JC,c];omega
  ·cases h1:(dH st t.a).2
   ·have e:iG st o t=(pK (pK (dH st t.a).1 o.a) o.b,false):=by simp[iG,d,c,h1]
    rw[e]at h;cases h
   ·have e:iG st o t=(pK (pK (dH (dH st t.a).1 t.b).1 o.a) o.b,(dH (dH st t.a).1 t.b).2):=by simp[iG,d,c,h1]
    rw[e]at h⊢;have h2:=Hl h1 v;have f:=Hl h v;simp only;rw[JC,JC];omega
def ajb {o t:Pr}(h:(iG st o t).2=true):(iG st o t).1.length=st.length:=by
 have:(t.a::t.b::(iG st o t).1).Perm (o.a::o.b::st):=by
  rw[List.perm_iff_count];intro v;simp only[A8];have:=aan h v;omega
 have:=this.length_eq
 simpa using this
def pz (ls:List Lk):List Int:=bZ (ls.map (·.pr))
def Fh (l:Lk)(ls:List Lk):pz (l::ls)=l.pr.a::l.pr.b::pz ls:=rfl
def adN (y:Lk)(v:Int):∀(ls:List Lk) (i:Nat),i<ls.length->(pz (ls.set i y)).count v+ind (ls.getD i default).pr.a v+ind (ls.getD i default).pr.b v=(pz ls).count v+ind y.pr.a v+ind y.pr.b v
 | [],_,h=>by simp at h
 |l::ls,0,_=>by
  simp only[List.set_cons_zero,Fh,A8,a8];omega
 |l::ls,i+1,h=>by
  have:=adN y v ls i (by simpa using h);simp only[List.set_cons_succ,Fh,A8,aq];omega
def QF (l:List En):List Int:=(l.filter fun x=>x.kind==1).map fun x=>x.n 0
def aa1 (l:List En)(x:En):QF (l++ [x])=if x.kind=1 then QF l++ [x.n 0]else QF l:=by
 unfold QF
 by_cases h:x.kind=1<;>simp[h]
def Zy (s:Su)(l:List En):(bD s l).links.length=s.pc.links.length:=by
 induction l using ni with
 |h0=>rfl
 |h1 l x a=>
  rw[jF,qN]
  split
  ·simp[Pc.changed,a]
  ·exact a
variable{x:En}
def ae1 (k:x.kind=2)(a:lN s l x=true):(iG (jd s l) (jQ (bD s l) x) x.chg.pr).2=true:=by
 unfold lN at a;rw[if_neg (by omega),if_pos k]at a;simp only[U]at a;exact a.1.2
def acT (s:Su)(l:List En):(∀x∈l,x.Fit s)->kF s l=true->(∀v,(pz (bD s l).links).count v+(jd s l).count v=(pz s.pc.links).count v+(QF l).count v)/\(jd s l).length<=8:=by
 induction l using ni with
 |h0=>exact fun _ _=>⟨fun _=>rfl,by simp[jd]⟩
 |h1 l x o=>
  intro g c;rw[EK,U]at c;obtain⟨f,i⟩:=o (fun y m=>g y (by simp[m])) c.1;have k:=g x (by simp);rw[jF,iF,aa1,qN]
  by_cases b:x.kind=1
  ·rw[if_pos b,if_pos b,if_neg (by omega)]
   refine⟨fun v=> ?_,?_⟩
   ·have:=f v
    rw[JC,List.count_append,A8,List.count_nil];omega
   ·have d:=c.2
    unfold lN at d;rw[if_pos b]at d;simp only[U,decide_eq_true_eq]at d;rw[(nJ _ _).length_eq,br];omega
  ·rw[if_neg b,if_neg b]
   by_cases a:x.kind=2
   ·rw[if_pos a,if_pos a]
    have h:=ae1 a c.2;refine⟨fun v=> ?_,by rw[ajb h];exact i⟩;have hd:=k.df;rw[En.deed2 a]at hd;have h1:inR (x.n 0) 0 ((s.pc.links.length:Int) - 1)=true:=hd.1;simp only[inR,U,decide_eq_true_eq]at h1;have q:=aan h v;have j:=adN ⟨((bD s l).links.getD (x.n 0).toNat default).fr,x.chg.pr⟩ v (bD s l).links (x.n 0).toNat (by rw[Zy];omega);have:=f v;have e:((bD s l).changed x.chg).links=(bD s l).links.set (x.n 0).toNat ⟨((bD s l).links.getD (x.n 0).toNat default).fr,x.chg.pr⟩:=rfl;rw[e];have p:((bD s l).links.getD (x.n 0).toNat default).pr=jQ (bD s l) x:=rfl;simp only[p]at j;omega
   ·rw[if_neg a,if_neg a];exact⟨f,i⟩
def Xd {p:Pc}(c:p.ok=true):∀n∈pz p.links,aI n=true:=by
 intro n a;have g:=Pc.good c;simp only[pz,bZ,b8,av]at a;obtain⟨q,⟨l,b,rfl⟩,a⟩:=a;have:=g.pr l b;simp only[Pr.ok,U]at this;simp only[bo,b9,or_false]at a
 rcases a with rfl|rfl
 ·exact this.1
 ·exact this.2
def aam (hs:s.ok=true){l:List En}(hf:∀x∈l,x.Fit s)(b:kF s l=true):∀n∈jd s l,aI n=true:=by
 intro n c;have h1:=(acT s l hf b).1 n;have h2:=bk.2 c;have a:0<(pz s.pc.links).count n\/0<(QF l).count n:=by omega
 rcases a with h|h
 ·exact Xd (Su.facts hs).1 n (bk.1 h)
 ·have:=bk.1 h
  simp only[QF,av,cf,beq_iff_eq]at this;obtain⟨x,⟨d,k⟩,rfl⟩:=this;exact(hf x d).te k
def al6:∀{l m:List Int},l.Perm m->Up l->Up m->l=m
 | [],m,h,_,_=>h.nil_eq
 |x::l,[],h,_,_=>by have:=h.length_eq;simp at this
 |x::l,y::m,h,h1,h2=>by
  have d:=bO.1 h1;have f:=bO.1 h2;have c:x=y:=by
   have a:x∈y::m:=h.mem_iff.1 bN;have b:y∈x::l:=h.mem_iff.2 bN
   rcases bo.1 a with e|a
   ·exact e
   rcases bo.1 b with e|b
   ·exact e.symm
   ·have:=f.1 x a
    have:=d.1 y b;omega
  subst c;rw[al6 (h.cons_inv) d.2 f.2]
def pJ (s:Su)(l:List En):(bD s l).hands=s.pc.hands:=by
 induction l using ni with
 |h0=>rfl
 |h1 l x a=>rw[jF,qN];split<;>exact a
def Zn (l:List En)(h:Int):Fr:=if(bg l h).2 then(bg l h).1 else⟨0,0⟩
def abu (k:x.kind=4)(a:lN s l x=true):(bg l (x.n 0)).2=true/\Zn l (x.n 0)=(bg l (x.n 0)).1/\(-s.lim<=Nu (bD s l) (x.n 0) (Zn l (x.n 0)) 100/\Nu (bD s l) (x.n 0) (Zn l (x.n 0)) 100<=s.lim)/\x.n 1>=Dy s (bD s l) (x.n 0):=by
 unfold lN at a;rw[if_neg (by omega),if_neg (by omega),if_neg (by omega),if_pos k]at a;simp only[U,decide_eq_true_eq]at a;obtain⟨⟨h1,h2⟩,b⟩:=a;have e:Zn l (x.n 0)=(bg l (x.n 0)).1:=by rw[Zn,if_pos h1]
 refine⟨h1,e,?_,b⟩;rw[e]
 simpa[inR]using h2
def agl (h:kF s l=true){i:Nat}(hi:i<l.length):lN s (l.take i) (l.getD i default)=true:=by
 rw[kF,bq]at h;exact h i (cl.2 hi)
def ahh (k:x.kind=5)(a:lN s l x=true):(∀y∈qJ l,y<x.n 0)/\s.works (s.first+x.n 0 - 1)=true:=by
 unfold lN at a;rw[if_neg (by omega),if_neg (by omega),if_neg (by omega),if_neg (by omega)]at a;simp only[U,Bool.not_eq_true',List.any_eq_false]at a;refine⟨fun y b=> ?_,a.2⟩;simp only[qJ,av,cf]at b;obtain⟨z,⟨c,d⟩,rfl⟩:=b;have:=a.1 z c;rw[d]at this
 simpa using this
def acF {l:List Int}(h:l.Perm st)(d:Up l):PI st=l:=by
 refine al6 ((List.mergeSort_perm _ _).trans h.symm) ?_ d;have:=List.pairwise_mergeSort (le:=fun x y:Int=>decide (x<=y)) (fun a b c h1 h2=>by simp only[decide_eq_true_eq]at*;omega) (fun a b=>by simp only[Bool.or_eq_true,decide_eq_true_eq];omega) st;exact this.imp fun h=>by simpa using h
def Dk.Live.t {D:Dk}(h:D.Live):∃t,D.state (-1)=some t/\Rel D.su (aJ D (-1)) t/\zS D.su 24 t:=by
 obtain⟨t,a⟩:=Option.isSome_iff_exists.1 h.live;exact⟨t,a,((h.all (-1)).2 t a).1,h.ok.TQ a⟩
variable{D:Dk}
def Dk.Live.goes (h:D.Live):kF D.su (aJ D (-1))=true:=by rw[(h.all (-1)).1];exact h.live
def Dk.Live.fits (h:D.Live)(w:Int):∀x∈aJ D w,x.Fit D.su:=fun x a=>h.fit x (jA a).1 (jA a).2
def vX {t:Sp}(b:D.state (-1)=some t){k:Int}{ns:List Int}(hk:1<=k/\k<=12)(a:ns.length=xg k):D.ask ⟨k,ns⟩=if(D.answer t ⟨k,ns⟩).2=0 then D.answer t ⟨k,ns⟩else([],(D.answer t ⟨k,ns⟩).2):=by
 have h1:inR k 1 12=true:=Jc hk;simp only[Dk.ask,h1,a,b];simp
def MI (h:D.Live):D.ask ⟨1,[]⟩=(Jb (bD D.su (aJ D (-1))),0):=by
 obtain⟨t,b,a,_⟩:=h.t;rw[vX b (by decide) rfl,<-a.pc];simp[Dk.answer]
def MJ (h:D.Live):D.ask ⟨2,[]⟩=(jd D.su (aJ D (-1)),0):=by
 obtain⟨t,b,a,_⟩:=h.t;rw[vX b (by decide) rfl,<-acF a.st a.up];simp[Dk.answer]
def MH (h:D.Live):D.ask ⟨11,[]⟩=([tY (aJ D (-1))],0):=by
 obtain⟨t,b,a,_⟩:=h.t;rw[vX b (by decide) rfl,<-a.co];simp[Dk.answer]
def IQ (h:D.Live):D.ask ⟨12,[]⟩=((fH D).map fun(i:Nat)=>(i:Int),0):=by
 obtain⟨t,a,b,_⟩:=h.t;rw[vX a (by decide) rfl];have:(D.stands.map fun p=>(p.1:Int))=(fH D).map fun(i:Nat)=>(i:Int):=by rw[VZ h.ok.len,List.map_map];rfl
 simp[Dk.answer,this]
def Qo (hs:s.ok=true)(l:List En)(hl:∀x∈l,x.Fit s)(b:kF s l=true){h:Int}(h0:0<=h)(h1:h.toNat<s.tg.length):(pX s l h).ok=true:=by
 induction l using ni with
 |h0=>exact(Su.facts hs).2.2.2.2.2.2.2.2.2 _ (getD_mem h1)
 |h1 l x d=>
  rw[EK,U]at b;have a:∀y∈l,y.Fit s:=fun y c=>hl y (by simp[c])
  rw[mP]
  split
  ·rename_i k
   have:=(abu k.1 b.2).1;rw[k.2]at this;exact zh l h a this
  ·exact d a b.1
def xU (l:List En)(d:Int):Int:=d - lQ (qJ l) d 0
def Wq (h:D.Live){k:Nat}{d:Int}(hk:k<D.su.pc.hands.length)(v:1<=d)(h1:d.toNat<=D.su.days.length):D.ask ⟨6,[(k:Int),d]⟩=([Nu (bD D.su (aJ D (-1))) k (pX D.su (aJ D (-1)) k) (xU (aJ D (-1)) d)],0):=by
 obtain⟨t,q,f,g⟩:=h.t;have b:=(Su.facts h.ok.su).2.1;have h2:inR d 1 D.su.days.length=true:=Jc (by omega);have o:inR (k:Int) 0 ((D.su.pc.hands.length:Int) - 1)=true:=Jc (by omega);have p:=lK D.su;have r:=Fe d t.sets 0 g.sv (by omega);have s:0<=t.turns d/\t.turns d<=366:=by
  have:lQ t.sets d 0<=d:=by
   have:∀(l:List Int) (a:Int),a<=d->lQ l d a<=d:=by
    intro l
    induction l with
    |nil=>exact fun a j=>j
    |cons y l u=>intro a j;rw[lQ];exact u _ (by split<;>omega)
   exact this _ 0 (by omega)
  unfold Sp.turns;omega
 have i:(t.tg.getD k default).ok=true:=by
  have:=Qo h.ok.su _ (h.fits (-1)) h.goes (h:=(k:Int)) (by omega) (by rw[b];simpa using hk);rw[<-f.tg k (by omega) (by rw[b];simpa using hk)]at this
  simpa using this
 have m:=NV g.pc (h:=(k:Int)) (by omega) (by rw[g.hh];simpa using hk) i (show 0<=t.turns d/\t.turns d<=10000 by omega);have c:=f.tg k (by omega) (by rw[b];simpa using hk);rw[vX q (by decide) rfl];simp only[Q]at c;have e:xU (aJ D (-1)) d=t.turns d:=by rw[xU,<-f.se];rfl
 rw[e,<-f.pc,<-c];simp only[an]at m;simp[Dk.answer,Qn.n,h2,o,m]
def UK (s:Su)(t:Sp)(turns:Int):∀(l:List Fr) (h:Nat),Qw s t turns l h=(bh l.length).any fun k=> !HY s t ((h+k:Nat):Int) (l.getD k default) turns
 | [],_=>rfl
 |f::l,h=>by
  rw[Qw,UK s t turns l (h+1),br,List.range_succ_eq_map,cq,List.any_map]
  congr 1
  congr 1
  funext k
  simp only[Function.comp_apply,aq];rw[show h+1+k=h+(k+1) by omega]
def bad_law (h:D.Live){t:Sp}(s:D.state (-1)=some t){i:Nat}(hi:i<D.su.days.length):IU D.su t i=(bh D.su.pc.hands.length).any fun k=> !inR ((D.ask ⟨6,[(k:Int),(i:Int)+1]⟩).1.getD 0 0) (-D.su.lim) D.su.lim:=by
 obtain⟨x,f,m,c⟩:=h.t;rw[s]at f;cases f;have d:=(Su.facts h.ok.su).2.1;rw[IU,UK,c.tl];rw[bt];simp only[List.any_eq_true,cl];have j:∀k,k<D.su.pc.hands.length->(!HY D.su t ((0+k:Nat):Int) (t.tg.getD k default) (t.turns ((i:Int)+1)))=(!inR ((D.ask ⟨6,[(k:Int),(i:Int)+1]⟩).1.getD 0 0) (-D.su.lim) D.su.lim):=by
  intro k b;rw[Wq h b (by omega) (by omega)];have g:=m.tg k (by omega) (by rw[d];simpa using b);simp only[Q]at g;have o:(t.tg.getD k default).ok=true:=by
   have:=Qo h.ok.su _ (h.fits (-1)) h.goes (h:=(k:Int)) (by omega) (by rw[d];simpa using b);rw[<-m.tg k (by omega) (by rw[d];simpa using b)]at this
   simpa using this
  have r:=lK D.su;have p:0<=t.turns ((i:Int)+1)/\t.turns ((i:Int)+1)<=10000:=by
   have u:=Fe ((i:Int)+1) t.sets 0 c.sv (by omega);have:lQ t.sets ((i:Int)+1) 0<=(i:Int)+1:=by
    have:∀(l:List Int) (a:Int),a<=(i:Int)+1->lQ l ((i:Int)+1) a<=(i:Int)+1:=by
     intro l
     induction l with
     |nil=>exact fun a q=>q
     |cons y l w=>intro a q;rw[lQ];exact w _ (by split<;>omega)
    exact this _ 0 (by omega)
   unfold Sp.turns;omega
  have v:=NV c.pc (h:=(k:Int)) (by omega) (by rw[c.hh];simpa using b) o p;have e:xU (aJ D (-1)) ((i:Int)+1)=t.turns ((i:Int)+1):=by rw[xU,<-m.se];rfl
  rw[cv,HY,v,e,<-m.pc,<-g]
  rfl
 constructor
 ·rintro⟨k,b,n⟩;exact⟨k,b,by rw[<-j k b];exact n⟩
 ·rintro⟨k,b,n⟩;exact⟨k,b,by rw[j k b];exact n⟩
def MK (h:D.Live):∃t,D.state (-1)=some t/\D.ask ⟨7,[]⟩=([nN D.su t D.su.days.length],0):=by
 obtain⟨t,a,b,_⟩:=h.t;refine⟨t,a,?_⟩;rw[vX a (by decide) rfl];simp[Dk.answer]
end Go.Tel
