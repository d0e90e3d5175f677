/-
  Part 6 of a law of desks.
  Conditions: none.
-/
import Derived.Test.YtbefoehadfnkbaaGreatDoorJourneymanPaidM04
import Derived.Test.YtbefoehadfnkbaaGreatDoorJourneymanPaidM05
import Derived.Shelf.Lays2
import Derived.Shelf.RegionOpenPlain
import Derived.Deep.LoopGhost
import Derived.Deep.RegionLaw
import Derived.Lib.Walk
import Derived.Sort.WalkB12
import Derived.Lib.SliceRun
import Derived.Lib.SlicesDelete
import Derived.Ground.NamesProg
import Derived.Shelf.Strings.Split
import Derived.Shelf.Strings.OnBuilder
import Derived.Shelf.Strconv.Itoa3
import Derived.Shelf.Strings.Cut
import Derived.Shelf.Sort.Plain
import Derived.Ground.Names2Prog
import Derived.Shelf.Small.Strs
import Derived.Test.YtbefoehadfnkbaaGreatDoorChecked
set_option linter.all false
set_option maxRecDepth 10000
set_option maxHeartbeats 4000000
open Nat renaming reduceBEq->F,reduceAdd->H,reduceSub->I,reduceEqDiff->J,reduceLT->N,reduceLeDiff->S,add_assoc->ai,lt_irrefl->ap,le_trans->aq,lt_of_lt_of_le->aw,zero_le->ax,le_refl->aE,mul_one->bz,sub_zero->bO,add_zero->cr,zero_mul->ct
open List renaming getElem?_eq_some_iff->U,length_append->V,append_assoc->Y,length_map->Z,length_set->ab,getElem?_append_left->ae,getElem?_set_ne->am,length_nil->az,mem_append->aD,length_cons->aL,mem_map->aM,map_cons->a7,getElem?_map->a8,drop_zero->bc,mem_cons_of_mem->bd,mem_cons->bo,map_append->bp,getD_eq_getElem?_getD->br,getElem?_append_right->bt,getElem?_drop->bu,mem_cons_self->bv,mem_singleton->bw,all_eq_true->bA,map_nil->bN,append_nil->bR,getElem?_eq_none->bX,length_filter_le->b0,set_append_right->b7,length->b8,filter_append->b9,getElem?_take->ca,ext_getElem?->cb,flatMap_cons->cf,length_range->cg,cons_append->ch,mem_filter->cj,replicate->cl,all_cons->cm,all_nil->cp,map_set->cq,map->cv,drop->cw,take->cz
open Int renaming toNat_natCast->an,lt_irrefl->bl
open Bool renaming and_eq_true->ao,false_eq_true->be,and_self->bk,false_and->bq,and_false->ck,not_not->cn
open Option renaming map_none->av,map_some->aR,isSome_none->bh,isSome_some->bi,getD_none->bB,getD_some->bE
open And renaming intro->a6
open Array renaming getElem?_toList->bj,getElem?_modify->bS
open Iff renaming rfl->bL
open Go.IntKind renaming wrap->cA
namespace Go.Tel
open Go.Am
def zh:aA:=(sw (r0 [ba 1 0 0,ag 2 2] 1 [1] [1]) (sr [fa 13 6 1,lw 14 2 13,fa 15 12 1,lo 16 15,on 17 (.build [z0,z0,z0] [(0,1),(1,1),(2,1)]) [.t 16,kI 1,kI 1],ob 18 (.aj 30) 14 17,mv 12 18,xa 19 0 12,xa 20 1 12,mv 3 19,mv 4 20] 0 [1,3] (sr [fa 22 6 1,lw 23 2 22,fa 24 12 1,lo 25 24,on 26 (.build [z0,z0,z0] [(0,1),(1,1),(2,1)]) [.t 25,kI 12,kI 31],ob 27 (.aj 30) 23 26,mv 21 27,xa 28 0 21,xa 29 1 21,mv 5 28,mv 6 29] 0 [1,3,5] (sr [fa 31 6 1,lw 32 2 31,fa 33 8 1,lw 34 3 33,fa 35 11 1,lo 36 35,fa 37 12 1,lo 38 37,on 39 (.aj 31) [.t 32,.t 34,.t 36,.t 38],mv 30 39,xa 40 0 30,xa 41 1 30,mv 7 40,mv 8 41] 0 [3,5,7] (sr [ag 9 2] 0 [3,5,7,9] (sw (sr [mv 42 5,mv 43 3,ob 44 pU 42 43,oi 45 pA 44 1,mi 46 0] 0 [3,7,9,45,46] (.block 0 (.loop (sr [ob 47 pL 46 45] 0 [3,7,9,45,46,47] (sw (cx 47 0) (sw (.block 1 (sr [mv 48 46,mv 10 48] 0 [3,7,9,10,45,46] (sr [mv 49 3,mv 50 10,ob 51 pA 49 50,mv 11 51] 0 [3,7,9,11,45,46] (rg [mv 52 9,mv 53 11,mv 54 11,oi 55 pA 54 4,oi 56 (.bin .rem) 55 7,oi 57 pQ 56 0,mv 58 57,ov 59 .mov 7 58 0,ov 60 .mov 11 58 0,obT 61 (.aj 205) 59 60 58 0,ov 62 pN 61 58 0,pf 63 58 62,ob 64 (.build [z0,.bool false] [(0,1),(1,1)]) 53 63,oa 65 (.gu 2 [.agg [z0,.bool false]] [0]) 64,ob 66 (.app 2 false) 52 65,mv 9 66] 0 [3,7,9,45,46])))) (rg [oi 67 pA 46 1,mv 46 67] 0 [3,7,9,45,46]))))))) (sr [mv 68 9,mv 2 68] 0 [2] .ret)))))))
def J8:aC C.P 109 1 zh aK=true:=by kernel_rfl
def tX:aA:=(sw (r0 [ba 1 0 0,mf 2 false] 1 [1] [1]) (sw (sw (r1 [fu 3 0 1 1,lv 4 3,on 5 (.aj 70) [.t 4,kI 1,kI 6],oa 6 pN 5,mv 7 6,ow 8 (.fld 1) 1 7 1,ow 9 (.load false 1) 8 7 1,ow 10 .len 9 7 1,oF 11 (.aj 121) [] 7 0,ow 12 (.fld 0) 1 7 1,ow 13 (.load false 1) 12 7 1,oF 14 pU [.t 13,kI 1] 7 0,obF 15 (.VJ true 2 6) 11 14 7 0,ow 16 (.S9 false 1 1) 15 7 0,obF 17 pQ 10 16 7 0,pt 18 7 17] 0 [1,18] []) (cd 18 (sr [mf 2 false] 0 [2] .ret) .skip)) (sr [fa 19 1 1,lo 20 19,oc 21 (.aj 179) 20 (.c (.func (.func 206) [] [])),oa 22 pN 21,mv 2 22] 0 [2] .ret)))
def DZ:aC C.P 110 1 tX aK=true:=by kernel_rfl
def wR:aA:=(sw (r0 [ba 1 0 0,mk 2 (.c (.nilIface))] 1 [1] [1]) (sr [fa 4 1 1,lo 5 4,mv 3 5] 0 [1,3] (sw (sr [fa 6 0 1,lo 7 6] 0 [3,7] (.block 0 (sr [oi 9 pE 7 1,mv 8 9] 0 [3,7,8] (cd 8 (sr [mv 10 3,oi 11 (.aZ 1) 10 0,lo 12 11,oa 13 (.build [z0] [(0,1)]) 12,oa 14 (.mkI T.fK) 13,mv 2 14] 0 [2] .ret) (sr [oi 16 pE 7 2,mv 15 16] 0 [3,7,15] (cd 15 (sw (r1 [mv 17 3,of 18 (.aZ 1) [.t 17,kI 0] 1,lv 19 18,mv 20 3,of 21 (.aZ 1) [.t 20,kI 1] 1,lv 22 21,mv 23 3,of 24 (.aZ 1) [.t 23,kI 2] 1,lv 25 24,ob 26 (.build [z0,z0] [(0,1),(1,1)]) 22 25,ob 27 (.build [z0,z0,z0] [(0,1),(1,2)]) 19 26,oa 28 (.build [z0,z0,z0] [(0,3)]) 27,ou 29 (.mkI T.bT) 28 1,mv 2 29] 0 [2] []) .ret) (sr [oi 31 pE 7 3,mv 30 31] 0 [3,7,30] (cd 30 (sw (r1 [mv 32 3,of 33 (.aZ 1) [.t 32,kI 0] 1,lv 34 33,mv 35 3,of 36 (.aZ 1) [.t 35,kI 1] 1,lv 37 36,mv 38 3,of 39 (.aZ 1) [.t 38,kI 2] 1,lv 40 39,ob 41 (.build [z0,z0] [(0,1),(1,1)]) 37 40,ob 42 (.build [z0,z0,z0] [(0,1),(1,2)]) 34 41,ou 43 (.mkI T.fC) 42 1,mv 2 43] 0 [2] []) .ret) (sr [oi 45 pE 7 4,mv 44 45] 0 [3,7,44] (cd 44 (sw (r1 [mv 46 3,of 47 (.aZ 1) [.t 46,kI 0] 1,lv 48 47,mv 49 3,of 50 (.aZ 1) [.t 49,kI 1] 1,lv 51 50,ob 52 (.build [z0,z0] [(0,1),(1,1)]) 48 51,ou 53 (.mkI T.dW) 52 1,mv 2 53] 0 [2] []) .ret) (sr [oi 55 pE 7 5,mv 54 55] 0 [3,54] (cd 54 (sr [mv 56 3,oi 57 (.aZ 1) 56 0,lo 58 57,oa 59 (.build [z0] [(0,1)]) 58,oa 60 (.mkI T.fM) 59,mv 2 60] 0 [2] .ret) .skip)))))))))))) (sr [mv 61 3,oi 62 (.aZ 1) 61 0,lo 63 62,oa 64 (.build [z0] [(0,1)]) 63,oa 65 (.mkI T.bK) 64,mv 2 65] 0 [2] .ret))))
def Gf:aC C.P 111 1 wR aK=true:=by kernel_rfl
def jO:aA:=(sw (r0 [lo 5 0,oa 6 (.tas T.bK (.agg [z0])) 5,mv 4 6,xa 7 0 4,xa 8 1 4,al 2 0 [z0],sk 1 2 7 0,mv 3 8] 1 [0,1,2,3] [2]) (sw (sr [mv 9 3,oa 10 pN 9] 0 [0,1,2,10] (cd 10 (sw (r1 [ou 11 (.load false 1) 1 2,on 12 (.EG false 1 74) [.t 0,.t 11,kI (-1)],lo 13 0,ob 14 (.call 113) 12 13] 0 [] []) .ret) .skip)) (sw (sw (r1 [ou 15 (.load false 1) 1 2,oa 16 .bG 15,fu 17 3 16 2,ou 18 (.load false 1) 17 2,fu 19 0 2 1,lv 20 19,ix 21 1 18 20,ou 22 (.load false 1) 21 3] 0 [0,1,2,22] []) (cd 22 (rg [lo 23 0,oa 24 (.build [.nilIface] [(0,1)]) 23,oa 25 (.mkI T.iT) 24,os .panic [.t 25] 0] 0 [1,2]) .skip)) (rg [lo 26 1,fa 27 0 2,lo 28 27,ob 29 (.call 74) 26 28] 0 []))))
def yS:aC C.P 112 2 jO jq=true:=by kernel_rfl
def dO:aA:=(sw (r0 [ba 3 0 1] 1 [0,3] [3]) (sr [oa 26 (.mkF (.func 207) 0) 3,mv 4 26] 0 [0,3,4] (sr [lo 27 3] 0 [0,4,27] (.block 0 (sr [oa 28 (.tas T.fK (.agg [z0])) 27,xa 29 1 28,xa 30 0 28] 0 [0,4,27,29,30] (cd 29 (sw (r0 [al 5 0 [z0],sk 1 5 30 0] 1 [0,4,5] [5]) (sw (r1 [mv 32 0,oa 33 .bG 32,fu 34 0 33 2,fu 35 4 34 2,ou 36 (.load true 2) 35 2,fu 37 0 5 1,lv 38 37,ob 39 (.jd 176) 36 38,mv 31 39,xa 40 0 31,xa 41 1 31,al 6 0 [z0,z0,z0],sk 3 6 40 4,mv 7 41] 1 [0,4,5,7] []) (sr [mv 42 4,mv 43 7,oi 44 pE 43 0,mv 45 44,ov 46 .mov 0 45 0,ov 47 .bG 46 45 0,ov 48 (.fld 18) 47 45 0,ov 49 (.load false 1) 48 45 0,ov 50 .len 49 45 0,ot 51 pL [.t 50,kI 8] 45 0,pf 52 45 51,ob 53 .jg 42 52] 0 [0,5] (r1 [mv 54 0,mv 55 0,oa 56 .bG 55,fu 57 18 56 2,ou 58 (.load false 1) 57 2,fu 59 0 5 1,lv 60 59,ou 61 (.gu 1 [z0] [0]) 60 1,ob 62 (.app 1 true) 58 61,oa 63 .bG 54,fu 64 18 63 2,sk 1 64 62 0] 0 [] [])))) (sr [oa 65 (.tas T.bT (.agg [z0,z0,z0])) 27,xa 66 1 65,xa 67 0 65] 0 [0,4,27,66,67] (cd 66 (sw (r0 [al 8 0 [z0,z0,z0],sk 3 8 67 0] 1 [0,4,8] [8]) (sw (r1 [mv 69 0,oa 70 .bG 69,fu 71 0 70 2,fu 72 0 71 2,ou 73 (.load true 2) 72 2,fu 74 0 8 1,ou 75 (.load true 3) 74 1,ob 76 (.KU 208) 73 75,mv 68 76,xa 77 0 68,xa 78 1 68,mv 9 77,mv 10 78] 0 [0,4,8,9,10] []) (sr [mv 79 4,mv 80 10,oi 81 pE 80 0,ob 82 .jg 79 81] 0 [0,4,8,9] (sw (sr [mv 83 9,oa 84 .len 83,mi 85 0] 0 [0,4,8,83,84,85] (.block 1 (.loop (sr [ob 86 pL 85 84] 0 [0,4,8,83,84,85,86] (sw (cx 86 1) (sw (.block 2 (sr [ix 87 1 83 85,lo 88 87,mv 12 88] 0 [0,4,8,12,83,84,85] (sr [mv 90 0,oa 91 .bG 90,fa 92 19 91,lo 93 92,mv 94 12,ob 95 (.Iz true [] (.agg [z0,z0])) 93 94,mv 89 95,xa 96 0 89,xa 97 1 89,al 13 0 [z0,z0],sk 2 13 96 0,mv 14 97] 1 [0,4,8,14,83,84,85] (rg [mv 98 4,mv 99 14,ob 100 .jg 98 99] 0 [0,4,8,83,84,85])))) (rg [oi 101 pA 85 1,mv 85 101] 0 [0,4,8,83,84,85]))))))) (sw (r1 [mv 102 0,oa 103 .bG 102,fu 104 0 103 2,fu 105 0 104 2,fu 106 0 105 2,ou 107 (.load false 1) 106 2,fu 108 0 8 1,fu 109 0 108 1,lv 110 109,ix 111 3 107 110,fu 112 1 111 3,ou 113 (.load true 2) 112 3,al 15 0 [z0,z0],sk 2 15 113 4] 1 [0,4,8,15] [15]) (sr [ag 16 1] 0 [0,4,8,15,16] (sw (sr [fa 114 0 15,lo 115 114,fa 116 0 8,fa 117 1 116,fa 118 0 117,lo 119 118,ob 120 pQ 115 119] 0 [0,4,8,15,16,120] (cd 120 (sr [mv 121 0,fa 122 0 8,fa 123 1 122,fa 124 0 123,lo 125 124,ob 126 (.call 209) 121 125,mv 17 126] 0 [0,4,8,15,16,17] (sr [mv 127 4,mv 128 17,ob 129 .jg 127 128] 0 [0,4,8,15,16] (rg [mv 130 16,fa 131 0 15,lo 132 131,oa 133 (.gu 1 [z0] [0]) 132,ob 134 (.app 1 false) 130 133,mv 16 134] 0 [0,4,8,15,16]))) .skip)) (sw (sr [fa 135 1 15,lo 136 135,fa 137 0 8,fa 138 1 137,fa 139 1 138,lo 140 139,ob 141 pQ 136 140] 0 [0,4,8,15,16,141] (cd 141 (sr [mv 142 0,fa 143 0 8,fa 144 1 143,fa 145 1 144,lo 146 145,ob 147 (.call 209) 142 146,mv 18 147] 0 [0,4,8,15,16,18] (sr [mv 148 4,mv 149 18,ob 150 .jg 148 149] 0 [0,8,15,16] (rg [mv 151 16,fa 152 1 15,lo 153 152,oa 154 (.gu 1 [z0] [0]) 153,ob 155 (.app 1 false) 151 154,mv 16 155] 0 [0,8,16]))) .skip)) (sr [mv 156 0,mv 157 0,oa 158 .bG 157,fa 159 18 158,lo 160 159,mv 161 16,ob 162 (.app 1 false) 160 161,oa 163 .bG 156,fa 164 18 163,sk 1 164 162 0] 0 [0,8] (r1 [mv 165 0,oa 166 .bG 165,fu 167 0 166 2,fu 168 0 167 2,fu 169 0 168 2,ou 170 (.load false 1) 169 2,fu 171 0 8 1,fu 172 0 171 1,lv 173 172,fu 174 0 8 1,fu 175 1 174 1,ou 176 (.load true 2) 175 1,ix 177 3 170 173,fu 178 1 177 3,sk 2 178 176 3] 0 [] [])))))))))) (sr [oa 179 (.tas T.fC (.agg [z0,z0,z0])) 27,xa 180 1 179,xa 181 0 179] 0 [0,4,27,180,181] (cd 180 (sw (r0 [al 19 0 [z0,z0,z0],sk 3 19 181 0] 1 [0,4,19] [19]) (sw (r1 [mv 183 0,oa 184 .bG 183,fu 185 19 184 2,ou 186 (.load false 1) 185 2,fu 187 0 19 1,lv 188 187,ob 189 (.Iz true [] (.agg [z0,z0])) 186 188,mv 182 189,xa 190 0 182,xa 191 1 182,al 20 0 [z0,z0],sk 2 20 190 4,mv 21 191] 1 [0,4,19,21] []) (sr [mv 192 4,mv 193 21,oa 194 pN 193,ob 195 .jg 192 194] 0 [0,19] (r1 [mv 196 0,oa 197 .bG 196,fu 198 19 197 2,ou 199 (.load false 1) 198 2,fu 200 0 19 1,lv 201 200,fu 202 1 19 1,ou 203 (.load true 2) 202 1,os (.adY []) [.t 199,.t 201,.t 203] 0] 0 [] [])))) (sr [oa 204 (.tas T.dW (.agg [z0,z0])) 27,xa 205 1 204,xa 206 0 204] 0 [0,4,27,205,206] (cd 205 (sw (r0 [al 22 0 [z0,z0],sk 2 22 206 0] 1 [0,4,22] [22]) (sw (r1 [mv 208 0,oa 209 .bG 208,fu 210 19 209 2,ou 211 (.load false 1) 210 2,fu 212 0 22 1,lv 213 212,ob 214 (.Iz true [] (.agg [z0,z0])) 211 213,mv 207 214,xa 215 0 207,xa 216 1 207,al 23 0 [z0,z0],sk 2 23 215 4,mv 24 216] 1 [0,4,22,23,24] [23]) (sw (r1 [mv 217 4,mv 218 24,mv 219 218,ov 220 .mov 0 219 0,ov 221 (.fld 0) 22 219 1,ov 222 (.load false 1) 221 219 1,ov 223 (.load true 2) 23 219 1,ot 224 (.jd 172) [.t 220,.t 222,.t 223,kI 100] 219 0,pf 225 219 224,mv 226 225,ov 227 (.fld 1) 22 226 1,ov 228 (.load false 1) 227 226 1,ov 229 .mov 0 226 0,ov 230 (.fld 0) 22 226 1,ov 231 (.load false 1) 230 226 1,obT 232 (.jd 167) 229 231 226 0,obT 233 (.bin .geq) 228 232 226 0,pf 234 226 233,ob 235 .jg 217 234] 0 [0,22,23] []) (sw (r1 [mv 236 0,oa 237 .bG 236,fu 238 19 237 2,ou 239 (.load false 1) 238 2,fu 240 0 22 1,lv 241 240,os (.adW []) [.t 239,.t 241] 0] 0 [0,22,23] []) (sw (r1 [mv 242 0,oa 243 .bG 242,fu 244 0 243 2,fu 245 2 244 2,ou 246 (.load false 1) 245 2,fu 247 0 22 1,lv 248 247,ou 249 (.load true 2) 23 1,ix 250 2 246 248,sk 2 250 249 0] 0 [0,22] []) (r1 [mv 251 0,oa 252 .bG 251,fu 253 20 252 2,ou 254 (.load false 1) 253 2,fu 255 1 22 1,lv 256 255,ob 257 pA 254 256,oa 258 .bG 251,fu 259 20 258 2,sk 1 259 257 0] 0 [] [])))))) (sr [oa 260 (.tas T.fM (.agg [z0])) 27,xa 261 1 260,xa 262 0 260] 0 [0,4,261,262] (cd 261 (sw (r0 [al 25 0 [z0],sk 1 25 262 0] 1 [0,4,25] [25]) (sw (r1 [mv 263 4,mv 264 0,oa 265 .bG 264,fu 266 17 265 2,ou 267 (.load false 1) 266 2,fu 268 0 25 1,lv 269 268,oi 270 pU 269 1,ob1 271 (.aZ 2) 267 270 1,fu 272 1 271 1,lv 273 272,mv 274 273,ov 275 .mov 0 274 0,ov 276 .bG 275 274 0,ov 277 (.fld 21) 276 274 2,ov 278 (.load false 1) 277 274 2,ov 279 .len 278 274 0,ot 280 pE [.t 279,kI 0] 274 0,ov 281 .mov 280 274 0,ow 282 (.fld 0) 25 281 1,ow 283 (.load false 1) 282 281 1,ow 284 .mov 0 281 0,ow 285 .bG 284 281 0,ow 286 (.fld 21) 285 281 2,ow 287 (.load false 1) 286 281 2,ow 288 .mov 0 281 0,ow 289 .bG 288 281 0,ow 290 (.fld 21) 289 281 2,ow 291 (.load false 1) 290 281 2,ow 292 .len 291 281 0,oF 293 pU [.t 292,kI 1] 281 0,obF 294 (.aZ 1) 287 293 281 0,ow 295 (.load false 1) 294 281 3,obF 296 pG 283 295 281 0,ot 297 .pick [.t 281,.c (.bool true),.t 296] 274 0,pf 298 274 297,ob 299 .jg 263 298] 0 [0,25] []) (r1 [mv 300 0,mv 301 0,oa 302 .bG 301,fu 303 21 302 2,ou 304 (.load false 1) 303 2,fu 305 0 25 1,lv 306 305,ou 307 (.gu 1 [z0] [0]) 306 1,ob 308 (.app 1 false) 304 307,oa 309 .bG 300,fu 310 21 309 2,sk 1 310 308 0] 0 [] []))) .skip))))))))))))))
def eU:aC C.P 113 2 dO jq=true:=by kernel_rfl
def oU:aA:=(sr [mk 4 (.c (.str ⟨#[]⟩))] 0 [0,1] (sw (r0 [mv 10 1,oa 11 (.aj 44) 10,mv 9 11,xa 12 0 9,xa 13 1 9,al 5 0 [z0,zs],sk 2 5 12 0,mv 6 13] 1 [0,1,5,6] [5]) (sw (sr [mv 14 6,oi 15 pE 14 0] 0 [0,1,5,6,15] (cd 15 (sr [mv 16 0,lw 17 2 5,ob 18 (.call 38) 16 17,mv 6 18] 0 [6] (sw (sr [mv 19 6,oi 20 pE 19 0] 0 [6,20] (cd 20 (sr [mk 4 (.c (.str ⟨#[110,111,116,101,100]⟩))] 0 [4] .ret) .skip)) (sr [mv 21 6,oa 22 (.aj 213) 21,on 23 pA [.c (.str ⟨#[101,114,114,111,114,32]⟩),.t 22],mv 4 23] 0 [4] .ret))) .skip)) (sw (sr [mv 24 6,oi 25 pE 24 3] 0 [0,1,6,25] (cd 25 (sr [mv 26 6,oa 27 (.aj 213) 26,on 28 pA [.c (.str ⟨#[101,114,114,111,114,32]⟩),.t 27],mv 4 28] 0 [4] .ret) .skip)) (sw (r0 [mv 30 1,oa 31 (.aj 214) 30,mv 29 31,xa 32 0 29,xa 33 1 29,al 7 0 [z0,zs],sk 2 7 32 0,mv 6 33] 1 [0,6,7] [7]) (sr [mk 8 (.c (.slice true []))] 0 [0,6,7,8] (sw (sr [mv 34 6,oi 35 pE 34 0] 0 [0,6,7,8,35] (cd 35 (rg [mv 37 0,lw 38 2 7,ob 39 (.call 21) 37 38,mv 36 39,xa 40 0 36,xa 41 1 36,mv 8 40,mv 6 41] 0 [6,8]) .skip)) (sw (.block 0 (sr [mv 43 6,oi 44 pQ 43 0,mv 42 44] 0 [6,8,42] (cd 42 (sr [mv 45 6,oa 46 (.aj 213) 45,on 47 pA [.c (.str ⟨#[101,114,114,111,114,32]⟩),.t 46],mv 4 47] 0 [4] .ret) (sr [mv 49 8,oa 50 .len 49,oi 51 pE 50 0,mv 48 51] 0 [8,48] (cd 48 (sr [mk 4 (.c (.str ⟨#[110,111,116,104,105,110,103]⟩))] 0 [4] .ret) .skip))))) (sr [mv 52 8,oa 53 (.jd 122) 52,mv 4 53] 0 [4] .ret)))))))))
def zM:aC C.P 117 2 oU aJ=true:=by kernel_rfl
def xQ:aA:=(sr [al 0 0 [.str ⟨#[]⟩,z0,.str ⟨#[]⟩,z0,.str ⟨#[]⟩,z0,.str ⟨#[]⟩,z0,.str ⟨#[]⟩,z0,.str ⟨#[]⟩,z0]] 1 [0] (sr [on 1 (.build [.str ⟨#[]⟩,z0] [(0,1),(1,1)]) [.c (.str ⟨#[99,117,116]⟩),kI 1],on 2 (.build [.str ⟨#[]⟩,z0] [(0,1),(1,1)]) [.c (.str ⟨#[99,104,97,110,103,101]⟩),kI 3],on 3 (.build [.str ⟨#[]⟩,z0] [(0,1),(1,1)]) [.c (.str ⟨#[111,114,100,101,114]⟩),kI 3],on 4 (.build [.str ⟨#[]⟩,z0] [(0,1),(1,1)]) [.c (.str ⟨#[115,101,114,118,101]⟩),kI 2],on 5 (.build [.str ⟨#[]⟩,z0] [(0,1),(1,1)]) [.c (.str ⟨#[115,101,116]⟩),kI 1],on 6 (.build [.str ⟨#[]⟩,z0] [(0,1),(1,1)]) [.c (.str ⟨#[115,116,114,105,107,101]⟩),kI 1],on 7 (.build [.str ⟨#[]⟩,z0,.str ⟨#[]⟩,z0,.str ⟨#[]⟩,z0,.str ⟨#[]⟩,z0,.str ⟨#[]⟩,z0,.str ⟨#[]⟩,z0] [(0,2),(2,2),(4,2),(6,2),(8,2),(10,2)]) [.t 1,.t 2,.t 3,.t 4,.t 5,.t 6],sk 12 0 7 0] 0 [0] .ret))
def IJ:aC C.P 121 0 xQ akS=true:=by kernel_rfl
def wS:aA:=(sr [mk 2 (.c (.str ⟨#[]⟩))] 0 [0] (sr [ag 3 1] 0 [0,3] (sw (sr [mv 6 0,oa 7 .len 6,mi 8 0] 0 [3,6,7,8] (.block 0 (.loop (sr [ob 9 pL 8 7] 0 [3,6,7,8,9] (sw (cx 9 0) (sw (.block 1 (sr [ix 10 1 6 8,lo 11 10,mv 5 11] 0 [3,5,6,7,8] (rg [mv 12 3,mv 13 5,oa 14 (.aj 213) 13,oa 15 (.gu 1 [.str ⟨#[]⟩] [0]) 14,ob 16 (.app 1 false) 12 15,mv 3 16] 0 [3,6,7,8]))) (rg [oi 17 pA 8 1,mv 8 17] 0 [3,6,7,8]))))))) (sr [mv 18 3,oc 19 (.jd 218) 18 (.c (.str ⟨#[32]⟩)),mv 2 19] 0 [2] .ret))))
def Gg:aC C.P 122 1 wS aK=true:=by kernel_rfl
def vk:aA:=(sw (r0 [on 5 (.aj 121) [],al 2 0 [.str ⟨#[]⟩,z0,.str ⟨#[]⟩,z0,.str ⟨#[]⟩,z0,.str ⟨#[]⟩,z0,.str ⟨#[]⟩,z0,.str ⟨#[]⟩,z0],sk 12 2 5 0] 1 [0,1,2] [2]) (sw (r1 [lv 7 0,ou 8 (.V8 true 2 6) 2 1,ob 9 (.call 126) 7 8,mv 6 9,xa 10 0 6,xa 11 1 6,mv 3 10,mv 4 11] 0 [1,3,4] []) (rg [mv 12 3,on 13 pA [kI 1,.t 12],mv 14 4,ob 15 (.build [z0,zs] [(0,1),(1,1)]) 13 14,sk 2 1 15 0] 0 [])))
def Fv:aC C.P 125 2 vk jq=true:=by kernel_rfl
def zf:aA:=(sr [mi 4 0,ag 5 1] 0 [0,1] (sr [mv 14 0,oc 15 (.aj 219) 14 (.c (.str ⟨#[32]⟩)),mv 6 15] 0 [0,1,6] (sr [mv 16 1,mv 17 6,oi 18 (.aZ 1) 17 0,lo 19 18,mv 20 6,oa 21 .len 20,oi 22 pU 21 1,ob 23 (.build [.str ⟨#[]⟩,z0] [(0,1),(1,1)]) 19 22,ob 24 (.aj 220) 16 23,mv 7 24] 0 [0,6,7] (sr [mv 25 7,oi 26 (.bin .geq) 25 0,mv 27 0,ob 28 (.call 221) 26 27] 0 [0,6,7] (sr [ag 8 1] 0 [0,6,7,8] (sw (sr [mv 29 6,oi 30 (.Eu 1 true false false) 29 1,oa 31 .len 30,mi 32 0] 0 [0,7,8,30,31,32] (.block 0 (.loop (sr [ob 33 pL 32 31] 0 [0,7,8,30,31,32,33] (sw (cx 33 0) (sw (.block 1 (sr [ix 34 1 30 32,lo 35 34,mv 10 35] 0 [0,7,8,10,30,31,32] (sr [mi 11 0] 0 [0,7,8,10,11,30,31,32] (sw (sr [mv 36 10,oa 37 (.rngS 0) 36] 1 [0,7,8,10,11,30,31,32,37] (.block 2 (.loop (sr [oa 38 .aaS 37,xa 39 0 38] 0 [0,7,8,10,11,30,31,32,37,38,39] (sw (cx 39 2) (.block 3 (sr [xa 40 2 38,mv 13 40] 0 [0,7,8,10,11,13,30,31,32,37] (sr [mv 41 13,oc 42 (.bin .geq) 41 (.c (.int .i32 48)),mv 43 42,ov 44 .mov 13 43 0,ot 45 (.bin .leq) [.t 44,.c (.int .i32 57)] 43 0,pf 46 43 45,mv 47 46,ov 48 .mov 10 47 0,ov 49 .Fg 48 47 0,ot 50 (.bin .leq) [.t 49,kI 4] 47 0,pf 51 47 50,mv 52 0,ob 53 (.call 221) 51 52] 0 [0,7,8,10,11,13,30,31,32,37] (rg [mv 54 11,on 55 pM [kI 10,.t 54],mv 56 13,oc 57 pU 56 (.c (.int .i32 48)),oa 58 (.conv .i64) 57,ob 59 pA 55 58,mv 11 59] 0 [0,7,8,10,11,30,31,32,37]))))))))) (sr [mv 60 10,oc 61 pQ 60 (.c (.str ⟨#[]⟩)),mv 62 61,ov 63 .mov 11 62 0,ov 64 (.aj 213) 63 62 0,ov 65 .mov 10 62 0,obT 66 pE 64 65 62 0,pf 67 62 66,mv 68 0,ob 69 (.call 221) 67 68] 0 [0,7,8,11,30,31,32] (rg [mv 70 8,mv 71 11,oa 72 (.gu 1 [z0] [0]) 71,ob 73 (.app 1 false) 70 72,mv 8 73] 0 [0,7,8,30,31,32])))))) (rg [oi 74 pA 32 1,mv 32 74] 0 [0,7,8,30,31,32]))))))) (sr [mv 75 7,mv 76 8,mv 4 75,mv 5 76] 0 [4,5] .ret)))))))
def J7:aC C.P 126 2 zf dY=true:=by kernel_rfl
def ku:aA:=(sr [mv 6 0,oa 7 .bG 6,fa 8 2 7,lo 9 8,oa 10 .len 9,mi 11 0] 0 [0,1,9,10,11] (.block 0 (.loop (sr [ob 12 pL 11 10] 0 [0,1,9,10,11,12] (sw (cx 12 0) (sw (.block 1 (sw (r0 [mv 13 11,ix 14 2 9 11,lw 15 2 14,al 5 0 [z0,zs],mv 4 13,sk 2 5 15 0] 1 [0,1,4,5,9,10,11] [5]) (sr [fa 16 0 5,lo 17 16,oi 18 pQ 17 6,mv 19 18,ov 20 .mov 0 19 0,ov 21 .bG 20 19 0,ov 22 (.fld 3) 21 19 0,ov 23 (.load false 1) 22 19 0,ov 24 .mov 4 19 0,obT 25 (.aZ 1) 23 24 19 0,ov 26 (.load false 1) 25 19 0,ov 27 pN 26 19 0,pf 28 19 27,mv 29 28,ov 30 .mov 1 29 0,ov 31 .mov 4 29 0,ov 32 (.load true 2) 5 29 0,ov 33 (.aj 111) 32 29 0,ot 34 .jg [.t 30,.t 31,.t 33] 29 0,ov 35 pN 34 29 0,pf 36 29 35] 0 [0,1,9,10,11,36] (cd 36 .ret .skip)))) (rg [oi 37 pA 11 1,mv 11 37] 0 [0,1,9,10,11])))))))
def oQ:aC C.P 163 2 ku jq=true:=by kernel_rfl
def oV:aA:=(sr [mf 4 false] 0 [0,1] (sr [mv 5 1,mv 6 0,oa 7 .bG 6,fa 8 0 7,lo 9 8,oa 10 .bG 9,fa 11 0 10,fa 12 1 11,lo 13 12,oa 14 .len 13,oi 15 pU 14 1,on 16 (.aj 70) [.t 5,kI 0,.t 15],mv 4 16] 0 [4] .ret))
def zN:aC C.P 166 2 oV aJ=true:=by kernel_rfl
def pq:aA:=(sr [mi 4 0] 0 [0,1] (sw (r1 [mv 14 0,oa 15 .bG 14,fu 16 0 15 1,fu 17 0 16 1,ou 18 (.load true 2) 17 1,mv 19 0,oa 20 .bG 19,fu 21 0 20 1,fu 22 0 21 1,fu 23 1 22 1,lv 24 23,mv 25 1,ob1 26 (.aZ 1) 24 25 1,lv 27 26,ob 28 (.aj 28) 18 27,mv 13 28,xa 29 0 13,xa 30 1 13,mv 5 29,mv 6 30] 0 [0,5] []) (sw (r1 [mv 31 0,oa 32 .bG 31,fu 33 0 32 1,fu 34 13 33 1,lv 35 34,mv 36 0,oa 37 .bG 36,fu 38 0 37 1,fu 39 14 38 1,lv 40 39,mv 41 0,oa 42 .bG 41,fu 43 0 42 1,fu 44 15 43 1,lv 45 44,mv 46 0,oa 47 .bG 46,fu 48 0 47 1,fu 49 16 48 1,lv 50 49,on 51 (.build [zs,z0,z0,z0,z0,z0] [(1,1),(2,1),(3,1),(4,1)]) [.t 35,.t 40,.t 45,.t 50],al 7 0 [zs,z0,z0,z0,z0,z0],sk 6 7 51 4] 1 [5,7] []) (sw (sr [mv 52 5,oa 53 .len 52,mi 54 0] 0 [7,52,53,54] (.block 0 (.loop (sr [ob 55 pL 54 53] 0 [7,52,53,54,55] (sw (cx 55 0) (sw (.block 1 (sw (r0 [ix 56 2 52 54,lw 57 2 56,al 9 0 [z0,z0],sk 2 9 57 0] 1 [7,9,52,53,54] [9]) (rg [fa 58 0 7,lo 59 58,fa 60 0 9,lo 61 60,fa 62 1 9,lo 63 62,ob 64 (.gu 1 [z0,z0] [0,1]) 61 63,ob 65 (.app 1 false) 59 64,fa 66 0 7,sk 1 66 65 0] 0 [7,52,53,54]))) (rg [oi 67 pA 54 1,mv 54 67] 0 [7,52,53,54]))))))) (sr [lw 69 6 7,oa 70 (.jd 29) 69,mv 68 70,xa 71 0 68,xa 72 1 68,xa 73 2 68,mv 10 71,mv 11 72,mv 12 73] 0 [10] (sr [mv 74 10,mv 4 74] 0 [4] .ret))))))
def zV:aC C.P 167 2 pq aJ=true:=by kernel_rfl
def vC:aA:=(sr [mf 2 false] 0 [0] (sr [mv 3 0,on 4 (.aj 70) [.t 3,kI 4,kI 60],mv 2 4] 0 [2] .ret))
def FB:aC C.P 168 1 vC aK=true:=by kernel_rfl
def qy:aA:=(sr [mf 4 false] 0 [0,1] (sr [mv 5 1,mv 6 0,oa 7 .bG 6,fa 8 1 7,lo 9 8,oa 10 .len 9,on 11 (.aj 70) [.t 5,kI 1,.t 10],mv 4 11] 0 [4] .ret))
def AZ:aC C.P 170 2 qy aJ=true:=by kernel_rfl
def o7:aA:=(sw (r0 [ba 2 0 0,mi 4 0] 1 [1,2] [2]) (sr [mi 5 0] 0 [1,2,5] (sw (sr [fa 8 0 2,lo 9 8,oa 10 .bG 9,fa 11 21 10,lo 12 11,oa 13 .len 12,mi 14 0] 0 [1,5,12,13,14] (.block 0 (.loop (sr [ob 15 pL 14 13] 0 [1,5,12,13,14,15] (sw (cx 15 0) (sw (.block 1 (sr [ix 16 1 12 14,lo 17 16,mv 7 17] 0 [1,5,7,12,13,14] (sr [mv 18 7,mv 19 1,ob 20 (.bin .leq) 18 19] 0 [1,5,7,12,13,14,20] (cd 20 (rg [mv 21 7,mv 5 21] 0 [1,5,12,13,14]) .skip)))) (rg [oi 22 pA 14 1,mv 14 22] 0 [1,5,12,13,14]))))))) (sr [mv 23 1,mv 24 5,ob 25 pU 23 24,mv 4 25] 0 [4] .ret))))
def zS:aC C.P 171 2 o7 aJ=true:=by kernel_rfl
def qO:aA:=(sw (r0 [ba 6 0 2,mf 8 false] 1 [0,1,3,6] [6]) (sw (r1 [mv 12 0,oa 13 .bG 12,fu 14 0 13 1,fu 15 0 14 1,ou 16 (.load true 2) 15 1,mv 17 1,ou 18 (.load true 2) 6 1,mv 19 3,on 20 (.aj 27) [.t 16,.t 17,.t 18,.t 19],mv 11 20,xa 21 0 11,xa 22 1 11,mv 9 21,mv 10 22] 0 [0,9] []) (sw (r1 [mv 23 9,mv 24 0,oa 25 .bG 24,fu 26 0 25 1,fu 27 3 26 1,lv 28 27,oa 29 (.un .neg) 28,mv 30 0,oa 31 .bG 30,fu 32 0 31 1,fu 33 3 32 1,lv 34 33,on 35 (.aj 70) [.t 23,.t 29,.t 34],mv 8 35] 0 [8] []) .ret)))
def Bl:aC C.P 172 4 qO Bz=true:=by kernel_rfl
def rU:aA:=(sr [mi 6 0,mf 7 false] 0 [0,1,2] (sw (sr [mv 9 0,mv 8 9] 0 [1,2,8] (.block 0 (.loop (sw (sr [mv 10 8,mv 11 1,ob 12 (.bin .leq) 10 11] 0 [1,2,8,12] (cx 12 0)) (sw (.block 1 (sr [mv 15 2,mv 16 8,ob 17 .jg 15 16] 0 [1,2,8,17] (cd 17 (sr [mv 18 8,mv 6 18,mf 7 true] 0 [6,7] .ret) .skip))) (rg [mv 13 8,oi 14 pA 13 1,mv 8 14] 0 [1,2,8])))))) (sr [mi 6 0,mf 7 false] 0 [6,7] .ret)))
def BO:aC C.P 173 3 rU QB=true:=by kernel_rfl
def mZ:aA:=(sr [mf 3 false] 0 [0,1] (sr [fa 4 0 1,lo 5 4,oa 6 .bG 5,fa 7 17 6,lo 8 7,mv 9 0,oi 10 pU 9 1,ix 11 2 8 10,fa 12 1 11,lo 13 12,mv 3 13] 0 [3] .ret))
def yw:aC C.P 174 2 mZ Za=true:=by kernel_rfl
def rV:aA:=(sw (r0 [ba 1 0 0,mf 2 false] 1 [1] [1]) (sr [lw 3 2 1,oa 4 (.aj 201) 3,oa 5 pN 4,mv 2 5] 0 [2] .ret))
def BP:aC C.P 200 1 rV aK=true:=by kernel_rfl
def qK:aA:=(sw (r0 [ba 1 0 0,mf 2 false] 1 [1] [1]) (sr [fa 3 0 1,lo 4 3,on 5 (.aj 70) [.t 4,kI 0,kI 50000],mv 6 5,ov 7 (.fld 1) 1 6 0,ov 8 (.load false 1) 7 6 0,ot 9 (.aj 70) [.t 8,kI 1,kI 50000] 6 0,pf 10 6 9,mv 2 10] 0 [2] .ret))
def Bf:aC C.P 201 1 qK aK=true:=by kernel_rfl
def qJ:aA:=(sr [mf 2 false] 0 [0] (sr [mv 3 0,on 4 (.aj 70) [.t 3,kI 0,kI 9999],oa 5 pN 4,mv 2 5] 0 [2] .ret))
def Bd:aC C.P 206 1 qJ aK=true:=by kernel_rfl
def kP:aA:=(sr [mv 3 0,oa 4 pN 3] 0 [1,4] (cd 4 (rg [lo 5 1,oa 6 (.build [.nilIface] [(0,1)]) 5,oa 7 (.mkI T.iT) 6,os .panic [.t 7] 0] 0 []) .skip))
def qm:aC C.P 207 2 kP jq=true:=by kernel_rfl
def qP:aA:=(sr [mf 4 false] 0 [0,1] (sr [mv 6 0,oa 7 .bG 6,fa 8 18 7,lo 9 8,mv 10 1,ob 11 (.jd 269) 9 10,mv 5 11] 0 [0,5] (sw (sr [mv 12 5,oi 13 pL 12 0] 0 [0,5,13] (cd 13 (sr [mf 4 false] 0 [4] .ret) .skip)) (sr [mv 14 0,mv 15 0,oa 16 .bG 15,fa 17 18 16,lo 18 17,mv 19 5,mv 20 5,oi 21 pA 20 1,on 22 (.call 271) [.t 18,.t 19,.t 21],oa 23 .bG 14,fa 24 18 23,sk 1 24 22 0] 0 [] (sr [mf 4 true] 0 [4] .ret)))))
def Bo:aC C.P 209 2 qP aJ=true:=by kernel_rfl
def tY:aA:=(sw (r0 [ba 1 0 0,al 2 1 [z0,zs],mi 3 0] 2 [1,2] [1]) (sr [al 4 0 [z0,zs]] 1 [1,2,4] (sr [ob 6 (.mkF (.func 274) 0) 1 4,oa 7 (.call 72) 6,mv 5 7] 0 [2,4,5] (sr [lw 8 2 4,mv 9 5,sk 2 2 8 0,mv 3 9] 0 [2,3] .ret))))
def D5:aC C.P 214 1 tY Zc=true:=by kernel_rfl
def rC:aA:=(sr [mv 4 0,oa 5 pN 4] 0 [1,5] (cd 5 (rg [mv 6 1,oa 7 (.build [.str ⟨#[]⟩] [(0,1)]) 6,oa 8 (.mkI T.qV) 7,os .panic [.t 8] 0] 0 []) .skip))
def J6:aC C.P 221 2 rC jq=true:=by kernel_rfl
def qM:aA:=(sw (r0 [on 5 (.aj 71) [],al 2 0 [.str ⟨#[]⟩,z0,.str ⟨#[]⟩,z0,.str ⟨#[]⟩,z0,.str ⟨#[]⟩,z0,.str ⟨#[]⟩,z0,.str ⟨#[]⟩,z0,.str ⟨#[]⟩,z0,.str ⟨#[]⟩,z0,.str ⟨#[]⟩,z0,.str ⟨#[]⟩,z0,.str ⟨#[]⟩,z0,.str ⟨#[]⟩,z0],sk 24 2 5 0] 1 [0,1,2] [2]) (sw (r1 [lv 7 0,ou 8 (.V8 true 2 12) 2 1,ob 9 (.call 126) 7 8,mv 6 9,xa 10 0 6,xa 11 1 6,mv 3 10,mv 4 11] 0 [1,3,4] []) (rg [mv 12 3,on 13 pA [kI 1,.t 12],mv 14 4,ob 15 (.build [z0,zs] [(0,1),(1,1)]) 13 14,sk 2 1 15 0] 0 [])))
def Bh:aC C.P 274 2 qM jq=true:=by kernel_rfl
def pz:aA:=(sw (r0 [ba 2 0 0,mf 4 false] 1 [1,2] [2]) (sw (r1 [fu 5 0 2 1,lv 6 5,mv 7 1,oa 8 .bG 7,fu 9 2 8 1,lv 10 9,ou 11 .len 10 1,oi 12 pU 11 1,on 13 (.aj 70) [.t 6,kI 0,.t 12],mv 14 13,ov 15 .mov 1 14 0,ov 16 .bG 15 14 0,ov 17 (.fld 2) 16 14 1,ov 18 (.load false 1) 17 14 1,ov 19 (.fld 0) 2 14 1,ov 20 (.load false 1) 19 14 1,obT 21 (.aZ 2) 18 20 14 1,ov 22 (.fld 0) 21 14 1,ov 23 (.load false 1) 22 14 1,ot 24 pQ [.t 23,kI 6] 14 0,pf 25 14 24,mv 4 25] 0 [4] []) .ret))
def zW:aC C.P 373 2 pz aJ=true:=by kernel_rfl
def tV:aA:=(sw (r0 [ba 2 0 0,mf 4 false] 1 [2] [2]) (sr [fa 5 0 2,lo 6 5,oa 7 (.aj 168) 6,mv 4 7] 0 [4] .ret))
def DY:aC C.P 375 2 tV aJ=true:=by kernel_rfl
def o9:aA:=(sw (r0 [ba 2 0 0,mf 4 false] 1 [1,2] [2]) (sw (r1 [fu 5 0 2 1,fu 6 0 5 1,lv 7 6,mv 8 1,oa 9 .bG 8,fu 10 0 9 1,lv 11 10,oa 12 .bG 11,fu 13 0 12 1,fu 14 0 13 1,lv 15 14,ou 16 .len 15 1,oi 17 pU 16 1,on 18 (.aj 70) [.t 7,kI 0,.t 17],mv 19 18,ov 20 (.fld 0) 2 19 1,ov 21 (.fld 1) 20 19 1,ov 22 (.fld 0) 21 19 1,ov 23 (.load false 1) 22 19 1,ov 24 (.aj 168) 23 19 0,pf 25 19 24,mv 26 25,ov 27 (.fld 0) 2 26 1,ov 28 (.fld 1) 27 26 1,ov 29 (.fld 1) 28 26 1,ov 30 (.load false 1) 29 26 1,ov 31 (.aj 168) 30 26 0,pf 32 26 31,mv 4 32] 0 [4] []) .ret))
def zU:aC C.P 376 2 o9 aJ=true:=by kernel_rfl
def qL:aA:=(sw (r0 [ba 2 0 0,mf 4 false] 1 [1,2] [2]) (sr [mv 5 1,fa 6 0 2,lo 7 6,ob 8 (.aj 166) 5 7,mv 9 8,ov 10 (.fld 1) 2 9 0,ov 11 (.load true 2) 10 9 0,ov 12 (.aj 201) 11 9 0,pf 13 9 12,mv 4 13] 0 [4] .ret))
def Bg:aC C.P 377 2 qL aJ=true:=by kernel_rfl
def qN:aA:=(sw (r0 [ba 2 0 0,mf 4 false] 1 [1,2] [2]) (sr [mv 5 1,fa 6 0 2,lo 7 6,ob 8 (.aj 166) 5 7,mv 4 8] 0 [4] .ret))
def Bj:aC C.P 378 2 qN aJ=true:=by kernel_rfl
def tZ:aA:=(sw (r0 [ba 2 0 0,mf 4 false] 1 [1,2] [2]) (sr [mv 5 1,fa 6 0 2,lo 7 6,ob 8 (.aj 170) 5 7,mv 4 8] 0 [4] .ret))
def D6:aC C.P 379 2 tZ aJ=true:=by kernel_rfl
end Go.Tel
namespace Go.Tel
open Go.Am
structure Su where
 pc:Pc
 tg:List Fr
 lim:Int
 dvd:Dvd
 cal:Cal
 jf:gK
 fs:List Fs
 year:Int
 gq:Int
 hours:Int
 lC:Int
 pct:Int
 deriving DecidableEq,Inhabited
def Su.cs (s:Su):List DV:=[sF (s.pc.links.map Lk.dv),sF (s.pc.hands.map ay),sF (s.tg.map Fr.dv),dI s.lim,dI s.dvd.eF,sF (s.dvd.cir.map ay),dI s.cal.ep,sF (s.cal.cy.map ay),dI s.jf.n,dI s.jf.d,dI s.jf.ad,sF (s.fs.map Fs.dv),dI s.year,dI s.gq,dI s.hours,dI s.lC,dI s.pct]
def Su.dv (s:Su):DV:= .agg s.cs
variable{s:Su}
def uS:s.cs=[sF (s.pc.links.map Lk.dv),sF (s.pc.hands.map ay),sF (s.tg.map Fr.dv),dI s.lim,dI s.dvd.eF,sF (s.dvd.cir.map ay),dI s.cal.ep,sF (s.cal.cy.map ay),dI s.jf.n,dI s.jf.d,dI s.jf.ad,sF (s.fs.map Fs.dv),dI s.year,dI s.gq,dI s.hours,dI s.lC,dI s.pct]:=by rw[Su.cs]
def gU:s.dv= .agg [sF (s.pc.links.map Lk.dv),sF (s.pc.hands.map ay),sF (s.tg.map Fr.dv),dI s.lim,dI s.dvd.eF,sF (s.dvd.cir.map ay),dI s.cal.ep,sF (s.cal.cy.map ay),dI s.jf.n,dI s.jf.d,dI s.jf.ad,sF (s.fs.map Fs.dv),dI s.year,dI s.gq,dI s.hours,dI s.lC,dI s.pct]:=by rw[Su.dv,Su.cs]
def Su.bil (s:Su)(dJ:List Int):Bil:=⟨dJ,s.gq,s.hours,s.lC,s.pct,0⟩
def Su.ok (s:Su):Bool:=s.pc.ok&&decide (s.tg.length=s.pc.hands.length)&&inR s.lim 0 10800&&s.dvd.ok&&(s.cal.ok&&s.jf.ok&&jA s.fs&&inR s.year 0 4000)&&(s.bil []).ok&&s.tg.all Fr.ok
def Ah (n l h:Int):Pure C 70 [dI n,dI l,dI h] (.d (.bool (inR n l h))) []:=by
 refine ah mixed rfl Om ?_
 by_cases h1:n>=l<;>simp only[h1,inR,Ce,jr,bq,RN,F,H,I,J,N,S]
def l7 (n:Int):Pure C 168 [dI n] (.d (.bool (aT n))) []:=by
 refine ah mixed rfl FB ?_;simp only[vC,aK,RN,F,H,I,J,N,S]
 repeat' first
  |(refine ak rfl rfl (Ah _ _ _) ?_;try simp only[RN,F,H,I,J,N,S])
  |(refine bF (by rfl) (fun a=> ?_) (fun a=> ?_)<;>simp only[a,RN,F,H,I,J,N,S])
  |(refine bJ (by rfl) (fun a=> ?_) (fun a=> ?_)<;>simp only[a,RN,F,H,I,J,N,S])
 all_goals(first|(simp only[aT, *,BSN];done)|(simp_all[aT];done)|(simp_all[aT];omega))
def afj (f:Fr):Pure C 201 [f.dv] (.d (.bool f.ok)) []:=by
 refine ah mixed rfl Bf ?_;simp only[qK,aK,bW,RN,F,H,I,J,N,S]
 repeat' first
  |(refine ak rfl rfl (Ah _ _ _) ?_;try simp only[bW,RN,F,H,I,J,N,S])
  |(refine bF (by rfl) (fun a=> ?_) (fun a=> ?_)<;>simp only[a,bW,RN,F,H,I,J,N,S])
  |(refine bJ (by rfl) (fun a=> ?_) (fun a=> ?_)<;>simp only[a,bW,RN,F,H,I,J,N,S])
 all_goals(first|(simp only[Fr.ok, *,BSN];done)|(simp_all[Fr.ok];done)|(simp_all[Fr.ok];omega))
def adL (f:Fr):Pure C 200 [f.dv] (.d (.bool (!f.ok))) []:=by
 refine ah mixed rfl BP ?_;simp only[rV,aK,bW,RN,F,H,I,J,N,S];have h:=afj f;rw[bW]at h;refine ak rfl rfl h ?_;(try simp only[RN,F,H,I,J,N,S])
structure Su.Small (s:Su):Prop where
 l:s.pc.links.length<=1000
 h:s.pc.hands.length<=1000
 t:s.tg.length<=1000
 ci:s.dvd.cir.length<=1000
 cy:s.cal.cy.length<=1000
def ado (c:Cal)(m:gK)(l:List Fs)(y:Int):∃d,vY c m l y= .tup [d,dI (if c.ok&&m.ok&&jA l&&inR y 0 4000 then 0 else 2)]:=by
 unfold vY
 split<;>exact⟨_,rfl⟩
def ahh (d:Dvd):d.numbers.2=if d.ok then 0 else 2:=by unfold Dvd.numbers;split<;>rfl
def aoq (b:Bil):b.VB.2.2=if b.ok then 0 else 2:=by unfold Bil.VB;split<;>rfl
def ag6 (s:Su)(hs:s.Small):Pure C 107 [s.dv] (.d (.bool s.ok)) []:=by
 refine ah mixed rfl Fz ?_;have h1:=alD s.pc hs.l hs.h;rw[dZ]at h1;have h2:=afW s.dvd hs.ci;rw[sZ]at h2;have a:=Zx s.cal s.jf false s.fs s.year (by have:=hs.cy;omega);rw[fE,iy]at a;have b:=aij (s.bil []) (by simp[Su.bil]);rw[JI]at b;have o:=VE s.tg 200 [] (fun f=> !f.ok) (by have:=hs.t;omega) (by kernel_rfl) fun f _=>adL f
 have z0:((0:Int) !=0)=false:=rfl;have p:((2:Int) !=0)=true:=rfl;have g:((0:Int)==0)=true:=rfl;have i:((2:Int)==0)=false:=rfl;simp only[vw,aK,gU,RN,F,H,I,J,N,S];refine ak rfl rfl h1 ?_;cases j:s.pc.ok
 ·simp only[p,if_false,be,RN,F,H,I,J,N,S]
  simp[Su.ok,j]
 simp only[z0,if_true,Z,RN,F,H,I,J,N,S]
 by_cases e:s.tg.length=s.pc.hands.length
 ·have z1:((s.tg.length:Int) !=(s.pc.hands.length:Int))=false:=by simp[e]
  simp only[z1,RN,F,H,I,J,N,S];refine ak rfl rfl (Ah _ _ _) ?_;cases k:inR s.lim 0 10800
  ·(try simp only[RN,F,H,I,J,N,S])
   simp[Su.ok,k]
  (try simp only[RN,F,H,I,J,N,S]);obtain⟨q,c⟩:=ado s.cal s.jf s.fs s.year;rw[c]at a;rw[ahh]at h2;rw[aoq]at b;refine ak rfl rfl h2 ?_;(try simp only[RN,F,H,I,J,N,S]);refine ak rfl rfl a ?_;(try simp only[RN,F,H,I,J,N,S]);refine ak rfl rfl b ?_;cases m:s.dvd.ok
  ·simp only[i,if_false,be,RN,F,H,I,J,N,S]
   simp[Su.ok,m]
  cases n:s.cal.ok&&s.jf.ok&&jA s.fs&&inR s.year 0 4000
  ·simp only[i,g,if_false,if_true,be,RN,F,H,I,J,N,S]
   simp[Su.ok,n]
  cases k6:(s.bil []).ok
  ·simp only[i,g,if_false,if_true,be,RN,F,H,I,J,N,S]
   simp[Su.ok,k6]
  simp only[g,if_true,RN,F,H,I,J,N,S];refine ak rfl rfl o ?_;simp only[Dh,cn,RN,F,H,I,J,N,S];rw[Su.ok,j,k,m,n,k6,decide_eq_true e];simp
 ·have z1:((s.tg.length:Int) !=(s.pc.hands.length:Int))=true:=by simp;omega
  simp only[z1,RN,F,H,I,J,N,S];simp[Su.ok,e]
end Go.Tel
namespace Go.Tel
open Go.Am
def Dp (xs:List DV)(hf:∀y∈xs,y.fits 1=true)(hl:xs.length<=1000000):Pure C 114 [.slice false xs] (.tsl 0 0 0) [⟨1,xs,0,0⟩]:=by
 refine sD mixed rfl IL ?_;simp only[xX,aK,RN,F,H,I,J,N,S];refine⟨fun _=> ?_,fun a b=> ?_⟩
 ·(try simp only[RN,F,H,I,J,N,S])
  exact⟨hf,by simp,by simp,by omega,Aw (k:=1) (A:=⟨1,xs,0,0⟩) rfl rfl (ax _) rfl⟩
 ·subst a
  cases b
  ·(try simp only[RN,F,H,I,J,N,S])
   (repeat(refine a6 (by first|assumption|rfl|(simp;done)|(simp;omega)) ?_))
   exact Aw (k:=1) (A:=⟨1,[],0,0⟩) rfl rfl (ax _) rfl
  ·(try simp only[RN,F,H,I,J,N,S])
   exact Aw (k:=1) (A:=⟨1,[],0,0⟩) rfl rfl (ax _) rfl
def agA (xs:List DV)(hf:∀y∈xs,y.fits 4=true)(hl:xs.length<=1000000):Pure C 204 [.slice false xs] (.tsl 0 0 0) [⟨4,xs,0,0⟩]:=by
 refine sD mixed rfl wO ?_;simp only[lD,aK,RN,F,H,I,J,N,S];refine⟨fun _=> ?_,fun a b=> ?_⟩
 ·(try simp only[RN,F,H,I,J,N,S])
  exact⟨hf,by simp,by simp,by omega,Aw (k:=1) (A:=⟨4,xs,0,0⟩) rfl rfl (ax _) rfl⟩
 ·subst a
  cases b
  ·(try simp only[RN,F,H,I,J,N,S])
   (repeat(refine a6 (by first|assumption|rfl|(simp;done)|(simp;omega)) ?_))
   exact Aw (k:=1) (A:=⟨4,[],0,0⟩) rfl rfl (ax _) rfl
  ·(try simp only[RN,F,H,I,J,N,S])
   exact Aw (k:=1) (A:=⟨4,[],0,0⟩) rfl rfl (ax _) rfl
def agz (xs:List DV)(hf:∀y∈xs,y.fits 2=true)(hl:xs.length<=1000000)(a:xs≠[]):Pure C 203 [.slice false xs] (.tsl 0 0 0) [⟨2,xs,0,1⟩]:=by
 refine sD mixed rfl sJ ?_;simp only[jV,aK,RN,F,H,I,J,N,S];refine⟨fun _=> ?_,fun b=>absurd b a⟩;exact⟨hf,a,by simp,by omega,Aw (k:=1) (A:=⟨2,xs,0,1⟩) rfl rfl (ax _) rfl⟩
def Su.rows (s:Su):List Arr:=[⟨3,s.pc.links.map Lk.dv,0,1⟩,⟨1,s.pc.hands.map ay,0,0⟩,⟨2,s.tg.map Fr.dv,0,1⟩,⟨4,s.fs.map Fs.dv,0,0⟩,⟨1,s.dvd.cir.map ay,0,0⟩,⟨1,s.cal.cy.map ay,0,0⟩]
def Su.pv (s:Su):PV:= .agg [.tsl 0 0 0, .tsl 1 0 0, .tsl 2 0 0,pI s.lim,pI s.dvd.eF, .tsl 4 0 0,pI s.cal.ep, .tsl 5 0 0,pI s.jf.n,pI s.jf.d,pI s.jf.ad, .tsl 3 0 0,pI s.year,pI s.gq,pI s.hours,pI s.lC,pI s.pct]
structure Su.Some (s:Su):Prop where
 l:s.pc.links≠[]/\s.pc.links.length<=1000
 t:s.tg≠[]/\s.tg.length<=1000
 h:s.pc.hands.length<=1000
 f:s.fs.length<=1000
 ci:s.dvd.cir.length<=1000
 cy:s.cal.cy.length<=1000
def vN {l:List Int}:∀y∈l.map ay,DV.fits 1 y=true:=by
 intro y a;simp only[aM]at a;obtain⟨z,_,rfl⟩:=a;rfl
def ZX (s:Su)(hs:s.Some):Pure C 108 [s.dv] s.pv s.rows:=by
 have h1:=WA (s.pc.links.map Lk.dv) (by intro y a;simp only[aM]at a;obtain⟨z,_,rfl⟩:=a;rfl) (by have:=hs.l.2;simp;omega) (by simpa using hs.l.1);have h2:=Dp (s.pc.hands.map ay) vN (by have:=hs.h;simp;omega);have b:=agz (s.tg.map Fr.dv) (by intro y a;simp only[aM]at a;obtain⟨z,_,rfl⟩:=a;rfl) (by have:=hs.t.2;simp;omega) (by simpa using hs.t.1);have c:=agA (s.fs.map Fs.dv) (by intro y a;simp only[aM]at a;obtain⟨z,_,rfl⟩:=a;rfl) (by have:=hs.f;simp;omega);have d:=Dp (s.dvd.cir.map ay) vN (by have:=hs.ci;simp;omega);have e:=Dp (s.cal.cy.map ay) vN (by have:=hs.cy;simp;omega);refine sD mixed rfl F9 ?_;simp only[wQ,akR,gU,RN,F,H,I,J,N,S];refine yH rfl rfl h1 (by simp) ?_;simp only[PV.shift,kC,bM,dB,RN,F,H,I,J,N,S]
 (repeat(refine a6 (by first|assumption|rfl|(simp;done)|(simp;omega)) ?_))
 refine yH rfl rfl h2 (by simp) ?_;simp only[PV.shift,kC,bM,dB,RN,F,H,I,J,N,S]
 (repeat(refine a6 (by first|assumption|rfl|(simp;done)|(simp;omega)) ?_))
 refine yH rfl rfl b (by simp) ?_;simp only[PV.shift,kC,bM,dB,RN,F,H,I,J,N,S]
 (repeat(refine a6 (by first|assumption|rfl|(simp;done)|(simp;omega)) ?_))
 refine yH rfl rfl c (by simp) ?_;simp only[PV.shift,kC,bM,dB,RN,F,H,I,J,N,S]
 (repeat(refine a6 (by first|assumption|rfl|(simp;done)|(simp;omega)) ?_))
 refine yH rfl rfl d (by simp) ?_;simp only[PV.shift,kC,bM,dB,RN,F,H,I,J,N,S]
 (repeat(refine a6 (by first|assumption|rfl|(simp;done)|(simp;omega)) ?_))
 refine yH rfl rfl e (by simp) ?_;simp only[PV.shift,kC,bM,dB,RN,F,H,I,J,N,S]
 (repeat(refine a6 (by first|assumption|rfl|(simp;done)|(simp;omega)) ?_))
 simp only[bI,eP,gI,RN,F,H,I,J,N,S];exact⟨[(0,0),(1,0),(2,0),(3,0),(4,0),(5,0)],⟨by simp[Ai],by decide⟩,rfl,rfl⟩
def Xm {C:Ctx}{f:FuncId}{ds:List DV}{r:PV}{a:List Arr}{x:DV}(h:Pure C f ds r a)(hd:datum (rowsOf a) r=some x):Pure C f ds (.d x) []:=by
 intro X w c k n s p;refine(h X w c k n s p).mono fun e u m=> ?_
 obtain⟨v,t,rfl,h2,i,j⟩:=m;have g:Ak (rowsOf a) []:=⟨fun q o=>(by cases o),List.nodup_nil⟩
 exact⟨v,_,rfl,Zh h2 g,Tc i g, .d ((kV (ps:=[r]) h2 j hd (by simp)).weaken fun b l=> .inl (Hy b l))⟩
def aiS (s:Su)(hs:s.Some):Pure C 108 [s.dv] (.d s.dv) []:=Xm (ZX s hs) (by rw[gU];rfl)
end Go.Tel
namespace Go.Tel
open Go.Am
def Su.dates (s:Su):List Int:=s.fs.map (kW s.cal s.jf s.year)
def Su.works (s:Su)(n:Int):Bool:=(n+4).tmod 7 !=0&& !s.dates.contains n
def Su.first (s:Su):Int:=s.cal.first s.year.toNat
def Su.dur (s:Su):Nat:=(wH (s.cal.leap s.year)).toNat
def Su.pJ (s:Su)(k:Nat):List (Int×Bool):=(List.range k).map fun(i:Nat)=>(s.first+i,s.works (s.first+i))
def Su.days (s:Su):List (Int×Bool):=s.pJ s.dur
def Ac (d:Int×Bool):DV:= .agg [dI d.1, .bool d.2]
def ac8 {d:Int×Bool}:Ac d= .agg [dI d.1, .bool d.2]:=by rw[Ac]
def Z7 (s:Su)(k:Nat):s.pJ (k+1)=s.pJ k++ [(s.first+k,s.works (s.first+k))]:=by simp[Su.pJ,List.range_succ]
variable{s:Su}
def Su.facts (h:s.ok=true):s.pc.ok=true/\s.tg.length=s.pc.hands.length/\inR s.lim 0 10800=true/\s.dvd.ok=true/\s.cal.ok=true/\s.jf.ok=true/\jA s.fs=true/\(0<=s.year/\s.year<=4000)/\(s.bil []).ok=true/\∀f∈s.tg,f.ok=true:=by
 simp only[Su.ok,ao,decide_eq_true_eq,bA]at h;obtain⟨⟨⟨⟨⟨⟨h1,h2⟩,b⟩,c⟩,⟨⟨d,e⟩,g⟩,i⟩,j⟩,a⟩:=h;exact⟨h1,h2,b,c,d,e,g,by simpa[inR]using i,j,a⟩
def Pc.xA {p:Pc}(h:p.ok=true):(1<=p.links.length/\p.links.length<=5)/\1<=p.hands.length/\p.hands.length<=4:=by
 simp only[Pc.ok,ao,inR,decide_eq_true_eq]at h;omega
def Su.RH (h:s.ok=true):s.Some:=by
 obtain⟨h1,h2,_,b,c,k,d,_⟩:=Su.facts h;obtain⟨a,f⟩:=Pc.xA h1;obtain⟨_,g,_⟩:=Dvd.TW b;obtain⟨_,i,_⟩:=Cal.facts c;obtain⟨j,_⟩:=tC d;exact⟨⟨fun e=>by rw[e]at a;simp at a,by omega⟩,⟨fun e=>by rw[e]at h2;simp at h2;omega,by omega⟩,by omega,by omega,by omega,by omega⟩
def adq {c:Cal}{y:Int}(hc:c.ok=true)(f:0<=y/\y<=4000):Z5 c ⟨y,1,1⟩= .tup [dI (c.first y.toNat),dI 0]/\Z5 c ⟨y,12,31⟩= .tup [dI (c.first y.toNat+wH (c.leap y) - 1),dI 0]:=by
 have d:inR y 0 4000=true:=by simp[inR];omega
 have b:(c.firsts 4002).getD y.toNat default=c.first y.toNat:=nK c (by omega);constructor
 ·have e:jY c ⟨y,1,1⟩=true:=by cases a:c.leap y<;>simp[jY,a,aY,inR]<;>omega
  rw[Z5,hc,e];simp only[bk,if_true,AU,b];simp[dS]
 ·have e:jY c ⟨y,12,31⟩=true:=by cases a:c.leap y<;>simp[jY,a,aY,inR]<;>omega
  rw[Z5,hc,e];simp only[bk,if_true,AU,b];cases a:c.leap y<;>simp[dS,aY,wH]<;>omega
def ap6 (s:Su)(hs:s.ok=true):Pure C 109 [s.dv] (.d (sF (s.days.map Ac))) []:=by
 obtain⟨h1,h2,L,M,e,v,j,w,O,u⟩:=Su.facts hs;obtain⟨P,Q,R⟩:=Cal.facts e;obtain⟨q,r⟩:=adq e w;have l:=anY s.cal ⟨s.year,1,1⟩ (by omega);have m:=anY s.cal ⟨s.year,12,31⟩ (by omega);have n:=Zx s.cal s.jf false s.fs s.year (by omega);have f:vY s.cal s.jf s.fs s.year= .tup [sF (s.dates.map ay),dI 0]:=by
  rw[vY,e,v,j,show inR s.year 0 4000=true by simp[inR];omega];rfl
 rw[q,fE,pY]at l;rw[r,fE,pY]at m;rw[f,fE,iy]at n;have y:=s.cal.kG s.year.toNat;have hd:wH (s.cal.leap s.year)=s.dur:=by have:=mY (s.cal.leap s.year);unfold Su.dur;split at this<;>omega
 have x:s.dur<=366/\365<=s.dur:=by have:=mY (s.cal.leap s.year);unfold Su.dur;split at this<;>omega
 have o:cA .i64 (s.cal.first s.year.toNat+wH (s.cal.leap s.year) - 1 - s.cal.first s.year.toNat)=(s.dur:Int) - 1:=by rw[aF (by omega)];omega
 have p:cA .i64 ((s.dur:Int) - 1+1)=(s.dur:Int):=by rw[aF (by omega)];omega
 refine bU (aG mixed rfl J8 ?_);simp only[zh,aK,gU,RN,F,H,I,J,N,S];refine ak rfl rfl l ?_;(try simp only[RN,F,H,I,J,N,S]);refine ak rfl rfl m ?_;(try simp only[RN,F,H,I,J,N,S]);refine ak rfl rfl n ?_;simp only[o,p,RN,F,H,I,J,N,S];have asT:s.dates.length<=6:=by
  have:=(tC j).1;simp[Su.dates];omega
 refine aH s.dur (fun i (_:Unit)=>⟨[(3,pI (s.cal.first s.year.toNat)),(7, .d (sF (s.dates.map ay))),(9, .tsl 1 i 0),(45,pI s.dur),(46,pI i)],
   ⟨[some (s.cs.map .d)],[0],[some ⟨2,[],0,0⟩,some ⟨2,(s.pJ i).map Ac,i,0⟩]⟩⟩)
  (fun _ _=>True) 0 () (ax _) (by rw[uS];rfl) trivial (fun i _ c _=> ?_) (fun _ _=> ?_)
 ·obtain⟨t,K,h⟩:=rng c (by omega)
  have A:cA .i64 (s.cal.first s.year.toNat+(i:Int))=s.cal.first s.year.toNat+i:=aF (by omega);have B:cA .i64 (s.cal.first s.year.toNat+(i:Int)+4)=s.cal.first s.year.toNat+i+4:=aF (by omega);have E:0<=(s.cal.first s.year.toNat+(i:Int)+4).tmod 7:=Int.tmod_nonneg 7 (by omega);have G:(s.cal.first s.year.toNat+(i:Int)+4).tmod 7<7:=Int.tmod_lt_of_pos _ (by decide);have D:cA .i64 ((s.cal.first s.year.toNat+(i:Int)+4).tmod 7)=(s.cal.first s.year.toNat+(i:Int)+4).tmod 7:=aF (by omega);have z:¬((7:Int)=0):=by decide
  have b:(s.pJ i).length=i:=by simp[Su.pJ]
  have a:(s.pJ i).map Ac++ [.agg [dI (s.cal.first s.year.toNat+i), .bool (s.works (s.cal.first s.year.toNat+i))]]=(s.pJ (i+1)).map Ac:=by
   rw[Z7,bp];rfl
  simp only[t,A,B,D,z,RN,F,H,I,J,N,S];cases k:((s.cal.first s.year.toNat+(i:Int)+4).tmod 7 !=0)
  ·have g:s.works (s.cal.first s.year.toNat+i)=false:=by rw[Su.works,k];rfl
   rw[g]at a;simp only[h,vJ,DV.strip,forall_eq,b,Z,RN,F,H,I,J,N,S]
   (repeat(refine a6 (by first|assumption|rfl|(simp;done)|(simp;omega)) ?_))
   refine⟨by omega,?_⟩;rw[a];exact bn (len:=s.dur) (i:=i) () c rfl trivial
  ·have g:s.works (s.cal.first s.year.toNat+i)= !s.dates.contains (s.cal.first s.year.toNat+i):=by rw[Su.works,k];rfl
   rw[g]at a;(try simp only[RN,F,H,I,J,N,S]);refine ak rfl rfl (VH s.dates _ (by omega)) ?_;simp only[h,vJ,DV.strip,forall_eq,b,Z,RN,F,H,I,J,N,S]
   (repeat(refine a6 (by first|assumption|rfl|(simp;done)|(simp;omega)) ?_))
   refine⟨by omega,?_⟩;rw[a];exact bn (len:=s.dur) (i:=i) () c rfl trivial
 ·simp only[bl,RN,F,H,I,J,N,S]
  simp[datum,Mem.row,Su.days]
end Go.Tel
namespace Go.Tel
open Go.Am
structure En where
 kind:Int
 ns:List Int
 deriving DecidableEq,Inhabited
def En.dv (x:En):DV:= .agg [dI x.kind,sF (x.ns.map ay)]
def dM {x:En}:x.dv= .agg [dI x.kind,sF (x.ns.map ay)]:=by rw[En.dv]
inductive De where
 |cut (dJ:Int)
 |change (c:Chg)
 |order (hand:Int) (f:Fr)
 |serve (hand kE:Int)
 |set (day:Int)
 |strike (entry:Int)
 deriving DecidableEq,Inhabited
def De.cs:De->DV
 | .cut t=> .agg [.int .i64 t]
 | .change c=> .agg [.int .i64 c.link, .int .i64 c.pr.a, .int .i64 c.pr.b]
 | .order h f=> .agg [.int .i64 h, .int .i64 f.n, .int .i64 f.d]
 | .serve h c=> .agg [.int .i64 h, .int .i64 c]
 | .set d=> .agg [.int .i64 d]
 | .strike e=> .agg [.int .i64 e]
def De.ty:De->TypeId
 | .cut _=>T.fK
 | .change _=>T.bT
 | .order _ _=>T.fC
 | .serve _ _=>T.dW
 | .set _=>T.fM
 | .strike _=>T.bK
def De.dv (x:De):DV:= .iface x.ty x.cs
def jc (k:Int):Nat:=if k=2\/k=3 then 3 else if k=4 then 2 else 1
def En.n (x:En)(i:Nat):Int:=x.ns.getD i default
def En.deed (x:En):De:=
 if x.kind=1 then .cut (x.n 0)else if x.kind=2 then .change ⟨x.n 0,⟨x.n 1,x.n 2⟩⟩else if x.kind=3 then .order (x.n 0) ⟨x.n 1,x.n 2⟩else if x.kind=4 then .serve (x.n 0) (x.n 1)else if x.kind=5 then .set (x.n 0)else .strike (x.n 0)
variable{base:Nat}{M:Mem}{K:PV->Mem->Prop}{KP:DV->Mem->Prop}
def LJ {C:Ctx}{t:TypeId}{x:DV}:au C base (.mkI t) [.d x] M K KP=K (.d (.iface t x)) M:=by
 have:=FV (M:=M) (ds:=[x]);simp only[a7,bN]at this;simp only[au,datum,this]
def SB (x:En)(h:jc x.kind<=x.ns.length):Pure C 111 [x.dv] (.d x.deed.dv) []:=by
 have l:(0:Int)<=1:=by omega
 have m:(0:Int)<=2:=by omega
 refine ah mixed rfl Gf ?_;simp only[wR,aK,dM,RN,F,H,I,J,N,S]
 by_cases h1:x.kind=1
 ·have c:(x.kind==1)=true:=by simp[h1]
  have a:0<x.ns.length:=by simp[jc,h1]at h;omega
  simp only[c,j0,t0,a,Z,getD_map,aI,LJ,RN,F,H,I,J,N,S];simp only[En.dv,De.dv,En.deed,h1,if_true,De.ty,De.cs,En.n]
 have c:(x.kind==1)=false:=by simp[h1]
 by_cases h2:x.kind=2
 ·have f:(x.kind==2)=true:=by simp[h2]
  have a:0<x.ns.length/\1<x.ns.length/\2<x.ns.length:=by simp[jc,h2]at h;omega
  simp only[c,f,j0,l,m,t0,t1,t2,a.1,a.2.1,a.2.2,Z,getD_map,aI,LJ,RN,F,H,I,J,N,S];simp only[En.dv,De.dv,En.deed,h1,h2,if_true,if_false,De.ty,De.cs,En.n]
  rfl
 have f:(x.kind==2)=false:=by simp[h2]
 by_cases b:x.kind=3
 ·have g:(x.kind==3)=true:=by simp[b]
  have a:0<x.ns.length/\1<x.ns.length/\2<x.ns.length:=by simp[jc,b]at h;omega
  simp only[c,f,g,j0,l,m,t0,t1,t2,a.1,a.2.1,a.2.2,Z,getD_map,aI,LJ,RN,F,H,I,J,N,S];simp only[En.dv,De.dv,En.deed,h1,h2,b,if_true,if_false,De.ty,De.cs,En.n]
  rfl
 have g:(x.kind==3)=false:=by simp[b]
 by_cases e:x.kind=4
 ·have i:(x.kind==4)=true:=by simp[e]
  have a:0<x.ns.length/\1<x.ns.length:=by simp[jc,e]at h;omega
  simp only[c,f,g,i,j0,l,t0,t1,a.1,a.2,Z,getD_map,aI,LJ,RN,F,H,I,J,N,S];simp only[En.dv,De.dv,En.deed,h1,h2,b,e,if_true,if_false,De.ty,De.cs,En.n]
  rfl
 have i:(x.kind==4)=false:=by simp[e]
 have a:0<x.ns.length:=by simp[jc,h2,b,e]at h;omega
 by_cases j:x.kind=5
 ·have k:(x.kind==5)=true:=by simp[j]
  simp only[c,f,g,i,k,j0,t0,a,Z,getD_map,aI,LJ,RN,F,H,I,J,N,S];simp only[En.dv,De.dv,En.deed,h1,h2,b,e,j,if_true,if_false,De.ty,De.cs,En.n]
  rfl
 have k:(x.kind==5)=false:=by simp[j]
 simp only[c,f,g,i,k,j0,t0,a,Z,getD_map,aI,LJ,RN,F,H,I,J,N,S];simp only[En.dv,De.dv,En.deed,h1,h2,b,e,j,if_true,if_false,De.ty,De.cs,En.n]
structure Sp where
 pc:Pc
 tg:List Fr
 eH:List Int
 op:List (Int×Fr)
 kE:Int
 sets:List Int
 deriving DecidableEq,Inhabited
def opD (l:List (Int×Fr)):List (DV×DV):=l.map fun p=>(dI p.1,p.2.dv)
def Sp.cells (a b:Bool)(s:Su)(t:Sp):List DV:=[sF (t.pc.links.map Lk.dv),sF (t.pc.hands.map ay),sF (t.tg.map Fr.dv),dI s.lim,dI s.dvd.eF,sF (s.dvd.cir.map ay),dI s.cal.ep,sF (s.cal.cy.map ay),dI s.jf.n,dI s.jf.d,dI s.jf.ad,sF (s.fs.map Fs.dv),dI s.year,dI s.gq,dI s.hours,dI s.lC,dI s.pct,
 sF (s.days.map Ac), .slice a (t.eH.map ay), .map (some (opD t.op)),dI t.kE, .slice b (t.sets.map ay)]
def cO {a b:Bool}{s:Su}{t:Sp}:t.cells a b s=[sF (t.pc.links.map Lk.dv),sF (t.pc.hands.map ay),sF (t.tg.map Fr.dv),dI s.lim,dI s.dvd.eF,sF (s.dvd.cir.map ay),dI s.cal.ep,sF (s.cal.cy.map ay),dI s.jf.n,dI s.jf.d,dI s.jf.ad,sF (s.fs.map Fs.dv),dI s.year,dI s.gq,dI s.hours,dI s.lC,dI s.pct,
 sF (s.days.map Ac), .slice a (t.eH.map ay), .map (some (opD t.op)),dI t.kE, .slice b (t.sets.map ay)]:=by rw[Sp.cells]
def TD (s:Su)(t:Sp)(hand:Int)(f:Fr)(turns:Int):Bool:=inR (rG t.pc hand f turns).1 (-s.lim) s.lim
def ajM (b c:Bool)(s:Su)(t:Sp)(hand:Int)(f:Fr)(turns:Int)(hl:t.pc.links.length<=1000)(hh:t.pc.hands.length<=1000)(g:0<=s.lim/\s.lim<=10800):Pure C 172 [.aW (t.cells b c s),dI hand,f.dv,dI turns] (.d (.bool (TD s t hand f turns))) []:=by
 have a:=ae3 t.pc hl hh hand f turns;rw[dZ,bW]at a;have e:cA .i64 (0 - s.lim)= -s.lim:=by rw[aF (by omega)];omega
 refine ah mixed rfl Bl ?_;simp only[qO,Bz,cO,bW,RN,F,H,I,J,N,S];refine ak rfl rfl a ?_;simp only[e,RN,F,H,I,J,N,S];refine ak rfl rfl (Ah _ _ _) ?_;simp only[TD,RN,F,H,I,J,N,S]
def cZ (l:List Pr):List Int:=l.flatMap fun p=>[p.a,p.b]
def Ec (s:Su)(t:Sp)(hand:Nat):Int:=(s.bil (cZ (bg t.pc.links (t.pc.hands.getD hand default).toNat))).VB.1
def qp (l:List Pr):(cZ l).length=2*l.length:=by
 induction l with
 |nil=>rfl
 |cons x l a=>simp only[cZ,cf,V,aL,az]at a⊢;omega
def Lh {C:Ctx}{z1 c:DV}{k k':IntKind}{a b:Int}:au C base (.gu 1 [z1,c] [0,1]) [.d (.int k a), .d (.int k' b)] M K KP=K (.d (.slice true [.int k a, .int k' b])) M:=by
 have:=FV (M:=M) (ds:=[DV.int k a, .int k' b]);simp only[a7,bN]at this;simp[au,dF,datum,wI,this,DV.strip,DV.cells]
def prC:Nat->PV
 |0=> .d (.slice true [])
 |i+1=> .tsl 0 i 0
def prA (l:List Pr):Nat->List (Option Arr)
 |0=>[]
 |i+1=>[some ⟨1,(cZ (l.take (i+1))).map ay,i,0⟩]
def akm (s:Su)(l:List Pr)(i:Nat):St:=
 ⟨[(7, .ptr 0 0),(52, .d (sF (l.map Pr.dv))),(53,pI l.length),(54,pI i)],
  ⟨[some [prC i,pI s.gq,pI s.hours,pI s.lC,pI s.pct,pI 0]],[],prA l i⟩⟩
def afw (v w:Bool)(s:Su)(t:Sp)(hand:Nat)(j:t.pc.ok=true)(hh:hand<t.pc.hands.length):Pure C 167 [.aW (t.cells v w s),dI hand] (pI (Ec s t hand)) []:=by
 have x:1<=t.pc.hands.getD hand default/\t.pc.hands.getD hand default<=t.pc.links.length:=by
  simp only[Pc.ok,ao,bA]at j;have:=j.2 _ (getD_mem hh)
  simpa[inR]using this
 obtain⟨a,r⟩:∃a:Nat,t.pc.hands.getD hand default=a:=⟨(t.pc.hands.getD hand default).toNat,by omega⟩
 have u:=alK t.pc j a (by omega) (by omega);rw[dZ]at u;have j0:(0:Int)<=(hand:Int):=by omega
 refine ah mixed rfl zV ?_;simp only[pq,aJ,cO,j0,an,hh,Z,getD_map,aI,r,RN,F,H,I,J,N,S];refine ak rfl rfl u ?_;simp only[Z,RN,F,H,I,J,N,S];obtain⟨l,k⟩:∃l,l=bg t.pc.links a:=⟨_,rfl⟩
 have z:l.length<=3:=by rw[k,bg,Z];exact(Pc.good j).short a (by omega)
 have c:=aij (s.bil (cZ l)) (by simp only[Su.bil,qp];omega);rw[JI]at c;have g:Ec s t hand=(s.bil (cZ l)).VB.1:=by rw[Ec,r,k];rfl
 simp only[<-k];refine aH l.length (fun i (_:Unit)=>akm s l i) (fun _ _=>True) 0 () (ax _) rfl trivial (fun i _ e _=> ?_) (fun _ _=> ?_)
 ·obtain⟨o,p,q⟩:=rng e (by omega)
  have h:(cZ (l.take i)).map ay++ [dI (l.getD i default).a,dI (l.getD i default).b]=(cZ (l.take (i+1))).map ay:=by
   rw[aS e];simp[cZ,ay]
  have m:((cZ (l.take i)).map ay).length<=2000000:=by simp only[Z,qp,List.length_take];omega
  rcases i with _|i
  ·have ar8:[dI (l.getD 0 default).a,dI (l.getD 0 default).b]=(cZ (l.take (0+1))).map ay:=by simpa[cZ]using h
   simp only[akm,prC,prA,o,p,e,Z,getD_map,an,jJ,Lh,bM,dB,RN,F,H,I,J,N,S];refine⟨by rintro y (rfl|rfl)<;>rfl,by simp,by simp,?_⟩;rw[ar8,q];exact jv 1 1 () e rfl trivial (by simp) (by simp) rfl rfl
  ·simp only[akm,prC,prA,o,p,e,Z,getD_map,an,jJ,Lh,bM,dB,RN,F,H,I,J,N,S]
   refine⟨by rintro y (rfl|rfl)<;>rfl,by simp,?_⟩
   (repeat(refine a6 (by first|assumption|rfl|(simp;done)|(simp;omega)) ?_))
   rw[h,q];refine⟨by simpa using aq m (by decide),?_⟩;exact jv 1 1 () e rfl trivial (by simp) (by simp) rfl rfl
 ·rcases hln:l.length with _|i
  ·have f:l=[]:=List.eq_nil_of_length_eq_zero hln
   subst f;simp only[akm,prC,prA,bl,RN,F,H,I,J,N,S];refine kS (La rfl) rfl c rfl ?_;simp only[g,RN,F,H,I,J,N,S]
  ·have n:l.take (i+1)=l:=by rw[<-hln,List.take_length]
   simp only[akm,prC,prA,hln,bl,n,bI,av,eP,RN,F,H,I,J,N,S];refine kS (La (d:= .agg [sF ((cZ l).map ay),dI s.gq,dI s.hours,dI s.lC,dI s.pct,dI 0]) (by simp[datum,cu,fA,Mem.row])) rfl c rfl ?_;simp only[g,RN,F,H,I,J,N,S]
end Go.Tel
namespace Go.Tel
open Go.Am
def slR (W:Bool)(c:PV)(xs:List DV)(ar:List (Option Arr)):Prop:=
 (c= .d (.slice true [])/\xs=[])\/∃k ver st,c= .tsl k ver 0/\ar[k]?=some (some ⟨1,xs,ver,st⟩)/\st≠2/\(W=true->st=1\/xs=[])
def kOf:PV->Option Nat| .tsl k _ _=>some k| _=>none
def iG (s:Su)(a mb:Nat)(cst cse:PV)(kE:Int):List PV:=[.tsl a 0 0, .tsl (a+1) 0 0, .tsl (a+2) 0 0,pI s.lim,pI s.dvd.eF, .tsl (a+4) 0 0,pI s.cal.ep, .tsl (a+5) 0 0,pI s.jf.n,pI s.jf.d,pI s.jf.ad, .tsl (a+3) 0 0,pI s.year,pI s.gq,pI s.hours,pI s.lC,pI s.pct, .d (sF (s.days.map Ac)),cst, .mref mb,pI kE,cse]
structure gy (s:Su) (a b mb:Nat) (cst cse:PV) (t:Sp) (M:Mem):Prop where
 box:M.boxes[b]?=some (some (iG s a mb cst cse t.kE))
 map:M.boxes[mb]?=some (some [.iW (opD t.op)])
 r0:M.aB[a]?=some (some ⟨3,t.pc.links.map Lk.dv,0,1⟩)
 r1:M.aB[a+1]?=some (some ⟨1,t.pc.hands.map ay,0,0⟩)
 r2:M.aB[a+2]?=some (some ⟨2,t.tg.map Fr.dv,0,1⟩)
 r3:M.aB[a+3]?=some (some ⟨4,s.fs.map Fs.dv,0,0⟩)
 r4:M.aB[a+4]?=some (some ⟨1,s.dvd.cir.map ay,0,0⟩)
 r5:M.aB[a+5]?=some (some ⟨1,s.cal.cy.map ay,0,0⟩)
 stk:slR true cst (t.eH.map ay) M.aB
 set:slR false cse (t.sets.map ay) M.aB
 kst:∀k,kOf cst=some k->a+6<=k
 kse:∀k,kOf cse=some k->a+6<=k
 dif:∀k,kOf cst=some k->kOf cse≠some k
 nb:b∉M.fz
 nm:mb∉M.fz
 bm:b≠mb
 fzb:∀i∈M.fz,i<M.boxes.length
structure FrS (a b mb:Nat) (M M':Mem):Prop where
 len:M.boxes.length<=M'.boxes.length
 bH:M.aB.length<=M'.aB.length
 box:∀i,i<M.boxes.length->i≠b->i≠mb->M'.boxes[i]?=M.boxes[i]?
 fz:∀i,i<M.boxes.length->(i∈M'.fz↔i∈M.fz)
 row:∀k,k<a->M'.aB[k]?=M.aB[k]?
 fzb:FzB M->FzB M'
def FrS.trans {a b mb:Nat}{M M' M'':Mem}(h:FrS a b mb M M')(h':FrS a b mb M' M''):FrS a b mb M M'':=
 ⟨aq h.len h'.len,aq h.bH h'.bH,fun i c h1 h2=>(h'.box i (aw c h.len) h1 h2).trans (h.box i c h1 h2),fun i c=>(h'.fz i (aw c h.len)).trans (h.fz i c),fun k d=>(h'.row k d).trans (h.row k d),fun e=>h'.fzb (h.fzb e)⟩
def aik:Prop:=∀(k ver i:Nat) (zs:List Int) (bs:List (Option (List PV))) (fz:List Nat) (ar:List (Option Arr)) (K:PV->Mem->Prop) (KP:DV->Mem->Prop),ar[k]?=some (some ⟨1,zs.map ay,ver,1⟩)->i<zs.length->
 K (.tsl k (ver+1) 0) ⟨bs,fz,ar.set k (some ⟨1,(zs.take i++zs.drop (i+1)).map ay,ver+1,1⟩)⟩->SC C 271 [.tsl k ver 0,pI i,pI (i+1:Nat)] ⟨bs,fz,ar⟩ K KP
def aat (v:Int):∀(xs:List Int) (i:Nat),(idx v xs i= -1/\v∉xs)\/∃n,idx v xs i=((i+n:Nat):Int)/\n<xs.length/\xs.take n++xs.drop (n+1)=xs.erase v/\v∈xs
 | [],i=> .inl ⟨rfl,by simp⟩
 |x::xs,i=>by
  rw[idx]
  by_cases h:v=x
  ·subst h
   exact .inr ⟨0,by simp,by simp,by simp,by simp⟩
  ·rcases aat v xs (i+1)with⟨h1,h2⟩|⟨n,h1,h2,a,b⟩
   ·refine .inl ⟨by simp[h,h1],by simp[h,h2]⟩
   ·refine .inr ⟨n+1,by simp[h,h1];omega,by simp;omega,?_,by simp[b]⟩
    have c:¬(x==v)=true:=by simp;exact fun e=>h e.symm
    rw[List.erase_cons_tail c,<-a];simp
variable{W:Bool}{c:PV}{xs:List DV}{bs:List (Option (List PV))}{fz:List Nat}{ar:List (Option Arr)}
def ahV (h:slR W c xs ar):∃ex,datum ⟨bs,fz,ar⟩ c=some (.slice ex xs):=by
 rcases h with⟨rfl,rfl⟩|⟨k,ver,st,rfl,h,_⟩
 ·exact⟨true,rfl⟩
 ·exact⟨false,by simp[datum,Mem.row,h]⟩
def Ig (h:slR W c xs ar):PV.one c=true/\PV.cells c=[c]/\c.qZ=false:=by
 rcases h with⟨rfl,rfl⟩|⟨k,ver,st,rfl,_⟩<;>exact⟨rfl,rfl,rfl⟩
variable{ar':List (Option Arr)}
def qR (h:slR W c xs ar)(hk:∀k A,kOf c=some k->ar[k]?=some (some A)->ar'[k]?=some (some A)):slR W c xs ar':=by
 rcases h with⟨rfl,rfl⟩|⟨k,ver,st,rfl,h1,h2⟩
 ·exact .inl ⟨rfl,rfl⟩
 ·exact .inr ⟨k,ver,st,rfl,hk _ _ rfl h1,h2⟩
def gy.TP {s:Su}{a b mb:Nat}{cst cse:PV}{t:Sp}(h:gy s a b mb cst cse t ⟨bs,fz,ar⟩){k ver st:Nat}{xs:List Int}(hk:a+6<=k)(hd:kOf cse≠some k)
  (h1:ar'[k]?=some (some ⟨1,xs.map ay,ver,st⟩))(h2:∀j,j≠k->j<ar.length->ar'[j]?=ar[j]?)(hl:ar.length<=ar'.length)(f:st≠2/\(st=1\/xs=[])):
  gy s a b mb (.tsl k ver 0) cse {t with eH:=xs} ⟨bs.set b (some (iG s a mb (.tsl k ver 0) cse t.kE)),fz,ar'⟩/\FrS a b mb ⟨bs,fz,ar⟩ ⟨bs.set b (some (iG s a mb (.tsl k ver 0) cse t.kE)),fz,ar'⟩:=by
 have l:b<bs.length:=(U.1 h.box).1;have d:∀(j:Nat) (A:Arr),j≠k->ar[j]?=some (some A)->ar'[j]?=some (some A):=fun j A c g=>by
  rw[h2 j c (U.1 g).1];exact g
 constructor
 ·exact
  {box:=by simp[l]
   map:=by
    have:=h.map;have o:=h.bm;simp only at this⊢;rw[am o];exact this
   r0:=d _ _ (by omega) h.r0
   r1:=d _ _ (by omega) h.r1
   r2:=d _ _ (by omega) h.r2
   r3:=d _ _ (by omega) h.r3
   r4:=d _ _ (by omega) h.r4
   r5:=d _ _ (by omega) h.r5
   stk:= .inr ⟨k,ver,st,rfl,h1,f.1,fun _=>f.2.imp id fun e=>by simp[e]⟩
   set:=qR h.set fun j A c g=>d j A (fun e=>hd (e▸c)) g
   kst:=fun j c=>by cases c;exact hk
   kse:=h.kse
   dif:=fun j c=>by cases c;exact hd
   nb:=h.nb
   nm:=h.nm
   bm:=h.bm
   fzb:=fun i m=>by simpa using h.fzb i m}
 ·exact
  {len:=by simp
   fzb:=fun q i m=>by have:=q i m;simpa using this
   bH:=hl
   box:=fun i _ p _=>by simp only;rw[am (Ne.symm p)]
   fz:=fun _ _=>bL
   row:=fun j c=>by
    by_cases n:j<ar.length
    ·exact h2 j (by omega) n
    ·exact absurd (U.1 h.r0).1 (by simp only;omega)}
def afL (f:aik){s:Su}{a b mb:Nat}{cst cse:PV}{t:Sp}{M:Mem}(h:gy s a b mb cst cse t M)(v:Int)(hl:t.eH.length<=1000000):
  SC C 209 [.ptr b 0,pI v] M (fun p M'=>(v∉t.eH/\p= .d (.bool false)/\M'=M)\/(v∈t.eH/\p= .d (.bool true)/\∃sH,gy s a b mb sH cse {t with eH:=t.eH.erase v} M'/\FrS a b mb M M'/\kOf sH=kOf cst/\(∃k ver,sH= .tsl k ver 0/\M'.aB[k]?=some (some ⟨1,(t.eH.erase v).map ay,ver,1⟩))/\∀k,kOf cst≠some k->M'.aB[k]?=M.aB[k]?)) (fun _ _=>False):=by
 obtain⟨bs,fz,ar⟩:=M;have c:=h.box;rw[iG]at c;have i:=h.nb;simp only at c i;obtain⟨E,G,K⟩:=Ig h.stk;obtain⟨ex,q⟩:=ahV (bs:=bs) (fz:=fz) h.stk;refine aG mixed rfl Bo ?_;simp only[qP,aJ,c,E,G,K,RN,F,H,I,J,N,S];refine kS (sU q) rfl (Tz t.eH v hl) rfl ?_
 rcases aat v t.eH 0 with⟨h1,h2⟩|⟨n,h1,h2,B,o⟩
 ·have w:idx v t.eH 0<0:=by omega
  simp only[w,RN,F,H,I,J,N,S];exact .inl h2
 ·have w:¬(n:Int)<0:=by omega
  have x:cA .i64 ((n:Int)+1)=((n+1:Nat):Int):=by rw[aF (by omega)];omega
  have y:idx v t.eH 0=(n:Int):=by omega
  have l:t.eH≠[]:=fun e=>by rw[e]at o;cases o
  rcases h.stk with⟨_,m⟩|⟨k,ver,st,rfl,m,L,D⟩
  ·exact absurd (by simpa using m) l
  ·have u:st=1:=(D rfl).resolve_right (by simpa using l)
   subst u;simp only[w,c,x,y,RN,F,H,I,J,N,S];refine f k ver n t.eH _ _ _ _ _ m h2 ?_;simp only[c,i,bM,dB,RN,F,H,I,J,N,S];rw[B];have g:k<ar.length:=(U.1 m).1;obtain⟨z,A⟩:=h.TP (k:=k) (ver:=ver+1) (st:=1) (xs:=t.eH.erase v) (ar':=ar.set k (some ⟨1,(t.eH.erase v).map ay,ver+1,1⟩)) (h.kst k rfl) (h.dif k rfl) (by simp[g]) (fun j r _=>am (Ne.symm r)) (by simp) ⟨by decide, .inl rfl⟩;exact .inr ⟨o,_,z,A,rfl,⟨k,_,rfl,by simp[g]⟩,fun j r=>am (fun e=>r (by rw[e];rfl))⟩
end Go.Tel
namespace Go.Tel
open Go.Am
section
variable {C:Ctx}{base:Nat}{KP:DV->Mem->Prop}{K:PV->Mem->Prop}{M:Mem}
def JJ {t:TypeId}{x:DV}:au C base .panic [.d (.iface t x)] M K KP=KP (.iface t x) M:=by
 have:=FV (M:=M) (ds:=[DV.iface t x]);simp only[a7,bN]at this;simp only[au,datum,this]
def fH {f:FuncId}{fs cs:List DV}{args:List PV}:au C base .jg (.d (.func (.func f) fs cs)::args) M K KP=(callable C.P f=true/\SC C f (fs.map .d++args++cs.map .d) M K KP):=propext ⟨id,id⟩
end
def JA (d:DV):Prop:=∃y,d= .iface T.iT (.agg [y])/\PV.cells (.d y)=[.d y]/\y.one=true
variable{x:DV}{M:Mem}{K:PV->Mem->Prop}{KP:DV->Mem->Prop}
def EC (h:K (.d (.tup [])) M):SC C 207 [.d (.bool true), .d (.aW [x])] M K KP:=by
 obtain⟨bs,fz,ar⟩:=M;refine aG mixed rfl qm ?_;simp only[kP,jq,RN,F,H,I,J,N,S];exact h
def xE (hx:PV.cells (.d x)=[.d x]/\x.one=true)(h:KP (.iface T.iT (.agg [x])) M):SC C 207 [.d (.bool false), .d (.aW [x])] M K KP:=by
 obtain⟨bs,fz,ar⟩:=M;refine aG mixed rfl qm ?_;simp only[kP,jq,hx.1,hx.2,LJ,JJ,RN,F,H,I,J,N,S];exact h
def fZ:List (Int×Fr)->Int->Option Fr
 | [],_=>none
 |p::l,h=>if h=p.1 then some p.2 else fZ l h
def BX:List (Int×Fr)->Int->List (Int×Fr)
 | [],_=>[]
 |p::l,h=>if h=p.1 then l else p::BX l h
def Gp (p:Int×Fr)(l:List (Int×Fr)):opD (p::l)=(dI p.1,p.2.dv)::opD l:=rfl
def ajN (h n:Int):iL [] (dI h) (dI n)=some (h==n):=by simp[iL]
def Ih (l:List (Int×Fr))(h:Int):pO [] (opD l) (dI h)=some ((fZ l h).map Fr.dv):=by
 induction l with
 |nil=>rfl
 |cons p l c=>
  rw[Gp,pO,ajN,fZ]
  by_cases a:h=p.1
  ·have b:(h==p.1)=true:=by simp[a]
   rw[b,if_pos a];rfl
  ·have b:(h==p.1)=false:=beq_false_of_ne a
   rw[b,if_neg a];exact c
def apM (l:List (Int×Fr))(h:Int)(f:Fr)(a:fZ l h=none):EL [] (opD l) (dI h) f.dv=some (opD (l++ [(h,f)])):=by
 induction l with
 |nil=>rfl
 |cons p l d=>
  rw[fZ]at a
  by_cases b:h=p.1
  ·rw[if_pos b]at a;cases a
  ·have c:(h==p.1)=false:=beq_false_of_ne b
   rw[if_neg b]at a;rw[Gp,EL,ajN,c];simp only[d a,aR,ch,Gp]
def apL (l:List (Int×Fr))(h:Int):EK [] (opD l) (dI h)=some (opD (BX l h)):=by
 induction l with
 |nil=>rfl
 |cons p l c=>
  rw[Gp,EK,ajN,BX]
  by_cases a:h=p.1
  ·have b:(h==p.1)=true:=by simp[a]
   rw[b,if_pos a]
  ·have b:(h==p.1)=false:=beq_false_of_ne a
   rw[b,if_neg a];simp only[c,aR,Gp]
def oz (eH a:List Int)(b new:Int):Option (List Int×List Int):=if b=new then some (eH,a)else if new∈eH then some (eH.erase new,a++ [b])else none
def doS (s:Su)(t:Sp):De->Option Sp
 | .cut n=>if(s.dvd.cuts n).2=0/\t.eH.length<8 then some {t with eH:=t.eH++ [n]}else none
 | .change c=>
  if t.pc.FN c&&((t.pc.rF (t.pc.changed c)).all fun h=>(fZ t.op h).isSome)then
   let e:=(t.pc.links.getD c.link.toNat default).pr
   match oz t.eH [] e.a c.pr.a with
   |none=>none
   |some (j,g)=>match oz j g e.b c.pr.b with
    |none=>none
    |some (k,i)=>some {t with pc:=t.pc.changed c,eH:=k++i}
  else none
 | .order h f=>if(fZ t.op h).isSome then none else some {t with op:=t.op++ [(h,f)]}
 | .serve h kE=>match fZ t.op h with
  |none=>none
  |some f=>if TD s t h f 100&&decide (kE>=Ec s t h.toNat)then some {t with op:=BX t.op h,tg:=t.tg.set h.toNat f,kE:=t.kE+kE}else none
 | .set d=>if(s.days.getD (d - 1).toNat default).2&&(t.sets.isEmpty||decide (d>t.sets.getD (t.sets.length - 1) default))then some {t with sets:=t.sets++ [d]}else none
 | .strike _=>some t
def ab6 {s:Su}{a b mb:Nat}{cst cse:PV}{t:Sp}(h:gy s a b mb cst cse t M):∃c e,datum M (.ptr b 0)=some (.aW [sF (t.pc.links.map Lk.dv),sF (t.pc.hands.map ay),sF (t.tg.map Fr.dv),dI s.lim,dI s.dvd.eF,sF (s.dvd.cir.map ay),dI s.cal.ep,sF (s.cal.cy.map ay),dI s.jf.n,dI s.jf.d,dI s.jf.ad,sF (s.fs.map Fs.dv),dI s.year,dI s.gq,dI s.hours,dI s.lC,dI s.pct,
 sF (s.days.map Ac), .slice c (t.eH.map ay), .map (some (opD t.op)),dI t.kE, .slice e (t.sets.map ay)]):=by
 have h1:=h.box;have h2:=h.map;rw[iG]at h1
 rcases h.stk with⟨rfl,c⟩|⟨k,ver,st,rfl,c,_⟩<;>rcases h.set with⟨rfl,e⟩|⟨g,asZ,f,rfl,e,_⟩
 ·exact⟨true,true,by simp[datum,cu,fA,Mem.box,Mem.row,h1,h2,h.r0,h.r1,h.r2,h.r3,h.r4,h.r5,c,e]⟩
 ·exact⟨true,false,by simp[datum,cu,fA,Mem.box,Mem.row,h1,h2,h.r0,h.r1,h.r2,h.r3,h.r4,h.r5,c,e]⟩
 ·exact⟨false,true,by simp[datum,cu,fA,Mem.box,Mem.row,h1,h2,h.r0,h.r1,h.r2,h.r3,h.r4,h.r5,c,e]⟩
 ·exact⟨false,false,by simp[datum,cu,fA,Mem.box,Mem.row,h1,h2,h.r0,h.r1,h.r2,h.r3,h.r4,h.r5,c,e]⟩
end Go.Tel
namespace Go.Tel
open Go.Am
structure XK (s:Su) (t:Sp):Prop where
 ok:s.ok=true
 pc:t.pc.ok=true
 tl:t.tg.length=t.pc.hands.length
 st:t.eH.length<=100000
 se:t.sets.length<=100000
 co:0<=t.kE/\t.kE<=1000000000000
section
variable {bs xs:List (Option (List PV))}{b n k:Nat}{y:Option (List PV)}
def bD (h:b<bs.length):(bs++xs)[b]?=bs[b]?:=ae h
def bQ (h:bs.length=n):(bs++xs)[n+k]?=xs[k]?:=by rw[<-h,bt (by omega)];congr 1;omega
def aQ (h:bs.length=n):(bs++xs)[n]?=xs[0]?:=by rw[<-h,bt (by omega)];congr 1;omega
def bV (h:b<bs.length):(bs++xs).set b y=bs.set b y++xs:=List.set_append_left _ _ h
def dh (h:bs.length=n):(bs++xs).set (n+k) y=bs++xs.set k y:=by rw[<-h,b7 _ _ (by omega)];congr 2;omega
def aV (h:bs.length=n):(bs++xs).set n y=bs++xs.set 0 y:=by rw[<-h,b7 _ _ (by omega)];congr 2;omega
end
variable{s:Su}{a b mb:Nat}{cst cse:PV}{bs:List (Option (List PV))}{fz:List Nat}{ar:List (Option Arr)}
def gy.ext {t:Sp}{xs:List (Option (List PV))}{xf:List Nat}(h:gy s a b mb cst cse t ⟨bs,fz,ar⟩)(hf:∀i∈xf,bs.length<=i/\i<bs.length+xs.length):gy s a b mb cst cse t ⟨bs++xs,xf++fz,ar⟩/\FrS a b mb ⟨bs,fz,ar⟩ ⟨bs++xs,xf++fz,ar⟩:=by
 have d:b<bs.length:=(U.1 h.box).1;have f:mb<bs.length:=(U.1 h.map).1;constructor
 ·exact
  {box:=by simp only;rw[ae d];exact h.box
   map:=by simp only;rw[ae f];exact h.map
   r0:=h.r0,r1:=h.r1,r2:=h.r2,r3:=h.r3,r4:=h.r4,r5:=h.r5,stk:=h.stk,set:=h.set,kst:=h.kst,kse:=h.kse,dif:=h.dif
   nb:=fun e=>by
    rcases aD.1 e with e|e
    ·have:=hf _ e;omega
    ·exact h.nb e
   nm:=fun e=>by
    rcases aD.1 e with e|e
    ·have:=hf _ e;omega
    ·exact h.nm e
   bm:=h.bm
   fzb:=fun i e=>by
    simp only[V]
    rcases aD.1 e with e|e
    ·have:=hf _ e;omega
    ·have:=h.fzb i e;simp only at this;omega}
 ·exact
  {len:=by simp
   fzb:=fun g i c=>by
    simp only[V]
    rcases aD.1 c with e|e
    ·exact(hf _ e).2
    ·have:=g i e;simp only at this;omega
   bH:=aE _
   box:=fun i c _ _=>ae c
   fz:=fun i c=>by
    simp only[aD];refine⟨fun e=>e.elim (fun e=> ?_) id, .inr⟩;have:=hf _ e;simp only at c;omega
   row:=fun _ _=>rfl}
variable{W:Bool}{c:PV}
def afJ {xs:List DV}{K:Int->Prop}(h:slR W c xs ar):rE c ⟨bs,fz,ar⟩ K=K xs.length:=by
 rcases h with⟨rfl,rfl⟩|⟨k,ver,st,rfl,a,_⟩
 ·rfl
 ·simp[rE,Mem.row,a]
def afI {st1:Bool}{xs ys:List DV}{ex:Bool}{K:PV->Mem->Prop}(h:slR W c xs ar)(m:∀y∈ys,y.fits 1=true)(p:∀y∈xs,y.fits 1=true)(l:st1=true->ys≠[])(hl:xs.length+ys.length<=1073741824)
  (f:∀k ver st ar',(kOf c=some k\/k=ar.length)->ar'[k]?=some (some ⟨1,xs++ys,ver,st⟩)->(∀j,j≠k->j<ar.length->ar'[j]?=ar[j]?)->ar.length<=ar'.length->st≠2->(st1=true->st=1)->(st1=false->kOf c=some k->W=true->st=1\/xs=[])->(st1=false->kOf c=none->st=0)->K (.tsl k ver 0) ⟨bs,fz,ar'⟩):
  lg 1 st1 c (.d (.slice ex ys)) ⟨bs,fz,ar⟩ K:=by
 rcases h with⟨rfl,rfl⟩|⟨k,ver,st,rfl,i,h2,n⟩
 ·simp only[lg,zL]
  refine⟨by decide,m,l,trivial,by simp,by simpa using hl,?_⟩;refine f _ _ _ _ (.inr rfl) (by simp;rfl) (fun j g a=>by rw[ae a]) (by simp) (by cases st1<;>simp) (fun e=>by simp[e]) (fun _ e=>by cases e) (fun e _=>by simp[e])
 ·have b:k<ar.length:=(U.1 i).1
  simp only[lg,zL,Mem.row,i,if_true];refine⟨by decide,m,l,trivial,h2,hl,?_⟩;refine f k (ver+1) _ _ (.inl rfl) (by simp[b];rfl) (fun j g _=>am (Ne.symm g)) (by simp) (by cases st1<;>simp[h2]) (fun e=>by simp[e]) (fun e _ o=>by simpa[e]using n o) (fun _ e=>by cases e)
def De.one (x:De):PV.cells (.d x.dv)=[.d x.dv]/\x.dv.one=true:=⟨rfl,rfl⟩
def aoA {t:Sp}{M:Mem}(h:gy s a b mb cst cse t M)(ht:XK s t)(n:Int):
  SC C 113 [.ptr b 0, .d (De.cut n).dv] M (fun p M'=>∃t' sH,doS s t (.cut n)=some t'/\gy s a b mb sH cse t' M'/\FrS a b mb M M') (fun d M'=>doS s t (.cut n)=none/\JA d/\FrS a b mb M M'):=by
 obtain⟨bs,fz,ar⟩:=M;have c:=h.box;rw[iG]at c;have A:=h.nb;have B:=h.r4;simp only at c A B;have f:b<bs.length:=(U.1 c).1;obtain⟨o1,o2,o3⟩:=Ig h.stk;have x:=(De.one (.cut n)).1;have z:=(De.one (.cut n)).2;have hx:(De.cut n).dv= .iface T.fK (.agg [dI n]):=rfl;refine aG mixed rfl eU ?_;rw[hx]at x z⊢;have m:bs.length∉fz:=fun e=>ap _ (h.fzb _ e)
 have o:∀k,bs.length+k∉fz:=fun k e=>by have:=h.fzb _ e;simp only at this;omega
 have i:¬b=bs.length:=by omega
 have j:∀k,¬b=bs.length+k:=fun k=>by omega
 have g:∀k,b<bs.length+k:=fun k=>by omega
 have v:¬bs.length+1=bs.length:=by omega
 have w:=acB s.dvd n (by have:=(Su.RH ht.ok).ci;omega);rw[sZ,EI]at w;simp only[dO,jq,x,z,mF,f,c,bD,bQ,aQ,bV,dh,aV,Y,V,ai,ab,m,o,i,j,g,v,bI,av,eP,RN,F,H,I,J,N,S];refine kS (sU (d:= .agg [dI s.dvd.eF,sF (s.dvd.cir.map ay)]) (by simp[datum,cu,fA,Mem.row,B])) rfl w rfl ?_;have z0:((0:Int)==0)=true:=rfl
 by_cases l:(s.dvd.cuts n).2=0
 ·have apb:((s.dvd.cuts n).2==0)=true:=by simp[l]
  simp only[apb,f,c,bD,bQ,aQ,bV,dh,aV,Y,V,ai,ab,m,o,i,j,g,v,fH,RN,F,H,I,J,N,S];refine⟨by simp,?_⟩;rw[afJ h.stk]
  by_cases K:t.eH.length<8
  ·have u:decide (((t.eH.map ay).length:Int)<8)=true:=by simp;omega
   rw[u];refine⟨by kernel_rfl,EC ?_⟩;simp only[f,c,bD,g,V,o1,o2,DV.strip,lI,RN,F,H,I,J,N,S];refine afI h.stk (fun y L=>by simp only[bw]at L;subst L;rfl) vN (by simp) (by simp;omega) fun k ver st ar' r O P Q e5 R _ _=> ?_
   have D:=R rfl;subst D;obtain⟨W,X⟩:=h.ext (xs:=[some [PV.d (DV.iface T.fK (DV.agg [dI n]))],some [PV.d (dI n)],some [PV.d (dI (s.dvd.cuts n).fst.circle),PV.d (dI (s.dvd.cuts n).fst.turns),PV.d (dI (s.dvd.cuts n).fst.holes)]]) (xf:=[bs.length+1,bs.length]) (by simp);have Z:a+5<ar.length:=(U.1 h.r5).1;obtain⟨E,G⟩:=W.TP (k:=k) (ver:=ver) (st:=1) (xs:=t.eH++ [n]) (ar':=ar') (by
     rcases r with r|r
     ·exact h.kst k r
     ·omega) (fun e=>by
     rcases r with r|r
     ·exact h.dif k r e
     ·rcases h.set with⟨rfl,_⟩|⟨k',_,_,rfl,q,_⟩
      ·cases e
      ·cases e
       have:=(U.1 q).1;simp only at this;omega) (by rw[O];simp[ay]) P Q ⟨by decide, .inl rfl⟩
   simp only[f,c,bD,g,V,bV,m,o,i,j,A,bM,dB,RN,F,H,I,J,N,S];rw[bV f]at E G;exact⟨_,_,by simp[doS,l,K],E,X.trans G⟩
  ·have u:decide (((t.eH.map ay).length:Int)<8)=false:=by simp;omega
   rw[u];refine⟨by kernel_rfl,xE ⟨rfl,rfl⟩ ⟨by simp[doS,K],⟨_,rfl,rfl,rfl⟩,?_⟩⟩;exact(h.ext (xf:=[bs.length+1,bs.length]) (by simp)).2
 ·have apb:((s.dvd.cuts n).2==0)=false:=by simp[l]
  simp only[apb,f,c,bD,bQ,aQ,bV,dh,aV,Y,V,ai,ab,m,o,i,j,g,v,fH,RN,F,H,I,J,N,S];refine⟨by simp,by kernel_rfl,xE ⟨rfl,rfl⟩ ⟨by simp[doS,l],⟨_,rfl,rfl,rfl⟩,?_⟩⟩;exact(h.ext (xf:=[bs.length+1,bs.length]) (by simp)).2
end Go.Tel
namespace Go.Tel
open Go.Am
section
variable {C:Ctx}{base:Nat}{KP:DV->Mem->Prop}
variable{ks:List Nat}{b:Nat}{M:Mem}{K:PV->Mem->Prop}
def apG {k v:DV}(l a:List (DV×DV))(hb:M.box b=some [.iW l])(hf:b∉M.fz)(h1:iL ks k k=some true)(h2:EL ks l k v=some a)(c:K .dead {M with boxes:=M.boxes.set b (some [.iW a])}):
  au C base (.adY ks) [.mref b, .d k, .d v] M K KP:=by
 simp only[au,hb,h1,h2];exact⟨hf,c⟩
def apF {k:DV}(l a:List (DV×DV))(hb:M.box b=some [.iW l])(hf:b∉M.fz)(h1:iL ks k k=some true)(h2:EK ks l k=some a)(c:K (.d (.tup [])) {M with boxes:=M.boxes.set b (some [.iW a])}):
  au C base (.adW ks) [.mref b, .d k] M K KP:=by
 simp only[au,hb,h1,h2];exact⟨hf,c⟩
end
def wL (h:Int):iL [] (dI h) (dI h)=some true:=by simp[iL]
variable{s:Su}{a b mb:Nat}{cst cse:PV}
def gy.an8 {t:Sp}{bs:List (Option (List PV))}{fz:List Nat}{ar:List (Option Arr)}(h:gy s a b mb cst cse t ⟨bs,fz,ar⟩)(c:List (Int×Fr)):
  gy s a b mb cst cse {t with op:=c} ⟨bs.set mb (some [.iW (opD c)]),fz,ar⟩/\FrS a b mb ⟨bs,fz,ar⟩ ⟨bs.set mb (some [.iW (opD c)]),fz,ar⟩:=by
 have d:mb<bs.length:=(U.1 h.map).1;constructor
 ·exact
  {box:=by simp only;rw[am (Ne.symm h.bm)];exact h.box
   map:=by simp[d]
   r0:=h.r0,r1:=h.r1,r2:=h.r2,r3:=h.r3,r4:=h.r4,r5:=h.r5,stk:=h.stk,set:=h.set,kst:=h.kst,kse:=h.kse,dif:=h.dif
   nb:=h.nb,nm:=h.nm,bm:=h.bm
   fzb:=fun i e=>by simpa using h.fzb i e}
 ·exact
  {len:=by simp
   fzb:=fun f i g=>by have:=f i g;simpa using this
   bH:=aE _
   box:=fun i _ _ h2=>by simp only;rw[am (Ne.symm h2)]
   fz:=fun _ _=>bL
   row:=fun _ _=>rfl}
def ai2 {t:Sp}{M:Mem}(h:gy s a b mb cst cse t M)(n:Int)(f:Fr):
  SC C 113 [.ptr b 0, .d (De.order n f).dv] M (fun p M'=>∃t' sH BG,doS s t (.order n f)=some t'/\gy s a b mb sH BG t' M'/\FrS a b mb M M') (fun d M'=>doS s t (.order n f)=none/\JA d/\FrS a b mb M M'):=by
 obtain⟨bs,fz,ar⟩:=M;have c:=h.box;rw[iG]at c;have y:=h.nb;have g:=h.map;simp only at c y g;have m:b<bs.length:=(U.1 c).1;have w:mb<bs.length:=(U.1 g).1;obtain⟨O,P,Q⟩:=Ig h.stk;have u:=(De.one (.order n f)).1;have v:=(De.one (.order n f)).2;have K:(De.order n f).dv= .iface T.fC (.agg [dI n,dI f.n,dI f.d]):=rfl;rw[K]at u v⊢;have o:bs.length∉fz:=fun e=>ap _ (h.fzb _ e)
 have q:∀k,bs.length+k∉fz:=fun k e=>by have:=h.fzb _ e;simp only at this;omega
 have i:¬b=bs.length:=by omega
 have j:∀k,¬b=bs.length+k:=fun k=>by omega
 have l:∀k,b<bs.length+k:=fun k=>by omega
 have r:¬bs.length+1=bs.length:=by omega
 have A:(T.fC==T.fK)=false:=by decide
 have B:(T.fC==T.bT)=false:=by decide
 refine aG mixed rfl eU ?_;simp only[dO,jq,u,v,mF,fU A,fU B,m,c,bD,bQ,aQ,bV,dh,aV,Y,V,ai,ab,o,q,i,j,l,r,RN,F,H,I,J,N,S];refine TL (opD t.op) ((fZ t.op n).map Fr.dv) (by simp[Mem.box,ae w,g]) (wL n) (Ih _ _) ?_;obtain⟨z,D⟩:=h.ext (xs:=[some [PV.d (DV.iface T.fC (DV.agg [dI n,dI f.n,dI f.d]))],some [PV.d (dI n),pI f.n,pI f.d],some [pI 0,pI 0]]) (xf:=[bs.length+1,bs.length]) (by simp);cases x:fZ t.op n with
 |none=>
  simp only[FW,av,bB,bh,m,c,bD,bQ,aQ,bV,dh,aV,Y,V,ai,ab,o,q,i,j,l,r,fH,RN,F,H,I,J,N,S];refine⟨by simp,by kernel_rfl,EC ?_⟩;simp only[m,c,bD,bQ,aQ,bV,dh,aV,Y,V,ai,ab,o,q,i,j,l,r,RN,F,H,I,J,N,S];refine apG (opD t.op) (opD (t.op++ [(n,f)])) (by simp[Mem.box,ae w,g]) z.nm (wL n) (by rw[<-bW];exact apM _ _ _ x) ?_;obtain⟨E,G⟩:=z.an8 (t.op++ [(n,f)]);exact⟨_,_,_,by simp[doS,x],E,D.trans G⟩
 |some L=>
  simp only[FW,aR,bE,bi,m,c,bD,bQ,aQ,bV,dh,aV,Y,V,ai,ab,o,q,i,j,l,r,fH,bW,RN,F,H,I,J,N,S];refine⟨by simp,by kernel_rfl,xE ⟨rfl,rfl⟩ ⟨by simp[doS,x],⟨_,rfl,rfl,rfl⟩,?_⟩⟩;exact(h.ext (xf:=[bs.length+1,bs.length]) (by simp)).2
end Go.Tel
namespace Go.Tel
open Go.Am
variable{s:Su}{a b mb:Nat}{cst cse:PV}
def gy.amV {t:Sp}{bs:List (Option (List PV))}{fz:List Nat}{ar ar':List (Option Arr)}(h:gy s a b mb cst cse t ⟨bs,fz,ar⟩){k ver st:Nat}{xs:List Int}(hk:a+6<=k)(hd:kOf cst≠some k)
  (h1:ar'[k]?=some (some ⟨1,xs.map ay,ver,st⟩))(h2:∀j,j≠k->j<ar.length->ar'[j]?=ar[j]?)(hl:ar.length<=ar'.length)(hst:st≠2):
  gy s a b mb cst (.tsl k ver 0) {t with sets:=xs} ⟨bs.set b (some (iG s a mb cst (.tsl k ver 0) t.kE)),fz,ar'⟩/\FrS a b mb ⟨bs,fz,ar⟩ ⟨bs.set b (some (iG s a mb cst (.tsl k ver 0) t.kE)),fz,ar'⟩:=by
 have g:b<bs.length:=(U.1 h.box).1;have d:∀(j:Nat) (A:Arr),j≠k->ar[j]?=some (some A)->ar'[j]?=some (some A):=fun j A c f=>by
  rw[h2 j c (U.1 f).1];exact f
 constructor
 ·exact
  {box:=by simp[g]
   map:=by
    have:=h.map;have n:=h.bm;simp only at this⊢;rw[am n];exact this
   r0:=d _ _ (by omega) h.r0
   r1:=d _ _ (by omega) h.r1
   r2:=d _ _ (by omega) h.r2
   r3:=d _ _ (by omega) h.r3
   r4:=d _ _ (by omega) h.r4
   r5:=d _ _ (by omega) h.r5
   stk:=qR h.stk fun j A c f=>d j A (fun e=>hd (e▸c)) f
   set:= .inr ⟨k,ver,st,rfl,h1,hst,fun e=>by cases e⟩
   kst:=h.kst
   kse:=fun j c=>by cases c;exact hk
   dif:=fun j c e=>by cases e;exact hd c
   nb:=h.nb
   nm:=h.nm
   bm:=h.bm
   fzb:=fun i l=>by simpa using h.fzb i l}
 ·exact
  {len:=by simp
   fzb:=fun p i l=>by have:=p i l;simpa using this
   bH:=hl
   box:=fun i _ o _=>by simp only;rw[am (Ne.symm o)]
   fz:=fun _ _=>bL
   row:=fun j c=>by
    by_cases m:j<ar.length
    ·exact h2 j (by omega) m
    ·exact absurd (U.1 h.r0).1 (by simp only;omega)}
def aoB {t:Sp}{M:Mem}(h:gy s a b mb cst cse t M)(ht:XK s t)(n:Nat)(hn:n<s.days.length):
  SC C 113 [.ptr b 0, .d (De.set (n+1:Nat)).dv] M (fun p M'=>∃t' sH BG,doS s t (.set (n+1:Nat))=some t'/\gy s a b mb sH BG t' M'/\FrS a b mb M M') (fun d M'=>doS s t (.set (n+1:Nat))=none/\JA d/\FrS a b mb M M'):=by
 obtain⟨bs,fz,ar⟩:=M;have c:=h.box;rw[iG]at c;have D:=h.nb;simp only at c D;have f:b<bs.length:=(U.1 c).1;obtain⟨o1,o2,o3⟩:=Ig h.set;have A:=(De.one (.set (n+1:Nat))).1;have B:=(De.one (.set (n+1:Nat))).2;have hx:(De.set (n+1:Nat)).dv= .iface T.fM (.agg [dI (n+1:Nat)]):=rfl;rw[hx]at A B⊢;have l:bs.length∉fz:=fun e=>ap _ (h.fzb _ e)
 have m:∀k,bs.length+k∉fz:=fun k e=>by have:=h.fzb _ e;simp only at this;omega
 have g:¬b=bs.length:=by omega
 have i:∀k,¬b=bs.length+k:=fun k=>by omega
 have j:∀k,b<bs.length+k:=fun k=>by omega
 have o:¬bs.length+1=bs.length:=by omega
 have c1:(T.fM==T.fK)=false:=by decide
 have c2:(T.fM==T.bT)=false:=by decide
 have c3:(T.fM==T.fC)=false:=by decide
 have c4:(T.fM==T.dW)=false:=by decide
 have ae:s.days.length<=366:=by
  have:=mY (s.cal.leap s.year);simp only[Su.days,Su.pJ,Z,cg,Su.dur]
  split at this<;>omega
 have e1:cA .i64 (((n+1:Nat):Int) - 1)=(n:Int):=by rw[aF (by omega)];omega
 have K:(0:Int)<=(n:Int):=by omega
 have x:((((n+1:Nat):Int) - 1).toNat)=n:=by omega
 refine aG mixed rfl eU ?_;simp only[dO,jq,A,B,mF,fU c1,fU c2,fU c3,fU c4,f,c,bD,bQ,aQ,bV,dh,aV,Y,V,ai,ab,l,m,g,i,j,o,e1,K,an,hn,Z,getD_map,ac8,RN,F,H,I,J,N,S];obtain⟨g1,g2⟩:=h.ext (xs:=[some [PV.d (DV.iface T.fM (DV.agg [dI (n+1:Nat)]))],some [PV.d (dI (n+1:Nat))]]) (xf:=[bs.length+1,bs.length]) (by simp);have ac:a+5<ar.length:=(U.1 h.r5).1;have u:∀(KP:DV->Mem->Prop),doS s t (.set (n+1:Nat))=some {t with sets:=t.sets++ [((n+1:Nat):Int)]}->
   lg 1 false cse (PV.d (DV.slice true [dI (n+1:Nat)])) ⟨bs++ [some [PV.d (DV.iface T.fM (DV.agg [dI (n+1:Nat)]))],some [PV.d (dI (n+1:Nat))]],(bs.length+1)::bs.length::fz,ar⟩ (fun v G=>
    jE 1 (PV.ptr b 21) v G fun M'=>∃t' sH BG,doS s t (.set (n+1:Nat))=some t'/\gy s a b mb sH BG t' M'/\FrS a b mb ⟨bs,fz,ar⟩ M'):=by
  intro _ O;refine afI h.set (fun y hy=>by simp only[bw]at hy;subst hy;rfl) vN (by simp) (by have:=ht.se;simp;omega) fun k ver st ar' e1 K x e4 e5 e6 _ _=> ?_
  obtain⟨Q,R⟩:=g1.amV (k:=k) (ver:=ver) (st:=st) (xs:=t.sets++ [((n+1:Nat):Int)]) (ar':=ar') (by
    rcases e1 with e1|e1
    ·exact h.kse k e1
    ·omega) (fun e=>by
    rcases e1 with e1|e1
    ·exact h.dif k e e1
    ·rcases h.stk with⟨rfl,_⟩|⟨k',_,_,rfl,q,_⟩
     ·cases e
     ·cases e
      have:=(U.1 q).1;simp only at this;omega) (by rw[K];simp[ay]) x e4 e5
  simp only[f,c,bD,bQ,aQ,bV,dh,aV,Y,V,ai,ab,l,m,g,i,j,o,D,bM,dB,RN,F,H,I,J,N,S];rw[bV f]at Q R;exact⟨_,_,_,O,Q,g2.trans R⟩
 cases E:(s.days.getD n default).2
 ·simp only[f,c,bD,bQ,aQ,bV,dh,aV,Y,V,ai,ab,l,m,g,i,j,o,fH,RN,F,H,I,J,N,S]
  refine⟨by kernel_rfl,xE ⟨rfl,rfl⟩ ⟨by simp only[doS,x,E,bq];rfl,⟨_,rfl,rfl,rfl⟩,?_⟩⟩;exact(h.ext (xf:=[bs.length+1,bs.length]) (by simp)).2
 ·by_cases z:t.sets=[]
  ·have w:(((t.sets.map ay).length:Int)==0)=true:=by simp[z]
   simp only[f,c,bD,bQ,aQ,bV,dh,aV,Y,V,ai,ab,l,m,g,i,j,o,fH,afJ h.set,w,RN,F,H,I,J,N,S];refine⟨by kernel_rfl,EC ?_⟩;simp only[f,c,bD,bQ,aQ,bV,dh,aV,Y,V,ai,ab,l,m,g,i,j,o,o1,o2,DV.strip,lI,RN,F,H,I,J,N,S];exact u (fun _ _=>True) (by simp only[doS,x,E,z];rfl)
  ·have w:((t.sets.length:Int)==0)=false:=by simp[z]
   rcases h.set with⟨_,hh⟩|⟨k,ver,st,L,W,_⟩
   ·exact absurd (by simpa using hh) z
   simp only at W;have X:0<t.sets.length:=List.length_pos_iff.2 z;have q1:cA .i64 ((t.sets.length:Int) - 1)=((t.sets.length - 1:Nat):Int):=by rw[aF (by have:=ht.se;omega)];omega
   have q2:(0:Int)<=((t.sets.length - 1:Nat):Int):=by omega
   have q3:t.sets.length - 1<t.sets.length:=by omega
   simp only[f,c,bD,bQ,aQ,bV,dh,aV,Y,V,ai,ab,l,m,g,i,j,o,fH,L,bO,w,q1,q2,q3,W,an,Z,getD_map,aI,RN,F,H,I,J,N,S];refine⟨by kernel_rfl,?_⟩
   by_cases r:((n+1:Nat):Int)>t.sets.getD (t.sets.length - 1) default
   ·rw[decide_eq_true r]
    refine EC ?_;simp only[f,c,bD,bQ,aQ,bV,dh,aV,Y,V,ai,ab,l,m,g,i,j,o,o1,o2,DV.strip,lI,RN,F,H,I,J,N,S];exact u (fun _ _=>True) (by simp only[doS,x,E,decide_eq_true r,Bool.or_true,bk,if_true])
   ·rw[decide_eq_false r]
    have P:t.sets.isEmpty=false:=by simpa using z
    refine xE ⟨rfl,rfl⟩ ⟨by simp only[doS,x,E,decide_eq_false r,P,Bool.or_false,ck];rfl,⟨_,rfl,rfl,rfl⟩,?_⟩;exact(h.ext (xf:=[bs.length+1,bs.length]) (by simp)).2
end Go.Tel
namespace Go.Tel
open Go.Am
variable{M:Mem}
def Pn {p:PV}{d:DV}{ps:List PV}{ds:List DV}(h:datum M p=some d)(a:dF M ps=some ds):dF M (p::ps)=some (d::ds):=by
 simp only[dF,h,a]
variable{s:Su}{a b mb:Nat}{cst cse:PV}{bs:List (Option (List PV))}{fz:List Nat}{ar:List (Option Arr)}
def gy.aq5 {t:Sp}(h:gy s a b mb cst cse t ⟨bs,fz,ar⟩)(c:List Fr):
  gy s a b mb cst cse {t with tg:=c} ⟨bs,fz,ar.set (a+2) (some ⟨2,c.map Fr.dv,0,1⟩)⟩/\FrS a b mb ⟨bs,fz,ar⟩ ⟨bs,fz,ar.set (a+2) (some ⟨2,c.map Fr.dv,0,1⟩)⟩:=by
 have g:a+2<ar.length:=(U.1 h.r2).1;have d:∀(j:Nat) (A:Arr),j≠a+2->ar[j]?=some (some A)->(ar.set (a+2) (some ⟨2,c.map Fr.dv,0,1⟩))[j]?=some (some A):=fun j A e f=>by
  rw[am (Ne.symm e)];exact f
 constructor
 ·exact
  {box:=h.box
   map:=h.map
   r0:=d _ _ (by omega) h.r0
   r1:=d _ _ (by omega) h.r1
   r2:=by simp[g]
   r3:=d _ _ (by omega) h.r3
   r4:=d _ _ (by omega) h.r4
   r5:=d _ _ (by omega) h.r5
   stk:=qR h.stk fun j A e f=>d j A (by have:=h.kst j e;omega) f
   set:=qR h.set fun j A e f=>d j A (by have:=h.kse j e;omega) f
   kst:=h.kst,kse:=h.kse,dif:=h.dif,nb:=h.nb,nm:=h.nm,bm:=h.bm,fzb:=h.fzb}
 ·exact
  {len:=aE _
   fzb:=fun k i l=>by have:=k i l;simpa using this
   bH:=by simp
   box:=fun _ _ _ _=>rfl
   fz:=fun _ _=>bL
   row:=fun j e=>by simp only;rw[am (by omega)]}
def gy.aj1 {t:Sp}(h:gy s a b mb cst cse t ⟨bs,fz,ar⟩)(c:Int):
  gy s a b mb cst cse {t with kE:=c} ⟨bs.set b (some (iG s a mb cst cse c)),fz,ar⟩/\FrS a b mb ⟨bs,fz,ar⟩ ⟨bs.set b (some (iG s a mb cst cse c)),fz,ar⟩:=by
 have d:b<bs.length:=(U.1 h.box).1;constructor
 ·exact
  {box:=by simp[d]
   map:=by
    have:=h.map;have f:=h.bm;simp only at this⊢;rw[am f];exact this
   r0:=h.r0,r1:=h.r1,r2:=h.r2,r3:=h.r3,r4:=h.r4,r5:=h.r5,stk:=h.stk,set:=h.set
   kst:=h.kst,kse:=h.kse,dif:=h.dif,nb:=h.nb,nm:=h.nm,bm:=h.bm
   fzb:=fun i e=>by simpa using h.fzb i e}
 ·exact
  {len:=by simp
   fzb:=fun j i e=>by have:=j i e;simpa using this
   bH:=aE _
   box:=fun i _ g _=>by simp only;rw[am (Ne.symm g)]
   fz:=fun _ _=>bL
   row:=fun _ _=>rfl}
def ai3 {t:Sp}(h:gy s a b mb cst cse t M)(D:XK s t)(n:Nat)(hn:n<t.pc.hands.length)(c:Int)(hc:0<=c/\c<=1000000000):
  SC C 113 [.ptr b 0, .d (De.serve n c).dv] M (fun p M'=>∃t' sH BG,doS s t (.serve n c)=some t'/\gy s a b mb sH BG t' M'/\FrS a b mb M M') (fun d M'=>doS s t (.serve n c)=none/\JA d/\FrS a b mb M M'):=by
 obtain⟨bs,fz,ar⟩:=M;have g:=h.box;rw[iG]at g;have am:=h.nb;have u:=h.map;have z:=h.r2;simp only at g am u z;have m:b<bs.length:=(U.1 g).1;have O:mb<bs.length:=(U.1 u).1;obtain⟨o1,o2,o3⟩:=Ig h.stk;have G:=(De.one (.serve n c)).1;have K:=(De.one (.serve n c)).2;have hx:(De.serve n c).dv= .iface T.dW (.agg [dI n,dI c]):=rfl;rw[hx]at G K⊢;have o:bs.length∉fz:=fun e=>ap _ (h.fzb _ e)
 have q:∀k,bs.length+k∉fz:=fun k e=>by have:=h.fzb _ e;simp only at this;omega
 have i:¬b=bs.length:=by omega
 have j:∀k,¬b=bs.length+k:=fun k=>by omega
 have l:∀k,b<bs.length+k:=fun k=>by omega
 have r:¬bs.length+1=bs.length:=by omega
 have c1:(T.dW==T.fK)=false:=by decide
 have c2:(T.dW==T.bT)=false:=by decide
 have c3:(T.dW==T.fC)=false:=by decide
 have ao:=(Pc.xA D.pc).2;have aq:=(Pc.xA D.pc).1;have L:0<=s.lim/\s.lim<=10800:=by simpa[inR]using(Su.facts D.ok).2.2.1
 refine aG mixed rfl eU ?_;simp only[dO,jq,G,K,mF,fU c1,fU c2,fU c3,m,g,bD,bQ,aQ,bV,dh,aV,Y,V,ai,ab,o,q,i,j,l,r,RN,F,H,I,J,N,S];refine TL (opD t.op) ((fZ t.op n).map Fr.dv) (by simp[Mem.box,ae O,u]) (wL n) (Ih _ _) ?_;cases W:fZ t.op n with
 |none=>
  simp only[FW,av,bB,bh,m,g,bD,bQ,aQ,bV,dh,aV,Y,V,ai,ab,o,q,i,j,l,r,fH,RN,F,H,I,J,N,S];refine⟨by simp,by kernel_rfl,xE ⟨rfl,rfl⟩ ⟨by simp[doS,W],⟨_,rfl,rfl,rfl⟩,?_⟩⟩;exact(h.ext (xf:=[bs.length+2,bs.length+1,bs.length]) (by simp)).2
 |some f=>
  obtain⟨X,g2⟩:=h.ext (xs:=[some [PV.d (DV.iface T.dW (DV.agg [dI n,dI c]))],some [PV.d (dI n),pI c],some [pI f.n,pI f.d]]) (xf:=[bs.length+2,bs.length+1,bs.length]) (by simp);obtain⟨e1,e2,Q⟩:=ab6 X;have hk:=ajM e1 e2 s t n f 100 (by omega) (by omega) L;have hp:=afw e1 e2 s t n D.pc hn;rw[bW,cO]at hk;rw[cO]at hp;simp only[FW,aR,bE,bi,m,g,bD,bQ,aQ,bV,dh,aV,Y,V,ai,ab,o,q,i,j,l,r,fH,bW,RN,F,H,I,J,N,S];refine⟨by simp,?_⟩;refine kS (Pn Q rfl) rfl hk rfl ?_;cases y:TD s t n f 100
  ·simp only[m,g,bD,bQ,aQ,bV,dh,aV,Y,V,ai,ab,o,q,i,j,l,r,fH,RN,F,H,I,J,N,S]
   exact⟨by kernel_rfl,xE ⟨rfl,rfl⟩ ⟨by simp[doS,W,y],⟨_,rfl,rfl,rfl⟩,g2⟩⟩
  ·simp only[m,g,bD,bQ,aQ,bV,dh,aV,Y,V,ai,ab,o,q,i,j,l,r,RN,F,H,I,J,N,S]
   refine kS (Pn Q rfl) rfl hp rfl ?_;simp only[m,g,bD,bQ,aQ,bV,dh,aV,Y,V,ai,ab,o,q,i,j,l,r,fH,RN,F,H,I,J,N,S];refine⟨by kernel_rfl,?_⟩
   by_cases w:c>=Ec s t n
   ·rw[decide_eq_true w]
    refine EC ?_;simp only[m,g,bD,bQ,aQ,bV,dh,aV,Y,V,ai,ab,o,q,i,j,l,r,RN,F,H,I,J,N,S];refine apF (opD t.op) (opD (BX t.op n)) (by simp[Mem.box,ae O,u]) X.nm (wL n) (apL _ _) ?_;obtain⟨R,g4⟩:=X.an8 (BX t.op n);obtain⟨B,hB⟩:∃B,B=(bs++ [some [PV.d (DV.iface T.dW (DV.agg [dI n,dI c]))],some [PV.d (dI n),pI c],some [pI f.n,pI f.d]]).set mb (some [.iW (opD (BX t.op n))]):=⟨_,rfl⟩
    rw[<-hB]at R g4;simp only[<-hB];have v:=R.box;rw[iG]at v;have E:b<B.length:=(U.1 v).1;have x:=R.nb;simp only at v x;have A:n<t.tg.length:=by rw[D.tl];exact hn
    have j0:(0:Int)<=(n:Int):=by omega
    simp only[v,E,z,j0,A,an,Z,RN,F,H,I,J,N,S];have P:(t.tg.map Fr.dv).set n (setCells ((t.tg.map Fr.dv).getD n default) 0 [dI f.n,dI f.d])=(t.tg.set n f).map Fr.dv:=by
     rw[cq,getD_map A];rfl
    have ac:cA .i64 (t.kE+c)=t.kE+c:=aF (by have:=D.co;omega);refine qU (ds:=[dI f.n,dI f.d]) z rfl (by decide) rfl rfl (by rw[getD_map A];exact aE 2) ?_;rw[P];obtain⟨g5,g6⟩:=R.aq5 (t.tg.set n f);obtain⟨g7,g8⟩:=g5.aj1 (t.kE+c);simp only[v,E,x,ac,RN,F,H,I,J,N,S];refine⟨by simpa using x,{t with op:=BX t.op n,tg:=t.tg.set n f,kE:=t.kE+c},cst,cse,by simp[doS,W,y,w],g7,?_⟩;exact((g2.trans g4).trans g6).trans g8
   ·rw[decide_eq_false w]
    exact xE ⟨rfl,rfl⟩ ⟨by simp[doS,W,y,w],⟨_,rfl,rfl,rfl⟩,g2⟩
def agI {t:Sp}(h:gy s a b mb cst cse t M)(n:Int):
  SC C 113 [.ptr b 0, .d (De.strike n).dv] M (fun p M'=>∃t' sH BG,doS s t (.strike n)=some t'/\gy s a b mb sH BG t' M'/\FrS a b mb M M') (fun d M'=>doS s t (.strike n)=none/\JA d/\FrS a b mb M M'):=by
 obtain⟨bs,fz,ar⟩:=M;have c:=(De.one (.strike n)).1;have e:=(De.one (.strike n)).2;have o:(De.strike n).dv= .iface T.bK (.agg [dI n]):=rfl;rw[o]at c e⊢;have f:(T.bK==T.fK)=false:=by decide
 have g:(T.bK==T.bT)=false:=by decide
 have i:(T.bK==T.fC)=false:=by decide
 have j:(T.bK==T.dW)=false:=by decide
 have k:(T.bK==T.fM)=false:=by decide
 refine aG mixed rfl eU ?_;simp only[dO,jq,c,e,aQ,fU f,fU g,fU i,fU j,fU k,aV,V,RN,F,H,I,J,N,S];obtain⟨l,m⟩:=h.ext (xs:=[some [PV.d (DV.iface T.bK (DV.agg [dI n]))]]) (xf:=[bs.length]) (by simp);exact⟨t,cst,cse,rfl,l,m⟩
end Go.Tel
namespace Go.Tel
open Go.Am
def ZJ {base:Nat}{KP:DV->Mem->Prop}{f:FuncId}{args:List PV}{M:Mem}{ds ds':List DV}{r:PV}{c:List Arr}(h:Pure C f ds' r c)(g:aaj r=true)(a:c.all lJ=true){K:PV->Mem->Prop}
  (b:dF M args=some ds)(e:ds.map DV.strip=ds')(d:K (r.shift M.aB.length) {M with aB:=M.aB++c.map some}):au C base (.KU f) args M K KP:=
 ⟨_,_,abU h g a b e ⟨rfl,rfl⟩,d⟩
variable{s:Su}{a b mb:Nat}{cst cse:PV}{bs:List (Option (List PV))}{fz:List Nat}{ar:List (Option Arr)}
def gy.rows {t:Sp}{xs:List (Option Arr)}(h:gy s a b mb cst cse t ⟨bs,fz,ar⟩):gy s a b mb cst cse t ⟨bs,fz,ar++xs⟩/\FrS a b mb ⟨bs,fz,ar⟩ ⟨bs,fz,ar++xs⟩:=by
 have c:∀(j:Nat) (A:Arr),ar[j]?=some (some A)->(ar++xs)[j]?=some (some A):=fun j A d=>by
  rw[ae (U.1 d).1];exact d
 constructor
 ·exact
  {box:=h.box,map:=h.map
   r0:=c _ _ h.r0,r1:=c _ _ h.r1,r2:=c _ _ h.r2,r3:=c _ _ h.r3,r4:=c _ _ h.r4,r5:=c _ _ h.r5
   stk:=qR h.stk fun j A _ d=>c j A d
   set:=qR h.set fun j A _ d=>c j A d
   kst:=h.kst,kse:=h.kse,dif:=h.dif,nb:=h.nb,nm:=h.nm,bm:=h.bm,fzb:=h.fzb}
 ·exact
  {len:=aE _
   fzb:=fun e i f=>by have:=e i f;simpa using this
   bH:=by simp
   box:=fun _ _ _ _=>rfl
   fz:=fun _ _=>bL
   row:=fun j g=>by
    have:=(U.1 h.r0).1;simp only at this⊢;rw[ae (by omega)]}
def gy.other {t:Sp}(h:gy s a b mb cst cse t ⟨bs,fz,ar⟩){k:Nat}{A:Arr}(hk:a+6<=k)(h1:kOf cst≠some k)(h2:kOf cse≠some k):
  gy s a b mb cst cse t ⟨bs,fz,ar.set k (some A)⟩/\FrS a b mb ⟨bs,fz,ar⟩ ⟨bs,fz,ar.set k (some A)⟩:=by
 have c:∀(j:Nat) (B:Arr),j≠k->ar[j]?=some (some B)->(ar.set k (some A))[j]?=some (some B):=fun j B d g=>by
  rw[am (Ne.symm d)];exact g
 constructor
 ·exact
  {box:=h.box,map:=h.map
   r0:=c _ _ (by omega) h.r0
   r1:=c _ _ (by omega) h.r1
   r2:=c _ _ (by omega) h.r2
   r3:=c _ _ (by omega) h.r3
   r4:=c _ _ (by omega) h.r4
   r5:=c _ _ (by omega) h.r5
   stk:=qR h.stk fun j B d f=>c j B (fun e=>h1 (e▸d)) f
   set:=qR h.set fun j B d f=>c j B (fun e=>h2 (e▸d)) f
   kst:=h.kst,kse:=h.kse,dif:=h.dif,nb:=h.nb,nm:=h.nm,bm:=h.bm,fzb:=h.fzb}
 ·exact
  {len:=aE _
   fzb:=fun l i m=>by have:=l i m;simpa using this
   bH:=by simp
   box:=fun _ _ _ _=>rfl
   fz:=fun _ _=>bL
   row:=fun j d=>by simp only;rw[am (by omega)]}
def gy.aq3 {t:Sp}(h:gy s a b mb cst cse t ⟨bs,fz,ar⟩)(p:Pc)(l:p.hands=t.pc.hands):
  gy s a b mb cst cse {t with pc:=p} ⟨bs,fz,ar.set a (some ⟨3,p.links.map Lk.dv,0,1⟩)⟩/\FrS a b mb ⟨bs,fz,ar⟩ ⟨bs,fz,ar.set a (some ⟨3,p.links.map Lk.dv,0,1⟩)⟩:=by
 have f:a<ar.length:=(U.1 h.r0).1;have c:∀(j:Nat) (A:Arr),j≠a->ar[j]?=some (some A)->(ar.set a (some ⟨3,p.links.map Lk.dv,0,1⟩))[j]?=some (some A):=fun j A d e=>by
  rw[am (Ne.symm d)];exact e
 constructor
 ·exact
  {box:=h.box,map:=h.map
   r0:=by simp[f]
   r1:=c _ _ (by omega) (by rw[l];exact h.r1)
   r2:=c _ _ (by omega) h.r2
   r3:=c _ _ (by omega) h.r3
   r4:=c _ _ (by omega) h.r4
   r5:=c _ _ (by omega) h.r5
   stk:=qR h.stk fun j A d e=>c j A (by have:=h.kst j d;omega) e
   set:=qR h.set fun j A d e=>c j A (by have:=h.kse j d;omega) e
   kst:=h.kst,kse:=h.kse,dif:=h.dif,nb:=h.nb,nm:=h.nm,bm:=h.bm,fzb:=h.fzb}
 ·exact
  {len:=aE _
   fzb:=fun g i k=>by have:=g i k;simpa using this
   bH:=by simp
   box:=fun _ _ _ _=>rfl
   fz:=fun _ _=>bL
   row:=fun j d=>by simp only;rw[am (by omega)]}
section
variable {C:Ctx}{base:Nat}{KP:DV->Mem->Prop}{K:PV->Mem->Prop}{M:Mem}{x y:PV}{l:List PV}
def qc:au C base (.ext 0) [.tup (x::l)] M K KP=K x M:=propext ⟨id,id⟩
def qg:au C base (.ext 1) [.tup (x::y::l)] M K KP=K y M:=propext ⟨id,id⟩
end
variable{K:PV->Mem->Prop}
def Ve {f:FuncId}{args:List PV}{M:Mem}{KP:DV->Mem->Prop}(h:SC C f args M K (fun _ _=>False)):SC C f args M K KP:=by
 intro X w E a i g;refine(h X w E a i g).mono fun e l b=> ?_
 cases e with
 |returned v=>exact b
 |panicked c=>
  obtain⟨v,d,k,j,_,hh,_⟩:=b;exact hh.elim
 |outgrown=>exact b.elim
def aeN (p q:Pc):(p.rF q).length<=p.hands.length:=NK _ _ _ _
def Lp (l:List Int):lJ ⟨1,l.map ay,0,xC l⟩=true:=by
 cases l with
 |nil=>rfl
 |cons x l=>
  have:∀l:List Int,(flat (l.map ay)).all afc=true:=by
   intro l
   induction l with
   |nil=>rfl
   |cons x l a=>simp only[flat,a7,cf,List.all_append]at a⊢;rw[a];rfl
  simp only[lJ,this (x::l)]
  rfl
variable{bs:List (Option (List PV))}
def amo {b:Nat}{y:Option (List PV)}(h:b<bs.length):(bs.set b y)[b]?=some y:=by simp[h]
def ala {W:Bool}{c x:PV}{xs ys:List DV}{fz:List Nat}{ar:List (Option Arr)}(h:slR W c xs ar)(hx:zL 1 x ⟨bs,fz,ar⟩=some ys)(g:∀y∈ys,y.fits 1=true)(hl:xs.length+ys.length<=1073741824)
  (e:∀k ver st ar',((kOf c=some k/\(∃l,ar[k]?=some (some ⟨1,xs,l,st⟩))/\(W=true->st=1\/xs=[]))\/(kOf c=none/\k=ar.length/\st=0/\xs=[]))->ar'[k]?=some (some ⟨1,xs++ys,ver,st⟩)->(∀j,j≠k->j<ar.length->ar'[j]?=ar[j]?)->ar.length<=ar'.length->st≠2->K (.tsl k ver 0) ⟨bs,fz,ar'⟩):
  lg 1 false c x ⟨bs,fz,ar⟩ K:=by
 rcases h with⟨rfl,rfl⟩|⟨k,ver,st,rfl,b,h2,i⟩
 ·simp only[lg,hx]
  refine⟨by decide,g,by simp,trivial,by simp,by simpa using hl,?_⟩;exact e _ _ 0 _ (.inr ⟨rfl,rfl,rfl,rfl⟩) (by simp) (fun j f a=>by rw[ae a]) (by simp) (by simp)
 ·have d:k<ar.length:=(U.1 b).1
  simp only[lg,hx,Mem.row,b,if_true];refine⟨by decide,g,by simp,trivial,h2,hl,?_⟩;exact e k (ver+1) st _ (.inl ⟨rfl,⟨ver,b⟩,i⟩) (by simp[d]) (fun j f _=>am (Ne.symm f)) (by simp) h2
def alU (s:Su)(a b mb:Nat)(cst cse:PV)(t:Sp)(bs:List (Option (List PV)))(fz:List Nat)(ar:List (Option Arr))(g:Nat)(o v:Int)(P:Nat->Nat->Prop)(c:Chg)(h:Pr)(r:Option (List Int×List Int))(e:Ex)(st:St):Prop:=
 match e with
 | .normal=>∃j i XZ ver l f ex,r=some (j,i)/\st=⟨[(0, .ptr b 0),(4, .d (.func (.func 207) [] [.aW [.iface T.bT (.agg [.int .i64 c.link, .int .i64 c.pr.a, .int .i64 c.pr.b])]])),(8, .d (.aW [.int .i64 c.link, .int .i64 c.pr.a, .int .i64 c.pr.b])),(15, .d (.aW [.int .i64 h.a, .int .i64 h.b])),(16, .tsl g ver 0)]++ex,f⟩/\
   gy s a b mb XZ cse {t with eH:=j} f/\FrS a b mb ⟨bs,fz,ar⟩ f/\f.aB[g]?=some (some ⟨1,i.map ay,ver,l⟩)/\l≠2/\kOf XZ≠some g/\g<f.aB.length/\kOf cse≠some g/\(i=[]\/∃k ver,XZ= .tsl k ver 0/\f.aB[k]?=some (some ⟨1,j.map ay,ver,1⟩))
 | .panic d=>r=none/\JA d/\FrS a b mb ⟨bs,fz,ar⟩ st.mem
 | _=>False
def aiO (s:Su)(a b mb:Nat)(cse:PV)(t:Sp)(bs:List (Option (List PV)))(fz:List Nat)(ar:List (Option Arr))(g:Nat)(c:Chg)(r:Option (List Int×List Int))(e:Ex)(st:St):Prop:=
 match e with
 | .normal=>∃i h XZ ver j env f,r=some (i,h)/\st=⟨env,f⟩/\Am.look env 0= .ptr b 0/\Am.look env 8= .d (.aW [.int .i64 c.link, .int .i64 c.pr.a, .int .i64 c.pr.b])/\Am.look env 16= .tsl g ver 0/\
   gy s a b mb XZ cse {t with eH:=i} f/\FrS a b mb ⟨bs,fz,ar⟩ f/\f.aB[g]?=some (some ⟨1,h.map ay,ver,j⟩)/\j≠2/\kOf XZ≠some g/\g<f.aB.length/\kOf cse≠some g/\(h=[]\/∃k ver,XZ= .tsl k ver 0/\f.aB[k]?=some (some ⟨1,i.map ay,ver,1⟩))
 | .panic d=>r=none/\JA d/\FrS a b mb ⟨bs,fz,ar⟩ st.mem
 | _=>False
def XD {st ps b a:List Int}{o v:Int}(h:oz st ps o v=some (b,a)):b.length<=st.length/\a.length<=ps.length+1:=by
 unfold oz at h
 split at h
 ·cases h;omega
 ·split at h
  ·cases h
   simp only[V,aL,az];exact⟨List.length_erase_le,by omega⟩
  ·cases h
def WE (aw:aik){s:Su}{a b mb:Nat}{cst cse:PV}{t:Sp}{M:Mem}(h:gy s a b mb cst cse t M)(ht:XK s t)(c:Chg)(hc:t.pc.FN c=true):
  SC C 113 [.ptr b 0, .d (De.change c).dv] M (fun p M'=>∃t' sH BG,doS s t (.change c)=some t'/\gy s a b mb sH BG t' M'/\FrS a b mb M M') (fun d M'=>doS s t (.change c)=none/\JA d/\FrS a b mb M M'):=by
 obtain⟨bs,fz,ar⟩:=M;have y:=h.box;rw[iG]at y;have bz:=h.nb;have az:=h.map;have bc:=h.r0;have bd:=h.r1;simp only at y bz az bc bd;have bt:b<bs.length:=(U.1 y).1;have bS:mb<bs.length:=(U.1 az).1;have a6:=(De.one (.change c)).1;have a7:=(De.one (.change c)).2;have hx:(De.change c).dv= .iface T.bT (.agg [dI c.link,dI c.pr.a,dI c.pr.b]):=rfl;rw[hx]at a6 a7⊢;have bv:bs.length∉fz:=fun e=>ap _ (h.fzb _ e)
 have bw:∀k,bs.length+k∉fz:=fun k e=>by have:=h.fzb _ e;simp only at this;omega
 have bo:¬b=bs.length:=by omega
 have bp:∀k,¬b=bs.length+k:=fun k=>by omega
 have br:∀k,b<bs.length+k:=fun k=>by omega
 have bL:¬bs.length+1=bs.length:=by omega
 have c1:(T.bT==T.fK)=false:=by decide
 have a2:=aip t.pc c hc;rw[dZ,sW]at a2;refine aG mixed rfl eU ?_;simp only[dO,jq,a6,a7,mF,fU c1,bt,y,bD,bQ,aQ,bV,dh,aV,Y,V,ai,ab,bv,bw,bo,bp,br,bL,bI,av,eP,RN,F,H,I,J,N,S];obtain⟨sp,amv⟩:∃sp,sp=t.pc.rF (t.pc.changed c):=⟨_,rfl⟩
 rw[<-amv]at a2;refine ZJ a2 rfl (by simp only[cm,cp,Bool.and_true];exact Lp sp) (sU (d:= .agg [sF (t.pc.links.map Lk.dv),sF (t.pc.hands.map ay)]) (by simp[datum,cu,fA,Mem.row,bc,bd])) rfl ?_;obtain⟨g1,g2⟩:=h.ext (xs:=[some [PV.d (DV.iface T.bT (DV.agg [dI c.link,dI c.pr.a,dI c.pr.b]))],some [PV.d (dI c.link),PV.d (dI c.pr.a),PV.d (dI c.pr.b)]]) (xf:=[bs.length+1,bs.length]) (by simp);obtain⟨g3,g4⟩:=g1.rows (xs:=[some ⟨1,sp.map ay,0,xC sp⟩]);have y0:((0:Int)==0)=true:=rfl;have a8:(ar++ [some (⟨1,sp.map ay,0,xC sp⟩:Arr)])[ar.length]?=some (some ⟨1,sp.map ay,0,xC sp⟩):=by simp
 simp only[PV.shift,Vh,kC,y0,fH,qc,qg,RN,F,H,I,J,N,S];refine⟨by kernel_rfl,EC ?_⟩;have apu:sp.length<=4:=by
  have:=(Pc.xA ht.pc).2.2;rw[amv];exact aq (aeN _ _) this
 simp only[a8,bO,Z,RN,F,H,I,J,N,S];refine aH sp.length (fun i (B:Mem)=>⟨[(0, .ptr b 0),(4, .d (.func (.func 207) [] [.aW [.iface T.bT (.agg [dI c.link,dI c.pr.a,dI c.pr.b])]])),(8, .d (.aW [dI c.link,dI c.pr.a,dI c.pr.b])),(83, .tsl ar.length 0 0),(84,pI sp.length),(85,pI i)],B⟩)
  (fun i B=>gy s a b mb cst cse t B/\FrS a b mb ⟨bs,fz,ar⟩ B/\B.aB[ar.length]?=some (some ⟨1,sp.map ay,0,xC sp⟩)/\(sp.all fun h=>(fZ t.op h).isSome)=((sp.drop i).all fun h=>(fZ t.op h).isSome)) 0 _ (ax _) rfl ⟨g3,g2.trans g4,a8,rfl⟩ (fun i B k1 aM=> ?_) (fun B aM=> ?_)
 ·obtain⟨k2,k3,k6⟩:=rng k1 (by omega)
  obtain⟨v,p2,p3,p4⟩:=aM;rw[drop_cons k1,cm]at p4;obtain⟨g,D,j⟩:=B;have uT:=v.box;rw[iG]at uT;have l:=v.map;simp only at uT l p3;have ajw:b<g.length:=(U.1 uT).1;have aqG:mb<g.length:=(U.1 l).1;have P:g.length∉D:=fun e=>ap _ (v.fzb _ e)
  have R:∀k,g.length+k∉D:=fun k e=>by have:=v.fzb _ e;simp only at this;omega
  have E:¬b=g.length:=by omega
  have G:∀k,¬b=g.length+k:=fun k=>by omega
  have K:∀k,b<g.length+k:=fun k=>by omega
  simp only[k2,k3,k1,p3,bO,Z,getD_map,an,aI,ajw,uT,bD,bQ,aQ,bV,dh,aV,Y,V,ai,ab,P,R,E,G,K,RN,F,H,I,J,N,S];refine TL (opD t.op) ((fZ t.op (sp.getD i default)).map Fr.dv) (by simp[Mem.box,ae aqG,l]) (wL _) (Ih _ _) ?_;cases hg:fZ t.op (sp.getD i default)with
  |none=>
   rw[hg,bh,bq]at p4;simp only[FW,av,bB,bh,ajw,uT,bD,bQ,aQ,bV,dh,aV,Y,V,ai,ab,P,R,E,G,K,fH,RN,F,H,I,J,N,S];refine⟨by kernel_rfl,xE ⟨rfl,rfl⟩ ⟨by simp only[doS,<-amv,p4,ck];rfl,⟨_,rfl,rfl,rfl⟩,?_⟩⟩;exact p2.trans (v.ext (xf:=[]) (by simp)).2
  |some f0=>
   rw[hg,bi,Bool.true_and]at p4;simp only[FW,aR,bE,bi,ajw,uT,bD,bQ,aQ,bV,dh,aV,Y,V,ai,ab,P,R,E,G,K,fH,bW,RN,F,H,I,J,N,S];refine⟨by kernel_rfl,EC ?_⟩;simp only[k6,RN,F,H,I,J,N,S];obtain⟨x1,x2⟩:=v.ext (xs:=[some [pI f0.n,pI f0.d]]) (xf:=[]) (by simp);exact bn (len:=sp.length) (i:=i) _ k1 rfl ⟨x1,p2.trans x2,p3,p4⟩
 ·obtain⟨v,p2,p3,p4⟩:=aM
  rw[List.drop_length,cp]at p4;obtain⟨g,D,j⟩:=B;have uT:=v.box;rw[iG]at uT;have l:=v.map;have aqN:=v.r0;simp only at uT l p3 aqN;have ajw:b<g.length:=(U.1 uT).1;have aqG:mb<g.length:=(U.1 l).1;have P:g.length∉D:=fun e=>ap _ (v.fzb _ e)
  have R:∀k,g.length+k∉D:=fun k e=>by have:=v.fzb _ e;simp only at this;omega
  have E:¬b=g.length:=by omega
  have G:∀k,¬b=g.length+k:=fun k=>by omega
  have K:∀k,b<g.length+k:=fun k=>by omega
  have a9:0<=c.link/\c.link.toNat<t.pc.links.length:=by
   simp only[Pc.FN,ao,inR,decide_eq_true_eq]at hc;omega
  obtain⟨j0,ac⟩:=a9;obtain⟨f,z⟩:∃f,f=(t.pc.links.getD c.link.toNat default).pr:=⟨_,rfl⟩
  simp only[bl,ajw,uT,bD,bQ,aQ,bV,dh,aV,Y,V,ai,ab,P,R,E,G,K,aqN,j0,ac,Z,getD_map,nI,<-z,RN,F,H,I,J,N,S];obtain⟨x1,x2⟩:=v.ext (xs:=[some [pI f.a,pI f.b]]) (xf:=[g.length]) (by simp);obtain⟨x3,x4⟩:=x1.rows (xs:=[some ⟨1,[],0,0⟩]);have x5:=(p2.trans x2).trans x4;have W:∀k,kOf cst=some k->k≠j.length:=fun k hk e=>by
   rcases v.stk with⟨rfl,_⟩|⟨k',_,_,rfl,q,_⟩
   ·cases hk
   ·cases hk
    have:=(U.1 q).1;simp only at this;omega
  have apq:∀k,kOf cse=some k->k≠j.length:=fun k hk e=>by
   rcases v.set with⟨rfl,_⟩|⟨k',_,_,rfl,q,_⟩
   ·cases hk
   ·cases hk
    have:=(U.1 q).1;simp only at this;omega
  have aqo:a+5<j.length:=(U.1 v.r5).1;refine nY (Q:=alU s a b mb cst cse t bs fz ar j.length f.a c.pr.a (fun _ _=>True) c f (oz t.eH [] f.a c.pr.a)) (fun e st he=> ?_) ?_
  ·cases e with
   |normal=>
    obtain⟨s1,u,XZ,ver,sn,B,ex,X,rfl,y1,y2,y3,y4,y5,y6,y7,y8⟩:=he;have O:=XD X;have bX:=ht.st;have asX:=y5;(try simp only[RN,F,H,I,J,N,S]);refine nY (Q:=aiO s a b mb cse t bs fz ar j.length c (oz s1 u f.b c.pr.b)) (fun e st he=> ?_) ?_
    ·cases e with
     |normal=>
      obtain⟨s2,a3,asN,aeV,b0,asO,M2,aD,rfl,l0,l8,bN,w1,w2,w3,w4,w5,w6,w7,w8⟩:=he;have a0:=XD aD;obtain⟨aL,a4,w⟩:=M2;have aap:=w1.box;rw[iG]at aap;have aqK:=w1.nb;simp only at aap aqK w3;have aqt:b<aL.length:=(U.1 aap).1;obtain⟨o1,o2,o3⟩:=Ig w1.stk;have bR:a+5<w.length:=(U.1 w1.r5).1;simp only[l0,l8,bN,aap,aqt,RN,F,H,I,J,N,S];refine ala (ys:=a3.map ay) w1.stk (by simp[zL,Mem.row,w3]) vN (by have:=O;have:=a0;simp at*;omega) fun k ver st ar' o e2 e3 e4 e5=> ?_
      have bj:st=1\/s2++a3=[]:=by
       rcases w8 with hp|⟨k8,v8,a5,h8⟩
       ·subst hp
        rcases o with⟨_,_,o⟩|⟨_,_,_,o⟩
        ·exact(o rfl).imp id fun e=>by simpa using e
        ·exact .inr (by simpa using o)
       ·rcases o with⟨e0,⟨v0,o⟩,_⟩|⟨o,_⟩
        ·rw[a5]at e0
         cases e0;simp only at h8;rw[o]at h8;simp at h8;exact .inl h8.2
        ·rw[a5]at o;cases o
      obtain⟨g5,g6⟩:=w1.TP (k:=k) (ver:=ver) (st:=st) (xs:=s2++a3) (ar':=ar') (by
        rcases o with⟨o,_⟩|⟨_,o,_⟩
        ·exact w1.kst k o
        ·omega) (fun e=>by
        rcases o with⟨o,_⟩|⟨_,o,_⟩
        ·exact w1.dif k o e
        ·rcases w1.set with⟨rfl,_⟩|⟨k',_,_,rfl,q,_⟩
         ·cases e
         ·cases e
          have:=(U.1 q).1;simp only at this;omega) (by rw[e2];simp) e3 e4 ⟨e5,bj⟩
      have a1:=g5.r0;simp only at a1;simp only[aap,aqt,aqK,amo,ab,bM,dB,l0,l8,a1,j0,ac,Z,an,RN,F,H,I,J,N,S];have be:(t.pc.links.map Lk.dv).set c.link.toNat (setCells ((t.pc.links.map Lk.dv).getD c.link.toNat default) 1 [dI c.pr.a,dI c.pr.b])=(t.pc.changed c).links.map Lk.dv:=by
       rw[Pc.changed,cq,getD_map ac];rfl
      refine qU (ds:=[dI c.pr.a,dI c.pr.b]) a1 rfl (by decide) rfl rfl (by rw[getD_map ac];exact aE 3) ?_;rw[be];obtain⟨g7,g8⟩:=g5.aq3 (t.pc.changed c) rfl;exact⟨_,_,_,by simp only[doS,hc,<-amv,p4,bk,if_true,<-z,X,aD],g7,((w2.trans g6).trans g8)⟩
     |panic d=>
      obtain⟨h1,h2,h3⟩:=he;(try simp only[RN,F,H,I,J,N,S]);refine⟨?_,h2,h3⟩;simp only[doS,<-z,X,h1]
      split<;>rfl
     |ret=>exact he.elim
     |exit id=>exact he.elim
    ·by_cases m:f.b=c.pr.b
     ·have x:(f.b !=c.pr.b)=false:=by simp[m]
      simp only[x,RN,F,H,I,J,N,S];refine⟨s1,u,XZ,ver,sn,_,B,by rw[oz,if_pos m],rfl,rfl,rfl,rfl,y1,y2,y3,y4,y5,y6,y7,y8⟩
     ·have x:(f.b !=c.pr.b)=true:=by simp[m]
      simp only[x,RN,F,H,I,J,N,S];refine Ve (SC.mono (afL aw y1 c.pr.b (by simp only;omega)) ?_);rintro p M2 (⟨q1,rfl,rfl⟩|⟨q1,rfl,sH,q2,q3,q4,⟨kk,kv,rfl,q8⟩,q5⟩)
      ·simp only[fH,RN,F,H,I,J,N,S]
       refine⟨by kernel_rfl,xE ⟨rfl,rfl⟩ ?_⟩;refine⟨by rw[oz,if_neg m,if_neg q1],⟨_,rfl,rfl,rfl⟩,y2⟩
      ·obtain⟨aL,a4,w⟩:=M2
       simp only[fH,RN,F,H,I,J,N,S];refine⟨by kernel_rfl,EC ?_⟩;have r:w[j.length]?=some (some ⟨1,u.map ay,ver,sn⟩):=by
        have:=q5 j.length y5;simp only at this;rw[this];exact y3
       have L:j.length<w.length:=(U.1 r).1;simp only[r,iC,DV.strip,lI,fits_int,forall_eq,y4,Z,RN,F,H,I,J,N,S];obtain⟨q6,q7⟩:=q2.other (k:=j.length) (A:=⟨1,(u++ [f.b]).map ay,ver+1,sn⟩) (by omega) (by rw[q4];exact y5) y7;have bA:u.length<=1073741823:=by have:=O.2;simp at this;omega
       have bu:u.map ay++ [dI f.b]=(u++ [f.b]).map ay:=by simp[ay]
       rw[bu];refine⟨by simp,bA,s1.erase c.pr.b,u++ [f.b], .tsl kk kv 0,ver+1,sn,_,_,by rw[oz,if_neg m,if_pos q1],rfl,rfl,rfl,rfl,q6,(y2.trans q3).trans q7,by simp[L],y4,by rw[q4];exact y5,by simp;exact L,y7, .inr ⟨kk,kv,rfl,?_⟩⟩;simp only;rw[am (fun e=>y5 (by rw[<-q4,e];rfl))];exact q8
   |panic d=>
    obtain⟨h1,h2,h3⟩:=he;(try simp only[RN,F,H,I,J,N,S]);refine⟨?_,h2,h3⟩;simp only[doS,<-z,h1]
    split<;>rfl
   |ret=>exact he.elim
   |exit id=>exact he.elim
  ·by_cases m:f.a=c.pr.a
   ·have x:(f.a !=c.pr.a)=false:=by simp[m]
    simp only[x,RN,F,H,I,J,N,S];refine⟨t.eH,[],cst,0,0,_,[_],by rw[oz,if_pos m],rfl,x3,x5,by simp,by decide,fun e=>W _ e rfl,by simp,fun e=>apq _ e rfl, .inl rfl⟩
   ·have x:(f.a !=c.pr.a)=true:=by simp[m]
    simp only[x,RN,F,H,I,J,N,S];refine Ve (SC.mono (afL aw x3 c.pr.a (by have:=ht.st;omega)) ?_);rintro p M2 (⟨q1,rfl,rfl⟩|⟨q1,rfl,sH,q2,q3,q4,⟨kk,kv,rfl,q8⟩,q5⟩)
    ·simp only[fH,RN,F,H,I,J,N,S]
     refine⟨by kernel_rfl,xE ⟨rfl,rfl⟩ ?_⟩;refine⟨by rw[oz,if_neg m,if_neg q1],⟨_,rfl,rfl,rfl⟩,x5⟩
    ·obtain⟨aL,a4,w⟩:=M2
     simp only[fH,RN,F,H,I,J,N,S];refine⟨by kernel_rfl,EC ?_⟩;have r:w[j.length]?=some (some ⟨1,[],0,0⟩):=by
      have:=q5 j.length (fun e=>W _ e rfl);simp only at this;rw[this];simp
     simp only[r,iC,DV.strip,lI,fits_int,forall_eq,RN,F,H,I,J,N,S];have L:j.length<w.length:=(U.1 r).1;obtain⟨q6,q7⟩:=q2.other (k:=j.length) (A:=⟨1,[dI f.a],1,0⟩) (by omega) (fun e=>W _ (q4▸e) rfl) (fun e=>apq _ e rfl);refine⟨by simp,t.eH.erase c.pr.a,[f.a], .tsl kk kv 0,1,0,_,[],by rw[oz,if_neg m,if_pos q1];rfl,rfl,q6,(x5.trans q3).trans q7,by simp[L,ay],by decide,fun e=>W _ (q4▸e) rfl,by simp;exact L,fun e=>apq _ e rfl, .inr ⟨kk,kv,rfl,by simp only;rw[am (fun e=>W _ (q4▸rfl) e.symm)];exact q8⟩⟩
def aro (s:Su)(t:Sp):De->Prop
 | .change c=>t.pc.FN c=true
 | .serve h c=>(0<=h/\h.toNat<t.pc.hands.length)/\0<=c/\c<=1000000000
 | .set d=>1<=d/\d.toNat<=s.days.length
 | _=>True
def Z8 (e:aik){s:Su}{a b mb:Nat}{cst cse:PV}{t:Sp}{M:Mem}(h:gy s a b mb cst cse t M)(g:XK s t)(x:De)(hx:aro s t x):
  SC C 113 [.ptr b 0, .d x.dv] M (fun p M'=>∃t' sH BG,doS s t x=some t'/\gy s a b mb sH BG t' M'/\FrS a b mb M M') (fun d M'=>doS s t x=none/\JA d/\FrS a b mb M M'):=by
 cases x with
 |cut n=>
  refine SC.mono (aoA h g n) fun p M' l=> ?_
  obtain⟨t',sH,h1,h2,i⟩:=l;exact⟨t',sH,cse,h1,h2,i⟩
 |change c=>exact WE e h g c hx
 |order n f=>exact ai2 h n f
 |serve n c=>
  obtain⟨⟨h1,h2⟩,i⟩:=hx;obtain⟨k,rfl⟩:=Int.eq_ofNat_of_zero_le h1;exact ai3 h g k (by simpa using h2) c i
 |set d=>
  obtain⟨h1,h2⟩:=hx;obtain⟨k,j⟩:∃k:Nat,d=((k+1:Nat):Int):=⟨(d - 1).toNat,by omega⟩
  subst j;exact aoB h g k (by omega)
 |strike n=>exact agI h n
end Go.Tel
namespace Go.Tel
open Go.Am
def Zz (p:Pc)(c:Chg)(k:p.ok=true)(l:inR c.link 0 (p.links.length - 1)=true)(hc:c.pr.ok=true)(n:c.pr=(p.links.getD c.link.toNat default).pr):Pure C 208 [p.dv,c.dv] (.d (.tup [.slice true [],dI 2])) []:=by
 have g:=Pc.good k;have i:0<=c.link/\c.link<=(p.links.length:Int) - 1:=by simpa[inR]using l
 have h:c.link.toNat<p.links.length:=by have:=g.l1;omega
 have q:=g.l2;have o:=g.h2;have j:=vP p (by omega) (by omega);have f:=Zk c.pr;have m:cA .i64 ((p.links.length:Int) - 1)=(p.links.length:Int) - 1:=aF (by omega);have e:((c.pr.a==(p.links.getD c.link.toNat default).pr.a)&&(c.pr.b==(p.links.getD c.link.toNat default).pr.b))=true:=by rw[afv];simpa using n
 refine ah mixed rfl Uf ?_;simp only[dZ,sW,jJ]at j f⊢;simp only[GN,dY,RN,F,H,I,J,N,S];refine ak rfl rfl j ?_;simp only[k,Z,m,RN,F,H,I,J,N,S];refine ak rfl rfl (Hl _ _ _) ?_;simp only[l,RN,F,H,I,J,N,S];refine ak rfl rfl f ?_;simp only[hc,i.1,h,getD_map,nI,Z,SH,e,ae6,RN,F,H,I,J,N,S]
end Go.Tel
namespace Go.Tel
open Go.Am
def yR (n:Int):DV:= .tup [.slice true [],dI n]
def afp {w w':World}{O O':Nat->Prop}{v:Value}{n:Int}(h:bP w O v (yR n)):bP w' O' v (yR n):=by
 unfold yR at*;cases h with|tup h=>
 generalize a:Array.toList _=vs at h;cases h with|cons h1 h2=>
 cases h2 with|cons d e=>
 cases e;cases d;refine .tup ?_;rw[a];refine .cons ?_ (.cons (.int _ _) .nil);cases h1 with
 |empty b=>exact .empty b
 |slice f i c j g b hh=>
  simp only[az]at c;subst c;exact .empty b
variable{f:FuncId}{args:List PV}{M:Mem}{ds ds':List DV}{K:PV->Mem->Prop}{KP:DV->Mem->Prop}
def apV {n:Int}(h:Pure C f ds' (.d (yR n)) [])(k:dF M args=some ds)(l:ds.map DV.strip=ds')(p:K (.d (yR n)) M):SC C f args M K KP:=by
 subst l;intro X w E c a o;have i:=ng a args;have hd:=(vI a o k (fun q r=>r)).strip;refine(h (away X (M.frz args) E) w c a.glob (fun b j=> .inl (a.iK b j)) (fun b j=>i.yj j) hd).mono fun e z l=> ?_
 obtain⟨v,x,rfl,g,m,s⟩:=l;obtain⟨t,u,y⟩:=Hg a (Il a g m rfl) m (by simp);exact⟨_,_,_,(by simpa using p),t,u, .d (afp s.toD)⟩
def af7 {base:Nat}{n:Int}(h:Pure C f ds' (.d (yR n)) [])(a:dF M args=some ds)(c:ds.map DV.strip=ds')(b:K (.d (yR n)) M):au C base (.KU f) args M K KP:=
 ⟨_,_,apV h a c ⟨rfl,rfl⟩,b⟩
def al0 {s:Su}{a b mb:Nat}{cst cse:PV}{t:Sp}(h:gy s a b mb cst cse t M)(D:XK s t)(c:Chg)(B:inR c.link 0 (t.pc.links.length - 1)=true)(hc:c.pr.ok=true)(z:c.pr=(t.pc.links.getD c.link.toNat default).pr):
  SC C 113 [.ptr b 0, .d (De.change c).dv] M (fun p M'=>∃t' sH BG,doS s t (.change c)=some t'/\gy s a b mb sH BG t' M'/\FrS a b mb M M') (fun d M'=>doS s t (.change c)=none/\JA d/\FrS a b mb M M'):=by
 have x:t.pc.FN c=false:=by simp[Pc.FN,z]
 obtain⟨bs,fz,ar⟩:=M;have f:=h.box;rw[iG]at f;have j:=h.r0;have l:=h.r1;simp only at f j l;have u:b<bs.length:=(U.1 f).1;have g:=(De.one (.change c)).1;have i:=(De.one (.change c)).2;have E:(De.change c).dv= .iface T.bT (.agg [dI c.link,dI c.pr.a,dI c.pr.b]):=rfl;rw[E]at g i⊢;have v:bs.length∉fz:=fun e=>ap _ (h.fzb _ e)
 have w:∀k,bs.length+k∉fz:=fun k e=>by have:=h.fzb _ e;simp only at this;omega
 have o:¬b=bs.length:=by omega
 have q:∀k,¬b=bs.length+k:=fun k=>by omega
 have r:∀k,b<bs.length+k:=fun k=>by omega
 have y:¬bs.length+1=bs.length:=by omega
 have A:(T.bT==T.fK)=false:=by decide
 have m:=Zz t.pc c D.pc B hc z;rw[dZ,sW]at m;refine aG mixed rfl eU ?_;simp only[dO,jq,g,i,mF,fU A,u,f,bD,bQ,aQ,bV,dh,aV,Y,V,ai,ab,v,w,o,q,r,y,bI,av,eP,RN,F,H,I,J,N,S];refine af7 (n:=2) m (sU (d:= .agg [sF (t.pc.links.map Lk.dv),sF (t.pc.hands.map ay)]) (by simp[datum,cu,fA,Mem.row,j,l])) rfl ?_;have G:((2:Int)==0)=false:=rfl;simp only[yR,G,fH,RN,F,H,I,J,N,S];refine⟨by kernel_rfl,xE ⟨rfl,rfl⟩ ⟨by simp[doS,x],⟨_,rfl,rfl,rfl⟩,?_⟩⟩;exact(h.ext (xf:=[bs.length+1,bs.length]) (by simp)).2
def kK (s:Su)(t:Sp):De->Prop
 | .change c=>inR c.link 0 (t.pc.links.length - 1)=true/\c.pr.ok=true
 | .serve h c=>(0<=h/\h.toNat<t.pc.hands.length)/\0<=c/\c<=1000000000
 | .set d=>1<=d/\d.toNat<=s.days.length
 | _=>True
def ai1 (e:aik){s:Su}{a b mb:Nat}{cst cse:PV}{t:Sp}{M:Mem}(h:gy s a b mb cst cse t M)(g:XK s t)(x:De)(hx:kK s t x):
  SC C 113 [.ptr b 0, .d x.dv] M (fun p M'=>∃t' sH BG,doS s t x=some t'/\gy s a b mb sH BG t' M'/\FrS a b mb M M') (fun d M'=>doS s t x=none/\JA d/\FrS a b mb M M'):=by
 cases x with
 |change c=>
  obtain⟨h1,h2⟩:=hx
  by_cases i:c.pr=(t.pc.links.getD c.link.toNat default).pr
  ·exact al0 h g c h1 h2 i
  ·refine WE e h g c ?_
   simp only[Pc.FN,g.pc,h1,h2,decide_eq_false i,bk,Bool.not_false]
 |cut n=>exact Z8 e h g _ trivial
 |order n f=>exact Z8 e h g _ trivial
 |serve n c=>exact Z8 e h g _ hx
 |set d=>exact Z8 e h g _ hx
 |strike n=>exact Z8 e h g _ trivial
end Go.Tel
namespace Go.Tel
open Go.Am
variable{l:List DV}
def ZQ:PV.cells (.d (.aW l))=[.d (.aW l)]:=rfl
def akf:DV.one (.aW l)=true:=rfl
def iV (s:Su)(ce cs:PV):List PV:=[.d (.aW s.cs), .d (sF (s.days.map Ac)),ce,cs]
def ae0 (s:Su)(hs:s.Small)(bs:List (Option (List PV)))(fz:List Nat)(ar:List (Option Arr))(KP:DV->Mem->Prop)(a:∀i∈fz,i<bs.length):
  SC C 36 [.d s.dv] ⟨bs,fz,ar⟩ (fun p M'=>(s.ok=false/\p= .d (.tup [.nilPtr,dI 2]))\/(s.ok=true/\p= .tup [.ptr (bs.length+2) 0,pI 0]/\∃x1 x2,M'=⟨bs++ [x1,x2,some (iV s (.d (.slice true [])) (.d (.slice true [])))],(bs.length+1)::bs.length::fz,ar⟩)) KP:=by
 have j:=ag6 s hs;rw[gU]at j;refine aG mixed rfl J4 ?_;simp only[yZ,Zb,gU,bD,bQ,aQ,bV,dh,aV,Y,V,ai,ab,RN,F,H,I,J,N,S];refine ak rfl rfl j ?_;cases b:s.ok
 ·(try simp only[RN,F,H,I,J,N,S])
  exact .inl trivial
 ·(try simp only[RN,F,H,I,J,N,S])
  have h:=aiS s (Su.RH b);have l:=ap6 s b;rw[gU]at h l;refine ak rfl rfl h ?_;simp only[bD,bQ,aQ,bV,dh,aV,Y,V,ai,ab,RN,F,H,I,J,N,S];have c:bs.length∉fz:=fun e=>ap _ (a _ e)
  have f:∀k,bs.length+k∉fz:=fun k e=>by have:=a _ e;omega
  have g:¬bs.length+1=bs.length:=by omega
  simp only[c,f,g,bD,bQ,aQ,bV,dh,aV,Y,V,ai,ab,RN,F,H,I,J,N,S];refine ak rfl rfl l ?_;simp only[bD,bQ,aQ,bV,dh,aV,Y,V,ai,ab,ZQ,akf,lU,av,dR,RN,F,H,I,J,N,S];exact .inr ⟨_,_,by rw[iV,uS]⟩
def abv {ls ms:List Lk}(h:∀i,(ls.getD i default).fr=(ms.getD i default).fr):∀(k a:Nat),uV ls k a=uV ms k a
 |0,_=>rfl
 | _+1,0=>rfl
 |k+1,a+1=>by simp only[uV,h a];rw[abv h k]
def amn {ls ms:List Lk}(h:ls.map (·.fr)=ms.map (·.fr))(i:Nat):(ls.getD i default).fr=(ms.getD i default).fr:=by
 have h1:=congrArg (fun l=>l[i]?) h;simp only[a8]at h1;simp only[br];cases h2:ls[i]?<;>cases a:ms[i]?<;>simp_all
def TJ:∀(ls b pre a:List Lk),ls.map (·.fr)=b.map (·.fr)->pre.map (·.fr)=a.map (·.fr)->(∀l∈b,l.pr.ok=true)->jS pre ls=true->jS a b=true
 | [],[],_,_,_,_,_,_=>rfl
 | [],_::_,_,_,h,_,_,_=>by simp at h
 | _::_,[],_,_,h,_,_,_=>by simp at h
 |l::ls,j::b,pre,a,h,f,d,g=>by
  simp only[a7,List.cons.injEq]at h;obtain⟨h1,h2⟩:=h;have c:pre.length=a.length:=by simpa using congrArg b8 f
  simp only[jS,ao,mP]at g⊢;obtain⟨⟨⟨k,_⟩,m⟩,n⟩:=g;refine⟨⟨⟨?_,d j bv⟩,?_⟩,TJ ls b _ _ h2 (by simp[f,h1]) (fun x i=>d x (bd _ i)) n⟩
  ·rw[<-h1,<-c];exact k
  ·have e:fO a l.fr.toNat=fO pre l.fr.toNat:=(abv (amn f) _ _).symm
   rw[<-h1]
   simpa only[e]using m
def Dl {p:Pc}{c:Chg}(h:p.ok=true)(hc:c.pr.ok=true):(p.changed c).ok=true:=by
 have e:=Pc.good h;have f:(p.changed c).links.length=p.links.length:=by simp[Pc.changed]
 have a:=h;simp only[Pc.ok,ao]at a⊢;obtain⟨⟨⟨g,j⟩,k⟩,l⟩:=a;rw[f];refine⟨⟨⟨g,j⟩,TJ p.links _ [] [] ?_ rfl (Dj e hc).2.2 k⟩,l⟩;apply cb;intro i;simp only[Pc.changed,a8,List.getElem?_set]
 by_cases b:c.link.toNat=i
 ·subst b
  by_cases d:c.link.toNat<p.links.length
  ·simp[d,br]
  ·simp[bX (Nat.le_of_not_lt d)];omega
 ·simp[b]
structure zK (s:Su) (n:Nat) (t:Sp):Prop where
 ok:s.ok=true
 pc:t.pc.ok=true
 ll:t.pc.links.length=s.pc.links.length
 hh:t.pc.hands=s.pc.hands
 tl:t.tg.length=s.pc.hands.length
 st:t.eH.length<=n
 se:t.sets.length<=n
 co:0<=t.kE/\t.kE<=(n:Int)*1000000000
 sv:∀d∈t.sets,1<=d/\d<=366
def yJ (s:Su):s.days.length<=366:=by
 have:=mY (s.cal.leap s.year);simp only[Su.days,Su.pJ,Z,cg,Su.dur]
 split at this<;>omega
variable{s:Su}
def zK.sp {n:Nat}{t:Sp}(h:zK s n t)(a:n<=1000):XK s t:=⟨h.ok,h.pc,by rw[h.tl,h.hh],by have:=h.st;omega,by have:=h.se;omega,by have:=h.co;omega⟩
def kK.same {n:Nat}{t t':Sp}(h:t.pc.links.length=t'.pc.links.length)(hh:t.pc.hands=t'.pc.hands){x:De}(hx:kK s t x):kK s t' x:=by
 cases x<;>simp only[kK,h,hh]at hx⊢<;>exact hx
def XE {eH c f e:List Int}{a b:Int}(h:oz eH c a b=some (f,e)):f.length+e.length=eH.length+c.length:=by
 unfold oz at h
 split at h
 ·cases h;rfl
 ·split at h
  ·rename_i d
   cases h;have:=List.length_erase_of_mem d;have g:=List.length_pos_of_mem d;simp;omega
  ·cases h
def ai0 {n:Nat}{t t':Sp}(h:zK s n t){x:De}(hx:kK s t x)(hd:doS s t x=some t'):zK s (n+1) t':=by
 have y:=h.co;have p:=h.st;have l:=h.se;cases x with
 |cut m=>
  simp only[doS]at hd
  split at hd
  ·cases hd;exact⟨h.ok,h.pc,h.ll,h.hh,h.tl,by simp;omega,by simp only;omega,by simp only;omega,h.sv⟩
  ·cases hd
 |change c=>
  obtain⟨h1,h2⟩:=hx;simp only[doS]at hd
  split at hd
  ·generalize a:oz t.eH [] _ _=g at hd
   cases g with
   |none=>cases hd
   |some g=>
    obtain⟨u,q⟩:=g;simp only at hd;generalize b:oz u q _ _=i at hd;cases i with
    |none=>cases hd
    |some i=>
     obtain⟨v,r⟩:=i;simp only at hd;cases hd;have j:=XE a;have k:=XE b;have w:v.length+r.length=t.eH.length:=by simpa[j]using k
     exact⟨h.ok,Dl h.pc h2,by simp[Pc.changed,h.ll],h.hh,h.tl,by simp;omega,by simp only;omega,by simp only;omega,h.sv⟩
  ·cases hd
 |order m f=>
  simp only[doS]at hd
  split at hd
  ·cases hd
  ·cases hd;exact⟨h.ok,h.pc,h.ll,h.hh,h.tl,by simp only;omega,by simp only;omega,by simp only;omega,h.sv⟩
 |serve m c=>
  obtain⟨_,h2⟩:=hx;simp only[doS]at hd;generalize fZ t.op m=o at hd;cases o with
  |none=>cases hd
  |some f=>
   simp only at hd
   split at hd
   ·cases hd;exact⟨h.ok,h.pc,h.ll,h.hh,by simp[h.tl],by simp only;omega,by simp only;omega,by simp only;omega,h.sv⟩
   ·cases hd
 |set d=>
  simp only[doS]at hd
  split at hd
  ·cases hd;exact⟨h.ok,h.pc,h.ll,h.hh,h.tl,by simp only;omega,by simp;omega,by simp only;omega,fun x hm=>by
    rcases aD.1 hm with hm|hm
    ·exact h.sv x hm
    ·simp only[bw]at hm
     obtain⟨h1,h2⟩:=hx;have:=yJ s;rw[hm];omega⟩
  ·cases hd
 |strike e=>
  simp only[doS]at hd;cases hd;exact⟨h.ok,h.pc,h.ll,h.hh,h.tl,by omega,by omega,by omega,h.sv⟩
structure Dk where
 su:Su
 es:List En
 st:List Bool
 deriving DecidableEq,Inhabited
def kJ:List En->List Bool->Nat->List (Nat×De)
 |x::xs,b::bs,i=>if x.kind≠6/\b=false then(i,x.deed)::kJ xs bs (i+1)else kJ xs bs (i+1)
 | _,_,_=>[]
def Dk.stands (d:Dk):List (Nat×De):=kJ d.es d.st 0
def Su.sp0 (s:Su):Sp:=⟨s.pc,s.tg,[],[],0,[]⟩
def pX (s:Su):List De->Sp->Option Sp
 | [],t=>some t
 |x::l,t=>(doS s t x).bind (pX s l)
def Dk.without (d:Dk)(w:Int):List De:=(d.stands.filter fun p=>decide ((p.1:Int)≠w)).map (·.2)
def Dk.state (d:Dk)(w:Int):Option Sp:=pX d.su (d.without w) d.su.sp0
def En.formed (x:En):Bool:=inR x.kind 1 6&&decide (x.ns.length=jc x.kind)&&x.ns.all fun n=>inR n 0 9999
def Dk.gB (d:Dk):De->Bool
 | .cut n=>aT n
 | .change c=>inR c.link 0 (d.su.pc.links.length - 1)&&c.pr.ok
 | .order h f=>inR h 0 (d.su.pc.hands.length - 1)&&f.ok
 | .serve h _=>inR h 0 (d.su.pc.hands.length - 1)
 | .set n=>inR n 1 d.su.days.length
 | .strike e=>inR e 0 (d.es.length - 1)&&decide ((d.es.getD e.toNat default).kind≠6)
structure Dk.Ok (d:Dk):Prop where
 su:d.su.ok=true
 len:d.es.length=d.st.length
 few:d.es.length<=24
 formed:∀x∈d.es,x.formed=true
 fine:∀x∈d.es,kK d.su d.su.sp0 x.deed
variable{d:Dk}
def Yb {x:En}(hx:x.formed=true)(hf:d.gB x.deed=true):kK d.su d.su.sp0 x.deed:=by
 simp only[En.formed,ao,decide_eq_true_eq,bA]at hx;obtain⟨⟨h1,h2⟩,g⟩:=hx;have k:∀i,i<x.ns.length->0<=x.n i/\x.n i<=9999:=fun i j=>by
  have:=g _ (getD_mem j)
  simpa[inR,En.n]using this
 unfold En.deed at hf⊢
 split
 ·trivial
 ·split
  ·rename_i a b
   rw[if_neg a,if_pos b]at hf
   simpa[Dk.gB,kK,Su.sp0]using hf
  ·split
   ·trivial
   ·split
    ·rename_i a b f c
     rw[if_neg a,if_neg b,if_neg f,if_pos c]at hf;have e:x.ns.length=2:=by rw[h2,jc,c];rfl
     have l:=k 1 (by omega);simp only[Dk.gB,inR,ao,decide_eq_true_eq]at hf;refine⟨⟨by omega,by simp only[Su.sp0];omega⟩,by omega,by omega⟩
    ·split
     ·rename_i a b f c h
      rw[if_neg a,if_neg b,if_neg f,if_neg c,if_pos h]at hf;simp only[Dk.gB,inR,ao,decide_eq_true_eq]at hf;exact⟨by omega,by omega⟩
     ·trivial
def xk:∀(es:List En) (st:List Bool) (i:Nat) (p:Nat×De),p∈kJ es st i->∃x∈es,p.2=x.deed
 | [],_,_,_,h=>by simp[kJ]at h
 | _::_,[],_,_,h=>by simp[kJ]at h
 |x::xs,b::bs,i,p,h=>by
  simp only[kJ]at h
  split at h
  ·rcases bo.1 h with h|h
   ·exact⟨x,bv,by rw[h]⟩
   ·obtain⟨y,a,e⟩:=xk xs bs _ p h
    exact⟨y,bd _ a,e⟩
  ·obtain⟨y,a,e⟩:=xk xs bs _ p h
   exact⟨y,bd _ a,e⟩
def Az:∀(es:List En) (st:List Bool) (i:Nat),(kJ es st i).length<=es.length
 | [],_,_=>by simp[kJ]
 | _::_,[],_=>by simp[kJ]
 |x::xs,b::bs,i=>by
  have:=Az xs bs (i+1);simp only[kJ]
  split<;>simp<;>omega
def aeL (h:s.ok=true):zK s 0 s.sp0:=by
 obtain⟨h1,h2,_⟩:=Su.facts h;exact⟨h,h1,rfl,rfl,h2,by simp[Su.sp0],by simp[Su.sp0],by simp[Su.sp0],by simp[Su.sp0]⟩
def SE {s:Su}:∀(l:List De) (n:Nat) (t t':Sp),zK s n t->(∀x∈l,kK s s.sp0 x)->pX s l t=some t'->zK s (n+l.length) t'
 | [],n,t,t',h,_,hd=>by cases hd;exact h
 |x::l,n,t,t',h,a,hd=>by
  simp only[pX]at hd;cases h1:doS s t x with
  |none=>rw[h1]at hd;cases hd
  |some t1=>
   rw[h1]at hd;have:=SE l (n+1) t1 t' (ai0 h (kK.same (n:=n) h.ll.symm h.hh.symm (a x bv)) h1) (fun y b=>a y (bd _ b)) hd
   simpa[ai,Nat.add_comm 1]using this
def Dk.Ok.Zr (h:d.Ok)(w:Int):∀x∈d.without w,kK d.su d.su.sp0 x:=by
 intro x a;simp only[Dk.without,aM,cj]at a;obtain⟨p,⟨b,_⟩,rfl⟩:=a;obtain⟨y,c,e⟩:=xk _ _ _ _ b;rw[e];exact h.fine y c
def Dk.acw (d:Dk)(w:Int):(d.without w).length<=d.es.length:=by
 simp only[Dk.without,Z];exact aq (b0 _ _) (Az _ _ _)
def Dk.Ok.Vp (h:d.Ok){w:Int}{t:Sp}(a:d.state w=some t):zK d.su 24 t:=by
 have h1:=SE _ 0 _ t (aeL h.su) (h.Zr w) a;have h2:=d.acw w;have b:=h.few;have c:=h1.co;exact⟨h1.ok,h1.pc,h1.ll,h1.hh,h1.tl,by have:=h1.st;omega,by have:=h1.se;omega,by omega,h1.sv⟩
end Go.Tel
namespace Go.Tel
open Go.Am
def slN (sz:Nat)(W:Bool)(c:PV)(xs:List DV)(ar:List (Option Arr)):Prop:=
 (c= .d (.slice true [])/\xs=[])\/∃k ver st,c= .tsl k ver 0/\ar[k]?=some (some ⟨sz,xs,ver,st⟩)/\st≠2/\(W=true->st=1\/xs=[])
variable{sz:Nat}{W:Bool}{c:PV}{xs:List DV}{bs:List (Option (List PV))}{fz:List Nat}{ar:List (Option Arr)}
def Zj {K:Int->Prop}(h:slN sz W c xs ar):rE c ⟨bs,fz,ar⟩ K=K xs.length:=by
 rcases h with⟨rfl,rfl⟩|⟨k,ver,st,rfl,a,_⟩
 ·rfl
 ·simp[rE,Mem.row,a]
def afH (h:slN sz W c xs ar):PV.one c=true/\PV.cells c=[c]/\c.qZ=false:=by
 rcases h with⟨rfl,rfl⟩|⟨k,ver,st,rfl,_⟩<;>exact⟨rfl,rfl,rfl⟩
def zF {ar':List (Option Arr)}(h:slN sz W c xs ar)(hk:∀k A,kOf c=some k->ar[k]?=some (some A)->ar'[k]?=some (some A)):slN sz W c xs ar':=by
 rcases h with⟨rfl,rfl⟩|⟨k,ver,st,rfl,h1,h2⟩
 ·exact .inl ⟨rfl,rfl⟩
 ·exact .inr ⟨k,ver,st,rfl,hk _ _ rfl h1,h2⟩
def Io (h:slN sz W c xs ar)(hx:xs≠[]):∃k ver st,c= .tsl k ver 0/\ar[k]?=some (some ⟨sz,xs,ver,st⟩)/\st≠2/\(W=true->st=1):=by
 rcases h with⟨_,rfl⟩|⟨k,ver,st,rfl,h,h2,a⟩
 ·exact absurd rfl hx
 ·exact⟨k,ver,st,rfl,h,h2,fun b=>(a b).resolve_right hx⟩
structure DkRd (D:Dk) (d:Nat) (ce cs:PV) (M:Mem):Prop where
 box:M.boxes[d]?=some (some (iV D.su ce cs))
 ent:slN 2 false ce (D.es.map En.dv) M.aB
 str:slN 1 true cs (D.st.map .bool) M.aB
structure oC (D:Dk) (d:Nat) (ce cs:PV) (M:Mem):Prop extends DkRd D d ce cs M where
 dif:∀k,kOf ce=some k->kOf cs≠some k
 nb:d∉M.fz
 fzb:FzB M
def oN (p:Nat×De):List DV:=[dI p.1,p.2.dv]
def ab7 (ce cs:PV)(k:Nat):Prop:=kOf ce=some k\/kOf cs=some k
variable{D:Dk}{M M':Mem}
def DkRd.kept {d n:Nat}{ce cs:PV}(h:DkRd D d ce cs M)(hk:Kept n (·=d) (ab7 ce cs) M M'):DkRd D d ce cs M':=
 ⟨(hk.box d (.inr rfl) (U.1 h.box).1).trans h.box,zF h.ent fun k A h1 h2=>(hk.row k (.inl h1)).trans h2,zF h.str fun k A h1 h2=>(hk.row k (.inr h1)).trans h2⟩
variable{d:Nat}
def DkRd.ext {ce cs:PV}{xs:List (Option (List PV))}{a:List Nat}(h:DkRd D d ce cs ⟨bs,fz,ar⟩):DkRd D d ce cs ⟨bs++xs,a,ar⟩:=
 ⟨by have:=h.box;simp only at this⊢;rw[ae (U.1 this).1];exact this,h.ent,h.str⟩
def DkRd.moved {d n:Nat}{ce cs:PV}(h:DkRd D d ce cs M)(hd:d<n)(a:Moved n (fun _=>False) M M'):DkRd D d ce cs M':=
 ⟨(a.box d hd id).trans h.box,by rw[a.aB];exact h.ent,by rw[a.aB];exact h.str⟩
def dD (D:Dk)(i:Nat):List (List DV):=(kJ (D.es.drop i) (D.st.drop i) i).map oN
def Ho (hl:D.es.length=D.st.length){i:Nat}(hi:i<D.es.length):
  dD D i=if(D.es.getD i default).kind≠6/\D.st.getD i default=false then oN (i,(D.es.getD i default).deed)::dD D (i+1)else dD D (i+1):=by
 rw[dD,drop_cons hi,drop_cons (by omega:i<D.st.length),kJ]
 split<;>rfl
def kF {b:Bool}:DV.cells (.bool b)=[.bool b]:=rfl
def ab8 {ce cs:PV}(hl:D.es.length=D.st.length)(aq:D.es.length<=1000)(hf:∀x∈D.es,jc x.kind<=x.ns.length):
  Wp C 163 [.ptr d 0] [] (dD D 0) (·=d) no (ab7 ce cs) (DkRd D d ce cs):=by
 rintro⟨bs,fz,ar⟩ b n R stop K KP av aw hn O E ae lK h0 G M;simp only at hn O;have l:=E.box;rw[iV]at l;simp only at l;have X:d<bs.length:=(U.1 l).1;refine aG mixed rfl oQ ?_;simp only[ku,jq,l,X,RN,F,H,I,J,N,S];rw[Zj E.ent];simp only[Z,RN,F,H,I,J,N,S];refine zu (fun m s=>∃(i:Nat) (g:List (List DV)) (L:Mem),m=D.es.length - i/\i<=D.es.length/\s=⟨[(0, .ptr d 0),(1, .oP b),(9,ce),(10,pI D.es.length),(11,pI i)],L⟩/\n<=L.boxes.length/\FzB L/\DkRd D d ce cs L/\dD D 0=g++dD D i/\R g L)
  D.es.length ⟨0,[],_,rfl,ax _,rfl,hn,O,E,rfl,h0⟩ ?_
 rintro m s ⟨i,g,⟨c,r,y⟩,rfl,hi,rfl,t,v,o,f,hR⟩;simp only at t;have uT:=o.box;rw[iV]at uT;simp only at uT;have apd:d<c.length:=(U.1 uT).1;have ai:c.length∉r:=fun e=>ap _ (v _ e)
 by_cases h:i<D.es.length
 case neg=>
  have ab:i=D.es.length:=by omega
  subst ab;simp only[bl,RN,F,H,I,J,N,S];refine M _ _ t ?_;rw[f];have:dD D D.es.length=[]:=by simp[dD,kJ]
  rw[this,bR];exact hR
 obtain⟨k,ver,st,rfl,hk,_⟩:=Io o.ent (by intro e;simp at e;rw[e]at h;simp at h);obtain⟨k2,aeV,aD,rfl,A,_⟩:=Io o.str (by intro e;simp at e;rw[e]at hl;simp at hl;rw[hl]at h;simp at h);simp only at hk A;have P:(i:Int)<(D.es.length:Int):=by omega
 have w:i<D.st.length:=by omega
 have j0:(0:Int)<=(i:Int):=by omega
 have w1:cA .i64 ((i:Int)+1)=((i+1:Nat):Int):=by rw[aF (by omega)];omega
 have a:=Ho hl h;obtain⟨x,hx⟩:∃x,x=D.es.getD i default:=⟨_,rfl⟩
 have ao:x∈D.es:=by rw[hx];exact getD_mem h
 have aaq:=SB x (hf x ao);rw[<-hx]at a;rw[dM]at aaq;have z:R g ⟨c++ [some [pI x.kind, .d (sF (x.ns.map ay))]],c.length::r,y⟩:=
  ae g _ _ (Moved.ext (xf:=[c.length]) (xb:=[_]) t (by simpa using t)) hR
 have q:DkRd D d (.tsl k ver 0) (.tsl k2 aeV 0) ⟨c++ [some [pI x.kind, .d (sF (x.ns.map ay))]],c.length::r,y⟩:=o.ext;have adA:FzB ⟨c++ [some [pI x.kind, .d (sF (x.ns.map ay))]],c.length::r,y⟩:=by
  intro j hj;simp only[bo]at hj;simp only[V,aL,az]
  rcases hj with rfl|hj
  ·omega
  ·have:=v j hj;simp only at this;omega
 simp only[P,h,j0,hk,an,Z,getD_map,<-hx,dM,uT,apd,ai,bD,aQ,aV,V,RN,F,H,I,J,N,S]
 by_cases T:x.kind=6
 ·have Q:(x.kind !=6)=false:=by simp[T]
  rw[if_neg (by simp[T])]at a;simp only[Q,w1,RN,F,H,I,J,N,S];refine⟨D.es.length - (i+1),_,by omega, .inl rfl,i+1,g,_,rfl,by omega,rfl,by simp;omega,adA,q,by rw[f,a],z⟩
 have Q:(x.kind !=6)=true:=by simp[T]
 cases u:D.st.getD i default
 case true=>
  rw[if_neg (fun e=>by rw[u]at e;cases e.2)]at a;simp only[Q,uT,apd,bD,A,w,j0,an,Z,getD_map,kF,u,w1,RN,F,H,I,J,N,S];refine⟨D.es.length - (i+1),_,by omega, .inl rfl,i+1,g,_,rfl,by omega,rfl,by simp;omega,adA,q,by rw[f,a],z⟩
 rw[if_pos ⟨T,u⟩]at a;simp only[Q,uT,apd,bD,A,w,j0,an,Z,getD_map,kF,u,RN,F,H,I,J,N,S];refine ak rfl rfl aaq ?_;(try simp only[RN,F,H,I,J,N,S]);refine BI ?_;refine SY.mono (lK g (oN (i,x.deed)) (dD D (i+1)) _ (by rw[f,a]) (by simp;omega) z) ?_;rintro p M3 ⟨B,hp⟩
 rcases hp with⟨rfl,W⟩|⟨rfl,am⟩
 ·simp only[w1,RN,F,H,I,J,N,S]
  have ac:=B.len;simp only[V,aL,az]at ac;refine⟨D.es.length - (i+1),_,by omega, .inl rfl,i+1,_,M3,rfl,by omega,rfl,by omega,B.fzb adA,q.kept B,by rw[f,a,Y];rfl,W⟩
 ·(try simp only[RN,F,H,I,J,N,S])
  exact G _ _ am
end Go.Tel
namespace Go.Proofs
open Go.Shelf Go.RowKit Go.Lib Go.Sort
section
variable {P:Program}{ρ:Ren}
set_option maxRecDepth 1000000 in
def aoy (L:Lays2.n23 P ρ)(blk off cap i:Nat)(d:Array Int)(w:World)(n:Holds (Value.int .i64) w blk off d)(B:d.size<=cap)(hi:i<d.size):
  Calls P (ρ.f 23) #[.slice (some ⟨blk,off,none⟩) d.size cap, .int .i64 i, .int .i64 (i+1:Nat)] w fun e w'=>
   e= .returned (.slice (some ⟨blk,off,none⟩) (d.size - 1) cap)/\∃q,w'=putRow (Value.int .i64) (Sort.ahead w q) blk off (d.toList.take i++d.toList.drop (i+1)++ [0]).toArray:=by
 have mixed:=L.mixed;have t0:=L.t0;have Z:=L.a0;have z0:=L.z0;have v0:=L.v0;have t3:=L.t3;have a3:=L.a3;have z3:=L.z3;have W:=L.v3;have t4:=L.t4;have a4:=L.a4;have z4:=L.z4;have v4:=L.v4;have r:=L.t22;have D:=L.a22;have Y:=L.z22;have V:=L.v22;obtain⟨Q,s,N,y,O⟩:=info_parts L.i3;obtain⟨tl,c⟩:∃tl,tl=(d.toList.drop (i+1)).map (Value.int .i64):=⟨_,rfl⟩
 have b:tl.length=d.size - (i+1):=by rw[c];simp
 have C:∀t,t<d.size - (i+1)->tl[t]?=some (Value.int .i64 d[i+1+t]!):=by
  intro t o;rw[c,a8,bu,bj,getElem!_pos d (i+1+t) (by omega),Array.getElem?_eq_getElem (by omega)]
  rfl
 have z:∃A:Addr,(if cap=i+1 then some (⟨blk,off,none⟩:Addr)else some ⟨blk,off+(i+1),none⟩)=some A/\Hid (∀t u,tl[t]?=some u->w.drew.cell? (A.add t)=some u):=by
  by_cases h:cap=i+1
  ·refine⟨⟨blk,off,none⟩,by simp[h],fun t u k=> ?_⟩
   have E:tl.length=0:=by rw[b];omega
   rw[List.length_eq_zero_iff.1 E]at k;simp at k
  ·refine⟨⟨blk,off+(i+1),none⟩,by simp[h],fun t u k=> ?_⟩
   have o:t<d.size - (i+1):=by
    have:=(U.1 k).1
    rwa [b]at this
   rw[C t o]at k;rw[Addr.add_lit,show off+(i+1)+t=off+(i+1+t) by omega];exact(n (i+1+t) (by omega)).1.trans k
 obtain⟨A,z,p⟩:=z;have R:Hid (tl.length=(d.size - (i+1))*1):=by rw[bz];exact b
 have S:Hid (∀u∈tl,u.oneCell'=true):=by
  intro u k;rw[c]at k;obtain⟨x,_,rfl⟩:=aM.1 k
  rfl
 have T:Hid (∀t,t<tl.length->(w.drew.cell? ⟨blk,off+i*1+t,none⟩).isSome=true/\w.drew.frozen? ⟨blk,off+i*1+t,none⟩=false):=by
  intro t o;rw[b]at o;rw[bz,ai];exact⟨by show(w.cell? _).isSome=true;rw[(n (i+t) (by omega)).1];rfl,(n (i+t) (by omega)).2⟩
 obtain⟨g,m⟩:∃g,g=w.drew.setCells blk (off+i*1) tl:=⟨_,rfl⟩
 have a:g=putRow (Value.int .i64) (Sort.ahead w 1) blk off (lay d i (d.toList.drop (i+1))):=by
  rw[m,c,bz,<-putRow_setCells (Value.int .i64) (Sort.ahead w 1) blk off _ d i (by simp;omega),putRow_self (Value.int .i64) (Sort.ahead w 1) blk off d (holds_ahead (Value.int .i64) w 1 blk off d n)]
  rfl
 have l:Holds (Value.int .i64) g blk off (lay d i (d.toList.drop (i+1))):=by rw[a];exact holds_putRow (Value.int .i64) _ blk off d _ (holds_ahead (Value.int .i64) w 1 blk off d n) (lay_size _ _ _)
 have G:∀ty,(Builtin.clear_ #[ρ.t 22] ty #[.slice (some ⟨blk,off+(i+(d.size - (i+1))),none⟩) (d.size - (i+(d.size - (i+1)))) (cap - (i+(d.size - (i+1))))]).run P g= .ok (.tuple #[]) (g.setCells blk (off+(i+(d.size - (i+1)))) (cl (d.size - (i+(d.size - (i+1)))) (Value.int .i64 0))):=
  fun ty=>Lib.run_clear_slice g _ _ ty _ r W rfl rfl blk (off+(i+(d.size - (i+1)))) _ _ (by omega) (fun t o=>by rw[show off+(i+(d.size - (i+1)))+t=off+(i+(d.size - (i+1))+t) by omega,(l _ (by rw[lay_size];omega)).1];rfl) (fun t o=>by rw[show off+(i+(d.size - (i+1)))+t=off+(i+(d.size - (i+1))+t) by omega];exact(l _ (by rw[lay_size];omega)).2)
 have X:Aside (g=putRow (Value.int .i64) (Sort.ahead w 1) blk off (lay d i (d.toList.drop (i+1)))):=a;have F:Hid (g=w.drew.setCells blk (off+i*1) tl):=m;have H:i<=cap:=by omega
 have J:i+1<=cap:=by omega
 have v:i<=i+1:=by omega
 have I:i+1<=d.size:=by omega
 generalize K:i+1=j at*;have M:i<j:=by omega
 clear m a l n C c b
 go_enter L.f23,Body2.n23_ntmps ρ
 go_wp2_with fail
 go_region_law_o (refine step_append_room rfl (.tmp 22) (.tmp 25) (ρ.t 22) rfl (ρ.t 3) Q 1 r s y blk off i cap (by simp[Act.eval,Act.put]) A (d.size - j) (cap - j) tl (by simp[Act.eval,Act.put]) R.out p.out S.out (by omega) T.out ?_;rw[<-F.out])
 go_wp2
 go_ret
 refine⟨by rw[show d.size - 1=i+(d.size - j) by omega];rfl,1,?_⟩;have hd:=delete_arr d i j 0 v I;rw[show j - i=1 by omega]at hd;rw[show([0]:List Int)=cl 1 0 from rfl,<-hd,<-putRow_setCells (Value.int .i64) _ blk off _ _ (i+(d.size - j)) (by rw[lay_size];simp;omega),<-X.out,List.map_replicate,show d.size - (i+(d.size - j))=1 by omega]
end
end Go.Proofs
namespace Go.Am
open Go.Sort Go.RowKit
section
variable {C:Ctx}
def aoz {ρ:Go.Shelf.Ren}(Ly:Go.Proofs.Lays2.n23 C.P ρ){k ver i:Nat}{zs:List Int}{bs:List (Option (List PV))}{fz:List Nat}{ar:List (Option Arr)}{K:PV->Mem->Prop}{KP:DV->Mem->Prop}
  (h:ar[k]?=some (some ⟨1,zs.map (DV.int .i64),ver,1⟩))(hi:i<zs.length)
  (hK:K (.tsl k (ver+1) 0) ⟨bs,fz,ar.set k (some ⟨1,(zs.take i++zs.drop (i+1)).map (DV.int .i64),ver+1,1⟩)⟩):SC C (ρ.f 23) [.tsl k ver 0, .d (.int .i64 i), .d (.int .i64 (i+1:Nat))] ⟨bs,fz,ar⟩ K KP:=by
 intro X w E am M I;cases I with|cons hr H=>
 cases H with|cons O H=>
 cases H with|cons D H=>
 cases H;cases O with|d O=>
 cases O;cases D with|d D=>
 cases D;cases hr with|tsl m hh=>
 obtain⟨_,v⟩:=hh _ h;obtain⟨ao,s,N⟩:=v rfl;obtain⟨s1,s2,s3,s4⟩:=M.arr k _ h;obtain⟨q,J⟩:=s3 rfl;rw[J]at s;cases s;obtain⟨a,o,e⟩:=q;obtain⟨hX,z,T,B,g3,g4,L⟩:=s4 a o e J;obtain⟨_,N⟩:=N
 rcases N with⟨ac,he,p,r⟩|⟨h0,_⟩
 case inr=>simp at h0;rw[h0]at hi;simp at hi
 cases he;simp only[Z,bz,bO,ct,cr,Nat.zero_add]at g3 L p r⊢;rw[FQ]at L;have g:=Em L;have hH:Holds (Value.int .i64) w a o zs.toArray:=by
  intro j u;have t:j<zs.length:=by simpa using u
  have v:z[o+j]?=some (.int .i64 zs[j]):=by
   have:=congrArg (fun l=>l[j]?) g;simp only[ca,t,if_true,bu,bj,a8,List.getElem?_eq_getElem t,aR]at this;exact this
  refine⟨?_,?_⟩
  ·rw[cell_of_row w a (o+j) z T.ty T.fr B,v]
   simp[t]
  ·have m:o+j<z.size:=(Array.getElem?_eq_some_iff.1 v).1
   obtain⟨ty,⟨f1,f2⟩,W⟩:=T;simp only at W B;simp[World.frozen?,B];intro hh;omega
 have ai:a<w.heap.size:=dw B;have c:=Go.Proofs.aoy Ly a o _ i zs.toArray w hH (by simpa using p) (by simpa using hi);simp only[List.size_toArray,List.toList_toArray]at c;refine c.mono ?_;rintro en w' ⟨rfl,n,rfl⟩;generalize Y:zs.take i++zs.drop (i+1)=ss at*;have an:ss.length+1=zs.length:=by rw[<-Y];simp;omega
 have F:((putCells (Value.int .i64) o (ss++ [0]).toArray z).toList.drop o).take ss.length=ss.map (Value.int .i64):=by
  apply cb;intro j;rw[ca,bu,bj,a8]
  by_cases u:j<ss.length
  ·rw[if_pos u]
   have v:o+j<z.size:=by omega
   have R:j<ss.length+1:=by omega
   simp[putCells,Array.getElem?_mapIdx,v,u,R,ae u]
  ·rw[if_neg u,bX (by omega)];rfl
 have G:=zD (A':=⟨1,ss.map (DV.int .i64),ver+1,1⟩) (loc:=some (a,o,e)) (w':=putRow (Value.int .i64) (Go.Sort.ahead w n) a o (ss++ [0]).toArray) M h (by simp) rfl rfl rfl (by simp[putRow,mapBlock,Go.Sort.ahead])
  (fun b ob D V=>by
   have S:b≠a:=by rintro rfl;exact D o e J
   simp[putRow,mapBlock,Go.Sort.ahead,bS,Ne.symm S,V])
  (by simp) (Nat.zero_lt_one) (by intro x hx;obtain⟨y,_,rfl⟩:=aM.1 hx;rfl) (by simp)
  (fun ab o' e' Q=>by
   cases Q;refine⟨.inr ⟨o,e,J⟩,putCells (Value.int .i64) o (ss++ [0]).toArray z,TM.cast (by simp[putCells]) T,?_,by simp;omega,by simp[putCells];omega,?_⟩
   ·simp[putRow,mapBlock,Go.Sort.ahead,bS,B,onCells,TM.cast]
   ·simp only[Z,bz]
    rw[FQ,F];exact U0 ss)
 refine⟨_,_,_,hK,G.1,G.2,?_⟩;refine .tsl (by simpa using(U.1 h).1) fun A I=> ?_
 have m:k<ar.length:=(U.1 h).1;simp only[List.getElem?_set_self m,Option.some.injEq]at I;subst I;refine⟨aE _,fun _=>⟨some (a,o,e),?_,?_⟩⟩
 ·have:=M.bH
  simp only at this;simp[this▸m]
 ·have e1:zs.length - 1=(ss.map (DV.int .i64)).length - 0:=by simp;omega
  refine⟨ax _, .inl ⟨_,by rw[e1,ct,cr],?_,by simpa using r⟩⟩
  show(ss.map (DV.int .i64)).length - 0<=_
  rw[<-e1];omega
end
end Go.Am
namespace Go.Proofs
open Go.Shelf
def Tryz.laysSplit_ren:Go.Shelf.Ren:=⟨fun|146=>219|221=>279|268=>303|138=>304|143=>305|195=>330|197=>331|218=>332|219=>333|260=>348|217=>272|225=>349|224=>350|267=>351|266=>299|314=>356|n=>n,fun|9=>9|31=>181|3=>3|4=>4|0=>0|105=>381|21=>21|5=>5|46=>343|119=>395|139=>398|138=>397|146=>399|51=>370|n=>n,fun|1=>0|3=>2|4=>3|n=>n⟩
def Tryz.laysSplit:Go.Proofs.Lays.n146 Tryz.prog Tryz.laysSplit_ren:={
 mixed:=by kernel_rfl
 f138:=Tryz.func304.trans (congrArg some (by kernel_rfl))
 f143:=Tryz.func305.trans (congrArg some (by kernel_rfl))
 f146:=Tryz.func219.trans (congrArg some (by kernel_rfl))
 f195:=Tryz.func330.trans (congrArg some (by kernel_rfl))
 f197:=Tryz.func331.trans (congrArg some (by kernel_rfl))
 f217:=Tryz.func272.trans (congrArg some (by kernel_rfl))
 f218:=Tryz.func332.trans (congrArg some (by kernel_rfl))
 f219:=Tryz.func333.trans (congrArg some (by kernel_rfl))
 f221:=Tryz.func279.trans (congrArg some (by kernel_rfl))
 f224:=Tryz.func350.trans (congrArg some (by kernel_rfl))
 f225:=Tryz.func349.trans (congrArg some (by kernel_rfl))
 f260:=Tryz.func348.trans (congrArg some (by kernel_rfl))
 f266:=Tryz.func299.trans (congrArg some (by kernel_rfl))
 f267:=Tryz.func351.trans (congrArg some (by kernel_rfl))
 f268:=Tryz.func303.trans (congrArg some (by kernel_rfl))
 f314:=Tryz.func356.trans (congrArg some (by kernel_rfl))
 t0:=Tryz.underlying0
 a0:=Tryz.isAgg0
 z0:=Tryz.sizeOf0
 v0:=Tryz.zeroValue0
 t3:=Tryz.underlying3
 a3:=Tryz.isAgg3
 z3:=Tryz.sizeOf3
 v3:=Tryz.zeroValue3
 t4:=Tryz.underlying4
 a4:=Tryz.isAgg4
 z4:=Tryz.sizeOf4
 v4:=Tryz.zeroValue4
 t5:=Tryz.underlying5
 a5:=Tryz.isAgg5
 z5:=Tryz.sizeOf5
 v5:=Tryz.zeroValue5
 t9:=Tryz.underlying9
 a9:=Tryz.isAgg9
 z9:=Tryz.sizeOf9
 v9:=Tryz.zeroValue9
 t21:=Tryz.underlying21
 a21:=Tryz.isAgg21
 z21:=Tryz.sizeOf21
 v21:=Tryz.zeroValue21
 t31:=Tryz.underlying181
 a31:=Tryz.isAgg181
 z31:=Tryz.sizeOf181
 v31:=Tryz.zeroValue181
 t46:=Tryz.underlying343
 a46:=Tryz.isAgg343
 z46:=Tryz.sizeOf343
 v46:=Tryz.zeroValue343
 t51:=Tryz.underlying370
 a51:=Tryz.isAgg370
 z51:=Tryz.sizeOf370
 v51:=Tryz.zeroValue370
 t105:=Tryz.underlying381
 a105:=Tryz.isAgg381
 z105:=Tryz.sizeOf381
 v105:=Tryz.zeroValue381
 t119:=Tryz.underlying395
 a119:=Tryz.isAgg395
 z119:=Tryz.sizeOf395
 t138:=Tryz.underlying397
 a138:=Tryz.isAgg397
 z138:=Tryz.sizeOf397
 v138:=Tryz.zeroValue397
 t139:=Tryz.underlying398
 a139:=Tryz.isAgg398
 z139:=Tryz.sizeOf398
 v139:=Tryz.zeroValue398
 t146:=Tryz.underlying399
 a146:=Tryz.isAgg399
 z146:=Tryz.sizeOf399
 v146:=Tryz.zeroValue399
 g1:=by kernel_rfl
 g3:=by kernel_rfl
 g4:=by kernel_rfl}
def Tryz.laysItoa_ren:Go.Shelf.Ren:=⟨fun|171=>213|243=>273|246=>300|283=>324|284=>325|285=>326|286=>327|129=>322|317=>344|318=>345|319=>346|320=>347|337=>354|338=>355|n=>n,fun|3=>3|9=>9|2=>2|4=>4|171=>373|0=>0|53=>372|37=>324|5=>5|173=>375|212=>390|51=>370|20=>20|213=>391|46=>343|232=>401|233=>402|n=>n,fun|17=>1|18=>4|19=>5|n=>n⟩
def Tryz.laysItoa:Go.Proofs.LaysM.n171 Tryz.prog Tryz.laysItoa_ren:={
 mixed:=by kernel_rfl
 f129:=Tryz.func322.trans (congrArg some (by kernel_rfl))
 f171:=Tryz.func213.trans (congrArg some (by kernel_rfl))
 f243:=Tryz.func273.trans (congrArg some (by kernel_rfl))
 f246:=Tryz.func300.trans (congrArg some (by kernel_rfl))
 f283:=Tryz.func324.trans (congrArg some (by kernel_rfl))
 f284:=Tryz.func325.trans (congrArg some (by kernel_rfl))
 f285:=Tryz.func326.trans (congrArg some (by kernel_rfl))
 f286:=Tryz.func327.trans (congrArg some (by kernel_rfl))
 f317:=Tryz.func344.trans (congrArg some (by kernel_rfl))
 f318:=Tryz.func345.trans (congrArg some (by kernel_rfl))
 f319:=Tryz.func346.trans (congrArg some (by kernel_rfl))
 f320:=Tryz.func347.trans (congrArg some (by kernel_rfl))
 f337:=Tryz.func354.trans (congrArg some (by kernel_rfl))
 f338:=Tryz.func355.trans (congrArg some (by kernel_rfl))
 t0:=Tryz.underlying0
 a0:=Tryz.isAgg0
 z0:=Tryz.sizeOf0
 v0:=Tryz.zeroValue0
 t2:=Tryz.underlying2
 a2:=Tryz.isAgg2
 z2:=Tryz.sizeOf2
 v2:=Tryz.zeroValue2
 t3:=Tryz.underlying3
 a3:=Tryz.isAgg3
 z3:=Tryz.sizeOf3
 v3:=Tryz.zeroValue3
 t4:=Tryz.underlying4
 a4:=Tryz.isAgg4
 z4:=Tryz.sizeOf4
 v4:=Tryz.zeroValue4
 t5:=Tryz.underlying5
 a5:=Tryz.isAgg5
 z5:=Tryz.sizeOf5
 v5:=Tryz.zeroValue5
 t9:=Tryz.underlying9
 a9:=Tryz.isAgg9
 z9:=Tryz.sizeOf9
 v9:=Tryz.zeroValue9
 t20:=Tryz.underlying20
 a20:=Tryz.isAgg20
 z20:=Tryz.sizeOf20
 v20:=Tryz.zeroValue20
 t37:=Tryz.underlying324
 a37:=Tryz.isAgg324
 z37:=Tryz.sizeOf324
 v37:=Tryz.zeroValue324
 t46:=Tryz.underlying343
 a46:=Tryz.isAgg343
 z46:=Tryz.sizeOf343
 v46:=Tryz.zeroValue343
 t51:=Tryz.underlying370
 a51:=Tryz.isAgg370
 z51:=Tryz.sizeOf370
 v51:=Tryz.zeroValue370
 t53:=Tryz.underlying372
 a53:=Tryz.isAgg372
 z53:=Tryz.sizeOf372
 v53:=Tryz.zeroValue372
 t171:=Tryz.underlying373
 a171:=Tryz.isAgg373
 z171:=Tryz.sizeOf373
 v171:=Tryz.zeroValue373
 t173:=Tryz.underlying375
 a173:=Tryz.isAgg375
 z173:=Tryz.sizeOf375
 v173:=Tryz.zeroValue375
 t212:=Tryz.underlying390
 a212:=Tryz.isAgg390
 z212:=Tryz.sizeOf390
 v212:=Tryz.zeroValue390
 t213:=Tryz.underlying391
 a213:=Tryz.isAgg391
 z213:=Tryz.sizeOf391
 t232:=Tryz.underlying401
 a232:=Tryz.isAgg401
 z232:=Tryz.sizeOf401
 v232:=Tryz.zeroValue401
 t233:=Tryz.underlying402
 a233:=Tryz.isAgg402
 z233:=Tryz.sizeOf402
 v233:=Tryz.zeroValue402
 g17:=by kernel_rfl
 g18:=by kernel_rfl
 g19:=by kernel_rfl
 i0:=by kernel_rfl
 i2:=by kernel_rfl
 i3:=by kernel_rfl
 i4:=by kernel_rfl
 i5:=by kernel_rfl
 i9:=by kernel_rfl
 i20:=by kernel_rfl
 i37:=by kernel_rfl
 i46:=by kernel_rfl
 i51:=by kernel_rfl
 i53:=by kernel_rfl
 i171:=by kernel_rfl
 i173:=by kernel_rfl
 i212:=by kernel_rfl
 i232:=by kernel_rfl
 i233:=by kernel_rfl
 m17:=by kernel_rfl
 m18:=by kernel_rfl
 m19:=by kernel_rfl}
def Tryz.laysJoin_ren:Go.Shelf.Ren:=⟨fun|156=>218|165=>276|166=>277|169=>278|240=>301|241=>302|276=>328|277=>329|n=>n,fun|31=>181|9=>9|3=>3|4=>4|0=>0|20=>20|72=>327|76=>331|70=>325|37=>324|75=>330|127=>352|164=>377|5=>5|80=>196|n=>n,fun|n=>n⟩
def Tryz.laysJoin:Go.Proofs.Lays.n156 Tryz.prog Tryz.laysJoin_ren:={
 mixed:=by kernel_rfl
 f156:=Tryz.func218.trans (congrArg some (by kernel_rfl))
 f165:=Tryz.func276.trans (congrArg some (by kernel_rfl))
 f166:=Tryz.func277.trans (congrArg some (by kernel_rfl))
 f169:=Tryz.func278.trans (congrArg some (by kernel_rfl))
 f240:=Tryz.func301.trans (congrArg some (by kernel_rfl))
 f241:=Tryz.func302.trans (congrArg some (by kernel_rfl))
 f276:=Tryz.func328.trans (congrArg some (by kernel_rfl))
 f277:=Tryz.func329.trans (congrArg some (by kernel_rfl))
 t0:=Tryz.underlying0
 a0:=Tryz.isAgg0
 z0:=Tryz.sizeOf0
 v0:=Tryz.zeroValue0
 t3:=Tryz.underlying3
 a3:=Tryz.isAgg3
 z3:=Tryz.sizeOf3
 v3:=Tryz.zeroValue3
 t4:=Tryz.underlying4
 a4:=Tryz.isAgg4
 z4:=Tryz.sizeOf4
 v4:=Tryz.zeroValue4
 t9:=Tryz.underlying9
 a9:=Tryz.isAgg9
 z9:=Tryz.sizeOf9
 v9:=Tryz.zeroValue9
 t20:=Tryz.underlying20
 a20:=Tryz.isAgg20
 z20:=Tryz.sizeOf20
 v20:=Tryz.zeroValue20
 t31:=Tryz.underlying181
 a31:=Tryz.isAgg181
 z31:=Tryz.sizeOf181
 v31:=Tryz.zeroValue181
 t37:=Tryz.underlying324
 a37:=Tryz.isAgg324
 z37:=Tryz.sizeOf324
 v37:=Tryz.zeroValue324
 t70:=Tryz.underlying325
 a70:=Tryz.isAgg325
 z70:=Tryz.sizeOf325
 v70:=Tryz.zeroValue325
 t72:=Tryz.underlying327
 a72:=Tryz.isAgg327
 z72:=Tryz.sizeOf327
 v72:=Tryz.zeroValue327
 t75:=Tryz.underlying330
 a75:=Tryz.isAgg330
 z75:=Tryz.sizeOf330
 v75:=Tryz.zeroValue330
 t76:=Tryz.underlying331
 a76:=Tryz.isAgg331
 z76:=Tryz.sizeOf331
 v76:=Tryz.zeroValue331
 t127:=Tryz.underlying352
 a127:=Tryz.isAgg352
 z127:=Tryz.sizeOf352
 v127:=Tryz.zeroValue352
 t164:=Tryz.underlying377
 a164:=Tryz.isAgg377
 z164:=Tryz.sizeOf377
 v164:=Tryz.zeroValue377}
def Tryz.laysSort_ren:Go.Shelf.Ren:=⟨fun|189=>240|125=>290|257=>289|128=>321|129=>322|294=>312|295=>313|296=>314|297=>315|298=>316|299=>317|216=>318|300=>319|301=>320|328=>338|329=>339|330=>340|331=>341|332=>342|215=>343|343=>353|n=>n,fun|28=>23|3=>3|46=>343|0=>0|51=>370|53=>372|4=>4|183=>364|182=>363|131=>81|5=>5|9=>9|218=>383|222=>387|228=>393|229=>355|n=>n,fun|n=>n⟩
def Tryz.laysSort:Go.Proofs.Lays.n189 Tryz.prog Tryz.laysSort_ren:={
 mixed:=by kernel_rfl
 f125:=Tryz.func290.trans (congrArg some (by kernel_rfl))
 f128:=Tryz.func321.trans (congrArg some (by kernel_rfl))
 f129:=Tryz.func322.trans (congrArg some (by kernel_rfl))
 f189:=Tryz.func240.trans (congrArg some (by kernel_rfl))
 f215:=Tryz.func343.trans (congrArg some (by kernel_rfl))
 f216:=Tryz.func318.trans (congrArg some (by kernel_rfl))
 f257:=Tryz.func289.trans (congrArg some (by kernel_rfl))
 f294:=Tryz.func312.trans (congrArg some (by kernel_rfl))
 f295:=Tryz.func313.trans (congrArg some (by kernel_rfl))
 f296:=Tryz.func314.trans (congrArg some (by kernel_rfl))
 f297:=Tryz.func315.trans (congrArg some (by kernel_rfl))
 f298:=Tryz.func316.trans (congrArg some (by kernel_rfl))
 f299:=Tryz.func317.trans (congrArg some (by kernel_rfl))
 f300:=Tryz.func319.trans (congrArg some (by kernel_rfl))
 f301:=Tryz.func320.trans (congrArg some (by kernel_rfl))
 f328:=Tryz.func338.trans (congrArg some (by kernel_rfl))
 f329:=Tryz.func339.trans (congrArg some (by kernel_rfl))
 f330:=Tryz.func340.trans (congrArg some (by kernel_rfl))
 f331:=Tryz.func341.trans (congrArg some (by kernel_rfl))
 f332:=Tryz.func342.trans (congrArg some (by kernel_rfl))
 f343:=Tryz.func353.trans (congrArg some (by kernel_rfl))
 t0:=Tryz.underlying0
 a0:=Tryz.isAgg0
 z0:=Tryz.sizeOf0
 v0:=Tryz.zeroValue0
 t3:=Tryz.underlying3
 a3:=Tryz.isAgg3
 z3:=Tryz.sizeOf3
 v3:=Tryz.zeroValue3
 t4:=Tryz.underlying4
 a4:=Tryz.isAgg4
 z4:=Tryz.sizeOf4
 v4:=Tryz.zeroValue4
 t5:=Tryz.underlying5
 a5:=Tryz.isAgg5
 z5:=Tryz.sizeOf5
 v5:=Tryz.zeroValue5
 t9:=Tryz.underlying9
 a9:=Tryz.isAgg9
 z9:=Tryz.sizeOf9
 v9:=Tryz.zeroValue9
 t28:=Tryz.underlying23
 a28:=Tryz.isAgg23
 z28:=Tryz.sizeOf23
 v28:=Tryz.zeroValue23
 t46:=Tryz.underlying343
 a46:=Tryz.isAgg343
 z46:=Tryz.sizeOf343
 v46:=Tryz.zeroValue343
 t51:=Tryz.underlying370
 a51:=Tryz.isAgg370
 z51:=Tryz.sizeOf370
 v51:=Tryz.zeroValue370
 t53:=Tryz.underlying372
 a53:=Tryz.isAgg372
 z53:=Tryz.sizeOf372
 v53:=Tryz.zeroValue372
 t131:=Tryz.underlying81
 a131:=Tryz.isAgg81
 z131:=Tryz.sizeOf81
 v131:=Tryz.zeroValue81
 t182:=Tryz.underlying363
 a182:=Tryz.isAgg363
 z182:=Tryz.sizeOf363
 v182:=Tryz.zeroValue363
 t183:=Tryz.underlying364
 a183:=Tryz.isAgg364
 z183:=Tryz.sizeOf364
 v183:=Tryz.zeroValue364
 t218:=Tryz.underlying383
 a218:=Tryz.isAgg383
 z218:=Tryz.sizeOf383
 v218:=Tryz.zeroValue383
 t222:=Tryz.underlying387
 a222:=Tryz.isAgg387
 z222:=Tryz.sizeOf387
 v222:=Tryz.zeroValue387
 t228:=Tryz.underlying393
 a228:=Tryz.isAgg393
 z228:=Tryz.sizeOf393
 v228:=Tryz.zeroValue393
 t229:=Tryz.underlying355
 a229:=Tryz.isAgg355
 z229:=Tryz.sizeOf355
 v229:=Tryz.zeroValue355}
def Tryz.laysDel_ren:Go.Shelf.Ren:=⟨fun|23=>271|n=>n,fun|22=>23|3=>3|4=>4|0=>0|n=>n,fun|n=>n⟩
def Tryz.laysDel:Go.Proofs.Lays2.n23 Tryz.prog Tryz.laysDel_ren:={
 mixed:=by kernel_rfl
 f23:=Tryz.func271.trans (congrArg some (by kernel_rfl))
 t0:=Tryz.underlying0
 a0:=Tryz.isAgg0
 z0:=Tryz.sizeOf0
 v0:=Tryz.zeroValue0
 t3:=Tryz.underlying3
 a3:=Tryz.isAgg3
 z3:=Tryz.sizeOf3
 v3:=Tryz.zeroValue3
 t4:=Tryz.underlying4
 a4:=Tryz.isAgg4
 z4:=Tryz.sizeOf4
 v4:=Tryz.zeroValue4
 t22:=Tryz.underlying23
 a22:=Tryz.isAgg23
 z22:=Tryz.sizeOf23
 v22:=Tryz.zeroValue23
 i3:=by kernel_rfl}
def Tryz.laysIndexB_ren:Go.Shelf.Ren:=⟨fun|137=>212|217=>272|266=>299|n=>n,fun|9=>9|5=>5|3=>3|n=>n,fun|n=>n⟩
def Tryz.laysIndexB:Go.Proofs.Lays.n137 Tryz.prog Tryz.laysIndexB_ren:={
 mixed:=by kernel_rfl
 f137:=Tryz.func212.trans (congrArg some (by kernel_rfl))
 f217:=Tryz.func272.trans (congrArg some (by kernel_rfl))
 f266:=Tryz.func299.trans (congrArg some (by kernel_rfl))
 t3:=Tryz.underlying3
 a3:=Tryz.isAgg3
 z3:=Tryz.sizeOf3
 v3:=Tryz.zeroValue3
 t5:=Tryz.underlying5
 a5:=Tryz.isAgg5
 z5:=Tryz.sizeOf5
 v5:=Tryz.zeroValue5
 t9:=Tryz.underlying9
 a9:=Tryz.isAgg9
 z9:=Tryz.sizeOf9
 v9:=Tryz.zeroValue9}
end Go.Proofs
namespace Go.Tel
open Go.Am
def aaw:ay=DV.int .i64:=rfl
def an0:aik:=by
 intro k ver i zs bs fz ar K KP h b a;exact aoz (C:=C) Go.Proofs.Tryz.laysDel (by rw[<-aaw];exact h) b (by rw[<-aaw];exact a)
end Go.Tel
namespace Go.Tel
open Go.Am
structure Frm (M M':Mem):Prop where
 len:M.boxes.length<=M'.boxes.length
 bH:M.aB.length<=M'.aB.length
 box:∀i,i<M.boxes.length->M'.boxes[i]?=M.boxes[i]?
 fz:∀i,i<M.boxes.length->(i∈M'.fz↔i∈M.fz)
 row:∀k,k<M.aB.length->M'.aB[k]?=M.aB[k]?
 fzb:FzB M->FzB M'
def Frm.trans {M M' M'':Mem}(h:Frm M M')(h':Frm M' M''):Frm M M'':=
 ⟨aq h.len h'.len,aq h.bH h'.bH,fun i a=>(h'.box i (aw a h.len)).trans (h.box i a),fun i a=>(h'.fz i (aw a h.len)).trans (h.fz i a),
  fun k b=>(h'.row k (aw b h.bH)).trans (h.row k b),fun e=>h'.fzb (h.fzb e)⟩
variable{bs:List (Option (List PV))}{fz:List Nat}
def Frm.ext {xb:List (Option (List PV))}{xf:List Nat}{ar xa:List (Option Arr)}(hx:∀i∈xf,bs.length<=i/\i<bs.length+xb.length):Frm ⟨bs,fz,ar⟩ ⟨bs++xb,xf++fz,ar++xa⟩:=
 ⟨by simp,by simp,fun i a=>ae a,fun i a=>by
  simp only[aD];exact⟨fun e=>e.elim (fun e=>absurd (hx i e).1 (by simp only at a;omega)) id, .inr⟩,fun k c=>ae c,fun b i a=>by
  simp only[V]
  rcases aD.1 a with e|e
  ·exact(hx i e).2
  ·have:=b i e;simp only at this;omega⟩
variable{M M' M'':Mem}
def Frm.frs {a b mb:Nat}(h:Frm M M')(h':FrS a b mb M' M'')(hb:M.boxes.length<=b)(g:M.boxes.length<=mb)(f:M.aB.length<=a):Frm M M'':=
 ⟨aq h.len h'.len,aq h.bH h'.bH,fun i c=>(h'.box i (aw c h.len) (by omega) (by omega)).trans (h.box i c),fun i c=>(h'.fz i (aw c h.len)).trans (h.fz i c),
  fun k d=>(h'.row k (by omega)).trans (h.row k d),fun e=>h'.fzb (h.fzb e)⟩
variable{ar:List (Option Arr)}
def OW {sz:Nat}{W:Bool}{c:PV}{xs:List DV}(h:slN sz W c xs ar){k:Nat}(hk:kOf c=some k):k<ar.length:=by
 rcases h with⟨rfl,_⟩|⟨a,_,_,rfl,h,_⟩
 ·cases hk
 ·cases hk;exact(U.1 h).1
variable{D:Dk}{d:Nat}
def oC.frm {ce cs:PV}(h:oC D d ce cs M)(hf:Frm M M'):oC D d ce cs M':=
 {box:=(hf.box d (U.1 h.box).1).trans h.box
  ent:=zF h.ent fun k A h1 h2=>(hf.row k (OW h.ent h1)).trans h2
  str:=zF h.str fun k A h1 h2=>(hf.row k (OW h.str h1)).trans h2
  dif:=h.dif
  nb:=fun e=>h.nb ((hf.fz d (U.1 h.box).1).1 e)
  fzb:=hf.fzb h.fzb}
variable{s:Su}
def gy.moved {a b mb n:Nat}{cst cse:PV}{t:Sp}(h:gy s a b mb cst cse t M)(c:Moved n no M M')(hb:b<n)(d:mb<n):gy s a b mb cst cse t M':=
 {box:=(c.box b hb id).trans h.box
  map:=(c.box mb d id).trans h.map
  r0:=by rw[c.aB];exact h.r0
  r1:=by rw[c.aB];exact h.r1
  r2:=by rw[c.aB];exact h.r2
  r3:=by rw[c.aB];exact h.r3
  r4:=by rw[c.aB];exact h.r4
  r5:=by rw[c.aB];exact h.r5
  stk:=by rw[c.aB];exact h.stk
  set:=by rw[c.aB];exact h.set
  kst:=h.kst,kse:=h.kse,dif:=h.dif
  nb:=fun e=>h.nb ((c.fz b hb id).1 e)
  nm:=fun e=>h.nm ((c.fz mb d id).1 e)
  bm:=h.bm
  fzb:=c.fzb h.fzb}
def Frm.moved {n:Nat}(h:Frm M M')(a:Moved n no M' M'')(d:M.boxes.length<=n):Frm M M'':=
 ⟨aq h.len a.len,by rw[a.aB];exact h.bH,fun i b=>(a.box i (by omega) id).trans (h.box i b),fun i b=>(a.fz i (by omega) id).trans (h.fz i b),fun k c=>by rw[a.aB];exact h.row k c,fun e=>a.fzb (h.fzb e)⟩
def yu (s:Su):∀(l m:List De) (t:Sp),pX s (l++m) t=(pX s l t).bind (pX s m)
 | [],_,_=>rfl
 |x::l,m,t=>by
  simp only[ch,pX];cases doS s t x with
  |none=>rfl
  |some t1=>exact yu s l m t1
def wo (w:Int)(l:List (Nat×De)):List De:=(l.filter fun p=>decide ((p.1:Int)≠w)).map (·.2)
def aeX (w:Int)(l:List (Nat×De))(p:Nat×De):wo w (l++ [p])=if(p.1:Int)=w then wo w l else wo w l++ [p.2]:=by
 simp only[wo,b9,bp]
 by_cases h:(p.1:Int)=w<;>simp[h]
def alA (w:Int)(l:List (Nat×De))(p:Nat×De)(r:List (Nat×De)):wo w (l++p::r)=wo w (l++ [p])++wo w r:=by
 simp[wo,b9,bp,List.filter_cons]
 split<;>simp
def ap5 (w:Int)(l:List (Nat×De)):(wo w l).length<=l.length:=by
 simp only[wo,Z];exact b0 _ _
def gy.new {x0 x3:Option (List PV)}(a:∀i∈fz,i<bs.length):
  gy s ar.length (bs.length+2) (bs.length+1) (.d (.slice true [])) (.d (.slice true [])) s.sp0 ⟨bs++ [x0,some [.iW []],some (iG s ar.length (bs.length+1) (.d (.slice true [])) (.d (.slice true [])) 0),x3],bs.length::fz,ar++s.rows.map some⟩:=
 {box:=by simp only;rw[bQ rfl];rfl
  map:=by simp only;rw[bQ rfl];rfl
  r0:=by simp[Su.rows,Su.sp0]
  r1:=by simp[Su.rows,Su.sp0]
  r2:=by simp[Su.rows,Su.sp0]
  r3:=by simp[Su.rows]
  r4:=by simp[Su.rows]
  r5:=by simp[Su.rows]
  stk:= .inl ⟨rfl,rfl⟩
  set:= .inl ⟨rfl,rfl⟩
  kst:=fun k b=>by cases b
  kse:=fun k b=>by cases b
  dif:=fun k b=>by cases b
  nb:=fun e=>by
   rcases bo.1 e with e|e
   ·omega
   ·have:=a _ e;omega
  nm:=fun e=>by
   rcases bo.1 e with e|e
   ·omega
   ·have:=a _ e;omega
  bm:=by omega
  fzb:=fun i e=>by
   simp only[V,aL,az]
   rcases bo.1 e with e|e
   ·omega
   ·have:=a _ e;omega}
def Ae {x:En}(h:x.formed=true):jc x.kind<=x.ns.length:=by
 simp only[En.formed,ao,decide_eq_true_eq]at h;omega
def N9 {ce cs:PV}(h:oC D d ce cs M)(f:D.Ok)(w:Int):
  SC C 74 [.ptr d 0,pI w] M
   (fun p M'=>∃t b mb a cst cse,p= .ptr b 0/\D.state w=some t/\gy D.su a b mb cst cse t M'/\Frm M M'/\M.boxes.length<=b/\M.boxes.length<=mb/\M.aB.length<=a)
   (fun dd M'=>D.state w=none/\JA dd/\Frm M M'):=by
 obtain⟨bs,fz,ar⟩:=M;have c:=h.box;rw[iV]at c;simp only at c;have aw:d<bs.length:=(U.1 c).1;have FX:∀i∈fz,i<bs.length:=h.fzb
 have ax:bs.length∉fz:=fun e=>ap _ (FX _ e)
 have aD:∀k,bs.length+k∉fz:=fun k e=>by have:=FX _ e;omega
 have ae:¬d=bs.length:=by omega
 have am:∀k,¬d=bs.length+k:=fun k=>by omega
 have an:∀k,d<bs.length+k:=fun k=>by omega
 have aR:¬bs.length+1=bs.length:=by omega
 have a9:¬bs.length+2=bs.length:=by omega
 have bd:¬bs.length+3=bs.length:=by omega
 have ao:=ZX D.su (Su.RH f.su);rw[gU]at ao;refine aG mixed rfl A8 ?_;simp only[qG,aJ,c,aw,uS,bD,bQ,aQ,bV,dh,aV,Y,V,ai,ab,ax,aD,ae,am,an,aR,RN,F,H,I,J,N,S];refine yH rfl rfl ao (by simp[Su.rows]) ?_;simp only[Su.pv,PV.shift,kC,bM,dB,RN,F,H,I,J,N,S];simp only[SI,c,aw,bD,bQ,aQ,bV,dh,aV,Y,V,ai,ab,ax,aD,ae,am,an,aR,a9,bd,bM,dB,bI,agS,JK,av,eP,gI,Gn,DC,lU,mD,wu,RN,F,H,I,J,N,S];have K:Frm ⟨bs,fz,ar⟩ ⟨bs++ [some [PV.d (dI w)],some [PV.iW []],some (iG D.su ar.length (bs.length+1) (.d (.slice true [])) (.d (.slice true [])) 0),some [PV.ptr (bs.length+2) 0]],bs.length::fz,ar++D.su.rows.map some⟩:=Frm.ext (xf:=[bs.length]) (by simp);have apc:=h.frm K;have a4:∀l r p,D.stands=l++p::r->kK D.su D.su.sp0 p.2:=fun l r p hl=>by
  obtain⟨y,hy,e⟩:=xk D.es D.st 0 p (by rw[Dk.stands]at hl;rw[hl];simp);rw[e];exact f.fine y hy
 have ac:∀l,(∃r,D.stands=l++r)->∀x∈wo w l,kK D.su D.su.sp0 x:=fun l hl x o=>by
  obtain⟨r,hr⟩:=hl;simp only[wo,aM,cj]at o;obtain⟨p,⟨hp,_⟩,rfl⟩:=o;obtain⟨y,hy,e⟩:=xk D.es D.st 0 p (by rw[Dk.stands]at hr;rw[hr];simp[hp]);rw[e];exact f.fine y hy
 have asL:D.stands.length<=24:=aq (Az _ _ _) f.few;have aqQ:D.state w=pX D.su (wo w D.stands) D.su.sp0:=rfl;rw[iG]at K apc;refine rD (ab8 (ce:=ce) (cs:=cs) f.len (by have:=f.few;omega) (fun x o=>Ae (f.formed x o))) (fun _ h=>h.elim) rfl (by kernel_rfl) (fun i hi=> ?_) (fun x o=> ?_) (fun i hi=> ?_) (fun M' T=>apc.toDkRd.moved (by simp;omega) T)
  (fun W q=>∃l r t cst cse,D.stands=l++r/\W=l.map oN/\pX D.su (wo w l) D.su.sp0=some t/\gy D.su ar.length (bs.length+2) (bs.length+1) cst cse t q/\Frm ⟨bs,fz,ar⟩ q/\q.boxes[bs.length+3]?=some (some [.ptr (bs.length+2) 0])/\bs.length+4<=q.boxes.length) ?_ ?_ ?_ ?_
 ·exact apc.fzb i hi
 ·simp only[dD,aM]at o
  obtain⟨p,_,rfl⟩:=o
  rfl
 ·subst hi;simp;omega
 ·rintro W q M2 T ⟨l,r,t,cst,cse,j,A,B,Z,X,z,q7⟩
  simp only[V,aL,az]at T;refine⟨l,r,t,cst,cse,j,A,B,Z.moved T (by omega) (by omega),X.moved T (by simp),(T.box _ (by omega) id).trans z,aq q7 T.len⟩
 ·refine⟨[],D.stands,D.su.sp0, .d (.slice true []), .d (.slice true []),rfl,rfl,rfl,?_,K,?_,?_⟩
  ·have:=gy.new (s:=D.su) (ar:=ar) (x0:=some [PV.d (dI w)]) (x3:=some [PV.ptr (bs.length+2) 0]) FX
   rw[iG]at this;exact this
  ·simp only;rw[bQ rfl];rfl
  ·simp
 ·rintro L cells W x bi q o R g u ⟨l,r,t,cst,cse,j,A,B,Z,X,z,q7⟩ M0
  simp only[V,aL,az]at R g u⊢;obtain⟨p,E,rfl⟩:∃p E,r=p::E:=by
   cases r with
   |nil=>
    rw[bR]at j;rw[dD,bc,bc,<-Dk.stands,j,A]at o;have:=congrArg b8 o;simp at this
   |cons p E=>exact⟨p,E,rfl⟩
  have bh:x=oN p:=by
   rw[dD,bc,bc,<-Dk.stands,j,A,bp,a7]at o;have:=List.append_cancel_left o;exact(List.cons.inj this).1.symm
  subst bh;obtain⟨G,a2,a1⟩:=q;simp only at R g u z q7;have Q:bs.length+3<G.length:=by omega
  have a0:D.stands=(l++ [p])++E:=by rw[j];simp
  simp only[oN,List.zip_cons_cons,List.zip_nil_left,a7,bN,RN,F,H,I,J,N,S]
  by_cases hw:(p.1:Int)=w
  ·have hb:((p.1:Int) !=w)=false:=by simp[hw]
   simp only[hb,wz,RN,F,H,I,J,N,S];refine⟨g,u, .refl _,l++ [p],E,t,cst,cse,a0,by rw[A];simp[oN],by rw[aeX,if_pos hw];exact B,Z,X,z,q7⟩
  ·have hb:((p.1:Int) !=w)=true:=by simp[hw]
   have P:=SE _ 0 _ t (aeL f.su) (ac l ⟨_,j⟩) B;have bk:=ap5 w l;have bj:l.length<=24:=by
    have:=congrArg b8 j;simp at this;omega
   have be:XK D.su t:=P.sp (by omega);have a5:kK D.su t p.2:=kK.same (n:=0) P.ll.symm P.hh.symm (a4 l E p j);simp only[hb,z,Q,RN,F,H,I,J,N,S];have a3:=ai1 an0 Z be p.2 a5;refine SC.jU (SC.mono a3 ?_) ?_
   ·rintro v M3 ⟨t',sH,BG,g1,g2,m⟩
    have a6:Frm ⟨bs,fz,ar⟩ M3:=X.frs m (by simp) (by simp) (by simp);have a8:=m.len;simp only at a8;simp only[wz,RN,F,H,I,J,N,S];refine⟨(m.box _ (by simp only;omega) (by omega) (by omega)).trans g,fun e=>u ((m.fz _ (by simp only;omega)).1 e),⟨m.len,m.bH,fun i hi O=>m.box i O (by omega) (by omega),fun i hi O=>m.fz i O,fun k hk=> ?_,m.fzb⟩,?_⟩
    ·refine m.row k ?_
     rcases hk with hk|hk
     ·have:=OW h.ent hk;simpa using this
     ·have:=OW h.str hk;simpa using this
    ·refine⟨l++ [p],E,t',sH,BG,a0,by rw[A];simp[oN],?_,g2,a6,(m.box _ (by simp only;omega) (by omega) (by omega)).trans z,by omega⟩
     rw[aeX,if_neg hw,yu,B];simp[pX,g1]
   ·rintro dd M3 ⟨g1,g2,m⟩
    simp only[wz,RN,F,H,I,J,N,S];refine⟨?_,g2,X.frs m (by simp) (by simp) (by simp)⟩;rw[aqQ,j,alA,aeX,if_neg hw,yu,yu,B];simp[pX,g1]
 ·rintro q ⟨l,r,t,cst,cse,j,A,B,Z,X,z,q7⟩ R
  have hr:r=[]:=by
   have:=congrArg b8 A;rw[dD,bc,bc,<-Dk.stands,j]at this;simp at this;exact this
  subst hr;rw[bR]at j;obtain⟨G,a2,a1⟩:=q;simp only at z q7;have Q:bs.length+3<G.length:=by omega
  simp only[z,Q,RN,F,H,I,J,N,S];exact⟨t,_,_,_,cst,cse,rfl,by rw[aqQ,j];exact B,Z,X,by omega,by omega,aE _⟩
end Go.Tel
namespace Go.Tel
open Go.Am
def fmL:List (ByteArray×Nat):=[(⟨#[99,117,116]⟩,1),(⟨#[99,104,97,110,103,101]⟩,3),(⟨#[111,114,100,101,114]⟩,3),(⟨#[115,101,114,118,101]⟩,2),(⟨#[115,101,116]⟩,1),(⟨#[115,116,114,105,107,101]⟩,1)]
def adt (p:ByteArray×Nat):DV:= .agg [.str p.1,dI (p.2:Int)]
def VI (l:List (ByteArray×Nat)):List DV:=l.flatMap fun p=>[.str p.1,dI (p.2:Int)]
def afe:VI fmL=[.str ⟨#[99,117,116]⟩,dI 1, .str ⟨#[99,104,97,110,103,101]⟩,dI 3, .str ⟨#[111,114,100,101,114]⟩,dI 3, .str ⟨#[115,101,114,118,101]⟩,dI 2, .str ⟨#[115,101,116]⟩,dI 1, .str ⟨#[115,116,114,105,107,101]⟩,dI 1]:=rfl
def aff:Pure C 121 [] (.d (.agg (VI fmL))) []:=by
 refine ah mixed rfl IJ ?_;simp only[xQ,akS,afe,H9,RN,F,H,I,J,N,S]
def aaz (n:Int):Pure C 206 [dI n] (.d (.bool (!inR n 0 9999))) []:=by
 refine ah mixed rfl Bd ?_;simp only[qJ,aK,RN,F,H,I,J,N,S];refine ak rfl rfl (Ah _ _ _) ?_;(try simp only[RN,F,H,I,J,N,S])
def fwE (k:Int):ByteArray:=(fmL.getD (k - 1).toNat default).1
def aiM {k:Int}(h:1<=k/\k<=6):k=1\/k=2\/k=3\/k=4\/k=5\/k=6:=by omega
def aqi {k:Int}(h:1<=k/\k<=6):air (iZ (cz 2 (cw ((k - 1).toNat*2) (cv PV.d (VI fmL))))) (cz 2 (cw ((k - 1).toNat*2) (cv PV.d (VI fmL))))= .d (.agg [.str (fwE k),dI (jc k)])/\(k - 1).toNat*2+2<=(cv PV.d (VI fmL)).length/\cA .i64 (k - 1)=k - 1:=by
 rcases aiM h with rfl|rfl|rfl|rfl|rfl|rfl<;>exact⟨rfl,by decide,by decide⟩
def afm (k:Int):jc k<=3:=by
 unfold jc;split
 ·omega
 ·split<;>omega
def adJ (x:En):Pure C 110 [x.dv] (.d (.bool x.formed)) []:=by
 refine ah mixed rfl DZ ?_;simp only[tX,aK,dM,RN,F,H,I,J,N,S];refine ak rfl rfl (Ah _ _ _) ?_;cases c:inR x.kind 1 6
 ·(try simp only[RN,F,H,I,J,N,S])
  simp only[En.formed,c,bq]
 have e:1<=x.kind/\x.kind<=6:=by simpa[inR]using c
 simp only[Z,RN,F,H,I,J,N,S];refine ak rfl rfl aff ?_;obtain⟨f,g,h⟩:=aqi e;have i:=afm x.kind;simp only[h,f,RN,F,H,I,J,N,S];refine⟨by omega,by omega,g,?_⟩
 by_cases b:x.ns.length=jc x.kind
 ·have a:((x.ns.length:Int) !=(jc x.kind:Int))=false:=by simp[b]
  simp only[a,RN,F,H,I,J,N,S];refine ak rfl rfl (sQ x.ns 206 [] (fun n=> !inR n 0 9999) (by omega) (by kernel_rfl) fun n _=>aaz n) ?_;simp only[Dh,cn,RN,F,H,I,J,N,S];simp[En.formed,c,b]
 ·have a:((x.ns.length:Int) !=(jc x.kind:Int))=true:=by simp;omega
  simp only[a,RN,F,H,I,J,N,S];simp[En.formed,b]
def JG (a b:Bool)(D:Dk):List DV:=[.aW D.su.cs,sF (D.su.days.map Ac), .slice a (D.es.map En.dv), .slice b (D.st.map .bool)]
def uP (a b:Bool)(D:Dk):DV:= .aW (JG a b D)
def Vj {sz:Nat}{W:Bool}{c:PV}{xs:List DV}{bs:List (Option (List PV))}{fz:List Nat}{ar:List (Option Arr)}(h:slN sz W c xs ar):∃ex,fA ⟨bs,fz,ar⟩ c=some (.slice ex xs):=by
 rcases h with⟨rfl,rfl⟩|⟨k,ver,st,rfl,h,_⟩
 ·exact⟨true,rfl⟩
 ·exact⟨false,by simp[fA,Mem.row,h]⟩
def Lc {D:Dk}{d:Nat}{ce cs:PV}{M:Mem}(h:oC D d ce cs M):∃a b,datum M (.ptr d 0)=some (uP a b D):=by
 obtain⟨bs,fz,ar⟩:=M;have h1:=h.box;rw[iV]at h1;obtain⟨a,c⟩:=Vj (bs:=bs) (fz:=fz) h.ent;obtain⟨b,e⟩:=Vj (bs:=bs) (fz:=fz) h.str;simp only at h1 c e;refine⟨a,b,?_⟩;have hd:∀x,fA ⟨bs,fz,ar⟩ (.d x)=some x:=fun _=>rfl
 have f:cu ⟨bs,fz,ar⟩ [.d (.aW D.su.cs), .d (sF (D.su.days.map Ac)),ce,cs]=some (JG a b D):=by
  simp only[cu,hd,c,e];rfl
 simp only[datum,Mem.box,h1,f]
 rfl
def FZ (a b:Bool)(D:Dk)(hh:D.su.pc.hands.length<=1000)(n:Int):Pure C 166 [uP a b D,dI n] (.d (.bool (inR n 0 (D.su.pc.hands.length - 1)))) []:=by
 refine ah mixed rfl zN ?_;have c:cA .i64 ((D.su.pc.hands.length:Int) - 1)=(D.su.pc.hands.length:Int) - 1:=aF (by omega);simp only[oV,aJ,uP,JG,uS,Z,c,RN,F,H,I,J,N,S];refine ak rfl rfl (Ah _ _ _) ?_;(try simp only[RN,F,H,I,J,N,S])
def Ru (a b:Bool)(D:Dk)(n:Int):Pure C 170 [uP a b D,dI n] (.d (.bool (inR n 1 D.su.days.length))) []:=by
 refine ah mixed rfl AZ ?_;simp only[qy,aJ,uP,JG,Z,RN,F,H,I,J,N,S];refine ak rfl rfl (Ah _ _ _) ?_;(try simp only[RN,F,H,I,J,N,S])
def aaA (a b:Bool)(D:Dk):Pure C 69 [uP a b D] (.d (.bool true)) []:=by
 refine ah mixed rfl zO ?_;simp only[oW,aK,uP,JG,RN,F,H,I,J,N,S]
end Go.Tel
