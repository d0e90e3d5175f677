/-
  Part 6 of a law of desks.
  Conditions: none.
-/
import Derived.Test.YtkbhljmmnbgloaaGreatDoorTopBetterM04
import Derived.Test.YtkbhljmmnbgloaaGreatDoorTopBetterM05
import Derived.Shelf.Lays2
import Derived.Shelf.RegionOpenPlain
import Derived.Deep.LoopGhost
import Derived.Deep.RegionLaw
import Derived.Lib.Walk
import Derived.Sort.WalkB12
import Derived.Lib.SliceRun
import Derived.Lib.SlicesDelete
import Derived.Ground.NamesProg
import Derived.Shelf.Strings.Split
import Derived.Shelf.Strings.OnBuilder
import Derived.Shelf.Strconv.Itoa3
import Derived.Shelf.Strings.Cut
import Derived.Shelf.Sort.Plain
import Derived.Ground.Names2Prog
import Derived.Shelf.Small.Strs
import Derived.Test.YtkbhljmmnbgloaaGreatDoorChecked
set_option linter.all false
set_option maxRecDepth 10000
set_option maxHeartbeats 4000000
open Nat renaming reduceBEq->F,reduceAdd->H,reduceSub->I,reduceEqDiff->J,reduceLT->N,reduceLeDiff->S,le_refl->an,lt_irrefl->ao,le_trans->ap,lt_of_lt_of_le->aq,zero_le->av,add_assoc->az,mul_one->bB,sub_zero->cj,add_zero->ct
open List renaming getElem?_eq_some_iff->U,length_map->V,length_append->Y,getElem?_append_left->Z,getElem?_set_ne->ab,append_assoc->am,length_nil->aw,mem_append->ax,length_cons->aD,mem_map->aE,map_cons->aL,getElem?_map->a7,drop_zero->a8,mem_cons_of_mem->bc,mem_cons->bo,map_append->bp,map_nil->bt,getD_eq_getElem?_getD->bu,getElem?_append_right->bv,getElem?_drop->bw,mem_cons_self->bz,mem_singleton->bA,all_eq_true->bL,append_nil->bR,getElem?_eq_none->bX,length_filter_le->b0,set_append_right->b7,length->b9,filter_append->ca,getElem?_take->cb,ext_getElem?->cf,flatMap_cons->cg,length_range->ch,cons_append->ck,mem_filter->cl,replicate->cm,all_cons->cn,all_nil->cq,map_set->cr,map->cv,drop->cw,take->cz
open Int renaming toNat_natCast->ae,lt_irrefl->bl
open Bool renaming and_eq_true->ai,false_and->aM,false_eq_true->be,and_self->bk,true_and->bE,and_false->b8,not_not->cp
open Option renaming map_some->aR,isSome_none->bh,isSome_some->bi,map_none->bq,getD_none->bN,getD_some->bO
open And renaming intro->a6
open Array renaming getElem?_toList->bj,getElem?_modify->bS
open Iff renaming rfl->br
open Go.IntKind renaming wrap->cA
namespace Go.Tel
open Go.Am
def xG:aA:=(s0 [ba 1 0 0,mk 2 (.c (.nilIface))] 1 [1] [1] (sr [fa 4 1 1,lo 5 4,mv 3 5] 0 [1,3] (sw (sr [fa 6 0 1,lo 7 6] 0 [3,7] (.block 0 (sr [oi 9 pE 7 1,mv 8 9] 0 [3,7,8] (cd 8 (sr [mv 10 3,oi 11 (.bH 1) 10 0,lo 12 11,oa 13 (.build [z0] [(0,1)]) 12,oa 14 (.mkI T.fG) 13,mv 2 14] 0 [2] .ret) (sr [oi 16 pE 7 2,mv 15 16] 0 [3,7,15] (cd 15 (sw (r1 [mv 17 3,of 18 (.bH 1) [.t 17,kI 0] 1,lv 19 18,mv 20 3,of 21 (.bH 1) [.t 20,kI 1] 1,lv 22 21,mv 23 3,of 24 (.bH 1) [.t 23,kI 2] 1,lv 25 24,ob 26 (.build [z0,z0] [(0,1),(1,1)]) 22 25,ob 27 (.build [z0,z0,z0] [(0,1),(1,2)]) 19 26,oa 28 (.build [z0,z0,z0] [(0,3)]) 27,ou 29 (.mkI T.bP) 28 1,mv 2 29] 0 [2] []) .ret) (sr [oi 31 pE 7 3,mv 30 31] 0 [3,7,30] (cd 30 (sw (r1 [mv 32 3,of 33 (.bH 1) [.t 32,kI 0] 1,lv 34 33,mv 35 3,of 36 (.bH 1) [.t 35,kI 1] 1,lv 37 36,mv 38 3,of 39 (.bH 1) [.t 38,kI 2] 1,lv 40 39,ob 41 (.build [z0,z0] [(0,1),(1,1)]) 37 40,ob 42 (.build [z0,z0,z0] [(0,1),(1,2)]) 34 41,ou 43 (.mkI T.eP) 42 1,mv 2 43] 0 [2] []) .ret) (sr [oi 45 pE 7 4,mv 44 45] 0 [3,7,44] (cd 44 (sw (r1 [mv 46 3,of 47 (.bH 1) [.t 46,kI 0] 1,lv 48 47,mv 49 3,of 50 (.bH 1) [.t 49,kI 1] 1,lv 51 50,ob 52 (.build [z0,z0] [(0,1),(1,1)]) 48 51,ou 53 (.mkI T.dS) 52 1,mv 2 53] 0 [2] []) .ret) (sr [oi 55 pE 7 5,mv 54 55] 0 [3,54] (cd 54 (sr [mv 56 3,oi 57 (.bH 1) 56 0,lo 58 57,oa 59 (.build [z0] [(0,1)]) 58,oa 60 (.mkI T.fH) 59,mv 2 60] 0 [2] .ret) .skip)))))))))))) (sr [mv 61 3,oi 62 (.bH 1) 61 0,lo 63 62,oa 64 (.build [z0] [(0,1)]) 63,oa 65 (.mkI T.bI) 64,mv 2 65] 0 [2] .ret))))
def ku:aA:=(s0 [lo 5 0,oa 6 (.tas T.bI (.agg [z0])) 5,mv 4 6,xa 7 0 4,xa 8 1 4,al 2 0 [z0],sk 1 2 7 0,mv 3 8] 1 [0,1,2,3] [2] (sw (sr [mv 9 3,oa 10 pN 9] 0 [0,1,2,10] (cd 10 (sw (r1 [ou 11 ld 1 2,on 12 (.Fp false 1 228) [.t 0,.t 11,kI (-1)],lo 13 0,ob 14 (.call 229) 12 13] 0 [] []) .ret) .skip)) (sw (sw (r1 [ou 15 ld 1 2,oa 16 .bg 15,fu 17 3 16 2,ou 18 ld 17 2,fu 19 0 2 1,lv 20 19,ix 21 1 18 20,ou 22 ld 21 3] 0 [0,1,2,22] []) (cd 22 (rg [lo 23 0,oa 24 (.build [.nilIface] [(0,1)]) 23,oa 25 (.mkI T.iZ) 24,os .panic [.t 25] 0] 0 [1,2]) .skip)) (rg [lo 26 1,fa 27 0 2,lo 28 27,ob 29 (.call 228) 26 28] 0 []))))
def qO:aA:=(s0 [ba 3 0 1,mk 4 (.c (.nilPtr))] 1 [0,3,4] [3] (sw (r1 [mv 8 0,oa 9 .bg 8,fu 10 0 9 2,ou 11 ld 10 2,oa 12 .bg 11,ou 13 (.load true 17) 12 1,ou 14 (.kZ 148) 13 1,mv 15 0,oa 16 .bg 15,fu 17 1 16 2,ou 18 ld 17 2,on 19 (.mkMap 0) [],on 20 (.build [zs,zs,zs,z0,z0,zs,z0,zs,z0,z0,z0,zs,z0,z0,z0,z0,z0,zs,zs,.map none,z0,zs] [(0,17),(17,1),(19,1)]) [.t 14,.t 18,.t 19],ba 21 1 20,al 5 2 [.nilPtr],sk 1 5 21 6] 3 [0,3,4,5] []) (sw (sr [mv 22 0,oa 23 (.mkF (.func 280) 1) 22] 0 [3,4,5,23] (.block 0 (.nD (.t 23) [24,25] [3,5] (sr [mv 6 24] 0 [3,5,6,25] (rg [mv 7 25] 0 [3,5,6,7])) (b1 (sr [mv 26 6,lo 27 3,ob 28 pQ 26 27] 0 [5,7,28] (cd 28 (rg [lo 29 5,mv 30 7,ob 31 (.call 229) 29 30] 0 []) .skip)))))) (sr [lo 32 5,mv 4 32] 0 [4] .ret))))
def aY:aA:=(s0 [ba 3 0 1] 1 [0,3] [3] (sr [oa 26 (.mkF (.func 281) 0) 3,mv 4 26] 0 [0,3,4] (sr [lo 27 3] 0 [0,4,27] (.block 0 (sr [oa 28 (.tas T.fG (.agg [z0])) 27,xa 29 1 28,xa 30 0 28] 0 [0,4,27,29,30] (cd 29 (s0 [al 5 0 [z0],sk 1 5 30 0] 1 [0,4,5] [5] (sw (r1 [mv 32 0,oa 33 .bg 32,fu 34 0 33 2,fu 35 4 34 2,ou 36 (.load true 2) 35 2,fu 37 0 5 1,lv 38 37,ob 39 (.gG 260) 36 38,mv 31 39,xa 40 0 31,xa 41 1 31,al 6 0 [z0,z0,z0],sk 3 6 40 4,mv 7 41] 1 [0,4,5,7] []) (sr [mv 42 4,mv 43 7,oi 44 pE 43 0,mv 45 44,ov 46 .mov 0 45 0,ov 47 .bg 46 45 0,ov 48 (.fld 18) 47 45 0,ov 49 ld 48 45 0,ov 50 .len 49 45 0,ot 51 pL [.t 50,kI 8] 45 0,pf 52 45 51,ob 53 .dQ 42 52] 0 [0,5] (r1 [mv 54 0,mv 55 0,oa 56 .bg 55,fu 57 18 56 2,ou 58 ld 57 2,fu 59 0 5 1,lv 60 59,ou 61 (.dU 1 [z0] [0]) 60 1,ob 62 (.app 1 true) 58 61,oa 63 .bg 54,fu 64 18 63 2,sk 1 64 62 0] 0 [] [])))) (sr [oa 65 (.tas T.bP (.agg [z0,z0,z0])) 27,xa 66 1 65,xa 67 0 65] 0 [0,4,27,66,67] (cd 66 (s0 [al 8 0 [z0,z0,z0],sk 3 8 67 0] 1 [0,4,8] [8] (sw (r1 [mv 69 0,oa 70 .bg 69,fu 71 0 70 2,fu 72 0 71 2,ou 73 (.load true 2) 72 2,fu 74 0 8 1,ou 75 (.load true 3) 74 1,ob 76 (.KX 282) 73 75,mv 68 76,xa 77 0 68,xa 78 1 68,mv 9 77,mv 10 78] 0 [0,4,8,9,10] []) (sr [mv 79 4,mv 80 10,oi 81 pE 80 0,ob 82 .dQ 79 81] 0 [0,4,8,9] (sw (sr [mv 83 9,oa 84 .len 83,mi 85 0] 0 [0,4,8,83,84,85] (b1 (.loop (sr [ob 86 pL 85 84] 0 [0,4,8,83,84,85,86] (sw (cx 86 1) (sw (.block 2 (sr [ix 87 1 83 85,lo 88 87,mv 12 88] 0 [0,4,8,12,83,84,85] (sr [mv 90 0,oa 91 .bg 90,fa 92 19 91,lo 93 92,mv 94 12,ob 95 (.Jg true [] (.agg [z0,z0])) 93 94,mv 89 95,xa 96 0 89,xa 97 1 89,al 13 0 [z0,z0],sk 2 13 96 0,mv 14 97] 1 [0,4,8,14,83,84,85] (rg [mv 98 4,mv 99 14,ob 100 .dQ 98 99] 0 [0,4,8,83,84,85])))) (rg [oi 101 pA 85 1,mv 85 101] 0 [0,4,8,83,84,85]))))))) (sw (r1 [mv 102 0,oa 103 .bg 102,fu 104 0 103 2,fu 105 0 104 2,fu 106 0 105 2,ou 107 ld 106 2,fu 108 0 8 1,fu 109 0 108 1,lv 110 109,ix 111 3 107 110,fu 112 1 111 3,ou 113 (.load true 2) 112 3,al 15 0 [z0,z0],sk 2 15 113 4] 1 [0,4,8,15] [15]) (sr [ag 16 1] 0 [0,4,8,15,16] (sw (sr [fa 114 0 15,lo 115 114,fa 116 0 8,fa 117 1 116,fa 118 0 117,lo 119 118,ob 120 pQ 115 119] 0 [0,4,8,15,16,120] (cd 120 (sr [mv 121 0,fa 122 0 8,fa 123 1 122,fa 124 0 123,lo 125 124,ob 126 (.call 283) 121 125,mv 17 126] 0 [0,4,8,15,16,17] (sr [mv 127 4,mv 128 17,ob 129 .dQ 127 128] 0 [0,4,8,15,16] (rg [mv 130 16,fa 131 0 15,lo 132 131,oa 133 (.dU 1 [z0] [0]) 132,ob 134 (.app 1 false) 130 133,mv 16 134] 0 [0,4,8,15,16]))) .skip)) (sw (sr [fa 135 1 15,lo 136 135,fa 137 0 8,fa 138 1 137,fa 139 1 138,lo 140 139,ob 141 pQ 136 140] 0 [0,4,8,15,16,141] (cd 141 (sr [mv 142 0,fa 143 0 8,fa 144 1 143,fa 145 1 144,lo 146 145,ob 147 (.call 283) 142 146,mv 18 147] 0 [0,4,8,15,16,18] (sr [mv 148 4,mv 149 18,ob 150 .dQ 148 149] 0 [0,8,15,16] (rg [mv 151 16,fa 152 1 15,lo 153 152,oa 154 (.dU 1 [z0] [0]) 153,ob 155 (.app 1 false) 151 154,mv 16 155] 0 [0,8,16]))) .skip)) (sr [mv 156 0,mv 157 0,oa 158 .bg 157,fa 159 18 158,lo 160 159,mv 161 16,ob 162 (.app 1 false) 160 161,oa 163 .bg 156,fa 164 18 163,sk 1 164 162 0] 0 [0,8] (r1 [mv 165 0,oa 166 .bg 165,fu 167 0 166 2,fu 168 0 167 2,fu 169 0 168 2,ou 170 ld 169 2,fu 171 0 8 1,fu 172 0 171 1,lv 173 172,fu 174 0 8 1,fu 175 1 174 1,ou 176 (.load true 2) 175 1,ix 177 3 170 173,fu 178 1 177 3,sk 2 178 176 3] 0 [] [])))))))))) (sr [oa 179 (.tas T.eP (.agg [z0,z0,z0])) 27,xa 180 1 179,xa 181 0 179] 0 [0,4,27,180,181] (cd 180 (s0 [al 19 0 [z0,z0,z0],sk 3 19 181 0] 1 [0,4,19] [19] (sw (r1 [mv 183 0,oa 184 .bg 183,fu 185 19 184 2,ou 186 ld 185 2,fu 187 0 19 1,lv 188 187,ob 189 (.Jg true [] (.agg [z0,z0])) 186 188,mv 182 189,xa 190 0 182,xa 191 1 182,al 20 0 [z0,z0],sk 2 20 190 4,mv 21 191] 1 [0,4,19,21] []) (sr [mv 192 4,mv 193 21,oa 194 pN 193,ob 195 .dQ 192 194] 0 [0,19] (r1 [mv 196 0,oa 197 .bg 196,fu 198 19 197 2,ou 199 ld 198 2,fu 200 0 19 1,lv 201 200,fu 202 1 19 1,ou 203 (.load true 2) 202 1,os (.acf []) [.t 199,.t 201,.t 203] 0] 0 [] [])))) (sr [oa 204 (.tas T.dS (.agg [z0,z0])) 27,xa 205 1 204,xa 206 0 204] 0 [0,4,27,205,206] (cd 205 (s0 [al 22 0 [z0,z0],sk 2 22 206 0] 1 [0,4,22] [22] (sw (r1 [mv 208 0,oa 209 .bg 208,fu 210 19 209 2,ou 211 ld 210 2,fu 212 0 22 1,lv 213 212,ob 214 (.Jg true [] (.agg [z0,z0])) 211 213,mv 207 214,xa 215 0 207,xa 216 1 207,al 23 0 [z0,z0],sk 2 23 215 4,mv 24 216] 1 [0,4,22,23,24] [23]) (sw (r1 [mv 217 4,mv 218 24,mv 219 218,ov 220 .mov 0 219 0,ov 221 (.fld 0) 22 219 1,ov 222 ld 221 219 1,ov 223 (.load true 2) 23 219 1,ot 224 (.gG 284) [.t 220,.t 222,.t 223,kI 100] 219 0,pf 225 219 224,mv 226 225,ov 227 (.fld 1) 22 226 1,ov 228 ld 227 226 1,ov 229 .mov 0 226 0,ov 230 (.fld 0) 22 226 1,ov 231 ld 230 226 1,obT 232 (.gG 285) 229 231 226 0,obT 233 (.bin .geq) 228 232 226 0,pf 234 226 233,ob 235 .dQ 217 234] 0 [0,22,23] []) (sw (r1 [mv 236 0,oa 237 .bg 236,fu 238 19 237 2,ou 239 ld 238 2,fu 240 0 22 1,lv 241 240,os (.acd []) [.t 239,.t 241] 0] 0 [0,22,23] []) (sw (r1 [mv 242 0,oa 243 .bg 242,fu 244 0 243 2,fu 245 2 244 2,ou 246 ld 245 2,fu 247 0 22 1,lv 248 247,ou 249 (.load true 2) 23 1,ix 250 2 246 248,sk 2 250 249 0] 0 [0,22] []) (r1 [mv 251 0,oa 252 .bg 251,fu 253 20 252 2,ou 254 ld 253 2,fu 255 1 22 1,lv 256 255,ob 257 pA 254 256,oa 258 .bg 251,fu 259 20 258 2,sk 1 259 257 0] 0 [] [])))))) (sr [oa 260 (.tas T.fH (.agg [z0])) 27,xa 261 1 260,xa 262 0 260] 0 [0,4,261,262] (cd 261 (s0 [al 25 0 [z0],sk 1 25 262 0] 1 [0,4,25] [25] (sw (r1 [mv 263 4,mv 264 0,oa 265 .bg 264,fu 266 17 265 2,ou 267 ld 266 2,fu 268 0 25 1,lv 269 268,oi 270 pU 269 1,ob1 271 (.bH 2) 267 270 1,fu 272 1 271 1,lv 273 272,mv 274 273,ov 275 .mov 0 274 0,ov 276 .bg 275 274 0,ov 277 (.fld 21) 276 274 2,ov 278 ld 277 274 2,ov 279 .len 278 274 0,ot 280 pE [.t 279,kI 0] 274 0,ov 281 .mov 280 274 0,ow 282 (.fld 0) 25 281 1,ow 283 ld 282 281 1,ow 284 .mov 0 281 0,ow 285 .bg 284 281 0,ow 286 (.fld 21) 285 281 2,ow 287 ld 286 281 2,ow 288 .mov 0 281 0,ow 289 .bg 288 281 0,ow 290 (.fld 21) 289 281 2,ow 291 ld 290 281 2,ow 292 .len 291 281 0,oF 293 pU [.t 292,kI 1] 281 0,obF 294 (.bH 1) 287 293 281 0,ow 295 ld 294 281 3,obF 296 pG 283 295 281 0,ot 297 .pick [.t 281,.c (.bool true),.t 296] 274 0,pf 298 274 297,ob 299 .dQ 263 298] 0 [0,25] []) (r1 [mv 300 0,mv 301 0,oa 302 .bg 301,fu 303 21 302 2,ou 304 ld 303 2,fu 305 0 25 1,lv 306 305,ou 307 (.dU 1 [z0] [0]) 306 1,ob 308 (.app 1 false) 304 307,oa 309 .bg 300,fu 310 21 309 2,sk 1 310 308 0] 0 [] []))) .skip))))))))))))))
def qW:aA:=(s0 [on 5 (.aj 232) [],al 2 0 [ze,z0,ze,z0,ze,z0,ze,z0,ze,z0,ze,z0,ze,z0,ze,z0,ze,z0,ze,z0,ze,z0,ze,z0],sk 24 2 5 0] 1 [0,1,2] [2] (sw (r1 [lv 7 0,ou 8 (.UA true 2 12) 2 1,ob 9 (.call 223) 7 8,mv 6 9,xa 10 0 6,xa 11 1 6,mv 3 10,mv 4 11] 0 [1,3,4] []) (rg [mv 12 3,on 13 pA [kI 1,.t 12],mv 14 4,ob 15 (.build [z0,zs] [(0,1),(1,1)]) 13 14,sk 2 1 15 0] 0 [])))
def Aq:aA:=(sr [al 0 0 [ze,z0,ze,z0,ze,z0,ze,z0,ze,z0,ze,z0,ze,z0,ze,z0,ze,z0,ze,z0,ze,z0,ze,z0]] 1 [0] (sr [on 1 (.build [ze,z0] [(0,1),(1,1)]) [.c (.str ⟨#[104,97,110,100,115]⟩),kI 0],on 2 (.build [ze,z0] [(0,1),(1,1)]) [.c (.str ⟨#[115,116,111,99,107]⟩),kI 0],on 3 (.build [ze,z0] [(0,1),(1,1)]) [.c (.str ⟨#[111,112,101,110]⟩),kI 0],on 4 (.build [ze,z0] [(0,1),(1,1)]) [.c (.str ⟨#[112,114,105,99,101]⟩),kI 1],on 5 (.build [ze,z0] [(0,1),(1,1)]) [.c (.str ⟨#[110,101,101,100]⟩),kI 3],on 6 (.build [ze,z0] [(0,1),(1,1)]) [.c (.str ⟨#[111,102,102]⟩),kI 2],on 7 (.build [ze,z0] [(0,1),(1,1)]) [.c (.str ⟨#[119,114,111,110,103]⟩),kI 0],on 8 (.build [ze,z0] [(0,1),(1,1)]) [.c (.str ⟨#[119,111,114,107,115]⟩),kI 1],on 9 (.build [ze,z0] [(0,1),(1,1)]) [.c (.str ⟨#[100,97,116,101]⟩),kI 1],on 10 (.build [ze,z0] [(0,1),(1,1)]) [.c (.str ⟨#[99,117,116,115]⟩),kI 1],on 11 (.build [ze,z0] [(0,1),(1,1)]) [.c (.str ⟨#[99,111,105,110,115]⟩),kI 0],on 12 (.build [ze,z0] [(0,1),(1,1)]) [.c (.str ⟨#[115,116,97,110,100,115]⟩),kI 0],on 13 (.build [ze,z0,ze,z0,ze,z0,ze,z0,ze,z0,ze,z0,ze,z0,ze,z0,ze,z0,ze,z0,ze,z0,ze,z0] [(0,2),(2,2),(4,2),(6,2),(8,2),(10,2),(12,2),(14,2),(16,2),(18,2),(20,2),(22,2)]) [.t 1,.t 2,.t 3,.t 4,.t 5,.t 6,.t 7,.t 8,.t 9,.t 10,.t 11,.t 12],sk 24 0 13 0] 0 [0] .ret))
def qM:aA:=(rg [lo 2 0,oi 3 (.call 228) 2 (-1),fa 4 0 1,sk 1 4 3 0] 0 [])
def pV:aA:=(s0 [ba 2 0 0,ag 4 1,mi 5 0] 1 [2] [2] (sr [fa 13 0 2,lo 14 13,oa 15 .bg 14,fa 16 0 15,fa 17 0 16,lw 18 2 17,oa 19 (.aj 287) 18,mv 12 19,xa 20 0 12,xa 21 1 12,xa 22 2 12,mv 6 20,mv 7 21,mv 8 22] 0 [2,6,8] (sr [ag 9 1] 0 [2,6,8,9] (sw (sr [fa 23 0 2,lo 24 23,oa 25 .bg 24,fa 26 0 25,fa 27 0 26,fa 28 1 27,lo 29 28,oa 30 .len 29,mi 31 0] 0 [6,8,9,29,30,31] (lp (sr [ob 32 pL 31 30] 0 [6,8,9,29,30,31,32] (sw (cx 32 0) (sw (b1 (sr [ix 33 1 29 31,lo 34 33,mv 11 34] 0 [6,8,9,11,29,30,31] (r1 [mv 35 9,mv 36 6,mv 37 11,ob1 38 (.bH 2) 36 37 1,fu 39 0 38 1,lv 40 39,mv 41 6,mv 42 11,ob1 43 (.bH 2) 41 42 1,fu 44 1 43 1,lv 45 44,ob1 46 (.dU 1 [z0,z0] [0,1]) 40 45 1,ob 47 (.app 1 true) 35 46,mv 9 47] 0 [6,8,9,29,30,31] []))) (rg [oi 48 pA 31 1,mv 31 48] 0 [6,8,9,29,30,31])))))) (sr [mv 49 9,mv 50 8,mv 4 49,mv 5 50] 0 [4,5] .ret)))))
def iH:aA:=(s0 [ba 2 0 0,mk 4 cS,mi 5 0] 1 [2] [2] (sr [fa 6 0 2,lo 7 6,oa 8 .bg 7,fa 9 18 8,lo 10 9,oa 11 (.aj 289) 10,oa 12 (.kZ 288) 11,mv 4 12,mi 5 0] 0 [4,5] .ret))
def oC:aA:=(s0 [ba 2 0 0,ag 4 1,mi 5 0] 1 [2] [2] (sr [ag 6 1] 0 [2,6] (sw (sr [fa 10 0 2,lo 11 10,oa 12 .bg 11,fa 13 0 12,fa 14 0 13,fa 15 1 14,lo 16 15,oa 17 .len 16,mi 18 0] 0 [2,6,17,18] (lp (sr [ob 19 pL 18 17] 0 [2,6,17,18,19] (sw (cx 19 0) (sw (b1 (sr [mv 20 18,mv 7 20] 0 [2,6,7,17,18] (s0 [fa 22 0 2,lo 23 22,oa 24 .bg 23,fa 25 19 24,lo 26 25,mv 27 7,ob 28 (.Jg true [] (.agg [z0,z0])) 26 27,mv 21 28,xa 29 0 21,xa 30 1 21,al 8 0 [z0,z0],sk 2 8 29 0,mv 9 30] 1 [2,6,7,8,9,17,18] [8] (sr [mv 31 9] 0 [2,6,7,8,17,18,31] (cd 31 (rg [mv 32 6,mv 33 7,fa 34 0 8,lo 35 34,fa 36 1 8,lo 37 36,on 38 (.dU 1 [z0,z0,z0] [0,1,2]) [.t 33,.t 35,.t 37],ob 39 (.app 1 true) 32 38,mv 6 39] 0 [2,6,17,18]) .skip))))) (rg [oi 40 pA 18 1,mv 18 40] 0 [2,6,17,18])))))) (sr [mv 41 6,mv 4 41,mi 5 0] 0 [4,5] .ret))))
def jg:aA:=(s0 [ba 2 0 0,mk 4 cS,mi 5 0] 1 [1,2] [2] (sw (sw (r1 [fu 6 1 2 1,lv 7 6,mv 8 1,of 9 (.bH 1) [.t 8,kI 0] 1,lv 10 9,ob 11 (.aj 290) 7 10,oa 12 pN 11] 0 [1,2,12] []) (cd 12 (sr [mk 4 cS,mi 5 2] 0 [4,5] .ret) .skip)) (sw (r1 [fu 13 0 2 1,lv 14 13,mv 15 1,of 16 (.bH 1) [.t 15,kI 0] 1,lv 17 16,ob 18 (.aj 285) 14 17,ou 19 (.ng 1 [z0] [0]) 18 1,mv 4 19,mi 5 0] 0 [4,5] []) .ret)))
def aZ:aA:=(s0 [ba 2 0 0,ag 4 1,mi 5 0] 1 [1,2] [2] (sw (r1 [mv 16 1,of 17 (.bH 1) [.t 16,kI 0] 1,lv 18 17,mv 19 1,of 20 (.bH 1) [.t 19,kI 1] 1,lv 21 20,mv 22 1,of 23 (.bH 1) [.t 22,kI 2] 1,lv 24 23,mv 6 18,mv 7 21,mv 8 24] 0 [2,6,7,8] []) (sw (sr [fa 25 1 2,lo 26 25,mv 27 6,ob 28 (.aj 290) 26 27,oa 29 pN 28,mv 30 29,ow 31 .mov 7 30 0,ow 32 (.aj 291) 31 30 0,ow 33 pN 32 30 0,pt 34 30 33,mv 35 34,ow 36 .mov 8 35 0,ow 37 (.aj 291) 36 35 0,ow 38 pN 37 35 0,pt 39 35 38,mv 40 39,ow 41 .mov 8 40 0,ow 42 .mov 7 40 0,obF 43 pU 41 42 40 0,oF 44 (.aj 207) [.t 43,kI 0,kI 10] 40 0,ow 45 pN 44 40 0,pt 46 40 45] 0 [2,6,7,8,46] (cd 46 (sr [ag 4 1,mi 5 2] 0 [4,5] .ret) .skip)) (s0 [fa 48 0 2,lo 49 48,oa 50 .bg 49,fa 51 19 50,lo 52 51,mv 53 6,ob 54 (.Jg true [] (.agg [z0,z0])) 52 53,mv 47 54,xa 55 0 47,xa 56 1 47,al 9 0 [z0,z0],sk 2 9 55 0,mv 10 56] 1 [2,6,7,8,9,10] [9] (sw (sr [mv 57 10,oa 58 pN 57] 0 [2,6,7,8,9,58] (cd 58 (sr [ag 4 1,mi 5 7] 0 [4,5] .ret) .skip)) (sw (r1 [fu 60 0 2 1,lv 61 60,oa 62 .bg 61,fu 63 0 62 1,fu 64 0 63 1,ou 65 (.load true 2) 64 1,mv 66 7,mv 67 8,mv 68 6,ou 69 (.load true 2) 9 1,on 70 (.aj 292) [.t 65,.t 66,.t 67,.t 68,.t 69],mv 59 70,xa 71 0 59,xa 72 1 59,mv 11 71,mv 12 72] 0 [11,12] []) (sr [ag 13 1] 0 [11,12,13] (sw (sr [mv 73 11,oa 74 .len 73,mi 75 0] 0 [12,13,73,74,75] (lp (sr [ob 76 pL 75 74] 0 [12,13,73,74,75,76] (sw (cx 76 0) (sw (b1 (s0 [ix 77 3 73 75,lw 78 3 77,al 15 0 [z0,z0,z0],sk 3 15 78 0] 1 [12,13,15,73,74,75] [15] (rg [mv 79 13,fa 80 0 15,lo 81 80,fa 82 1 15,fa 83 0 82,lo 84 83,fa 85 1 15,fa 86 1 85,lo 87 86,on 88 (.dU 1 [z0,z0,z0] [0,1,2]) [.t 81,.t 84,.t 87],ob 89 (.app 1 true) 79 88,mv 13 89] 0 [12,13,73,74,75]))) (rg [oi 90 pA 75 1,mv 75 90] 0 [12,13,73,74,75])))))) (sr [mv 91 13,mv 92 12,mv 4 91,mv 5 92] 0 [4,5] .ret)))))))))
def fE:aA:=(s0 [ba 2 0 0,mk 4 cS,mi 5 0] 1 [1,2] [2] (sw (sw (r1 [fu 8 1 2 1,lv 9 8,mv 10 1,of 11 (.bH 1) [.t 10,kI 0] 1,lv 12 11,ob 13 (.aj 290) 9 12,oa 14 pN 13,mv 15 14,ow 16 (.fld 1) 2 15 1,ow 17 ld 16 15 1,ow 18 .mov 1 15 0,oF 19 (.bH 1) [.t 18,kI 1] 15 1,ow 20 ld 19 15 1,obF 21 (.aj 293) 17 20 15 0,ow 22 pN 21 15 0,pt 23 15 22] 0 [1,2,23] []) (cd 23 (sr [mk 4 cS,mi 5 2] 0 [4,5] .ret) .skip)) (sw (r1 [fu 25 0 2 1,lv 26 25,oa 27 .bg 26,fu 28 0 27 1,fu 29 0 28 1,ou 30 (.load true 2) 29 1,mv 31 1,of 32 (.bH 1) [.t 31,kI 0] 1,lv 33 32,fu 34 0 2 1,lv 35 34,oa 36 .bg 35,fu 37 0 36 1,fu 38 2 37 1,lv 39 38,mv 40 1,of 41 (.bH 1) [.t 40,kI 0] 1,lv 42 41,ob1 43 (.bH 2) 39 42 1,ou 44 (.load true 2) 43 1,ou 45 (.load true 2) 2 1,mv 46 1,of 47 (.bH 1) [.t 46,kI 1] 1,lv 48 47,ob 49 (.aj 295) 45 48,on 50 (.aj 294) [.t 30,.t 33,.t 44,.t 49],mv 24 50,xa 51 0 24,xa 52 1 24,mv 6 51,mv 7 52] 0 [6,7] []) (sr [mv 53 6,oa 54 (.ng 1 [z0] [0]) 53,mv 55 7,mv 4 54,mv 5 55] 0 [4,5] .ret))))
def pX:aA:=(s0 [ba 2 0 0,mk 4 cS,mi 5 0] 1 [2] [2] (.scope (sr [mi 6 0] 0 [2,6] (sw (.label 0) (sw (sr [fa 10 0 2,lo 11 10,oa 12 .bg 11,fa 13 17 12,lo 14 13,oa 15 .len 14,mi 16 0] 0 [2,6,15,16] (lp (sr [ob 17 pL 16 15] 0 [2,6,15,16,17] (sw (cx 17 0) (sw (b1 (sr [mv 18 16,mv 7 18] 0 [2,6,7,15,16] (sr [fa 19 0 2,lo 20 19,oa 21 .bg 20,fa 22 0 21,fa 23 2 22,lo 24 23,oa 25 .len 24,mi 26 0] 0 [2,6,7,15,16,24,25,26] (.block 2 (.loop (sr [ob 27 pL 26 25] 0 [2,6,7,15,16,24,25,26,27] (sw (cx 27 2) (sw (.block 3 (s0 [mv 28 26,ix 29 2 24 26,lw 30 2 29,al 9 0 [z0,z0],mv 8 28,sk 2 9 30 0] 1 [2,6,7,8,9,15,16,24,25,26] [9] (sw (r1 [fu 31 0 2 1,lv 32 31,mv 33 8,ou 34 (.load true 2) 9 1,ou 35 (.load true 2) 2 1,mv 36 7,oi 37 pA 36 1,ob 38 (.aj 295) 35 37,on 39 (.aj 284) [.t 32,.t 33,.t 34,.t 38],oa 40 pN 39] 0 [2,6,7,15,16,24,25,26,40] []) (cd 40 (sr [mv 41 6,oi 42 pA 41 1,mv 6 42] 0 [2,6,15,16] (.exit 1)) .skip)))) (rg [oi 43 pA 26 1,mv 26 43] 0 [2,6,7,15,16,24,25,26]))))))))) (rg [oi 44 pA 16 1,mv 16 44] 0 [2,6,15,16])))))) (sr [mv 45 6,oa 46 (.ng 1 [z0] [0]) 45,mv 4 46,mi 5 0] 0 [4,5] .ret))))))
def eu:aA:=(s0 [ba 2 0 0,mk 4 cS,mi 5 0] 1 [1,2] [2] (sw (sw (r1 [fu 8 1 2 1,lv 9 8,mv 10 1,of 11 (.bH 1) [.t 10,kI 0] 1,lv 12 11,ob 13 (.aj 293) 9 12,oa 14 pN 13] 0 [1,2,14] []) (cd 14 (sr [mk 4 cS,mi 5 2] 0 [4,5] .ret) .skip)) (sw (r1 [mv 16 1,of 17 (.bH 1) [.t 16,kI 0] 1,lv 18 17,fu 19 0 2 1,lv 20 19,oa 21 .bg 20,fu 22 17 21 1,lv 23 22,ou 24 .len 23 1,oa 25 (.mkF (.func 297) 0) 2,on 26 (.aj 296) [.t 18,.t 24,.t 25],mv 15 26,xa 27 0 15,xa 28 1 15,mv 6 27,mv 7 28] 0 [6,7] []) (sw (sr [mv 29 7,oa 30 pN 29] 0 [6,30] (cd 30 (sr [mk 4 cS,mi 5 5] 0 [4,5] .ret) .skip)) (sr [mv 31 6,oa 32 (.ng 1 [z0] [0]) 31,mv 4 32,mi 5 0] 0 [4,5] .ret)))))
def jh:aA:=(s0 [ba 2 0 0,mk 4 cS,mi 5 0] 1 [1,2] [2] (sw (sw (r1 [fu 8 1 2 1,lv 9 8,mv 10 1,of 11 (.bH 1) [.t 10,kI 0] 1,lv 12 11,ob 13 (.aj 293) 9 12,oa 14 pN 13] 0 [1,2,14] []) (cd 14 (sr [mk 4 cS,mi 5 2] 0 [4,5] .ret) .skip)) (sw (r1 [fu 16 0 2 1,lv 17 16,oa 18 .bg 17,fu 19 0 18 1,fu 20 6 19 1,ou 21 (.load true 2) 20 1,fu 22 0 2 1,lv 23 22,oa 24 .bg 23,fu 25 17 24 1,lv 26 25,mv 27 1,of 28 (.bH 1) [.t 27,kI 0] 1,lv 29 28,oi 30 pU 29 1,ob1 31 (.bH 2) 26 30 1,fu 32 0 31 1,lv 33 32,ob 34 (.aj 298) 21 33,mv 15 34,xa 35 0 15,xa 36 1 15,al 6 0 [z0,z0,z0],sk 3 6 35 4,mv 7 36] 1 [6,7] [6]) (sr [fa 37 1 6,lo 38 37,fa 39 2 6,lo 40 39,ob 41 (.ng 1 [z0,z0] [0,1]) 38 40,mv 42 7,mv 4 41,mv 5 42] 0 [4,5] .ret))))
def qP:aA:=(s0 [ba 2 0 0,mk 4 cS,mi 5 0] 1 [1,2] [2] (sw (r1 [fu 9 0 2 1,lv 10 9,oa 11 .bg 10,fu 12 0 11 1,fu 13 4 12 1,ou 14 (.load true 2) 13 1,mv 15 1,of 16 (.bH 1) [.t 15,kI 0] 1,lv 17 16,ob 18 (.aj 260) 14 17,mv 8 18,xa 19 0 8,xa 20 1 8,al 6 0 [z0,z0,z0],sk 3 6 19 4,mv 7 20] 1 [6,7] [6]) (sr [fa 21 0 6,lo 22 21,fa 23 1 6,lo 24 23,fa 25 2 6,lo 26 25,on 27 (.ng 1 [z0,z0,z0] [0,1,2]) [.t 22,.t 24,.t 26],mv 28 7,mv 4 27,mv 5 28] 0 [4,5] .ret)))
def qQ:aA:=(s0 [ba 2 0 0,mk 4 cS,mi 5 0] 1 [2] [2] (sr [fa 6 0 2,lo 7 6,oa 8 .bg 7,fa 9 20 8,lo 10 9,oa 11 (.ng 1 [z0] [0]) 10,mv 4 11,mi 5 0] 0 [4,5] .ret))
def gI:aA:=(s0 [ba 2 0 0,mk 4 cS,mi 5 0] 1 [2,4,5] [2] (sr [al 6 0 [zs]] 1 [2,4,5,6] (sw (sr [fa 8 1 2,lo 9 8,oa 10 (.mkF (.func 280) 1) 9] 0 [4,5,6,10] (.block 0 (.nD (.t 10) [11,12] [6] (rg [mv 7 11] 0 [6,7]) (b1 (rg [lo 13 6,mv 14 7,oa 15 (.dU 1 [z0] [0]) 14,ob 16 (.app 1 true) 13 15,sk 1 6 16 0] 0 []))))) (sr [lo 17 6,mv 4 17,mi 5 0] 0 [4,5] .ret))))
def rX:aA:=(sr [mv 4 0,oa 5 pN 4] 0 [1,5] (cd 5 (rg [mv 6 1,oa 7 (.build [ze] [(0,1)]) 6,oa 8 (.mkI T.rH) 7,os .panic [.t 8] 0] 0 []) .skip))
def qR:aA:=(sr [mf 2 false] 0 [0] (sr [mv 3 0,on 4 (.aj 207) [.t 3,kI 0,kI 9999],oa 5 pN 4,mv 2 5] 0 [2] .ret))
def iT:aA:=(sr [mv 6 0,oa 7 .bg 6,fa 8 2 7,lo 9 8,oa 10 .len 9,mi 11 0] 0 [0,1,9,10,11] (lp (sr [ob 12 pL 11 10] 0 [0,1,9,10,11,12] (sw (cx 12 0) (sw (b1 (s0 [mv 13 11,ix 14 2 9 11,lw 15 2 14,al 5 0 [z0,zs],mv 4 13,sk 2 5 15 0] 1 [0,1,4,5,9,10,11] [5] (sr [fa 16 0 5,lo 17 16,oi 18 pQ 17 6,mv 19 18,ov 20 .mov 0 19 0,ov 21 .bg 20 19 0,ov 22 (.fld 3) 21 19 0,ov 23 ld 22 19 0,ov 24 .mov 4 19 0,obT 25 (.bH 1) 23 24 19 0,ov 26 ld 25 19 0,ov 27 pN 26 19 0,pf 28 19 27,mv 29 28,ov 30 .mov 1 29 0,ov 31 .mov 4 29 0,ov 32 (.load true 2) 5 29 0,ov 33 (.aj 226) 32 29 0,ot 34 .dQ [.t 30,.t 31,.t 33] 29 0,ov 35 pN 34 29 0,pf 36 29 35] 0 [0,1,9,10,11,36] (cd 36 .ret .skip)))) (rg [oi 37 pA 11 1,mv 11 37] 0 [0,1,9,10,11]))))))
def ji:aA:=(sr [mv 3 0,oa 4 pN 3] 0 [1,4] (cd 4 (rg [lo 5 1,oa 6 (.build [.nilIface] [(0,1)]) 5,oa 7 (.mkI T.iZ) 6,os .panic [.t 7] 0] 0 []) .skip))
def qZ:aA:=(sr [mf 4 false] 0 [0,1] (sr [mv 6 0,oa 7 .bg 6,fa 8 18 7,lo 9 8,mv 10 1,ob 11 (.gG 196) 9 10,mv 5 11] 0 [0,5] (sw (sr [mv 12 5,oi 13 pL 12 0] 0 [0,5,13] (cd 13 (sr [mf 4 false] 0 [4] .ret) .skip)) (sr [mv 14 0,mv 15 0,oa 16 .bg 15,fa 17 18 16,lo 18 17,mv 19 5,mv 20 5,oi 21 pA 20 1,on 22 (.call 323) [.t 18,.t 19,.t 21],oa 23 .bg 14,fa 24 18 23,sk 1 24 22 0] 0 [] (sr [mf 4 true] 0 [4] .ret)))))
def qY:aA:=(s0 [ba 6 0 2,mf 8 false] 1 [0,1,3,6] [6] (sw (r1 [mv 12 0,oa 13 .bg 12,fu 14 0 13 1,fu 15 0 14 1,ou 16 (.load true 2) 15 1,mv 17 1,ou 18 (.load true 2) 6 1,mv 19 3,on 20 (.aj 294) [.t 16,.t 17,.t 18,.t 19],mv 11 20,xa 21 0 11,xa 22 1 11,mv 9 21,mv 10 22] 0 [0,9] []) (sw (r1 [mv 23 9,mv 24 0,oa 25 .bg 24,fu 26 0 25 1,fu 27 3 26 1,lv 28 27,oa 29 (.un .neg) 28,mv 30 0,oa 31 .bg 30,fu 32 0 31 1,fu 33 3 32 1,lv 34 33,on 35 (.aj 207) [.t 23,.t 29,.t 34],mv 8 35] 0 [8] []) .ret)))
def qc:aA:=(sr [mi 4 0] 0 [0,1] (sw (r1 [mv 14 0,oa 15 .bg 14,fu 16 0 15 1,fu 17 0 16 1,ou 18 (.load true 2) 17 1,mv 19 0,oa 20 .bg 19,fu 21 0 20 1,fu 22 0 21 1,fu 23 1 22 1,lv 24 23,mv 25 1,ob1 26 (.bH 1) 24 25 1,lv 27 26,ob 28 (.aj 324) 18 27,mv 13 28,xa 29 0 13,xa 30 1 13,mv 5 29,mv 6 30] 0 [0,5] []) (sw (r1 [mv 31 0,oa 32 .bg 31,fu 33 0 32 1,fu 34 13 33 1,lv 35 34,mv 36 0,oa 37 .bg 36,fu 38 0 37 1,fu 39 14 38 1,lv 40 39,mv 41 0,oa 42 .bg 41,fu 43 0 42 1,fu 44 15 43 1,lv 45 44,mv 46 0,oa 47 .bg 46,fu 48 0 47 1,fu 49 16 48 1,lv 50 49,on 51 (.build [zs,z0,z0,z0,z0,z0] [(1,1),(2,1),(3,1),(4,1)]) [.t 35,.t 40,.t 45,.t 50],al 7 0 [zs,z0,z0,z0,z0,z0],sk 6 7 51 4] 1 [5,7] []) (sw (sr [mv 52 5,oa 53 .len 52,mi 54 0] 0 [7,52,53,54] (lp (sr [ob 55 pL 54 53] 0 [7,52,53,54,55] (sw (cx 55 0) (sw (b1 (s0 [ix 56 2 52 54,lw 57 2 56,al 9 0 [z0,z0],sk 2 9 57 0] 1 [7,9,52,53,54] [9] (rg [fa 58 0 7,lo 59 58,fa 60 0 9,lo 61 60,fa 62 1 9,lo 63 62,ob 64 (.dU 1 [z0,z0] [0,1]) 61 63,ob 65 (.app 1 false) 59 64,fa 66 0 7,sk 1 66 65 0] 0 [7,52,53,54]))) (rg [oi 67 pA 54 1,mv 54 67] 0 [7,52,53,54])))))) (sr [lw 69 6 7,oa 70 (.gG 210) 69,mv 68 70,xa 71 0 68,xa 72 1 68,xa 73 2 68,mv 10 71,mv 11 72,mv 12 73] 0 [10] (sr [mv 74 10,mv 4 74] 0 [4] .ret))))))
def pO:aA:=(sr [mf 4 false] 0 [0,1] (sr [mv 5 1,mv 6 0,oa 7 .bg 6,fa 8 0 7,lo 9 8,oa 10 .bg 9,fa 11 0 10,fa 12 1 11,lo 13 12,oa 14 .len 13,oi 15 pU 14 1,on 16 (.aj 207) [.t 5,kI 0,.t 15],mv 4 16] 0 [4] .ret))
def vP:aA:=(sr [mf 2 false] 0 [0] (sr [mv 3 0,on 4 (.aj 207) [.t 3,kI 4,kI 60],mv 2 4] 0 [2] .ret))
def qN:aA:=(sr [mf 4 false] 0 [0,1] (sr [mv 5 1,mv 6 0,oa 7 .bg 6,fa 8 1 7,lo 9 8,oa 10 .len 9,on 11 (.aj 207) [.t 5,kI 1,.t 10],mv 4 11] 0 [4] .ret))
def pW:aA:=(s0 [ba 2 0 0,mi 4 0] 1 [1,2] [2] (sr [mi 5 0] 0 [1,2,5] (sw (sr [fa 8 0 2,lo 9 8,oa 10 .bg 9,fa 11 21 10,lo 12 11,oa 13 .len 12,mi 14 0] 0 [1,5,12,13,14] (lp (sr [ob 15 pL 14 13] 0 [1,5,12,13,14,15] (sw (cx 15 0) (sw (b1 (sr [ix 16 1 12 14,lo 17 16,mv 7 17] 0 [1,5,7,12,13,14] (sr [mv 18 7,mv 19 1,ob 20 (.bin .leq) 18 19] 0 [1,5,7,12,13,14,20] (cd 20 (rg [mv 21 7,mv 5 21] 0 [1,5,12,13,14]) .skip)))) (rg [oi 22 pA 14 1,mv 14 22] 0 [1,5,12,13,14])))))) (sr [mv 23 1,mv 24 5,ob 25 pU 23 24,mv 4 25] 0 [4] .ret))))
def sV:aA:=(sr [mi 6 0,mf 7 false] 0 [0,1,2] (sw (sr [mv 9 0,mv 8 9] 0 [1,2,8] (lp (sw (sr [mv 10 8,mv 11 1,ob 12 (.bin .leq) 10 11] 0 [1,2,8,12] (cx 12 0)) (sw (b1 (sr [mv 15 2,mv 16 8,ob 17 .dQ 15 16] 0 [1,2,8,17] (cd 17 (sr [mv 18 8,mv 6 18,mf 7 true] 0 [6,7] .ret) .skip))) (rg [mv 13 8,oi 14 pA 13 1,mv 8 14] 0 [1,2,8]))))) (sr [mi 6 0,mf 7 false] 0 [6,7] .ret)))
def nN:aA:=(sr [mf 3 false] 0 [0,1] (sr [fa 4 0 1,lo 5 4,oa 6 .bg 5,fa 7 17 6,lo 8 7,mv 9 0,oi 10 pU 9 1,ix 11 2 8 10,fa 12 1 11,lo 13 12,mv 3 13] 0 [3] .ret))
def qg:aA:=(s0 [ba 2 0 0,mf 4 false] 1 [1,2] [2] (sw (r1 [fu 5 0 2 1,lv 6 5,mv 7 1,oa 8 .bg 7,fu 9 2 8 1,lv 10 9,ou 11 .len 10 1,oi 12 pU 11 1,on 13 (.aj 207) [.t 6,kI 0,.t 12],mv 14 13,ov 15 .mov 1 14 0,ov 16 .bg 15 14 0,ov 17 (.fld 2) 16 14 1,ov 18 ld 17 14 1,ov 19 (.fld 0) 2 14 1,ov 20 ld 19 14 1,obT 21 (.bH 2) 18 20 14 1,ov 22 (.fld 0) 21 14 1,ov 23 ld 22 14 1,ot 24 pQ [.t 23,kI 6] 14 0,pf 25 14 24,mv 4 25] 0 [4] []) .ret))
def uD:aA:=(s0 [ba 2 0 0,mf 4 false] 1 [2] [2] (sr [fa 5 0 2,lo 6 5,oa 7 (.aj 291) 6,mv 4 7] 0 [4] .ret))
def pY:aA:=(s0 [ba 2 0 0,mf 4 false] 1 [1,2] [2] (sw (r1 [fu 5 0 2 1,fu 6 0 5 1,lv 7 6,mv 8 1,oa 9 .bg 8,fu 10 0 9 1,lv 11 10,oa 12 .bg 11,fu 13 0 12 1,fu 14 0 13 1,lv 15 14,ou 16 .len 15 1,oi 17 pU 16 1,on 18 (.aj 207) [.t 7,kI 0,.t 17],mv 19 18,ov 20 (.fld 0) 2 19 1,ov 21 (.fld 1) 20 19 1,ov 22 (.fld 0) 21 19 1,ov 23 ld 22 19 1,ov 24 (.aj 291) 23 19 0,pf 25 19 24,mv 26 25,ov 27 (.fld 0) 2 26 1,ov 28 (.fld 1) 27 26 1,ov 29 (.fld 1) 28 26 1,ov 30 ld 29 26 1,ov 31 (.aj 291) 30 26 0,pf 32 26 31,mv 4 32] 0 [4] []) .ret))
def qV:aA:=(s0 [ba 2 0 0,mf 4 false] 1 [1,2] [2] (sr [mv 5 1,fa 6 0 2,lo 7 6,ob 8 (.aj 290) 5 7,mv 9 8,ov 10 (.fld 1) 2 9 0,ov 11 (.load true 2) 10 9 0,ov 12 (.aj 213) 11 9 0,pf 13 9 12,mv 4 13] 0 [4] .ret))
def qX:aA:=(s0 [ba 2 0 0,mf 4 false] 1 [1,2] [2] (sr [mv 5 1,fa 6 0 2,lo 7 6,ob 8 (.aj 290) 5 7,mv 4 8] 0 [4] .ret))
def uH:aA:=(s0 [ba 2 0 0,mf 4 false] 1 [1,2] [2] (sr [mv 5 1,fa 6 0 2,lo 7 6,ob 8 (.aj 293) 5 7,mv 4 8] 0 [4] .ret))
def pJ:aA:=(sr [ba 2 0 0,ba 3 1 1,mi 4 0] 2 [2,3] (sw (sr [lo 9 2,oa 10 (.gG 224) 9,oa 11 pN 10] 0 [2,3,11] (cd 11 (sr [mi 4 1] 0 [4] .ret) .skip)) (sw (sr [lw 12 2 3,oa 13 (.gG 225) 12,oa 14 pN 13] 0 [2,3,14] (cd 14 (sr [mi 4 2] 0 [4] .ret) .skip)) (sw (sr [lo 15 2,oa 16 .bg 15,fa 17 2 16,lo 18 17,oa 19 .len 18,oi 20 pE 19 24] 0 [2,3,20] (cd 20 (sr [mi 4 3] 0 [4] .ret) .skip)) (s0 [lw 21 2 3,oa 22 (.yC 226) 21,al 5 0 [.nilIface],sk 1 5 22 0] 1 [2,3,5] [5] (sw (sr [lo 23 5,lo 24 2,ob 25 (.inv "tellurion/journeyman.fine") 23 24,oa 26 pN 25] 0 [2,3,5,26] (cd 26 (sr [mi 4 2] 0 [4] .ret) .skip)) (sr [ob 27 (.mkF (.func 227) 0) 5 2,oa 28 (.call 220) 27,mv 6 28] 0 [2,3,5,6] (sw (sr [mv 29 6,oi 30 pQ 29 0] 0 [2,3,5,6,30] (cd 30 (sr [mv 31 6,mv 4 31] 0 [4] .ret) .skip)) (sw (s0 [lo 33 5,oa 34 (.tas T.bI (.agg [z0])) 33,mv 32 34,xa 35 0 32,xa 36 1 32,al 7 0 [z0],sk 1 7 35 0,mv 8 36] 1 [2,3,7,8] [7] (sr [mv 37 8] 0 [2,3,7,37] (cd 37 (r1 [ou 38 ld 2 2,oa 39 .bg 38,fu 40 3 39 2,ou 41 ld 40 2,fu 42 0 7 1,lv 43 42,ix 44 1 41 43,os (.store 1) [.t 44,.c (.bool true)] 3] 0 [2,3] []) .skip))) (sw (r1 [ou 45 ld 2 2,ou 46 ld 2 2,oa 47 .bg 46,fu 48 2 47 2,ou 49 ld 48 2,fu 50 0 3 2,ou 51 ld 50 2,fu 52 1 3 2,ou 53 ld 52 2,oa 54 (.yC 215) 53,ob 55 (.build [z0,zs] [(0,1),(1,1)]) 51 54,ou 56 (.dU 2 [.agg [z0,zs]] [0]) 55 1,ob 57 (.app 2 false) 49 56,oa 58 .bg 45,fu 59 2 58 2,sk 1 59 57 0] 0 [2] []) (sw (r1 [ou 60 ld 2 2,ou 61 ld 2 2,oa 62 .bg 61,fu 63 3 62 2,ou 64 ld 63 2,of 65 (.dU 1 [.bool false] [0]) [.c (.bool false)] 1,ob 66 (.app 1 true) 64 65,oa 67 .bg 60,fu 68 3 67 2,sk 1 68 66 0] 0 [] []) (sr [mi 4 0] 0 [4] .ret))))))))))))
structure Su where
 pc:Pc
 tg:List Fr
 lim:Int
 dvd:Dvd
 cal:Cal
 oq:jV
 fs:List Fs
 year:Int
 l9:Int
 hours:Int
 xZ:Int
 pct:Int
 deriving DecidableEq,Inhabited
def Su.cells (s:Su)(l h t ci cy f:DV):List DV:=[l,h,t,dI s.lim,dI s.dvd.jO,ci,dI s.cal.ep,cy,dI s.oq.n,dI s.oq.d,dI s.oq.ad,f,dI s.year,dI s.l9,dI s.hours,dI s.xZ,dI s.pct]
def Su.cs (s:Su):List DV:=[sF (s.pc.links.map Lk.dv),sF (s.pc.hands.map ay),sF (s.tg.map Fr.dv),dI s.lim,dI s.dvd.jO,sF (s.dvd.cir.map ay),dI s.cal.ep,sF (s.cal.cy.map ay),dI s.oq.n,dI s.oq.d,dI s.oq.ad,sF (s.fs.map Fs.dv),dI s.year,dI s.l9,dI s.hours,dI s.xZ,dI s.pct]
def Su.dv (s:Su):DV:= .agg s.cs
variable{s:Su}
def Yy:s.cs=[sF (s.pc.links.map Lk.dv),sF (s.pc.hands.map ay),sF (s.tg.map Fr.dv),dI s.lim,dI s.dvd.jO,sF (s.dvd.cir.map ay),dI s.cal.ep,sF (s.cal.cy.map ay),dI s.oq.n,dI s.oq.d,dI s.oq.ad,sF (s.fs.map Fs.dv),dI s.year,dI s.l9,dI s.hours,dI s.xZ,dI s.pct]:=by rw[Su.cs]
def Jo:s.dv= .agg [sF (s.pc.links.map Lk.dv),sF (s.pc.hands.map ay),sF (s.tg.map Fr.dv),dI s.lim,dI s.dvd.jO,sF (s.dvd.cir.map ay),dI s.cal.ep,sF (s.cal.cy.map ay),dI s.oq.n,dI s.oq.d,dI s.oq.ad,sF (s.fs.map Fs.dv),dI s.year,dI s.l9,dI s.hours,dI s.xZ,dI s.pct]:=by rw[Su.dv,Su.cs]
def Su.bil (s:Su)(aU:List Int):Bil:=⟨aU,s.l9,s.hours,s.xZ,s.pct,0⟩
def Su.ok (s:Su):Bool:=s.pc.ok&&decide (s.tg.length=s.pc.hands.length)&&inR s.lim 0 10800&&s.dvd.ok&&(s.cal.ok&&s.oq.ok&&nX s.fs&&inR s.year 0 4000)&&(s.bil []).ok&&s.tg.all Fr.ok
def BI (n l h:Int):Pure C 207 [dI n,dI l,dI h] (.d (.bool (inR n l h))) []:=CW n l h
def mZ (n:Int):Pure C 291 [dI n] (.d (.bool (aT n))) []:=by
 refine ah vP aI ?_;simp only[vP,aI,RN,F]
 repeat' first
  |(refine ak (BI _ _ _) ?_;try simp only[RN,F,H,I,J,N,S])
  |(refine aJ (by rfl) (fun a=> ?_) (fun a=> ?_)<;>simp only[a,RN,F,H,I,J,N,S])
  |(refine aK (by rfl) (fun a=> ?_) (fun a=> ?_)<;>simp only[a,RN,F,H,I,J,N,S])
 all_goals(first|(simp only[aT, *,BSN];done)|(simp_all[aT];done)|(simp_all[aT];omega))
def ads (f:Fr):Pure C 213 [f.dv] (.d (.bool f.ok)) []:=by
 refine ah qU aI ?_;simp only[qU,aI,aS,RN,F,H,S]
 repeat' first
  |(refine ak (BI _ _ _) ?_;try simp only[aS,RN,F,H,I,J,N,S])
  |(refine aJ (by rfl) (fun a=> ?_) (fun a=> ?_)<;>simp only[a,RN,F,H,S])
  |(refine aK (by rfl) (fun a=> ?_) (fun a=> ?_)<;>simp only[a,aS,RN,F,H,I,J,N,S])
 all_goals(first|(simp only[Fr.ok, *,BSN];done)|(simp_all[Fr.ok];done)|(simp_all[Fr.ok];omega))
def abZ (f:Fr):Pure C 212 [f.dv] (.d (.bool (!f.ok))) []:=by
 refine ah sW aI ?_;simp only[sW,aI,aS,RN,F,H,S];have h:=ads f;rw[aS]at h;refine ak h ?_;(try simp only[RN])
structure Su.Small (s:Su):Prop where
 l:s.pc.links.length<=1000
 h:s.pc.hands.length<=1000
 t:s.tg.length<=1000
 ci:s.dvd.cir.length<=1000
 cy:s.cal.cy.length<=1000
def abt (c:Cal)(m:jV)(l:List Fs)(y:Int):∃d,wU c m l y= .tup [d,dI (if c.ok&&m.ok&&nX l&&inR y 0 4000 then 0 else 2)]:=by
 unfold wU
 split<;>exact⟨_,rfl⟩
def afM (d:Dvd):d.numbers.2=if d.ok then 0 else 2:=by unfold Dvd.numbers;split<;>rfl
def am5 (b:Bil):b.V3.2.2=if b.ok then 0 else 2:=by unfold Bil.V3;split<;>rfl
def afx (s:Su)(hs:s.Small):Pure C 147 [s.dv] (.d (.bool s.ok)) []:=by
 refine ah vO aI ?_;have h1:=aj0 s.pc hs.l hs.h;rw[lU]at h1;have h2:=ad8 s.dvd hs.ci;rw[Eu]at h2;have a:=XY s.cal s.oq false s.fs s.year (by have:=hs.cy;omega);rw[nU,rG]at a;have b:=agz (s.bil []) (by simp[Su.bil]);rw[abe]at b;have p:=Ui s.tg 212 [] (fun f=> !f.ok) (by have:=hs.t;omega) (by kernel_rfl) fun f _=>abZ f
 have z0:((0:Int) !=0)=false:=rfl;have q:((2:Int) !=0)=true:=rfl;have g:((0:Int)==0)=true:=rfl;have i:((2:Int)==0)=false:=rfl;simp only[vO,aI,Jo,RN,F,H,S];refine ak h1 ?_;cases j:s.pc.ok
 ·simp only[q,if_false,be,RN,F]
  simp[Su.ok,j]
 simp only[z0,if_true,V,RN,F,H,S]
 by_cases e:s.tg.length=s.pc.hands.length
 ·have z1:((s.tg.length:Int) !=(s.pc.hands.length:Int))=false:=by simp[e]
  simp only[z1,RN,F,H,S];refine ak (BI _ _ _) ?_;cases k:inR s.lim 0 10800
  ·(try simp only[RN,F])
   simp[Su.ok,k]
  (try simp only[RN,F,H,S]);obtain⟨r,c⟩:=abt s.cal s.oq s.fs s.year;rw[c]at a;rw[afM]at h2;rw[am5]at b;refine ak h2 ?_;(try simp only[RN]);refine ak a ?_;(try simp only[RN]);refine ak b ?_;cases m:s.dvd.ok
  ·simp only[i,if_false,be,RN,F]
   simp[Su.ok,m]
  cases n:s.cal.ok&&s.oq.ok&&nX s.fs&&inR s.year 0 4000
  ·simp only[i,g,if_false,if_true,be,RN,F]
   simp[Su.ok,n]
  cases o:(s.bil []).ok
  ·simp only[i,g,if_false,if_true,be,RN,F]
   simp[Su.ok,o]
  simp only[g,if_true,RN,F,H,S];refine ak p ?_;simp only[Ef,cp,RN];rw[Su.ok,j,k,m,n,o,decide_eq_true e];simp
 ·have z1:((s.tg.length:Int) !=(s.pc.hands.length:Int))=true:=by simp;omega
  simp only[z1,RN,F];simp[Su.ok,e]
def Eo (xs:List DV)(hf:∀y∈xs,y.fits 1=true)(hl:xs.length<=1000000):Pure C 215 [.slice false xs] (.tsl 0 0 0) [⟨1,xs,0,0⟩]:=by
 refine eU iU aI ?_;simp only[iU,aI,RN,F,N];refine⟨fun _=> ?_,fun a b=> ?_⟩
 ·(try simp only[RN,F,H,I,J,N,S])
  exact⟨hf,by simp,by simp,by omega,gJ (k:=1) (A:=⟨1,xs,0,0⟩) rfl rfl (av _) rfl⟩
 ·subst a
  cases b
  ·(try simp only[RN,F,N,S])
   (repeat(refine a6 (by first|assumption|rfl|(simp;done)|(simp;omega)) ?_))
   exact gJ (k:=1) (A:=⟨1,[],0,0⟩) rfl rfl (av _) rfl
  ·(try simp only[RN,F,N])
   exact gJ (k:=1) (A:=⟨1,[],0,0⟩) rfl rfl (av _) rfl
def aeN (xs:List DV)(hf:∀y∈xs,y.fits 4=true)(hl:xs.length<=1000000):Pure C 217 [.slice false xs] (.tsl 0 0 0) [⟨4,xs,0,0⟩]:=by
 refine eU fP aI ?_;simp only[fP,aI,RN,F,N];refine⟨fun _=> ?_,fun a b=> ?_⟩
 ·(try simp only[RN,F,H,I,J,N,S])
  exact⟨hf,by simp,by simp,by omega,gJ (k:=1) (A:=⟨4,xs,0,0⟩) rfl rfl (av _) rfl⟩
 ·subst a
  cases b
  ·(try simp only[RN,F,N,S])
   (repeat(refine a6 (by first|assumption|rfl|(simp;done)|(simp;omega)) ?_))
   exact gJ (k:=1) (A:=⟨4,[],0,0⟩) rfl rfl (av _) rfl
  ·(try simp only[RN,F,N])
   exact gJ (k:=1) (A:=⟨4,[],0,0⟩) rfl rfl (av _) rfl
def aeM (xs:List DV)(hf:∀y∈xs,y.fits 2=true)(hl:xs.length<=1000000)(a:xs≠[]):Pure C 216 [.slice false xs] (.tsl 0 0 0) [⟨2,xs,0,1⟩]:=by
 refine eU kF aI ?_;simp only[kF,aI,RN,F,N];refine⟨fun _=> ?_,fun b=>absurd b a⟩;exact⟨hf,a,by simp,by omega,gJ (k:=1) (A:=⟨2,xs,0,1⟩) rfl rfl (av _) rfl⟩
def Su.rows (s:Su):List Arr:=[⟨3,s.pc.links.map Lk.dv,0,1⟩,⟨1,s.pc.hands.map ay,0,0⟩,⟨2,s.tg.map Fr.dv,0,1⟩,⟨4,s.fs.map Fs.dv,0,0⟩,⟨1,s.dvd.cir.map ay,0,0⟩,⟨1,s.cal.cy.map ay,0,0⟩]
def Su.pv (s:Su):PV:= .agg [.tsl 0 0 0, .tsl 1 0 0, .tsl 2 0 0,pI s.lim,pI s.dvd.jO, .tsl 4 0 0,pI s.cal.ep, .tsl 5 0 0,pI s.oq.n,pI s.oq.d,pI s.oq.ad, .tsl 3 0 0,pI s.year,pI s.l9,pI s.hours,pI s.xZ,pI s.pct]
structure Su.Some (s:Su):Prop where
 l:s.pc.links≠[]/\s.pc.links.length<=1000
 t:s.tg≠[]/\s.tg.length<=1000
 h:s.pc.hands.length<=1000
 f:s.fs.length<=1000
 ci:s.dvd.cir.length<=1000
 cy:s.cal.cy.length<=1000
def wB {l:List Int}:∀y∈l.map ay,DV.fits 1 y=true:=by
 intro y a;simp only[aE]at a;obtain⟨z,_,rfl⟩:=a;rfl
def Yx (s:Su)(hs:s.Some):Pure C 148 [s.dv] s.pv s.rows:=by
 have h1:=UR (s.pc.links.map Lk.dv) (by intro y a;simp only[aE]at a;obtain⟨z,_,rfl⟩:=a;rfl) (by have:=hs.l.2;simp;omega) (by simpa using hs.l.1);have h2:=Eo (s.pc.hands.map ay) wB (by have:=hs.h;simp;omega);have b:=aeM (s.tg.map Fr.dv) (by intro y a;simp only[aE]at a;obtain⟨z,_,rfl⟩:=a;rfl) (by have:=hs.t.2;simp;omega) (by simpa using hs.t.1);have c:=aeN (s.fs.map Fs.dv) (by intro y a;simp only[aE]at a;obtain⟨z,_,rfl⟩:=a;rfl) (by have:=hs.f;simp;omega);have d:=Eo (s.dvd.cir.map ay) wB (by have:=hs.ci;simp;omega);have e:=Eo (s.cal.cy.map ay) wB (by have:=hs.cy;simp;omega);refine eU xE aje ?_;simp only[xE,aje,Jo,RN,F,H,N,S];refine mF rfl rfl h1 (by simp) ?_;simp only[PV.shift,jw,RN,H,S]
 (repeat(refine a6 (by first|assumption|rfl|(simp;done)|(simp;omega)) ?_))
 refine mF rfl rfl h2 (by simp) ?_;simp only[PV.shift,jw,dJ,dO,RN,H,N,S]
 (repeat(refine a6 (by first|assumption|rfl|(simp;done)|(simp;omega)) ?_))
 refine mF rfl rfl b (by simp) ?_;simp only[PV.shift,jw,RN,H,S]
 (repeat(refine a6 (by first|assumption|rfl|(simp;done)|(simp;omega)) ?_))
 refine mF rfl rfl c (by simp) ?_;simp only[PV.shift,jw,dJ,dO,RN,H,N,S]
 (repeat(refine a6 (by first|assumption|rfl|(simp;done)|(simp;omega)) ?_))
 refine mF rfl rfl d (by simp) ?_;simp only[PV.shift,jw,RN,H,S]
 (repeat(refine a6 (by first|assumption|rfl|(simp;done)|(simp;omega)) ?_))
 refine mF rfl rfl e (by simp) ?_;simp only[PV.shift,jw,dJ,dO,RN,H,S]
 (repeat(refine a6 (by first|assumption|rfl|(simp;done)|(simp;omega)) ?_))
 simp only[bD,dD,gQ,RN,H];exact⟨[(0,0),(1,0),(2,0),(3,0),(4,0),(5,0)],⟨by simp[BK],by decide⟩,rfl,rfl⟩
variable{x:DV}
def afU {C:Ctx}{f:FuncId}{ds:List DV}{r:PV}{a:List Arr}(h:Pure C f ds r a)(hd:datum (rowsOf a) r=some x):Pure C f ds (.d x) []:=by
 intro X w c k n s p;refine(h X w c k n s p).mono fun e u m=> ?_
 obtain⟨v,t,rfl,h2,i,j⟩:=m;have g:xA (rowsOf a) []:=⟨fun q o=>(by cases o),List.nodup_nil⟩
 exact⟨v,_,rfl,Nr h2 g,Gy i g, .d ((jB (ps:=[r]) h2 j hd (by simp)).weaken fun b l=> .inl (sG b l))⟩
def ahc (s:Su)(hs:s.Some):Pure C 148 [s.dv] (.d s.dv) []:=afU (Yx s hs) (by rw[Jo];rfl)
def Su.dates (s:Su):List Int:=s.fs.map (CV s.cal s.oq s.year)
def Su.works (s:Su)(n:Int):Bool:=(n+4).tmod 7 !=0&& !s.dates.contains n
def Su.first (s:Su):Int:=s.cal.first s.year.toNat
def Su.dur (s:Su):Nat:=(Et (s.cal.leap s.year)).toNat
def Su.vZ (s:Su)(k:Nat):List (Int×Bool):=(List.range k).map fun(i:Nat)=>(s.first+i,s.works (s.first+i))
def Su.days (s:Su):List (Int×Bool):=s.vZ s.dur
def Bv (d:Int×Bool):DV:= .agg [dI d.1, .bool d.2]
def abf {d:Int×Bool}:Bv d= .agg [dI d.1, .bool d.2]:=by rw[Bv]
def YB (s:Su)(k:Nat):s.vZ (k+1)=s.vZ k++ [(s.first+k,s.works (s.first+k))]:=by simp[Su.vZ,List.range_succ]
def Su.facts (h:s.ok=true):s.pc.ok=true/\s.tg.length=s.pc.hands.length/\inR s.lim 0 10800=true/\s.dvd.ok=true/\s.cal.ok=true/\s.oq.ok=true/\nX s.fs=true/\(0<=s.year/\s.year<=4000)/\(s.bil []).ok=true/\∀f∈s.tg,f.ok=true:=by
 simp only[Su.ok,ai,decide_eq_true_eq,bL]at h;obtain⟨⟨⟨⟨⟨⟨h1,h2⟩,b⟩,c⟩,⟨⟨d,e⟩,g⟩,i⟩,j⟩,a⟩:=h;exact⟨h1,h2,b,c,d,e,g,by simpa[inR]using i,j,a⟩
def Pc.CY {p:Pc}(h:p.ok=true):(1<=p.links.length/\p.links.length<=5)/\1<=p.hands.length/\p.hands.length<=4:=by
 simp only[Pc.ok,ai,inR,decide_eq_true_eq]at h;omega
def Su.QB (h:s.ok=true):s.Some:=by
 obtain⟨h1,h2,_,b,c,j,d,_⟩:=Su.facts h;obtain⟨a,f⟩:=Pc.CY h1;obtain⟨_,b1,_⟩:=Dvd.Zx b;obtain⟨_,g,_⟩:=Cal.facts c;obtain⟨i,_⟩:=zN d;exact⟨⟨fun e=>by rw[e]at a;simp at a,by omega⟩,⟨fun e=>by rw[e]at h2;simp at h2;omega,by omega⟩,by omega,by omega,by omega,by omega⟩
def abv {c:Cal}{y:Int}(hc:c.ok=true)(f:0<=y/\y<=4000):YA c ⟨y,1,1⟩= .tup [dI (c.first y.toNat),dI 0]/\YA c ⟨y,12,31⟩= .tup [dI (c.first y.toNat+Et (c.leap y) - 1),dI 0]:=by
 have d:inR y 0 4000=true:=by simp[inR];omega
 have b:(c.firsts 4002).getD y.toNat default=c.first y.toNat:=nZ c (by omega);constructor
 ·have e:rP c ⟨y,1,1⟩=true:=by cases a:c.leap y<;>simp[rP,a,cZ,inR]<;>omega
  rw[YA,hc,e];simp only[bk,if_true,J5,b];simp[jy]
 ·have e:rP c ⟨y,12,31⟩=true:=by cases a:c.leap y<;>simp[rP,a,cZ,inR]<;>omega
  rw[YA,hc,e];simp only[bk,if_true,J5,b];cases a:c.leap y<;>simp[jy,cZ,Et]<;>omega
def aoM (s:Su)(hs:s.ok=true):Pure C 149 [s.dv] (.d (sF (s.days.map Bv))) []:=by
 obtain⟨h1,h2,A,B,e,t,j,u,D,r⟩:=Su.facts hs;obtain⟨E,G,I⟩:=Cal.facts e;obtain⟨o,p⟩:=abv e u;have l:=ams s.cal ⟨s.year,1,1⟩ (by omega);have m:=ams s.cal ⟨s.year,12,31⟩ (by omega);have n:=XY s.cal s.oq false s.fs s.year (by omega);have f:wU s.cal s.oq s.fs s.year= .tup [sF (s.dates.map ay),dI 0]:=by
  rw[wU,e,t,j,show inR s.year 0 4000=true by simp[inR];omega];rfl
 rw[o,nU,Bz]at l;rw[p,nU,Bz]at m;rw[f,nU,rG]at n;have w:=s.cal.nY s.year.toNat;have hd:Et (s.cal.leap s.year)=s.dur:=by have:=wS (s.cal.leap s.year);unfold Su.dur;split at this<;>omega
 have v:s.dur<=366/\365<=s.dur:=by have:=wS (s.cal.leap s.year);unfold Su.dur;split at this<;>omega
 have e1:cA .i64 (s.cal.first s.year.toNat+Et (s.cal.leap s.year) - 1 - s.cal.first s.year.toNat)=(s.dur:Int) - 1:=by rw[aF (by omega)];omega
 have e2:cA .i64 ((s.dur:Int) - 1+1)=(s.dur:Int):=by rw[aF (by omega)];omega
 refine bM (aB Au aI ?_);simp only[Au,aI,Jo,RN,F,H,N,S];refine ak l ?_;(try simp only[RN]);refine ak m ?_;(try simp only[RN]);refine ak n ?_;simp only[e1,e2,RN];have aqX:s.dates.length<=6:=by
  have:=(zN j).1;simp[Su.dates];omega
 refine aG s.dur (fun i (_:Unit)=>⟨[(3,pI (s.cal.first s.year.toNat)),(7, .d (sF (s.dates.map ay))),(9, .tsl 1 i 0),(45,pI s.dur),(46,pI i)],
   ⟨[some (s.cs.map .d)],[0],[some ⟨2,[],0,0⟩,some ⟨2,(s.vZ i).map Bv,i,0⟩]⟩⟩)
  (fun _ _=>True) 0 () (av _) (by rw[Yy];rfl) trivial (fun i _ c _=> ?_) (fun _ _=> ?_)
 ·obtain⟨q,z,h⟩:=rng c (by omega)
  have w1:cA .i64 (s.cal.first s.year.toNat+(i:Int))=s.cal.first s.year.toNat+i:=aF (by omega);have y:cA .i64 (s.cal.first s.year.toNat+(i:Int)+4)=s.cal.first s.year.toNat+i+4:=aF (by omega);have b1:0<=(s.cal.first s.year.toNat+(i:Int)+4).tmod 7:=Int.tmod_nonneg 7 (by omega);have b2:(s.cal.first s.year.toNat+(i:Int)+4).tmod 7<7:=Int.tmod_lt_of_pos _ (by decide);have K:cA .i64 ((s.cal.first s.year.toNat+(i:Int)+4).tmod 7)=(s.cal.first s.year.toNat+(i:Int)+4).tmod 7:=aF (by omega);have x:¬((7:Int)=0):=by decide
  have b:(s.vZ i).length=i:=by simp[Su.vZ]
  have a:(s.vZ i).map Bv++ [.agg [dI (s.cal.first s.year.toNat+i), .bool (s.works (s.cal.first s.year.toNat+i))]]=(s.vZ (i+1)).map Bv:=by
   rw[YB,bp];rfl
  simp only[q,w1,y,x,RN,F];cases k:((s.cal.first s.year.toNat+(i:Int)+4).tmod 7 !=0)
  ·have g:s.works (s.cal.first s.year.toNat+i)=false:=by rw[Su.works,k];rfl
   rw[g]at a;simp only[h,DV.strip,forall_eq,b,V,RN,F,H,J,N,S]
   (repeat(refine a6 (by first|assumption|rfl|(simp;done)|(simp;omega)) ?_))
   refine⟨by omega,?_⟩;rw[a];exact dH (len:=s.dur) (i:=i) () c rfl trivial
  ·have g:s.works (s.cal.first s.year.toNat+i)= !s.dates.contains (s.cal.first s.year.toNat+i):=by rw[Su.works,k];rfl
   rw[g]at a;(try simp only[RN,F,H,S]);refine cO rfl rfl (qH s.dates _ (by omega)) ?_;simp only[h,DV.strip,forall_eq,b,V,RN,F,H,J,N,S]
   (repeat(refine a6 (by first|assumption|rfl|(simp;done)|(simp;omega)) ?_))
   refine⟨by omega,?_⟩;rw[a];exact dH (len:=s.dur) (i:=i) () c rfl trivial
 ·simp only[bl,RN,F]
  simp[datum,Mem.row,Su.days]
structure En where
 kind:Int
 ns:List Int
 deriving DecidableEq,Inhabited
def En.dv (x:En):DV:= .agg [dI x.kind,sF (x.ns.map ay)]
def Fv {x:En}:x.dv= .agg [dI x.kind,sF (x.ns.map ay)]:=by rw[En.dv]
inductive De where
 |cut (aU:Int)
 |change (c:Chg)
 |order (hand:Int) (f:Fr)
 |serve (hand lF:Int)
 |set (day:Int)
 |strike (entry:Int)
 deriving DecidableEq,Inhabited
def De.cs:De->DV
 | .cut t=> .agg [.int .i64 t]
 | .change c=> .agg [.int .i64 c.link, .int .i64 c.pr.a, .int .i64 c.pr.b]
 | .order h f=> .agg [.int .i64 h, .int .i64 f.n, .int .i64 f.d]
 | .serve h c=> .agg [.int .i64 h, .int .i64 c]
 | .set d=> .agg [.int .i64 d]
 | .strike e=> .agg [.int .i64 e]
def De.ty:De->TypeId
 | .cut _=>T.fG
 | .change _=>T.bP
 | .order _ _=>T.eP
 | .serve _ _=>T.dS
 | .set _=>T.fH
 | .strike _=>T.bI
def De.dv (x:De):DV:= .iface x.ty x.cs
def xu (k:Int):Nat:=if k=2\/k=3 then 3 else if k=4 then 2 else 1
def En.n (x:En)(i:Nat):Int:=x.ns.getD i default
def En.deed (x:En):De:=
 if x.kind=1 then .cut (x.n 0)else if x.kind=2 then .change ⟨x.n 0,⟨x.n 1,x.n 2⟩⟩else if x.kind=3 then .order (x.n 0) ⟨x.n 1,x.n 2⟩else if x.kind=4 then .serve (x.n 0) (x.n 1)else if x.kind=5 then .set (x.n 0)else .strike (x.n 0)
variable{base:Nat}{M:Mem}{K:PV->Mem->Prop}{KP:DV->Mem->Prop}
def Po {C:Ctx}{t:TypeId}:au C base (.mkI t) [.d x] M K KP=K (.d (.iface t x)) M:=by
 have:=BG (M:=M) (ds:=[x]);simp only[aL,bt]at this;simp only[au,datum,this]
def QY (x:En)(e:xu x.kind<=x.ns.length):Pure C 226 [x.dv] (.d x.deed.dv) []:=by
 have i:(0:Int)<=1:=by omega
 have j:(0:Int)<=2:=by omega
 refine ah xG aI ?_;simp only[xG,aI,Fv,RN,F,H,S]
 by_cases h1:x.kind=1
 ·have b1:(x.kind==1)=true:=by simp[h1]
  have a:0<x.ns.length:=by simp[xu,h1]at e;omega
  simp only[b1,j0,t0,a,V,getD_map,aW,Po,RN,F,S];simp only[De.dv,En.deed,h1,if_true,De.ty,De.cs,En.n]
 have b1:(x.kind==1)=false:=by simp[h1]
 by_cases h2:x.kind=2
 ·have b2:(x.kind==2)=true:=by simp[h2]
  have a:0<x.ns.length/\1<x.ns.length/\2<x.ns.length:=by simp[xu,h2]at e;omega
  simp only[b1,b2,j0,i,j,t0,t1,t2,a.1,a.2.1,a.2.2,V,getD_map,aW,Po,RN,F,H,S];simp only[De.dv,En.deed,h2,if_true,De.ty,De.cs,En.n]
  rfl
 have b2:(x.kind==2)=false:=by simp[h2]
 by_cases b:x.kind=3
 ·have b3:(x.kind==3)=true:=by simp[b]
  have a:0<x.ns.length/\1<x.ns.length/\2<x.ns.length:=by simp[xu,b]at e;omega
  simp only[b1,b2,b3,j0,i,j,t0,t1,t2,a.1,a.2.1,a.2.2,V,getD_map,aW,Po,RN,F,H,S];simp only[De.dv,En.deed,b,if_true,De.ty,De.cs,En.n]
  rfl
 have b3:(x.kind==3)=false:=by simp[b]
 by_cases c:x.kind=4
 ·have f:(x.kind==4)=true:=by simp[c]
  have a:0<x.ns.length/\1<x.ns.length:=by simp[xu,c]at e;omega
  simp only[b1,b2,b3,f,j0,i,t0,t1,a.1,a.2,V,getD_map,aW,Po,RN,F,H,S];simp only[De.dv,En.deed,c,if_true,De.ty,De.cs,En.n]
  rfl
 have f:(x.kind==4)=false:=by simp[c]
 have a:0<x.ns.length:=by simp[xu,h2,b,c]at e;omega
 by_cases g:x.kind=5
 ·have h:(x.kind==5)=true:=by simp[g]
  simp only[b1,b2,b3,f,h,j0,t0,a,V,getD_map,aW,Po,RN,F,S];simp only[De.dv,En.deed,g,if_true,De.ty,De.cs,En.n]
  rfl
 have h:(x.kind==5)=false:=by simp[g]
 simp only[b1,b2,b3,f,h,j0,t0,a,V,getD_map,aW,Po,RN,F,S];simp only[De.dv,En.deed,h1,h2,b,c,g,if_false,De.ty,De.cs,En.n]
structure Sp where
 pc:Pc
 tg:List Fr
 fA:List Int
 op:List (Int×Fr)
 lF:Int
 sets:List Int
 deriving DecidableEq,Inhabited
def opD (l:List (Int×Fr)):List (DV×DV):=l.map fun p=>(dI p.1,p.2.dv)
def Sp.cells (e1 e2:Bool)(s:Su)(t:Sp):List DV:=[sF (t.pc.links.map Lk.dv),sF (t.pc.hands.map ay),sF (t.tg.map Fr.dv),dI s.lim,dI s.dvd.jO,sF (s.dvd.cir.map ay),dI s.cal.ep,sF (s.cal.cy.map ay),dI s.oq.n,dI s.oq.d,dI s.oq.ad,sF (s.fs.map Fs.dv),dI s.year,dI s.l9,dI s.hours,dI s.xZ,dI s.pct,
 sF (s.days.map Bv), .slice e1 (t.fA.map ay), .map (some (opD t.op)),dI t.lF, .slice e2 (t.sets.map ay)]
variable{t:Sp}
def cu {e1 e2:Bool}:t.cells e1 e2 s=[sF (t.pc.links.map Lk.dv),sF (t.pc.hands.map ay),sF (t.tg.map Fr.dv),dI s.lim,dI s.dvd.jO,sF (s.dvd.cir.map ay),dI s.cal.ep,sF (s.cal.cy.map ay),dI s.oq.n,dI s.oq.d,dI s.oq.ad,sF (s.fs.map Fs.dv),dI s.year,dI s.l9,dI s.hours,dI s.xZ,dI s.pct,
 sF (s.days.map Bv), .slice e1 (t.fA.map ay), .map (some (opD t.op)),dI t.lF, .slice e2 (t.sets.map ay)]:=by rw[Sp.cells]
def U9 (s:Su)(t:Sp)(hand:Int)(f:Fr)(turns:Int):Bool:=inR (wM t.pc hand f turns).1 (-s.lim) s.lim
def aif (e1 e2:Bool)(s:Su)(t:Sp)(hand:Int)(f:Fr)(turns:Int)(hl:t.pc.links.length<=1000)(hh:t.pc.hands.length<=1000)(b:0<=s.lim/\s.lim<=10800):Pure C 284 [.aP (t.cells e1 e2 s),dI hand,f.dv,dI turns] (.d (.bool (U9 s t hand f turns))) []:=by
 have a:=ac1 t.pc hl hh hand f turns;rw[lU,aS]at a;have w1:cA .i64 (0 - s.lim)= -s.lim:=by rw[aF (by omega)];omega
 refine ah qY OB ?_;simp only[qY,OB,cu,aS,RN,F,H,S];refine ak a ?_;simp only[w1,RN];refine ak (BI _ _ _) ?_;simp only[U9]
def jU (l:List Pr):List Int:=l.flatMap fun p=>[p.a,p.b]
def KC (s:Su)(t:Sp)(hand:Nat):Int:=(s.bil (jU (l7 t.pc.links (t.pc.hands.getD hand default).toNat))).V3.1
def Ju (l:List Pr):(jU l).length=2*l.length:=by
 induction l with
 |nil=>rfl
 |cons x l a=>simp only[jU,cg,Y,aD,aw]at a⊢;omega
def Q8 {C:Ctx}{z1 c:DV}{k k':IntKind}{a b:Int}:au C base (.dU 1 [z1,c] [0,1]) [.d (.int k a), .d (.int k' b)] M K KP=K (.d (.slice true [.int k a, .int k' b])) M:=by
 have:=BG (M:=M) (ds:=[DV.int k a, .int k' b]);simp only[aL,bt]at this;simp[au,bV,datum,qJ,this,DV.strip,DV.cells]
def prC:Nat->PV
 |0=> .d (.slice true [])
 |i+1=> .tsl 0 i 0
def prA (l:List Pr):Nat->List (Option Arr)
 |0=>[]
 |i+1=>[some ⟨1,(jU (l.take (i+1))).map ay,i,0⟩]
def aiP (s:Su)(l:List Pr)(i:Nat):St:=
 ⟨[(7, .ptr 0 0),(52, .d (sF (l.map Pr.dv))),(53,pI l.length),(54,pI i)],
  ⟨[some [prC i,pI s.l9,pI s.hours,pI s.xZ,pI s.pct,pI 0]],[],prA l i⟩⟩
def adM (e1 e2:Bool)(s:Su)(t:Sp)(hand:Nat)(j:t.pc.ok=true)(hh:hand<t.pc.hands.length):Pure C 285 [.aP (t.cells e1 e2 s),dI hand] (pI (KC s t hand)) []:=by
 have v:1<=t.pc.hands.getD hand default/\t.pc.hands.getD hand default<=t.pc.links.length:=by
  simp only[Pc.ok,ai,bL]at j;have:=j.2 _ (getD_mem hh)
  simpa[inR]using this
 obtain⟨a,r⟩:∃a:Nat,t.pc.hands.getD hand default=a:=⟨(t.pc.hands.getD hand default).toNat,by omega⟩
 have u:=akd t.pc j a (by omega) (by omega);rw[lU]at u;have j0:(0:Int)<=(hand:Int):=by omega
 refine ah qc aH ?_;simp only[qc,aH,cu,j0,ae,hh,V,getD_map,aW,r,RN,F,H,I,S];refine ak u ?_;simp only[V,RN,H,S];obtain⟨l,k⟩:∃l,l=l7 t.pc.links a:=⟨_,rfl⟩
 have w:l.length<=3:=by rw[k,l7,V];exact(Pc.good j).short a (by omega)
 have c:=agz (s.bil (jU l)) (by simp only[Su.bil,Ju];omega);rw[abe]at c;have g:KC s t hand=(s.bil (jU l)).V3.1:=by rw[KC,r,k];rfl
 simp only[<-k];refine aG l.length (fun i (_:Unit)=>aiP s l i) (fun _ _=>True) 0 () (av _) rfl trivial (fun i _ e _=> ?_) (fun _ _=> ?_)
 ·obtain⟨o,p,q⟩:=rng e (by omega)
  have h:(jU (l.take i)).map ay++ [dI (l.getD i default).a,dI (l.getD i default).b]=(jU (l.take (i+1))).map ay:=by
   rw[bf e];simp[jU,ay]
  have m:((jU (l.take i)).map ay).length<=2000000:=by simp only[V,Ju,List.length_take];omega
  rcases i with _|i
  ·have aqL:[dI (l.getD 0 default).a,dI (l.getD 0 default).b]=(jU (l.take (0+1))).map ay:=by simpa[jU]using h
   simp only[aiP,prC,prA,o,p,e,V,getD_map,ae,dW,Q8,dJ,dO,RN,F,H,J,N,S];refine⟨by rintro y (rfl|rfl)<;>rfl,by simp,by simp,?_⟩;rw[aqL,q];exact bQ 1 1 () e rfl trivial (by simp) (by simp) rfl rfl
  ·simp only[aiP,prC,prA,o,p,e,V,getD_map,ae,dW,Q8,dJ,dO,RN,F,H,J,N,S]
   refine⟨by rintro y (rfl|rfl)<;>rfl,by simp,?_⟩
   (repeat(refine a6 (by first|assumption|rfl|(simp;done)|(simp;omega)) ?_))
   rw[h,q];refine⟨by simpa using ap m (by decide),?_⟩;exact bQ 1 1 () e rfl trivial (by simp) (by simp) rfl rfl
 ·rcases hln:l.length with _|i
  ·have f:l=[]:=List.eq_nil_of_length_eq_zero hln
   subst f;simp only[aiP,prC,prA,bl,RN,F,H,S];refine kR (zH rfl) rfl c rfl ?_;simp only[g,RN]
  ·have n:l.take (i+1)=l:=by rw[<-hln,List.take_length]
   simp only[aiP,prC,prA,hln,bl,n,bD,dD,RN,F,H,S];refine kR (zH (d:= .agg [sF ((jU l).map ay),dI s.l9,dI s.hours,dI s.xZ,dI s.pct,dI 0]) (by simp[datum,bT,dR,Mem.row])) rfl c rfl ?_;simp only[g,RN]
def slR (W:Bool)(c:PV)(xs:List DV)(ar:List (Option Arr)):Prop:=
 (c= .d (.slice true [])/\xs=[])\/∃k ver st,c= .tsl k ver 0/\ar[k]?=some (some ⟨1,xs,ver,st⟩)/\st≠2/\(W=true->st=1\/xs=[])
def kOf:PV->Option Nat| .tsl k _ _=>some k| _=>none
def iL (s:Su)(a mb:Nat)(cst cse:PV)(lF:Int):List PV:=[.tsl a 0 0, .tsl (a+1) 0 0, .tsl (a+2) 0 0,pI s.lim,pI s.dvd.jO, .tsl (a+4) 0 0,pI s.cal.ep, .tsl (a+5) 0 0,pI s.oq.n,pI s.oq.d,pI s.oq.ad, .tsl (a+3) 0 0,pI s.year,pI s.l9,pI s.hours,pI s.xZ,pI s.pct, .d (sF (s.days.map Bv)),cst, .mref mb,pI lF,cse]
structure gy (s:Su) (a b mb:Nat) (cst cse:PV) (t:Sp) (M:Mem):Prop where
 box:M.boxes[b]?=some (some (iL s a mb cst cse t.lF))
 map:M.boxes[mb]?=some (some [.iO (opD t.op)])
 r0:M.aC[a]?=some (some ⟨3,t.pc.links.map Lk.dv,0,1⟩)
 r1:M.aC[a+1]?=some (some ⟨1,t.pc.hands.map ay,0,0⟩)
 r2:M.aC[a+2]?=some (some ⟨2,t.tg.map Fr.dv,0,1⟩)
 r3:M.aC[a+3]?=some (some ⟨4,s.fs.map Fs.dv,0,0⟩)
 r4:M.aC[a+4]?=some (some ⟨1,s.dvd.cir.map ay,0,0⟩)
 r5:M.aC[a+5]?=some (some ⟨1,s.cal.cy.map ay,0,0⟩)
 stk:slR true cst (t.fA.map ay) M.aC
 set:slR false cse (t.sets.map ay) M.aC
 kst:∀k,kOf cst=some k->a+6<=k
 kse:∀k,kOf cse=some k->a+6<=k
 dif:∀k,kOf cst=some k->kOf cse≠some k
 nb:b∉M.fz
 nm:mb∉M.fz
 bm:b≠mb
 fzb:∀i∈M.fz,i<M.boxes.length
structure FrS (a b mb:Nat) (M M':Mem):Prop where
 len:M.boxes.length<=M'.boxes.length
 bC:M.aC.length<=M'.aC.length
 box:∀i,i<M.boxes.length->i≠b->i≠mb->M'.boxes[i]?=M.boxes[i]?
 fz:∀i,i<M.boxes.length->(i∈M'.fz↔i∈M.fz)
 row:∀k,k<a->M'.aC[k]?=M.aC[k]?
 fzb:FzB M->FzB M'
variable{a b mb:Nat}
def FrS.refl (M:Mem):FrS a b mb M M:=⟨an _,an _,fun _ _ _ _=>rfl,fun _ _=>br,fun _ _=>rfl,id⟩
def FrS.trans {a b mb:Nat}{M M' M'':Mem}(h:FrS a b mb M M')(h':FrS a b mb M' M''):FrS a b mb M M'':=
 ⟨ap h.len h'.len,ap h.bC h'.bC,fun i hi h1 h2=>(h'.box i (aq hi h.len) h1 h2).trans (h.box i hi h1 h2),fun i hi=>(h'.fz i (aq hi h.len)).trans (h.fz i hi),fun k c=>(h'.row k c).trans (h.row k c),fun e=>h'.fzb (h.fzb e)⟩
def agA:Prop:=∀(k ver i:Nat) (zs:List Int) (bs:List (Option (List PV))) (fz:List Nat) (ar:List (Option Arr)) (K:PV->Mem->Prop) (KP:DV->Mem->Prop),ar[k]?=some (some ⟨1,zs.map ay,ver,1⟩)->i<zs.length->
 K (.tsl k (ver+1) 0) ⟨bs,fz,ar.set k (some ⟨1,(zs.take i++zs.drop (i+1)).map ay,ver+1,1⟩)⟩->SC C 323 [.tsl k ver 0,pI i,pI (i+1:Nat)] ⟨bs,fz,ar⟩ K KP
def Y1 (v:Int):∀(xs:List Int) (i:Nat),(idx v xs i= -1/\v∉xs)\/∃n,idx v xs i=((i+n:Nat):Int)/\n<xs.length/\xs.take n++xs.drop (n+1)=xs.erase v/\v∈xs
 | [],i=> .inl ⟨rfl,by simp⟩
 |x::xs,i=>by
  rw[idx]
  by_cases h:v=x
  ·subst h
   exact .inr ⟨0,by simp,by simp,by simp,by simp⟩
  ·rcases Y1 v xs (i+1)with⟨h1,h2⟩|⟨n,h1,h2,a,b⟩
   ·refine .inl ⟨by simp[h,h1],by simp[h,h2]⟩
   ·refine .inr ⟨n+1,by simp[h,h1];omega,by simp;omega,?_,by simp[b]⟩
    have c:¬(x==v)=true:=by simp;exact fun e=>h e.symm
    rw[List.erase_cons_tail c,<-a];simp
variable{W:Bool}{c:PV}{bs:List (Option (List PV))}{fz:List Nat}{ar:List (Option Arr)}
def agd {xs:List DV}(h:slR W c xs ar):∃ex,datum ⟨bs,fz,ar⟩ c=some (.slice ex xs):=by
 rcases h with⟨rfl,rfl⟩|⟨k,ver,st,rfl,h,_⟩
 ·exact⟨true,rfl⟩
 ·exact⟨false,by simp[datum,Mem.row,h]⟩
def IV {xs:List DV}(h:slR W c xs ar):PV.one c=true/\PV.cells c=[c]/\c.oh=false:=by
 rcases h with⟨rfl,rfl⟩|⟨k,ver,st,rfl,_⟩<;>exact⟨rfl,rfl,rfl⟩
variable{ar':List (Option Arr)}
def rE {xs:List DV}(h:slR W c xs ar)(hk:∀k A,kOf c=some k->ar[k]?=some (some A)->ar'[k]?=some (some A)):slR W c xs ar':=by
 rcases h with⟨rfl,rfl⟩|⟨k,ver,st,rfl,h1,h2⟩
 ·exact .inl ⟨rfl,rfl⟩
 ·exact .inr ⟨k,ver,st,rfl,hk _ _ rfl h1,h2⟩
def gy.SH {cst cse:PV}(h:gy s a b mb cst cse t ⟨bs,fz,ar⟩){k ver st:Nat}{xs:List Int}(hk:a+6<=k)(hd:kOf cse≠some k)
  (h1:ar'[k]?=some (some ⟨1,xs.map ay,ver,st⟩))(h2:∀j,j≠k->j<ar.length->ar'[j]?=ar[j]?)(hl:ar.length<=ar'.length)(f:st≠2/\(st=1\/xs=[])):
  gy s a b mb (.tsl k ver 0) cse {t with fA:=xs} ⟨bs.set b (some (iL s a mb (.tsl k ver 0) cse t.lF)),fz,ar'⟩/\FrS a b mb ⟨bs,fz,ar⟩ ⟨bs.set b (some (iL s a mb (.tsl k ver 0) cse t.lF)),fz,ar'⟩:=by
 have l:b<bs.length:=(U.1 h.box).1;have d:∀(j:Nat) (A:Arr),j≠k->ar[j]?=some (some A)->ar'[j]?=some (some A):=fun j A c g=>by
  rw[h2 j c (U.1 g).1];exact g
 constructor
 ·exact
  {box:=by simp[l]
   map:=by
    have:=h.map;have n:=h.bm;simp only at this⊢;rw[ab n];exact this
   r0:=d _ _ (by omega) h.r0
   r1:=d _ _ (by omega) h.r1
   r2:=d _ _ (by omega) h.r2
   r3:=d _ _ (by omega) h.r3
   r4:=d _ _ (by omega) h.r4
   r5:=d _ _ (by omega) h.r5
   stk:= .inr ⟨k,ver,st,rfl,h1,f.1,fun _=>f.2.imp id fun e=>by simp[e]⟩
   set:=rE h.set fun j A c g=>d j A (fun e=>hd (e▸c)) g
   kst:=fun j c=>by cases c;exact hk
   kse:=h.kse
   dif:=fun j c=>by cases c;exact hd
   nb:=h.nb
   nm:=h.nm
   bm:=h.bm
   fzb:=fun i hi=>by simpa using h.fzb i hi}
 ·exact
  {len:=by simp
   fzb:=fun p i hi=>by have:=p i hi;simpa using this
   bC:=hl
   box:=fun i _ o _=>by simp only;rw[ab (Ne.symm o)]
   fz:=fun _ _=>br
   row:=fun j c=>by
    by_cases m:j<ar.length
    ·exact h2 j (by omega) m
    ·exact absurd (U.1 h.r0).1 (by simp only;omega)}
def adU (f:agA){s:Su}{a b mb:Nat}{cst cse:PV}{t:Sp}{M:Mem}(h:gy s a b mb cst cse t M)(v:Int)(hl:t.fA.length<=1000000):
  SC C 283 [.ptr b 0,pI v] M (fun p M'=>(v∉t.fA/\p= .d (.bool false)/\M'=M)\/(v∈t.fA/\p= .d (.bool true)/\∃tK,gy s a b mb tK cse {t with fA:=t.fA.erase v} M'/\FrS a b mb M M'/\kOf tK=kOf cst/\(∃k ver,tK= .tsl k ver 0/\M'.aC[k]?=some (some ⟨1,(t.fA.erase v).map ay,ver,1⟩))/\∀k,kOf cst≠some k->M'.aC[k]?=M.aC[k]?)) (fun _ _=>False):=by
 obtain⟨bs,fz,ar⟩:=M;have c:=h.box;rw[iL]at c;have i:=h.nb;simp only at c i;obtain⟨D,E,G⟩:=IV h.stk;obtain⟨ex,q⟩:=agd (bs:=bs) (fz:=fz) h.stk;refine aB qZ aH ?_;simp only[qZ,aH,c,RN,F,H,S];refine kR (tY q) rfl (RV t.fA v hl) rfl ?_
 rcases Y1 v t.fA 0 with⟨h1,h2⟩|⟨n,h1,h2,z,o⟩
 ·have w:idx v t.fA 0<0:=by omega
  simp only[w,RN,F];exact .inl h2
 ·have w:¬(n:Int)<0:=by omega
  have e1:cA .i64 ((n:Int)+1)=((n+1:Nat):Int):=by rw[aF (by omega)];omega
  have e2:idx v t.fA 0=(n:Int):=by omega
  have l:t.fA≠[]:=fun e=>by rw[e]at o;cases o
  rcases h.stk with⟨_,m⟩|⟨k,ver,st,rfl,m,B,A⟩
  ·exact absurd (by simpa using m) l
  ·have u:st=1:=(A rfl).resolve_right (by simpa using l)
   subst u;simp only[w,c,e1,e2,RN,F,H,S];refine f k ver n t.fA _ _ _ _ _ m h2 ?_;simp only[c,i,dJ,dO,RN,H,S];rw[z];have g:k<ar.length:=(U.1 m).1;obtain⟨x,y⟩:=h.SH (k:=k) (ver:=ver+1) (st:=1) (xs:=t.fA.erase v) (ar':=ar.set k (some ⟨1,(t.fA.erase v).map ay,ver+1,1⟩)) (h.kst k rfl) (h.dif k rfl) (by simp[g]) (fun j r _=>ab (Ne.symm r)) (by simp) ⟨by decide, .inl rfl⟩;exact .inr ⟨o,_,x,y,rfl,⟨k,_,rfl,by simp[g]⟩,fun j r=>ab (fun e=>r (by rw[e];rfl))⟩
section
variable {C:Ctx}{base:Nat}{KP:DV->Mem->Prop}{K:PV->Mem->Prop}{M:Mem}
def Q9 {t:TypeId}{x:DV}:au C base .panic [.d (.iface t x)] M K KP=KP (.iface t x) M:=by
 have:=BG (M:=M) (ds:=[DV.iface t x]);simp only[aL,bt]at this;simp only[au,datum,this]
def fK {f:FuncId}{fs cs:List DV}{args:List PV}:au C base .dQ (.d (.func (.func f) fs cs)::args) M K KP=(callable C.P f=true/\SC C f (fs.map .d++args++cs.map .d) M K KP):=px
end
def JY (d:DV):Prop:=∃y,d= .iface T.iZ (.agg [y])/\PV.cells (.d y)=[.d y]/\y.one=true
variable{x:DV}{M:Mem}{K:PV->Mem->Prop}{KP:DV->Mem->Prop}
def Fa (h:K (.d (.tup [])) M):SC C 281 [.d (.bool true), .d (.aP [x])] M K KP:=by
 obtain⟨bs,fz,ar⟩:=M;refine aB ji dX ?_;simp only[ji,dX,RN,F,H];exact h
def yG (hx:PV.cells (.d x)=[.d x]/\x.one=true)(h:KP (.iface T.iZ (.agg [x])) M):SC C 281 [.d (.bool false), .d (.aP [x])] M K KP:=by
 obtain⟨bs,fz,ar⟩:=M;refine aB ji dX ?_;simp only[ji,dX,hx.1,Po,Q9,RN,F,H,S];exact h
def nK:List (Int×Fr)->Int->Option Fr
 | [],_=>none
 |p::l,h=>if h=p.1 then some p.2 else nK l h
def Py:List (Int×Fr)->Int->List (Int×Fr)
 | [],_=>[]
 |p::l,h=>if h=p.1 then l else p::Py l h
def GZ (p:Int×Fr)(l:List (Int×Fr)):opD (p::l)=(dI p.1,p.2.dv)::opD l:=rfl
def aii (h n:Int):iP [] (dI h) (dI n)=some (h==n):=by simp[iP]
def IW (l:List (Int×Fr))(h:Int):qp [] (opD l) (dI h)=some ((nK l h).map Fr.dv):=by
 induction l with
 |nil=>rfl
 |cons p l b=>
  rw[GZ,qp,aii,nK]
  by_cases a:h=p.1
  ·have b1:(h==p.1)=true:=by simp[a]
   rw[b1,if_pos a];rfl
  ·have b1:(h==p.1)=false:=beq_false_of_ne a
   rw[b1,if_neg a];exact b
def aou (l:List (Int×Fr))(h:Int)(f:Fr)(a:nK l h=none):FH [] (opD l) (dI h) f.dv=some (opD (l++ [(h,f)])):=by
 induction l with
 |nil=>rfl
 |cons p l c=>
  rw[nK]at a
  by_cases b:h=p.1
  ·rw[if_pos b]at a;cases a
  ·have b1:(h==p.1)=false:=beq_false_of_ne b
   rw[if_neg b]at a;rw[GZ,FH,aii,b1];simp only[c a,aR,ck,GZ]
def aot (l:List (Int×Fr))(h:Int):FD [] (opD l) (dI h)=some (opD (Py l h)):=by
 induction l with
 |nil=>rfl
 |cons p l b=>
  rw[GZ,FD,aii,Py]
  by_cases a:h=p.1
  ·have b1:(h==p.1)=true:=by simp[a]
   rw[b1,if_pos a]
  ·have b1:(h==p.1)=false:=beq_false_of_ne a
   rw[b1,if_neg a];simp only[b,aR,GZ]
def zi (fA a:List Int)(b new:Int):Option (List Int×List Int):=if b=new then some (fA,a)else if new∈fA then some (fA.erase new,a++ [b])else none
def doS (s:Su)(t:Sp):De->Option Sp
 | .cut n=>if(s.dvd.cuts n).2=0/\t.fA.length<8 then some {t with fA:=t.fA++ [n]}else none
 | .change c=>
  if t.pc.Ld c&&((t.pc.yD (t.pc.changed c)).all fun h=>(nK t.op h).isSome)then
   let e:=(t.pc.links.getD c.link.toNat default).pr
   match zi t.fA [] e.a c.pr.a with
   |none=>none
   |some (s1,p1)=>match zi s1 p1 e.b c.pr.b with
    |none=>none
    |some (i,g)=>some {t with pc:=t.pc.changed c,fA:=i++g}
  else none
 | .order h f=>if(nK t.op h).isSome then none else some {t with op:=t.op++ [(h,f)]}
 | .serve h lF=>match nK t.op h with
  |none=>none
  |some f=>if U9 s t h f 100&&decide (lF>=KC s t h.toNat)then some {t with op:=Py t.op h,tg:=t.tg.set h.toNat f,lF:=t.lF+lF}else none
 | .set d=>if(s.days.getD (d - 1).toNat default).2&&(t.sets.isEmpty||decide (d>t.sets.getD (t.sets.length - 1) default))then some {t with sets:=t.sets++ [d]}else none
 | .strike _=>some t
def aaj {s:Su}{a b mb:Nat}{cst cse:PV}{t:Sp}(h:gy s a b mb cst cse t M):∃e1 e2,datum M (.ptr b 0)=some (.aP [sF (t.pc.links.map Lk.dv),sF (t.pc.hands.map ay),sF (t.tg.map Fr.dv),dI s.lim,dI s.dvd.jO,sF (s.dvd.cir.map ay),dI s.cal.ep,sF (s.cal.cy.map ay),dI s.oq.n,dI s.oq.d,dI s.oq.ad,sF (s.fs.map Fs.dv),dI s.year,dI s.l9,dI s.hours,dI s.xZ,dI s.pct,
 sF (s.days.map Bv), .slice e1 (t.fA.map ay), .map (some (opD t.op)),dI t.lF, .slice e2 (t.sets.map ay)]):=by
 have h1:=h.box;have h2:=h.map;rw[iL]at h1
 rcases h.stk with⟨rfl,e1⟩|⟨k,ver,st,rfl,e1,_⟩<;>rcases h.set with⟨rfl,e2⟩|⟨e,aq3,c,rfl,e2,_⟩
 ·exact⟨true,true,by simp[datum,bT,dR,Mem.box,Mem.row,h1,h2,h.r0,h.r1,h.r2,h.r3,h.r4,h.r5,e1,e2]⟩
 ·exact⟨true,false,by simp[datum,bT,dR,Mem.box,Mem.row,h1,h2,h.r0,h.r1,h.r2,h.r3,h.r4,h.r5,e1,e2]⟩
 ·exact⟨false,true,by simp[datum,bT,dR,Mem.box,Mem.row,h1,h2,h.r0,h.r1,h.r2,h.r3,h.r4,h.r5,e1,e2]⟩
 ·exact⟨false,false,by simp[datum,bT,dR,Mem.box,Mem.row,h1,h2,h.r0,h.r1,h.r2,h.r3,h.r4,h.r5,e1,e2]⟩
structure VW (s:Su) (t:Sp):Prop where
 ok:s.ok=true
 pc:t.pc.ok=true
 tl:t.tg.length=t.pc.hands.length
 st:t.fA.length<=100000
 se:t.sets.length<=100000
 co:0<=t.lF/\t.lF<=1000000000000
section
variable {bs xs:List (Option (List PV))}{b n k:Nat}{y:Option (List PV)}
def dG (h:b<bs.length):(bs++xs)[b]?=bs[b]?:=Z h
def iR (h:bs.length=n):(bs++xs)[n+k]?=xs[k]?:=by rw[<-h,bv (by omega)];congr 1;omega
def aX (h:bs.length=n):(bs++xs)[n]?=xs[0]?:=by rw[<-h,bv (by omega)];congr 1;omega
def Cm (h:b<bs.length):(bs++xs).set b y=bs.set b y++xs:=List.set_append_left _ _ h
def mO (h:bs.length=n):(bs++xs).set (n+k) y=bs++xs.set k y:=by rw[<-h,b7 _ _ (by omega)];congr 2;omega
def bJ (h:bs.length=n):(bs++xs).set n y=bs++xs.set 0 y:=by rw[<-h,b7 _ _ (by omega)];congr 2;omega
end
variable{s:Su}{a b mb:Nat}{cst cse:PV}{t:Sp}{fz:List Nat}{ar:List (Option Arr)}
def gy.ext {bs xs:List (Option (List PV))}{xf:List Nat}(h:gy s a b mb cst cse t ⟨bs,fz,ar⟩)(hf:∀i∈xf,bs.length<=i/\i<bs.length+xs.length):gy s a b mb cst cse t ⟨bs++xs,xf++fz,ar⟩/\FrS a b mb ⟨bs,fz,ar⟩ ⟨bs++xs,xf++fz,ar⟩:=by
 have c:b<bs.length:=(U.1 h.box).1;have d:mb<bs.length:=(U.1 h.map).1;constructor
 ·exact
  {box:=by simp only;rw[Z c];exact h.box
   map:=by simp only;rw[Z d];exact h.map
   r0:=h.r0,r1:=h.r1,r2:=h.r2,r3:=h.r3,r4:=h.r4,r5:=h.r5,stk:=h.stk,set:=h.set,kst:=h.kst,kse:=h.kse,dif:=h.dif
   nb:=fun e=>by
    rcases ax.1 e with e|e
    ·have:=hf _ e;omega
    ·exact h.nb e
   nm:=fun e=>by
    rcases ax.1 e with e|e
    ·have:=hf _ e;omega
    ·exact h.nm e
   bm:=h.bm
   fzb:=fun i e=>by
    simp only[Y]
    rcases ax.1 e with e|e
    ·have:=hf _ e;omega
    ·have:=h.fzb i e;simp only at this;omega}
 ·exact
  {len:=by simp
   fzb:=fun f i hi=>by
    simp only[Y]
    rcases ax.1 hi with e|e
    ·exact(hf _ e).2
    ·have:=f i e;simp only at this;omega
   bC:=an _
   box:=fun i hi _ _=>Z hi
   fz:=fun i hi=>by
    simp only[ax];refine⟨fun e=>e.elim (fun e=> ?_) id, .inr⟩;have:=hf _ e;simp only at hi;omega
   row:=fun _ _=>rfl}
variable{W:Bool}{c:PV}{bs:List (Option (List PV))}
def adR {xs:List DV}{K:Int->Prop}(h:slR W c xs ar):qx c ⟨bs,fz,ar⟩ K=K xs.length:=by
 rcases h with⟨rfl,rfl⟩|⟨k,ver,st,rfl,a,_⟩
 ·rfl
 ·simp[qx,Mem.row,a]
def adQ {st1:Bool}{xs ys:List DV}{ex:Bool}{K:PV->Mem->Prop}(h:slR W c xs ar)(m:∀y∈ys,y.fits 1=true)(p:∀y∈xs,y.fits 1=true)(l:st1=true->ys≠[])(hl:xs.length+ys.length<=1073741824)
  (f:∀k ver st ar',(kOf c=some k\/k=ar.length)->ar'[k]?=some (some ⟨1,xs++ys,ver,st⟩)->(∀j,j≠k->j<ar.length->ar'[j]?=ar[j]?)->ar.length<=ar'.length->st≠2->(st1=true->st=1)->(st1=false->kOf c=some k->W=true->st=1\/xs=[])->(st1=false->kOf c=none->st=0)->K (.tsl k ver 0) ⟨bs,fz,ar'⟩):
  kL 1 st1 c (.d (.slice ex ys)) ⟨bs,fz,ar⟩ K:=by
 rcases h with⟨rfl,rfl⟩|⟨k,ver,st,rfl,i,h2,n⟩
 ·simp only[kL,yg]
  refine⟨by decide,m,l,trivial,by simp,by simpa using hl,?_⟩;refine f _ _ _ _ (.inr rfl) (by simp;rfl) (fun j g a=>by rw[Z a]) (by simp) (by cases st1<;>simp) (fun e=>by simp[e]) (fun _ e=>by cases e) (fun e _=>by simp[e])
 ·have b:k<ar.length:=(U.1 i).1
  simp only[kL,yg,Mem.row,i,if_true];refine⟨by decide,m,l,trivial,h2,hl,?_⟩;refine f k (ver+1) _ _ (.inl rfl) (by simp[b];rfl) (fun j g _=>ab (Ne.symm g)) (by simp) (by cases st1<;>simp[h2]) (fun e=>by simp[e]) (fun e _ o=>by simpa[e]using n o) (fun _ e=>by cases e)
def De.one (x:De):PV.cells (.d x.dv)=[.d x.dv]/\x.dv.one=true:=⟨rfl,rfl⟩
def ank {M:Mem}(h:gy s a b mb cst cse t M)(V:VW s t)(n:Int):
  SC C 229 [.ptr b 0, .d (De.cut n).dv] M (fun p M'=>∃t' tK,doS s t (.cut n)=some t'/\gy s a b mb tK cse t' M'/\FrS a b mb M M') (fun d M'=>doS s t (.cut n)=none/\JY d/\FrS a b mb M M'):=by
 obtain⟨bs,fz,ar⟩:=M;have c:=h.box;rw[iL]at c;have u:=h.nb;have v:=h.r4;simp only at c u v;have f:b<bs.length:=(U.1 c).1;obtain⟨o1,o2,o3⟩:=IV h.stk;have r:=(De.one (.cut n)).1;have A:=(De.one (.cut n)).2;have W:(De.cut n).dv= .iface T.fG (.agg [dI n]):=rfl;refine aB aY dX ?_;rw[W]at r A⊢;have R:bs.length∉fz:=fun e=>ao _ (h.fzb _ e)
 have j:∀k,bs.length+k∉fz:=fun k e=>by have:=h.fzb _ e;simp only at this;omega
 have x:¬b=bs.length:=by omega
 have z:∀k,¬b=bs.length+k:=fun k=>by omega
 have m:∀k,b<bs.length+k:=fun k=>by omega
 have l:¬bs.length+1=bs.length:=by omega
 have o:=aaD s.dvd n (by have:=(Su.QB V.ok).ci;omega);rw[Eu,Q5]at o;simp only[aY,dX,r,ny,f,c,dG,aX,bJ,am,Y,az,j,m,l,bD,bq,dD,RN,F,H,I,S];refine kR (tY (d:= .agg [dI s.dvd.jO,sF (s.dvd.cir.map ay)]) (by simp[datum,bT,dR,Mem.row,v])) rfl o rfl ?_;have z0:((0:Int)==0)=true:=rfl
 by_cases g:(s.dvd.cuts n).2=0
 ·have anU:((s.dvd.cuts n).2==0)=true:=by simp[g]
  simp only[anU,f,c,dG,iR,mO,j,l,fK,RN,F,H,J,S];refine⟨by simp,?_⟩;rw[adR h.stk]
  by_cases E:t.fA.length<8
  ·have i:decide (((t.fA.map ay).length:Int)<8)=true:=by simp;omega
   rw[i];refine⟨by kernel_rfl,Fa ?_⟩;simp only[f,c,dG,m,Y,DV.strip,fU,RN,H,S];refine adQ h.stk (fun y G=>by simp only[bA]at G;subst G;rfl) wB (by simp) (by simp;omega) fun k ver st ar' e1 e2 K L X N _ _=> ?_
   have w:=N rfl;subst w;obtain⟨O,P⟩:=h.ext (xs:=[some [PV.d (DV.iface T.fG (DV.agg [dI n]))],some [PV.d (dI n)],some [PV.d (dI (s.dvd.cuts n).fst.circle),PV.d (dI (s.dvd.cuts n).fst.turns),PV.d (dI (s.dvd.cuts n).fst.holes)]]) (xf:=[bs.length+1,bs.length]) (by simp);have Q:a+5<ar.length:=(U.1 h.r5).1;obtain⟨B,D⟩:=O.SH (k:=k) (ver:=ver) (st:=1) (xs:=t.fA++ [n]) (ar':=ar') (by
     rcases e1 with e1|e1
     ·exact h.kst k e1
     ·omega) (fun e=>by
     rcases e1 with e1|e1
     ·exact h.dif k e1 e
     ·rcases h.set with⟨rfl,_⟩|⟨Z,_,_,rfl,q,_⟩
      ·cases e
      ·cases e
       have:=(U.1 q).1;simp only at this;omega) (by rw[e2];simp[ay]) K L ⟨by decide, .inl rfl⟩
   simp only[f,c,dG,Cm,x,z,u,dJ,dO,RN,H,S];rw[Cm f]at B D;exact⟨_,_,by simp[doS,g,E],B,P.trans D⟩
  ·have i:decide (((t.fA.map ay).length:Int)<8)=false:=by simp;omega
   rw[i];refine⟨by kernel_rfl,yG ⟨rfl,rfl⟩ ⟨by simp[doS,E],⟨_,rfl,rfl,rfl⟩,?_⟩⟩;exact(h.ext (xf:=[bs.length+1,bs.length]) (by simp)).2
 ·have anU:((s.dvd.cuts n).2==0)=false:=by simp[g]
  simp only[anU,iR,mO,j,l,fK,RN,F,H,J,S];refine⟨by simp,by kernel_rfl,yG ⟨rfl,rfl⟩ ⟨by simp[doS,g],⟨_,rfl,rfl,rfl⟩,?_⟩⟩;exact(h.ext (xf:=[bs.length+1,bs.length]) (by simp)).2
section
variable {C:Ctx}{base:Nat}{KP:DV->Mem->Prop}
variable{ks:List Nat}{b:Nat}{k:DV}{M:Mem}{K:PV->Mem->Prop}
def aon {v:DV}(l a:List (DV×DV))(hb:M.box b=some [.iO l])(hf:b∉M.fz)(h1:iP ks k k=some true)(h2:FH ks l k v=some a)(c:K .dead {M with boxes:=M.boxes.set b (some [.iO a])}):
  au C base (.acf ks) [.mref b, .d k, .d v] M K KP:=by
 simp only[au,hb,h1,h2];exact⟨hf,c⟩
def aom (l a:List (DV×DV))(hb:M.box b=some [.iO l])(hf:b∉M.fz)(h1:iP ks k k=some true)(h2:FD ks l k=some a)(c:K (.d (.tup [])) {M with boxes:=M.boxes.set b (some [.iO a])}):
  au C base (.acd ks) [.mref b, .d k] M K KP:=by
 simp only[au,hb,h1,h2];exact⟨hf,c⟩
end
def xq (h:Int):iP [] (dI h) (dI h)=some true:=by simp[iP]
variable{s:Su}{a b mb:Nat}{cst cse:PV}{t:Sp}{bs:List (Option (List PV))}{fz:List Nat}{ar:List (Option Arr)}
def gy.amM (h:gy s a b mb cst cse t ⟨bs,fz,ar⟩)(c:List (Int×Fr)):
  gy s a b mb cst cse {t with op:=c} ⟨bs.set mb (some [.iO (opD c)]),fz,ar⟩/\FrS a b mb ⟨bs,fz,ar⟩ ⟨bs.set mb (some [.iO (opD c)]),fz,ar⟩:=by
 have d:mb<bs.length:=(U.1 h.map).1;constructor
 ·exact
  {box:=by simp only;rw[ab (Ne.symm h.bm)];exact h.box
   map:=by simp[d]
   r0:=h.r0,r1:=h.r1,r2:=h.r2,r3:=h.r3,r4:=h.r4,r5:=h.r5,stk:=h.stk,set:=h.set,kst:=h.kst,kse:=h.kse,dif:=h.dif
   nb:=h.nb,nm:=h.nm,bm:=h.bm
   fzb:=fun i e=>by simpa using h.fzb i e}
 ·exact
  {len:=by simp
   fzb:=fun f i hi=>by have:=f i hi;simpa using this
   bC:=an _
   box:=fun i _ _ h2=>by simp only;rw[ab (Ne.symm h2)]
   fz:=fun _ _=>br
   row:=fun _ _=>rfl}
variable{M:Mem}
def ahl (h:gy s a b mb cst cse t M)(n:Int)(f:Fr):
  SC C 229 [.ptr b 0, .d (De.order n f).dv] M (fun p M'=>∃t' tK Dh,doS s t (.order n f)=some t'/\gy s a b mb tK Dh t' M'/\FrS a b mb M M') (fun d M'=>doS s t (.order n f)=none/\JY d/\FrS a b mb M M'):=by
 obtain⟨bs,fz,ar⟩:=M;have c:=h.box;rw[iL]at c;have v:=h.nb;have g:=h.map;simp only at c v g;have m:b<bs.length:=(U.1 c).1;have q:mb<bs.length:=(U.1 g).1;obtain⟨N,O,P⟩:=IV h.stk;have o:=(De.one (.order n f)).1;have r:=(De.one (.order n f)).2;have K:(De.order n f).dv= .iface T.eP (.agg [dI n,dI f.n,dI f.d]):=rfl;rw[K]at o r⊢;have G:bs.length∉fz:=fun e=>ao _ (h.fzb _ e)
 have i:∀k,bs.length+k∉fz:=fun k e=>by have:=h.fzb _ e;simp only at this;omega
 have D:¬b=bs.length:=by omega
 have E:∀k,¬b=bs.length+k:=fun k=>by omega
 have l:∀k,b<bs.length+k:=fun k=>by omega
 have j:¬bs.length+1=bs.length:=by omega
 have x:(T.eP==T.fG)=false:=by decide
 have y:(T.eP==T.bP)=false:=by decide
 refine aB aY dX ?_;simp only[aY,dX,o,ny,fM x,fM y,m,c,dG,aX,bJ,am,Y,az,i,l,j,RN,F,H,I,S];refine SA (opD t.op) ((nK t.op n).map Fr.dv) (by simp[Mem.box,Z q,g]) (xq n) (IW _ _) ?_;obtain⟨w,z⟩:=h.ext (xs:=[some [PV.d (DV.iface T.eP (DV.agg [dI n,dI f.n,dI f.d]))],some [PV.d (dI n),pI f.n,pI f.d],some [pI 0,pI 0]]) (xf:=[bs.length+1,bs.length]) (by simp);cases u:nK t.op n with
 |none=>
  simp only[GI,bq,bN,bh,iR,mO,i,j,fK,RN,H,J,S];refine⟨by simp,by kernel_rfl,Fa ?_⟩;simp only[m,c,dG,Y,l,RN,H,S];refine aon (opD t.op) (opD (t.op++ [(n,f)])) (by simp[Mem.box,Z q,g]) w.nm (xq n) (by rw[<-aS];exact aou _ _ _ u) ?_;obtain⟨A,B⟩:=w.amM (t.op++ [(n,f)]);exact⟨_,_,_,by simp[doS,u],A,z.trans B⟩
 |some L=>
  simp only[GI,aR,bO,bi,iR,mO,i,j,fK,aS,RN,H,J,S];refine⟨by simp,by kernel_rfl,yG ⟨rfl,rfl⟩ ⟨by simp[doS,u],⟨_,rfl,rfl,rfl⟩,?_⟩⟩;exact(h.ext (xf:=[bs.length+1,bs.length]) (by simp)).2
def gy.alG {ar':List (Option Arr)}(h:gy s a b mb cst cse t ⟨bs,fz,ar⟩){k ver st:Nat}{xs:List Int}(hk:a+6<=k)(hd:kOf cst≠some k)
  (h1:ar'[k]?=some (some ⟨1,xs.map ay,ver,st⟩))(h2:∀j,j≠k->j<ar.length->ar'[j]?=ar[j]?)(hl:ar.length<=ar'.length)(hst:st≠2):
  gy s a b mb cst (.tsl k ver 0) {t with sets:=xs} ⟨bs.set b (some (iL s a mb cst (.tsl k ver 0) t.lF)),fz,ar'⟩/\FrS a b mb ⟨bs,fz,ar⟩ ⟨bs.set b (some (iL s a mb cst (.tsl k ver 0) t.lF)),fz,ar'⟩:=by
 have g:b<bs.length:=(U.1 h.box).1;have d:∀(j:Nat) (A:Arr),j≠k->ar[j]?=some (some A)->ar'[j]?=some (some A):=fun j A c f=>by
  rw[h2 j c (U.1 f).1];exact f
 constructor
 ·exact
  {box:=by simp[g]
   map:=by
    have:=h.map;have m:=h.bm;simp only at this⊢;rw[ab m];exact this
   r0:=d _ _ (by omega) h.r0
   r1:=d _ _ (by omega) h.r1
   r2:=d _ _ (by omega) h.r2
   r3:=d _ _ (by omega) h.r3
   r4:=d _ _ (by omega) h.r4
   r5:=d _ _ (by omega) h.r5
   stk:=rE h.stk fun j A c f=>d j A (fun e=>hd (e▸c)) f
   set:= .inr ⟨k,ver,st,rfl,h1,hst,fun e=>by cases e⟩
   kst:=h.kst
   kse:=fun j c=>by cases c;exact hk
   dif:=fun j c e=>by cases e;exact hd c
   nb:=h.nb
   nm:=h.nm
   bm:=h.bm
   fzb:=fun i hi=>by simpa using h.fzb i hi}
 ·exact
  {len:=by simp
   fzb:=fun o i hi=>by have:=o i hi;simpa using this
   bC:=hl
   box:=fun i _ n _=>by simp only;rw[ab (Ne.symm n)]
   fz:=fun _ _=>br
   row:=fun j c=>by
    by_cases l:j<ar.length
    ·exact h2 j (by omega) l
    ·exact absurd (U.1 h.r0).1 (by simp only;omega)}
def anl (h:gy s a b mb cst cse t M)(P:VW s t)(n:Nat)(hn:n<s.days.length):
  SC C 229 [.ptr b 0, .d (De.set (n+1:Nat)).dv] M (fun p M'=>∃t' tK Dh,doS s t (.set (n+1:Nat))=some t'/\gy s a b mb tK Dh t' M'/\FrS a b mb M M') (fun d M'=>doS s t (.set (n+1:Nat))=none/\JY d/\FrS a b mb M M'):=by
 obtain⟨bs,fz,ar⟩:=M;have c:=h.box;rw[iL]at c;have u:=h.nb;simp only at c u;have f:b<bs.length:=(U.1 c).1;obtain⟨o1,o2,o3⟩:=IV h.set;have r:=(De.one (.set (n+1:Nat))).1;have D:=(De.one (.set (n+1:Nat))).2;have hx:(De.set (n+1:Nat)).dv= .iface T.fH (.agg [dI (n+1:Nat)]):=rfl;rw[hx]at r D⊢;have ai:bs.length∉fz:=fun e=>ao _ (h.fzb _ e)
 have I:∀k,bs.length+k∉fz:=fun k e=>by have:=h.fzb _ e;simp only at this;omega
 have z:¬b=bs.length:=by omega
 have A:∀k,¬b=bs.length+k:=fun k=>by omega
 have g:∀k,b<bs.length+k:=fun k=>by omega
 have J:¬bs.length+1=bs.length:=by omega
 have R:(T.fH==T.fG)=false:=by decide
 have W:(T.fH==T.bP)=false:=by decide
 have X:(T.fH==T.eP)=false:=by decide
 have Z:(T.fH==T.dS)=false:=by decide
 have ac:s.days.length<=366:=by
  have:=wS (s.cal.leap s.year);simp only[Su.days,Su.vZ,V,ch,Su.dur]
  split at this<;>omega
 have e1:cA .i64 (((n+1:Nat):Int) - 1)=(n:Int):=by rw[aF (by omega)];omega
 have e2:(0:Int)<=(n:Int):=by omega
 have m:((((n+1:Nat):Int) - 1).toNat)=n:=by omega
 refine aB aY dX ?_;simp only[aY,dX,r,ny,fM R,fM W,fM X,fM Z,f,c,dG,aX,bJ,am,Y,az,I,g,J,e1,e2,ae,hn,V,getD_map,abf,RN,F,H,S];obtain⟨g1,g2⟩:=h.ext (xs:=[some [PV.d (DV.iface T.fH (DV.agg [dI (n+1:Nat)]))],some [PV.d (dI (n+1:Nat))]]) (xf:=[bs.length+1,bs.length]) (by simp);have ab:a+5<ar.length:=(U.1 h.r5).1;have j:∀(KP:DV->Mem->Prop),doS s t (.set (n+1:Nat))=some {t with sets:=t.sets++ [((n+1:Nat):Int)]}->
   kL 1 false cse (PV.d (DV.slice true [dI (n+1:Nat)])) ⟨bs++ [some [PV.d (DV.iface T.fH (DV.agg [dI (n+1:Nat)]))],some [PV.d (dI (n+1:Nat))]],(bs.length+1)::bs.length::fz,ar⟩ (fun v x=>
    jM 1 (PV.ptr b 21) v x fun M'=>∃t' tK Dh,doS s t (.set (n+1:Nat))=some t'/\gy s a b mb tK Dh t' M'/\FrS a b mb ⟨bs,fz,ar⟩ M'):=by
  intro _ E;refine adQ h.set (fun y Q=>by simp only[bA]at Q;subst Q;rfl) wB (by simp) (by have:=P.se;simp;omega) fun k ver st ar' e1 e2 m e4 e5 e6 _ _=> ?_
  obtain⟨K,L⟩:=g1.alG (k:=k) (ver:=ver) (st:=st) (xs:=t.sets++ [((n+1:Nat):Int)]) (ar':=ar') (by
    rcases e1 with e1|e1
    ·exact h.kse k e1
    ·omega) (fun e=>by
    rcases e1 with e1|e1
    ·exact h.dif k e e1
    ·rcases h.stk with⟨rfl,_⟩|⟨k',_,_,rfl,q,_⟩
     ·cases e
     ·cases e
      have:=(U.1 q).1;simp only at this;omega) (by rw[e2];simp[ay]) m e4 e5
  simp only[f,c,dG,Cm,z,A,u,dJ,dO,RN,H,S];rw[Cm f]at K L;exact⟨_,_,_,E,K,g2.trans L⟩
 cases w:(s.days.getD n default).2
 ·simp only[fK,RN,F,S]
  refine⟨by kernel_rfl,yG ⟨rfl,rfl⟩ ⟨by simp only[doS,m,w,aM];rfl,⟨_,rfl,rfl,rfl⟩,?_⟩⟩;exact(h.ext (xf:=[bs.length+1,bs.length]) (by simp)).2
 ·by_cases o:t.sets=[]
  ·have l:(((t.sets.map ay).length:Int)==0)=true:=by simp[o]
   simp only[f,c,dG,g,fK,adR h.set,l,RN,F,H,S];refine⟨by kernel_rfl,Fa ?_⟩;simp only[f,c,dG,Y,g,DV.strip,fU,RN,H,S];exact j (fun _ _=>True) (by simp only[doS,m,w,o];rfl)
  ·have l:((t.sets.length:Int)==0)=false:=by simp[o]
   rcases h.set with⟨_,hh⟩|⟨k,ver,st,B,N,_⟩
   ·exact absurd (by simpa using hh) o
   simp only at N;have O:0<t.sets.length:=List.length_pos_iff.2 o;have q1:cA .i64 ((t.sets.length:Int) - 1)=((t.sets.length - 1:Nat):Int):=by rw[aF (by have:=P.se;omega)];omega
   have q2:(0:Int)<=((t.sets.length - 1:Nat):Int):=by omega
   have q3:t.sets.length - 1<t.sets.length:=by omega
   simp only[f,c,dG,g,fK,B,cj,l,q1,q2,q3,N,ae,V,getD_map,aW,RN,F,H,S];refine⟨by kernel_rfl,?_⟩
   by_cases i:((n+1:Nat):Int)>t.sets.getD (t.sets.length - 1) default
   ·rw[decide_eq_true i]
    refine Fa ?_;simp only[f,c,dG,Y,g,DV.strip,fU,RN,H,S];exact j (fun _ _=>True) (by simp only[doS,m,w,decide_eq_true i,Bool.or_true,bk,if_true])
   ·rw[decide_eq_false i]
    have G:t.sets.isEmpty=false:=by simpa using o
    refine yG ⟨rfl,rfl⟩ ⟨by simp only[doS,m,w,decide_eq_false i,G,Bool.or_false,b8];rfl,⟨_,rfl,rfl,rfl⟩,?_⟩;exact(h.ext (xf:=[bs.length+1,bs.length]) (by simp)).2
variable{ds:List DV}
def OZ {p:PV}{d:DV}{ps:List PV}(h:datum M p=some d)(a:bV M ps=some ds):bV M (p::ps)=some (d::ds):=by
 simp only[bV,h,a]
def gy.apO (h:gy s a b mb cst cse t ⟨bs,fz,ar⟩)(c:List Fr):
  gy s a b mb cst cse {t with tg:=c} ⟨bs,fz,ar.set (a+2) (some ⟨2,c.map Fr.dv,0,1⟩)⟩/\FrS a b mb ⟨bs,fz,ar⟩ ⟨bs,fz,ar.set (a+2) (some ⟨2,c.map Fr.dv,0,1⟩)⟩:=by
 have g:a+2<ar.length:=(U.1 h.r2).1;have d:∀(j:Nat) (A:Arr),j≠a+2->ar[j]?=some (some A)->(ar.set (a+2) (some ⟨2,c.map Fr.dv,0,1⟩))[j]?=some (some A):=fun j A e f=>by
  rw[ab (Ne.symm e)];exact f
 constructor
 ·exact
  {box:=h.box
   map:=h.map
   r0:=d _ _ (by omega) h.r0
   r1:=d _ _ (by omega) h.r1
   r2:=by simp[g]
   r3:=d _ _ (by omega) h.r3
   r4:=d _ _ (by omega) h.r4
   r5:=d _ _ (by omega) h.r5
   stk:=rE h.stk fun j A e f=>d j A (by have:=h.kst j e;omega) f
   set:=rE h.set fun j A e f=>d j A (by have:=h.kse j e;omega) f
   kst:=h.kst,kse:=h.kse,dif:=h.dif,nb:=h.nb,nm:=h.nm,bm:=h.bm,fzb:=h.fzb}
 ·exact
  {len:=an _
   fzb:=fun k i hi=>by have:=k i hi;simpa using this
   bC:=by simp
   box:=fun _ _ _ _=>rfl
   fz:=fun _ _=>br
   row:=fun j e=>by simp only;rw[ab (by omega)]}
def gy.aiD (h:gy s a b mb cst cse t ⟨bs,fz,ar⟩)(c:Int):
  gy s a b mb cst cse {t with lF:=c} ⟨bs.set b (some (iL s a mb cst cse c)),fz,ar⟩/\FrS a b mb ⟨bs,fz,ar⟩ ⟨bs.set b (some (iL s a mb cst cse c)),fz,ar⟩:=by
 have d:b<bs.length:=(U.1 h.box).1;constructor
 ·exact
  {box:=by simp[d]
   map:=by
    have:=h.map;have e:=h.bm;simp only at this⊢;rw[ab e];exact this
   r0:=h.r0,r1:=h.r1,r2:=h.r2,r3:=h.r3,r4:=h.r4,r5:=h.r5,stk:=h.stk,set:=h.set
   kst:=h.kst,kse:=h.kse,dif:=h.dif,nb:=h.nb,nm:=h.nm,bm:=h.bm
   fzb:=fun i hi=>by simpa using h.fzb i hi}
 ·exact
  {len:=by simp
   fzb:=fun g i hi=>by have:=g i hi;simpa using this
   bC:=an _
   box:=fun i _ f _=>by simp only;rw[ab (Ne.symm f)]
   fz:=fun _ _=>br
   row:=fun _ _=>rfl}
def ahm (h:gy s a b mb cst cse t M)(v:VW s t)(n:Nat)(hn:n<t.pc.hands.length)(c:Int)(hc:0<=c/\c<=1000000000):
  SC C 229 [.ptr b 0, .d (De.serve n c).dv] M (fun p M'=>∃t' tK Dh,doS s t (.serve n c)=some t'/\gy s a b mb tK Dh t' M'/\FrS a b mb M M') (fun d M'=>doS s t (.serve n c)=none/\JY d/\FrS a b mb M M'):=by
 obtain⟨bs,fz,ar⟩:=M;have g:=h.box;rw[iL]at g;have W:=h.nb;have i:=h.map;have q:=h.r2;simp only at g W i q;have z:b<bs.length:=(U.1 g).1;have E:mb<bs.length:=(U.1 i).1;obtain⟨o1,o2,o3⟩:=IV h.stk;have A:=(De.one (.serve n c)).1;have R:=(De.one (.serve n c)).2;have hx:(De.serve n c).dv= .iface T.dS (.agg [dI n,dI c]):=rfl;rw[hx]at A R⊢;have ap:bs.length∉fz:=fun e=>ao _ (h.fzb _ e)
 have o:∀k,bs.length+k∉fz:=fun k e=>by have:=h.fzb _ e;simp only at this;omega
 have ab:¬b=bs.length:=by omega
 have ac:∀k,¬b=bs.length+k:=fun k=>by omega
 have y:∀k,b<bs.length+k:=fun k=>by omega
 have r:¬bs.length+1=bs.length:=by omega
 have c1:(T.dS==T.fG)=false:=by decide
 have c2:(T.dS==T.bP)=false:=by decide
 have c3:(T.dS==T.eP)=false:=by decide
 have ai:=(Pc.CY v.pc).2;have aq:=(Pc.CY v.pc).1;have D:0<=s.lim/\s.lim<=10800:=by simpa[inR]using(Su.facts v.ok).2.2.1
 refine aB aY dX ?_;simp only[aY,dX,A,ny,fM c1,fM c2,fM c3,z,g,dG,aX,bJ,am,Y,az,o,y,r,RN,F,H,I,S];refine SA (opD t.op) ((nK t.op n).map Fr.dv) (by simp[Mem.box,Z E,i]) (xq n) (IW _ _) ?_;cases N:nK t.op n with
 |none=>
  simp only[GI,bq,bN,bh,iR,mO,Y,o,r,fK,RN,F,H,J,S];refine⟨by simp,by kernel_rfl,yG ⟨rfl,rfl⟩ ⟨by simp[doS,N],⟨_,rfl,rfl,rfl⟩,?_⟩⟩;exact(h.ext (xf:=[bs.length+2,bs.length+1,bs.length]) (by simp)).2
 |some f=>
  obtain⟨O,P⟩:=h.ext (xs:=[some [PV.d (DV.iface T.dS (DV.agg [dI n,dI c]))],some [PV.d (dI n),pI c],some [pI f.n,pI f.d]]) (xf:=[bs.length+2,bs.length+1,bs.length]) (by simp);obtain⟨e1,e2,K⟩:=aaj O;have hk:=aif e1 e2 s t n f 100 (by omega) (by omega) D;have hp:=adM e1 e2 s t n v.pc hn;rw[aS,cu]at hk;rw[cu]at hp;simp only[GI,aR,bO,bi,iR,mO,Y,o,r,aS,RN,F,H,J,S];refine⟨by simp,?_⟩;refine kR (OZ K rfl) rfl hk rfl ?_;cases m:U9 s t n f 100
  ·simp only[fK,RN,F,H,S]
   exact⟨by kernel_rfl,yG ⟨rfl,rfl⟩ ⟨by simp[doS,N,m],⟨_,rfl,rfl,rfl⟩,P⟩⟩
  ·simp only[RN,F,H,S]
   refine kR (OZ K rfl) rfl hp rfl ?_;simp only[fK,RN];refine⟨by kernel_rfl,?_⟩
   by_cases l:c>=KC s t n
   ·rw[decide_eq_true l]
    refine Fa ?_;simp only[z,g,dG,Y,y,RN,H,S];refine aom (opD t.op) (opD (Py t.op n)) (by simp[Mem.box,Z E,i]) O.nm (xq n) (aot _ _) ?_;obtain⟨L,X⟩:=O.amM (Py t.op n);obtain⟨B,hB⟩:∃B,B=(bs++ [some [PV.d (DV.iface T.dS (DV.agg [dI n,dI c]))],some [PV.d (dI n),pI c],some [pI f.n,pI f.d]]).set mb (some [.iO (opD (Py t.op n))]):=⟨_,rfl⟩
    rw[<-hB]at L X;simp only[<-hB];have j:=L.box;rw[iL]at j;have w:b<B.length:=(U.1 j).1;have x:=L.nb;simp only at j x;have u:n<t.tg.length:=by rw[v.tl];exact hn
    have j0:(0:Int)<=(n:Int):=by omega
    simp only[j,w,q,j0,u,ae,V,RN,H,S];have G:(t.tg.map Fr.dv).set n (setCells ((t.tg.map Fr.dv).getD n default) 0 [dI f.n,dI f.d])=(t.tg.set n f).map Fr.dv:=by
     rw[cr,getD_map u];rfl
    have Q:cA .i64 (t.lF+c)=t.lF+c:=aF (by have:=v.co;omega);refine rF (ds:=[dI f.n,dI f.d]) q rfl (by decide) rfl rfl (by rw[getD_map u];exact an 2) ?_;rw[G];obtain⟨g5,g6⟩:=L.apO (t.tg.set n f);obtain⟨g7,g8⟩:=g5.aiD (t.lF+c);simp only[j,w,Q,RN,H,S];refine⟨by simpa using x,{t with op:=Py t.op n,tg:=t.tg.set n f,lF:=t.lF+c},cst,cse,by simp[doS,N,m,l],g7,?_⟩;exact((P.trans X).trans g6).trans g8
   ·rw[decide_eq_false l]
    exact yG ⟨rfl,rfl⟩ ⟨by simp[doS,N,m,l],⟨_,rfl,rfl,rfl⟩,P⟩
def aeZ (h:gy s a b mb cst cse t M)(n:Int):
  SC C 229 [.ptr b 0, .d (De.strike n).dv] M (fun p M'=>∃t' tK Dh,doS s t (.strike n)=some t'/\gy s a b mb tK Dh t' M'/\FrS a b mb M M') (fun d M'=>doS s t (.strike n)=none/\JY d/\FrS a b mb M M'):=by
 obtain⟨bs,fz,ar⟩:=M;have c:=(De.one (.strike n)).1;have e:=(De.one (.strike n)).2;have o:(De.strike n).dv= .iface T.bI (.agg [dI n]):=rfl;rw[o]at c e⊢;have f:(T.bI==T.fG)=false:=by decide
 have g:(T.bI==T.bP)=false:=by decide
 have i:(T.bI==T.eP)=false:=by decide
 have j:(T.bI==T.dS)=false:=by decide
 have k:(T.bI==T.fH)=false:=by decide
 refine aB aY dX ?_;simp only[aY,dX,c,aX,fM f,fM g,fM i,fM j,fM k,bJ,Y,RN,F,H,S];obtain⟨l,m⟩:=h.ext (xs:=[some [PV.d (DV.iface T.bI (DV.agg [dI n]))]]) (xf:=[bs.length]) (by simp);exact⟨t,cst,cse,rfl,l,m⟩
def Yk {base:Nat}{KP:DV->Mem->Prop}{f:FuncId}{args:List PV}{ds':List DV}{r:PV}{c:List Arr}(h:Pure C f ds' r c)(g:Rw r=true)(a:c.all jP=true){K:PV->Mem->Prop}
  (b:bV M args=some ds)(e:ds.map DV.strip=ds')(d:K (r.shift M.aC.length) {M with aC:=M.aC++c.map some}):au C base (.KX f) args M K KP:=
 ⟨_,_,Z9 h g a b e ⟨rfl,rfl⟩,d⟩
def gy.rows {ar xs:List (Option Arr)}(h:gy s a b mb cst cse t ⟨bs,fz,ar⟩):gy s a b mb cst cse t ⟨bs,fz,ar++xs⟩/\FrS a b mb ⟨bs,fz,ar⟩ ⟨bs,fz,ar++xs⟩:=by
 have c:∀(j:Nat) (A:Arr),ar[j]?=some (some A)->(ar++xs)[j]?=some (some A):=fun j A d=>by
  rw[Z (U.1 d).1];exact d
 constructor
 ·exact
  {box:=h.box,map:=h.map
   r0:=c _ _ h.r0,r1:=c _ _ h.r1,r2:=c _ _ h.r2,r3:=c _ _ h.r3,r4:=c _ _ h.r4,r5:=c _ _ h.r5
   stk:=rE h.stk fun j A _ d=>c j A d
   set:=rE h.set fun j A _ d=>c j A d
   kst:=h.kst,kse:=h.kse,dif:=h.dif,nb:=h.nb,nm:=h.nm,bm:=h.bm,fzb:=h.fzb}
 ·exact
  {len:=an _
   fzb:=fun e i hi=>by have:=e i hi;simpa using this
   bC:=by simp
   box:=fun _ _ _ _=>rfl
   fz:=fun _ _=>br
   row:=fun j f=>by
    have:=(U.1 h.r0).1;simp only at this⊢;rw[Z (by omega)]}
def gy.other (h:gy s a b mb cst cse t ⟨bs,fz,ar⟩){k:Nat}{A:Arr}(hk:a+6<=k)(h1:kOf cst≠some k)(h2:kOf cse≠some k):
  gy s a b mb cst cse t ⟨bs,fz,ar.set k (some A)⟩/\FrS a b mb ⟨bs,fz,ar⟩ ⟨bs,fz,ar.set k (some A)⟩:=by
 have c:∀(j:Nat) (B:Arr),j≠k->ar[j]?=some (some B)->(ar.set k (some A))[j]?=some (some B):=fun j B d g=>by
  rw[ab (Ne.symm d)];exact g
 constructor
 ·exact
  {box:=h.box,map:=h.map
   r0:=c _ _ (by omega) h.r0
   r1:=c _ _ (by omega) h.r1
   r2:=c _ _ (by omega) h.r2
   r3:=c _ _ (by omega) h.r3
   r4:=c _ _ (by omega) h.r4
   r5:=c _ _ (by omega) h.r5
   stk:=rE h.stk fun j B d f=>c j B (fun e=>h1 (e▸d)) f
   set:=rE h.set fun j B d f=>c j B (fun e=>h2 (e▸d)) f
   kst:=h.kst,kse:=h.kse,dif:=h.dif,nb:=h.nb,nm:=h.nm,bm:=h.bm,fzb:=h.fzb}
 ·exact
  {len:=an _
   fzb:=fun l i hi=>by have:=l i hi;simpa using this
   bC:=by simp
   box:=fun _ _ _ _=>rfl
   fz:=fun _ _=>br
   row:=fun j d=>by simp only;rw[ab (by omega)]}
def gy.apM (h:gy s a b mb cst cse t ⟨bs,fz,ar⟩)(p:Pc)(k:p.hands=t.pc.hands):
  gy s a b mb cst cse {t with pc:=p} ⟨bs,fz,ar.set a (some ⟨3,p.links.map Lk.dv,0,1⟩)⟩/\FrS a b mb ⟨bs,fz,ar⟩ ⟨bs,fz,ar.set a (some ⟨3,p.links.map Lk.dv,0,1⟩)⟩:=by
 have f:a<ar.length:=(U.1 h.r0).1;have c:∀(j:Nat) (A:Arr),j≠a->ar[j]?=some (some A)->(ar.set a (some ⟨3,p.links.map Lk.dv,0,1⟩))[j]?=some (some A):=fun j A d e=>by
  rw[ab (Ne.symm d)];exact e
 constructor
 ·exact
  {box:=h.box,map:=h.map
   r0:=by simp[f]
   r1:=c _ _ (by omega) (by rw[k];exact h.r1)
   r2:=c _ _ (by omega) h.r2
   r3:=c _ _ (by omega) h.r3
   r4:=c _ _ (by omega) h.r4
   r5:=c _ _ (by omega) h.r5
   stk:=rE h.stk fun j A d e=>c j A (by have:=h.kst j d;omega) e
   set:=rE h.set fun j A d e=>c j A (by have:=h.kse j d;omega) e
   kst:=h.kst,kse:=h.kse,dif:=h.dif,nb:=h.nb,nm:=h.nm,bm:=h.bm,fzb:=h.fzb}
 ·exact
  {len:=an _
   fzb:=fun g i hi=>by have:=g i hi;simpa using this
   bC:=by simp
   box:=fun _ _ _ _=>rfl
   fz:=fun _ _=>br
   row:=fun j d=>by simp only;rw[ab (by omega)]}
section
variable {C:Ctx}{base:Nat}{KP:DV->Mem->Prop}{K:PV->Mem->Prop}{M:Mem}{x y:PV}{l:List PV}
def zK:au C base (.ext 0) [.tup (x::l)] M K KP=K x M:=px
def zL:au C base (.ext 1) [.tup (x::y::l)] M K KP=K y M:=px
end
variable{f:FuncId}{args:List PV}{M:Mem}{K:PV->Mem->Prop}{KP:DV->Mem->Prop}
def TN (h:SC C f args M K (fun _ _=>False)):SC C f args M K KP:=by
 intro X w E a i g;refine(h X w E a i g).mono fun e l b=> ?_
 cases e with
 |returned v=>exact b
 |panicked c=>
  obtain⟨v,d,k,j,_,hh,_⟩:=b;exact hh.elim
 |outgrown=>exact b.elim
def acM (p q:Pc):(p.yD q).length<=p.hands.length:=Nv _ _ _ _
def LD (l:List Int):jP ⟨1,l.map ay,0,yE l⟩=true:=by
 cases l with
 |nil=>rfl
 |cons x l=>
  have:∀l:List Int,(flat (l.map ay)).all Rq=true:=by
   intro l
   induction l with
   |nil=>rfl
   |cons x l a=>simp only[flat,aL,cg,List.all_append]at a⊢;rw[a];rfl
  simp only[jP,this (x::l)]
  rfl
variable{bs:List (Option (List PV))}{b:Nat}
def ak2 {y:Option (List PV)}(h:b<bs.length):(bs.set b y)[b]?=some y:=by simp[h]
variable{W:Bool}{c:PV}{fz:List Nat}{ar:List (Option Arr)}
def ajA {x:PV}{xs ys:List DV}(h:slR W c xs ar)(hx:yg 1 x ⟨bs,fz,ar⟩=some ys)(g:∀y∈ys,y.fits 1=true)(hl:xs.length+ys.length<=1073741824)
  (e:∀k ver st ar',((kOf c=some k/\(∃l,ar[k]?=some (some ⟨1,xs,l,st⟩))/\(W=true->st=1\/xs=[]))\/(kOf c=none/\k=ar.length/\st=0/\xs=[]))->ar'[k]?=some (some ⟨1,xs++ys,ver,st⟩)->(∀j,j≠k->j<ar.length->ar'[j]?=ar[j]?)->ar.length<=ar'.length->st≠2->K (.tsl k ver 0) ⟨bs,fz,ar'⟩):
  kL 1 false c x ⟨bs,fz,ar⟩ K:=by
 rcases h with⟨rfl,rfl⟩|⟨k,ver,st,rfl,b,h2,i⟩
 ·simp only[kL,hx]
  refine⟨by decide,g,by simp,trivial,by simp,by simpa using hl,?_⟩;exact e _ _ 0 _ (.inr ⟨rfl,rfl,rfl,rfl⟩) (by simp) (fun j f a=>by rw[Z a]) (by simp) (by simp)
 ·have d:k<ar.length:=(U.1 b).1
  simp only[kL,hx,Mem.row,b,if_true];refine⟨by decide,g,by simp,trivial,h2,hl,?_⟩;exact e k (ver+1) st _ (.inl ⟨rfl,⟨ver,b⟩,i⟩) (by simp[d]) (fun j f _=>ab (Ne.symm f)) (by simp) h2
def akq (s:Su)(a b mb:Nat)(cst cse:PV)(t:Sp)(bs:List (Option (List PV)))(fz:List Nat)(ar:List (Option Arr))(n2:Nat)(o v:Int)(P:Nat->Nat->Prop)(c:Chg)(g:Pr)(r:Option (List Int×List Int))(e:Ex)(st:St):Prop:=
 match e with
 | .normal=>∃s1 p1 Wu ver h f ex,r=some (s1,p1)/\st=⟨[(0, .ptr b 0),(4, .d (.func (.func 281) [] [.aP [.iface T.bP (.agg [.int .i64 c.link, .int .i64 c.pr.a, .int .i64 c.pr.b])]])),(8, .d (.aP [.int .i64 c.link, .int .i64 c.pr.a, .int .i64 c.pr.b])),(15, .d (.aP [.int .i64 g.a, .int .i64 g.b])),(16, .tsl n2 ver 0)]++ex,f⟩/\
   gy s a b mb Wu cse {t with fA:=s1} f/\FrS a b mb ⟨bs,fz,ar⟩ f/\f.aC[n2]?=some (some ⟨1,p1.map ay,ver,h⟩)/\h≠2/\kOf Wu≠some n2/\n2<f.aC.length/\kOf cse≠some n2/\(p1=[]\/∃k ver,Wu= .tsl k ver 0/\f.aC[k]?=some (some ⟨1,s1.map ay,ver,1⟩))
 | .panic d=>r=none/\JY d/\FrS a b mb ⟨bs,fz,ar⟩ st.mem
 | _=>False
def ag9 (s:Su)(a b mb:Nat)(cse:PV)(t:Sp)(bs:List (Option (List PV)))(fz:List Nat)(ar:List (Option Arr))(n2:Nat)(c:Chg)(r:Option (List Int×List Int))(e:Ex)(st:St):Prop:=
 match e with
 | .normal=>∃s1 p1 Wu ver g env f,r=some (s1,p1)/\st=⟨env,f⟩/\Am.look env 0= .ptr b 0/\Am.look env 8= .d (.aP [.int .i64 c.link, .int .i64 c.pr.a, .int .i64 c.pr.b])/\Am.look env 16= .tsl n2 ver 0/\
   gy s a b mb Wu cse {t with fA:=s1} f/\FrS a b mb ⟨bs,fz,ar⟩ f/\f.aC[n2]?=some (some ⟨1,p1.map ay,ver,g⟩)/\g≠2/\kOf Wu≠some n2/\n2<f.aC.length/\kOf cse≠some n2/\(p1=[]\/∃k ver,Wu= .tsl k ver 0/\f.aC[k]?=some (some ⟨1,s1.map ay,ver,1⟩))
 | .panic d=>r=none/\JY d/\FrS a b mb ⟨bs,fz,ar⟩ st.mem
 | _=>False
variable{s1 p1:List Int}
def VL {st ps:List Int}{o v:Int}(h:zi st ps o v=some (s1,p1)):s1.length<=st.length/\p1.length<=ps.length+1:=by
 unfold zi at h
 split at h
 ·cases h;omega
 ·split at h
  ·cases h
   simp only[Y,aD,aw];exact⟨List.length_erase_le,by omega⟩
  ·cases h
def UY (P:agA){s:Su}{a b mb:Nat}{cst cse:PV}{t:Sp}{M:Mem}(h:gy s a b mb cst cse t M)(ht:VW s t)(c:Chg)(hc:t.pc.Ld c=true):
  SC C 229 [.ptr b 0, .d (De.change c).dv] M (fun p M'=>∃t' tK Dh,doS s t (.change c)=some t'/\gy s a b mb tK Dh t' M'/\FrS a b mb M M') (fun d M'=>doS s t (.change c)=none/\JY d/\FrS a b mb M M'):=by
 obtain⟨bs,fz,ar⟩:=M;have w:=h.box;rw[iL]at w;have bu:=h.nb;have R:=h.map;have a4:=h.r0;have a5:=h.r1;simp only at w bu R a4 a5;have a9:b<bs.length:=(U.1 w).1;have bR:mb<bs.length:=(U.1 R).1;have a1:=(De.one (.change c)).1;have bo:=(De.one (.change c)).2;have hx:(De.change c).dv= .iface T.bP (.agg [dI c.link,dI c.pr.a,dI c.pr.b]):=rfl;rw[hx]at a1 bo⊢;have bS:bs.length∉fz:=fun e=>ao _ (h.fzb _ e)
 have bt:∀k,bs.length+k∉fz:=fun k e=>by have:=h.fzb _ e;simp only at this;omega
 have bA:¬b=bs.length:=by omega
 have bB:∀k,¬b=bs.length+k:=fun k=>by omega
 have a8:∀k,b<bs.length+k:=fun k=>by omega
 have bw:¬bs.length+1=bs.length:=by omega
 have c1:(T.bP==T.fG)=false:=by decide
 have aD:=agK t.pc c hc;rw[lU,Gu]at aD;refine aB aY dX ?_;simp only[aY,dX,a1,ny,fM c1,a9,w,dG,aX,bJ,am,Y,az,bt,a8,bw,bD,dD,RN,F,H,S];obtain⟨sp,ak9⟩:∃sp,sp=t.pc.yD (t.pc.changed c):=⟨_,rfl⟩
 rw[<-ak9]at aD;refine Yk aD rfl (by simp only[cn,cq,Bool.and_true];exact LD sp) (tY (d:= .agg [sF (t.pc.links.map Lk.dv),sF (t.pc.hands.map ay)]) (by simp[datum,bT,dR,Mem.row,a4,a5])) rfl ?_;obtain⟨g1,g2⟩:=h.ext (xs:=[some [PV.d (DV.iface T.bP (DV.agg [dI c.link,dI c.pr.a,dI c.pr.b]))],some [PV.d (dI c.link),PV.d (dI c.pr.a),PV.d (dI c.pr.b)]]) (xf:=[bs.length+1,bs.length]) (by simp);obtain⟨g3,g4⟩:=g1.rows (xs:=[some ⟨1,sp.map ay,0,yE sp⟩]);have y0:((0:Int)==0)=true:=rfl;have a2:(ar++ [some (⟨1,sp.map ay,0,yE sp⟩:Arr)])[ar.length]?=some (some ⟨1,sp.map ay,0,yE sp⟩):=by simp
 simp only[PV.shift,TR,jw,y0,fK,zK,zL,RN];refine⟨by kernel_rfl,Fa ?_⟩;have apw:sp.length<=4:=by
  have:=(Pc.CY ht.pc).2.2;rw[ak9];exact ap (acM _ _) this
 simp only[a2,cj,V,RN];refine aG sp.length (fun i (y:Mem)=>⟨[(0, .ptr b 0),(4, .d (.func (.func 281) [] [.aP [.iface T.bP (.agg [dI c.link,dI c.pr.a,dI c.pr.b])]])),(8, .d (.aP [dI c.link,dI c.pr.a,dI c.pr.b])),(83, .tsl ar.length 0 0),(84,pI sp.length),(85,pI i)],y⟩)
  (fun i y=>gy s a b mb cst cse t y/\FrS a b mb ⟨bs,fz,ar⟩ y/\y.aC[ar.length]?=some (some ⟨1,sp.map ay,0,yE sp⟩)/\(sp.all fun h=>(nK t.op h).isSome)=((sp.drop i).all fun h=>(nK t.op h).isSome)) 0 _ (av _) rfl ⟨g3,g2.trans g4,a2,rfl⟩ (fun i y k1 aq=> ?_) (fun y aq=> ?_)
 ·obtain⟨k2,k3,k6⟩:=rng k1 (by omega)
  obtain⟨p1,p2,p3,X⟩:=aq;rw[drop_cons k1,cn]at X;obtain⟨g,z,j⟩:=y;have zS:=p1.box;rw[iL]at zS;have l:=p1.map;simp only at zS l p3;have anP:b<g.length:=(U.1 zS).1;have apl:mb<g.length:=(U.1 l).1;have O:g.length∉z:=fun e=>ao _ (p1.fzb _ e)
  have bp:∀k,g.length+k∉z:=fun k e=>by have:=p1.fzb _ e;simp only at this;omega
  have bc:¬b=g.length:=by omega
  have be:∀k,¬b=g.length+k:=fun k=>by omega
  have bj:∀k,b<g.length+k:=fun k=>by omega
  simp only[k2,k3,k1,p3,V,getD_map,ae,aW,anP,zS,dG,RN,F,H,S];refine SA (opD t.op) ((nK t.op (sp.getD i default)).map Fr.dv) (by simp[Mem.box,Z apl,l]) (xq _) (IW _ _) ?_;cases hg:nK t.op (sp.getD i default)with
  |none=>
   rw[hg,bh,aM]at X;simp only[GI,bq,bN,bh,aX,bJ,O,fK,RN,H,S];refine⟨by kernel_rfl,yG ⟨rfl,rfl⟩ ⟨by simp only[doS,<-ak9,X,b8];rfl,⟨_,rfl,rfl,rfl⟩,?_⟩⟩;exact p2.trans (p1.ext (xf:=[]) (by simp)).2
  |some f0=>
   rw[hg,bi,bE]at X;simp only[GI,aR,bO,bi,aX,bJ,O,fK,aS,RN,H,S];refine⟨by kernel_rfl,Fa ?_⟩;simp only[k6];obtain⟨x1,x2⟩:=p1.ext (xs:=[some [pI f0.n,pI f0.d]]) (xf:=[]) (by simp);exact dH (len:=sp.length) (i:=i) _ k1 rfl ⟨x1,p2.trans x2,p3,X⟩
 ·obtain⟨p1,p2,p3,X⟩:=aq
  rw[List.drop_length,cq]at X;obtain⟨g,z,j⟩:=y;have zS:=p1.box;rw[iL]at zS;have l:=p1.map;have apt:=p1.r0;simp only at zS l p3 apt;have anP:b<g.length:=(U.1 zS).1;have apl:mb<g.length:=(U.1 l).1;have O:g.length∉z:=fun e=>ao _ (p1.fzb _ e)
  have bp:∀k,g.length+k∉z:=fun k e=>by have:=p1.fzb _ e;simp only at this;omega
  have bc:¬b=g.length:=by omega
  have be:∀k,¬b=g.length+k:=fun k=>by omega
  have bj:∀k,b<g.length+k:=fun k=>by omega
  have a3:0<=c.link/\c.link.toNat<t.pc.links.length:=by
   simp only[Pc.Ld,ai,inR,decide_eq_true_eq]at hc;omega
  obtain⟨j0,L⟩:=a3;obtain⟨f,x⟩:∃f,f=(t.pc.links.getD c.link.toNat default).pr:=⟨_,rfl⟩
  simp only[bl,anP,zS,dG,aX,bJ,Y,O,apt,j0,L,V,getD_map,Fz,<-x,RN,F,H,I,N,S];obtain⟨x1,x2⟩:=p1.ext (xs:=[some [pI f.a,pI f.b]]) (xf:=[g.length]) (by simp);obtain⟨x3,x4⟩:=x1.rows (xs:=[some ⟨1,[],0,0⟩]);have x5:=(p2.trans x2).trans x4;have E:∀k,kOf cst=some k->k≠j.length:=fun k hk e=>by
   rcases p1.stk with⟨rfl,_⟩|⟨k',_,_,rfl,q,_⟩
   ·cases hk
   ·cases hk
    have:=(U.1 q).1;simp only at this;omega
  have an8:∀k,kOf cse=some k->k≠j.length:=fun k hk e=>by
   rcases p1.set with⟨rfl,_⟩|⟨k',_,_,rfl,q,_⟩
   ·cases hk
   ·cases hk
    have:=(U.1 q).1;simp only at this;omega
  have aqe:a+5<j.length:=(U.1 p1.r5).1;refine lZ (Q:=akq s a b mb cst cse t bs fz ar j.length f.a c.pr.a (fun _ _=>True) c f (zi t.fA [] f.a c.pr.a)) (fun e st K=> ?_) ?_
  ·cases e with
   |normal=>
    obtain⟨s1,r,Wu,ver,sn,y,ex,G,rfl,y1,y2,y3,y4,y5,y6,y7,y8⟩:=K;have D:=VL G;have bX:=ht.st;have aq1:=y5;(try simp only[RN,F,H,S]);refine lZ (Q:=ag9 s a b mb cse t bs fz ar j.length c (zi s1 r f.b c.pr.b)) (fun e st K=> ?_) ?_
    ·cases e with
     |normal=>
      obtain⟨s2,aE,aqS,UF,b0,aqT,M2,W,rfl,l0,l8,bz,w1,w2,w3,w4,w5,w6,w7,w8⟩:=K;have aw:=VL W;obtain⟨ac,aL,u⟩:=M2;have YX:=w1.box;rw[iL]at YX;have afq:=w1.nb;simp only at YX afq w3;have aqg:b<ac.length:=(U.1 YX).1;obtain⟨o1,o2,o3⟩:=IV w1.stk;have bL:a+5<u.length:=(U.1 w1.r5).1;simp only[l0,l8,bz,YX,RN,F,H,S];refine ajA (ys:=aE.map ay) w1.stk (by simp[yg,Mem.row,w3]) wB (by have:=D;have:=aw;simp at*;omega) fun k ver st ar' e1 e2 e3 e4 e5=> ?_
      have a7:st=1\/s2++aE=[]:=by
       rcases w8 with hp|⟨k8,v8,a0,h8⟩
       ·subst hp
        rcases e1 with⟨_,_,e1⟩|⟨_,_,_,e1⟩
        ·exact(e1 rfl).imp id fun e=>by simpa using e
        ·exact .inr (by simpa using e1)
       ·rcases e1 with⟨e0,⟨v0,e1⟩,_⟩|⟨e1,_⟩
        ·rw[a0]at e0
         cases e0;simp only at h8;rw[e1]at h8;simp at h8;exact .inl h8.2
        ·rw[a0]at e1;cases e1
      obtain⟨g5,g6⟩:=w1.SH (k:=k) (ver:=ver) (st:=st) (xs:=s2++aE) (ar':=ar') (by
        rcases e1 with⟨e1,_⟩|⟨_,e1,_⟩
        ·exact w1.kst k e1
        ·omega) (fun e=>by
        rcases e1 with⟨e1,_⟩|⟨_,e1,_⟩
        ·exact w1.dif k e1 e
        ·rcases w1.set with⟨rfl,_⟩|⟨k',_,_,rfl,q,_⟩
         ·cases e
         ·cases e
          have:=(U.1 q).1;simp only at this;omega) (by rw[e2];simp) e3 e4 ⟨e5,a7⟩
      have ax:=g5.r0;simp only at ax;simp only[YX,aqg,afq,ak2,List.length_set,dJ,dO,ax,j0,L,V,RN,H,S];have a6:(t.pc.links.map Lk.dv).set c.link.toNat (setCells ((t.pc.links.map Lk.dv).getD c.link.toNat default) 1 [dI c.pr.a,dI c.pr.b])=(t.pc.changed c).links.map Lk.dv:=by
       rw[Pc.changed,cr,getD_map L];rfl
      refine rF (ds:=[dI c.pr.a,dI c.pr.b]) ax rfl (by decide) rfl rfl (by rw[getD_map L];exact an 3) ?_;rw[a6];obtain⟨g7,g8⟩:=g5.apM (t.pc.changed c) rfl;exact⟨_,_,_,by simp only[doS,hc,<-ak9,X,bk,if_true,<-x,G,W],g7,((w2.trans g6).trans g8)⟩
     |panic d=>
      obtain⟨h1,h2,h3⟩:=K;(try simp only[RN]);refine⟨?_,h2,h3⟩;simp only[doS,<-x,G,h1]
      split<;>rfl
     |ret=>exact K.elim
     |exit id=>exact K.elim
    ·by_cases m:f.b=c.pr.b
     ·have v:(f.b !=c.pr.b)=false:=by simp[m]
      simp only[v,RN,F];refine⟨s1,r,Wu,ver,sn,_,y,by rw[zi,if_pos m],rfl,rfl,rfl,rfl,y1,y2,y3,y4,y5,y6,y7,y8⟩
     ·have v:(f.b !=c.pr.b)=true:=by simp[m]
      simp only[v,RN,F,H,N,S];refine TN (SC.mono (adU P y1 c.pr.b (by simp only;omega)) ?_);rintro p M2 (⟨q1,rfl,rfl⟩|⟨q1,rfl,tK,q2,q3,q4,⟨kk,kv,rfl,q8⟩,q5⟩)
      ·simp only[fK,RN]
       refine⟨by kernel_rfl,yG ⟨rfl,rfl⟩ ?_⟩;refine⟨by rw[zi,if_neg m,if_neg q1],⟨_,rfl,rfl,rfl⟩,y2⟩
      ·obtain⟨ac,aL,u⟩:=M2
       simp only[fK,RN];refine⟨by kernel_rfl,Fa ?_⟩;have o:u[j.length]?=some (some ⟨1,r.map ay,ver,sn⟩):=by
        have:=q5 j.length y5;simp only at this;rw[this];exact y3
       have B:j.length<u.length:=(U.1 o).1;simp only[o,DV.strip,fU,fits_int,forall_eq,y4,V,RN,S];obtain⟨q6,q7⟩:=q2.other (k:=j.length) (A:=⟨1,(r++ [f.b]).map ay,ver+1,sn⟩) (by omega) (by rw[q4];exact y5) y7;have bv:r.length<=1073741823:=by have:=D.2;simp at this;omega
       have br:r.map ay++ [dI f.b]=(r++ [f.b]).map ay:=by simp[ay]
       rw[br];refine⟨by simp,bv,s1.erase c.pr.b,r++ [f.b], .tsl kk kv 0,ver+1,sn,_,_,by rw[zi,if_neg m,if_pos q1],rfl,rfl,rfl,rfl,q6,(y2.trans q3).trans q7,by simp[B],y4,by rw[q4];exact y5,by simp;exact B,y7, .inr ⟨kk,kv,rfl,?_⟩⟩;simp only;rw[ab (fun e=>y5 (by rw[<-q4,e];rfl))];exact q8
   |panic d=>
    obtain⟨h1,h2,h3⟩:=K;(try simp only[RN]);refine⟨?_,h2,h3⟩;simp only[doS,<-x,h1]
    split<;>rfl
   |ret=>exact K.elim
   |exit id=>exact K.elim
  ·by_cases m:f.a=c.pr.a
   ·have v:(f.a !=c.pr.a)=false:=by simp[m]
    simp only[v,RN,F];refine⟨t.fA,[],cst,0,0,_,[_],by rw[zi,if_pos m],rfl,x3,x5,by simp,by decide,fun e=>E _ e rfl,by simp,fun e=>an8 _ e rfl, .inl rfl⟩
   ·have v:(f.a !=c.pr.a)=true:=by simp[m]
    simp only[v,RN,F,H,N,S];refine TN (SC.mono (adU P x3 c.pr.a (by have:=ht.st;omega)) ?_);rintro p M2 (⟨q1,rfl,rfl⟩|⟨q1,rfl,tK,q2,q3,q4,⟨kk,kv,rfl,q8⟩,q5⟩)
    ·simp only[fK,RN]
     refine⟨by kernel_rfl,yG ⟨rfl,rfl⟩ ?_⟩;refine⟨by rw[zi,if_neg m,if_neg q1],⟨_,rfl,rfl,rfl⟩,x5⟩
    ·obtain⟨ac,aL,u⟩:=M2
     simp only[fK,RN];refine⟨by kernel_rfl,Fa ?_⟩;have o:u[j.length]?=some (some ⟨1,[],0,0⟩):=by
      have:=q5 j.length (fun e=>E _ e rfl);simp only at this;rw[this];simp
     simp only[o,DV.strip,fU,fits_int,forall_eq,RN,J,S];have B:j.length<u.length:=(U.1 o).1;obtain⟨q6,q7⟩:=q2.other (k:=j.length) (A:=⟨1,[dI f.a],1,0⟩) (by omega) (fun e=>E _ (q4▸e) rfl) (fun e=>an8 _ e rfl);refine⟨by simp,t.fA.erase c.pr.a,[f.a], .tsl kk kv 0,1,0,_,[],by rw[zi,if_neg m,if_pos q1];rfl,rfl,q6,(x5.trans q3).trans q7,by simp[B,ay],by decide,fun e=>E _ (q4▸e) rfl,by simp;exact B,fun e=>an8 _ e rfl, .inr ⟨kk,kv,rfl,by simp only;rw[ab (fun e=>E _ (q4▸rfl) e.symm)];exact q8⟩⟩
def ap5 (s:Su)(t:Sp):De->Prop
 | .change c=>t.pc.Ld c=true
 | .serve h c=>(0<=h/\h.toNat<t.pc.hands.length)/\0<=c/\c<=1000000000
 | .set d=>1<=d/\d.toNat<=s.days.length
 | _=>True
def YD (e:agA){s:Su}{a b mb:Nat}{cst cse:PV}{t:Sp}{M:Mem}(h:gy s a b mb cst cse t M)(g:VW s t)(x:De)(hx:ap5 s t x):
  SC C 229 [.ptr b 0, .d x.dv] M (fun p M'=>∃t' tK Dh,doS s t x=some t'/\gy s a b mb tK Dh t' M'/\FrS a b mb M M') (fun d M'=>doS s t x=none/\JY d/\FrS a b mb M M'):=by
 cases x with
 |cut n=>
  refine SC.mono (ank h g n) fun p M' l=> ?_
  obtain⟨t',tK,h1,h2,i⟩:=l;exact⟨t',tK,cse,h1,h2,i⟩
 |change c=>exact UY e h g c hx
 |order n f=>exact ahl h n f
 |serve n c=>
  obtain⟨⟨h1,h2⟩,i⟩:=hx;obtain⟨k,rfl⟩:=Int.eq_ofNat_of_zero_le h1;exact ahm h g k (by simpa using h2) c i
 |set d=>
  obtain⟨h1,h2⟩:=hx;obtain⟨k,j⟩:∃k:Nat,d=((k+1:Nat):Int):=⟨(d - 1).toNat,by omega⟩
  subst j;exact anl h g k (by omega)
 |strike n=>exact aeZ h n
def X7 (p:Pc)(c:Chg)(j:p.ok=true)(k:inR c.link 0 (p.links.length - 1)=true)(hc:c.pr.ok=true)(l:c.pr=(p.links.getD c.link.toNat default).pr):Pure C 282 [p.dv,c.dv] (.d (.tup [.slice true [],dI 2])) []:=by
 have g:=Pc.good j;have i:0<=c.link/\c.link<=(p.links.length:Int) - 1:=by simpa[inR]using k
 have h:c.link.toNat<p.links.length:=by have:=g.l1;omega
 have n:=g.l2;have m:=g.h2;have hi:=wE p (by omega) (by omega);have f:=XK c.pr;have e1:cA .i64 ((p.links.length:Int) - 1)=(p.links.length:Int) - 1:=aF (by omega);have e:((c.pr.a==(p.links.getD c.link.toNat default).pr.a)&&(c.pr.b==(p.links.getD c.link.toNat default).pr.b))=true:=by rw[adL];simpa using l
 refine ah Hy bn ?_;simp only[lU,Gu,dW]at hi f⊢;simp only[Hy,bn,RN,F,H,S];refine ak hi ?_;simp only[j,V,e1,RN,F,H,S];refine ak (Ip _ _ _) ?_;simp only[k,RN,F,H,S];refine ak f ?_;simp only[hc,i.1,h,getD_map,Fz,V,iD,e,KW,RN,F,H,S]
def Ac (n:Int):DV:= .tup [.slice true [],dI n]
def adC {w w':World}{O O':Nat->Prop}{v:Value}{n:Int}(h:bK w O v (Ac n)):bK w' O' v (Ac n):=by
 unfold Ac at*;cases h with|tup h=>
 generalize a:Array.toList _=vs at h;cases h with|cons h1 h2=>
 cases h2 with|cons d e=>
 cases e;cases d;refine .tup ?_;rw[a];refine .cons ?_ (.cons (.int _ _) .nil);cases h1 with
 |empty b=>exact .empty b
 |slice f i c j g b hh=>
  simp only[aw]at c;subst c;exact .empty b
variable{ds ds':List DV}
def aoA {n:Int}(h:Pure C f ds' (.d (Ac n)) [])(k:bV M args=some ds)(l:ds.map DV.strip=ds')(p:K (.d (Ac n)) M):SC C f args M K KP:=by
 subst l;intro X w E c a o;have i:=mP a args;have hd:=(rQ a o k (fun q r=>r)).strip;refine(h (away X (M.frz args) E) w c a.glob (fun b j=> .inl (a.iF b j)) (fun b j=>i.wQ j) hd).mono fun e z l=> ?_
 obtain⟨v,x,rfl,g,m,s⟩:=l;obtain⟨t,u,y⟩:=Io a (D7 a g m rfl) m (by simp);exact⟨_,_,_,(by simpa using p),t,u, .d (adC s.toD)⟩
def aek {base:Nat}{n:Int}(h:Pure C f ds' (.d (Ac n)) [])(a:bV M args=some ds)(c:ds.map DV.strip=ds')(b:K (.d (Ac n)) M):au C base (.KX f) args M K KP:=
 ⟨_,_,aoA h a c ⟨rfl,rfl⟩,b⟩
variable{s:Su}{t:Sp}
def aku {a mb:Nat}{cst cse:PV}(h:gy s a b mb cst cse t M)(D:VW s t)(c:Chg)(B:inR c.link 0 (t.pc.links.length - 1)=true)(hc:c.pr.ok=true)(w:c.pr=(t.pc.links.getD c.link.toNat default).pr):
  SC C 229 [.ptr b 0, .d (De.change c).dv] M (fun p M'=>∃t' tK Dh,doS s t (.change c)=some t'/\gy s a b mb tK Dh t' M'/\FrS a b mb M M') (fun d M'=>doS s t (.change c)=none/\JY d/\FrS a b mb M M'):=by
 have u:t.pc.Ld c=false:=by simp[Pc.Ld,w]
 obtain⟨bs,fz,ar⟩:=M;have f:=h.box;rw[iL]at f;have i:=h.r0;have j:=h.r1;simp only at f i j;have o:b<bs.length:=(U.1 f).1;have g:=(De.one (.change c)).1;have q:=(De.one (.change c)).2;have E:(De.change c).dv= .iface T.bP (.agg [dI c.link,dI c.pr.a,dI c.pr.b]):=rfl;rw[E]at g q⊢;have A:bs.length∉fz:=fun e=>ao _ (h.fzb _ e)
 have r:∀k,bs.length+k∉fz:=fun k e=>by have:=h.fzb _ e;simp only at this;omega
 have y:¬b=bs.length:=by omega
 have z:∀k,¬b=bs.length+k:=fun k=>by omega
 have m:∀k,b<bs.length+k:=fun k=>by omega
 have v:¬bs.length+1=bs.length:=by omega
 have x:(T.bP==T.fG)=false:=by decide
 have l:=X7 t.pc c D.pc B hc w;rw[lU,Gu]at l;refine aB aY dX ?_;simp only[aY,dX,g,ny,fM x,o,f,dG,aX,bJ,am,Y,az,r,m,v,bD,dD,RN,F,H,S];refine aek (n:=2) l (tY (d:= .agg [sF (t.pc.links.map Lk.dv),sF (t.pc.hands.map ay)]) (by simp[datum,bT,dR,Mem.row,i,j])) rfl ?_;have G:((2:Int)==0)=false:=rfl;simp only[Ac,G,fK,RN];refine⟨by kernel_rfl,yG ⟨rfl,rfl⟩ ⟨by simp[doS,u],⟨_,rfl,rfl,rfl⟩,?_⟩⟩;exact(h.ext (xf:=[bs.length+1,bs.length]) (by simp)).2
def mg (s:Su)(t:Sp):De->Prop
 | .change c=>inR c.link 0 (t.pc.links.length - 1)=true/\c.pr.ok=true
 | .serve h c=>(0<=h/\h.toNat<t.pc.hands.length)/\0<=c/\c<=1000000000
 | .set d=>1<=d/\d.toNat<=s.days.length
 | _=>True
def ahk (e:agA){s:Su}{a b mb:Nat}{cst cse:PV}{t:Sp}{M:Mem}(h:gy s a b mb cst cse t M)(g:VW s t)(x:De)(hx:mg s t x):
  SC C 229 [.ptr b 0, .d x.dv] M (fun p M'=>∃t' tK Dh,doS s t x=some t'/\gy s a b mb tK Dh t' M'/\FrS a b mb M M') (fun d M'=>doS s t x=none/\JY d/\FrS a b mb M M'):=by
 cases x with
 |change c=>
  obtain⟨h1,h2⟩:=hx
  by_cases i:c.pr=(t.pc.links.getD c.link.toNat default).pr
  ·exact aku h g c h1 h2 i
  ·refine UY e h g c ?_
   simp only[Pc.Ld,g.pc,h1,h2,decide_eq_false i,bk,Bool.not_false]
 |cut n=>exact YD e h g _ trivial
 |order n f=>exact YD e h g _ trivial
 |serve n c=>exact YD e h g _ hx
 |set d=>exact YD e h g _ hx
 |strike n=>exact YD e h g _ trivial
def Yr {l:List DV}:PV.cells (.d (.aP l))=[.d (.aP l)]:=rfl
def jC (s:Su)(ce cs:PV):List PV:=[.d (.aP s.cs), .d (sF (s.days.map Bv)),ce,cs]
def aj2 (s:Su)(hs:s.Small)(bs:List (Option (List PV)))(fz:List Nat)(ar:List (Option Arr))(KP:DV->Mem->Prop)(a:∀i∈fz,i<bs.length):
  SC C 82 [.d s.dv] ⟨bs,fz,ar⟩ (fun p M'=>(s.ok=false/\p= .d (.tup [.nilPtr,dI 2]))\/(s.ok=true/\p= .tup [.ptr (bs.length+2) 0,pI 0]/\∃x1 x2,M'=⟨bs++ [x1,x2,some (jC s (.d (.slice true [])) (.d (.slice true [])))],(bs.length+1)::bs.length::fz,ar⟩)) KP:=by
 have hi:=afx s hs;rw[Jo]at hi;refine aB Ap OC ?_;simp only[Ap,OC,Jo,aX,bJ,Y,RN,F,H,S];refine ak hi ?_;cases b:s.ok
 ·(try simp only[RN,F])
  exact .inl trivial
 ·(try simp only[RN,F,H,S])
  have g:=ahc s (Su.QB b);have h:=aoM s b;rw[Jo]at g h;refine ak g ?_;simp only[iR,mO,am,Y,RN,F,H,S];have j:bs.length∉fz:=fun e=>ao _ (a _ e)
  have c:∀k,bs.length+k∉fz:=fun k e=>by have:=a _ e;omega
  have f:¬bs.length+1=bs.length:=by omega
  simp only[c,f,RN];refine ak h ?_;simp only[iR,mO,Yr,kQ,dV,RN,F,H,S];exact .inr ⟨_,_,by rw[jC,Yy]⟩
def ZF {ls ms:List Lk}(h:∀i,(ls.getD i default).fr=(ms.getD i default).fr):∀(k a:Nat),yJ ls k a=yJ ms k a
 |0,_=>rfl
 | _+1,0=>rfl
 |k+1,a+1=>by simp only[yJ,h a];rw[ZF h k]
def ak1 {ls ms:List Lk}(h:ls.map (·.fr)=ms.map (·.fr))(i:Nat):(ls.getD i default).fr=(ms.getD i default).fr:=by
 have h1:=congrArg (fun l=>l[i]?) h;simp only[a7]at h1;simp only[bu];cases h2:ls[i]?<;>cases a:ms[i]?<;>simp_all
def Sv:∀(ls b pre a:List Lk),ls.map (·.fr)=b.map (·.fr)->pre.map (·.fr)=a.map (·.fr)->(∀l∈b,l.pr.ok=true)->rJ pre ls=true->rJ a b=true
 | [],[],_,_,_,_,_,_=>rfl
 | [],_::_,_,_,h,_,_,_=>by simp at h
 | _::_,[],_,_,h,_,_,_=>by simp at h
 |l::ls,j::b,pre,a,h,f,d,g=>by
  simp only[aL,List.cons.injEq]at h;obtain⟨h1,h2⟩:=h;have c:pre.length=a.length:=by simpa using congrArg b9 f
  simp only[rJ,ai,yA]at g⊢;obtain⟨⟨⟨k,_⟩,m⟩,n⟩:=g;refine⟨⟨⟨?_,d j bz⟩,?_⟩,Sv ls b _ _ h2 (by simp[f,h1]) (fun x i=>d x (bc _ i)) n⟩
  ·rw[<-h1,<-c];exact k
  ·have e:iG a l.fr.toNat=iG pre l.fr.toNat:=(ZF (ak1 f) _ _).symm
   rw[<-h1]
   simpa only[e]using m
def aa6 {p:Pc}{c:Chg}(h:p.ok=true)(hc:c.pr.ok=true):(p.changed c).ok=true:=by
 have d:=Pc.good h;have e:(p.changed c).links.length=p.links.length:=by simp[Pc.changed]
 have a:=h;simp only[Pc.ok,ai]at a⊢;obtain⟨⟨⟨f,g⟩,j⟩,k⟩:=a;rw[e];refine⟨⟨⟨f,g⟩,Sv p.links _ [] [] ?_ rfl (Em d hc).2.2 j⟩,k⟩;apply cf;intro i;simp only[Pc.changed,a7,List.getElem?_set]
 by_cases b:c.link.toNat=i
 ·subst b
  by_cases hi:c.link.toNat<p.links.length
  ·simp[hi,bu]
  ·simp[bX (Nat.le_of_not_lt hi)];omega
 ·simp[b]
structure Gn (s:Su) (n:Nat) (t:Sp):Prop where
 ok:s.ok=true
 pc:t.pc.ok=true
 ll:t.pc.links.length=s.pc.links.length
 hh:t.pc.hands=s.pc.hands
 tl:t.tg.length=s.pc.hands.length
 st:t.fA.length<=n
 se:t.sets.length<=n
 co:0<=t.lF/\t.lF<=(n:Int)*1000000000
 sv:∀d∈t.sets,1<=d/\d<=366
def Di (s:Su):s.days.length<=366:=by
 have:=wS (s.cal.leap s.year);simp only[Su.days,Su.vZ,V,ch,Su.dur]
 split at this<;>omega
def Gn.sp {n:Nat}(h:Gn s n t)(a:n<=1000):VW s t:=⟨h.ok,h.pc,by rw[h.tl,h.hh],by have:=h.st;omega,by have:=h.se;omega,by have:=h.co;omega⟩
variable{t':Sp}
def mg.same {n:Nat}(h:t.pc.links.length=t'.pc.links.length)(hh:t.pc.hands=t'.pc.hands){x:De}(hx:mg s t x):mg s t' x:=by
 cases x<;>simp only[mg,h,hh]at hx⊢<;>exact hx
def VN {fA c:List Int}{a b:Int}(h:zi fA c a b=some (s1,p1)):s1.length+p1.length=fA.length+c.length:=by
 unfold zi at h
 split at h
 ·cases h;rfl
 ·split at h
  ·rename_i d
   cases h;have:=List.length_erase_of_mem d;have e:=List.length_pos_of_mem d;simp;omega
  ·cases h
def anj {n:Nat}(h:Gn s n t){x:De}(hx:mg s t x)(hd:doS s t x=some t'):Gn s (n+1) t':=by
 have r:=h.co;have k:=h.st;have j:=h.se;cases x with
 |cut m=>
  simp only[doS]at hd
  split at hd
  ·cases hd;exact⟨h.ok,h.pc,h.ll,h.hh,h.tl,by simp;omega,by simp only;omega,by simp only;omega,h.sv⟩
  ·cases hd
 |change c=>
  obtain⟨h1,h2⟩:=hx;simp only[doS]at hd
  split at hd
  ·generalize a:zi t.fA [] _ _=g at hd
   cases g with
   |none=>cases hd
   |some g=>
    obtain⟨s1,p1⟩:=g;simp only at hd;generalize b:zi s1 p1 _ _=i at hd;cases i with
    |none=>cases hd
    |some i=>
     obtain⟨p,l⟩:=i;simp only at hd;cases hd;have e1:=VN a;have e2:=VN b;have q:p.length+l.length=t.fA.length:=by simpa[e1]using e2
     exact⟨h.ok,aa6 h.pc h2,by simp[Pc.changed,h.ll],h.hh,h.tl,by simp;omega,by simp only;omega,by simp only;omega,h.sv⟩
  ·cases hd
 |order m f=>
  simp only[doS]at hd
  split at hd
  ·cases hd
  ·cases hd;exact⟨h.ok,h.pc,h.ll,h.hh,h.tl,by simp only;omega,by simp only;omega,by simp only;omega,h.sv⟩
 |serve m c=>
  obtain⟨_,h2⟩:=hx;simp only[doS]at hd;generalize nK t.op m=o at hd;cases o with
  |none=>cases hd
  |some f=>
   simp only at hd
   split at hd
   ·cases hd;exact⟨h.ok,h.pc,h.ll,h.hh,by simp[h.tl],by simp only;omega,by simp only;omega,by simp only;omega,h.sv⟩
   ·cases hd
 |set d=>
  simp only[doS]at hd
  split at hd
  ·cases hd;exact⟨h.ok,h.pc,h.ll,h.hh,h.tl,by simp only;omega,by simp;omega,by simp only;omega,fun x hm=>by
    rcases ax.1 hm with hm|hm
    ·exact h.sv x hm
    ·simp only[bA]at hm
     obtain⟨h1,h2⟩:=hx;have:=Di s;rw[hm];omega⟩
  ·cases hd
 |strike e=>
  simp only[doS]at hd;cases hd;exact⟨h.ok,h.pc,h.ll,h.hh,h.tl,by omega,by omega,by omega,h.sv⟩
structure Dk where
 su:Su
 es:List En
 st:List Bool
 deriving DecidableEq,Inhabited
def mQ:List En->List Bool->Nat->List (Nat×De)
 |x::xs,b::bs,i=>if x.kind≠6/\b=false then(i,x.deed)::mQ xs bs (i+1)else mQ xs bs (i+1)
 | _,_,_=>[]
def Dk.stands (d:Dk):List (Nat×De):=mQ d.es d.st 0
def Su.sp0 (s:Su):Sp:=⟨s.pc,s.tg,[],[],0,[]⟩
def Fq (s:Su):List De->Sp->Option Sp
 | [],t=>some t
 |x::l,t=>(doS s t x).bind (Fq s l)
def Dk.without (d:Dk)(w:Int):List De:=(d.stands.filter fun p=>decide ((p.1:Int)≠w)).map (·.2)
def Dk.state (d:Dk)(w:Int):Option Sp:=Fq d.su (d.without w) d.su.sp0
def En.formed (x:En):Bool:=inR x.kind 1 6&&decide (x.ns.length=xu x.kind)&&x.ns.all fun n=>inR n 0 9999
def Dk.lG (d:Dk):De->Bool
 | .cut n=>aT n
 | .change c=>inR c.link 0 (d.su.pc.links.length - 1)&&c.pr.ok
 | .order h f=>inR h 0 (d.su.pc.hands.length - 1)&&f.ok
 | .serve h _=>inR h 0 (d.su.pc.hands.length - 1)
 | .set n=>inR n 1 d.su.days.length
 | .strike e=>inR e 0 (d.es.length - 1)&&decide ((d.es.getD e.toNat default).kind≠6)
structure Dk.Ok (d:Dk):Prop where
 su:d.su.ok=true
 len:d.es.length=d.st.length
 few:d.es.length<=24
 formed:∀x∈d.es,x.formed=true
 fine:∀x∈d.es,mg d.su d.su.sp0 x.deed
variable{d:Dk}
def adg {x:En}(hx:x.formed=true)(hf:d.lG x.deed=true):mg d.su d.su.sp0 x.deed:=by
 simp only[En.formed,ai,decide_eq_true_eq,bL]at hx;obtain⟨⟨h1,h2⟩,g⟩:=hx;have j:∀i,i<x.ns.length->0<=x.n i/\x.n i<=9999:=fun i hi=>by
  have:=g _ (getD_mem hi)
  simpa[inR,En.n]using this
 unfold En.deed at hf⊢
 split
 ·trivial
 ·split
  ·rename_i a b
   rw[if_neg a,if_pos b]at hf
   simpa[Dk.lG,mg,Su.sp0]using hf
  ·split
   ·trivial
   ·split
    ·rename_i a b f c
     rw[if_neg a,if_neg b,if_neg f,if_pos c]at hf;have e:x.ns.length=2:=by rw[h2,xu,c];rfl
     have k:=j 1 (by omega);simp only[Dk.lG,inR,ai,decide_eq_true_eq]at hf;refine⟨⟨by omega,by simp only[Su.sp0];omega⟩,by omega,by omega⟩
    ·split
     ·rename_i a b f c h
      rw[if_neg a,if_neg b,if_neg f,if_neg c,if_pos h]at hf;simp only[Dk.lG,inR,ai,decide_eq_true_eq]at hf;exact⟨by omega,by omega⟩
     ·trivial
def xY:∀(es:List En) (st:List Bool) (i:Nat) (p:Nat×De),p∈mQ es st i->∃x∈es,p.2=x.deed
 | [],_,_,_,h=>by simp[mQ]at h
 | _::_,[],_,_,h=>by simp[mQ]at h
 |x::xs,b::bs,i,p,h=>by
  simp only[mQ]at h
  split at h
  ·rcases bo.1 h with h|h
   ·exact⟨x,bz,by rw[h]⟩
   ·obtain⟨y,a,e⟩:=xY xs bs _ p h
    exact⟨y,bc _ a,e⟩
  ·obtain⟨y,a,e⟩:=xY xs bs _ p h
   exact⟨y,bc _ a,e⟩
def CG:∀(es:List En) (st:List Bool) (i:Nat),(mQ es st i).length<=es.length
 | [],_,_=>by simp[mQ]
 | _::_,[],_=>by simp[mQ]
 |x::xs,b::bs,i=>by
  have:=CG xs bs (i+1);simp only[mQ]
  split<;>simp<;>omega
def ajD (h:s.ok=true):Gn s 0 s.sp0:=by
 obtain⟨h1,h2,_⟩:=Su.facts h;exact⟨h,h1,rfl,rfl,h2,by simp[Su.sp0],by simp[Su.sp0],by simp[Su.sp0],by simp[Su.sp0]⟩
def QZ {s:Su}:∀(l:List De) (n:Nat) (t t':Sp),Gn s n t->(∀x∈l,mg s s.sp0 x)->Fq s l t=some t'->Gn s (n+l.length) t'
 | [],n,t,t',h,_,hd=>by cases hd;exact h
 |x::l,n,t,t',h,a,hd=>by
  simp only[Fq]at hd;cases h1:doS s t x with
  |none=>rw[h1]at hd;cases hd
  |some t1=>
   rw[h1]at hd;have:=QZ l (n+1) t1 t' (anj h (mg.same (n:=n) h.ll.symm h.hh.symm (a x bz)) h1) (fun y b=>a y (bc _ b)) hd
   simpa[az,Nat.add_comm 1]using this
def Dk.Ok.XV (h:d.Ok)(w:Int):∀x∈d.without w,mg d.su d.su.sp0 x:=by
 intro x a;simp only[Dk.without,aE,cl]at a;obtain⟨p,⟨b,_⟩,rfl⟩:=a;obtain⟨y,c,e⟩:=xY _ _ _ _ b;rw[e];exact h.fine y c
def Dk.aay (d:Dk)(w:Int):(d.without w).length<=d.es.length:=by
 simp only[Dk.without,V];exact ap (b0 _ _) (CG _ _ _)
def Dk.Ok.aam (h:d.Ok){w:Int}{t:Sp}(a:d.state w=some t):Gn d.su 24 t:=by
 have h1:=QZ _ 0 _ t (ajD h.su) (h.XV w) a;have h2:=d.aay w;have b:=h.few;have c:=h1.co;exact⟨h1.ok,h1.pc,h1.ll,h1.hh,h1.tl,by have:=h1.st;omega,by have:=h1.se;omega,by omega,h1.sv⟩
def slN (sz:Nat)(W:Bool)(c:PV)(xs:List DV)(ar:List (Option Arr)):Prop:=
 (c= .d (.slice true [])/\xs=[])\/∃k ver st,c= .tsl k ver 0/\ar[k]?=some (some ⟨sz,xs,ver,st⟩)/\st≠2/\(W=true->st=1\/xs=[])
variable{sz:Nat}
def QA {xs:List DV}{K:Int->Prop}(h:slN sz W c xs ar):qx c ⟨bs,fz,ar⟩ K=K xs.length:=by
 rcases h with⟨rfl,rfl⟩|⟨k,ver,st,rfl,a,_⟩
 ·rfl
 ·simp[qx,Mem.row,a]
def CB {xs:List DV}(h:slN sz W c xs ar):PV.one c=true/\PV.cells c=[c]/\c.oh=false:=by
 rcases h with⟨rfl,rfl⟩|⟨k,ver,st,rfl,_⟩<;>exact⟨rfl,rfl,rfl⟩
def iK {xs:List DV}{ar':List (Option Arr)}(h:slN sz W c xs ar)(hk:∀k A,kOf c=some k->ar[k]?=some (some A)->ar'[k]?=some (some A)):slN sz W c xs ar':=by
 rcases h with⟨rfl,rfl⟩|⟨k,ver,st,rfl,h1,h2⟩
 ·exact .inl ⟨rfl,rfl⟩
 ·exact .inr ⟨k,ver,st,rfl,hk _ _ rfl h1,h2⟩
def agc {xs:List DV}(h:slN sz W c xs ar):∃ex,datum ⟨bs,fz,ar⟩ c=some (.slice ex xs):=by
 rcases h with⟨rfl,rfl⟩|⟨k,ver,st,rfl,h,_⟩
 ·exact⟨true,rfl⟩
 ·exact⟨false,by simp[datum,Mem.row,h]⟩
def uX {xs:List DV}(h:slN sz W c xs ar)(hx:xs≠[]):∃k ver st,c= .tsl k ver 0/\ar[k]?=some (some ⟨sz,xs,ver,st⟩)/\st≠2/\(W=true->st=1):=by
 rcases h with⟨_,rfl⟩|⟨k,ver,st,rfl,h,h2,a⟩
 ·exact absurd rfl hx
 ·exact⟨k,ver,st,rfl,h,h2,fun b=>(a b).resolve_right hx⟩
structure DkRd (D:Dk) (d:Nat) (ce cs:PV) (M:Mem):Prop where
 box:M.boxes[d]?=some (some (jC D.su ce cs))
 ent:slN 2 false ce (D.es.map En.dv) M.aC
 str:slN 1 true cs (D.st.map .bool) M.aC
structure vX (D:Dk) (d:Nat) (ce cs:PV) (M:Mem):Prop extends DkRd D d ce cs M where
 dif:∀k,kOf ce=some k->kOf cs≠some k
 nb:d∉M.fz
 fzb:FzB M
def oZ (p:Nat×De):List DV:=[dI p.1,p.2.dv]
def aak (ce cs:PV)(k:Nat):Prop:=kOf ce=some k\/kOf cs=some k
variable{D:Dk}{M':Mem}
def DkRd.kept {d n:Nat}{ce cs:PV}(h:DkRd D d ce cs M)(hk:Kept n (·=d) (aak ce cs) M M'):DkRd D d ce cs M':=
 ⟨(hk.box d (.inr rfl) (U.1 h.box).1).trans h.box,iK h.ent fun k A h1 h2=>(hk.row k (.inl h1)).trans h2,iK h.str fun k A h1 h2=>(hk.row k (.inr h1)).trans h2⟩
def DkRd.ext {d:Nat}{ce cs:PV}{bs xs:List (Option (List PV))}{a:List Nat}(h:DkRd D d ce cs ⟨bs,fz,ar⟩):DkRd D d ce cs ⟨bs++xs,a,ar⟩:=
 ⟨by have:=h.box;simp only at this⊢;rw[Z (U.1 this).1];exact this,h.ent,h.str⟩
def DkRd.moved {d n:Nat}{ce cs:PV}(h:DkRd D d ce cs M)(hd:d<n)(a:Moved n (fun _=>False) M M'):DkRd D d ce cs M':=
 ⟨(a.box d hd id).trans h.box,by rw[a.aC];exact h.ent,by rw[a.aC];exact h.str⟩
def dF (D:Dk)(i:Nat):List (List DV):=(mQ (D.es.drop i) (D.st.drop i) i).map oZ
def Iq (hl:D.es.length=D.st.length){i:Nat}(hi:i<D.es.length):
  dF D i=if(D.es.getD i default).kind≠6/\D.st.getD i default=false then oZ (i,(D.es.getD i default).deed)::dF D (i+1)else dF D (i+1):=by
 rw[dF,drop_cons hi,drop_cons (by omega:i<D.st.length),mQ]
 split<;>rfl
def jm {b:Bool}:DV.cells (.bool b)=[.bool b]:=rfl
def aal {d:Nat}{ce cs:PV}(hl:D.es.length=D.st.length)(ap:D.es.length<=1000)(hf:∀x∈D.es,xu x.kind<=x.ns.length):
  QF C 280 [.ptr d 0] [] (dF D 0) (·=d) no (aak ce cs) (DkRd D d ce cs):=by
 rintro⟨bs,fz,ar⟩ b n R stop K KP aq ax hn O E ab fV h0 G M;simp only at hn O;have l:=E.box;rw[jC]at l;simp only at l;have az:d<bs.length:=(U.1 l).1;refine aB iT dX ?_;simp only[iT,dX,l,RN,F,H,S];rw[QA E.ent];simp only[V];refine D5 (fun m s=>∃(i:Nat) (g:List (List DV)) (L:Mem),m=D.es.length - i/\i<=D.es.length/\s=⟨[(0, .ptr d 0),(1, .mV b),(9,ce),(10,pI D.es.length),(11,pI i)],L⟩/\n<=L.boxes.length/\FzB L/\DkRd D d ce cs L/\dF D 0=g++dF D i/\R g L)
  D.es.length ⟨0,[],_,rfl,av _,rfl,hn,O,E,rfl,h0⟩ ?_
 rintro m s ⟨i,g,⟨c,r,y⟩,rfl,hi,rfl,t,v,o,f,hR⟩;simp only at t;have zS:=o.box;rw[jC]at zS;simp only at zS;have apc:d<c.length:=(U.1 zS).1;have ac:c.length∉r:=fun e=>ao _ (v _ e)
 by_cases h:i<D.es.length
 case neg=>
  have X:i=D.es.length:=by omega
  subst X;simp only[bl,RN,F];refine M _ _ t ?_;rw[f];have:dF D D.es.length=[]:=by simp[dF,mQ]
  rw[this,bR];exact hR
 obtain⟨k,ver,st,rfl,hk,_⟩:=uX o.ent (by intro e;simp at e;rw[e]at h;simp at h);obtain⟨k2,UF,aE,rfl,A,_⟩:=uX o.str (by intro e;simp at e;rw[e]at hl;simp at hl;rw[hl]at h;simp at h);simp only at hk A;have P:(i:Int)<(D.es.length:Int):=by omega
 have w:i<D.st.length:=by omega
 have j0:(0:Int)<=(i:Int):=by omega
 have w1:cA .i64 ((i:Int)+1)=((i+1:Nat):Int):=by rw[aF (by omega)];omega
 have a:=Iq hl h;obtain⟨x,hx⟩:∃x,x=D.es.getD i default:=⟨_,rfl⟩
 have an:x∈D.es:=by rw[hx];exact getD_mem h
 have YZ:=QY x (hf x an);rw[<-hx]at a;rw[Fv]at YZ;have z:R g ⟨c++ [some [pI x.kind, .d (sF (x.ns.map ay))]],c.length::r,y⟩:=
  ab g _ _ (Moved.ext (xf:=[c.length]) (xb:=[_]) t (by simpa using t)) hR
 have q:DkRd D d (.tsl k ver 0) (.tsl k2 UF 0) ⟨c++ [some [pI x.kind, .d (sF (x.ns.map ay))]],c.length::r,y⟩:=o.ext;have WJ:FzB ⟨c++ [some [pI x.kind, .d (sF (x.ns.map ay))]],c.length::r,y⟩:=by
  intro j hj;simp only[bo]at hj;simp only[Y,aD,aw]
  rcases hj with rfl|hj
  ·omega
  ·have:=v j hj;simp only at this;omega
 simp only[P,h,j0,hk,ae,V,getD_map,<-hx,Fv,ac,aX,bJ,Y,RN,F,H,S]
 by_cases T:x.kind=6
 ·have Q:(x.kind !=6)=false:=by simp[T]
  rw[if_neg (by simp[T])]at a;simp only[Q,w1,RN,F];refine⟨D.es.length - (i+1),_,by omega, .inl rfl,i+1,g,_,rfl,by omega,rfl,by simp;omega,WJ,q,by rw[f,a],z⟩
 have Q:(x.kind !=6)=true:=by simp[T]
 cases u:D.st.getD i default
 case true=>
  rw[if_neg (fun e=>by rw[u]at e;cases e.2)]at a;simp only[Q,zS,apc,dG,A,w,j0,ae,V,getD_map,jm,u,w1,RN,F,H,S];refine⟨D.es.length - (i+1),_,by omega, .inl rfl,i+1,g,_,rfl,by omega,rfl,by simp;omega,WJ,q,by rw[f,a],z⟩
 rw[if_pos ⟨T,u⟩]at a;simp only[Q,zS,apc,dG,A,w,j0,ae,V,getD_map,jm,u,RN,F,H,S];refine ak YZ ?_;(try simp only[RN,F,H,I,J,N,S]);refine um ?_;refine SY.mono (fV g (oZ (i,x.deed)) (dF D (i+1)) _ (by rw[f,a]) (by simp;omega) z) ?_;rintro p M3 ⟨B,hp⟩
 rcases hp with⟨rfl,W⟩|⟨rfl,ai⟩
 ·simp only[w1,RN,F]
  have Z:=B.len;simp only[Y,aD,aw]at Z;refine⟨D.es.length - (i+1),_,by omega, .inl rfl,i+1,_,M3,rfl,by omega,rfl,by omega,B.fzb WJ,q.kept B,by rw[f,a,am];rfl,W⟩
 ·(try simp only[RN,F])
  exact G _ _ ai
end Go.Tel
namespace Go.Proofs
open Go.Shelf Go.RowKit Go.Lib Go.Sort
section
variable {P:Program}{ρ:Ren}
set_option maxRecDepth 1000000 in
def anh (L:Lays2.n23 P ρ)(blk off cap i:Nat)(d:Array Int)(w:World)(n:Holds (Value.int .i64) w blk off d)(B:d.size<=cap)(hi:i<d.size):
  Calls P (ρ.f 23) #[.slice (some ⟨blk,off,none⟩) d.size cap, .int .i64 i, .int .i64 (i+1:Nat)] w fun e w'=>
   e= .returned (.slice (some ⟨blk,off,none⟩) (d.size - 1) cap)/\∃q,w'=putRow (Value.int .i64) (Sort.ahead w q) blk off (d.toList.take i++d.toList.drop (i+1)++ [0]).toArray:=by
 have mixed:=L.mixed;have t0:=L.t0;have Y:=L.a0;have z0:=L.z0;have v0:=L.v0;have t3:=L.t3;have Z:=L.a3;have z3:=L.z3;have V:=L.v3;have t4:=L.t4;have a4:=L.a4;have z4:=L.z4;have v4:=L.v4;have r:=L.t22;have D:=L.a22;have W:=L.z22;have T:=L.v22;obtain⟨Q,s,N,y,O⟩:=info_parts L.i3;obtain⟨tl,c⟩:∃tl,tl=(d.toList.drop (i+1)).map (Value.int .i64):=⟨_,rfl⟩
 have b:tl.length=d.size - (i+1):=by rw[c];simp
 have C:∀t,t<d.size - (i+1)->tl[t]?=some (Value.int .i64 d[i+1+t]!):=by
  intro t o;rw[c,a7,bw,bj,getElem!_pos d (i+1+t) (by omega),Array.getElem?_eq_getElem (by omega)]
  rfl
 have z:∃A:Addr,(if cap=i+1 then some (⟨blk,off,none⟩:Addr)else some ⟨blk,off+(i+1),none⟩)=some A/\Hid (∀t u,tl[t]?=some u->w.drew.cell? (A.add t)=some u):=by
  by_cases h:cap=i+1
  ·refine⟨⟨blk,off,none⟩,by simp[h],fun t u k=> ?_⟩
   have E:tl.length=0:=by rw[b];omega
   rw[List.length_eq_zero_iff.1 E]at k;simp at k
  ·refine⟨⟨blk,off+(i+1),none⟩,by simp[h],fun t u k=> ?_⟩
   have o:t<d.size - (i+1):=by
    have:=(U.1 k).1
    rwa [b]at this
   rw[C t o]at k;rw[Addr.add_lit,show off+(i+1)+t=off+(i+1+t) by omega];exact(n (i+1+t) (by omega)).1.trans k
 obtain⟨A,z,p⟩:=z;have s1:Hid (tl.length=(d.size - (i+1))*1):=by rw[bB];exact b
 have R:Hid (∀u∈tl,u.oneCell'=true):=by
  intro u k;rw[c]at k;obtain⟨x,_,rfl⟩:=aE.1 k
  rfl
 have S:Hid (∀t,t<tl.length->(w.drew.cell? ⟨blk,off+i*1+t,none⟩).isSome=true/\w.drew.frozen? ⟨blk,off+i*1+t,none⟩=false):=by
  intro t o;rw[b]at o;rw[bB,az];exact⟨by show(w.cell? _).isSome=true;rw[(n (i+t) (by omega)).1];rfl,(n (i+t) (by omega)).2⟩
 obtain⟨g,m⟩:∃g,g=w.drew.setCells blk (off+i*1) tl:=⟨_,rfl⟩
 have a:g=putRow (Value.int .i64) (Sort.ahead w 1) blk off (lay d i (d.toList.drop (i+1))):=by
  rw[m,c,bB,<-putRow_setCells (Value.int .i64) (Sort.ahead w 1) blk off _ d i (by simp;omega),putRow_self (Value.int .i64) (Sort.ahead w 1) blk off d (holds_ahead (Value.int .i64) w 1 blk off d n)]
  rfl
 have l:Holds (Value.int .i64) g blk off (lay d i (d.toList.drop (i+1))):=by rw[a];exact holds_putRow (Value.int .i64) _ blk off d _ (holds_ahead (Value.int .i64) w 1 blk off d n) (lay_size _ _ _)
 have G:∀ty,(Builtin.clear_ #[ρ.t 22] ty #[.slice (some ⟨blk,off+(i+(d.size - (i+1))),none⟩) (d.size - (i+(d.size - (i+1)))) (cap - (i+(d.size - (i+1))))]).run P g= .ok (.tuple #[]) (g.setCells blk (off+(i+(d.size - (i+1)))) (cm (d.size - (i+(d.size - (i+1)))) (Value.int .i64 0))):=
  fun ty=>Lib.run_clear_slice g _ _ ty _ r V rfl rfl blk (off+(i+(d.size - (i+1)))) _ _ (by omega) (fun t o=>by rw[show off+(i+(d.size - (i+1)))+t=off+(i+(d.size - (i+1))+t) by omega,(l _ (by rw[lay_size];omega)).1];rfl) (fun t o=>by rw[show off+(i+(d.size - (i+1)))+t=off+(i+(d.size - (i+1))+t) by omega];exact(l _ (by rw[lay_size];omega)).2)
 have X:Aside (g=putRow (Value.int .i64) (Sort.ahead w 1) blk off (lay d i (d.toList.drop (i+1)))):=a;have F:Hid (g=w.drew.setCells blk (off+i*1) tl):=m;have H:i<=cap:=by omega
 have J:i+1<=cap:=by omega
 have v:i<=i+1:=by omega
 have I:i+1<=d.size:=by omega
 generalize K:i+1=j at*;have M:i<j:=by omega
 clear m a l n C c b
 go_enter L.f23,Body2.n23_ntmps ρ
 go_wp2_with fail
 go_region_law_o (refine step_append_room rfl (.tmp 22) (.tmp 25) (ρ.t 22) rfl (ρ.t 3) Q 1 r s y blk off i cap (by simp[Act.eval,Act.put]) A (d.size - j) (cap - j) tl (by simp[Act.eval,Act.put]) s1.out p.out R.out (by omega) S.out ?_;rw[<-F.out])
 go_wp2
 go_ret
 refine⟨by rw[show d.size - 1=i+(d.size - j) by omega];rfl,1,?_⟩;have hd:=delete_arr d i j 0 v I;rw[show j - i=1 by omega]at hd;rw[show([0]:List Int)=cm 1 0 from rfl,<-hd,<-putRow_setCells (Value.int .i64) _ blk off _ _ (i+(d.size - j)) (by rw[lay_size];simp;omega),<-X.out,List.map_replicate,show d.size - (i+(d.size - j))=1 by omega]
end
end Go.Proofs
namespace Go.Am
open Go.Sort Go.RowKit
section
variable {C:Ctx}
def ani {ρ:Go.Shelf.Ren}(Ly:Go.Proofs.Lays2.n23 C.P ρ){k ver i:Nat}{zs:List Int}{bs:List (Option (List PV))}{fz:List Nat}{ar:List (Option Arr)}{K:PV->Mem->Prop}{KP:DV->Mem->Prop}
  (h:ar[k]?=some (some ⟨1,zs.map (DV.int .i64),ver,1⟩))(hi:i<zs.length)
  (hK:K (.tsl k (ver+1) 0) ⟨bs,fz,ar.set k (some ⟨1,(zs.take i++zs.drop (i+1)).map (DV.int .i64),ver+1,1⟩)⟩):SC C (ρ.f 23) [.tsl k ver 0, .d (.int .i64 i), .d (.int .i64 (i+1:Nat))] ⟨bs,fz,ar⟩ K KP:=by
 intro X w E ai M I;cases I with|cons hr H=>
 cases H with|cons O H=>
 cases H with|cons B H=>
 cases H;cases O with|d O=>
 cases O;cases B with|d B=>
 cases B;cases hr with|tsl m hh=>
 obtain⟨_,u⟩:=hh _ h;obtain⟨ao,s,N⟩:=u rfl;obtain⟨s1,s2,s3,s4⟩:=M.arr k _ h;obtain⟨q,J⟩:=s3 rfl;rw[J]at s;cases s;obtain⟨a,o,e⟩:=q;obtain⟨hX,v,T,z,g3,g4,L⟩:=s4 a o e J;obtain⟨_,N⟩:=N
 rcases N with⟨ac,he,p,r⟩|⟨h0,_⟩
 case inr=>simp at h0;rw[h0]at hi;simp at hi
 cases he;simp only[V,bB,cj,ct,Nat.zero_add]at g3 L p r⊢;rw[Gw]at L;have g:=EU L;have hH:Holds (Value.int .i64) w a o zs.toArray:=by
  intro j D;have t:j<zs.length:=by simpa using D
  have u:v[o+j]?=some (.int .i64 zs[j]):=by
   have:=congrArg (fun l=>l[j]?) g;simp only[cb,t,if_true,bw,bj,a7,List.getElem?_eq_getElem t,aR]at this;exact this
  refine⟨?_,?_⟩
  ·rw[cell_of_row w a (o+j) v T.ty T.fr z,u]
   simp[t]
  ·have m:o+j<v.size:=(Array.getElem?_eq_some_iff.1 u).1
   obtain⟨ty,⟨f1,f2⟩,Y⟩:=T;simp only at Y z;simp[World.frozen?,z];intro hh;omega
 have ae:a<w.heap.size:=dw z;have c:=Go.Proofs.anh Ly a o _ i zs.toArray w hH (by simpa using p) (by simpa using hi);simp only[List.size_toArray]at c;refine c.mono ?_;rintro en w' ⟨rfl,n,rfl⟩;generalize Z:zs.take i++zs.drop (i+1)=ss at*;have am:ss.length+1=zs.length:=by rw[<-Z];simp;omega
 have F:((putCells (Value.int .i64) o (ss++ [0]).toArray v).toList.drop o).take ss.length=ss.map (Value.int .i64):=by
  apply cf;intro j;rw[cb,bw,bj,a7]
  by_cases D:j<ss.length
  ·rw[if_pos D]
   have u:o+j<v.size:=by omega
   have R:j<ss.length+1:=by omega
   simp[putCells,u,D,R]
  ·rw[if_neg D,bX (by omega)];rfl
 have G:=A8 (A':=⟨1,ss.map (DV.int .i64),ver+1,1⟩) (loc:=some (a,o,e)) (w':=putRow (Value.int .i64) (Go.Sort.ahead w n) a o (ss++ [0]).toArray) M h (by simp) rfl rfl rfl (by simp[putRow,mapBlock,Go.Sort.ahead])
  (fun b ob B W=>by
   have S:b≠a:=by rintro rfl;exact B o e J
   simp[putRow,mapBlock,Go.Sort.ahead,bS,Ne.symm S,W])
  (by simp) (Nat.zero_lt_one) (by intro x hx;obtain⟨y,_,rfl⟩:=aE.1 hx;rfl) (by simp)
  (fun ab o' e' Q=>by
   cases Q;refine⟨.inr ⟨o,e,J⟩,putCells (Value.int .i64) o (ss++ [0]).toArray v,TM.cast (by simp[putCells]) T,?_,by simp;omega,by simp[putCells];omega,?_⟩
   ·simp[putRow,mapBlock,Go.Sort.ahead,bS,z,onCells,TM.cast]
   ·simp only[V,bB]
    rw[Gw,F];exact Tq ss)
 refine⟨_,_,_,hK,G.1,G.2,?_⟩;refine .tsl (by simpa using(U.1 h).1) fun A I=> ?_
 have m:k<ar.length:=(U.1 h).1;simp only[List.getElem?_set_self m,Option.some.injEq]at I;subst I;refine⟨an _,fun _=>⟨some (a,o,e),?_,?_⟩⟩
 ·have:=M.bC
  simp only at this;simp[this▸m]
 ·have e1:zs.length - 1=(ss.map (DV.int .i64)).length - 0:=by simp;omega
  refine⟨av _, .inl ⟨_,by rw[e1,Nat.zero_mul,ct],?_,by simpa using r⟩⟩
  show(ss.map (DV.int .i64)).length - 0<=_
  rw[<-e1];omega
end
end Go.Am
namespace Go.Proofs
open Go.Shelf
def Tryz.laysSplit_ren:Go.Shelf.Ren:=⟨fun|146=>276|221=>319|268=>348|138=>349|143=>350|195=>367|197=>368|218=>369|219=>370|260=>383|217=>219|225=>384|224=>385|267=>386|266=>274|314=>390|n=>n,fun|9=>9|31=>331|3=>3|4=>4|0=>0|105=>466|21=>21|5=>5|46=>204|119=>477|139=>480|138=>479|146=>333|51=>277|n=>n,fun|1=>0|3=>4|4=>5|n=>n⟩
def Tryz.laysSplit:Go.Proofs.Lays.n146 Tryz.prog Tryz.laysSplit_ren:={
 mixed:=by kernel_rfl
 f138:=Tryz.func349.trans (congrArg some (by kernel_rfl))
 f143:=Tryz.func350.trans (congrArg some (by kernel_rfl))
 f146:=Tryz.func276.trans (congrArg some (by kernel_rfl))
 f195:=Tryz.func367.trans (congrArg some (by kernel_rfl))
 f197:=Tryz.func368.trans (congrArg some (by kernel_rfl))
 f217:=Tryz.func219.trans (congrArg some (by kernel_rfl))
 f218:=Tryz.func369.trans (congrArg some (by kernel_rfl))
 f219:=Tryz.func370.trans (congrArg some (by kernel_rfl))
 f221:=Tryz.func319.trans (congrArg some (by kernel_rfl))
 f224:=Tryz.func385.trans (congrArg some (by kernel_rfl))
 f225:=Tryz.func384.trans (congrArg some (by kernel_rfl))
 f260:=Tryz.func383.trans (congrArg some (by kernel_rfl))
 f266:=Tryz.func274.trans (congrArg some (by kernel_rfl))
 f267:=Tryz.func386.trans (congrArg some (by kernel_rfl))
 f268:=Tryz.func348.trans (congrArg some (by kernel_rfl))
 f314:=Tryz.func390.trans (congrArg some (by kernel_rfl))
 t0:=Tryz.underlying0
 a0:=Tryz.isAgg0
 z0:=Tryz.sizeOf0
 v0:=Tryz.zeroValue0
 t3:=Tryz.underlying3
 a3:=Tryz.isAgg3
 z3:=Tryz.sizeOf3
 v3:=Tryz.zeroValue3
 t4:=Tryz.underlying4
 a4:=Tryz.isAgg4
 z4:=Tryz.sizeOf4
 v4:=Tryz.zeroValue4
 t5:=Tryz.underlying5
 a5:=Tryz.isAgg5
 z5:=Tryz.sizeOf5
 v5:=Tryz.zeroValue5
 t9:=Tryz.underlying9
 a9:=Tryz.isAgg9
 z9:=Tryz.sizeOf9
 v9:=Tryz.zeroValue9
 t21:=Tryz.underlying21
 a21:=Tryz.isAgg21
 z21:=Tryz.sizeOf21
 v21:=Tryz.zeroValue21
 t31:=Tryz.underlying331
 a31:=Tryz.isAgg331
 z31:=Tryz.sizeOf331
 v31:=Tryz.zeroValue331
 t46:=Tryz.underlying204
 a46:=Tryz.isAgg204
 z46:=Tryz.sizeOf204
 v46:=Tryz.zeroValue204
 t51:=Tryz.underlying277
 a51:=Tryz.isAgg277
 z51:=Tryz.sizeOf277
 v51:=Tryz.zeroValue277
 t105:=Tryz.underlying466
 a105:=Tryz.isAgg466
 z105:=Tryz.sizeOf466
 v105:=Tryz.zeroValue466
 t119:=Tryz.underlying477
 a119:=Tryz.isAgg477
 z119:=Tryz.sizeOf477
 t138:=Tryz.underlying479
 a138:=Tryz.isAgg479
 z138:=Tryz.sizeOf479
 v138:=Tryz.zeroValue479
 t139:=Tryz.underlying480
 a139:=Tryz.isAgg480
 z139:=Tryz.sizeOf480
 v139:=Tryz.zeroValue480
 t146:=Tryz.underlying333
 a146:=Tryz.isAgg333
 z146:=Tryz.sizeOf333
 v146:=Tryz.zeroValue333
 g1:=by kernel_rfl
 g3:=by kernel_rfl
 g4:=by kernel_rfl}
def Tryz.laysItoa_ren:Go.Shelf.Ren:=⟨fun|171=>155|243=>230|246=>286|283=>325|284=>326|285=>327|286=>328|129=>192|317=>352|318=>353|319=>354|320=>355|337=>371|338=>372|n=>n,fun|3=>3|9=>9|2=>2|4=>4|171=>429|0=>0|53=>279|37=>401|5=>5|173=>431|212=>450|51=>277|20=>20|213=>451|46=>204|232=>473|233=>474|n=>n,fun|17=>1|18=>2|19=>3|n=>n⟩
def Tryz.laysItoa:Go.Proofs.LaysM.n171 Tryz.prog Tryz.laysItoa_ren:={
 mixed:=by kernel_rfl
 f129:=Tryz.func192.trans (congrArg some (by kernel_rfl))
 f171:=Tryz.func155.trans (congrArg some (by kernel_rfl))
 f243:=Tryz.func230.trans (congrArg some (by kernel_rfl))
 f246:=Tryz.func286.trans (congrArg some (by kernel_rfl))
 f283:=Tryz.func325.trans (congrArg some (by kernel_rfl))
 f284:=Tryz.func326.trans (congrArg some (by kernel_rfl))
 f285:=Tryz.func327.trans (congrArg some (by kernel_rfl))
 f286:=Tryz.func328.trans (congrArg some (by kernel_rfl))
 f317:=Tryz.func352.trans (congrArg some (by kernel_rfl))
 f318:=Tryz.func353.trans (congrArg some (by kernel_rfl))
 f319:=Tryz.func354.trans (congrArg some (by kernel_rfl))
 f320:=Tryz.func355.trans (congrArg some (by kernel_rfl))
 f337:=Tryz.func371.trans (congrArg some (by kernel_rfl))
 f338:=Tryz.func372.trans (congrArg some (by kernel_rfl))
 t0:=Tryz.underlying0
 a0:=Tryz.isAgg0
 z0:=Tryz.sizeOf0
 v0:=Tryz.zeroValue0
 t2:=Tryz.underlying2
 a2:=Tryz.isAgg2
 z2:=Tryz.sizeOf2
 v2:=Tryz.zeroValue2
 t3:=Tryz.underlying3
 a3:=Tryz.isAgg3
 z3:=Tryz.sizeOf3
 v3:=Tryz.zeroValue3
 t4:=Tryz.underlying4
 a4:=Tryz.isAgg4
 z4:=Tryz.sizeOf4
 v4:=Tryz.zeroValue4
 t5:=Tryz.underlying5
 a5:=Tryz.isAgg5
 z5:=Tryz.sizeOf5
 v5:=Tryz.zeroValue5
 t9:=Tryz.underlying9
 a9:=Tryz.isAgg9
 z9:=Tryz.sizeOf9
 v9:=Tryz.zeroValue9
 t20:=Tryz.underlying20
 a20:=Tryz.isAgg20
 z20:=Tryz.sizeOf20
 v20:=Tryz.zeroValue20
 t37:=Tryz.underlying401
 a37:=Tryz.isAgg401
 z37:=Tryz.sizeOf401
 v37:=Tryz.zeroValue401
 t46:=Tryz.underlying204
 a46:=Tryz.isAgg204
 z46:=Tryz.sizeOf204
 v46:=Tryz.zeroValue204
 t51:=Tryz.underlying277
 a51:=Tryz.isAgg277
 z51:=Tryz.sizeOf277
 v51:=Tryz.zeroValue277
 t53:=Tryz.underlying279
 a53:=Tryz.isAgg279
 z53:=Tryz.sizeOf279
 v53:=Tryz.zeroValue279
 t171:=Tryz.underlying429
 a171:=Tryz.isAgg429
 z171:=Tryz.sizeOf429
 v171:=Tryz.zeroValue429
 t173:=Tryz.underlying431
 a173:=Tryz.isAgg431
 z173:=Tryz.sizeOf431
 v173:=Tryz.zeroValue431
 t212:=Tryz.underlying450
 a212:=Tryz.isAgg450
 z212:=Tryz.sizeOf450
 v212:=Tryz.zeroValue450
 t213:=Tryz.underlying451
 a213:=Tryz.isAgg451
 z213:=Tryz.sizeOf451
 t232:=Tryz.underlying473
 a232:=Tryz.isAgg473
 z232:=Tryz.sizeOf473
 v232:=Tryz.zeroValue473
 t233:=Tryz.underlying474
 a233:=Tryz.isAgg474
 z233:=Tryz.sizeOf474
 v233:=Tryz.zeroValue474
 g17:=by kernel_rfl
 g18:=by kernel_rfl
 g19:=by kernel_rfl
 i0:=by kernel_rfl
 i2:=by kernel_rfl
 i3:=by kernel_rfl
 i4:=by kernel_rfl
 i5:=by kernel_rfl
 i9:=by kernel_rfl
 i20:=by kernel_rfl
 i37:=by kernel_rfl
 i46:=by kernel_rfl
 i51:=by kernel_rfl
 i53:=by kernel_rfl
 i171:=by kernel_rfl
 i173:=by kernel_rfl
 i212:=by kernel_rfl
 i232:=by kernel_rfl
 i233:=by kernel_rfl
 m17:=by kernel_rfl
 m18:=by kernel_rfl
 m19:=by kernel_rfl}
def Tryz.laysJoin_ren:Go.Shelf.Ren:=⟨fun|156=>246|165=>299|166=>300|169=>301|240=>342|241=>343|276=>362|277=>363|n=>n,fun|31=>331|9=>9|3=>3|4=>4|0=>0|20=>20|72=>403|76=>407|70=>400|37=>401|75=>406|127=>442|164=>462|5=>5|80=>409|n=>n,fun|n=>n⟩
def Tryz.laysJoin:Go.Proofs.Lays.n156 Tryz.prog Tryz.laysJoin_ren:={
 mixed:=by kernel_rfl
 f156:=Tryz.func246.trans (congrArg some (by kernel_rfl))
 f165:=Tryz.func299.trans (congrArg some (by kernel_rfl))
 f166:=Tryz.func300.trans (congrArg some (by kernel_rfl))
 f169:=Tryz.func301.trans (congrArg some (by kernel_rfl))
 f240:=Tryz.func342.trans (congrArg some (by kernel_rfl))
 f241:=Tryz.func343.trans (congrArg some (by kernel_rfl))
 f276:=Tryz.func362.trans (congrArg some (by kernel_rfl))
 f277:=Tryz.func363.trans (congrArg some (by kernel_rfl))
 t0:=Tryz.underlying0
 a0:=Tryz.isAgg0
 z0:=Tryz.sizeOf0
 v0:=Tryz.zeroValue0
 t3:=Tryz.underlying3
 a3:=Tryz.isAgg3
 z3:=Tryz.sizeOf3
 v3:=Tryz.zeroValue3
 t4:=Tryz.underlying4
 a4:=Tryz.isAgg4
 z4:=Tryz.sizeOf4
 v4:=Tryz.zeroValue4
 t9:=Tryz.underlying9
 a9:=Tryz.isAgg9
 z9:=Tryz.sizeOf9
 v9:=Tryz.zeroValue9
 t20:=Tryz.underlying20
 a20:=Tryz.isAgg20
 z20:=Tryz.sizeOf20
 v20:=Tryz.zeroValue20
 t31:=Tryz.underlying331
 a31:=Tryz.isAgg331
 z31:=Tryz.sizeOf331
 v31:=Tryz.zeroValue331
 t37:=Tryz.underlying401
 a37:=Tryz.isAgg401
 z37:=Tryz.sizeOf401
 v37:=Tryz.zeroValue401
 t70:=Tryz.underlying400
 a70:=Tryz.isAgg400
 z70:=Tryz.sizeOf400
 v70:=Tryz.zeroValue400
 t72:=Tryz.underlying403
 a72:=Tryz.isAgg403
 z72:=Tryz.sizeOf403
 v72:=Tryz.zeroValue403
 t75:=Tryz.underlying406
 a75:=Tryz.isAgg406
 z75:=Tryz.sizeOf406
 v75:=Tryz.zeroValue406
 t76:=Tryz.underlying407
 a76:=Tryz.isAgg407
 z76:=Tryz.sizeOf407
 v76:=Tryz.zeroValue407
 t127:=Tryz.underlying442
 a127:=Tryz.isAgg442
 z127:=Tryz.sizeOf442
 v127:=Tryz.zeroValue442
 t164:=Tryz.underlying462
 a164:=Tryz.isAgg462
 z164:=Tryz.sizeOf462
 v164:=Tryz.zeroValue462}
def Tryz.laysSort_ren:Go.Shelf.Ren:=⟨fun|189=>331|125=>126|257=>357|128=>191|129=>192|294=>373|295=>374|296=>375|297=>376|298=>377|299=>378|216=>379|300=>380|301=>381|328=>387|329=>253|330=>254|331=>388|332=>389|215=>141|343=>391|n=>n,fun|28=>32|3=>3|46=>204|0=>0|51=>277|53=>279|4=>4|183=>270|182=>269|131=>274|5=>5|9=>9|218=>338|222=>342|228=>410|229=>411|n=>n,fun|n=>n⟩
def Tryz.laysSort:Go.Proofs.Lays.n189 Tryz.prog Tryz.laysSort_ren:={
 mixed:=by kernel_rfl
 f125:=Tryz.func126.trans (congrArg some (by kernel_rfl))
 f128:=Tryz.func191.trans (congrArg some (by kernel_rfl))
 f129:=Tryz.func192.trans (congrArg some (by kernel_rfl))
 f189:=Tryz.func331.trans (congrArg some (by kernel_rfl))
 f215:=Tryz.func141.trans (congrArg some (by kernel_rfl))
 f216:=Tryz.func379.trans (congrArg some (by kernel_rfl))
 f257:=Tryz.func357.trans (congrArg some (by kernel_rfl))
 f294:=Tryz.func373.trans (congrArg some (by kernel_rfl))
 f295:=Tryz.func374.trans (congrArg some (by kernel_rfl))
 f296:=Tryz.func375.trans (congrArg some (by kernel_rfl))
 f297:=Tryz.func376.trans (congrArg some (by kernel_rfl))
 f298:=Tryz.func377.trans (congrArg some (by kernel_rfl))
 f299:=Tryz.func378.trans (congrArg some (by kernel_rfl))
 f300:=Tryz.func380.trans (congrArg some (by kernel_rfl))
 f301:=Tryz.func381.trans (congrArg some (by kernel_rfl))
 f328:=Tryz.func387.trans (congrArg some (by kernel_rfl))
 f329:=Tryz.func253.trans (congrArg some (by kernel_rfl))
 f330:=Tryz.func254.trans (congrArg some (by kernel_rfl))
 f331:=Tryz.func388.trans (congrArg some (by kernel_rfl))
 f332:=Tryz.func389.trans (congrArg some (by kernel_rfl))
 f343:=Tryz.func391.trans (congrArg some (by kernel_rfl))
 t0:=Tryz.underlying0
 a0:=Tryz.isAgg0
 z0:=Tryz.sizeOf0
 v0:=Tryz.zeroValue0
 t3:=Tryz.underlying3
 a3:=Tryz.isAgg3
 z3:=Tryz.sizeOf3
 v3:=Tryz.zeroValue3
 t4:=Tryz.underlying4
 a4:=Tryz.isAgg4
 z4:=Tryz.sizeOf4
 v4:=Tryz.zeroValue4
 t5:=Tryz.underlying5
 a5:=Tryz.isAgg5
 z5:=Tryz.sizeOf5
 v5:=Tryz.zeroValue5
 t9:=Tryz.underlying9
 a9:=Tryz.isAgg9
 z9:=Tryz.sizeOf9
 v9:=Tryz.zeroValue9
 t28:=Tryz.underlying32
 a28:=Tryz.isAgg32
 z28:=Tryz.sizeOf32
 v28:=Tryz.zeroValue32
 t46:=Tryz.underlying204
 a46:=Tryz.isAgg204
 z46:=Tryz.sizeOf204
 v46:=Tryz.zeroValue204
 t51:=Tryz.underlying277
 a51:=Tryz.isAgg277
 z51:=Tryz.sizeOf277
 v51:=Tryz.zeroValue277
 t53:=Tryz.underlying279
 a53:=Tryz.isAgg279
 z53:=Tryz.sizeOf279
 v53:=Tryz.zeroValue279
 t131:=Tryz.underlying274
 a131:=Tryz.isAgg274
 z131:=Tryz.sizeOf274
 v131:=Tryz.zeroValue274
 t182:=Tryz.underlying269
 a182:=Tryz.isAgg269
 z182:=Tryz.sizeOf269
 v182:=Tryz.zeroValue269
 t183:=Tryz.underlying270
 a183:=Tryz.isAgg270
 z183:=Tryz.sizeOf270
 v183:=Tryz.zeroValue270
 t218:=Tryz.underlying338
 a218:=Tryz.isAgg338
 z218:=Tryz.sizeOf338
 v218:=Tryz.zeroValue338
 t222:=Tryz.underlying342
 a222:=Tryz.isAgg342
 z222:=Tryz.sizeOf342
 v222:=Tryz.zeroValue342
 t228:=Tryz.underlying410
 a228:=Tryz.isAgg410
 z228:=Tryz.sizeOf410
 v228:=Tryz.zeroValue410
 t229:=Tryz.underlying411
 a229:=Tryz.isAgg411
 z229:=Tryz.sizeOf411
 v229:=Tryz.zeroValue411}
def Tryz.laysDel_ren:Go.Shelf.Ren:=⟨fun|23=>323|n=>n,fun|22=>32|3=>3|4=>4|0=>0|n=>n,fun|n=>n⟩
def Tryz.laysDel:Go.Proofs.Lays2.n23 Tryz.prog Tryz.laysDel_ren:={
 mixed:=by kernel_rfl
 f23:=Tryz.func323.trans (congrArg some (by kernel_rfl))
 t0:=Tryz.underlying0
 a0:=Tryz.isAgg0
 z0:=Tryz.sizeOf0
 v0:=Tryz.zeroValue0
 t3:=Tryz.underlying3
 a3:=Tryz.isAgg3
 z3:=Tryz.sizeOf3
 v3:=Tryz.zeroValue3
 t4:=Tryz.underlying4
 a4:=Tryz.isAgg4
 z4:=Tryz.sizeOf4
 v4:=Tryz.zeroValue4
 t22:=Tryz.underlying32
 a22:=Tryz.isAgg32
 z22:=Tryz.sizeOf32
 v22:=Tryz.zeroValue32
 i3:=by kernel_rfl}
def Tryz.laysIndexB_ren:Go.Shelf.Ren:=⟨fun|137=>152|217=>219|266=>274|n=>n,fun|9=>9|5=>5|3=>3|n=>n,fun|n=>n⟩
def Tryz.laysIndexB:Go.Proofs.Lays.n137 Tryz.prog Tryz.laysIndexB_ren:={
 mixed:=by kernel_rfl
 f137:=Tryz.func152.trans (congrArg some (by kernel_rfl))
 f217:=Tryz.func219.trans (congrArg some (by kernel_rfl))
 f266:=Tryz.func274.trans (congrArg some (by kernel_rfl))
 t3:=Tryz.underlying3
 a3:=Tryz.isAgg3
 z3:=Tryz.sizeOf3
 v3:=Tryz.zeroValue3
 t5:=Tryz.underlying5
 a5:=Tryz.isAgg5
 z5:=Tryz.sizeOf5
 v5:=Tryz.zeroValue5
 t9:=Tryz.underlying9
 a9:=Tryz.isAgg9
 z9:=Tryz.sizeOf9
 v9:=Tryz.zeroValue9}
end Go.Proofs
namespace Go.Tel
open Go.Am
def Y4:ay=DV.int .i64:=rfl
def amv:agA:=by
 intro k ver i zs bs fz ar K KP h hi a;exact ani (C:=C) Go.Proofs.Tryz.laysDel (by rw[<-Y4];exact h) hi (by rw[<-Y4];exact a)
structure Frm (M M':Mem):Prop where
 len:M.boxes.length<=M'.boxes.length
 bC:M.aC.length<=M'.aC.length
 box:∀i,i<M.boxes.length->M'.boxes[i]?=M.boxes[i]?
 fz:∀i,i<M.boxes.length->(i∈M'.fz↔i∈M.fz)
 row:∀k,k<M.aC.length->M'.aC[k]?=M.aC[k]?
 fzb:FzB M->FzB M'
def Frm.refl (M:Mem):Frm M M:=⟨an _,an _,fun _ _=>rfl,fun _ _=>br,fun _ _=>rfl,id⟩
def Frm.trans {M M' M'':Mem}(h:Frm M M')(h':Frm M' M''):Frm M M'':=
 ⟨ap h.len h'.len,ap h.bC h'.bC,fun i hi=>(h'.box i (aq hi h.len)).trans (h.box i hi),fun i hi=>(h'.fz i (aq hi h.len)).trans (h.fz i hi),
  fun k a=>(h'.row k (aq a h.bC)).trans (h.row k a),fun e=>h'.fzb (h.fzb e)⟩
variable{bs:List (Option (List PV))}{fz:List Nat}
def Frm.ext {xb:List (Option (List PV))}{xf:List Nat}{ar xa:List (Option Arr)}(hx:∀i∈xf,bs.length<=i/\i<bs.length+xb.length):Frm ⟨bs,fz,ar⟩ ⟨bs++xb,xf++fz,ar++xa⟩:=
 ⟨by simp,by simp,fun i hi=>Z hi,fun i hi=>by
  simp only[ax];exact⟨fun e=>e.elim (fun e=>absurd (hx i e).1 (by simp only at hi;omega)) id, .inr⟩,fun k b=>Z b,fun a i hi=>by
  simp only[Y]
  rcases ax.1 hi with e|e
  ·exact(hx i e).2
  ·have:=a i e;simp only at this;omega⟩
variable{M M' M'':Mem}
def Frm.frs {a b mb:Nat}(h:Frm M M')(h':FrS a b mb M' M'')(hb:M.boxes.length<=b)(f:M.boxes.length<=mb)(d:M.aC.length<=a):Frm M M'':=
 ⟨ap h.len h'.len,ap h.bC h'.bC,fun i hi=>(h'.box i (aq hi h.len) (by omega) (by omega)).trans (h.box i hi),fun i hi=>(h'.fz i (aq hi h.len)).trans (h.fz i hi),
  fun k c=>(h'.row k (by omega)).trans (h.row k c),fun e=>h'.fzb (h.fzb e)⟩
variable{sz:Nat}{W:Bool}{c:PV}{ar:List (Option Arr)}
def Ba {xs:List DV}(h:slN sz W c xs ar){k:Nat}(hk:kOf c=some k):k<ar.length:=by
 rcases h with⟨rfl,_⟩|⟨a,_,_,rfl,h,_⟩
 ·cases hk
 ·cases hk;exact(U.1 h).1
variable{D:Dk}{d:Nat}
def vX.frm {ce cs:PV}(h:vX D d ce cs M)(hf:Frm M M'):vX D d ce cs M':=
 {box:=(hf.box d (U.1 h.box).1).trans h.box
  ent:=iK h.ent fun k A h1 h2=>(hf.row k (Ba h.ent h1)).trans h2
  str:=iK h.str fun k A h1 h2=>(hf.row k (Ba h.str h1)).trans h2
  dif:=h.dif
  nb:=fun e=>h.nb ((hf.fz d (U.1 h.box).1).1 e)
  fzb:=hf.fzb h.fzb}
variable{s:Su}
def gy.moved {a b mb n:Nat}{cst cse:PV}{t:Sp}(h:gy s a b mb cst cse t M)(c:Moved n no M M')(hb:b<n)(d:mb<n):gy s a b mb cst cse t M':=
 {box:=(c.box b hb id).trans h.box
  map:=(c.box mb d id).trans h.map
  r0:=by rw[c.aC];exact h.r0
  r1:=by rw[c.aC];exact h.r1
  r2:=by rw[c.aC];exact h.r2
  r3:=by rw[c.aC];exact h.r3
  r4:=by rw[c.aC];exact h.r4
  r5:=by rw[c.aC];exact h.r5
  stk:=by rw[c.aC];exact h.stk
  set:=by rw[c.aC];exact h.set
  kst:=h.kst,kse:=h.kse,dif:=h.dif
  nb:=fun e=>h.nb ((c.fz b hb id).1 e)
  nm:=fun e=>h.nm ((c.fz mb d id).1 e)
  bm:=h.bm
  fzb:=c.fzb h.fzb}
def Frm.moved {n:Nat}(h:Frm M M')(a:Moved n no M' M'')(c:M.boxes.length<=n):Frm M M'':=
 ⟨ap h.len a.len,by rw[a.aC];exact h.bC,fun i hi=>(a.box i (by omega) id).trans (h.box i hi),fun i hi=>(a.fz i (by omega) id).trans (h.fz i hi),fun k b=>by rw[a.aC];exact h.row k b,fun e=>a.fzb (h.fzb e)⟩
def zl (s:Su):∀(l m:List De) (t:Sp),Fq s (l++m) t=(Fq s l t).bind (Fq s m)
 | [],_,_=>rfl
 |x::l,m,t=>by
  simp only[ck,Fq];cases doS s t x with
  |none=>rfl
  |some t1=>exact zl s l m t1
def wo (w:Int)(l:List (Nat×De)):List De:=(l.filter fun p=>decide ((p.1:Int)≠w)).map (·.2)
def acW (w:Int)(l:List (Nat×De))(p:Nat×De):wo w (l++ [p])=if(p.1:Int)=w then wo w l else wo w l++ [p.2]:=by
 simp only[wo,ca,bp]
 by_cases h:(p.1:Int)=w<;>simp[h]
def ajW (w:Int)(l:List (Nat×De))(p:Nat×De)(r:List (Nat×De)):wo w (l++p::r)=wo w (l++ [p])++wo w r:=by
 simp[wo,ca,bp,List.filter_cons]
 split<;>simp
def aoL (w:Int)(l:List (Nat×De)):(wo w l).length<=l.length:=by
 simp only[wo,V];exact b0 _ _
def gy.new {x0 x3:Option (List PV)}(a:∀i∈fz,i<bs.length):
  gy s ar.length (bs.length+2) (bs.length+1) (.d (.slice true [])) (.d (.slice true [])) s.sp0 ⟨bs++ [x0,some [.iO []],some (iL s ar.length (bs.length+1) (.d (.slice true [])) (.d (.slice true [])) 0),x3],bs.length::fz,ar++s.rows.map some⟩:=
 {box:=by simp only;rw[iR rfl];rfl
  map:=by simp only;rw[iR rfl];rfl
  r0:=by simp[Su.rows,Su.sp0]
  r1:=by simp[Su.rows,Su.sp0]
  r2:=by simp[Su.rows,Su.sp0]
  r3:=by simp[Su.rows]
  r4:=by simp[Su.rows]
  r5:=by simp[Su.rows]
  stk:= .inl ⟨rfl,rfl⟩
  set:= .inl ⟨rfl,rfl⟩
  kst:=fun k b=>by cases b
  kse:=fun k b=>by cases b
  dif:=fun k b=>by cases b
  nb:=fun e=>by
   rcases bo.1 e with e|e
   ·omega
   ·have:=a _ e;omega
  nm:=fun e=>by
   rcases bo.1 e with e|e
   ·omega
   ·have:=a _ e;omega
  bm:=by omega
  fzb:=fun i e=>by
   simp only[Y,aD,aw]
   rcases bo.1 e with e|e
   ·omega
   ·have:=a _ e;omega}
def BD {x:En}(h:x.formed=true):xu x.kind<=x.ns.length:=by
 simp only[En.formed,ai,decide_eq_true_eq]at h;omega
def NU {ce cs:PV}(h:vX D d ce cs M)(f:D.Ok)(w:Int):
  SC C 228 [.ptr d 0,pI w] M
   (fun p M'=>∃t b mb a cst cse,p= .ptr b 0/\D.state w=some t/\gy D.su a b mb cst cse t M'/\Frm M M'/\M.boxes.length<=b/\M.boxes.length<=mb/\M.aC.length<=a)
   (fun dd M'=>D.state w=none/\JY dd/\Frm M M'):=by
 obtain⟨bs,fz,ar⟩:=M;have c:=h.box;rw[jC]at c;simp only at c;have Z:d<bs.length:=(U.1 c).1;have Dp:∀i∈fz,i<bs.length:=h.fzb
 have a9:bs.length∉fz:=fun e=>ao _ (Dp _ e)
 have a1:∀k,bs.length+k∉fz:=fun k e=>by have:=Dp _ e;omega
 have a5:¬d=bs.length:=by omega
 have a6:∀k,¬d=bs.length+k:=fun k=>by omega
 have ai:∀k,d<bs.length+k:=fun k=>by omega
 have bc:¬bs.length+1=bs.length:=by omega
 have be:¬bs.length+2=bs.length:=by omega
 have a2:¬bs.length+3=bs.length:=by omega
 have X:=Yx D.su (Su.QB f.su);rw[Jo]at X;refine aB qO aH ?_;simp only[qO,aH,c,Z,Yy,dG,aX,bJ,am,Y,az,ai,RN,F,H,I,S];refine mF rfl rfl X (by simp[Su.rows]) ?_;simp only[Su.pv,PV.shift,jw,RN];simp only[Q7,c,Z,dG,iR,mO,a1,a2,bD,ae9,J9,dD,gQ,Kt,kQ,C9,Qx,RN,F,H,S];have J:Frm ⟨bs,fz,ar⟩ ⟨bs++ [some [PV.d (dI w)],some [PV.iO []],some (iL D.su ar.length (bs.length+1) (.d (.slice true [])) (.d (.slice true [])) 0),some [PV.ptr (bs.length+2) 0]],bs.length::fz,ar++D.su.rows.map some⟩:=Frm.ext (xf:=[bs.length]) (by simp);have anV:=h.frm J;have av:∀l r p,D.stands=l++p::r->mg D.su D.su.sp0 p.2:=fun l r p hl=>by
  obtain⟨y,hy,e⟩:=xY D.es D.st 0 p (by rw[Dk.stands]at hl;rw[hl];simp);rw[e];exact f.fine y hy
 have W:∀l,(∃r,D.stands=l++r)->∀x∈wo w l,mg D.su D.su.sp0 x:=fun l hl x o=>by
  obtain⟨r,hr⟩:=hl;simp only[wo,aE,cl]at o;obtain⟨p,⟨hp,_⟩,rfl⟩:=o;obtain⟨y,hy,e⟩:=xY D.es D.st 0 p (by rw[Dk.stands]at hr;rw[hr];simp[hp]);rw[e];exact f.fine y hy
 have aqQ:D.stands.length<=24:=ap (CG _ _ _) f.few;have apx:D.state w=Fq D.su (wo w D.stands) D.su.sp0:=rfl;rw[iL]at J anV;refine oI (aal (ce:=ce) (cs:=cs) f.len (by have:=f.few;omega) (fun x o=>BD (f.formed x o))) (fun _ h=>h.elim) rfl (by kernel_rfl) (fun i hi=> ?_) (fun x o=> ?_) (fun i hi=> ?_) (fun M' P=>anV.toDkRd.moved (by simp;omega) P)
  (fun Q q=>∃l r t cst cse,D.stands=l++r/\Q=l.map oZ/\Fq D.su (wo w l) D.su.sp0=some t/\gy D.su ar.length (bs.length+2) (bs.length+1) cst cse t q/\Frm ⟨bs,fz,ar⟩ q/\q.boxes[bs.length+3]?=some (some [.ptr (bs.length+2) 0])/\bs.length+4<=q.boxes.length) ?_ ?_ ?_ ?_
 ·exact anV.fzb i hi
 ·simp only[dF,aE]at o
  obtain⟨p,_,rfl⟩:=o
  rfl
 ·subst hi;simp;omega
 ·rintro Q q M2 P ⟨l,r,t,cst,cse,j,A,B,T,R,z,V⟩
  simp only[Y,aD,aw]at P;refine⟨l,r,t,cst,cse,j,A,B,T.moved P (by omega) (by omega),R.moved P (by simp),(P.box _ (by omega) id).trans z,ap V P.len⟩
 ·refine⟨[],D.stands,D.su.sp0, .d (.slice true []), .d (.slice true []),rfl,rfl,rfl,?_,J,?_,?_⟩
  ·have:=gy.new (s:=D.su) (ar:=ar) (x0:=some [PV.d (dI w)]) (x3:=some [PV.ptr (bs.length+2) 0]) Dp
   rw[iL]at this;exact this
  ·simp only;rw[iR rfl];rfl
  ·simp
 ·rintro L cells Q x post q o O g u ⟨l,r,t,cst,cse,j,A,B,T,R,z,V⟩ M0
  simp only[Y,aD,aw]at O g u⊢;obtain⟨p,E,rfl⟩:∃p E,r=p::E:=by
   cases r with
   |nil=>
    rw[bR]at j;rw[dF,a8,a8,<-Dk.stands,j,A]at o;have:=congrArg b9 o;simp at this
   |cons p E=>exact⟨p,E,rfl⟩
  have a4:x=oZ p:=by
   rw[dF,a8,a8,<-Dk.stands,j,A,bp,aL]at o;have:=List.append_cancel_left o;exact(List.cons.inj this).1.symm
  subst a4;obtain⟨G,ae,ac⟩:=q;simp only at O g u z V;have a0:bs.length+3<G.length:=by omega
  have ab:D.stands=(l++ [p])++E:=by rw[j];simp
  simp only[oZ,List.zip_cons_cons,List.zip_nil_left,aL,bt,RN,F,H,S]
  by_cases hw:(p.1:Int)=w
  ·have hb:((p.1:Int) !=w)=false:=by simp[hw]
   simp only[hb,kE,RN,F];refine⟨g,u, .refl _,l++ [p],E,t,cst,cse,ab,by rw[A];simp[oZ],by rw[acW,if_pos hw];exact B,T,R,z,V⟩
  ·have hb:((p.1:Int) !=w)=true:=by simp[hw]
   have N:=QZ _ 0 _ t (ajD f.su) (W l ⟨_,j⟩) B;have bh:=aoL w l;have a7:l.length<=24:=by
    have:=congrArg b9 j;simp at this;omega
   have a3:VW D.su t:=N.sp (by omega);have ax:mg D.su t p.2:=mg.same (n:=0) N.ll.symm N.hh.symm (av l E p j);simp only[hb,z,RN,F,S];have aq:=ahk amv T a3 p.2 ax;refine SC.kU (SC.mono aq ?_) ?_
   ·rintro v M3 ⟨t',tK,Dh,g1,g2,m⟩
    have aM:Frm ⟨bs,fz,ar⟩ M3:=R.frs m (by simp) (by simp) (by simp);have aR:=m.len;simp only at aR;simp only[kE];refine⟨(m.box _ (by simp only;omega) (by omega) (by omega)).trans g,fun e=>u ((m.fz _ (by simp only;omega)).1 e),⟨m.len,m.bC,fun i hi K=>m.box i K (by omega) (by omega),fun i hi K=>m.fz i K,fun k hk=> ?_,m.fzb⟩,?_⟩
    ·refine m.row k ?_
     rcases hk with hk|hk
     ·have:=Ba h.ent hk;simpa using this
     ·have:=Ba h.str hk;simpa using this
    ·refine⟨l++ [p],E,t',tK,Dh,ab,by rw[A];simp[oZ],?_,g2,aM,(m.box _ (by simp only;omega) (by omega) (by omega)).trans z,by omega⟩
     rw[acW,if_neg hw,zl,B];simp[Fq,g1]
   ·rintro dd M3 ⟨g1,g2,m⟩
    simp only[kE,RN];refine⟨?_,g2,R.frs m (by simp) (by simp) (by simp)⟩;rw[apx,j,ajW,acW,if_neg hw,zl,zl,B];simp[Fq,g1]
 ·rintro q ⟨l,r,t,cst,cse,j,A,B,T,R,z,V⟩ O
  have hr:r=[]:=by
   have:=congrArg b9 A;rw[dF,a8,a8,<-Dk.stands,j]at this;simp at this;exact this
  subst hr;rw[bR]at j;obtain⟨G,ae,ac⟩:=q;simp only at z V;have a0:bs.length+3<G.length:=by omega
  simp only[z,RN,F,S];exact⟨t,_,_,_,cst,cse,rfl,by rw[apx,j];exact B,T,R,by omega,by omega,an _⟩
def fmL:List (ByteArray×Nat):=[(⟨#[99,117,116]⟩,1),(⟨#[99,104,97,110,103,101]⟩,3),(⟨#[111,114,100,101,114]⟩,3),(⟨#[115,101,114,118,101]⟩,2),(⟨#[115,101,116]⟩,1),(⟨#[115,116,114,105,107,101]⟩,1)]
def abz (p:ByteArray×Nat):DV:= .agg [.str p.1,dI (p.2:Int)]
def Un (l:List (ByteArray×Nat)):List DV:=l.flatMap fun p=>[.str p.1,dI (p.2:Int)]
def adi:Un fmL=[.str ⟨#[99,117,116]⟩,dI 1, .str ⟨#[99,104,97,110,103,101]⟩,dI 3, .str ⟨#[111,114,100,101,114]⟩,dI 3, .str ⟨#[115,101,114,118,101]⟩,dI 2, .str ⟨#[115,101,116]⟩,dI 1, .str ⟨#[115,116,114,105,107,101]⟩,dI 1]:=rfl
def adk:Pure C 222 [] (.d (.agg (Un fmL))) []:=by
 refine ah yS ajf ?_;simp only[yS,ajf,adi,IJ,RN,F,H,S]
def Y6 (n:Int):Pure C 279 [dI n] (.d (.bool (!inR n 0 9999))) []:=by
 refine ah qR aI ?_;simp only[qR,aI,RN,F];refine ak (BI _ _ _) ?_;(try simp only[RN])
def fwE (k:Int):ByteArray:=(fmL.getD (k - 1).toNat default).1
variable{k:Int}
def am7 (h:1<=k/\k<=6):k=1\/k=2\/k=3\/k=4\/k=5\/k=6:=by omega
def ao4 (h:1<=k/\k<=6):VX (gV (cz 2 (cw ((k - 1).toNat*2) (cv PV.d (Un fmL))))) (cz 2 (cw ((k - 1).toNat*2) (cv PV.d (Un fmL))))= .d (.agg [.str (fwE k),dI (xu k)])/\(k - 1).toNat*2+2<=(cv PV.d (Un fmL)).length/\cA .i64 (k - 1)=k - 1:=by
 rcases am7 h with rfl|rfl|rfl|rfl|rfl|rfl<;>exact⟨rfl,by decide,by decide⟩
def adu (k:Int):xu k<=3:=by
 unfold xu;split
 ·omega
 ·split<;>omega
def abV (x:En):Pure C 225 [x.dv] (.d (.bool x.formed)) []:=by
 refine ah uF aI ?_;simp only[uF,aI,Fv,RN,F,H,S];refine ak (BI _ _ _) ?_;cases c:inR x.kind 1 6
 ·(try simp only[RN,F])
  simp only[En.formed,c,aM]
 have e:1<=x.kind/\x.kind<=6:=by simpa[inR]using c
 simp only[V,RN,F,H,S];refine ak adk ?_;obtain⟨e1,e2,f⟩:=ao4 e;have g:=adu x.kind;simp only[f,e1,RN,H,S];refine⟨by omega,by omega,e2,?_⟩
 by_cases b:x.ns.length=xu x.kind
 ·have a:((x.ns.length:Int) !=(xu x.kind:Int))=false:=by simp[b]
  simp only[a,RN,F,H,S];refine cO rfl rfl (lQ x.ns 279 [] (fun n=> !inR n 0 9999) (by omega) (by kernel_rfl) fun n _=>Y6 n) ?_;simp only[Ef,cp,RN];simp[En.formed,c,b]
 ·have a:((x.ns.length:Int) !=(xu x.kind:Int))=true:=by simp;omega
  simp only[a,RN,F];simp[En.formed,b]
def J8 (e1 e2:Bool)(D:Dk):List DV:=[.aP D.su.cs,sF (D.su.days.map Bv), .slice e1 (D.es.map En.dv), .slice e2 (D.st.map .bool)]
def vw (e1 e2:Bool)(D:Dk):DV:= .aP (J8 e1 e2 D)
def TS {xs:List DV}(h:slN sz W c xs ar):∃ex,dR ⟨bs,fz,ar⟩ c=some (.slice ex xs):=by
 rcases h with⟨rfl,rfl⟩|⟨k,ver,st,rfl,h,_⟩
 ·exact⟨true,rfl⟩
 ·exact⟨false,by simp[dR,Mem.row,h]⟩
def Lm {ce cs:PV}(h:vX D d ce cs M):∃e1 e2,datum M (.ptr d 0)=some (vw e1 e2 D):=by
 obtain⟨bs,fz,ar⟩:=M;have h1:=h.box;rw[jC]at h1;obtain⟨e1,a⟩:=TS (bs:=bs) (fz:=fz) h.ent;obtain⟨e2,b⟩:=TS (bs:=bs) (fz:=fz) h.str;simp only at h1 a b;refine⟨e1,e2,?_⟩;have hd:∀x,dR ⟨bs,fz,ar⟩ (.d x)=some x:=fun _=>rfl
 have c:bT ⟨bs,fz,ar⟩ [.d (.aP D.su.cs), .d (sF (D.su.days.map Bv)),ce,cs]=some (J8 e1 e2 D):=by
  simp only[bT,hd,a,b];rfl
 simp only[datum,Mem.box,h1,c]
 rfl
def GR (e1 e2:Bool)(D:Dk)(hh:D.su.pc.hands.length<=1000)(n:Int):Pure C 290 [vw e1 e2 D,dI n] (.d (.bool (inR n 0 (D.su.pc.hands.length - 1)))) []:=by
 refine ah pO aH ?_;have w1:cA .i64 ((D.su.pc.hands.length:Int) - 1)=(D.su.pc.hands.length:Int) - 1:=aF (by omega);simp only[pO,aH,vw,J8,Yy,V,w1,RN,F,H,S];refine ak (BI _ _ _) ?_;(try simp only[])
def Qv (e1 e2:Bool)(D:Dk)(n:Int):Pure C 293 [vw e1 e2 D,dI n] (.d (.bool (inR n 1 D.su.days.length))) []:=by
 refine ah qN aH ?_;simp only[qN,aH,vw,J8,V,RN,F,H,S];refine ak (BI _ _ _) ?_;(try simp only[])
def Y7 (e1 e2:Bool)(D:Dk):Pure C 224 [vw e1 e2 D] (.d (.bool true)) []:=by
 refine ah pR aI ?_;simp only[pR,aI,vw,J8,RN,F,H,S]
def adP {f:FuncId}{args:List PV}{ds ds':List DV}{x:DV}{K:PV->Mem->Prop}{KP:DV->Mem->Prop}(h:Pure C f ds' (.d x) [])(hx:Rw (.d x)=true)(a:bV M args=some ds)(c:ds.map DV.strip=ds')(b:K (.d x) M):SC C f args M K KP:=
 Z9 h hx rfl a c (by simpa[PV.shift,jw]using b)
section
variable (e1 e2:Bool)(D:Dk)
def aeV (n:Int):Pure C 409 [(De.cut n).cs,vw e1 e2 D] (.d (.bool (D.lG (.cut n)))) []:=by
 refine ah uD aH ?_;simp only[uD,aH,De.cs,vw,RN,F,H,S];refine ak (mZ _) ?_;simp only[Dk.lG]
def Wp (hl:D.su.pc.links.length<=1000)(c:Chg):Pure C 410 [(De.change c).cs,vw e1 e2 D] (.d (.bool (D.lG (.change c)))) []:=by
 refine ah pY aH ?_;have w1:cA .i64 ((D.su.pc.links.length:Int) - 1)=(D.su.pc.links.length:Int) - 1:=aF (by omega);simp only[pY,aH,De.cs,vw,J8,Yy,V,w1,RN,F,H,S];refine ak (BI _ _ _) ?_;cases h1:inR c.link 0 ((D.su.pc.links.length:Int) - 1)
 ·(try simp only[RN,F])
  simp only[Dk.lG,h1,aM]
 (try simp only[RN,F,H,S]);refine ak (mZ _) ?_;cases h2:aT c.pr.a
 ·(try simp only[RN,F])
  simp only[Dk.lG,h1,Pr.ok,h2,aM,b8]
 (try simp only[RN,F,H,S]);refine ak (mZ _) ?_;(try simp only[RN,F,H,I,J,N,S]);simp only[Dk.lG,h1,Pr.ok,h2,bE]
def ZC (hh:D.su.pc.hands.length<=1000)(n:Int)(f:Fr):Pure C 411 [(De.order n f).cs,vw e1 e2 D] (.d (.bool (D.lG (.order n f)))) []:=by
 refine ah qV aH ?_;have hi:=GR e1 e2 D hh n;have a:=ads f;rw[aS]at a;rw[vw]at hi⊢;simp only[qV,aH,De.cs,RN,F,H,S];refine ak hi ?_;cases h1:inR n 0 ((D.su.pc.hands.length:Int) - 1)
 ·(try simp only[RN,F])
  simp only[Dk.lG,h1,aM]
 (try simp only[RN,F,H,S]);refine ak a ?_;(try simp only[RN,F,H,I,J,N,S]);simp only[Dk.lG,h1,bE]
def aag (hh:D.su.pc.hands.length<=1000)(n c:Int):Pure C 412 [(De.serve n c).cs,vw e1 e2 D] (.d (.bool (D.lG (.serve n c)))) []:=by
 refine ah qX aH ?_;have hi:=GR e1 e2 D hh n;rw[vw]at hi⊢;simp only[qX,aH,De.cs,RN,F,H,S];refine ak hi ?_;simp only[Dk.lG]
def aga (n:Int):Pure C 413 [(De.set n).cs,vw e1 e2 D] (.d (.bool (D.lG (.set n)))) []:=by
 refine ah uH aH ?_;have hi:=Qv e1 e2 D n;rw[vw]at hi⊢;simp only[uH,aH,De.cs,RN,F,H,S];refine ak hi ?_;simp only[Dk.lG]
def XM (hl:D.es.length<=1000)(n:Int):Pure C 408 [(De.strike n).cs,vw e1 e2 D] (.d (.bool (D.lG (.strike n)))) []:=by
 refine ah qg aH ?_;have w1:cA .i64 ((D.es.length:Int) - 1)=(D.es.length:Int) - 1:=aF (by omega);simp only[qg,aH,De.cs,vw,J8,V,w1,RN,F,H,S];refine ak (BI _ _ _) ?_;cases h1:inR n 0 ((D.es.length:Int) - 1)
 ·(try simp only[RN,F])
  simp only[Dk.lG,h1,aM]
 have a:0<=n/\n<=(D.es.length:Int) - 1:=by simpa[inR]using h1
 have b:n.toNat<D.es.length:=by omega
 simp only[a.1,b,V,getD_map,Fv,RN,F,H,S];have:((D.es.getD n.toNat default).kind !=6)=decide ((D.es.getD n.toNat default).kind≠6):=by
  by_cases h:(D.es.getD n.toNat default).kind=6
  ·rw[h];rfl
  ·rw[decide_eq_true h];exact bne_iff_ne.2 h
 simp only[Dk.lG,h1,bE,this]
end
def De.ahC:De->FuncId
 | .cut _=>409
 | .change _=>410
 | .order _ _=>411
 | .serve _ _=>412
 | .set _=>413
 | .strike _=>408
variable{D:Dk}
def Dk.Ok.small (h:D.Ok):D.su.pc.links.length<=5/\D.su.pc.hands.length<=4:=by
 have:=Pc.CY (Su.facts h.su).1;omega
def anx (e1 e2:Bool){D:Dk}(h:D.Ok)(x:De):Pure C x.ahC [x.cs,vw e1 e2 D] (.d (.bool (D.lG x))) []:=by
 obtain⟨h1,h2⟩:=h.small;cases x with
 |cut n=>exact aeV _ _ _ _
 |change c=>exact Wp _ _ _ (by omega) _
 |order n f=>exact ZC _ _ _ (by omega) _ _
 |serve n c=>exact aag _ _ _ (by omega) _ _
 |set n=>exact aga _ _ _ _
 |strike n=>exact XM _ _ _ (by have:=h.few;omega) _
def ahE (x:De):IQ C.P x.ty "tellurion/journeyman.fine" =some x.ahC/\callable C.P x.ahC=true:=by
 cases x<;>exact⟨by kernel_rfl,by kernel_rfl⟩
def ahd (x:De):x.cs.strip=x.cs:=by cases x<;>rfl
def ahD {d:Nat}{ce cs:PV}{M:Mem}(h:vX D d ce cs M)(a:D.Ok)(x:De){base:Nat}{K:PV->Mem->Prop}{KP:DV->Mem->Prop}(b:K (.d (.bool (D.lG x))) M):
  au C base (.inv "tellurion/journeyman.fine") [.d x.dv, .ptr d 0] M K KP:=by
 obtain⟨e1,e2,hd⟩:=Lm h;obtain⟨m1,c⟩:=ahE x;refine⟨_,m1,c,adP (ds:=[x.cs,vw e1 e2 D]) (ds':=[x.cs,vw e1 e2 D]) (anx e1 e2 a x) rfl ?_ ?_ b⟩
 ·simp only[bV,hd];rfl
 ·simp only[aL,bt,ahd];rfl
end Go.Tel
