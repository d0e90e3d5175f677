/-
  Part 6 of a law of desks.
  Conditions: none.
-/
import Derived.Test.YtkbhljmmnbgloaaGreatDoorTopIdleM04
import Derived.Test.YtkbhljmmnbgloaaGreatDoorTopIdleM05
import Derived.Shelf.Lays2
import Derived.Shelf.RegionOpenPlain
import Derived.Deep.LoopGhost
import Derived.Deep.RegionLaw
import Derived.Lib.Walk
import Derived.Sort.WalkB12
import Derived.Lib.SliceRun
import Derived.Lib.SlicesDelete
import Derived.Ground.NamesProg
import Derived.Shelf.Strings.Split
import Derived.Shelf.Strings.OnBuilder
import Derived.Shelf.Strconv.Itoa3
import Derived.Shelf.Strings.Cut
import Derived.Shelf.Sort.Plain
import Derived.Ground.Names2Prog
import Derived.Shelf.Small.Strs
import Derived.Test.YtkbhljmmnbgloaaGreatDoorChecked
set_option linter.all false
set_option maxRecDepth 10000
set_option maxHeartbeats 4000000
open Nat renaming reduceBEq->F,reduceAdd->H,reduceSub->I,reduceEqDiff->J,reduceLT->N,reduceLeDiff->S,add_assoc->ae,lt_irrefl->ap,le_refl->aq,zero_le->av,le_trans->bk,mul_one->bu,sub_zero->bA,lt_of_lt_of_le->bO,add_zero->ch,zero_mul->cj
open List renaming getElem?_eq_some_iff->U,length_append->V,append_assoc->Y,length_map->Z,length_set->ab,getElem?_set_ne->ai,getElem?_append_left->am,mem_append->ax,getElem?_map->aE,mem_cons_of_mem->aL,mem_map->aM,length_nil->aR,length_cons->be,map_cons->bj,getD_eq_getElem?_getD->bl,getElem?_append_right->bo,getElem?_drop->bp,mem_cons_self->bq,mem_singleton->br,all_eq_true->bv,getElem?_eq_none->bE,set_append_right->bL,getElem?_take->bN,ext_getElem?->bR,flatMap_cons->bS,length_range->bX,map_nil->b0,replicate->b9,all_cons->ca,mem_cons->cb,all_nil->cf,map_set->cg
open Int renaming toNat_natCast->an,lt_irrefl->bi
open Bool renaming and_eq_true->ao,false_eq_true->a6,and_self->bh,and_false->b7,false_and->b8
open Option renaming map_none->aw,map_some->az,isSome_none->a7,isSome_some->a8,getD_none->bw,getD_some->bz
open And renaming intro->aD
open Array renaming getElem?_toList->bc,getElem?_modify->bB
open Iff renaming rfl->bt
open Go.IntKind renaming wrap->ck
namespace Go.Tel
open Go.Am
def sV:aA:=(sw (r0 [ba 2 0 0,mk 4 (.c (.str ⟨#[]⟩)),mi 5 0] 1 [1,2,4,5] [2]) (sr [lw 11 17 2,oa 12 (.call 82) 11,mv 10 12,xa 13 0 10,xa 14 1 10,al 6 0 [.nilPtr],sk 1 6 13 0,mv 7 14] 1 [1,4,5,6,7] (sw (sr [mv 15 7,oi 16 pQ 15 0] 0 [1,4,5,6,7,16] (cd 16 (sr [mv 17 7,mk 4 (.c (.str ⟨#[]⟩)),mv 5 17] 0 [4,5] .ret) .skip)) (sw (sr [mv 18 1,oa 19 .Dj 18,oi 20 pG 19 1500] 0 [1,4,5,6,20] (cd 20 (sr [mk 4 (.c (.str ⟨#[]⟩)),mi 5 3] 0 [4,5] .ret) .skip)) (sw (sr [mv 21 1,oc 22 pQ 21 (.c (.str ⟨#[]⟩)),mv 23 22,ov 24 .mov 1 23 0,ot 25 (.aj 83) [.t 24,.c (.str ⟨#[10]⟩)] 23 0,ov 26 pN 25 23 0,pf 27 23 26] 0 [1,4,5,6,27] (cd 27 (sr [mk 4 (.c (.str ⟨#[]⟩)),mi 5 4] 0 [4,5] .ret) .skip)) (sr [al 8 0 [.str ⟨#[]⟩],os (.store 1) [.t 8,.c (.str ⟨#[]⟩)] 0] 1 [1,4,5,6,8] (sw (sr [mv 28 1,oa 29 (.call 84) 28] 0 [4,5,6,8,29] (.block 0 (.rM (.t 29) [30] [6,8] (rg [mv 9 30] 0 [6,8,9]) (.block 1 (r1 [lo 31 8,ou 32 (.load false 1) 6 2,mv 33 9,oc 34 (.aj 86) 33 (.c (.str ⟨#[10]⟩)),on 35 (.Cb false 1 85) [.t 8,.t 32,.t 34],oc 36 pA 35 (.c (.str ⟨#[10]⟩)),ob 37 pA 31 36,sk 1 8 37 0] 0 [] []))))) (sr [lo 38 8,mv 4 38,mi 5 0] 0 [4,5] .ret))))))))
def yj:aA:=(sw (r0 [ba 1 0 0,mk 2 (.c (.nilPtr)),mi 3 0] 1 [1] [1]) (sw (sr [lw 5 17 1,oa 6 (.aj 147) 5,oa 7 pN 6] 0 [1,7] (cd 7 (sr [mk 2 (.c (.nilPtr)),mi 3 2] 0 [2,3] .ret) .skip)) (sw (r0 [lw 8 17 1,oa 9 (.aj 148) 8,al 4 0 [zs,zs,zs,z0,z0,zs,z0,zs,z0,z0,z0,zs,z0,z0,z0,z0,z0],sk 17 4 9 0] 1 [4] [4]) (sr [lw 10 17 4,oa 11 (.aj 149) 10,ob 12 (.build [.nilPtr,zs,zs,zs] [(0,1),(1,1)]) 4 11,ba 13 0 12,mv 2 13,mi 3 0] 1 [2,3] .ret))))
def nN:aA:=(sr [mk 4 (.c (.str ⟨#[]⟩))] 0 [0,1] (sw (r0 [mv 10 1,oa 11 (.aj 153) 10,mv 9 11,xa 12 0 9,xa 13 1 9,al 5 0 [z0,zs],sk 2 5 12 0,mv 6 13] 1 [0,1,5,6] [5]) (sw (sr [mv 14 6,oi 15 pE 14 0] 0 [0,1,5,6,15] (cd 15 (sr [mv 16 0,lw 17 2 5,ob 18 (.call 154) 16 17,mv 6 18] 0 [6] (sw (sr [mv 19 6,oi 20 pE 19 0] 0 [6,20] (cd 20 (sr [mk 4 (.c (.str ⟨#[110,111,116,101,100]⟩))] 0 [4] .ret) .skip)) (sr [mv 21 6,oa 22 (.aj 155) 21,on 23 pA [.c (.str ⟨#[101,114,114,111,114,32]⟩),.t 22],mv 4 23] 0 [4] .ret))) .skip)) (sw (sr [mv 24 6,oi 25 pE 24 3] 0 [0,1,6,25] (cd 25 (sr [mv 26 6,oa 27 (.aj 155) 26,on 28 pA [.c (.str ⟨#[101,114,114,111,114,32]⟩),.t 27],mv 4 28] 0 [4] .ret) .skip)) (sw (r0 [mv 30 1,oa 31 (.aj 156) 30,mv 29 31,xa 32 0 29,xa 33 1 29,al 7 0 [z0,zs],sk 2 7 32 0,mv 6 33] 1 [0,6,7] [7]) (sr [mk 8 (.c (.slice true []))] 0 [0,6,7,8] (sw (sr [mv 34 6,oi 35 pE 34 0] 0 [0,6,7,8,35] (cd 35 (rg [mv 37 0,lw 38 2 7,ob 39 (.call 157) 37 38,mv 36 39,xa 40 0 36,xa 41 1 36,mv 8 40,mv 6 41] 0 [6,8]) .skip)) (sw (.block 0 (sr [mv 43 6,oi 44 pQ 43 0,mv 42 44] 0 [6,8,42] (cd 42 (sr [mv 45 6,oa 46 (.aj 155) 45,on 47 pA [.c (.str ⟨#[101,114,114,111,114,32]⟩),.t 46],mv 4 47] 0 [4] .ret) (sr [mv 49 8,oa 50 .len 49,oi 51 pE 50 0,mv 48 51] 0 [8,48] (cd 48 (sr [mk 4 (.c (.str ⟨#[110,111,116,104,105,110,103]⟩))] 0 [4] .ret) .skip))))) (sr [mv 52 8,oa 53 (.iG 158) 52,mv 4 53] 0 [4] .ret)))))))))
def sZ:aA:=(sw (r0 [ba 1 0 0,mf 2 false] 1 [1] [1]) (sw (sr [fa 10 0 1,lw 11 2 10,oa 12 (.aj 206) 11,oi 13 pQ 12 0,mv 14 13,ow 15 (.fld 2) 1 14 0,lq 16 15 14,ow 17 .len 16 14 0,ow 18 (.fld 0) 1 14 0,ow 19 (.fld 1) 18 14 0,lq 20 19 14,ow 21 .len 20 14 0,obF 22 pQ 17 21 14 0,pt 23 14 22,mv 24 23,ow 25 (.fld 3) 1 24 0,lq 26 25 24,oF 27 (.aj 207) [.t 26,kI 0,kI 10800] 24 0,ow 28 pN 27 24 0,pt 29 24 28] 0 [1,29] (cd 29 (sr [mf 2 false] 0 [2] .ret) .skip)) (sr [fa 31 4 1,lw 32 2 31,oa 33 (.aj 208) 32,mv 30 33,xa 34 0 30,xa 35 1 30,mv 3 34,mv 4 35] 0 [1,4] (sr [fa 37 6 1,lw 38 2 37,fa 39 8 1,lw 40 3 39,fa 41 11 1,lo 42 41,fa 43 12 1,lo 44 43,on 45 (.aj 209) [.t 38,.t 40,.t 42,.t 44],mv 36 45,xa 46 0 36,xa 47 1 36,mv 5 46,mv 6 47] 0 [1,4,6] (sr [fa 49 13 1,lo 50 49,fa 51 14 1,lo 52 51,fa 53 15 1,lo 54 53,fa 55 16 1,lo 56 55,on 57 (.build [zs,z0,z0,z0,z0,z0] [(1,1),(2,1),(3,1),(4,1)]) [.t 50,.t 52,.t 54,.t 56],oa 58 (.aj 210) 57,mv 48 58,xa 59 0 48,xa 60 1 48,xa 61 2 48,mv 7 59,mv 8 60,mv 9 61] 0 [1,4,6,9] (sr [mv 62 4,oi 63 pE 62 0,mv 64 63,ov 65 .mov 6 64 0,ot 66 pE [.t 65,kI 0] 64 0,pf 67 64 66,mv 68 67,ov 69 .mov 9 68 0,ot 70 pE [.t 69,kI 0] 68 0,pf 71 68 70,mv 72 71,ov 73 (.fld 2) 1 72 0,ov 74 (.load false 1) 73 72 0,ot 75 (.aj 211) [.t 74,.c (.func (.func 212) [] [])] 72 0,ov 76 pN 75 72 0,pf 77 72 76,mv 2 77] 0 [2] .ret))))))
def uQ:aA:=(sr [ba 1 0 0,al 2 1 [zs,zs,zs,z0,z0,zs,z0,zs,z0,z0,z0,zs,z0,z0,z0,z0,z0]] 2 [1,2] (sw (r1 [fu 3 0 1 2,fu 4 0 3 2,ou 5 (.load false 1) 4 2,ou 6 (.nZ 214) 5 1,fu 7 0 1 2,fu 8 1 7 2,ou 9 (.load false 1) 8 2,ou 10 (.nZ 215) 9 1,fu 11 0 1 2,fu 12 0 11 2,sk 1 12 6 0,fu 13 0 1 2,fu 14 1 13 2,sk 1 14 10 0] 0 [1,2] []) (sw (r1 [fu 15 2 1 2,ou 16 (.load false 1) 15 2,ou 17 (.nZ 216) 16 1,fu 18 11 1 2,ou 19 (.load false 1) 18 2,ou 20 (.nZ 217) 19 1,fu 21 2 1 2,sk 1 21 17 0,fu 22 11 1 2,sk 1 22 20 0] 0 [1,2] []) (sw (r1 [fu 23 4 1 2,fu 24 1 23 2,ou 25 (.load false 1) 24 2,ou 26 (.nZ 215) 25 1,fu 27 6 1 2,fu 28 1 27 2,ou 29 (.load false 1) 28 2,ou 30 (.nZ 215) 29 1,fu 31 4 1 2,fu 32 1 31 2,sk 1 32 26 0,fu 33 6 1 2,fu 34 1 33 2,sk 1 34 30 0] 0 [1,2] []) (sr [lw 35 17 1,sk 17 2 35 0] 0 [2] .ret)))))
def yw:aA:=(sw (r0 [ba 1 0 0,ag 2 2] 1 [1] [1]) (sr [fa 13 6 1,lw 14 2 13,fa 15 12 1,lo 16 15,on 17 (.build [z0,z0,z0] [(0,1),(1,1),(2,1)]) [.t 16,kI 1,kI 1],ob 18 (.aj 218) 14 17,mv 12 18,xa 19 0 12,xa 20 1 12,mv 3 19,mv 4 20] 0 [1,3] (sr [fa 22 6 1,lw 23 2 22,fa 24 12 1,lo 25 24,on 26 (.build [z0,z0,z0] [(0,1),(1,1),(2,1)]) [.t 25,kI 12,kI 31],ob 27 (.aj 218) 23 26,mv 21 27,xa 28 0 21,xa 29 1 21,mv 5 28,mv 6 29] 0 [1,3,5] (sr [fa 31 6 1,lw 32 2 31,fa 33 8 1,lw 34 3 33,fa 35 11 1,lo 36 35,fa 37 12 1,lo 38 37,on 39 (.aj 209) [.t 32,.t 34,.t 36,.t 38],mv 30 39,xa 40 0 30,xa 41 1 30,mv 7 40,mv 8 41] 0 [3,5,7] (sr [ag 9 2] 0 [3,5,7,9] (sw (sr [mv 42 5,mv 43 3,ob 44 pU 42 43,oi 45 pA 44 1,mi 46 0] 0 [3,7,9,45,46] (.block 0 (.loop (sr [ob 47 pL 46 45] 0 [3,7,9,45,46,47] (sw (cx 47 0) (sw (.block 1 (sr [mv 48 46,mv 10 48] 0 [3,7,9,10,45,46] (sr [mv 49 3,mv 50 10,ob 51 pA 49 50,mv 11 51] 0 [3,7,9,11,45,46] (rg [mv 52 9,mv 53 11,mv 54 11,oi 55 pA 54 4,oi 56 (.bin .rem) 55 7,oi 57 pQ 56 0,mv 58 57,ov 59 .mov 7 58 0,ov 60 .mov 11 58 0,obT 61 (.aj 131) 59 60 58 0,ov 62 pN 61 58 0,pf 63 58 62,ob 64 (.build [z0,.bool false] [(0,1),(1,1)]) 53 63,oa 65 (.dA 2 [.agg [z0,.bool false]] [0]) 64,ob 66 (.app 2 false) 52 65,mv 9 66] 0 [3,7,9,45,46])))) (rg [oi 67 pA 46 1,mv 46 67] 0 [3,7,9,45,46]))))))) (sr [mv 68 9,mv 2 68] 0 [2] .ret)))))))
def wu:aA:=(sw (r0 [ba 1 0 0,al 2 1 [z0,zs],mi 3 0] 2 [1,2] [1]) (sw (sr [lo 6 1,oa 7 .Dj 6,oi 8 pG 7 60] 0 [1,2,8] (cd 8 (sr [on 9 (.build [z0,zs] []) [],sk 2 2 9 0,mi 3 3] 0 [2,3] .ret) .skip)) (sr [al 4 0 [z0,zs]] 1 [1,2,4] (sr [ob 10 (.mkF (.func 221) 0) 1 4,oa 11 (.call 220) 10,mv 5 11] 0 [2,4,5] (sw (sr [mv 12 5,oi 13 pQ 12 0] 0 [2,4,5,13] (cd 13 (sr [on 14 (.build [z0,zs] []) [],mv 15 5,sk 2 2 14 0,mv 3 15] 0 [2,3] .ret) .skip)) (sr [lw 16 2 4,sk 2 2 16 0,mi 3 0] 0 [2,3] .ret))))))
def oH:aA:=(sw (r0 [ba 2 0 0,ba 3 1 1,mi 4 0] 2 [2,3] [3]) (sw (sr [lo 9 2,oa 10 (.iG 224) 9,oa 11 pN 10] 0 [2,3,11] (cd 11 (sr [mi 4 1] 0 [4] .ret) .skip)) (sw (sr [lw 12 2 3,oa 13 (.aj 225) 12,oa 14 pN 13] 0 [2,3,14] (cd 14 (sr [mi 4 2] 0 [4] .ret) .skip)) (sw (sr [lo 15 2,oa 16 .bf 15,fa 17 2 16,lo 18 17,oa 19 .len 18,oi 20 pE 19 24] 0 [2,3,20] (cd 20 (sr [mi 4 3] 0 [4] .ret) .skip)) (sw (r0 [lw 21 2 3,oa 22 (.aj 226) 21,al 5 0 [.nilIface],sk 1 5 22 0] 1 [2,3,5] [5]) (sw (sr [lo 23 5,lo 24 2,ob 25 (.inv "tellurion/journeyman.fine") 23 24,oa 26 pN 25] 0 [2,3,5,26] (cd 26 (sr [mi 4 2] 0 [4] .ret) .skip)) (sr [ob 27 (.mkF (.func 227) 0) 5 2,oa 28 (.call 220) 27,mv 6 28] 0 [2,3,5,6] (sw (sr [mv 29 6,oi 30 pQ 29 0] 0 [2,3,5,6,30] (cd 30 (sr [mv 31 6,mv 4 31] 0 [4] .ret) .skip)) (sw (sw (r0 [lo 33 5,oa 34 (.tas T.bD (.agg [z0])) 33,mv 32 34,xa 35 0 32,xa 36 1 32,al 7 0 [z0],sk 1 7 35 0,mv 8 36] 1 [2,3,7,8] [7]) (sr [mv 37 8] 0 [2,3,7,37] (cd 37 (r1 [ou 38 (.load false 1) 2 2,oa 39 .bf 38,fu 40 3 39 2,ou 41 (.load false 1) 40 2,fu 42 0 7 1,lv 43 42,ix 44 1 41 43,os (.store 1) [.t 44,.c (.bool true)] 3] 0 [2,3] []) .skip))) (sw (r1 [ou 45 (.load false 1) 2 2,ou 46 (.load false 1) 2 2,oa 47 .bf 46,fu 48 2 47 2,ou 49 (.load false 1) 48 2,fu 50 0 3 1,lv 51 50,fu 52 1 3 1,lv 53 52,oa 54 (.aj 215) 53,ob 55 (.build [z0,zs] [(0,1),(1,1)]) 51 54,ou 56 (.dA 2 [.agg [z0,zs]] [0]) 55 1,ob 57 (.app 2 false) 49 56,oa 58 .bf 45,fu 59 2 58 2,sk 1 59 57 0] 0 [2] []) (sw (r1 [ou 60 (.load false 1) 2 2,ou 61 (.load false 1) 2 2,oa 62 .bf 61,fu 63 3 62 2,ou 64 (.load false 1) 63 2,of 65 (.dA 1 [.bool false] [0]) [.c (.bool false)] 1,ob 66 (.app 1 true) 64 65,oa 67 .bf 60,fu 68 3 67 2,sk 1 68 66 0] 0 [] []) (sr [mi 4 0] 0 [4] .ret))))))))))))
def rC:aA:=(sw (r0 [ba 1 0 0,al 2 1 [z0,zs],mi 3 0] 2 [1,2] [1]) (sr [al 4 0 [z0,zs]] 1 [1,2,4] (sr [ob 6 (.mkF (.func 231) 0) 1 4,oa 7 (.call 220) 6,mv 5 7] 0 [2,4,5] (sr [lw 8 2 4,mv 9 5,sk 2 2 8 0,mv 3 9] 0 [2,3] .ret))))
def qY:aA:=(sw (r0 [ba 2 0 0,ba 3 1 1,mk 4 (.c (.slice true [])),mi 5 0] 2 [2,3] [3]) (sw (sr [lo 11 2,oa 12 (.iG 224) 11,oa 13 pN 12] 0 [2,3,13] (cd 13 (sr [mk 4 (.c (.slice true [])),mi 5 1] 0 [4,5] .ret) .skip)) (sw (sw (r1 [fu 14 0 3 1,lv 15 14,on 16 (.aj 207) [.t 15,kI 1,kI 12],oa 17 pN 16,mv 18 17,ow 19 (.fld 1) 3 18 1,ow 20 (.load false 1) 19 18 1,ow 21 .len 20 18 1,oF 22 (.aj 232) [] 18 0,ow 23 (.fld 0) 3 18 1,ow 24 (.load false 1) 23 18 1,oF 25 pU [.t 24,kI 1] 18 0,obF 26 (.Nr true 2 12) 22 25 18 0,ow 27 (.OT false 1 1) 26 18 0,obF 28 pQ 21 27 18 0,pt 29 18 28] 0 [2,3,29] []) (cd 29 (sr [mk 4 (.c (.slice true [])),mi 5 2] 0 [4,5] .ret) .skip)) (sr [lo 30 2,oa 31 (.build [.nilPtr,.nilPtr] [(1,1)]) 30,al 6 0 [.nilPtr,.nilPtr],sk 2 6 31 0] 1 [2,3,6] (sw (sr [ob 32 (.mkF (.func 233) 0) 2 6,oa 33 (.call 220) 32,mv 7 33] 0 [3,6,7] (sr [mv 34 7,oi 35 pQ 34 0] 0 [3,6,7,35] (cd 35 (sr [mv 36 7,mk 4 (.c (.slice true [])),mv 5 36] 0 [4,5] .ret) .skip))) (sr [on 37 (.build [.nilFunc,.nilFunc,.nilFunc,.nilFunc,.nilFunc,.nilFunc,.nilFunc,.nilFunc,.nilFunc,.nilFunc,.nilFunc,.nilFunc] [(0,1),(1,1),(2,1),(3,1),(4,1),(5,1),(6,1),(7,1),(8,1),(9,1),(10,1),(11,1)]) [.c (.func (.func 234) [] []),.c (.func (.func 235) [] []),.c (.func (.func 236) [] []),.c (.func (.func 237) [] []),.c (.func (.func 238) [] []),.c (.func (.func 239) [] []),.c (.func (.func 240) [] []),.c (.func (.func 241) [] []),.c (.func (.func 242) [] []),.c (.func (.func 243) [] []),.c (.func (.func 244) [] []),.c (.func (.func 245) [] [])],al 8 0 [.nilFunc,.nilFunc,.nilFunc,.nilFunc,.nilFunc,.nilFunc,.nilFunc,.nilFunc,.nilFunc,.nilFunc,.nilFunc,.nilFunc],sk 12 8 37 0] 1 [3,6,8] (sw (r1 [fu 39 0 3 1,lv 40 39,oi 41 pU 40 1,ob 42 (.FP 1 12) 8 41,ou 43 (.load false 1) 42 2,ou 44 (.load true 2) 6 2,fu 45 1 3 1,lv 46 45,on 47 .gJ [.t 43,.t 44,.t 46],mv 38 47,xa 48 0 38,xa 49 1 38,mv 9 48,mv 10 49] 0 [9,10] []) (sw (sr [mv 50 10,oi 51 pQ 50 0] 0 [9,10,51] (cd 51 (sr [mv 52 10,mk 4 (.c (.slice true [])),mv 5 52] 0 [4,5] .ret) .skip)) (sr [mv 53 9,mv 4 53,mi 5 0] 0 [4,5] .ret)))))))))
def uT:aA:=(sr [mk 2 (.c (.str ⟨#[]⟩))] 0 [0] (sr [ag 3 1] 0 [0,3] (sw (sr [mv 6 0,oa 7 .len 6,mi 8 0] 0 [3,6,7,8] (.block 0 (.loop (sr [ob 9 pL 8 7] 0 [3,6,7,8,9] (sw (cx 9 0) (sw (.block 1 (sr [ix 10 1 6 8,lo 11 10,mv 5 11] 0 [3,5,6,7,8] (rg [mv 12 3,mv 13 5,oa 14 (.aj 155) 13,oa 15 (.dA 1 [.str ⟨#[]⟩] [0]) 14,ob 16 (.app 1 false) 12 15,mv 3 16] 0 [3,6,7,8]))) (rg [oi 17 pA 8 1,mv 8 17] 0 [3,6,7,8]))))))) (sr [mv 18 3,oc 19 (.iG 246) 18 (.c (.str ⟨#[32]⟩)),mv 2 19] 0 [2] .ret))))
def qI:aA:=(sw (r0 [ba 1 0 0,mf 2 false] 1 [1] [1]) (sr [lw 3 2 1,oa 4 (.aj 213) 3,oa 5 pN 4,mv 2 5] 0 [2] .ret))
def oN:aA:=(sw (r0 [ba 1 0 0,mf 2 false] 1 [1] [1]) (sr [fa 3 0 1,lo 4 3,on 5 (.aj 207) [.t 4,kI 0,kI 50000],mv 6 5,ov 7 (.fld 1) 1 6 0,ov 8 (.load false 1) 7 6 0,ot 9 (.aj 207) [.t 8,kI 1,kI 50000] 6 0,pf 10 6 9,mv 2 10] 0 [2] .ret))
def sW:aA:=(sw (r0 [on 5 (.aj 222) [],al 2 0 [.str ⟨#[]⟩,z0,.str ⟨#[]⟩,z0,.str ⟨#[]⟩,z0,.str ⟨#[]⟩,z0,.str ⟨#[]⟩,z0,.str ⟨#[]⟩,z0],sk 12 2 5 0] 1 [0,1,2] [2]) (sw (r1 [lv 7 0,ou 8 (.O7 true 2 6) 2 1,ob 9 (.call 223) 7 8,mv 6 9,xa 10 0 6,xa 11 1 6,mv 3 10,mv 4 11] 0 [1,3,4] []) (rg [mv 12 3,on 13 pA [kI 1,.t 12],mv 14 4,ob 15 (.build [z0,zs] [(0,1),(1,1)]) 13 14,sk 2 1 15 0] 0 [])))
def wz:aA:=(sr [al 0 0 [.str ⟨#[]⟩,z0,.str ⟨#[]⟩,z0,.str ⟨#[]⟩,z0,.str ⟨#[]⟩,z0,.str ⟨#[]⟩,z0,.str ⟨#[]⟩,z0]] 1 [0] (sr [on 1 (.build [.str ⟨#[]⟩,z0] [(0,1),(1,1)]) [.c (.str ⟨#[99,117,116]⟩),kI 1],on 2 (.build [.str ⟨#[]⟩,z0] [(0,1),(1,1)]) [.c (.str ⟨#[99,104,97,110,103,101]⟩),kI 3],on 3 (.build [.str ⟨#[]⟩,z0] [(0,1),(1,1)]) [.c (.str ⟨#[111,114,100,101,114]⟩),kI 3],on 4 (.build [.str ⟨#[]⟩,z0] [(0,1),(1,1)]) [.c (.str ⟨#[115,101,114,118,101]⟩),kI 2],on 5 (.build [.str ⟨#[]⟩,z0] [(0,1),(1,1)]) [.c (.str ⟨#[115,101,116]⟩),kI 1],on 6 (.build [.str ⟨#[]⟩,z0] [(0,1),(1,1)]) [.c (.str ⟨#[115,116,114,105,107,101]⟩),kI 1],on 7 (.build [.str ⟨#[]⟩,z0,.str ⟨#[]⟩,z0,.str ⟨#[]⟩,z0,.str ⟨#[]⟩,z0,.str ⟨#[]⟩,z0,.str ⟨#[]⟩,z0] [(0,2),(2,2),(4,2),(6,2),(8,2),(10,2)]) [.t 1,.t 2,.t 3,.t 4,.t 5,.t 6],sk 12 0 7 0] 0 [0] .ret))
def yu:aA:=(sr [mi 4 0,ag 5 1] 0 [0,1] (sr [mv 14 0,oc 15 (.aj 276) 14 (.c (.str ⟨#[32]⟩)),mv 6 15] 0 [0,1,6] (sr [mv 16 1,mv 17 6,oi 18 (.bU 1) 17 0,lo 19 18,mv 20 6,oa 21 .len 20,oi 22 pU 21 1,ob 23 (.build [.str ⟨#[]⟩,z0] [(0,1),(1,1)]) 19 22,ob 24 (.aj 277) 16 23,mv 7 24] 0 [0,6,7] (sr [mv 25 7,oi 26 (.bin .geq) 25 0,mv 27 0,ob 28 (.call 278) 26 27] 0 [0,6,7] (sr [ag 8 1] 0 [0,6,7,8] (sw (sr [mv 29 6,oi 30 (.EC 1 true false false) 29 1,oa 31 .len 30,mi 32 0] 0 [0,7,8,30,31,32] (.block 0 (.loop (sr [ob 33 pL 32 31] 0 [0,7,8,30,31,32,33] (sw (cx 33 0) (sw (.block 1 (sr [ix 34 1 30 32,lo 35 34,mv 10 35] 0 [0,7,8,10,30,31,32] (sr [mi 11 0] 0 [0,7,8,10,11,30,31,32] (sw (sr [mv 36 10,oa 37 (.rngS 0) 36] 1 [0,7,8,10,11,30,31,32,37] (.block 2 (.loop (sr [oa 38 .Vh 37,xa 39 0 38] 0 [0,7,8,10,11,30,31,32,37,38,39] (sw (cx 39 2) (.block 3 (sr [xa 40 2 38,mv 13 40] 0 [0,7,8,10,11,13,30,31,32,37] (sr [mv 41 13,oc 42 (.bin .geq) 41 (.c (.int .i32 48)),mv 43 42,ov 44 .mov 13 43 0,ot 45 (.bin .leq) [.t 44,.c (.int .i32 57)] 43 0,pf 46 43 45,mv 47 46,ov 48 .mov 10 47 0,ov 49 .Dj 48 47 0,ot 50 (.bin .leq) [.t 49,kI 4] 47 0,pf 51 47 50,mv 52 0,ob 53 (.call 278) 51 52] 0 [0,7,8,10,11,13,30,31,32,37] (rg [mv 54 11,on 55 pM [kI 10,.t 54],mv 56 13,oc 57 pU 56 (.c (.int .i32 48)),oa 58 (.conv .i64) 57,ob 59 pA 55 58,mv 11 59] 0 [0,7,8,10,11,30,31,32,37]))))))))) (sr [mv 60 10,oc 61 pQ 60 (.c (.str ⟨#[]⟩)),mv 62 61,ov 63 .mov 11 62 0,ov 64 (.aj 155) 63 62 0,ov 65 .mov 10 62 0,obT 66 pE 64 65 62 0,pf 67 62 66,mv 68 0,ob 69 (.call 278) 67 68] 0 [0,7,8,11,30,31,32] (rg [mv 70 8,mv 71 11,oa 72 (.dA 1 [z0] [0]) 71,ob 73 (.app 1 false) 70 72,mv 8 73] 0 [0,7,8,30,31,32])))))) (rg [oi 74 pA 32 1,mv 32 74] 0 [0,7,8,30,31,32]))))))) (sr [mv 75 7,mv 76 8,mv 4 75,mv 5 76] 0 [4,5] .ret)))))))
def nP:aA:=(sr [mf 2 false] 0 [0] (sr [mv 3 0,oc 4 (.vM true) 3 (.c (.nilPtr)),mv 5 4,ov 6 .mov 0 5 0,ov 7 .bf 6 5 0,ov 8 (.fld 0) 7 5 0,ov 9 (.load false 1) 8 5 0,ot 10 (.vM true) [.t 9,.c (.nilPtr)] 5 0,pf 11 5 10,mv 2 11] 0 [2] .ret))
def ru:aA:=(sw (r0 [ba 1 0 0,mf 2 false] 1 [1] [1]) (sw (sw (r1 [fu 3 0 1 1,lv 4 3,on 5 (.aj 207) [.t 4,kI 1,kI 6],oa 6 pN 5,mv 7 6,ow 8 (.fld 1) 1 7 1,ow 9 (.load false 1) 8 7 1,ow 10 .len 9 7 1,oF 11 (.aj 222) [] 7 0,ow 12 (.fld 0) 1 7 1,ow 13 (.load false 1) 12 7 1,oF 14 pU [.t 13,kI 1] 7 0,obF 15 (.Nr true 2 6) 11 14 7 0,ow 16 (.OT false 1 1) 15 7 0,obF 17 pQ 10 16 7 0,pt 18 7 17] 0 [1,18] []) (cd 18 (sr [mf 2 false] 0 [2] .ret) .skip)) (sr [fa 19 1 1,lo 20 19,oc 21 (.aj 127) 20 (.c (.func (.func 279) [] [])),oa 22 pN 21,mv 2 22] 0 [2] .ret)))
def uS:aA:=(sw (r0 [ba 1 0 0,mk 2 (.c (.nilIface))] 1 [1] [1]) (sr [fa 4 1 1,lo 5 4,mv 3 5] 0 [1,3] (sw (sr [fa 6 0 1,lo 7 6] 0 [3,7] (.block 0 (sr [oi 9 pE 7 1,mv 8 9] 0 [3,7,8] (cd 8 (sr [mv 10 3,oi 11 (.bU 1) 10 0,lo 12 11,oa 13 (.build [z0] [(0,1)]) 12,oa 14 (.mkI T.eG) 13,mv 2 14] 0 [2] .ret) (sr [oi 16 pE 7 2,mv 15 16] 0 [3,7,15] (cd 15 (sw (r1 [mv 17 3,of 18 (.bU 1) [.t 17,kI 0] 1,lv 19 18,mv 20 3,of 21 (.bU 1) [.t 20,kI 1] 1,lv 22 21,mv 23 3,of 24 (.bU 1) [.t 23,kI 2] 1,lv 25 24,ob 26 (.build [z0,z0] [(0,1),(1,1)]) 22 25,ob 27 (.build [z0,z0,z0] [(0,1),(1,2)]) 19 26,oa 28 (.build [z0,z0,z0] [(0,3)]) 27,ou 29 (.mkI T.bI) 28 1,mv 2 29] 0 [2] []) .ret) (sr [oi 31 pE 7 3,mv 30 31] 0 [3,7,30] (cd 30 (sw (r1 [mv 32 3,of 33 (.bU 1) [.t 32,kI 0] 1,lv 34 33,mv 35 3,of 36 (.bU 1) [.t 35,kI 1] 1,lv 37 36,mv 38 3,of 39 (.bU 1) [.t 38,kI 2] 1,lv 40 39,ob 41 (.build [z0,z0] [(0,1),(1,1)]) 37 40,ob 42 (.build [z0,z0,z0] [(0,1),(1,2)]) 34 41,ou 43 (.mkI T.dQ) 42 1,mv 2 43] 0 [2] []) .ret) (sr [oi 45 pE 7 4,mv 44 45] 0 [3,7,44] (cd 44 (sw (r1 [mv 46 3,of 47 (.bU 1) [.t 46,kI 0] 1,lv 48 47,mv 49 3,of 50 (.bU 1) [.t 49,kI 1] 1,lv 51 50,ob 52 (.build [z0,z0] [(0,1),(1,1)]) 48 51,ou 53 (.mkI T.dF) 52 1,mv 2 53] 0 [2] []) .ret) (sr [oi 55 pE 7 5,mv 54 55] 0 [3,54] (cd 54 (sr [mv 56 3,oi 57 (.bU 1) 56 0,lo 58 57,oa 59 (.build [z0] [(0,1)]) 58,oa 60 (.mkI T.eH) 59,mv 2 60] 0 [2] .ret) .skip)))))))))))) (sr [mv 61 3,oi 62 (.bU 1) 61 0,lo 63 62,oa 64 (.build [z0] [(0,1)]) 63,oa 65 (.mkI T.bD) 64,mv 2 65] 0 [2] .ret))))
def jq:aA:=(sw (r0 [lo 5 0,oa 6 (.tas T.bD (.agg [z0])) 5,mv 4 6,xa 7 0 4,xa 8 1 4,al 2 0 [z0],sk 1 2 7 0,mv 3 8] 1 [0,1,2,3] [2]) (sw (sr [mv 9 3,oa 10 pN 9] 0 [0,1,2,10] (cd 10 (sw (r1 [ou 11 (.load false 1) 1 2,on 12 (.Cb false 1 228) [.t 0,.t 11,kI (-1)],lo 13 0,ob 14 (.call 229) 12 13] 0 [] []) .ret) .skip)) (sw (sw (r1 [ou 15 (.load false 1) 1 2,oa 16 .bf 15,fu 17 3 16 2,ou 18 (.load false 1) 17 2,fu 19 0 2 1,lv 20 19,ix 21 1 18 20,ou 22 (.load false 1) 21 3] 0 [0,1,2,22] []) (cd 22 (rg [lo 23 0,oa 24 (.build [.nilIface] [(0,1)]) 23,oa 25 (.mkI T.ig) 24,os .panic [.t 25] 0] 0 [1,2]) .skip)) (rg [lo 26 1,fa 27 0 2,lo 28 27,ob 29 (.call 228) 26 28] 0 []))))
def oJ:aA:=(sw (r0 [ba 3 0 1,mk 4 (.c (.nilPtr))] 1 [0,3,4] [3]) (sw (r1 [mv 8 0,oa 9 .bf 8,fu 10 0 9 2,ou 11 (.load false 1) 10 2,oa 12 .bf 11,ou 13 (.load true 17) 12 1,ou 14 (.nZ 148) 13 1,mv 15 0,oa 16 .bf 15,fu 17 1 16 2,ou 18 (.load false 1) 17 2,on 19 (.mkMap 0) [],on 20 (.build [zs,zs,zs,z0,z0,zs,z0,zs,z0,z0,z0,zs,z0,z0,z0,z0,z0,zs,zs,.map none,z0,zs] [(0,17),(17,1),(19,1)]) [.t 14,.t 18,.t 19],ba 21 1 20,al 5 2 [.nilPtr],sk 1 5 21 6] 3 [0,3,4,5] []) (sw (sr [mv 22 0,oa 23 (.mkF (.func 280) 1) 22] 0 [3,4,5,23] (.block 0 (.rM (.t 23) [24,25] [3,5] (sr [mv 6 24] 0 [3,5,6,25] (rg [mv 7 25] 0 [3,5,6,7])) (.block 1 (sr [mv 26 6,lo 27 3,ob 28 pQ 26 27] 0 [5,7,28] (cd 28 (rg [lo 29 5,mv 30 7,ob 31 (.call 229) 29 30] 0 []) .skip)))))) (sr [lo 32 5,mv 4 32] 0 [4] .ret))))
def aW:aA:=(sw (r0 [ba 3 0 1] 1 [0,3] [3]) (sr [oa 26 (.mkF (.func 281) 0) 3,mv 4 26] 0 [0,3,4] (sr [lo 27 3] 0 [0,4,27] (.block 0 (sr [oa 28 (.tas T.eG (.agg [z0])) 27,xa 29 1 28,xa 30 0 28] 0 [0,4,27,29,30] (cd 29 (sw (r0 [al 5 0 [z0],sk 1 5 30 0] 1 [0,4,5] [5]) (sw (r1 [mv 32 0,oa 33 .bf 32,fu 34 0 33 2,fu 35 4 34 2,ou 36 (.load true 2) 35 2,fu 37 0 5 1,lv 38 37,ob 39 (.iG 260) 36 38,mv 31 39,xa 40 0 31,xa 41 1 31,al 6 0 [z0,z0,z0],sk 3 6 40 4,mv 7 41] 1 [0,4,5,7] []) (sr [mv 42 4,mv 43 7,oi 44 pE 43 0,mv 45 44,ov 46 .mov 0 45 0,ov 47 .bf 46 45 0,ov 48 (.fld 18) 47 45 0,ov 49 (.load false 1) 48 45 0,ov 50 .len 49 45 0,ot 51 pL [.t 50,kI 8] 45 0,pf 52 45 51,ob 53 .gJ 42 52] 0 [0,5] (r1 [mv 54 0,mv 55 0,oa 56 .bf 55,fu 57 18 56 2,ou 58 (.load false 1) 57 2,fu 59 0 5 1,lv 60 59,ou 61 (.dA 1 [z0] [0]) 60 1,ob 62 (.app 1 true) 58 61,oa 63 .bf 54,fu 64 18 63 2,sk 1 64 62 0] 0 [] [])))) (sr [oa 65 (.tas T.bI (.agg [z0,z0,z0])) 27,xa 66 1 65,xa 67 0 65] 0 [0,4,27,66,67] (cd 66 (sw (r0 [al 8 0 [z0,z0,z0],sk 3 8 67 0] 1 [0,4,8] [8]) (sw (r1 [mv 69 0,oa 70 .bf 69,fu 71 0 70 2,fu 72 0 71 2,ou 73 (.load true 2) 72 2,fu 74 0 8 1,ou 75 (.load true 3) 74 1,ob 76 (.Hy 282) 73 75,mv 68 76,xa 77 0 68,xa 78 1 68,mv 9 77,mv 10 78] 0 [0,4,8,9,10] []) (sr [mv 79 4,mv 80 10,oi 81 pE 80 0,ob 82 .gJ 79 81] 0 [0,4,8,9] (sw (sr [mv 83 9,oa 84 .len 83,mi 85 0] 0 [0,4,8,83,84,85] (.block 1 (.loop (sr [ob 86 pL 85 84] 0 [0,4,8,83,84,85,86] (sw (cx 86 1) (sw (.block 2 (sr [ix 87 1 83 85,lo 88 87,mv 12 88] 0 [0,4,8,12,83,84,85] (sr [mv 90 0,oa 91 .bf 90,fa 92 19 91,lo 93 92,mv 94 12,ob 95 (.FD true [] (.agg [z0,z0])) 93 94,mv 89 95,xa 96 0 89,xa 97 1 89,al 13 0 [z0,z0],sk 2 13 96 0,mv 14 97] 1 [0,4,8,14,83,84,85] (rg [mv 98 4,mv 99 14,ob 100 .gJ 98 99] 0 [0,4,8,83,84,85])))) (rg [oi 101 pA 85 1,mv 85 101] 0 [0,4,8,83,84,85]))))))) (sw (r1 [mv 102 0,oa 103 .bf 102,fu 104 0 103 2,fu 105 0 104 2,fu 106 0 105 2,ou 107 (.load false 1) 106 2,fu 108 0 8 1,fu 109 0 108 1,lv 110 109,ix 111 3 107 110,fu 112 1 111 3,ou 113 (.load true 2) 112 3,al 15 0 [z0,z0],sk 2 15 113 4] 1 [0,4,8,15] [15]) (sr [ag 16 1] 0 [0,4,8,15,16] (sw (sr [fa 114 0 15,lo 115 114,fa 116 0 8,fa 117 1 116,fa 118 0 117,lo 119 118,ob 120 pQ 115 119] 0 [0,4,8,15,16,120] (cd 120 (sr [mv 121 0,fa 122 0 8,fa 123 1 122,fa 124 0 123,lo 125 124,ob 126 (.call 283) 121 125,mv 17 126] 0 [0,4,8,15,16,17] (sr [mv 127 4,mv 128 17,ob 129 .gJ 127 128] 0 [0,4,8,15,16] (rg [mv 130 16,fa 131 0 15,lo 132 131,oa 133 (.dA 1 [z0] [0]) 132,ob 134 (.app 1 false) 130 133,mv 16 134] 0 [0,4,8,15,16]))) .skip)) (sw (sr [fa 135 1 15,lo 136 135,fa 137 0 8,fa 138 1 137,fa 139 1 138,lo 140 139,ob 141 pQ 136 140] 0 [0,4,8,15,16,141] (cd 141 (sr [mv 142 0,fa 143 0 8,fa 144 1 143,fa 145 1 144,lo 146 145,ob 147 (.call 283) 142 146,mv 18 147] 0 [0,4,8,15,16,18] (sr [mv 148 4,mv 149 18,ob 150 .gJ 148 149] 0 [0,8,15,16] (rg [mv 151 16,fa 152 1 15,lo 153 152,oa 154 (.dA 1 [z0] [0]) 153,ob 155 (.app 1 false) 151 154,mv 16 155] 0 [0,8,16]))) .skip)) (sr [mv 156 0,mv 157 0,oa 158 .bf 157,fa 159 18 158,lo 160 159,mv 161 16,ob 162 (.app 1 false) 160 161,oa 163 .bf 156,fa 164 18 163,sk 1 164 162 0] 0 [0,8] (r1 [mv 165 0,oa 166 .bf 165,fu 167 0 166 2,fu 168 0 167 2,fu 169 0 168 2,ou 170 (.load false 1) 169 2,fu 171 0 8 1,fu 172 0 171 1,lv 173 172,fu 174 0 8 1,fu 175 1 174 1,ou 176 (.load true 2) 175 1,ix 177 3 170 173,fu 178 1 177 3,sk 2 178 176 3] 0 [] [])))))))))) (sr [oa 179 (.tas T.dQ (.agg [z0,z0,z0])) 27,xa 180 1 179,xa 181 0 179] 0 [0,4,27,180,181] (cd 180 (sw (r0 [al 19 0 [z0,z0,z0],sk 3 19 181 0] 1 [0,4,19] [19]) (sw (r1 [mv 183 0,oa 184 .bf 183,fu 185 19 184 2,ou 186 (.load false 1) 185 2,fu 187 0 19 1,lv 188 187,ob 189 (.FD true [] (.agg [z0,z0])) 186 188,mv 182 189,xa 190 0 182,xa 191 1 182,al 20 0 [z0,z0],sk 2 20 190 4,mv 21 191] 1 [0,4,19,21] []) (sr [mv 192 4,mv 193 21,oa 194 pN 193,ob 195 .gJ 192 194] 0 [0,19] (r1 [mv 196 0,oa 197 .bf 196,fu 198 19 197 2,ou 199 (.load false 1) 198 2,fu 200 0 19 1,lv 201 200,fu 202 1 19 1,ou 203 (.load true 2) 202 1,os (.Yd []) [.t 199,.t 201,.t 203] 0] 0 [] [])))) (sr [oa 204 (.tas T.dF (.agg [z0,z0])) 27,xa 205 1 204,xa 206 0 204] 0 [0,4,27,205,206] (cd 205 (sw (r0 [al 22 0 [z0,z0],sk 2 22 206 0] 1 [0,4,22] [22]) (sw (r1 [mv 208 0,oa 209 .bf 208,fu 210 19 209 2,ou 211 (.load false 1) 210 2,fu 212 0 22 1,lv 213 212,ob 214 (.FD true [] (.agg [z0,z0])) 211 213,mv 207 214,xa 215 0 207,xa 216 1 207,al 23 0 [z0,z0],sk 2 23 215 4,mv 24 216] 1 [0,4,22,23,24] [23]) (sw (r1 [mv 217 4,mv 218 24,mv 219 218,ov 220 .mov 0 219 0,ov 221 (.fld 0) 22 219 1,ov 222 (.load false 1) 221 219 1,ov 223 (.load true 2) 23 219 1,ot 224 (.iG 284) [.t 220,.t 222,.t 223,kI 100] 219 0,pf 225 219 224,mv 226 225,ov 227 (.fld 1) 22 226 1,ov 228 (.load false 1) 227 226 1,ov 229 .mov 0 226 0,ov 230 (.fld 0) 22 226 1,ov 231 (.load false 1) 230 226 1,obT 232 (.iG 285) 229 231 226 0,obT 233 (.bin .geq) 228 232 226 0,pf 234 226 233,ob 235 .gJ 217 234] 0 [0,22,23] []) (sw (r1 [mv 236 0,oa 237 .bf 236,fu 238 19 237 2,ou 239 (.load false 1) 238 2,fu 240 0 22 1,lv 241 240,os (.Yb []) [.t 239,.t 241] 0] 0 [0,22,23] []) (sw (r1 [mv 242 0,oa 243 .bf 242,fu 244 0 243 2,fu 245 2 244 2,ou 246 (.load false 1) 245 2,fu 247 0 22 1,lv 248 247,ou 249 (.load true 2) 23 1,ix 250 2 246 248,sk 2 250 249 0] 0 [0,22] []) (r1 [mv 251 0,oa 252 .bf 251,fu 253 20 252 2,ou 254 (.load false 1) 253 2,fu 255 1 22 1,lv 256 255,ob 257 pA 254 256,oa 258 .bf 251,fu 259 20 258 2,sk 1 259 257 0] 0 [] [])))))) (sr [oa 260 (.tas T.eH (.agg [z0])) 27,xa 261 1 260,xa 262 0 260] 0 [0,4,261,262] (cd 261 (sw (r0 [al 25 0 [z0],sk 1 25 262 0] 1 [0,4,25] [25]) (sw (r1 [mv 263 4,mv 264 0,oa 265 .bf 264,fu 266 17 265 2,ou 267 (.load false 1) 266 2,fu 268 0 25 1,lv 269 268,oi 270 pU 269 1,ob1 271 (.bU 2) 267 270 1,fu 272 1 271 1,lv 273 272,mv 274 273,ov 275 .mov 0 274 0,ov 276 .bf 275 274 0,ov 277 (.fld 21) 276 274 2,ov 278 (.load false 1) 277 274 2,ov 279 .len 278 274 0,ot 280 pE [.t 279,kI 0] 274 0,ov 281 .mov 280 274 0,ow 282 (.fld 0) 25 281 1,ow 283 (.load false 1) 282 281 1,ow 284 .mov 0 281 0,ow 285 .bf 284 281 0,ow 286 (.fld 21) 285 281 2,ow 287 (.load false 1) 286 281 2,ow 288 .mov 0 281 0,ow 289 .bf 288 281 0,ow 290 (.fld 21) 289 281 2,ow 291 (.load false 1) 290 281 2,ow 292 .len 291 281 0,oF 293 pU [.t 292,kI 1] 281 0,obF 294 (.bU 1) 287 293 281 0,ow 295 (.load false 1) 294 281 3,obF 296 pG 283 295 281 0,ot 297 .pick [.t 281,.c (.bool true),.t 296] 274 0,pf 298 274 297,ob 299 .gJ 263 298] 0 [0,25] []) (r1 [mv 300 0,mv 301 0,oa 302 .bf 301,fu 303 21 302 2,ou 304 (.load false 1) 303 2,fu 305 0 25 1,lv 306 305,ou 307 (.dA 1 [z0] [0]) 306 1,ob 308 (.app 1 false) 304 307,oa 309 .bf 300,fu 310 21 309 2,sk 1 310 308 0] 0 [] []))) .skip))))))))))))))
def oP:aA:=(sw (r0 [on 5 (.aj 232) [],al 2 0 [.str ⟨#[]⟩,z0,.str ⟨#[]⟩,z0,.str ⟨#[]⟩,z0,.str ⟨#[]⟩,z0,.str ⟨#[]⟩,z0,.str ⟨#[]⟩,z0,.str ⟨#[]⟩,z0,.str ⟨#[]⟩,z0,.str ⟨#[]⟩,z0,.str ⟨#[]⟩,z0,.str ⟨#[]⟩,z0,.str ⟨#[]⟩,z0],sk 24 2 5 0] 1 [0,1,2] [2]) (sw (r1 [lv 7 0,ou 8 (.O7 true 2 12) 2 1,ob 9 (.call 223) 7 8,mv 6 9,xa 10 0 6,xa 11 1 6,mv 3 10,mv 4 11] 0 [1,3,4] []) (rg [mv 12 3,on 13 pA [kI 1,.t 12],mv 14 4,ob 15 (.build [z0,zs] [(0,1),(1,1)]) 13 14,sk 2 1 15 0] 0 [])))
def yt:aA:=(sr [al 0 0 [.str ⟨#[]⟩,z0,.str ⟨#[]⟩,z0,.str ⟨#[]⟩,z0,.str ⟨#[]⟩,z0,.str ⟨#[]⟩,z0,.str ⟨#[]⟩,z0,.str ⟨#[]⟩,z0,.str ⟨#[]⟩,z0,.str ⟨#[]⟩,z0,.str ⟨#[]⟩,z0,.str ⟨#[]⟩,z0,.str ⟨#[]⟩,z0]] 1 [0] (sr [on 1 (.build [.str ⟨#[]⟩,z0] [(0,1),(1,1)]) [.c (.str ⟨#[104,97,110,100,115]⟩),kI 0],on 2 (.build [.str ⟨#[]⟩,z0] [(0,1),(1,1)]) [.c (.str ⟨#[115,116,111,99,107]⟩),kI 0],on 3 (.build [.str ⟨#[]⟩,z0] [(0,1),(1,1)]) [.c (.str ⟨#[111,112,101,110]⟩),kI 0],on 4 (.build [.str ⟨#[]⟩,z0] [(0,1),(1,1)]) [.c (.str ⟨#[112,114,105,99,101]⟩),kI 1],on 5 (.build [.str ⟨#[]⟩,z0] [(0,1),(1,1)]) [.c (.str ⟨#[110,101,101,100]⟩),kI 3],on 6 (.build [.str ⟨#[]⟩,z0] [(0,1),(1,1)]) [.c (.str ⟨#[111,102,102]⟩),kI 2],on 7 (.build [.str ⟨#[]⟩,z0] [(0,1),(1,1)]) [.c (.str ⟨#[119,114,111,110,103]⟩),kI 0],on 8 (.build [.str ⟨#[]⟩,z0] [(0,1),(1,1)]) [.c (.str ⟨#[119,111,114,107,115]⟩),kI 1],on 9 (.build [.str ⟨#[]⟩,z0] [(0,1),(1,1)]) [.c (.str ⟨#[100,97,116,101]⟩),kI 1],on 10 (.build [.str ⟨#[]⟩,z0] [(0,1),(1,1)]) [.c (.str ⟨#[99,117,116,115]⟩),kI 1],on 11 (.build [.str ⟨#[]⟩,z0] [(0,1),(1,1)]) [.c (.str ⟨#[99,111,105,110,115]⟩),kI 0],on 12 (.build [.str ⟨#[]⟩,z0] [(0,1),(1,1)]) [.c (.str ⟨#[115,116,97,110,100,115]⟩),kI 0],on 13 (.build [.str ⟨#[]⟩,z0,.str ⟨#[]⟩,z0,.str ⟨#[]⟩,z0,.str ⟨#[]⟩,z0,.str ⟨#[]⟩,z0,.str ⟨#[]⟩,z0,.str ⟨#[]⟩,z0,.str ⟨#[]⟩,z0,.str ⟨#[]⟩,z0,.str ⟨#[]⟩,z0,.str ⟨#[]⟩,z0,.str ⟨#[]⟩,z0] [(0,2),(2,2),(4,2),(6,2),(8,2),(10,2),(12,2),(14,2),(16,2),(18,2),(20,2),(22,2)]) [.t 1,.t 2,.t 3,.t 4,.t 5,.t 6,.t 7,.t 8,.t 9,.t 10,.t 11,.t 12],sk 24 0 13 0] 0 [0] .ret))
def oG:aA:=(rg [lo 2 0,oi 3 (.call 228) 2 (-1),fa 4 0 1,sk 1 4 3 0] 0 [])
def nR:aA:=(sw (r0 [ba 2 0 0,ag 4 1,mi 5 0] 1 [2] [2]) (sr [fa 13 0 2,lo 14 13,oa 15 .bf 14,fa 16 0 15,fa 17 0 16,lw 18 2 17,oa 19 (.aj 287) 18,mv 12 19,xa 20 0 12,xa 21 1 12,xa 22 2 12,mv 6 20,mv 7 21,mv 8 22] 0 [2,6,8] (sr [ag 9 1] 0 [2,6,8,9] (sw (sr [fa 23 0 2,lo 24 23,oa 25 .bf 24,fa 26 0 25,fa 27 0 26,fa 28 1 27,lo 29 28,oa 30 .len 29,mi 31 0] 0 [6,8,9,29,30,31] (.block 0 (.loop (sr [ob 32 pL 31 30] 0 [6,8,9,29,30,31,32] (sw (cx 32 0) (sw (.block 1 (sr [ix 33 1 29 31,lo 34 33,mv 11 34] 0 [6,8,9,11,29,30,31] (r1 [mv 35 9,mv 36 6,mv 37 11,ob1 38 (.bU 2) 36 37 1,fu 39 0 38 1,lv 40 39,mv 41 6,mv 42 11,ob1 43 (.bU 2) 41 42 1,fu 44 1 43 1,lv 45 44,ob1 46 (.dA 1 [z0,z0] [0,1]) 40 45 1,ob 47 (.app 1 true) 35 46,mv 9 47] 0 [6,8,9,29,30,31] []))) (rg [oi 48 pA 31 1,mv 31 48] 0 [6,8,9,29,30,31]))))))) (sr [mv 49 9,mv 50 8,mv 4 49,mv 5 50] 0 [4,5] .ret)))))
def gq:aA:=(sw (r0 [ba 2 0 0,mk 4 (.c (.slice true [])),mi 5 0] 1 [2] [2]) (sr [fa 6 0 2,lo 7 6,oa 8 .bf 7,fa 9 18 8,lo 10 9,oa 11 (.aj 289) 10,oa 12 (.nZ 288) 11,mv 4 12,mi 5 0] 0 [4,5] .ret))
def mW:aA:=(sw (r0 [ba 2 0 0,ag 4 1,mi 5 0] 1 [2] [2]) (sr [ag 6 1] 0 [2,6] (sw (sr [fa 10 0 2,lo 11 10,oa 12 .bf 11,fa 13 0 12,fa 14 0 13,fa 15 1 14,lo 16 15,oa 17 .len 16,mi 18 0] 0 [2,6,17,18] (.block 0 (.loop (sr [ob 19 pL 18 17] 0 [2,6,17,18,19] (sw (cx 19 0) (sw (.block 1 (sr [mv 20 18,mv 7 20] 0 [2,6,7,17,18] (sw (r0 [fa 22 0 2,lo 23 22,oa 24 .bf 23,fa 25 19 24,lo 26 25,mv 27 7,ob 28 (.FD true [] (.agg [z0,z0])) 26 27,mv 21 28,xa 29 0 21,xa 30 1 21,al 8 0 [z0,z0],sk 2 8 29 0,mv 9 30] 1 [2,6,7,8,9,17,18] [8]) (sr [mv 31 9] 0 [2,6,7,8,17,18,31] (cd 31 (rg [mv 32 6,mv 33 7,fa 34 0 8,lo 35 34,fa 36 1 8,lo 37 36,on 38 (.dA 1 [z0,z0,z0] [0,1,2]) [.t 33,.t 35,.t 37],ob 39 (.app 1 true) 32 38,mv 6 39] 0 [2,6,17,18]) .skip))))) (rg [oi 40 pA 18 1,mv 18 40] 0 [2,6,17,18]))))))) (sr [mv 41 6,mv 4 41,mi 5 0] 0 [4,5] .ret))))
def iC:aA:=(sw (r0 [ba 2 0 0,mk 4 (.c (.slice true [])),mi 5 0] 1 [1,2] [2]) (sw (sw (r1 [fu 6 1 2 1,lv 7 6,mv 8 1,of 9 (.bU 1) [.t 8,kI 0] 1,lv 10 9,ob 11 (.aj 290) 7 10,oa 12 pN 11] 0 [1,2,12] []) (cd 12 (sr [mk 4 (.c (.slice true [])),mi 5 2] 0 [4,5] .ret) .skip)) (sw (r1 [fu 13 0 2 1,lv 14 13,mv 15 1,of 16 (.bU 1) [.t 15,kI 0] 1,lv 17 16,ob 18 (.aj 285) 14 17,ou 19 (.lG 1 [z0] [0]) 18 1,mv 4 19,mi 5 0] 0 [4,5] []) .ret)))
def aX:aA:=(sw (r0 [ba 2 0 0,ag 4 1,mi 5 0] 1 [1,2] [2]) (sw (r1 [mv 16 1,of 17 (.bU 1) [.t 16,kI 0] 1,lv 18 17,mv 19 1,of 20 (.bU 1) [.t 19,kI 1] 1,lv 21 20,mv 22 1,of 23 (.bU 1) [.t 22,kI 2] 1,lv 24 23,mv 6 18,mv 7 21,mv 8 24] 0 [2,6,7,8] []) (sw (sr [fa 25 1 2,lo 26 25,mv 27 6,ob 28 (.aj 290) 26 27,oa 29 pN 28,mv 30 29,ow 31 .mov 7 30 0,ow 32 (.aj 291) 31 30 0,ow 33 pN 32 30 0,pt 34 30 33,mv 35 34,ow 36 .mov 8 35 0,ow 37 (.aj 291) 36 35 0,ow 38 pN 37 35 0,pt 39 35 38,mv 40 39,ow 41 .mov 8 40 0,ow 42 .mov 7 40 0,obF 43 pU 41 42 40 0,oF 44 (.aj 207) [.t 43,kI 0,kI 10] 40 0,ow 45 pN 44 40 0,pt 46 40 45] 0 [2,6,7,8,46] (cd 46 (sr [ag 4 1,mi 5 2] 0 [4,5] .ret) .skip)) (sw (r0 [fa 48 0 2,lo 49 48,oa 50 .bf 49,fa 51 19 50,lo 52 51,mv 53 6,ob 54 (.FD true [] (.agg [z0,z0])) 52 53,mv 47 54,xa 55 0 47,xa 56 1 47,al 9 0 [z0,z0],sk 2 9 55 0,mv 10 56] 1 [2,6,7,8,9,10] [9]) (sw (sr [mv 57 10,oa 58 pN 57] 0 [2,6,7,8,9,58] (cd 58 (sr [ag 4 1,mi 5 7] 0 [4,5] .ret) .skip)) (sw (r1 [fu 60 0 2 1,lv 61 60,oa 62 .bf 61,fu 63 0 62 1,fu 64 0 63 1,ou 65 (.load true 2) 64 1,mv 66 7,mv 67 8,mv 68 6,ou 69 (.load true 2) 9 1,on 70 (.aj 292) [.t 65,.t 66,.t 67,.t 68,.t 69],mv 59 70,xa 71 0 59,xa 72 1 59,mv 11 71,mv 12 72] 0 [11,12] []) (sr [ag 13 1] 0 [11,12,13] (sw (sr [mv 73 11,oa 74 .len 73,mi 75 0] 0 [12,13,73,74,75] (.block 0 (.loop (sr [ob 76 pL 75 74] 0 [12,13,73,74,75,76] (sw (cx 76 0) (sw (.block 1 (sw (r0 [ix 77 3 73 75,lw 78 3 77,al 15 0 [z0,z0,z0],sk 3 15 78 0] 1 [12,13,15,73,74,75] [15]) (rg [mv 79 13,fa 80 0 15,lo 81 80,fa 82 1 15,fa 83 0 82,lo 84 83,fa 85 1 15,fa 86 1 85,lo 87 86,on 88 (.dA 1 [z0,z0,z0] [0,1,2]) [.t 81,.t 84,.t 87],ob 89 (.app 1 true) 79 88,mv 13 89] 0 [12,13,73,74,75]))) (rg [oi 90 pA 75 1,mv 75 90] 0 [12,13,73,74,75]))))))) (sr [mv 91 13,mv 92 12,mv 4 91,mv 5 92] 0 [4,5] .ret)))))))))
def eu:aA:=(sw (r0 [ba 2 0 0,mk 4 (.c (.slice true [])),mi 5 0] 1 [1,2] [2]) (sw (sw (r1 [fu 8 1 2 1,lv 9 8,mv 10 1,of 11 (.bU 1) [.t 10,kI 0] 1,lv 12 11,ob 13 (.aj 290) 9 12,oa 14 pN 13,mv 15 14,ow 16 (.fld 1) 2 15 1,ow 17 (.load false 1) 16 15 1,ow 18 .mov 1 15 0,oF 19 (.bU 1) [.t 18,kI 1] 15 1,ow 20 (.load false 1) 19 15 1,obF 21 (.aj 293) 17 20 15 0,ow 22 pN 21 15 0,pt 23 15 22] 0 [1,2,23] []) (cd 23 (sr [mk 4 (.c (.slice true [])),mi 5 2] 0 [4,5] .ret) .skip)) (sw (r1 [fu 25 0 2 1,lv 26 25,oa 27 .bf 26,fu 28 0 27 1,fu 29 0 28 1,ou 30 (.load true 2) 29 1,mv 31 1,of 32 (.bU 1) [.t 31,kI 0] 1,lv 33 32,fu 34 0 2 1,lv 35 34,oa 36 .bf 35,fu 37 0 36 1,fu 38 2 37 1,lv 39 38,mv 40 1,of 41 (.bU 1) [.t 40,kI 0] 1,lv 42 41,ob1 43 (.bU 2) 39 42 1,ou 44 (.load true 2) 43 1,ou 45 (.load true 2) 2 1,mv 46 1,of 47 (.bU 1) [.t 46,kI 1] 1,lv 48 47,ob 49 (.aj 295) 45 48,on 50 (.aj 294) [.t 30,.t 33,.t 44,.t 49],mv 24 50,xa 51 0 24,xa 52 1 24,mv 6 51,mv 7 52] 0 [6,7] []) (sr [mv 53 6,oa 54 (.lG 1 [z0] [0]) 53,mv 55 7,mv 4 54,mv 5 55] 0 [4,5] .ret))))
def nT:aA:=(sw (r0 [ba 2 0 0,mk 4 (.c (.slice true [])),mi 5 0] 1 [2] [2]) (.scope (sr [mi 6 0] 0 [2,6] (sw (.label 0) (sw (sr [fa 10 0 2,lo 11 10,oa 12 .bf 11,fa 13 17 12,lo 14 13,oa 15 .len 14,mi 16 0] 0 [2,6,15,16] (.block 0 (.loop (sr [ob 17 pL 16 15] 0 [2,6,15,16,17] (sw (cx 17 0) (sw (.block 1 (sr [mv 18 16,mv 7 18] 0 [2,6,7,15,16] (sr [fa 19 0 2,lo 20 19,oa 21 .bf 20,fa 22 0 21,fa 23 2 22,lo 24 23,oa 25 .len 24,mi 26 0] 0 [2,6,7,15,16,24,25,26] (.block 2 (.loop (sr [ob 27 pL 26 25] 0 [2,6,7,15,16,24,25,26,27] (sw (cx 27 2) (sw (.block 3 (sw (r0 [mv 28 26,ix 29 2 24 26,lw 30 2 29,al 9 0 [z0,z0],mv 8 28,sk 2 9 30 0] 1 [2,6,7,8,9,15,16,24,25,26] [9]) (sw (r1 [fu 31 0 2 1,lv 32 31,mv 33 8,ou 34 (.load true 2) 9 1,ou 35 (.load true 2) 2 1,mv 36 7,oi 37 pA 36 1,ob 38 (.aj 295) 35 37,on 39 (.aj 284) [.t 32,.t 33,.t 34,.t 38],oa 40 pN 39] 0 [2,6,7,15,16,24,25,26,40] []) (cd 40 (sr [mv 41 6,oi 42 pA 41 1,mv 6 42] 0 [2,6,15,16] (.exit 1)) .skip)))) (rg [oi 43 pA 26 1,mv 26 43] 0 [2,6,7,15,16,24,25,26]))))))))) (rg [oi 44 pA 16 1,mv 16 44] 0 [2,6,15,16]))))))) (sr [mv 45 6,oa 46 (.lG 1 [z0] [0]) 45,mv 4 46,mi 5 0] 0 [4,5] .ret))))))
def dL:aA:=(sw (r0 [ba 2 0 0,mk 4 (.c (.slice true [])),mi 5 0] 1 [1,2] [2]) (sw (sw (r1 [fu 8 1 2 1,lv 9 8,mv 10 1,of 11 (.bU 1) [.t 10,kI 0] 1,lv 12 11,ob 13 (.aj 293) 9 12,oa 14 pN 13] 0 [1,2,14] []) (cd 14 (sr [mk 4 (.c (.slice true [])),mi 5 2] 0 [4,5] .ret) .skip)) (sw (r1 [mv 16 1,of 17 (.bU 1) [.t 16,kI 0] 1,lv 18 17,fu 19 0 2 1,lv 20 19,oa 21 .bf 20,fu 22 17 21 1,lv 23 22,ou 24 .len 23 1,oa 25 (.mkF (.func 297) 0) 2,on 26 (.aj 296) [.t 18,.t 24,.t 25],mv 15 26,xa 27 0 15,xa 28 1 15,mv 6 27,mv 7 28] 0 [6,7] []) (sw (sr [mv 29 7,oa 30 pN 29] 0 [6,30] (cd 30 (sr [mk 4 (.c (.slice true [])),mi 5 5] 0 [4,5] .ret) .skip)) (sr [mv 31 6,oa 32 (.lG 1 [z0] [0]) 31,mv 4 32,mi 5 0] 0 [4,5] .ret)))))
def iD:aA:=(sw (r0 [ba 2 0 0,mk 4 (.c (.slice true [])),mi 5 0] 1 [1,2] [2]) (sw (sw (r1 [fu 8 1 2 1,lv 9 8,mv 10 1,of 11 (.bU 1) [.t 10,kI 0] 1,lv 12 11,ob 13 (.aj 293) 9 12,oa 14 pN 13] 0 [1,2,14] []) (cd 14 (sr [mk 4 (.c (.slice true [])),mi 5 2] 0 [4,5] .ret) .skip)) (sw (r1 [fu 16 0 2 1,lv 17 16,oa 18 .bf 17,fu 19 0 18 1,fu 20 6 19 1,ou 21 (.load true 2) 20 1,fu 22 0 2 1,lv 23 22,oa 24 .bf 23,fu 25 17 24 1,lv 26 25,mv 27 1,of 28 (.bU 1) [.t 27,kI 0] 1,lv 29 28,oi 30 pU 29 1,ob1 31 (.bU 2) 26 30 1,fu 32 0 31 1,lv 33 32,ob 34 (.aj 298) 21 33,mv 15 34,xa 35 0 15,xa 36 1 15,al 6 0 [z0,z0,z0],sk 3 6 35 4,mv 7 36] 1 [6,7] [6]) (sr [fa 37 1 6,lo 38 37,fa 39 2 6,lo 40 39,ob 41 (.lG 1 [z0,z0] [0,1]) 38 40,mv 42 7,mv 4 41,mv 5 42] 0 [4,5] .ret))))
def oK:aA:=(sw (r0 [ba 2 0 0,mk 4 (.c (.slice true [])),mi 5 0] 1 [1,2] [2]) (sw (r1 [fu 9 0 2 1,lv 10 9,oa 11 .bf 10,fu 12 0 11 1,fu 13 4 12 1,ou 14 (.load true 2) 13 1,mv 15 1,of 16 (.bU 1) [.t 15,kI 0] 1,lv 17 16,ob 18 (.aj 260) 14 17,mv 8 18,xa 19 0 8,xa 20 1 8,al 6 0 [z0,z0,z0],sk 3 6 19 4,mv 7 20] 1 [6,7] [6]) (sr [fa 21 0 6,lo 22 21,fa 23 1 6,lo 24 23,fa 25 2 6,lo 26 25,on 27 (.lG 1 [z0,z0,z0] [0,1,2]) [.t 22,.t 24,.t 26],mv 28 7,mv 4 27,mv 5 28] 0 [4,5] .ret)))
def oL:aA:=(sw (r0 [ba 2 0 0,mk 4 (.c (.slice true [])),mi 5 0] 1 [2] [2]) (sr [fa 6 0 2,lo 7 6,oa 8 .bf 7,fa 9 20 8,lo 10 9,oa 11 (.lG 1 [z0] [0]) 10,mv 4 11,mi 5 0] 0 [4,5] .ret))
def fE:aA:=(sw (r0 [ba 2 0 0,mk 4 (.c (.slice true [])),mi 5 0] 1 [2,4,5] [2]) (sr [al 6 0 [zs]] 1 [2,4,5,6] (sw (sr [fa 8 1 2,lo 9 8,oa 10 (.mkF (.func 280) 1) 9] 0 [4,5,6,10] (.block 0 (.rM (.t 10) [11,12] [6] (rg [mv 7 11] 0 [6,7]) (.block 1 (rg [lo 13 6,mv 14 7,oa 15 (.dA 1 [z0] [0]) 14,ob 16 (.app 1 true) 13 15,sk 1 6 16 0] 0 []))))) (sr [lo 17 6,mv 4 17,mi 5 0] 0 [4,5] .ret))))
def pY:aA:=(sr [mv 4 0,oa 5 pN 4] 0 [1,5] (cd 5 (rg [mv 6 1,oa 7 (.build [.str ⟨#[]⟩] [(0,1)]) 6,oa 8 (.mkI T.pF) 7,os .panic [.t 8] 0] 0 []) .skip))
def oM:aA:=(sr [mf 2 false] 0 [0] (sr [mv 3 0,on 4 (.aj 207) [.t 3,kI 0,kI 9999],oa 5 pN 4,mv 2 5] 0 [2] .ret))
def gX:aA:=(sr [mv 6 0,oa 7 .bf 6,fa 8 2 7,lo 9 8,oa 10 .len 9,mi 11 0] 0 [0,1,9,10,11] (.block 0 (.loop (sr [ob 12 pL 11 10] 0 [0,1,9,10,11,12] (sw (cx 12 0) (sw (.block 1 (sw (r0 [mv 13 11,ix 14 2 9 11,lw 15 2 14,al 5 0 [z0,zs],mv 4 13,sk 2 5 15 0] 1 [0,1,4,5,9,10,11] [5]) (sr [fa 16 0 5,lo 17 16,oi 18 pQ 17 6,mv 19 18,ov 20 .mov 0 19 0,ov 21 .bf 20 19 0,ov 22 (.fld 3) 21 19 0,ov 23 (.load false 1) 22 19 0,ov 24 .mov 4 19 0,obT 25 (.bU 1) 23 24 19 0,ov 26 (.load false 1) 25 19 0,ov 27 pN 26 19 0,pf 28 19 27,mv 29 28,ov 30 .mov 1 29 0,ov 31 .mov 4 29 0,ov 32 (.load true 2) 5 29 0,ov 33 (.aj 226) 32 29 0,ot 34 .gJ [.t 30,.t 31,.t 33] 29 0,ov 35 pN 34 29 0,pf 36 29 35] 0 [0,1,9,10,11,36] (cd 36 .ret .skip)))) (rg [oi 37 pA 11 1,mv 11 37] 0 [0,1,9,10,11])))))))
def iE:aA:=(sr [mv 3 0,oa 4 pN 3] 0 [1,4] (cd 4 (rg [lo 5 1,oa 6 (.build [.nilIface] [(0,1)]) 5,oa 7 (.mkI T.ig) 6,os .panic [.t 7] 0] 0 []) .skip))
def oV:aA:=(sr [mf 4 false] 0 [0,1] (sr [mv 6 0,oa 7 .bf 6,fa 8 18 7,lo 9 8,mv 10 1,ob 11 (.iG 196) 9 10,mv 5 11] 0 [0,5] (sw (sr [mv 12 5,oi 13 pL 12 0] 0 [0,5,13] (cd 13 (sr [mf 4 false] 0 [4] .ret) .skip)) (sr [mv 14 0,mv 15 0,oa 16 .bf 15,fa 17 18 16,lo 18 17,mv 19 5,mv 20 5,oi 21 pA 20 1,on 22 (.call 323) [.t 18,.t 19,.t 21],oa 23 .bf 14,fa 24 18 23,sk 1 24 22 0] 0 [] (sr [mf 4 true] 0 [4] .ret)))))
def oU:aA:=(sw (r0 [ba 6 0 2,mf 8 false] 1 [0,1,3,6] [6]) (sw (r1 [mv 12 0,oa 13 .bf 12,fu 14 0 13 1,fu 15 0 14 1,ou 16 (.load true 2) 15 1,mv 17 1,ou 18 (.load true 2) 6 1,mv 19 3,on 20 (.aj 294) [.t 16,.t 17,.t 18,.t 19],mv 11 20,xa 21 0 11,xa 22 1 11,mv 9 21,mv 10 22] 0 [0,9] []) (sw (r1 [mv 23 9,mv 24 0,oa 25 .bf 24,fu 26 0 25 1,fu 27 3 26 1,lv 28 27,oa 29 (.un .neg) 28,mv 30 0,oa 31 .bf 30,fu 32 0 31 1,fu 33 3 32 1,lv 34 33,on 35 (.aj 207) [.t 23,.t 29,.t 34],mv 8 35] 0 [8] []) .ret)))
def nV:aA:=(sr [mi 4 0] 0 [0,1] (sw (r1 [mv 14 0,oa 15 .bf 14,fu 16 0 15 1,fu 17 0 16 1,ou 18 (.load true 2) 17 1,mv 19 0,oa 20 .bf 19,fu 21 0 20 1,fu 22 0 21 1,fu 23 1 22 1,lv 24 23,mv 25 1,ob1 26 (.bU 1) 24 25 1,lv 27 26,ob 28 (.aj 324) 18 27,mv 13 28,xa 29 0 13,xa 30 1 13,mv 5 29,mv 6 30] 0 [0,5] []) (sw (r1 [mv 31 0,oa 32 .bf 31,fu 33 0 32 1,fu 34 13 33 1,lv 35 34,mv 36 0,oa 37 .bf 36,fu 38 0 37 1,fu 39 14 38 1,lv 40 39,mv 41 0,oa 42 .bf 41,fu 43 0 42 1,fu 44 15 43 1,lv 45 44,mv 46 0,oa 47 .bf 46,fu 48 0 47 1,fu 49 16 48 1,lv 50 49,on 51 (.build [zs,z0,z0,z0,z0,z0] [(1,1),(2,1),(3,1),(4,1)]) [.t 35,.t 40,.t 45,.t 50],al 7 0 [zs,z0,z0,z0,z0,z0],sk 6 7 51 4] 1 [5,7] []) (sw (sr [mv 52 5,oa 53 .len 52,mi 54 0] 0 [7,52,53,54] (.block 0 (.loop (sr [ob 55 pL 54 53] 0 [7,52,53,54,55] (sw (cx 55 0) (sw (.block 1 (sw (r0 [ix 56 2 52 54,lw 57 2 56,al 9 0 [z0,z0],sk 2 9 57 0] 1 [7,9,52,53,54] [9]) (rg [fa 58 0 7,lo 59 58,fa 60 0 9,lo 61 60,fa 62 1 9,lo 63 62,ob 64 (.dA 1 [z0,z0] [0,1]) 61 63,ob 65 (.app 1 false) 59 64,fa 66 0 7,sk 1 66 65 0] 0 [7,52,53,54]))) (rg [oi 67 pA 54 1,mv 54 67] 0 [7,52,53,54]))))))) (sr [lw 69 6 7,oa 70 (.iG 210) 69,mv 68 70,xa 71 0 68,xa 72 1 68,xa 73 2 68,mv 10 71,mv 11 72,mv 12 73] 0 [10] (sr [mv 74 10,mv 4 74] 0 [4] .ret))))))
def nO:aA:=(sr [mf 4 false] 0 [0,1] (sr [mv 5 1,mv 6 0,oa 7 .bf 6,fa 8 0 7,lo 9 8,oa 10 .bf 9,fa 11 0 10,fa 12 1 11,lo 13 12,oa 14 .len 13,oi 15 pU 14 1,on 16 (.aj 207) [.t 5,kI 0,.t 15],mv 4 16] 0 [4] .ret))
def tq:aA:=(sr [mf 2 false] 0 [0] (sr [mv 3 0,on 4 (.aj 207) [.t 3,kI 4,kI 60],mv 2 4] 0 [2] .ret))
def oI:aA:=(sr [mf 4 false] 0 [0,1] (sr [mv 5 1,mv 6 0,oa 7 .bf 6,fa 8 1 7,lo 9 8,oa 10 .len 9,on 11 (.aj 207) [.t 5,kI 1,.t 10],mv 4 11] 0 [4] .ret))
def nS:aA:=(sw (r0 [ba 2 0 0,mi 4 0] 1 [1,2] [2]) (sr [mi 5 0] 0 [1,2,5] (sw (sr [fa 8 0 2,lo 9 8,oa 10 .bf 9,fa 11 21 10,lo 12 11,oa 13 .len 12,mi 14 0] 0 [1,5,12,13,14] (.block 0 (.loop (sr [ob 15 pL 14 13] 0 [1,5,12,13,14,15] (sw (cx 15 0) (sw (.block 1 (sr [ix 16 1 12 14,lo 17 16,mv 7 17] 0 [1,5,7,12,13,14] (sr [mv 18 7,mv 19 1,ob 20 (.bin .leq) 18 19] 0 [1,5,7,12,13,14,20] (cd 20 (rg [mv 21 7,mv 5 21] 0 [1,5,12,13,14]) .skip)))) (rg [oi 22 pA 14 1,mv 14 22] 0 [1,5,12,13,14]))))))) (sr [mv 23 1,mv 24 5,ob 25 pU 23 24,mv 4 25] 0 [4] .ret))))
def qH:aA:=(sr [mi 6 0,mf 7 false] 0 [0,1,2] (sw (sr [mv 9 0,mv 8 9] 0 [1,2,8] (.block 0 (.loop (sw (sr [mv 10 8,mv 11 1,ob 12 (.bin .leq) 10 11] 0 [1,2,8,12] (cx 12 0)) (sw (.block 1 (sr [mv 15 2,mv 16 8,ob 17 .gJ 15 16] 0 [1,2,8,17] (cd 17 (sr [mv 18 8,mv 6 18,mf 7 true] 0 [6,7] .ret) .skip))) (rg [mv 13 8,oi 14 pA 13 1,mv 8 14] 0 [1,2,8])))))) (sr [mi 6 0,mf 7 false] 0 [6,7] .ret)))
def lW:aA:=(sr [mf 3 false] 0 [0,1] (sr [fa 4 0 1,lo 5 4,oa 6 .bf 5,fa 7 17 6,lo 8 7,mv 9 0,oi 10 pU 9 1,ix 11 2 8 10,fa 12 1 11,lo 13 12,mv 3 13] 0 [3] .ret))
def nX:aA:=(sw (r0 [ba 2 0 0,mf 4 false] 1 [1,2] [2]) (sw (r1 [fu 5 0 2 1,lv 6 5,mv 7 1,oa 8 .bf 7,fu 9 2 8 1,lv 10 9,ou 11 .len 10 1,oi 12 pU 11 1,on 13 (.aj 207) [.t 6,kI 0,.t 12],mv 14 13,ov 15 .mov 1 14 0,ov 16 .bf 15 14 0,ov 17 (.fld 2) 16 14 1,ov 18 (.load false 1) 17 14 1,ov 19 (.fld 0) 2 14 1,ov 20 (.load false 1) 19 14 1,obT 21 (.bU 2) 18 20 14 1,ov 22 (.fld 0) 21 14 1,ov 23 (.load false 1) 22 14 1,ot 24 pQ [.t 23,kI 6] 14 0,pf 25 14 24,mv 4 25] 0 [4] []) .ret))
def qZ:aA:=(sw (r0 [ba 2 0 0,mf 4 false] 1 [2] [2]) (sr [fa 5 0 2,lo 6 5,oa 7 (.aj 291) 6,mv 4 7] 0 [4] .ret))
def nU:aA:=(sw (r0 [ba 2 0 0,mf 4 false] 1 [1,2] [2]) (sw (r1 [fu 5 0 2 1,fu 6 0 5 1,lv 7 6,mv 8 1,oa 9 .bf 8,fu 10 0 9 1,lv 11 10,oa 12 .bf 11,fu 13 0 12 1,fu 14 0 13 1,lv 15 14,ou 16 .len 15 1,oi 17 pU 16 1,on 18 (.aj 207) [.t 7,kI 0,.t 17],mv 19 18,ov 20 (.fld 0) 2 19 1,ov 21 (.fld 1) 20 19 1,ov 22 (.fld 0) 21 19 1,ov 23 (.load false 1) 22 19 1,ov 24 (.aj 291) 23 19 0,pf 25 19 24,mv 26 25,ov 27 (.fld 0) 2 26 1,ov 28 (.fld 1) 27 26 1,ov 29 (.fld 1) 28 26 1,ov 30 (.load false 1) 29 26 1,ov 31 (.aj 291) 30 26 0,pf 32 26 31,mv 4 32] 0 [4] []) .ret))
def oO:aA:=(sw (r0 [ba 2 0 0,mf 4 false] 1 [1,2] [2]) (sr [mv 5 1,fa 6 0 2,lo 7 6,ob 8 (.aj 290) 5 7,mv 9 8,ov 10 (.fld 1) 2 9 0,ov 11 (.load true 2) 10 9 0,ov 12 (.aj 213) 11 9 0,pf 13 9 12,mv 4 13] 0 [4] .ret))
def oQ:aA:=(sw (r0 [ba 2 0 0,mf 4 false] 1 [1,2] [2]) (sr [mv 5 1,fa 6 0 2,lo 7 6,ob 8 (.aj 290) 5 7,mv 4 8] 0 [4] .ret))
def rD:aA:=(sw (r0 [ba 2 0 0,mf 4 false] 1 [1,2] [2]) (sr [mv 5 1,fa 6 0 2,lo 7 6,ob 8 (.aj 293) 5 7,mv 4 8] 0 [4] .ret))
structure Su where
 pc:Pc
 tg:List Fr
 lim:Int
 dvd:Dvd
 cal:Cal
 mQ:jg
 fs:List Fs
 year:Int
 kK:Int
 hours:Int
 vF:Int
 pct:Int
 deriving DecidableEq,Inhabited
def Su.cells (s:Su)(l h t ci cy f:DV):List DV:=[l,h,t,dI s.lim,dI s.dvd.iW,ci,dI s.cal.ep,cy,dI s.mQ.n,dI s.mQ.d,dI s.mQ.ad,f,dI s.year,dI s.kK,dI s.hours,dI s.vF,dI s.pct]
def Su.cs (s:Su):List DV:=[sF (s.pc.links.map Lk.dv),sF (s.pc.hands.map ay),sF (s.tg.map Fr.dv),dI s.lim,dI s.dvd.iW,sF (s.dvd.cir.map ay),dI s.cal.ep,sF (s.cal.cy.map ay),dI s.mQ.n,dI s.mQ.d,dI s.mQ.ad,sF (s.fs.map Fs.dv),dI s.year,dI s.kK,dI s.hours,dI s.vF,dI s.pct]
def Su.dv (s:Su):DV:= .agg s.cs
variable{s:Su}
def Uh:s.cs=[sF (s.pc.links.map Lk.dv),sF (s.pc.hands.map ay),sF (s.tg.map Fr.dv),dI s.lim,dI s.dvd.iW,sF (s.dvd.cir.map ay),dI s.cal.ep,sF (s.cal.cy.map ay),dI s.mQ.n,dI s.mQ.d,dI s.mQ.ad,sF (s.fs.map Fs.dv),dI s.year,dI s.kK,dI s.hours,dI s.vF,dI s.pct]:=by rw[Su.cs]
def FN:s.dv= .agg [sF (s.pc.links.map Lk.dv),sF (s.pc.hands.map ay),sF (s.tg.map Fr.dv),dI s.lim,dI s.dvd.iW,sF (s.dvd.cir.map ay),dI s.cal.ep,sF (s.cal.cy.map ay),dI s.mQ.n,dI s.mQ.d,dI s.mQ.ad,sF (s.fs.map Fs.dv),dI s.year,dI s.kK,dI s.hours,dI s.vF,dI s.pct]:=by rw[Su.dv,Su.cs]
def Su.bil (s:Su)(aO:List Int):Bil:=⟨aO,s.kK,s.hours,s.vF,s.pct,0⟩
def Su.ok (s:Su):Bool:=s.pc.ok&&decide (s.tg.length=s.pc.hands.length)&&inR s.lim 0 10800&&s.dvd.ok&&(s.cal.ok&&s.mQ.ok&&mJ s.fs&&inR s.year 0 4000)&&(s.bil []).ok&&s.tg.all Fr.ok
def yX (n l h:Int):Pure C 207 [dI n,dI l,dI h] (.d (.bool (inR n l h))) []:=xM n l h
def lF (n:Int):Pure C 291 [dI n] (.d (.bool (bH n))) []:=by
 refine ah tq aS ?_;simp only[tq,aS,RN,F,H,I,J,N,S]
 repeat' first
  |(refine au (yX _ _ _) ?_;try simp only[RN,F,H,I,J,N,S])
  |(refine aH (by rfl) (fun a=> ?_) (fun a=> ?_)<;>simp only[a,RN,F,H,I,J,N,S])
  |(refine aP (by rfl) (fun a=> ?_) (fun a=> ?_)<;>simp only[a,RN,F,H,I,J,N,S])
 all_goals(first|(simp only[bH, *,BSN];done)|(simp_all[bH];done)|(simp_all[bH];omega))
def Zb (f:Fr):Pure C 213 [f.dv] (.d (.bool f.ok)) []:=by
 refine ah oN aS ?_;simp only[oN,aS,dG,RN,F,H,I,J,N,S]
 repeat' first
  |(refine au (yX _ _ _) ?_;try simp only[dG,RN,F,H,I,J,N,S])
  |(refine aH (by rfl) (fun a=> ?_) (fun a=> ?_)<;>simp only[a,dG,RN,F,H,I,J,N,S])
  |(refine aP (by rfl) (fun a=> ?_) (fun a=> ?_)<;>simp only[a,dG,RN,F,H,I,J,N,S])
 all_goals(first|(simp only[Fr.ok, *,BSN];done)|(simp_all[Fr.ok];done)|(simp_all[Fr.ok];omega))
def XV (f:Fr):Pure C 212 [f.dv] (.d (.bool (!f.ok))) []:=by
 refine ah qI aS ?_;simp only[qI,aS,dG,RN,F,H,I,J,N,S];have h:=Zb f;rw[dG]at h;refine au h ?_;(try simp only[RN,F,H,I,J,N,S])
structure Su.Small (s:Su):Prop where
 l:s.pc.links.length<=1000
 h:s.pc.hands.length<=1000
 t:s.tg.length<=1000
 ci:s.dvd.cir.length<=1000
 cy:s.cal.cy.length<=1000
def Xz (c:Cal)(m:jg)(l:List Fs)(y:Int):∃d,uG c m l y= .tup [d,dI (if c.ok&&m.ok&&mJ l&&inR y 0 4000 then 0 else 2)]:=by
 unfold uG
 split<;>exact⟨_,rfl⟩
def abm (d:Dvd):d.numbers.2=if d.ok then 0 else 2:=by unfold Dvd.numbers;split<;>rfl
def ahR (b:Bil):b.QT.2.2=if b.ok then 0 else 2:=by unfold Bil.QT;split<;>rfl
def aa6 (s:Su)(hs:s.Small):Pure C 147 [s.dv] (.d (.bool s.ok)) []:=by
 refine ah sZ aS ?_;have h1:=afd s.pc hs.l hs.h;rw[jR]at h1;have h2:=ZK s.dvd hs.ci;rw[Bh]at h2;have a:=Tz s.cal s.mQ false s.fs s.year (by have:=hs.cy;omega);rw[mF,pq]at a;have b:=ab3 (s.bil []) (by simp[Su.bil]);rw[Xm]at b;have p:=OL s.tg 212 [] (fun f=> !f.ok) (by have:=hs.t;omega) (by kernel_rfl) fun f _=>XV f
 have z0:((0:Int) !=0)=false:=rfl;have q:((2:Int) !=0)=true:=rfl;have g:((0:Int)==0)=true:=rfl;have i:((2:Int)==0)=false:=rfl;simp only[sZ,aS,FN,RN,F,H,I,J,N,S];refine au h1 ?_;cases j:s.pc.ok
 ·simp only[q,if_false,a6,RN,F,H,I,J,N,S]
  simp[Su.ok,j]
 simp only[z0,if_true,Z,RN,F,H,I,J,N,S]
 by_cases e:s.tg.length=s.pc.hands.length
 ·have z1:((s.tg.length:Int) !=(s.pc.hands.length:Int))=false:=by simp[e]
  simp only[z1,RN,F,H,I,J,N,S];refine au (yX _ _ _) ?_;cases k:inR s.lim 0 10800
  ·(try simp only[RN,F,H,I,J,N,S])
   simp[Su.ok,k]
  (try simp only[RN,F,H,I,J,N,S]);obtain⟨r,c⟩:=Xz s.cal s.mQ s.fs s.year;rw[c]at a;rw[abm]at h2;rw[ahR]at b;refine au h2 ?_;(try simp only[RN,F,H,I,J,N,S]);refine au a ?_;(try simp only[RN,F,H,I,J,N,S]);refine au b ?_;cases m:s.dvd.ok
  ·simp only[i,if_false,a6,RN,F,H,I,J,N,S]
   simp[Su.ok,m]
  cases n:s.cal.ok&&s.mQ.ok&&mJ s.fs&&inR s.year 0 4000
  ·simp only[i,g,if_false,if_true,a6,RN,F,H,I,J,N,S]
   simp[Su.ok,n]
  cases o:(s.bil []).ok
  ·simp only[i,g,if_false,if_true,a6,RN,F,H,I,J,N,S]
   simp[Su.ok,o]
  simp only[g,if_true,RN,F,H,I,J,N,S];refine au p ?_;simp only[AY,Bool.not_not,RN,F,H,I,J,N,S];rw[Su.ok,j,k,m,n,o,decide_eq_true e];simp
 ·have z1:((s.tg.length:Int) !=(s.pc.hands.length:Int))=true:=by simp;omega
  simp only[z1,RN,F,H,I,J,N,S];simp[Su.ok,e]
def Bc (xs:List DV)(hf:∀y∈xs,y.fits 1=true)(hl:xs.length<=1000000):Pure C 215 [.slice false xs] (.tsl 0 0 0) [⟨1,xs,0,0⟩]:=by
 refine iF wJ aS ?_;simp only[wJ,aS,RN,F,H,I,J,N,S];refine⟨fun _=> ?_,fun a b=> ?_⟩
 ·(try simp only[RN,F,H,I,J,N,S])
  exact⟨hf,by simp,by simp,by omega,jL (k:=1) (A:=⟨1,xs,0,0⟩) rfl rfl (av _) rfl⟩
 ·subst a
  cases b
  ·(try simp only[RN,F,H,I,J,N,S])
   (repeat(refine aD (by first|assumption|rfl|(simp;done)|(simp;omega)) ?_))
   exact jL (k:=1) (A:=⟨1,[],0,0⟩) rfl rfl (av _) rfl
  ·(try simp only[RN,F,H,I,J,N,S])
   exact jL (k:=1) (A:=⟨1,[],0,0⟩) rfl rfl (av _) rfl
def aas (xs:List DV)(hf:∀y∈xs,y.fits 4=true)(hl:xs.length<=1000000):Pure C 217 [.slice false xs] (.tsl 0 0 0) [⟨4,xs,0,0⟩]:=by
 refine iF kM aS ?_;simp only[kM,aS,RN,F,H,I,J,N,S];refine⟨fun _=> ?_,fun a b=> ?_⟩
 ·(try simp only[RN,F,H,I,J,N,S])
  exact⟨hf,by simp,by simp,by omega,jL (k:=1) (A:=⟨4,xs,0,0⟩) rfl rfl (av _) rfl⟩
 ·subst a
  cases b
  ·(try simp only[RN,F,H,I,J,N,S])
   (repeat(refine aD (by first|assumption|rfl|(simp;done)|(simp;omega)) ?_))
   exact jL (k:=1) (A:=⟨4,[],0,0⟩) rfl rfl (av _) rfl
  ·(try simp only[RN,F,H,I,J,N,S])
   exact jL (k:=1) (A:=⟨4,[],0,0⟩) rfl rfl (av _) rfl
def aar (xs:List DV)(hf:∀y∈xs,y.fits 2=true)(hl:xs.length<=1000000)(a:xs≠[]):Pure C 216 [.slice false xs] (.tsl 0 0 0) [⟨2,xs,0,1⟩]:=by
 refine iF jA aS ?_;simp only[jA,aS,RN,F,H,I,J,N,S];refine⟨fun _=> ?_,fun b=>absurd b a⟩;exact⟨hf,a,by simp,by omega,jL (k:=1) (A:=⟨2,xs,0,1⟩) rfl rfl (av _) rfl⟩
def Su.rows (s:Su):List Arr:=[⟨3,s.pc.links.map Lk.dv,0,1⟩,⟨1,s.pc.hands.map ay,0,0⟩,⟨2,s.tg.map Fr.dv,0,1⟩,⟨4,s.fs.map Fs.dv,0,0⟩,⟨1,s.dvd.cir.map ay,0,0⟩,⟨1,s.cal.cy.map ay,0,0⟩]
def Su.pv (s:Su):PV:= .agg [.tsl 0 0 0, .tsl 1 0 0, .tsl 2 0 0,pI s.lim,pI s.dvd.iW, .tsl 4 0 0,pI s.cal.ep, .tsl 5 0 0,pI s.mQ.n,pI s.mQ.d,pI s.mQ.ad, .tsl 3 0 0,pI s.year,pI s.kK,pI s.hours,pI s.vF,pI s.pct]
structure Su.Some (s:Su):Prop where
 l:s.pc.links≠[]/\s.pc.links.length<=1000
 t:s.tg≠[]/\s.tg.length<=1000
 h:s.pc.hands.length<=1000
 f:s.fs.length<=1000
 ci:s.dvd.cir.length<=1000
 cy:s.cal.cy.length<=1000
def tZ {l:List Int}:∀y∈l.map ay,DV.fits 1 y=true:=by
 intro y a;simp only[aM]at a;obtain⟨z,_,rfl⟩:=a;rfl
def Ug (s:Su)(hs:s.Some):Pure C 148 [s.dv] s.pv s.rows:=by
 have h1:=Pv (s.pc.links.map Lk.dv) (by intro y a;simp only[aM]at a;obtain⟨z,_,rfl⟩:=a;rfl) (by have:=hs.l.2;simp;omega) (by simpa using hs.l.1);have h2:=Bc (s.pc.hands.map ay) tZ (by have:=hs.h;simp;omega);have b:=aar (s.tg.map Fr.dv) (by intro y a;simp only[aM]at a;obtain⟨z,_,rfl⟩:=a;rfl) (by have:=hs.t.2;simp;omega) (by simpa using hs.t.1);have c:=aas (s.fs.map Fs.dv) (by intro y a;simp only[aM]at a;obtain⟨z,_,rfl⟩:=a;rfl) (by have:=hs.f;simp;omega);have d:=Bc (s.dvd.cir.map ay) tZ (by have:=hs.ci;simp;omega);have e:=Bc (s.cal.cy.map ay) tZ (by have:=hs.cy;simp;omega);refine iF uQ aev ?_;simp only[uQ,aev,FN,RN,F,H,I,J,N,S];refine pR rfl rfl h1 (by simp) ?_;simp only[PV.shift,jE,bV,dM,RN,F,H,I,J,N,S]
 (repeat(refine aD (by first|assumption|rfl|(simp;done)|(simp;omega)) ?_))
 refine pR rfl rfl h2 (by simp) ?_;simp only[PV.shift,jE,bV,dM,RN,F,H,I,J,N,S]
 (repeat(refine aD (by first|assumption|rfl|(simp;done)|(simp;omega)) ?_))
 refine pR rfl rfl b (by simp) ?_;simp only[PV.shift,jE,bV,dM,RN,F,H,I,J,N,S]
 (repeat(refine aD (by first|assumption|rfl|(simp;done)|(simp;omega)) ?_))
 refine pR rfl rfl c (by simp) ?_;simp only[PV.shift,jE,bV,dM,RN,F,H,I,J,N,S]
 (repeat(refine aD (by first|assumption|rfl|(simp;done)|(simp;omega)) ?_))
 refine pR rfl rfl d (by simp) ?_;simp only[PV.shift,jE,bV,dM,RN,F,H,I,J,N,S]
 (repeat(refine aD (by first|assumption|rfl|(simp;done)|(simp;omega)) ?_))
 refine pR rfl rfl e (by simp) ?_;simp only[PV.shift,jE,bV,dM,RN,F,H,I,J,N,S]
 (repeat(refine aD (by first|assumption|rfl|(simp;done)|(simp;omega)) ?_))
 simp only[bC,dB,iO,RN,F,H,I,J,N,S];exact⟨[(0,0),(1,0),(2,0),(3,0),(4,0),(5,0)],⟨by simp[yY],by decide⟩,rfl,rfl⟩
variable{x:DV}
def Qo {C:Ctx}{f:FuncId}{ds:List DV}{r:PV}{a:List Arr}(h:Pure C f ds r a)(hd:datum (rowsOf a) r=some x):Pure C f ds (.d x) []:=by
 intro X w c k n s p;refine(h X w c k n s p).mono fun e u m=> ?_
 obtain⟨v,t,rfl,h2,i,j⟩:=m;have g:uP (rowsOf a) []:=⟨fun q o=>(by cases o),List.nodup_nil⟩
 exact⟨v,_,rfl,Jh h2 g,DI i g, .d ((je (ps:=[r]) h2 j hd (by simp)).weaken fun b l=> .inl (ql b l))⟩
def acJ (s:Su)(hs:s.Some):Pure C 148 [s.dv] (.d s.dv) []:=Qo (Ug s hs) (by rw[FN];rfl)
def Su.dates (s:Su):List Int:=s.fs.map (zD s.cal s.mQ s.year)
def Su.works (s:Su)(n:Int):Bool:=(n+4).tmod 7 !=0&& !s.dates.contains n
def Su.first (s:Su):Int:=s.cal.first s.year.toNat
def Su.dur (s:Su):Nat:=(Bg (s.cal.leap s.year)).toNat
def Su.tV (s:Su)(k:Nat):List (Int×Bool):=(List.range k).map fun(i:Nat)=>(s.first+i,s.works (s.first+i))
def Su.days (s:Su):List (Int×Bool):=s.tV s.dur
def yS (d:Int×Bool):DV:= .agg [dI d.1, .bool d.2]
def Xn {d:Int×Bool}:yS d= .agg [dI d.1, .bool d.2]:=by rw[yS]
def Uk (s:Su)(k:Nat):s.tV (k+1)=s.tV k++ [(s.first+k,s.works (s.first+k))]:=by simp[Su.tV,List.range_succ]
def Su.facts (h:s.ok=true):s.pc.ok=true/\s.tg.length=s.pc.hands.length/\inR s.lim 0 10800=true/\s.dvd.ok=true/\s.cal.ok=true/\s.mQ.ok=true/\mJ s.fs=true/\(0<=s.year/\s.year<=4000)/\(s.bil []).ok=true/\∀f∈s.tg,f.ok=true:=by
 simp only[Su.ok,ao,decide_eq_true_eq,bv]at h;obtain⟨⟨⟨⟨⟨⟨h1,h2⟩,b⟩,c⟩,⟨⟨d,e⟩,g⟩,i⟩,j⟩,a⟩:=h;exact⟨h1,h2,b,c,d,e,g,by simpa[inR]using i,j,a⟩
def Pc.zI {p:Pc}(h:p.ok=true):(1<=p.links.length/\p.links.length<=5)/\1<=p.hands.length/\p.hands.length<=4:=by
 simp only[Pc.ok,ao,inR,decide_eq_true_eq]at h;omega
def Su.L6 (h:s.ok=true):s.Some:=by
 obtain⟨h1,h2,_,b,c,k,d,_⟩:=Su.facts h;obtain⟨a,f⟩:=Pc.zI h1;obtain⟨_,g,_⟩:=Dvd.Vl b;obtain⟨_,i,_⟩:=Cal.facts c;obtain⟨j,_⟩:=xI d;exact⟨⟨fun e=>by rw[e]at a;simp at a,by omega⟩,⟨fun e=>by rw[e]at h2;simp at h2;omega,by omega⟩,by omega,by omega,by omega,by omega⟩
def XB {c:Cal}{y:Int}(hc:c.ok=true)(f:0<=y/\y<=4000):Uj c ⟨y,1,1⟩= .tup [dI (c.first y.toNat),dI 0]/\Uj c ⟨y,12,31⟩= .tup [dI (c.first y.toNat+Bg (c.leap y) - 1),dI 0]:=by
 have d:inR y 0 4000=true:=by simp[inR];omega
 have b:(c.firsts 4002).getD y.toNat default=c.first y.toNat:=mO c (by omega);constructor
 ·have e:pV c ⟨y,1,1⟩=true:=by cases a:c.leap y<;>simp[pV,a,bY,inR]<;>omega
  rw[Uj,hc,e];simp only[bh,if_true,Gz,b];simp[iI]
 ·have e:pV c ⟨y,12,31⟩=true:=by cases a:c.leap y<;>simp[pV,a,bY,inR]<;>omega
  rw[Uj,hc,e];simp only[bh,if_true,Gz,b];cases a:c.leap y<;>simp[iI,bY,Bg]<;>omega
def aju (s:Su)(hs:s.ok=true):Pure C 149 [s.dv] (.d (sF (s.days.map yS))) []:=by
 obtain⟨h1,h2,L,M,e,v,j,w,O,u⟩:=Su.facts hs;obtain⟨P,Q,R⟩:=Cal.facts e;obtain⟨q,r⟩:=XB e w;have l:=ahj s.cal ⟨s.year,1,1⟩ (by omega);have m:=ahj s.cal ⟨s.year,12,31⟩ (by omega);have n:=Tz s.cal s.mQ false s.fs s.year (by omega);have f:uG s.cal s.mQ s.fs s.year= .tup [sF (s.dates.map ay),dI 0]:=by
  rw[uG,e,v,j,show inR s.year 0 4000=true by simp[inR];omega];rfl
 rw[q,mF,yT]at l;rw[r,mF,yT]at m;rw[f,mF,pq]at n;have y:=s.cal.mM s.year.toNat;have hd:Bg (s.cal.leap s.year)=s.dur:=by have:=uF (s.cal.leap s.year);unfold Su.dur;split at this<;>omega
 have x:s.dur<=366/\365<=s.dur:=by have:=uF (s.cal.leap s.year);unfold Su.dur;split at this<;>omega
 have o:ck .i64 (s.cal.first s.year.toNat+Bg (s.cal.leap s.year) - 1 - s.cal.first s.year.toNat)=(s.dur:Int) - 1:=by rw[aF (by omega)];omega
 have p:ck .i64 ((s.dur:Int) - 1+1)=(s.dur:Int):=by rw[aF (by omega)];omega
 refine dR (aC yw aS ?_);simp only[yw,aS,FN,RN,F,H,I,J,N,S];refine au l ?_;(try simp only[RN,F,H,I,J,N,S]);refine au m ?_;(try simp only[RN,F,H,I,J,N,S]);refine au n ?_;simp only[o,p,RN,F,H,I,J,N,S];have alx:s.dates.length<=6:=by
  have:=(xI j).1;simp[Su.dates];omega
 refine aG s.dur (fun i (_:Unit)=>⟨[(3,pI (s.cal.first s.year.toNat)),(7, .d (sF (s.dates.map ay))),(9, .tsl 1 i 0),(45,pI s.dur),(46,pI i)],
   ⟨[some (s.cs.map .d)],[0],[some ⟨2,[],0,0⟩,some ⟨2,(s.tV i).map yS,i,0⟩]⟩⟩)
  (fun _ _=>True) 0 () (av _) (by rw[Uh];rfl) trivial (fun i _ c _=> ?_) (fun _ _=> ?_)
 ·obtain⟨t,K,h⟩:=rng c (by omega)
  have A:ck .i64 (s.cal.first s.year.toNat+(i:Int))=s.cal.first s.year.toNat+i:=aF (by omega);have B:ck .i64 (s.cal.first s.year.toNat+(i:Int)+4)=s.cal.first s.year.toNat+i+4:=aF (by omega);have E:0<=(s.cal.first s.year.toNat+(i:Int)+4).tmod 7:=Int.tmod_nonneg 7 (by omega);have G:(s.cal.first s.year.toNat+(i:Int)+4).tmod 7<7:=Int.tmod_lt_of_pos _ (by decide);have D:ck .i64 ((s.cal.first s.year.toNat+(i:Int)+4).tmod 7)=(s.cal.first s.year.toNat+(i:Int)+4).tmod 7:=aF (by omega);have z:¬((7:Int)=0):=by decide
  have b:(s.tV i).length=i:=by simp[Su.tV]
  have a:(s.tV i).map yS++ [.agg [dI (s.cal.first s.year.toNat+i), .bool (s.works (s.cal.first s.year.toNat+i))]]=(s.tV (i+1)).map yS:=by
   rw[Uk,List.map_append];rfl
  simp only[t,A,B,D,z,RN,F,H,I,J,N,S];cases k:((s.cal.first s.year.toNat+(i:Int)+4).tmod 7 !=0)
  ·have g:s.works (s.cal.first s.year.toNat+i)=false:=by rw[Su.works,k];rfl
   rw[g]at a;simp only[h,tX,DV.strip,forall_eq,b,Z,RN,F,H,I,J,N,S]
   (repeat(refine aD (by first|assumption|rfl|(simp;done)|(simp;omega)) ?_))
   refine⟨by omega,?_⟩;rw[a];exact kZ (len:=s.dur) (i:=i) () c rfl trivial
  ·have g:s.works (s.cal.first s.year.toNat+i)= !s.dates.contains (s.cal.first s.year.toNat+i):=by rw[Su.works,k];rfl
   rw[g]at a;(try simp only[RN,F,H,I,J,N,S]);refine fG rfl rfl (zC s.dates _ (by omega)) ?_;simp only[h,tX,DV.strip,forall_eq,b,Z,RN,F,H,I,J,N,S]
   (repeat(refine aD (by first|assumption|rfl|(simp;done)|(simp;omega)) ?_))
   refine⟨by omega,?_⟩;rw[a];exact kZ (len:=s.dur) (i:=i) () c rfl trivial
 ·simp only[bi,RN,F,H,I,J,N,S]
  simp[datum,Mem.row,Su.days]
structure En where
 kind:Int
 ns:List Int
 deriving DecidableEq,Inhabited
def En.dv (x:En):DV:= .agg [dI x.kind,sF (x.ns.map ay)]
def Ci {x:En}:x.dv= .agg [dI x.kind,sF (x.ns.map ay)]:=by rw[En.dv]
inductive De where
 |cut (aO:Int)
 |change (c:Chg)
 |order (hand:Int) (f:Fr)
 |serve (hand jQ:Int)
 |set (day:Int)
 |strike (entry:Int)
 deriving DecidableEq,Inhabited
def De.cs:De->DV
 | .cut t=> .agg [.int .i64 t]
 | .change c=> .agg [.int .i64 c.link, .int .i64 c.pr.a, .int .i64 c.pr.b]
 | .order h f=> .agg [.int .i64 h, .int .i64 f.n, .int .i64 f.d]
 | .serve h c=> .agg [.int .i64 h, .int .i64 c]
 | .set d=> .agg [.int .i64 d]
 | .strike e=> .agg [.int .i64 e]
def De.ty:De->TypeId
 | .cut _=>T.eG
 | .change _=>T.bI
 | .order _ _=>T.dQ
 | .serve _ _=>T.dF
 | .set _=>T.eH
 | .strike _=>T.bD
def De.dv (x:De):DV:= .iface x.ty x.cs
def uN (k:Int):Nat:=if k=2\/k=3 then 3 else if k=4 then 2 else 1
def En.n (x:En)(i:Nat):Int:=x.ns.getD i default
def En.deed (x:En):De:=
 if x.kind=1 then .cut (x.n 0)else if x.kind=2 then .change ⟨x.n 0,⟨x.n 1,x.n 2⟩⟩else if x.kind=3 then .order (x.n 0) ⟨x.n 1,x.n 2⟩else if x.kind=4 then .serve (x.n 0) (x.n 1)else if x.kind=5 then .set (x.n 0)else .strike (x.n 0)
variable{base:Nat}{M:Mem}{K:PV->Mem->Prop}{KP:DV->Mem->Prop}
def xR {C:Ctx}{t:TypeId}:ak C base (.mkI t) [.d x] M K KP=K (.d (.iface t x)) M:=by
 have:=zT (M:=M) (ds:=[x]);simp only[bj,b0]at this;simp only[ak,datum,this]
def MO (x:En)(h:uN x.kind<=x.ns.length):Pure C 226 [x.dv] (.d x.deed.dv) []:=by
 have l:(0:Int)<=1:=by omega
 have m:(0:Int)<=2:=by omega
 refine ah uS aS ?_;simp only[uS,aS,Ci,RN,F,H,I,J,N,S]
 by_cases h1:x.kind=1
 ·have c:(x.kind==1)=true:=by simp[h1]
  have a:0<x.ns.length:=by simp[uN,h1]at h;omega
  simp only[c,j0,t0,a,Z,getD_map,aZ,xR,RN,F,H,I,J,N,S];simp only[En.dv,De.dv,En.deed,h1,if_true,De.ty,De.cs,En.n]
 have c:(x.kind==1)=false:=by simp[h1]
 by_cases h2:x.kind=2
 ·have f:(x.kind==2)=true:=by simp[h2]
  have a:0<x.ns.length/\1<x.ns.length/\2<x.ns.length:=by simp[uN,h2]at h;omega
  simp only[c,f,j0,l,m,t0,t1,t2,a.1,a.2.1,a.2.2,Z,getD_map,aZ,xR,RN,F,H,I,J,N,S];simp only[En.dv,De.dv,En.deed,h1,h2,if_true,if_false,De.ty,De.cs,En.n]
  rfl
 have f:(x.kind==2)=false:=by simp[h2]
 by_cases b:x.kind=3
 ·have g:(x.kind==3)=true:=by simp[b]
  have a:0<x.ns.length/\1<x.ns.length/\2<x.ns.length:=by simp[uN,b]at h;omega
  simp only[c,f,g,j0,l,m,t0,t1,t2,a.1,a.2.1,a.2.2,Z,getD_map,aZ,xR,RN,F,H,I,J,N,S];simp only[En.dv,De.dv,En.deed,h1,h2,b,if_true,if_false,De.ty,De.cs,En.n]
  rfl
 have g:(x.kind==3)=false:=by simp[b]
 by_cases e:x.kind=4
 ·have i:(x.kind==4)=true:=by simp[e]
  have a:0<x.ns.length/\1<x.ns.length:=by simp[uN,e]at h;omega
  simp only[c,f,g,i,j0,l,t0,t1,a.1,a.2,Z,getD_map,aZ,xR,RN,F,H,I,J,N,S];simp only[En.dv,De.dv,En.deed,h1,h2,b,e,if_true,if_false,De.ty,De.cs,En.n]
  rfl
 have i:(x.kind==4)=false:=by simp[e]
 have a:0<x.ns.length:=by simp[uN,h2,b,e]at h;omega
 by_cases j:x.kind=5
 ·have k:(x.kind==5)=true:=by simp[j]
  simp only[c,f,g,i,k,j0,t0,a,Z,getD_map,aZ,xR,RN,F,H,I,J,N,S];simp only[En.dv,De.dv,En.deed,h1,h2,b,e,j,if_true,if_false,De.ty,De.cs,En.n]
  rfl
 have k:(x.kind==5)=false:=by simp[j]
 simp only[c,f,g,i,k,j0,t0,a,Z,getD_map,aZ,xR,RN,F,H,I,J,N,S];simp only[En.dv,De.dv,En.deed,h1,h2,b,e,j,if_true,if_false,De.ty,De.cs,En.n]
structure Sp where
 pc:Pc
 tg:List Fr
 dW:List Int
 op:List (Int×Fr)
 jQ:Int
 sets:List Int
 deriving DecidableEq,Inhabited
def opD (l:List (Int×Fr)):List (DV×DV):=l.map fun p=>(dI p.1,p.2.dv)
def Sp.cells (a b:Bool)(s:Su)(t:Sp):List DV:=[sF (t.pc.links.map Lk.dv),sF (t.pc.hands.map ay),sF (t.tg.map Fr.dv),dI s.lim,dI s.dvd.iW,sF (s.dvd.cir.map ay),dI s.cal.ep,sF (s.cal.cy.map ay),dI s.mQ.n,dI s.mQ.d,dI s.mQ.ad,sF (s.fs.map Fs.dv),dI s.year,dI s.kK,dI s.hours,dI s.vF,dI s.pct,
 sF (s.days.map yS), .slice a (t.dW.map ay), .map (some (opD t.op)),dI t.jQ, .slice b (t.sets.map ay)]
variable{t:Sp}
def bT {a b:Bool}:t.cells a b s=[sF (t.pc.links.map Lk.dv),sF (t.pc.hands.map ay),sF (t.tg.map Fr.dv),dI s.lim,dI s.dvd.iW,sF (s.dvd.cir.map ay),dI s.cal.ep,sF (s.cal.cy.map ay),dI s.mQ.n,dI s.mQ.d,dI s.mQ.ad,sF (s.fs.map Fs.dv),dI s.year,dI s.kK,dI s.hours,dI s.vF,dI s.pct,
 sF (s.days.map yS), .slice a (t.dW.map ay), .map (some (opD t.op)),dI t.jQ, .slice b (t.sets.map ay)]:=by rw[Sp.cells]
def PX (s:Su)(t:Sp)(hand:Int)(f:Fr)(turns:Int):Bool:=inR (uy t.pc hand f turns).1 (-s.lim) s.lim
def adE (b c:Bool)(s:Su)(t:Sp)(hand:Int)(f:Fr)(turns:Int)(hl:t.pc.links.length<=1000)(hh:t.pc.hands.length<=1000)(g:0<=s.lim/\s.lim<=10800):Pure C 284 [.aV (t.cells b c s),dI hand,f.dv,dI turns] (.d (.bool (PX s t hand f turns))) []:=by
 have a:=YR t.pc hl hh hand f turns;rw[jR,dG]at a;have e:ck .i64 (0 - s.lim)= -s.lim:=by rw[aF (by omega)];omega
 refine ah oU SB ?_;simp only[oU,SB,bT,dG,RN,F,H,I,J,N,S];refine au a ?_;simp only[e,RN,F,H,I,J,N,S];refine au (yX _ _ _) ?_;simp only[PX,RN,F,H,I,J,N,S]
def jf (l:List Pr):List Int:=l.flatMap fun p=>[p.a,p.b]
def G6 (s:Su)(t:Sp)(hand:Nat):Int:=(s.bil (jf (kJ t.pc.links (t.pc.hands.getD hand default).toNat))).QT.1
def FW (l:List Pr):(jf l).length=2*l.length:=by
 induction l with
 |nil=>rfl
 |cons x l a=>simp only[jf,bS,V,be,aR]at a⊢;omega
def oC {C:Ctx}{z1 c:DV}{k k':IntKind}{a b:Int}:ak C base (.dA 1 [z1,c] [0,1]) [.d (.int k a), .d (.int k' b)] M K KP=K (.d (.slice true [.int k a, .int k' b])) M:=by
 have:=zT (M:=M) (ds:=[DV.int k a, .int k' b]);simp only[bj,b0]at this;simp[ak,cZ,datum,qy,this,DV.strip,DV.cells]
def prC:Nat->PV
 |0=> .d (.slice true [])
 |i+1=> .tsl 0 i 0
def prA (l:List Pr):Nat->List (Option Arr)
 |0=>[]
 |i+1=>[some ⟨1,(jf (l.take (i+1))).map ay,i,0⟩]
def ad9 (s:Su)(l:List Pr)(i:Nat):St:=
 ⟨[(7, .ptr 0 0),(52, .d (sF (l.map Pr.dv))),(53,pI l.length),(54,pI i)],
  ⟨[some [prC i,pI s.kK,pI s.hours,pI s.vF,pI s.pct,pI 0]],[],prA l i⟩⟩
def Zp (v w:Bool)(s:Su)(t:Sp)(hand:Nat)(j:t.pc.ok=true)(hh:hand<t.pc.hands.length):Pure C 285 [.aV (t.cells v w s),dI hand] (pI (G6 s t hand)) []:=by
 have x:1<=t.pc.hands.getD hand default/\t.pc.hands.getD hand default<=t.pc.links.length:=by
  simp only[Pc.ok,ao,bv]at j;have:=j.2 _ (getD_mem hh)
  simpa[inR]using this
 obtain⟨a,r⟩:∃a:Nat,t.pc.hands.getD hand default=a:=⟨(t.pc.hands.getD hand default).toNat,by omega⟩
 have u:=afm t.pc j a (by omega) (by omega);rw[jR]at u;have j0:(0:Int)<=(hand:Int):=by omega
 refine ah nV aQ ?_;simp only[nV,aQ,bT,j0,an,hh,Z,getD_map,aZ,r,RN,F,H,I,J,N,S];refine au u ?_;simp only[Z,RN,F,H,I,J,N,S];obtain⟨l,k⟩:∃l,l=kJ t.pc.links a:=⟨_,rfl⟩
 have z:l.length<=3:=by rw[k,kJ,Z];exact(Pc.good j).short a (by omega)
 have c:=ab3 (s.bil (jf l)) (by simp only[Su.bil,FW];omega);rw[Xm]at c;have g:G6 s t hand=(s.bil (jf l)).QT.1:=by rw[G6,r,k];rfl
 simp only[<-k];refine aG l.length (fun i (_:Unit)=>ad9 s l i) (fun _ _=>True) 0 () (av _) rfl trivial (fun i _ e _=> ?_) (fun _ _=> ?_)
 ·obtain⟨o,p,q⟩:=rng e (by omega)
  have h:(jf (l.take i)).map ay++ [dI (l.getD i default).a,dI (l.getD i default).b]=(jf (l.take (i+1))).map ay:=by
   rw[dP e];simp[jf,ay]
  have m:((jf (l.take i)).map ay).length<=2000000:=by simp only[Z,FW,List.length_take];omega
  rcases i with _|i
  ·have alk:[dI (l.getD 0 default).a,dI (l.getD 0 default).b]=(jf (l.take (0+1))).map ay:=by simpa[jf]using h
   simp only[ad9,prC,prA,o,p,e,Z,getD_map,an,sJ,oC,bV,dM,RN,F,H,I,J,N,S];refine⟨by rintro y (rfl|rfl)<;>rfl,by simp,by simp,?_⟩;rw[alk,q];exact bK 1 1 () e rfl trivial (by simp) (by simp) rfl rfl
  ·simp only[ad9,prC,prA,o,p,e,Z,getD_map,an,sJ,oC,bV,dM,RN,F,H,I,J,N,S]
   refine⟨by rintro y (rfl|rfl)<;>rfl,by simp,?_⟩
   (repeat(refine aD (by first|assumption|rfl|(simp;done)|(simp;omega)) ?_))
   rw[h,q];refine⟨by simpa using bk m (by decide),?_⟩;exact bK 1 1 () e rfl trivial (by simp) (by simp) rfl rfl
 ·rcases hln:l.length with _|i
  ·have f:l=[]:=List.eq_nil_of_length_eq_zero hln
   subst f;simp only[ad9,prC,prA,bi,RN,F,H,I,J,N,S];refine jU (H9 rfl) rfl c rfl ?_;simp only[g,RN,F,H,I,J,N,S]
  ·have n:l.take (i+1)=l:=by rw[<-hln,List.take_length]
   simp only[ad9,prC,prA,hln,bi,n,bC,aw,dB,RN,F,H,I,J,N,S];refine jU (H9 (d:= .agg [sF ((jf l).map ay),dI s.kK,dI s.hours,dI s.vF,dI s.pct,dI 0]) (by simp[datum,bW,dS,Mem.row])) rfl c rfl ?_;simp only[g,RN,F,H,I,J,N,S]
def slR (W:Bool)(c:PV)(xs:List DV)(ar:List (Option Arr)):Prop:=
 (c= .d (.slice true [])/\xs=[])\/∃k ver st,c= .tsl k ver 0/\ar[k]?=some (some ⟨1,xs,ver,st⟩)/\st≠2/\(W=true->st=1\/xs=[])
def kOf:PV->Option Nat| .tsl k _ _=>some k| _=>none
def gy (s:Su)(a mb:Nat)(cst cse:PV)(jQ:Int):List PV:=[.tsl a 0 0, .tsl (a+1) 0 0, .tsl (a+2) 0 0,pI s.lim,pI s.dvd.iW, .tsl (a+4) 0 0,pI s.cal.ep, .tsl (a+5) 0 0,pI s.mQ.n,pI s.mQ.d,pI s.mQ.ad, .tsl (a+3) 0 0,pI s.year,pI s.kK,pI s.hours,pI s.vF,pI s.pct, .d (sF (s.days.map yS)),cst, .mref mb,pI jQ,cse]
structure fC (s:Su) (a b mb:Nat) (cst cse:PV) (t:Sp) (M:Mem):Prop where
 box:M.boxes[b]?=some (some (gy s a mb cst cse t.jQ))
 map:M.boxes[mb]?=some (some [.gI (opD t.op)])
 r0:M.aB[a]?=some (some ⟨3,t.pc.links.map Lk.dv,0,1⟩)
 r1:M.aB[a+1]?=some (some ⟨1,t.pc.hands.map ay,0,0⟩)
 r2:M.aB[a+2]?=some (some ⟨2,t.tg.map Fr.dv,0,1⟩)
 r3:M.aB[a+3]?=some (some ⟨4,s.fs.map Fs.dv,0,0⟩)
 r4:M.aB[a+4]?=some (some ⟨1,s.dvd.cir.map ay,0,0⟩)
 r5:M.aB[a+5]?=some (some ⟨1,s.cal.cy.map ay,0,0⟩)
 stk:slR true cst (t.dW.map ay) M.aB
 set:slR false cse (t.sets.map ay) M.aB
 kst:∀k,kOf cst=some k->a+6<=k
 kse:∀k,kOf cse=some k->a+6<=k
 dif:∀k,kOf cst=some k->kOf cse≠some k
 nb:b∉M.fz
 nm:mb∉M.fz
 bm:b≠mb
 fzb:∀i∈M.fz,i<M.boxes.length
structure FrS (a b mb:Nat) (M M':Mem):Prop where
 len:M.boxes.length<=M'.boxes.length
 bn:M.aB.length<=M'.aB.length
 box:∀i,i<M.boxes.length->i≠b->i≠mb->M'.boxes[i]?=M.boxes[i]?
 fz:∀i,i<M.boxes.length->(i∈M'.fz↔i∈M.fz)
 row:∀k,k<a->M'.aB[k]?=M.aB[k]?
 fzb:FzB M->FzB M'
variable{a b mb:Nat}
def FrS.refl (M:Mem):FrS a b mb M M:=⟨aq _,aq _,fun _ _ _ _=>rfl,fun _ _=>bt,fun _ _=>rfl,id⟩
def FrS.trans {a b mb:Nat}{M M' c:Mem}(h:FrS a b mb M M')(h':FrS a b mb M' c):FrS a b mb M c:=
 ⟨bk h.len h'.len,bk h.bn h'.bn,fun i d h1 h2=>(h'.box i (bO d h.len) h1 h2).trans (h.box i d h1 h2),fun i d=>(h'.fz i (bO d h.len)).trans (h.fz i d),fun k f=>(h'.row k f).trans (h.row k f),fun e=>h'.fzb (h.fzb e)⟩
def ab4:Prop:=∀(k ver i:Nat) (zs:List Int) (bs:List (Option (List PV))) (fz:List Nat) (ar:List (Option Arr)) (K:PV->Mem->Prop) (KP:DV->Mem->Prop),ar[k]?=some (some ⟨1,zs.map ay,ver,1⟩)->i<zs.length->
 K (.tsl k (ver+1) 0) ⟨bs,fz,ar.set k (some ⟨1,(zs.take i++zs.drop (i+1)).map ay,ver+1,1⟩)⟩->SC C 323 [.tsl k ver 0,pI i,pI (i+1:Nat)] ⟨bs,fz,ar⟩ K KP
def UK (v:Int):∀(xs:List Int) (i:Nat),(idx v xs i= -1/\v∉xs)\/∃n,idx v xs i=((i+n:Nat):Int)/\n<xs.length/\xs.take n++xs.drop (n+1)=xs.erase v/\v∈xs
 | [],i=> .inl ⟨rfl,by simp⟩
 |x::xs,i=>by
  rw[idx]
  by_cases h:v=x
  ·subst h
   exact .inr ⟨0,by simp,by simp,by simp,by simp⟩
  ·rcases UK v xs (i+1)with⟨h1,h2⟩|⟨n,h1,h2,a,b⟩
   ·refine .inl ⟨by simp[h,h1],by simp[h,h2]⟩
   ·refine .inr ⟨n+1,by simp[h,h1];omega,by simp;omega,?_,by simp[b]⟩
    have c:¬(x==v)=true:=by simp;exact fun e=>h e.symm
    rw[List.erase_cons_tail c,<-a];simp
variable{W:Bool}{c:PV}{bs:List (Option (List PV))}{fz:List Nat}{ar:List (Option Arr)}
def abL {xs:List DV}(h:slR W c xs ar):∃ex,datum ⟨bs,fz,ar⟩ c=some (.slice ex xs):=by
 rcases h with⟨rfl,rfl⟩|⟨k,ver,st,rfl,h,_⟩
 ·exact⟨true,rfl⟩
 ·exact⟨false,by simp[datum,Mem.row,h]⟩
def EY {xs:List DV}(h:slR W c xs ar):PV.one c=true/\PV.cells c=[c]/\c.mP=false:=by
 rcases h with⟨rfl,rfl⟩|⟨k,ver,st,rfl,_⟩<;>exact⟨rfl,rfl,rfl⟩
variable{ar':List (Option Arr)}
def o8 {xs:List DV}(h:slR W c xs ar)(hk:∀k A,kOf c=some k->ar[k]?=some (some A)->ar'[k]?=some (some A)):slR W c xs ar':=by
 rcases h with⟨rfl,rfl⟩|⟨k,ver,st,rfl,h1,h2⟩
 ·exact .inl ⟨rfl,rfl⟩
 ·exact .inr ⟨k,ver,st,rfl,hk _ _ rfl h1,h2⟩
def fC.NM {cst cse:PV}(h:fC s a b mb cst cse t ⟨bs,fz,ar⟩){k ver st:Nat}{xs:List Int}(hk:a+6<=k)(hd:kOf cse≠some k)
  (h1:ar'[k]?=some (some ⟨1,xs.map ay,ver,st⟩))(h2:∀j,j≠k->j<ar.length->ar'[j]?=ar[j]?)(hl:ar.length<=ar'.length)(f:st≠2/\(st=1\/xs=[])):
  fC s a b mb (.tsl k ver 0) cse {t with dW:=xs} ⟨bs.set b (some (gy s a mb (.tsl k ver 0) cse t.jQ)),fz,ar'⟩/\FrS a b mb ⟨bs,fz,ar⟩ ⟨bs.set b (some (gy s a mb (.tsl k ver 0) cse t.jQ)),fz,ar'⟩:=by
 have l:b<bs.length:=(U.1 h.box).1;have d:∀(j:Nat) (A:Arr),j≠k->ar[j]?=some (some A)->ar'[j]?=some (some A):=fun j A c g=>by
  rw[h2 j c (U.1 g).1];exact g
 constructor
 ·exact
  {box:=by simp[l]
   map:=by
    have:=h.map;have o:=h.bm;simp only at this⊢;rw[ai o];exact this
   r0:=d _ _ (by omega) h.r0
   r1:=d _ _ (by omega) h.r1
   r2:=d _ _ (by omega) h.r2
   r3:=d _ _ (by omega) h.r3
   r4:=d _ _ (by omega) h.r4
   r5:=d _ _ (by omega) h.r5
   stk:= .inr ⟨k,ver,st,rfl,h1,f.1,fun _=>f.2.imp id fun e=>by simp[e]⟩
   set:=o8 h.set fun j A c g=>d j A (fun e=>hd (e▸c)) g
   kst:=fun j c=>by cases c;exact hk
   kse:=h.kse
   dif:=fun j c=>by cases c;exact hd
   nb:=h.nb
   nm:=h.nm
   bm:=h.bm
   fzb:=fun i m=>by simpa using h.fzb i m}
 ·exact
  {len:=by simp
   fzb:=fun q i m=>by have:=q i m;simpa using this
   bn:=hl
   box:=fun i _ p _=>by simp only;rw[ai (Ne.symm p)]
   fz:=fun _ _=>bt
   row:=fun j c=>by
    by_cases n:j<ar.length
    ·exact h2 j (by omega) n
    ·exact absurd (U.1 h.r0).1 (by simp only;omega)}
def Zx (f:ab4){s:Su}{a b mb:Nat}{cst cse:PV}{t:Sp}{M:Mem}(h:fC s a b mb cst cse t M)(v:Int)(hl:t.dW.length<=1000000):
  SC C 283 [.ptr b 0,pI v] M (fun p M'=>(v∉t.dW/\p= .d (.bool false)/\M'=M)\/(v∈t.dW/\p= .d (.bool true)/\∃qN,fC s a b mb qN cse {t with dW:=t.dW.erase v} M'/\FrS a b mb M M'/\kOf qN=kOf cst/\(∃k ver,qN= .tsl k ver 0/\M'.aB[k]?=some (some ⟨1,(t.dW.erase v).map ay,ver,1⟩))/\∀k,kOf cst≠some k->M'.aB[k]?=M.aB[k]?)) (fun _ _=>False):=by
 obtain⟨bs,fz,ar⟩:=M;have c:=h.box;rw[gy]at c;have i:=h.nb;simp only at c i;obtain⟨E,G,K⟩:=EY h.stk;obtain⟨ex,q⟩:=abL (bs:=bs) (fz:=fz) h.stk;refine aC oV aQ ?_;simp only[oV,aQ,c,E,G,K,RN,F,H,I,J,N,S];refine jU (qQ q) rfl (Nu t.dW v hl) rfl ?_
 rcases UK v t.dW 0 with⟨h1,h2⟩|⟨n,h1,h2,B,o⟩
 ·have w:idx v t.dW 0<0:=by omega
  simp only[w,RN,F,H,I,J,N,S];exact .inl h2
 ·have w:¬(n:Int)<0:=by omega
  have x:ck .i64 ((n:Int)+1)=((n+1:Nat):Int):=by rw[aF (by omega)];omega
  have y:idx v t.dW 0=(n:Int):=by omega
  have l:t.dW≠[]:=fun e=>by rw[e]at o;cases o
  rcases h.stk with⟨_,m⟩|⟨k,ver,st,rfl,m,L,D⟩
  ·exact absurd (by simpa using m) l
  ·have u:st=1:=(D rfl).resolve_right (by simpa using l)
   subst u;simp only[w,c,x,y,RN,F,H,I,J,N,S];refine f k ver n t.dW _ _ _ _ _ m h2 ?_;simp only[c,i,bV,dM,RN,F,H,I,J,N,S];rw[B];have g:k<ar.length:=(U.1 m).1;obtain⟨z,A⟩:=h.NM (k:=k) (ver:=ver+1) (st:=1) (xs:=t.dW.erase v) (ar':=ar.set k (some ⟨1,(t.dW.erase v).map ay,ver+1,1⟩)) (h.kst k rfl) (h.dif k rfl) (by simp[g]) (fun j r _=>ai (Ne.symm r)) (by simp) ⟨by decide, .inl rfl⟩;exact .inr ⟨o,_,z,A,rfl,⟨k,_,rfl,by simp[g]⟩,fun j r=>ai (fun e=>r (by rw[e];rfl))⟩
section
variable {C:Ctx}{base:Nat}{KP:DV->Mem->Prop}{K:PV->Mem->Prop}{M:Mem}
def kS {t:TypeId}{x:DV}:ak C base .panic [.d (.iface t x)] M K KP=KP (.iface t x) M:=by
 have:=zT (M:=M) (ds:=[DV.iface t x]);simp only[bj,b0]at this;simp only[ak,datum,this]
def dZ {f:FuncId}{fs cs:List DV}{args:List PV}:ak C base .gJ (.d (.func (.func f) fs cs)::args) M K KP=(callable C.P f=true/\SC C f (fs.map .d++args++cs.map .d) M K KP):=px
end
def Gw (d:DV):Prop:=∃y,d= .iface T.ig (.agg [y])/\PV.cells (.d y)=[.d y]/\y.one=true
variable{x:DV}{M:Mem}{K:PV->Mem->Prop}{KP:DV->Mem->Prop}
def BU (h:K (.d (.tup [])) M):SC C 281 [.d (.bool true), .d (.aV [x])] M K KP:=by
 obtain⟨bs,fz,ar⟩:=M;refine aC iE fB ?_;simp only[iE,fB,RN,F,H,I,J,N,S];exact h
def vT (hx:PV.cells (.d x)=[.d x]/\x.one=true)(h:KP (.iface T.ig (.agg [x])) M):SC C 281 [.d (.bool false), .d (.aV [x])] M K KP:=by
 obtain⟨bs,fz,ar⟩:=M;refine aC iE fB ?_;simp only[iE,fB,hx.1,hx.2,xR,kS,RN,F,H,I,J,N,S];exact h
def lV:List (Int×Fr)->Int->Option Fr
 | [],_=>none
 |p::l,h=>if h=p.1 then some p.2 else lV l h
def KO:List (Int×Fr)->Int->List (Int×Fr)
 | [],_=>[]
 |p::l,h=>if h=p.1 then l else p::KO l h
def DX (p:Int×Fr)(l:List (Int×Fr)):opD (p::l)=(dI p.1,p.2.dv)::opD l:=rfl
def adF (h n:Int):gK [] (dI h) (dI n)=some (h==n):=by simp[gK]
def EZ (l:List (Int×Fr))(h:Int):oh [] (opD l) (dI h)=some ((lV l h).map Fr.dv):=by
 induction l with
 |nil=>rfl
 |cons p l c=>
  rw[DX,oh,adF,lV]
  by_cases a:h=p.1
  ·have b:(h==p.1)=true:=by simp[a]
   rw[b,if_pos a];rfl
  ·have b:(h==p.1)=false:=beq_false_of_ne a
   rw[b,if_neg a];exact c
def aje (l:List (Int×Fr))(h:Int)(f:Fr)(a:lV l h=none):CO [] (opD l) (dI h) f.dv=some (opD (l++ [(h,f)])):=by
 induction l with
 |nil=>rfl
 |cons p l d=>
  rw[lV]at a
  by_cases b:h=p.1
  ·rw[if_pos b]at a;cases a
  ·have c:(h==p.1)=false:=beq_false_of_ne b
   rw[if_neg b]at a;rw[DX,CO,adF,c];simp only[d a,az,List.cons_append,DX]
def ajd (l:List (Int×Fr))(h:Int):CJ [] (opD l) (dI h)=some (opD (KO l h)):=by
 induction l with
 |nil=>rfl
 |cons p l c=>
  rw[DX,CJ,adF,KO]
  by_cases a:h=p.1
  ·have b:(h==p.1)=true:=by simp[a]
   rw[b,if_pos a]
  ·have b:(h==p.1)=false:=beq_false_of_ne a
   rw[b,if_neg a];simp only[c,az,DX]
def wO (dW a:List Int)(b new:Int):Option (List Int×List Int):=if b=new then some (dW,a)else if new∈dW then some (dW.erase new,a++ [b])else none
def doS (s:Su)(t:Sp):De->Option Sp
 | .cut n=>if(s.dvd.cuts n).2=0/\t.dW.length<8 then some {t with dW:=t.dW++ [n]}else none
 | .change c=>
  if t.pc.H6 c&&((t.pc.vO (t.pc.changed c)).all fun h=>(lV t.op h).isSome)then
   let e:=(t.pc.links.getD c.link.toNat default).pr
   match wO t.dW [] e.a c.pr.a with
   |none=>none
   |some (s1,p1)=>match wO s1 p1 e.b c.pr.b with
    |none=>none
    |some (i,g)=>some {t with pc:=t.pc.changed c,dW:=i++g}
  else none
 | .order h f=>if(lV t.op h).isSome then none else some {t with op:=t.op++ [(h,f)]}
 | .serve h jQ=>match lV t.op h with
  |none=>none
  |some f=>if PX s t h f 100&&decide (jQ>=G6 s t h.toNat)then some {t with op:=KO t.op h,tg:=t.tg.set h.toNat f,jQ:=t.jQ+jQ}else none
 | .set d=>if(s.days.getD (d - 1).toNat default).2&&(t.sets.isEmpty||decide (d>t.sets.getD (t.sets.length - 1) default))then some {t with sets:=t.sets++ [d]}else none
 | .strike _=>some t
def VZ {s:Su}{a b mb:Nat}{cst cse:PV}{t:Sp}(h:fC s a b mb cst cse t M):∃c e,datum M (.ptr b 0)=some (.aV [sF (t.pc.links.map Lk.dv),sF (t.pc.hands.map ay),sF (t.tg.map Fr.dv),dI s.lim,dI s.dvd.iW,sF (s.dvd.cir.map ay),dI s.cal.ep,sF (s.cal.cy.map ay),dI s.mQ.n,dI s.mQ.d,dI s.mQ.ad,sF (s.fs.map Fs.dv),dI s.year,dI s.kK,dI s.hours,dI s.vF,dI s.pct,
 sF (s.days.map yS), .slice c (t.dW.map ay), .map (some (opD t.op)),dI t.jQ, .slice e (t.sets.map ay)]):=by
 have h1:=h.box;have h2:=h.map;rw[gy]at h1
 rcases h.stk with⟨rfl,c⟩|⟨k,ver,st,rfl,c,_⟩<;>rcases h.set with⟨rfl,e⟩|⟨g,alC,f,rfl,e,_⟩
 ·exact⟨true,true,by simp[datum,bW,dS,Mem.box,Mem.row,h1,h2,h.r0,h.r1,h.r2,h.r3,h.r4,h.r5,c,e]⟩
 ·exact⟨true,false,by simp[datum,bW,dS,Mem.box,Mem.row,h1,h2,h.r0,h.r1,h.r2,h.r3,h.r4,h.r5,c,e]⟩
 ·exact⟨false,true,by simp[datum,bW,dS,Mem.box,Mem.row,h1,h2,h.r0,h.r1,h.r2,h.r3,h.r4,h.r5,c,e]⟩
 ·exact⟨false,false,by simp[datum,bW,dS,Mem.box,Mem.row,h1,h2,h.r0,h.r1,h.r2,h.r3,h.r4,h.r5,c,e]⟩
structure QM (s:Su) (t:Sp):Prop where
 ok:s.ok=true
 pc:t.pc.ok=true
 tl:t.tg.length=t.pc.hands.length
 st:t.dW.length<=100000
 se:t.sets.length<=100000
 co:0<=t.jQ/\t.jQ<=1000000000000
section
variable {bs xs:List (Option (List PV))}{b n k:Nat}{y:Option (List PV)}
def aY (h:b<bs.length):(bs++xs)[b]?=bs[b]?:=am h
def bJ (h:bs.length=n):(bs++xs)[n+k]?=xs[k]?:=by rw[<-h,bo (by omega)];congr 1;omega
def aN (h:bs.length=n):(bs++xs)[n]?=xs[0]?:=by rw[<-h,bo (by omega)];congr 1;omega
def bM (h:b<bs.length):(bs++xs).set b y=bs.set b y++xs:=List.set_append_left _ _ h
def cu (h:bs.length=n):(bs++xs).set (n+k) y=bs++xs.set k y:=by rw[<-h,bL _ _ (by omega)];congr 2;omega
def aT (h:bs.length=n):(bs++xs).set n y=bs++xs.set 0 y:=by rw[<-h,bL _ _ (by omega)];congr 2;omega
end
variable{s:Su}{a b mb:Nat}{cst cse:PV}{t:Sp}{fz:List Nat}{ar:List (Option Arr)}
def fC.ext {bs xs:List (Option (List PV))}{xf:List Nat}(h:fC s a b mb cst cse t ⟨bs,fz,ar⟩)(hf:∀i∈xf,bs.length<=i/\i<bs.length+xs.length):fC s a b mb cst cse t ⟨bs++xs,xf++fz,ar⟩/\FrS a b mb ⟨bs,fz,ar⟩ ⟨bs++xs,xf++fz,ar⟩:=by
 have d:b<bs.length:=(U.1 h.box).1;have f:mb<bs.length:=(U.1 h.map).1;constructor
 ·exact
  {box:=by simp only;rw[am d];exact h.box
   map:=by simp only;rw[am f];exact h.map
   r0:=h.r0,r1:=h.r1,r2:=h.r2,r3:=h.r3,r4:=h.r4,r5:=h.r5,stk:=h.stk,set:=h.set,kst:=h.kst,kse:=h.kse,dif:=h.dif
   nb:=fun e=>by
    rcases ax.1 e with e|e
    ·have:=hf _ e;omega
    ·exact h.nb e
   nm:=fun e=>by
    rcases ax.1 e with e|e
    ·have:=hf _ e;omega
    ·exact h.nm e
   bm:=h.bm
   fzb:=fun i e=>by
    simp only[V]
    rcases ax.1 e with e|e
    ·have:=hf _ e;omega
    ·have:=h.fzb i e;simp only at this;omega}
 ·exact
  {len:=by simp
   fzb:=fun g i c=>by
    simp only[V]
    rcases ax.1 c with e|e
    ·exact(hf _ e).2
    ·have:=g i e;simp only at this;omega
   bn:=aq _
   box:=fun i c _ _=>am c
   fz:=fun i c=>by
    simp only[ax];refine⟨fun e=>e.elim (fun e=> ?_) id, .inr⟩;have:=hf _ e;simp only at c;omega
   row:=fun _ _=>rfl}
variable{W:Bool}{c:PV}{bs:List (Option (List PV))}
def Zv {xs:List DV}{K:Int->Prop}(h:slR W c xs ar):qg c ⟨bs,fz,ar⟩ K=K xs.length:=by
 rcases h with⟨rfl,rfl⟩|⟨k,ver,st,rfl,a,_⟩
 ·rfl
 ·simp[qg,Mem.row,a]
def Zu {st1:Bool}{xs ys:List DV}{ex:Bool}{K:PV->Mem->Prop}(h:slR W c xs ar)(m:∀y∈ys,y.fits 1=true)(p:∀y∈xs,y.fits 1=true)(l:st1=true->ys≠[])(hl:xs.length+ys.length<=1073741824)
  (f:∀k ver st ar',(kOf c=some k\/k=ar.length)->ar'[k]?=some (some ⟨1,xs++ys,ver,st⟩)->(∀j,j≠k->j<ar.length->ar'[j]?=ar[j]?)->ar.length<=ar'.length->st≠2->(st1=true->st=1)->(st1=false->kOf c=some k->W=true->st=1\/xs=[])->(st1=false->kOf c=none->st=0)->K (.tsl k ver 0) ⟨bs,fz,ar'⟩):
  kH 1 st1 c (.d (.slice ex ys)) ⟨bs,fz,ar⟩ K:=by
 rcases h with⟨rfl,rfl⟩|⟨k,ver,st,rfl,i,h2,n⟩
 ·simp only[kH,yO]
  refine⟨by decide,m,l,trivial,by simp,by simpa using hl,?_⟩;refine f _ _ _ _ (.inr rfl) (by simp;rfl) (fun j g a=>by rw[am a]) (by simp) (by cases st1<;>simp) (fun e=>by simp[e]) (fun _ e=>by cases e) (fun e _=>by simp[e])
 ·have b:k<ar.length:=(U.1 i).1
  simp only[kH,yO,Mem.row,i,if_true];refine⟨by decide,m,l,trivial,h2,hl,?_⟩;refine f k (ver+1) _ _ (.inl rfl) (by simp[b];rfl) (fun j g _=>ai (Ne.symm g)) (by simp) (by cases st1<;>simp[h2]) (fun e=>by simp[e]) (fun e _ o=>by simpa[e]using n o) (fun _ e=>by cases e)
def De.one (x:De):PV.cells (.d x.dv)=[.d x.dv]/\x.dv.one=true:=⟨rfl,rfl⟩
def ah3 {M:Mem}(h:fC s a b mb cst cse t M)(ht:QM s t)(n:Int):
  SC C 229 [.ptr b 0, .d (De.cut n).dv] M (fun p M'=>∃t' qN,doS s t (.cut n)=some t'/\fC s a b mb qN cse t' M'/\FrS a b mb M M') (fun d M'=>doS s t (.cut n)=none/\Gw d/\FrS a b mb M M'):=by
 obtain⟨bs,fz,ar⟩:=M;have c:=h.box;rw[gy]at c;have A:=h.nb;have B:=h.r4;simp only at c A B;have f:b<bs.length:=(U.1 c).1;obtain⟨o1,o2,o3⟩:=EY h.stk;have x:=(De.one (.cut n)).1;have z:=(De.one (.cut n)).2;have hx:(De.cut n).dv= .iface T.eG (.agg [dI n]):=rfl;refine aC aW fB ?_;rw[hx]at x z⊢;have m:bs.length∉fz:=fun e=>ap _ (h.fzb _ e)
 have o:∀k,bs.length+k∉fz:=fun k e=>by have:=h.fzb _ e;simp only at this;omega
 have i:¬b=bs.length:=by omega
 have j:∀k,¬b=bs.length+k:=fun k=>by omega
 have g:∀k,b<bs.length+k:=fun k=>by omega
 have v:¬bs.length+1=bs.length:=by omega
 have w:=Wx s.dvd n (by have:=(Su.L6 ht.ok).ci;omega);rw[Bh,Dw]at w;simp only[aW,fB,x,z,jY,f,c,aY,bJ,aN,bM,cu,aT,Y,V,ae,ab,m,o,i,j,g,v,bC,aw,dB,RN,F,H,I,J,N,S];refine jU (qQ (d:= .agg [dI s.dvd.iW,sF (s.dvd.cir.map ay)]) (by simp[datum,bW,dS,Mem.row,B])) rfl w rfl ?_;have z0:((0:Int)==0)=true:=rfl
 by_cases l:(s.dvd.cuts n).2=0
 ·have aiH:((s.dvd.cuts n).2==0)=true:=by simp[l]
  simp only[aiH,f,c,aY,bJ,aN,bM,cu,aT,Y,V,ae,ab,m,o,i,j,g,v,dZ,RN,F,H,I,J,N,S];refine⟨by simp,?_⟩;rw[Zv h.stk]
  by_cases K:t.dW.length<8
  ·have u:decide (((t.dW.map ay).length:Int)<8)=true:=by simp;omega
   rw[u];refine⟨by kernel_rfl,BU ?_⟩;simp only[f,c,aY,g,V,o1,o2,DV.strip,gZ,RN,F,H,I,J,N,S];refine Zu h.stk (fun y L=>by simp only[br]at L;subst L;rfl) tZ (by simp) (by simp;omega) fun k ver st ar' r O P Q e5 R _ _=> ?_
   have D:=R rfl;subst D;obtain⟨W,X⟩:=h.ext (xs:=[some [PV.d (DV.iface T.eG (DV.agg [dI n]))],some [PV.d (dI n)],some [PV.d (dI (s.dvd.cuts n).fst.circle),PV.d (dI (s.dvd.cuts n).fst.turns),PV.d (dI (s.dvd.cuts n).fst.holes)]]) (xf:=[bs.length+1,bs.length]) (by simp);have Z:a+5<ar.length:=(U.1 h.r5).1;obtain⟨E,G⟩:=W.NM (k:=k) (ver:=ver) (st:=1) (xs:=t.dW++ [n]) (ar':=ar') (by
     rcases r with r|r
     ·exact h.kst k r
     ·omega) (fun e=>by
     rcases r with r|r
     ·exact h.dif k r e
     ·rcases h.set with⟨rfl,_⟩|⟨k',_,_,rfl,q,_⟩
      ·cases e
      ·cases e
       have:=(U.1 q).1;simp only at this;omega) (by rw[O];simp[ay]) P Q ⟨by decide, .inl rfl⟩
   simp only[f,c,aY,g,V,bM,m,o,i,j,A,bV,dM,RN,F,H,I,J,N,S];rw[bM f]at E G;exact⟨_,_,by simp[doS,l,K],E,X.trans G⟩
  ·have u:decide (((t.dW.map ay).length:Int)<8)=false:=by simp;omega
   rw[u];refine⟨by kernel_rfl,vT ⟨rfl,rfl⟩ ⟨by simp[doS,K],⟨_,rfl,rfl,rfl⟩,?_⟩⟩;exact(h.ext (xf:=[bs.length+1,bs.length]) (by simp)).2
 ·have aiH:((s.dvd.cuts n).2==0)=false:=by simp[l]
  simp only[aiH,f,c,aY,bJ,aN,bM,cu,aT,Y,V,ae,ab,m,o,i,j,g,v,dZ,RN,F,H,I,J,N,S];refine⟨by simp,by kernel_rfl,vT ⟨rfl,rfl⟩ ⟨by simp[doS,l],⟨_,rfl,rfl,rfl⟩,?_⟩⟩;exact(h.ext (xf:=[bs.length+1,bs.length]) (by simp)).2
section
variable {C:Ctx}{base:Nat}{KP:DV->Mem->Prop}
variable{ks:List Nat}{b:Nat}{k:DV}{M:Mem}{K:PV->Mem->Prop}
def ai7 {v:DV}(l a:List (DV×DV))(hb:M.box b=some [.gI l])(hf:b∉M.fz)(h1:gK ks k k=some true)(h2:CO ks l k v=some a)(c:K .dead {M with boxes:=M.boxes.set b (some [.gI a])}):
  ak C base (.Yd ks) [.mref b, .d k, .d v] M K KP:=by
 simp only[ak,hb,h1,h2];exact⟨hf,c⟩
def ai6 (l a:List (DV×DV))(hb:M.box b=some [.gI l])(hf:b∉M.fz)(h1:gK ks k k=some true)(h2:CJ ks l k=some a)(c:K (.d (.tup [])) {M with boxes:=M.boxes.set b (some [.gI a])}):
  ak C base (.Yb ks) [.mref b, .d k] M K KP:=by
 simp only[ak,hb,h1,h2];exact⟨hf,c⟩
end
def uM (h:Int):gK [] (dI h) (dI h)=some true:=by simp[gK]
variable{s:Su}{a b mb:Nat}{cst cse:PV}{t:Sp}{bs:List (Option (List PV))}{fz:List Nat}{ar:List (Option Arr)}
def fC.ahx (h:fC s a b mb cst cse t ⟨bs,fz,ar⟩)(c:List (Int×Fr)):
  fC s a b mb cst cse {t with op:=c} ⟨bs.set mb (some [.gI (opD c)]),fz,ar⟩/\FrS a b mb ⟨bs,fz,ar⟩ ⟨bs.set mb (some [.gI (opD c)]),fz,ar⟩:=by
 have d:mb<bs.length:=(U.1 h.map).1;constructor
 ·exact
  {box:=by simp only;rw[ai (Ne.symm h.bm)];exact h.box
   map:=by simp[d]
   r0:=h.r0,r1:=h.r1,r2:=h.r2,r3:=h.r3,r4:=h.r4,r5:=h.r5,stk:=h.stk,set:=h.set,kst:=h.kst,kse:=h.kse,dif:=h.dif
   nb:=h.nb,nm:=h.nm,bm:=h.bm
   fzb:=fun i e=>by simpa using h.fzb i e}
 ·exact
  {len:=by simp
   fzb:=fun f i g=>by have:=f i g;simpa using this
   bn:=aq _
   box:=fun i _ _ h2=>by simp only;rw[ai (Ne.symm h2)]
   fz:=fun _ _=>bt
   row:=fun _ _=>rfl}
variable{M:Mem}
def acS (h:fC s a b mb cst cse t M)(n:Int)(f:Fr):
  SC C 229 [.ptr b 0, .d (De.order n f).dv] M (fun p M'=>∃t' qN zM,doS s t (.order n f)=some t'/\fC s a b mb qN zM t' M'/\FrS a b mb M M') (fun d M'=>doS s t (.order n f)=none/\Gw d/\FrS a b mb M M'):=by
 obtain⟨bs,fz,ar⟩:=M;have c:=h.box;rw[gy]at c;have y:=h.nb;have g:=h.map;simp only at c y g;have m:b<bs.length:=(U.1 c).1;have w:mb<bs.length:=(U.1 g).1;obtain⟨O,P,Q⟩:=EY h.stk;have u:=(De.one (.order n f)).1;have v:=(De.one (.order n f)).2;have K:(De.order n f).dv= .iface T.dQ (.agg [dI n,dI f.n,dI f.d]):=rfl;rw[K]at u v⊢;have o:bs.length∉fz:=fun e=>ap _ (h.fzb _ e)
 have q:∀k,bs.length+k∉fz:=fun k e=>by have:=h.fzb _ e;simp only at this;omega
 have i:¬b=bs.length:=by omega
 have j:∀k,¬b=bs.length+k:=fun k=>by omega
 have l:∀k,b<bs.length+k:=fun k=>by omega
 have r:¬bs.length+1=bs.length:=by omega
 have A:(T.dQ==T.eG)=false:=by decide
 have B:(T.dQ==T.bI)=false:=by decide
 refine aC aW fB ?_;simp only[aW,fB,u,v,jY,eU A,eU B,m,c,aY,bJ,aN,bM,cu,aT,Y,V,ae,ab,o,q,i,j,l,r,RN,F,H,I,J,N,S];refine NI (opD t.op) ((lV t.op n).map Fr.dv) (by simp[Mem.box,am w,g]) (uM n) (EZ _ _) ?_;obtain⟨z,D⟩:=h.ext (xs:=[some [PV.d (DV.iface T.dQ (DV.agg [dI n,dI f.n,dI f.d]))],some [PV.d (dI n),pI f.n,pI f.d],some [pI 0,pI 0]]) (xf:=[bs.length+1,bs.length]) (by simp);cases x:lV t.op n with
 |none=>
  simp only[DK,aw,bw,a7,m,c,aY,bJ,aN,bM,cu,aT,Y,V,ae,ab,o,q,i,j,l,r,dZ,RN,F,H,I,J,N,S];refine⟨by simp,by kernel_rfl,BU ?_⟩;simp only[m,c,aY,bJ,aN,bM,cu,aT,Y,V,ae,ab,o,q,i,j,l,r,RN,F,H,I,J,N,S];refine ai7 (opD t.op) (opD (t.op++ [(n,f)])) (by simp[Mem.box,am w,g]) z.nm (uM n) (by rw[<-dG];exact aje _ _ _ x) ?_;obtain⟨E,G⟩:=z.ahx (t.op++ [(n,f)]);exact⟨_,_,_,by simp[doS,x],E,D.trans G⟩
 |some L=>
  simp only[DK,az,bz,a8,m,c,aY,bJ,aN,bM,cu,aT,Y,V,ae,ab,o,q,i,j,l,r,dZ,dG,RN,F,H,I,J,N,S];refine⟨by simp,by kernel_rfl,vT ⟨rfl,rfl⟩ ⟨by simp[doS,x],⟨_,rfl,rfl,rfl⟩,?_⟩⟩;exact(h.ext (xf:=[bs.length+1,bs.length]) (by simp)).2
def fC.agA {ar':List (Option Arr)}(h:fC s a b mb cst cse t ⟨bs,fz,ar⟩){k ver st:Nat}{xs:List Int}(hk:a+6<=k)(hd:kOf cst≠some k)
  (h1:ar'[k]?=some (some ⟨1,xs.map ay,ver,st⟩))(h2:∀j,j≠k->j<ar.length->ar'[j]?=ar[j]?)(hl:ar.length<=ar'.length)(hst:st≠2):
  fC s a b mb cst (.tsl k ver 0) {t with sets:=xs} ⟨bs.set b (some (gy s a mb cst (.tsl k ver 0) t.jQ)),fz,ar'⟩/\FrS a b mb ⟨bs,fz,ar⟩ ⟨bs.set b (some (gy s a mb cst (.tsl k ver 0) t.jQ)),fz,ar'⟩:=by
 have g:b<bs.length:=(U.1 h.box).1;have d:∀(j:Nat) (A:Arr),j≠k->ar[j]?=some (some A)->ar'[j]?=some (some A):=fun j A c f=>by
  rw[h2 j c (U.1 f).1];exact f
 constructor
 ·exact
  {box:=by simp[g]
   map:=by
    have:=h.map;have n:=h.bm;simp only at this⊢;rw[ai n];exact this
   r0:=d _ _ (by omega) h.r0
   r1:=d _ _ (by omega) h.r1
   r2:=d _ _ (by omega) h.r2
   r3:=d _ _ (by omega) h.r3
   r4:=d _ _ (by omega) h.r4
   r5:=d _ _ (by omega) h.r5
   stk:=o8 h.stk fun j A c f=>d j A (fun e=>hd (e▸c)) f
   set:= .inr ⟨k,ver,st,rfl,h1,hst,fun e=>by cases e⟩
   kst:=h.kst
   kse:=fun j c=>by cases c;exact hk
   dif:=fun j c e=>by cases e;exact hd c
   nb:=h.nb
   nm:=h.nm
   bm:=h.bm
   fzb:=fun i l=>by simpa using h.fzb i l}
 ·exact
  {len:=by simp
   fzb:=fun p i l=>by have:=p i l;simpa using this
   bn:=hl
   box:=fun i _ o _=>by simp only;rw[ai (Ne.symm o)]
   fz:=fun _ _=>bt
   row:=fun j c=>by
    by_cases m:j<ar.length
    ·exact h2 j (by omega) m
    ·exact absurd (U.1 h.r0).1 (by simp only;omega)}
def ah4 (h:fC s a b mb cst cse t M)(ht:QM s t)(n:Nat)(hn:n<s.days.length):
  SC C 229 [.ptr b 0, .d (De.set (n+1:Nat)).dv] M (fun p M'=>∃t' qN zM,doS s t (.set (n+1:Nat))=some t'/\fC s a b mb qN zM t' M'/\FrS a b mb M M') (fun d M'=>doS s t (.set (n+1:Nat))=none/\Gw d/\FrS a b mb M M'):=by
 obtain⟨bs,fz,ar⟩:=M;have c:=h.box;rw[gy]at c;have D:=h.nb;simp only at c D;have f:b<bs.length:=(U.1 c).1;obtain⟨o1,o2,o3⟩:=EY h.set;have A:=(De.one (.set (n+1:Nat))).1;have B:=(De.one (.set (n+1:Nat))).2;have hx:(De.set (n+1:Nat)).dv= .iface T.eH (.agg [dI (n+1:Nat)]):=rfl;rw[hx]at A B⊢;have l:bs.length∉fz:=fun e=>ap _ (h.fzb _ e)
 have m:∀k,bs.length+k∉fz:=fun k e=>by have:=h.fzb _ e;simp only at this;omega
 have g:¬b=bs.length:=by omega
 have i:∀k,¬b=bs.length+k:=fun k=>by omega
 have j:∀k,b<bs.length+k:=fun k=>by omega
 have o:¬bs.length+1=bs.length:=by omega
 have c1:(T.eH==T.eG)=false:=by decide
 have c2:(T.eH==T.bI)=false:=by decide
 have c3:(T.eH==T.dQ)=false:=by decide
 have c4:(T.eH==T.dF)=false:=by decide
 have ai:s.days.length<=366:=by
  have:=uF (s.cal.leap s.year);simp only[Su.days,Su.tV,Z,bX,Su.dur]
  split at this<;>omega
 have e1:ck .i64 (((n+1:Nat):Int) - 1)=(n:Int):=by rw[aF (by omega)];omega
 have K:(0:Int)<=(n:Int):=by omega
 have x:((((n+1:Nat):Int) - 1).toNat)=n:=by omega
 refine aC aW fB ?_;simp only[aW,fB,A,B,jY,eU c1,eU c2,eU c3,eU c4,f,c,aY,bJ,aN,bM,cu,aT,Y,V,ae,ab,l,m,g,i,j,o,e1,K,an,hn,Z,getD_map,Xn,RN,F,H,I,J,N,S];obtain⟨g1,g2⟩:=h.ext (xs:=[some [PV.d (DV.iface T.eH (DV.agg [dI (n+1:Nat)]))],some [PV.d (dI (n+1:Nat))]]) (xf:=[bs.length+1,bs.length]) (by simp);have ac:a+5<ar.length:=(U.1 h.r5).1;have u:∀(KP:DV->Mem->Prop),doS s t (.set (n+1:Nat))=some {t with sets:=t.sets++ [((n+1:Nat):Int)]}->
   kH 1 false cse (PV.d (DV.slice true [dI (n+1:Nat)])) ⟨bs++ [some [PV.d (DV.iface T.eH (DV.agg [dI (n+1:Nat)]))],some [PV.d (dI (n+1:Nat))]],(bs.length+1)::bs.length::fz,ar⟩ (fun v G=>
    iV 1 (PV.ptr b 21) v G fun M'=>∃t' qN zM,doS s t (.set (n+1:Nat))=some t'/\fC s a b mb qN zM t' M'/\FrS a b mb ⟨bs,fz,ar⟩ M'):=by
  intro _ O;refine Zu h.set (fun y hy=>by simp only[br]at hy;subst hy;rfl) tZ (by simp) (by have:=ht.se;simp;omega) fun k ver st ar' e1 K x e4 e5 e6 _ _=> ?_
  obtain⟨Q,R⟩:=g1.agA (k:=k) (ver:=ver) (st:=st) (xs:=t.sets++ [((n+1:Nat):Int)]) (ar':=ar') (by
    rcases e1 with e1|e1
    ·exact h.kse k e1
    ·omega) (fun e=>by
    rcases e1 with e1|e1
    ·exact h.dif k e e1
    ·rcases h.stk with⟨rfl,_⟩|⟨k',_,_,rfl,q,_⟩
     ·cases e
     ·cases e
      have:=(U.1 q).1;simp only at this;omega) (by rw[K];simp[ay]) x e4 e5
  simp only[f,c,aY,bJ,aN,bM,cu,aT,Y,V,ae,ab,l,m,g,i,j,o,D,bV,dM,RN,F,H,I,J,N,S];rw[bM f]at Q R;exact⟨_,_,_,O,Q,g2.trans R⟩
 cases E:(s.days.getD n default).2
 ·simp only[f,c,aY,bJ,aN,bM,cu,aT,Y,V,ae,ab,l,m,g,i,j,o,dZ,RN,F,H,I,J,N,S]
  refine⟨by kernel_rfl,vT ⟨rfl,rfl⟩ ⟨by simp only[doS,x,E,b8];rfl,⟨_,rfl,rfl,rfl⟩,?_⟩⟩;exact(h.ext (xf:=[bs.length+1,bs.length]) (by simp)).2
 ·by_cases z:t.sets=[]
  ·have w:(((t.sets.map ay).length:Int)==0)=true:=by simp[z]
   simp only[f,c,aY,bJ,aN,bM,cu,aT,Y,V,ae,ab,l,m,g,i,j,o,dZ,Zv h.set,w,RN,F,H,I,J,N,S];refine⟨by kernel_rfl,BU ?_⟩;simp only[f,c,aY,bJ,aN,bM,cu,aT,Y,V,ae,ab,l,m,g,i,j,o,o1,o2,DV.strip,gZ,RN,F,H,I,J,N,S];exact u (fun _ _=>True) (by simp only[doS,x,E,z];rfl)
  ·have w:((t.sets.length:Int)==0)=false:=by simp[z]
   rcases h.set with⟨_,hh⟩|⟨k,ver,st,L,W,_⟩
   ·exact absurd (by simpa using hh) z
   simp only at W;have X:0<t.sets.length:=List.length_pos_iff.2 z;have q1:ck .i64 ((t.sets.length:Int) - 1)=((t.sets.length - 1:Nat):Int):=by rw[aF (by have:=ht.se;omega)];omega
   have q2:(0:Int)<=((t.sets.length - 1:Nat):Int):=by omega
   have q3:t.sets.length - 1<t.sets.length:=by omega
   simp only[f,c,aY,bJ,aN,bM,cu,aT,Y,V,ae,ab,l,m,g,i,j,o,dZ,L,bA,w,q1,q2,q3,W,an,Z,getD_map,aZ,RN,F,H,I,J,N,S];refine⟨by kernel_rfl,?_⟩
   by_cases r:((n+1:Nat):Int)>t.sets.getD (t.sets.length - 1) default
   ·rw[decide_eq_true r]
    refine BU ?_;simp only[f,c,aY,bJ,aN,bM,cu,aT,Y,V,ae,ab,l,m,g,i,j,o,o1,o2,DV.strip,gZ,RN,F,H,I,J,N,S];exact u (fun _ _=>True) (by simp only[doS,x,E,decide_eq_true r,Bool.or_true,bh,if_true])
   ·rw[decide_eq_false r]
    have P:t.sets.isEmpty=false:=by simpa using z
    refine vT ⟨rfl,rfl⟩ ⟨by simp only[doS,x,E,decide_eq_false r,P,Bool.or_false,b7];rfl,⟨_,rfl,rfl,rfl⟩,?_⟩;exact(h.ext (xf:=[bs.length+1,bs.length]) (by simp)).2
variable{ds:List DV}
def Ky {p:PV}{d:DV}{ps:List PV}(h:datum M p=some d)(a:cZ M ps=some ds):cZ M (p::ps)=some (d::ds):=by
 simp only[cZ,h,a]
def fC.akw (h:fC s a b mb cst cse t ⟨bs,fz,ar⟩)(c:List Fr):
  fC s a b mb cst cse {t with tg:=c} ⟨bs,fz,ar.set (a+2) (some ⟨2,c.map Fr.dv,0,1⟩)⟩/\FrS a b mb ⟨bs,fz,ar⟩ ⟨bs,fz,ar.set (a+2) (some ⟨2,c.map Fr.dv,0,1⟩)⟩:=by
 have g:a+2<ar.length:=(U.1 h.r2).1;have d:∀(j:Nat) (A:Arr),j≠a+2->ar[j]?=some (some A)->(ar.set (a+2) (some ⟨2,c.map Fr.dv,0,1⟩))[j]?=some (some A):=fun j A e f=>by
  rw[ai (Ne.symm e)];exact f
 constructor
 ·exact
  {box:=h.box
   map:=h.map
   r0:=d _ _ (by omega) h.r0
   r1:=d _ _ (by omega) h.r1
   r2:=by simp[g]
   r3:=d _ _ (by omega) h.r3
   r4:=d _ _ (by omega) h.r4
   r5:=d _ _ (by omega) h.r5
   stk:=o8 h.stk fun j A e f=>d j A (by have:=h.kst j e;omega) f
   set:=o8 h.set fun j A e f=>d j A (by have:=h.kse j e;omega) f
   kst:=h.kst,kse:=h.kse,dif:=h.dif,nb:=h.nb,nm:=h.nm,bm:=h.bm,fzb:=h.fzb}
 ·exact
  {len:=aq _
   fzb:=fun k i l=>by have:=k i l;simpa using this
   bn:=by simp
   box:=fun _ _ _ _=>rfl
   fz:=fun _ _=>bt
   row:=fun j e=>by simp only;rw[ai (by omega)]}
def fC.adT (h:fC s a b mb cst cse t ⟨bs,fz,ar⟩)(c:Int):
  fC s a b mb cst cse {t with jQ:=c} ⟨bs.set b (some (gy s a mb cst cse c)),fz,ar⟩/\FrS a b mb ⟨bs,fz,ar⟩ ⟨bs.set b (some (gy s a mb cst cse c)),fz,ar⟩:=by
 have d:b<bs.length:=(U.1 h.box).1;constructor
 ·exact
  {box:=by simp[d]
   map:=by
    have:=h.map;have f:=h.bm;simp only at this⊢;rw[ai f];exact this
   r0:=h.r0,r1:=h.r1,r2:=h.r2,r3:=h.r3,r4:=h.r4,r5:=h.r5,stk:=h.stk,set:=h.set
   kst:=h.kst,kse:=h.kse,dif:=h.dif,nb:=h.nb,nm:=h.nm,bm:=h.bm
   fzb:=fun i e=>by simpa using h.fzb i e}
 ·exact
  {len:=by simp
   fzb:=fun j i e=>by have:=j i e;simpa using this
   bn:=aq _
   box:=fun i _ g _=>by simp only;rw[ai (Ne.symm g)]
   fz:=fun _ _=>bt
   row:=fun _ _=>rfl}
def acT (h:fC s a b mb cst cse t M)(D:QM s t)(n:Nat)(hn:n<t.pc.hands.length)(c:Int)(hc:0<=c/\c<=1000000000):
  SC C 229 [.ptr b 0, .d (De.serve n c).dv] M (fun p M'=>∃t' qN zM,doS s t (.serve n c)=some t'/\fC s a b mb qN zM t' M'/\FrS a b mb M M') (fun d M'=>doS s t (.serve n c)=none/\Gw d/\FrS a b mb M M'):=by
 obtain⟨bs,fz,ar⟩:=M;have g:=h.box;rw[gy]at g;have ai:=h.nb;have u:=h.map;have z:=h.r2;simp only at g ai u z;have m:b<bs.length:=(U.1 g).1;have O:mb<bs.length:=(U.1 u).1;obtain⟨o1,o2,o3⟩:=EY h.stk;have G:=(De.one (.serve n c)).1;have K:=(De.one (.serve n c)).2;have hx:(De.serve n c).dv= .iface T.dF (.agg [dI n,dI c]):=rfl;rw[hx]at G K⊢;have o:bs.length∉fz:=fun e=>ap _ (h.fzb _ e)
 have q:∀k,bs.length+k∉fz:=fun k e=>by have:=h.fzb _ e;simp only at this;omega
 have i:¬b=bs.length:=by omega
 have j:∀k,¬b=bs.length+k:=fun k=>by omega
 have l:∀k,b<bs.length+k:=fun k=>by omega
 have r:¬bs.length+1=bs.length:=by omega
 have c1:(T.dF==T.eG)=false:=by decide
 have c2:(T.dF==T.bI)=false:=by decide
 have c3:(T.dF==T.dQ)=false:=by decide
 have ao:=(Pc.zI D.pc).2;have av:=(Pc.zI D.pc).1;have L:0<=s.lim/\s.lim<=10800:=by simpa[inR]using(Su.facts D.ok).2.2.1
 refine aC aW fB ?_;simp only[aW,fB,G,K,jY,eU c1,eU c2,eU c3,m,g,aY,bJ,aN,bM,cu,aT,Y,V,ae,ab,o,q,i,j,l,r,RN,F,H,I,J,N,S];refine NI (opD t.op) ((lV t.op n).map Fr.dv) (by simp[Mem.box,am O,u]) (uM n) (EZ _ _) ?_;cases W:lV t.op n with
 |none=>
  simp only[DK,aw,bw,a7,m,g,aY,bJ,aN,bM,cu,aT,Y,V,ae,ab,o,q,i,j,l,r,dZ,RN,F,H,I,J,N,S];refine⟨by simp,by kernel_rfl,vT ⟨rfl,rfl⟩ ⟨by simp[doS,W],⟨_,rfl,rfl,rfl⟩,?_⟩⟩;exact(h.ext (xf:=[bs.length+2,bs.length+1,bs.length]) (by simp)).2
 |some f=>
  obtain⟨X,g2⟩:=h.ext (xs:=[some [PV.d (DV.iface T.dF (DV.agg [dI n,dI c]))],some [PV.d (dI n),pI c],some [pI f.n,pI f.d]]) (xf:=[bs.length+2,bs.length+1,bs.length]) (by simp);obtain⟨e1,e2,Q⟩:=VZ X;have hk:=adE e1 e2 s t n f 100 (by omega) (by omega) L;have hp:=Zp e1 e2 s t n D.pc hn;rw[dG,bT]at hk;rw[bT]at hp;simp only[DK,az,bz,a8,m,g,aY,bJ,aN,bM,cu,aT,Y,V,ae,ab,o,q,i,j,l,r,dZ,dG,RN,F,H,I,J,N,S];refine⟨by simp,?_⟩;refine jU (Ky Q rfl) rfl hk rfl ?_;cases y:PX s t n f 100
  ·simp only[m,g,aY,bJ,aN,bM,cu,aT,Y,V,ae,ab,o,q,i,j,l,r,dZ,RN,F,H,I,J,N,S]
   exact⟨by kernel_rfl,vT ⟨rfl,rfl⟩ ⟨by simp[doS,W,y],⟨_,rfl,rfl,rfl⟩,g2⟩⟩
  ·simp only[m,g,aY,bJ,aN,bM,cu,aT,Y,V,ae,ab,o,q,i,j,l,r,RN,F,H,I,J,N,S]
   refine jU (Ky Q rfl) rfl hp rfl ?_;simp only[m,g,aY,bJ,aN,bM,cu,aT,Y,V,ae,ab,o,q,i,j,l,r,dZ,RN,F,H,I,J,N,S];refine⟨by kernel_rfl,?_⟩
   by_cases w:c>=G6 s t n
   ·rw[decide_eq_true w]
    refine BU ?_;simp only[m,g,aY,bJ,aN,bM,cu,aT,Y,V,ae,ab,o,q,i,j,l,r,RN,F,H,I,J,N,S];refine ai6 (opD t.op) (opD (KO t.op n)) (by simp[Mem.box,am O,u]) X.nm (uM n) (ajd _ _) ?_;obtain⟨R,g4⟩:=X.ahx (KO t.op n);obtain⟨B,hB⟩:∃B,B=(bs++ [some [PV.d (DV.iface T.dF (DV.agg [dI n,dI c]))],some [PV.d (dI n),pI c],some [pI f.n,pI f.d]]).set mb (some [.gI (opD (KO t.op n))]):=⟨_,rfl⟩
    rw[<-hB]at R g4;simp only[<-hB];have v:=R.box;rw[gy]at v;have E:b<B.length:=(U.1 v).1;have x:=R.nb;simp only at v x;have A:n<t.tg.length:=by rw[D.tl];exact hn
    have j0:(0:Int)<=(n:Int):=by omega
    simp only[v,E,z,j0,A,an,Z,RN,F,H,I,J,N,S];have P:(t.tg.map Fr.dv).set n (setCells ((t.tg.map Fr.dv).getD n default) 0 [dI f.n,dI f.d])=(t.tg.set n f).map Fr.dv:=by
     rw[cg,getD_map A];rfl
    have ac:ck .i64 (t.jQ+c)=t.jQ+c:=aF (by have:=D.co;omega);refine EF (ds:=[dI f.n,dI f.d]) z rfl (by decide) rfl rfl (by rw[getD_map A];exact aq 2) ?_;rw[P];obtain⟨g5,g6⟩:=R.akw (t.tg.set n f);obtain⟨g7,g8⟩:=g5.adT (t.jQ+c);simp only[v,E,x,ac,RN,F,H,I,J,N,S];refine⟨by simpa using x,{t with op:=KO t.op n,tg:=t.tg.set n f,jQ:=t.jQ+c},cst,cse,by simp[doS,W,y,w],g7,?_⟩;exact((g2.trans g4).trans g6).trans g8
   ·rw[decide_eq_false w]
    exact vT ⟨rfl,rfl⟩ ⟨by simp[doS,W,y,w],⟨_,rfl,rfl,rfl⟩,g2⟩
def aaD (h:fC s a b mb cst cse t M)(n:Int):
  SC C 229 [.ptr b 0, .d (De.strike n).dv] M (fun p M'=>∃t' qN zM,doS s t (.strike n)=some t'/\fC s a b mb qN zM t' M'/\FrS a b mb M M') (fun d M'=>doS s t (.strike n)=none/\Gw d/\FrS a b mb M M'):=by
 obtain⟨bs,fz,ar⟩:=M;have c:=(De.one (.strike n)).1;have e:=(De.one (.strike n)).2;have o:(De.strike n).dv= .iface T.bD (.agg [dI n]):=rfl;rw[o]at c e⊢;have f:(T.bD==T.eG)=false:=by decide
 have g:(T.bD==T.bI)=false:=by decide
 have i:(T.bD==T.dQ)=false:=by decide
 have j:(T.bD==T.dF)=false:=by decide
 have k:(T.bD==T.eH)=false:=by decide
 refine aC aW fB ?_;simp only[aW,fB,c,e,aN,eU f,eU g,eU i,eU j,eU k,aT,V,RN,F,H,I,J,N,S];obtain⟨l,m⟩:=h.ext (xs:=[some [PV.d (DV.iface T.bD (DV.agg [dI n]))]]) (xf:=[bs.length]) (by simp);exact⟨t,cst,cse,rfl,l,m⟩
def TS {base:Nat}{KP:DV->Mem->Prop}{f:FuncId}{args:List PV}{ds':List DV}{r:PV}{c:List Arr}(h:Pure C f ds' r c)(g:Ux r=true)(a:c.all kU=true){K:PV->Mem->Prop}
  (b:cZ M args=some ds)(e:ds.map DV.strip=ds')(d:K (r.shift M.aB.length) {M with aB:=M.aB++c.map some}):ak C base (.Hy f) args M K KP:=
 ⟨_,_,VO h g a b e ⟨rfl,rfl⟩,d⟩
def fC.rows {ar xs:List (Option Arr)}(h:fC s a b mb cst cse t ⟨bs,fz,ar⟩):fC s a b mb cst cse t ⟨bs,fz,ar++xs⟩/\FrS a b mb ⟨bs,fz,ar⟩ ⟨bs,fz,ar++xs⟩:=by
 have c:∀(j:Nat) (A:Arr),ar[j]?=some (some A)->(ar++xs)[j]?=some (some A):=fun j A d=>by
  rw[am (U.1 d).1];exact d
 constructor
 ·exact
  {box:=h.box,map:=h.map
   r0:=c _ _ h.r0,r1:=c _ _ h.r1,r2:=c _ _ h.r2,r3:=c _ _ h.r3,r4:=c _ _ h.r4,r5:=c _ _ h.r5
   stk:=o8 h.stk fun j A _ d=>c j A d
   set:=o8 h.set fun j A _ d=>c j A d
   kst:=h.kst,kse:=h.kse,dif:=h.dif,nb:=h.nb,nm:=h.nm,bm:=h.bm,fzb:=h.fzb}
 ·exact
  {len:=aq _
   fzb:=fun e i f=>by have:=e i f;simpa using this
   bn:=by simp
   box:=fun _ _ _ _=>rfl
   fz:=fun _ _=>bt
   row:=fun j g=>by
    have:=(U.1 h.r0).1;simp only at this⊢;rw[am (by omega)]}
def fC.other (h:fC s a b mb cst cse t ⟨bs,fz,ar⟩){k:Nat}{A:Arr}(hk:a+6<=k)(h1:kOf cst≠some k)(h2:kOf cse≠some k):
  fC s a b mb cst cse t ⟨bs,fz,ar.set k (some A)⟩/\FrS a b mb ⟨bs,fz,ar⟩ ⟨bs,fz,ar.set k (some A)⟩:=by
 have c:∀(j:Nat) (B:Arr),j≠k->ar[j]?=some (some B)->(ar.set k (some A))[j]?=some (some B):=fun j B d g=>by
  rw[ai (Ne.symm d)];exact g
 constructor
 ·exact
  {box:=h.box,map:=h.map
   r0:=c _ _ (by omega) h.r0
   r1:=c _ _ (by omega) h.r1
   r2:=c _ _ (by omega) h.r2
   r3:=c _ _ (by omega) h.r3
   r4:=c _ _ (by omega) h.r4
   r5:=c _ _ (by omega) h.r5
   stk:=o8 h.stk fun j B d f=>c j B (fun e=>h1 (e▸d)) f
   set:=o8 h.set fun j B d f=>c j B (fun e=>h2 (e▸d)) f
   kst:=h.kst,kse:=h.kse,dif:=h.dif,nb:=h.nb,nm:=h.nm,bm:=h.bm,fzb:=h.fzb}
 ·exact
  {len:=aq _
   fzb:=fun l i m=>by have:=l i m;simpa using this
   bn:=by simp
   box:=fun _ _ _ _=>rfl
   fz:=fun _ _=>bt
   row:=fun j d=>by simp only;rw[ai (by omega)]}
def fC.aku (h:fC s a b mb cst cse t ⟨bs,fz,ar⟩)(p:Pc)(l:p.hands=t.pc.hands):
  fC s a b mb cst cse {t with pc:=p} ⟨bs,fz,ar.set a (some ⟨3,p.links.map Lk.dv,0,1⟩)⟩/\FrS a b mb ⟨bs,fz,ar⟩ ⟨bs,fz,ar.set a (some ⟨3,p.links.map Lk.dv,0,1⟩)⟩:=by
 have f:a<ar.length:=(U.1 h.r0).1;have c:∀(j:Nat) (A:Arr),j≠a->ar[j]?=some (some A)->(ar.set a (some ⟨3,p.links.map Lk.dv,0,1⟩))[j]?=some (some A):=fun j A d e=>by
  rw[ai (Ne.symm d)];exact e
 constructor
 ·exact
  {box:=h.box,map:=h.map
   r0:=by simp[f]
   r1:=c _ _ (by omega) (by rw[l];exact h.r1)
   r2:=c _ _ (by omega) h.r2
   r3:=c _ _ (by omega) h.r3
   r4:=c _ _ (by omega) h.r4
   r5:=c _ _ (by omega) h.r5
   stk:=o8 h.stk fun j A d e=>c j A (by have:=h.kst j d;omega) e
   set:=o8 h.set fun j A d e=>c j A (by have:=h.kse j d;omega) e
   kst:=h.kst,kse:=h.kse,dif:=h.dif,nb:=h.nb,nm:=h.nm,bm:=h.bm,fzb:=h.fzb}
 ·exact
  {len:=aq _
   fzb:=fun g i k=>by have:=g i k;simpa using this
   bn:=by simp
   box:=fun _ _ _ _=>rfl
   fz:=fun _ _=>bt
   row:=fun j d=>by simp only;rw[ai (by omega)]}
section
variable {C:Ctx}{base:Nat}{KP:DV->Mem->Prop}{K:PV->Mem->Prop}{M:Mem}{x y:PV}{l:List PV}
def xE:ak C base (.ext 0) [.tup (x::l)] M K KP=K x M:=px
def xG:ak C base (.ext 1) [.tup (x::y::l)] M K KP=K y M:=px
end
variable{f:FuncId}{args:List PV}{M:Mem}{K:PV->Mem->Prop}{KP:DV->Mem->Prop}
def JX (h:SC C f args M K (fun _ _=>False)):SC C f args M K KP:=by
 intro X w E a i g;refine(h X w E a i g).mono fun e l b=> ?_
 cases e with
 |returned v=>exact b
 |panicked c=>
  obtain⟨v,d,k,j,_,hh,_⟩:=b;exact hh.elim
 |outgrown=>exact b.elim
def YA (p q:Pc):(p.vO q).length<=p.hands.length:=Jj _ _ _ _
def Ih (l:List Int):kU ⟨1,l.map ay,0,vP l⟩=true:=by
 cases l with
 |nil=>rfl
 |cons x l=>
  have:∀l:List Int,(flat (l.map ay)).all Y2=true:=by
   intro l
   induction l with
   |nil=>rfl
   |cons x l a=>simp only[flat,bj,bS,List.all_append]at a⊢;rw[a];rfl
  simp only[kU,this (x::l)]
  rfl
variable{bs:List (Option (List PV))}{b:Nat}
def afY {y:Option (List PV)}(h:b<bs.length):(bs.set b y)[b]?=some y:=by simp[h]
variable{W:Bool}{c:PV}{fz:List Nat}{ar:List (Option Arr)}
def aeN {x:PV}{xs ys:List DV}(h:slR W c xs ar)(hx:yO 1 x ⟨bs,fz,ar⟩=some ys)(g:∀y∈ys,y.fits 1=true)(hl:xs.length+ys.length<=1073741824)
  (e:∀k ver st ar',((kOf c=some k/\(∃l,ar[k]?=some (some ⟨1,xs,l,st⟩))/\(W=true->st=1\/xs=[]))\/(kOf c=none/\k=ar.length/\st=0/\xs=[]))->ar'[k]?=some (some ⟨1,xs++ys,ver,st⟩)->(∀j,j≠k->j<ar.length->ar'[j]?=ar[j]?)->ar.length<=ar'.length->st≠2->K (.tsl k ver 0) ⟨bs,fz,ar'⟩):
  kH 1 false c x ⟨bs,fz,ar⟩ K:=by
 rcases h with⟨rfl,rfl⟩|⟨k,ver,st,rfl,b,h2,i⟩
 ·simp only[kH,hx]
  refine⟨by decide,g,by simp,trivial,by simp,by simpa using hl,?_⟩;exact e _ _ 0 _ (.inr ⟨rfl,rfl,rfl,rfl⟩) (by simp) (fun j f a=>by rw[am a]) (by simp) (by simp)
 ·have d:k<ar.length:=(U.1 b).1
  simp only[kH,hx,Mem.row,b,if_true];refine⟨by decide,g,by simp,trivial,h2,hl,?_⟩;exact e k (ver+1) st _ (.inl ⟨rfl,⟨ver,b⟩,i⟩) (by simp[d]) (fun j f _=>ai (Ne.symm f)) (by simp) h2
def afu (s:Su)(a b mb:Nat)(cst cse:PV)(t:Sp)(bs:List (Option (List PV)))(fz:List Nat)(ar:List (Option Arr))(g:Nat)(o v:Int)(P:Nat->Nat->Prop)(c:Chg)(h:Pr)(r:Option (List Int×List Int))(e:Ex)(st:St):Prop:=
 match e with
 | .normal=>∃s1 p1 Q8 ver i f ex,r=some (s1,p1)/\st=⟨[(0, .ptr b 0),(4, .d (.func (.func 281) [] [.aV [.iface T.bI (.agg [.int .i64 c.link, .int .i64 c.pr.a, .int .i64 c.pr.b])]])),(8, .d (.aV [.int .i64 c.link, .int .i64 c.pr.a, .int .i64 c.pr.b])),(15, .d (.aV [.int .i64 h.a, .int .i64 h.b])),(16, .tsl g ver 0)]++ex,f⟩/\
   fC s a b mb Q8 cse {t with dW:=s1} f/\FrS a b mb ⟨bs,fz,ar⟩ f/\f.aB[g]?=some (some ⟨1,p1.map ay,ver,i⟩)/\i≠2/\kOf Q8≠some g/\g<f.aB.length/\kOf cse≠some g/\(p1=[]\/∃k ver,Q8= .tsl k ver 0/\f.aB[k]?=some (some ⟨1,s1.map ay,ver,1⟩))
 | .panic d=>r=none/\Gw d/\FrS a b mb ⟨bs,fz,ar⟩ st.mem
 | _=>False
def acG (s:Su)(a b mb:Nat)(cse:PV)(t:Sp)(bs:List (Option (List PV)))(fz:List Nat)(ar:List (Option Arr))(g:Nat)(c:Chg)(r:Option (List Int×List Int))(e:Ex)(st:St):Prop:=
 match e with
 | .normal=>∃s1 p1 Q8 ver h env f,r=some (s1,p1)/\st=⟨env,f⟩/\Am.look env 0= .ptr b 0/\Am.look env 8= .d (.aV [.int .i64 c.link, .int .i64 c.pr.a, .int .i64 c.pr.b])/\Am.look env 16= .tsl g ver 0/\
   fC s a b mb Q8 cse {t with dW:=s1} f/\FrS a b mb ⟨bs,fz,ar⟩ f/\f.aB[g]?=some (some ⟨1,p1.map ay,ver,h⟩)/\h≠2/\kOf Q8≠some g/\g<f.aB.length/\kOf cse≠some g/\(p1=[]\/∃k ver,Q8= .tsl k ver 0/\f.aB[k]?=some (some ⟨1,s1.map ay,ver,1⟩))
 | .panic d=>r=none/\Gw d/\FrS a b mb ⟨bs,fz,ar⟩ st.mem
 | _=>False
variable{s1 p1:List Int}
def QF {st ps:List Int}{o v:Int}(h:wO st ps o v=some (s1,p1)):s1.length<=st.length/\p1.length<=ps.length+1:=by
 unfold wO at h
 split at h
 ·cases h;omega
 ·split at h
  ·cases h
   simp only[V,be,aR];exact⟨List.length_erase_le,by omega⟩
  ·cases h
def PD (ax:ab4){s:Su}{a b mb:Nat}{cst cse:PV}{t:Sp}{M:Mem}(h:fC s a b mb cst cse t M)(ht:QM s t)(c:Chg)(hc:t.pc.H6 c=true):
  SC C 229 [.ptr b 0, .d (De.change c).dv] M (fun p M'=>∃t' qN zM,doS s t (.change c)=some t'/\fC s a b mb qN zM t' M'/\FrS a b mb M M') (fun d M'=>doS s t (.change c)=none/\Gw d/\FrS a b mb M M'):=by
 obtain⟨bs,fz,ar⟩:=M;have x:=h.box;rw[gy]at x;have bE:=h.nb;have aD:=h.map;have be:=h.r0;have bj:=h.r1;simp only at x bE aD be bj;have bt:b<bs.length:=(U.1 x).1;have bS:mb<bs.length:=(U.1 aD).1;have a5:=(De.one (.change c)).1;have a6:=(De.one (.change c)).2;have hx:(De.change c).dv= .iface T.bI (.agg [dI c.link,dI c.pr.a,dI c.pr.b]):=rfl;rw[hx]at a5 a6⊢;have bv:bs.length∉fz:=fun e=>ap _ (h.fzb _ e)
 have bB:∀k,bs.length+k∉fz:=fun k e=>by have:=h.fzb _ e;simp only at this;omega
 have bp:¬b=bs.length:=by omega
 have bq:∀k,¬b=bs.length+k:=fun k=>by omega
 have br:∀k,b<bs.length+k:=fun k=>by omega
 have bN:¬bs.length+1=bs.length:=by omega
 have c1:(T.bI==T.eG)=false:=by decide
 have a1:=ab9 t.pc c hc;rw[jR,Dv]at a1;refine aC aW fB ?_;simp only[aW,fB,a5,a6,jY,eU c1,bt,x,aY,bJ,aN,bM,cu,aT,Y,V,ae,ab,bv,bB,bp,bq,br,bN,bC,aw,dB,RN,F,H,I,J,N,S];obtain⟨sp,af6⟩:∃sp,sp=t.pc.vO (t.pc.changed c):=⟨_,rfl⟩
 rw[<-af6]at a1;refine TS a1 rfl (by simp only[ca,cf,Bool.and_true];exact Ih sp) (qQ (d:= .agg [sF (t.pc.links.map Lk.dv),sF (t.pc.hands.map ay)]) (by simp[datum,bW,dS,Mem.row,be,bj])) rfl ?_;obtain⟨g1,g2⟩:=h.ext (xs:=[some [PV.d (DV.iface T.bI (DV.agg [dI c.link,dI c.pr.a,dI c.pr.b]))],some [PV.d (dI c.link),PV.d (dI c.pr.a),PV.d (dI c.pr.b)]]) (xf:=[bs.length+1,bs.length]) (by simp);obtain⟨g3,g4⟩:=g1.rows (xs:=[some ⟨1,sp.map ay,0,vP sp⟩]);have y0:((0:Int)==0)=true:=rfl;have a9:(ar++ [some (⟨1,sp.map ay,0,vP sp⟩:Arr)])[ar.length]?=some (some ⟨1,sp.map ay,0,vP sp⟩):=by simp
 simp only[PV.shift,Ov,jE,y0,dZ,xE,xG,RN,F,H,I,J,N,S];refine⟨by kernel_rfl,BU ?_⟩;have akg:sp.length<=4:=by
  have:=(Pc.zI ht.pc).2.2;rw[af6];exact bk (YA _ _) this
 simp only[a9,bA,Z,RN,F,H,I,J,N,S];refine aG sp.length (fun i (z:Mem)=>⟨[(0, .ptr b 0),(4, .d (.func (.func 281) [] [.aV [.iface T.bI (.agg [dI c.link,dI c.pr.a,dI c.pr.b])]])),(8, .d (.aV [dI c.link,dI c.pr.a,dI c.pr.b])),(83, .tsl ar.length 0 0),(84,pI sp.length),(85,pI i)],z⟩)
  (fun i z=>fC s a b mb cst cse t z/\FrS a b mb ⟨bs,fz,ar⟩ z/\z.aB[ar.length]?=some (some ⟨1,sp.map ay,0,vP sp⟩)/\(sp.all fun h=>(lV t.op h).isSome)=((sp.drop i).all fun h=>(lV t.op h).isSome)) 0 _ (av _) rfl ⟨g3,g2.trans g4,a9,rfl⟩ (fun i z k1 aM=> ?_) (fun z aM=> ?_)
 ·obtain⟨k2,k3,k6⟩:=rng k1 (by omega)
  obtain⟨p1,p2,p3,p4⟩:=aM;rw[drop_cons k1,ca]at p4;obtain⟨g,B,j⟩:=z;have sN:=p1.box;rw[gy]at sN;have l:=p1.map;simp only at sN l p3;have adn:b<g.length:=(U.1 sN).1;have aj3:mb<g.length:=(U.1 l).1;have O:g.length∉B:=fun e=>ap _ (p1.fzb _ e)
  have P:∀k,g.length+k∉B:=fun k e=>by have:=p1.fzb _ e;simp only at this;omega
  have D:¬b=g.length:=by omega
  have E:∀k,¬b=g.length+k:=fun k=>by omega
  have G:∀k,b<g.length+k:=fun k=>by omega
  simp only[k2,k3,k1,p3,bA,Z,getD_map,an,aZ,adn,sN,aY,bJ,aN,bM,cu,aT,Y,V,ae,ab,O,P,D,E,G,RN,F,H,I,J,N,S];refine NI (opD t.op) ((lV t.op (sp.getD i default)).map Fr.dv) (by simp[Mem.box,am aj3,l]) (uM _) (EZ _ _) ?_;cases hg:lV t.op (sp.getD i default)with
  |none=>
   rw[hg,a7,b8]at p4;simp only[DK,aw,bw,a7,adn,sN,aY,bJ,aN,bM,cu,aT,Y,V,ae,ab,O,P,D,E,G,dZ,RN,F,H,I,J,N,S];refine⟨by kernel_rfl,vT ⟨rfl,rfl⟩ ⟨by simp only[doS,<-af6,p4,b7];rfl,⟨_,rfl,rfl,rfl⟩,?_⟩⟩;exact p2.trans (p1.ext (xf:=[]) (by simp)).2
  |some f0=>
   rw[hg,a8,Bool.true_and]at p4;simp only[DK,az,bz,a8,adn,sN,aY,bJ,aN,bM,cu,aT,Y,V,ae,ab,O,P,D,E,G,dZ,dG,RN,F,H,I,J,N,S];refine⟨by kernel_rfl,BU ?_⟩;simp only[k6,RN,F,H,I,J,N,S];obtain⟨x1,x2⟩:=p1.ext (xs:=[some [pI f0.n,pI f0.d]]) (xf:=[]) (by simp);exact kZ (len:=sp.length) (i:=i) _ k1 rfl ⟨x1,p2.trans x2,p3,p4⟩
 ·obtain⟨p1,p2,p3,p4⟩:=aM
  rw[List.drop_length,cf]at p4;obtain⟨g,B,j⟩:=z;have sN:=p1.box;rw[gy]at sN;have l:=p1.map;have akd:=p1.r0;simp only at sN l p3 akd;have adn:b<g.length:=(U.1 sN).1;have aj3:mb<g.length:=(U.1 l).1;have O:g.length∉B:=fun e=>ap _ (p1.fzb _ e)
  have P:∀k,g.length+k∉B:=fun k e=>by have:=p1.fzb _ e;simp only at this;omega
  have D:¬b=g.length:=by omega
  have E:∀k,¬b=g.length+k:=fun k=>by omega
  have G:∀k,b<g.length+k:=fun k=>by omega
  have bc:0<=c.link/\c.link.toNat<t.pc.links.length:=by
   simp only[Pc.H6,ao,inR,decide_eq_true_eq]at hc;omega
  obtain⟨j0,ac⟩:=bc;obtain⟨f,y⟩:∃f,f=(t.pc.links.getD c.link.toNat default).pr:=⟨_,rfl⟩
  simp only[bi,adn,sN,aY,bJ,aN,bM,cu,aT,Y,V,ae,ab,O,P,D,E,G,akd,j0,ac,Z,getD_map,Cj,<-y,RN,F,H,I,J,N,S];obtain⟨x1,x2⟩:=p1.ext (xs:=[some [pI f.a,pI f.b]]) (xf:=[g.length]) (by simp);obtain⟨x3,x4⟩:=x1.rows (xs:=[some ⟨1,[],0,0⟩]);have x5:=(p2.trans x2).trans x4;have R:∀k,kOf cst=some k->k≠j.length:=fun k hk e=>by
   rcases p1.stk with⟨rfl,_⟩|⟨k',_,_,rfl,q,_⟩
   ·cases hk
   ·cases hk
    have:=(U.1 q).1;simp only at this;omega
  have aiS:∀k,kOf cse=some k->k≠j.length:=fun k hk e=>by
   rcases p1.set with⟨rfl,_⟩|⟨k',_,_,rfl,q,_⟩
   ·cases hk
   ·cases hk
    have:=(U.1 q).1;simp only at this;omega
  have ajO:a+5<j.length:=(U.1 p1.r5).1;refine ng (Q:=afu s a b mb cst cse t bs fz ar j.length f.a c.pr.a (fun _ _=>True) c f (wO t.dW [] f.a c.pr.a)) (fun e st X=> ?_) ?_
  ·cases e with
   |normal=>
    obtain⟨s1,u,Q8,ver,sn,z,ex,W,rfl,y1,y2,y3,y4,y5,y6,y7,y8⟩:=X;have L:=QF W;have bX:=ht.st;have alB:=y5;(try simp only[RN,F,H,I,J,N,S]);refine ng (Q:=acG s a b mb cse t bs fz ar j.length c (wO s1 u f.b c.pr.b)) (fun e st X=> ?_) ?_
    ·cases e with
     |normal=>
      obtain⟨s2,a2,alq,YH,b0,alr,M2,aE,rfl,l0,l8,bO,w1,w2,w3,w4,w5,w6,w7,w8⟩:=X;have aR:=QF aE;obtain⟨aL,a3,v⟩:=M2;have UF:=w1.box;rw[gy]at UF;have aj9:=w1.nb;simp only at UF aj9 w3;have ajR:b<aL.length:=(U.1 UF).1;obtain⟨o1,o2,o3⟩:=EY w1.stk;have bR:a+5<v.length:=(U.1 w1.r5).1;simp only[l0,l8,bO,UF,ajR,RN,F,H,I,J,N,S];refine aeN (ys:=a2.map ay) w1.stk (by simp[yO,Mem.row,w3]) tZ (by have:=L;have:=aR;simp at*;omega) fun k ver st ar' o e2 e3 e4 e5=> ?_
      have bo:st=1\/s2++a2=[]:=by
       rcases w8 with hp|⟨k8,v8,a4,h8⟩
       ·subst hp
        rcases o with⟨_,_,o⟩|⟨_,_,_,o⟩
        ·exact(o rfl).imp id fun e=>by simpa using e
        ·exact .inr (by simpa using o)
       ·rcases o with⟨e0,⟨v0,o⟩,_⟩|⟨o,_⟩
        ·rw[a4]at e0
         cases e0;simp only at h8;rw[o]at h8;simp at h8;exact .inl h8.2
        ·rw[a4]at o;cases o
      obtain⟨g5,g6⟩:=w1.NM (k:=k) (ver:=ver) (st:=st) (xs:=s2++a2) (ar':=ar') (by
        rcases o with⟨o,_⟩|⟨_,o,_⟩
        ·exact w1.kst k o
        ·omega) (fun e=>by
        rcases o with⟨o,_⟩|⟨_,o,_⟩
        ·exact w1.dif k o e
        ·rcases w1.set with⟨rfl,_⟩|⟨k',_,_,rfl,q,_⟩
         ·cases e
         ·cases e
          have:=(U.1 q).1;simp only at this;omega) (by rw[e2];simp) e3 e4 ⟨e5,bo⟩
      have a0:=g5.r0;simp only at a0;simp only[UF,ajR,aj9,afY,ab,bV,dM,l0,l8,a0,j0,ac,Z,an,RN,F,H,I,J,N,S];have bl:(t.pc.links.map Lk.dv).set c.link.toNat (setCells ((t.pc.links.map Lk.dv).getD c.link.toNat default) 1 [dI c.pr.a,dI c.pr.b])=(t.pc.changed c).links.map Lk.dv:=by
       rw[Pc.changed,cg,getD_map ac];rfl
      refine EF (ds:=[dI c.pr.a,dI c.pr.b]) a0 rfl (by decide) rfl rfl (by rw[getD_map ac];exact aq 3) ?_;rw[bl];obtain⟨g7,g8⟩:=g5.aku (t.pc.changed c) rfl;exact⟨_,_,_,by simp only[doS,hc,<-af6,p4,bh,if_true,<-y,W,aE],g7,((w2.trans g6).trans g8)⟩
     |panic d=>
      obtain⟨h1,h2,h3⟩:=X;(try simp only[RN,F,H,I,J,N,S]);refine⟨?_,h2,h3⟩;simp only[doS,<-y,W,h1]
      split<;>rfl
     |ret=>exact X.elim
     |exit id=>exact X.elim
    ·by_cases m:f.b=c.pr.b
     ·have w:(f.b !=c.pr.b)=false:=by simp[m]
      simp only[w,RN,F,H,I,J,N,S];refine⟨s1,u,Q8,ver,sn,_,z,by rw[wO,if_pos m],rfl,rfl,rfl,rfl,y1,y2,y3,y4,y5,y6,y7,y8⟩
     ·have w:(f.b !=c.pr.b)=true:=by simp[m]
      simp only[w,RN,F,H,I,J,N,S];refine JX (SC.mono (Zx ax y1 c.pr.b (by simp only;omega)) ?_);rintro p M2 (⟨q1,rfl,rfl⟩|⟨q1,rfl,qN,q2,q3,q4,⟨kk,kv,rfl,q8⟩,q5⟩)
      ·simp only[dZ,RN,F,H,I,J,N,S]
       refine⟨by kernel_rfl,vT ⟨rfl,rfl⟩ ?_⟩;refine⟨by rw[wO,if_neg m,if_neg q1],⟨_,rfl,rfl,rfl⟩,y2⟩
      ·obtain⟨aL,a3,v⟩:=M2
       simp only[dZ,RN,F,H,I,J,N,S];refine⟨by kernel_rfl,BU ?_⟩;have r:v[j.length]?=some (some ⟨1,u.map ay,ver,sn⟩):=by
        have:=q5 j.length y5;simp only at this;rw[this];exact y3
       have K:j.length<v.length:=(U.1 r).1;simp only[r,dV,DV.strip,gZ,fits_int,forall_eq,y4,Z,RN,F,H,I,J,N,S];obtain⟨q6,q7⟩:=q2.other (k:=j.length) (A:=⟨1,(u++ [f.b]).map ay,ver+1,sn⟩) (by omega) (by rw[q4];exact y5) y7;have bL:u.length<=1073741823:=by have:=L.2;simp at this;omega
       have bu:u.map ay++ [dI f.b]=(u++ [f.b]).map ay:=by simp[ay]
       rw[bu];refine⟨by simp,bL,s1.erase c.pr.b,u++ [f.b], .tsl kk kv 0,ver+1,sn,_,_,by rw[wO,if_neg m,if_pos q1],rfl,rfl,rfl,rfl,q6,(y2.trans q3).trans q7,by simp[K],y4,by rw[q4];exact y5,by simp;exact K,y7, .inr ⟨kk,kv,rfl,?_⟩⟩;simp only;rw[ai (fun e=>y5 (by rw[<-q4,e];rfl))];exact q8
   |panic d=>
    obtain⟨h1,h2,h3⟩:=X;(try simp only[RN,F,H,I,J,N,S]);refine⟨?_,h2,h3⟩;simp only[doS,<-y,h1]
    split<;>rfl
   |ret=>exact X.elim
   |exit id=>exact X.elim
  ·by_cases m:f.a=c.pr.a
   ·have w:(f.a !=c.pr.a)=false:=by simp[m]
    simp only[w,RN,F,H,I,J,N,S];refine⟨t.dW,[],cst,0,0,_,[_],by rw[wO,if_pos m],rfl,x3,x5,by simp,by decide,fun e=>R _ e rfl,by simp,fun e=>aiS _ e rfl, .inl rfl⟩
   ·have w:(f.a !=c.pr.a)=true:=by simp[m]
    simp only[w,RN,F,H,I,J,N,S];refine JX (SC.mono (Zx ax x3 c.pr.a (by have:=ht.st;omega)) ?_);rintro p M2 (⟨q1,rfl,rfl⟩|⟨q1,rfl,qN,q2,q3,q4,⟨kk,kv,rfl,q8⟩,q5⟩)
    ·simp only[dZ,RN,F,H,I,J,N,S]
     refine⟨by kernel_rfl,vT ⟨rfl,rfl⟩ ?_⟩;refine⟨by rw[wO,if_neg m,if_neg q1],⟨_,rfl,rfl,rfl⟩,x5⟩
    ·obtain⟨aL,a3,v⟩:=M2
     simp only[dZ,RN,F,H,I,J,N,S];refine⟨by kernel_rfl,BU ?_⟩;have r:v[j.length]?=some (some ⟨1,[],0,0⟩):=by
      have:=q5 j.length (fun e=>R _ e rfl);simp only at this;rw[this];simp
     simp only[r,dV,DV.strip,gZ,fits_int,forall_eq,RN,F,H,I,J,N,S];have K:j.length<v.length:=(U.1 r).1;obtain⟨q6,q7⟩:=q2.other (k:=j.length) (A:=⟨1,[dI f.a],1,0⟩) (by omega) (fun e=>R _ (q4▸e) rfl) (fun e=>aiS _ e rfl);refine⟨by simp,t.dW.erase c.pr.a,[f.a], .tsl kk kv 0,1,0,_,[],by rw[wO,if_neg m,if_pos q1];rfl,rfl,q6,(x5.trans q3).trans q7,by simp[K,ay],by decide,fun e=>R _ (q4▸e) rfl,by simp;exact K,fun e=>aiS _ e rfl, .inr ⟨kk,kv,rfl,by simp only;rw[ai (fun e=>R _ (q4▸rfl) e.symm)];exact q8⟩⟩
def akK (s:Su)(t:Sp):De->Prop
 | .change c=>t.pc.H6 c=true
 | .serve h c=>(0<=h/\h.toNat<t.pc.hands.length)/\0<=c/\c<=1000000000
 | .set d=>1<=d/\d.toNat<=s.days.length
 | _=>True
def Ul (e:ab4){s:Su}{a b mb:Nat}{cst cse:PV}{t:Sp}{M:Mem}(h:fC s a b mb cst cse t M)(g:QM s t)(x:De)(hx:akK s t x):
  SC C 229 [.ptr b 0, .d x.dv] M (fun p M'=>∃t' qN zM,doS s t x=some t'/\fC s a b mb qN zM t' M'/\FrS a b mb M M') (fun d M'=>doS s t x=none/\Gw d/\FrS a b mb M M'):=by
 cases x with
 |cut n=>
  refine SC.mono (ah3 h g n) fun p M' l=> ?_
  obtain⟨t',qN,h1,h2,i⟩:=l;exact⟨t',qN,cse,h1,h2,i⟩
 |change c=>exact PD e h g c hx
 |order n f=>exact acS h n f
 |serve n c=>
  obtain⟨⟨h1,h2⟩,i⟩:=hx;obtain⟨k,rfl⟩:=Int.eq_ofNat_of_zero_le h1;exact acT h g k (by simpa using h2) c i
 |set d=>
  obtain⟨h1,h2⟩:=hx;obtain⟨k,j⟩:∃k:Nat,d=((k+1:Nat):Int):=⟨(d - 1).toNat,by omega⟩
  subst j;exact ah4 h g k (by omega)
 |strike n=>exact aaD h n
def TD (p:Pc)(c:Chg)(k:p.ok=true)(l:inR c.link 0 (p.links.length - 1)=true)(hc:c.pr.ok=true)(n:c.pr=(p.links.getD c.link.toNat default).pr):Pure C 282 [p.dv,c.dv] (.d (.tup [.slice true [],dI 2])) []:=by
 have g:=Pc.good k;have i:0<=c.link/\c.link<=(p.links.length:Int) - 1:=by simpa[inR]using l
 have h:c.link.toNat<p.links.length:=by have:=g.l1;omega
 have q:=g.l2;have o:=g.h2;have j:=ug p (by omega) (by omega);have f:=S9 c.pr;have m:ck .i64 ((p.links.length:Int) - 1)=(p.links.length:Int) - 1:=aF (by omega);have e:((c.pr.a==(p.links.getD c.link.toNat default).pr.a)&&(c.pr.b==(p.links.getD c.link.toNat default).pr.b))=true:=by rw[Zo];simpa using n
 refine ah Ee bQ ?_;simp only[jR,Dv,sJ]at j f⊢;simp only[Ee,bQ,RN,F,H,I,J,N,S];refine au j ?_;simp only[k,Z,m,RN,F,H,I,J,N,S];refine au (Ez _ _ _) ?_;simp only[l,RN,F,H,I,J,N,S];refine au f ?_;simp only[hc,i.1,h,getD_map,Cj,Z,xC,e,J8,RN,F,H,I,J,N,S]
def xW (n:Int):DV:= .tup [.slice true [],dI n]
def Zg {w w':World}{O O':Nat->Prop}{v:Value}{n:Int}(h:bF w O v (xW n)):bF w' O' v (xW n):=by
 unfold xW at*;cases h with|tup h=>
 generalize a:Array.toList _=vs at h;cases h with|cons h1 h2=>
 cases h2 with|cons d e=>
 cases e;cases d;refine .tup ?_;rw[a];refine .cons ?_ (.cons (.int _ _) .nil);cases h1 with
 |empty b=>exact .empty b
 |slice f i c j g b hh=>
  simp only[aR]at c;subst c;exact .empty b
variable{ds ds':List DV}
def aji {n:Int}(h:Pure C f ds' (.d (xW n)) [])(k:cZ M args=some ds)(l:ds.map DV.strip=ds')(p:K (.d (xW n)) M):SC C f args M K KP:=by
 subst l;intro X w E c a o;have i:=lY a args;have hd:=(tN a o k (fun q r=>r)).strip;refine(h (away X (M.frz args) E) w c a.glob (fun b j=> .inl (a.gG b j)) (fun b j=>i.wP j) hd).mono fun e z l=> ?_
 obtain⟨v,x,rfl,g,m,s⟩:=l;obtain⟨t,u,y⟩:=Ew a (Fe a g m rfl) m (by simp);exact⟨_,_,_,(by simpa using p),t,u, .d (Zg s.toD)⟩
def ZU {base:Nat}{n:Int}(h:Pure C f ds' (.d (xW n)) [])(a:cZ M args=some ds)(c:ds.map DV.strip=ds')(b:K (.d (xW n)) M):ak C base (.Hy f) args M K KP:=
 ⟨_,_,aji h a c ⟨rfl,rfl⟩,b⟩
variable{s:Su}{t:Sp}
def afy {a mb:Nat}{cst cse:PV}(h:fC s a b mb cst cse t M)(D:QM s t)(c:Chg)(B:inR c.link 0 (t.pc.links.length - 1)=true)(hc:c.pr.ok=true)(z:c.pr=(t.pc.links.getD c.link.toNat default).pr):
  SC C 229 [.ptr b 0, .d (De.change c).dv] M (fun p M'=>∃t' qN zM,doS s t (.change c)=some t'/\fC s a b mb qN zM t' M'/\FrS a b mb M M') (fun d M'=>doS s t (.change c)=none/\Gw d/\FrS a b mb M M'):=by
 have x:t.pc.H6 c=false:=by simp[Pc.H6,z]
 obtain⟨bs,fz,ar⟩:=M;have f:=h.box;rw[gy]at f;have j:=h.r0;have l:=h.r1;simp only at f j l;have u:b<bs.length:=(U.1 f).1;have g:=(De.one (.change c)).1;have i:=(De.one (.change c)).2;have E:(De.change c).dv= .iface T.bI (.agg [dI c.link,dI c.pr.a,dI c.pr.b]):=rfl;rw[E]at g i⊢;have v:bs.length∉fz:=fun e=>ap _ (h.fzb _ e)
 have w:∀k,bs.length+k∉fz:=fun k e=>by have:=h.fzb _ e;simp only at this;omega
 have o:¬b=bs.length:=by omega
 have q:∀k,¬b=bs.length+k:=fun k=>by omega
 have r:∀k,b<bs.length+k:=fun k=>by omega
 have y:¬bs.length+1=bs.length:=by omega
 have A:(T.bI==T.eG)=false:=by decide
 have m:=TD t.pc c D.pc B hc z;rw[jR,Dv]at m;refine aC aW fB ?_;simp only[aW,fB,g,i,jY,eU A,u,f,aY,bJ,aN,bM,cu,aT,Y,V,ae,ab,v,w,o,q,r,y,bC,aw,dB,RN,F,H,I,J,N,S];refine ZU (n:=2) m (qQ (d:= .agg [sF (t.pc.links.map Lk.dv),sF (t.pc.hands.map ay)]) (by simp[datum,bW,dS,Mem.row,j,l])) rfl ?_;have G:((2:Int)==0)=false:=rfl;simp only[xW,G,dZ,RN,F,H,I,J,N,S];refine⟨by kernel_rfl,vT ⟨rfl,rfl⟩ ⟨by simp[doS,x],⟨_,rfl,rfl,rfl⟩,?_⟩⟩;exact(h.ext (xf:=[bs.length+1,bs.length]) (by simp)).2
def kQ (s:Su)(t:Sp):De->Prop
 | .change c=>inR c.link 0 (t.pc.links.length - 1)=true/\c.pr.ok=true
 | .serve h c=>(0<=h/\h.toNat<t.pc.hands.length)/\0<=c/\c<=1000000000
 | .set d=>1<=d/\d.toNat<=s.days.length
 | _=>True
def acR (e:ab4){s:Su}{a b mb:Nat}{cst cse:PV}{t:Sp}{M:Mem}(h:fC s a b mb cst cse t M)(g:QM s t)(x:De)(hx:kQ s t x):
  SC C 229 [.ptr b 0, .d x.dv] M (fun p M'=>∃t' qN zM,doS s t x=some t'/\fC s a b mb qN zM t' M'/\FrS a b mb M M') (fun d M'=>doS s t x=none/\Gw d/\FrS a b mb M M'):=by
 cases x with
 |change c=>
  obtain⟨h1,h2⟩:=hx
  by_cases i:c.pr=(t.pc.links.getD c.link.toNat default).pr
  ·exact afy h g c h1 h2 i
  ·refine PD e h g c ?_
   simp only[Pc.H6,g.pc,h1,h2,decide_eq_false i,bh,Bool.not_false]
 |cut n=>exact Ul e h g _ trivial
 |order n f=>exact Ul e h g _ trivial
 |serve n c=>exact Ul e h g _ hx
 |set d=>exact Ul e h g _ hx
 |strike n=>exact Ul e h g _ trivial
variable{l:List DV}
def Ub:PV.cells (.d (.aV l))=[.d (.aV l)]:=rfl
def ad2:DV.one (.aV l)=true:=rfl
def iK (s:Su)(ce cs:PV):List PV:=[.d (.aV s.cs), .d (sF (s.days.map yS)),ce,cs]
def aff (s:Su)(hs:s.Small)(bs:List (Option (List PV)))(fz:List Nat)(ar:List (Option Arr))(KP:DV->Mem->Prop)(a:∀i∈fz,i<bs.length):
  SC C 82 [.d s.dv] ⟨bs,fz,ar⟩ (fun p M'=>(s.ok=false/\p= .d (.tup [.nilPtr,dI 2]))\/(s.ok=true/\p= .tup [.ptr (bs.length+2) 0,pI 0]/\∃x1 x2,M'=⟨bs++ [x1,x2,some (iK s (.d (.slice true [])) (.d (.slice true [])))],(bs.length+1)::bs.length::fz,ar⟩)) KP:=by
 have j:=aa6 s hs;rw[FN]at j;refine aC yj JV ?_;simp only[yj,JV,FN,aY,bJ,aN,bM,cu,aT,Y,V,ae,ab,RN,F,H,I,J,N,S];refine au j ?_;cases b:s.ok
 ·(try simp only[RN,F,H,I,J,N,S])
  exact .inl trivial
 ·(try simp only[RN,F,H,I,J,N,S])
  have h:=acJ s (Su.L6 b);have l:=aju s b;rw[FN]at h l;refine au h ?_;simp only[aY,bJ,aN,bM,cu,aT,Y,V,ae,ab,RN,F,H,I,J,N,S];have c:bs.length∉fz:=fun e=>ap _ (a _ e)
  have f:∀k,bs.length+k∉fz:=fun k e=>by have:=a _ e;omega
  have g:¬bs.length+1=bs.length:=by omega
  simp only[c,f,g,aY,bJ,aN,bM,cu,aT,Y,V,ae,ab,RN,F,H,I,J,N,S];refine au l ?_;simp only[aY,bJ,aN,bM,cu,aT,Y,V,ae,ab,Ub,ad2,l7,aw,dh,RN,F,H,I,J,N,S];exact .inr ⟨_,_,by rw[iK,Uh]⟩
def Vt {ls ms:List Lk}(h:∀i,(ls.getD i default).fr=(ms.getD i default).fr):∀(k a:Nat),vV ls k a=vV ms k a
 |0,_=>rfl
 | _+1,0=>rfl
 |k+1,a+1=>by simp only[vV,h a];rw[Vt h k]
def afX {ls ms:List Lk}(h:ls.map (·.fr)=ms.map (·.fr))(i:Nat):(ls.getD i default).fr=(ms.getD i default).fr:=by
 have h1:=congrArg (fun l=>l[i]?) h;simp only[aE]at h1;simp only[bl];cases h2:ls[i]?<;>cases a:ms[i]?<;>simp_all
def NH:∀(ls b pre a:List Lk),ls.map (·.fr)=b.map (·.fr)->pre.map (·.fr)=a.map (·.fr)->(∀l∈b,l.pr.ok=true)->pJ pre ls=true->pJ a b=true
 | [],[],_,_,_,_,_,_=>rfl
 | [],_::_,_,_,h,_,_,_=>by simp at h
 | _::_,[],_,_,h,_,_,_=>by simp at h
 |l::ls,j::b,pre,a,h,f,d,g=>by
  simp only[bj,List.cons.injEq]at h;obtain⟨h1,h2⟩:=h;have c:pre.length=a.length:=by simpa using congrArg List.length f
  simp only[pJ,ao,vN]at g⊢;obtain⟨⟨⟨k,_⟩,m⟩,n⟩:=g;refine⟨⟨⟨?_,d j bq⟩,?_⟩,NH ls b _ _ h2 (by simp[f,h1]) (fun x i=>d x (aL _ i)) n⟩
  ·rw[<-h1,<-c];exact k
  ·have e:fZ a l.fr.toNat=fZ pre l.fr.toNat:=(Vt (afX f) _ _).symm
   rw[<-h1]
   simpa only[e]using m
def Xg {p:Pc}{c:Chg}(h:p.ok=true)(hc:c.pr.ok=true):(p.changed c).ok=true:=by
 have e:=Pc.good h;have f:(p.changed c).links.length=p.links.length:=by simp[Pc.changed]
 have a:=h;simp only[Pc.ok,ao]at a⊢;obtain⟨⟨⟨g,j⟩,k⟩,l⟩:=a;rw[f];refine⟨⟨⟨g,j⟩,NH p.links _ [] [] ?_ rfl (Ba e hc).2.2 k⟩,l⟩;apply bR;intro i;simp only[Pc.changed,aE,List.getElem?_set]
 by_cases b:c.link.toNat=i
 ·subst b
  by_cases d:c.link.toNat<p.links.length
  ·simp[d,bl]
  ·simp[bE (Nat.le_of_not_lt d)];omega
 ·simp[b]
structure Dp (s:Su) (n:Nat) (t:Sp):Prop where
 ok:s.ok=true
 pc:t.pc.ok=true
 ll:t.pc.links.length=s.pc.links.length
 hh:t.pc.hands=s.pc.hands
 tl:t.tg.length=s.pc.hands.length
 st:t.dW.length<=n
 se:t.sets.length<=n
 co:0<=t.jQ/\t.jQ<=(n:Int)*1000000000
 sv:∀d∈t.sets,1<=d/\d<=366
def zN (s:Su):s.days.length<=366:=by
 have:=uF (s.cal.leap s.year);simp only[Su.days,Su.tV,Z,bX,Su.dur]
 split at this<;>omega
def Dp.sp {n:Nat}(h:Dp s n t)(a:n<=1000):QM s t:=⟨h.ok,h.pc,by rw[h.tl,h.hh],by have:=h.st;omega,by have:=h.se;omega,by have:=h.co;omega⟩
variable{t':Sp}
def kQ.same {n:Nat}(h:t.pc.links.length=t'.pc.links.length)(hh:t.pc.hands=t'.pc.hands){x:De}(hx:kQ s t x):kQ s t' x:=by
 cases x<;>simp only[kQ,h,hh]at hx⊢<;>exact hx
def QG {dW c:List Int}{a b:Int}(h:wO dW c a b=some (s1,p1)):s1.length+p1.length=dW.length+c.length:=by
 unfold wO at h
 split at h
 ·cases h;rfl
 ·split at h
  ·rename_i d
   cases h;have:=List.length_erase_of_mem d;have e:=List.length_pos_of_mem d;simp;omega
  ·cases h
def ah2 {n:Nat}(h:Dp s n t){x:De}(hx:kQ s t x)(hd:doS s t x=some t'):Dp s (n+1) t':=by
 have v:=h.co;have p:=h.st;have l:=h.se;cases x with
 |cut m=>
  simp only[doS]at hd
  split at hd
  ·cases hd;exact⟨h.ok,h.pc,h.ll,h.hh,h.tl,by simp;omega,by simp only;omega,by simp only;omega,h.sv⟩
  ·cases hd
 |change c=>
  obtain⟨h1,h2⟩:=hx;simp only[doS]at hd
  split at hd
  ·generalize a:wO t.dW [] _ _=g at hd
   cases g with
   |none=>cases hd
   |some g=>
    obtain⟨s1,p1⟩:=g;simp only at hd;generalize b:wO s1 p1 _ _=i at hd;cases i with
    |none=>cases hd
    |some i=>
     obtain⟨r,q⟩:=i;simp only at hd;cases hd;have j:=QG a;have k:=QG b;have u:r.length+q.length=t.dW.length:=by simpa[j]using k
     exact⟨h.ok,Xg h.pc h2,by simp[Pc.changed,h.ll],h.hh,h.tl,by simp;omega,by simp only;omega,by simp only;omega,h.sv⟩
  ·cases hd
 |order m f=>
  simp only[doS]at hd
  split at hd
  ·cases hd
  ·cases hd;exact⟨h.ok,h.pc,h.ll,h.hh,h.tl,by simp only;omega,by simp only;omega,by simp only;omega,h.sv⟩
 |serve m c=>
  obtain⟨_,h2⟩:=hx;simp only[doS]at hd;generalize lV t.op m=o at hd;cases o with
  |none=>cases hd
  |some f=>
   simp only at hd
   split at hd
   ·cases hd;exact⟨h.ok,h.pc,h.ll,h.hh,by simp[h.tl],by simp only;omega,by simp only;omega,by simp only;omega,h.sv⟩
   ·cases hd
 |set d=>
  simp only[doS]at hd
  split at hd
  ·cases hd;exact⟨h.ok,h.pc,h.ll,h.hh,h.tl,by simp only;omega,by simp;omega,by simp only;omega,fun x hm=>by
    rcases ax.1 hm with hm|hm
    ·exact h.sv x hm
    ·simp only[br]at hm
     obtain⟨h1,h2⟩:=hx;have:=zN s;rw[hm];omega⟩
  ·cases hd
 |strike e=>
  simp only[doS]at hd;cases hd;exact⟨h.ok,h.pc,h.ll,h.hh,h.tl,by omega,by omega,by omega,h.sv⟩
structure Dk where
 su:Su
 es:List En
 st:List Bool
 deriving DecidableEq,Inhabited
def kX:List En->List Bool->Nat->List (Nat×De)
 |x::xs,b::bs,i=>if x.kind≠6/\b=false then(i,x.deed)::kX xs bs (i+1)else kX xs bs (i+1)
 | _,_,_=>[]
def Dk.stands (d:Dk):List (Nat×De):=kX d.es d.st 0
def Su.sp0 (s:Su):Sp:=⟨s.pc,s.tg,[],[],0,[]⟩
def Ce (s:Su):List De->Sp->Option Sp
 | [],t=>some t
 |x::l,t=>(doS s t x).bind (Ce s l)
def Dk.without (d:Dk)(w:Int):List De:=(d.stands.filter fun p=>decide ((p.1:Int)≠w)).map (·.2)
def Dk.state (d:Dk)(w:Int):Option Sp:=Ce d.su (d.without w) d.su.sp0
def En.formed (x:En):Bool:=inR x.kind 1 6&&decide (x.ns.length=uN x.kind)&&x.ns.all fun n=>inR n 0 9999
def Dk.jS (d:Dk):De->Bool
 | .cut n=>bH n
 | .change c=>inR c.link 0 (d.su.pc.links.length - 1)&&c.pr.ok
 | .order h f=>inR h 0 (d.su.pc.hands.length - 1)&&f.ok
 | .serve h _=>inR h 0 (d.su.pc.hands.length - 1)
 | .set n=>inR n 1 d.su.days.length
 | .strike e=>inR e 0 (d.es.length - 1)&&decide ((d.es.getD e.toNat default).kind≠6)
structure Dk.Ok (d:Dk):Prop where
 su:d.su.ok=true
 len:d.es.length=d.st.length
 few:d.es.length<=24
 formed:∀x∈d.es,x.formed=true
 fine:∀x∈d.es,kQ d.su d.su.sp0 x.deed
variable{d:Dk}
def Y1 {x:En}(hx:x.formed=true)(hf:d.jS x.deed=true):kQ d.su d.su.sp0 x.deed:=by
 simp only[En.formed,ao,decide_eq_true_eq,bv]at hx;obtain⟨⟨h1,h2⟩,g⟩:=hx;have k:∀i,i<x.ns.length->0<=x.n i/\x.n i<=9999:=fun i j=>by
  have:=g _ (getD_mem j)
  simpa[inR,En.n]using this
 unfold En.deed at hf⊢
 split
 ·trivial
 ·split
  ·rename_i a b
   rw[if_neg a,if_pos b]at hf
   simpa[Dk.jS,kQ,Su.sp0]using hf
  ·split
   ·trivial
   ·split
    ·rename_i a b f c
     rw[if_neg a,if_neg b,if_neg f,if_pos c]at hf;have e:x.ns.length=2:=by rw[h2,uN,c];rfl
     have l:=k 1 (by omega);simp only[Dk.jS,inR,ao,decide_eq_true_eq]at hf;refine⟨⟨by omega,by simp only[Su.sp0];omega⟩,by omega,by omega⟩
    ·split
     ·rename_i a b f c h
      rw[if_neg a,if_neg b,if_neg f,if_neg c,if_pos h]at hf;simp only[Dk.jS,inR,ao,decide_eq_true_eq]at hf;exact⟨by omega,by omega⟩
     ·trivial
def vC:∀(es:List En) (st:List Bool) (i:Nat) (p:Nat×De),p∈kX es st i->∃x∈es,p.2=x.deed
 | [],_,_,_,h=>by simp[kX]at h
 | _::_,[],_,_,h=>by simp[kX]at h
 |x::xs,b::bs,i,p,h=>by
  simp only[kX]at h
  split at h
  ·rcases cb.1 h with h|h
   ·exact⟨x,bq,by rw[h]⟩
   ·obtain⟨y,a,e⟩:=vC xs bs _ p h
    exact⟨y,aL _ a,e⟩
  ·obtain⟨y,a,e⟩:=vC xs bs _ p h
   exact⟨y,aL _ a,e⟩
def zo:∀(es:List En) (st:List Bool) (i:Nat),(kX es st i).length<=es.length
 | [],_,_=>by simp[kX]
 | _::_,[],_=>by simp[kX]
 |x::xs,b::bs,i=>by
  have:=zo xs bs (i+1);simp only[kX]
  split<;>simp<;>omega
def aeR (h:s.ok=true):Dp s 0 s.sp0:=by
 obtain⟨h1,h2,_⟩:=Su.facts h;exact⟨h,h1,rfl,rfl,h2,by simp[Su.sp0],by simp[Su.sp0],by simp[Su.sp0],by simp[Su.sp0]⟩
def MP {s:Su}:∀(l:List De) (n:Nat) (t t':Sp),Dp s n t->(∀x∈l,kQ s s.sp0 x)->Ce s l t=some t'->Dp s (n+l.length) t'
 | [],n,t,t',h,_,hd=>by cases hd;exact h
 |x::l,n,t,t',h,a,hd=>by
  simp only[Ce]at hd;cases h1:doS s t x with
  |none=>rw[h1]at hd;cases hd
  |some t1=>
   rw[h1]at hd;have:=MP l (n+1) t1 t' (ah2 h (kQ.same (n:=n) h.ll.symm h.hh.symm (a x bq)) h1) (fun y b=>a y (aL _ b)) hd
   simpa[ae,Nat.add_comm 1]using this
def Dk.Ok.Tt (h:d.Ok)(w:Int):∀x∈d.without w,kQ d.su d.su.sp0 x:=by
 intro x a;simp only[Dk.without,aM,List.mem_filter]at a;obtain⟨p,⟨b,_⟩,rfl⟩:=a;obtain⟨y,c,e⟩:=vC _ _ _ _ b;rw[e];exact h.fine y c
def Dk.Wq (d:Dk)(w:Int):(d.without w).length<=d.es.length:=by
 simp only[Dk.without,Z];exact bk (List.length_filter_le _ _) (zo _ _ _)
def Dk.Ok.V5 (h:d.Ok){w:Int}{t:Sp}(a:d.state w=some t):Dp d.su 24 t:=by
 have h1:=MP _ 0 _ t (aeR h.su) (h.Tt w) a;have h2:=d.Wq w;have b:=h.few;have c:=h1.co;exact⟨h1.ok,h1.pc,h1.ll,h1.hh,h1.tl,by have:=h1.st;omega,by have:=h1.se;omega,by omega,h1.sv⟩
def slN (sz:Nat)(W:Bool)(c:PV)(xs:List DV)(ar:List (Option Arr)):Prop:=
 (c= .d (.slice true [])/\xs=[])\/∃k ver st,c= .tsl k ver 0/\ar[k]?=some (some ⟨sz,xs,ver,st⟩)/\st≠2/\(W=true->st=1\/xs=[])
variable{sz:Nat}
def SX {xs:List DV}{K:Int->Prop}(h:slN sz W c xs ar):qg c ⟨bs,fz,ar⟩ K=K xs.length:=by
 rcases h with⟨rfl,rfl⟩|⟨k,ver,st,rfl,a,_⟩
 ·rfl
 ·simp[qg,Mem.row,a]
def Zt {xs:List DV}(h:slN sz W c xs ar):PV.one c=true/\PV.cells c=[c]/\c.mP=false:=by
 rcases h with⟨rfl,rfl⟩|⟨k,ver,st,rfl,_⟩<;>exact⟨rfl,rfl,rfl⟩
def yL {xs:List DV}{ar':List (Option Arr)}(h:slN sz W c xs ar)(hk:∀k A,kOf c=some k->ar[k]?=some (some A)->ar'[k]?=some (some A)):slN sz W c xs ar':=by
 rcases h with⟨rfl,rfl⟩|⟨k,ver,st,rfl,h1,h2⟩
 ·exact .inl ⟨rfl,rfl⟩
 ·exact .inr ⟨k,ver,st,rfl,hk _ _ rfl h1,h2⟩
def Fg {xs:List DV}(h:slN sz W c xs ar)(hx:xs≠[]):∃k ver st,c= .tsl k ver 0/\ar[k]?=some (some ⟨sz,xs,ver,st⟩)/\st≠2/\(W=true->st=1):=by
 rcases h with⟨_,rfl⟩|⟨k,ver,st,rfl,h,h2,a⟩
 ·exact absurd rfl hx
 ·exact⟨k,ver,st,rfl,h,h2,fun b=>(a b).resolve_right hx⟩
structure DkRd (D:Dk) (d:Nat) (ce cs:PV) (M:Mem):Prop where
 box:M.boxes[d]?=some (some (iK D.su ce cs))
 ent:slN 2 false ce (D.es.map En.dv) M.aB
 str:slN 1 true cs (D.st.map .bool) M.aB
structure vH (D:Dk) (d:Nat) (ce cs:PV) (M:Mem):Prop extends DkRd D d ce cs M where
 dif:∀k,kOf ce=some k->kOf cs≠some k
 nb:d∉M.fz
 fzb:FzB M
def nJ (p:Nat×De):List DV:=[dI p.1,p.2.dv]
def V3 (ce cs:PV)(k:Nat):Prop:=kOf ce=some k\/kOf cs=some k
variable{D:Dk}{M':Mem}
def DkRd.kept {d n:Nat}{ce cs:PV}(h:DkRd D d ce cs M)(hk:Kept n (·=d) (V3 ce cs) M M'):DkRd D d ce cs M':=
 ⟨(hk.box d (.inr rfl) (U.1 h.box).1).trans h.box,yL h.ent fun k A h1 h2=>(hk.row k (.inl h1)).trans h2,yL h.str fun k A h1 h2=>(hk.row k (.inr h1)).trans h2⟩
def DkRd.ext {d:Nat}{ce cs:PV}{bs xs:List (Option (List PV))}{a:List Nat}(h:DkRd D d ce cs ⟨bs,fz,ar⟩):DkRd D d ce cs ⟨bs++xs,a,ar⟩:=
 ⟨by have:=h.box;simp only at this⊢;rw[am (U.1 this).1];exact this,h.ent,h.str⟩
def DkRd.moved {d n:Nat}{ce cs:PV}(h:DkRd D d ce cs M)(hd:d<n)(a:Moved n (fun _=>False) M M'):DkRd D d ce cs M':=
 ⟨(a.box d hd id).trans h.box,by rw[a.aB];exact h.ent,by rw[a.aB];exact h.str⟩
def cO (D:Dk)(i:Nat):List (List DV):=(kX (D.es.drop i) (D.st.drop i) i).map nJ
def ED (hl:D.es.length=D.st.length){i:Nat}(hi:i<D.es.length):
  cO D i=if(D.es.getD i default).kind≠6/\D.st.getD i default=false then nJ (i,(D.es.getD i default).deed)::cO D (i+1)else cO D (i+1):=by
 rw[cO,drop_cons hi,drop_cons (by omega:i<D.st.length),kX]
 split<;>rfl
def qo {b:Bool}:DV.cells (.bool b)=[.bool b]:=rfl
def V4 {d:Nat}{ce cs:PV}(hl:D.es.length=D.st.length)(aq:D.es.length<=1000)(hf:∀x∈D.es,uN x.kind<=x.ns.length):
  O9 C 280 [.ptr d 0] [] (cO D 0) (·=d) no (V3 ce cs) (DkRd D d ce cs):=by
 rintro⟨bs,fz,ar⟩ b n R stop K KP aw ax hn O E ae kV h0 G M;simp only at hn O;have l:=E.box;rw[iK]at l;simp only at l;have X:d<bs.length:=(U.1 l).1;refine aC gX fB ?_;simp only[gX,fB,l,X,RN,F,H,I,J,N,S];rw[SX E.ent];simp only[Z,RN,F,H,I,J,N,S];refine AB (fun m s=>∃(i:Nat) (g:List (List DV)) (L:Mem),m=D.es.length - i/\i<=D.es.length/\s=⟨[(0, .ptr d 0),(1, .nM b),(9,ce),(10,pI D.es.length),(11,pI i)],L⟩/\n<=L.boxes.length/\FzB L/\DkRd D d ce cs L/\cO D 0=g++cO D i/\R g L)
  D.es.length ⟨0,[],_,rfl,av _,rfl,hn,O,E,rfl,h0⟩ ?_
 rintro m s ⟨i,g,⟨c,r,y⟩,rfl,hi,rfl,t,v,o,f,hR⟩;simp only at t;have sN:=o.box;rw[iK]at sN;simp only at sN;have aiJ:d<c.length:=(U.1 sN).1;have ai:c.length∉r:=fun e=>ap _ (v _ e)
 by_cases h:i<D.es.length
 case neg=>
  have ab:i=D.es.length:=by omega
  subst ab;simp only[bi,RN,F,H,I,J,N,S];refine M _ _ t ?_;rw[f];have:cO D D.es.length=[]:=by simp[cO,kX]
  rw[this,List.append_nil];exact hR
 obtain⟨k,ver,st,rfl,hk,_⟩:=Fg o.ent (by intro e;simp at e;rw[e]at h;simp at h);obtain⟨k2,YH,az,rfl,A,_⟩:=Fg o.str (by intro e;simp at e;rw[e]at hl;simp at hl;rw[hl]at h;simp at h);simp only at hk A;have P:(i:Int)<(D.es.length:Int):=by omega
 have w:i<D.st.length:=by omega
 have j0:(0:Int)<=(i:Int):=by omega
 have w1:ck .i64 ((i:Int)+1)=((i+1:Nat):Int):=by rw[aF (by omega)];omega
 have a:=ED hl h;obtain⟨x,hx⟩:∃x,x=D.es.getD i default:=⟨_,rfl⟩
 have ao:x∈D.es:=by rw[hx];exact getD_mem h
 have UG:=MO x (hf x ao);rw[<-hx]at a;rw[Ci]at UG;have z:R g ⟨c++ [some [pI x.kind, .d (sF (x.ns.map ay))]],c.length::r,y⟩:=
  ae g _ _ (Moved.ext (xf:=[c.length]) (xb:=[_]) t (by simpa using t)) hR
 have q:DkRd D d (.tsl k ver 0) (.tsl k2 YH 0) ⟨c++ [some [pI x.kind, .d (sF (x.ns.map ay))]],c.length::r,y⟩:=o.ext;have XI:FzB ⟨c++ [some [pI x.kind, .d (sF (x.ns.map ay))]],c.length::r,y⟩:=by
  intro j hj;simp only[cb]at hj;simp only[V,be,aR]
  rcases hj with rfl|hj
  ·omega
  ·have:=v j hj;simp only at this;omega
 simp only[P,h,j0,hk,an,Z,getD_map,<-hx,Ci,sN,aiJ,ai,aY,aN,aT,V,RN,F,H,I,J,N,S]
 by_cases T:x.kind=6
 ·have Q:(x.kind !=6)=false:=by simp[T]
  rw[if_neg (by simp[T])]at a;simp only[Q,w1,RN,F,H,I,J,N,S];refine⟨D.es.length - (i+1),_,by omega, .inl rfl,i+1,g,_,rfl,by omega,rfl,by simp;omega,XI,q,by rw[f,a],z⟩
 have Q:(x.kind !=6)=true:=by simp[T]
 cases u:D.st.getD i default
 case true=>
  rw[if_neg (fun e=>by rw[u]at e;cases e.2)]at a;simp only[Q,sN,aiJ,aY,A,w,j0,an,Z,getD_map,qo,u,w1,RN,F,H,I,J,N,S];refine⟨D.es.length - (i+1),_,by omega, .inl rfl,i+1,g,_,rfl,by omega,rfl,by simp;omega,XI,q,by rw[f,a],z⟩
 rw[if_pos ⟨T,u⟩]at a;simp only[Q,sN,aiJ,aY,A,w,j0,an,Z,getD_map,qo,u,RN,F,H,I,J,N,S];refine au UG ?_;(try simp only[RN,F,H,I,J,N,S]);refine zO ?_;refine SY.mono (kV g (nJ (i,x.deed)) (cO D (i+1)) _ (by rw[f,a]) (by simp;omega) z) ?_;rintro p M3 ⟨B,hp⟩
 rcases hp with⟨rfl,W⟩|⟨rfl,am⟩
 ·simp only[w1,RN,F,H,I,J,N,S]
  have ac:=B.len;simp only[V,be,aR]at ac;refine⟨D.es.length - (i+1),_,by omega, .inl rfl,i+1,_,M3,rfl,by omega,rfl,by omega,B.fzb XI,q.kept B,by rw[f,a,Y];rfl,W⟩
 ·(try simp only[RN,F,H,I,J,N,S])
  exact G _ _ am
end Go.Tel
namespace Go.Proofs
open Go.Shelf Go.RowKit Go.Lib Go.Sort
section
variable {P:Program}{ρ:Ren}
set_option maxRecDepth 1000000 in
def ah0 (L:Lays2.n23 P ρ)(blk off cap i:Nat)(d:Array Int)(w:World)(n:Holds (Value.int .i64) w blk off d)(B:d.size<=cap)(hi:i<d.size):
  Calls P (ρ.f 23) #[.slice (some ⟨blk,off,none⟩) d.size cap, .int .i64 i, .int .i64 (i+1:Nat)] w fun e w'=>
   e= .returned (.slice (some ⟨blk,off,none⟩) (d.size - 1) cap)/\∃q,w'=putRow (Value.int .i64) (Sort.ahead w q) blk off (d.toList.take i++d.toList.drop (i+1)++ [0]).toArray:=by
 have mixed:=L.mixed;have t0:=L.t0;have Y:=L.a0;have z0:=L.z0;have v0:=L.v0;have t3:=L.t3;have Z:=L.a3;have z3:=L.z3;have V:=L.v3;have t4:=L.t4;have a4:=L.a4;have z4:=L.z4;have v4:=L.v4;have r:=L.t22;have D:=L.a22;have W:=L.z22;have T:=L.v22;obtain⟨Q,s,N,y,O⟩:=info_parts L.i3;obtain⟨tl,c⟩:∃tl,tl=(d.toList.drop (i+1)).map (Value.int .i64):=⟨_,rfl⟩
 have b:tl.length=d.size - (i+1):=by rw[c];simp
 have C:∀t,t<d.size - (i+1)->tl[t]?=some (Value.int .i64 d[i+1+t]!):=by
  intro t o;rw[c,aE,bp,bc,getElem!_pos d (i+1+t) (by omega),Array.getElem?_eq_getElem (by omega)]
  rfl
 have z:∃A:Addr,(if cap=i+1 then some (⟨blk,off,none⟩:Addr)else some ⟨blk,off+(i+1),none⟩)=some A/\Hid (∀t u,tl[t]?=some u->w.drew.cell? (A.add t)=some u):=by
  by_cases h:cap=i+1
  ·refine⟨⟨blk,off,none⟩,by simp[h],fun t u k=> ?_⟩
   have E:tl.length=0:=by rw[b];omega
   rw[List.length_eq_zero_iff.1 E]at k;simp at k
  ·refine⟨⟨blk,off+(i+1),none⟩,by simp[h],fun t u k=> ?_⟩
   have o:t<d.size - (i+1):=by
    have:=(U.1 k).1
    rwa [b]at this
   rw[C t o]at k;rw[Addr.add_lit,show off+(i+1)+t=off+(i+1+t) by omega];exact(n (i+1+t) (by omega)).1.trans k
 obtain⟨A,z,p⟩:=z;have s1:Hid (tl.length=(d.size - (i+1))*1):=by rw[bu];exact b
 have R:Hid (∀u∈tl,u.oneCell'=true):=by
  intro u k;rw[c]at k;obtain⟨x,_,rfl⟩:=aM.1 k
  rfl
 have S:Hid (∀t,t<tl.length->(w.drew.cell? ⟨blk,off+i*1+t,none⟩).isSome=true/\w.drew.frozen? ⟨blk,off+i*1+t,none⟩=false):=by
  intro t o;rw[b]at o;rw[bu,ae];exact⟨by show(w.cell? _).isSome=true;rw[(n (i+t) (by omega)).1];rfl,(n (i+t) (by omega)).2⟩
 obtain⟨g,m⟩:∃g,g=w.drew.setCells blk (off+i*1) tl:=⟨_,rfl⟩
 have a:g=putRow (Value.int .i64) (Sort.ahead w 1) blk off (lay d i (d.toList.drop (i+1))):=by
  rw[m,c,bu,<-putRow_setCells (Value.int .i64) (Sort.ahead w 1) blk off _ d i (by simp;omega),putRow_self (Value.int .i64) (Sort.ahead w 1) blk off d (holds_ahead (Value.int .i64) w 1 blk off d n)]
  rfl
 have l:Holds (Value.int .i64) g blk off (lay d i (d.toList.drop (i+1))):=by rw[a];exact holds_putRow (Value.int .i64) _ blk off d _ (holds_ahead (Value.int .i64) w 1 blk off d n) (lay_size _ _ _)
 have G:∀ty,(Builtin.clear_ #[ρ.t 22] ty #[.slice (some ⟨blk,off+(i+(d.size - (i+1))),none⟩) (d.size - (i+(d.size - (i+1)))) (cap - (i+(d.size - (i+1))))]).run P g= .ok (.tuple #[]) (g.setCells blk (off+(i+(d.size - (i+1)))) (b9 (d.size - (i+(d.size - (i+1)))) (Value.int .i64 0))):=
  fun ty=>Lib.run_clear_slice g _ _ ty _ r V rfl rfl blk (off+(i+(d.size - (i+1)))) _ _ (by omega) (fun t o=>by rw[show off+(i+(d.size - (i+1)))+t=off+(i+(d.size - (i+1))+t) by omega,(l _ (by rw[lay_size];omega)).1];rfl) (fun t o=>by rw[show off+(i+(d.size - (i+1)))+t=off+(i+(d.size - (i+1))+t) by omega];exact(l _ (by rw[lay_size];omega)).2)
 have X:Aside (g=putRow (Value.int .i64) (Sort.ahead w 1) blk off (lay d i (d.toList.drop (i+1)))):=a;have F:Hid (g=w.drew.setCells blk (off+i*1) tl):=m;have H:i<=cap:=by omega
 have J:i+1<=cap:=by omega
 have v:i<=i+1:=by omega
 have I:i+1<=d.size:=by omega
 generalize K:i+1=j at*;have M:i<j:=by omega
 clear m a l n C c b
 go_enter L.f23,Body2.n23_ntmps ρ
 go_wp2_with fail
 go_region_law_o (refine step_append_room rfl (.tmp 22) (.tmp 25) (ρ.t 22) rfl (ρ.t 3) Q 1 r s y blk off i cap (by simp[Act.eval,Act.put]) A (d.size - j) (cap - j) tl (by simp[Act.eval,Act.put]) s1.out p.out R.out (by omega) S.out ?_;rw[<-F.out])
 go_wp2
 go_ret
 refine⟨by rw[show d.size - 1=i+(d.size - j) by omega];rfl,1,?_⟩;have hd:=delete_arr d i j 0 v I;rw[show j - i=1 by omega]at hd;rw[show([0]:List Int)=b9 1 0 from rfl,<-hd,<-putRow_setCells (Value.int .i64) _ blk off _ _ (i+(d.size - j)) (by rw[lay_size];simp;omega),<-X.out,List.map_replicate,show d.size - (i+(d.size - j))=1 by omega]
end
end Go.Proofs
namespace Go.Am
open Go.Sort Go.RowKit
section
variable {C:Ctx}
def ah1 {ρ:Go.Shelf.Ren}(Ly:Go.Proofs.Lays2.n23 C.P ρ){k ver i:Nat}{zs:List Int}{bs:List (Option (List PV))}{fz:List Nat}{ar:List (Option Arr)}{K:PV->Mem->Prop}{KP:DV->Mem->Prop}
  (h:ar[k]?=some (some ⟨1,zs.map (DV.int .i64),ver,1⟩))(hi:i<zs.length)
  (hK:K (.tsl k (ver+1) 0) ⟨bs,fz,ar.set k (some ⟨1,(zs.take i++zs.drop (i+1)).map (DV.int .i64),ver+1,1⟩)⟩):SC C (ρ.f 23) [.tsl k ver 0, .d (.int .i64 i), .d (.int .i64 (i+1:Nat))] ⟨bs,fz,ar⟩ K KP:=by
 intro X w E ai M I;cases I with|cons hr H=>
 cases H with|cons O H=>
 cases H with|cons D H=>
 cases H;cases O with|d O=>
 cases O;cases D with|d D=>
 cases D;cases hr with|tsl m hh=>
 obtain⟨_,v⟩:=hh _ h;obtain⟨ao,s,N⟩:=v rfl;obtain⟨s1,s2,s3,s4⟩:=M.arr k _ h;obtain⟨q,J⟩:=s3 rfl;rw[J]at s;cases s;obtain⟨a,o,e⟩:=q;obtain⟨hX,z,T,B,g3,g4,L⟩:=s4 a o e J;obtain⟨_,N⟩:=N
 rcases N with⟨ac,he,p,r⟩|⟨h0,_⟩
 case inr=>simp at h0;rw[h0]at hi;simp at hi
 cases he;simp only[Z,bu,bA,cj,ch,Nat.zero_add]at g3 L p r⊢;rw[DC]at L;have g:=BM L;have hH:Holds (Value.int .i64) w a o zs.toArray:=by
  intro j u;have t:j<zs.length:=by simpa using u
  have v:z[o+j]?=some (.int .i64 zs[j]):=by
   have:=congrArg (fun l=>l[j]?) g;simp only[bN,t,if_true,bp,bc,aE,List.getElem?_eq_getElem t,az]at this;exact this
  refine⟨?_,?_⟩
  ·rw[cell_of_row w a (o+j) z T.ty T.fr B,v]
   simp[t]
  ·have m:o+j<z.size:=(Array.getElem?_eq_some_iff.1 v).1
   obtain⟨ty,⟨f1,f2⟩,W⟩:=T;simp only at W B;simp[World.frozen?,B];intro hh;omega
 have ae:a<w.heap.size:=bZ B;have c:=Go.Proofs.ah0 Ly a o _ i zs.toArray w hH (by simpa using p) (by simpa using hi);simp only[List.size_toArray,List.toList_toArray]at c;refine c.mono ?_;rintro en w' ⟨rfl,n,rfl⟩;generalize Y:zs.take i++zs.drop (i+1)=ss at*;have an:ss.length+1=zs.length:=by rw[<-Y];simp;omega
 have F:((putCells (Value.int .i64) o (ss++ [0]).toArray z).toList.drop o).take ss.length=ss.map (Value.int .i64):=by
  apply bR;intro j;rw[bN,bp,bc,aE]
  by_cases u:j<ss.length
  ·rw[if_pos u]
   have v:o+j<z.size:=by omega
   have R:j<ss.length+1:=by omega
   simp[putCells,Array.getElem?_mapIdx,v,u,R,am u]
  ·rw[if_neg u,bE (by omega)];rfl
 have G:=yK (A':=⟨1,ss.map (DV.int .i64),ver+1,1⟩) (loc:=some (a,o,e)) (w':=putRow (Value.int .i64) (Go.Sort.ahead w n) a o (ss++ [0]).toArray) M h (by simp) rfl rfl rfl (by simp[putRow,mapBlock,Go.Sort.ahead])
  (fun b ob D V=>by
   have S:b≠a:=by rintro rfl;exact D o e J
   simp[putRow,mapBlock,Go.Sort.ahead,bB,Ne.symm S,V])
  (by simp) (Nat.zero_lt_one) (by intro x hx;obtain⟨y,_,rfl⟩:=aM.1 hx;rfl) (by simp)
  (fun ab o' e' Q=>by
   cases Q;refine⟨.inr ⟨o,e,J⟩,putCells (Value.int .i64) o (ss++ [0]).toArray z,TM.cast (by simp[putCells]) T,?_,by simp;omega,by simp[putCells];omega,?_⟩
   ·simp[putRow,mapBlock,Go.Sort.ahead,bB,B,onCells,TM.cast]
   ·simp only[Z,bu]
    rw[DC,F];exact Ob ss)
 refine⟨_,_,_,hK,G.1,G.2,?_⟩;refine .tsl (by simpa using(U.1 h).1) fun A I=> ?_
 have m:k<ar.length:=(U.1 h).1;simp only[List.getElem?_set_self m,Option.some.injEq]at I;subst I;refine⟨aq _,fun _=>⟨some (a,o,e),?_,?_⟩⟩
 ·have:=M.bn
  simp only at this;simp[this▸m]
 ·have e1:zs.length - 1=(ss.map (DV.int .i64)).length - 0:=by simp;omega
  refine⟨av _, .inl ⟨_,by rw[e1,cj,ch],?_,by simpa using r⟩⟩
  show(ss.map (DV.int .i64)).length - 0<=_
  rw[<-e1];omega
end
end Go.Am
namespace Go.Proofs
open Go.Shelf
def Tryz.laysSplit_ren:Go.Shelf.Ren:=⟨fun|146=>276|221=>319|268=>348|138=>349|143=>350|195=>367|197=>368|218=>369|219=>370|260=>383|217=>219|225=>384|224=>385|267=>386|266=>274|314=>390|n=>n,fun|9=>9|31=>331|3=>3|4=>4|0=>0|105=>466|21=>21|5=>5|46=>204|119=>477|139=>480|138=>479|146=>333|51=>277|n=>n,fun|1=>0|3=>4|4=>5|n=>n⟩
def Tryz.laysSplit:Go.Proofs.Lays.n146 Tryz.prog Tryz.laysSplit_ren:={
 mixed:=by kernel_rfl
 f138:=Tryz.func349.trans (congrArg some (by kernel_rfl))
 f143:=Tryz.func350.trans (congrArg some (by kernel_rfl))
 f146:=Tryz.func276.trans (congrArg some (by kernel_rfl))
 f195:=Tryz.func367.trans (congrArg some (by kernel_rfl))
 f197:=Tryz.func368.trans (congrArg some (by kernel_rfl))
 f217:=Tryz.func219.trans (congrArg some (by kernel_rfl))
 f218:=Tryz.func369.trans (congrArg some (by kernel_rfl))
 f219:=Tryz.func370.trans (congrArg some (by kernel_rfl))
 f221:=Tryz.func319.trans (congrArg some (by kernel_rfl))
 f224:=Tryz.func385.trans (congrArg some (by kernel_rfl))
 f225:=Tryz.func384.trans (congrArg some (by kernel_rfl))
 f260:=Tryz.func383.trans (congrArg some (by kernel_rfl))
 f266:=Tryz.func274.trans (congrArg some (by kernel_rfl))
 f267:=Tryz.func386.trans (congrArg some (by kernel_rfl))
 f268:=Tryz.func348.trans (congrArg some (by kernel_rfl))
 f314:=Tryz.func390.trans (congrArg some (by kernel_rfl))
 t0:=Tryz.underlying0
 a0:=Tryz.isAgg0
 z0:=Tryz.sizeOf0
 v0:=Tryz.zeroValue0
 t3:=Tryz.underlying3
 a3:=Tryz.isAgg3
 z3:=Tryz.sizeOf3
 v3:=Tryz.zeroValue3
 t4:=Tryz.underlying4
 a4:=Tryz.isAgg4
 z4:=Tryz.sizeOf4
 v4:=Tryz.zeroValue4
 t5:=Tryz.underlying5
 a5:=Tryz.isAgg5
 z5:=Tryz.sizeOf5
 v5:=Tryz.zeroValue5
 t9:=Tryz.underlying9
 a9:=Tryz.isAgg9
 z9:=Tryz.sizeOf9
 v9:=Tryz.zeroValue9
 t21:=Tryz.underlying21
 a21:=Tryz.isAgg21
 z21:=Tryz.sizeOf21
 v21:=Tryz.zeroValue21
 t31:=Tryz.underlying331
 a31:=Tryz.isAgg331
 z31:=Tryz.sizeOf331
 v31:=Tryz.zeroValue331
 t46:=Tryz.underlying204
 a46:=Tryz.isAgg204
 z46:=Tryz.sizeOf204
 v46:=Tryz.zeroValue204
 t51:=Tryz.underlying277
 a51:=Tryz.isAgg277
 z51:=Tryz.sizeOf277
 v51:=Tryz.zeroValue277
 t105:=Tryz.underlying466
 a105:=Tryz.isAgg466
 z105:=Tryz.sizeOf466
 v105:=Tryz.zeroValue466
 t119:=Tryz.underlying477
 a119:=Tryz.isAgg477
 z119:=Tryz.sizeOf477
 t138:=Tryz.underlying479
 a138:=Tryz.isAgg479
 z138:=Tryz.sizeOf479
 v138:=Tryz.zeroValue479
 t139:=Tryz.underlying480
 a139:=Tryz.isAgg480
 z139:=Tryz.sizeOf480
 v139:=Tryz.zeroValue480
 t146:=Tryz.underlying333
 a146:=Tryz.isAgg333
 z146:=Tryz.sizeOf333
 v146:=Tryz.zeroValue333
 g1:=by kernel_rfl
 g3:=by kernel_rfl
 g4:=by kernel_rfl}
def Tryz.laysItoa_ren:Go.Shelf.Ren:=⟨fun|171=>155|243=>230|246=>286|283=>325|284=>326|285=>327|286=>328|129=>192|317=>352|318=>353|319=>354|320=>355|337=>371|338=>372|n=>n,fun|3=>3|9=>9|2=>2|4=>4|171=>429|0=>0|53=>279|37=>401|5=>5|173=>431|212=>450|51=>277|20=>20|213=>451|46=>204|232=>473|233=>474|n=>n,fun|17=>1|18=>2|19=>3|n=>n⟩
def Tryz.laysItoa:Go.Proofs.LaysM.n171 Tryz.prog Tryz.laysItoa_ren:={
 mixed:=by kernel_rfl
 f129:=Tryz.func192.trans (congrArg some (by kernel_rfl))
 f171:=Tryz.func155.trans (congrArg some (by kernel_rfl))
 f243:=Tryz.func230.trans (congrArg some (by kernel_rfl))
 f246:=Tryz.func286.trans (congrArg some (by kernel_rfl))
 f283:=Tryz.func325.trans (congrArg some (by kernel_rfl))
 f284:=Tryz.func326.trans (congrArg some (by kernel_rfl))
 f285:=Tryz.func327.trans (congrArg some (by kernel_rfl))
 f286:=Tryz.func328.trans (congrArg some (by kernel_rfl))
 f317:=Tryz.func352.trans (congrArg some (by kernel_rfl))
 f318:=Tryz.func353.trans (congrArg some (by kernel_rfl))
 f319:=Tryz.func354.trans (congrArg some (by kernel_rfl))
 f320:=Tryz.func355.trans (congrArg some (by kernel_rfl))
 f337:=Tryz.func371.trans (congrArg some (by kernel_rfl))
 f338:=Tryz.func372.trans (congrArg some (by kernel_rfl))
 t0:=Tryz.underlying0
 a0:=Tryz.isAgg0
 z0:=Tryz.sizeOf0
 v0:=Tryz.zeroValue0
 t2:=Tryz.underlying2
 a2:=Tryz.isAgg2
 z2:=Tryz.sizeOf2
 v2:=Tryz.zeroValue2
 t3:=Tryz.underlying3
 a3:=Tryz.isAgg3
 z3:=Tryz.sizeOf3
 v3:=Tryz.zeroValue3
 t4:=Tryz.underlying4
 a4:=Tryz.isAgg4
 z4:=Tryz.sizeOf4
 v4:=Tryz.zeroValue4
 t5:=Tryz.underlying5
 a5:=Tryz.isAgg5
 z5:=Tryz.sizeOf5
 v5:=Tryz.zeroValue5
 t9:=Tryz.underlying9
 a9:=Tryz.isAgg9
 z9:=Tryz.sizeOf9
 v9:=Tryz.zeroValue9
 t20:=Tryz.underlying20
 a20:=Tryz.isAgg20
 z20:=Tryz.sizeOf20
 v20:=Tryz.zeroValue20
 t37:=Tryz.underlying401
 a37:=Tryz.isAgg401
 z37:=Tryz.sizeOf401
 v37:=Tryz.zeroValue401
 t46:=Tryz.underlying204
 a46:=Tryz.isAgg204
 z46:=Tryz.sizeOf204
 v46:=Tryz.zeroValue204
 t51:=Tryz.underlying277
 a51:=Tryz.isAgg277
 z51:=Tryz.sizeOf277
 v51:=Tryz.zeroValue277
 t53:=Tryz.underlying279
 a53:=Tryz.isAgg279
 z53:=Tryz.sizeOf279
 v53:=Tryz.zeroValue279
 t171:=Tryz.underlying429
 a171:=Tryz.isAgg429
 z171:=Tryz.sizeOf429
 v171:=Tryz.zeroValue429
 t173:=Tryz.underlying431
 a173:=Tryz.isAgg431
 z173:=Tryz.sizeOf431
 v173:=Tryz.zeroValue431
 t212:=Tryz.underlying450
 a212:=Tryz.isAgg450
 z212:=Tryz.sizeOf450
 v212:=Tryz.zeroValue450
 t213:=Tryz.underlying451
 a213:=Tryz.isAgg451
 z213:=Tryz.sizeOf451
 t232:=Tryz.underlying473
 a232:=Tryz.isAgg473
 z232:=Tryz.sizeOf473
 v232:=Tryz.zeroValue473
 t233:=Tryz.underlying474
 a233:=Tryz.isAgg474
 z233:=Tryz.sizeOf474
 v233:=Tryz.zeroValue474
 g17:=by kernel_rfl
 g18:=by kernel_rfl
 g19:=by kernel_rfl
 i0:=by kernel_rfl
 i2:=by kernel_rfl
 i3:=by kernel_rfl
 i4:=by kernel_rfl
 i5:=by kernel_rfl
 i9:=by kernel_rfl
 i20:=by kernel_rfl
 i37:=by kernel_rfl
 i46:=by kernel_rfl
 i51:=by kernel_rfl
 i53:=by kernel_rfl
 i171:=by kernel_rfl
 i173:=by kernel_rfl
 i212:=by kernel_rfl
 i232:=by kernel_rfl
 i233:=by kernel_rfl
 m17:=by kernel_rfl
 m18:=by kernel_rfl
 m19:=by kernel_rfl}
def Tryz.laysJoin_ren:Go.Shelf.Ren:=⟨fun|156=>246|165=>299|166=>300|169=>301|240=>342|241=>343|276=>362|277=>363|n=>n,fun|31=>331|9=>9|3=>3|4=>4|0=>0|20=>20|72=>403|76=>407|70=>400|37=>401|75=>406|127=>442|164=>462|5=>5|80=>409|n=>n,fun|n=>n⟩
def Tryz.laysJoin:Go.Proofs.Lays.n156 Tryz.prog Tryz.laysJoin_ren:={
 mixed:=by kernel_rfl
 f156:=Tryz.func246.trans (congrArg some (by kernel_rfl))
 f165:=Tryz.func299.trans (congrArg some (by kernel_rfl))
 f166:=Tryz.func300.trans (congrArg some (by kernel_rfl))
 f169:=Tryz.func301.trans (congrArg some (by kernel_rfl))
 f240:=Tryz.func342.trans (congrArg some (by kernel_rfl))
 f241:=Tryz.func343.trans (congrArg some (by kernel_rfl))
 f276:=Tryz.func362.trans (congrArg some (by kernel_rfl))
 f277:=Tryz.func363.trans (congrArg some (by kernel_rfl))
 t0:=Tryz.underlying0
 a0:=Tryz.isAgg0
 z0:=Tryz.sizeOf0
 v0:=Tryz.zeroValue0
 t3:=Tryz.underlying3
 a3:=Tryz.isAgg3
 z3:=Tryz.sizeOf3
 v3:=Tryz.zeroValue3
 t4:=Tryz.underlying4
 a4:=Tryz.isAgg4
 z4:=Tryz.sizeOf4
 v4:=Tryz.zeroValue4
 t9:=Tryz.underlying9
 a9:=Tryz.isAgg9
 z9:=Tryz.sizeOf9
 v9:=Tryz.zeroValue9
 t20:=Tryz.underlying20
 a20:=Tryz.isAgg20
 z20:=Tryz.sizeOf20
 v20:=Tryz.zeroValue20
 t31:=Tryz.underlying331
 a31:=Tryz.isAgg331
 z31:=Tryz.sizeOf331
 v31:=Tryz.zeroValue331
 t37:=Tryz.underlying401
 a37:=Tryz.isAgg401
 z37:=Tryz.sizeOf401
 v37:=Tryz.zeroValue401
 t70:=Tryz.underlying400
 a70:=Tryz.isAgg400
 z70:=Tryz.sizeOf400
 v70:=Tryz.zeroValue400
 t72:=Tryz.underlying403
 a72:=Tryz.isAgg403
 z72:=Tryz.sizeOf403
 v72:=Tryz.zeroValue403
 t75:=Tryz.underlying406
 a75:=Tryz.isAgg406
 z75:=Tryz.sizeOf406
 v75:=Tryz.zeroValue406
 t76:=Tryz.underlying407
 a76:=Tryz.isAgg407
 z76:=Tryz.sizeOf407
 v76:=Tryz.zeroValue407
 t127:=Tryz.underlying442
 a127:=Tryz.isAgg442
 z127:=Tryz.sizeOf442
 v127:=Tryz.zeroValue442
 t164:=Tryz.underlying462
 a164:=Tryz.isAgg462
 z164:=Tryz.sizeOf462
 v164:=Tryz.zeroValue462}
def Tryz.laysSort_ren:Go.Shelf.Ren:=⟨fun|189=>331|125=>126|257=>357|128=>191|129=>192|294=>373|295=>374|296=>375|297=>376|298=>377|299=>378|216=>379|300=>380|301=>381|328=>387|329=>253|330=>254|331=>388|332=>389|215=>141|343=>391|n=>n,fun|28=>32|3=>3|46=>204|0=>0|51=>277|53=>279|4=>4|183=>270|182=>269|131=>274|5=>5|9=>9|218=>338|222=>342|228=>410|229=>411|n=>n,fun|n=>n⟩
def Tryz.laysSort:Go.Proofs.Lays.n189 Tryz.prog Tryz.laysSort_ren:={
 mixed:=by kernel_rfl
 f125:=Tryz.func126.trans (congrArg some (by kernel_rfl))
 f128:=Tryz.func191.trans (congrArg some (by kernel_rfl))
 f129:=Tryz.func192.trans (congrArg some (by kernel_rfl))
 f189:=Tryz.func331.trans (congrArg some (by kernel_rfl))
 f215:=Tryz.func141.trans (congrArg some (by kernel_rfl))
 f216:=Tryz.func379.trans (congrArg some (by kernel_rfl))
 f257:=Tryz.func357.trans (congrArg some (by kernel_rfl))
 f294:=Tryz.func373.trans (congrArg some (by kernel_rfl))
 f295:=Tryz.func374.trans (congrArg some (by kernel_rfl))
 f296:=Tryz.func375.trans (congrArg some (by kernel_rfl))
 f297:=Tryz.func376.trans (congrArg some (by kernel_rfl))
 f298:=Tryz.func377.trans (congrArg some (by kernel_rfl))
 f299:=Tryz.func378.trans (congrArg some (by kernel_rfl))
 f300:=Tryz.func380.trans (congrArg some (by kernel_rfl))
 f301:=Tryz.func381.trans (congrArg some (by kernel_rfl))
 f328:=Tryz.func387.trans (congrArg some (by kernel_rfl))
 f329:=Tryz.func253.trans (congrArg some (by kernel_rfl))
 f330:=Tryz.func254.trans (congrArg some (by kernel_rfl))
 f331:=Tryz.func388.trans (congrArg some (by kernel_rfl))
 f332:=Tryz.func389.trans (congrArg some (by kernel_rfl))
 f343:=Tryz.func391.trans (congrArg some (by kernel_rfl))
 t0:=Tryz.underlying0
 a0:=Tryz.isAgg0
 z0:=Tryz.sizeOf0
 v0:=Tryz.zeroValue0
 t3:=Tryz.underlying3
 a3:=Tryz.isAgg3
 z3:=Tryz.sizeOf3
 v3:=Tryz.zeroValue3
 t4:=Tryz.underlying4
 a4:=Tryz.isAgg4
 z4:=Tryz.sizeOf4
 v4:=Tryz.zeroValue4
 t5:=Tryz.underlying5
 a5:=Tryz.isAgg5
 z5:=Tryz.sizeOf5
 v5:=Tryz.zeroValue5
 t9:=Tryz.underlying9
 a9:=Tryz.isAgg9
 z9:=Tryz.sizeOf9
 v9:=Tryz.zeroValue9
 t28:=Tryz.underlying32
 a28:=Tryz.isAgg32
 z28:=Tryz.sizeOf32
 v28:=Tryz.zeroValue32
 t46:=Tryz.underlying204
 a46:=Tryz.isAgg204
 z46:=Tryz.sizeOf204
 v46:=Tryz.zeroValue204
 t51:=Tryz.underlying277
 a51:=Tryz.isAgg277
 z51:=Tryz.sizeOf277
 v51:=Tryz.zeroValue277
 t53:=Tryz.underlying279
 a53:=Tryz.isAgg279
 z53:=Tryz.sizeOf279
 v53:=Tryz.zeroValue279
 t131:=Tryz.underlying274
 a131:=Tryz.isAgg274
 z131:=Tryz.sizeOf274
 v131:=Tryz.zeroValue274
 t182:=Tryz.underlying269
 a182:=Tryz.isAgg269
 z182:=Tryz.sizeOf269
 v182:=Tryz.zeroValue269
 t183:=Tryz.underlying270
 a183:=Tryz.isAgg270
 z183:=Tryz.sizeOf270
 v183:=Tryz.zeroValue270
 t218:=Tryz.underlying338
 a218:=Tryz.isAgg338
 z218:=Tryz.sizeOf338
 v218:=Tryz.zeroValue338
 t222:=Tryz.underlying342
 a222:=Tryz.isAgg342
 z222:=Tryz.sizeOf342
 v222:=Tryz.zeroValue342
 t228:=Tryz.underlying410
 a228:=Tryz.isAgg410
 z228:=Tryz.sizeOf410
 v228:=Tryz.zeroValue410
 t229:=Tryz.underlying411
 a229:=Tryz.isAgg411
 z229:=Tryz.sizeOf411
 v229:=Tryz.zeroValue411}
def Tryz.laysDel_ren:Go.Shelf.Ren:=⟨fun|23=>323|n=>n,fun|22=>32|3=>3|4=>4|0=>0|n=>n,fun|n=>n⟩
def Tryz.laysDel:Go.Proofs.Lays2.n23 Tryz.prog Tryz.laysDel_ren:={
 mixed:=by kernel_rfl
 f23:=Tryz.func323.trans (congrArg some (by kernel_rfl))
 t0:=Tryz.underlying0
 a0:=Tryz.isAgg0
 z0:=Tryz.sizeOf0
 v0:=Tryz.zeroValue0
 t3:=Tryz.underlying3
 a3:=Tryz.isAgg3
 z3:=Tryz.sizeOf3
 v3:=Tryz.zeroValue3
 t4:=Tryz.underlying4
 a4:=Tryz.isAgg4
 z4:=Tryz.sizeOf4
 v4:=Tryz.zeroValue4
 t22:=Tryz.underlying32
 a22:=Tryz.isAgg32
 z22:=Tryz.sizeOf32
 v22:=Tryz.zeroValue32
 i3:=by kernel_rfl}
def Tryz.laysIndexB_ren:Go.Shelf.Ren:=⟨fun|137=>152|217=>219|266=>274|n=>n,fun|9=>9|5=>5|3=>3|n=>n,fun|n=>n⟩
def Tryz.laysIndexB:Go.Proofs.Lays.n137 Tryz.prog Tryz.laysIndexB_ren:={
 mixed:=by kernel_rfl
 f137:=Tryz.func152.trans (congrArg some (by kernel_rfl))
 f217:=Tryz.func219.trans (congrArg some (by kernel_rfl))
 f266:=Tryz.func274.trans (congrArg some (by kernel_rfl))
 t3:=Tryz.underlying3
 a3:=Tryz.isAgg3
 z3:=Tryz.sizeOf3
 v3:=Tryz.zeroValue3
 t5:=Tryz.underlying5
 a5:=Tryz.isAgg5
 z5:=Tryz.sizeOf5
 v5:=Tryz.zeroValue5
 t9:=Tryz.underlying9
 a9:=Tryz.isAgg9
 z9:=Tryz.sizeOf9
 v9:=Tryz.zeroValue9}
end Go.Proofs
namespace Go.Tel
open Go.Am
def UN:ay=DV.int .i64:=rfl
def ahk:ab4:=by
 intro k ver i zs bs fz ar K KP h b a;exact ah1 (C:=C) Go.Proofs.Tryz.laysDel (by rw[<-UN];exact h) b (by rw[<-UN];exact a)
end Go.Tel
