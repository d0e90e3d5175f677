/-
  Part 19 of the proof of a law of desks: an abstract machine over the model, contracts of functions, plain laws.
  Conditions: none.
-/
import Derived.Test.YtbefoehadfnkbaaGreatDoorJourneymanParsesM13
import Derived.Test.YtbefoehadfnkbaaGreatDoorJourneymanParsesM18
set_option linter.all false
set_option maxRecDepth 10000
open Nat renaming reduceBEq→qA,reduceAdd→qB,reduceSub→qC,reduceEqDiff→qD,reduceLT→qE,reduceLeDiff→qF
namespace Go.Tel
open Go.Am
def cO:aB:=(.seq (.region false [oa 3 (.box 0) 1] 1 [0,3] [3]) (.seq (rg [oa 26 (.mkF (.func F.fP) 0) 3,mv 4 26] 0 [0,3,4]) (.seq (rg [lo 27 3] 0 [0,4,27]) (.block 0 (.seq (rg [oa 28 (.tas T.eu (.agg [.int .i64 0])) 27,oa 29 (.ext 1) 28,oa 30 (.ext 0) 28] 0 [0,4,27,29,30]) (.cond (.t 29) (.seq (.region false [on 5 (.alloc 0 [.int .i64 0]) [],os (.store 1) [.t 5,.t 30] 0] 1 [0,4,5] [5]) (.seq (.region true [mv 32 0,oa 33 .aW 32,of 34 (.fld 0) [.t 33] 2,of 35 (.fld 4) [.t 34] 2,of 36 (.load true 2) [.t 35] 2,of 37 (.fld 0) [.t 5] 1,of 38 (.load false 1) [.t 37] 1,ob 39 (.iZ F.Ei) 36 38,mv 31 39,oa 40 (.ext 0) 31,oa 41 (.ext 1) 31,on 6 (.alloc 0 [.int .i64 0,.int .i64 0,.int .i64 0]) [],os (.store 3) [.t 6,.t 40] 4,mv 7 41] 1 [0,4,5,7] []) (.seq (rg [mv 42 4,mv 43 7,oc 44 (.bin .eql) 43 (kI 0),mv 45 44,ot 46 .mov [.t 0] 45 0,ot 47 .aW [.t 46] 45 0,ot 48 (.fld 18) [.t 47] 45 0,ot 49 (.load false 1) [.t 48] 45 0,ot 50 .len [.t 49] 45 0,ot 51 (.bin .lss) [.t 50,kI 8] 45 0,on 52 .pick [.t 45,.t 51,.c (.bool false)],ob 53 .je 42 52] 0 [0,5]) (.region true [mv 54 0,mv 55 0,oa 56 .aW 55,of 57 (.fld 18) [.t 56] 2,of 58 (.load false 1) [.t 57] 2,of 59 (.fld 0) [.t 5] 1,of 60 (.load false 1) [.t 59] 1,of 61 (.iH 1 [.int .i64 0] [0]) [.t 60] 1,ob 62 (.app 1 true) 58 61,oa 63 .aW 54,of 64 (.fld 18) [.t 63] 2,os (.store 1) [.t 64,.t 62] 0] 0 [] [])))) (.seq (rg [oa 65 (.tas T.bD (.agg [.int .i64 0,.int .i64 0,.int .i64 0])) 27,oa 66 (.ext 1) 65,oa 67 (.ext 0) 65] 0 [0,4,27,66,67]) (.cond (.t 66) (.seq (.region false [on 8 (.alloc 0 [.int .i64 0,.int .i64 0,.int .i64 0]) [],os (.store 3) [.t 8,.t 67] 0] 1 [0,4,8] [8]) (.seq (.region true [mv 69 0,oa 70 .aW 69,of 71 (.fld 0) [.t 70] 2,of 72 (.fld 0) [.t 71] 2,of 73 (.load true 2) [.t 72] 2,of 74 (.fld 0) [.t 8] 1,of 75 (.load true 3) [.t 74] 1,ob 76 (.Qh F.AQ) 73 75,mv 68 76,oa 77 (.ext 0) 68,oa 78 (.ext 1) 68,mv 9 77,mv 10 78] 0 [0,4,8,9,10] []) (.seq (rg [mv 79 4,mv 80 10,oc 81 (.bin .eql) 80 (kI 0),ob 82 .je 79 81] 0 [0,4,8,9]) (.seq (.seq (rg [mv 83 9,oa 84 .len 83,mk 85 (kI 0)] 0 [0,4,8,83,84,85]) (.block 1 (.loop (.seq (rg [ob 86 (.bin .lss) 85 84] 0 [0,4,8,83,84,85,86]) (.seq (.cond (.t 86) .skip (.exit 1)) (.seq (.block 2 (.seq (rg [ob 87 (.bC 1) 83 85,lo 88 87,mv 12 88] 0 [0,4,8,12,83,84,85]) (.seq (rg [mv 90 0,oa 91 .aW 90,oa 92 (.fld 19) 91,lo 93 92,mv 94 12,ob 95 (.NM true [] (.agg [.int .i64 0,.int .i64 0])) 93 94,mv 89 95,oa 96 (.ext 0) 89,oa 97 (.ext 1) 89,on 13 (.alloc 0 [.int .i64 0,.int .i64 0]) [],os (.store 2) [.t 13,.t 96] 0,mv 14 97] 1 [0,4,8,14,83,84,85]) (rg [mv 98 4,mv 99 14,ob 100 .je 98 99] 0 [0,4,8,83,84,85])))) (rg [oc 101 (.bin .add) 85 (kI 1),mv 85 101] 0 [0,4,8,83,84,85]))))))) (.seq (.region true [mv 102 0,oa 103 .aW 102,of 104 (.fld 0) [.t 103] 2,of 105 (.fld 0) [.t 104] 2,of 106 (.fld 0) [.t 105] 2,of 107 (.load false 1) [.t 106] 2,of 108 (.fld 0) [.t 8] 1,of 109 (.fld 0) [.t 108] 1,of 110 (.load false 1) [.t 109] 1,ob 111 (.bC 3) 107 110,of 112 (.fld 1) [.t 111] 3,of 113 (.load true 2) [.t 112] 3,on 15 (.alloc 0 [.int .i64 0,.int .i64 0]) [],os (.store 2) [.t 15,.t 113] 4] 1 [0,4,8,15] [15]) (.seq (rg [on 16 (.jV 1) [.c (.slice true [])]] 0 [0,4,8,15,16]) (.seq (.seq (rg [oa 114 (.fld 0) 15,lo 115 114,oa 116 (.fld 0) 8,oa 117 (.fld 1) 116,oa 118 (.fld 0) 117,lo 119 118,ob 120 (.bin .neq) 115 119] 0 [0,4,8,15,16,120]) (.cond (.t 120) (.seq (rg [mv 121 0,oa 122 (.fld 0) 8,oa 123 (.fld 1) 122,oa 124 (.fld 0) 123,lo 125 124,ob 126 (.call F.kN) 121 125,mv 17 126] 0 [0,4,8,15,16,17]) (.seq (rg [mv 127 4,mv 128 17,ob 129 .je 127 128] 0 [0,4,8,15,16]) (rg [mv 130 16,oa 131 (.fld 0) 15,lo 132 131,oa 133 (.iH 1 [.int .i64 0] [0]) 132,ob 134 (.app 1 false) 130 133,mv 16 134] 0 [0,4,8,15,16]))) .skip)) (.seq (.seq (rg [oa 135 (.fld 1) 15,lo 136 135,oa 137 (.fld 0) 8,oa 138 (.fld 1) 137,oa 139 (.fld 1) 138,lo 140 139,ob 141 (.bin .neq) 136 140] 0 [0,4,8,15,16,141]) (.cond (.t 141) (.seq (rg [mv 142 0,oa 143 (.fld 0) 8,oa 144 (.fld 1) 143,oa 145 (.fld 1) 144,lo 146 145,ob 147 (.call F.kN) 142 146,mv 18 147] 0 [0,4,8,15,16,18]) (.seq (rg [mv 148 4,mv 149 18,ob 150 .je 148 149] 0 [0,8,15,16]) (rg [mv 151 16,oa 152 (.fld 1) 15,lo 153 152,oa 154 (.iH 1 [.int .i64 0] [0]) 153,ob 155 (.app 1 false) 151 154,mv 16 155] 0 [0,8,16]))) .skip)) (.seq (rg [mv 156 0,mv 157 0,oa 158 .aW 157,oa 159 (.fld 18) 158,lo 160 159,mv 161 16,ob 162 (.app 1 false) 160 161,oa 163 .aW 156,oa 164 (.fld 18) 163,os (.store 1) [.t 164,.t 162] 0] 0 [0,8]) (.region true [mv 165 0,oa 166 .aW 165,of 167 (.fld 0) [.t 166] 2,of 168 (.fld 0) [.t 167] 2,of 169 (.fld 0) [.t 168] 2,of 170 (.load false 1) [.t 169] 2,of 171 (.fld 0) [.t 8] 1,of 172 (.fld 0) [.t 171] 1,of 173 (.load false 1) [.t 172] 1,of 174 (.fld 0) [.t 8] 1,of 175 (.fld 1) [.t 174] 1,of 176 (.load true 2) [.t 175] 1,ob 177 (.bC 3) 170 173,of 178 (.fld 1) [.t 177] 3,os (.store 2) [.t 178,.t 176] 3] 0 [] [])))))))))) (.seq (rg [oa 179 (.tas T.dR (.agg [.int .i64 0,.int .i64 0,.int .i64 0])) 27,oa 180 (.ext 1) 179,oa 181 (.ext 0) 179] 0 [0,4,27,180,181]) (.cond (.t 180) (.seq (.region false [on 19 (.alloc 0 [.int .i64 0,.int .i64 0,.int .i64 0]) [],os (.store 3) [.t 19,.t 181] 0] 1 [0,4,19] [19]) (.seq (.region true [mv 183 0,oa 184 .aW 183,of 185 (.fld 19) [.t 184] 2,of 186 (.load false 1) [.t 185] 2,of 187 (.fld 0) [.t 19] 1,of 188 (.load false 1) [.t 187] 1,ob 189 (.NM true [] (.agg [.int .i64 0,.int .i64 0])) 186 188,mv 182 189,oa 190 (.ext 0) 182,oa 191 (.ext 1) 182,on 20 (.alloc 0 [.int .i64 0,.int .i64 0]) [],os (.store 2) [.t 20,.t 190] 4,mv 21 191] 1 [0,4,19,21] []) (.seq (rg [mv 192 4,mv 193 21,oa 194 (.un .not) 193,ob 195 .je 192 194] 0 [0,19]) (.region true [mv 196 0,oa 197 .aW 196,of 198 (.fld 19) [.t 197] 2,of 199 (.load false 1) [.t 198] 2,of 200 (.fld 0) [.t 19] 1,of 201 (.load false 1) [.t 200] 1,of 202 (.fld 1) [.t 19] 1,of 203 (.load true 2) [.t 202] 1,os (.ae2 []) [.t 199,.t 201,.t 203] 0] 0 [] [])))) (.seq (rg [oa 204 (.tas T.dF (.agg [.int .i64 0,.int .i64 0])) 27,oa 205 (.ext 1) 204,oa 206 (.ext 0) 204] 0 [0,4,27,205,206]) (.cond (.t 205) (.seq (.region false [on 22 (.alloc 0 [.int .i64 0,.int .i64 0]) [],os (.store 2) [.t 22,.t 206] 0] 1 [0,4,22] [22]) (.seq (.region true [mv 208 0,oa 209 .aW 208,of 210 (.fld 19) [.t 209] 2,of 211 (.load false 1) [.t 210] 2,of 212 (.fld 0) [.t 22] 1,of 213 (.load false 1) [.t 212] 1,ob 214 (.NM true [] (.agg [.int .i64 0,.int .i64 0])) 211 213,mv 207 214,oa 215 (.ext 0) 207,oa 216 (.ext 1) 207,on 23 (.alloc 0 [.int .i64 0,.int .i64 0]) [],os (.store 2) [.t 23,.t 215] 4,mv 24 216] 1 [0,4,22,23,24] [23]) (.seq (.region true [mv 217 4,mv 218 24,mv 219 218,ot 220 .mov [.t 0] 219 0,ot 221 (.fld 0) [.t 22] 219 1,ot 222 (.load false 1) [.t 221] 219 1,ot 223 (.load true 2) [.t 23] 219 1,ot 224 (.iZ F.kM) [.t 220,.t 222,.t 223,kI 100] 219 0,on 225 .pick [.t 219,.t 224,.c (.bool false)],mv 226 225,ot 227 (.fld 1) [.t 22] 226 1,ot 228 (.load false 1) [.t 227] 226 1,ot 229 .mov [.t 0] 226 0,ot 230 (.fld 0) [.t 22] 226 1,ot 231 (.load false 1) [.t 230] 226 1,ot 232 (.iZ F.jL) [.t 229,.t 231] 226 0,ot 233 (.bin .geq) [.t 228,.t 232] 226 0,on 234 .pick [.t 226,.t 233,.c (.bool false)],ob 235 .je 217 234] 0 [0,22,23] []) (.seq (.region true [mv 236 0,oa 237 .aW 236,of 238 (.fld 19) [.t 237] 2,of 239 (.load false 1) [.t 238] 2,of 240 (.fld 0) [.t 22] 1,of 241 (.load false 1) [.t 240] 1,os (.ae0 []) [.t 239,.t 241] 0] 0 [0,22,23] []) (.seq (.region true [mv 242 0,oa 243 .aW 242,of 244 (.fld 0) [.t 243] 2,of 245 (.fld 2) [.t 244] 2,of 246 (.load false 1) [.t 245] 2,of 247 (.fld 0) [.t 22] 1,of 248 (.load false 1) [.t 247] 1,of 249 (.load true 2) [.t 23] 1,ob 250 (.bC 2) 246 248,os (.store 2) [.t 250,.t 249] 0] 0 [0,22] []) (.region true [mv 251 0,oa 252 .aW 251,of 253 (.fld 20) [.t 252] 2,of 254 (.load false 1) [.t 253] 2,of 255 (.fld 1) [.t 22] 1,of 256 (.load false 1) [.t 255] 1,ob 257 (.bin .add) 254 256,oa 258 .aW 251,of 259 (.fld 20) [.t 258] 2,os (.store 1) [.t 259,.t 257] 0] 0 [] [])))))) (.seq (rg [oa 260 (.tas T.eF (.agg [.int .i64 0])) 27,oa 261 (.ext 1) 260,oa 262 (.ext 0) 260] 0 [0,4,261,262]) (.cond (.t 261) (.seq (.region false [on 25 (.alloc 0 [.int .i64 0]) [],os (.store 1) [.t 25,.t 262] 0] 1 [0,4,25] [25]) (.seq (.region true [mv 263 4,mv 264 0,oa 265 .aW 264,of 266 (.fld 17) [.t 265] 2,of 267 (.load false 1) [.t 266] 2,of 268 (.fld 0) [.t 25] 1,of 269 (.load false 1) [.t 268] 1,oc 270 (.bin .sub) 269 (kI 1),of 271 (.bC 2) [.t 267,.t 270] 1,of 272 (.fld 1) [.t 271] 1,of 273 (.load false 1) [.t 272] 1,mv 274 273,ot 275 .mov [.t 0] 274 0,ot 276 .aW [.t 275] 274 0,ot 277 (.fld 21) [.t 276] 274 2,ot 278 (.load false 1) [.t 277] 274 2,ot 279 .len [.t 278] 274 0,ot 280 (.bin .eql) [.t 279,kI 0] 274 0,ot 281 .mov [.t 280] 274 0,oF 282 (.fld 0) [.t 25] 281 1,oF 283 (.load false 1) [.t 282] 281 1,oF 284 .mov [.t 0] 281 0,oF 285 .aW [.t 284] 281 0,oF 286 (.fld 21) [.t 285] 281 2,oF 287 (.load false 1) [.t 286] 281 2,oF 288 .mov [.t 0] 281 0,oF 289 .aW [.t 288] 281 0,oF 290 (.fld 21) [.t 289] 281 2,oF 291 (.load false 1) [.t 290] 281 2,oF 292 .len [.t 291] 281 0,oF 293 (.bin .sub) [.t 292,kI 1] 281 0,oF 294 (.bC 1) [.t 287,.t 293] 281 0,oF 295 (.load false 1) [.t 294] 281 3,oF 296 (.bin .gtr) [.t 283,.t 295] 281 0,ot 297 .pick [.t 281,.c (.bool true),.t 296] 274 0,on 298 .pick [.t 274,.t 297,.c (.bool false)],ob 299 .je 263 298] 0 [0,25] []) (.region true [mv 300 0,mv 301 0,oa 302 .aW 301,of 303 (.fld 21) [.t 302] 2,of 304 (.load false 1) [.t 303] 2,of 305 (.fld 0) [.t 25] 1,of 306 (.load false 1) [.t 305] 1,of 307 (.iH 1 [.int .i64 0] [0]) [.t 306] 1,ob 308 (.app 1 false) 304 307,oa 309 .aW 300,of 310 (.fld 21) [.t 309] 2,os (.store 1) [.t 310,.t 308] 0] 0 [] []))) .skip))))))))))))))
def cZ:List aJ:=[]
theorem dM:aC C.P F.bF 2 cO cZ=true:=by kernel_rfl
def ru:aB:=(.seq (rg [mk 4 (.c (.str ⟨#[]⟩))] 0 [0,1]) (.seq (.region false [mv 10 1,oa 11 (.ak F.qN) 10,mv 9 11,oa 12 (.ext 0) 9,oa 13 (.ext 1) 9,on 5 (.alloc 0 [.int .i64 0,.slice true []]) [],os (.store 2) [.t 5,.t 12] 0,mv 6 13] 1 [0,1,5,6] [5]) (.seq (.seq (rg [mv 14 6,oc 15 (.bin .eql) 14 (kI 0)] 0 [0,1,5,6,15]) (.cond (.t 15) (.seq (rg [mv 16 0,oa 17 (.load true 2) 5,ob 18 (.call F.oN) 16 17,mv 6 18] 0 [6]) (.seq (.seq (rg [mv 19 6,oc 20 (.bin .eql) 19 (kI 0)] 0 [6,20]) (.cond (.t 20) (.seq (rg [mk 4 (.c (.str ⟨#[110,111,116,101,100]⟩))] 0 [4]) .ret) .skip)) (.seq (rg [mv 21 6,oa 22 (.ak F.strconv_Itoa) 21,on 23 (.bin .add) [.c (.str ⟨#[101,114,114,111,114,32]⟩),.t 22],mv 4 23] 0 [4]) .ret))) .skip)) (.seq (.seq (rg [mv 24 6,oc 25 (.bin .eql) 24 (kI 3)] 0 [0,1,6,25]) (.cond (.t 25) (.seq (rg [mv 26 6,oa 27 (.ak F.strconv_Itoa) 26,on 28 (.bin .add) [.c (.str ⟨#[101,114,114,111,114,32]⟩),.t 27],mv 4 28] 0 [4]) .ret) .skip)) (.seq (.region false [mv 30 1,oa 31 (.ak F.sJ) 30,mv 29 31,oa 32 (.ext 0) 29,oa 33 (.ext 1) 29,on 7 (.alloc 0 [.int .i64 0,.slice true []]) [],os (.store 2) [.t 7,.t 32] 0,mv 6 33] 1 [0,6,7] [7]) (.seq (rg [mk 8 (.c (.slice true []))] 0 [0,6,7,8]) (.seq (.seq (rg [mv 34 6,oc 35 (.bin .eql) 34 (kI 0)] 0 [0,6,7,8,35]) (.cond (.t 35) (rg [mv 37 0,oa 38 (.load true 2) 7,ob 39 (.call F.sG) 37 38,mv 36 39,oa 40 (.ext 0) 36,oa 41 (.ext 1) 36,mv 8 40,mv 6 41] 0 [6,8]) .skip)) (.seq (.block 0 (.seq (rg [mv 43 6,oc 44 (.bin .neq) 43 (kI 0),mv 42 44] 0 [6,8,42]) (.cond (.t 42) (.seq (rg [mv 45 6,oa 46 (.ak F.strconv_Itoa) 45,on 47 (.bin .add) [.c (.str ⟨#[101,114,114,111,114,32]⟩),.t 46],mv 4 47] 0 [4]) .ret) (.seq (rg [mv 49 8,oa 50 .len 49,oc 51 (.bin .eql) 50 (kI 0),mv 48 51] 0 [8,48]) (.cond (.t 48) (.seq (rg [mk 4 (.c (.str ⟨#[110,111,116,104,105,110,103]⟩))] 0 [4]) .ret) .skip))))) (.seq (rg [mv 52 8,oa 53 (.iZ F.oZ) 52,mv 4 53] 0 [4]) .ret)))))))))
def rP:List aJ:=[.tmp 4]
theorem EN:aC C.P F.nH 2 ru rP=true:=by kernel_rfl
def BM:aB:=(.seq (rg [on 0 (.alloc 0 [.str ⟨#[]⟩,.int .i64 0,.str ⟨#[]⟩,.int .i64 0,.str ⟨#[]⟩,.int .i64 0,.str ⟨#[]⟩,.int .i64 0,.str ⟨#[]⟩,.int .i64 0,.str ⟨#[]⟩,.int .i64 0]) []] 1 [0]) (.seq (rg [on 1 (.build [.str ⟨#[]⟩,.int .i64 0] [(0,1),(1,1)]) [.c (.str ⟨#[99,117,116]⟩),kI 1],on 2 (.build [.str ⟨#[]⟩,.int .i64 0] [(0,1),(1,1)]) [.c (.str ⟨#[99,104,97,110,103,101]⟩),kI 3],on 3 (.build [.str ⟨#[]⟩,.int .i64 0] [(0,1),(1,1)]) [.c (.str ⟨#[111,114,100,101,114]⟩),kI 3],on 4 (.build [.str ⟨#[]⟩,.int .i64 0] [(0,1),(1,1)]) [.c (.str ⟨#[115,101,114,118,101]⟩),kI 2],on 5 (.build [.str ⟨#[]⟩,.int .i64 0] [(0,1),(1,1)]) [.c (.str ⟨#[115,101,116]⟩),kI 1],on 6 (.build [.str ⟨#[]⟩,.int .i64 0] [(0,1),(1,1)]) [.c (.str ⟨#[115,116,114,105,107,101]⟩),kI 1],on 7 (.build [.str ⟨#[]⟩,.int .i64 0,.str ⟨#[]⟩,.int .i64 0,.str ⟨#[]⟩,.int .i64 0,.str ⟨#[]⟩,.int .i64 0,.str ⟨#[]⟩,.int .i64 0,.str ⟨#[]⟩,.int .i64 0] [(0,2),(2,2),(4,2),(6,2),(8,2),(10,2)]) [.t 1,.t 2,.t 3,.t 4,.t 5,.t 6],os (.store 12) [.t 0,.t 7] 0] 0 [0]) .ret))
def CB:List aJ:=[.cell 0 true 12]
theorem NV:aC C.P F.mM 0 BM CB=true:=by kernel_rfl
def Af:aB:=(.seq (rg [mk 2 (.c (.str ⟨#[]⟩))] 0 [0]) (.seq (rg [on 3 (.jV 1) [.c (.slice true [])]] 0 [0,3]) (.seq (.seq (rg [mv 6 0,oa 7 .len 6,mk 8 (kI 0)] 0 [3,6,7,8]) (.block 0 (.loop (.seq (rg [ob 9 (.bin .lss) 8 7] 0 [3,6,7,8,9]) (.seq (.cond (.t 9) .skip (.exit 0)) (.seq (.block 1 (.seq (rg [ob 10 (.bC 1) 6 8,lo 11 10,mv 5 11] 0 [3,5,6,7,8]) (rg [mv 12 3,mv 13 5,oa 14 (.ak F.strconv_Itoa) 13,oa 15 (.iH 1 [.str ⟨#[]⟩] [0]) 14,ob 16 (.app 1 false) 12 15,mv 3 16] 0 [3,6,7,8]))) (rg [oc 17 (.bin .add) 8 (kI 1),mv 8 17] 0 [3,6,7,8]))))))) (.seq (rg [mv 18 3,oc 19 (.iZ F.strings_Join) 18 (.c (.str ⟨#[32]⟩)),mv 2 19] 0 [2]) .ret))))
def Aw:List aJ:=[.tmp 2]
theorem Lh:aC C.P F.oZ 1 Af Aw=true:=by kernel_rfl
def yJ:aB:=(.seq (.region false [on 5 (.ak F.mM) [],on 2 (.alloc 0 [.str ⟨#[]⟩,.int .i64 0,.str ⟨#[]⟩,.int .i64 0,.str ⟨#[]⟩,.int .i64 0,.str ⟨#[]⟩,.int .i64 0,.str ⟨#[]⟩,.int .i64 0,.str ⟨#[]⟩,.int .i64 0]) [],os (.store 12) [.t 2,.t 5] 0] 1 [0,1,2] [2]) (.seq (.region true [of 7 (.load false 1) [.t 0] 1,of 8 (.YL true 2 6) [.t 2] 1,ob 9 (.call F.lg) 7 8,mv 6 9,oa 10 (.ext 0) 6,oa 11 (.ext 1) 6,mv 3 10,mv 4 11] 0 [1,3,4] []) (rg [mv 12 3,on 13 (.bin .add) [kI 1,.t 12],mv 14 4,ob 15 (.build [.int .i64 0,.slice true []] [(0,1),(1,1)]) 13 14,os (.store 2) [.t 1,.t 15] 0] 0 [])))
def yS:List aJ:=[]
theorem Ky:aC C.P F.vk 2 yJ yS=true:=by kernel_rfl
def D9:aB:=(.seq (rg [mk 4 (kI 0),on 5 (.jV 1) [.c (.slice true [])]] 0 [0,1]) (.seq (rg [mv 14 0,oc 15 (.ak F.strings_Split) 14 (.c (.str ⟨#[32]⟩)),mv 6 15] 0 [0,1,6]) (.seq (rg [mv 16 1,mv 17 6,oc 18 (.bC 1) 17 (kI 0),lo 19 18,mv 20 6,oa 21 .len 20,oc 22 (.bin .sub) 21 (kI 1),ob 23 (.build [.str ⟨#[]⟩,.int .i64 0] [(0,1),(1,1)]) 19 22,ob 24 (.ak F.jA) 16 23,mv 7 24] 0 [0,6,7]) (.seq (rg [mv 25 7,oc 26 (.bin .geq) 25 (kI 0),mv 27 0,ob 28 (.call F.nY) 26 27] 0 [0,6,7]) (.seq (rg [on 8 (.jV 1) [.c (.slice true [])]] 0 [0,6,7,8]) (.seq (.seq (rg [mv 29 6,oc 30 (.RU 1 true false false) 29 (kI 1),oa 31 .len 30,mk 32 (kI 0)] 0 [0,7,8,30,31,32]) (.block 0 (.loop (.seq (rg [ob 33 (.bin .lss) 32 31] 0 [0,7,8,30,31,32,33]) (.seq (.cond (.t 33) .skip (.exit 0)) (.seq (.block 1 (.seq (rg [ob 34 (.bC 1) 30 32,lo 35 34,mv 10 35] 0 [0,7,8,10,30,31,32]) (.seq (rg [mk 11 (kI 0)] 0 [0,7,8,10,11,30,31,32]) (.seq (.seq (rg [mv 36 10,oa 37 (.rngS 0) 36] 1 [0,7,8,10,11,30,31,32,37]) (.block 2 (.loop (.seq (rg [oa 38 .acw 37,oa 39 (.ext 0) 38] 0 [0,7,8,10,11,30,31,32,37,38,39]) (.seq (.cond (.t 39) .skip (.exit 2)) (.block 3 (.seq (rg [oa 40 (.ext 2) 38,mv 13 40] 0 [0,7,8,10,11,13,30,31,32,37]) (.seq (rg [mv 41 13,oc 42 (.bin .geq) 41 (.c (.int .i32 48)),mv 43 42,ot 44 .mov [.t 13] 43 0,ot 45 (.bin .leq) [.t 44,.c (.int .i32 57)] 43 0,on 46 .pick [.t 43,.t 45,.c (.bool false)],mv 47 46,ot 48 .mov [.t 10] 47 0,ot 49 .Kq [.t 48] 47 0,ot 50 (.bin .leq) [.t 49,kI 4] 47 0,on 51 .pick [.t 47,.t 50,.c (.bool false)],mv 52 0,ob 53 (.call F.nY) 51 52] 0 [0,7,8,10,11,13,30,31,32,37]) (rg [mv 54 11,on 55 (.bin .mul) [kI 10,.t 54],mv 56 13,oc 57 (.bin .sub) 56 (.c (.int .i32 48)),oa 58 (.conv .i64) 57,ob 59 (.bin .add) 55 58,mv 11 59] 0 [0,7,8,10,11,30,31,32,37]))))))))) (.seq (rg [mv 60 10,oc 61 (.bin .neq) 60 (.c (.str ⟨#[]⟩)),mv 62 61,ot 63 .mov [.t 11] 62 0,ot 64 (.ak F.strconv_Itoa) [.t 63] 62 0,ot 65 .mov [.t 10] 62 0,ot 66 (.bin .eql) [.t 64,.t 65] 62 0,on 67 .pick [.t 62,.t 66,.c (.bool false)],mv 68 0,ob 69 (.call F.nY) 67 68] 0 [0,7,8,11,30,31,32]) (rg [mv 70 8,mv 71 11,oa 72 (.iH 1 [.int .i64 0] [0]) 71,ob 73 (.app 1 false) 70 72,mv 8 73] 0 [0,7,8,30,31,32])))))) (rg [oc 74 (.bin .add) 32 (kI 1),mv 32 74] 0 [0,7,8,30,31,32]))))))) (.seq (rg [mv 75 7,mv 76 8,mv 4 75,mv 5 76] 0 [4,5]) .ret)))))))
def Et:List aJ:=[.tmp 4, .tmp 5]
theorem Pv:aC C.P F.lg 2 D9 Et=true:=by kernel_rfl
def kY:aB:=(.seq (rg [mv 6 0,oa 7 .aW 6,oa 8 (.fld 2) 7,lo 9 8,oa 10 .len 9,mk 11 (kI 0)] 0 [0,1,9,10,11]) (.block 0 (.loop (.seq (rg [ob 12 (.bin .lss) 11 10] 0 [0,1,9,10,11,12]) (.seq (.cond (.t 12) .skip (.exit 0)) (.seq (.block 1 (.seq (.region false [mv 13 11,ob 14 (.bC 2) 9 11,oa 15 (.load true 2) 14,on 5 (.alloc 0 [.int .i64 0,.slice true []]) [],mv 4 13,os (.store 2) [.t 5,.t 15] 0] 1 [0,1,4,5,9,10,11] [5]) (.seq (rg [oa 16 (.fld 0) 5,lo 17 16,oc 18 (.bin .neq) 17 (kI 6),mv 19 18,ot 20 .mov [.t 0] 19 0,ot 21 .aW [.t 20] 19 0,ot 22 (.fld 3) [.t 21] 19 0,ot 23 (.load false 1) [.t 22] 19 0,ot 24 .mov [.t 4] 19 0,ot 25 (.bC 1) [.t 23,.t 24] 19 0,ot 26 (.load false 1) [.t 25] 19 0,ot 27 (.un .not) [.t 26] 19 0,on 28 .pick [.t 19,.t 27,.c (.bool false)],mv 29 28,ot 30 .mov [.t 1] 29 0,ot 31 .mov [.t 4] 29 0,ot 32 (.load true 2) [.t 5] 29 0,ot 33 (.ak F.lD) [.t 32] 29 0,ot 34 .je [.t 30,.t 31,.t 33] 29 0,ot 35 (.un .not) [.t 34] 29 0,on 36 .pick [.t 29,.t 35,.c (.bool false)]] 0 [0,1,9,10,11,36]) (.cond (.t 36) .ret .skip)))) (rg [oc 37 (.bin .add) 11 (kI 1),mv 11 37] 0 [0,1,9,10,11])))))))
def kZ:List aJ:=[]
theorem qZ:aC C.P F.gZ 2 kY kZ=true:=by kernel_rfl
def rC:aB:=(.seq (rg [mk 4 (.c (.bool false))] 0 [0,1]) (.seq (rg [mv 5 1,mv 6 0,oa 7 .aW 6,oa 8 (.fld 0) 7,lo 9 8,oa 10 .aW 9,oa 11 (.fld 0) 10,oa 12 (.fld 1) 11,lo 13 12,oa 14 .len 13,oc 15 (.bin .sub) 14 (kI 1),on 16 (.ak F.dh) [.t 5,kI 0,.t 15],mv 4 16] 0 [4]) .ret))
def rQ:List aJ:=[.tmp 4]
theorem EO:aC C.P F.dL 2 rC rQ=true:=by kernel_rfl
def rJ:aB:=(.seq (rg [mk 4 (kI 0)] 0 [0,1]) (.seq (.region true [mv 14 0,oa 15 .aW 14,of 16 (.fld 0) [.t 15] 1,of 17 (.fld 0) [.t 16] 1,of 18 (.load true 2) [.t 17] 1,mv 19 0,oa 20 .aW 19,of 21 (.fld 0) [.t 20] 1,of 22 (.fld 0) [.t 21] 1,of 23 (.fld 1) [.t 22] 1,of 24 (.load false 1) [.t 23] 1,mv 25 1,of 26 (.bC 1) [.t 24,.t 25] 1,of 27 (.load false 1) [.t 26] 1,ob 28 (.ak F.P7) 18 27,mv 13 28,oa 29 (.ext 0) 13,oa 30 (.ext 1) 13,mv 5 29,mv 6 30] 0 [0,5] []) (.seq (.region true [mv 31 0,oa 32 .aW 31,of 33 (.fld 0) [.t 32] 1,of 34 (.fld 13) [.t 33] 1,of 35 (.load false 1) [.t 34] 1,mv 36 0,oa 37 .aW 36,of 38 (.fld 0) [.t 37] 1,of 39 (.fld 14) [.t 38] 1,of 40 (.load false 1) [.t 39] 1,mv 41 0,oa 42 .aW 41,of 43 (.fld 0) [.t 42] 1,of 44 (.fld 15) [.t 43] 1,of 45 (.load false 1) [.t 44] 1,mv 46 0,oa 47 .aW 46,of 48 (.fld 0) [.t 47] 1,of 49 (.fld 16) [.t 48] 1,of 50 (.load false 1) [.t 49] 1,on 51 (.build [.slice true [],.int .i64 0,.int .i64 0,.int .i64 0,.int .i64 0,.int .i64 0] [(1,1),(2,1),(3,1),(4,1)]) [.t 35,.t 40,.t 45,.t 50],on 7 (.alloc 0 [.slice true [],.int .i64 0,.int .i64 0,.int .i64 0,.int .i64 0,.int .i64 0]) [],os (.store 6) [.t 7,.t 51] 4] 1 [5,7] []) (.seq (.seq (rg [mv 52 5,oa 53 .len 52,mk 54 (kI 0)] 0 [7,52,53,54]) (.block 0 (.loop (.seq (rg [ob 55 (.bin .lss) 54 53] 0 [7,52,53,54,55]) (.seq (.cond (.t 55) .skip (.exit 0)) (.seq (.block 1 (.seq (.region false [ob 56 (.bC 2) 52 54,oa 57 (.load true 2) 56,on 9 (.alloc 0 [.int .i64 0,.int .i64 0]) [],os (.store 2) [.t 9,.t 57] 0] 1 [7,9,52,53,54] [9]) (rg [oa 58 (.fld 0) 7,lo 59 58,oa 60 (.fld 0) 9,lo 61 60,oa 62 (.fld 1) 9,lo 63 62,ob 64 (.iH 1 [.int .i64 0,.int .i64 0] [0,1]) 61 63,ob 65 (.app 1 false) 59 64,oa 66 (.fld 0) 7,os (.store 1) [.t 66,.t 65] 0] 0 [7,52,53,54]))) (rg [oc 67 (.bin .add) 54 (kI 1),mv 54 67] 0 [7,52,53,54]))))))) (.seq (rg [oa 69 (.load true 6) 7,oa 70 (.iZ F.Ny) 69,mv 68 70,oa 71 (.ext 0) 68,oa 72 (.ext 1) 68,oa 73 (.ext 2) 68,mv 10 71,mv 11 72,mv 12 73] 0 [10]) (.seq (rg [mv 74 10,mv 4 74] 0 [4]) .ret))))))
def rZ:List aJ:=[.tmp 4]
theorem EW:aC C.P F.jL 2 rJ rZ=true:=by kernel_rfl
def yL:aB:=(.seq (rg [mk 2 (.c (.bool false))] 0 [0]) (.seq (rg [mv 3 0,on 4 (.ak F.dh) [.t 3,kI 4,kI 60],mv 2 4] 0 [2]) .ret))
def yU:List aJ:=[.tmp 2]
theorem KA:aC C.P F.fZ 1 yL yU=true:=by kernel_rfl
def tC:aB:=(.seq (rg [mk 4 (.c (.bool false))] 0 [0,1]) (.seq (rg [mv 5 1,mv 6 0,oa 7 .aW 6,oa 8 (.fld 1) 7,lo 9 8,oa 10 .len 9,on 11 (.ak F.dh) [.t 5,kI 1,.t 10],mv 4 11] 0 [4]) .ret))
def uo:List aJ:=[.tmp 4]
theorem Gf:aC C.P F.fG 2 tC uo=true:=by kernel_rfl
def rF:aB:=(.seq (.region false [oa 2 (.box 0) 0,mk 4 (kI 0)] 1 [1,2] [2]) (.seq (rg [mk 5 (kI 0)] 0 [1,2,5]) (.seq (.seq (rg [oa 8 (.fld 0) 2,lo 9 8,oa 10 .aW 9,oa 11 (.fld 21) 10,lo 12 11,oa 13 .len 12,mk 14 (kI 0)] 0 [1,5,12,13,14]) (.block 0 (.loop (.seq (rg [ob 15 (.bin .lss) 14 13] 0 [1,5,12,13,14,15]) (.seq (.cond (.t 15) .skip (.exit 0)) (.seq (.block 1 (.seq (rg [ob 16 (.bC 1) 12 14,lo 17 16,mv 7 17] 0 [1,5,7,12,13,14]) (.seq (rg [mv 18 7,mv 19 1,ob 20 (.bin .leq) 18 19] 0 [1,5,7,12,13,14,20]) (.cond (.t 20) (rg [mv 21 7,mv 5 21] 0 [1,5,12,13,14]) .skip)))) (rg [oc 22 (.bin .add) 14 (kI 1),mv 14 22] 0 [1,5,12,13,14]))))))) (.seq (rg [mv 23 1,mv 24 5,ob 25 (.bin .sub) 23 24,mv 4 25] 0 [4]) .ret))))
def rW:List aJ:=[.tmp 4]
theorem ES:aC C.P F.jK 2 rF rW=true:=by kernel_rfl
def uf:aB:=(.seq (.region false [oa 6 (.box 0) 2,mk 8 (.c (.bool false))] 1 [0,1,3,6] [6]) (.seq (.region true [mv 12 0,oa 13 .aW 12,of 14 (.fld 0) [.t 13] 1,of 15 (.fld 0) [.t 14] 1,of 16 (.load true 2) [.t 15] 1,mv 17 1,of 18 (.load true 2) [.t 6] 1,mv 19 3,on 20 (.ak F.Jv) [.t 16,.t 17,.t 18,.t 19],mv 11 20,oa 21 (.ext 0) 11,oa 22 (.ext 1) 11,mv 9 21,mv 10 22] 0 [0,9] []) (.seq (.region true [mv 23 9,mv 24 0,oa 25 .aW 24,of 26 (.fld 0) [.t 25] 1,of 27 (.fld 3) [.t 26] 1,of 28 (.load false 1) [.t 27] 1,oa 29 (.un .neg) 28,mv 30 0,oa 31 .aW 30,of 32 (.fld 0) [.t 31] 1,of 33 (.fld 3) [.t 32] 1,of 34 (.load false 1) [.t 33] 1,on 35 (.ak F.dh) [.t 23,.t 29,.t 34],mv 8 35] 0 [8] []) .ret)))
def uI:List aJ:=[.tmp 8]
theorem Gq:aC C.P F.kM 4 uf uI=true:=by kernel_rfl
def vV:aB:=(.seq (rg [mk 6 (kI 0),mk 7 (.c (.bool false))] 0 [0,1,2]) (.seq (.seq (rg [mv 9 0,mv 8 9] 0 [1,2,8]) (.block 0 (.loop (.seq (.seq (rg [mv 10 8,mv 11 1,ob 12 (.bin .leq) 10 11] 0 [1,2,8,12]) (.cond (.t 12) .skip (.exit 0))) (.seq (.block 1 (.seq (rg [mv 15 2,mv 16 8,ob 17 .je 15 16] 0 [1,2,8,17]) (.cond (.t 17) (.seq (rg [mv 18 8,mv 6 18,mk 7 (.c (.bool true))] 0 [6,7]) .ret) .skip))) (rg [mv 13 8,oc 14 (.bin .add) 13 (kI 1),mv 8 14] 0 [1,2,8])))))) (.seq (rg [mk 6 (kI 0),mk 7 (.c (.bool false))] 0 [6,7]) .ret)))
def wu:List aJ:=[.tmp 6, .tmp 7]
theorem G6:aC C.P F.pY 3 vV wu=true:=by kernel_rfl
def o9:aB:=(.seq (rg [mk 3 (.c (.bool false))] 0 [0,1]) (.seq (rg [oa 4 (.fld 0) 1,lo 5 4,oa 6 .aW 5,oa 7 (.fld 17) 6,lo 8 7,mv 9 0,oc 10 (.bin .sub) 9 (kI 1),ob 11 (.bC 2) 8 10,oa 12 (.fld 1) 11,lo 13 12,mv 3 13] 0 [3]) .ret))
def pq:List aJ:=[.tmp 3]
theorem CZ:aC C.P F.iW 2 o9 pq=true:=by kernel_rfl
def vW:aB:=(.seq (.region false [oa 1 (.box 0) 0,mk 2 (.c (.bool false))] 1 [1] [1]) (.seq (rg [oa 3 (.load true 2) 1,oa 4 (.ak F.kL) 3,oa 5 (.un .not) 4,mv 2 5] 0 [2]) .ret))
def wz:List aJ:=[.tmp 2]
theorem G7:aC C.P F.lF 1 vW wz=true:=by kernel_rfl
def tV:aB:=(.seq (.region false [oa 1 (.box 0) 0,mk 2 (.c (.bool false))] 1 [1] [1]) (.seq (rg [oa 3 (.fld 0) 1,lo 4 3,on 5 (.ak F.dh) [.t 4,kI 0,kI 50000],mv 6 5,ot 7 (.fld 1) [.t 1] 6 0,ot 8 (.load false 1) [.t 7] 6 0,ot 9 (.ak F.dh) [.t 8,kI 1,kI 50000] 6 0,on 10 .pick [.t 6,.t 9,.c (.bool false)],mv 2 10] 0 [2]) .ret))
def uD:List aJ:=[.tmp 2]
theorem Gl:aC C.P F.kL 1 tV uD=true:=by kernel_rfl
def tN:aB:=(.seq (rg [mk 2 (.c (.bool false))] 0 [0]) (.seq (rg [mv 3 0,on 4 (.ak F.dh) [.t 3,kI 0,kI 9999],oa 5 (.un .not) 4,mv 2 5] 0 [2]) .ret))
def uz:List aJ:=[.tmp 2]
theorem Gj:aC C.P F.kK 1 tN uz=true:=by kernel_rfl
def lN:aB:=(.seq (rg [mv 3 0,oa 4 (.un .not) 3] 0 [1,4]) (.cond (.t 4) (rg [lo 5 1,oa 6 (.build [.nilIface] [(0,1)]) 5,oa 7 (.mkI T.iQ) 6,os .panic [.t 7] 0] 0 []) .skip))
def lU:List aJ:=[]
theorem sW:aC C.P F.fP 2 lN lU=true:=by kernel_rfl
def ug:aB:=(.seq (rg [mk 4 (.c (.bool false))] 0 [0,1]) (.seq (rg [mv 6 0,oa 7 .aW 6,oa 8 (.fld 18) 7,lo 9 8,mv 10 1,ob 11 (.iZ F.slices_Index_int) 9 10,mv 5 11] 0 [0,5]) (.seq (.seq (rg [mv 12 5,oc 13 (.bin .lss) 12 (kI 0)] 0 [0,5,13]) (.cond (.t 13) (.seq (rg [mk 4 (.c (.bool false))] 0 [4]) .ret) .skip)) (.seq (rg [mv 14 0,mv 15 0,oa 16 .aW 15,oa 17 (.fld 18) 16,lo 18 17,mv 19 5,mv 20 5,oc 21 (.bin .add) 20 (kI 1),on 22 (.call F.slices_Delete_int) [.t 18,.t 19,.t 21],oa 23 .aW 14,oa 24 (.fld 18) 23,os (.store 1) [.t 24,.t 22] 0] 0 []) (.seq (rg [mk 4 (.c (.bool true))] 0 [4]) .ret)))))
def uJ:List aJ:=[.tmp 4]
theorem Gs:aC C.P F.kN 2 ug uJ=true:=by kernel_rfl
def wY:aB:=(.seq (.region false [oa 1 (.box 0) 0,on 2 (.alloc 1 [.int .i64 0,.slice true []]) [],mk 3 (kI 0)] 2 [1,2] [1]) (.seq (rg [on 4 (.alloc 0 [.int .i64 0,.slice true []]) []] 1 [1,2,4]) (.seq (rg [ob 6 (.mkF (.func F.oP) 0) 1 4,oa 7 (.call F.ku) 6,mv 5 7] 0 [2,4,5]) (.seq (rg [oa 8 (.load true 2) 4,mv 9 5,os (.store 2) [.t 2,.t 8] 0,mv 3 9] 0 [2,3]) .ret))))
def xO:List aJ:=[.cell 2 true 2, .tmp 3]
theorem Jd:aC C.P F.sJ 1 wY xO=true:=by kernel_rfl
def vF:aB:=(.seq (rg [mv 4 0,oa 5 (.un .not) 4] 0 [1,5]) (.cond (.t 5) (rg [mv 6 1,oa 7 (.build [.str ⟨#[]⟩] [(0,1)]) 6,oa 8 (.mkI T.uP) 7,os .panic [.t 8] 0] 0 []) .skip))
def vH:List aJ:=[]
theorem Pq:aC C.P F.nY 2 vF vH=true:=by kernel_rfl
def tY:aB:=(.seq (.region false [on 5 (.ak F.uO) [],on 2 (.alloc 0 [.str ⟨#[]⟩,.int .i64 0,.str ⟨#[]⟩,.int .i64 0,.str ⟨#[]⟩,.int .i64 0,.str ⟨#[]⟩,.int .i64 0,.str ⟨#[]⟩,.int .i64 0,.str ⟨#[]⟩,.int .i64 0,.str ⟨#[]⟩,.int .i64 0,.str ⟨#[]⟩,.int .i64 0,.str ⟨#[]⟩,.int .i64 0,.str ⟨#[]⟩,.int .i64 0,.str ⟨#[]⟩,.int .i64 0,.str ⟨#[]⟩,.int .i64 0]) [],os (.store 24) [.t 2,.t 5] 0] 1 [0,1,2] [2]) (.seq (.region true [of 7 (.load false 1) [.t 0] 1,of 8 (.YL true 2 12) [.t 2] 1,ob 9 (.call F.lg) 7 8,mv 6 9,oa 10 (.ext 0) 6,oa 11 (.ext 1) 6,mv 3 10,mv 4 11] 0 [1,3,4] []) (rg [mv 12 3,on 13 (.bin .add) [kI 1,.t 12],mv 14 4,ob 15 (.build [.int .i64 0,.slice true []] [(0,1),(1,1)]) 13 14,os (.store 2) [.t 1,.t 15] 0] 0 [])))
def uG:List aJ:=[]
theorem Gn:aC C.P F.oP 2 tY uG=true:=by kernel_rfl
def rM:aB:=(.seq (.region false [oa 2 (.box 0) 0,mk 4 (.c (.bool false))] 1 [1,2] [2]) (.seq (.region true [of 5 (.fld 0) [.t 2] 1,of 6 (.load false 1) [.t 5] 1,mv 7 1,oa 8 .aW 7,of 9 (.fld 2) [.t 8] 1,of 10 (.load false 1) [.t 9] 1,of 11 .len [.t 10] 1,oc 12 (.bin .sub) 11 (kI 1),on 13 (.ak F.dh) [.t 6,kI 0,.t 12],mv 14 13,ot 15 .mov [.t 1] 14 0,ot 16 .aW [.t 15] 14 0,ot 17 (.fld 2) [.t 16] 14 1,ot 18 (.load false 1) [.t 17] 14 1,ot 19 (.fld 0) [.t 2] 14 1,ot 20 (.load false 1) [.t 19] 14 1,ot 21 (.bC 2) [.t 18,.t 20] 14 1,ot 22 (.fld 0) [.t 21] 14 1,ot 23 (.load false 1) [.t 22] 14 1,ot 24 (.bin .neq) [.t 23,kI 6] 14 0,on 25 .pick [.t 14,.t 24,.c (.bool false)],mv 4 25] 0 [4] []) .ret))
def sD:List aJ:=[.tmp 4]
theorem EX:aC C.P F.nJ 2 rM sD=true:=by kernel_rfl
def wW:aB:=(.seq (.region false [oa 2 (.box 0) 0,mk 4 (.c (.bool false))] 1 [2] [2]) (.seq (rg [oa 5 (.fld 0) 2,lo 6 5,oa 7 (.ak F.fZ) 6,mv 4 7] 0 [4]) .ret))
def xK:List aJ:=[.tmp 4]
theorem Jb:aC C.P F.sH 2 wW xK=true:=by kernel_rfl
def rH:aB:=(.seq (.region false [oa 2 (.box 0) 0,mk 4 (.c (.bool false))] 1 [1,2] [2]) (.seq (.region true [of 5 (.fld 0) [.t 2] 1,of 6 (.fld 0) [.t 5] 1,of 7 (.load false 1) [.t 6] 1,mv 8 1,oa 9 .aW 8,of 10 (.fld 0) [.t 9] 1,of 11 (.load false 1) [.t 10] 1,oa 12 .aW 11,of 13 (.fld 0) [.t 12] 1,of 14 (.fld 0) [.t 13] 1,of 15 (.load false 1) [.t 14] 1,of 16 .len [.t 15] 1,oc 17 (.bin .sub) 16 (kI 1),on 18 (.ak F.dh) [.t 7,kI 0,.t 17],mv 19 18,ot 20 (.fld 0) [.t 2] 19 1,ot 21 (.fld 1) [.t 20] 19 1,ot 22 (.fld 0) [.t 21] 19 1,ot 23 (.load false 1) [.t 22] 19 1,ot 24 (.ak F.fZ) [.t 23] 19 0,on 25 .pick [.t 19,.t 24,.c (.bool false)],mv 26 25,ot 27 (.fld 0) [.t 2] 26 1,ot 28 (.fld 1) [.t 27] 26 1,ot 29 (.fld 1) [.t 28] 26 1,ot 30 (.load false 1) [.t 29] 26 1,ot 31 (.ak F.fZ) [.t 30] 26 0,on 32 .pick [.t 26,.t 31,.c (.bool false)],mv 4 32] 0 [4] []) .ret))
def rY:List aJ:=[.tmp 4]
theorem EU:aC C.P F.nI 2 rH rY=true:=by kernel_rfl
def tX:aB:=(.seq (.region false [oa 2 (.box 0) 0,mk 4 (.c (.bool false))] 1 [1,2] [2]) (.seq (rg [mv 5 1,oa 6 (.fld 0) 2,lo 7 6,ob 8 (.ak F.dL) 5 7,mv 9 8,ot 10 (.fld 1) [.t 2] 9 0,ot 11 (.load true 2) [.t 10] 9 0,ot 12 (.ak F.kL) [.t 11] 9 0,on 13 .pick [.t 9,.t 12,.c (.bool false)],mv 4 13] 0 [4]) .ret))
def uF:List aJ:=[.tmp 4]
theorem Gm:aC C.P F.oO 2 tX uF=true:=by kernel_rfl
def tZ:aB:=(.seq (.region false [oa 2 (.box 0) 0,mk 4 (.c (.bool false))] 1 [1,2] [2]) (.seq (rg [mv 5 1,oa 6 (.fld 0) 2,lo 7 6,ob 8 (.ak F.dL) 5 7,mv 4 8] 0 [4]) .ret))
def uH:List aJ:=[.tmp 4]
theorem Gp:aC C.P F.oQ 2 tZ uH=true:=by kernel_rfl
def wZ:aB:=(.seq (.region false [oa 2 (.box 0) 0,mk 4 (.c (.bool false))] 1 [1,2] [2]) (.seq (rg [mv 5 1,oa 6 (.fld 0) 2,lo 7 6,ob 8 (.ak F.fG) 5 7,mv 4 8] 0 [4]) .ret))
def xP:List aJ:=[.tmp 4]
theorem Je:aC C.P F.sK 2 wZ xP=true:=by kernel_rfl
end Go.Tel
namespace Go.Tel
open Go.Am
structure Su where
 pc:Pc
 tg:List Fr
 lim:Int
 dvd:Dvd
 cal:Cal
 qg:jU
 fs:List Fs
 year:Int
 mW:Int
 hours:Int
 AX:Int
 pct:Int
 deriving DecidableEq,Inhabited
def Su.cells (s:Su)(l h t ci cy f:DV):List DV:=[l,h,t, .int .i64 s.lim, .int .i64 s.dvd.jI,ci, .int .i64 s.cal.ep,cy, .int .i64 s.qg.n, .int .i64 s.qg.d, .int .i64 s.qg.ad,f, .int .i64 s.year, .int .i64 s.mW, .int .i64 s.hours, .int .i64 s.AX, .int .i64 s.pct]
def Su.cs (s:Su):List DV:=[.slice false (s.pc.links.map Lk.dv), .slice false (s.pc.hands.map ay), .slice false (s.tg.map Fr.dv), .int .i64 s.lim, .int .i64 s.dvd.jI, .slice false (s.dvd.cir.map ay), .int .i64 s.cal.ep, .slice false (s.cal.cy.map ay), .int .i64 s.qg.n, .int .i64 s.qg.d, .int .i64 s.qg.ad, .slice false (s.fs.map Fs.dv), .int .i64 s.year, .int .i64 s.mW, .int .i64 s.hours, .int .i64 s.AX, .int .i64 s.pct]
def Su.dv (s:Su):DV:= .agg s.cs
theorem abx {s:Su}:s.cs=[.slice false (s.pc.links.map Lk.dv), .slice false (s.pc.hands.map ay), .slice false (s.tg.map Fr.dv), .int .i64 s.lim, .int .i64 s.dvd.jI, .slice false (s.dvd.cir.map ay), .int .i64 s.cal.ep, .slice false (s.cal.cy.map ay), .int .i64 s.qg.n, .int .i64 s.qg.d, .int .i64 s.qg.ad, .slice false (s.fs.map Fs.dv), .int .i64 s.year, .int .i64 s.mW, .int .i64 s.hours, .int .i64 s.AX, .int .i64 s.pct]:=by rw[Su.cs]
theorem Oc {s:Su}:s.dv= .agg [.slice false (s.pc.links.map Lk.dv), .slice false (s.pc.hands.map ay), .slice false (s.tg.map Fr.dv), .int .i64 s.lim, .int .i64 s.dvd.jI, .slice false (s.dvd.cir.map ay), .int .i64 s.cal.ep, .slice false (s.cal.cy.map ay), .int .i64 s.qg.n, .int .i64 s.qg.d, .int .i64 s.qg.ad, .slice false (s.fs.map Fs.dv), .int .i64 s.year, .int .i64 s.mW, .int .i64 s.hours, .int .i64 s.AX, .int .i64 s.pct]:=by rw[Su.dv,Su.cs]
def Su.bil (s:Su)(gW:List Int):Bil:=⟨gW,s.mW,s.hours,s.AX,s.pct,0⟩
def Su.ok (s:Su):Bool:=s.pc.ok&&decide (s.tg.length=s.pc.hands.length)&&inR s.lim 0 10800&&s.dvd.ok&&(s.cal.ok&&s.qg.ok&&pV s.fs&&inR s.year 0 4000)&&(s.bil []).ok&&s.tg.all Fr.ok
theorem Fq (n l h:Int):Pure C F.dh [.int .i64 n, .int .i64 l, .int .i64 h] (.d (.bool (inR n l h))) []:=by
 refine ah mixed rfl Ti ?_
 by_cases h1:n≥l<;>simp only[h1,inR,Hg,Ia,Bool.false_and,RN,qA,qB,qC,qD,qE,qF]
theorem nZ (n:Int):Pure C F.fZ [.int .i64 n] (.d (.bool (bg n))) []:=by
 refine ah mixed rfl KA ?_
 simp only[yL,yU,RN,qA,qB,qC,qD,qE,qF]
 repeat' first
  |(refine au rfl rfl (Fq _ _ _) ?_;try simp only[RN,qA,qB,qC,qD,qE,qF])
  |(refine bJ (by rfl) (fun hB=> ?_) (fun hB=> ?_)<;>simp only[hB,RN,qA,qB,qC,qD,qE,qF])
  |(refine bZ (by rfl) (fun hB=> ?_) (fun hB=> ?_)<;>simp only[hB,RN,qA,qB,qC,qD,qE,qF])
 all_goals(first|(simp only[bg, *,Bool.not_true,Bool.not_false,Bool.not_not,Bool.and_true,Bool.true_and,Bool.and_false,Bool.false_and,Bool.or_true,Bool.true_or,Bool.or_false,Bool.false_or,Bool.and_self,Bool.or_self,if_true,if_false,reduceIte,cond_true,cond_false,Bool.false_eq_true];done)|(simp_all[bg];done)|(simp_all[bg];omega))
theorem afZ (f:Fr):Pure C F.kL [f.dv] (.d (.bool f.ok)) []:=by
 refine ah mixed rfl Gl ?_
 simp only[tV,uD,dH,RN,qA,qB,qC,qD,qE,qF]
 repeat' first
  |(refine au rfl rfl (Fq _ _ _) ?_;try simp only[dH,RN,qA,qB,qC,qD,qE,qF])
  |(refine bJ (by rfl) (fun hB=> ?_) (fun hB=> ?_)<;>simp only[hB,dH,RN,qA,qB,qC,qD,qE,qF])
  |(refine bZ (by rfl) (fun hB=> ?_) (fun hB=> ?_)<;>simp only[hB,dH,RN,qA,qB,qC,qD,qE,qF])
 all_goals(first|(simp only[Fr.ok, *,Bool.not_true,Bool.not_false,Bool.not_not,Bool.and_true,Bool.true_and,Bool.and_false,Bool.false_and,Bool.or_true,Bool.true_or,Bool.or_false,Bool.false_or,Bool.and_self,Bool.or_self,if_true,if_false,reduceIte,cond_true,cond_false,Bool.false_eq_true];done)|(simp_all[Fr.ok];done)|(simp_all[Fr.ok];omega))
theorem aeQ (f:Fr):Pure C F.lF [f.dv] (.d (.bool (!f.ok))) []:=by
 refine ah mixed rfl G7 ?_
 simp only[vW,wz,dH,RN,qA,qB,qC,qD,qE,qF]
 have h:=afZ f
 rw[dH]at h
 refine au rfl rfl h ?_
 (try simp only[RN,qA,qB,qC,qD,qE,qF])
structure Su.Small (s:Su):Prop where
 l:s.pc.links.length≤1000
 h:s.pc.hands.length≤1000
 t:s.tg.length≤1000
 ci:s.dvd.cir.length≤1000
 cy:s.cal.cy.length≤1000
theorem aex (c:Cal)(m:jU)(l:List Fs)(y:Int):∃d,zJ c m l y= .tup [d, .int .i64 (if c.ok&&m.ok&&pV l&&inR y 0 4000 then 0 else 2)]:=by
 unfold zJ
 split<;>exact⟨_,rfl⟩
theorem ahJ (d:Dvd):d.numbers.2=if d.ok then 0 else 2:=by unfold Dvd.numbers;split<;>rfl
theorem anC (b:Bil):b.ZR.2.2=if b.ok then 0 else 2:=by unfold Bil.ZR;split<;>rfl
theorem ahy (s:Su)(hs:s.Small):Pure C F.vw [s.dv] (.d (.bool s.ok)) []:=by
 refine ah mixed rfl Kz ?_
 have h1:=ak0 s.pc hs.l hs.h
 rw[lY]at h1
 have h2:=agu s.dvd hs.ci
 rw[IJ]at h2
 have h3:=aa5 s.cal s.qg false s.fs s.year (by have:=hs.cy;omega)
 rw[pR,uN]at h3
 have h4:=air (s.bil []) (by simp[Su.bil])
 rw[aej]at h4
 have h5:=Yq s.tg F.lF [] (fun f=> !f.ok) (by have:=hs.t;omega) (by kernel_rfl) fun f _=>aeQ f
 have z0:((0:Int) !=0)=false:=rfl
 have z2:((2:Int) !=0)=true:=rfl
 have y0:((0:Int)==0)=true:=rfl
 have y2:((2:Int)==0)=false:=rfl
 simp only[yK,yT,Oc,RN,qA,qB,qC,qD,qE,qF]
 refine au rfl rfl h1 ?_
 cases k1:s.pc.ok
 ·simp only[z2,if_false,Bool.false_eq_true,RN,qA,qB,qC,qD,qE,qF]
  simp[Su.ok,k1]
 simp only[z0,if_true,List.length_map,RN,qA,qB,qC,qD,qE,qF]
 by_cases k2:s.tg.length=s.pc.hands.length
 ·have z1:((s.tg.length:Int) !=(s.pc.hands.length:Int))=false:=by simp[k2]
  simp only[z1,RN,qA,qB,qC,qD,qE,qF]
  refine au rfl rfl (Fq _ _ _) ?_
  cases k3:inR s.lim 0 10800
  ·(try simp only[RN,qA,qB,qC,qD,qE,qF])
   simp[Su.ok,k3]
  (try simp only[RN,qA,qB,qC,qD,qE,qF])
  obtain⟨fd,hfd⟩:=aex s.cal s.qg s.fs s.year
  rw[hfd]at h3
  rw[ahJ]at h2
  rw[anC]at h4
  refine au rfl rfl h2 ?_
  (try simp only[RN,qA,qB,qC,qD,qE,qF])
  refine au rfl rfl h3 ?_
  (try simp only[RN,qA,qB,qC,qD,qE,qF])
  refine au rfl rfl h4 ?_
  cases k4:s.dvd.ok
  ·simp only[y2,if_false,Bool.false_eq_true,RN,qA,qB,qC,qD,qE,qF]
   simp[Su.ok,k4]
  cases k5:s.cal.ok&&s.qg.ok&&pV s.fs&&inR s.year 0 4000
  ·simp only[y2,y0,if_false,if_true,Bool.false_eq_true,RN,qA,qB,qC,qD,qE,qF]
   simp[Su.ok,k5]
  cases k6:(s.bil []).ok
  ·simp only[y2,y0,if_false,if_true,Bool.false_eq_true,RN,qA,qB,qC,qD,qE,qF]
   simp[Su.ok,k6]
  simp only[y0,if_true,RN,qA,qB,qC,qD,qE,qF]
  refine au rfl rfl h5 ?_
  simp only[Iw,Bool.not_not,RN,qA,qB,qC,qD,qE,qF]
  rw[Su.ok,k1,k3,k4,k5,k6,decide_eq_true k2]
  simp
 ·have z1:((s.tg.length:Int) !=(s.pc.hands.length:Int))=true:=by simp;omega
  simp only[z1,RN,qA,qB,qC,qD,qE,qF]
  simp[Su.ok,k2]
end Go.Tel
namespace Go.Tel
open Go.Am
theorem IC (xs:List DV)(hf:∀y∈xs,y.fits 1=true)(hl:xs.length≤1000000):Pure C F.slices_Clone_int [.slice false xs] (.tsl 0 0 0) [⟨1,xs,0,0⟩]:=by
 refine vZ mixed rfl NY ?_
 simp only[BQ,CJ,RN,qA,qB,qC,qD,qE,qF]
 refine⟨fun _=> ?_,fun hx b=> ?_⟩
 ·(try simp only[RN,qA,qB,qC,qD,qE,qF])
  exact⟨hf,by simp,by simp,by omega,FN (k:=1) (A:=⟨1,xs,0,0⟩) rfl rfl (Nat.zero_le _) rfl⟩
 ·subst hx
  cases b
  ·(try simp only[RN,qA,qB,qC,qD,qE,qF])
   (repeat(refine And.intro (by first|assumption|rfl|(simp;done)|(simp;omega)) ?_))
   exact FN (k:=1) (A:=⟨1,[],0,0⟩) rfl rfl (Nat.zero_le _) rfl
  ·(try simp only[RN,qA,qB,qC,qD,qE,qF])
   exact FN (k:=1) (A:=⟨1,[],0,0⟩) rfl rfl (Nat.zero_le _) rfl
theorem ag2 (xs:List DV)(hf:∀y∈xs,y.fits 4=true)(hl:xs.length≤1000000):Pure C F.kJ [.slice false xs] (.tsl 0 0 0) [⟨4,xs,0,0⟩]:=by
 refine vZ mixed rfl Aa ?_
 simp only[mX,mY,RN,qA,qB,qC,qD,qE,qF]
 refine⟨fun _=> ?_,fun hx b=> ?_⟩
 ·(try simp only[RN,qA,qB,qC,qD,qE,qF])
  exact⟨hf,by simp,by simp,by omega,FN (k:=1) (A:=⟨4,xs,0,0⟩) rfl rfl (Nat.zero_le _) rfl⟩
 ·subst hx
  cases b
  ·(try simp only[RN,qA,qB,qC,qD,qE,qF])
   (repeat(refine And.intro (by first|assumption|rfl|(simp;done)|(simp;omega)) ?_))
   exact FN (k:=1) (A:=⟨4,[],0,0⟩) rfl rfl (Nat.zero_le _) rfl
  ·(try simp only[RN,qA,qB,qC,qD,qE,qF])
   exact FN (k:=1) (A:=⟨4,[],0,0⟩) rfl rfl (Nat.zero_le _) rfl
theorem ag1 (xs:List DV)(hf:∀y∈xs,y.fits 2=true)(hl:xs.length≤1000000)(hn:xs≠[]):Pure C F.iR [.slice false xs] (.tsl 0 0 0) [⟨2,xs,0,1⟩]:=by
 refine vZ mixed rfl wG ?_
 simp only[kQ,kU,RN,qA,qB,qC,qD,qE,qF]
 refine⟨fun _=> ?_,fun hx=>absurd hx hn⟩
 exact⟨hf,hn,by simp,by omega,FN (k:=1) (A:=⟨2,xs,0,1⟩) rfl rfl (Nat.zero_le _) rfl⟩
def Su.rows (s:Su):List Arr:=[⟨3,s.pc.links.map Lk.dv,0,1⟩,⟨1,s.pc.hands.map ay,0,0⟩,⟨2,s.tg.map Fr.dv,0,1⟩,⟨4,s.fs.map Fs.dv,0,0⟩,⟨1,s.dvd.cir.map ay,0,0⟩,⟨1,s.cal.cy.map ay,0,0⟩]
def Su.pv (s:Su):PV:= .agg [.tsl 0 0 0, .tsl 1 0 0, .tsl 2 0 0, .d (.int .i64 s.lim), .d (.int .i64 s.dvd.jI), .tsl 4 0 0, .d (.int .i64 s.cal.ep), .tsl 5 0 0, .d (.int .i64 s.qg.n), .d (.int .i64 s.qg.d), .d (.int .i64 s.qg.ad), .tsl 3 0 0, .d (.int .i64 s.year), .d (.int .i64 s.mW), .d (.int .i64 s.hours), .d (.int .i64 s.AX), .d (.int .i64 s.pct)]
structure Su.Some (s:Su):Prop where
 l:s.pc.links≠[]∧s.pc.links.length≤1000
 t:s.tg≠[]∧s.tg.length≤1000
 h:s.pc.hands.length≤1000
 f:s.fs.length≤1000
 ci:s.dvd.cir.length≤1000
 cy:s.cal.cy.length≤1000
theorem zl {l:List Int}:∀y∈l.map ay,DV.fits 1 y=true:=by
 intro y hy;simp only[List.mem_map]at hy;obtain⟨z,_,rfl⟩:=hy;rfl
theorem abw (s:Su)(hs:s.Some):Pure C F.lC [s.dv] s.pv s.rows:=by
 have h1:=YV (s.pc.links.map Lk.dv) (by intro y hy;simp only[List.mem_map]at hy;obtain⟨z,_,rfl⟩:=hy;rfl) (by have:=hs.l.2;simp;omega) (by simpa using hs.l.1)
 have h2:=IC (s.pc.hands.map ay) zl (by have:=hs.h;simp;omega)
 have h3:=ag1 (s.tg.map Fr.dv) (by intro y hy;simp only[List.mem_map]at hy;obtain⟨z,_,rfl⟩:=hy;rfl) (by have:=hs.t.2;simp;omega) (by simpa using hs.t.1)
 have h4:=ag2 (s.fs.map Fs.dv) (by intro y hy;simp only[List.mem_map]at hy;obtain⟨z,_,rfl⟩:=hy;rfl) (by have:=hs.f;simp;omega)
 have h5:=IC (s.dvd.cir.map ay) zl (by have:=hs.ci;simp;omega)
 have h6:=IC (s.cal.cy.map ay) zl (by have:=hs.cy;simp;omega)
 refine vZ mixed rfl Ld ?_
 simp only[Ad,Ar,Oc,RN,qA,qB,qC,qD,qE,qF]
 refine Dw rfl rfl h1 (by simp) ?_
 simp only[PV.shift,lW,bM,dN,RN,qA,qB,qC,qD,qE,qF]
 (repeat(refine And.intro (by first|assumption|rfl|(simp;done)|(simp;omega)) ?_))
 refine Dw rfl rfl h2 (by simp) ?_
 simp only[PV.shift,lW,bM,dN,RN,qA,qB,qC,qD,qE,qF]
 (repeat(refine And.intro (by first|assumption|rfl|(simp;done)|(simp;omega)) ?_))
 refine Dw rfl rfl h3 (by simp) ?_
 simp only[PV.shift,lW,bM,dN,RN,qA,qB,qC,qD,qE,qF]
 (repeat(refine And.intro (by first|assumption|rfl|(simp;done)|(simp;omega)) ?_))
 refine Dw rfl rfl h4 (by simp) ?_
 simp only[PV.shift,lW,bM,dN,RN,qA,qB,qC,qD,qE,qF]
 (repeat(refine And.intro (by first|assumption|rfl|(simp;done)|(simp;omega)) ?_))
 refine Dw rfl rfl h5 (by simp) ?_
 simp only[PV.shift,lW,bM,dN,RN,qA,qB,qC,qD,qE,qF]
 (repeat(refine And.intro (by first|assumption|rfl|(simp;done)|(simp;omega)) ?_))
 refine Dw rfl rfl h6 (by simp) ?_
 simp only[PV.shift,lW,bM,dN,RN,qA,qB,qC,qD,qE,qF]
 (repeat(refine And.intro (by first|assumption|rfl|(simp;done)|(simp;omega)) ?_))
 simp only[bn,eP,jr,RN,qA,qB,qC,qD,qE,qF]
 exact⟨[(0,0),(1,0),(2,0),(3,0),(4,0),(5,0)],⟨by simp[Fv],by decide⟩,rfl,rfl⟩
theorem Zq {C:Ctx}{f:FuncId}{ds:List DV}{r:PV}{as_:List Arr}{x:DV}(h:Pure C f ds r as_)(hd:datum (rowsOf as_) r=some x):Pure C f ds (.d x) []:=by
 intro X w vals hG hl hx hr
 refine(h X w vals hG hl hx hr).mono fun e w' he=> ?_
 obtain⟨v,E',rfl,h2,h3,h4⟩:=he
 have hz:Fz (rowsOf as_) []:=⟨fun q hq=>(by cases hq),List.nodup_nil⟩
 exact⟨v,_,rfl,aaS h2 hz,WI h3 hz, .d ((mF (ps:=[r]) h2 h4 hd (by simp)).weaken fun b hb=> .inl (MW b hb))⟩
theorem aiV (s:Su)(hs:s.Some):Pure C F.lC [s.dv] (.d s.dv) []:=Zq (abw s hs) (by rw[Oc];rfl)
end Go.Tel
namespace Go.Tel
open Go.Am
def Su.dates (s:Su):List Int:=s.fs.map (FZ s.cal s.qg s.year)
def Su.works (s:Su)(n:Int):Bool:=(n+4).tmod 7 !=0&& !s.dates.contains n
def Su.first (s:Su):Int:=s.cal.first s.year.toNat
def Su.dur (s:Su):Nat:=(II (s.cal.leap s.year)).toNat
def Su.y9 (s:Su)(k:Nat):List (Int×Bool):=(List.range k).map fun(i:Nat)=>(s.first+i,s.works (s.first+i))
def Su.days (s:Su):List (Int×Bool):=s.y9 s.dur
def Fb (d:Int×Bool):DV:= .agg [.int .i64 d.1, .bool d.2]
theorem aek {d:Int×Bool}:Fb d= .agg [.int .i64 d.1, .bool d.2]:=by rw[Fb]
theorem abA (s:Su)(k:Nat):s.y9 (k+1)=s.y9 k++ [(s.first+k,s.works (s.first+k))]:=by simp[Su.y9,List.range_succ]
theorem Su.facts {s:Su}(h:s.ok=true):s.pc.ok=true∧s.tg.length=s.pc.hands.length∧inR s.lim 0 10800=true∧s.dvd.ok=true∧s.cal.ok=true∧s.qg.ok=true∧pV s.fs=true∧(0≤s.year∧s.year≤4000)∧(s.bil []).ok=true∧∀f∈s.tg,f.ok=true:=by
 simp only[Su.ok,Bool.and_eq_true,decide_eq_true_eq,List.all_eq_true]at h
 obtain⟨⟨⟨⟨⟨⟨h1,h2⟩,h3⟩,h4⟩,⟨⟨h5,h6⟩,h7⟩,h8⟩,h9⟩,h10⟩:=h
 exact⟨h1,h2,h3,h4,h5,h6,h7,by simpa[inR]using h8,h9,h10⟩
theorem Pc.Gt {p:Pc}(h:p.ok=true):(1≤p.links.length∧p.links.length≤5)∧1≤p.hands.length∧p.hands.length≤4:=by
 simp only[Pc.ok,Bool.and_eq_true,inR,decide_eq_true_eq]at h
 omega
theorem Su.VP {s:Su}(h:s.ok=true):s.Some:=by
 obtain⟨h1,h2,_,h4,h5,h6,h7,_⟩:=Su.facts h
 obtain⟨a1,a2⟩:=Pc.Gt h1
 obtain⟨_,b1,_⟩:=Dvd.acD h4
 obtain⟨_,c1,_⟩:=Cal.facts h5
 obtain⟨d1,_⟩:=DJ h7
 exact⟨⟨fun e=>by rw[e]at a1;simp at a1,by omega⟩,⟨fun e=>by rw[e]at h2;simp at h2;omega,by omega⟩,by omega,by omega,by omega,by omega⟩
theorem aez {c:Cal}{y:Int}(hc:c.ok=true)(hy:0≤y∧y≤4000):abz c ⟨y,1,1⟩= .tup [.int .i64 (c.first y.toNat), .int .i64 0]∧abz c ⟨y,12,31⟩= .tup [.int .i64 (c.first y.toNat+II (c.leap y) - 1), .int .i64 0]:=by
 have hy1:inR y 0 4000=true:=by simp[inR];omega
 have hg:(c.firsts 4002).getD y.toNat default=c.first y.toNat:=pX c (by omega)
 constructor
 ·have e:uX c ⟨y,1,1⟩=true:=by cases hl:c.leap y<;>simp[uX,hl,bP,inR]<;>omega
  rw[abz,hc,e]
  simp only[Bool.and_self,if_true,OY,hg]
  simp[jc]
 ·have e:uX c ⟨y,12,31⟩=true:=by cases hl:c.leap y<;>simp[uX,hl,bP,inR]<;>omega
  rw[abz,hc,e]
  simp only[Bool.and_self,if_true,OY,hg]
  cases hl:c.leap y<;>simp[jc,bP,II]<;>omega
theorem ao7 (s:Su)(hs:s.ok=true):Pure C F.Bd [s.dv] (.d (.slice false (s.days.map Fb))) []:=by
 obtain⟨h1,h2,h3,h4,h5,h6,h7,h8,h9,h10⟩:=Su.facts hs
 obtain⟨he,hl,hn⟩:=Cal.facts h5
 obtain⟨f1,f2⟩:=aez h5 h8
 have k1:=am6 s.cal ⟨s.year,1,1⟩ (by omega)
 have k2:=am6 s.cal ⟨s.year,12,31⟩ (by omega)
 have k3:=aa5 s.cal s.qg false s.fs s.year (by omega)
 have hfr:zJ s.cal s.qg s.fs s.year= .tup [.slice false (s.dates.map ay), .int .i64 0]:=by
  rw[zJ,h5,h6,h7,show inR s.year 0 4000=true by simp[inR];omega];rfl
 rw[f1,pR,Fg]at k1
 rw[f2,pR,Fg]at k2
 rw[hfr,pR,uN]at k3
 have hfb:=s.cal.pW s.year.toNat
 have hd:II (s.cal.leap s.year)=s.dur:=by have:=zI (s.cal.leap s.year);unfold Su.dur;split at this<;>omega
 have hd2:s.dur≤366∧365≤s.dur:=by have:=zI (s.cal.leap s.year);unfold Su.dur;split at this<;>omega
 have e1:IntKind.i64.wrap (s.cal.first s.year.toNat+II (s.cal.leap s.year) - 1 - s.cal.first s.year.toNat)=(s.dur:Int) - 1:=by rw[aG (by omega)];omega
 have e2:IntKind.i64.wrap ((s.dur:Int) - 1+1)=(s.dur:Int):=by rw[aG (by omega)];omega
 refine gI (aF mixed rfl Px ?_)
 simp only[Ea,Eu,Oc,RN,qA,qB,qC,qD,qE,qF]
 refine au rfl rfl k1 ?_
 (try simp only[RN,qA,qB,qC,qD,qE,qF])
 refine au rfl rfl k2 ?_
 (try simp only[RN,qA,qB,qC,qD,qE,qF])
 refine au rfl rfl k3 ?_
 simp only[e1,e2,RN,qA,qB,qC,qD,qE,qF]
 have arz:s.dates.length≤6:=by
  have:=(DJ h7).1
  simp[Su.dates];omega
 refine aT s.dur (fun i (_:Unit)=>⟨[(3, .d (.int .i64 (s.cal.first s.year.toNat))),(7, .d (.slice false (s.dates.map ay))),(9, .tsl 1 i 0),(45, .d (.int .i64 s.dur)),(46, .d (.int .i64 i))],
   ⟨[some (s.cs.map .d)],[0],[some ⟨2,[],0,0⟩,some ⟨2,(s.y9 i).map Fb,i,0⟩]⟩⟩)
  (fun _ _=>True) 0 () (Nat.zero_le _) (by rw[abx];rfl) trivial (fun i _ g1 _=> ?_) (fun _ _=> ?_)
 ·obtain⟨g2,g3,g6⟩:=rng g1 (by omega)
  have w1:IntKind.i64.wrap (s.cal.first s.year.toNat+(i:Int))=s.cal.first s.year.toNat+i:=aG (by omega)
  have w2:IntKind.i64.wrap (s.cal.first s.year.toNat+(i:Int)+4)=s.cal.first s.year.toNat+i+4:=aG (by omega)
  have b1:0≤(s.cal.first s.year.toNat+(i:Int)+4).tmod 7:=Int.tmod_nonneg 7 (by omega)
  have b2:(s.cal.first s.year.toNat+(i:Int)+4).tmod 7<7:=Int.tmod_lt_of_pos _ (by decide)
  have w3:IntKind.i64.wrap ((s.cal.first s.year.toNat+(i:Int)+4).tmod 7)=(s.cal.first s.year.toNat+(i:Int)+4).tmod 7:=aG (by omega)
  have n7:¬((7:Int)=0):=by decide
  have hlen:(s.y9 i).length=i:=by simp[Su.y9]
  have hst:(s.y9 i).map Fb++ [.agg [.int .i64 (s.cal.first s.year.toNat+i), .bool (s.works (s.cal.first s.year.toNat+i))]]=(s.y9 (i+1)).map Fb:=by
   rw[abA,List.map_append];rfl
  simp only[g2,w1,w2,w3,n7,RN,qA,qB,qC,qD,qE,qF]
  cases hz:((s.cal.first s.year.toNat+(i:Int)+4).tmod 7 !=0)
  ·have hw:s.works (s.cal.first s.year.toNat+i)=false:=by rw[Su.works,hz];rfl
   rw[hw]at hst
   simp only[g6,zi,DV.strip,forall_eq,hlen,List.length_map,RN,qA,qB,qC,qD,qE,qF]
   (repeat(refine And.intro (by first|assumption|rfl|(simp;done)|(simp;omega)) ?_))
   refine⟨by omega,?_⟩
   rw[hst]
   exact lI (len:=s.dur) (i:=i) () g1 rfl trivial
  ·have hw:s.works (s.cal.first s.year.toNat+i)= !s.dates.contains (s.cal.first s.year.toNat+i):=by rw[Su.works,hz];rfl
   rw[hw]at hst
   (try simp only[RN,qA,qB,qC,qD,qE,qF])
   refine au rfl rfl (Yu s.dates _ (by omega)) ?_
   simp only[g6,zi,DV.strip,forall_eq,hlen,List.length_map,RN,qA,qB,qC,qD,qE,qF]
   (repeat(refine And.intro (by first|assumption|rfl|(simp;done)|(simp;omega)) ?_))
   refine⟨by omega,?_⟩
   rw[hst]
   exact lI (len:=s.dur) (i:=i) () g1 rfl trivial
 ·simp only[Int.lt_irrefl,RN,qA,qB,qC,qD,qE,qF]
  simp[datum,Mem.row,Su.days]
end Go.Tel
namespace Go.Tel
open Go.Am
structure En where
 kind:Int
 ns:List Int
 deriving DecidableEq,Inhabited
def En.dv (x:En):DV:= .agg [.int .i64 x.kind, .slice false (x.ns.map ay)]
theorem wO {x:En}:x.dv= .agg [.int .i64 x.kind, .slice false (x.ns.map ay)]:=by rw[En.dv]
inductive De where
 |cut (gW:Int)
 |change (c:Chg)
 |order (hand:Int) (f:Fr)
 |serve (hand lX:Int)
 |set (day:Int)
 |strike (entry:Int)
 deriving DecidableEq,Inhabited
def De.cs:De→DV
 | .cut t=> .agg [.int .i64 t]
 | .change c=> .agg [.int .i64 c.link, .int .i64 c.pr.a, .int .i64 c.pr.b]
 | .order h f=> .agg [.int .i64 h, .int .i64 f.n, .int .i64 f.d]
 | .serve h c=> .agg [.int .i64 h, .int .i64 c]
 | .set d=> .agg [.int .i64 d]
 | .strike e=> .agg [.int .i64 e]
def De.ty:De→TypeId
 | .cut _=>T.eu
 | .change _=>T.bD
 | .order _ _=>T.dR
 | .serve _ _=>T.dF
 | .set _=>T.eF
 | .strike _=>T.aZ
def De.dv (x:De):DV:= .iface x.ty x.cs
def o7 (k:Int):Nat:=if k=2∨k=3 then 3 else if k=4 then 2 else 1
def En.n (x:En)(i:Nat):Int:=x.ns.getD i default
def En.deed (x:En):De:=
 if x.kind=1 then .cut (x.n 0)else if x.kind=2 then .change ⟨x.n 0,⟨x.n 1,x.n 2⟩⟩else if x.kind=3 then .order (x.n 0) ⟨x.n 1,x.n 2⟩else if x.kind=4 then .serve (x.n 0) (x.n 1)else if x.kind=5 then .set (x.n 0)else .strike (x.n 0)
theorem QD {C:Ctx}{base:Nat}{t:TypeId}{x:DV}{M:Mem}{K:PV→Mem→Prop}{KP:DV→Mem→Prop}:aj C base (.mkI t) [.d x] M K KP=K (.d (.iface t x)) M:=by
 have:=KU (M:=M) (ds:=[x])
 simp only[List.map_cons,List.map_nil]at this
 simp only[aj,datum,this]
theorem V9 (x:En)(hn:o7 x.kind≤x.ns.length):Pure C F.lD [x.dv] (.d x.deed.dv) []:=by
 have j0:(0:Int)≤0:=by omega
 have j1:(0:Int)≤1:=by omega
 have j2:(0:Int)≤2:=by omega
 have t0:(0:Int).toNat=0:=rfl
 have t1:(1:Int).toNat=1:=rfl
 have t2:(2:Int).toNat=2:=rfl
 refine ah mixed rfl Le ?_
 simp only[Ae,Au,wO,RN,qA,qB,qC,qD,qE,qF]
 by_cases h1:x.kind=1
 ·have b1:(x.kind==1)=true:=by simp[h1]
  have l0:0<x.ns.length:=by simp[o7,h1]at hn;omega
  simp only[b1,j0,t0,l0,List.length_map,getD_map,aV,QD,RN,qA,qB,qC,qD,qE,qF]
  simp only[En.dv,De.dv,En.deed,h1,if_true,De.ty,De.cs,En.n]
 have b1:(x.kind==1)=false:=by simp[h1]
 by_cases h2:x.kind=2
 ·have b2:(x.kind==2)=true:=by simp[h2]
  have l0:0<x.ns.length∧1<x.ns.length∧2<x.ns.length:=by simp[o7,h2]at hn;omega
  simp only[b1,b2,j0,j1,j2,t0,t1,t2,l0.1,l0.2.1,l0.2.2,List.length_map,getD_map,aV,QD,RN,qA,qB,qC,qD,qE,qF]
  simp only[En.dv,De.dv,En.deed,h1,h2,if_true,if_false,De.ty,De.cs,En.n]
  rfl
 have b2:(x.kind==2)=false:=by simp[h2]
 by_cases h3:x.kind=3
 ·have b3:(x.kind==3)=true:=by simp[h3]
  have l0:0<x.ns.length∧1<x.ns.length∧2<x.ns.length:=by simp[o7,h3]at hn;omega
  simp only[b1,b2,b3,j0,j1,j2,t0,t1,t2,l0.1,l0.2.1,l0.2.2,List.length_map,getD_map,aV,QD,RN,qA,qB,qC,qD,qE,qF]
  simp only[En.dv,De.dv,En.deed,h1,h2,h3,if_true,if_false,De.ty,De.cs,En.n]
  rfl
 have b3:(x.kind==3)=false:=by simp[h3]
 by_cases h4:x.kind=4
 ·have b4:(x.kind==4)=true:=by simp[h4]
  have l0:0<x.ns.length∧1<x.ns.length:=by simp[o7,h4]at hn;omega
  simp only[b1,b2,b3,b4,j0,j1,t0,t1,l0.1,l0.2,List.length_map,getD_map,aV,QD,RN,qA,qB,qC,qD,qE,qF]
  simp only[En.dv,De.dv,En.deed,h1,h2,h3,h4,if_true,if_false,De.ty,De.cs,En.n]
  rfl
 have b4:(x.kind==4)=false:=by simp[h4]
 have l0:0<x.ns.length:=by simp[o7,h2,h3,h4]at hn;omega
 by_cases h5:x.kind=5
 ·have b5:(x.kind==5)=true:=by simp[h5]
  simp only[b1,b2,b3,b4,b5,j0,t0,l0,List.length_map,getD_map,aV,QD,RN,qA,qB,qC,qD,qE,qF]
  simp only[En.dv,De.dv,En.deed,h1,h2,h3,h4,h5,if_true,if_false,De.ty,De.cs,En.n]
  rfl
 have b5:(x.kind==5)=false:=by simp[h5]
 simp only[b1,b2,b3,b4,b5,j0,t0,l0,List.length_map,getD_map,aV,QD,RN,qA,qB,qC,qD,qE,qF]
 simp only[En.dv,De.dv,En.deed,h1,h2,h3,h4,h5,if_true,if_false,De.ty,De.cs,En.n]
structure Sp where
 pc:Pc
 tg:List Fr
 dU:List Int
 op:List (Int×Fr)
 lX:Int
 sets:List Int
 deriving DecidableEq,Inhabited
def opD (l:List (Int×Fr)):List (DV×DV):=l.map fun p=>(.int .i64 p.1,p.2.dv)
def Sp.cells (e1 e2:Bool)(s:Su)(t:Sp):List DV:=[.slice false (t.pc.links.map Lk.dv), .slice false (t.pc.hands.map ay), .slice false (t.tg.map Fr.dv), .int .i64 s.lim, .int .i64 s.dvd.jI, .slice false (s.dvd.cir.map ay), .int .i64 s.cal.ep, .slice false (s.cal.cy.map ay), .int .i64 s.qg.n, .int .i64 s.qg.d, .int .i64 s.qg.ad, .slice false (s.fs.map Fs.dv), .int .i64 s.year, .int .i64 s.mW, .int .i64 s.hours, .int .i64 s.AX, .int .i64 s.pct,
 .slice false (s.days.map Fb), .slice e1 (t.dU.map ay), .map (some (opD t.op)), .int .i64 t.lX, .slice e2 (t.sets.map ay)]
theorem bK {e1 e2:Bool}{s:Su}{t:Sp}:t.cells e1 e2 s=[.slice false (t.pc.links.map Lk.dv), .slice false (t.pc.hands.map ay), .slice false (t.tg.map Fr.dv), .int .i64 s.lim, .int .i64 s.dvd.jI, .slice false (s.dvd.cir.map ay), .int .i64 s.cal.ep, .slice false (s.cal.cy.map ay), .int .i64 s.qg.n, .int .i64 s.qg.d, .int .i64 s.qg.ad, .slice false (s.fs.map Fs.dv), .int .i64 s.year, .int .i64 s.mW, .int .i64 s.hours, .int .i64 s.AX, .int .i64 s.pct,
 .slice false (s.days.map Fb), .slice e1 (t.dU.map ay), .map (some (opD t.op)), .int .i64 t.lX, .slice e2 (t.sets.map ay)]:=by rw[Sp.cells]
def Zb (s:Su)(t:Sp)(hand:Int)(f:Fr)(turns:Int):Bool:=inR (zF t.pc hand f turns).1 (-s.lim) s.lim
theorem ajI (e1 e2:Bool)(s:Su)(t:Sp)(hand:Int)(f:Fr)(turns:Int)(hl:t.pc.links.length≤1000)(hh:t.pc.hands.length≤1000)(hm:0≤s.lim∧s.lim≤10800):Pure C F.kM [.aX (t.cells e1 e2 s), .int .i64 hand,f.dv, .int .i64 turns] (.d (.bool (Zb s t hand f turns))) []:=by
 have hw:=afI t.pc hl hh hand f turns
 rw[lY,dH]at hw
 have w1:IntKind.i64.wrap (0 - s.lim)= -s.lim:=by rw[aG (by omega)];omega
 refine ah mixed rfl Gq ?_
 simp only[uf,uI,bK,dH,RN,qA,qB,qC,qD,qE,qF]
 refine au rfl rfl hw ?_
 simp only[w1,RN,qA,qB,qC,qD,qE,qF]
 refine au rfl rfl (Fq _ _ _) ?_
 simp only[Zb,RN,qA,qB,qC,qD,qE,qF]
def jT (l:List Pr):List Int:=l.flatMap fun p=>[p.a,p.b]
def PN (s:Su)(t:Sp)(hand:Nat):Int:=(s.bil (jT (mV t.pc.links (t.pc.hands.getD hand default).toNat))).ZR.1
theorem Ol (l:List Pr):(jT l).length=2*l.length:=by
 induction l with
 |nil=>rfl
 |cons x l ih=>simp only[jT,List.flatMap_cons,List.length_append,List.length_cons,List.length_nil]at ih⊢;omega
theorem Wu {C:Ctx}{base:Nat}{M:Mem}{K:PV→Mem→Prop}{KP:DV→Mem→Prop}{z1 z2:DV}{k k':IntKind}{a b:Int}:aj C base (.iH 1 [z1,z2] [0,1]) [.d (.int k a), .d (.int k' b)] M K KP=K (.d (.slice true [.int k a, .int k' b])) M:=by
 have:=KU (M:=M) (ds:=[DV.int k a, .int k' b])
 simp only[List.map_cons,List.map_nil]at this
 simp[aj,dD,datum,zU,this,DV.strip,DV.cells]
def prC:Nat→PV
 |0=> .d (.slice true [])
 |i+1=> .tsl 0 i 0
def prA (l:List Pr):Nat→List (Option Arr)
 |0=>[]
 |i+1=>[some ⟨1,(jT (l.take (i+1))).map ay,i,0⟩]
def aki (s:Su)(l:List Pr)(i:Nat):St:=
 ⟨[(7, .ptr 0 0),(52, .d (.slice false (l.map Pr.dv))),(53, .d (.int .i64 l.length)),(54, .d (.int .i64 i))],
  ⟨[some [prC i, .d (.int .i64 s.mW), .d (.int .i64 s.hours), .d (.int .i64 s.AX), .d (.int .i64 s.pct), .d (.int .i64 0)]],[],prA l i⟩⟩
theorem agb (e1 e2:Bool)(s:Su)(t:Sp)(hand:Nat)(hp:t.pc.ok=true)(hh:hand<t.pc.hands.length):Pure C F.jL [.aX (t.cells e1 e2 s), .int .i64 hand] (.d (.int .i64 (PN s t hand))) []:=by
 have hhd:1≤t.pc.hands.getD hand default∧t.pc.hands.getD hand default≤t.pc.links.length:=by
  simp only[Pc.ok,Bool.and_eq_true,List.all_eq_true]at hp
  have:=hp.2 _ (getD_mem hh)
  simpa[inR]using this
 obtain⟨a,ha⟩:∃a:Nat,t.pc.hands.getD hand default=a:=⟨(t.pc.hands.getD hand default).toNat,by omega⟩
 have ht:=ak7 t.pc hp a (by omega) (by omega)
 rw[lY]at ht
 have j0:(0:Int)≤(hand:Int):=by omega
 refine ah mixed rfl EW ?_
 simp only[rJ,rZ,bK,j0,Int.toNat_natCast,hh,List.length_map,getD_map,aV,ha,RN,qA,qB,qC,qD,qE,qF]
 refine au rfl rfl ht ?_
 simp only[List.length_map,RN,qA,qB,qC,qD,qE,qF]
 obtain⟨l,hl⟩:∃l,l=mV t.pc.links a:=⟨_,rfl⟩
 have hll:l.length≤3:=by rw[hl,mV,List.length_map];exact(Pc.good hp).short a (by omega)
 have hbl:=air (s.bil (jT l)) (by simp only[Su.bil,Ol];omega)
 rw[aej]at hbl
 have hpr:PN s t hand=(s.bil (jT l)).ZR.1:=by rw[PN,ha,hl];rfl
 simp only[←hl]
 refine aT l.length (fun i (_:Unit)=>aki s l i) (fun _ _=>True) 0 () (Nat.zero_le _) rfl trivial (fun i _ g1 _=> ?_) (fun _ _=> ?_)
 ·obtain⟨g2,g3,g6⟩:=rng g1 (by omega)
  have hst:(jT (l.take i)).map ay++ [.int .i64 (l.getD i default).a, .int .i64 (l.getD i default).b]=(jT (l.take (i+1))).map ay:=by
   rw[dQ g1];simp[jT,ay]
  have hle:((jT (l.take i)).map ay).length≤2000000:=by simp only[List.length_map,Ol,List.length_take];omega
  rcases i with _|i
  ·have aqQ:[DV.int .i64 (l.getD 0 default).a, .int .i64 (l.getD 0 default).b]=(jT (l.take (0+1))).map ay:=by simpa[jT]using hst
   simp only[aki,prC,prA,g2,g3,g1,List.length_map,getD_map,Int.toNat_natCast,yC,Wu,bM,dN,RN,qA,qB,qC,qD,qE,qF]
   refine⟨by rintro y (rfl|rfl)<;>rfl,by simp,by simp,?_⟩
   rw[aqQ,g6]
   exact jR 1 1 () g1 rfl trivial (by simp) (by simp) rfl rfl
  ·simp only[aki,prC,prA,g2,g3,g1,List.length_map,getD_map,Int.toNat_natCast,yC,Wu,bM,dN,RN,qA,qB,qC,qD,qE,qF]
   refine⟨by rintro y (rfl|rfl)<;>rfl,by simp,?_⟩
   (repeat(refine And.intro (by first|assumption|rfl|(simp;done)|(simp;omega)) ?_))
   rw[hst,g6]
   refine⟨by simpa using Nat.le_trans hle (by decide),?_⟩
   exact jR 1 1 () g1 rfl trivial (by simp) (by simp) rfl rfl
 ·rcases hln:l.length with _|i
  ·have hnil:l=[]:=List.eq_nil_of_length_eq_zero hln
   subst hnil
   simp only[aki,prC,prA,Int.lt_irrefl,RN,qA,qB,qC,qD,qE,qF]
   refine mg (Ql rfl) rfl hbl rfl ?_
   simp only[hpr,RN,qA,qB,qC,qD,qE,qF]
  ·have htl:l.take (i+1)=l:=by rw[←hln,List.take_length]
   simp only[aki,prC,prA,hln,Int.lt_irrefl,htl,bn,Option.map_none,eP,RN,qA,qB,qC,qD,qE,qF]
   refine mg (Ql (d:= .agg [.slice false ((jT l).map ay), .int .i64 s.mW, .int .i64 s.hours, .int .i64 s.AX, .int .i64 s.pct, .int .i64 0]) (by simp[datum,bW,eU,Mem.row])) rfl hbl rfl ?_
   simp only[hpr,RN,qA,qB,qC,qD,qE,qF]
end Go.Tel
