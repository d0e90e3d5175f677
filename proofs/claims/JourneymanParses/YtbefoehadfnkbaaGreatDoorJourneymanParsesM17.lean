/-
  Part 17 of the proof of a law of desks: an abstract machine over the model, contracts of functions, plain laws.
  Conditions: none.
-/
import Derived.Test.YtbefoehadfnkbaaGreatDoorJourneymanParsesM13
import Derived.Test.YtbefoehadfnkbaaGreatDoorJourneymanParsesM16
set_option linter.all false
set_option maxRecDepth 10000
open Nat renaming reduceBEq→qA,reduceAdd→qB,reduceSub→qC,reduceEqDiff→qD,reduceLT→qE,reduceLeDiff→qF
namespace Go.Tel
open Go.Am
def BH:aB:=(.seq (.region false [oa 2 (.box 0) 0,on 4 (.alloc 1 [.int .i64 0,.int .i64 0,.int .i64 0]) []] 2 [1,2,4] [2]) (.seq (rg [oa 11 (.fld 5) 2,lo 12 11,mv 13 1,ob 14 (.ak F.slices_BinarySearch_int) 12 13,mv 10 14,oa 15 (.ext 0) 10,oa 16 (.ext 1) 10,mv 5 15,mv 6 16] 0 [1,2,4,5,6]) (.seq (.seq (rg [mv 17 6,oa 18 (.un .not) 17] 0 [1,2,4,5,18]) (.cond (.t 18) (rg [mv 19 5,oc 20 (.bin .sub) 19 (kI 1),mv 5 20] 0 [1,2,4,5]) .skip)) (.seq (.seq (rg [mv 21 5,oa 22 (.ak F.zT) 21,oa 23 (.un .not) 22] 0 [1,2,4,5,23]) (.cond (.t 23) (rg [mv 24 1,oa 25 (.build [.int .i64 0] [(0,1)]) 24,oa 26 (.mkI T.SA) 25,os .panic [.t 26] 0] 0 [1,2,4,5]) .skip)) (.seq (rg [mv 27 1,oa 28 (.fld 5) 2,lo 29 28,mv 30 5,ob 31 (.bC 1) 29 30,lo 32 31,ob 33 (.bin .sub) 27 32,mv 7 33] 0 [1,2,4,5,7]) (.seq (.seq (rg [oa 34 (.load true 7) 2,mv 35 5,ob 36 (.ak F.jS) 34 35,oa 37 (.ak F.vP) 36,oa 38 .len 37,mk 39 (kI 0)] 0 [1,4,5,7,37,38,39]) (.block 0 (.loop (.seq (rg [ob 40 (.bin .lss) 39 38] 0 [1,4,5,7,37,38,39,40]) (.seq (.cond (.t 40) .skip (.exit 0)) (.seq (.block 1 (.seq (rg [mv 41 39,ob 42 (.bC 1) 37 39,lo 43 42,mv 8 41,mv 9 43] 0 [1,4,5,7,8,9,37,38,39]) (.seq (.seq (rg [mv 44 7,mv 45 9,ob 46 (.bin .lss) 44 45] 0 [1,4,5,7,8,9,37,38,39,46]) (.cond (.t 46) (.seq (rg [mv 47 5,mv 48 8,oc 49 (.bin .add) 48 (kI 1),mv 50 7,oc 51 (.bin .add) 50 (kI 1),on 52 (.build [.int .i64 0,.int .i64 0,.int .i64 0] [(0,1),(1,1),(2,1)]) [.t 47,.t 49,.t 51],os (.store 3) [.t 4,.t 52] 0] 0 [4]) .ret) .skip)) (rg [mv 53 7,mv 54 9,ob 55 (.bin .sub) 53 54,mv 7 55] 0 [1,4,5,7,37,38,39])))) (rg [oc 56 (.bin .add) 39 (kI 1),mv 39 56] 0 [1,4,5,7,37,38,39]))))))) (rg [mv 57 1,oa 58 (.build [.int .i64 0] [(0,1)]) 57,oa 59 (.mkI T.SA) 58,os .panic [.t 59] 0] 0 [4])))))))
def Cb:List aJ:=[.cell 4 true 3]
theorem NQ:aC C.P F.zf 2 BH Cb=true:=by kernel_rfl
def UG:aB:=(.seq (.region false [oa 2 (.box 0) 0,mk 4 (kI 0)] 1 [1,2] [2]) (.seq (rg [mv 6 1,oc 7 (.bin .add) 6 (kI 1),oa 8 (.fld 1) 2,lo 9 8,ob 10 (.bin .mul) 7 9,oc 11 (.bin .sub) 10 (kI 1),oa 12 (.fld 2) 2,lo 13 12,ob 14 (.bin .sub) 11 13,oa 15 (.fld 0) 2,lo 16 15,ob 17 (.ak F.Nb) 14 16,mv 5 17] 0 [1,2,5]) (.seq (rg [mv 18 1,mv 19 5,oa 20 (.fld 0) 2,lo 21 20,ob 22 (.bin .mul) 19 21,oa 23 (.fld 2) 2,lo 24 23,ob 25 (.bin .add) 22 24,oa 26 (.fld 1) 2,lo 27 26,ob 28 (.ak F.Nb) 25 27,ob 29 (.bin .sub) 18 28,mv 4 29] 0 [4]) .ret)))
def U5:List aJ:=[.tmp 4]
theorem acA:aC C.P F.Wi 2 UG U5=true:=by kernel_rfl
def JM:aB:=(.seq (rg [mk 2 (kI 0)] 0 [0]) (.seq (rg [mv 3 0,oc 4 (.bin .add) 3 (kI 4),oc 5 (.bin .rem) 4 (kI 7),mv 2 5] 0 [2]) .ret))
def JZ:List aJ:=[.tmp 2]
theorem Vt:aC C.P F.IG 1 JM JZ=true:=by kernel_rfl
def QT:aB:=(.seq (rg [mk 4 (kI 0)] 0 [0,1]) (.seq (rg [mv 6 0,mv 7 1,ob 8 (.bin .quo) 6 7,mv 5 8] 0 [0,1,5]) (.seq (.seq (rg [mv 9 5,mv 10 1,ob 11 (.bin .mul) 9 10,mv 12 0,ob 13 (.bin .gtr) 11 12] 0 [5,13]) (.cond (.t 13) (rg [mv 14 5,oc 15 (.bin .sub) 14 (kI 1),mv 5 15] 0 [5]) .skip)) (.seq (rg [mv 16 5,mv 4 16] 0 [4]) .ret))))
def Rk:List aJ:=[.tmp 4]
theorem aaD:aC C.P F.Nb 2 QT Rk=true:=by kernel_rfl
end Go.Tel
namespace Go.Tel
open Go.Am
theorem Ob (n l h:Int):Pure C F.ni [.int .i64 n, .int .i64 l, .int .i64 h] (.d (.bool (inR n l h))) []:=by
 refine ah mixed rfl ae7 ?_
 by_cases h1:n≥l<;>simp only[h1,inR,Xu,XQ,Bool.false_and,RN,qA,qB,qC,qD,qE,qF]
theorem aae (n:Int):Pure C F.zT [.int .i64 n] (.d (.bool (inR n 0 4000))) []:=by
 refine ah mixed rfl Xh ?_
 simp only[LJ,Md,RN,qA,qB,qC,qD,qE,qF]
 repeat' first
  |(refine au rfl rfl (Ob _ _ _) ?_;try simp only[RN,qA,qB,qC,qD,qE,qF])
  |(refine bJ (by rfl) (fun hB=> ?_) (fun hB=> ?_)<;>simp only[hB,RN,qA,qB,qC,qD,qE,qF])
  |(refine bZ (by rfl) (fun hB=> ?_) (fun hB=> ?_)<;>simp only[hB,RN,qA,qB,qC,qD,qE,qF])
 all_goals(first|(simp only[inR, *,Bool.not_true,Bool.not_false,Bool.not_not,Bool.and_true,Bool.true_and,Bool.and_false,Bool.false_and,Bool.or_true,Bool.true_or,Bool.or_false,Bool.false_or,Bool.and_self,Bool.or_self,if_true,if_false,reduceIte,cond_true,cond_false,Bool.false_eq_true];done)|(simp_all[inR];done)|(simp_all[inR];omega))
theorem ai2 (n:Int):Pure C F.O4 [.int .i64 n] (.d (.bool (inR n 0 2000000))) []:=by
 refine ah mixed rfl YA ?_
 simp only[Om,OE,RN,qA,qB,qC,qD,qE,qF]
 repeat' first
  |(refine au rfl rfl (Ob _ _ _) ?_;try simp only[RN,qA,qB,qC,qD,qE,qF])
  |(refine bJ (by rfl) (fun hB=> ?_) (fun hB=> ?_)<;>simp only[hB,RN,qA,qB,qC,qD,qE,qF])
  |(refine bZ (by rfl) (fun hB=> ?_) (fun hB=> ?_)<;>simp only[hB,RN,qA,qB,qC,qD,qE,qF])
 all_goals(first|(simp only[inR, *,Bool.not_true,Bool.not_false,Bool.not_not,Bool.and_true,Bool.true_and,Bool.and_false,Bool.false_and,Bool.or_true,Bool.true_or,Bool.or_false,Bool.false_or,Bool.and_self,Bool.or_self,if_true,if_false,reduceIte,cond_true,cond_false,Bool.false_eq_true];done)|(simp_all[inR];done)|(simp_all[inR];omega))
def Z8:List Int→Int→Bool
 | [],_=>true
 |n::l,last=>inR n (last+1) 1000&&Z8 l n
def Cal.ok (c:Cal):Bool:=inR c.ep 0 1000&&inR c.cy.length 1 3&&Z8 c.cy 1
theorem V7:∀{l:List Int} {last:Int},1≤last→Z8 l last=true→∀n∈l,2≤n∧n≤1000
 | [],_,_,_,n,hn=>by cases hn
 |x::l,last,h1,h,n,hn=>by
  simp only[Z8,inR,Bool.and_eq_true,decide_eq_true_eq,ge_iff_le]at h
  rcases List.mem_cons.1 hn with rfl|hn
  ·omega
  ·exact V7 (last:=x) (by omega) h.2 n hn
theorem Cal.facts {c:Cal}(h:c.ok=true):(0≤c.ep∧c.ep≤1000)∧(1≤c.cy.length∧c.cy.length≤3)∧∀n∈c.cy,2≤n∧n≤1000:=by
 simp only[Cal.ok,Bool.and_eq_true]at h
 obtain⟨⟨h1,h2⟩,h3⟩:=h
 simp only[inR,Bool.and_eq_true,decide_eq_true_eq,ge_iff_le]at h1 h2
 exact⟨h1,by omega,V7 (by omega) h3⟩
theorem aan (c:Cal)(hl:c.cy.length≤1000000):Pure C F.nT [c.dv] (.d (.bool c.ok)) []:=by
 refine ah mixed rfl Pj ?_
 simp only[D5,Em,pR,RN,qA,qB,qC,qD,qE,qF]
 repeat' first
  |(refine au rfl rfl (Ob _ _ _) ?_;try simp only[List.length_map,RN,qA,qB,qC,qD,qE,qF])
  |(refine bJ (by rfl) (fun hB=> ?_) (fun hB=> ?_)<;>simp only[hB,List.length_map,RN,qA,qB,qC,qD,qE,qF])
  |(refine bZ (by rfl) (fun hB=> ?_) (fun hB=> ?_)<;>simp only[hB,List.length_map,RN,qA,qB,qC,qD,qE,qF])
 any_goals (simp_all[Cal.ok];done)
 have hok:c.ok=Z8 c.cy 1:=by simp_all[Cal.ok]
 rw[hok]
 refine aT c.cy.length (fun i (last:Int)=>⟨[(3, .d (.int .i64 last)),(18, .d (.slice false (c.cy.map ay))),(19, .d (.int .i64 c.cy.length)),(20, .d (.int .i64 i))],⟨[some [.d (.int .i64 c.ep), .d (.slice false (c.cy.map ay))]],[0],[]⟩⟩)
  (fun i last=>1≤last∧last≤1000∧Z8 c.cy 1=Z8 (c.cy.drop i) last) 0 1 (Nat.zero_le _) rfl ⟨by omega,by omega,rfl⟩ (fun i last h1 hix=> ?_) (fun last hix=> ?_)
 ·obtain⟨h2,h3,h6⟩:=rng h1 hl
  obtain⟨hl1,hl2,hix⟩:=hix
  rw[drop_cons h1,Z8]at hix
  have e1:IntKind.i64.wrap (last+1)=last+1:=aG (by omega)
  simp only[h2,h3,h1,h6,aV,getD_map,Int.toNat_natCast,List.length_map,e1,RN,qA,qB,qC,qD,qE,qF]
  refine au rfl rfl (Ob _ _ _) ?_
  cases hc:inR (c.cy.getD i default) (last+1) 1000
  ·(try simp only[RN,qA,qB,qC,qD,qE,qF])
   rw[hix,hc];rfl
  ·simp only[h6,RN,qA,qB,qC,qD,qE,qF]
   rw[hc,Bool.true_and]at hix
   have:last+1≤c.cy.getD i default∧c.cy.getD i default≤1000:=by simpa[inR]using hc
   exact nR (c.cy.getD i default) h1 rfl ⟨by omega,by omega,hix⟩ (by simp) (by simp) rfl rfl
 ·obtain⟨_,_,hix⟩:=hix
  rw[List.drop_length,Z8]at hix
  simp only[Int.lt_irrefl,hix,RN,qA,qB,qC,qD,qE,qF]
def acQ (c:Cal)(m:jU)(fs:List Int)(es:Option (List (DV×DV))):DV:= .agg [.int .i64 c.ep, .slice false (c.cy.map ay), .int .i64 m.n, .int .i64 m.d, .int .i64 m.ad, .slice false (fs.map ay), .map es]
theorem vS {c:Cal}{m:jU}{fs:List Int}{es:Option (List (DV×DV))}:acQ c m fs es= .agg [.int .i64 c.ep, .slice false (c.cy.map ay), .int .i64 m.n, .int .i64 m.d, .int .i64 m.ad, .slice false (fs.map ay), .map es]:=by rw[acQ]
def WX:List Int→Int→Bool→Bool
 | [],_,odd=>odd
 |n::l,y,odd=>WX l y (if y.tmod n==0 then !odd else odd)
def Cal.leap (c:Cal)(y:Int):Bool:=WX c.cy y false
theorem aaq (c:Cal)(m:jU)(fs:List Int)(es:Option (List (DV×DV)))(y:Int)(hl:c.cy.length≤1000000)(hn:∀n∈c.cy,n≠0):Pure C F.jS [acQ c m fs es, .int .i64 y] (.d (.bool (c.leap y))) []:=by
 refine ah mixed rfl NS ?_
 simp only[BJ,Ci,vS,List.length_map,RN,qA,qB,qC,qD,qE,qF]
 refine aT c.cy.length (fun i (odd:Bool)=>⟨[(1, .d (.int .i64 y)),(5, .d (.bool odd)),(10, .d (.slice false (c.cy.map ay))),(11, .d (.int .i64 c.cy.length)),(12, .d (.int .i64 i))],
   ⟨[some [.d (.int .i64 c.ep), .d (.slice false (c.cy.map ay)), .d (.int .i64 m.n), .d (.int .i64 m.d), .d (.int .i64 m.ad), .d (.slice false (fs.map ay)), .d (.map es)]],[0],[]⟩⟩)
  (fun i odd=>c.leap y=WX (c.cy.drop i) y odd) 0 false (Nat.zero_le _) rfl rfl (fun i odd h1 hix=> ?_) (fun odd hix=> ?_)
 ·obtain⟨h2,h3,h6⟩:=rng h1 hl
  rw[drop_cons h1,WX]at hix
  have hn1:=hn _ (getD_mem h1)
  simp only[h2,h3,h1,aV,getD_map,Int.toNat_natCast,List.length_map,hn1,RN,qA,qB,qC,qD,qE,qF]
  cases hc:(y.tmod (c.cy.getD i default)==0)
  ·rw[hc]at hix
   simp only[h6,RN,qA,qB,qC,qD,qE,qF]
   exact nR odd h1 rfl hix (by simp) (by simp) rfl rfl
  ·rw[hc]at hix
   simp only[h6,RN,qA,qB,qC,qD,qE,qF]
   exact nR (!odd) h1 rfl hix (by simp) (by simp) rfl rfl
 ·rw[List.drop_length,WX]at hix
  simp only[Int.lt_irrefl,hix,RN,qA,qB,qC,qD,qE,qF]
def bP (leap:Bool):List Int:=[31,if leap then 29 else 28,31,30,31,30,31,31,30,31,30,31]
def mon0:List DV:=[.int .i64 31, .int .i64 28, .int .i64 31, .int .i64 30, .int .i64 31, .int .i64 30, .int .i64 31, .int .i64 31, .int .i64 30, .int .i64 31, .int .i64 30, .int .i64 31]
theorem amg {C:Ctx}{K:PV→Mem→Prop}{KP:DV→Mem→Prop}(h:K (.tsl 0 0 0) ⟨[],[],[some ⟨1,mon0,0,1⟩]⟩):
  aj C 0 (.qc 1 [.int .i64 0, .int .i64 0, .int .i64 0, .int .i64 0, .int .i64 0, .int .i64 0, .int .i64 0, .int .i64 0, .int .i64 0, .int .i64 0, .int .i64 0, .int .i64 0] [0,1,2,3,4,5,6,7,8,9,10,11]) (mon0.map .d) ⟨[],[],[]⟩ K KP:=by
 simp only[aj,mon0,List.map_cons,List.map_nil,jd]
 exact⟨by decide,List.all_eq_true.1 (rfl:mon0.all (DV.fits 1)=true),h⟩
theorem aph:∀b:Bool,(bP b).map ay=bif b then mon0.set 1 (.int .i64 29)else mon0
 |true=>rfl
 |false=>rfl
theorem QF (leap:Bool):Pure C F.vP [.bool leap] (.d (.slice false ((bP leap).map ay))) []:=by
 refine gI (aF mixed rfl Xi ?_)
 simp only[LK,Me,RN,qA,qB,qC,qD,qE,qF]
 refine amg ?_
 rw[aph]
 cases leap
 ·(try simp only[RN,qA,qB,qC,qD,qE,qF])
  rfl
 ·(try simp only[RN,qA,qB,qC,qD,qE,qF])
  refine⟨by decide,by decide,MO (ds:=[.int .i64 29]) rfl rfl (by decide) rfl rfl (by decide) rfl⟩
end Go.Tel
namespace Go.Tel
open Go.Am
theorem ai8 (l:List Int)(hl:l.length≤1000000)(hx:∀x∈l,0≤x)(hb:jc l 0≤9223372036854775807):Pure C F.Qo [.slice false (l.map ay)] (.d (.int .i64 (jc l 0))) []:=by
 refine ah mixed rfl acB ?_
 simp only[UH,U6,List.length_map,RN,qA,qB,qC,qD,qE,qF]
 refine aT l.length (fun i (p:Int)=>⟨[(3, .d (.int .i64 p)),(6, .d (.slice false (l.map ay))),(7, .d (.int .i64 l.length)),(8, .d (.int .i64 i))],⟨[],[],[]⟩⟩)
  (fun i p=>0≤p∧jc l 0=jc (l.drop i) p) 0 0 (Nat.zero_le _) rfl ⟨by omega,rfl⟩ (fun i p h1 hix=> ?_) (fun p hix=> ?_)
 ·obtain⟨h2,h3,h6⟩:=rng h1 hl
  obtain⟨hp,hix⟩:=hix
  rw[drop_cons h1,jc]at hix
  have hx1:=hx _ (getD_mem h1)
  have q2:=Dq (l.drop (i+1)) (p+l.getD i default) (fun y hy=>hx y (List.mem_of_mem_drop hy))
  have e1:IntKind.i64.wrap (p+l.getD i default)=p+l.getD i default:=aG (by omega)
  simp only[h2,h3,h1,h6,aV,getD_map,Int.toNat_natCast,List.length_map,e1,RN,qA,qB,qC,qD,qE,qF]
  exact nR (p+l.getD i default) h1 rfl ⟨by omega,hix⟩ (by simp) (by simp) rfl rfl
 ·obtain⟨hp,hix⟩:=hix
  rw[List.drop_length,jc]at hix
  simp only[Int.lt_irrefl,hix,RN,qA,qB,qC,qD,qE,qF]
def II (b:Bool):Int:=jc (bP b) 0
theorem zI:∀b:Bool,II b=if b then 366 else 365
 |true=>rfl
 |false=>rfl
theorem vU:∀(b:Bool),∀x∈bP b,28≤x∧x≤31:=by
 intro b x hx
 cases b<;>simp[bP]at hx<;>omega
theorem zq:∀(b:Bool),(bP b).length=12
 |true=>rfl
 |false=>rfl
theorem af5 (c:Cal)(m:jU)(fs:List Int)(es:Option (List (DV×DV)))(y:Int)(hl:c.cy.length≤1000000)(hn:∀n∈c.cy,n≠0):Pure C F.zh [acQ c m fs es, .int .i64 y] (.d (.int .i64 (II (c.leap y)))) []:=by
 refine ah mixed rfl NR ?_
 simp only[BI,Ce,vS,List.length_map,RN,qA,qB,qC,qD,qE,qF]
 have h1:=aaq c m fs es y hl hn
 rw[vS]at h1
 refine au rfl rfl h1 ?_
 (try simp only[RN,qA,qB,qC,qD,qE,qF])
 refine au rfl rfl (QF _) ?_
 (try simp only[RN,qA,qB,qC,qD,qE,qF])
 have hs:jc (bP (c.leap y)) 0≤366:=by have:=zI (c.leap y);unfold II at this;rw[this];split<;>decide
 refine au rfl rfl (ai8 (bP (c.leap y)) (by rw[zq];decide) (fun x hx=>by have:=vU _ x hx;omega) (by omega)) ?_
 simp only[II,RN,qA,qB,qC,qD,qE,qF]
def wd (n:Int):Int:=(n+4).tmod 7
theorem aij (n:Int)(h:0≤n∧n≤1000000000):Pure C F.IG [.int .i64 n] (.d (.int .i64 (wd n))) []:=by
 have e1:IntKind.i64.wrap (n+4)=n+4:=aG (by omega)
 have b1:0≤(n+4).tmod 7:=Int.tmod_nonneg 7 (by omega)
 have b2:(n+4).tmod 7<7:=Int.tmod_lt_of_pos _ (by decide)
 have e2:IntKind.i64.wrap ((n+4).tmod 7)=(n+4).tmod 7:=aG (by omega)
 refine ah mixed rfl Vt ?_
 simp only[JM,JZ,e1,e2,wd,RN,qA,qB,qC,qD,qE,qF]
 simp
def mG (n b:Int):Int:=if n.tdiv b*b>n then n.tdiv b - 1 else n.tdiv b
theorem Vo (n b:Int):(n.tdiv b*b).natAbs≤n.natAbs:=by
 have h:=Int.mul_tdiv_add_tmod n b
 rw[Int.natAbs_mul,Int.natAbs_tdiv]
 exact Nat.div_mul_le_self _ _
theorem ai6 (n b:Int)(h:n.natAbs≤1000000000000000000)(hb:b≠0):Pure C F.Nb [.int .i64 n, .int .i64 b] (.d (.int .i64 (mG n b))) []:=by
 have b1:=NI n b
 have b2:=Vo n b
 have e1:IntKind.i64.wrap (n.tdiv b)=n.tdiv b:=aG (by omega)
 have e2:IntKind.i64.wrap (n.tdiv b*b)=n.tdiv b*b:=aG (by omega)
 have e3:IntKind.i64.wrap (n.tdiv b - 1)=n.tdiv b - 1:=aG (by omega)
 refine ah mixed rfl aaD ?_
 simp only[QT,Rk,e1,e2,hb,RN,qA,qB,qC,qD,qE,qF]
 by_cases hq:n.tdiv b*b>n
 ·simp only[hq,e3,mG,if_true,RN,qA,qB,qC,qD,qE,qF]
 ·simp only[hq,mG,if_false,RN,qA,qB,qC,qD,qE,qF]
theorem afP (n b:Int)(hb:b≠0):(mG n b).natAbs≤n.natAbs+1:=by
 have:=NI n b
 unfold mG
 split<;>omega
theorem ai7 (n b:Int):(mG n b*b).natAbs≤n.natAbs+b.natAbs:=by
 have:=Vo n b
 unfold mG
 split
 ·rw[Int.sub_mul];omega
 ·omega
def jU.ok (m:jU):Bool:=inR m.d 1 1000&&inR m.n (29*m.d) (30*m.d)&&inR m.ad 0 (m.n - 1)
theorem jU.facts {m:jU}(h:m.ok=true):(1≤m.d∧m.d≤1000)∧(29*m.d≤m.n∧m.n≤30*m.d)∧0≤m.ad∧m.ad<m.n:=by
 simp only[jU.ok,inR,Bool.and_eq_true,decide_eq_true_eq,ge_iff_le]at h
 omega
theorem ajG (m:jU):Pure C F.KJ [m.dv] (.d (.bool m.ok)) []:=by
 refine ah mixed rfl Xg ?_
 simp only[LH,Mc,uN,RN,qA,qB,qC,qD,qE,qF]
 refine au rfl rfl (Ob _ _ _) ?_
 cases h1:inR m.d 1 1000
 ·(try simp only[RN,qA,qB,qC,qD,qE,qF])
  simp[jU.ok,h1]
 ·have hd:1≤m.d∧m.d≤1000:=by simpa[inR]using h1
  have e1:IntKind.i64.wrap (29*m.d)=29*m.d:=aG (by omega)
  have e2:IntKind.i64.wrap (30*m.d)=30*m.d:=aG (by omega)
  simp only[e1,e2,RN,qA,qB,qC,qD,qE,qF]
  refine au rfl rfl (Ob _ _ _) ?_
  cases h2:inR m.n (29*m.d) (30*m.d)
  ·(try simp only[RN,qA,qB,qC,qD,qE,qF])
   simp[jU.ok,h2]
  ·have hn:29*m.d≤m.n∧m.n≤30*m.d:=by simpa[inR]using h2
   have e3:IntKind.i64.wrap (m.n - 1)=m.n - 1:=aG (by omega)
   simp only[e3,RN,qA,qB,qC,qD,qE,qF]
   refine au rfl rfl (Ob _ _ _) ?_
   (try simp only[RN,qA,qB,qC,qD,qE,qF])
   simp[jU.ok,h1,h2]
def aa8 (m:jU)(n:Int):Int:=n - mG (mG ((n+1)*m.d - 1 - m.ad) m.n*m.n+m.ad) m.d
theorem apb (m:jU)(n:Int)(hm:m.ok=true)(h:0≤n∧n≤100000000):Pure C F.Wi [m.dv, .int .i64 n] (.d (.int .i64 (aa8 m n))) []:=by
 obtain⟨hd,hn,ha⟩:=m.facts hm
 have p1:0≤(n+1)*m.d∧(n+1)*m.d≤100000001*1000:=⟨Int.mul_nonneg (by omega) (by omega),Int.mul_le_mul (by omega) hd.2 (by omega) (by omega)⟩
 have q1:=afP ((n+1)*m.d - 1 - m.ad) m.n (by omega)
 have q2:=ai7 ((n+1)*m.d - 1 - m.ad) m.n
 have q3:=afP (mG ((n+1)*m.d - 1 - m.ad) m.n*m.n+m.ad) m.d (by omega)
 have e1:IntKind.i64.wrap (n+1)=n+1:=aG (by omega)
 have e2:IntKind.i64.wrap ((n+1)*m.d)=(n+1)*m.d:=aG (by omega)
 have e3:IntKind.i64.wrap ((n+1)*m.d - 1)=(n+1)*m.d - 1:=aG (by omega)
 have e4:IntKind.i64.wrap ((n+1)*m.d - 1 - m.ad)=(n+1)*m.d - 1 - m.ad:=aG (by omega)
 have e5:IntKind.i64.wrap (mG ((n+1)*m.d - 1 - m.ad) m.n*m.n)=mG ((n+1)*m.d - 1 - m.ad) m.n*m.n:=aG (by omega)
 have e6:IntKind.i64.wrap (mG ((n+1)*m.d - 1 - m.ad) m.n*m.n+m.ad)=mG ((n+1)*m.d - 1 - m.ad) m.n*m.n+m.ad:=aG (by omega)
 have e7:IntKind.i64.wrap (n - mG (mG ((n+1)*m.d - 1 - m.ad) m.n*m.n+m.ad) m.d)=n - mG (mG ((n+1)*m.d - 1 - m.ad) m.n*m.n+m.ad) m.d:=aG (by omega)
 refine ah mixed rfl acA ?_
 simp only[UG,U5,uN,e1,e2,e3,e4,RN,qA,qB,qC,qD,qE,qF]
 refine au rfl rfl (ai6 _ _ (by omega) (by omega)) ?_
 simp only[e5,e6,RN,qA,qB,qC,qD,qE,qF]
 refine au rfl rfl (ai6 _ _ (by omega) (by omega)) ?_
 simp only[e7,aa8,RN,qA,qB,qC,qD,qE,qF]
def uX (c:Cal)(d:Dt):Bool:=inR d.y 0 4000&&inR d.m 1 12&&inR d.d 1 ((bP (c.leap d.y)).getD (d.m - 1).toNat default)
theorem ab2 (c:Cal)(m:jU)(fs:List Int)(es:Option (List (DV×DV)))(d:Dt)(hl:c.cy.length≤1000000)(hn:∀n∈c.cy,n≠0):Pure C F.ny [acQ c m fs es,d.dv] (.d (.bool (uX c d))) []:=by
 refine ah mixed rfl Ku ?_
 simp only[yG,yP,vS,Fg,List.length_map,RN,qA,qB,qC,qD,qE,qF]
 refine au rfl rfl (aae _) ?_
 cases h1:inR d.y 0 4000
 ·(try simp only[RN,qA,qB,qC,qD,qE,qF])
  simp[uX,h1]
 ·(try simp only[RN,qA,qB,qC,qD,qE,qF])
  refine au rfl rfl (Ob _ _ _) ?_
  cases h2:inR d.m 1 12
  ·(try simp only[RN,qA,qB,qC,qD,qE,qF])
   simp[uX,h2]
  ·have hm:1≤d.m∧d.m≤12:=by simpa[inR]using h2
   have e1:IntKind.i64.wrap (d.m - 1)=d.m - 1:=aG (by omega)
   simp only[e1,RN,qA,qB,qC,qD,qE,qF]
   have h3:=aaq c m fs es d.y hl hn
   rw[vS]at h3
   refine au rfl rfl h3 ?_
   (try simp only[RN,qA,qB,qC,qD,qE,qF])
   refine au rfl rfl (QF _) ?_
   have i1:(0:Int)≤d.m - 1:=by omega
   have i2:(d.m - 1).toNat<(bP (c.leap d.y)).length:=by rw[zq];omega
   simp only[e1,i1,i2,List.length_map,getD_map,aV,RN,qA,qB,qC,qD,qE,qF]
   refine au rfl rfl (Ob _ _ _) ?_
   simp only[uX,h1,h2,RN,qA,qB,qC,qD,qE,qF]
def OY (c:Cal)(fs:List Int)(d:Dt):Int:=fs.getD d.y.toNat default+jc ((bP (c.leap d.y)).take (d.m - 1).toNat) 0+d.d - 1
theorem TV:∀(l:List Int) (n:Nat) (p:Int),(∀x∈l,0≤x)→jc (l.take n) p≤jc l p
 | [],n,p,_=>by rw[List.take_nil];exact Int.le_refl _
 |x::l,0,p,h=>Dq _ _ h
 |x::l,n+1,p,h=>by
  rw[List.take_succ_cons,jc,jc]
  exact TV l n _ fun y hy=>h y (by simp[hy])
theorem ai0 (c:Cal)(m:jU)(fs:List Int)(es:Option (List (DV×DV)))(d:Dt)(hl:c.cy.length≤1000000)(hn:∀n∈c.cy,n≠0)(hf:∀x∈fs,0≤x∧x≤10000000)(hy:0≤d.y∧d.y.toNat<fs.length)(hm:1≤d.m∧d.m≤12)(hd:1≤d.d∧d.d≤31):Pure C F.nU [acQ c m fs es,d.dv] (.d (.int .i64 (OY c fs d))) []:=by
 have e1:IntKind.i64.wrap (d.m - 1)=d.m - 1:=aG (by omega)
 have b1:=hf _ (getD_mem hy.2)
 have hs:jc (bP (c.leap d.y)) 0≤366:=by have:=zI (c.leap d.y);unfold II at this;rw[this];split<;>decide
 have hs1:=TV (bP (c.leap d.y)) (d.m - 1).toNat 0 fun x hx=>by have:=vU _ x hx;omega
 have hs2:=Dq ((bP (c.leap d.y)).take (d.m - 1).toNat) 0 fun x hx=>by have:=vU _ x (List.mem_of_mem_take hx);omega
 have e2:IntKind.i64.wrap (fs.getD d.y.toNat default+jc ((bP (c.leap d.y)).take (d.m - 1).toNat) 0)=fs.getD d.y.toNat default+jc ((bP (c.leap d.y)).take (d.m - 1).toNat) 0:=aG (by omega)
 have e3:IntKind.i64.wrap (fs.getD d.y.toNat default+jc ((bP (c.leap d.y)).take (d.m - 1).toNat) 0+d.d)=fs.getD d.y.toNat default+jc ((bP (c.leap d.y)).take (d.m - 1).toNat) 0+d.d:=aG (by omega)
 have e4:IntKind.i64.wrap (fs.getD d.y.toNat default+jc ((bP (c.leap d.y)).take (d.m - 1).toNat) 0+d.d - 1)=fs.getD d.y.toNat default+jc ((bP (c.leap d.y)).take (d.m - 1).toNat) 0+d.d - 1:=aG (by omega)
 refine ah mixed rfl Pm ?_
 simp only[D6,Eo,vS,Fg,List.length_map,hy.1,hy.2,getD_map,aV,RN,qA,qB,qC,qD,qE,qF]
 have h3:=aaq c m fs es d.y hl hn
 rw[vS]at h3
 refine au rfl rfl h3 ?_
 (try simp only[RN,qA,qB,qC,qD,qE,qF])
 refine au rfl rfl (QF _) ?_
 simp only[e1,RN,qA,qB,qC,qD,qE,qF]
 rw[Wv (by intro x hx;simp only[List.mem_map]at hx;obtain⟨y,_,rfl⟩:=hx;rfl) (by omega) (by rw[List.length_map,zq];omega)]
 rw[←List.map_take]
 (try simp only[RN,qA,qB,qC,qD,qE,qF])
 refine au rfl rfl (ai8 _ (by rw[List.length_take,zq];omega) (fun x hx=>by have:=vU _ x (List.mem_of_mem_take hx);omega) (by omega)) ?_
 simp only[e2,e3,e4,OY,RN,qA,qB,qC,qD,qE,qF]
def Fs.bad (f:Fs):Bool:=if f.mv then f.mo !=0||f.da !=0|| !inR f.af (-60) 60 else f.af !=0|| !inR f.mo 1 12|| !inR f.da 1 31
theorem anX (f:Fs):Pure C F.qM [f.dv] (.d (.bool f.bad)) []:=by
 refine ah mixed rfl NP ?_
 simp only[BG,BZ,Wn,RN,qA,qB,qC,qD,qE,qF]
 repeat' first
  |(refine au rfl rfl (Ob _ _ _) ?_;try simp only[Wn,RN,qA,qB,qC,qD,qE,qF])
  |(refine bJ (by rfl) (fun hB=> ?_) (fun hB=> ?_)<;>simp only[hB,Wn,RN,qA,qB,qC,qD,qE,qF])
  |(refine bZ (by rfl) (fun hB=> ?_) (fun hB=> ?_)<;>simp only[hB,Wn,RN,qA,qB,qC,qD,qE,qF])
 all_goals(simp_all[Fs.bad];done)
def pV (l:List Fs):Bool:=decide (l.length≤6)&& !l.any Fs.bad
theorem aa9 (ex:Bool)(l:List Fs):Pure C F.Dx [.slice ex (l.map Fs.dv)] (.d (.bool (pV l))) []:=by
 refine ah mixed rfl QI ?_
 simp only[FC,FI,List.length_map,RN,qA,qB,qC,qD,qE,qF]
 by_cases h:l.length≤6
 ·have h':(l.length:Int)≤6:=by omega
  simp only[h',RN,qA,qB,qC,qD,qE,qF]
  refine au rfl rfl (Yr l F.qM [] Fs.bad (by omega) (by kernel_rfl) fun x _=>anX x) ?_
  (try simp only[RN,qA,qB,qC,qD,qE,qF])
  simp[pV,h]
 ·have h':¬(l.length:Int)≤6:=by omega
  simp only[h',RN,qA,qB,qC,qD,qE,qF]
  simp[pV,h]
end Go.Tel
namespace Go.Tel
open Go.Am
section
variable {C:Ctx}{base:Nat}{KP:DV→Mem→Prop}
theorem Ws {i:Nat}{bs:List (Option (List PV))}{fz:List Nat}{ar:List (Option Arr)}{L:PV→Mem→Prop}:aj C base (.mkMap i) [] ⟨bs,fz,ar⟩ L KP=(bs[base+i]?=some none∧L (.mref (base+i)) ⟨bs.set (base+i) (some [.iY []]),fz,ar⟩):=propext ⟨id,id⟩
theorem mg {f:FuncId}{args:List PV}{M:Mem}{ds ds':List DV}{x:DV}{K:PV→Mem→Prop}(h1:dD M args=some ds)(h2:ds.map DV.strip=ds')(hp:Pure C f ds' (.d x) [])(hx:IW x=true)(hK:K (.d x) M):aj C base (.iZ f) args M K KP:=
 ⟨ds,h1,x,h2▸hp,hx,hK⟩
end
theorem He {bs:List (Option (List PV))}{fz:List Nat}{ar:List (Option Arr)}{k ver b st:Nat}{xs:List DV}{es:List (DV×DV)}{a1 a2 a3 a4 a5:DV}(ha:ar[k]?=some (some ⟨1,xs,ver,st⟩))(hb:bs[b]?=some (some [.iY es])):
  datum ⟨bs,fz,ar⟩ (.agg [.d a1, .d a2, .d a3, .d a4, .d a5, .tsl k ver 0, .mref b])=some (.agg [a1,a2,a3,a4,a5, .slice false xs, .map (some es)]):=by
 simp[datum,bW,eU,Mem.row,Mem.box,ha,hb]
theorem wL {M:Mem}{p:PV}{d y:DV}(h:datum M p=some d):dD M [p, .d y]=some [d,y]:=by
 simp only[dD,h]
 simp[datum]
theorem Ql {M:Mem}{p:PV}{d:DV}(h:datum M p=some d):dD M [p]=some [d]:=by
 simp[dD,h]
def Cal.first (c:Cal):Nat→Int
 |0=>c.ep
 |y+1=>c.first y+II (c.leap y)
def Cal.firsts (c:Cal)(n:Nat):List Int:=(List.range n).map c.first
theorem Cal.pW (c:Cal)(y:Nat):c.ep+365*y≤c.first y∧c.first y≤c.ep+366*y:=by
 induction y with
 |zero=>simp[Cal.first]
 |succ y ih=>
  rw[Cal.first,zI]
  split<;>omega
theorem Cal.Us (c:Cal)(n:Nat):c.firsts (n+1)=c.firsts n++ [c.first n]:=by simp[Cal.firsts,List.range_succ]
def opC:Nat→PV
 |0=> .d (.slice true [])
 |i+1=> .tsl 0 i 0
def opA (c:Cal):Nat→List (Option Arr)
 |0=>[]
 |i+1=>[some ⟨1,(c.firsts (i+1)).map ay,i,0⟩]
def amm (c:Cal)(m:jU)(i:Nat):St:=
 ⟨[(4, .ptr 2 0),(5, .ptr 4 0),(6, .d (.int .i64 (c.first i))),(14, .d (.int .i64 i))],
  ⟨[some [.d (.int .i64 c.ep), .d (.slice false (c.cy.map ay))],some [.d (.int .i64 m.n), .d (.int .i64 m.d), .d (.int .i64 m.ad)],
   some [.d (.int .i64 0), .d (.slice true []), .d (.int .i64 0), .d (.int .i64 0), .d (.int .i64 0), .d (.slice true []), .d (.map none)],
   some [.iY []],some [.d (.int .i64 c.ep), .d (.slice false (c.cy.map ay)), .d (.int .i64 m.n), .d (.int .i64 m.d), .d (.int .i64 m.ad),opC i, .mref 3]],[1,0],opA c i⟩⟩
theorem akc (c:Cal)(m:jU)(hc:c.ok=true):Pure C F.Dj [c.dv,m.dv] (.d (acQ c m (c.firsts 4002) (some []))) []:=by
 obtain⟨he,hl,hn⟩:=Cal.facts hc
 refine gI (aF mixed rfl QJ ?_)
 simp only[Ji,Jq,pR,uN,Ws,O7,vM,Option.map_none,eP,jr,Lr,RN,qA,qB,qC,qD,qE,qF]
 refine aT 4002 (fun i (_:Unit)=>amm c m i) (fun i _=>True) 0 () (Nat.zero_le _) rfl trivial (fun i a h1 hix=> ?_) (fun a hix=> ?_)
 ·have h2:(i:Int)<4002:=by omega
  have h6:IntKind.i64.wrap ((i:Int)+1)=((i+1:Nat):Int):=by rw[aG (by omega)];omega
  have hb:=c.pW i
  have hb1:=c.pW (i+1)
  rw[Cal.first]at hb1
  have e1:IntKind.i64.wrap (c.first i+II (c.leap i))=c.first i+II (c.leap i):=aG (by omega)
  have hd:=af5 c m (c.firsts (i+1)) (some []) i (by omega) (fun n h=>by have:=hn n h;omega)
  rw[vS]at hd
  rcases i with _|i
  ·simp only[amm,opC,opA,h2,bM,dN,bn,vM,Option.map_none,eP,DV.strip,fits_int,forall_eq,RN,qA,qB,qC,qD,qE,qF]
   (repeat(refine And.intro (by first|assumption|rfl|(simp;done)|(simp;omega)) ?_))
   refine mg (by rfl) (by rfl) hd rfl ?_
   simp only[e1,h6,RN,qA,qB,qC,qD,qE,qF]
   exact lI (len:=4002) (i:=0) () h1 rfl trivial
  ·simp only[amm,opC,opA,h2,bM,dN,bn,vM,Option.map_none,eP,DV.strip,fits_int,forall_eq,RN,qA,qB,qC,qD,qE,qF]
   have hlen:(c.firsts (i+1)).length=i+1:=by simp[Cal.firsts]
   have hfs:(c.firsts (i+1)).map ay++ [.int .i64 (c.first (i+1))]=(c.firsts (i+1+1)).map ay:=by rw[c.Us (i+1),List.map_append];rfl
   rw[hfs,List.length_map,hlen]
   (repeat(refine And.intro (by first|assumption|rfl|(simp;done)|(simp;omega)) ?_))
   refine mg (wL (He rfl rfl)) rfl hd rfl ?_
   simp only[e1,h6,RN,qA,qB,qC,qD,qE,qF]
   exact lI (len:=4002) (i:=i+1) () h1 rfl trivial
 ·have hx:¬((4002:Nat):Int)<4002:=by omega
  simp only[amm,opC,opA,hx,bM,dN,bn,vM,Option.map_none,eP,jr,Lr,RN,qA,qB,qC,qD,qE,qF]
  rw[vS]
  exact He rfl rfl
end Go.Tel
namespace Go.Tel
open Go.Am
theorem SB (n b:Int)(hb:0<b):mG n b*b≤n∧n<(mG n b+1)*b:=by
 have h:=Int.mul_tdiv_add_tmod n b
 have h1:=Int.tmod_lt_of_pos n hb
 have h2:=Int.lt_tmod_of_pos n hb
 have h3:n.tdiv b*b=b*n.tdiv b:=Int.mul_comm _ _
 unfold mG
 split
 ·have e1:(n.tdiv b - 1)*b=n.tdiv b*b - b:=by rw[Int.sub_mul];omega
  have e2:(n.tdiv b - 1+1)*b=n.tdiv b*b:=by rw[show n.tdiv b - 1+1=n.tdiv b by omega]
  omega
 ·have e2:(n.tdiv b+1)*b=n.tdiv b*b+b:=by rw[Int.add_mul];omega
  omega
theorem aha {n b q:Int}(hb:0<b)(h1:q*b≤n)(h2:n<(q+1)*b):mG n b=q:=by
 obtain⟨g1,g2⟩:=SB n b hb
 have a1:mG n b<q+1:=Int.lt_of_mul_lt_mul_right (a:=b) (by omega) (by omega)
 have a2:q<mG n b+1:=Int.lt_of_mul_lt_mul_right (a:=b) (by omega) (by omega)
 omega
theorem ahq (m:jU)(hm:m.ok=true)(n:Int):∃j:Nat,j≤44∧aa8 m (n+j)=13:=by
 obtain⟨hd,hn,ha⟩:=m.facts hm
 have hN:0<m.n:=by omega
 have hD:0<m.d:=by omega
 obtain⟨K,hK⟩:∃K,K=mG ((n+1)*m.d - 1 - m.ad) m.n:=⟨_,rfl⟩
 obtain⟨g1,g2⟩:=SB ((n+1)*m.d - 1 - m.ad) m.n hN
 rw[←hK]at g1 g2
 obtain⟨s,hs⟩:∃s,s=mG ((K+1)*m.n+m.ad) m.d:=⟨_,rfl⟩
 obtain⟨g3,g4⟩:=SB ((K+1)*m.n+m.ad) m.d hD
 rw[←hs]at g3 g4
 have e1:(K+1)*m.n=K*m.n+m.n:=by rw[Int.add_mul];omega
 have e2:(n+1)*m.d=n*m.d+m.d:=by rw[Int.add_mul];omega
 have e3:(s+1)*m.d=s*m.d+m.d:=by rw[Int.add_mul];omega
 have e4:(n+32)*m.d=n*m.d+32*m.d:=by rw[Int.add_mul]
 have b1:n+1<s+1:=Int.lt_of_mul_lt_mul_right (a:=m.d) (by omega) (by omega)
 have b2:s<n+32:=Int.lt_of_mul_lt_mul_right (a:=m.d) (by omega) (by omega)
 refine⟨(s+13 - n).toNat,by omega,?_⟩
 have e5:n+((s+13 - n).toNat:Int)=s+13:=by omega
 rw[e5]
 have e6:(s+13+1)*m.d=s*m.d+14*m.d:=by rw[show s+13+1=s+14 by omega,Int.add_mul]
 have e7:(K+1+1)*m.n=K*m.n+m.n+m.n:=by rw[Int.add_mul,e1];omega
 have hk:mG ((s+13+1)*m.d - 1 - m.ad) m.n=K+1:=aha hN (by omega) (by omega)
 unfold aa8
 rw[hk,←hs]
 omega
def DL (m:jU):Nat→Int→Int
 |0,n=>n
 |k+1,n=>if aa8 m n=13 then n else DL m k (n+1)
def jU.full (m:jU)(n:Int):Int:=DL m 45 n
theorem abN {m:jU}{k:Nat}{n:Int}(h:aa8 m n=13):DL m k n=n:=by
 cases k with
 |zero=>rfl
 |succ k=>rw[DL,if_pos h]
theorem Y9 (m:jU):∀(k:Nat) (n:Int),n≤DL m k n∧DL m k n≤n+k
 |0,n=>⟨Int.le_refl _,by simp[DL]⟩
 |k+1,n=>by
  rw[DL]
  split
  ·omega
  ·have:=Y9 m k (n+1)
   omega
def sunday (c:Cal)(m:jU)(y:Int):Int:=let n:=m.full (OY c (c.firsts 4002) ⟨y,3,21⟩);n+(7 - wd n)
def afL (c:Cal)(m:jU)(y:Int)(es:List (DV×DV)):Prop:=es=[]∨es=[(.agg [.int .i64 y, .int .i64 3, .int .i64 21], .int .i64 (sunday c m y))]
def KI (c:Cal)(m:jU)(y:Int):List (DV×DV):=[(.agg [.int .i64 y, .int .i64 3, .int .i64 21], .int .i64 (sunday c m y))]
theorem GV (c:Cal)(hc:c.ok=true):∀x∈c.firsts 4002,0≤x∧x≤10000000:=by
 obtain⟨he,_,_⟩:=Cal.facts hc
 intro x hx
 simp only[Cal.firsts,List.mem_map,List.mem_range]at hx
 obtain⟨i,hi,rfl⟩:=hx
 have:=c.pW i
 omega
section
variable {C:Ctx}{base:Nat}{KP:DV→Mem→Prop}
theorem Xa {ok:Bool}{ks:List Nat}{z:DV}{b:Nat}{k:DV}{M:Mem}{K:PV→Mem→Prop}(l:List (DV×DV))(r:Option DV)(hb:M.box b=some [.iY l])(h1:iF ks k k=some true)(h2:sN ks l k=some r)(hK:K (.d (KW ok z r)) M):
  aj C base (.NM ok ks z) [.mref b, .d k] M K KP:=by
 simp only[aj,hb,h1,h2];exact hK
theorem aoO {ks:List Nat}{b:Nat}{k:List DV}{v:DV}{M:Mem}{K:PV→Mem→Prop}(l l':List (DV×DV))(hb:M.box b=some [.iY l])(hf:b∉M.fz)(h1:dB ks k k=some true)(h2:QG ks l k v=some l')(hK:K .dead {M with boxes:=M.boxes.set b (some [.iY l'])}):
  aj C base (.ae3 ks) [.mref b, .d (.agg k), .d v] M K KP:=by
 simp only[aj,hb,h1,h2];exact⟨hf,hK⟩
end
theorem anh (y:Int):dB [1,1,1] [.int .i64 y, .int .i64 3, .int .i64 21] [.int .i64 y, .int .i64 3, .int .i64 21]=some true:=by simp[dB]
theorem aeT (y:Int):iF [1,1,1] (.agg [.int .i64 y, .int .i64 3, .int .i64 21]) (.agg [.int .i64 y, .int .i64 3, .int .i64 21])=some true:=by
 simp only[iF,anh];rfl
theorem DK (c:Cal)(n:Nat):(c.firsts n).length=n:=by simp[Cal.firsts]
theorem aiZ (c:Cal)(fs:List Int)(d:Dt)(hf:∀x∈fs,0≤x∧x≤10000000)(hy:d.y.toNat<fs.length)(hd:1≤d.d∧d.d≤31):0≤OY c fs d∧OY c fs d≤10000400:=by
 have b1:=hf _ (getD_mem hy)
 have hs:jc (bP (c.leap d.y)) 0≤366:=by have:=zI (c.leap d.y);unfold II at this;rw[this];split<;>decide
 have hs1:=TV (bP (c.leap d.y)) (d.m - 1).toNat 0 fun x hx=>by have:=vU _ x hx;omega
 have hs2:=Dq ((bP (c.leap d.y)).take (d.m - 1).toNat) 0 fun x hx=>by have:=vU _ x (List.mem_of_mem_take hx);omega
 unfold OY
 omega
theorem aib {x0 x1 x2 x3 x4 x6 x7 x8 x9:Option (List PV)}{fz:List Nat}{A1 A2:Option Arr}(c:Cal)(m:jU)(y:Int)(es:List (DV×DV))(hc:c.ok=true)(hm:m.ok=true)(hy:0≤y∧y≤4000)(hes:afL c m y es)(hfz:5∉fz)(hfb:∀i∈fz,i<10):
  ∃M',SC C F.uZ [.agg [.d (.int .i64 c.ep), .d (.slice false (c.cy.map ay)), .d (.int .i64 m.n), .d (.int .i64 m.d), .d (.int .i64 m.ad), .tsl 0 4001 0, .mref 5], .d (.int .i64 y)]
   ⟨[x0,x1,x2,x3,x4,some [.iY es],x6,x7,x8,x9],fz,[some ⟨1,(c.firsts 4002).map ay,4001,0⟩,A1,A2]⟩
   (fun p M=>p= .d (.int .i64 (sunday c m y))∧M=M') (fun _ _=>False)∧M'.boxes.take 10=[x0,x1,x2,x3,x4,some [.iY (KI c m y)],x6,x7,x8,x9]∧M'.fz=fz∧M'.aA=[some ⟨1,(c.firsts 4002).map ay,4001,0⟩,A1,A2]:=by
 obtain⟨he,hl,hn⟩:=Cal.facts hc
 refine⟨⟨[x0,x1,x2,x3,x4,some [.iY (KI c m y)],x6,x7,x8,x9,some [.d (.int .i64 c.ep), .d (.slice false (c.cy.map ay)), .d (.int .i64 m.n), .d (.int .i64 m.d), .d (.int .i64 m.ad), .tsl 0 4001 0, .mref 5],some [.d (.int .i64 y), .d (.int .i64 3), .d (.int .i64 21)]],fz,[some ⟨1,(c.firsts 4002).map ay,4001,0⟩,A1,A2]⟩,?_,rfl,rfl,rfl⟩
 have arA:10∉fz:=fun h=>by have:=hfb _ h;omega
 have aqA:11∉fz:=fun h=>by have:=hfb _ h;omega
 refine aF mixed rfl Kv ?_
 simp only[yH,yQ,jr,IV,aqA,RN,qA,qB,qC,qD,qE,qF]
 rcases hes with rfl|rfl
 ·refine Xa [] none rfl (aeT y) rfl ?_
  simp only[KW,cond_true,Option.getD_none,Option.isSome_none,RN,qA,qB,qC,qD,qE,qF]
  have hfl:(c.firsts 4002).length=4002:=by simp[Cal.firsts]
  have hd:=ai0 c m (c.firsts 4002) (some []) ⟨y,3,21⟩ (by omega) (fun n h=>by have:=hn n h;omega) (GV c hc) (by rw[hfl];simp only;omega) (by simp only;omega) (by simp only;omega)
  rw[vS,Fg]at hd
  obtain⟨n0,hn0⟩:∃n0,n0=OY c (c.firsts 4002) ⟨y,3,21⟩:=⟨_,rfl⟩
  rw[←hn0]at hd
  have hn1:0≤n0∧n0≤10000400:=by rw[hn0];exact aiZ c _ _ (GV c hc) (by rw[hfl];simp only;omega) ⟨by simp only;omega,by simp only;omega⟩
  refine mg (wL (He rfl rfl)) rfl hd rfl ?_
  (try simp only[RN,qA,qB,qC,qD,qE,qF])
  obtain⟨j,hj,hj1⟩:=ahq m hm n0
  refine qR (fun i:Nat=>⟨[(2, .ptr 10 0),(5, .ptr 11 0),(8, .d (.int .i64 (n0+i)))],⟨[x0,x1,x2,x3,x4,some [.iY []],x6,x7,x8,x9,some [.d (.int .i64 c.ep), .d (.slice false (c.cy.map ay)), .d (.int .i64 m.n), .d (.int .i64 m.d), .d (.int .i64 m.ad), .tsl 0 4001 0, .mref 5],some [.d (.int .i64 y), .d (.int .i64 3), .d (.int .i64 21)]],fz,[some ⟨1,(c.firsts 4002).map ay,4001,0⟩,A1,A2]⟩⟩)
   (fun i=>i≤j∧m.full n0=DL m (45 - i) (n0+i)) (fun i=>j - i) 0 (by simp) ⟨Nat.zero_le _,by simp[jU.full]⟩ ?_
  rintro i ⟨hi1,hi2⟩
  have ha:=apb m (n0+i) hm (by omega)
  rw[uN]at ha
  (try simp only[RN,qA,qB,qC,qD,qE,qF])
  refine au rfl rfl ha ?_
  by_cases h13:aa8 m (n0+i)=13
  ·have aqD:m.full n0=n0+i:=by rw[hi2,abN h13]
   simp only[h13,bne_self_eq_false,RN,qA,qB,qC,qD,qE,qF]
   have hw:=aij (n0+i) (by omega)
   refine au rfl rfl hw ?_
   have w1:0≤wd (n0+i):=Int.tmod_nonneg 7 (by omega)
   have w2:wd (n0+i)<7:=Int.tmod_lt_of_pos _ (by decide)
   have e1:IntKind.i64.wrap (7 - wd (n0+i))=7 - wd (n0+i):=aG (by omega)
   have e2:IntKind.i64.wrap (n0+i+(7 - wd (n0+i)))=n0+i+(7 - wd (n0+i)):=aG (by omega)
   simp only[e1,e2,RN,qA,qB,qC,qD,qE,qF]
   have hsu:sunday c m y=n0+i+(7 - wd (n0+i)):=by simp only[sunday,←hn0,aqD]
   refine aoO [] (KI c m y) rfl hfz (anh y) (by rw[KI,hsu];rfl) ?_
   (try simp only[RN,qA,qB,qC,qD,qE,qF])
   rw[hsu]
  ·have e1:IntKind.i64.wrap (n0+i+1)=n0+((i+1:Nat):Int):=by rw[aG (by omega)];omega
   have aqi:(aa8 m (n0+i) !=13)=true:=by simp[h13]
   simp only[aqi,e1,RN,qA,qB,qC,qD,qE,qF]
   have hne:i≠j:=by rintro rfl;exact h13 hj1
   refine FV (μ:=fun i=>j - i) (a:=i) (E:=fun i:Nat=>⟨[(2, .ptr 10 0),(5, .ptr 11 0),(8, .d (.int .i64 (n0+i)))],⟨[x0,x1,x2,x3,x4,some [.iY []],x6,x7,x8,x9,some [.d (.int .i64 c.ep), .d (.slice false (c.cy.map ay)), .d (.int .i64 m.n), .d (.int .i64 m.d), .d (.int .i64 m.ad), .tsl 0 4001 0, .mref 5],some [.d (.int .i64 y), .d (.int .i64 3), .d (.int .i64 21)]],fz,[some ⟨1,(c.firsts 4002).map ay,4001,0⟩,A1,A2]⟩⟩) (P:=fun i=>i≤j∧m.full n0=DL m (45 - i) (n0+i)) (i+1) (by omega) rfl ⟨by omega,?_⟩
   rw[hi2,show 45 - i=(45 - (i+1))+1 by omega,DL,if_neg h13]
   congr 1
   omega
 ·refine Xa (KI c m y) (some (.int .i64 (sunday c m y))) rfl (aeT y) ?_ ?_
  ·simp only[KI,sN,aeT]
  simp only[KW,cond_true,Option.getD_some,Option.isSome_some,RN,qA,qB,qC,qD,qE,qF]
  rfl
end Go.Tel
namespace Go.Tel
open Go.Am
def aoQ (c:Cal)(m:jU):PV:= .agg [.d (.int .i64 c.ep), .d (.slice false (c.cy.map ay)), .d (.int .i64 m.n), .d (.int .i64 m.d), .d (.int .i64 m.ad), .tsl 0 4001 0, .mref 5]
def af8 (x0 x1:Option (List PV))(c:Cal)(m:jU)(i:Nat):St:=
 ⟨[(4, .ptr 4 0),(5, .ptr 6 0),(6, .d (.int .i64 (c.first i))),(14, .d (.int .i64 i))],
  ⟨[x0,x1,some [.d (.int .i64 c.ep), .d (.slice false (c.cy.map ay))],some [.d (.int .i64 m.n), .d (.int .i64 m.d), .d (.int .i64 m.ad)],
   some [.d (.int .i64 0), .d (.slice true []), .d (.int .i64 0), .d (.int .i64 0), .d (.int .i64 0), .d (.slice true []), .d (.map none)],
   some [.iY []],some [.d (.int .i64 c.ep), .d (.slice false (c.cy.map ay)), .d (.int .i64 m.n), .d (.int .i64 m.d), .d (.int .i64 m.ad),opC i, .mref 5]],[3,2,1,0],opA c i⟩⟩
theorem amn {x0 x1:Option (List PV)}(c:Cal)(m:jU)(hc:c.ok=true):SC C F.Dj [.d c.dv, .d m.dv] ⟨[x0,x1],[1,0],[]⟩ (fun p M=>p=aoQ c m∧∃x2 x3 x4 x6,(∀x∈[x2,x3,x4,x6],∀n k,7≤n→1≤k→((x.getD []).all fun p=>p.upto n k)=true)∧M=⟨[x0,x1,x2,x3,x4,some [.iY []],x6],[3,2,1,0],[some ⟨1,(c.firsts 4002).map ay,4001,0⟩]⟩) (fun _ _=>False):=by
 obtain⟨he,hl,hn⟩:=Cal.facts hc
 refine aF mixed rfl QJ ?_
 simp only[Ji,Jq,pR,uN,Ws,O7,vM,Option.map_none,eP,jr,Lr,RN,qA,qB,qC,qD,qE,qF]
 refine aT 4002 (fun i (_:Unit)=>af8 x0 x1 c m i) (fun i _=>True) 0 () (Nat.zero_le _) rfl trivial (fun i a h1 hix=> ?_) (fun a hix=> ?_)
 ·have h2:(i:Int)<4002:=by omega
  have h6:IntKind.i64.wrap ((i:Int)+1)=((i+1:Nat):Int):=by rw[aG (by omega)];omega
  have hb:=c.pW i
  have hb1:=c.pW (i+1)
  rw[Cal.first]at hb1
  have e1:IntKind.i64.wrap (c.first i+II (c.leap i))=c.first i+II (c.leap i):=aG (by omega)
  have hd:=af5 c m (c.firsts (i+1)) (some []) i (by omega) (fun n h=>by have:=hn n h;omega)
  rw[vS]at hd
  rcases i with _|i
  ·simp only[af8,opC,opA,h2,bM,dN,bn,vM,Option.map_none,eP,DV.strip,fits_int,forall_eq,RN,qA,qB,qC,qD,qE,qF]
   (repeat(refine And.intro (by first|assumption|rfl|(simp;done)|(simp;omega)) ?_))
   refine mg (by rfl) (by rfl) hd rfl ?_
   simp only[e1,h6,RN,qA,qB,qC,qD,qE,qF]
   exact lI (len:=4002) (i:=0) () h1 rfl trivial
  ·simp only[af8,opC,opA,h2,bM,dN,bn,vM,Option.map_none,eP,DV.strip,fits_int,forall_eq,RN,qA,qB,qC,qD,qE,qF]
   have hlen:(c.firsts (i+1)).length=i+1:=by simp[Cal.firsts]
   have hfs:(c.firsts (i+1)).map ay++ [.int .i64 (c.first (i+1))]=(c.firsts (i+1+1)).map ay:=by rw[c.Us (i+1),List.map_append];rfl
   rw[hfs,List.length_map,hlen]
   (repeat(refine And.intro (by first|assumption|rfl|(simp;done)|(simp;omega)) ?_))
   refine mg (wL (He rfl rfl)) rfl hd rfl ?_
   simp only[e1,h6,RN,qA,qB,qC,qD,qE,qF]
   exact lI (len:=4002) (i:=i+1) () h1 rfl trivial
 ·have hx:¬((4002:Nat):Int)<4002:=by omega
  simp only[af8,opC,opA,hx,bM,dN,bn,vM,Option.map_none,eP,jr,Lr,RN,qA,qB,qC,qD,qE,qF]
  refine⟨rfl,_,_,_,_,?_,rfl⟩
  intro x hx n k h1 h2
  have g1:5<n:=by omega
  have g2:0<k:=by omega
  rcases hx with rfl|rfl|rfl|rfl
  ·rfl
  ·rfl
  ·simp[PV.upto,g1,g2]
  ·simp[PV.upto,g1,g2]
theorem YX {M:Mem}{p:PV}{d y:DV}(h:datum M p=some d):dD M [p, .d y]=some [d,y]:=wL h
theorem aia (c:Cal)(m:jU)(y:Int)(hc:c.ok=true)(hy:0≤y∧y≤4000):0≤sunday c m y∧sunday c m y≤10000500:=by
 have h1:=aiZ c (c.firsts 4002) ⟨y,3,21⟩ (GV c hc) (by rw[DK];simp only;omega) (by simp only;omega)
 have h2:=Y9 m 45 (OY c (c.firsts 4002) ⟨y,3,21⟩)
 have w1:0≤wd (m.full (OY c (c.firsts 4002) ⟨y,3,21⟩)):=Int.tmod_nonneg 7 (by unfold jU.full;omega)
 have w2:wd (m.full (OY c (c.firsts 4002) ⟨y,3,21⟩))<7:=Int.tmod_lt_of_pos _ (by decide)
 simp only[sunday]
 unfold jU.full at*
 omega
def FZ (c:Cal)(m:jU)(y:Int)(f:Fs):Int:=if f.mv then sunday c m y+f.af else if uX c ⟨y,f.mo,f.da⟩then OY c (c.firsts 4002) ⟨y,f.mo,f.da⟩else -1
theorem Fs.facts {f:Fs}(h:f.bad=false):(f.mv=true→ -60≤f.af∧f.af≤60)∧(f.mv=false→(1≤f.mo∧f.mo≤12)∧1≤f.da∧f.da≤31):=by
 unfold Fs.bad at h
 cases hm:f.mv<;>simp[hm,inR]at h<;>simp<;>omega
theorem ahj {ex:Bool}{x0 x1 x2 x3 x4 x6:Option (List PV)}(c:Cal)(m:jU)(l:List Fs)(y:Int)(hc:c.ok=true)(hm:m.ok=true)(hy:0≤y∧y≤4000)(hl:l.length≤6)(hb:∀f∈l,f.bad=false)(hx:∀x∈[x0,x1,x2,x3,x4,x6],∀n k,7≤n→1≤k→((x.getD []).all fun p=>p.upto n k)=true):
  SC C F.uY [aoQ c m, .d (.slice ex (l.map Fs.dv)), .d (.int .i64 y)] ⟨[x0,x1,x2,x3,x4,some [.iY []],x6],[3,2,1,0],[some ⟨1,(c.firsts 4002).map ay,4001,0⟩]⟩
   (fun p M=>Qd M p 1 ((l.map (FZ c m y)).map ay) 0) (fun _ _=>False):=by
 obtain⟨he,hcl,hn⟩:=Cal.facts hc
 refine aF mixed rfl Kt ?_
 simp only[yF,yO,aoQ,jr,IV,List.length_map,RN,qA,qB,qC,qD,qE,qF]
 refine aT l.length (fun i (es:List (DV×DV))=>⟨[(2, .d (.int .i64 y)),(3, .ptr 7 0),(7, .tsl 2 i 0),(12, .d (.slice ex (l.map Fs.dv))),(13, .d (.int .i64 l.length)),(14, .d (.int .i64 i))],
   ⟨[x0,x1,x2,x3,x4,some [.iY es],x6,some [.d (.int .i64 c.ep), .d (.slice false (c.cy.map ay)), .d (.int .i64 m.n), .d (.int .i64 m.d), .d (.int .i64 m.ad), .tsl 0 4001 0, .mref 5]],[3,2,1,0],
    [some ⟨1,(c.firsts 4002).map ay,4001,0⟩,some ⟨1,[],0,0⟩,some ⟨1,((l.take i).map (FZ c m y)).map ay,i,0⟩]⟩⟩)
  (fun i es=>afL c m y es) 0 [] (Nat.zero_le _) rfl (.inl rfl) (fun i es h1 hix=> ?_) (fun es hix=> ?_)
 ·obtain⟨h2,h3,h6⟩:=rng h1 (by omega)
  have hf:=Fs.facts (hb _ (getD_mem h1))
  have htk:((l.take i).map (FZ c m y)).map ay++ [.int .i64 (FZ c m y (l.getD i default))]=((l.take (i+1)).map (FZ c m y)).map ay:=by
   rw[dQ h1];simp[ay]
  have hlt:(((l.take i).map (FZ c m y)).map ay).length≤6:=by simp;omega
  have ef:(FZ c m y (l.getD i default))=(if(l.getD i default).mv then sunday c m y+(l.getD i default).af else if uX c ⟨y,(l.getD i default).mo,(l.getD i default).da⟩then OY c (c.firsts 4002) ⟨y,(l.getD i default).mo,(l.getD i default).da⟩else -1):=rfl
  have hsb:=aia c m y hc hy
  have q0:=hx x0 (by simp) 8 3 (by omega) (by omega)
  have q1:=hx x1 (by simp) 8 3 (by omega) (by omega)
  have q2:=hx x2 (by simp) 8 3 (by omega) (by omega)
  have q3:=hx x3 (by simp) 8 3 (by omega) (by omega)
  have q4:=hx x4 (by simp) 8 3 (by omega) (by omega)
  have q6:=hx x6 (by simp) 8 3 (by omega) (by omega)
  simp only[h2,h3,h1,h6,Wn,getD_map,Int.toNat_natCast,List.length_map,RN,qA,qB,qC,qD,qE,qF]
  cases hmv:(l.getD i default).mv
  ·obtain⟨f1,f2⟩:=hf.2 hmv
   rw[hmv]at ef
   simp only[Bool.false_eq_true,if_false]at ef
   have hd:=ab2 c m (c.firsts 4002) (some es) ⟨y,(l.getD i default).mo,(l.getD i default).da⟩ (by omega) (fun n h=>by have:=hn n h;omega)
   rw[vS,Fg]at hd
   (try simp only[RN,qA,qB,qC,qD,qE,qF])
   refine mg (YX (He rfl rfl)) rfl hd rfl ?_
   cases hdt:uX c ⟨y,(l.getD i default).mo,(l.getD i default).da⟩
   ·rw[hdt]at ef
    simp only[Bool.false_eq_true,if_false]at ef
    simp only[DV.strip,fits_int,forall_eq,RN,qA,qB,qC,qD,qE,qF]
    (repeat(refine And.intro (by first|assumption|rfl|(simp;done)|(simp;omega)) ?_))
    rw[←ef,htk,h6]
    exact jR 8 3 es h1 rfl hix (by decide) (by decide) rfl (by simp only[List.take_succ_cons,List.take_zero,List.all_cons,q0,q1,q2,q3,q4,q6];rfl)
   ·rw[hdt]at ef
    simp only[if_true]at ef
    (try simp only[RN,qA,qB,qC,qD,qE,qF])
    have hda:=ai0 c m (c.firsts 4002) (some es) ⟨y,(l.getD i default).mo,(l.getD i default).da⟩ (by omega) (fun n h=>by have:=hn n h;omega) (GV c hc) (by rw[DK];simp only;omega) f1 f2
    rw[vS,Fg]at hda
    refine mg (YX (He rfl rfl)) rfl hda rfl ?_
    simp only[DV.strip,fits_int,forall_eq,RN,qA,qB,qC,qD,qE,qF]
    (repeat(refine And.intro (by first|assumption|rfl|(simp;done)|(simp;omega)) ?_))
    rw[←ef,htk,h6]
    exact jR 8 3 es h1 rfl hix (by decide) (by decide) rfl (by simp only[List.take_succ_cons,List.take_zero,List.all_cons,q0,q1,q2,q3,q4,q6];rfl)
  ·obtain⟨f1,f2⟩:=hf.1 hmv
   rw[hmv]at ef
   simp only[if_true]at ef
   have e1:IntKind.i64.wrap (sunday c m y+(l.getD i default).af)=sunday c m y+(l.getD i default).af:=aG (by omega)
   (try simp only[RN,qA,qB,qC,qD,qE,qF])
   obtain⟨⟨bs',fz',ar'⟩,hsc,g1,g2,g3⟩:=aib (x0:=x0) (x1:=x1) (x2:=x2) (x3:=x3) (x4:=x4) (x6:=x6) (x7:=some [.d (.int .i64 c.ep), .d (.slice false (c.cy.map ay)), .d (.int .i64 m.n), .d (.int .i64 m.d), .d (.int .i64 m.ad), .tsl 0 4001 0, .mref 5])
    (x8:=some [.d (.bool true), .d (.int .i64 (l.getD i default).mo), .d (.int .i64 (l.getD i default).da), .d (.int .i64 (l.getD i default).af)])
    (x9:=some [.d (.int .i64 y), .d (.int .i64 (l.getD i default).mo), .d (.int .i64 (l.getD i default).da)]) (fz:=[8,3,2,1,0])
    (A1:=some ⟨1,[],0,0⟩) (A2:=some ⟨1,((l.take i).map (FZ c m y)).map ay,i,0⟩) c m y es hc hm hy hix (by decide) (by decide)
   simp only at g1 g2 g3
   subst g2 g3
   refine⟨_,_,hsc,?_⟩
   simp only[e1,DV.strip,fits_int,forall_eq,RN,qA,qB,qC,qD,qE,qF]
   (repeat(refine And.intro (by first|assumption|rfl|(simp;done)|(simp;omega)) ?_))
   have g8:bs'.take 8=[x0,x1,x2,x3,x4,some [.iY (KI c m y)],x6,some [.d (.int .i64 c.ep), .d (.slice false (c.cy.map ay)), .d (.int .i64 m.n), .d (.int .i64 m.d), .d (.int .i64 m.ad), .tsl 0 4001 0, .mref 5]]:=by
    have:=congrArg (List.take 8) g1
    rw[List.take_take]at this
    exact this
   rw[←ef,htk,h6]
   exact jR 8 3 (KI c m y) h1 (by rw[g8];rfl) (.inr rfl) (by decide) (by decide) rfl (by rw[g8];simp only[List.all_cons,q0,q1,q2,q3,q4,q6];rfl)
 ·simp only[Int.lt_irrefl,RN,qA,qB,qC,qD,qE,qF]
  rw[List.take_length]
  exact⟨2,_,rfl,rfl⟩
end Go.Tel
namespace Go.Tel
open Go.Am
def zJ (c:Cal)(m:jU)(l:List Fs)(y:Int):DV:=
 if c.ok&&m.ok&&pV l&&inR y 0 4000 then .tup [.slice false ((l.map (FZ c m y)).map ay), .int .i64 0]else .tup [.slice true [], .int .i64 2]
theorem DJ {l:List Fs}(h:pV l=true):l.length≤6∧∀f∈l,f.bad=false:=by
 simp only[pV,Bool.and_eq_true,decide_eq_true_eq,Bool.not_eq_true']at h
 refine⟨h.1,fun f hf=> ?_⟩
 have:=h.2
 rw[List.any_eq_false]at this
 simpa using this f hf
theorem amZ {M:Mem}{v:PV}{sz st:Nat}{xs:List DV}{x y:DV}(h:Qd M v sz xs st)(he:y= .tup [.slice false xs,x]):datum M (afy (jd [v, .d x]) [v, .d x])=some y:=by
 subst he
 obtain⟨k,ver,rfl,h⟩:=h
 simp[jd,afy,datum,bW,eU,Mem.row,h]
theorem aa5 (c:Cal)(m:jU)(ex:Bool)(l:List Fs)(y:Int)(hcl:c.cy.length≤1000000):Pure C F.Fe [c.dv,m.dv, .slice ex (l.map Fs.dv), .int .i64 y] (.d (zJ c m l y)) []:=by
 refine gI (aF mixed rfl Xf ?_)
 simp only[LG,L9,pR,uN,RN,qA,qB,qC,qD,qE,qF]
 have hc1:=aan c hcl
 have hm1:=ajG m
 rw[pR]at hc1
 rw[uN]at hm1
 refine au rfl rfl hc1 ?_
 cases hc:c.ok
 ·(try simp only[RN,qA,qB,qC,qD,qE,qF])
  simp[zJ,hc,datum]
 ·(try simp only[RN,qA,qB,qC,qD,qE,qF])
  refine au rfl rfl hm1 ?_
  cases hm:m.ok
  ·(try simp only[RN,qA,qB,qC,qD,qE,qF])
   simp[zJ,hm,datum]
  ·(try simp only[RN,qA,qB,qC,qD,qE,qF])
   refine au rfl rfl (aa9 false l) ?_
   cases hf:pV l
   ·(try simp only[RN,qA,qB,qC,qD,qE,qF])
    simp[zJ,hf,datum]
   ·(try simp only[RN,qA,qB,qC,qD,qE,qF])
    refine au rfl rfl (aae y) ?_
    cases hy:inR y 0 4000
    ·(try simp only[RN,qA,qB,qC,qD,qE,qF])
     simp[zJ,hy,datum]
    ·(try simp only[RN,qA,qB,qC,qD,qE,qF])
     have hyb:0≤y∧y≤4000:=by simpa[inR]using hy
     obtain⟨hf1,hf2⟩:=DJ hf
     have ho:=amn (x0:=some [.d (.int .i64 c.ep), .d (.slice false (c.cy.map ay))]) (x1:=some [.d (.int .i64 m.n), .d (.int .i64 m.d), .d (.int .i64 m.ad)]) c m hc
     rw[pR,uN]at ho
     refine SC.mono ho ?_
     rintro p M ⟨rfl,x2,x3,x4,x6,hx,rfl⟩
     refine SC.mono (ahj c m l y hc hm hyb hf1 hf2 ?_) ?_
     ·intro x hx' n k h1 h2
      simp only[List.mem_cons,List.not_mem_nil,or_false]at hx'
      rcases hx' with rfl|rfl|h
      ·rfl
      ·rfl
      ·exact hx x (by simpa using h) n k h1 h2
     ·intro v M hv
      exact amZ hv (by simp[zJ,hc,hm,hf,hy])
def abz (c:Cal)(d:Dt):DV:=if c.ok&&uX c d then .tup [.int .i64 (OY c (c.firsts 4002) d), .int .i64 0]else .tup [.int .i64 0, .int .i64 2]
theorem Z9 {c:Cal}{d:Dt}(h:uX c d=true):(0≤d.y∧d.y≤4000)∧(1≤d.m∧d.m≤12)∧1≤d.d∧d.d≤31:=by
 simp only[uX,Bool.and_eq_true]at h
 obtain⟨⟨h1,h2⟩,h3⟩:=h
 simp only[inR,Bool.and_eq_true,decide_eq_true_eq,ge_iff_le]at h1 h2 h3
 have hi:(d.m - 1).toNat<(bP (c.leap d.y)).length:=by rw[zq];omega
 have:=vU _ _ (getD_mem hi)
 omega
theorem am6 (c:Cal)(d:Dt)(hcl:c.cy.length≤1000000):Pure C F.Qm [c.dv,d.dv] (.d (abz c d)) []:=by
 refine ah mixed rfl acz ?_
 simp only[UF,U4,pR,Fg,RN,qA,qB,qC,qD,qE,qF]
 have hc1:=aan c hcl
 rw[pR]at hc1
 refine au rfl rfl hc1 ?_
 cases hc:c.ok
 ·(try simp only[RN,qA,qB,qC,qD,qE,qF])
  simp[abz,hc]
 ·(try simp only[RN,qA,qB,qC,qD,qE,qF])
  obtain⟨he,hl,hn⟩:=Cal.facts hc
  have ho:=akc c ⟨0,0,0⟩ hc
  rw[pR,uN,vS]at ho
  refine au rfl rfl ho ?_
  (try simp only[RN,qA,qB,qC,qD,qE,qF])
  have hd:=ab2 c ⟨0,0,0⟩ (c.firsts 4002) (some []) d (by omega) (fun n h=>by have:=hn n h;omega)
  rw[vS,Fg]at hd
  refine au rfl rfl hd ?_
  cases hdo:uX c d
  ·(try simp only[RN,qA,qB,qC,qD,qE,qF])
   simp[abz,hdo]
  ·(try simp only[RN,qA,qB,qC,qD,qE,qF])
   obtain⟨k1,k2,k3⟩:=Z9 hdo
   have hda:=ai0 c ⟨0,0,0⟩ (c.firsts 4002) (some []) d (by omega) (fun n h=>by have:=hn n h;omega) (GV c hc) (by rw[DK];omega) k2 k3
   rw[vS,Fg]at hda
   refine au rfl rfl hda ?_
   (try simp only[RN,qA,qB,qC,qD,qE,qF])
   simp[abz,hdo,hc]
end Go.Tel
namespace Go.Tel
open Go.Am
section
variable {C:Ctx}{base:Nat}{bs:List (Option (List PV))}{fz:List Nat}{ar:List (Option Arr)}{L:PV→Mem→Prop}{KP:DV→Mem→Prop}
theorem anW {k k':IntKind}{a b:Int}:aj C base (.shf .shr) [.d (.int k a), .d (.int k' b)] ⟨bs,fz,ar⟩ L KP=(0≤b∧L (.d (.int k (a.fdiv (2 ^ min b.toNat k.bits)))) ⟨bs,fz,ar⟩):=propext ⟨id,id⟩
end
theorem al5 (n:Int):Pure C F.cmp_isNaN_int [.int .i64 n] (.d (.bool false)) []:=by
 refine ah mixed rfl Tf ?_
 simp only[Hf,H9,RN,qA,qB,qC,qD,qE,qF]
 simp
theorem ajH (n:Int):Pure C F.qV [.int .i64 n] (.d (.bool false)) []:=by
 refine ah mixed rfl N7 ?_
 simp only[BU,CP,RN,qA,qB,qC,qD,qE,qF]
 simp
theorem aoJ (a b:Int):Pure C F.cmp_Less_int [.int .i64 a, .int .i64 b] (.d (.bool (decide (a<b)))) []:=by
 refine ah mixed rfl Vs ?_
 simp only[JK,JY,RN,qA,qB,qC,qD,qE,qF]
 refine au rfl rfl (al5 _) ?_
 (try simp only[RN,qA,qB,qC,qD,qE,qF])
structure afE (xs:List Int) (n:Int) (p:Nat):Prop where
 le:p≤xs.length
 lt:∀k,k<p→xs.getD k default<n
 ge:∀k,p≤k→k<xs.length→n≤xs.getD k default
theorem am0 {n:Nat}(h:n<18446744073709551616):IntKind.u64.wrap (n:Int)=n:=by
 simp only[IntKind.wrap,IntKind.bits,IntKind.signed,Bool.false_and,Bool.false_eq_true,if_false]
 omega
theorem half (a b:Nat)(h:a<b)(hb:b≤1000000):IntKind.i64.wrap (IntKind.u64.wrap (IntKind.i64.wrap ((a:Int)+(b:Int)))|>.fdiv (2 ^ min (1:Int).toNat IntKind.u64.bits))=(((a+b) / 2:Nat):Int):=by
 rw[aG (n:=(a:Int)+b) (by omega)]
 have e1:IntKind.u64.wrap ((a:Int)+b)=(a:Int)+b:=by have:=am0 (n:=a+b) (by omega);simpa using this
 rw[e1]
 have e2:((a:Int)+b).fdiv (2 ^ min (1:Int).toNat IntKind.u64.bits)=(((a+b) / 2:Nat):Int):=by
  have:(2:Int) ^ min (1:Int).toNat IntKind.u64.bits=2:=by decide
  rw[this,Int.fdiv_eq_ediv_of_nonneg _ (by decide)];omega
 rw[e2]
 exact aG (by omega)
theorem agB (xs:List Int)(n:Int)(p:Nat)(hl:xs.length≤1000000)(hp:afE xs n p):Pure C F.slices_BinarySearch_int [.slice false (xs.map ay), .int .i64 n] (.d (.tup [.int .i64 p, .bool (decide (p<xs.length∧xs.getD p default=n))])) []:=by
 refine ah mixed rfl DY ?_
 simp only[ql,qx,List.length_map,RN,qA,qB,qC,qD,qE,qF]
 refine qR (fun q:Nat×Nat=>⟨[(0, .d (.slice false (xs.map ay))),(1, .d (.int .i64 n)),(6, .d (.int .i64 xs.length)),(7, .d (.int .i64 q.1)),(8, .d (.int .i64 q.2))],⟨[],[],[]⟩⟩)
  (fun q=>q.1≤p∧p≤q.2∧q.2≤xs.length) (fun q=>q.2 - q.1) (0,xs.length) rfl ⟨Nat.zero_le _,hp.le,Nat.le_refl _⟩ ?_
 rintro⟨a,b⟩ ⟨ha,hb,hbl⟩
 simp only at ha hb hbl⊢
 by_cases hab:a<b
 ·have hab':(a:Int)<b:=by omega
  have hh:=half a b hab (by omega)
  obtain⟨h,hh0⟩:∃h,h=(a+b) / 2:=⟨_,rfl⟩
  rw[←hh0]at hh
  have i1:h<xs.length:=by omega
  have i2:(0:Int)≤(h:Int):=by omega
  have i3:IntKind.i64.wrap ((h:Int)+1)=((h+1:Nat):Int):=by rw[aG (by omega)];omega
  simp only[hab',anW,hh,i1,i2,List.length_map,getD_map,Int.toNat_natCast,aV,RN,qA,qB,qC,qD,qE,qF]
  (repeat(refine And.intro (by first|assumption|rfl|(simp;done)|(simp;omega)) ?_))
  refine au rfl rfl (aoJ _ _) ?_
  by_cases hlt:xs.getD h default<n
  ·simp only[hlt,i3,RN,qA,qB,qC,qD,qE,qF]
   refine FV (μ:=fun q:Nat×Nat=>q.2 - q.1) (a:=(a,b)) (h+1,b) (by simp only;omega) rfl ⟨?_,hb,hbl⟩
   simp only
   refine Nat.lt_of_not_le fun hle=> ?_
   have:=hp.ge h hle i1
   omega
  ·simp only[hlt,RN,qA,qB,qC,qD,qE,qF]
   refine FV (μ:=fun q:Nat×Nat=>q.2 - q.1) (a:=(a,b)) (a,h) (by simp only;omega) rfl ⟨ha,?_,by simp only;omega⟩
   simp only
   refine Nat.le_of_not_lt fun hle=> ?_
   exact hlt (hp.lt h hle)
 ·have hab':¬(a:Int)<b:=by omega
  obtain rfl:a=p:=by omega
  by_cases hal:a<xs.length
  ·have j1:(a:Int)<(xs.length:Int):=by omega
   have j2:(0:Int)≤(a:Int):=by omega
   by_cases he:xs.getD a default=n
   ·simp only[hab',j1,j2,hal,List.length_map,getD_map,Int.toNat_natCast,aV,he,beq_self_eq_true,RN,qA,qB,qC,qD,qE,qF]
   ·have he':(xs.getD a default==n)=false:=beq_false_of_ne he
    simp only[hab',j1,j2,hal,List.length_map,getD_map,Int.toNat_natCast,aV,he,he',RN,qA,qB,qC,qD,qE,qF]
    refine au rfl rfl (ajH _) ?_
    (try simp only[RN,qA,qB,qC,qD,qE,qF])
  ·have j1:¬(a:Int)<(xs.length:Int):=by omega
   simp only[hab',j1,hal,false_and,RN,qA,qB,qC,qD,qE,qF]
theorem IL (c:Cal)(y:Nat):c.first y+365≤c.first (y+1)∧c.first (y+1)≤c.first y+366:=by
 rw[Cal.first,zI]
 split<;>omega
theorem IK (c:Cal){a b:Nat}(h:a≤b):c.first a≤c.first b:=by
 induction b with
 |zero=>
  obtain rfl:a=0:=by omega
  exact Int.le_refl _
 |succ b ih=>
  by_cases hab:a=b+1
  ·rw[hab];exact Int.le_refl _
  ·have:=ih (by omega)
   have:=IL c b
   omega
theorem pX (c:Cal){n k:Nat}(h:k<n):(c.firsts n).getD k default=c.first k:=by
 simp[Cal.firsts,List.getD,h]
theorem firstAt (c:Cal)(Y:Nat)(day:Int)(hY:Y≤4000)(h1:c.first Y≤day)(h2:day<c.first (Y+1)):afE (c.firsts 4002) day (if c.first Y=day then Y else Y+1):=by
 have hl:=DK c 4002
 refine⟨by rw[hl];split<;>omega,fun k hk=> ?_,fun k hk hk2=> ?_⟩
 ·split at hk
  ·rw[pX c (by omega)]
   have:=IK c (show k+1≤Y by omega)
   have:=IL c k
   omega
  ·rw[pX c (by omega)]
   have:=IK c (show k≤Y by omega)
   omega
 ·rw[hl]at hk2
  rw[pX c (by omega)]
  split at hk
  ·have:=IK c (show Y≤k by omega)
   omega
  ·have:=IK c (show Y+1≤k by omega)
   omega
def acp:List Int→Int→Int→Int×Int
 | [],_,_=>(0,0)
 |n::l,i,left=>if left<n then(i+1,left+1)else acp l (i+1) (left - n)
def V8 (c:Cal)(Y:Nat)(day:Int):Dt:=let r:=acp (bP (c.leap Y)) 0 (day - c.first Y);⟨Y,r.1,r.2⟩
theorem Qb:∀(l:List Int) (p:Int),jc l p=p+jc l 0
 | [],p=>by simp[jc]
 |x::l,p=>by
  rw[jc,jc,Qb l (p+x),Qb l (0+x)]
  omega
theorem anJ (c:Cal)(m:jU)(es:Option (List (DV×DV)))(Y:Nat)(day:Int)(hc:c.ok=true)(hY:Y≤4000)(h1:c.first Y≤day)(h2:day<c.first (Y+1)):Pure C F.zf [acQ c m (c.firsts 4002) es, .int .i64 day] (.d (V8 c Y day).dv) []:=by
 obtain⟨he,hl,hn⟩:=Cal.facts hc
 have hfl:=DK c 4002
 have hbd:=c.pW Y
 have hbd1:=c.pW (Y+1)
 refine gI (aF mixed rfl NQ ?_)
 simp only[BH,Cb,vS,List.length_map,RN,qA,qB,qC,qD,qE,qF]
 refine au rfl rfl (agB (c.firsts 4002) day _ (by omega) (firstAt c Y day hY h1 h2)) ?_
 have hh:(decide ((if c.first Y=day then Y else Y+1)<(c.firsts 4002).length∧(c.firsts 4002).getD (if c.first Y=day then Y else Y+1) default=day))=decide (c.first Y=day):=by
  by_cases he:c.first Y=day
  ·rw[if_pos he,hfl,pX c (by omega)];simp[he];omega
  ·rw[if_neg he,hfl,pX c (by omega)];simp[he];omega
 rw[hh]
 have eY:IntKind.i64.wrap (((Y+1:Nat):Int) - 1)=(Y:Int):=by rw[aG (by omega)];omega
 have eL:IntKind.i64.wrap (day - c.first Y)=day - c.first Y:=aG (by omega)
 have hyr:inR (Y:Int) 0 4000=true:=by simp[inR];omega
 have j1:(0:Int)≤(Y:Int):=by omega
 have j2:Y<(c.firsts 4002).length:=by omega
 have hlp:=aaq c m (c.firsts 4002) es Y (by omega) (fun n h=>by have:=hn n h;omega)
 rw[vS]at hlp
 have hml:=zq (c.leap Y)
 have hq:∃(q:Nat) (b:Bool),(if c.first Y=day then Y else Y+1)=q∧decide (c.first Y=day)=b∧((b=true∧q=Y)∨(b=false∧q=Y+1)):=by
  by_cases hq:c.first Y=day
  ·exact⟨Y,true,if_pos hq,decide_eq_true hq, .inl ⟨rfl,rfl⟩⟩
  ·exact⟨Y+1,false,if_neg hq,decide_eq_false hq, .inr ⟨rfl,rfl⟩⟩
 obtain⟨q,b,hq1,hq2,hq3⟩:=hq
 rw[hq1,hq2]
 have hfg:=pX c (show Y<4002 by omega)
 rcases hq3 with⟨rfl,hqe⟩|⟨rfl,hqe⟩<;>rw[hqe]
 all_goals
  simp only[eY,RN,qA,qB,qC,qD,qE,qF]
  refine au rfl rfl (aae _) ?_
  simp only[hyr,j1,j2,Int.toNat_natCast,getD_map,aV,hfg,eL,List.length_map,RN,qA,qB,qC,qD,qE,qF]
  refine au rfl rfl hlp ?_
  (try simp only[RN,qA,qB,qC,qD,qE,qF])
  refine au rfl rfl (QF _) ?_
  simp only[List.length_map,hml,RN,qA,qB,qC,qD,qE,qF]
  refine aT 12 (fun i (left:Int)=>⟨[(1, .d (.int .i64 day)),(4, .ptr 1 0),(5, .d (.int .i64 Y)),(7, .d (.int .i64 left)),(37, .d (.slice false ((bP (c.leap Y)).map ay))),(38, .d (.int .i64 ((12:Nat):Int))),(39, .d (.int .i64 i))],
    ⟨[some [.d (.int .i64 c.ep), .d (.slice false (c.cy.map ay)), .d (.int .i64 m.n), .d (.int .i64 m.d), .d (.int .i64 m.ad), .d (.slice false ((c.firsts 4002).map ay)), .d (.map es)],some [.d (.int .i64 0), .d (.int .i64 0), .d (.int .i64 0)]],[0],[]⟩⟩)
   (fun i left=>0≤left∧left≤400∧left<jc ((bP (c.leap Y)).drop i) 0∧acp (bP (c.leap Y)) 0 (day - c.first Y)=acp ((bP (c.leap Y)).drop i) i left) 0 (day - c.first Y) (Nat.zero_le _) rfl ⟨by omega,by have:=IL c Y;omega,by rw[Cal.first]at h2;simp only[List.drop_zero];unfold II at h2;omega,by simp⟩ (fun i left g1 hix=> ?_) (fun left hix=> ?_)
  ·obtain⟨k1,k2,k3,k4⟩:=hix
   have g2:(i:Int)<((12:Nat):Int):=by omega
   have g3:(0:Int)≤(i:Int):=by omega
   have g6:IntKind.i64.wrap ((i:Int)+1)=((i+1:Nat):Int):=by rw[aG (by omega)];omega
   have g4:i<(bP (c.leap Y)).length:=by omega
   have hmb:=vU _ _ (getD_mem g4)
   rw[drop_cons g4,acp]at k4
   rw[drop_cons g4,jc]at k3
   have hsh:=Qb ((bP (c.leap Y)).drop (i+1)) (0+(bP (c.leap Y)).getD i default)
   have u1:IntKind.i64.wrap (left+1)=left+1:=aG (by omega)
   have u2:IntKind.i64.wrap (left - (bP (c.leap Y)).getD i default)=left - (bP (c.leap Y)).getD i default:=aG (by omega)
   simp only[g2,g3,g4,g6,List.length_map,Int.toNat_natCast,getD_map,aV,RN,qA,qB,qC,qD,qE,qF]
   by_cases hlt:left<(bP (c.leap Y)).getD i default
   ·rw[if_pos hlt]at k4
    simp only[hlt,g6,u1,RN,qA,qB,qC,qD,qE,qF]
    rw[V8,k4,Fg]
    rfl
   ·rw[if_neg hlt]at k4
    simp only[hlt,g6,u2,RN,qA,qB,qC,qD,qE,qF]
    exact lI (len:=12) (i:=i) (left - (bP (c.leap Y)).getD i default) g1 rfl ⟨by omega,by omega,by omega,k4⟩
  ·obtain⟨k1,k2,k3,k4⟩:=hix
   rw[List.drop_eq_nil_of_le (by omega),jc]at k3
   omega
def BN:aB:=(.region false [⟨some 2,.alloc 0 [.int .i64 0],[],none,0⟩] 1 [0,2] [])
def BO:aB:=(.seq (.region false [⟨some 4,.mov,[.t 0],none,0⟩,⟨some 5,.je,[.t 4],none,0⟩] 0 [2] []) (.seq (.region false [⟨none,.store 1,[.t 2,.c (.int .i64 0)],none,0⟩] 0 [2] []) .ret))
def kP:aB:=(.block 0 (.seq (.region false [⟨some 7,.IX false,[.t 5,.c (.nilIface)],none,0⟩] 0 [0,5,7] []) (.cond (.t 7) (.region false [⟨some 1,.mov,[.t 5],none,0⟩] 0 [] []) (.seq (.region false [⟨some 8,.tas T.iQ (.agg [.nilIface]),[.t 5],none,0⟩,⟨some 9,.ext 1,[.t 8],none,0⟩,⟨some 10,.ext 0,[.t 8],none,0⟩] 0 [0,5,9,10] []) (.cond (.t 9) (.seq (.region false [⟨some 2,.alloc 0 [.nilIface],[],none,0⟩,⟨none,.store 1,[.t 2,.t 10],none,0⟩] 1 [0] []) (.region false [⟨none,.store 1,[.t 0,.c (.int .i64 7)],none,0⟩] 0 [] [])) (.seq (.region false [⟨some 11,.tas T.uP (.agg [.str ⟨#[]⟩]),[.t 5],none,0⟩,⟨some 12,.ext 1,[.t 11],none,0⟩,⟨some 13,.ext 0,[.t 11],none,0⟩] 0 [0,5,12,13] []) (.cond (.t 12) (.seq (.region false [⟨some 3,.alloc 0 [.str ⟨#[]⟩],[],none,0⟩,⟨none,.store 1,[.t 3,.t 13],none,0⟩] 1 [0] []) (.region false [⟨none,.store 1,[.t 0,.c (.int .i64 4)],none,0⟩] 0 [] [])) (.seq (.region false [⟨some 4,.mov,[.t 5],none,0⟩] 0 [4] []) (.region false [⟨some 6,.mov,[.t 4],none,0⟩,⟨none,.panic,[.t 6],none,0⟩] 0 [] [])))))))))
theorem QK:Z5 C.P F.ku F.SL 1 6 14 2 3 5 BN BO kP=true:=by kernel_rfl
end Go.Tel
