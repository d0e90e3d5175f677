/-
  Part 17 of the proof of a law of desks: an abstract machine over the model, contracts of functions, plain laws.
  Conditions: none.
-/
import Derived.Test.YtbefoehadfnkbaaGreatDoorJourneymanNilM13
import Derived.Test.YtbefoehadfnkbaaGreatDoorJourneymanNilM16
set_option linter.all false
set_option maxRecDepth 10000
open Nat renaming reduceBEq→qA,reduceAdd→qB,reduceSub→qC,reduceEqDiff→qD,reduceLT→qE,reduceLeDiff→qF
namespace Go.Tel
open Go.Am
def BJ:aB:=(.seq (.region false [oa 2 (.box 0) 0,on 4 (.alloc 1 [.int .i64 0,.int .i64 0,.int .i64 0]) []] 2 [1,2,4] [2]) (.seq (rg [oa 11 (.fld 5) 2,lo 12 11,mv 13 1,ob 14 (.ak F.slices_BinarySearch_int) 12 13,mv 10 14,oa 15 (.ext 0) 10,oa 16 (.ext 1) 10,mv 5 15,mv 6 16] 0 [1,2,4,5,6]) (.seq (.seq (rg [mv 17 6,oa 18 (.un .not) 17] 0 [1,2,4,5,18]) (.cond (.t 18) (rg [mv 19 5,oc 20 (.bin .sub) 19 (kI 1),mv 5 20] 0 [1,2,4,5]) .skip)) (.seq (.seq (rg [mv 21 5,oa 22 (.ak F.zV) 21,oa 23 (.un .not) 22] 0 [1,2,4,5,23]) (.cond (.t 23) (rg [mv 24 1,oa 25 (.build [.int .i64 0] [(0,1)]) 24,oa 26 (.mkI T.RI) 25,os .panic [.t 26] 0] 0 [1,2,4,5]) .skip)) (.seq (rg [mv 27 1,oa 28 (.fld 5) 2,lo 29 28,mv 30 5,ob 31 (.bF 1) 29 30,lo 32 31,ob 33 (.bin .sub) 27 32,mv 7 33] 0 [1,2,4,5,7]) (.seq (.seq (rg [oa 34 (.load true 7) 2,mv 35 5,ob 36 (.ak F.jS) 34 35,oa 37 (.ak F.vU) 36,oa 38 .len 37,mk 39 (kI 0)] 0 [1,4,5,7,37,38,39]) (.block 0 (.loop (.seq (rg [ob 40 (.bin .lss) 39 38] 0 [1,4,5,7,37,38,39,40]) (.seq (.cond (.t 40) .skip (.exit 0)) (.seq (.block 1 (.seq (rg [mv 41 39,ob 42 (.bF 1) 37 39,lo 43 42,mv 8 41,mv 9 43] 0 [1,4,5,7,8,9,37,38,39]) (.seq (.seq (rg [mv 44 7,mv 45 9,ob 46 (.bin .lss) 44 45] 0 [1,4,5,7,8,9,37,38,39,46]) (.cond (.t 46) (.seq (rg [mv 47 5,mv 48 8,oc 49 (.bin .add) 48 (kI 1),mv 50 7,oc 51 (.bin .add) 50 (kI 1),on 52 (.build [.int .i64 0,.int .i64 0,.int .i64 0] [(0,1),(1,1),(2,1)]) [.t 47,.t 49,.t 51],os (.store 3) [.t 4,.t 52] 0] 0 [4]) .ret) .skip)) (rg [mv 53 7,mv 54 9,ob 55 (.bin .sub) 53 54,mv 7 55] 0 [1,4,5,7,37,38,39])))) (rg [oc 56 (.bin .add) 39 (kI 1),mv 39 56] 0 [1,4,5,7,37,38,39]))))))) (rg [mv 57 1,oa 58 (.build [.int .i64 0] [(0,1)]) 57,oa 59 (.mkI T.RI) 58,os .panic [.t 59] 0] 0 [4])))))))
def Ce:List aN:=[.cell 4 true 3]
theorem Nw:aC C.P F.zi 2 BJ Ce=true:=by kernel_rfl
def Uk:aB:=(.seq (.region false [oa 2 (.box 0) 0,mk 4 (kI 0)] 1 [1,2] [2]) (.seq (rg [mv 6 1,oc 7 (.bin .add) 6 (kI 1),oa 8 (.fld 1) 2,lo 9 8,ob 10 (.bin .mul) 7 9,oc 11 (.bin .sub) 10 (kI 1),oa 12 (.fld 2) 2,lo 13 12,ob 14 (.bin .sub) 11 13,oa 15 (.fld 0) 2,lo 16 15,ob 17 (.ak F.ML) 14 16,mv 5 17] 0 [1,2,5]) (.seq (rg [mv 18 1,mv 19 5,oa 20 (.fld 0) 2,lo 21 20,ob 22 (.bin .mul) 19 21,oa 23 (.fld 2) 2,lo 24 23,ob 25 (.bin .add) 22 24,oa 26 (.fld 1) 2,lo 27 26,ob 28 (.ak F.ML) 25 27,ob 29 (.bin .sub) 18 28,mv 4 29] 0 [4]) .ret)))
def UC:List aN:=[.tmp 4]
theorem abu:aC C.P F.VB 2 Uk UC=true:=by kernel_rfl
def JB:aB:=(.seq (rg [mk 2 (kI 0)] 0 [0]) (.seq (rg [mv 3 0,oc 4 (.bin .add) 3 (kI 4),oc 5 (.bin .rem) 4 (kI 7),mv 2 5] 0 [2]) .ret))
def JK:List aN:=[.tmp 2]
theorem UY:aC C.P F.Ir 1 JB JK=true:=by kernel_rfl
def QA:aB:=(.seq (rg [mk 4 (kI 0)] 0 [0,1]) (.seq (rg [mv 6 0,mv 7 1,ob 8 (.bin .quo) 6 7,mv 5 8] 0 [0,1,5]) (.seq (.seq (rg [mv 9 5,mv 10 1,ob 11 (.bin .mul) 9 10,mv 12 0,ob 13 (.bin .gtr) 11 12] 0 [5,13]) (.cond (.t 13) (rg [mv 14 5,oc 15 (.bin .sub) 14 (kI 1),mv 5 15] 0 [5]) .skip)) (.seq (rg [mv 16 5,mv 4 16] 0 [4]) .ret))))
def QM:List aN:=[.tmp 4]
theorem ZG:aC C.P F.ML 2 QA QM=true:=by kernel_rfl
end Go.Tel
namespace Go.Tel
open Go.Am
theorem NP (n l h:Int):Pure C F.nC [.int .i64 n, .int .i64 l, .int .i64 h] (.d (.bool (inR n l h))) []:=by
 refine ah mixed rfl ad6 ?_
 by_cases h1:n≥l<;>simp only[h1,inR,WM,Xb,Bool.false_and,RN,qA,qB,qC,qD,qE,qF]
theorem Zh (n:Int):Pure C F.zV [.int .i64 n] (.d (.bool (inR n 0 4000))) []:=by
 refine ah mixed rfl Wx ?_
 simp only[Ll,LQ,RN,qA,qB,qC,qD,qE,qF]
 repeat' first
  |(refine au rfl rfl (NP _ _ _) ?_;try simp only[RN,qA,qB,qC,qD,qE,qF])
  |(refine bJ (by rfl) (fun hB=> ?_) (fun hB=> ?_)<;>simp only[hB,RN,qA,qB,qC,qD,qE,qF])
  |(refine bZ (by rfl) (fun hB=> ?_) (fun hB=> ?_)<;>simp only[hB,RN,qA,qB,qC,qD,qE,qF])
 all_goals(first|(simp only[inR, *,Bool.not_true,Bool.not_false,Bool.not_not,Bool.and_true,Bool.true_and,Bool.and_false,Bool.false_and,Bool.or_true,Bool.true_or,Bool.or_false,Bool.false_or,Bool.and_self,Bool.or_self,if_true,if_false,reduceIte,cond_true,cond_false,Bool.false_eq_true];done)|(simp_all[inR];done)|(simp_all[inR];omega))
theorem ahU (n:Int):Pure C F.OG [.int .i64 n] (.d (.bool (inR n 0 2000000))) []:=by
 refine ah mixed rfl XO ?_
 simp only[NY,Oj,RN,qA,qB,qC,qD,qE,qF]
 repeat' first
  |(refine au rfl rfl (NP _ _ _) ?_;try simp only[RN,qA,qB,qC,qD,qE,qF])
  |(refine bJ (by rfl) (fun hB=> ?_) (fun hB=> ?_)<;>simp only[hB,RN,qA,qB,qC,qD,qE,qF])
  |(refine bZ (by rfl) (fun hB=> ?_) (fun hB=> ?_)<;>simp only[hB,RN,qA,qB,qC,qD,qE,qF])
 all_goals(first|(simp only[inR, *,Bool.not_true,Bool.not_false,Bool.not_not,Bool.and_true,Bool.true_and,Bool.and_false,Bool.false_and,Bool.or_true,Bool.true_or,Bool.or_false,Bool.false_or,Bool.and_self,Bool.or_self,if_true,if_false,reduceIte,cond_true,cond_false,Bool.false_eq_true];done)|(simp_all[inR];done)|(simp_all[inR];omega))
def Zf:List Int→Int→Bool
 | [],_=>true
 |n::l,last=>inR n (last+1) 1000&&Zf l n
def Cal.ok (c:Cal):Bool:=inR c.ep 0 1000&&inR c.cy.length 1 3&&Zf c.cy 1
theorem Vy:∀{l:List Int} {last:Int},1≤last→Zf l last=true→∀n∈l,2≤n∧n≤1000
 | [],_,_,_,n,hn=>by cases hn
 |x::l,last,h1,h,n,hn=>by
  simp only[Zf,inR,Bool.and_eq_true,decide_eq_true_eq,ge_iff_le]at h
  rcases List.mem_cons.1 hn with rfl|hn
  ·omega
  ·exact Vy (last:=x) (by omega) h.2 n hn
theorem Cal.facts {c:Cal}(h:c.ok=true):(0≤c.ep∧c.ep≤1000)∧(1≤c.cy.length∧c.cy.length≤3)∧∀n∈c.cy,2≤n∧n≤1000:=by
 simp only[Cal.ok,Bool.and_eq_true]at h
 obtain⟨⟨h1,h2⟩,h3⟩:=h
 simp only[inR,Bool.and_eq_true,decide_eq_true_eq,ge_iff_le]at h1 h2
 exact⟨h1,by omega,Vy (by omega) h3⟩
theorem Zp (c:Cal)(hl:c.cy.length≤1000000):Pure C F.nX [c.dv] (.d (.bool c.ok)) []:=by
 refine ah mixed rfl OT ?_
 simp only[DX,Eh,pW,RN,qA,qB,qC,qD,qE,qF]
 repeat' first
  |(refine au rfl rfl (NP _ _ _) ?_;try simp only[List.length_map,RN,qA,qB,qC,qD,qE,qF])
  |(refine bJ (by rfl) (fun hB=> ?_) (fun hB=> ?_)<;>simp only[hB,List.length_map,RN,qA,qB,qC,qD,qE,qF])
  |(refine bZ (by rfl) (fun hB=> ?_) (fun hB=> ?_)<;>simp only[hB,List.length_map,RN,qA,qB,qC,qD,qE,qF])
 any_goals (simp_all[Cal.ok];done)
 have hok:c.ok=Zf c.cy 1:=by simp_all[Cal.ok]
 rw[hok]
 refine aX c.cy.length (fun i (last:Int)=>⟨[(3, .d (.int .i64 last)),(18, .d (.slice false (c.cy.map ay))),(19, .d (.int .i64 c.cy.length)),(20, .d (.int .i64 i))],⟨[some [.d (.int .i64 c.ep), .d (.slice false (c.cy.map ay))]],[0],[]⟩⟩)
  (fun i last=>1≤last∧last≤1000∧Zf c.cy 1=Zf (c.cy.drop i) last) 0 1 (Nat.zero_le _) rfl ⟨by omega,by omega,rfl⟩ (fun i last h1 hix=> ?_) (fun last hix=> ?_)
 ·obtain⟨h2,h3,h6⟩:=rng h1 hl
  obtain⟨hl1,hl2,hix⟩:=hix
  rw[drop_cons h1,Zf]at hix
  have e1:IntKind.i64.wrap (last+1)=last+1:=aG (by omega)
  simp only[h2,h3,h1,h6,aW,getD_map,Int.toNat_natCast,List.length_map,e1,RN,qA,qB,qC,qD,qE,qF]
  refine au rfl rfl (NP _ _ _) ?_
  cases hc:inR (c.cy.getD i default) (last+1) 1000
  ·(try simp only[RN,qA,qB,qC,qD,qE,qF])
   rw[hix,hc];rfl
  ·simp only[h6,RN,qA,qB,qC,qD,qE,qF]
   rw[hc,Bool.true_and]at hix
   have:last+1≤c.cy.getD i default∧c.cy.getD i default≤1000:=by simpa[inR]using hc
   exact rD (c.cy.getD i default) h1 rfl ⟨by omega,by omega,hix⟩ (by simp) (by simp) rfl rfl
 ·obtain⟨_,_,hix⟩:=hix
  rw[List.drop_length,Zf]at hix
  simp only[Int.lt_irrefl,hix,RN,qA,qB,qC,qD,qE,qF]
def abG (c:Cal)(m:jU)(fs:List Int)(es:Option (List (DV×DV))):DV:= .agg [.int .i64 c.ep, .slice false (c.cy.map ay), .int .i64 m.n, .int .i64 m.d, .int .i64 m.ad, .slice false (fs.map ay), .map es]
theorem vV {c:Cal}{m:jU}{fs:List Int}{es:Option (List (DV×DV))}:abG c m fs es= .agg [.int .i64 c.ep, .slice false (c.cy.map ay), .int .i64 m.n, .int .i64 m.d, .int .i64 m.ad, .slice false (fs.map ay), .map es]:=by rw[abG]
def V7:List Int→Int→Bool→Bool
 | [],_,odd=>odd
 |n::l,y,odd=>V7 l y (if y.tmod n==0 then !odd else odd)
def Cal.leap (c:Cal)(y:Int):Bool:=V7 c.cy y false
theorem Zu (c:Cal)(m:jU)(fs:List Int)(es:Option (List (DV×DV)))(y:Int)(hl:c.cy.length≤1000000)(hn:∀n∈c.cy,n≠0):Pure C F.jS [abG c m fs es, .int .i64 y] (.d (.bool (c.leap y))) []:=by
 refine ah mixed rfl Nz ?_
 simp only[BL,Cj,vV,List.length_map,RN,qA,qB,qC,qD,qE,qF]
 refine aX c.cy.length (fun i (odd:Bool)=>⟨[(1, .d (.int .i64 y)),(5, .d (.bool odd)),(10, .d (.slice false (c.cy.map ay))),(11, .d (.int .i64 c.cy.length)),(12, .d (.int .i64 i))],
   ⟨[some [.d (.int .i64 c.ep), .d (.slice false (c.cy.map ay)), .d (.int .i64 m.n), .d (.int .i64 m.d), .d (.int .i64 m.ad), .d (.slice false (fs.map ay)), .d (.map es)]],[0],[]⟩⟩)
  (fun i odd=>c.leap y=V7 (c.cy.drop i) y odd) 0 false (Nat.zero_le _) rfl rfl (fun i odd h1 hix=> ?_) (fun odd hix=> ?_)
 ·obtain⟨h2,h3,h6⟩:=rng h1 hl
  rw[drop_cons h1,V7]at hix
  have hn1:=hn _ (getD_mem h1)
  simp only[h2,h3,h1,aW,getD_map,Int.toNat_natCast,List.length_map,hn1,RN,qA,qB,qC,qD,qE,qF]
  cases hc:(y.tmod (c.cy.getD i default)==0)
  ·rw[hc]at hix
   simp only[h6,RN,qA,qB,qC,qD,qE,qF]
   exact rD odd h1 rfl hix (by simp) (by simp) rfl rfl
  ·rw[hc]at hix
   simp only[h6,RN,qA,qB,qC,qD,qE,qF]
   exact rD (!odd) h1 rfl hix (by simp) (by simp) rfl rfl
 ·rw[List.drop_length,V7]at hix
  simp only[Int.lt_irrefl,hix,RN,qA,qB,qC,qD,qE,qF]
def bP (leap:Bool):List Int:=[31,if leap then 29 else 28,31,30,31,30,31,31,30,31,30,31]
def mon0:List DV:=[.int .i64 31, .int .i64 28, .int .i64 31, .int .i64 30, .int .i64 31, .int .i64 30, .int .i64 31, .int .i64 31, .int .i64 30, .int .i64 31, .int .i64 30, .int .i64 31]
theorem ak6 {C:Ctx}{K:PV→Mem→Prop}{KP:DV→Mem→Prop}(h:K (.tsl 0 0 0) ⟨[],[],[some ⟨1,mon0,0,1⟩]⟩):
  aj C 0 (.qj 1 [.int .i64 0, .int .i64 0, .int .i64 0, .int .i64 0, .int .i64 0, .int .i64 0, .int .i64 0, .int .i64 0, .int .i64 0, .int .i64 0, .int .i64 0, .int .i64 0] [0,1,2,3,4,5,6,7,8,9,10,11]) (mon0.map .d) ⟨[],[],[]⟩ K KP:=by
 simp only[aj,mon0,List.map_cons,List.map_nil,je]
 exact⟨by decide,List.all_eq_true.1 (rfl:mon0.all (DV.fits 1)=true),h⟩
theorem an3:∀b:Bool,(bP b).map ay=bif b then mon0.set 1 (.int .i64 29)else mon0
 |true=>rfl
 |false=>rfl
theorem Ql (leap:Bool):Pure C F.vU [.bool leap] (.d (.slice false ((bP leap).map ay))) []:=by
 refine gJ (aF mixed rfl Wy ?_)
 simp only[Lm,LU,RN,qA,qB,qC,qD,qE,qF]
 refine ak6 ?_
 rw[an3]
 cases leap
 ·(try simp only[RN,qA,qB,qC,qD,qE,qF])
  rfl
 ·(try simp only[RN,qA,qB,qC,qD,qE,qF])
  refine⟨by decide,by decide,Md (ds:=[.int .i64 29]) rfl rfl (by decide) rfl rfl (by decide) rfl⟩
end Go.Tel
namespace Go.Tel
open Go.Am
theorem ah0 (l:List Int)(hl:l.length≤1000000)(hx:∀x∈l,0≤x)(hb:jd l 0≤9223372036854775807):Pure C F.PZ [.slice false (l.map ay)] (.d (.int .i64 (jd l 0))) []:=by
 refine ah mixed rfl abv ?_
 simp only[Ul,UD,List.length_map,RN,qA,qB,qC,qD,qE,qF]
 refine aX l.length (fun i (p:Int)=>⟨[(3, .d (.int .i64 p)),(6, .d (.slice false (l.map ay))),(7, .d (.int .i64 l.length)),(8, .d (.int .i64 i))],⟨[],[],[]⟩⟩)
  (fun i p=>0≤p∧jd l 0=jd (l.drop i) p) 0 0 (Nat.zero_le _) rfl ⟨by omega,rfl⟩ (fun i p h1 hix=> ?_) (fun p hix=> ?_)
 ·obtain⟨h2,h3,h6⟩:=rng h1 hl
  obtain⟨hp,hix⟩:=hix
  rw[drop_cons h1,jd]at hix
  have hx1:=hx _ (getD_mem h1)
  have q2:=Dp (l.drop (i+1)) (p+l.getD i default) (fun y hy=>hx y (List.mem_of_mem_drop hy))
  have e1:IntKind.i64.wrap (p+l.getD i default)=p+l.getD i default:=aG (by omega)
  simp only[h2,h3,h1,h6,aW,getD_map,Int.toNat_natCast,List.length_map,e1,RN,qA,qB,qC,qD,qE,qF]
  exact rD (p+l.getD i default) h1 rfl ⟨by omega,hix⟩ (by simp) (by simp) rfl rfl
 ·obtain⟨hp,hix⟩:=hix
  rw[List.drop_length,jd]at hix
  simp only[Int.lt_irrefl,hix,RN,qA,qB,qC,qD,qE,qF]
def Iu (b:Bool):Int:=jd (bP b) 0
theorem zL:∀b:Bool,Iu b=if b then 366 else 365
 |true=>rfl
 |false=>rfl
theorem vX:∀(b:Bool),∀x∈bP b,28≤x∧x≤31:=by
 intro b x hx
 cases b<;>simp[bP]at hx<;>omega
theorem zy:∀(b:Bool),(bP b).length=12
 |true=>rfl
 |false=>rfl
theorem ae2 (c:Cal)(m:jU)(fs:List Int)(es:Option (List (DV×DV)))(y:Int)(hl:c.cy.length≤1000000)(hn:∀n∈c.cy,n≠0):Pure C F.zk [abG c m fs es, .int .i64 y] (.d (.int .i64 (Iu (c.leap y)))) []:=by
 refine ah mixed rfl Ny ?_
 simp only[BK,Ci,vV,List.length_map,RN,qA,qB,qC,qD,qE,qF]
 have h1:=Zu c m fs es y hl hn
 rw[vV]at h1
 refine au rfl rfl h1 ?_
 (try simp only[RN,qA,qB,qC,qD,qE,qF])
 refine au rfl rfl (Ql _) ?_
 (try simp only[RN,qA,qB,qC,qD,qE,qF])
 have hs:jd (bP (c.leap y)) 0≤366:=by have:=zL (c.leap y);unfold Iu at this;rw[this];split<;>decide
 refine au rfl rfl (ah0 (bP (c.leap y)) (by rw[zy];decide) (fun x hx=>by have:=vX _ x hx;omega) (by omega)) ?_
 simp only[Iu,RN,qA,qB,qC,qD,qE,qF]
def wd (n:Int):Int:=(n+4).tmod 7
theorem ahe (n:Int)(h:0≤n∧n≤1000000000):Pure C F.Ir [.int .i64 n] (.d (.int .i64 (wd n))) []:=by
 have e1:IntKind.i64.wrap (n+4)=n+4:=aG (by omega)
 have b1:0≤(n+4).tmod 7:=Int.tmod_nonneg 7 (by omega)
 have b2:(n+4).tmod 7<7:=Int.tmod_lt_of_pos _ (by decide)
 have e2:IntKind.i64.wrap ((n+4).tmod 7)=(n+4).tmod 7:=aG (by omega)
 refine ah mixed rfl UY ?_
 simp only[JB,JK,e1,e2,wd,RN,qA,qB,qC,qD,qE,qF]
 simp
def mJ (n b:Int):Int:=if n.tdiv b*b>n then n.tdiv b - 1 else n.tdiv b
theorem UO (n b:Int):(n.tdiv b*b).natAbs≤n.natAbs:=by
 have h:=Int.mul_tdiv_add_tmod n b
 rw[Int.natAbs_mul,Int.natAbs_tdiv]
 exact Nat.div_mul_le_self _ _
theorem ahY (n b:Int)(h:n.natAbs≤1000000000000000000)(hb:b≠0):Pure C F.ML [.int .i64 n, .int .i64 b] (.d (.int .i64 (mJ n b))) []:=by
 have b1:=Nq n b
 have b2:=UO n b
 have e1:IntKind.i64.wrap (n.tdiv b)=n.tdiv b:=aG (by omega)
 have e2:IntKind.i64.wrap (n.tdiv b*b)=n.tdiv b*b:=aG (by omega)
 have e3:IntKind.i64.wrap (n.tdiv b - 1)=n.tdiv b - 1:=aG (by omega)
 refine ah mixed rfl ZG ?_
 simp only[QA,QM,e1,e2,hb,RN,qA,qB,qC,qD,qE,qF]
 by_cases hq:n.tdiv b*b>n
 ·simp only[hq,e3,mJ,if_true,RN,qA,qB,qC,qD,qE,qF]
 ·simp only[hq,mJ,if_false,RN,qA,qB,qC,qD,qE,qF]
theorem aeK (n b:Int)(hb:b≠0):(mJ n b).natAbs≤n.natAbs+1:=by
 have:=Nq n b
 unfold mJ
 split<;>omega
theorem ahZ (n b:Int):(mJ n b*b).natAbs≤n.natAbs+b.natAbs:=by
 have:=UO n b
 unfold mJ
 split
 ·rw[Int.sub_mul];omega
 ·omega
def jU.ok (m:jU):Bool:=inR m.d 1 1000&&inR m.n (29*m.d) (30*m.d)&&inR m.ad 0 (m.n - 1)
theorem jU.facts {m:jU}(h:m.ok=true):(1≤m.d∧m.d≤1000)∧(29*m.d≤m.n∧m.n≤30*m.d)∧0≤m.ad∧m.ad<m.n:=by
 simp only[jU.ok,inR,Bool.and_eq_true,decide_eq_true_eq,ge_iff_le]at h
 omega
theorem aiB (m:jU):Pure C F.Kv [m.dv] (.d (.bool m.ok)) []:=by
 refine ah mixed rfl Wv ?_
 simp only[Lj,LP,uP,RN,qA,qB,qC,qD,qE,qF]
 refine au rfl rfl (NP _ _ _) ?_
 cases h1:inR m.d 1 1000
 ·(try simp only[RN,qA,qB,qC,qD,qE,qF])
  simp[jU.ok,h1]
 ·have hd:1≤m.d∧m.d≤1000:=by simpa[inR]using h1
  have e1:IntKind.i64.wrap (29*m.d)=29*m.d:=aG (by omega)
  have e2:IntKind.i64.wrap (30*m.d)=30*m.d:=aG (by omega)
  simp only[e1,e2,RN,qA,qB,qC,qD,qE,qF]
  refine au rfl rfl (NP _ _ _) ?_
  cases h2:inR m.n (29*m.d) (30*m.d)
  ·(try simp only[RN,qA,qB,qC,qD,qE,qF])
   simp[jU.ok,h2]
  ·have hn:29*m.d≤m.n∧m.n≤30*m.d:=by simpa[inR]using h2
   have e3:IntKind.i64.wrap (m.n - 1)=m.n - 1:=aG (by omega)
   simp only[e3,RN,qA,qB,qC,qD,qE,qF]
   refine au rfl rfl (NP _ _ _) ?_
   (try simp only[RN,qA,qB,qC,qD,qE,qF])
   simp[jU.ok,h1,h2]
def aah (m:jU)(n:Int):Int:=n - mJ (mJ ((n+1)*m.d - 1 - m.ad) m.n*m.n+m.ad) m.d
theorem anX (m:jU)(n:Int)(hm:m.ok=true)(h:0≤n∧n≤100000000):Pure C F.VB [m.dv, .int .i64 n] (.d (.int .i64 (aah m n))) []:=by
 obtain⟨hd,hn,ha⟩:=m.facts hm
 have p1:0≤(n+1)*m.d∧(n+1)*m.d≤100000001*1000:=⟨Int.mul_nonneg (by omega) (by omega),Int.mul_le_mul (by omega) hd.2 (by omega) (by omega)⟩
 have q1:=aeK ((n+1)*m.d - 1 - m.ad) m.n (by omega)
 have q2:=ahZ ((n+1)*m.d - 1 - m.ad) m.n
 have q3:=aeK (mJ ((n+1)*m.d - 1 - m.ad) m.n*m.n+m.ad) m.d (by omega)
 have e1:IntKind.i64.wrap (n+1)=n+1:=aG (by omega)
 have e2:IntKind.i64.wrap ((n+1)*m.d)=(n+1)*m.d:=aG (by omega)
 have e3:IntKind.i64.wrap ((n+1)*m.d - 1)=(n+1)*m.d - 1:=aG (by omega)
 have e4:IntKind.i64.wrap ((n+1)*m.d - 1 - m.ad)=(n+1)*m.d - 1 - m.ad:=aG (by omega)
 have e5:IntKind.i64.wrap (mJ ((n+1)*m.d - 1 - m.ad) m.n*m.n)=mJ ((n+1)*m.d - 1 - m.ad) m.n*m.n:=aG (by omega)
 have e6:IntKind.i64.wrap (mJ ((n+1)*m.d - 1 - m.ad) m.n*m.n+m.ad)=mJ ((n+1)*m.d - 1 - m.ad) m.n*m.n+m.ad:=aG (by omega)
 have e7:IntKind.i64.wrap (n - mJ (mJ ((n+1)*m.d - 1 - m.ad) m.n*m.n+m.ad) m.d)=n - mJ (mJ ((n+1)*m.d - 1 - m.ad) m.n*m.n+m.ad) m.d:=aG (by omega)
 refine ah mixed rfl abu ?_
 simp only[Uk,UC,uP,e1,e2,e3,e4,RN,qA,qB,qC,qD,qE,qF]
 refine au rfl rfl (ahY _ _ (by omega) (by omega)) ?_
 simp only[e5,e6,RN,qA,qB,qC,qD,qE,qF]
 refine au rfl rfl (ahY _ _ (by omega) (by omega)) ?_
 simp only[e7,aah,RN,qA,qB,qC,qD,qE,qF]
def uZ (c:Cal)(d:Dt):Bool:=inR d.y 0 4000&&inR d.m 1 12&&inR d.d 1 ((bP (c.leap d.y)).getD (d.m - 1).toNat default)
theorem aa3 (c:Cal)(m:jU)(fs:List Int)(es:Option (List (DV×DV)))(d:Dt)(hl:c.cy.length≤1000000)(hn:∀n∈c.cy,n≠0):Pure C F.nD [abG c m fs es,d.dv] (.d (.bool (uZ c d))) []:=by
 refine ah mixed rfl JY ?_
 simp only[yI,yR,vV,E8,List.length_map,RN,qA,qB,qC,qD,qE,qF]
 refine au rfl rfl (Zh _) ?_
 cases h1:inR d.y 0 4000
 ·(try simp only[RN,qA,qB,qC,qD,qE,qF])
  simp[uZ,h1]
 ·(try simp only[RN,qA,qB,qC,qD,qE,qF])
  refine au rfl rfl (NP _ _ _) ?_
  cases h2:inR d.m 1 12
  ·(try simp only[RN,qA,qB,qC,qD,qE,qF])
   simp[uZ,h2]
  ·have hm:1≤d.m∧d.m≤12:=by simpa[inR]using h2
   have e1:IntKind.i64.wrap (d.m - 1)=d.m - 1:=aG (by omega)
   simp only[e1,RN,qA,qB,qC,qD,qE,qF]
   have h3:=Zu c m fs es d.y hl hn
   rw[vV]at h3
   refine au rfl rfl h3 ?_
   (try simp only[RN,qA,qB,qC,qD,qE,qF])
   refine au rfl rfl (Ql _) ?_
   have i1:(0:Int)≤d.m - 1:=by omega
   have i2:(d.m - 1).toNat<(bP (c.leap d.y)).length:=by rw[zy];omega
   simp only[e1,i1,i2,List.length_map,getD_map,aW,RN,qA,qB,qC,qD,qE,qF]
   refine au rfl rfl (NP _ _ _) ?_
   simp only[uZ,h1,h2,RN,qA,qB,qC,qD,qE,qF]
def OC (c:Cal)(fs:List Int)(d:Dt):Int:=fs.getD d.y.toNat default+jd ((bP (c.leap d.y)).take (d.m - 1).toNat) 0+d.d - 1
theorem TA:∀(l:List Int) (n:Nat) (p:Int),(∀x∈l,0≤x)→jd (l.take n) p≤jd l p
 | [],n,p,_=>by rw[List.take_nil];exact Int.le_refl _
 |x::l,0,p,h=>Dp _ _ h
 |x::l,n+1,p,h=>by
  rw[List.take_succ_cons,jd,jd]
  exact TA l n _ fun y hy=>h y (by simp[hy])
theorem ahT (c:Cal)(m:jU)(fs:List Int)(es:Option (List (DV×DV)))(d:Dt)(hl:c.cy.length≤1000000)(hn:∀n∈c.cy,n≠0)(hf:∀x∈fs,0≤x∧x≤10000000)(hy:0≤d.y∧d.y.toNat<fs.length)(hm:1≤d.m∧d.m≤12)(hd:1≤d.d∧d.d≤31):Pure C F.nY [abG c m fs es,d.dv] (.d (.int .i64 (OC c fs d))) []:=by
 have e1:IntKind.i64.wrap (d.m - 1)=d.m - 1:=aG (by omega)
 have b1:=hf _ (getD_mem hy.2)
 have hs:jd (bP (c.leap d.y)) 0≤366:=by have:=zL (c.leap d.y);unfold Iu at this;rw[this];split<;>decide
 have hs1:=TA (bP (c.leap d.y)) (d.m - 1).toNat 0 fun x hx=>by have:=vX _ x hx;omega
 have hs2:=Dp ((bP (c.leap d.y)).take (d.m - 1).toNat) 0 fun x hx=>by have:=vX _ x (List.mem_of_mem_take hx);omega
 have e2:IntKind.i64.wrap (fs.getD d.y.toNat default+jd ((bP (c.leap d.y)).take (d.m - 1).toNat) 0)=fs.getD d.y.toNat default+jd ((bP (c.leap d.y)).take (d.m - 1).toNat) 0:=aG (by omega)
 have e3:IntKind.i64.wrap (fs.getD d.y.toNat default+jd ((bP (c.leap d.y)).take (d.m - 1).toNat) 0+d.d)=fs.getD d.y.toNat default+jd ((bP (c.leap d.y)).take (d.m - 1).toNat) 0+d.d:=aG (by omega)
 have e4:IntKind.i64.wrap (fs.getD d.y.toNat default+jd ((bP (c.leap d.y)).take (d.m - 1).toNat) 0+d.d - 1)=fs.getD d.y.toNat default+jd ((bP (c.leap d.y)).take (d.m - 1).toNat) 0+d.d - 1:=aG (by omega)
 refine ah mixed rfl OU ?_
 simp only[DY,Ei,vV,E8,List.length_map,hy.1,hy.2,getD_map,aW,RN,qA,qB,qC,qD,qE,qF]
 have h3:=Zu c m fs es d.y hl hn
 rw[vV]at h3
 refine au rfl rfl h3 ?_
 (try simp only[RN,qA,qB,qC,qD,qE,qF])
 refine au rfl rfl (Ql _) ?_
 simp only[e1,RN,qA,qB,qC,qD,qE,qF]
 rw[VJ (by intro x hx;simp only[List.mem_map]at hx;obtain⟨y,_,rfl⟩:=hx;rfl) (by omega) (by rw[List.length_map,zy];omega)]
 rw[←List.map_take]
 (try simp only[RN,qA,qB,qC,qD,qE,qF])
 refine au rfl rfl (ah0 _ (by rw[List.length_take,zy];omega) (fun x hx=>by have:=vX _ x (List.mem_of_mem_take hx);omega) (by omega)) ?_
 simp only[e2,e3,e4,OC,RN,qA,qB,qC,qD,qE,qF]
def Fs.bad (f:Fs):Bool:=if f.mv then f.mo !=0||f.da !=0|| !inR f.af (-60) 60 else f.af !=0|| !inR f.mo 1 12|| !inR f.da 1 31
theorem amH (f:Fs):Pure C F.qR [f.dv] (.d (.bool f.bad)) []:=by
 refine ah mixed rfl Nv ?_
 simp only[BI,Cb,VE,RN,qA,qB,qC,qD,qE,qF]
 repeat' first
  |(refine au rfl rfl (NP _ _ _) ?_;try simp only[VE,RN,qA,qB,qC,qD,qE,qF])
  |(refine bJ (by rfl) (fun hB=> ?_) (fun hB=> ?_)<;>simp only[hB,VE,RN,qA,qB,qC,qD,qE,qF])
  |(refine bZ (by rfl) (fun hB=> ?_) (fun hB=> ?_)<;>simp only[hB,VE,RN,qA,qB,qC,qD,qE,qF])
 all_goals(simp_all[Fs.bad];done)
def pY (l:List Fs):Bool:=decide (l.length≤6)&& !l.any Fs.bad
theorem aai (ex:Bool)(l:List Fs):Pure C F.Du [.slice ex (l.map Fs.dv)] (.d (.bool (pY l))) []:=by
 refine ah mixed rfl Qr ?_
 simp only[Fv,FC,List.length_map,RN,qA,qB,qC,qD,qE,qF]
 by_cases h:l.length≤6
 ·have h':(l.length:Int)≤6:=by omega
  simp only[h',RN,qA,qB,qC,qD,qE,qF]
  refine au rfl rfl (XE l F.qR [] Fs.bad (by omega) (by kernel_rfl) fun x _=>amH x) ?_
  (try simp only[RN,qA,qB,qC,qD,qE,qF])
  simp[pY,h]
 ·have h':¬(l.length:Int)≤6:=by omega
  simp only[h',RN,qA,qB,qC,qD,qE,qF]
  simp[pY,h]
end Go.Tel
namespace Go.Tel
open Go.Am
section
variable {C:Ctx}{base:Nat}{KP:DV→Mem→Prop}
theorem VH {i:Nat}{bs:List (Option (List PV))}{fz:List Nat}{ar:List (Option Arr)}{L:PV→Mem→Prop}:aj C base (.mkMap i) [] ⟨bs,fz,ar⟩ L KP=(bs[base+i]?=some none∧L (.mref (base+i)) ⟨bs.set (base+i) (some [.jc []]),fz,ar⟩):=propext ⟨id,id⟩
theorem l9 {f:FuncId}{args:List PV}{M:Mem}{ds ds':List DV}{x:DV}{K:PV→Mem→Prop}(h1:dw M args=some ds)(h2:ds.map DV.strip=ds')(hp:Pure C f ds' (.d x) [])(hx:IC x=true)(hK:K (.d x) M):aj C base (.iT f) args M K KP:=
 ⟨ds,h1,x,h2▸hp,hx,hK⟩
end
theorem GY {bs:List (Option (List PV))}{fz:List Nat}{ar:List (Option Arr)}{k ver b st:Nat}{xs:List DV}{es:List (DV×DV)}{a1 a2 a3 a4 a5:DV}(ha:ar[k]?=some (some ⟨1,xs,ver,st⟩))(hb:bs[b]?=some (some [.jc es])):
  datum ⟨bs,fz,ar⟩ (.agg [.d a1, .d a2, .d a3, .d a4, .d a5, .tsl k ver 0, .mref b])=some (.agg [a1,a2,a3,a4,a5, .slice false xs, .map (some es)]):=by
 simp[datum,bW,eU,Mem.row,Mem.box,ha,hb]
theorem wQ {M:Mem}{p:PV}{d y:DV}(h:datum M p=some d):dw M [p, .d y]=some [d,y]:=by
 simp only[dw,h]
 simp[datum]
theorem PX {M:Mem}{p:PV}{d:DV}(h:datum M p=some d):dw M [p]=some [d]:=by
 simp[dw,h]
def Cal.first (c:Cal):Nat→Int
 |0=>c.ep
 |y+1=>c.first y+Iu (c.leap y)
def Cal.firsts (c:Cal)(n:Nat):List Int:=(List.range n).map c.first
theorem Cal.qc (c:Cal)(y:Nat):c.ep+365*y≤c.first y∧c.first y≤c.ep+366*y:=by
 induction y with
 |zero=>simp[Cal.first]
 |succ y ih=>
  rw[Cal.first,zL]
  split<;>omega
theorem Cal.Ua (c:Cal)(n:Nat):c.firsts (n+1)=c.firsts n++ [c.first n]:=by simp[Cal.firsts,List.range_succ]
def opC:Nat→PV
 |0=> .d (.slice true [])
 |i+1=> .tsl 0 i 0
def opA (c:Cal):Nat→List (Option Arr)
 |0=>[]
 |i+1=>[some ⟨1,(c.firsts (i+1)).map ay,i,0⟩]
def alc (c:Cal)(m:jU)(i:Nat):St:=
 ⟨[(4, .ptr 2 0),(5, .ptr 4 0),(6, .d (.int .i64 (c.first i))),(14, .d (.int .i64 i))],
  ⟨[some [.d (.int .i64 c.ep), .d (.slice false (c.cy.map ay))],some [.d (.int .i64 m.n), .d (.int .i64 m.d), .d (.int .i64 m.ad)],
   some [.d (.int .i64 0), .d (.slice true []), .d (.int .i64 0), .d (.int .i64 0), .d (.int .i64 0), .d (.slice true []), .d (.map none)],
   some [.jc []],some [.d (.int .i64 c.ep), .d (.slice false (c.cy.map ay)), .d (.int .i64 m.n), .d (.int .i64 m.d), .d (.int .i64 m.ad),opC i, .mref 3]],[1,0],opA c i⟩⟩
theorem ai5 (c:Cal)(m:jU)(hc:c.ok=true):Pure C F.Di [c.dv,m.dv] (.d (abG c m (c.firsts 4002) (some []))) []:=by
 obtain⟨he,hl,hn⟩:=Cal.facts hc
 refine gJ (aF mixed rfl Qs ?_)
 simp only[I7,Je,pW,uP,VH,OJ,vP,Option.map_none,eP,jv,KZ,RN,qA,qB,qC,qD,qE,qF]
 refine aX 4002 (fun i (_:Unit)=>alc c m i) (fun i _=>True) 0 () (Nat.zero_le _) rfl trivial (fun i a h1 hix=> ?_) (fun a hix=> ?_)
 ·have h2:(i:Int)<4002:=by omega
  have h6:IntKind.i64.wrap ((i:Int)+1)=((i+1:Nat):Int):=by rw[aG (by omega)];omega
  have hb:=c.qc i
  have hb1:=c.qc (i+1)
  rw[Cal.first]at hb1
  have e1:IntKind.i64.wrap (c.first i+Iu (c.leap i))=c.first i+Iu (c.leap i):=aG (by omega)
  have hd:=ae2 c m (c.firsts (i+1)) (some []) i (by omega) (fun n h=>by have:=hn n h;omega)
  rw[vV]at hd
  rcases i with _|i
  ·simp only[alc,opC,opA,h2,bM,dO,bg,vP,Option.map_none,eP,DV.strip,fits_int,forall_eq,RN,qA,qB,qC,qD,qE,qF]
   (repeat(refine And.intro (by first|assumption|rfl|(simp;done)|(simp;omega)) ?_))
   refine l9 (by rfl) (by rfl) hd rfl ?_
   simp only[e1,h6,RN,qA,qB,qC,qD,qE,qF]
   exact nU (len:=4002) (i:=0) () h1 rfl trivial
  ·simp only[alc,opC,opA,h2,bM,dO,bg,vP,Option.map_none,eP,DV.strip,fits_int,forall_eq,RN,qA,qB,qC,qD,qE,qF]
   have hlen:(c.firsts (i+1)).length=i+1:=by simp[Cal.firsts]
   have hfs:(c.firsts (i+1)).map ay++ [.int .i64 (c.first (i+1))]=(c.firsts (i+1+1)).map ay:=by rw[c.Ua (i+1),List.map_append];rfl
   rw[hfs,List.length_map,hlen]
   (repeat(refine And.intro (by first|assumption|rfl|(simp;done)|(simp;omega)) ?_))
   refine l9 (wQ (GY rfl rfl)) rfl hd rfl ?_
   simp only[e1,h6,RN,qA,qB,qC,qD,qE,qF]
   exact nU (len:=4002) (i:=i+1) () h1 rfl trivial
 ·have hx:¬((4002:Nat):Int)<4002:=by omega
  simp only[alc,opC,opA,hx,bM,dO,bg,vP,Option.map_none,eP,jv,KZ,RN,qA,qB,qC,qD,qE,qF]
  rw[vV]
  exact GY rfl rfl
end Go.Tel
namespace Go.Tel
open Go.Am
theorem RJ (n b:Int)(hb:0<b):mJ n b*b≤n∧n<(mJ n b+1)*b:=by
 have h:=Int.mul_tdiv_add_tmod n b
 have h1:=Int.tmod_lt_of_pos n hb
 have h2:=Int.lt_tmod_of_pos n hb
 have h3:n.tdiv b*b=b*n.tdiv b:=Int.mul_comm _ _
 unfold mJ
 split
 ·have e1:(n.tdiv b - 1)*b=n.tdiv b*b - b:=by rw[Int.sub_mul];omega
  have e2:(n.tdiv b - 1+1)*b=n.tdiv b*b:=by rw[show n.tdiv b - 1+1=n.tdiv b by omega]
  omega
 ·have e2:(n.tdiv b+1)*b=n.tdiv b*b+b:=by rw[Int.add_mul];omega
  omega
theorem af9 {n b q:Int}(hb:0<b)(h1:q*b≤n)(h2:n<(q+1)*b):mJ n b=q:=by
 obtain⟨g1,g2⟩:=RJ n b hb
 have a1:mJ n b<q+1:=Int.lt_of_mul_lt_mul_right (a:=b) (by omega) (by omega)
 have a2:q<mJ n b+1:=Int.lt_of_mul_lt_mul_right (a:=b) (by omega) (by omega)
 omega
theorem agr (m:jU)(hm:m.ok=true)(n:Int):∃j:Nat,j≤44∧aah m (n+j)=13:=by
 obtain⟨hd,hn,ha⟩:=m.facts hm
 have hN:0<m.n:=by omega
 have hD:0<m.d:=by omega
 obtain⟨K,hK⟩:∃K,K=mJ ((n+1)*m.d - 1 - m.ad) m.n:=⟨_,rfl⟩
 obtain⟨g1,g2⟩:=RJ ((n+1)*m.d - 1 - m.ad) m.n hN
 rw[←hK]at g1 g2
 obtain⟨s,hs⟩:∃s,s=mJ ((K+1)*m.n+m.ad) m.d:=⟨_,rfl⟩
 obtain⟨g3,g4⟩:=RJ ((K+1)*m.n+m.ad) m.d hD
 rw[←hs]at g3 g4
 have e1:(K+1)*m.n=K*m.n+m.n:=by rw[Int.add_mul];omega
 have e2:(n+1)*m.d=n*m.d+m.d:=by rw[Int.add_mul];omega
 have e3:(s+1)*m.d=s*m.d+m.d:=by rw[Int.add_mul];omega
 have e4:(n+32)*m.d=n*m.d+32*m.d:=by rw[Int.add_mul]
 have b1:n+1<s+1:=Int.lt_of_mul_lt_mul_right (a:=m.d) (by omega) (by omega)
 have b2:s<n+32:=Int.lt_of_mul_lt_mul_right (a:=m.d) (by omega) (by omega)
 refine⟨(s+13 - n).toNat,by omega,?_⟩
 have e5:n+((s+13 - n).toNat:Int)=s+13:=by omega
 rw[e5]
 have e6:(s+13+1)*m.d=s*m.d+14*m.d:=by rw[show s+13+1=s+14 by omega,Int.add_mul]
 have e7:(K+1+1)*m.n=K*m.n+m.n+m.n:=by rw[Int.add_mul,e1];omega
 have hk:mJ ((s+13+1)*m.d - 1 - m.ad) m.n=K+1:=af9 hN (by omega) (by omega)
 unfold aah
 rw[hk,←hs]
 omega
def DI (m:jU):Nat→Int→Int
 |0,n=>n
 |k+1,n=>if aah m n=13 then n else DI m k (n+1)
def jU.full (m:jU)(n:Int):Int:=DI m 45 n
theorem aaQ {m:jU}{k:Nat}{n:Int}(h:aah m n=13):DI m k n=n:=by
 cases k with
 |zero=>rfl
 |succ k=>rw[DI,if_pos h]
theorem Yq (m:jU):∀(k:Nat) (n:Int),n≤DI m k n∧DI m k n≤n+k
 |0,n=>⟨Int.le_refl _,by simp[DI]⟩
 |k+1,n=>by
  rw[DI]
  split
  ·omega
  ·have:=Yq m k (n+1)
   omega
def sunday (c:Cal)(m:jU)(y:Int):Int:=let n:=m.full (OC c (c.firsts 4002) ⟨y,3,21⟩);n+(7 - wd n)
def aeH (c:Cal)(m:jU)(y:Int)(es:List (DV×DV)):Prop:=es=[]∨es=[(.agg [.int .i64 y, .int .i64 3, .int .i64 21], .int .i64 (sunday c m y))]
def Ku (c:Cal)(m:jU)(y:Int):List (DV×DV):=[(.agg [.int .i64 y, .int .i64 3, .int .i64 21], .int .i64 (sunday c m y))]
theorem GK (c:Cal)(hc:c.ok=true):∀x∈c.firsts 4002,0≤x∧x≤10000000:=by
 obtain⟨he,_,_⟩:=Cal.facts hc
 intro x hx
 simp only[Cal.firsts,List.mem_map,List.mem_range]at hx
 obtain⟨i,hi,rfl⟩:=hx
 have:=c.qc i
 omega
section
variable {C:Ctx}{base:Nat}{KP:DV→Mem→Prop}
theorem Wj {ok:Bool}{ks:List Nat}{z:DV}{b:Nat}{k:DV}{M:Mem}{K:PV→Mem→Prop}(l:List (DV×DV))(r:Option DV)(hb:M.box b=some [.jc l])(h1:iD ks k k=some true)(h2:sS ks l k=some r)(hK:K (.d (KF ok z r)) M):
  aj C base (.Nu ok ks z) [.mref b, .d k] M K KP:=by
 simp only[aj,hb,h1,h2];exact hK
theorem anC {ks:List Nat}{b:Nat}{k:List DV}{v:DV}{M:Mem}{K:PV→Mem→Prop}(l l':List (DV×DV))(hb:M.box b=some [.jc l])(hf:b∉M.fz)(h1:dF ks k k=some true)(h2:Qm ks l k v=some l')(hK:K .dead {M with boxes:=M.boxes.set b (some [.jc l'])}):
  aj C base (.ad1 ks) [.mref b, .d (.agg k), .d v] M K KP:=by
 simp only[aj,hb,h1,h2];exact⟨hf,hK⟩
end
theorem al0 (y:Int):dF [1,1,1] [.int .i64 y, .int .i64 3, .int .i64 21] [.int .i64 y, .int .i64 3, .int .i64 21]=some true:=by simp[dF]
theorem adQ (y:Int):iD [1,1,1] (.agg [.int .i64 y, .int .i64 3, .int .i64 21]) (.agg [.int .i64 y, .int .i64 3, .int .i64 21])=some true:=by
 simp only[iD,al0];rfl
theorem DF (c:Cal)(n:Nat):(c.firsts n).length=n:=by simp[Cal.firsts]
theorem ahS (c:Cal)(fs:List Int)(d:Dt)(hf:∀x∈fs,0≤x∧x≤10000000)(hy:d.y.toNat<fs.length)(hd:1≤d.d∧d.d≤31):0≤OC c fs d∧OC c fs d≤10000400:=by
 have b1:=hf _ (getD_mem hy)
 have hs:jd (bP (c.leap d.y)) 0≤366:=by have:=zL (c.leap d.y);unfold Iu at this;rw[this];split<;>decide
 have hs1:=TA (bP (c.leap d.y)) (d.m - 1).toNat 0 fun x hx=>by have:=vX _ x hx;omega
 have hs2:=Dp ((bP (c.leap d.y)).take (d.m - 1).toNat) 0 fun x hx=>by have:=vX _ x (List.mem_of_mem_take hx);omega
 unfold OC
 omega
theorem aha {x0 x1 x2 x3 x4 x6 x7 x8 x9:Option (List PV)}{fz:List Nat}{A1 A2:Option Arr}(c:Cal)(m:jU)(y:Int)(es:List (DV×DV))(hc:c.ok=true)(hm:m.ok=true)(hy:0≤y∧y≤4000)(hes:aeH c m y es)(hfz:5∉fz)(hfb:∀i∈fz,i<10):
  ∃M',SC C F.vk [.agg [.d (.int .i64 c.ep), .d (.slice false (c.cy.map ay)), .d (.int .i64 m.n), .d (.int .i64 m.d), .d (.int .i64 m.ad), .tsl 0 4001 0, .mref 5], .d (.int .i64 y)]
   ⟨[x0,x1,x2,x3,x4,some [.jc es],x6,x7,x8,x9],fz,[some ⟨1,(c.firsts 4002).map ay,4001,0⟩,A1,A2]⟩
   (fun p M=>p= .d (.int .i64 (sunday c m y))∧M=M') (fun _ _=>False)∧M'.boxes.take 10=[x0,x1,x2,x3,x4,some [.jc (Ku c m y)],x6,x7,x8,x9]∧M'.fz=fz∧M'.aA=[some ⟨1,(c.firsts 4002).map ay,4001,0⟩,A1,A2]:=by
 obtain⟨he,hl,hn⟩:=Cal.facts hc
 refine⟨⟨[x0,x1,x2,x3,x4,some [.jc (Ku c m y)],x6,x7,x8,x9,some [.d (.int .i64 c.ep), .d (.slice false (c.cy.map ay)), .d (.int .i64 m.n), .d (.int .i64 m.d), .d (.int .i64 m.ad), .tsl 0 4001 0, .mref 5],some [.d (.int .i64 y), .d (.int .i64 3), .d (.int .i64 21)]],fz,[some ⟨1,(c.firsts 4002).map ay,4001,0⟩,A1,A2]⟩,?_,rfl,rfl,rfl⟩
 have aqg:10∉fz:=fun h=>by have:=hfb _ h;omega
 have apk:11∉fz:=fun h=>by have:=hfb _ h;omega
 refine aF mixed rfl JZ ?_
 simp only[yJ,yS,jv,IB,apk,RN,qA,qB,qC,qD,qE,qF]
 rcases hes with rfl|rfl
 ·refine Wj [] none rfl (adQ y) rfl ?_
  simp only[KF,cond_true,Option.getD_none,Option.isSome_none,RN,qA,qB,qC,qD,qE,qF]
  have hfl:(c.firsts 4002).length=4002:=by simp[Cal.firsts]
  have hd:=ahT c m (c.firsts 4002) (some []) ⟨y,3,21⟩ (by omega) (fun n h=>by have:=hn n h;omega) (GK c hc) (by rw[hfl];simp only;omega) (by simp only;omega) (by simp only;omega)
  rw[vV,E8]at hd
  obtain⟨n0,hn0⟩:∃n0,n0=OC c (c.firsts 4002) ⟨y,3,21⟩:=⟨_,rfl⟩
  rw[←hn0]at hd
  have hn1:0≤n0∧n0≤10000400:=by rw[hn0];exact ahS c _ _ (GK c hc) (by rw[hfl];simp only;omega) ⟨by simp only;omega,by simp only;omega⟩
  refine l9 (wQ (GY rfl rfl)) rfl hd rfl ?_
  (try simp only[RN,qA,qB,qC,qD,qE,qF])
  obtain⟨j,hj,hj1⟩:=agr m hm n0
  refine wC (fun i:Nat=>⟨[(2, .ptr 10 0),(5, .ptr 11 0),(8, .d (.int .i64 (n0+i)))],⟨[x0,x1,x2,x3,x4,some [.jc []],x6,x7,x8,x9,some [.d (.int .i64 c.ep), .d (.slice false (c.cy.map ay)), .d (.int .i64 m.n), .d (.int .i64 m.d), .d (.int .i64 m.ad), .tsl 0 4001 0, .mref 5],some [.d (.int .i64 y), .d (.int .i64 3), .d (.int .i64 21)]],fz,[some ⟨1,(c.firsts 4002).map ay,4001,0⟩,A1,A2]⟩⟩)
   (fun i=>i≤j∧m.full n0=DI m (45 - i) (n0+i)) (fun i=>j - i) 0 (by simp) ⟨Nat.zero_le _,by simp[jU.full]⟩ ?_
  rintro i ⟨hi1,hi2⟩
  have ha:=anX m (n0+i) hm (by omega)
  rw[uP]at ha
  (try simp only[RN,qA,qB,qC,qD,qE,qF])
  refine au rfl rfl ha ?_
  by_cases h13:aah m (n0+i)=13
  ·have apn:m.full n0=n0+i:=by rw[hi2,aaQ h13]
   simp only[h13,bne_self_eq_false,RN,qA,qB,qC,qD,qE,qF]
   have hw:=ahe (n0+i) (by omega)
   refine au rfl rfl hw ?_
   have w1:0≤wd (n0+i):=Int.tmod_nonneg 7 (by omega)
   have w2:wd (n0+i)<7:=Int.tmod_lt_of_pos _ (by decide)
   have e1:IntKind.i64.wrap (7 - wd (n0+i))=7 - wd (n0+i):=aG (by omega)
   have e2:IntKind.i64.wrap (n0+i+(7 - wd (n0+i)))=n0+i+(7 - wd (n0+i)):=aG (by omega)
   simp only[e1,e2,RN,qA,qB,qC,qD,qE,qF]
   have hsu:sunday c m y=n0+i+(7 - wd (n0+i)):=by simp only[sunday,←hn0,apn]
   refine anC [] (Ku c m y) rfl hfz (al0 y) (by rw[Ku,hsu];rfl) ?_
   (try simp only[RN,qA,qB,qC,qD,qE,qF])
   rw[hsu]
  ·have e1:IntKind.i64.wrap (n0+i+1)=n0+((i+1:Nat):Int):=by rw[aG (by omega)];omega
   have ao2:(aah m (n0+i) !=13)=true:=by simp[h13]
   simp only[ao2,e1,RN,qA,qB,qC,qD,qE,qF]
   have hne:i≠j:=by rintro rfl;exact h13 hj1
   refine FQ (μ:=fun i=>j - i) (a:=i) (E:=fun i:Nat=>⟨[(2, .ptr 10 0),(5, .ptr 11 0),(8, .d (.int .i64 (n0+i)))],⟨[x0,x1,x2,x3,x4,some [.jc []],x6,x7,x8,x9,some [.d (.int .i64 c.ep), .d (.slice false (c.cy.map ay)), .d (.int .i64 m.n), .d (.int .i64 m.d), .d (.int .i64 m.ad), .tsl 0 4001 0, .mref 5],some [.d (.int .i64 y), .d (.int .i64 3), .d (.int .i64 21)]],fz,[some ⟨1,(c.firsts 4002).map ay,4001,0⟩,A1,A2]⟩⟩) (P:=fun i=>i≤j∧m.full n0=DI m (45 - i) (n0+i)) (i+1) (by omega) rfl ⟨by omega,?_⟩
   rw[hi2,show 45 - i=(45 - (i+1))+1 by omega,DI,if_neg h13]
   congr 1
   omega
 ·refine Wj (Ku c m y) (some (.int .i64 (sunday c m y))) rfl (adQ y) ?_ ?_
  ·simp only[Ku,sS,adQ]
  simp only[KF,cond_true,Option.getD_some,Option.isSome_some,RN,qA,qB,qC,qD,qE,qF]
  rfl
end Go.Tel
namespace Go.Tel
open Go.Am
def anE (c:Cal)(m:jU):PV:= .agg [.d (.int .i64 c.ep), .d (.slice false (c.cy.map ay)), .d (.int .i64 m.n), .d (.int .i64 m.d), .d (.int .i64 m.ad), .tsl 0 4001 0, .mref 5]
def ae5 (x0 x1:Option (List PV))(c:Cal)(m:jU)(i:Nat):St:=
 ⟨[(4, .ptr 4 0),(5, .ptr 6 0),(6, .d (.int .i64 (c.first i))),(14, .d (.int .i64 i))],
  ⟨[x0,x1,some [.d (.int .i64 c.ep), .d (.slice false (c.cy.map ay))],some [.d (.int .i64 m.n), .d (.int .i64 m.d), .d (.int .i64 m.ad)],
   some [.d (.int .i64 0), .d (.slice true []), .d (.int .i64 0), .d (.int .i64 0), .d (.int .i64 0), .d (.slice true []), .d (.map none)],
   some [.jc []],some [.d (.int .i64 c.ep), .d (.slice false (c.cy.map ay)), .d (.int .i64 m.n), .d (.int .i64 m.d), .d (.int .i64 m.ad),opC i, .mref 5]],[3,2,1,0],opA c i⟩⟩
theorem ald {x0 x1:Option (List PV)}(c:Cal)(m:jU)(hc:c.ok=true):SC C F.Di [.d c.dv, .d m.dv] ⟨[x0,x1],[1,0],[]⟩ (fun p M=>p=anE c m∧∃x2 x3 x4 x6,(∀x∈[x2,x3,x4,x6],∀n k,7≤n→1≤k→((x.getD []).all fun p=>p.upto n k)=true)∧M=⟨[x0,x1,x2,x3,x4,some [.jc []],x6],[3,2,1,0],[some ⟨1,(c.firsts 4002).map ay,4001,0⟩]⟩) (fun _ _=>False):=by
 obtain⟨he,hl,hn⟩:=Cal.facts hc
 refine aF mixed rfl Qs ?_
 simp only[I7,Je,pW,uP,VH,OJ,vP,Option.map_none,eP,jv,KZ,RN,qA,qB,qC,qD,qE,qF]
 refine aX 4002 (fun i (_:Unit)=>ae5 x0 x1 c m i) (fun i _=>True) 0 () (Nat.zero_le _) rfl trivial (fun i a h1 hix=> ?_) (fun a hix=> ?_)
 ·have h2:(i:Int)<4002:=by omega
  have h6:IntKind.i64.wrap ((i:Int)+1)=((i+1:Nat):Int):=by rw[aG (by omega)];omega
  have hb:=c.qc i
  have hb1:=c.qc (i+1)
  rw[Cal.first]at hb1
  have e1:IntKind.i64.wrap (c.first i+Iu (c.leap i))=c.first i+Iu (c.leap i):=aG (by omega)
  have hd:=ae2 c m (c.firsts (i+1)) (some []) i (by omega) (fun n h=>by have:=hn n h;omega)
  rw[vV]at hd
  rcases i with _|i
  ·simp only[ae5,opC,opA,h2,bM,dO,bg,vP,Option.map_none,eP,DV.strip,fits_int,forall_eq,RN,qA,qB,qC,qD,qE,qF]
   (repeat(refine And.intro (by first|assumption|rfl|(simp;done)|(simp;omega)) ?_))
   refine l9 (by rfl) (by rfl) hd rfl ?_
   simp only[e1,h6,RN,qA,qB,qC,qD,qE,qF]
   exact nU (len:=4002) (i:=0) () h1 rfl trivial
  ·simp only[ae5,opC,opA,h2,bM,dO,bg,vP,Option.map_none,eP,DV.strip,fits_int,forall_eq,RN,qA,qB,qC,qD,qE,qF]
   have hlen:(c.firsts (i+1)).length=i+1:=by simp[Cal.firsts]
   have hfs:(c.firsts (i+1)).map ay++ [.int .i64 (c.first (i+1))]=(c.firsts (i+1+1)).map ay:=by rw[c.Ua (i+1),List.map_append];rfl
   rw[hfs,List.length_map,hlen]
   (repeat(refine And.intro (by first|assumption|rfl|(simp;done)|(simp;omega)) ?_))
   refine l9 (wQ (GY rfl rfl)) rfl hd rfl ?_
   simp only[e1,h6,RN,qA,qB,qC,qD,qE,qF]
   exact nU (len:=4002) (i:=i+1) () h1 rfl trivial
 ·have hx:¬((4002:Nat):Int)<4002:=by omega
  simp only[ae5,opC,opA,hx,bM,dO,bg,vP,Option.map_none,eP,jv,KZ,RN,qA,qB,qC,qD,qE,qF]
  refine⟨rfl,_,_,_,_,?_,rfl⟩
  intro x hx n k h1 h2
  have g1:5<n:=by omega
  have g2:0<k:=by omega
  rcases hx with rfl|rfl|rfl|rfl
  ·rfl
  ·rfl
  ·simp[PV.upto,g1,g2]
  ·simp[PV.upto,g1,g2]
theorem Yg {M:Mem}{p:PV}{d y:DV}(h:datum M p=some d):dw M [p, .d y]=some [d,y]:=wQ h
theorem ag9 (c:Cal)(m:jU)(y:Int)(hc:c.ok=true)(hy:0≤y∧y≤4000):0≤sunday c m y∧sunday c m y≤10000500:=by
 have h1:=ahS c (c.firsts 4002) ⟨y,3,21⟩ (GK c hc) (by rw[DF];simp only;omega) (by simp only;omega)
 have h2:=Yq m 45 (OC c (c.firsts 4002) ⟨y,3,21⟩)
 have w1:0≤wd (m.full (OC c (c.firsts 4002) ⟨y,3,21⟩)):=Int.tmod_nonneg 7 (by unfold jU.full;omega)
 have w2:wd (m.full (OC c (c.firsts 4002) ⟨y,3,21⟩))<7:=Int.tmod_lt_of_pos _ (by decide)
 simp only[sunday]
 unfold jU.full at*
 omega
def FX (c:Cal)(m:jU)(y:Int)(f:Fs):Int:=if f.mv then sunday c m y+f.af else if uZ c ⟨y,f.mo,f.da⟩then OC c (c.firsts 4002) ⟨y,f.mo,f.da⟩else -1
theorem Fs.facts {f:Fs}(h:f.bad=false):(f.mv=true→ -60≤f.af∧f.af≤60)∧(f.mv=false→(1≤f.mo∧f.mo≤12)∧1≤f.da∧f.da≤31):=by
 unfold Fs.bad at h
 cases hm:f.mv<;>simp[hm,inR]at h<;>simp<;>omega
theorem agj {ex:Bool}{x0 x1 x2 x3 x4 x6:Option (List PV)}(c:Cal)(m:jU)(l:List Fs)(y:Int)(hc:c.ok=true)(hm:m.ok=true)(hy:0≤y∧y≤4000)(hl:l.length≤6)(hb:∀f∈l,f.bad=false)(hx:∀x∈[x0,x1,x2,x3,x4,x6],∀n k,7≤n→1≤k→((x.getD []).all fun p=>p.upto n k)=true):
  SC C F.vg [anE c m, .d (.slice ex (l.map Fs.dv)), .d (.int .i64 y)] ⟨[x0,x1,x2,x3,x4,some [.jc []],x6],[3,2,1,0],[some ⟨1,(c.firsts 4002).map ay,4001,0⟩]⟩
   (fun p M=>PI M p 1 ((l.map (FX c m y)).map ay) 0) (fun _ _=>False):=by
 obtain⟨he,hcl,hn⟩:=Cal.facts hc
 refine aF mixed rfl JX ?_
 simp only[yH,yQ,anE,jv,IB,List.length_map,RN,qA,qB,qC,qD,qE,qF]
 refine aX l.length (fun i (es:List (DV×DV))=>⟨[(2, .d (.int .i64 y)),(3, .ptr 7 0),(7, .tsl 2 i 0),(12, .d (.slice ex (l.map Fs.dv))),(13, .d (.int .i64 l.length)),(14, .d (.int .i64 i))],
   ⟨[x0,x1,x2,x3,x4,some [.jc es],x6,some [.d (.int .i64 c.ep), .d (.slice false (c.cy.map ay)), .d (.int .i64 m.n), .d (.int .i64 m.d), .d (.int .i64 m.ad), .tsl 0 4001 0, .mref 5]],[3,2,1,0],
    [some ⟨1,(c.firsts 4002).map ay,4001,0⟩,some ⟨1,[],0,0⟩,some ⟨1,((l.take i).map (FX c m y)).map ay,i,0⟩]⟩⟩)
  (fun i es=>aeH c m y es) 0 [] (Nat.zero_le _) rfl (.inl rfl) (fun i es h1 hix=> ?_) (fun es hix=> ?_)
 ·obtain⟨h2,h3,h6⟩:=rng h1 (by omega)
  have hf:=Fs.facts (hb _ (getD_mem h1))
  have htk:((l.take i).map (FX c m y)).map ay++ [.int .i64 (FX c m y (l.getD i default))]=((l.take (i+1)).map (FX c m y)).map ay:=by
   rw[dQ h1];simp[ay]
  have hlt:(((l.take i).map (FX c m y)).map ay).length≤6:=by simp;omega
  have ef:(FX c m y (l.getD i default))=(if(l.getD i default).mv then sunday c m y+(l.getD i default).af else if uZ c ⟨y,(l.getD i default).mo,(l.getD i default).da⟩then OC c (c.firsts 4002) ⟨y,(l.getD i default).mo,(l.getD i default).da⟩else -1):=rfl
  have hsb:=ag9 c m y hc hy
  have q0:=hx x0 (by simp) 8 3 (by omega) (by omega)
  have q1:=hx x1 (by simp) 8 3 (by omega) (by omega)
  have q2:=hx x2 (by simp) 8 3 (by omega) (by omega)
  have q3:=hx x3 (by simp) 8 3 (by omega) (by omega)
  have q4:=hx x4 (by simp) 8 3 (by omega) (by omega)
  have q6:=hx x6 (by simp) 8 3 (by omega) (by omega)
  simp only[h2,h3,h1,h6,VE,getD_map,Int.toNat_natCast,List.length_map,RN,qA,qB,qC,qD,qE,qF]
  cases hmv:(l.getD i default).mv
  ·obtain⟨f1,f2⟩:=hf.2 hmv
   rw[hmv]at ef
   simp only[Bool.false_eq_true,if_false]at ef
   have hd:=aa3 c m (c.firsts 4002) (some es) ⟨y,(l.getD i default).mo,(l.getD i default).da⟩ (by omega) (fun n h=>by have:=hn n h;omega)
   rw[vV,E8]at hd
   (try simp only[RN,qA,qB,qC,qD,qE,qF])
   refine l9 (Yg (GY rfl rfl)) rfl hd rfl ?_
   cases hdt:uZ c ⟨y,(l.getD i default).mo,(l.getD i default).da⟩
   ·rw[hdt]at ef
    simp only[Bool.false_eq_true,if_false]at ef
    simp only[DV.strip,fits_int,forall_eq,RN,qA,qB,qC,qD,qE,qF]
    (repeat(refine And.intro (by first|assumption|rfl|(simp;done)|(simp;omega)) ?_))
    rw[←ef,htk,h6]
    exact jR 8 3 es h1 rfl hix (by decide) (by decide) rfl (by simp only[List.take_succ_cons,List.take_zero,List.all_cons,q0,q1,q2,q3,q4,q6];rfl)
   ·rw[hdt]at ef
    simp only[if_true]at ef
    (try simp only[RN,qA,qB,qC,qD,qE,qF])
    have hda:=ahT c m (c.firsts 4002) (some es) ⟨y,(l.getD i default).mo,(l.getD i default).da⟩ (by omega) (fun n h=>by have:=hn n h;omega) (GK c hc) (by rw[DF];simp only;omega) f1 f2
    rw[vV,E8]at hda
    refine l9 (Yg (GY rfl rfl)) rfl hda rfl ?_
    simp only[DV.strip,fits_int,forall_eq,RN,qA,qB,qC,qD,qE,qF]
    (repeat(refine And.intro (by first|assumption|rfl|(simp;done)|(simp;omega)) ?_))
    rw[←ef,htk,h6]
    exact jR 8 3 es h1 rfl hix (by decide) (by decide) rfl (by simp only[List.take_succ_cons,List.take_zero,List.all_cons,q0,q1,q2,q3,q4,q6];rfl)
  ·obtain⟨f1,f2⟩:=hf.1 hmv
   rw[hmv]at ef
   simp only[if_true]at ef
   have e1:IntKind.i64.wrap (sunday c m y+(l.getD i default).af)=sunday c m y+(l.getD i default).af:=aG (by omega)
   (try simp only[RN,qA,qB,qC,qD,qE,qF])
   obtain⟨⟨bs',fz',ar'⟩,hsc,g1,g2,g3⟩:=aha (x0:=x0) (x1:=x1) (x2:=x2) (x3:=x3) (x4:=x4) (x6:=x6) (x7:=some [.d (.int .i64 c.ep), .d (.slice false (c.cy.map ay)), .d (.int .i64 m.n), .d (.int .i64 m.d), .d (.int .i64 m.ad), .tsl 0 4001 0, .mref 5])
    (x8:=some [.d (.bool true), .d (.int .i64 (l.getD i default).mo), .d (.int .i64 (l.getD i default).da), .d (.int .i64 (l.getD i default).af)])
    (x9:=some [.d (.int .i64 y), .d (.int .i64 (l.getD i default).mo), .d (.int .i64 (l.getD i default).da)]) (fz:=[8,3,2,1,0])
    (A1:=some ⟨1,[],0,0⟩) (A2:=some ⟨1,((l.take i).map (FX c m y)).map ay,i,0⟩) c m y es hc hm hy hix (by decide) (by decide)
   simp only at g1 g2 g3
   subst g2 g3
   refine⟨_,_,hsc,?_⟩
   simp only[e1,DV.strip,fits_int,forall_eq,RN,qA,qB,qC,qD,qE,qF]
   (repeat(refine And.intro (by first|assumption|rfl|(simp;done)|(simp;omega)) ?_))
   have g8:bs'.take 8=[x0,x1,x2,x3,x4,some [.jc (Ku c m y)],x6,some [.d (.int .i64 c.ep), .d (.slice false (c.cy.map ay)), .d (.int .i64 m.n), .d (.int .i64 m.d), .d (.int .i64 m.ad), .tsl 0 4001 0, .mref 5]]:=by
    have:=congrArg (List.take 8) g1
    rw[List.take_take]at this
    exact this
   rw[←ef,htk,h6]
   exact jR 8 3 (Ku c m y) h1 (by rw[g8];rfl) (.inr rfl) (by decide) (by decide) rfl (by rw[g8];simp only[List.all_cons,q0,q1,q2,q3,q4,q6];rfl)
 ·simp only[Int.lt_irrefl,RN,qA,qB,qC,qD,qE,qF]
  rw[List.take_length]
  exact⟨2,_,rfl,rfl⟩
end Go.Tel
namespace Go.Tel
open Go.Am
def zM (c:Cal)(m:jU)(l:List Fs)(y:Int):DV:=
 if c.ok&&m.ok&&pY l&&inR y 0 4000 then .tup [.slice false ((l.map (FX c m y)).map ay), .int .i64 0]else .tup [.slice true [], .int .i64 2]
theorem DC {l:List Fs}(h:pY l=true):l.length≤6∧∀f∈l,f.bad=false:=by
 simp only[pY,Bool.and_eq_true,decide_eq_true_eq,Bool.not_eq_true']at h
 refine⟨h.1,fun f hf=> ?_⟩
 have:=h.2
 rw[List.any_eq_false]at this
 simpa using this f hf
theorem alJ {M:Mem}{v:PV}{sz st:Nat}{xs:List DV}{x y:DV}(h:PI M v sz xs st)(he:y= .tup [.slice false xs,x]):datum M (aev (je [v, .d x]) [v, .d x])=some y:=by
 subst he
 obtain⟨k,ver,rfl,h⟩:=h
 simp[je,aev,datum,bW,eU,Mem.row,h]
theorem aad (c:Cal)(m:jU)(ex:Bool)(l:List Fs)(y:Int)(hcl:c.cy.length≤1000000):Pure C F.EZ [c.dv,m.dv, .slice ex (l.map Fs.dv), .int .i64 y] (.d (zM c m l y)) []:=by
 refine gJ (aF mixed rfl Wu ?_)
 simp only[Lh,LM,pW,uP,RN,qA,qB,qC,qD,qE,qF]
 have hc1:=Zp c hcl
 have hm1:=aiB m
 rw[pW]at hc1
 rw[uP]at hm1
 refine au rfl rfl hc1 ?_
 cases hc:c.ok
 ·(try simp only[RN,qA,qB,qC,qD,qE,qF])
  simp[zM,hc,datum]
 ·(try simp only[RN,qA,qB,qC,qD,qE,qF])
  refine au rfl rfl hm1 ?_
  cases hm:m.ok
  ·(try simp only[RN,qA,qB,qC,qD,qE,qF])
   simp[zM,hm,datum]
  ·(try simp only[RN,qA,qB,qC,qD,qE,qF])
   refine au rfl rfl (aai false l) ?_
   cases hf:pY l
   ·(try simp only[RN,qA,qB,qC,qD,qE,qF])
    simp[zM,hf,datum]
   ·(try simp only[RN,qA,qB,qC,qD,qE,qF])
    refine au rfl rfl (Zh y) ?_
    cases hy:inR y 0 4000
    ·(try simp only[RN,qA,qB,qC,qD,qE,qF])
     simp[zM,hy,datum]
    ·(try simp only[RN,qA,qB,qC,qD,qE,qF])
     have hyb:0≤y∧y≤4000:=by simpa[inR]using hy
     obtain⟨hf1,hf2⟩:=DC hf
     have ho:=ald (x0:=some [.d (.int .i64 c.ep), .d (.slice false (c.cy.map ay))]) (x1:=some [.d (.int .i64 m.n), .d (.int .i64 m.d), .d (.int .i64 m.ad)]) c m hc
     rw[pW,uP]at ho
     refine SC.mono ho ?_
     rintro p M ⟨rfl,x2,x3,x4,x6,hx,rfl⟩
     refine SC.mono (agj c m l y hc hm hyb hf1 hf2 ?_) ?_
     ·intro x hx' n k h1 h2
      simp only[List.mem_cons,List.not_mem_nil,or_false]at hx'
      rcases hx' with rfl|rfl|h
      ·rfl
      ·rfl
      ·exact hx x (by simpa using h) n k h1 h2
     ·intro v M hv
      exact alJ hv (by simp[zM,hc,hm,hf,hy])
def aaE (c:Cal)(d:Dt):DV:=if c.ok&&uZ c d then .tup [.int .i64 (OC c (c.firsts 4002) d), .int .i64 0]else .tup [.int .i64 0, .int .i64 2]
theorem Zg {c:Cal}{d:Dt}(h:uZ c d=true):(0≤d.y∧d.y≤4000)∧(1≤d.m∧d.m≤12)∧1≤d.d∧d.d≤31:=by
 simp only[uZ,Bool.and_eq_true]at h
 obtain⟨⟨h1,h2⟩,h3⟩:=h
 simp only[inR,Bool.and_eq_true,decide_eq_true_eq,ge_iff_le]at h1 h2 h3
 have hi:(d.m - 1).toNat<(bP (c.leap d.y)).length:=by rw[zy];omega
 have:=vX _ _ (getD_mem hi)
 omega
theorem alQ (c:Cal)(d:Dt)(hcl:c.cy.length≤1000000):Pure C F.PY [c.dv,d.dv] (.d (aaE c d)) []:=by
 refine ah mixed rfl abt ?_
 simp only[Uj,UA,pW,E8,RN,qA,qB,qC,qD,qE,qF]
 have hc1:=Zp c hcl
 rw[pW]at hc1
 refine au rfl rfl hc1 ?_
 cases hc:c.ok
 ·(try simp only[RN,qA,qB,qC,qD,qE,qF])
  simp[aaE,hc]
 ·(try simp only[RN,qA,qB,qC,qD,qE,qF])
  obtain⟨he,hl,hn⟩:=Cal.facts hc
  have ho:=ai5 c ⟨0,0,0⟩ hc
  rw[pW,uP,vV]at ho
  refine au rfl rfl ho ?_
  (try simp only[RN,qA,qB,qC,qD,qE,qF])
  have hd:=aa3 c ⟨0,0,0⟩ (c.firsts 4002) (some []) d (by omega) (fun n h=>by have:=hn n h;omega)
  rw[vV,E8]at hd
  refine au rfl rfl hd ?_
  cases hdo:uZ c d
  ·(try simp only[RN,qA,qB,qC,qD,qE,qF])
   simp[aaE,hdo]
  ·(try simp only[RN,qA,qB,qC,qD,qE,qF])
   obtain⟨k1,k2,k3⟩:=Zg hdo
   have hda:=ahT c ⟨0,0,0⟩ (c.firsts 4002) (some []) d (by omega) (fun n h=>by have:=hn n h;omega) (GK c hc) (by rw[DF];omega) k2 k3
   rw[vV,E8]at hda
   refine au rfl rfl hda ?_
   (try simp only[RN,qA,qB,qC,qD,qE,qF])
   simp[aaE,hdo,hc]
end Go.Tel
namespace Go.Tel
open Go.Am
section
variable {C:Ctx}{base:Nat}{bs:List (Option (List PV))}{fz:List Nat}{ar:List (Option Arr)}{L:PV→Mem→Prop}{KP:DV→Mem→Prop}
theorem amG {k k':IntKind}{a b:Int}:aj C base (.shf .shr) [.d (.int k a), .d (.int k' b)] ⟨bs,fz,ar⟩ L KP=(0≤b∧L (.d (.int k (a.fdiv (2 ^ min b.toNat k.bits)))) ⟨bs,fz,ar⟩):=propext ⟨id,id⟩
end
theorem akW (n:Int):Pure C F.cmp_isNaN_int [.int .i64 n] (.d (.bool false)) []:=by
 refine ah mixed rfl SB ?_
 simp only[GZ,Hu,RN,qA,qB,qC,qD,qE,qF]
 simp
theorem aiC (n:Int):Pure C F.qZ [.int .i64 n] (.d (.bool false)) []:=by
 refine ah mixed rfl NJ ?_
 simp only[BX,CP,RN,qA,qB,qC,qD,qE,qF]
 simp
theorem anw (a b:Int):Pure C F.cmp_Less_int [.int .i64 a, .int .i64 b] (.d (.bool (decide (a<b)))) []:=by
 refine ah mixed rfl UW ?_
 simp only[Jz,JJ,RN,qA,qB,qC,qD,qE,qF]
 refine au rfl rfl (akW _) ?_
 (try simp only[RN,qA,qB,qC,qD,qE,qF])
structure aeB (xs:List Int) (n:Int) (p:Nat):Prop where
 le:p≤xs.length
 lt:∀k,k<p→xs.getD k default<n
 ge:∀k,p≤k→k<xs.length→n≤xs.getD k default
theorem alK {n:Nat}(h:n<18446744073709551616):IntKind.u64.wrap (n:Int)=n:=by
 simp only[IntKind.wrap,IntKind.bits,IntKind.signed,Bool.false_and,Bool.false_eq_true,if_false]
 omega
theorem half (a b:Nat)(h:a<b)(hb:b≤1000000):IntKind.i64.wrap (IntKind.u64.wrap (IntKind.i64.wrap ((a:Int)+(b:Int)))|>.fdiv (2 ^ min (1:Int).toNat IntKind.u64.bits))=(((a+b) / 2:Nat):Int):=by
 rw[aG (n:=(a:Int)+b) (by omega)]
 have e1:IntKind.u64.wrap ((a:Int)+b)=(a:Int)+b:=by have:=alK (n:=a+b) (by omega);simpa using this
 rw[e1]
 have e2:((a:Int)+b).fdiv (2 ^ min (1:Int).toNat IntKind.u64.bits)=(((a+b) / 2:Nat):Int):=by
  have:(2:Int) ^ min (1:Int).toNat IntKind.u64.bits=2:=by decide
  rw[this,Int.fdiv_eq_ediv_of_nonneg _ (by decide)];omega
 rw[e2]
 exact aG (by omega)
theorem afy (xs:List Int)(n:Int)(p:Nat)(hl:xs.length≤1000000)(hp:aeB xs n p):Pure C F.slices_BinarySearch_int [.slice false (xs.map ay), .int .i64 n] (.d (.tup [.int .i64 p, .bool (decide (p<xs.length∧xs.getD p default=n))])) []:=by
 refine ah mixed rfl DU ?_
 simp only[qw,qJ,List.length_map,RN,qA,qB,qC,qD,qE,qF]
 refine wC (fun q:Nat×Nat=>⟨[(0, .d (.slice false (xs.map ay))),(1, .d (.int .i64 n)),(6, .d (.int .i64 xs.length)),(7, .d (.int .i64 q.1)),(8, .d (.int .i64 q.2))],⟨[],[],[]⟩⟩)
  (fun q=>q.1≤p∧p≤q.2∧q.2≤xs.length) (fun q=>q.2 - q.1) (0,xs.length) rfl ⟨Nat.zero_le _,hp.le,Nat.le_refl _⟩ ?_
 rintro⟨a,b⟩ ⟨ha,hb,hbl⟩
 simp only at ha hb hbl⊢
 by_cases hab:a<b
 ·have hab':(a:Int)<b:=by omega
  have hh:=half a b hab (by omega)
  obtain⟨h,hh0⟩:∃h,h=(a+b) / 2:=⟨_,rfl⟩
  rw[←hh0]at hh
  have i1:h<xs.length:=by omega
  have i2:(0:Int)≤(h:Int):=by omega
  have i3:IntKind.i64.wrap ((h:Int)+1)=((h+1:Nat):Int):=by rw[aG (by omega)];omega
  simp only[hab',amG,hh,i1,i2,List.length_map,getD_map,Int.toNat_natCast,aW,RN,qA,qB,qC,qD,qE,qF]
  (repeat(refine And.intro (by first|assumption|rfl|(simp;done)|(simp;omega)) ?_))
  refine au rfl rfl (anw _ _) ?_
  by_cases hlt:xs.getD h default<n
  ·simp only[hlt,i3,RN,qA,qB,qC,qD,qE,qF]
   refine FQ (μ:=fun q:Nat×Nat=>q.2 - q.1) (a:=(a,b)) (h+1,b) (by simp only;omega) rfl ⟨?_,hb,hbl⟩
   simp only
   refine Nat.lt_of_not_le fun hle=> ?_
   have:=hp.ge h hle i1
   omega
  ·simp only[hlt,RN,qA,qB,qC,qD,qE,qF]
   refine FQ (μ:=fun q:Nat×Nat=>q.2 - q.1) (a:=(a,b)) (a,h) (by simp only;omega) rfl ⟨ha,?_,by simp only;omega⟩
   simp only
   refine Nat.le_of_not_lt fun hle=> ?_
   exact hlt (hp.lt h hle)
 ·have hab':¬(a:Int)<b:=by omega
  obtain rfl:a=p:=by omega
  by_cases hal:a<xs.length
  ·have j1:(a:Int)<(xs.length:Int):=by omega
   have j2:(0:Int)≤(a:Int):=by omega
   by_cases he:xs.getD a default=n
   ·simp only[hab',j1,j2,hal,List.length_map,getD_map,Int.toNat_natCast,aW,he,beq_self_eq_true,RN,qA,qB,qC,qD,qE,qF]
   ·have he':(xs.getD a default==n)=false:=beq_false_of_ne he
    simp only[hab',j1,j2,hal,List.length_map,getD_map,Int.toNat_natCast,aW,he,he',RN,qA,qB,qC,qD,qE,qF]
    refine au rfl rfl (aiC _) ?_
    (try simp only[RN,qA,qB,qC,qD,qE,qF])
  ·have j1:¬(a:Int)<(xs.length:Int):=by omega
   simp only[hab',j1,hal,false_and,RN,qA,qB,qC,qD,qE,qF]
theorem Iz (c:Cal)(y:Nat):c.first y+365≤c.first (y+1)∧c.first (y+1)≤c.first y+366:=by
 rw[Cal.first,zL]
 split<;>omega
theorem Iy (c:Cal){a b:Nat}(h:a≤b):c.first a≤c.first b:=by
 induction b with
 |zero=>
  obtain rfl:a=0:=by omega
  exact Int.le_refl _
 |succ b ih=>
  by_cases hab:a=b+1
  ·rw[hab];exact Int.le_refl _
  ·have:=ih (by omega)
   have:=Iz c b
   omega
theorem qg (c:Cal){n k:Nat}(h:k<n):(c.firsts n).getD k default=c.first k:=by
 simp[Cal.firsts,List.getD,h]
theorem firstAt (c:Cal)(Y:Nat)(day:Int)(hY:Y≤4000)(h1:c.first Y≤day)(h2:day<c.first (Y+1)):aeB (c.firsts 4002) day (if c.first Y=day then Y else Y+1):=by
 have hl:=DF c 4002
 refine⟨by rw[hl];split<;>omega,fun k hk=> ?_,fun k hk hk2=> ?_⟩
 ·split at hk
  ·rw[qg c (by omega)]
   have:=Iy c (show k+1≤Y by omega)
   have:=Iz c k
   omega
  ·rw[qg c (by omega)]
   have:=Iy c (show k≤Y by omega)
   omega
 ·rw[hl]at hk2
  rw[qg c (by omega)]
  split at hk
  ·have:=Iy c (show Y≤k by omega)
   omega
  ·have:=Iy c (show Y+1≤k by omega)
   omega
def abl:List Int→Int→Int→Int×Int
 | [],_,_=>(0,0)
 |n::l,i,left=>if left<n then(i+1,left+1)else abl l (i+1) (left - n)
def Vz (c:Cal)(Y:Nat)(day:Int):Dt:=let r:=abl (bP (c.leap Y)) 0 (day - c.first Y);⟨Y,r.1,r.2⟩
theorem PE:∀(l:List Int) (p:Int),jd l p=p+jd l 0
 | [],p=>by simp[jd]
 |x::l,p=>by
  rw[jd,jd,PE l (p+x),PE l (0+x)]
  omega
theorem amr (c:Cal)(m:jU)(es:Option (List (DV×DV)))(Y:Nat)(day:Int)(hc:c.ok=true)(hY:Y≤4000)(h1:c.first Y≤day)(h2:day<c.first (Y+1)):Pure C F.zi [abG c m (c.firsts 4002) es, .int .i64 day] (.d (Vz c Y day).dv) []:=by
 obtain⟨he,hl,hn⟩:=Cal.facts hc
 have hfl:=DF c 4002
 have hbd:=c.qc Y
 have hbd1:=c.qc (Y+1)
 refine gJ (aF mixed rfl Nw ?_)
 simp only[BJ,Ce,vV,List.length_map,RN,qA,qB,qC,qD,qE,qF]
 refine au rfl rfl (afy (c.firsts 4002) day _ (by omega) (firstAt c Y day hY h1 h2)) ?_
 have hh:(decide ((if c.first Y=day then Y else Y+1)<(c.firsts 4002).length∧(c.firsts 4002).getD (if c.first Y=day then Y else Y+1) default=day))=decide (c.first Y=day):=by
  by_cases he:c.first Y=day
  ·rw[if_pos he,hfl,qg c (by omega)];simp[he];omega
  ·rw[if_neg he,hfl,qg c (by omega)];simp[he];omega
 rw[hh]
 have eY:IntKind.i64.wrap (((Y+1:Nat):Int) - 1)=(Y:Int):=by rw[aG (by omega)];omega
 have eL:IntKind.i64.wrap (day - c.first Y)=day - c.first Y:=aG (by omega)
 have hyr:inR (Y:Int) 0 4000=true:=by simp[inR];omega
 have j1:(0:Int)≤(Y:Int):=by omega
 have j2:Y<(c.firsts 4002).length:=by omega
 have hlp:=Zu c m (c.firsts 4002) es Y (by omega) (fun n h=>by have:=hn n h;omega)
 rw[vV]at hlp
 have hml:=zy (c.leap Y)
 have hq:∃(q:Nat) (b:Bool),(if c.first Y=day then Y else Y+1)=q∧decide (c.first Y=day)=b∧((b=true∧q=Y)∨(b=false∧q=Y+1)):=by
  by_cases hq:c.first Y=day
  ·exact⟨Y,true,if_pos hq,decide_eq_true hq, .inl ⟨rfl,rfl⟩⟩
  ·exact⟨Y+1,false,if_neg hq,decide_eq_false hq, .inr ⟨rfl,rfl⟩⟩
 obtain⟨q,b,hq1,hq2,hq3⟩:=hq
 rw[hq1,hq2]
 have hfg:=qg c (show Y<4002 by omega)
 rcases hq3 with⟨rfl,hqe⟩|⟨rfl,hqe⟩<;>rw[hqe]
 all_goals
  simp only[eY,RN,qA,qB,qC,qD,qE,qF]
  refine au rfl rfl (Zh _) ?_
  simp only[hyr,j1,j2,Int.toNat_natCast,getD_map,aW,hfg,eL,List.length_map,RN,qA,qB,qC,qD,qE,qF]
  refine au rfl rfl hlp ?_
  (try simp only[RN,qA,qB,qC,qD,qE,qF])
  refine au rfl rfl (Ql _) ?_
  simp only[List.length_map,hml,RN,qA,qB,qC,qD,qE,qF]
  refine aX 12 (fun i (left:Int)=>⟨[(1, .d (.int .i64 day)),(4, .ptr 1 0),(5, .d (.int .i64 Y)),(7, .d (.int .i64 left)),(37, .d (.slice false ((bP (c.leap Y)).map ay))),(38, .d (.int .i64 ((12:Nat):Int))),(39, .d (.int .i64 i))],
    ⟨[some [.d (.int .i64 c.ep), .d (.slice false (c.cy.map ay)), .d (.int .i64 m.n), .d (.int .i64 m.d), .d (.int .i64 m.ad), .d (.slice false ((c.firsts 4002).map ay)), .d (.map es)],some [.d (.int .i64 0), .d (.int .i64 0), .d (.int .i64 0)]],[0],[]⟩⟩)
   (fun i left=>0≤left∧left≤400∧left<jd ((bP (c.leap Y)).drop i) 0∧abl (bP (c.leap Y)) 0 (day - c.first Y)=abl ((bP (c.leap Y)).drop i) i left) 0 (day - c.first Y) (Nat.zero_le _) rfl ⟨by omega,by have:=Iz c Y;omega,by rw[Cal.first]at h2;simp only[List.drop_zero];unfold Iu at h2;omega,by simp⟩ (fun i left g1 hix=> ?_) (fun left hix=> ?_)
  ·obtain⟨k1,k2,k3,k4⟩:=hix
   have g2:(i:Int)<((12:Nat):Int):=by omega
   have g3:(0:Int)≤(i:Int):=by omega
   have g6:IntKind.i64.wrap ((i:Int)+1)=((i+1:Nat):Int):=by rw[aG (by omega)];omega
   have g4:i<(bP (c.leap Y)).length:=by omega
   have hmb:=vX _ _ (getD_mem g4)
   rw[drop_cons g4,abl]at k4
   rw[drop_cons g4,jd]at k3
   have hsh:=PE ((bP (c.leap Y)).drop (i+1)) (0+(bP (c.leap Y)).getD i default)
   have u1:IntKind.i64.wrap (left+1)=left+1:=aG (by omega)
   have u2:IntKind.i64.wrap (left - (bP (c.leap Y)).getD i default)=left - (bP (c.leap Y)).getD i default:=aG (by omega)
   simp only[g2,g3,g4,g6,List.length_map,Int.toNat_natCast,getD_map,aW,RN,qA,qB,qC,qD,qE,qF]
   by_cases hlt:left<(bP (c.leap Y)).getD i default
   ·rw[if_pos hlt]at k4
    simp only[hlt,g6,u1,RN,qA,qB,qC,qD,qE,qF]
    rw[Vz,k4,E8]
    rfl
   ·rw[if_neg hlt]at k4
    simp only[hlt,g6,u2,RN,qA,qB,qC,qD,qE,qF]
    exact nU (len:=12) (i:=i) (left - (bP (c.leap Y)).getD i default) g1 rfl ⟨by omega,by omega,by omega,k4⟩
  ·obtain⟨k1,k2,k3,k4⟩:=hix
   rw[List.drop_eq_nil_of_le (by omega),jd]at k3
   omega
def BO:aB:=(.region false [⟨some 2,.alloc 0 [.int .i64 0],[],none,0⟩] 1 [0,2] [])
def BP:aB:=(.seq (.region false [⟨some 4,.mov,[.t 0],none,0⟩,⟨some 5,.jf,[.t 4],none,0⟩] 0 [2] []) (.seq (.region false [⟨none,.store 1,[.t 2,.c (.int .i64 0)],none,0⟩] 0 [2] []) .ret))
def kM:aB:=(.block 0 (.seq (.region false [⟨some 7,.IE false,[.t 5,.c (.nilIface)],none,0⟩] 0 [0,5,7] []) (.cond (.t 7) (.region false [⟨some 1,.mov,[.t 5],none,0⟩] 0 [] []) (.seq (.region false [⟨some 8,.tas T.iR (.agg [.nilIface]),[.t 5],none,0⟩,⟨some 9,.ext 1,[.t 8],none,0⟩,⟨some 10,.ext 0,[.t 8],none,0⟩] 0 [0,5,9,10] []) (.cond (.t 9) (.seq (.region false [⟨some 2,.alloc 0 [.nilIface],[],none,0⟩,⟨none,.store 1,[.t 2,.t 10],none,0⟩] 1 [0] []) (.region false [⟨none,.store 1,[.t 0,.c (.int .i64 7)],none,0⟩] 0 [] [])) (.seq (.region false [⟨some 11,.tas T.uS (.agg [.str ⟨#[]⟩]),[.t 5],none,0⟩,⟨some 12,.ext 1,[.t 11],none,0⟩,⟨some 13,.ext 0,[.t 11],none,0⟩] 0 [0,5,12,13] []) (.cond (.t 12) (.seq (.region false [⟨some 3,.alloc 0 [.str ⟨#[]⟩],[],none,0⟩,⟨none,.store 1,[.t 3,.t 13],none,0⟩] 1 [0] []) (.region false [⟨none,.store 1,[.t 0,.c (.int .i64 4)],none,0⟩] 0 [] [])) (.seq (.region false [⟨some 4,.mov,[.t 5],none,0⟩] 0 [4] []) (.region false [⟨some 6,.mov,[.t 4],none,0⟩,⟨none,.panic,[.t 6],none,0⟩] 0 [] [])))))))))
theorem Qu:Zd C.P F.jY F.Si 1 6 14 2 3 5 BO BP kM=true:=by kernel_rfl
def NZ:aB:=(.region false [⟨some 2,.alloc 0 [.int .i64 0],[],none,0⟩] 1 [0,2] [])
end Go.Tel
