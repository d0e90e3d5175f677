/-
  Part 16 of the proof of a law of desks: an abstract machine over the model, contracts of functions, plain laws.
  Conditions: none.
-/
import Derived.Test.YtbefoehadfnkbaaGreatDoorJourneymanParsesM13
import Derived.Test.YtbefoehadfnkbaaGreatDoorJourneymanParsesM15
set_option linter.all false
set_option maxRecDepth 10000
set_option maxHeartbeats 4000000
open Nat renaming reduceBEq→qA,reduceAdd→qB,reduceSub→qC,reduceEqDiff→qD,reduceLT→qE,reduceLeDiff→qF
namespace Go.Tel
open Go.Am
def Bq {α:Type}(l:List α):Nat:=bif l.isEmpty then 0 else 1
theorem akK {α:Type}{l:List α}{x:α}:Bq (l++ [x])=1:=by cases l<;>rfl
theorem NG {α:Type}{l:List α}:Bq l≠2:=by cases l<;>simp[Bq]
def Jm (l:List Fr):Prop:=∀f∈l,(1≤f.n∧f.n≤777600000)∧1≤f.d∧f.d≤777600000
theorem XH (a b:Fr)(ha:(1≤a.n∧a.n≤777600000)∧1≤a.d∧a.d≤777600000)(hb:(0≤b.n∧b.n≤777600000)∧1≤b.d∧b.d≤777600000):Pure C F.yj [a.dv,b.dv] (.d (.bool (ZE a b))) []:=by
 have a1:=Int.mul_le_mul ha.1.2 hb.2.2 (by omega) (by omega)
 have a2:=Int.mul_nonneg (show 0≤a.n by omega) (show 0≤b.d by omega)
 have a3:=Int.mul_le_mul hb.1.2 ha.2.2 (by omega) (by omega)
 have a4:=Int.mul_nonneg (show 0≤b.n by omega) (show 0≤a.d by omega)
 have e1:IntKind.i64.wrap (a.n*b.d)=a.n*b.d:=aG (by omega)
 have e2:IntKind.i64.wrap (b.n*a.d)=b.n*a.d:=aG (by omega)
 refine ah mixed rfl QM ?_
 simp only[FH,FM,dH,e1,e2,ZE,RN,qA,qB,qC,qD,qE,qF]
theorem Jo {ls:List Lk}(h:linked ls)(hp:∀l∈ls,l.pr.ok=true)(hl:ls.length≤5):Jm (fF ls):=by
 obtain⟨q1,q2⟩:=xE h hp
 intro f hf
 obtain⟨i,hi,rfl⟩:=List.mem_iff_getElem.1 hf
 have hg:(fF ls).getD i default=(fF ls)[i]:=by simp[List.getD_eq_getElem?_getD,hi]
 have:=q1 i hi
 rw[hg]at this
 have hpw:=akh (show i≤5 by omega)
 rw[show(60:Int) ^ 5=777600000 by decide]at hpw
 omega
def EL (rp rq:List Fr):List Int→Nat→List Int
 | [],_=>[]
 |h::hs,i=>(if ZE (rp.getD h.toNat default) (rq.getD h.toNat default)then[]else[(i:Int)])++EL rp rq hs (i+1)
theorem RX (rp rq:List Fr):∀(hs:List Int) (i:Nat),(EL rp rq hs i).length≤hs.length
 | [],_=>Nat.le_refl _
 |h::hs,i=>by
  have:=RX rp rq hs (i+1)
  simp only[EL,List.length_append,List.length_cons]
  split<;>simp<;>omega
def Pc.Bo (p q:Pc):List Int:=EL (fF p.links) (fF q.links) p.hands 0
theorem XU (p q:Pc)(hh:p.hands.length≤1000)(hp:Jm (fF p.links))(hq:Jm (fF q.links))(hn:∀n∈p.hands,1≤n∧n.toNat<(fF p.links).length∧n.toNat<(fF q.links).length):
  SC C F.lH ([xC p,xC q].map .d) bH (fun v M=>Qd M v 1 ((p.Bo q).map ay) (Bq (p.Bo q))) (fun _ _=>False):=by
 refine aF mixed rfl Ll ?_
 simp only[Ai,AA,xC,List.length_map,List.not_mem_nil,RN,qA,qB,qC,qD,qE,qF]
 refine aT p.hands.length (fun i (a:List Int×Nat)=>⟨[(2, .d (.aX [.slice false (p.links.map Lk.dv), .slice false (p.hands.map ay), .slice false ((fF p.links).map Fr.dv)])),(3, .d (.aX [.slice false (q.links.map Lk.dv), .slice false (q.hands.map ay), .slice false ((fF q.links).map Fr.dv)])),(5, .tsl 1 a.2 0),(10, .d (.slice false (p.hands.map ay))),(11, .d (.int .i64 p.hands.length)),(12, .d (.int .i64 i))],
   ⟨[some [.d (.slice false (p.links.map Lk.dv)), .d (.slice false (p.hands.map ay)), .d (.slice false ((fF p.links).map Fr.dv))],some [.d (.slice false (q.links.map Lk.dv)), .d (.slice false (q.hands.map ay)), .d (.slice false ((fF q.links).map Fr.dv))]],[1,0],[some ⟨1,[],0,0⟩,some ⟨1,a.1.map ay,a.2,Bq a.1⟩]⟩⟩)
  (fun i a=>p.Bo q=a.1++EL (fF p.links) (fF q.links) (p.hands.drop i) i∧a.1.length≤i) 0 ([],0) (Nat.zero_le _) rfl ⟨rfl,Nat.le_refl _⟩ (fun i a h1 hix=> ?_) (fun a hix=> ?_)
 ·obtain⟨h2,h3,h6⟩:=rng h1 (by omega)
  obtain⟨hix,hal⟩:=hix
  obtain⟨acc,v⟩:=a
  simp only at hix hal
  rw[drop_cons h1,EL]at hix
  obtain⟨n0,n1,n2⟩:=hn _ (getD_mem h1)
  have n0':0≤p.hands.getD i default:=by omega
  have hs:=XH _ _ (hp _ (getD_mem n1)) ⟨⟨by have:=hq _ (getD_mem n2);omega,(hq _ (getD_mem n2)).1.2⟩,(hq _ (getD_mem n2)).2⟩
  simp only[dH]at hs
  simp only[h2,h1,h3,n0',n1,n2,getD_map,aV,dH,Int.toNat_natCast,List.length_map,RN,qA,qB,qC,qD,qE,qF]
  refine au rfl rfl hs ?_
  cases hc:ZE ((fF p.links).getD (p.hands.getD i default).toNat default) ((fF q.links).getD (p.hands.getD i default).toNat default)
  ·have hal':acc.length≤1073741823:=by omega
   have hst:¬Bq acc=2:=NG
   simp only[jZ,DV.strip,fits_int,forall_eq,h6,List.length_map,hst,RN,qA,qB,qC,qD,qE,qF]
   refine⟨by simp,hal',?_⟩
   rw[hc]at hix
   refine nR (acc++ [(i:Int)],v+1) h1 ?_ ⟨by simpa using hix,by simp;omega⟩ (by simp) (by simp) rfl rfl
   simp[akK,ay]
  ·simp only[h6,RN,qA,qB,qC,qD,qE,qF]
   rw[hc]at hix
   exact nR (acc,v) h1 rfl ⟨by simpa using hix,by simp only;omega⟩ (by simp) (by simp) rfl rfl
 ·obtain⟨hix,hal⟩:=hix
  rw[List.drop_length,EL,List.append_nil]at hix
  simp only[Int.lt_irrefl,RN,qA,qB,qC,qD,qE,qF]
  exact⟨1,a.2,rfl,by rw[hix];rfl⟩
def Pc.Qj (p:Pc)(c:Chg):Bool:=p.ok&&inR c.link 0 (p.links.length - 1)&&c.pr.ok&& !decide (c.pr=(p.links.getD c.link.toNat default).pr)
theorem aga {v x:Pr}:((v.a==x.a)&&(v.b==x.b))=decide (v=x):=by
 cases v;cases x;simp only[Pr.mk.injEq,Bool.decide_and];rfl
theorem IB {p:Pc}{c:Chg}(hg:p.Good)(hc:c.pr.ok=true):(p.changed c).links.length=p.links.length∧linked (p.changed c).links∧(∀l∈(p.changed c).links,l.pr.ok=true):=by
 refine⟨by simp[Pc.changed],fun i hi=> ?_,fun l hl=> ?_⟩
 ·simp only[Pc.changed,List.length_set]at hi
  have:=hg.lk i hi
  by_cases he:c.link.toNat=i
  ·subst he
   simpa[Pc.changed,List.getD_eq_getElem?_getD,hi]using this
  ·simpa[Pc.changed,List.getD_eq_getElem?_getD,List.getElem?_set,he]using this
 ·rcases List.mem_or_eq_of_mem_set hl with h|h
  ·exact hg.pr l h
  ·rw[h];exact hc
theorem ads {p:Pc}{c:Chg}(hg:p.Good)(hc:c.pr.ok=true):Jm (fF p.links)∧Jm (fF (p.changed c).links)∧∀n∈p.hands,1≤n∧n.toNat<(fF p.links).length∧n.toNat<(fF (p.changed c).links).length:=by
 obtain⟨q1,q2,q3⟩:=IB hg hc
 refine⟨Jo hg.lk hg.pr hg.l2,Jo q2 q3 (by have:=hg.l2;omega),fun n hn=> ?_⟩
 have h1:=(xE hg.lk hg.pr).2
 have h2:=(xE q2 q3).2
 have:=hg.hd n hn
 omega
theorem aiy (p:Pc)(c:Chg)(h:p.Qj c=true):Pure C F.AQ [p.dv,c.dv] (.tup [.tsl 0 0 0, .d (.int .i64 0)]) [⟨1,(p.Bo (p.changed c)).map ay,0,Bq (p.Bo (p.changed c))⟩]:=by
 simp only[Pc.Qj,Bool.and_eq_true,Bool.not_eq_true',decide_eq_false_iff_not]at h
 obtain⟨⟨⟨hp,hr⟩,hc⟩,hne⟩:=h
 have hg:=Pc.good hp
 have hr':0≤c.link∧c.link≤(p.links.length:Int) - 1:=by simpa[inR]using hr
 have hlt:c.link.toNat<p.links.length:=by have:=hg.l1;omega
 have hl2:=hg.l2
 have hh2:=hg.h2
 have hi:=zn p (by omega) (by omega)
 obtain⟨q1,q2,q3⟩:=IB hg hc
 obtain⟨r1,r2,r3⟩:=ads hg hc
 have hpr:=aaV c.pr
 have hw:=aa2 p (by omega) hg.lk hg.pr
 have hw2:=aa2 (p.changed c) (by omega) q2 q3
 have hch:=YU p c (by omega) hr'.1 hlt
 have hs:=UZ (XU p (p.changed c) (by omega) r1 r2 r3)
 generalize p.Bo (p.changed c)=sp at hs⊢
 have e1:IntKind.i64.wrap ((p.links.length:Int) - 1)=(p.links.length:Int) - 1:=aG (by omega)
 have hne':((c.pr.a==(p.links.getD c.link.toNat default).pr.a)&&(c.pr.b==(p.links.getD c.link.toNat default).pr.b))=false:=by rw[aga];simpa using hne
 refine vZ mixed rfl Tt ?_
 simp only[lY,KL,yC,xC,Pc.changed]at hi hpr hw hw2 hch hs⊢
 simp only[Hq,Ie,RN,qA,qB,qC,qD,qE,qF]
 refine au rfl rfl hi ?_
 simp only[hp,List.length_map,e1,RN,qA,qB,qC,qD,qE,qF]
 refine au rfl rfl (ML _ _ _) ?_
 simp only[hr,RN,qA,qB,qC,qD,qE,qF]
 refine au rfl rfl hpr ?_
 simp only[hc,hr'.1,hlt,getD_map,JG,List.length_map,Wq,hne',afK,RN,qA,qB,qC,qD,qE,qF]
 refine au rfl rfl hw ?_
 (try simp only[RN,qA,qB,qC,qD,qE,qF])
 refine au rfl rfl hch ?_
 (try simp only[RN,qA,qB,qC,qD,qE,qF])
 refine au rfl rfl hw2 ?_
 (try simp only[RN,qA,qB,qC,qD,qE,qF])
 refine Dw rfl rfl hs (by simp[NG]) ?_
 simp only[PV.shift,lW,RN,qA,qB,qC,qD,qE,qF]
 refine⟨[(0,0)],⟨by simp[Fv],by simp⟩,?_,?_⟩
 ·simp[jd,afy,ren,akp,XJ,Mem.row,Rf]
 ·simp[mkRow]
def jc:List Int→Int→Int
 | [],p=>p
 |x::xs,p=>jc xs (p+x)
theorem agi {B:Int}:∀(l:List Int) (p:Int),(∀x∈l,0≤x∧x≤B)→0≤p→0≤jc l p∧jc l p≤p+l.length*B
 | [],p,_,h=>by simp[jc];omega
 |x::l,p,h,hp=>by
  obtain⟨a,b⟩:=h x (by simp)
  obtain⟨q1,q2⟩:=agi l (p+x) (fun y hy=>h y (by simp[hy])) (by omega)
  refine⟨q1,?_⟩
  have:((l.length+1:Nat):Int)*B=l.length*B+B:=by rw[Int.natCast_add,Int.add_mul];simp
  rw[List.length_cons,this]
  simp only[jc];omega
theorem Dq:∀(l:List Int) (p:Int),(∀x∈l,0≤x)→p≤jc l p
 | [],_,_=>Int.le_refl _
 |x::l,p,h=>by
  have:=Dq l (p+x) fun y hy=>h y (by simp[hy])
  have:=h x (by simp)
  simp only[jc];omega
theorem aoZ (l:List Int)(hl:l.length≤1000000)(hx:∀x∈l,0≤x)(hb:jc l 0≤9223372036854775807):Pure C F.Yb [.slice false (l.map ay)] (.d (.int .i64 (jc l 0))) []:=by
 refine ah mixed rfl acM ?_
 simp only[UU,Vg,List.length_map,RN,qA,qB,qC,qD,qE,qF]
 refine aT l.length (fun i (p:Int)=>⟨[(3, .d (.int .i64 p)),(6, .d (.slice false (l.map ay))),(7, .d (.int .i64 l.length)),(8, .d (.int .i64 i))],⟨[],[],[]⟩⟩)
  (fun i p=>0≤p∧jc l 0=jc (l.drop i) p) 0 0 (Nat.zero_le _) rfl ⟨by omega,rfl⟩ (fun i p h1 hix=> ?_) (fun p hix=> ?_)
 ·obtain⟨h2,h3,h6⟩:=rng h1 hl
  obtain⟨hp,hix⟩:=hix
  rw[drop_cons h1,jc]at hix
  have hx1:=hx _ (getD_mem h1)
  have q2:=Dq (l.drop (i+1)) (p+l.getD i default) (fun y hy=>hx y (List.mem_of_mem_drop hy))
  have e1:IntKind.i64.wrap (p+l.getD i default)=p+l.getD i default:=aG (by omega)
  simp only[h2,h3,h1,h6,aV,getD_map,Int.toNat_natCast,List.length_map,e1,RN,qA,qB,qC,qD,qE,qF]
  exact nR (p+l.getD i default) h1 rfl ⟨by omega,hix⟩ (by simp) (by simp) rfl rfl
 ·obtain⟨hp,hix⟩:=hix
  rw[List.drop_length,jc]at hix
  simp only[Int.lt_irrefl,hix,RN,qA,qB,qC,qD,qE,qF]
def upI (a b:Int):Int:=(a+b - 1).tdiv b
theorem anl (a b:Int)(ha:0≤a∧a≤1000000000000000000)(hb:1≤b∧b≤1000000000000000000):Pure C F.VN [.int .i64 a, .int .i64 b] (.d (.int .i64 (upI a b))) []:=by
 have e1:IntKind.i64.wrap (a+b)=a+b:=aG (by omega)
 have e2:IntKind.i64.wrap (a+b - 1)=a+b - 1:=aG (by omega)
 have b1:=NI (a+b - 1) b
 have e3:IntKind.i64.wrap ((a+b - 1).tdiv b)=(a+b - 1).tdiv b:=aG (by omega)
 have n1:b≠0:=by omega
 refine ah mixed rfl ae9 ?_
 simp only[Xw,XT,e1,e2,e3,n1,upI,RN,qA,qB,qC,qD,qE,qF]
theorem abb (n:Int):Pure C F.Bj [.int .i64 n] (.d (.bool (!bg n))) []:=by
 refine ah mixed rfl PD ?_
 simp only[Ed,EC,RN,qA,qB,qC,qD,qE,qF]
 refine au rfl rfl (Yi n) ?_
 (try simp only[RN,qA,qB,qC,qD,qE,qF])
def NJ (l:List Int):Bool:=decide ((l.length:Int)≤8)&&l.all bg
theorem adM (l:List Int)(hl:l.length≤1000000):Pure C F.Gx [.slice false (l.map ay)] (.d (.bool (NJ l))) []:=by
 refine ah mixed rfl Tv ?_
 simp only[Hr,Ig,List.length_map,RN,qA,qB,qC,qD,qE,qF]
 repeat' first
  |(refine au rfl rfl (wK l _ [] (fun n=> !bg n) hl (by kernel_rfl) (fun n _=>abb n)) ?_;try simp only[List.length_map,RN,qA,qB,qC,qD,qE,qF])
  |(refine bJ (by rfl) (fun hB=> ?_) (fun hB=> ?_)<;>simp only[hB,List.length_map,RN,qA,qB,qC,qD,qE,qF])
  |(refine bZ (by rfl) (fun hB=> ?_) (fun hB=> ?_)<;>simp only[hB,List.length_map,RN,qA,qB,qC,qD,qE,qF])
 all_goals(first|(rw[Iw])|skip)
 all_goals(first|(simp only[NJ, *,Bool.not_true,Bool.not_false,Bool.not_not,Bool.and_true,Bool.true_and,Bool.and_false,Bool.false_and,Bool.or_true,Bool.true_or,Bool.or_false,Bool.false_or,Bool.and_self,Bool.or_self,if_true,if_false,reduceIte,cond_true,cond_false,Bool.false_eq_true];done)|(simp_all[NJ];done)|(simp_all[NJ];omega))
end Go.Tel
namespace Go.Tel
open Go.Am
structure Bil where
 gW:List Int
 mW:Int
 hours:Int
 AX:Int
 pct:Int
 adv:Int
 deriving DecidableEq,Inhabited
def Bil.dv (b:Bil):DV:= .agg [.slice false (b.gW.map ay), .int .i64 b.mW, .int .i64 b.hours, .int .i64 b.AX, .int .i64 b.pct, .int .i64 b.adv]
theorem aej {b:Bil}:b.dv= .agg [.slice false (b.gW.map ay), .int .i64 b.mW, .int .i64 b.hours, .int .i64 b.AX, .int .i64 b.pct, .int .i64 b.adv]:=by rw[Bil.dv]
def Bil.ok (b:Bil):Bool:=NJ b.gW&&inR b.mW 0 1000&&inR b.hours 0 40&&inR b.AX 0 100&&inR b.pct 0 100&&inR b.adv 0 1000000
def Bil.cost (b:Bil):Int:=upI (jc (b.gW.map fun n=>n*n) 0*b.mW) 100+b.hours*b.AX
def Bil.price (b:Bil):Int:=b.cost+upI (b.cost*b.pct) 100
def Bil.ZR (b:Bil):Int×Int×Int:=if b.ok then(b.price,b.price - b.adv,0)else(0,0,2)
theorem Bil.facts {b:Bil}(h:b.ok=true):(b.gW.length≤8∧∀n∈b.gW,4≤n∧n≤60)∧(0≤b.mW∧b.mW≤1000)∧(0≤b.hours∧b.hours≤40)∧(0≤b.AX∧b.AX≤100)∧(0≤b.pct∧b.pct≤100)∧0≤b.adv∧b.adv≤1000000:=by
 simp only[Bil.ok,NJ,bg,inR,Bool.and_eq_true,decide_eq_true_eq,List.all_eq_true,ge_iff_le]at h
 obtain⟨⟨⟨⟨⟨⟨h1,h2⟩,h3⟩,h4⟩,h5⟩,h6⟩,h7⟩:=h
 exact⟨⟨by omega,h2⟩,h3,h4,h5,h6,h7⟩
theorem afz {a:Int}(ha:0≤a):0≤upI a 100∧upI a 100≤a+99:=by
 have:upI a 100=(a+99) / 100:=by
  rw[upI,Int.tdiv_eq_ediv_of_nonneg (by omega)]
  congr 1
  omega
 rw[this];omega
theorem Bil.bds {b:Bil}(h:b.ok=true):(0≤jc (b.gW.map fun n=>n*n) 0∧jc (b.gW.map fun n=>n*n) 0≤28800)∧(0≤jc (b.gW.map fun n=>n*n) 0*b.mW∧jc (b.gW.map fun n=>n*n) 0*b.mW≤28800000)∧
  (0≤b.hours*b.AX∧b.hours*b.AX≤4000)∧(0≤b.cost∧b.cost≤28805000)∧0≤b.cost*b.pct∧b.cost*b.pct≤2880500000:=by
 obtain⟨⟨h1,h2⟩,h3,h4,h5,h6,h7⟩:=Bil.facts h
 have s:=agi (B:=3600) (b.gW.map fun n=>n*n) 0 (fun x hx=>by
  obtain⟨n,hn,rfl⟩:=List.mem_map.1 hx
  obtain⟨a,c⟩:=h2 n hn
  have:=Int.mul_le_mul c c (by omega) (by omega)
  have:=Int.mul_nonneg (show 0≤n by omega) (show 0≤n by omega)
  omega) (Int.le_refl 0)
 rw[List.length_map]at s
 have m1:=Int.mul_le_mul (show jc (b.gW.map fun n=>n*n) 0≤28800 by omega) h3.2 (by omega) (by omega)
 have m2:=Int.mul_nonneg s.1 h3.1
 have m3:=Int.mul_le_mul h4.2 h5.2 (by omega) (by omega)
 have m4:=Int.mul_nonneg h4.1 h5.1
 have u:=afz m2
 have hc:0≤b.cost∧b.cost≤28805000:=by simp only[Bil.cost];omega
 have m5:=Int.mul_le_mul hc.2 h6.2 (by omega) (by omega)
 have m6:=Int.mul_nonneg hc.1 h6.1
 omega
theorem air (b:Bil)(hl:b.gW.length≤1000000):Pure C F.Ny [b.dv] (.d (.tup [.int .i64 b.ZR.1, .int .i64 b.ZR.2.1, .int .i64 b.ZR.2.2])) []:=by
 refine ah mixed rfl aaH ?_
 simp only[QX,Rq,aej,RN,qA,qB,qC,qD,qE,qF]
 repeat' first
  |(refine au rfl rfl (adM b.gW hl) ?_;try simp only[RN,qA,qB,qC,qD,qE,qF])
  |(refine au rfl rfl (ML _ _ _) ?_;try simp only[RN,qA,qB,qC,qD,qE,qF])
  |(refine bJ (by rfl) (fun hB=> ?_) (fun hB=> ?_)<;>simp only[hB,RN,qA,qB,qC,qD,qE,qF])
  |(refine bZ (by rfl) (fun hB=> ?_) (fun hB=> ?_)<;>simp only[hB,RN,qA,qB,qC,qD,qE,qF])
 any_goals (simp_all[Bil.ZR,Bil.ok];done)
 have hok:b.ok=true:=by simp_all[Bil.ok]
 obtain⟨⟨h1,h2⟩,h3,h4,h5,h6,h7⟩:=Bil.facts hok
 obtain⟨s1,s2,s3,s4,s5⟩:=Bil.bds hok
 simp only[List.length_map,RN,qA,qB,qC,qD,qE,qF]
 refine aT b.gW.length (fun i (v:Nat)=>⟨[(1, .d (.aX [.slice false (b.gW.map ay), .int .i64 b.mW, .int .i64 b.hours, .int .i64 b.AX, .int .i64 b.pct, .int .i64 b.adv])),(5, .tsl 0 v 0),(45, .d (.slice false (b.gW.map ay))),(46, .d (.int .i64 b.gW.length)),(47, .d (.int .i64 i))],
   ⟨[some [.d (.slice false (b.gW.map ay)), .d (.int .i64 b.mW), .d (.int .i64 b.hours), .d (.int .i64 b.AX), .d (.int .i64 b.pct), .d (.int .i64 b.adv)]],[0],[some ⟨1,((b.gW.take i).map fun n=>n*n).map ay,v,0⟩]⟩⟩)
  (fun i v=>True) 0 0 (Nat.zero_le _) rfl trivial (fun i v h1' _=> ?_) (fun v _=> ?_)
 ·obtain⟨k2,k3,k6⟩:=rng h1' (by omega)
  obtain⟨t1,t2⟩:=h2 _ (getD_mem h1')
  have m1:=Int.mul_le_mul t2 t2 (by omega) (by omega)
  have m2:=Int.mul_nonneg (show 0≤b.gW.getD i default by omega) (show 0≤b.gW.getD i default by omega)
  have e1:IntKind.i64.wrap (b.gW.getD i default*b.gW.getD i default)=b.gW.getD i default*b.gW.getD i default:=aG (by omega)
  have hlen:(b.gW.take i).length≤1073741823:=by simp;omega
  simp only[k2,k3,h1',k6,aV,getD_map,Int.toNat_natCast,List.length_map,e1,jZ,DV.strip,fits_int,forall_eq,RN,qA,qB,qC,qD,qE,qF]
  (repeat(refine And.intro (by first|assumption|rfl|(simp;done)|(simp;omega)) ?_))
  refine jR 1 1 (v+1) h1' ?_ trivial (by simp) (by simp) rfl rfl
  rw[dQ h1']
  simp[ay]
 ·rw[List.take_length]
  have hs:=aoZ (b.gW.map fun n=>n*n) (by simp;omega) (fun x hx=>by
   obtain⟨n,hn,rfl⟩:=List.mem_map.1 hx
   obtain⟨a,c⟩:=h2 n hn
   exact Int.mul_nonneg (by omega) (by omega)) (by omega)
  have u1:=afz s2.1
  have u2:=afz s5.1
  have e1:IntKind.i64.wrap (jc (b.gW.map fun n=>n*n) 0*b.mW)=jc (b.gW.map fun n=>n*n) 0*b.mW:=aG (by omega)
  have e2:IntKind.i64.wrap (b.hours*b.AX)=b.hours*b.AX:=aG (by omega)
  have e3:IntKind.i64.wrap (upI (jc (b.gW.map fun n=>n*n) 0*b.mW) 100+b.hours*b.AX)=b.cost:=by rw[aG (by omega)];rfl
  have e4:IntKind.i64.wrap (b.cost*b.pct)=b.cost*b.pct:=aG (by omega)
  have e5:IntKind.i64.wrap (b.cost+upI (b.cost*b.pct) 100)=b.price:=by rw[aG (by omega)];rfl
  have e6:IntKind.i64.wrap (b.price - b.adv)=b.price - b.adv:=aG (by simp only[Bil.price];omega)
  simp only[Int.lt_irrefl,RN,qA,qB,qC,qD,qE,qF]
  refine VE rfl hs rfl ?_
  simp only[e1,RN,qA,qB,qC,qD,qE,qF]
  refine au rfl rfl (anl _ _ (by omega) (by omega)) ?_
  simp only[e2,e3,RN,qA,qB,qC,qD,qE,qF]
  simp only[e4,RN,qA,qB,qC,qD,qE,qF]
  refine au rfl rfl (anl _ _ (by omega) (by omega)) ?_
  simp only[e5,e6,RN,qA,qB,qC,qD,qE,qF]
  simp[Bil.ZR,hok]
def oV (p:Pc):List Fr:=⟨1,1⟩::(List.range p.links.length).map fun i=>nP (mV p.links (i+1))
def xZ (p:Pc):List Bool:=true::(List.range p.links.length).map fun i=>((mV p.links (i+1)).length:Int).tmod 2==0
theorem ak3 (p:Pc)(hp:p.ok=true):Pure C F.P6 [p.dv] (.d (.tup [.slice false ((oV p).map Fr.dv), .slice false ((xZ p).map .bool), .int .i64 0])) []:=by
 have hg:=Pc.good hp
 have hl2:=hg.l2
 have hh2:=hg.h2
 have hi:=zn p (by omega) (by omega)
 have ht:=fun(a:Nat) h0 ha=>TW p hg.lk (by omega) a ha h0
 refine gI (aF mixed rfl YF ?_)
 simp only[lY]at hi ht
 simp only[Oy,OL,lY,RN,qA,qB,qC,qD,qE,qF]
 refine au rfl rfl hi ?_
 simp only[hp,Nc (x:= .agg [.int .i64 1, .int .i64 1]) (sz:=2) rfl (by decide),Nc (x:= .bool true) (sz:=1) rfl (by decide),DV.strip,List.length_map,RN,qA,qB,qC,qD,qE,qF]
 refine aT p.links.length (fun i (v:Nat)=>⟨[(1, .d (.aX [.slice false (p.links.map Lk.dv), .slice false (p.hands.map ay)])),(5, .tsl 2 v 0),(6, .tsl 3 v 0),(19, .d (.int .i64 p.links.length)),(20, .d (.int .i64 i))],
   ⟨[some [.d (.slice false (p.links.map Lk.dv)), .d (.slice false (p.hands.map ay))]],[0],[some ⟨2,[],0,0⟩,some ⟨1,[],0,0⟩,some ⟨2,((oV p).take (i+1)).map Fr.dv,v,1⟩,some ⟨1,((xZ p).take (i+1)).map .bool,v,1⟩]⟩⟩)
  (fun i v=>True) 0 0 (Nat.zero_le _) rfl trivial (fun i v h1 _=> ?_) (fun v _=> ?_)
 ·obtain⟨h2,h3,h6⟩:=rng h1 (by omega)
  have htr:=hg.aqc (a:=i+1) (by omega) (by omega)
  obtain⟨_,t2,t3⟩:=Gz htr
  have hT:=ak8 (mV p.links (i+1)) (by omega)
  have e0:Qc (mV p.links (i+1))=(nP (mV p.links (i+1)),((mV p.links (i+1)).length:Int).tmod 2==0,0):=by simp[Qc,htr]
  rw[e0]at hT
  simp only[dH]at hT
  have hr1:(oV p).take (i+1+1)=(oV p).take (i+1)++ [nP (mV p.links (i+1))]:=by
   rw[dQ (by simp[oV];omega)];congr 1
   simp[oV,List.getD_eq_getElem?_getD,h1]
  have hr2:(xZ p).take (i+1+1)=(xZ p).take (i+1)++ [((mV p.links (i+1)).length:Int).tmod 2==0]:=by
   rw[dQ (by simp[xZ];omega)];congr 1
   simp[xZ,List.getD_eq_getElem?_getD,h1]
  have l1:((oV p).take (i+1)).length≤1073741823:=by simp[oV];omega
  have l2:((xZ p).take (i+1)).length≤1073741823:=by simp[xZ];omega
  simp only[h2,h3,h1,h6,RN,qA,qB,qC,qD,qE,qF]
  refine au rfl rfl (ht (i+1) (by omega) (by omega)) ?_
  refine au rfl rfl hT ?_
  simp only[jZ,DV.strip,VH,forall_eq,h6,List.length_map,OZ,RN,qA,qB,qC,qD,qE,qF]
  (repeat(refine And.intro (by first|assumption|rfl|(simp;done)|(simp;omega)) ?_))
  refine jR 1 4 (v+1) h1 ?_ trivial (by simp) (by simp) rfl rfl
  rw[hr1,hr2]
  simp[dH]
 ·have r1:(oV p).take (p.links.length+1)=oV p:=List.take_of_length_le (by simp[oV])
  have r2:(xZ p).take (p.links.length+1)=xZ p:=List.take_of_length_le (by simp[xZ])
  rw[r1,r2]
  simp only[Int.lt_irrefl,bn,dG,RN,qA,qB,qC,qD,qE,qF]
  simp[datum,bW,eU,Mem.row]
end Go.Tel
namespace Go.Tel
open Go.Am
def TU (p q:Pc)(hand:Int)(to:Fr):Bool:=
 ZE ((fF q.links).getD (p.hands.getD hand.toNat default).toNat default) to&&(match p.Bo q with| []=>true| [x]=>x==hand| _=>false)
theorem amU (p q:Pc)(hand:Int)(to:Fr)(h0:0≤hand)(h1:hand.toNat<p.hands.length)(hh:p.hands.length≤1000)(hp:Jm (fF p.links))(hq:Jm (fF q.links))(hn:∀n∈p.hands,1≤n∧n.toNat<(fF p.links).length∧n.toNat<(fF q.links).length)(ht:to.ok=true):
  Pure C F.zB [xC p,xC q, .int .i64 hand,to.dv] (.d (.bool (TU p q hand to))) []:=by
 have hs:=gI (SC.mono (XU p q hh hp hq hn) fun _ _ h=>h.datum)
 obtain⟨n0,n1,n2⟩:=hn _ (getD_mem h1)
 have n0':0≤p.hands.getD hand.toNat default:=by omega
 have ht':(0≤to.n∧to.n≤50000)∧1≤to.d∧to.d≤50000:=by
  simp only[Fr.ok,inR,Bool.and_eq_true,decide_eq_true_eq,ge_iff_le]at ht;exact ht
 have hsm:=XH _ to (hq _ (getD_mem n2)) ⟨⟨ht'.1.1,by omega⟩,ht'.2.1,by omega⟩
 refine ah mixed rfl NW ?_
 simp only[xC,dH]at hs hsm⊢
 simp only[BP,CG,h0,h1,n0',n2,getD_map,aV,dH,List.length_map,RN,qA,qB,qC,qD,qE,qF]
 refine au rfl rfl hsm ?_
 cases hc:ZE ((fF q.links).getD (p.hands.getD hand.toNat default).toNat default) to
 ·(try simp only[RN,qA,qB,qC,qD,qE,qF])
  simp only[TU,hc,Bool.false_and]
 ·(try simp only[RN,qA,qB,qC,qD,qE,qF])
  refine au rfl rfl hs ?_
  have hsu:TU p q hand to=(match p.Bo q with| []=>true| [x]=>x==hand| _=>false):=by simp only[TU,hc,Bool.true_and]
  rw[hsu]
  generalize p.Bo q=sp
  simp only[List.length_map,RN,qA,qB,qC,qD,qE,qF]
  match sp with
  | []=>simp only[Int.natCast_zero,BEq.rfl,RN,qA,qB,qC,qD,qE,qF]
  | [x]=>
   have e1:((((0+1:Nat):Int))==0)=false:=by decide
   have e2:((((0+1:Nat):Int))==1)=true:=by decide
   simp only[e1,e2,aV,Int.le_refl,Int.toNat_zero,RN,qA,qB,qC,qD,qE,qF]
  |x::y::l=>
   have e1:((((l.length+1+1:Nat):Int))==0)=false:=by simp;omega
   have e2:((((l.length+1+1:Nat):Int))==1)=false:=by simp;omega
   simp only[e1,e2,List.length_map,RN,qA,qB,qC,qD,qE,qF]
theorem aai {bs:List (Option (List PV))}{fz:List Nat}{ar:List (Option Arr)}{K:St→Prop}{k ver skip t sz st:Nat}{ts:List Nat}{xs:List DV}{env:List (Nat×PV)}(h:ar[k]?=some (some ⟨sz,xs,ver,st⟩)):
  Yx (.tsl k ver skip) t ts K env ⟨bs,fz,ar⟩=zW ts K ⟨(t, .d (.slice false (xs.drop skip)))::env,⟨bs,fz,ar.set k (some ⟨sz,xs,ver,2⟩)⟩⟩:=by
 have hl:=(List.getElem?_eq_some_iff.1 h).1
 have e:ar.modify k (Option.map fun A=>{A with st:=2})=ar.set k (some ⟨sz,xs,ver,2⟩):=by
  apply List.ext_getElem?
  intro i
  rw[List.getElem?_modify,List.getElem?_set]
  by_cases hi:k=i
  ·subst hi;simp only[h,hl,if_true,Option.map_some];rfl
  ·simp[hi]
 simp[Yx,datum,Mem.row,h,Mem.frz,oC,oD,Qv,e]
theorem an8 {K:St→Prop}{t:Nat}{ts:List Nat}{x:DV}{env:List (Nat×PV)}{M:Mem}:Yx (.d x) t ts K env M=zW ts K ⟨(t, .d x)::env,M⟩:=by
 have:=KU (M:=M) (ds:=[x])
 simp only[List.map_cons,List.map_nil]at this
 simp only[Yx,datum,this]
theorem FV {nb na:Nat}{α:Type}{a:α}{E:α→St}{P:α→Prop}{μ:α→Nat}{env:List (Nat×PV)}{m:Mem}(a':α)(hn:μ a'<μ a)(hs:(⟨env,m⟩:St)=E a')(hP:P a'):
  ∃n' s'',n'<μ a∧Weak nb na ⟨env,m⟩ s''∧whJ E P μ n' s'':=⟨μ a',_,hn, .inl rfl,a',rfl,hs,hP⟩
def abk (p:Pc)(link:Nat)(a:Int):Nat→Int→List Chg
 |0,_=>[]
 |k+1,b=>(if(⟨a,b⟩:Pr)=(p.links.getD link default).pr then[]else[⟨link,⟨a,b⟩⟩])++abk p link a k (b+1)
def YQ (p:Pc)(least:Int)(w:Nat)(link:Nat):Nat→Int→List Chg
 |0,_=>[]
 |k+1,a=>abk p link a w least++YQ p least w link k (a+1)
def Ue (p:Pc)(least:Int)(w:Nat):Nat→Nat→List Chg
 |0,_=>[]
 |k+1,link=>YQ p least w link w least++Ue p least w k (link+1)
def jM (p:Pc)(hand:Int)(to:Fr)(least:Int)(w:Nat):Nat→Pc→Nat→Option (List Chg)
 |0,now,_=>if TU p now hand to then some []else none
 |k+1,now,fr=>(Ue p least w (p.links.length - fr) fr).findSome? fun c=>(jM p hand to least w k (now.changed c) (c.link.toNat+1)).map (c::·)
theorem AP {p:Pc}{hand:Int}{to:Fr}{least:Int}{w:Nat}:∀{k:Nat} {now:Pc} {fr:Nat} {l:List Chg},jM p hand to least w k now fr=some l→l.length=k
 |0,now,fr,l,h=>by
  simp only[jM]at h
  split at h
  ·cases h;rfl
  ·cases h
 |k+1,now,fr,l,h=>by
  simp only[jM]at h
  obtain⟨c,_,h⟩:=List.exists_of_findSome?_eq_some h
  rw[Option.map_eq_some_iff]at h
  obtain⟨m,h1,rfl⟩:=h
  rw[List.length_cons,AP h1]
theorem aiT (xs:List Chg):∀y∈xs.map Chg.dv,y.fits 3=true:=by
 intro y hy;obtain⟨n,_,rfl⟩:=List.mem_map.1 hy;rfl
def Nj (r:Option (List Chg)):DV:= .tup [.slice false ((r.getD []).map Chg.dv), .bool r.isSome]
def Pc.changes (p:Pc)(least most hand:Int)(f:Fr):List Chg×Int:=
 if p.ok&&(bg least&&bg most&&decide (least≤most))&&decide (most - least≤10)&&inR hand 0 (p.hands.length - 1)&&f.ok then
  (match jM p hand f least (most - least+1).toNat 0 p 0 with
  |some l=>(l,0)
  |none=>match jM p hand f least (most - least+1).toNat 1 p 0 with
   |some l=>(l,0)
   |none=>match jM p hand f least (most - least+1).toNat 2 p 0 with
    |some l=>(l,0)
    |none=>([],5))
 else([],2)
structure Now (p now:Pc):Prop where
 len:now.links.length=p.links.length
 lk:linked now.links
 pr:∀l∈now.links,l.pr.ok=true
theorem Now.changed {p now:Pc}(h:Now p now){c:Chg}(hc:c.pr.ok=true):Now p (now.changed c):=by
 refine⟨by simp[Pc.changed,h.len],fun i hi=> ?_,fun l hl=> ?_⟩
 ·simp only[Pc.changed,List.length_set]at hi
  have:=h.lk i hi
  by_cases he:c.link.toNat=i
  ·subst he
   simpa[Pc.changed,List.getD_eq_getElem?_getD,hi]using this
  ·simpa[Pc.changed,List.getD_eq_getElem?_getD,List.getElem?_set,he]using this
 ·rcases List.mem_or_eq_of_mem_set hl with h'|h'
  ·exact h.pr l h'
  ·rw[h'];exact hc
section
variable {p:Pc}{hand:Int}{to:Fr}{least most:Int}{bs:Nat}
def ZV (p:Pc):DV:= .aX [.slice false (p.links.map Lk.dv), .slice false (p.hands.map ay), .slice false ((fF p.links).map Fr.dv)]
def afM (p:Pc):DV:= .aX [.slice false (p.links.map Lk.dv), .slice false (p.hands.map ay)]
def searchFn (p:Pc)(hand:Int)(to:Fr)(least most:Int)(bs:Nat):PV:=
 .func (.func F.yc) [] [.d (ZV p), .d (.aX [.int .i64 hand]), .d (.aX [.int .i64 to.n, .int .i64 to.d]), .d (afM p), .d (.aX [.int .i64 least]), .d (.aX [.int .i64 most]), .ptr bs 0]
def SearchM (p:Pc)(hand:Int)(to:Fr)(least most:Int)(bs:Nat)(M M':Mem):Prop:=
 M'.boxes[bs]?=some (some [searchFn p hand to least most bs])∧M.boxes.length≤M'.boxes.length∧M.aA.length≤M'.aA.length∧∀i∈M'.fz,i<M'.boxes.length
theorem ah3 (hg:p.Good)(h0:0≤hand)(h1:hand.toNat<p.hands.length)(hto:to.ok=true)(hle:bg least=true)(hmo:bg most=true)(hlm:least≤most):
  ∀(k:Nat) (now:Pc) (fr:Nat) (M:Mem),k≤2→Now p now→fr≤p.links.length→M.boxes[bs]?=some (some [searchFn p hand to least most bs])→(∀i∈M.fz,i<M.boxes.length)→
   SC C F.yc [.d now.dv, .d (.int .i64 fr), .d (.int .i64 k), .d (ZV p), .d (.aX [.int .i64 hand]), .d (.aX [.int .i64 to.n, .int .i64 to.d]), .d (afM p), .d (.aX [.int .i64 least]), .d (.aX [.int .i64 most]), .ptr bs 0] M
    (fun v M'=>v= .d (Nj (jM p hand to least (most - least+1).toNat k now fr))∧SearchM p hand to least most bs M M') (fun _ _=>False):=by
 intro k
 induction k with
 |zero=>
  intro now fr ⟨bx,fz,ar⟩ hk hN hfr hbx hfz
  simp only at hbx hfz
  refine aF mixed rfl FB ?_
  have hl2:=hg.l2
  have hw:=aa2 now (by have:=hN.len;omega) hN.lk hN.pr
  have hsu:=amU p now hand to h0 h1 (by have:=hg.h2;omega) (Jo hg.lk hg.pr hg.l2) (Jo hN.lk hN.pr (by have:=hN.len;omega)) (fun n hn=>by
   have a1:=(xE hg.lk hg.pr).2
   have a2:=(xE hN.lk hN.pr).2
   have a3:=hg.hd n hn
   have:=hN.len
   omega) hto
  simp only[lY,xC,dH]at hw hsu⊢
  simp only[xk,xR,E8,VD,Int.natCast_zero,BEq.rfl,ZV,afM,RN,qA,qB,qC,qD,qE,qF]
  refine au rfl rfl hw ?_
  refine au rfl rfl hsu ?_
  simp only[aai (k:=(ar++ [some (⟨3,[],0,0⟩:Arr)]).length) E8,List.drop_nil,RN,qA,qB,qC,qD,qE,qF]
  have hb':(bx++ [some [PV.d (.slice false (now.links.map Lk.dv)), .d (.slice false (now.hands.map ay))]])[bs]?=some (some [searchFn p hand to least most bs]):=by rw[List.getElem?_append_left (List.getElem?_eq_some_iff.1 hbx).1];exact hbx
  refine⟨?_,hb',by simp,by simp,fun i hi=> ?_⟩
  rotate_left
  ·rcases List.mem_cons.1 hi with rfl|hi
   ·simp
   ·have:=hfz i hi;simp;omega
  cases hc:TU p now hand to<;>simp only[jM,hc]<;>rfl
 |succ k ih=>
  intro now fr ⟨bx,fz,ar⟩ hk hN hfr hbx hfz
  simp only at hbx hfz
  refine aF mixed rfl FB ?_
  have hl2:=hg.l2
  have hle':4≤least∧least≤60:=by simp only[bg,inR,Bool.and_eq_true,decide_eq_true_eq,ge_iff_le]at hle;exact hle
  have arC:4≤most∧most≤60:=by simp only[bg,inR,Bool.and_eq_true,decide_eq_true_eq,ge_iff_le]at hmo;exact hmo
  obtain⟨w,hw⟩:∃w:Nat,most - least+1=w:=⟨(most - least+1).toNat,by omega⟩
  obtain⟨R,hR⟩:∃R,R=jM p hand to least (most - least+1).toNat (k+1) now fr:=⟨_,rfl⟩
  obtain⟨f,hf⟩:∃f:Chg→Option (List Chg),f=fun c=>(jM p hand to least (most - least+1).toNat k (now.changed c) (c.link.toNat+1)).map (c::·):=⟨_,rfl⟩
  have hR0:R=(Ue p least w (p.links.length - fr) fr).findSome? f:=by rw[hR,hf];simp only[jM,hw,Int.toNat_natCast]
  rw[←hR]
  have hne:(((k+1:Nat):Int)==0)=false:=by simp;omega
  have ek:IntKind.i64.wrap (((k+1:Nat):Int) - 1)=(k:Int):=by rw[aG (by omega)];omega
  have hb':(bx++ [some [PV.d (.slice false (now.links.map Lk.dv)), .d (.slice false (now.hands.map ay))]])[bs]?=some (some [searchFn p hand to least most bs]):=by rw[List.getElem?_append_left (List.getElem?_eq_some_iff.1 hbx).1];exact hbx
  simp only[lY]
  simp only[xk,xR,E8,VD,hne,ZV,afM,aai (k:=ar.length) E8,List.drop_nil,RN,qA,qB,qC,qD,qE,qF]
  refine qR (fun(q:Nat×Mem)=>⟨[(2, .d (.int .i64 ((k+1:Nat):Int))),(6, .d (.aX [.slice false (p.links.map Lk.dv), .slice false (p.hands.map ay)])),(7, .d (.aX [.int .i64 least])),(8, .d (.aX [.int .i64 most])),(9, .ptr bs 0),(10, .d (.aX [.slice false (now.links.map Lk.dv), .slice false (now.hands.map ay)])),(15, .d (.int .i64 q.1))],q.2⟩)
   (fun q=>q.1≤p.links.length∧SearchM p hand to least most bs ⟨bx,fz,ar⟩ q.2∧R=(Ue p least w (p.links.length - q.1) q.1).findSome? f) (fun q=>p.links.length - q.1) (fr,_) rfl ⟨hfr,⟨hb',by simp,by simp,fun i hi=>by
    rcases List.mem_cons.1 hi with rfl|hi
    ·simp
    ·have:=hfz i hi;simp;omega⟩,hR0⟩ ?_
  rintro⟨link,M1⟩ ⟨g1,g2,g3⟩
  simp only at g1 g2 g3⊢
  by_cases hlt:link<p.links.length
  case neg=>
   have hlt':¬((link:Int)<(p.links.length:Int)):=by omega
   have:p.links.length - link=0:=by omega
   rw[this,Ue,List.findSome?_nil]at g3
   simp only[hlt',List.length_map,RN,qA,qB,qC,qD,qE,qF]
   obtain⟨b1,f1,a1⟩:=M1
   simp only[aai (k:=a1.length) E8,List.drop_nil,RN,qA,qB,qC,qD,qE,qF]
   exact⟨by rw[g3];rfl,g2.1,g2.2.1,Nat.le_trans g2.2.2.1 (by simp),g2.2.2.2⟩
  have hlt':((link:Int)<(p.links.length:Int)):=by omega
  obtain⟨n1,hn1⟩:∃n1,p.links.length - link=n1+1:=⟨p.links.length - link - 1,by omega⟩
  have hn1':p.links.length - (link+1)=n1:=by omega
  rw[hn1,Ue]at g3
  simp only[hlt',List.length_map,RN,qA,qB,qC,qD,qE,qF]
  refine qR (fun(q:Nat×Mem)=>⟨[(2, .d (.int .i64 ((k+1:Nat):Int))),(6, .d (.aX [.slice false (p.links.map Lk.dv), .slice false (p.hands.map ay)])),(7, .d (.aX [.int .i64 least])),(8, .d (.aX [.int .i64 most])),(9, .ptr bs 0),(10, .d (.aX [.slice false (now.links.map Lk.dv), .slice false (now.hands.map ay)])),(15, .d (.int .i64 link)),(16, .d (.int .i64 (least+(w - q.1:Nat))))],q.2⟩)
   (fun q=>q.1≤w∧SearchM p hand to least most bs ⟨bx,fz,ar⟩ q.2∧R=(YQ p least w link q.1 (least+(w - q.1:Nat))++Ue p least w n1 (link+1)).findSome? f) (fun q=>q.1) (w,M1) (by simp) ⟨Nat.le_refl _,g2,by simpa using g3⟩ ?_
  rintro⟨m,M2⟩ ⟨k1,k2,k3⟩
  simp only at k1 k2 k3⊢
  match m,k1,k3 with
  |0,k1,k3=>
   have hgt:¬(least+((w - 0:Nat):Int)≤most):=by omega
   have h6:IntKind.i64.wrap ((link:Int)+1)=((link+1:Nat):Int):=by rw[aG (by omega)];omega
   simp only[hgt,h6,RN,qA,qB,qC,qD,qE,qF]
   refine FV (μ:=fun q:Nat×Mem=>p.links.length - q.1) (a:=(link,M1)) (link+1,M2) (by simp only;omega) rfl ⟨by simp only;omega,k2,?_⟩
   simp only[hn1']
   simpa[YQ]using k3
  |m+1,k1,k3=>
   obtain⟨a,ha⟩:∃a:Int,a=least+((w - (m+1):Nat):Int):=⟨_,rfl⟩
   have hle2:a≤most:=by omega
   have hw16:IntKind.i64.wrap (a+1)=least+((w - m:Nat):Int):=by rw[aG (by omega)];omega
   have ha1:a+1=least+((w - m:Nat):Int):=by omega
   simp only[←ha]at k3⊢
   rw[YQ,ha1,List.append_assoc]at k3
   simp only[hle2,RN,qA,qB,qC,qD,qE,qF]
   refine qR (fun(q:Nat×Mem)=>⟨[(2, .d (.int .i64 ((k+1:Nat):Int))),(6, .d (.aX [.slice false (p.links.map Lk.dv), .slice false (p.hands.map ay)])),(7, .d (.aX [.int .i64 least])),(8, .d (.aX [.int .i64 most])),(9, .ptr bs 0),(10, .d (.aX [.slice false (now.links.map Lk.dv), .slice false (now.hands.map ay)])),(15, .d (.int .i64 link)),(16, .d (.int .i64 a)),(17, .d (.int .i64 (least+(w - q.1:Nat))))],q.2⟩)
    (fun q=>q.1≤w∧SearchM p hand to least most bs ⟨bx,fz,ar⟩ q.2∧R=(abk p link a q.1 (least+(w - q.1:Nat))++(YQ p least w link m (least+(w - m:Nat))++Ue p least w n1 (link+1))).findSome? f) (fun q=>q.1) (w,M2) (by simp) ⟨Nat.le_refl _,k2,by simpa using k3⟩ ?_
   rintro⟨v,⟨b3,f3,a3⟩⟩ ⟨q1,q2,q3⟩
   simp only at q1 q2 q3⊢
   match v,q1,q3 with
   |0,q1,q3=>
    have hgt:¬(least+((w - 0:Nat):Int)≤most):=by omega
    simp only[hgt,hw16,RN,qA,qB,qC,qD,qE,qF]
    exact FV (μ:=fun q:Nat×Mem=>q.1) (a:=(m+1,M2)) (m,⟨b3,f3,a3⟩) (by simp only;omega) rfl ⟨by simp only;omega,q2,by simpa[abk]using q3⟩
   |v+1,q1,q3=>
    obtain⟨b,hb⟩:∃b:Int,b=least+((w - (v+1):Nat):Int):=⟨_,rfl⟩
    have hle3:b≤most:=by omega
    have apT:IntKind.i64.wrap (b+1)=least+((w - v:Nat):Int):=by rw[aG (by omega)];omega
    have hb1:b+1=least+((w - v:Nat):Int):=by omega
    simp only[←hb]at q3⊢
    rw[abk,hb1]at q3
    have hl0:(0:Int)≤(link:Int):=by omega
    obtain⟨s1,s2,s3,s4⟩:=q2
    simp only at s1 s2 s3 s4
    have hnf:¬b3.length∈f3:=fun h=>by have:=s4 _ h;omega
    have hbl:=(List.getElem?_eq_some_iff.1 s1).1
    simp only[hle3,E8,VD,hnf,hl0,hlt,getD_map,Int.toNat_natCast,List.length_map,JG,Wq,afK,RN,qA,qB,qC,qD,qE,qF]
    cases he:((a==(p.links.getD link default).pr.a)&&(b==(p.links.getD link default).pr.b))
    ·(try simp only[RN,qA,qB,qC,qD,qE,qF])
     have he':¬(⟨a,b⟩:Pr)=(p.links.getD link default).pr:=by have:=aga (v:=⟨a,b⟩) (x:=(p.links.getD link default).pr);rw[this]at he;simpa using he
     rw[if_neg he',List.singleton_append,List.cons_append,List.findSome?_cons]at q3
     have hb4:∀x,(b3++ [x])[bs]?=some (some [searchFn p hand to least most bs]):=fun x=>by rw[List.getElem?_append_left hbl];exact s1
     have aqp:∀x:Option (List PV),bs<(b3++ [x]).length:=fun x=>by simp;omega
     have hlk:IntKind.i64.wrap ((link:Int)+1)=((link+1:Nat):Int):=by rw[aG (by omega)];omega
     have hlen:=hN.len
     have hcp:(⟨a,b⟩:Pr).ok=true:=by simp[Pr.ok,bg,inR];omega
     have hch:=YU now ⟨link,⟨a,b⟩⟩ (by omega) hl0 (by simp;omega)
     simp only[lY,KL]at hch
     simp only[hb4,aqp,searchFn,ek,hlk,RN,qA,qB,qC,qD,qE,qF]
     refine au rfl rfl hch ?_
     have hst:(jM p hand to least (most - least+1).toNat k (now.changed ⟨link,⟨a,b⟩⟩) (link+1)).map ((⟨link,⟨a,b⟩⟩:Chg)::·)=f ⟨link,⟨a,b⟩⟩:=by rw[hf];rfl
     obtain⟨bx4,alP⟩:∃bx4,bx4=b3++ [some [PV.d (DV.int IntKind.i64 (link:Int)),PV.d (DV.int IntKind.i64 a),PV.d (DV.int IntKind.i64 b)]]:=⟨_,rfl⟩
     have hb5:bx4[bs]?=some (some [searchFn p hand to least most bs]):=by rw[alP];exact hb4 _
     have hf5:∀i∈b3.length::f3,i<bx4.length:=fun i hi=>by
      rw[alP]
      rcases List.mem_cons.1 hi with rfl|hi
      ·simp
      ·have:=s4 i hi;simp;omega
     have hih:=ih (now.changed ⟨link,⟨a,b⟩⟩) (link+1) ⟨bx4,b3.length::f3,a3⟩ (by omega) (hN.changed hcp) (by omega) hb5 hf5
     simp only[lY]at hih
     rw[←alP]
     refine Qq (args:=[_,_,_]) (by kernel_rfl) (fs:=[]) ?_
     refine SC.mono hih ?_
     rintro v1 ⟨b6,f6,a6⟩ ⟨rfl,r1,r2,r3,r4⟩
     simp only at r1 r2 r3 r4
     have hl6:b3.length+1≤b6.length:=by rw[alP]at r2;simpa using r2
     cases hS:jM p hand to least (most - least+1).toNat k (now.changed ⟨link,⟨a,b⟩⟩) (link+1)with
     |none=>
      rw[hS]at hst
      rw[←hst]at q3
      simp only[Nj,Option.isSome_none,apT,RN,qA,qB,qC,qD,qE,qF]
      exact FV (μ:=fun q:Nat×Mem=>q.1) (a:=(v+1,⟨b3,f3,a3⟩)) (v,⟨b6,f6,a6⟩) (by simp only;omega) rfl ⟨by simp only;omega,⟨r1,by simp only;omega,by simp only;omega,r4⟩,q3⟩
     |some l=>
      rw[hS]at hst
      rw[←hst]at q3
      simp only[Nj,Option.isSome_some,Option.getD_some,zi,DV.strip,OZ,RN,qA,qB,qC,qD,qE,qF]
      have hll:=AP hS
      refine⟨aiT l,(fun h=>by cases h),(fun y hy=>by subst hy;rfl),by rw[List.length_map];omega,?_⟩
      simp only[aai (k:=a6.length) E8,an8,List.drop_zero,RN,qA,qB,qC,qD,qE,qF]
      exact⟨by rw[q3];simp[Nj,KL],r1,by simp only;omega,by simp;omega,r4⟩
    ·have he':(⟨a,b⟩:Pr)=(p.links.getD link default).pr:=by have:=aga (v:=⟨a,b⟩) (x:=(p.links.getD link default).pr);rw[this]at he;simpa using he
     rw[if_pos he',List.nil_append]at q3
     simp only[apT,RN,qA,qB,qC,qD,qE,qF]
     refine FV (μ:=fun q:Nat×Mem=>q.1) (a:=(v+1,⟨b3,f3,a3⟩)) (v,_) (by simp only;omega) rfl ⟨by simp only;omega,⟨?_,by simp;omega,s3,fun i hi=> ?_⟩,q3⟩
     ·rw[List.getElem?_append_left hbl];exact s1
     ·rcases List.mem_cons.1 hi with rfl|hi
      ·simp
      ·have:=s4 i hi;simp;omega
end
theorem akJ (a b:Int):Pure C F.Jw [.int .i64 a, .int .i64 b] (.d (.bool (bg a&&bg b&&decide (a≤b)))) []:=by
 refine ah mixed rfl Vy ?_
 simp only[JU,J6,RN,qA,qB,qC,qD,qE,qF]
 repeat' first
  |(refine au rfl rfl (Yi _) ?_;try simp only[RN,qA,qB,qC,qD,qE,qF])
  |(refine bJ (by rfl) (fun hB=> ?_) (fun hB=> ?_)<;>simp only[hB,RN,qA,qB,qC,qD,qE,qF])
  |(refine bZ (by rfl) (fun hB=> ?_) (fun hB=> ?_)<;>simp only[hB,RN,qA,qB,qC,qD,qE,qF])
 all_goals(first|(simp only[bg, *,Bool.not_true,Bool.not_false,Bool.not_not,Bool.and_true,Bool.true_and,Bool.and_false,Bool.false_and,Bool.or_true,Bool.true_or,Bool.or_false,Bool.false_or,Bool.and_self,Bool.or_self,if_true,if_false,reduceIte,cond_true,cond_false,Bool.false_eq_true];done)|(simp_all[bg];done)|(simp_all[bg];omega))
theorem ags (p:Pc)(least most hand:Int)(f:Fr)(hl:p.links.length≤1000)(hh:p.hands.length≤1000)(hb: -1000000≤most∧most≤1000000)(ha: -1000000≤least∧least≤1000000):
  Pure C F.Ju [p.dv, .int .i64 least, .int .i64 most, .int .i64 hand,f.dv] (.d (.tup [.slice ((p.changes least most hand f).2 !=0) ((p.changes least most hand f).1.map Chg.dv), .int .i64 (p.changes least most hand f).2])) []:=by
 have hi:=zn p hl hh
 have hfr:=amQ f
 have e1:IntKind.i64.wrap ((p.hands.length:Int) - 1)=(p.hands.length:Int) - 1:=aG (by omega)
 have e2:IntKind.i64.wrap (most - least)=most - least:=aG (by omega)
 refine ah mixed rfl Vu ?_
 simp only[lY,dH]at hi hfr⊢
 simp only[JO,J3,RN,qA,qB,qC,qD,qE,qF]
 repeat' first
  |(refine au rfl rfl (hi) ?_;try simp only[e1,e2,List.length_map,RN,qA,qB,qC,qD,qE,qF])
  |(refine au rfl rfl (akJ _ _) ?_;try simp only[e1,e2,List.length_map,RN,qA,qB,qC,qD,qE,qF])
  |(refine au rfl rfl (ML _ _ _) ?_;try simp only[e1,e2,List.length_map,RN,qA,qB,qC,qD,qE,qF])
  |(refine au rfl rfl (hfr) ?_;try simp only[e1,e2,List.length_map,RN,qA,qB,qC,qD,qE,qF])
  |(refine bJ (by rfl) (fun hB=> ?_) (fun hB=> ?_)<;>simp only[hB,e1,e2,List.length_map,RN,qA,qB,qC,qD,qE,qF])
  |(refine bZ (by rfl) (fun hB=> ?_) (fun hB=> ?_)<;>simp only[hB,e1,e2,List.length_map,RN,qA,qB,qC,qD,qE,qF])
 all_goals first
  |(
   have hno:p.changes least most hand f=([],2):=by
    rw[Pc.changes,if_neg]
    intro hh
    simp only[Bool.and_eq_true,decide_eq_true_eq]at hh
    obtain⟨⟨⟨⟨q1,⟨q2,q3⟩,q4⟩,q5⟩,q6⟩,q7⟩:=hh
    have q4':¬most<least:=by omega
    have q5':¬10<most - least:=by omega
    simp_all
    done
   rw[hno]
   rfl)
  |skip
 have hp:p.ok=true:=by simp_all
 have h2:(bg least&&bg most&&decide (least≤most))=true:=by simp_all
 have h3:most - least≤10:=by simp_all
 have h4:inR hand 0 ((p.hands.length:Int) - 1)=true:=by simp_all
 have h5:f.ok=true:=by simp_all
 have hg:=Pc.good hp
 have hl2:=hg.l2
 have h2':bg least=true∧bg most=true∧least≤most:=by simpa[and_assoc]using h2
 have h4':0≤hand∧hand≤(p.hands.length:Int) - 1:=by simpa[inR]using h4
 have apy:p.changes least most hand f=(match jM p hand f least (most - least+1).toNat 0 p 0 with
  |some l=>(l,0)
  |none=>match jM p hand f least (most - least+1).toNat 1 p 0 with
   |some l=>(l,0)
   |none=>match jM p hand f least (most - least+1).toNat 2 p 0 with
    |some l=>(l,0)
    |none=>([],5)):=by
  simp only[Pc.changes,hp,h2,h4,h5,decide_eq_true h3,Bool.and_self,if_true]
 have hw:=aa2 p (by omega) hg.lk hg.pr
 simp only[lY,xC]at hw
 refine au rfl rfl hw ?_
 simp only[pJ,cells_func,acO,Option.map_none,RN,qA,qB,qC,qD,qE,qF]
 have hlt:hand.toNat<p.hands.length:=by have:=hg.h1;omega
 have hN:Now p p:=⟨rfl,hg.lk,hg.pr⟩
 refine aT 3 (fun i (M':Mem)=>⟨[(5, .d (.aX [.slice false (p.links.map Lk.dv), .slice false (p.hands.map ay)])),(14, .ptr 7 0),(55, .d (.int .i64 i))],M'⟩)
  (fun i M'=>M'.boxes[7]?=some (some [searchFn p hand f least most 7])∧(∀j∈M'.fz,j<M'.boxes.length)∧∀j,j<i→jM p hand f least (most - least+1).toNat j p 0=none) 0 _ (by decide) rfl ⟨rfl,by simp,by simp⟩ (fun i M' h1 hix=> ?_) (fun M' hix=> ?_)
 ·obtain⟨b1,f1,a1⟩:=M'
  obtain⟨q1,q2,q3⟩:=hix
  simp only at q1 q2
  have hi3:((i:Int)<3):=by omega
  have h6:IntKind.i64.wrap ((i:Int)+1)=((i+1:Nat):Int):=by rw[aG (by omega)];omega
  have hss:=ah3 (bs:=7) hg h4'.1 hlt h5 h2'.1 h2'.2.1 h2'.2.2 i p 0 ⟨b1,f1,a1⟩ (by omega) hN (by omega) q1 q2
  simp only[lY,Int.natCast_zero]at hss
  simp only[hi3,q1,searchFn,RN,qA,qB,qC,qD,qE,qF]
  refine Qq (args:=[_,_,_]) (by kernel_rfl) (fs:=[]) ?_
  refine SC.mono hss ?_
  rintro v1 ⟨b2,f2,a2⟩ ⟨rfl,r1,r2,r3,r4⟩
  simp only at r1 r2 r3 r4
  cases hS:jM p hand f least (most - least+1).toNat i p 0 with
  |none=>
   simp only[Nj,Option.isSome_none,h6,RN,qA,qB,qC,qD,qE,qF]
   refine lI (len:=3) (i:=i) ⟨b2,f2,a2⟩ h1 rfl ⟨r1,r4,fun j hj=> ?_⟩
   by_cases hji:j=i
   ·rw[hji];exact hS
   ·exact q3 j (by omega)
  |some l=>
   simp only[Nj,Option.isSome_some,Option.getD_some,RN,qA,qB,qC,qD,qE,qF]
   have:p.changes least most hand f=(l,0):=by
    rw[apy]
    match i,h1,hS,q3 with
    |0,_,hS,_=>rw[hS]
    |1,_,hS,q3=>rw[q3 0 (by omega),hS]
    |2,_,hS,q3=>rw[q3 0 (by omega),q3 1 (by omega),hS]
   rw[this]
   rfl
 ·obtain⟨q1,q2,q3⟩:=hix
  simp only[Int.lt_irrefl,Int.cast_ofNat_Int,RN,qA,qB,qC,qD,qE,qF]
  have:p.changes least most hand f=([],5):=by rw[apy,q3 0 (by omega),q3 1 (by omega),q3 2 (by omega)]
  rw[this]
  rfl
def UF:aB:=(.seq (.region false [oa 2 (.box 0) 0,oa 3 (.box 1) 1,mk 4 (kI 0),mk 5 (kI 0)] 2 [2,3] [2,3]) (.seq (.seq (rg [oa 7 (.load true 2) 2,oa 8 (.ak F.nT) 7,oa 9 (.un .not) 8] 0 [2,3,9]) (.cond (.t 9) (.seq (rg [mk 4 (kI 0),mk 5 (kI 2)] 0 [4,5]) .ret) .skip)) (.seq (.region false [oa 10 (.load true 2) 2,on 11 (.build [.int .i64 0,.int .i64 0,.int .i64 0] []) [],ob 12 (.ak F.Dj) 10 11,on 6 (.alloc 0 [.int .i64 0,.slice true [],.int .i64 0,.int .i64 0,.int .i64 0,.slice true [],.map none]) [],os (.store 7) [.t 6,.t 12] 0] 1 [3,6] [6]) (.seq (.seq (rg [oa 13 (.load true 7) 6,oa 14 (.load true 3) 3,ob 15 (.ak F.ny) 13 14,oa 16 (.un .not) 15] 0 [3,6,16]) (.cond (.t 16) (.seq (rg [mk 4 (kI 0),mk 5 (kI 2)] 0 [4,5]) .ret) .skip)) (.seq (rg [oa 17 (.load true 7) 6,oa 18 (.load true 3) 3,ob 19 (.ak F.nU) 17 18,mv 4 19,mk 5 (kI 0)] 0 [4,5]) .ret)))))
def U4:List aJ:=[.tmp 4, .tmp 5]
theorem acz:aC C.P F.Qm 2 UF U4=true:=by kernel_rfl
def LG:aB:=(.seq (.region false [oa 4 (.box 0) 0,oa 5 (.box 1) 1,mk 8 (.c (.slice true [])),mk 9 (kI 0)] 2 [2,3,4,5] [4,5]) (.seq (.seq (rg [oa 10 (.load true 2) 4,oa 11 (.ak F.nT) 10,oa 12 (.un .not) 11,mv 13 12,oF 14 (.load true 3) [.t 5] 13 0,oF 15 (.ak F.KJ) [.t 14] 13 0,oF 16 (.un .not) [.t 15] 13 0,on 17 .pick [.t 13,.c (.bool true),.t 16],mv 18 17,oF 19 .mov [.t 2] 18 0,oF 20 (.ak F.Dx) [.t 19] 18 0,oF 21 (.un .not) [.t 20] 18 0,on 22 .pick [.t 18,.c (.bool true),.t 21],mv 23 22,oF 24 .mov [.t 3] 23 0,oF 25 (.ak F.zT) [.t 24] 23 0,oF 26 (.un .not) [.t 25] 23 0,on 27 .pick [.t 23,.c (.bool true),.t 26]] 0 [2,3,4,5,27]) (.cond (.t 27) (.seq (rg [mk 8 (.c (.slice true [])),mk 9 (kI 2)] 0 [8,9]) .ret) .skip)) (.seq (rg [oa 28 (.load true 2) 4,oa 29 (.load true 3) 5,ob 30 (.call F.Dj) 28 29,mv 31 2,mv 32 3,on 33 (.call F.uY) [.t 30,.t 31,.t 32],mv 8 33,mk 9 (kI 0)] 0 [8,9]) .ret)))
def L9:List aJ:=[.tmp 8, .tmp 9]
theorem Xf:aC C.P F.Fe 4 LG L9=true:=by kernel_rfl
def D5:aB:=(.seq (.region false [oa 1 (.box 0) 0,mk 2 (.c (.bool false))] 1 [1] [1]) (.seq (.seq (rg [oa 6 (.fld 0) 1,lo 7 6,on 8 (.ak F.ni) [.t 7,kI 0,kI 1000],oa 9 (.un .not) 8,mv 10 9,oF 11 (.fld 1) [.t 1] 10 0,oF 12 (.load false 1) [.t 11] 10 0,oF 13 .len [.t 12] 10 0,oF 14 (.ak F.ni) [.t 13,kI 1,kI 3] 10 0,oF 15 (.un .not) [.t 14] 10 0,on 16 .pick [.t 10,.c (.bool true),.t 15]] 0 [1,16]) (.cond (.t 16) (.seq (rg [mk 2 (.c (.bool false))] 0 [2]) .ret) .skip)) (.seq (rg [mk 3 (kI 1)] 0 [1,3]) (.seq (.seq (rg [oa 17 (.fld 1) 1,lo 18 17,oa 19 .len 18,mk 20 (kI 0)] 0 [3,18,19,20]) (.block 0 (.loop (.seq (rg [ob 21 (.bin .lss) 20 19] 0 [3,18,19,20,21]) (.seq (.cond (.t 21) .skip (.exit 0)) (.seq (.block 1 (.seq (rg [ob 22 (.bC 1) 18 20,lo 23 22,mv 5 23] 0 [3,5,18,19,20]) (.seq (.seq (rg [mv 24 5,mv 25 3,oc 26 (.bin .add) 25 (kI 1),on 27 (.ak F.ni) [.t 24,.t 26,kI 1000],oa 28 (.un .not) 27] 0 [5,18,19,20,28]) (.cond (.t 28) (.seq (rg [mk 2 (.c (.bool false))] 0 [2]) .ret) .skip)) (rg [mv 29 5,mv 3 29] 0 [3,18,19,20])))) (rg [oc 30 (.bin .add) 20 (kI 1),mv 20 30] 0 [3,18,19,20]))))))) (.seq (rg [mk 2 (.c (.bool true))] 0 [2]) .ret)))))
def Em:List aJ:=[.tmp 2]
theorem Pj:aC C.P F.nT 1 D5 Em=true:=by kernel_rfl
def Ji:aB:=(.seq (.region false [oa 2 (.box 0) 0,oa 3 (.box 1) 1,on 4 (.alloc 2 [.int .i64 0,.slice true [],.int .i64 0,.int .i64 0,.int .i64 0,.slice true [],.map none]) []] 3 [2,3,4] [2,3]) (.seq (rg [oa 8 (.load true 2) 2,oa 9 (.load true 3) 3,on 10 (.mkMap 0) [],on 11 (.build [.int .i64 0,.slice true [],.int .i64 0,.int .i64 0,.int .i64 0,.slice true [],.map none] [(0,2),(2,3),(6,1)]) [.t 8,.t 9,.t 10],on 5 (.alloc 1 [.int .i64 0,.slice true [],.int .i64 0,.int .i64 0,.int .i64 0,.slice true [],.map none]) [],os (.store 7) [.t 5,.t 11] 0] 2 [2,4,5]) (.seq (rg [oa 12 (.fld 0) 2,lo 13 12,mv 6 13] 0 [4,5,6]) (.seq (.seq (rg [mk 14 (kI 0)] 0 [4,5,6,14]) (.block 0 (.loop (.seq (rg [oc 15 (.bin .lss) 14 (kI 4002)] 0 [4,5,6,14,15]) (.seq (.cond (.t 15) .skip (.exit 0)) (.seq (.block 1 (.seq (rg [mv 16 14,mv 7 16] 0 [4,5,6,7,14]) (.seq (rg [oa 17 (.fld 5) 5,lo 18 17,mv 19 6,oa 20 (.iH 1 [.int .i64 0] [0]) 19,ob 21 (.app 1 false) 18 20,oa 22 (.fld 5) 5,os (.store 1) [.t 22,.t 21] 0] 0 [4,5,6,7,14]) (rg [mv 23 6,oa 24 (.load true 7) 5,mv 25 7,ob 26 (.iZ F.zh) 24 25,ob 27 (.bin .add) 23 26,mv 6 27] 0 [4,5,6,14])))) (rg [oc 28 (.bin .add) 14 (kI 1),mv 14 28] 0 [4,5,6,14]))))))) (.seq (rg [oa 29 (.load true 7) 5,os (.store 7) [.t 4,.t 29] 0] 0 [4]) .ret)))))
def Jq:List aJ:=[.cell 4 true 7]
theorem QJ:aC C.P F.Dj 2 Ji Jq=true:=by kernel_rfl
def yG:aB:=(.seq (.region false [oa 2 (.box 0) 0,oa 3 (.box 1) 1,mk 4 (.c (.bool false))] 2 [2,3] [2,3]) (.seq (.region true [of 5 (.fld 0) [.t 3] 1,of 6 (.load false 1) [.t 5] 1,oa 7 (.ak F.zT) 6,mv 8 7,ot 9 (.fld 1) [.t 3] 8 1,ot 10 (.load false 1) [.t 9] 8 1,ot 11 (.ak F.ni) [.t 10,kI 1,kI 12] 8 0,on 12 .pick [.t 8,.t 11,.c (.bool false)],mv 13 12,ot 14 (.fld 2) [.t 3] 13 1,ot 15 (.load false 1) [.t 14] 13 1,ot 16 (.load true 7) [.t 2] 13 1,ot 17 (.fld 0) [.t 3] 13 1,ot 18 (.load false 1) [.t 17] 13 1,ot 19 (.ak F.jS) [.t 16,.t 18] 13 0,ot 20 (.ak F.vP) [.t 19] 13 0,ot 21 (.fld 1) [.t 3] 13 1,ot 22 (.load false 1) [.t 21] 13 1,ot 23 (.bin .sub) [.t 22,kI 1] 13 0,ot 24 (.bC 1) [.t 20,.t 23] 13 1,ot 25 (.load false 1) [.t 24] 13 1,ot 26 (.ak F.ni) [.t 15,kI 1,.t 25] 13 0,on 27 .pick [.t 13,.t 26,.c (.bool false)],mv 4 27] 0 [4] []) .ret))
def yP:List aJ:=[.tmp 4]
theorem Ku:aC C.P F.ny 2 yG yP=true:=by kernel_rfl
def D6:aB:=(.seq (.region false [oa 2 (.box 0) 0,oa 3 (.box 1) 1,mk 4 (kI 0)] 2 [2,3] [2,3]) (.seq (.region true [of 5 (.fld 5) [.t 2] 1,of 6 (.load false 1) [.t 5] 1,of 7 (.fld 0) [.t 3] 1,of 8 (.load false 1) [.t 7] 1,of 9 (.bC 1) [.t 6,.t 8] 1,of 10 (.load false 1) [.t 9] 1,of 11 (.load true 7) [.t 2] 1,of 12 (.fld 0) [.t 3] 1,of 13 (.load false 1) [.t 12] 1,ob 14 (.ak F.jS) 11 13,oa 15 (.ak F.vP) 14,of 16 (.fld 1) [.t 3] 1,of 17 (.load false 1) [.t 16] 1,oc 18 (.bin .sub) 17 (kI 1),of 19 (.RU 1 false true false) [.t 15,.t 18] 1,oa 20 (.ak F.Qo) 19,ob 21 (.bin .add) 10 20,of 22 (.fld 2) [.t 3] 1,of 23 (.load false 1) [.t 22] 1,ob 24 (.bin .add) 21 23,oc 25 (.bin .sub) 24 (kI 1),mv 4 25] 0 [4] []) .ret))
def Eo:List aJ:=[.tmp 4]
theorem Pm:aC C.P F.nU 2 D6 Eo=true:=by kernel_rfl
def LH:aB:=(.seq (.region false [oa 1 (.box 0) 0,mk 2 (.c (.bool false))] 1 [1] [1]) (.seq (rg [oa 3 (.fld 1) 1,lo 4 3,on 5 (.ak F.ni) [.t 4,kI 1,kI 1000],mv 6 5,ot 7 (.fld 0) [.t 1] 6 0,ot 8 (.load false 1) [.t 7] 6 0,ot 9 (.fld 1) [.t 1] 6 0,ot 10 (.load false 1) [.t 9] 6 0,ot 11 (.bin .mul) [kI 29,.t 10] 6 0,ot 12 (.fld 1) [.t 1] 6 0,ot 13 (.load false 1) [.t 12] 6 0,ot 14 (.bin .mul) [kI 30,.t 13] 6 0,ot 15 (.ak F.ni) [.t 8,.t 11,.t 14] 6 0,on 16 .pick [.t 6,.t 15,.c (.bool false)],mv 17 16,ot 18 (.fld 2) [.t 1] 17 0,ot 19 (.load false 1) [.t 18] 17 0,ot 20 (.fld 0) [.t 1] 17 0,ot 21 (.load false 1) [.t 20] 17 0,ot 22 (.bin .sub) [.t 21,kI 1] 17 0,ot 23 (.ak F.ni) [.t 19,kI 0,.t 22] 17 0,on 24 .pick [.t 17,.t 23,.c (.bool false)],mv 2 24] 0 [2]) .ret))
def Mc:List aJ:=[.tmp 2]
theorem Xg:aC C.P F.KJ 1 LH Mc=true:=by kernel_rfl
def FC:aB:=(.seq (rg [mk 2 (.c (.bool false))] 0 [0]) (.seq (rg [mv 3 0,oa 4 .len 3,oc 5 (.bin .leq) 4 (kI 6),mv 6 5,ot 7 .mov [.t 0] 6 0,ot 8 (.ak F.gQ) [.t 7,.c (.func (.func F.qM) [] [])] 6 0,ot 9 (.un .not) [.t 8] 6 0,on 10 .pick [.t 6,.t 9,.c (.bool false)],mv 2 10] 0 [2]) .ret))
def FI:List aJ:=[.tmp 2]
theorem QI:aC C.P F.Dx 1 FC FI=true:=by kernel_rfl
def LJ:aB:=(.seq (rg [mk 2 (.c (.bool false))] 0 [0]) (.seq (rg [mv 3 0,on 4 (.ak F.ni) [.t 3,kI 0,kI 4000],mv 2 4] 0 [2]) .ret))
def Md:List aJ:=[.tmp 2]
theorem Xh:aC C.P F.zT 1 LJ Md=true:=by kernel_rfl
def yF:aB:=(.seq (rg [oa 3 (.box 0) 0,on 6 (.jV 1) [.c (.slice true [])]] 1 [1,2,3]) (.seq (rg [on 7 (.jV 1) [.c (.slice true [])]] 0 [1,2,3,7]) (.seq (.seq (rg [mv 12 1,oa 13 .len 12,mk 14 (kI 0)] 0 [2,3,7,12,13,14]) (.block 0 (.loop (.seq (rg [ob 15 (.bin .lss) 14 13] 0 [2,3,7,12,13,14,15]) (.seq (.cond (.t 15) .skip (.exit 0)) (.seq (.block 1 (.seq (rg [ob 16 (.bC 4) 12 14,oa 17 (.load true 4) 16,on 9 (.alloc 0 [.bool false,.int .i64 0,.int .i64 0,.int .i64 0]) [],os (.store 4) [.t 9,.t 17] 0] 1 [2,3,7,9,12,13,14]) (.seq (rg [mk 10 (kI (-1))] 0 [2,3,7,9,10,12,13,14]) (.seq (.seq (rg [mv 18 2,oa 19 (.fld 1) 9,lo 20 19,oa 21 (.fld 2) 9,lo 22 21,on 23 (.build [.int .i64 0,.int .i64 0,.int .i64 0] [(0,1),(1,1),(2,1)]) [.t 18,.t 20,.t 22],on 11 (.alloc 0 [.int .i64 0,.int .i64 0,.int .i64 0]) [],os (.store 3) [.t 11,.t 23] 0] 1 [2,3,7,9,10,11,12,13,14]) (.seq (.region false [oa 24 (.fld 0) 9,lo 25 24] 0 [2,3,7,9,10,11,12,13,14,25] [9]) (.cond (.t 25) (.region true [of 26 (.load true 7) [.t 3] 2,mv 27 2,ob 28 (.Qh F.uZ) 26 27,of 29 (.fld 3) [.t 9] 1,of 30 (.load false 1) [.t 29] 1,ob 31 (.bin .add) 28 30,mv 10 31] 0 [2,3,7,10,12,13,14] []) (.seq (rg [oa 32 (.load true 7) 3,oa 33 (.load true 3) 11,ob 34 (.iZ F.ny) 32 33] 0 [2,3,7,10,11,12,13,14,34]) (.cond (.t 34) (rg [oa 35 (.load true 7) 3,oa 36 (.load true 3) 11,ob 37 (.iZ F.nU) 35 36,mv 10 37] 0 [2,3,7,10,12,13,14]) .skip))))) (rg [mv 38 7,mv 39 10,oa 40 (.iH 1 [.int .i64 0] [0]) 39,ob 41 (.app 1 false) 38 40,mv 7 41] 0 [2,3,7,12,13,14]))))) (rg [oc 42 (.bin .add) 14 (kI 1),mv 14 42] 0 [2,3,7,12,13,14]))))))) (.seq (rg [mv 43 7,mv 6 43] 0 [6]) .ret))))
def yO:List aJ:=[.tmp 6]
theorem Kt:aC C.P F.uY 3 yF yO=true:=by kernel_rfl
def QS:aB:=(.seq (.region false [oa 2 (.box 0) 0,oa 3 (.box 1) 1,on 4 (.alloc 2 [.int .i64 0,.int .i64 0,.int .i64 0]) [],mk 5 (kI 0)] 3 [2,3,4] [2,3]) (.seq (.seq (rg [oa 8 (.load true 2) 2,oa 9 (.ak F.nT) 8,oa 10 (.un .not) 9,mv 11 10,oF 12 (.load false 1) [.t 3] 11 0,oF 13 (.ak F.O4) [.t 12] 11 0,oF 14 (.un .not) [.t 13] 11 0,on 15 .pick [.t 11,.c (.bool true),.t 14]] 0 [2,3,4,15]) (.cond (.t 15) (.seq (rg [on 16 (.build [.int .i64 0,.int .i64 0,.int .i64 0] []) [],os (.store 3) [.t 4,.t 16] 0,mk 5 (kI 2)] 0 [4,5]) .ret) .skip)) (.seq (rg [on 6 (.alloc 0 [.int .i64 0,.int .i64 0,.int .i64 0]) []] 1 [2,3,4,6]) (.seq (.seq (rg [on 17 (.mkF (.func F.Um) 0) [.t 2,.t 3,.t 6],oa 18 (.call F.abC) 17,mv 7 18] 0 [4,6,7]) (.seq (rg [mv 19 7,oc 20 (.bin .neq) 19 (kI 0)] 0 [4,6,7,20]) (.cond (.t 20) (.seq (rg [on 21 (.build [.int .i64 0,.int .i64 0,.int .i64 0] []) [],mv 22 7,os (.store 3) [.t 4,.t 21] 0,mv 5 22] 0 [4,5]) .ret) .skip))) (.seq (rg [oa 23 (.load true 3) 6,os (.store 3) [.t 4,.t 23] 0,mk 5 (kI 0)] 0 [4,5]) .ret)))))
def Rh:List aJ:=[.cell 4 true 3, .tmp 5]
theorem aaC:aC C.P F.Sz 2 QS Rh=true:=by kernel_rfl
def Xu:aB:=(.seq (rg [mk 6 (.c (.bool false))] 0 [0,1,2]) (.seq (rg [mv 7 0,mv 8 1,ob 9 (.bin .geq) 7 8,mv 10 9,ot 11 .mov [.t 0] 10 0,ot 12 .mov [.t 2] 10 0,ot 13 (.bin .leq) [.t 11,.t 12] 10 0,on 14 .pick [.t 10,.t 13,.c (.bool false)],mv 6 14] 0 [6]) .ret))
def XQ:List aJ:=[.tmp 6]
theorem ae7:aC C.P F.ni 3 Xu XQ=true:=by kernel_rfl
def BI:aB:=(.seq (.region false [oa 2 (.box 0) 0,mk 4 (kI 0)] 1 [1,2] [2]) (.seq (rg [oa 5 (.load true 7) 2,mv 6 1,ob 7 (.ak F.jS) 5 6,oa 8 (.ak F.vP) 7,oa 9 (.ak F.Qo) 8,mv 4 9] 0 [4]) .ret))
def Ce:List aJ:=[.tmp 4]
theorem NR:aC C.P F.zh 2 BI Ce=true:=by kernel_rfl
def LK:aB:=(.seq (rg [mk 2 (.c (.slice true []))] 0 [0]) (.seq (rg [on 4 (.qc 1 [.int .i64 0,.int .i64 0,.int .i64 0,.int .i64 0,.int .i64 0,.int .i64 0,.int .i64 0,.int .i64 0,.int .i64 0,.int .i64 0,.int .i64 0,.int .i64 0] [0,1,2,3,4,5,6,7,8,9,10,11]) [kI 31,kI 28,kI 31,kI 30,kI 31,kI 30,kI 31,kI 31,kI 30,kI 31,kI 30,kI 31],mv 3 4] 0 [0,3]) (.seq (.seq (rg [mv 5 0] 0 [3,5]) (.cond (.t 5) (rg [mv 6 3,oc 7 (.bC 1) 6 (kI 1),os (.store 1) [.t 7,kI 29] 0] 0 [3]) .skip)) (.seq (rg [mv 8 3,mv 2 8] 0 [2]) .ret))))
def Me:List aJ:=[.tmp 2]
theorem Xi:aC C.P F.vP 1 LK Me=true:=by kernel_rfl
def BJ:aB:=(.seq (.region false [oa 2 (.box 0) 0,mk 4 (.c (.bool false))] 1 [1,2] [2]) (.seq (rg [mk 5 (.c (.bool false))] 0 [1,2,5]) (.seq (.seq (rg [oa 8 (.fld 0) 2,oa 9 (.fld 1) 8,lo 10 9,oa 11 .len 10,mk 12 (kI 0)] 0 [1,5,10,11,12]) (.block 0 (.loop (.seq (rg [ob 13 (.bin .lss) 12 11] 0 [1,5,10,11,12,13]) (.seq (.cond (.t 13) .skip (.exit 0)) (.seq (.block 1 (.seq (rg [ob 14 (.bC 1) 10 12,lo 15 14,mv 7 15] 0 [1,5,7,10,11,12]) (.seq (rg [mv 16 1,mv 17 7,ob 18 (.bin .rem) 16 17,oc 19 (.bin .eql) 18 (kI 0)] 0 [1,5,10,11,12,19]) (.cond (.t 19) (rg [mv 20 5,oa 21 (.un .not) 20,mv 5 21] 0 [1,5,10,11,12]) .skip)))) (rg [oc 22 (.bin .add) 12 (kI 1),mv 12 22] 0 [1,5,10,11,12]))))))) (.seq (rg [mv 23 5,mv 4 23] 0 [4]) .ret))))
def Ci:List aJ:=[.tmp 4]
theorem NS:aC C.P F.jS 2 BJ Ci=true:=by kernel_rfl
def UH:aB:=(.seq (rg [mk 2 (kI 0)] 0 [0]) (.seq (rg [mk 3 (kI 0)] 0 [0,3]) (.seq (.seq (rg [mv 6 0,oa 7 .len 6,mk 8 (kI 0)] 0 [3,6,7,8]) (.block 0 (.loop (.seq (rg [ob 9 (.bin .lss) 8 7] 0 [3,6,7,8,9]) (.seq (.cond (.t 9) .skip (.exit 0)) (.seq (.block 1 (.seq (rg [ob 10 (.bC 1) 6 8,lo 11 10,mv 5 11] 0 [3,5,6,7,8]) (rg [mv 12 3,mv 13 5,ob 14 (.bin .add) 12 13,mv 3 14] 0 [3,6,7,8]))) (rg [oc 15 (.bin .add) 8 (kI 1),mv 8 15] 0 [3,6,7,8]))))))) (.seq (rg [mv 16 3,mv 2 16] 0 [2]) .ret))))
def U6:List aJ:=[.tmp 2]
theorem acB:aC C.P F.Qo 1 UH U6=true:=by kernel_rfl
def BG:aB:=(.seq (.region false [oa 1 (.box 0) 0,mk 2 (.c (.bool false))] 1 [1] [1]) (.seq (.seq (rg [oa 3 (.fld 0) 1,lo 4 3] 0 [1,4]) (.cond (.t 4) (.seq (rg [oa 5 (.fld 1) 1,lo 6 5,oc 7 (.bin .neq) 6 (kI 0),mv 8 7,oF 9 (.fld 2) [.t 1] 8 0,oF 10 (.load false 1) [.t 9] 8 0,oF 11 (.bin .neq) [.t 10,kI 0] 8 0,on 12 .pick [.t 8,.c (.bool true),.t 11],mv 13 12,oF 14 (.fld 3) [.t 1] 13 0,oF 15 (.load false 1) [.t 14] 13 0,oF 16 (.ak F.ni) [.t 15,kI (-60),kI 60] 13 0,oF 17 (.un .not) [.t 16] 13 0,on 18 .pick [.t 13,.c (.bool true),.t 17],mv 2 18] 0 [2]) .ret) .skip)) (.seq (rg [oa 19 (.fld 3) 1,lo 20 19,oc 21 (.bin .neq) 20 (kI 0),mv 22 21,oF 23 (.fld 1) [.t 1] 22 0,oF 24 (.load false 1) [.t 23] 22 0,oF 25 (.ak F.ni) [.t 24,kI 1,kI 12] 22 0,oF 26 (.un .not) [.t 25] 22 0,on 27 .pick [.t 22,.c (.bool true),.t 26],mv 28 27,oF 29 (.fld 2) [.t 1] 28 0,oF 30 (.load false 1) [.t 29] 28 0,oF 31 (.ak F.ni) [.t 30,kI 1,kI 31] 28 0,oF 32 (.un .not) [.t 31] 28 0,on 33 .pick [.t 28,.c (.bool true),.t 32],mv 2 33] 0 [2]) .ret)))
def BZ:List aJ:=[.tmp 2]
theorem NP:aC C.P F.qM 1 BG BZ=true:=by kernel_rfl
def yH:aB:=(.seq (rg [oa 2 (.box 0) 0,mk 4 (kI 0)] 1 [1,2]) (.seq (rg [mv 9 1,on 10 (.build [.int .i64 0,.int .i64 0,.int .i64 0] [(0,1),(1,1),(2,1)]) [.t 9,kI 3,kI 21],on 5 (.alloc 0 [.int .i64 0,.int .i64 0,.int .i64 0]) [],os (.store 3) [.t 5,.t 10] 0] 1 [2,5]) (.seq (.seq (rg [oa 12 (.fld 6) 2,lo 13 12,oa 14 (.load true 3) 5,ob 15 (.NM true [1,1,1] (.int .i64 0)) 13 14,mv 11 15,oa 16 (.ext 0) 11,oa 17 (.ext 1) 11,mv 6 16,mv 7 17] 0 [2,5,6,7]) (.seq (rg [mv 18 7] 0 [2,5,6,18]) (.cond (.t 18) (.seq (rg [mv 19 6,mv 4 19] 0 [4]) .ret) .skip))) (.seq (rg [oa 20 (.load true 7) 2,oa 21 (.load true 3) 5,ob 22 (.iZ F.nU) 20 21,mv 8 22] 0 [2,5,8]) (.seq (.block 0 (.loop (.seq (.seq (rg [oa 23 (.fld 2) 2,oa 24 (.load true 3) 23,mv 25 8,ob 26 (.ak F.Wi) 24 25,oc 27 (.bin .neq) 26 (kI 13)] 0 [2,5,8,27]) (.cond (.t 27) .skip (.exit 0))) (.block 1 (rg [mv 28 8,oc 29 (.bin .add) 28 (kI 1),mv 8 29] 0 [2,5,8]))))) (.seq (rg [mv 30 8,mv 31 8,oa 32 (.ak F.IG) 31,on 33 (.bin .sub) [kI 7,.t 32],ob 34 (.bin .add) 30 33,mv 8 34] 0 [2,5,8]) (.seq (rg [oa 35 (.fld 6) 2,lo 36 35,oa 37 (.load true 3) 5,mv 38 8,os (.ae3 [1,1,1]) [.t 36,.t 37,.t 38] 0] 0 [8]) (.seq (rg [mv 39 8,mv 4 39] 0 [4]) .ret))))))))
def yQ:List aJ:=[.tmp 4]
theorem Kv:aC C.P F.uZ 2 yH yQ=true:=by kernel_rfl
def Om:aB:=(.seq (rg [mk 2 (.c (.bool false))] 0 [0]) (.seq (rg [mv 3 0,on 4 (.ak F.ni) [.t 3,kI 0,kI 2000000],mv 2 4] 0 [2]) .ret))
def OE:List aJ:=[.tmp 2]
theorem YA:aC C.P F.O4 1 Om OE=true:=by kernel_rfl
def LD:aB:=(.region true [of 3 (.load true 2) [.t 0] 1,on 4 (.build [.int .i64 0,.int .i64 0,.int .i64 0] []) [],ob 5 (.ak F.Dj) 3 4,of 6 (.load false 1) [.t 1] 1,ob 7 (.ak F.zf) 5 6,os (.store 3) [.t 2,.t 7] 0] 0 [] [])
def L8:List aJ:=[]
theorem Xe:aC C.P F.Um 3 LD L8=true:=by kernel_rfl
end Go.Tel
