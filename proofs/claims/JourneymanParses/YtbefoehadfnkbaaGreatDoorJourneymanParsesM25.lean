/-
  Part 25 of the proof of a law of desks: an abstract machine over the model, contracts of functions, plain laws.
  Conditions: none.
-/
import Derived.Test.YtbefoehadfnkbaaGreatDoorJourneymanParsesM13
import Derived.Test.YtbefoehadfnkbaaGreatDoorJourneymanParsesM24
import Derived.Shelf.Small.Strs
set_option linter.all false
set_option maxRecDepth 10000
set_option maxHeartbeats 2000000
open Nat renaming reduceBEq→qA,reduceAdd→qB,reduceSub→qC,reduceEqDiff→qD,reduceLT→qE,reduceLeDiff→qF
namespace Go.Tel
open Go.Am
def dP (line:ByteArray):En×Int:=
 if line.size>60 then(⟨0,[]⟩,3)else match CU line fmL with
  |some (a,ns)=>(⟨1+a,ns⟩,0)
  |none=>(⟨0,[]⟩,4)
def iy (line:ByteArray):Qn×Int:=match CU line amL with
 |some (a,ns)=>(⟨1+a,ns⟩,0)
 |none=>(⟨0,[]⟩,4)
def F5 (k:Int)(ns:List Int)(e:Int):DV:= .tup [.agg [.int .i64 k, .slice (decide (e≠0)) (ns.map ay)], .int .i64 e]
theorem adz {line:ByteArray}{fm:List (ByteArray×Nat)}{a:Int}{ns:List Int}(h:CU line fm=some (a,ns)):0≤a∧a≤fm.length:=by
 unfold CU at h
 split at h
 ·rename_i hge
  have hle:=(aal (wU ((jQ line 32).getD 0 default) ((jQ line 32).length - 1)) fm 0).2
  split at h
  ·cases h;omega
  ·cases h
 ·cases h
theorem ahP {line:ByteArray}(hr:line.size≤1000000){bs:List (Option (List PV))}{fz:List Nat}{ar:List (Option Arr)}(hfz:FzB ⟨bs,fz,ar⟩){xb:Nat}{c0 c1:PV}(hx:bs[xb]?=some (some [c0,c1]))(hxf:xb∉fz):
  SC C F.vk [.d (.aX [.str line]), .ptr xb 0] ⟨bs,fz,ar⟩
   (fun _ M'=>∃a ns y,CU line fmL=some (a,ns)∧M'=⟨bs.set xb (some [.d (.int .i64 (1+a)), .d (.slice false (ns.map ay))])++ [y],bs.length::fz,ar⟩)
   (fun d M'=>CU line fmL=none∧VR d∧∃y,M'=⟨bs++ [y],bs.length::fz,ar⟩):=by
 have hn0:bs.length∉fz:=fun e=>Nat.lt_irrefl _ (hfz _ e)
 have hxl:xb<bs.length:=(List.getElem?_eq_some_iff.1 hx).1
 have aoD:∀k,xb<bs.length+k:=fun k=>by omega
 have hxn:¬xb=bs.length:=by omega
 refine aF mixed rfl Ky ?_
 simp only[yJ,yS,RN,qA,qB,qC,qD,qE,qF]
 refine au rfl rfl aah ?_
 rw[afU]
 simp only[aN,aP,hn0,List.length_append,aaf,RN,qA,qB,qC,qD,qE,qF]
 refine⟨(fun h=>by cases h),?_⟩
 show SC C F.lg [.d (.str line), .d (.slice true (fmL.map aeC))] _ _ _
 refine agm hr fmL (by decide) true (fun a ns h=> ?_) (fun h d hd=> ?_)
 ·have hb:=adz h
  have hb2:(fmL:List (ByteArray×Nat)).length≤12:=by decide
  have w1:IntKind.i64.wrap (1+a)=1+a:=aG (by omega)
  simp only[w1,aU,hxl,aoD,hx,bI,hxf,hxn,List.mem_cons,or_false,Nh,RN,qA,qB,qC,qD,qE,qF]
  exact⟨a,ns,_,h,rfl⟩
 ·exact⟨h,hd,_,rfl⟩
theorem ahV {line:ByteArray}(hr:line.size≤1000000){bs:List (Option (List PV))}{fz:List Nat}{ar:List (Option Arr)}(hfz:FzB ⟨bs,fz,ar⟩){xb:Nat}{c0 c1:PV}(hx:bs[xb]?=some (some [c0,c1]))(hxf:xb∉fz):
  SC C F.oP [.d (.aX [.str line]), .ptr xb 0] ⟨bs,fz,ar⟩
   (fun _ M'=>∃a ns y,CU line amL=some (a,ns)∧M'=⟨bs.set xb (some [.d (.int .i64 (1+a)), .d (.slice false (ns.map ay))])++ [y],bs.length::fz,ar⟩)
   (fun d M'=>CU line amL=none∧VR d∧∃y,M'=⟨bs++ [y],bs.length::fz,ar⟩):=by
 have hn0:bs.length∉fz:=fun e=>Nat.lt_irrefl _ (hfz _ e)
 have hxl:xb<bs.length:=(List.getElem?_eq_some_iff.1 hx).1
 have aoD:∀k,xb<bs.length+k:=fun k=>by omega
 have hxn:¬xb=bs.length:=by omega
 refine aF mixed rfl Gn ?_
 simp only[tY,uG,RN,qA,qB,qC,qD,qE,qF]
 refine au rfl rfl aiF ?_
 rw[afT]
 simp only[aN,aP,hn0,List.length_append,aaf,RN,qA,qB,qC,qD,qE,qF]
 refine⟨(fun h=>by cases h),?_⟩
 show SC C F.lg [.d (.str line), .d (.slice true (amL.map aeC))] _ _ _
 refine agm hr amL (by decide) true (fun a ns h=> ?_) (fun h d hd=> ?_)
 ·have hb:=adz h
  have hb2:(amL:List (ByteArray×Nat)).length≤12:=by decide
  have w1:IntKind.i64.wrap (1+a)=1+a:=aG (by omega)
  simp only[w1,aU,hxl,aoD,hx,bI,hxf,hxn,List.mem_cons,or_false,Nh,RN,qA,qB,qC,qD,qE,qF]
  exact⟨a,ns,_,h,rfl⟩
 ·exact⟨h,hd,_,rfl⟩
theorem afF (line:ByteArray):Pure C F.qN [.str line] (.d (F5 (dP line).1.kind (dP line).1.ns (dP line).2)) []:=by
 refine ah mixed rfl NT ?_
 simp only[BK,Cj,RN,qA,qB,qC,qD,qE,qF]
 by_cases hl:line.size>60
 ·have hb:decide ((line.size:Int)>60)=true:=by simp;omega
  have hp:dP line=(⟨0,[]⟩,3):=by rw[dP,if_pos hl]
  simp only[hb,hp,F5,RN,qA,qB,qC,qD,qE,qF]
  rfl
 ·have hb:decide ((line.size:Int)>60)=false:=by simp;omega
  simp only[hb,pJ,Option.map_none,RN,qA,qB,qC,qD,qE,qF]
  have z0:((0:Int) !=0)=false:=rfl
  have z4:((4:Int) !=0)=true:=rfl
  refine VK (fs:=[]) (cs:=[.d (.aX [.str line]), .ptr 2 0]) (fun i hi=>by simp at hi;simp[hi]) (by kernel_rfl) ?_
  refine SC.oh (SC.mono (ahP (line:=line) (by omega) (fun i hi=>by simp at hi;simp[hi]) (xb:=2) rfl (by simp)) ?_) ?_
  ·rintro v M' ⟨a,ns,y,h,rfl⟩
   have hp:dP line=(⟨1+a,ns⟩,0):=by rw[dP,if_neg hl,h]
   refine⟨rfl,by simp,?_⟩
   simp only[z0,hp,F5,List.mem_cons,List.not_mem_nil,or_false,RN,qA,qB,qC,qD,qE,qF]
   simp
  ·rintro d M' ⟨h,hd,y,rfl⟩
   have hp:dP line=(⟨0,[]⟩,4):=by rw[dP,if_neg hl,h]
   refine⟨rfl,by simp,by simp, .inr ⟨hd,fun x=> ?_⟩⟩
   simp only[z4,hp,F5,List.mem_cons,List.not_mem_nil,or_false,RN,qA,qB,qC,qD,qE,qF]
   rfl
theorem afg (line:ByteArray)(hl:line.size≤1000000):Pure C F.sJ [.str line] (.d (F5 (iy line).1.kind (iy line).1.ns (iy line).2)) []:=by
 refine ah mixed rfl Jd ?_
 simp only[wY,xO,pJ,Option.map_none,RN,qA,qB,qC,qD,qE,qF]
 refine VK (fs:=[]) (cs:=[.d (.aX [.str line]), .ptr 2 0]) (fun i hi=>by simp at hi;simp[hi]) (by kernel_rfl) ?_
 refine SC.oh (SC.mono (ahV (line:=line) hl (fun i hi=>by simp at hi;simp[hi]) (xb:=2) rfl (by simp)) ?_) ?_
 ·rintro v M' ⟨a,ns,y,h,rfl⟩
  have hp:iy line=(⟨1+a,ns⟩,0):=by rw[iy,h]
  refine⟨rfl,by simp,?_⟩
  simp only[hp,F5,List.mem_cons,List.not_mem_nil,or_false,RN,qA,qB,qC,qD,qE,qF]
  simp
 ·rintro d M' ⟨h,hd,y,rfl⟩
  have hp:iy line=(⟨0,[]⟩,4):=by rw[iy,h]
  refine⟨rfl,by simp,by simp, .inr ⟨hd,fun x=> ?_⟩⟩
  simp only[hp,F5,List.mem_cons,List.not_mem_nil,or_false,RN,qA,qB,qC,qD,qE,qF]
  rfl
end Go.Tel
namespace Go.Tel
open Go.Am
theorem asb (w:ByteArray):∀(k pos:Nat) (n m:Int),UC w k pos n=some m→0≤n→n<10 ^ pos→(0≤m∧m<10 ^ (pos+k))∧(0<k→w.size≤4)
 |0,pos,n,m,h,h0,h1=>by cases h;exact⟨⟨h0,h1⟩,fun h=>by omega⟩
 |k+1,pos,n,m,h,h0,h1=>by
  rw[UC]at h
  split at h
  ·rename_i hc
   have hp:(10:Int) ^ (pos+1)=10*10 ^ pos:=by rw[Int.pow_succ];omega
   have:=asb w k (pos+1) _ m h (by omega) (by rw[hp];omega)
   exact⟨by rw[show pos+(k+1)=pos+1+k by omega];exact this.1,fun _=>hc.2.2⟩
  ·cases h
theorem ash {w:ByteArray}{n:Int}(h:zK w=some n):0≤n∧n≤9999:=by
 unfold zK at h
 cases h1:UC w w.size 0 0 with
 |none=>rw[h1]at h;cases h
 |some m=>
  rw[h1]at h
  simp only at h
  split at h
  ·rename_i hc
   cases h
   obtain⟨⟨q1,q2⟩,q3⟩:=asb w w.size 0 0 _ h1 (by decide) (by decide)
   have hs:=q3 (by have:=hc.1;omega)
   have:(10:Int) ^ (0+w.size)≤10000:=by
    obtain h|h|h|h|h:w.size=0∨w.size=1∨w.size=2∨w.size=3∨w.size=4:=by omega
    all_goals rw[h];decide
   omega
  ·cases h
theorem ar4:∀(l:List ByteArray) (acc ns:List Int),F6 l acc=some ns→(∀n∈acc,0≤n∧n≤9999)→∀n∈ns,0≤n∧n≤9999
 | [],acc,ns,h,ha=>by cases h;exact ha
 |x::l,acc,ns,h,ha=>by
  rw[F6]at h
  cases hx:zK x with
  |none=>rw[hx]at h;cases h
  |some m=>
   rw[hx]at h
   refine ar4 l _ ns h fun n hn=> ?_
   rcases List.mem_append.1 hn with hn|hn
   ·exact ha n hn
   ·simp only[List.mem_singleton]at hn;rw[hn];exact ash hx
theorem asu {line:ByteArray}{fm:List (ByteArray×Nat)}{a:Int}{ns:List Int}(h:CU line fm=some (a,ns)):∀n∈ns,0≤n∧n≤9999:=by
 unfold CU at h
 split at h
 ·split at h
  ·rename_i l hl
   cases h
   exact ar4 _ _ _ hl (by simp)
  ·cases h
 ·cases h
def ahd:ByteArray:=⟨#[101,114,114,111,114,32]⟩
def aj0:ByteArray:=⟨#[110,111,116,101,100]⟩
def acs:ByteArray:=⟨#[110,111,116,104,105,110,103]⟩
def aoE (n:Int):Bool:=decide (-9223372036854775808≤n)&&decide (n≤9223372036854775807)
def Dk.said (D:Dk)(line:ByteArray):Option (Dk×ByteArray):=
 if(dP line).2=0 then(if(D.enter (dP line).1).2=0 then some ((D.enter (dP line).1).1,aj0)else some ((D.enter (dP line).1).1,ahd++eH (D.enter (dP line).1).2))
 else if(dP line).2=3 then some (D,ahd++eH 3)
 else if(iy line).2=0 then
  (if(D.ask (iy line).1).2≠0 then some (D,ahd++eH (D.ask (iy line).1).2)
  else if(D.ask (iy line).1).1=[]then some (D,acs)
  else if(D.ask (iy line).1).1.all aoE&&decide ((D.ask (iy line).1).1.length≤1000)then some (D,Nk (D.ask (iy line).1).1)else none)
 else some (D,ahd++eH (iy line).2)
theorem Y1 (D:Dk)(x:En):0≤(D.enter x).2∧(D.enter x).2≤7:=by
 unfold Dk.enter
 repeat' split
 all_goals simp
theorem aiY (d:Dvd)(n:Int):0≤(d.cuts n).2∧(d.cuts n).2≤7:=by
 unfold Dvd.cuts
 split
 ·split<;>simp
 ·simp
theorem Zr (line:ByteArray):0≤(iy line).2∧(iy line).2≤7:=by
 unfold iy;split<;>simp
theorem ahQ (line:ByteArray):0≤(dP line).2∧(dP line).2≤7:=by
 unfold dP;split
 ·simp
 ·split<;>simp
theorem aiq (p:Pc)(h:Int)(f:Fr)(n:Int):0≤(zF p h f n).2∧(zF p h f n).2≤7:=by
 unfold zF ahK
 repeat' split
 all_goals simp
theorem abt (p:Pc)(a b h:Int)(f:Fr):0≤(p.changes a b h f).2∧(p.changes a b h f).2≤7:=by
 have pr:∀(l:List Chg) (n:Int),0≤n∧n≤7→0≤(l,n).2∧(l,n).2≤7:=fun _ _ h=>h
 unfold Pc.changes
 split
 ·split
  ·exact pr _ 0 (by decide)
  split
  ·exact pr _ 0 (by decide)
  split
  ·exact pr _ 0 (by decide)
  ·exact pr _ 5 (by decide)
 ·exact pr _ 2 (by decide)
theorem ajX (D:Dk)(t:Sp)(a b c:Int):0≤(yE D t a b c).2∧(yE D t a b c).2≤7:=by
 unfold yE
 split
 ·split
  ·simp
  ·exact abt _ _ _ _ _
 ·simp
def aiu (r:List Int×Int):Prop:=0≤r.2∧r.2≤7
theorem pU {c:Prop}[Decidable c]{a b:List Int×Int}(ha:aiu a)(hb:aiu b):aiu (if c then a else b):=by
 by_cases h:c
 ·rw[if_pos h];exact ha
 ·rw[if_neg h];exact hb
theorem Dz (l:List Int){n:Int}(h:0≤n∧n≤7):aiu (l,n):=h
theorem aln {c:Prop}[Decidable c]{a b:Int}(ha:0≤a∧a≤7)(hb:0≤b∧b≤7):0≤(if c then a else b)∧(if c then a else b)≤7:=by
 by_cases h:c
 ·rw[if_pos h];exact ha
 ·rw[if_neg h];exact hb
theorem VU (D:Dk)(t:Sp)(q:Qn):0≤(D.answer t q).2∧(D.answer t q).2≤7:=by
 refine(?_:aiu (D.answer t q))
 unfold Dk.answer
 refine pU (Dz _ (by decide)) ?_
 refine pU (Dz _ (by decide)) ?_
 refine pU (Dz _ (by decide)) ?_
 refine pU (Dz _ (aln (by decide) (by decide))) ?_
 refine pU (ajX _ _ _ _ _) ?_
 refine pU (Dz _ (aln (aiq _ _ _ _) (by decide))) ?_
 refine pU (Dz _ (by decide)) ?_
 refine pU (Dz _ (aln ?_ (by decide))) ?_
 ·generalize zk _ _ _=o
  cases o with
  |none=>exact(by decide:(0:Int)≤5∧(5:Int)≤7)
  |some x=>exact(by decide:(0:Int)≤0∧(0:Int)≤7)
 refine pU (Dz _ (aln (by decide) (by decide))) ?_
 refine pU (Dz _ (aiY _ _)) ?_
 exact pU (Dz _ (by decide)) (Dz _ (by decide))
theorem afJ (D:Dk)(q:Qn):0≤(D.ask q).2∧(D.ask q).2≤7:=by
 unfold Dk.ask
 split
 ·simp
 split
 ·simp
 split
 ·simp
 ·split
  ·exact VU _ _ _
  ·exact VU _ _ _
theorem amM {D D':Dk}{line s:ByteArray}(hok:D.Ok)(h:D.said line=some (D',s)):D'.Ok:=by
 unfold Dk.said at h
 repeat' split at h
 all_goals first|(cases h;done)|(cases h;first|exact ai9 hok _|exact hok)
theorem ah1 {D D':Dk}{line s:ByteArray}(h:D.said line=some (D',s)):s.size≤30000:=by
 have e1:ahd.size=6:=rfl
 have e2:aj0.size=5:=rfl
 have e3:acs.size=7:=rfl
 have he:∀n:Int,0≤n∧n≤7→(ahd++eH n).size≤30000:=fun n hn=>by
  have:=DR (n:=n) ⟨by omega,by omega⟩
  rw[ByteArray.size_append];omega
 unfold Dk.said at h
 split at h
 ·split at h
  ·cases h;omega
  ·cases h;exact he _ (Y1 _ _)
 split at h
 ·cases h;exact he 3 (by decide)
 split at h
 ·split at h
  ·cases h;exact he _ (afJ _ _)
  split at h
  ·cases h;omega
  split at h
  ·rename_i hc
   cases h
   simp only[Bool.and_eq_true,List.all_eq_true,decide_eq_true_eq,aoE]at hc
   have:=Qz (ns:=(D.ask (iy line).1).1) (fun n hn=>hc.1 n hn)
   omega
  ·cases h
 ·cases h;exact he _ (Zr _)
theorem agx {D D':Dk}{d:Nat}{ce cs:PV}{M:Mem}(h:AZ D d ce cs M)(hok:D.Ok){line s:ByteArray}(hl:line.size≤1000000)(hs:D.said line=some (D',s)){KP:DV→Mem→Prop}:
  SC C F.nH [.ptr d 0, .d (.str line)] M (fun p M'=>p= .d (.str s)∧∃ce' cs',AZ D' d ce' cs' M'∧FrD d ce cs ce' cs' M M'∧FzB M') KP:=by
 obtain⟨bs,fz,ar⟩:=M
 have KX:∀i∈fz,i<bs.length:=h.fzb
 have hn0:bs.length∉fz:=fun e=>Nat.lt_irrefl _ (KX _ e)
 have hn1:∀k,bs.length+k∉fz:=fun k e=>by have:=KX _ e;omega
 have hs1:¬bs.length+1=bs.length:=by omega
 have hpe:=ahQ line
 have hqe:=Zr line
 have hie:∀n:Int,0≤n∧n≤7→I64 n:=fun n hn=>⟨by omega,by omega⟩
 have hes:∀n:Int,0≤n∧n≤7→(eH n).size≤21:=fun n hn=>DR (hie n hn)
 have e1:(⟨#[101,114,114,111,114,32]⟩:ByteArray).size=6:=rfl
 refine aF mixed rfl EN ?_
 simp only[ru,rP,RN,qA,qB,qC,qD,qE,qF]
 refine au rfl rfl (afF line) ?_
 simp only[F5,aN,aP,hn0,List.length_append,RN,qA,qB,qC,qD,qE,qF]
 unfold Dk.said at hs
 by_cases hz:(dP line).2=0
 ·rw[if_pos hz]at hs
  have hb:((dP line).2==0)=true:=by simp[hz]
  have hd:decide ((dP line).2≠0)=false:=by simp[hz]
  have hF:Frm ⟨bs,fz,ar⟩ ⟨bs++ [some [.d (.int .i64 (dP line).1.kind), .d (.slice false ((dP line).1.ns.map ay))]],bs.length::fz,ar⟩:=Frm.new (xf:=[bs.length]) (by simp)
  have hee:=Y1 D (dP line).1
  have hE:=ait (h.frm hF) hok (dP line).1 (KP:=KP)
  rw[wO]at hE
  simp only[hb,hd,RN,qA,qB,qC,qD,qE,qF]
  refine SC.oh (SC.mono hE ?_) (fun _ _ h=>h)
  rintro p ⟨bs2,fz2,ar2⟩ ⟨rfl,ce',cs',q1,q2⟩
  have q3:=hF.frD (d:=d) (ce:=ce) (cs:=cs)|>.trans q2
  by_cases hz2:(D.enter (dP line).1).2=0
  ·rw[if_pos hz2]at hs
   have hb2:((D.enter (dP line).1).2==0)=true:=by simp[hz2]
   cases hs
   simp only[hb2,RN,qA,qB,qC,qD,qE,qF]
   exact⟨rfl,ce',cs',q1,q3,q1.fzb⟩
  ·rw[if_neg hz2]at hs
   have hb2:((D.enter (dP line).1).2==0)=false:=by simp[hz2]
   have:=hes _ hee
   cases hs
   simp only[hb2,RN,qA,qB,qC,qD,qE,qF]
   refine au rfl rfl (OU (hie _ hee)) ?_
   simp only[gX,pG,RN,qA,qB,qC,qD,qE,qF]
   exact⟨by omega,rfl,ce',cs',q1,q3,q1.fzb⟩
 rw[if_neg hz]at hs
 have hb:((dP line).2==0)=false:=by simp[hz]
 have hd:decide ((dP line).2≠0)=true:=by simp[hz]
 have hF:∀x,Frm ⟨bs,fz,ar⟩ ⟨bs++ [x],bs.length::fz,ar⟩:=fun x=>Frm.new (xf:=[bs.length]) (by simp)
 by_cases h3:(dP line).2=3
 ·rw[if_pos h3]at hs
  have hb3:((dP line).2==3)=true:=by simp[h3]
  have:=hes _ hpe
  rw[←h3]at hs
  cases hs
  simp only[hb,hb3,RN,qA,qB,qC,qD,qE,qF]
  refine au rfl rfl (OU (hie _ hpe)) ?_
  simp only[gX,pG,RN,qA,qB,qC,qD,qE,qF]
  exact⟨by omega,rfl,ce,cs,h.frm (hF _),(hF _).frD,(hF _).fzb h.fzb⟩
 rw[if_neg h3]at hs
 have hb3:((dP line).2==3)=false:=by simp[h3]
 simp only[hb,hb3,RN,qA,qB,qC,qD,qE,qF]
 refine au rfl rfl (afg line hl) ?_
 simp only[F5,bG,aN,bU,aP,hn0,hn1,hs1,List.append_assoc,List.length_append,Nat.add_assoc,List.length_set,RN,qA,qB,qC,qD,qE,qF]
 have hF2:∀x y,Frm ⟨bs,fz,ar⟩ ⟨bs++ [x,y],(bs.length+1)::bs.length::fz,ar⟩:=fun x y=>Frm.new (xf:=[bs.length+1,bs.length]) (by simp)
 by_cases hq:(iy line).2=0
 case neg=>
  rw[if_neg hq]at hs
  have hqb:((iy line).2==0)=false:=by simp[hq]
  have hqn:((iy line).2 !=0)=true:=by simp[hq]
  have:=hes _ hqe
  cases hs
  simp only[hqb,hqn,RN,qA,qB,qC,qD,qE,qF]
  refine au rfl rfl (OU (hie _ hqe)) ?_
  simp only[gX,pG,RN,qA,qB,qC,qD,qE,qF]
  exact⟨by omega,rfl,ce,cs,h.frm (hF2 _ _),(hF2 _ _).frD,(hF2 _ _).fzb h.fzb⟩
 rw[if_pos hq]at hs
 have hqb:((iy line).2==0)=true:=by simp[hq]
 have hqd:decide ((iy line).2≠0)=false:=by simp[hq]
 have hae:=afJ D (iy line).1
 have hA:=anp (h.frm (hF2 (some [.d (.int .i64 (dP line).1.kind), .d (.slice (decide ((dP line).2≠0)) ((dP line).1.ns.map ay))]) (some [.d (.int .i64 (iy line).1.kind), .d (.slice false ((iy line).1.ns.map ay))]))) hok (iy line).1 (KP:=KP)
 rw[am8]at hA
 simp only[hqb,hqd,RN,qA,qB,qC,qD,qE,qF]
 refine SC.oh (SC.mono hA ?_) (fun _ _ h=>h)
 rintro p ⟨bs2,fz2,ar2⟩ ⟨c,hp,hc,hck,q2⟩
 have q3:=(hF2 _ _).trans q2
 generalize D.ask (iy line).1=r at*
 obtain⟨l,e⟩:=r
 simp only at hs hp hc hae
 by_cases he:e=0
 case neg=>
  rw[if_pos he]at hs
  have heb:(e !=0)=true:=by simp[he]
  have:=hes _ hae
  cases hs
  rcases hp with rfl|⟨rfl,rfl⟩
  ·simp only[DC,DF,heb,RN,qA,qB,qC,qD,qE,qF]
   refine au rfl rfl (OU (hie _ hae)) ?_
   simp only[gX,pG,RN,qA,qB,qC,qD,qE,qF]
   exact⟨by omega,rfl,ce,cs,h.frm q3,q3.frD,q3.fzb h.fzb⟩
  ·simp only[heb,RN,qA,qB,qC,qD,qE,qF]
   refine au rfl rfl (OU (hie _ hae)) ?_
   simp only[gX,pG,RN,qA,qB,qC,qD,qE,qF]
   exact⟨by omega,rfl,ce,cs,h.frm q3,q3.frD,q3.fzb h.fzb⟩
 subst he
 have heb:((0:Int) !=0)=false:=rfl
 rw[if_neg (by simp)]at hs
 have apJ:(((0:Nat):Int)==0)=true:=rfl
 rcases hp with rfl|⟨rfl,rfl⟩
 case inr=>
  have hl0:l=[]:=by
   rcases hc with⟨_,h1⟩|⟨k,ver,st,h1,_⟩
   ·exact List.map_eq_nil_iff.1 h1
   ·cases h1
  subst hl0
  rw[if_pos rfl]at hs
  cases hs
  simp only[heb,apJ,RN,qA,qB,qC,qD,qE,qF]
  exact⟨rfl,ce,cs,h.frm q3,q3.frD,q3.fzb h.fzb⟩
 simp only[DC,DF,heb,aaU hc,List.length_map,RN,qA,qB,qC,qD,qE,qF]
 by_cases hl0:l=[]
 ·rw[if_pos hl0]at hs
  cases hs
  simp only[hl0,List.length_nil,apJ,RN,qA,qB,qC,qD,qE,qF]
  exact⟨rfl,ce,cs,h.frm q3,q3.frD,q3.fzb h.fzb⟩
 rw[if_neg hl0]at hs
 have hlb:((l.length:Int)==0)=false:=by cases l with|nil=>exact absurd rfl hl0|cons a l=>simp;omega
 split at hs
 case isFalse=>cases hs
 rename_i hk
 simp only[Bool.and_eq_true,List.all_eq_true,decide_eq_true_eq,aoE]at hk
 cases hs
 rcases hc with⟨_,h1⟩|⟨k,ver,st,rfl,h1,_⟩
 ·exact absurd (List.map_eq_nil_iff.1 h1) hl0
 simp only[hlb,RN,qA,qB,qC,qD,qE,qF]
 refine VE h1 (by simpa only[List.drop_zero]using ab8 l hk.2 hk.1) rfl ?_
 (try simp only[RN,qA,qB,qC,qD,qE,qF])
 exact⟨ce,cs,h.frm q3,q3.frD,q3.fzb h.fzb⟩
end Go.Tel
namespace Go.Am
section
variable {C:Ctx}{base:Nat}{M:Mem}{K:PV→Mem→Prop}{KP:DV→Mem→Prop}
theorem Wx {s:ByteArray}{k:IntKind}{n:Int}(h0:0≤n)(h1:n≤s.size):aj C base (.RV false true) [.d (.str s), .d (.int k n)] M K KP=K (.d (.str (s.extract 0 n.toNat))) M:=by
 simp only[aj,Dh,dI,Option.getD_some,Option.getD_none]
 exact propext ⟨fun h=>h.2.2.2.2.2,fun h=>⟨trivial,trivial,Int.le_refl _,h0,h1,h⟩⟩
theorem Wy {s:ByteArray}{k:IntKind}{n:Int}(h0:0≤n)(h1:n≤s.size):aj C base (.RV true false) [.d (.str s), .d (.int k n)] M K KP=K (.d (.str (s.extract n.toNat s.size))) M:=by
 simp only[aj,Dh,dI,Option.getD_some,Option.getD_none,Int.toNat_natCast]
 exact propext ⟨fun h=>h.2.2.2.2.2,fun h=>⟨trivial,trivial,h0,h1,Int.le_refl _,h⟩⟩
end
end Go.Am
namespace Go.Tel
open Go.Am
theorem aa6 (s:ByteArray):Pure C F.strings_IndexByte [.str s, .int .u8 10] (.d (.int .i64 (Go.Lib.indexByte s.data.toList 10))) []:=by
 refine uh fun X w vals hG hx hr=> ?_
 cases hr with|cons h1 t1=>
 cases t1 with|cons h3 t2=>
 cases t2
 cases h1
 cases h3
 refine(Go.Proofs.Any.strings_IndexByte Go.Proofs.Tryz.laysIndexB s 10 w).mono ?_
 rintro e w' ⟨rfl,rfl⟩
 exact⟨_,rfl,Later.refl _, .int _ _⟩
def KO (s:ByteArray):Bool:=decide (1≤s.size)&&((s.extract (s.size - 1) s.size).toList==(⟨#[10]⟩:ByteArray).toList)
def bY (s:ByteArray):ByteArray:=if KO s then s.extract 0 (s.size - 1)else s
theorem aaT:(⟨#[10]⟩:ByteArray).size=1:=rfl
theorem abQ {s:ByteArray}(hs:s.size≤1000000):Pure C F.stringslite_HasSuffix [.str s, .str ⟨#[10]⟩] (.d (.bool (KO s))) []:=by
 refine ah mixed rfl Gu ?_
 have w1:IntKind.i64.wrap ((s.size:Int) - ((1:Nat):Int))=(s.size:Int) - 1:=by rw[aG (by omega)];omega
 unfold KO
 by_cases h:1≤s.size
 ·have hb:decide (((1:Nat):Int)≤(s.size:Int))=true:=by simp;omega
  have hd:decide (1≤s.size)=true:=by simp[h]
  have x1:(0:Int)≤(s.size:Int) - 1:=by omega
  have x2:(s.size:Int) - 1≤(s.size:Int):=by omega
  have x3:((s.size:Int) - 1).toNat=s.size - 1:=by omega
  simp only[lQ,lV,aaT,hb,hd,w1,Wy x1 x2,x3,gX,NH,Bool.true_and,RN,qA,qB,qC,qD,qE,qF]
 ·have hb:decide (((1:Nat):Int)≤(s.size:Int))=false:=by simp;omega
  have hd:decide (1≤s.size)=false:=by simp[h]
  simp only[lQ,lV,aaT,hb,hd,Bool.false_and,RN,qA,qB,qC,qD,qE,qF]
theorem ajq {s:ByteArray}(hs:s.size≤1000000):Pure C F.strings_HasSuffix [.str s, .str ⟨#[10]⟩] (.d (.bool (KO s))) []:=by
 refine ah mixed rfl Lp ?_
 simp only[Ak,AL,RN,qA,qB,qC,qD,qE,qF]
 refine au rfl rfl (abQ hs) ?_
 (try simp only[RN,qA,qB,qC,qD,qE,qF])
theorem aif {s:ByteArray}(hs:s.size≤1000000):Pure C F.stringslite_TrimSuffix [.str s, .str ⟨#[10]⟩] (.d (.str (bY s))) []:=by
 refine ah mixed rfl EY ?_
 simp only[rO,sF,RN,qA,qB,qC,qD,qE,qF]
 refine au rfl rfl (abQ hs) ?_
 have w1:IntKind.i64.wrap ((s.size:Int) - ((1:Nat):Int))=(s.size:Int) - 1:=by rw[aG (by omega)];omega
 unfold bY
 cases h:KO s
 ·(try simp only[RN,qA,qB,qC,qD,qE,qF])
  simp
 ·have:1≤s.size:=by unfold KO at h;simp only[Bool.and_eq_true,decide_eq_true_eq]at h;exact h.1
  have x1:(0:Int)≤(s.size:Int) - 1:=by omega
  have x2:(s.size:Int) - 1≤(s.size:Int):=by omega
  have x3:((s.size:Int) - 1).toNat=s.size - 1:=by omega
  simp only[aaT,w1,Wx x1 x2,x3,RN,qA,qB,qC,qD,qE,qF]
  simp
theorem aie {s:ByteArray}(hs:s.size≤1000000):Pure C F.strings_TrimSuffix [.str s, .str ⟨#[10]⟩] (.d (.str (bY s))) []:=by
 refine ah mixed rfl KD ?_
 simp only[yN,yX,RN,qA,qB,qC,qD,qE,qF]
 refine au rfl rfl (aif hs) ?_
 (try simp only[RN,qA,qB,qC,qD,qE,qF])
def DT:List UInt8→List (List UInt8)
 | []=>[]
 |b::l=>if b==10 then[b]::DT l else match DT l with| []=>[[b]]|x::xs=>(b::x)::xs
theorem WY:∀(l:List UInt8),(Go.Lib.indexByte l 10= -1∧(l=[]∨DT l=[l]))∨∃i:Nat,Go.Lib.indexByte l 10=(i:Int)∧i<l.length∧DT l=l.take (i+1)::DT (l.drop (i+1))
 | []=> .inl ⟨rfl, .inl rfl⟩
 |b::l=>by
  rw[Go.Lib.indexByte,DT]
  by_cases hb:(b==10)=true
  ·rw[if_pos hb,if_pos hb]
   exact .inr ⟨0,rfl,by simp,rfl⟩
  rw[if_neg hb,if_neg hb]
  rcases WY l with⟨h1,h2⟩|⟨i,h1,h2,h3⟩
  ·refine .inl ⟨by simp[h1], .inr ?_⟩
   rcases h2 with rfl|h2
   ·rfl
   ·rw[h2]
  ·refine .inr ⟨i+1,?_,by simpa using h2,by rw[h3];simp⟩
   rw[if_neg (by rw[h1];simp),h1];omega
def jv (s:ByteArray):List ByteArray:=(DT s.data.toList).map fun l=>⟨l.toArray⟩
def vC (s:ByteArray):List DV:=[.str s]
theorem aeU (s:ByteArray)(hs:0<s.size):(Go.Lib.indexByte s.data.toList 10= -1∧jv s=[s])∨∃i:Nat,Go.Lib.indexByte s.data.toList 10=(i:Int)∧i<s.size∧jv s=s.extract 0 (i+1)::jv (s.extract (i+1) s.size):=by
 have hsz:s.data.toList.length=s.size:=Array.length_toList
 rcases WY s.data.toList with⟨h1,h2⟩|⟨i,h1,h2,h3⟩
 ·refine .inl ⟨h1,?_⟩
  rcases h2 with h2|h2
  ·rw[h2]at hsz;simp at hsz;omega
  ·unfold jv;rw[h2];simp
 ·refine .inr ⟨i,h1,by omega,?_⟩
  unfold jv
  rw[h3,List.map_cons]
  have e1:(s.extract 0 (i+1)).data.toList=s.data.toList.take (i+1):=by simp[ByteArray.data_extract]
  have e2:(s.extract (i+1) s.size).data.toList=s.data.toList.drop (i+1):=by
   simp only[ByteArray.data_extract,Array.toList_extract,List.extract_eq_take_drop,←hsz]
   rw[List.take_of_length_le (by simp)]
  rw[e2,←e1]
def anu (s:ByteArray)(c:Nat)(M:Mem):Prop:=M.boxes[c]?=some (some [.d (.str s)])∧c∉M.fz
theorem adL (s:ByteArray)(c:Nat)(hs:s.size≤1000000):YN C F.uU [] [.ptr c 0] ((jv s).map vC) (·=c) (·=c) no (anu s c):=by
 rintro⟨bs,fz,ar⟩ b n R stop K KP hbn hbo hn hfz hst hmv nD h0 hstop hend
 simp only at hn hfz
 obtain⟨hc,hcf⟩:=hst
 simp only at hc hcf
 refine aF mixed rfl PG ?_
 simp only[Ef,EF,RN,qA,qB,qC,qD,qE,qF]
 refine H8 (fun m st=>∃(t:ByteArray) (pre:List (List DV)) (M1:Mem) (ev:List (Nat×PV)),m=t.size∧t.size≤s.size∧st=⟨(0, .qY b)::(1, .ptr c 0)::ev,M1⟩∧n≤M1.boxes.length∧FzB M1∧anu t c M1∧(jv s).map vC=pre++(jv t).map vC∧R pre M1)
  s.size ⟨s,[],_,[],rfl,Nat.le_refl _,rfl,hn,hfz,⟨hc,hcf⟩,rfl,h0⟩ ?_
 rintro m st ⟨t,pre,⟨bs1,fz1,ar1⟩,ev,rfl,ht,rfl,hn1,hfz1,⟨hc1,alQ⟩,hpre,hR⟩
 simp only at hn1 hc1 alQ
 have hcl:c<bs1.length:=(List.getElem?_eq_some_iff.1 hc1).1
 by_cases h0:0<t.size
 case neg=>
  have hb:decide ((t.size:Int)>0)=false:=decide_eq_false (by omega)
  simp only[hc1,hcl,hb,RN,qA,qB,qC,qD,qE,qF]
  refine hend _ _ hn1 ?_
  have:t.data.toList=[]:=List.length_eq_zero_iff.1 (by have:t.data.toList.length=t.size:=Array.length_toList;omega)
  have e0:jv t=[]:=by unfold jv;rw[this];rfl
  rw[hpre,e0,List.map_nil,List.append_nil]
  exact hR
 have hb:decide ((t.size:Int)>0)=true:=decide_eq_true (by omega)
 have afW:∀(l t':ByteArray),jv t=l::jv t'→t'.size<t.size→SY C b [.d (.str l)] ⟨bs1.set c (some [.d (.str t')]),fz1,ar1⟩
   (fun p M'=>n≤M'.boxes.length∧FzB M'∧anu t' c M'∧((p= .d (.bool true)∧(jv s).map vC=(pre++ [vC l])++(jv t').map vC∧R (pre++ [vC l]) M')∨(p= .d (.bool false)∧stop M'))) KP:=by
  intro l t' hl htl
  have aqG:Moved n (·=c) ⟨bs1,fz1,ar1⟩ ⟨bs1.set c (some [.d (.str t')]),fz1,ar1⟩:=Moved.set (.inr rfl)
  have anf:(jv s).map vC=pre++vC l::(jv t').map vC:=by rw[hpre,hl];rfl
  refine SY.mono (nD pre (vC l) _ _ anf (by simpa using hn1) (hmv pre _ _ aqG hR)) ?_
  rintro p M3 ⟨hk,hp⟩
  have hl3:=hk.len
  simp only[List.length_set]at hl3
  refine⟨by omega,hk.fzb hfz1.set,⟨?_,?_⟩,?_⟩
  ·rw[hk.box c (.inr rfl) (by simpa using hcl)];simp[hcl]
  ·exact fun h=>alQ ((hk.fz c (.inr rfl) (by simpa using hcl)).1 h)
  ·rcases hp with⟨rfl,h⟩|h
   ·exact .inl ⟨rfl,by rw[anf,List.append_assoc];rfl,h⟩
   ·exact .inr h
 simp only[hc1,hcl,hb,RN,qA,qB,qC,qD,qE,qF]
 refine au rfl rfl (aa6 t) ?_
 rcases aeU t h0 with⟨g1,g2⟩|⟨i,g1,g2,g3⟩
 ·have hi:decide (Go.Lib.indexByte t.data.toList 10≥0)=false:=decide_eq_false (by omega)
  simp only[hc1,hcl,hi,alQ,RN,qA,qB,qC,qD,qE,qF]
  refine GU ?_
  refine SY.mono (afW t ⟨#[]⟩ (by rw[g2];rfl) h0) ?_
  rintro p M3 ⟨k1,k2,k3,⟨rfl,k4,k5⟩|⟨rfl,k4⟩⟩
  ·(try simp only[RN,qA,qB,qC,qD,qE,qF])
   exact⟨0,_,h0, .inl rfl,⟨#[]⟩,_,M3,_,rfl,Nat.zero_le _,rfl,k1,k2,k3,k4,k5⟩
  ·(try simp only[RN,qA,qB,qC,qD,qE,qF])
   exact hstop _ _ k4
 ·have hi:decide ((i:Int)≥0)=true:=decide_eq_true (by omega)
  have w1:IntKind.i64.wrap ((i:Int)+1)=(i:Int)+1:=by rw[aG (by omega)]
  have x1:(0:Int)≤(i:Int)+1:=by omega
  have x2:(i:Int)+1≤(t.size:Int):=by omega
  have x3:((i:Int)+1).toNat=i+1:=by omega
  have x4:(t.extract (i+1) t.size).size<t.size:=by simp;omega
  rw[g1]
  simp only[hc1,hcl,hi,alQ,w1,Wx x1 x2,Wy x1 x2,x3,RN,qA,qB,qC,qD,qE,qF]
  refine GU ?_
  refine SY.mono (afW _ _ g3 x4) ?_
  rintro p M3 ⟨k1,k2,k3,⟨rfl,k4,k5⟩|⟨rfl,k4⟩⟩
  ·(try simp only[RN,qA,qB,qC,qD,qE,qF])
   exact⟨_,_,x4, .inl rfl,_,_,M3,_,rfl,by omega,rfl,k1,k2,k3,k4,k5⟩
  ·(try simp only[RN,qA,qB,qC,qD,qE,qF])
   exact hstop _ _ k4
theorem aiw (s:ByteArray){bs:List (Option (List PV))}{fz:List Nat}{ar:List (Option Arr)}{KP:DV→Mem→Prop}:
  SC C F.Gy [.d (.str s)] ⟨bs,fz,ar⟩ (fun p M'=>p= .func (.func F.uU) [] [.ptr bs.length 0]∧M'=⟨bs++ [some [.d (.str s)]],fz,ar⟩) KP:=by
 refine aF mixed rfl TA ?_
 simp only[Ht,Ih,aN,aP,pJ,RN,qA,qB,qC,qD,qE,qF]
end Go.Tel
namespace Go.Tel
open Go.Am
def nlB:ByteArray:=⟨#[10]⟩
def Fa:Dk→List ByteArray→ByteArray→Option (Dk×ByteArray)
 |D,[],out=>some (D,out)
 |D,l::ls,out=>match D.said (bY l)with|none=>none|some q=>Fa q.1 ls (out++(q.2++nlB))
theorem Sv:∀(l1 l2:List ByteArray) (D:Dk) (out:ByteArray),Fa D (l1++l2) out=match Fa D l1 out with|none=>none|some q=>Fa q.1 l2 q.2
 | [],l2,D,out=>rfl
 |l::ls,l2,D,out=>by
  rw[List.cons_append,Fa,Fa]
  cases D.said (bY l)with
  |none=>rfl
  |some q=>exact Sv ls l2 _ _
theorem FrD.kept {d n c:Nat}{ce cs ce' cs':PV}{M M':Mem}(h:FrD d ce cs ce' cs' M M')(hf:FzB M→FzB M')(hd:d<n)(hc:d≠c):Kept n (·=c) no M M':=
 ⟨h.len,h.aY,fun i hi hl=>h.box i hl (fun e=>hi.elim (fun hi=>by omega) fun hi=>hc (by rw[←e];exact hi)),fun i _ hl=>h.fz i hl,fun _ h=>h.elim,hf⟩
theorem aeV (s:ByteArray):(jv s).length≤s.size:=by
 have:∀l:List UInt8,(DT l).length≤l.length:=by
  intro l
  induction l with
  |nil=>exact Nat.le_refl _
  |cons b l ih=>
   rw[DT]
   split
   ·simpa using ih
   ·split
    ·simp
    ·rename_i h;rw[h]at ih;simp at ih⊢;omega
 unfold jv
 rw[List.length_map]
 have h1:=this s.data.toList
 have:s.data.toList.length=s.size:=Array.length_toList
 omega
theorem IZ:∀(l:List UInt8) (x:List UInt8),x∈DT l→x.length≤l.length
 | [],x,h=>by cases h
 |b::l,x,h=>by
  rw[DT]at h
  split at h
  ·rcases List.mem_cons.1 h with rfl|h
   ·simp
   ·have:=IZ l x h;simp;omega
  ·split at h
   ·simp at h;subst h;simp
   ·rename_i y ys hy
    rcases List.mem_cons.1 h with rfl|h
    ·have:=IZ l y (by rw[hy];simp);simp;omega
    ·have:=IZ l x (by rw[hy];simp[h]);simp;omega
theorem aeW {s x:ByteArray}(h:x∈jv s):x.size≤s.size:=by
 simp only[jv,List.mem_map]at h
 obtain⟨l,hl,rfl⟩:=h
 have:=IZ _ _ hl
 have e:s.data.toList.length=s.size:=Array.length_toList
 simp only[ByteArray.size,List.size_toArray]at e⊢
 rw[←e];exact this
theorem abv (s:ByteArray):(bY s).size≤s.size:=by
 unfold bY
 split
 ·simp
 ·exact Nat.le_refl _
def ak1 (s:Su)(script:ByteArray)(pre:List (List DV))(M1:Mem):Prop:=
 ∃ls rs D ce cs o,jv script=ls++rs∧pre=ls.map vC∧Fa ⟨s,[],[]⟩ ls ⟨#[]⟩=some (D,o)∧AZ D 4 ce cs M1∧D.Ok∧M1.boxes[1]?=some (some [.ptr 4 0])∧M1.boxes[5]?=some (some [.d (.str o)])∧5∉M1.fz∧o.size≤30001*ls.length
theorem ak1.moved {s:Su}{script:ByteArray}{pre:List (List DV)}{M1 M2:Mem}{n:Nat}(h:ak1 s script pre M1)(hn:6≤n)(hm:Moved n (·=6) M1 M2):ak1 s script pre M2:=by
 obtain⟨ls,rs,D,ce,cs,o,h1,h2,h3,h4,h5,h6,h7,h8,h9⟩:=h
 refine⟨ls,rs,D,ce,cs,o,h1,h2,h3,?_,h5,(hm.box 1 (by omega) (by simp)).trans h6,(hm.box 5 (by omega) (by simp)).trans h7,fun e=>h8 ((hm.fz 5 (by omega) (by simp)).1 e),h9⟩
 exact⟨⟨(hm.box 4 (by omega) (by simp)).trans h4.box,by rw[hm.aA];exact h4.ent,by rw[hm.aA];exact h4.str⟩,h4.dif,fun e=>h4.nb ((hm.fz 4 (by omega) (by simp)).1 e),hm.fzb h4.fzb⟩
theorem agt (s:Su)(hs:s.Small)(hok:s.ok=true){script out:ByteArray}(hl:script.size≤1500)(hnl:(script.toList==(⟨#[]⟩:ByteArray).toList||KO script)=true){D':Dk}(hrun:Fa ⟨s,[],[]⟩ (jv script) ⟨#[]⟩=some (D',out)):
  Pure C F.vg [s.dv, .str script] (.d (.tup [.str out, .int .i64 0])) []:=by
 refine ah mixed rfl Kw ?_
 rw[Oc]
 simp only[yI,yR,RN,qA,qB,qC,qD,qE,qF]
 have hO:=fun X KP=>ak2 s hs [X,none] [0] [] KP (by simp)
 rw[Oc]at hO
 refine SC.oh (SC.mono (hO _ (fun _ _=>False)) ?_) (fun _ _ h=>h)
 rintro p M' (⟨h,_⟩|⟨_,rfl,x1,x2,rfl⟩)
 ·rw[hok]at h;cases h
 have z1:((0:Int) !=0)=false:=rfl
 have z2:decide ((script.size:Int)>1500)=false:=decide_eq_false (by omega)
 simp only[DC,DF,mQ,z1,z2,gX,aaX,Di,Nr,RN,qA,qB,qC,qD,qE,qF]
 have aqJ:(script.toList==(⟨#[]⟩:ByteArray).toList)=false→KO script=true:=fun h=>by rw[h]at hnl;exact hnl
 cases hsn:(script.toList==(⟨#[]⟩:ByteArray).toList)
 all_goals first
  |(simp only[hsn,RN,qA,qB,qC,qD,qE,qF];refine au rfl rfl (ajq (by omega)) ?_;rw[aqJ hsn])
  |skip
 all_goals simp only[hsn,mQ,RN,qA,qB,qC,qD,qE,qF]
 all_goals refine SC.oh (SC.mono (aiw script (KP:=fun _ _=>False)) ?_) (fun _ _ h=>h)
 all_goals rintro p M' ⟨rfl,rfl⟩
 all_goals(try simp only[RN,qA,qB,qC,qD,qE,qF])
 all_goals(
  refine vG (adL script 6 (by omega)) (fun _ h=>h) rfl (by kernel_rfl) (fun i hi=>by simp at hi;simp;omega) (fun x hx=>by obtain⟨y,_,rfl⟩:=List.mem_map.1 hx;rfl) (fun i hi=>by subst hi;simp) (fun M' hm=>⟨(hm.box 6 (by simp) id).trans rfl,fun e=>by have:=(hm.fz 6 (by simp) id).1 e;simp at this⟩)
   (ak1 s script) (fun pre M1 M2 hm h=>h.moved (by simp) hm) ⟨[],jv script,⟨s,[],[]⟩,_,_,_,rfl,rfl,rfl,⟨⟨rfl, .inl ⟨rfl,rfl⟩, .inl ⟨rfl,rfl⟩⟩,(by intro k hk;cases hk),by simp,by intro i hi;simp at hi;simp;omega⟩,⟨hok,rfl,Nat.zero_le _,fun x h=>(by cases h),fun x h=>(by cases h)⟩,rfl,rfl,by simp,Nat.zero_le _⟩ ?_ ?_
  ·rintro L cells pre x post ⟨bs1,fz1,ar1⟩ hx hlt hrec hnf ⟨ls,rs,D,ce,cs,o,h1,h2,h3,h4,h5,h6,h7,h8,h9⟩ M0
   simp only[List.length_cons,List.length_nil]at hlt hrec hnf h6 h7 h8⊢
   obtain⟨y,rs',rfl,rfl⟩:∃y rs',rs=y::rs'∧x=vC y:=by
    rw[h1,h2,List.map_append]at hx
    have hx:=List.append_cancel_left hx
    cases rs with
    |nil=>cases hx
    |cons y rs'=>exact⟨y,rs',rfl,(List.cons.inj hx).1.symm⟩
   rw[h1,Sv,h3]at hrun
   simp only[Fa]at hrun
   cases hsd:D.said (bY y)with
   |none=>rw[hsd]at hrun;cases hrun
   |some q=>
   obtain⟨D2,an⟩:=q
   have hy:y.size≤script.size:=aeW (by rw[h1];simp)
   have hll:=aeV script
   rw[h1]at hll
   simp only[List.length_append,List.length_cons]at hll
   have hcs:=abv y
   have han:=ah1 hsd
   have h5l:5<bs1.length:=by omega
   have h1l:1<bs1.length:=by omega
   simp only[vC,List.zip_cons_cons,List.zip_nil_left,List.map_cons,List.map_nil,h6,h7,h5l,h1l,RN,qA,qB,qC,qD,qE,qF]
   refine au rfl rfl (aie (by omega)) ?_
   (try simp only[RN,qA,qB,qC,qD,qE,qF])
   refine ald h7 (by simp) ?_
   refine SC.oh (SC.mono (agx h4 h5 (by omega) hsd (KP:=fun _ _=>False)) ?_) (fun _ _ h=>h.elim)
   rintro p ⟨bs2,fz2,ar2⟩ ⟨rfl,ce',cs',q1,q2,q3⟩
   have h52:bs2[5]?=some (some [.d (.str o)]):=(q2.box 5 h5l (by decide)).trans h7
   have hl2:=q2.len
   simp only at hl2
   have apn:5<bs2.length:=by omega
   have h8':¬5∈fz2:=fun e=>h8 ((q2.fz 5 h5l).1 e)
   refine⟨q2.box 5 h5l (by decide),?_⟩
   have hs1:an.size+nlB.size≤9223372036854775807:=by have:nlB.size=1:=rfl;omega
   have hs2:o.size+(an++nlB).size≤9223372036854775807:=by have:nlB.size=1:=rfl;rw[ByteArray.size_append];omega
   rw[nlB]at hs1 hs2
   simp only[gX,pG,hs1,hs2,h52,apn,h8',zL,RN,qA,qB,qC,qD,qE,qF]
   refine⟨by rw[List.getElem?_set_ne (by decide)];exact(q2.box 7 (by simp only;omega) (by decide)).trans hrec,fun e=>hnf ((q2.fz 7 (by simp only;omega)).1 e),(FrD.kept q2 (fun _=>q3) (by decide) (by decide)).set2 (by decide) (by decide),ls++ [y],rs',D2,ce',cs',o++(an++nlB),by rw[h1];simp,by rw[h2];simp[vC],?_,
    ⟨⟨by simp only;rw[List.getElem?_set_ne (by decide)];exact q1.box,q1.ent,q1.str⟩,q1.dif,q1.nb,q3.set⟩,amM h5 hsd,?_,by simp[apn];rfl,h8',?_⟩
   ·rw[Sv,h3]
    simp only[Fa,hsd]
   ·simp only;rw[List.getElem?_set_ne (by decide)];exact(q2.box 1 h1l (by decide)).trans h6
   ·have:nlB.size=1:=rfl
    simp only[ByteArray.size_append,List.length_append,List.length_cons,List.length_nil]
    omega
  ·rintro⟨bs1,fz1,ar1⟩ ⟨ls,rs,D,ce,cs,o,h1,h2,h3,h4,h5,h6,h7,h8,h9⟩ hlt
   simp only[List.length_cons,List.length_nil]at hlt h6 h7 h8
   have hrs:rs=[]:=by
    have:=congrArg List.length h2
    rw[h1]at this
    simp at this
    exact this
   subst hrs
   rw[h1,List.append_nil,h3]at hrun
   cases hrun
   have h5l:5<bs1.length:=by omega
   simp only[h7,h5l,RN,qA,qB,qC,qD,qE,qF])
def aO:Su:=⟨⟨[⟨0,⟨10,20⟩⟩,⟨1,⟨12,18⟩⟩,⟨1,⟨15,10⟩⟩],[2,3]⟩,[⟨1,3⟩,⟨1499,2000⟩],100,⟨40,[15,21,27]⟩,⟨0,[4]⟩,⟨59,2,0⟩,[⟨true,0,0,0⟩,⟨false,1,6,0⟩],1,3,6,4,10⟩
def aaQ:ByteArray:=⟨#[104,97,110,100,115,10,111,114,100,101,114,32,48,32,50,32,53,10,111,114,100,101,114,32,48,32,49,32,50,10,110,101,101,100,32,48,32,49,48,32,50,48,10,110,101,101,100,32,49,32,49,48,32,50,48,10,99,104,97,110,103,101,32,49,32,49,50,32,49,53,10,99,117,116,32,51,55,10,99,117,116,32,49,53,10,115,116,111,99,107,10,99,104,97,110,103,101,32,49,32,49,50,32,49,53,10,115,116,111,99,107,10,112,114,105,99,101,32,48,10,115,101,114,118,101,32,48,32,53,54,10,115,101,114,118,101,32,48,32,53,55,10,111,112,101,110,10,99,111,105,110,115,10,111,102,102,32,49,32,57,10,111,102,102,32,49,32,49,48,10,119,114,111,110,103,10,115,101,116,32,54,10,115,101,116,32,57,10,115,101,116,32,56,10,115,101,116,32,56,10,119,111,114,107,115,32,57,10,100,97,116,101,32,52,48,10,119,114,111,110,103,10,99,117,116,115,32,51,54,10,115,116,114,105,107,101,32,49,10,115,116,114,105,107,101,32,52,10,115,116,114,105,107,101,32,51,10,99,111,105,110,115,10,111,112,101,110,10,115,116,97,110,100,115,10,115,116,114,105,107,101,32,48,10,115,116,114,105,107,101,32,57,10,115,101,114,118,101,32,48,10]⟩
def Qe:ByteArray:=⟨#[49,32,51,32,51,32,52,10,110,111,116,101,100,10,101,114,114,111,114,32,55,10,49,32,49,50,32,49,53,10,101,114,114,111,114,32,55,10,101,114,114,111,114,32,55,10,101,114,114,111,114,32,55,10,110,111,116,101,100,10,49,53,10,110,111,116,101,100,10,49,56,10,53,55,10,101,114,114,111,114,32,55,10,110,111,116,101,100,10,110,111,116,104,105,110,103,10,53,55,10,57,55,10,49,48,56,10,51,53,54,10,101,114,114,111,114,32,55,10,101,114,114,111,114,32,55,10,110,111,116,101,100,10,101,114,114,111,114,32,55,10,49,48,10,50,32,57,10,51,52,56,10,50,32,49,32,51,10,101,114,114,111,114,32,55,10,110,111,116,101,100,10,110,111,116,101,100,10,48,10,48,32,50,32,53,10,48,32,49,32,50,10,101,114,114,111,114,32,55,10,101,114,114,111,114,32,50,10,101,114,114,111,114,32,52,10]⟩
theorem aS {D D':Dk}{l a out:ByteArray}{ls:List ByteArray}{r:Option (Dk×ByteArray)}(h:D.said (bY l)=some (D',a))(hr:Fa D' ls (out++(a++nlB))=r):Fa D (l::ls) out=r:=by
 rw[Fa,h];exact hr
theorem al7:jv aaQ=[⟨#[104,97,110,100,115,10]⟩,⟨#[111,114,100,101,114,32,48,32,50,32,53,10]⟩,⟨#[111,114,100,101,114,32,48,32,49,32,50,10]⟩,⟨#[110,101,101,100,32,48,32,49,48,32,50,48,10]⟩,⟨#[110,101,101,100,32,49,32,49,48,32,50,48,10]⟩,⟨#[99,104,97,110,103,101,32,49,32,49,50,32,49,53,10]⟩,⟨#[99,117,116,32,51,55,10]⟩,⟨#[99,117,116,32,49,53,10]⟩,⟨#[115,116,111,99,107,10]⟩,⟨#[99,104,97,110,103,101,32,49,32,49,50,32,49,53,10]⟩,⟨#[115,116,111,99,107,10]⟩,⟨#[112,114,105,99,101,32,48,10]⟩,⟨#[115,101,114,118,101,32,48,32,53,54,10]⟩,⟨#[115,101,114,118,101,32,48,32,53,55,10]⟩,⟨#[111,112,101,110,10]⟩,⟨#[99,111,105,110,115,10]⟩,⟨#[111,102,102,32,49,32,57,10]⟩,⟨#[111,102,102,32,49,32,49,48,10]⟩,⟨#[119,114,111,110,103,10]⟩,⟨#[115,101,116,32,54,10]⟩,⟨#[115,101,116,32,57,10]⟩,⟨#[115,101,116,32,56,10]⟩,⟨#[115,101,116,32,56,10]⟩,⟨#[119,111,114,107,115,32,57,10]⟩,⟨#[100,97,116,101,32,52,48,10]⟩,⟨#[119,114,111,110,103,10]⟩,⟨#[99,117,116,115,32,51,54,10]⟩,⟨#[115,116,114,105,107,101,32,49,10]⟩,⟨#[115,116,114,105,107,101,32,52,10]⟩,⟨#[115,116,114,105,107,101,32,51,10]⟩,⟨#[99,111,105,110,115,10]⟩,⟨#[111,112,101,110,10]⟩,⟨#[115,116,97,110,100,115,10]⟩,⟨#[115,116,114,105,107,101,32,48,10]⟩,⟨#[115,116,114,105,107,101,32,57,10]⟩,⟨#[115,101,114,118,101,32,48,10]⟩]:=by kernel_rfl
theorem k_1:Dk.said ⟨aO,[],[]⟩ (bY ⟨#[104,97,110,100,115,10]⟩)=some (⟨aO,[],[]⟩,⟨#[49,32,51,32,51,32,52]⟩):=by kernel_rfl
theorem k_2:Dk.said ⟨aO,[],[]⟩ (bY ⟨#[111,114,100,101,114,32,48,32,50,32,53,10]⟩)=some (⟨aO,[⟨3,[0,2,5]⟩],[false]⟩,⟨#[110,111,116,101,100]⟩):=by kernel_rfl
theorem k_3:Dk.said ⟨aO,[⟨3,[0,2,5]⟩],[false]⟩ (bY ⟨#[111,114,100,101,114,32,48,32,49,32,50,10]⟩)=some (⟨aO,[⟨3,[0,2,5]⟩],[false]⟩,⟨#[101,114,114,111,114,32,55]⟩):=by kernel_rfl
theorem k_4:Dk.said ⟨aO,[⟨3,[0,2,5]⟩],[false]⟩ (bY ⟨#[110,101,101,100,32,48,32,49,48,32,50,48,10]⟩)=some (⟨aO,[⟨3,[0,2,5]⟩],[false]⟩,⟨#[49,32,49,50,32,49,53]⟩):=by kernel_rfl
theorem k_5:Dk.said ⟨aO,[⟨3,[0,2,5]⟩],[false]⟩ (bY ⟨#[110,101,101,100,32,49,32,49,48,32,50,48,10]⟩)=some (⟨aO,[⟨3,[0,2,5]⟩],[false]⟩,⟨#[101,114,114,111,114,32,55]⟩):=by kernel_rfl
theorem k_6:Dk.said ⟨aO,[⟨3,[0,2,5]⟩],[false]⟩ (bY ⟨#[99,104,97,110,103,101,32,49,32,49,50,32,49,53,10]⟩)=some (⟨aO,[⟨3,[0,2,5]⟩],[false]⟩,⟨#[101,114,114,111,114,32,55]⟩):=by kernel_rfl
theorem k_7:Dk.said ⟨aO,[⟨3,[0,2,5]⟩],[false]⟩ (bY ⟨#[99,117,116,32,51,55,10]⟩)=some (⟨aO,[⟨3,[0,2,5]⟩],[false]⟩,⟨#[101,114,114,111,114,32,55]⟩):=by kernel_rfl
theorem k_8:Dk.said ⟨aO,[⟨3,[0,2,5]⟩],[false]⟩ (bY ⟨#[99,117,116,32,49,53,10]⟩)=some (⟨aO,[⟨3,[0,2,5]⟩,⟨1,[15]⟩],[false,false]⟩,⟨#[110,111,116,101,100]⟩):=by kernel_rfl
theorem k_9:Dk.said ⟨aO,[⟨3,[0,2,5]⟩,⟨1,[15]⟩],[false,false]⟩ (bY ⟨#[115,116,111,99,107,10]⟩)=some (⟨aO,[⟨3,[0,2,5]⟩,⟨1,[15]⟩],[false,false]⟩,⟨#[49,53]⟩):=by kernel_rfl
theorem aqS:Dk.said ⟨aO,[⟨3,[0,2,5]⟩,⟨1,[15]⟩],[false,false]⟩ (bY ⟨#[99,104,97,110,103,101,32,49,32,49,50,32,49,53,10]⟩)=some (⟨aO,[⟨3,[0,2,5]⟩,⟨1,[15]⟩,⟨2,[1,12,15]⟩],[false,false,false]⟩,⟨#[110,111,116,101,100]⟩):=by kernel_rfl
theorem aqT:Dk.said ⟨aO,[⟨3,[0,2,5]⟩,⟨1,[15]⟩,⟨2,[1,12,15]⟩],[false,false,false]⟩ (bY ⟨#[115,116,111,99,107,10]⟩)=some (⟨aO,[⟨3,[0,2,5]⟩,⟨1,[15]⟩,⟨2,[1,12,15]⟩],[false,false,false]⟩,⟨#[49,56]⟩):=by kernel_rfl
theorem aqU:Dk.said ⟨aO,[⟨3,[0,2,5]⟩,⟨1,[15]⟩,⟨2,[1,12,15]⟩],[false,false,false]⟩ (bY ⟨#[112,114,105,99,101,32,48,10]⟩)=some (⟨aO,[⟨3,[0,2,5]⟩,⟨1,[15]⟩,⟨2,[1,12,15]⟩],[false,false,false]⟩,⟨#[53,55]⟩):=by kernel_rfl
theorem aqV:Dk.said ⟨aO,[⟨3,[0,2,5]⟩,⟨1,[15]⟩,⟨2,[1,12,15]⟩],[false,false,false]⟩ (bY ⟨#[115,101,114,118,101,32,48,32,53,54,10]⟩)=some (⟨aO,[⟨3,[0,2,5]⟩,⟨1,[15]⟩,⟨2,[1,12,15]⟩],[false,false,false]⟩,⟨#[101,114,114,111,114,32,55]⟩):=by kernel_rfl
theorem aqW:Dk.said ⟨aO,[⟨3,[0,2,5]⟩,⟨1,[15]⟩,⟨2,[1,12,15]⟩],[false,false,false]⟩ (bY ⟨#[115,101,114,118,101,32,48,32,53,55,10]⟩)=some (⟨aO,[⟨3,[0,2,5]⟩,⟨1,[15]⟩,⟨2,[1,12,15]⟩,⟨4,[0,57]⟩],[false,false,false,false]⟩,⟨#[110,111,116,101,100]⟩):=by kernel_rfl
theorem aqX:Dk.said ⟨aO,[⟨3,[0,2,5]⟩,⟨1,[15]⟩,⟨2,[1,12,15]⟩,⟨4,[0,57]⟩],[false,false,false,false]⟩ (bY ⟨#[111,112,101,110,10]⟩)=some (⟨aO,[⟨3,[0,2,5]⟩,⟨1,[15]⟩,⟨2,[1,12,15]⟩,⟨4,[0,57]⟩],[false,false,false,false]⟩,⟨#[110,111,116,104,105,110,103]⟩):=by kernel_rfl
theorem aqY:Dk.said ⟨aO,[⟨3,[0,2,5]⟩,⟨1,[15]⟩,⟨2,[1,12,15]⟩,⟨4,[0,57]⟩],[false,false,false,false]⟩ (bY ⟨#[99,111,105,110,115,10]⟩)=some (⟨aO,[⟨3,[0,2,5]⟩,⟨1,[15]⟩,⟨2,[1,12,15]⟩,⟨4,[0,57]⟩],[false,false,false,false]⟩,⟨#[53,55]⟩):=by kernel_rfl
theorem aqZ:Dk.said ⟨aO,[⟨3,[0,2,5]⟩,⟨1,[15]⟩,⟨2,[1,12,15]⟩,⟨4,[0,57]⟩],[false,false,false,false]⟩ (bY ⟨#[111,102,102,32,49,32,57,10]⟩)=some (⟨aO,[⟨3,[0,2,5]⟩,⟨1,[15]⟩,⟨2,[1,12,15]⟩,⟨4,[0,57]⟩],[false,false,false,false]⟩,⟨#[57,55]⟩):=by kernel_rfl
theorem aq0:Dk.said ⟨aO,[⟨3,[0,2,5]⟩,⟨1,[15]⟩,⟨2,[1,12,15]⟩,⟨4,[0,57]⟩],[false,false,false,false]⟩ (bY ⟨#[111,102,102,32,49,32,49,48,10]⟩)=some (⟨aO,[⟨3,[0,2,5]⟩,⟨1,[15]⟩,⟨2,[1,12,15]⟩,⟨4,[0,57]⟩],[false,false,false,false]⟩,⟨#[49,48,56]⟩):=by kernel_rfl
theorem aq1:Dk.said ⟨aO,[⟨3,[0,2,5]⟩,⟨1,[15]⟩,⟨2,[1,12,15]⟩,⟨4,[0,57]⟩],[false,false,false,false]⟩ (bY ⟨#[119,114,111,110,103,10]⟩)=some (⟨aO,[⟨3,[0,2,5]⟩,⟨1,[15]⟩,⟨2,[1,12,15]⟩,⟨4,[0,57]⟩],[false,false,false,false]⟩,⟨#[51,53,54]⟩):=by kernel_rfl
theorem aq2:Dk.said ⟨aO,[⟨3,[0,2,5]⟩,⟨1,[15]⟩,⟨2,[1,12,15]⟩,⟨4,[0,57]⟩],[false,false,false,false]⟩ (bY ⟨#[115,101,116,32,54,10]⟩)=some (⟨aO,[⟨3,[0,2,5]⟩,⟨1,[15]⟩,⟨2,[1,12,15]⟩,⟨4,[0,57]⟩],[false,false,false,false]⟩,⟨#[101,114,114,111,114,32,55]⟩):=by kernel_rfl
theorem aq3:Dk.said ⟨aO,[⟨3,[0,2,5]⟩,⟨1,[15]⟩,⟨2,[1,12,15]⟩,⟨4,[0,57]⟩],[false,false,false,false]⟩ (bY ⟨#[115,101,116,32,57,10]⟩)=some (⟨aO,[⟨3,[0,2,5]⟩,⟨1,[15]⟩,⟨2,[1,12,15]⟩,⟨4,[0,57]⟩],[false,false,false,false]⟩,⟨#[101,114,114,111,114,32,55]⟩):=by kernel_rfl
theorem aq4:Dk.said ⟨aO,[⟨3,[0,2,5]⟩,⟨1,[15]⟩,⟨2,[1,12,15]⟩,⟨4,[0,57]⟩],[false,false,false,false]⟩ (bY ⟨#[115,101,116,32,56,10]⟩)=some (⟨aO,[⟨3,[0,2,5]⟩,⟨1,[15]⟩,⟨2,[1,12,15]⟩,⟨4,[0,57]⟩,⟨5,[8]⟩],[false,false,false,false,false]⟩,⟨#[110,111,116,101,100]⟩):=by kernel_rfl
theorem aq5:Dk.said ⟨aO,[⟨3,[0,2,5]⟩,⟨1,[15]⟩,⟨2,[1,12,15]⟩,⟨4,[0,57]⟩,⟨5,[8]⟩],[false,false,false,false,false]⟩ (bY ⟨#[115,101,116,32,56,10]⟩)=some (⟨aO,[⟨3,[0,2,5]⟩,⟨1,[15]⟩,⟨2,[1,12,15]⟩,⟨4,[0,57]⟩,⟨5,[8]⟩],[false,false,false,false,false]⟩,⟨#[101,114,114,111,114,32,55]⟩):=by kernel_rfl
theorem aq6:Dk.said ⟨aO,[⟨3,[0,2,5]⟩,⟨1,[15]⟩,⟨2,[1,12,15]⟩,⟨4,[0,57]⟩,⟨5,[8]⟩],[false,false,false,false,false]⟩ (bY ⟨#[119,111,114,107,115,32,57,10]⟩)=some (⟨aO,[⟨3,[0,2,5]⟩,⟨1,[15]⟩,⟨2,[1,12,15]⟩,⟨4,[0,57]⟩,⟨5,[8]⟩],[false,false,false,false,false]⟩,⟨#[49,48]⟩):=by kernel_rfl
theorem aq7:Dk.said ⟨aO,[⟨3,[0,2,5]⟩,⟨1,[15]⟩,⟨2,[1,12,15]⟩,⟨4,[0,57]⟩,⟨5,[8]⟩],[false,false,false,false,false]⟩ (bY ⟨#[100,97,116,101,32,52,48,10]⟩)=some (⟨aO,[⟨3,[0,2,5]⟩,⟨1,[15]⟩,⟨2,[1,12,15]⟩,⟨4,[0,57]⟩,⟨5,[8]⟩],[false,false,false,false,false]⟩,⟨#[50,32,57]⟩):=by kernel_rfl
theorem aq8:Dk.said ⟨aO,[⟨3,[0,2,5]⟩,⟨1,[15]⟩,⟨2,[1,12,15]⟩,⟨4,[0,57]⟩,⟨5,[8]⟩],[false,false,false,false,false]⟩ (bY ⟨#[119,114,111,110,103,10]⟩)=some (⟨aO,[⟨3,[0,2,5]⟩,⟨1,[15]⟩,⟨2,[1,12,15]⟩,⟨4,[0,57]⟩,⟨5,[8]⟩],[false,false,false,false,false]⟩,⟨#[51,52,56]⟩):=by kernel_rfl
theorem aq9:Dk.said ⟨aO,[⟨3,[0,2,5]⟩,⟨1,[15]⟩,⟨2,[1,12,15]⟩,⟨4,[0,57]⟩,⟨5,[8]⟩],[false,false,false,false,false]⟩ (bY ⟨#[99,117,116,115,32,51,54,10]⟩)=some (⟨aO,[⟨3,[0,2,5]⟩,⟨1,[15]⟩,⟨2,[1,12,15]⟩,⟨4,[0,57]⟩,⟨5,[8]⟩],[false,false,false,false,false]⟩,⟨#[50,32,49,32,51]⟩):=by kernel_rfl
theorem ara:Dk.said ⟨aO,[⟨3,[0,2,5]⟩,⟨1,[15]⟩,⟨2,[1,12,15]⟩,⟨4,[0,57]⟩,⟨5,[8]⟩],[false,false,false,false,false]⟩ (bY ⟨#[115,116,114,105,107,101,32,49,10]⟩)=some (⟨aO,[⟨3,[0,2,5]⟩,⟨1,[15]⟩,⟨2,[1,12,15]⟩,⟨4,[0,57]⟩,⟨5,[8]⟩],[false,false,false,false,false]⟩,⟨#[101,114,114,111,114,32,55]⟩):=by kernel_rfl
theorem arb:Dk.said ⟨aO,[⟨3,[0,2,5]⟩,⟨1,[15]⟩,⟨2,[1,12,15]⟩,⟨4,[0,57]⟩,⟨5,[8]⟩],[false,false,false,false,false]⟩ (bY ⟨#[115,116,114,105,107,101,32,52,10]⟩)=some (⟨aO,[⟨3,[0,2,5]⟩,⟨1,[15]⟩,⟨2,[1,12,15]⟩,⟨4,[0,57]⟩,⟨5,[8]⟩,⟨6,[4]⟩],[false,false,false,false,true,false]⟩,⟨#[110,111,116,101,100]⟩):=by kernel_rfl
theorem ard:Dk.said ⟨aO,[⟨3,[0,2,5]⟩,⟨1,[15]⟩,⟨2,[1,12,15]⟩,⟨4,[0,57]⟩,⟨5,[8]⟩,⟨6,[4]⟩],[false,false,false,false,true,false]⟩ (bY ⟨#[115,116,114,105,107,101,32,51,10]⟩)=some (⟨aO,[⟨3,[0,2,5]⟩,⟨1,[15]⟩,⟨2,[1,12,15]⟩,⟨4,[0,57]⟩,⟨5,[8]⟩,⟨6,[4]⟩,⟨6,[3]⟩],[false,false,false,true,true,false,false]⟩,⟨#[110,111,116,101,100]⟩):=by kernel_rfl
theorem arf:Dk.said ⟨aO,[⟨3,[0,2,5]⟩,⟨1,[15]⟩,⟨2,[1,12,15]⟩,⟨4,[0,57]⟩,⟨5,[8]⟩,⟨6,[4]⟩,⟨6,[3]⟩],[false,false,false,true,true,false,false]⟩ (bY ⟨#[99,111,105,110,115,10]⟩)=some (⟨aO,[⟨3,[0,2,5]⟩,⟨1,[15]⟩,⟨2,[1,12,15]⟩,⟨4,[0,57]⟩,⟨5,[8]⟩,⟨6,[4]⟩,⟨6,[3]⟩],[false,false,false,true,true,false,false]⟩,⟨#[48]⟩):=by kernel_rfl
theorem arh:Dk.said ⟨aO,[⟨3,[0,2,5]⟩,⟨1,[15]⟩,⟨2,[1,12,15]⟩,⟨4,[0,57]⟩,⟨5,[8]⟩,⟨6,[4]⟩,⟨6,[3]⟩],[false,false,false,true,true,false,false]⟩ (bY ⟨#[111,112,101,110,10]⟩)=some (⟨aO,[⟨3,[0,2,5]⟩,⟨1,[15]⟩,⟨2,[1,12,15]⟩,⟨4,[0,57]⟩,⟨5,[8]⟩,⟨6,[4]⟩,⟨6,[3]⟩],[false,false,false,true,true,false,false]⟩,⟨#[48,32,50,32,53]⟩):=by kernel_rfl
theorem ari:Dk.said ⟨aO,[⟨3,[0,2,5]⟩,⟨1,[15]⟩,⟨2,[1,12,15]⟩,⟨4,[0,57]⟩,⟨5,[8]⟩,⟨6,[4]⟩,⟨6,[3]⟩],[false,false,false,true,true,false,false]⟩ (bY ⟨#[115,116,97,110,100,115,10]⟩)=some (⟨aO,[⟨3,[0,2,5]⟩,⟨1,[15]⟩,⟨2,[1,12,15]⟩,⟨4,[0,57]⟩,⟨5,[8]⟩,⟨6,[4]⟩,⟨6,[3]⟩],[false,false,false,true,true,false,false]⟩,⟨#[48,32,49,32,50]⟩):=by kernel_rfl
theorem arj:Dk.said ⟨aO,[⟨3,[0,2,5]⟩,⟨1,[15]⟩,⟨2,[1,12,15]⟩,⟨4,[0,57]⟩,⟨5,[8]⟩,⟨6,[4]⟩,⟨6,[3]⟩],[false,false,false,true,true,false,false]⟩ (bY ⟨#[115,116,114,105,107,101,32,48,10]⟩)=some (⟨aO,[⟨3,[0,2,5]⟩,⟨1,[15]⟩,⟨2,[1,12,15]⟩,⟨4,[0,57]⟩,⟨5,[8]⟩,⟨6,[4]⟩,⟨6,[3]⟩],[false,false,false,true,true,false,false]⟩,⟨#[101,114,114,111,114,32,55]⟩):=by kernel_rfl
theorem ark:Dk.said ⟨aO,[⟨3,[0,2,5]⟩,⟨1,[15]⟩,⟨2,[1,12,15]⟩,⟨4,[0,57]⟩,⟨5,[8]⟩,⟨6,[4]⟩,⟨6,[3]⟩],[false,false,false,true,true,false,false]⟩ (bY ⟨#[115,116,114,105,107,101,32,57,10]⟩)=some (⟨aO,[⟨3,[0,2,5]⟩,⟨1,[15]⟩,⟨2,[1,12,15]⟩,⟨4,[0,57]⟩,⟨5,[8]⟩,⟨6,[4]⟩,⟨6,[3]⟩],[false,false,false,true,true,false,false]⟩,⟨#[101,114,114,111,114,32,50]⟩):=by kernel_rfl
theorem arl:Dk.said ⟨aO,[⟨3,[0,2,5]⟩,⟨1,[15]⟩,⟨2,[1,12,15]⟩,⟨4,[0,57]⟩,⟨5,[8]⟩,⟨6,[4]⟩,⟨6,[3]⟩],[false,false,false,true,true,false,false]⟩ (bY ⟨#[115,101,114,118,101,32,48,10]⟩)=some (⟨aO,[⟨3,[0,2,5]⟩,⟨1,[15]⟩,⟨2,[1,12,15]⟩,⟨4,[0,57]⟩,⟨5,[8]⟩,⟨6,[4]⟩,⟨6,[3]⟩],[false,false,false,true,true,false,false]⟩,⟨#[101,114,114,111,114,32,52]⟩):=by kernel_rfl
theorem apX:Fa ⟨aO,[],[]⟩ (jv aaQ) ⟨#[]⟩=some (⟨aO,[⟨3,[0,2,5]⟩,⟨1,[15]⟩,⟨2,[1,12,15]⟩,⟨4,[0,57]⟩,⟨5,[8]⟩,⟨6,[4]⟩,⟨6,[3]⟩],[false,false,false,true,true,false,false]⟩,Qe):=by
 rw[al7]
 refine aS k_1 ?_
 refine aS k_2 ?_
 refine aS k_3 ?_
 refine aS k_4 ?_
 refine aS k_5 ?_
 refine aS k_6 ?_
 refine aS k_7 ?_
 refine aS k_8 ?_
 refine aS k_9 ?_
 refine aS aqS ?_
 refine aS aqT ?_
 refine aS aqU ?_
 refine aS aqV ?_
 refine aS aqW ?_
 refine aS aqX ?_
 refine aS aqY ?_
 refine aS aqZ ?_
 refine aS aq0 ?_
 refine aS aq1 ?_
 refine aS aq2 ?_
 refine aS aq3 ?_
 refine aS aq4 ?_
 refine aS aq5 ?_
 refine aS aq6 ?_
 refine aS aq7 ?_
 refine aS aq8 ?_
 refine aS aq9 ?_
 refine aS ara ?_
 refine aS arb ?_
 refine aS ard ?_
 refine aS arf ?_
 refine aS arh ?_
 refine aS ari ?_
 refine aS arj ?_
 refine aS ark ?_
 refine aS arl ?_
 kernel_rfl
def arF:aB:=(.seq (rg [mk 2 (.c (.bool false))] 0 [0]) (.seq (.seq (rg [mv 10 0,oa 11 .Kq 10,oc 12 (.bin .gtr) 11 (kI 100)] 0 [0,12]) (.cond (.t 12) (.seq (rg [on 13 (.ak F.GZ) [],mv 2 13] 0 [2]) .ret) .skip)) (.seq (.region false [mv 15 0,oa 16 (.ak F.qN) 15,mv 14 16,oa 17 (.ext 0) 14,oa 18 (.ext 1) 14,on 3 (.alloc 0 [.int .i64 0,.slice true []]) [],os (.store 2) [.t 3,.t 17] 0,mv 4 18] 1 [0,3,4] [3]) (.seq (.region false [mv 20 0,oa 21 (.ak F.arX) 20,mv 19 21,oa 22 (.ext 0) 19,oa 23 (.ext 1) 19,on 5 (.alloc 0 [.int .i64 0,.slice true []]) [],os (.store 2) [.t 5,.t 22] 0,mv 6 23] 1 [0,3,4,5,6] [5]) (.seq (rg [mk 7 (kI 0)] 0 [0,3,4,5,6,7]) (.seq (.seq (rg [mv 24 0,oa 25 .Kq 24,oc 26 (.bin .gtr) 25 (kI 60)] 0 [0,3,4,5,6,7,26]) (.cond (.t 26) (rg [mk 7 (kI 3)] 0 [0,3,4,5,7]) (.seq (rg [mv 27 6,oa 28 (.un .not) 27] 0 [0,3,4,5,7,28]) (.cond (.t 28) (rg [mk 7 (kI 4)] 0 [0,3,4,5,7]) .skip)))) (.seq (.seq (rg [mv 29 7,oc 30 (.bin .neq) 29 (kI 0)] 0 [0,3,4,5,7,30]) (.cond (.t 30) (.seq (rg [mv 31 4,mv 32 7,ob 33 (.bin .eql) 31 32,mv 34 33,ot 35 (.load true 2) [.t 3] 34 0,ot 36 (.build [.int .i64 0,.slice true []] []) [] 34 0,ot 37 (.ak F.Bh) [.t 35,.t 36] 34 0,on 38 .pick [.t 34,.t 37,.c (.bool false)],mv 39 38,ot 40 (.ak F.GZ) [] 39 0,on 41 .pick [.t 39,.t 40,.c (.bool false)],mv 2 41] 0 [2]) .ret) .skip)) (.seq (rg [oa 43 (.load true 2) 3,oa 44 (.ak F.zo) 43,mv 42 44,oa 45 (.ext 0) 42,oa 46 (.ext 1) 42,mv 8 45,mv 9 46] 0 [0,3,4,5,8,9]) (.seq (rg [mv 47 4,oc 48 (.bin .eql) 47 (kI 0),mv 49 48,ot 50 (.load true 2) [.t 3] 49 0,ot 51 (.load true 2) [.t 5] 49 0,ot 52 (.ak F.Bh) [.t 50,.t 51] 49 0,on 53 .pick [.t 49,.t 52,.c (.bool false)],mv 54 53,ot 55 .mov [.t 9] 54 0,ot 56 (.bin .eql) [.t 55,kI 0] 54 0,on 57 .pick [.t 54,.t 56,.c (.bool false)],mv 58 57,ot 59 .mov [.t 8] 58 0,ot 60 .mov [.t 0] 58 0,ot 61 (.bin .eql) [.t 59,.t 60] 58 0,on 62 .pick [.t 58,.t 61,.c (.bool false)],mv 63 62,ot 64 (.ak F.GZ) [] 63 0,on 65 .pick [.t 63,.t 64,.c (.bool false)],mv 2 65] 0 [2]) .ret)))))))))
def arG:List aJ:=[.tmp 2]
theorem arJ:aC C.P F.arH 1 arF arG=true:=by kernel_rfl
def QV:aB:=(.seq (rg [mk 0 (.c (.bool false))] 0 []) (.seq (rg [on 4 (.ak F.SN) [],oc 5 (.ak F.vg) 4 (.c (.str ⟨#[104,97,110,100,115,10,111,114,100,101,114,32,48,32,50,32,53,10,111,114,100,101,114,32,48,32,49,32,50,10,110,101,101,100,32,48,32,49,48,32,50,48,10,110,101,101,100,32,49,32,49,48,32,50,48,10,99,104,97,110,103,101,32,49,32,49,50,32,49,53,10,99,117,116,32,51,55,10,99,117,116,32,49,53,10,115,116,111,99,107,10,99,104,97,110,103,101,32,49,32,49,50,32,49,53,10,115,116,111,99,107,10,112,114,105,99,101,32,48,10,115,101,114,118,101,32,48,32,53,54,10,115,101,114,118,101,32,48,32,53,55,10,111,112,101,110,10,99,111,105,110,115,10,111,102,102,32,49,32,57,10,111,102,102,32,49,32,49,48,10,119,114,111,110,103,10,115,101,116,32,54,10,115,101,116,32,57,10,115,101,116,32,56,10,115,101,116,32,56,10,119,111,114,107,115,32,57,10,100,97,116,101,32,52,48,10,119,114,111,110,103,10,99,117,116,115,32,51,54,10,115,116,114,105,107,101,32,49,10,115,116,114,105,107,101,32,52,10,115,116,114,105,107,101,32,51,10,99,111,105,110,115,10,111,112,101,110,10,115,116,97,110,100,115,10,115,116,114,105,107,101,32,48,10,115,116,114,105,107,101,32,57,10,115,101,114,118,101,32,48,10]⟩)),mv 3 5,oa 6 (.ext 0) 3,oa 7 (.ext 1) 3,mv 1 6,mv 2 7] 0 [1,2]) (.seq (rg [mv 8 2,oc 9 (.bin .eql) 8 (kI 0),mv 10 9,ot 11 .mov [.t 1] 10 0,ot 12 (.bin .eql) [.t 11,.c (.str ⟨#[49,32,51,32,51,32,52,10,110,111,116,101,100,10,101,114,114,111,114,32,55,10,49,32,49,50,32,49,53,10,101,114,114,111,114,32,55,10,101,114,114,111,114,32,55,10,101,114,114,111,114,32,55,10,110,111,116,101,100,10,49,53,10,110,111,116,101,100,10,49,56,10,53,55,10,101,114,114,111,114,32,55,10,110,111,116,101,100,10,110,111,116,104,105,110,103,10,53,55,10,57,55,10,49,48,56,10,51,53,54,10,101,114,114,111,114,32,55,10,101,114,114,111,114,32,55,10,110,111,116,101,100,10,101,114,114,111,114,32,55,10,49,48,10,50,32,57,10,51,52,56,10,50,32,49,32,51,10,101,114,114,111,114,32,55,10,110,111,116,101,100,10,110,111,116,101,100,10,48,10,48,32,50,32,53,10,48,32,49,32,50,10,101,114,114,111,114,32,55,10,101,114,114,111,114,32,50,10,101,114,114,111,114,32,52,10]⟩)] 10 0,on 13 .pick [.t 10,.t 12,.c (.bool false)],mv 0 13] 0 [0]) .ret)))
def Rn:List aJ:=[.tmp 0]
theorem aaF:aC C.P F.GZ 0 QV Rn=true:=by kernel_rfl
def QU:aB:=(.seq (rg [on 0 (.alloc 0 [.slice true [],.slice true [],.slice true [],.int .i64 0,.int .i64 0,.slice true [],.int .i64 0,.slice true [],.int .i64 0,.int .i64 0,.int .i64 0,.slice true [],.int .i64 0,.int .i64 0,.int .i64 0,.int .i64 0,.int .i64 0]) []] 1 [0]) (.seq (rg [on 1 (.ak F.ajM) [],on 2 (.build [.int .i64 0,.int .i64 0] [(0,1),(1,1)]) [kI 1,kI 3],on 3 (.build [.int .i64 0,.int .i64 0] [(0,1),(1,1)]) [kI 1499,kI 2000],ob 4 (.iH 2 [.agg [.int .i64 0,.int .i64 0],.agg [.int .i64 0,.int .i64 0]] [0,1]) 2 3,on 5 (.ak F.ajN) [],on 6 (.ak F.ajL) [],on 7 (.ak F.ajK) [],on 8 (.build [.bool false,.int .i64 0,.int .i64 0,.int .i64 0] [(0,1)]) [.c (.bool true)],on 9 (.build [.bool false,.int .i64 0,.int .i64 0,.int .i64 0] [(1,1),(2,1)]) [kI 1,kI 6],ob 10 (.iH 4 [.agg [.bool false,.int .i64 0,.int .i64 0,.int .i64 0],.agg [.bool false,.int .i64 0,.int .i64 0,.int .i64 0]] [0,1]) 8 9,on 11 (.build [.slice true [],.slice true [],.slice true [],.int .i64 0,.int .i64 0,.slice true [],.int .i64 0,.slice true [],.int .i64 0,.int .i64 0,.int .i64 0,.slice true [],.int .i64 0,.int .i64 0,.int .i64 0,.int .i64 0,.int .i64 0] [(0,2),(2,1),(3,1),(4,2),(6,2),(8,3),(11,1),(12,1),(13,1),(14,1),(15,1),(16,1)]) [.t 1,.t 4,kI 100,.t 5,.t 6,.t 7,.t 10,kI 1,kI 3,kI 6,kI 4,kI 10],os (.store 17) [.t 0,.t 11] 0] 0 [0]) .ret))
def Rl:List aJ:=[.cell 0 true 17]
theorem aaE:aC C.P F.SN 0 QU Rl=true:=by kernel_rfl
def acZ:aB:=(.seq (rg [on 0 (.alloc 0 [.slice true [],.slice true []]) []] 1 [0]) (.seq (rg [on 1 (.ak F.KZ) [kI 10,kI 20],oa 2 (.build [.int .i64 0,.int .i64 0,.int .i64 0] [(1,2)]) 1,on 3 (.ak F.KZ) [kI 12,kI 18],on 4 (.build [.int .i64 0,.int .i64 0,.int .i64 0] [(0,1),(1,2)]) [kI 1,.t 3],on 5 (.ak F.KZ) [kI 15,kI 10],on 6 (.build [.int .i64 0,.int .i64 0,.int .i64 0] [(0,1),(1,2)]) [kI 1,.t 5],on 7 (.iH 3 [.agg [.int .i64 0,.int .i64 0,.int .i64 0],.agg [.int .i64 0,.int .i64 0,.int .i64 0],.agg [.int .i64 0,.int .i64 0,.int .i64 0]] [0,1,2]) [.t 2,.t 4,.t 6],on 8 (.iH 1 [.int .i64 0,.int .i64 0] [0,1]) [kI 2,kI 3],ob 9 (.build [.slice true [],.slice true []] [(0,1),(1,1)]) 7 8,os (.store 2) [.t 0,.t 9] 0] 0 [0]) .ret))
def ada:List aJ:=[.cell 0 true 2]
theorem aj7:aC C.P F.ajM 0 acZ ada=true:=by kernel_rfl
def acY:aB:=(.seq (rg [on 0 (.alloc 0 [.int .i64 0,.slice true []]) []] 1 [0]) (.seq (rg [on 1 (.iH 1 [.int .i64 0] [0]) [kI 4],oa 2 (.build [.int .i64 0,.slice true []] [(1,1)]) 1,os (.store 2) [.t 0,.t 2] 0] 0 [0]) .ret))
def ac9:List aJ:=[.cell 0 true 2]
theorem aj6:aC C.P F.ajL 0 acY ac9=true:=by kernel_rfl
def acX:aB:=(.seq (rg [on 0 (.alloc 0 [.int .i64 0,.int .i64 0,.int .i64 0]) []] 1 [0]) (.seq (rg [on 1 (.build [.int .i64 0,.int .i64 0,.int .i64 0] [(0,1),(1,1)]) [kI 59,kI 2],os (.store 3) [.t 0,.t 1] 0] 0 [0]) .ret))
def ac8:List aJ:=[.cell 0 true 3]
theorem aj3:aC C.P F.ajK 0 acX ac8=true:=by kernel_rfl
def UJ:aB:=(.seq (rg [on 4 (.alloc 0 [.int .i64 0,.int .i64 0]) []] 1 [0,1,4]) (.seq (rg [mv 5 0,mv 6 1,ob 7 (.build [.int .i64 0,.int .i64 0] [(0,1),(1,1)]) 5 6,os (.store 2) [.t 4,.t 7] 0] 0 [4]) .ret))
def U7:List aJ:=[.cell 4 true 2]
theorem acE:aC C.P F.KZ 2 UJ U7=true:=by kernel_rfl
def ac0:aB:=(.seq (rg [on 0 (.alloc 0 [.int .i64 0,.slice true []]) []] 1 [0]) (.seq (rg [on 1 (.iH 1 [.int .i64 0,.int .i64 0,.int .i64 0] [0,1,2]) [kI 15,kI 21,kI 27],on 2 (.build [.int .i64 0,.slice true []] [(0,1),(1,1)]) [kI 40,.t 1],os (.store 2) [.t 0,.t 2] 0] 0 [0]) .ret))
def adb:List aJ:=[.cell 0 true 2]
theorem aj8:aC C.P F.ajN 0 ac0 adb=true:=by kernel_rfl
end Go.Tel
