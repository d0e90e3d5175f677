/-
  Part 25 of the proof of a law of desks: an abstract machine over the model, contracts of functions, plain laws.
  Conditions: none.
-/
import Derived.Test.YtbefoehadfnkbaaGreatDoorJourneymanNilM13
import Derived.Test.YtbefoehadfnkbaaGreatDoorJourneymanNilM24
import Derived.Shelf.Small.Strs
set_option linter.all false
set_option maxRecDepth 10000
set_option maxHeartbeats 2000000
open Nat renaming reduceBEq→qA,reduceAdd→qB,reduceSub→qC,reduceEqDiff→qD,reduceLT→qE,reduceLeDiff→qF
namespace Go.Tel
open Go.Am
def dV (line:ByteArray):En×Int:=
 if line.size>60 then(⟨0,[]⟩,3)else match A8 line fmL with
  |some (a,ns)=>(⟨1+a,ns⟩,0)
  |none=>(⟨0,[]⟩,4)
def gu (line:ByteArray):Qn×Int:=match A8 line amL with
 |some (a,ns)=>(⟨1+a,ns⟩,0)
 |none=>(⟨0,[]⟩,4)
def IG (k:Int)(ns:List Int)(e:Int):DV:= .tup [.agg [.int .i64 k, .slice (decide (e≠0)) (ns.map ay)], .int .i64 e]
theorem acr {line:ByteArray}{fm:List (ByteArray×Nat)}{a:Int}{ns:List Int}(h:A8 line fm=some (a,ns)):0≤a∧a≤fm.length:=by
 unfold A8 at h
 split at h
 ·rename_i hge
  have hle:=(Zn (zq ((o9 line 32).getD 0 default) ((o9 line 32).length - 1)) fm 0).2
  split at h
  ·cases h;omega
  ·cases h
 ·cases h
theorem agO {line:ByteArray}(hr:line.size≤1000000){bs:List (Option (List PV))}{fz:List Nat}{ar:List (Option Arr)}(hfz:FzB ⟨bs,fz,ar⟩){xb:Nat}{c0 c1:PV}(hx:bs[xb]?=some (some [c0,c1]))(hxf:xb∉fz):
  SC C F.vF [.d (.aT [.str line]), .ptr xb 0] ⟨bs,fz,ar⟩
   (fun _ M'=>∃a ns y,A8 line fmL=some (a,ns)∧M'=⟨bs.set xb (some [.d (.int .i64 (1+a)), .d (.slice false (ns.map ay))])++ [y],bs.length::fz,ar⟩)
   (fun d M'=>A8 line fmL=none∧Vm d∧∃y,M'=⟨bs++ [y],bs.length::fz,ar⟩):=by
 have hn0:bs.length∉fz:=fun e=>Nat.lt_irrefl _ (hfz _ e)
 have hxl:xb<bs.length:=(List.getElem?_eq_some_iff.1 hx).1
 have anp:∀k,xb<bs.length+k:=fun k=>by omega
 have hxn:¬xb=bs.length:=by omega
 refine aF mixed rfl J4 ?_
 simp only[yL,yU,RN,qA,qB,qC,qD,qE,qF]
 refine au rfl rfl aeR ?_
 rw[aeQ]
 simp only[aK,aP,hn0,List.length_append,Zi,RN,qA,qB,qC,qD,qE,qF]
 refine⟨(fun h=>by cases h),?_⟩
 show SC C F.kY [.d (.str line), .d (.slice true (fmL.map ady))] _ _ _
 refine afh hr fmL (by decide) true (fun a ns h=> ?_) (fun h d hd=> ?_)
 ·have hb:=acr h
  have hb2:(fmL:List (ByteArray×Nat)).length≤12:=by decide
  have w1:IntKind.i64.wrap (1+a)=1+a:=aG (by omega)
  simp only[w1,aU,hxl,anp,hx,bI,hxf,hxn,List.mem_cons,or_false,MO,RN,qA,qB,qC,qD,qE,qF]
  exact⟨a,ns,_,h,rfl⟩
 ·exact⟨h,hd,_,rfl⟩
theorem agU {line:ByteArray}(hr:line.size≤1000000){bs:List (Option (List PV))}{fz:List Nat}{ar:List (Option Arr)}(hfz:FzB ⟨bs,fz,ar⟩){xb:Nat}{c0 c1:PV}(hx:bs[xb]?=some (some [c0,c1]))(hxf:xb∉fz):
  SC C F.oW [.d (.aT [.str line]), .ptr xb 0] ⟨bs,fz,ar⟩
   (fun _ M'=>∃a ns y,A8 line amL=some (a,ns)∧M'=⟨bs.set xb (some [.d (.int .i64 (1+a)), .d (.slice false (ns.map ay))])++ [y],bs.length::fz,ar⟩)
   (fun d M'=>A8 line amL=none∧Vm d∧∃y,M'=⟨bs++ [y],bs.length::fz,ar⟩):=by
 have hn0:bs.length∉fz:=fun e=>Nat.lt_irrefl _ (hfz _ e)
 have hxl:xb<bs.length:=(List.getElem?_eq_some_iff.1 hx).1
 have anp:∀k,xb<bs.length+k:=fun k=>by omega
 have hxn:¬xb=bs.length:=by omega
 refine aF mixed rfl Gh ?_
 simp only[ug,uI,RN,qA,qB,qC,qD,qE,qF]
 refine au rfl rfl ahy ?_
 rw[aeP]
 simp only[aK,aP,hn0,List.length_append,Zi,RN,qA,qB,qC,qD,qE,qF]
 refine⟨(fun h=>by cases h),?_⟩
 show SC C F.kY [.d (.str line), .d (.slice true (amL.map ady))] _ _ _
 refine afh hr amL (by decide) true (fun a ns h=> ?_) (fun h d hd=> ?_)
 ·have hb:=acr h
  have hb2:(amL:List (ByteArray×Nat)).length≤12:=by decide
  have w1:IntKind.i64.wrap (1+a)=1+a:=aG (by omega)
  simp only[w1,aU,hxl,anp,hx,bI,hxf,hxn,List.mem_cons,or_false,MO,RN,qA,qB,qC,qD,qE,qF]
  exact⟨a,ns,_,h,rfl⟩
 ·exact⟨h,hd,_,rfl⟩
theorem ajW (line:ByteArray):Pure C F.zx [.str line] (.d (IG (dV line).1.kind (dV line).1.ns (dV line).2)) []:=by
 refine ah mixed rfl NC ?_
 simp only[BM,Cm,RN,qA,qB,qC,qD,qE,qF]
 by_cases hl:line.size>60
 ·have hb:decide ((line.size:Int)>60)=true:=by simp;omega
  have hp:dV line=(⟨0,[]⟩,3):=by rw[dV,if_pos hl]
  simp only[hb,hp,IG,RN,qA,qB,qC,qD,qE,qF]
  rfl
 ·have hb:decide ((line.size:Int)>60)=false:=by simp;omega
  simp only[hb,pR,Option.map_none,RN,qA,qB,qC,qD,qE,qF]
  have z0:((0:Int) !=0)=false:=rfl
  have z4:((4:Int) !=0)=true:=rfl
  refine Vd (fs:=[]) (cs:=[.d (.aT [.str line]), .ptr 2 0]) (fun i hi=>by simp at hi;simp[hi]) (by kernel_rfl) ?_
  refine SC.oC (SC.mono (agO (line:=line) (by omega) (fun i hi=>by simp at hi;simp[hi]) (xb:=2) rfl (by simp)) ?_) ?_
  ·rintro v M' ⟨a,ns,y,h,rfl⟩
   have hp:dV line=(⟨1+a,ns⟩,0):=by rw[dV,if_neg hl,h]
   refine⟨rfl,by simp,?_⟩
   simp only[z0,hp,IG,List.mem_cons,List.not_mem_nil,or_false,RN,qA,qB,qC,qD,qE,qF]
   simp
  ·rintro d M' ⟨h,hd,y,rfl⟩
   have hp:dV line=(⟨0,[]⟩,4):=by rw[dV,if_neg hl,h]
   refine⟨rfl,by simp,by simp, .inr ⟨hd,fun x=> ?_⟩⟩
   simp only[z4,hp,IG,List.mem_cons,List.not_mem_nil,or_false,RN,qA,qB,qC,qD,qE,qF]
   rfl
theorem aee (line:ByteArray)(hl:line.size≤1000000):Pure C F.sO [.str line] (.d (IG (gu line).1.kind (gu line).1.ns (gu line).2)) []:=by
 refine ah mixed rfl IY ?_
 simp only[xq,xQ,pR,Option.map_none,RN,qA,qB,qC,qD,qE,qF]
 refine Vd (fs:=[]) (cs:=[.d (.aT [.str line]), .ptr 2 0]) (fun i hi=>by simp at hi;simp[hi]) (by kernel_rfl) ?_
 refine SC.oC (SC.mono (agU (line:=line) hl (fun i hi=>by simp at hi;simp[hi]) (xb:=2) rfl (by simp)) ?_) ?_
 ·rintro v M' ⟨a,ns,y,h,rfl⟩
  have hp:gu line=(⟨1+a,ns⟩,0):=by rw[gu,h]
  refine⟨rfl,by simp,?_⟩
  simp only[hp,IG,List.mem_cons,List.not_mem_nil,or_false,RN,qA,qB,qC,qD,qE,qF]
  simp
 ·rintro d M' ⟨h,hd,y,rfl⟩
  have hp:gu line=(⟨0,[]⟩,4):=by rw[gu,h]
  refine⟨rfl,by simp,by simp, .inr ⟨hd,fun x=> ?_⟩⟩
  simp only[hp,IG,List.mem_cons,List.not_mem_nil,or_false,RN,qA,qB,qC,qD,qE,qF]
  rfl
end Go.Tel
namespace Go.Tel
open Go.Am
theorem abo (w:ByteArray):∀(k pos:Nat) (n m:Int),Qp w k pos n=some m→0≤n→n<10 ^ pos→(0≤m∧m<10 ^ (pos+k))∧(0<k→w.size≤4)
 |0,pos,n,m,h,h0,h1=>by cases h;exact⟨⟨h0,h1⟩,fun h=>by omega⟩
 |k+1,pos,n,m,h,h0,h1=>by
  rw[Qp]at h
  split at h
  ·rename_i hc
   have hp:(10:Int) ^ (pos+1)=10*10 ^ pos:=by rw[Int.pow_succ];omega
   have:=abo w k (pos+1) _ m h (by omega) (by rw[hp];omega)
   exact⟨by rw[show pos+(k+1)=pos+1+k by omega];exact this.1,fun _=>hc.2.2⟩
  ·cases h
theorem ad4 {w:ByteArray}{n:Int}(h:wY w=some n):0≤n∧n≤9999:=by
 unfold wY at h
 cases h1:Qp w w.size 0 0 with
 |none=>rw[h1]at h;cases h
 |some m=>
  rw[h1]at h
  simp only at h
  split at h
  ·rename_i hc
   cases h
   obtain⟨⟨q1,q2⟩,q3⟩:=abo w w.size 0 0 _ h1 (by decide) (by decide)
   have hs:=q3 (by have:=hc.1;omega)
   have:(10:Int) ^ (0+w.size)≤10000:=by
    obtain h|h|h|h|h:w.size=0∨w.size=1∨w.size=2∨w.size=3∨w.size=4:=by omega
    all_goals rw[h];decide
   omega
  ·cases h
theorem Yy:∀(l:List ByteArray) (acc ns:List Int),IJ l acc=some ns→(∀n∈acc,0≤n∧n≤9999)→∀n∈ns,0≤n∧n≤9999
 | [],acc,ns,h,ha=>by cases h;exact ha
 |x::l,acc,ns,h,ha=>by
  rw[IJ]at h
  cases hx:wY x with
  |none=>rw[hx]at h;cases h
  |some m=>
   rw[hx]at h
   refine Yy l _ ns h fun n hn=> ?_
   rcases List.mem_append.1 hn with hn|hn
   ·exact ha n hn
   ·simp only[List.mem_singleton]at hn;rw[hn];exact ad4 hx
theorem ajI {line:ByteArray}{fm:List (ByteArray×Nat)}{a:Int}{ns:List Int}(h:A8 line fm=some (a,ns)):∀n∈ns,0≤n∧n≤9999:=by
 unfold A8 at h
 split at h
 ·split at h
  ·rename_i l hl
   cases h
   exact Yy _ _ _ hl (by simp)
  ·cases h
 ·cases h
theorem agV (line:ByteArray):∀n∈(gu line).1.ns, -1000000≤n∧n≤1000000:=by
 unfold gu
 cases h:A8 line amL with
 |none=>simp
 |some q=>
  obtain⟨a,ns⟩:=q
  intro n hn
  have:=ajI h n hn
  omega
def agc:ByteArray:=⟨#[101,114,114,111,114,32]⟩
def aiW:ByteArray:=⟨#[110,111,116,101,100]⟩
def abn:ByteArray:=⟨#[110,111,116,104,105,110,103]⟩
def anq (n:Int):Bool:=decide (-9223372036854775808≤n)&&decide (n≤9223372036854775807)
def Dk.said (D:Dk)(line:ByteArray):Option (Dk×ByteArray):=
 if(dV line).2=0 then(if(D.enter (dV line).1).2=0 then some ((D.enter (dV line).1).1,aiW)else some ((D.enter (dV line).1).1,agc++wW (D.enter (dV line).1).2))
 else if(dV line).2=3 then some (D,agc++wW 3)
 else if(gu line).2=0 then
  (if(D.ask (gu line).1).2≠0 then some (D,agc++wW (D.ask (gu line).1).2)
  else if(D.ask (gu line).1).1=[]then some (D,abn)
  else if(D.ask (gu line).1).1.all anq&&decide ((D.ask (gu line).1).1.length≤1000)then some (D,Qe (D.ask (gu line).1).1)else none)
 else some (D,agc++wW (gu line).2)
theorem Yi (D:Dk)(x:En):0≤(D.enter x).2∧(D.enter x).2≤7:=by
 unfold Dk.enter
 repeat' split
 all_goals simp
theorem ahR (d:Dvd)(n:Int):0≤(d.cuts n).2∧(d.cuts n).2≤7:=by
 unfold Dvd.cuts
 split
 ·split<;>simp
 ·simp
theorem YI (line:ByteArray):0≤(gu line).2∧(gu line).2≤7:=by
 unfold gu;split<;>simp
theorem agP (line:ByteArray):0≤(dV line).2∧(dV line).2≤7:=by
 unfold dV;split
 ·simp
 ·split<;>simp
theorem ahk (p:Pc)(h:Int)(f:Fr)(n:Int):0≤(zI p h f n).2∧(zI p h f n).2≤7:=by
 unfold zI agK
 repeat' split
 all_goals simp
theorem aay (p:Pc)(a b h:Int)(f:Fr):0≤(p.changes a b h f).2∧(p.changes a b h f).2≤7:=by
 have pr:∀(l:List Chg) (n:Int),0≤n∧n≤7→0≤(l,n).2∧(l,n).2≤7:=fun _ _ h=>h
 unfold Pc.changes
 split
 ·split
  ·exact pr _ 0 (by decide)
  split
  ·exact pr _ 0 (by decide)
  split
  ·exact pr _ 0 (by decide)
  ·exact pr _ 5 (by decide)
 ·exact pr _ 2 (by decide)
theorem aiT (D:Dk)(t:Sp)(a b c:Int):0≤(yG D t a b c).2∧(yG D t a b c).2≤7:=by
 unfold yG
 split
 ·split
  ·simp
  ·exact aay _ _ _ _ _
 ·simp
def aho (r:List Int×Int):Prop:=0≤r.2∧r.2≤7
theorem pX {c:Prop}[Decidable c]{a b:List Int×Int}(ha:aho a)(hb:aho b):aho (if c then a else b):=by
 by_cases h:c
 ·rw[if_pos h];exact ha
 ·rw[if_neg h];exact hb
theorem Dw (l:List Int){n:Int}(h:0≤n∧n≤7):aho (l,n):=h
theorem akg {c:Prop}[Decidable c]{a b:Int}(ha:0≤a∧a≤7)(hb:0≤b∧b≤7):0≤(if c then a else b)∧(if c then a else b)≤7:=by
 by_cases h:c
 ·rw[if_pos h];exact ha
 ·rw[if_neg h];exact hb
theorem Vp (D:Dk)(t:Sp)(q:Qn):0≤(D.answer t q).2∧(D.answer t q).2≤7:=by
 refine(?_:aho (D.answer t q))
 unfold Dk.answer
 refine pX (Dw _ (by decide)) ?_
 refine pX (Dw _ (by decide)) ?_
 refine pX (Dw _ (by decide)) ?_
 refine pX (Dw _ (akg (by decide) (by decide))) ?_
 refine pX (aiT _ _ _ _ _) ?_
 refine pX (Dw _ (akg (ahk _ _ _ _) (by decide))) ?_
 refine pX (Dw _ (by decide)) ?_
 refine pX (Dw _ (akg ?_ (by decide))) ?_
 ·generalize zn _ _ _=o
  cases o with
  |none=>exact(by decide:(0:Int)≤5∧(5:Int)≤7)
  |some x=>exact(by decide:(0:Int)≤0∧(0:Int)≤7)
 refine pX (Dw _ (akg (by decide) (by decide))) ?_
 refine pX (Dw _ (ahR _ _)) ?_
 exact pX (Dw _ (by decide)) (Dw _ (by decide))
theorem aeF (D:Dk)(q:Qn):0≤(D.ask q).2∧(D.ask q).2≤7:=by
 unfold Dk.ask
 split
 ·simp
 split
 ·simp
 split
 ·simp
 ·split
  ·exact Vp _ _ _
  ·exact Vp _ _ _
theorem aly {D D':Dk}{line s:ByteArray}(hok:D.Ok)(h:D.said line=some (D',s)):D'.Ok:=by
 unfold Dk.said at h
 repeat' split at h
 all_goals first|(cases h;done)|(cases h;first|exact ah1 hok _|exact hok)
theorem ag0 {D D':Dk}{line s:ByteArray}(h:D.said line=some (D',s)):s.size≤30000:=by
 have e1:agc.size=6:=rfl
 have e2:aiW.size=5:=rfl
 have e3:abn.size=7:=rfl
 have he:∀n:Int,0≤n∧n≤7→(agc++wW n).size≤30000:=fun n hn=>by
  have:=OO (n:=n) ⟨by omega,by omega⟩
  rw[ByteArray.size_append];omega
 unfold Dk.said at h
 split at h
 ·split at h
  ·cases h;omega
  ·cases h;exact he _ (Yi _ _)
 split at h
 ·cases h;exact he 3 (by decide)
 split at h
 ·split at h
  ·cases h;exact he _ (aeF _ _)
  split at h
  ·cases h;omega
  split at h
  ·rename_i hc
   cases h
   simp only[Bool.and_eq_true,List.all_eq_true,decide_eq_true_eq,anq]at hc
   have:=Zq (ns:=(D.ask (gu line).1).1) (fun n hn=>hc.1 n hn)
   omega
  ·cases h
 ·cases h;exact he _ (YI _)
theorem afu {D D':Dk}{d:Nat}{ce cs:PV}{M:Mem}(h:Bd D d ce cs M)(hok:D.Ok){line s:ByteArray}(hl:line.size≤1000000)(hs:D.said line=some (D',s)){KP:DV→Mem→Prop}:
  SC C F.nI [.ptr d 0, .d (.str line)] M (fun p M'=>p= .d (.str s)∧∃ce' cs',Bd D' d ce' cs' M'∧FrD d ce cs ce' cs' M M'∧FzB M') KP:=by
 obtain⟨bs,fz,ar⟩:=M
 have KG:∀i∈fz,i<bs.length:=h.fzb
 have hn0:bs.length∉fz:=fun e=>Nat.lt_irrefl _ (KG _ e)
 have hn1:∀k,bs.length+k∉fz:=fun k e=>by have:=KG _ e;omega
 have hs1:¬bs.length+1=bs.length:=by omega
 have hpe:=agP line
 have hqe:=YI line
 have hie:∀n:Int,0≤n∧n≤7→I64 n:=fun n hn=>⟨by omega,by omega⟩
 have hes:∀n:Int,0≤n∧n≤7→(wW n).size≤21:=fun n hn=>OO (hie n hn)
 have e1:(⟨#[101,114,114,111,114,32]⟩:ByteArray).size=6:=rfl
 refine aF mixed rfl EK ?_
 simp only[rH,rX,RN,qA,qB,qC,qD,qE,qF]
 refine au rfl rfl (ajW line) ?_
 simp only[IG,aK,aP,hn0,List.length_append,RN,qA,qB,qC,qD,qE,qF]
 unfold Dk.said at hs
 by_cases hz:(dV line).2=0
 ·rw[if_pos hz]at hs
  have hb:((dV line).2==0)=true:=by simp[hz]
  have hd:decide ((dV line).2≠0)=false:=by simp[hz]
  have hF:Frm ⟨bs,fz,ar⟩ ⟨bs++ [some [.d (.int .i64 (dV line).1.kind), .d (.slice false ((dV line).1.ns.map ay))]],bs.length::fz,ar⟩:=Frm.new (xf:=[bs.length]) (by simp)
  have hee:=Yi D (dV line).1
  have hE:=ahn (h.frm hF) hok (dV line).1 (KP:=KP)
  rw[Fa]at hE
  simp only[hb,hd,RN,qA,qB,qC,qD,qE,qF]
  refine SC.oC (SC.mono hE ?_) (fun _ _ h=>h)
  rintro p ⟨bs2,fz2,ar2⟩ ⟨rfl,ce',cs',q1,q2⟩
  have q3:=hF.frD (d:=d) (ce:=ce) (cs:=cs)|>.trans q2
  by_cases hz2:(D.enter (dV line).1).2=0
  ·rw[if_pos hz2]at hs
   have hb2:((D.enter (dV line).1).2==0)=true:=by simp[hz2]
   cases hs
   simp only[hb2,RN,qA,qB,qC,qD,qE,qF]
   exact⟨rfl,ce',cs',q1,q3,q1.fzb⟩
  ·rw[if_neg hz2]at hs
   have hb2:((D.enter (dV line).1).2==0)=false:=by simp[hz2]
   have:=hes _ hee
   cases hs
   simp only[hb2,RN,qA,qB,qC,qD,qE,qF]
   refine au rfl rfl (Oy (hie _ hee)) ?_
   simp only[pz,Np,RN,qA,qB,qC,qD,qE,qF]
   exact⟨by omega,rfl,ce',cs',q1,q3,q1.fzb⟩
 rw[if_neg hz]at hs
 have hb:((dV line).2==0)=false:=by simp[hz]
 have hd:decide ((dV line).2≠0)=true:=by simp[hz]
 have hF:∀x,Frm ⟨bs,fz,ar⟩ ⟨bs++ [x],bs.length::fz,ar⟩:=fun x=>Frm.new (xf:=[bs.length]) (by simp)
 by_cases h3:(dV line).2=3
 ·rw[if_pos h3]at hs
  have hb3:((dV line).2==3)=true:=by simp[h3]
  have:=hes _ hpe
  rw[←h3]at hs
  cases hs
  simp only[hb,hb3,RN,qA,qB,qC,qD,qE,qF]
  refine au rfl rfl (Oy (hie _ hpe)) ?_
  simp only[pz,Np,RN,qA,qB,qC,qD,qE,qF]
  exact⟨by omega,rfl,ce,cs,h.frm (hF _),(hF _).frD,(hF _).fzb h.fzb⟩
 rw[if_neg h3]at hs
 have hb3:((dV line).2==3)=false:=by simp[h3]
 simp only[hb,hb3,RN,qA,qB,qC,qD,qE,qF]
 refine au rfl rfl (aee line hl) ?_
 simp only[IG,bD,aK,bU,aP,hn0,hn1,hs1,List.append_assoc,List.length_append,Nat.add_assoc,List.length_set,RN,qA,qB,qC,qD,qE,qF]
 have hF2:∀x y,Frm ⟨bs,fz,ar⟩ ⟨bs++ [x,y],(bs.length+1)::bs.length::fz,ar⟩:=fun x y=>Frm.new (xf:=[bs.length+1,bs.length]) (by simp)
 by_cases hq:(gu line).2=0
 case neg=>
  rw[if_neg hq]at hs
  have hqb:((gu line).2==0)=false:=by simp[hq]
  have hqn:((gu line).2 !=0)=true:=by simp[hq]
  have:=hes _ hqe
  cases hs
  simp only[hqb,hqn,RN,qA,qB,qC,qD,qE,qF]
  refine au rfl rfl (Oy (hie _ hqe)) ?_
  simp only[pz,Np,RN,qA,qB,qC,qD,qE,qF]
  exact⟨by omega,rfl,ce,cs,h.frm (hF2 _ _),(hF2 _ _).frD,(hF2 _ _).fzb h.fzb⟩
 rw[if_pos hq]at hs
 have hqb:((gu line).2==0)=true:=by simp[hq]
 have hqd:decide ((gu line).2≠0)=false:=by simp[hq]
 have hae:=aeF D (gu line).1
 have hA:=al7 (h.frm (hF2 (some [.d (.int .i64 (dV line).1.kind), .d (.slice (decide ((dV line).2≠0)) ((dV line).1.ns.map ay))]) (some [.d (.int .i64 (gu line).1.kind), .d (.slice false ((gu line).1.ns.map ay))]))) hok (gu line).1 (agV line) (KP:=KP)
 rw[aeL]at hA
 simp only[hqb,hqd,RN,qA,qB,qC,qD,qE,qF]
 refine SC.oC (SC.mono hA ?_) (fun _ _ h=>h)
 rintro p ⟨bs2,fz2,ar2⟩ ⟨c,hp,hc,hck,q2⟩
 have q3:=(hF2 _ _).trans q2
 generalize D.ask (gu line).1=r at*
 obtain⟨l,e⟩:=r
 simp only at hs hp hc hae
 by_cases he:e=0
 case neg=>
  rw[if_pos he]at hs
  have heb:(e !=0)=true:=by simp[he]
  have:=hes _ hae
  cases hs
  rcases hp with rfl|⟨rfl,rfl⟩
  ·simp only[Dx,Dy,heb,RN,qA,qB,qC,qD,qE,qF]
   refine au rfl rfl (Oy (hie _ hae)) ?_
   simp only[pz,Np,RN,qA,qB,qC,qD,qE,qF]
   exact⟨by omega,rfl,ce,cs,h.frm q3,q3.frD,q3.fzb h.fzb⟩
  ·simp only[heb,RN,qA,qB,qC,qD,qE,qF]
   refine au rfl rfl (Oy (hie _ hae)) ?_
   simp only[pz,Np,RN,qA,qB,qC,qD,qE,qF]
   exact⟨by omega,rfl,ce,cs,h.frm q3,q3.frD,q3.fzb h.fzb⟩
 subst he
 have heb:((0:Int) !=0)=false:=rfl
 rw[if_neg (by simp)]at hs
 have aor:(((0:Nat):Int)==0)=true:=rfl
 rcases hp with rfl|⟨rfl,rfl⟩
 case inr=>
  have hl0:l=[]:=by
   rcases hc with⟨_,h1⟩|⟨k,ver,st,h1,_⟩
   ·exact List.map_eq_nil_iff.1 h1
   ·cases h1
  subst hl0
  rw[if_pos rfl]at hs
  cases hs
  simp only[heb,aor,RN,qA,qB,qC,qD,qE,qF]
  exact⟨rfl,ce,cs,h.frm q3,q3.frD,q3.fzb h.fzb⟩
 simp only[Dx,Dy,heb,ZX hc,List.length_map,RN,qA,qB,qC,qD,qE,qF]
 by_cases hl0:l=[]
 ·rw[if_pos hl0]at hs
  cases hs
  simp only[hl0,List.length_nil,aor,RN,qA,qB,qC,qD,qE,qF]
  exact⟨rfl,ce,cs,h.frm q3,q3.frD,q3.fzb h.fzb⟩
 rw[if_neg hl0]at hs
 have hlb:((l.length:Int)==0)=false:=by cases l with|nil=>exact absurd rfl hl0|cons a l=>simp;omega
 split at hs
 case isFalse=>cases hs
 rename_i hk
 simp only[Bool.and_eq_true,List.all_eq_true,decide_eq_true_eq,anq]at hk
 cases hs
 rcases hc with⟨_,h1⟩|⟨k,ver,st,rfl,h1,_⟩
 ·exact absurd (List.map_eq_nil_iff.1 h1) hl0
 simp only[hlb,RN,qA,qB,qC,qD,qE,qF]
 refine U7 h1 (by simpa only[List.drop_zero]using aiD l hk.2 hk.1) rfl ?_
 (try simp only[RN,qA,qB,qC,qD,qE,qF])
 exact⟨ce,cs,h.frm q3,q3.frD,q3.fzb h.fzb⟩
end Go.Tel
namespace Go.Am
section
variable {C:Ctx}{base:Nat}{M:Mem}{K:PV→Mem→Prop}{KP:DV→Mem→Prop}
theorem VK {s:ByteArray}{k:IntKind}{n:Int}(h0:0≤n)(h1:n≤s.size):aj C base (.Rn false true) [.d (.str s), .d (.int k n)] M K KP=K (.d (.str (s.extract 0 n.toNat))) M:=by
 simp only[aj,Df,dJ,Option.getD_some,Option.getD_none]
 exact propext ⟨fun h=>h.2.2.2.2.2,fun h=>⟨trivial,trivial,Int.le_refl _,h0,h1,h⟩⟩
theorem VL {s:ByteArray}{k:IntKind}{n:Int}(h0:0≤n)(h1:n≤s.size):aj C base (.Rn true false) [.d (.str s), .d (.int k n)] M K KP=K (.d (.str (s.extract n.toNat s.size))) M:=by
 simp only[aj,Df,dJ,Option.getD_some,Option.getD_none,Int.toNat_natCast]
 exact propext ⟨fun h=>h.2.2.2.2.2,fun h=>⟨trivial,trivial,h0,h1,Int.le_refl _,h⟩⟩
end
end Go.Am
namespace Go.Tel
open Go.Am
theorem aae (s:ByteArray):Pure C F.strings_IndexByte [.str s, .int .u8 10] (.d (.int .i64 (Go.Lib.indexByte s.data.toList 10))) []:=by
 refine uo fun X w vals hG hx hr=> ?_
 cases hr with|cons h1 t1=>
 cases t1 with|cons h3 t2=>
 cases t2
 cases h1
 cases h3
 refine(Go.Proofs.Any.strings_IndexByte Go.Proofs.Tryz.laysIndexB s 10 w).mono ?_
 rintro e w' ⟨rfl,rfl⟩
 exact⟨_,rfl,Later.refl _, .int _ _⟩
def Kz (s:ByteArray):Bool:=decide (1≤s.size)&&((s.extract (s.size - 1) s.size).toList==(⟨#[10]⟩:ByteArray).toList)
def bY (s:ByteArray):ByteArray:=if Kz s then s.extract 0 (s.size - 1)else s
theorem ZW:(⟨#[10]⟩:ByteArray).size=1:=rfl
theorem aaS {s:ByteArray}(hs:s.size≤1000000):Pure C F.stringslite_HasSuffix [.str s, .str ⟨#[10]⟩] (.d (.bool (Kz s))) []:=by
 refine ah mixed rfl Gn ?_
 have w1:IntKind.i64.wrap ((s.size:Int) - ((1:Nat):Int))=(s.size:Int) - 1:=by rw[aG (by omega)];omega
 unfold Kz
 by_cases h:1≤s.size
 ·have hb:decide (((1:Nat):Int)≤(s.size:Int))=true:=by simp;omega
  have hd:decide (1≤s.size)=true:=by simp[h]
  have x1:(0:Int)≤(s.size:Int) - 1:=by omega
  have x2:(s.size:Int) - 1≤(s.size:Int):=by omega
  have x3:((s.size:Int) - 1).toNat=s.size - 1:=by omega
  simp only[lM,lU,ZW,hb,hd,w1,VL x1 x2,x3,pz,Vk,Bool.true_and,RN,qA,qB,qC,qD,qE,qF]
 ·have hb:decide (((1:Nat):Int)≤(s.size:Int))=false:=by simp;omega
  have hd:decide (1≤s.size)=false:=by simp[h]
  simp only[lM,lU,ZW,hb,hd,Bool.false_and,RN,qA,qB,qC,qD,qE,qF]
theorem aik {s:ByteArray}(hs:s.size≤1000000):Pure C F.strings_HasSuffix [.str s, .str ⟨#[10]⟩] (.d (.bool (Kz s))) []:=by
 refine ah mixed rfl KY ?_
 simp only[Ar,AQ,RN,qA,qB,qC,qD,qE,qF]
 refine au rfl rfl (aaS hs) ?_
 (try simp only[RN,qA,qB,qC,qD,qE,qF])
theorem ahc {s:ByteArray}(hs:s.size≤1000000):Pure C F.stringslite_TrimSuffix [.str s, .str ⟨#[10]⟩] (.d (.str (bY s))) []:=by
 refine ah mixed rfl ET ?_
 simp only[rW,sK,RN,qA,qB,qC,qD,qE,qF]
 refine au rfl rfl (aaS hs) ?_
 have w1:IntKind.i64.wrap ((s.size:Int) - ((1:Nat):Int))=(s.size:Int) - 1:=by rw[aG (by omega)];omega
 unfold bY
 cases h:Kz s
 ·(try simp only[RN,qA,qB,qC,qD,qE,qF])
  simp
 ·have:1≤s.size:=by unfold Kz at h;simp only[Bool.and_eq_true,decide_eq_true_eq]at h;exact h.1
  have x1:(0:Int)≤(s.size:Int) - 1:=by omega
  have x2:(s.size:Int) - 1≤(s.size:Int):=by omega
  have x3:((s.size:Int) - 1).toNat=s.size - 1:=by omega
  simp only[ZW,w1,VK x1 x2,x3,RN,qA,qB,qC,qD,qE,qF]
  simp
theorem ahb {s:ByteArray}(hs:s.size≤1000000):Pure C F.strings_TrimSuffix [.str s, .str ⟨#[10]⟩] (.d (.str (bY s))) []:=by
 refine ah mixed rfl J8 ?_
 simp only[yP,yZ,RN,qA,qB,qC,qD,qE,qF]
 refine au rfl rfl (ahc hs) ?_
 (try simp only[RN,qA,qB,qC,qD,qE,qF])
def DK:List UInt8→List (List UInt8)
 | []=>[]
 |b::l=>if b==10 then[b]::DK l else match DK l with| []=>[[b]]|x::xs=>(b::x)::xs
theorem V8:∀(l:List UInt8),(Go.Lib.indexByte l 10= -1∧(l=[]∨DK l=[l]))∨∃i:Nat,Go.Lib.indexByte l 10=(i:Int)∧i<l.length∧DK l=l.take (i+1)::DK (l.drop (i+1))
 | []=> .inl ⟨rfl, .inl rfl⟩
 |b::l=>by
  rw[Go.Lib.indexByte,DK]
  by_cases hb:(b==10)=true
  ·rw[if_pos hb,if_pos hb]
   exact .inr ⟨0,rfl,by simp,rfl⟩
  rw[if_neg hb,if_neg hb]
  rcases V8 l with⟨h1,h2⟩|⟨i,h1,h2,h3⟩
  ·refine .inl ⟨by simp[h1], .inr ?_⟩
   rcases h2 with rfl|h2
   ·rfl
   ·rw[h2]
  ·refine .inr ⟨i+1,?_,by simpa using h2,by rw[h3];simp⟩
   rw[if_neg (by rw[h1];simp),h1];omega
def jw (s:ByteArray):List ByteArray:=(DK s.data.toList).map fun l=>⟨l.toArray⟩
def vH (s:ByteArray):List DV:=[.str s]
theorem adR (s:ByteArray)(hs:0<s.size):(Go.Lib.indexByte s.data.toList 10= -1∧jw s=[s])∨∃i:Nat,Go.Lib.indexByte s.data.toList 10=(i:Int)∧i<s.size∧jw s=s.extract 0 (i+1)::jw (s.extract (i+1) s.size):=by
 have hsz:s.data.toList.length=s.size:=Array.length_toList
 rcases V8 s.data.toList with⟨h1,h2⟩|⟨i,h1,h2,h3⟩
 ·refine .inl ⟨h1,?_⟩
  rcases h2 with h2|h2
  ·rw[h2]at hsz;simp at hsz;omega
  ·unfold jw;rw[h2];simp
 ·refine .inr ⟨i,h1,by omega,?_⟩
  unfold jw
  rw[h3,List.map_cons]
  have e1:(s.extract 0 (i+1)).data.toList=s.data.toList.take (i+1):=by simp[ByteArray.data_extract]
  have e2:(s.extract (i+1) s.size).data.toList=s.data.toList.drop (i+1):=by
   simp only[ByteArray.data_extract,Array.toList_extract,List.extract_eq_take_drop,←hsz]
   rw[List.take_of_length_le (by simp)]
  rw[e2,←e1]
def amb (s:ByteArray)(c:Nat)(M:Mem):Prop:=M.boxes[c]?=some (some [.d (.str s)])∧c∉M.fz
theorem acF (s:ByteArray)(c:Nat)(hs:s.size≤1000000):X7 C F.uX [] [.ptr c 0] ((jw s).map vH) (·=c) (·=c) no (amb s c):=by
 rintro⟨bs,fz,ar⟩ b n R stop K KP hbn hbo hn hfz hst hmv nH h0 hstop hend
 simp only at hn hfz
 obtain⟨hc,hcf⟩:=hst
 simp only at hc hcf
 refine aF mixed rfl O6 ?_
 simp only[Eb,Ew,RN,qA,qB,qC,qD,qE,qF]
 refine Ee (fun m st=>∃(t:ByteArray) (pre:List (List DV)) (M1:Mem) (ev:List (Nat×PV)),m=t.size∧t.size≤s.size∧st=⟨(0, .rE b)::(1, .ptr c 0)::ev,M1⟩∧n≤M1.boxes.length∧FzB M1∧amb t c M1∧(jw s).map vH=pre++(jw t).map vH∧R pre M1)
  s.size ⟨s,[],_,[],rfl,Nat.le_refl _,rfl,hn,hfz,⟨hc,hcf⟩,rfl,h0⟩ ?_
 rintro m st ⟨t,pre,⟨bs1,fz1,ar1⟩,ev,rfl,ht,rfl,hn1,hfz1,⟨hc1,akH⟩,hpre,hR⟩
 simp only at hn1 hc1 akH
 have hcl:c<bs1.length:=(List.getElem?_eq_some_iff.1 hc1).1
 by_cases h0:0<t.size
 case neg=>
  have hb:decide ((t.size:Int)>0)=false:=decide_eq_false (by omega)
  simp only[hc1,hcl,hb,RN,qA,qB,qC,qD,qE,qF]
  refine hend _ _ hn1 ?_
  have:t.data.toList=[]:=List.length_eq_zero_iff.1 (by have:t.data.toList.length=t.size:=Array.length_toList;omega)
  have e0:jw t=[]:=by unfold jw;rw[this];rfl
  rw[hpre,e0,List.map_nil,List.append_nil]
  exact hR
 have hb:decide ((t.size:Int)>0)=true:=decide_eq_true (by omega)
 have aeU:∀(l t':ByteArray),jw t=l::jw t'→t'.size<t.size→SY C b [.d (.str l)] ⟨bs1.set c (some [.d (.str t')]),fz1,ar1⟩
   (fun p M'=>n≤M'.boxes.length∧FzB M'∧amb t' c M'∧((p= .d (.bool true)∧(jw s).map vH=(pre++ [vH l])++(jw t').map vH∧R (pre++ [vH l]) M')∨(p= .d (.bool false)∧stop M'))) KP:=by
  intro l t' hl htl
  have apr:Moved n (·=c) ⟨bs1,fz1,ar1⟩ ⟨bs1.set c (some [.d (.str t')]),fz1,ar1⟩:=Moved.set (.inr rfl)
  have alY:(jw s).map vH=pre++vH l::(jw t').map vH:=by rw[hpre,hl];rfl
  refine SY.mono (nH pre (vH l) _ _ alY (by simpa using hn1) (hmv pre _ _ apr hR)) ?_
  rintro p M3 ⟨hk,hp⟩
  have hl3:=hk.len
  simp only[List.length_set]at hl3
  refine⟨by omega,hk.fzb hfz1.set,⟨?_,?_⟩,?_⟩
  ·rw[hk.box c (.inr rfl) (by simpa using hcl)];simp[hcl]
  ·exact fun h=>akH ((hk.fz c (.inr rfl) (by simpa using hcl)).1 h)
  ·rcases hp with⟨rfl,h⟩|h
   ·exact .inl ⟨rfl,by rw[alY,List.append_assoc];rfl,h⟩
   ·exact .inr h
 simp only[hc1,hcl,hb,RN,qA,qB,qC,qD,qE,qF]
 refine au rfl rfl (aae t) ?_
 rcases adR t h0 with⟨g1,g2⟩|⟨i,g1,g2,g3⟩
 ·have hi:decide (Go.Lib.indexByte t.data.toList 10≥0)=false:=decide_eq_false (by omega)
  simp only[hc1,hcl,hi,akH,RN,qA,qB,qC,qD,qE,qF]
  refine GI ?_
  refine SY.mono (aeU t ⟨#[]⟩ (by rw[g2];rfl) h0) ?_
  rintro p M3 ⟨k1,k2,k3,⟨rfl,k4,k5⟩|⟨rfl,k4⟩⟩
  ·(try simp only[RN,qA,qB,qC,qD,qE,qF])
   exact⟨0,_,h0, .inl rfl,⟨#[]⟩,_,M3,_,rfl,Nat.zero_le _,rfl,k1,k2,k3,k4,k5⟩
  ·(try simp only[RN,qA,qB,qC,qD,qE,qF])
   exact hstop _ _ k4
 ·have hi:decide ((i:Int)≥0)=true:=decide_eq_true (by omega)
  have w1:IntKind.i64.wrap ((i:Int)+1)=(i:Int)+1:=by rw[aG (by omega)]
  have x1:(0:Int)≤(i:Int)+1:=by omega
  have x2:(i:Int)+1≤(t.size:Int):=by omega
  have x3:((i:Int)+1).toNat=i+1:=by omega
  have x4:(t.extract (i+1) t.size).size<t.size:=by simp;omega
  rw[g1]
  simp only[hc1,hcl,hi,akH,w1,VK x1 x2,VL x1 x2,x3,RN,qA,qB,qC,qD,qE,qF]
  refine GI ?_
  refine SY.mono (aeU _ _ g3 x4) ?_
  rintro p M3 ⟨k1,k2,k3,⟨rfl,k4,k5⟩|⟨rfl,k4⟩⟩
  ·(try simp only[RN,qA,qB,qC,qD,qE,qF])
   exact⟨_,_,x4, .inl rfl,_,_,M3,_,rfl,by omega,rfl,k1,k2,k3,k4,k5⟩
  ·(try simp only[RN,qA,qB,qC,qD,qE,qF])
   exact hstop _ _ k4
theorem ahp (s:ByteArray){bs:List (Option (List PV))}{fz:List Nat}{ar:List (Option Arr)}{KP:DV→Mem→Prop}:
  SC C F.Gt [.d (.str s)] ⟨bs,fz,ar⟩ (fun p M'=>p= .func (.func F.uX) [] [.ptr bs.length 0]∧M'=⟨bs++ [some [.d (.str s)]],fz,ar⟩) KP:=by
 refine aF mixed rfl SN ?_
 simp only[He,H7,aK,aP,pR,RN,qA,qB,qC,qD,qE,qF]
end Go.Tel
namespace Go.Tel
open Go.Am
def nlB:ByteArray:=⟨#[10]⟩
def EX:Dk→List ByteArray→ByteArray→Option (Dk×ByteArray)
 |D,[],out=>some (D,out)
 |D,l::ls,out=>match D.said (bY l)with|none=>none|some q=>EX q.1 ls (out++(q.2++nlB))
theorem RG:∀(l1 l2:List ByteArray) (D:Dk) (out:ByteArray),EX D (l1++l2) out=match EX D l1 out with|none=>none|some q=>EX q.1 l2 q.2
 | [],l2,D,out=>rfl
 |l::ls,l2,D,out=>by
  rw[List.cons_append,EX,EX]
  cases D.said (bY l)with
  |none=>rfl
  |some q=>exact RG ls l2 _ _
theorem FrD.kept {d n c:Nat}{ce cs ce' cs':PV}{M M':Mem}(h:FrD d ce cs ce' cs' M M')(hf:FzB M→FzB M')(hd:d<n)(hc:d≠c):Kept n (·=c) no M M':=
 ⟨h.len,h.aY,fun i hi hl=>h.box i hl (fun e=>hi.elim (fun hi=>by omega) fun hi=>hc (by rw[←e];exact hi)),fun i _ hl=>h.fz i hl,fun _ h=>h.elim,hf⟩
theorem adS (s:ByteArray):(jw s).length≤s.size:=by
 have:∀l:List UInt8,(DK l).length≤l.length:=by
  intro l
  induction l with
  |nil=>exact Nat.le_refl _
  |cons b l ih=>
   rw[DK]
   split
   ·simpa using ih
   ·split
    ·simp
    ·rename_i h;rw[h]at ih;simp at ih⊢;omega
 unfold jw
 rw[List.length_map]
 have h1:=this s.data.toList
 have:s.data.toList.length=s.size:=Array.length_toList
 omega
theorem II:∀(l:List UInt8) (x:List UInt8),x∈DK l→x.length≤l.length
 | [],x,h=>by cases h
 |b::l,x,h=>by
  rw[DK]at h
  split at h
  ·rcases List.mem_cons.1 h with rfl|h
   ·simp
   ·have:=II l x h;simp;omega
  ·split at h
   ·simp at h;subst h;simp
   ·rename_i y ys hy
    rcases List.mem_cons.1 h with rfl|h
    ·have:=II l y (by rw[hy];simp);simp;omega
    ·have:=II l x (by rw[hy];simp[h]);simp;omega
theorem adT {s x:ByteArray}(h:x∈jw s):x.size≤s.size:=by
 simp only[jw,List.mem_map]at h
 obtain⟨l,hl,rfl⟩:=h
 have:=II _ _ hl
 have e:s.data.toList.length=s.size:=Array.length_toList
 simp only[ByteArray.size,List.size_toArray]at e⊢
 rw[←e];exact this
theorem aaA (s:ByteArray):(bY s).size≤s.size:=by
 unfold bY
 split
 ·simp
 ·exact Nat.le_refl _
def ajU (s:Su)(script:ByteArray)(pre:List (List DV))(M1:Mem):Prop:=
 ∃ls rs D ce cs o,jw script=ls++rs∧pre=ls.map vH∧EX ⟨s,[],[]⟩ ls ⟨#[]⟩=some (D,o)∧Bd D 4 ce cs M1∧D.Ok∧M1.boxes[1]?=some (some [.ptr 4 0])∧M1.boxes[5]?=some (some [.d (.str o)])∧5∉M1.fz∧o.size≤30001*ls.length
theorem ajU.moved {s:Su}{script:ByteArray}{pre:List (List DV)}{M1 M2:Mem}{n:Nat}(h:ajU s script pre M1)(hn:6≤n)(hm:Moved n (·=6) M1 M2):ajU s script pre M2:=by
 obtain⟨ls,rs,D,ce,cs,o,h1,h2,h3,h4,h5,h6,h7,h8,h9⟩:=h
 refine⟨ls,rs,D,ce,cs,o,h1,h2,h3,?_,h5,(hm.box 1 (by omega) (by simp)).trans h6,(hm.box 5 (by omega) (by simp)).trans h7,fun e=>h8 ((hm.fz 5 (by omega) (by simp)).1 e),h9⟩
 exact⟨⟨(hm.box 4 (by omega) (by simp)).trans h4.box,by rw[hm.aA];exact h4.ent,by rw[hm.aA];exact h4.str⟩,h4.dif,fun e=>h4.nb ((hm.fz 4 (by omega) (by simp)).1 e),hm.fzb h4.fzb⟩
theorem afo (s:Su)(hs:s.Small)(hok:s.ok=true){script out:ByteArray}(hl:script.size≤1500)(hnl:(script.toList==(⟨#[]⟩:ByteArray).toList||Kz script)=true){D':Dk}(hrun:EX ⟨s,[],[]⟩ (jw script) ⟨#[]⟩=some (D',out)):
  Pure C F.vC [s.dv, .str script] (.d (.tup [.str out, .int .i64 0])) []:=by
 refine ah mixed rfl J3 ?_
 rw[NQ]
 simp only[yK,yT,RN,qA,qB,qC,qD,qE,qF]
 have hO:=fun X KP=>ajV s hs [X,none] [0] [] KP (by simp)
 rw[NQ]at hO
 refine SC.oC (SC.mono (hO _ (fun _ _=>False)) ?_) (fun _ _ h=>h)
 rintro p M' (⟨h,_⟩|⟨_,rfl,x1,x2,rfl⟩)
 ·rw[hok]at h;cases h
 have z1:((0:Int) !=0)=false:=rfl
 have z2:decide ((script.size:Int)>1500)=false:=decide_eq_false (by omega)
 simp only[Dx,Dy,oL,z1,z2,pz,Vl,Dh,MW,RN,qA,qB,qC,qD,qE,qF]
 have apu:(script.toList==(⟨#[]⟩:ByteArray).toList)=false→Kz script=true:=fun h=>by rw[h]at hnl;exact hnl
 cases hsn:(script.toList==(⟨#[]⟩:ByteArray).toList)
 all_goals first
  |(simp only[hsn,RN,qA,qB,qC,qD,qE,qF];refine au rfl rfl (aik (by omega)) ?_;rw[apu hsn])
  |skip
 all_goals simp only[hsn,oL,RN,qA,qB,qC,qD,qE,qF]
 all_goals refine SC.oC (SC.mono (ahp script (KP:=fun _ _=>False)) ?_) (fun _ _ h=>h)
 all_goals rintro p M' ⟨rfl,rfl⟩
 all_goals(try simp only[RN,qA,qB,qC,qD,qE,qF])
 all_goals(
  refine vJ (acF script 6 (by omega)) (fun _ h=>h) rfl (by kernel_rfl) (fun i hi=>by simp at hi;simp;omega) (fun x hx=>by obtain⟨y,_,rfl⟩:=List.mem_map.1 hx;rfl) (fun i hi=>by subst hi;simp) (fun M' hm=>⟨(hm.box 6 (by simp) id).trans rfl,fun e=>by have:=(hm.fz 6 (by simp) id).1 e;simp at this⟩)
   (ajU s script) (fun pre M1 M2 hm h=>h.moved (by simp) hm) ⟨[],jw script,⟨s,[],[]⟩,_,_,_,rfl,rfl,rfl,⟨⟨rfl, .inl ⟨rfl,rfl⟩, .inl ⟨rfl,rfl⟩⟩,(by intro k hk;cases hk),by simp,by intro i hi;simp at hi;simp;omega⟩,⟨hok,rfl,Nat.zero_le _,fun x h=>(by cases h),fun x h=>(by cases h)⟩,rfl,rfl,by simp,Nat.zero_le _⟩ ?_ ?_
  ·rintro L cells pre x post ⟨bs1,fz1,ar1⟩ hx hlt hrec hnf ⟨ls,rs,D,ce,cs,o,h1,h2,h3,h4,h5,h6,h7,h8,h9⟩ M0
   simp only[List.length_cons,List.length_nil]at hlt hrec hnf h6 h7 h8⊢
   obtain⟨y,rs',rfl,rfl⟩:∃y rs',rs=y::rs'∧x=vH y:=by
    rw[h1,h2,List.map_append]at hx
    have hx:=List.append_cancel_left hx
    cases rs with
    |nil=>cases hx
    |cons y rs'=>exact⟨y,rs',rfl,(List.cons.inj hx).1.symm⟩
   rw[h1,RG,h3]at hrun
   simp only[EX]at hrun
   cases hsd:D.said (bY y)with
   |none=>rw[hsd]at hrun;cases hrun
   |some q=>
   obtain⟨D2,an⟩:=q
   have hy:y.size≤script.size:=adT (by rw[h1];simp)
   have hll:=adS script
   rw[h1]at hll
   simp only[List.length_append,List.length_cons]at hll
   have hcs:=aaA y
   have han:=ag0 hsd
   have h5l:5<bs1.length:=by omega
   have h1l:1<bs1.length:=by omega
   simp only[vH,List.zip_cons_cons,List.zip_nil_left,List.map_cons,List.map_nil,h6,h7,h5l,h1l,RN,qA,qB,qC,qD,qE,qF]
   refine au rfl rfl (ahb (by omega)) ?_
   (try simp only[RN,qA,qB,qC,qD,qE,qF])
   refine aj7 h7 (by simp) ?_
   refine SC.oC (SC.mono (afu h4 h5 (by omega) hsd (KP:=fun _ _=>False)) ?_) (fun _ _ h=>h.elim)
   rintro p ⟨bs2,fz2,ar2⟩ ⟨rfl,ce',cs',q1,q2,q3⟩
   have h52:bs2[5]?=some (some [.d (.str o)]):=(q2.box 5 h5l (by decide)).trans h7
   have hl2:=q2.len
   simp only at hl2
   have an8:5<bs2.length:=by omega
   have h8':¬5∈fz2:=fun e=>h8 ((q2.fz 5 h5l).1 e)
   refine⟨q2.box 5 h5l (by decide),?_⟩
   have hs1:an.size+nlB.size≤9223372036854775807:=by have:nlB.size=1:=rfl;omega
   have hs2:o.size+(an++nlB).size≤9223372036854775807:=by have:nlB.size=1:=rfl;rw[ByteArray.size_append];omega
   rw[nlB]at hs1 hs2
   simp only[pz,Np,hs1,hs2,h52,an8,h8',zN,RN,qA,qB,qC,qD,qE,qF]
   refine⟨by rw[List.getElem?_set_ne (by decide)];exact(q2.box 7 (by simp only;omega) (by decide)).trans hrec,fun e=>hnf ((q2.fz 7 (by simp only;omega)).1 e),(FrD.kept q2 (fun _=>q3) (by decide) (by decide)).set2 (by decide) (by decide),ls++ [y],rs',D2,ce',cs',o++(an++nlB),by rw[h1];simp,by rw[h2];simp[vH],?_,
    ⟨⟨by simp only;rw[List.getElem?_set_ne (by decide)];exact q1.box,q1.ent,q1.str⟩,q1.dif,q1.nb,q3.set⟩,aly h5 hsd,?_,by simp[an8];rfl,h8',?_⟩
   ·rw[RG,h3]
    simp only[EX,hsd]
   ·simp only;rw[List.getElem?_set_ne (by decide)];exact(q2.box 1 h1l (by decide)).trans h6
   ·have:nlB.size=1:=rfl
    simp only[ByteArray.size_append,List.length_append,List.length_cons,List.length_nil]
    omega
  ·rintro⟨bs1,fz1,ar1⟩ ⟨ls,rs,D,ce,cs,o,h1,h2,h3,h4,h5,h6,h7,h8,h9⟩ hlt
   simp only[List.length_cons,List.length_nil]at hlt h6 h7 h8
   have hrs:rs=[]:=by
    have:=congrArg List.length h2
    rw[h1]at this
    simp at this
    exact this
   subst hrs
   rw[h1,List.append_nil,h3]at hrun
   cases hrun
   have h5l:5<bs1.length:=by omega
   simp only[h7,h5l,RN,qA,qB,qC,qD,qE,qF])
def aO:Su:=⟨⟨[⟨0,⟨10,20⟩⟩,⟨1,⟨12,18⟩⟩,⟨1,⟨15,10⟩⟩],[2,3]⟩,[⟨1,3⟩,⟨1499,2000⟩],100,⟨40,[15,21,27]⟩,⟨0,[4]⟩,⟨59,2,0⟩,[⟨true,0,0,0⟩,⟨false,1,6,0⟩],1,3,6,4,10⟩
def ZT:ByteArray:=⟨#[104,97,110,100,115,10,111,114,100,101,114,32,48,32,50,32,53,10,111,114,100,101,114,32,48,32,49,32,50,10,110,101,101,100,32,48,32,49,48,32,50,48,10,110,101,101,100,32,49,32,49,48,32,50,48,10,99,104,97,110,103,101,32,49,32,49,50,32,49,53,10,99,117,116,32,51,55,10,99,117,116,32,49,53,10,115,116,111,99,107,10,99,104,97,110,103,101,32,49,32,49,50,32,49,53,10,115,116,111,99,107,10,112,114,105,99,101,32,48,10,115,101,114,118,101,32,48,32,53,54,10,115,101,114,118,101,32,48,32,53,55,10,111,112,101,110,10,99,111,105,110,115,10,111,102,102,32,49,32,57,10,111,102,102,32,49,32,49,48,10,119,114,111,110,103,10,115,101,116,32,54,10,115,101,116,32,57,10,115,101,116,32,56,10,115,101,116,32,56,10,119,111,114,107,115,32,57,10,100,97,116,101,32,52,48,10,119,114,111,110,103,10,99,117,116,115,32,51,54,10,115,116,114,105,107,101,32,49,10,115,116,114,105,107,101,32,52,10,115,116,114,105,107,101,32,51,10,99,111,105,110,115,10,111,112,101,110,10,115,116,97,110,100,115,10,115,116,114,105,107,101,32,48,10,115,116,114,105,107,101,32,57,10,115,101,114,118,101,32,48,10]⟩
def PK:ByteArray:=⟨#[49,32,51,32,51,32,52,10,110,111,116,101,100,10,101,114,114,111,114,32,55,10,49,32,49,50,32,49,53,10,101,114,114,111,114,32,55,10,101,114,114,111,114,32,55,10,101,114,114,111,114,32,55,10,110,111,116,101,100,10,49,53,10,110,111,116,101,100,10,49,56,10,53,55,10,101,114,114,111,114,32,55,10,110,111,116,101,100,10,110,111,116,104,105,110,103,10,53,55,10,57,55,10,49,48,56,10,51,53,54,10,101,114,114,111,114,32,55,10,101,114,114,111,114,32,55,10,110,111,116,101,100,10,101,114,114,111,114,32,55,10,49,48,10,50,32,57,10,51,52,56,10,50,32,49,32,51,10,101,114,114,111,114,32,55,10,110,111,116,101,100,10,110,111,116,101,100,10,48,10,48,32,50,32,53,10,48,32,49,32,50,10,101,114,114,111,114,32,55,10,101,114,114,111,114,32,50,10,101,114,114,111,114,32,52,10]⟩
theorem aS {D D':Dk}{l a out:ByteArray}{ls:List ByteArray}{r:Option (Dk×ByteArray)}(h:D.said (bY l)=some (D',a))(hr:EX D' ls (out++(a++nlB))=r):EX D (l::ls) out=r:=by
 rw[EX,h];exact hr
theorem akX:jw ZT=[⟨#[104,97,110,100,115,10]⟩,⟨#[111,114,100,101,114,32,48,32,50,32,53,10]⟩,⟨#[111,114,100,101,114,32,48,32,49,32,50,10]⟩,⟨#[110,101,101,100,32,48,32,49,48,32,50,48,10]⟩,⟨#[110,101,101,100,32,49,32,49,48,32,50,48,10]⟩,⟨#[99,104,97,110,103,101,32,49,32,49,50,32,49,53,10]⟩,⟨#[99,117,116,32,51,55,10]⟩,⟨#[99,117,116,32,49,53,10]⟩,⟨#[115,116,111,99,107,10]⟩,⟨#[99,104,97,110,103,101,32,49,32,49,50,32,49,53,10]⟩,⟨#[115,116,111,99,107,10]⟩,⟨#[112,114,105,99,101,32,48,10]⟩,⟨#[115,101,114,118,101,32,48,32,53,54,10]⟩,⟨#[115,101,114,118,101,32,48,32,53,55,10]⟩,⟨#[111,112,101,110,10]⟩,⟨#[99,111,105,110,115,10]⟩,⟨#[111,102,102,32,49,32,57,10]⟩,⟨#[111,102,102,32,49,32,49,48,10]⟩,⟨#[119,114,111,110,103,10]⟩,⟨#[115,101,116,32,54,10]⟩,⟨#[115,101,116,32,57,10]⟩,⟨#[115,101,116,32,56,10]⟩,⟨#[115,101,116,32,56,10]⟩,⟨#[119,111,114,107,115,32,57,10]⟩,⟨#[100,97,116,101,32,52,48,10]⟩,⟨#[119,114,111,110,103,10]⟩,⟨#[99,117,116,115,32,51,54,10]⟩,⟨#[115,116,114,105,107,101,32,49,10]⟩,⟨#[115,116,114,105,107,101,32,52,10]⟩,⟨#[115,116,114,105,107,101,32,51,10]⟩,⟨#[99,111,105,110,115,10]⟩,⟨#[111,112,101,110,10]⟩,⟨#[115,116,97,110,100,115,10]⟩,⟨#[115,116,114,105,107,101,32,48,10]⟩,⟨#[115,116,114,105,107,101,32,57,10]⟩,⟨#[115,101,114,118,101,32,48,10]⟩]:=by kernel_rfl
theorem k_1:Dk.said ⟨aO,[],[]⟩ (bY ⟨#[104,97,110,100,115,10]⟩)=some (⟨aO,[],[]⟩,⟨#[49,32,51,32,51,32,52]⟩):=by kernel_rfl
theorem k_2:Dk.said ⟨aO,[],[]⟩ (bY ⟨#[111,114,100,101,114,32,48,32,50,32,53,10]⟩)=some (⟨aO,[⟨3,[0,2,5]⟩],[false]⟩,⟨#[110,111,116,101,100]⟩):=by kernel_rfl
theorem k_3:Dk.said ⟨aO,[⟨3,[0,2,5]⟩],[false]⟩ (bY ⟨#[111,114,100,101,114,32,48,32,49,32,50,10]⟩)=some (⟨aO,[⟨3,[0,2,5]⟩],[false]⟩,⟨#[101,114,114,111,114,32,55]⟩):=by kernel_rfl
theorem k_4:Dk.said ⟨aO,[⟨3,[0,2,5]⟩],[false]⟩ (bY ⟨#[110,101,101,100,32,48,32,49,48,32,50,48,10]⟩)=some (⟨aO,[⟨3,[0,2,5]⟩],[false]⟩,⟨#[49,32,49,50,32,49,53]⟩):=by kernel_rfl
theorem k_5:Dk.said ⟨aO,[⟨3,[0,2,5]⟩],[false]⟩ (bY ⟨#[110,101,101,100,32,49,32,49,48,32,50,48,10]⟩)=some (⟨aO,[⟨3,[0,2,5]⟩],[false]⟩,⟨#[101,114,114,111,114,32,55]⟩):=by kernel_rfl
theorem k_6:Dk.said ⟨aO,[⟨3,[0,2,5]⟩],[false]⟩ (bY ⟨#[99,104,97,110,103,101,32,49,32,49,50,32,49,53,10]⟩)=some (⟨aO,[⟨3,[0,2,5]⟩],[false]⟩,⟨#[101,114,114,111,114,32,55]⟩):=by kernel_rfl
theorem k_7:Dk.said ⟨aO,[⟨3,[0,2,5]⟩],[false]⟩ (bY ⟨#[99,117,116,32,51,55,10]⟩)=some (⟨aO,[⟨3,[0,2,5]⟩],[false]⟩,⟨#[101,114,114,111,114,32,55]⟩):=by kernel_rfl
theorem k_8:Dk.said ⟨aO,[⟨3,[0,2,5]⟩],[false]⟩ (bY ⟨#[99,117,116,32,49,53,10]⟩)=some (⟨aO,[⟨3,[0,2,5]⟩,⟨1,[15]⟩],[false,false]⟩,⟨#[110,111,116,101,100]⟩):=by kernel_rfl
theorem k_9:Dk.said ⟨aO,[⟨3,[0,2,5]⟩,⟨1,[15]⟩],[false,false]⟩ (bY ⟨#[115,116,111,99,107,10]⟩)=some (⟨aO,[⟨3,[0,2,5]⟩,⟨1,[15]⟩],[false,false]⟩,⟨#[49,53]⟩):=by kernel_rfl
theorem apD:Dk.said ⟨aO,[⟨3,[0,2,5]⟩,⟨1,[15]⟩],[false,false]⟩ (bY ⟨#[99,104,97,110,103,101,32,49,32,49,50,32,49,53,10]⟩)=some (⟨aO,[⟨3,[0,2,5]⟩,⟨1,[15]⟩,⟨2,[1,12,15]⟩],[false,false,false]⟩,⟨#[110,111,116,101,100]⟩):=by kernel_rfl
theorem apE:Dk.said ⟨aO,[⟨3,[0,2,5]⟩,⟨1,[15]⟩,⟨2,[1,12,15]⟩],[false,false,false]⟩ (bY ⟨#[115,116,111,99,107,10]⟩)=some (⟨aO,[⟨3,[0,2,5]⟩,⟨1,[15]⟩,⟨2,[1,12,15]⟩],[false,false,false]⟩,⟨#[49,56]⟩):=by kernel_rfl
theorem apF:Dk.said ⟨aO,[⟨3,[0,2,5]⟩,⟨1,[15]⟩,⟨2,[1,12,15]⟩],[false,false,false]⟩ (bY ⟨#[112,114,105,99,101,32,48,10]⟩)=some (⟨aO,[⟨3,[0,2,5]⟩,⟨1,[15]⟩,⟨2,[1,12,15]⟩],[false,false,false]⟩,⟨#[53,55]⟩):=by kernel_rfl
theorem apG:Dk.said ⟨aO,[⟨3,[0,2,5]⟩,⟨1,[15]⟩,⟨2,[1,12,15]⟩],[false,false,false]⟩ (bY ⟨#[115,101,114,118,101,32,48,32,53,54,10]⟩)=some (⟨aO,[⟨3,[0,2,5]⟩,⟨1,[15]⟩,⟨2,[1,12,15]⟩],[false,false,false]⟩,⟨#[101,114,114,111,114,32,55]⟩):=by kernel_rfl
theorem apH:Dk.said ⟨aO,[⟨3,[0,2,5]⟩,⟨1,[15]⟩,⟨2,[1,12,15]⟩],[false,false,false]⟩ (bY ⟨#[115,101,114,118,101,32,48,32,53,55,10]⟩)=some (⟨aO,[⟨3,[0,2,5]⟩,⟨1,[15]⟩,⟨2,[1,12,15]⟩,⟨4,[0,57]⟩],[false,false,false,false]⟩,⟨#[110,111,116,101,100]⟩):=by kernel_rfl
theorem apI:Dk.said ⟨aO,[⟨3,[0,2,5]⟩,⟨1,[15]⟩,⟨2,[1,12,15]⟩,⟨4,[0,57]⟩],[false,false,false,false]⟩ (bY ⟨#[111,112,101,110,10]⟩)=some (⟨aO,[⟨3,[0,2,5]⟩,⟨1,[15]⟩,⟨2,[1,12,15]⟩,⟨4,[0,57]⟩],[false,false,false,false]⟩,⟨#[110,111,116,104,105,110,103]⟩):=by kernel_rfl
theorem apJ:Dk.said ⟨aO,[⟨3,[0,2,5]⟩,⟨1,[15]⟩,⟨2,[1,12,15]⟩,⟨4,[0,57]⟩],[false,false,false,false]⟩ (bY ⟨#[99,111,105,110,115,10]⟩)=some (⟨aO,[⟨3,[0,2,5]⟩,⟨1,[15]⟩,⟨2,[1,12,15]⟩,⟨4,[0,57]⟩],[false,false,false,false]⟩,⟨#[53,55]⟩):=by kernel_rfl
theorem apK:Dk.said ⟨aO,[⟨3,[0,2,5]⟩,⟨1,[15]⟩,⟨2,[1,12,15]⟩,⟨4,[0,57]⟩],[false,false,false,false]⟩ (bY ⟨#[111,102,102,32,49,32,57,10]⟩)=some (⟨aO,[⟨3,[0,2,5]⟩,⟨1,[15]⟩,⟨2,[1,12,15]⟩,⟨4,[0,57]⟩],[false,false,false,false]⟩,⟨#[57,55]⟩):=by kernel_rfl
theorem apL:Dk.said ⟨aO,[⟨3,[0,2,5]⟩,⟨1,[15]⟩,⟨2,[1,12,15]⟩,⟨4,[0,57]⟩],[false,false,false,false]⟩ (bY ⟨#[111,102,102,32,49,32,49,48,10]⟩)=some (⟨aO,[⟨3,[0,2,5]⟩,⟨1,[15]⟩,⟨2,[1,12,15]⟩,⟨4,[0,57]⟩],[false,false,false,false]⟩,⟨#[49,48,56]⟩):=by kernel_rfl
theorem apM:Dk.said ⟨aO,[⟨3,[0,2,5]⟩,⟨1,[15]⟩,⟨2,[1,12,15]⟩,⟨4,[0,57]⟩],[false,false,false,false]⟩ (bY ⟨#[119,114,111,110,103,10]⟩)=some (⟨aO,[⟨3,[0,2,5]⟩,⟨1,[15]⟩,⟨2,[1,12,15]⟩,⟨4,[0,57]⟩],[false,false,false,false]⟩,⟨#[51,53,54]⟩):=by kernel_rfl
theorem apN:Dk.said ⟨aO,[⟨3,[0,2,5]⟩,⟨1,[15]⟩,⟨2,[1,12,15]⟩,⟨4,[0,57]⟩],[false,false,false,false]⟩ (bY ⟨#[115,101,116,32,54,10]⟩)=some (⟨aO,[⟨3,[0,2,5]⟩,⟨1,[15]⟩,⟨2,[1,12,15]⟩,⟨4,[0,57]⟩],[false,false,false,false]⟩,⟨#[101,114,114,111,114,32,55]⟩):=by kernel_rfl
theorem apO:Dk.said ⟨aO,[⟨3,[0,2,5]⟩,⟨1,[15]⟩,⟨2,[1,12,15]⟩,⟨4,[0,57]⟩],[false,false,false,false]⟩ (bY ⟨#[115,101,116,32,57,10]⟩)=some (⟨aO,[⟨3,[0,2,5]⟩,⟨1,[15]⟩,⟨2,[1,12,15]⟩,⟨4,[0,57]⟩],[false,false,false,false]⟩,⟨#[101,114,114,111,114,32,55]⟩):=by kernel_rfl
theorem apP:Dk.said ⟨aO,[⟨3,[0,2,5]⟩,⟨1,[15]⟩,⟨2,[1,12,15]⟩,⟨4,[0,57]⟩],[false,false,false,false]⟩ (bY ⟨#[115,101,116,32,56,10]⟩)=some (⟨aO,[⟨3,[0,2,5]⟩,⟨1,[15]⟩,⟨2,[1,12,15]⟩,⟨4,[0,57]⟩,⟨5,[8]⟩],[false,false,false,false,false]⟩,⟨#[110,111,116,101,100]⟩):=by kernel_rfl
theorem apQ:Dk.said ⟨aO,[⟨3,[0,2,5]⟩,⟨1,[15]⟩,⟨2,[1,12,15]⟩,⟨4,[0,57]⟩,⟨5,[8]⟩],[false,false,false,false,false]⟩ (bY ⟨#[115,101,116,32,56,10]⟩)=some (⟨aO,[⟨3,[0,2,5]⟩,⟨1,[15]⟩,⟨2,[1,12,15]⟩,⟨4,[0,57]⟩,⟨5,[8]⟩],[false,false,false,false,false]⟩,⟨#[101,114,114,111,114,32,55]⟩):=by kernel_rfl
theorem apR:Dk.said ⟨aO,[⟨3,[0,2,5]⟩,⟨1,[15]⟩,⟨2,[1,12,15]⟩,⟨4,[0,57]⟩,⟨5,[8]⟩],[false,false,false,false,false]⟩ (bY ⟨#[119,111,114,107,115,32,57,10]⟩)=some (⟨aO,[⟨3,[0,2,5]⟩,⟨1,[15]⟩,⟨2,[1,12,15]⟩,⟨4,[0,57]⟩,⟨5,[8]⟩],[false,false,false,false,false]⟩,⟨#[49,48]⟩):=by kernel_rfl
theorem apS:Dk.said ⟨aO,[⟨3,[0,2,5]⟩,⟨1,[15]⟩,⟨2,[1,12,15]⟩,⟨4,[0,57]⟩,⟨5,[8]⟩],[false,false,false,false,false]⟩ (bY ⟨#[100,97,116,101,32,52,48,10]⟩)=some (⟨aO,[⟨3,[0,2,5]⟩,⟨1,[15]⟩,⟨2,[1,12,15]⟩,⟨4,[0,57]⟩,⟨5,[8]⟩],[false,false,false,false,false]⟩,⟨#[50,32,57]⟩):=by kernel_rfl
theorem apT:Dk.said ⟨aO,[⟨3,[0,2,5]⟩,⟨1,[15]⟩,⟨2,[1,12,15]⟩,⟨4,[0,57]⟩,⟨5,[8]⟩],[false,false,false,false,false]⟩ (bY ⟨#[119,114,111,110,103,10]⟩)=some (⟨aO,[⟨3,[0,2,5]⟩,⟨1,[15]⟩,⟨2,[1,12,15]⟩,⟨4,[0,57]⟩,⟨5,[8]⟩],[false,false,false,false,false]⟩,⟨#[51,52,56]⟩):=by kernel_rfl
theorem apU:Dk.said ⟨aO,[⟨3,[0,2,5]⟩,⟨1,[15]⟩,⟨2,[1,12,15]⟩,⟨4,[0,57]⟩,⟨5,[8]⟩],[false,false,false,false,false]⟩ (bY ⟨#[99,117,116,115,32,51,54,10]⟩)=some (⟨aO,[⟨3,[0,2,5]⟩,⟨1,[15]⟩,⟨2,[1,12,15]⟩,⟨4,[0,57]⟩,⟨5,[8]⟩],[false,false,false,false,false]⟩,⟨#[50,32,49,32,51]⟩):=by kernel_rfl
theorem apV:Dk.said ⟨aO,[⟨3,[0,2,5]⟩,⟨1,[15]⟩,⟨2,[1,12,15]⟩,⟨4,[0,57]⟩,⟨5,[8]⟩],[false,false,false,false,false]⟩ (bY ⟨#[115,116,114,105,107,101,32,49,10]⟩)=some (⟨aO,[⟨3,[0,2,5]⟩,⟨1,[15]⟩,⟨2,[1,12,15]⟩,⟨4,[0,57]⟩,⟨5,[8]⟩],[false,false,false,false,false]⟩,⟨#[101,114,114,111,114,32,55]⟩):=by kernel_rfl
theorem apW:Dk.said ⟨aO,[⟨3,[0,2,5]⟩,⟨1,[15]⟩,⟨2,[1,12,15]⟩,⟨4,[0,57]⟩,⟨5,[8]⟩],[false,false,false,false,false]⟩ (bY ⟨#[115,116,114,105,107,101,32,52,10]⟩)=some (⟨aO,[⟨3,[0,2,5]⟩,⟨1,[15]⟩,⟨2,[1,12,15]⟩,⟨4,[0,57]⟩,⟨5,[8]⟩,⟨6,[4]⟩],[false,false,false,false,true,false]⟩,⟨#[110,111,116,101,100]⟩):=by kernel_rfl
theorem apX:Dk.said ⟨aO,[⟨3,[0,2,5]⟩,⟨1,[15]⟩,⟨2,[1,12,15]⟩,⟨4,[0,57]⟩,⟨5,[8]⟩,⟨6,[4]⟩],[false,false,false,false,true,false]⟩ (bY ⟨#[115,116,114,105,107,101,32,51,10]⟩)=some (⟨aO,[⟨3,[0,2,5]⟩,⟨1,[15]⟩,⟨2,[1,12,15]⟩,⟨4,[0,57]⟩,⟨5,[8]⟩,⟨6,[4]⟩,⟨6,[3]⟩],[false,false,false,true,true,false,false]⟩,⟨#[110,111,116,101,100]⟩):=by kernel_rfl
theorem apY:Dk.said ⟨aO,[⟨3,[0,2,5]⟩,⟨1,[15]⟩,⟨2,[1,12,15]⟩,⟨4,[0,57]⟩,⟨5,[8]⟩,⟨6,[4]⟩,⟨6,[3]⟩],[false,false,false,true,true,false,false]⟩ (bY ⟨#[99,111,105,110,115,10]⟩)=some (⟨aO,[⟨3,[0,2,5]⟩,⟨1,[15]⟩,⟨2,[1,12,15]⟩,⟨4,[0,57]⟩,⟨5,[8]⟩,⟨6,[4]⟩,⟨6,[3]⟩],[false,false,false,true,true,false,false]⟩,⟨#[48]⟩):=by kernel_rfl
theorem apZ:Dk.said ⟨aO,[⟨3,[0,2,5]⟩,⟨1,[15]⟩,⟨2,[1,12,15]⟩,⟨4,[0,57]⟩,⟨5,[8]⟩,⟨6,[4]⟩,⟨6,[3]⟩],[false,false,false,true,true,false,false]⟩ (bY ⟨#[111,112,101,110,10]⟩)=some (⟨aO,[⟨3,[0,2,5]⟩,⟨1,[15]⟩,⟨2,[1,12,15]⟩,⟨4,[0,57]⟩,⟨5,[8]⟩,⟨6,[4]⟩,⟨6,[3]⟩],[false,false,false,true,true,false,false]⟩,⟨#[48,32,50,32,53]⟩):=by kernel_rfl
theorem ap0:Dk.said ⟨aO,[⟨3,[0,2,5]⟩,⟨1,[15]⟩,⟨2,[1,12,15]⟩,⟨4,[0,57]⟩,⟨5,[8]⟩,⟨6,[4]⟩,⟨6,[3]⟩],[false,false,false,true,true,false,false]⟩ (bY ⟨#[115,116,97,110,100,115,10]⟩)=some (⟨aO,[⟨3,[0,2,5]⟩,⟨1,[15]⟩,⟨2,[1,12,15]⟩,⟨4,[0,57]⟩,⟨5,[8]⟩,⟨6,[4]⟩,⟨6,[3]⟩],[false,false,false,true,true,false,false]⟩,⟨#[48,32,49,32,50]⟩):=by kernel_rfl
theorem ap1:Dk.said ⟨aO,[⟨3,[0,2,5]⟩,⟨1,[15]⟩,⟨2,[1,12,15]⟩,⟨4,[0,57]⟩,⟨5,[8]⟩,⟨6,[4]⟩,⟨6,[3]⟩],[false,false,false,true,true,false,false]⟩ (bY ⟨#[115,116,114,105,107,101,32,48,10]⟩)=some (⟨aO,[⟨3,[0,2,5]⟩,⟨1,[15]⟩,⟨2,[1,12,15]⟩,⟨4,[0,57]⟩,⟨5,[8]⟩,⟨6,[4]⟩,⟨6,[3]⟩],[false,false,false,true,true,false,false]⟩,⟨#[101,114,114,111,114,32,55]⟩):=by kernel_rfl
theorem ap2:Dk.said ⟨aO,[⟨3,[0,2,5]⟩,⟨1,[15]⟩,⟨2,[1,12,15]⟩,⟨4,[0,57]⟩,⟨5,[8]⟩,⟨6,[4]⟩,⟨6,[3]⟩],[false,false,false,true,true,false,false]⟩ (bY ⟨#[115,116,114,105,107,101,32,57,10]⟩)=some (⟨aO,[⟨3,[0,2,5]⟩,⟨1,[15]⟩,⟨2,[1,12,15]⟩,⟨4,[0,57]⟩,⟨5,[8]⟩,⟨6,[4]⟩,⟨6,[3]⟩],[false,false,false,true,true,false,false]⟩,⟨#[101,114,114,111,114,32,50]⟩):=by kernel_rfl
theorem ap3:Dk.said ⟨aO,[⟨3,[0,2,5]⟩,⟨1,[15]⟩,⟨2,[1,12,15]⟩,⟨4,[0,57]⟩,⟨5,[8]⟩,⟨6,[4]⟩,⟨6,[3]⟩],[false,false,false,true,true,false,false]⟩ (bY ⟨#[115,101,114,118,101,32,48,10]⟩)=some (⟨aO,[⟨3,[0,2,5]⟩,⟨1,[15]⟩,⟨2,[1,12,15]⟩,⟨4,[0,57]⟩,⟨5,[8]⟩,⟨6,[4]⟩,⟨6,[3]⟩],[false,false,false,true,true,false,false]⟩,⟨#[101,114,114,111,114,32,52]⟩):=by kernel_rfl
theorem aoF:EX ⟨aO,[],[]⟩ (jw ZT) ⟨#[]⟩=some (⟨aO,[⟨3,[0,2,5]⟩,⟨1,[15]⟩,⟨2,[1,12,15]⟩,⟨4,[0,57]⟩,⟨5,[8]⟩,⟨6,[4]⟩,⟨6,[3]⟩],[false,false,false,true,true,false,false]⟩,PK):=by
 rw[akX]
 refine aS k_1 ?_
 refine aS k_2 ?_
 refine aS k_3 ?_
 refine aS k_4 ?_
 refine aS k_5 ?_
 refine aS k_6 ?_
 refine aS k_7 ?_
 refine aS k_8 ?_
 refine aS k_9 ?_
 refine aS apD ?_
 refine aS apE ?_
 refine aS apF ?_
 refine aS apG ?_
 refine aS apH ?_
 refine aS apI ?_
 refine aS apJ ?_
 refine aS apK ?_
 refine aS apL ?_
 refine aS apM ?_
 refine aS apN ?_
 refine aS apO ?_
 refine aS apP ?_
 refine aS apQ ?_
 refine aS apR ?_
 refine aS apS ?_
 refine aS apT ?_
 refine aS apU ?_
 refine aS apV ?_
 refine aS apW ?_
 refine aS apX ?_
 refine aS apY ?_
 refine aS apZ ?_
 refine aS ap0 ?_
 refine aS ap1 ?_
 refine aS ap2 ?_
 refine aS ap3 ?_
 kernel_rfl
def Aj:aB:=(.seq (.region false [oa 2 (.box 0) 0,oa 3 (.box 1) 1,mk 4 (.c (.bool false))] 2 [2,3] [2,3]) (.seq (.seq (rg [oa 11 (.fld 1) 2,lo 12 11,oa 13 .len 12,oc 14 (.bin .gtr) 13 (kI 6),mv 15 14,oF 16 (.fld 1) [.t 3] 15 0,oF 17 (.load false 1) [.t 16] 15 0,oF 18 .len [.t 17] 15 0,oF 19 (.bin .gtr) [.t 18,kI 6] 15 0,on 20 .pick [.t 15,.c (.bool true),.t 19]] 0 [2,3,20]) (.cond (.t 20) (.seq (rg [on 21 (.ak F.MQ) [],mv 4 21] 0 [4]) .ret) .skip)) (.seq (rg [on 22 (.build [.nilPtr,.slice true [],.slice true [],.slice true []] []) [],oa 23 (.box 0) 22,on 24 (.iO 1 [.nilPtr,.nilPtr] [0,1]) [.c (.nilPtr),.t 23],mv 5 24] 1 [2,3,5]) (.seq (.seq (rg [mk 6 (kI 0)] 0 [2,3,5,6]) (.block 0 (.loop (.seq (.seq (rg [mv 25 6,mv 26 5,oa 27 .len 26,ob 28 (.bin .lss) 25 27] 0 [2,3,5,6,28]) (.cond (.t 28) .skip (.exit 0))) (.seq (.block 1 (.seq (.region true [mv 32 5,mv 33 6,of 34 (.bF 1) [.t 32,.t 33] 1,of 35 (.load false 1) [.t 34] 1,of 36 (.load true 2) [.t 3] 1,ob 37 (.ak F.jC) 35 36,mv 31 37,oa 38 (.ext 0) 31,oa 39 (.ext 1) 31,mv 7 38,mv 8 39] 0 [2,3,5,6,7,8] []) (.seq (rg [mv 41 5,mv 42 6,ob 43 (.bF 1) 41 42,lo 44 43,oa 45 (.ak F.mP) 44,mv 40 45,oa 46 (.ext 0) 40,oa 47 (.ext 1) 40,mv 9 46,mv 10 47] 0 [2,3,5,6,7,8,9,10]) (.seq (.region true [mv 48 5,mv 49 6,of 50 (.bF 1) [.t 48,.t 49] 1,of 51 (.load false 1) [.t 50] 1,of 52 (.load true 2) [.t 2] 1,ob 53 (.ak F.iL) 51 52,oc 54 (.bin .neq) 53 (kI 1),mv 55 54,oF 56 .mov [.t 8] 55 0,oF 57 (.bin .neq) [.t 56,kI 1] 55 0,on 58 .pick [.t 55,.c (.bool true),.t 57],mv 59 58,oF 60 .mov [.t 7] 59 0,oF 61 .len [.t 60] 59 1,oF 62 (.bin .neq) [.t 61,kI 0] 59 0,on 63 .pick [.t 59,.c (.bool true),.t 62],mv 64 63,oF 65 .mov [.t 10] 64 0,oF 66 (.bin .neq) [.t 65,kI 1] 64 0,on 67 .pick [.t 64,.c (.bool true),.t 66],mv 68 67,oF 69 .mov [.t 9] 68 0,oF 70 (.bin .neq) [.t 69,.c (.str ⟨#[]⟩)] 68 0,on 71 .pick [.t 68,.c (.bool true),.t 70]] 0 [2,3,5,6,71] []) (.cond (.t 71) (.seq (rg [mk 4 (.c (.bool false))] 0 [4]) .ret) .skip))))) (rg [mv 29 6,oc 30 (.bin .add) 29 (kI 1),mv 6 30] 0 [2,3,5,6])))))) (.seq (rg [on 72 (.ak F.MQ) [],mv 4 72] 0 [4]) .ret)))))
def AB:List aN:=[.tmp 4]
theorem KT:aC C.P F.Fh 2 Aj AB=true:=by kernel_rfl
def QC:aB:=(.seq (rg [mk 0 (.c (.bool false))] 0 []) (.seq (rg [on 4 (.ak F.Sj) [],oc 5 (.ak F.vC) 4 (.c (.str ⟨#[104,97,110,100,115,10,111,114,100,101,114,32,48,32,50,32,53,10,111,114,100,101,114,32,48,32,49,32,50,10,110,101,101,100,32,48,32,49,48,32,50,48,10,110,101,101,100,32,49,32,49,48,32,50,48,10,99,104,97,110,103,101,32,49,32,49,50,32,49,53,10,99,117,116,32,51,55,10,99,117,116,32,49,53,10,115,116,111,99,107,10,99,104,97,110,103,101,32,49,32,49,50,32,49,53,10,115,116,111,99,107,10,112,114,105,99,101,32,48,10,115,101,114,118,101,32,48,32,53,54,10,115,101,114,118,101,32,48,32,53,55,10,111,112,101,110,10,99,111,105,110,115,10,111,102,102,32,49,32,57,10,111,102,102,32,49,32,49,48,10,119,114,111,110,103,10,115,101,116,32,54,10,115,101,116,32,57,10,115,101,116,32,56,10,115,101,116,32,56,10,119,111,114,107,115,32,57,10,100,97,116,101,32,52,48,10,119,114,111,110,103,10,99,117,116,115,32,51,54,10,115,116,114,105,107,101,32,49,10,115,116,114,105,107,101,32,52,10,115,116,114,105,107,101,32,51,10,99,111,105,110,115,10,111,112,101,110,10,115,116,97,110,100,115,10,115,116,114,105,107,101,32,48,10,115,116,114,105,107,101,32,57,10,115,101,114,118,101,32,48,10]⟩)),mv 3 5,oa 6 (.ext 0) 3,oa 7 (.ext 1) 3,mv 1 6,mv 2 7] 0 [1,2]) (.seq (rg [mv 8 2,oc 9 (.bin .eql) 8 (kI 0),mv 10 9,ot 11 .mov [.t 1] 10 0,ot 12 (.bin .eql) [.t 11,.c (.str ⟨#[49,32,51,32,51,32,52,10,110,111,116,101,100,10,101,114,114,111,114,32,55,10,49,32,49,50,32,49,53,10,101,114,114,111,114,32,55,10,101,114,114,111,114,32,55,10,101,114,114,111,114,32,55,10,110,111,116,101,100,10,49,53,10,110,111,116,101,100,10,49,56,10,53,55,10,101,114,114,111,114,32,55,10,110,111,116,101,100,10,110,111,116,104,105,110,103,10,53,55,10,57,55,10,49,48,56,10,51,53,54,10,101,114,114,111,114,32,55,10,101,114,114,111,114,32,55,10,110,111,116,101,100,10,101,114,114,111,114,32,55,10,49,48,10,50,32,57,10,51,52,56,10,50,32,49,32,51,10,101,114,114,111,114,32,55,10,110,111,116,101,100,10,110,111,116,101,100,10,48,10,48,32,50,32,53,10,48,32,49,32,50,10,101,114,114,111,114,32,55,10,101,114,114,111,114,32,50,10,101,114,114,111,114,32,52,10]⟩)] 10 0,on 13 .pick [.t 10,.t 12,.c (.bool false)],mv 0 13] 0 [0]) .ret)))
def QO:List aN:=[.tmp 0]
theorem ZI:aC C.P F.MQ 0 QC QO=true:=by kernel_rfl
def QB:aB:=(.seq (rg [on 0 (.alloc 0 [.slice true [],.slice true [],.slice true [],.int .i64 0,.int .i64 0,.slice true [],.int .i64 0,.slice true [],.int .i64 0,.int .i64 0,.int .i64 0,.slice true [],.int .i64 0,.int .i64 0,.int .i64 0,.int .i64 0,.int .i64 0]) []] 1 [0]) (.seq (rg [on 1 (.ak F.aiI) [],on 2 (.build [.int .i64 0,.int .i64 0] [(0,1),(1,1)]) [kI 1,kI 3],on 3 (.build [.int .i64 0,.int .i64 0] [(0,1),(1,1)]) [kI 1499,kI 2000],ob 4 (.iO 2 [.agg [.int .i64 0,.int .i64 0],.agg [.int .i64 0,.int .i64 0]] [0,1]) 2 3,on 5 (.ak F.aiJ) [],on 6 (.ak F.aiH) [],on 7 (.ak F.aiG) [],on 8 (.build [.bool false,.int .i64 0,.int .i64 0,.int .i64 0] [(0,1)]) [.c (.bool true)],on 9 (.build [.bool false,.int .i64 0,.int .i64 0,.int .i64 0] [(1,1),(2,1)]) [kI 1,kI 6],ob 10 (.iO 4 [.agg [.bool false,.int .i64 0,.int .i64 0,.int .i64 0],.agg [.bool false,.int .i64 0,.int .i64 0,.int .i64 0]] [0,1]) 8 9,on 11 (.build [.slice true [],.slice true [],.slice true [],.int .i64 0,.int .i64 0,.slice true [],.int .i64 0,.slice true [],.int .i64 0,.int .i64 0,.int .i64 0,.slice true [],.int .i64 0,.int .i64 0,.int .i64 0,.int .i64 0,.int .i64 0] [(0,2),(2,1),(3,1),(4,2),(6,2),(8,3),(11,1),(12,1),(13,1),(14,1),(15,1),(16,1)]) [.t 1,.t 4,kI 100,.t 5,.t 6,.t 7,.t 10,kI 1,kI 3,kI 6,kI 4,kI 10],os (.store 17) [.t 0,.t 11] 0] 0 [0]) .ret))
def QN:List aN:=[.cell 0 true 17]
theorem ZH:aC C.P F.Sj 0 QB QN=true:=by kernel_rfl
def abP:aB:=(.seq (rg [on 0 (.alloc 0 [.slice true [],.slice true []]) []] 1 [0]) (.seq (rg [on 1 (.ak F.KJ) [kI 10,kI 20],oa 2 (.build [.int .i64 0,.int .i64 0,.int .i64 0] [(1,2)]) 1,on 3 (.ak F.KJ) [kI 12,kI 18],on 4 (.build [.int .i64 0,.int .i64 0,.int .i64 0] [(0,1),(1,2)]) [kI 1,.t 3],on 5 (.ak F.KJ) [kI 15,kI 10],on 6 (.build [.int .i64 0,.int .i64 0,.int .i64 0] [(0,1),(1,2)]) [kI 1,.t 5],on 7 (.iO 3 [.agg [.int .i64 0,.int .i64 0,.int .i64 0],.agg [.int .i64 0,.int .i64 0,.int .i64 0],.agg [.int .i64 0,.int .i64 0,.int .i64 0]] [0,1,2]) [.t 2,.t 4,.t 6],on 8 (.iO 1 [.int .i64 0,.int .i64 0] [0,1]) [kI 2,kI 3],ob 9 (.build [.slice true [],.slice true []] [(0,1),(1,1)]) 7 8,os (.store 2) [.t 0,.t 9] 0] 0 [0]) .ret))
def ab1:List aN:=[.cell 0 true 2]
theorem ai1:aC C.P F.aiI 0 abP ab1=true:=by kernel_rfl
def abO:aB:=(.seq (rg [on 0 (.alloc 0 [.int .i64 0,.slice true []]) []] 1 [0]) (.seq (rg [on 1 (.iO 1 [.int .i64 0] [0]) [kI 4],oa 2 (.build [.int .i64 0,.slice true []] [(1,1)]) 1,os (.store 2) [.t 0,.t 2] 0] 0 [0]) .ret))
def abZ:List aN:=[.cell 0 true 2]
theorem ai0:aC C.P F.aiH 0 abO abZ=true:=by kernel_rfl
def abN:aB:=(.seq (rg [on 0 (.alloc 0 [.int .i64 0,.int .i64 0,.int .i64 0]) []] 1 [0]) (.seq (rg [on 1 (.build [.int .i64 0,.int .i64 0,.int .i64 0] [(0,1),(1,1)]) [kI 59,kI 2],os (.store 3) [.t 0,.t 1] 0] 0 [0]) .ret))
def abY:List aN:=[.cell 0 true 3]
theorem aiZ:aC C.P F.aiG 0 abN abY=true:=by kernel_rfl
def Um:aB:=(.seq (rg [on 4 (.alloc 0 [.int .i64 0,.int .i64 0]) []] 1 [0,1,4]) (.seq (rg [mv 5 0,mv 6 1,ob 7 (.build [.int .i64 0,.int .i64 0] [(0,1),(1,1)]) 5 6,os (.store 2) [.t 4,.t 7] 0] 0 [4]) .ret))
def UE:List aN:=[.cell 4 true 2]
theorem aby:aC C.P F.KJ 2 Um UE=true:=by kernel_rfl
def abQ:aB:=(.seq (rg [on 0 (.alloc 0 [.int .i64 0,.slice true []]) []] 1 [0]) (.seq (rg [on 1 (.iO 1 [.int .i64 0,.int .i64 0,.int .i64 0] [0,1,2]) [kI 15,kI 21,kI 27],on 2 (.build [.int .i64 0,.slice true []] [(0,1),(1,1)]) [kI 40,.t 1],os (.store 2) [.t 0,.t 2] 0] 0 [0]) .ret))
def ab2:List aN:=[.cell 0 true 2]
theorem ai2:aC C.P F.aiJ 0 abQ ab2=true:=by kernel_rfl
end Go.Tel
