/-
  Part 23 of the proof of a law of desks: an abstract machine over the model, contracts of functions, plain laws.
  Conditions: none.
-/
import Derived.Test.YtbefoehadfnkbaaGreatDoorJourneymanParsesM13
import Derived.Test.YtbefoehadfnkbaaGreatDoorJourneymanParsesM22
import Derived.Shelf.Slices.In.SortNone
import Derived.Ground.NamesProg
set_option linter.all false
set_option maxRecDepth 10000
set_option maxHeartbeats 4000000
open Nat renaming reduceBEq→qA,reduceAdd→qB,reduceSub→qC,reduceEqDiff→qD,reduceLT→qE,reduceLeDiff→qF
namespace Go.Tel
open Go.Am
def De.ab6:De→Option Nat
 | .strike n=>some n.toNat
 | _=>none
def Dk.with (D:Dk)(x:En):Dk:=match x.deed.ab6 with
 |some n=>{D with es:=D.es++ [x],st:=D.st.set n true++ [false]}
 |none=>{D with es:=D.es++ [x],st:=D.st++ [false]}
def Dk.enter (D:Dk)(x:En):Dk×Int:=
 if x.formed=false then(D,2)else if D.es.length=24 then(D,3)else if D.lZ x.deed=false then(D,2)else if D.goes x.deed then(D.with x,0)else(D,7)
theorem Frm.akC {M:Mem}{bs':List (Option (List PV))}{fz':List Nat}{ar':List (Option Arr)}{x y:Option (List PV)}{i:Nat}(h:Frm M ⟨bs',fz',ar'⟩)(hi:M.boxes.length≤i):Frm M ⟨(bs'++ [x]).set i y,fz',ar'⟩:=
 {len:=by have:=h.len;simp only[List.length_set,List.length_append]at this⊢;omega
  aY:=h.aY
  box:=fun j hj=>by
   have h1:=h.len
   have h2:=h.box j hj
   simp only at h1 h2⊢
   rw[List.getElem?_set_ne (by omega),List.getElem?_append_left (by omega)];exact h2
  fz:=h.fz
  row:=h.row
  fzb:=fun e j hj=>by have:=h.fzb e j hj;simp only[List.length_set,List.length_append]at this⊢;omega}
theorem ahc {D:Dk}(h:D.Ok)(x:En)(hf:x.formed=true)(hb:D.lZ x.deed=true)(hl:D.es.length≠24):(D.with x).Ok:=by
 have hfi:=afR hf hb
 have h1:=h.few
 unfold Dk.with
 cases x.deed.ab6<;>simp only
 ·exact⟨h.su,by simp[h.len],by simp;omega,fun y hy=>by
   rcases List.mem_append.1 hy with hy|hy
   ·exact h.formed y hy
   ·simp only[List.mem_singleton]at hy;rw[hy];exact hf,fun y hy=>by
   rcases List.mem_append.1 hy with hy|hy
   ·exact h.fine y hy
   ·simp only[List.mem_singleton]at hy;rw[hy];exact hfi⟩
 ·exact⟨h.su,by simp[h.len],by simp;omega,fun y hy=>by
   rcases List.mem_append.1 hy with hy|hy
   ·exact h.formed y hy
   ·simp only[List.mem_singleton]at hy;rw[hy];exact hf,fun y hy=>by
   rcases List.mem_append.1 hy with hy|hy
   ·exact h.fine y hy
   ·simp only[List.mem_singleton]at hy;rw[hy];exact hfi⟩
theorem ai9 {D:Dk}(h:D.Ok)(x:En):(D.enter x).1.Ok:=by
 unfold Dk.enter
 split
 ·exact h
 split
 ·exact h
 split
 ·exact h
 split
 ·rename_i h1 h2 h3 _
  exact ahc h x (by simpa using h1) (by simpa using h3) h2
 ·exact h
theorem AZ.row {D:Dk}{d k ver:Nat}{ce:PV}{bs:List (Option (List PV))}{fz:List Nat}{ar:List (Option Arr)}(h:AZ D d ce (.tsl k ver 0) ⟨bs,fz,ar⟩)(hk:k<ar.length)(l:List Bool):
  AZ {D with st:=l} d ce (.tsl k ver 0) ⟨bs,fz,ar.set k (some ⟨1,l.map .bool,ver,1⟩)⟩∧FrD d ce (.tsl k ver 0) ce (.tsl k ver 0) ⟨bs,fz,ar⟩ ⟨bs,fz,ar.set k (some ⟨1,l.map .bool,ver,1⟩)⟩:=by
 constructor
 ·exact
  {box:=h.box
   ent:=EK h.ent fun j A hj hA=>by
    simp only
    rw[List.getElem?_set_ne (fun e=>by subst e;exact h.dif _ hj rfl)];exact hA
   str:= .inr ⟨k,ver,1,rfl,by simp[hk],by decide,fun _=> .inl rfl⟩
   dif:=h.dif
   nb:=h.nb
   fzb:=h.fzb}
 ·exact
  {len:=Nat.le_refl _
   aY:=by simp
   box:=fun _ _ _=>rfl
   fz:=fun _ _=>Iff.rfl
   row:=fun j hj _ h3=>by simp only;rw[List.getElem?_set_ne (fun e=>h3 (by rw[e];rfl))]
   oe:=fun _=> .inl
   os:=fun _=> .inl}
theorem IQ {x:En}(h:x.formed=true):x.ns.length≤3:=by
 simp only[En.formed,Bool.and_eq_true,decide_eq_true_eq]at h
 have:=aax x.kind
 omega
def acW:aB:=
(.seq
 (.region false [
  oa 2 (.box 0) 0,
  oa 3 (.box 1) 1,
  mk 4 (kI 0)] 2 [2,3] [3])
 (.seq
 (.seq
  (rg [
   lo 9 2,
   oa 10 (.iZ F.gY) 9,
   oa 11 (.un .not) 10] 0 [2,3,11])
  (.cond (.t 11)
  (.seq
   (rg [
    mk 4 (kI 1)] 0 [4])
   .ret)
  .skip))
 (.seq
  (.seq
  (rg [
   oa 12 (.load true 2) 3,
   oa 13 (.ak F.jB) 12,
   oa 14 (.un .not) 13] 0 [2,3,14])
  (.cond (.t 14)
   (.seq
   (rg [
    mk 4 (kI 2)] 0 [4])
   .ret)
   .skip))
  (.seq
  (.seq
   (rg [
    lo 15 2,
    oa 16 .aW 15,
    oa 17 (.fld 2) 16,
    lo 18 17,
    oa 19 .len 18,
    oc 20 (.bin .eql) 19 (kI 24)] 0 [2,3,20])
   (.cond (.t 20)
   (.seq
    (rg [
     mk 4 (kI 3)] 0 [4])
    .ret)
   .skip))
  (.seq
   (.region false [
    oa 21 (.load true 2) 3,
    oa 22 (.ak F.lD) 21,
    on 5 (.alloc 0 [.nilIface]) [],
    os (.store 1) [.t 5, .t 22] 0] 1 [2,3,5] [5])
   (.seq
   (.seq
    (rg [
     lo 23 5,
     lo 24 2,
     ob 25 (.inv "tellurion/journeyman.fine") 23 24,
     oa 26 (.un .not) 25] 0 [2,3,5,26])
    (.cond (.t 26)
    (.seq
     (rg [
      mk 4 (kI 2)] 0 [4])
     .ret)
    .skip))
   (.seq
    (rg [
     ob 27 (.mkF (.func F.jh) 0) 5 2,
     oa 28 (.call F.ku) 27,
     mv 6 28] 0 [2,3,5,6])
    (.seq
    (.seq
     (rg [
      mv 29 6,
      oc 30 (.bin .neq) 29 (kI 0)] 0 [2,3,5,6,30])
     (.cond (.t 30)
     (.seq
      (rg [
       mv 31 6,
       mv 4 31] 0 [4])
      .ret)
     .skip))
    (.seq
     (.seq
     (.region false [
      lo 33 5,
      oa 34 (.tas T.aZ (.agg [.int .i64 0])) 33,
      mv 32 34,
      oa 35 (.ext 0) 32,
      oa 36 (.ext 1) 32,
      on 7 (.alloc 0 [.int .i64 0]) [],
      os (.store 1) [.t 7, .t 35] 0,
      mv 8 36] 1 [2,3,7,8] [7])
     (.seq
      (rg [
       mv 37 8] 0 [2,3,7,37])
      (.cond (.t 37)
      (.region true [
       of 38 (.load false 1) [.t 2] 2,
       oa 39 .aW 38,
       of 40 (.fld 3) [.t 39] 2,
       of 41 (.load false 1) [.t 40] 2,
       of 42 (.fld 0) [.t 7] 1,
       of 43 (.load false 1) [.t 42] 1,
       ob 44 (.bC 1) 41 43,
       os (.store 1) [.t 44, .c (.bool true)] 3] 0 [2,3] [])
      .skip)))
     Xt)))))))))
theorem afd:tu=acW:=rfl
theorem ait {D:Dk}{d:Nat}{ce cs:PV}{M:Mem}(h:AZ D d ce cs M)(hok:D.Ok)(x:En){KP:DV→Mem→Prop}:
  SC C F.oN [.ptr d 0, .d x.dv] M (fun p M'=>p= .d (.int .i64 (D.enter x).2)∧∃ce' cs',AZ (D.enter x).1 d ce' cs' M'∧FrD d ce cs ce' cs' M M') KP:=by
 obtain⟨bs,fz,ar⟩:=M
 have hbox:=h.box
 rw[jg]at hbox
 simp only at hbox
 have hdl:d<bs.length:=(List.getElem?_eq_some_iff.1 hbox).1
 have KX:∀i∈fz,i<bs.length:=h.fzb
 have hn0:bs.length∉fz:=fun e=>Nat.lt_irrefl _ (KX _ e)
 have hn1:∀k,bs.length+k∉fz:=fun k e=>by have:=KX _ e;omega
 have hb0:¬d=bs.length:=by omega
 have hb1:∀k,¬d=bs.length+k:=fun k=>by omega
 have hb2:∀k,d<bs.length+k:=fun k=>by omega
 have hs1:¬bs.length+1=bs.length:=by omega
 have hs2:¬bs.length+2=bs.length:=by omega
 have hs3:¬bs.length+2=bs.length+1:=by omega
 have hF2:Frm ⟨bs,fz,ar⟩ ⟨bs++ [some [.ptr d 0],some [.d (.int .i64 x.kind), .d (.slice false (x.ns.map ay))]],(bs.length+1)::fz,ar⟩:=Frm.new (xf:=[bs.length+1]) (by simp)
 obtain⟨e1,e2,hdt⟩:=Qp (h.frm hF2)
 have hif:=WT x
 rw[wO]at hif
 have hel:D.es.length≤24:=hok.few
 have hsl:D.st.length≤24:=by rw[←hok.len];exact hok.few
 refine aF mixed rfl F9 ?_
 rw[afd]
 simp only[acW,um,wO,hbox,hdl,aU,bG,aN,bI,bU,aP,List.append_assoc,List.length_append,Nat.add_assoc,List.length_set,hn0,hn1,hb0,hb1,hb2,hs1,hs2,hs3,Di,Nr,O9,RN,qA,qB,qC,qD,qE,qF]
 refine mg (Ql hdt) rfl (ab5 e1 e2 D) rfl ?_
 (try simp only[RN,qA,qB,qC,qD,qE,qF])
 refine au rfl rfl hif ?_
 cases hfm:x.formed
 ·(try simp only[RN,qA,qB,qC,qD,qE,qF])
  have he:D.enter x=(D,2):=by simp[Dk.enter,hfm]
  rw[he]
  exact⟨rfl,_,_,h.frm hF2,hF2.frD⟩
 simp only[hbox,hdl,aU,bG,aN,hb2,List.length_append,RN,qA,qB,qC,qD,qE,qF]
 rw[aaU h.ent]
 by_cases h24:D.es.length=24
 ·have hb:(((D.es.map En.dv).length:Int)==24)=true:=by simp[h24]
  simp only[hb,RN,qA,qB,qC,qD,qE,qF]
  have he:D.enter x=(D,3):=by simp[Dk.enter,hfm,h24]
  rw[he]
  exact⟨rfl,_,_,h.frm hF2,hF2.frD⟩
 have hb:(((D.es.map En.dv).length:Int)==24)=false:=by simp;omega
 have hde:=V9 x (Fj hfm)
 rw[wO]at hde
 simp only[hb,RN,qA,qB,qC,qD,qE,qF]
 refine au rfl rfl hde ?_
 have aqx:=(De.one x.deed).1
 have aqy:=(De.one x.deed).2
 simp only[aqx,aqy,aU,bG,aN,bI,bU,aP,List.append_assoc,List.length_append,Nat.add_assoc,List.length_set,hn0,hn1,hb0,hb1,hb2,hs1,hs2,hs3,RN,qA,qB,qC,qD,qE,qF]
 have hF3:Frm ⟨bs,fz,ar⟩ ⟨bs++ [some [.ptr d 0],some [.d (.int .i64 x.kind), .d (.slice false (x.ns.map ay))],some [.d x.deed.dv]],(bs.length+2)::(bs.length+1)::fz,ar⟩:=Frm.new (xf:=[bs.length+2,bs.length+1]) (by simp)
 refine ajj (h.frm hF3) hok x.deed ?_
 cases hfi:D.lZ x.deed
 ·(try simp only[RN,qA,qB,qC,qD,qE,qF])
  have he:D.enter x=(D,2):=by simp[Dk.enter,hfm,h24,hfi]
  rw[he]
  exact⟨rfl,_,_,h.frm hF3,hF3.frD⟩
 have hdf:mZ D.su D.su.sp0 x.deed:=afR hfm hfi
 simp only[pJ,Option.map_none,RN,qA,qB,qC,qD,qE,qF]
 obtain⟨B,hB⟩:∃B,B=bs++ [some [.ptr d 0],some [.d (.int .i64 x.kind), .d (.slice false (x.ns.map ay))],some [.d x.deed.dv]]:=⟨_,rfl⟩
 obtain⟨Z,hZ⟩:∃Z,Z=(bs.length+2)::(bs.length+1)::fz:=⟨_,rfl⟩
 have hBl:B.length=bs.length+3:=by rw[hB];simp
 have hBp:B[bs.length]?=some (some [.ptr d 0]):=by rw[hB,aN rfl];rfl
 rw[←hB,←hZ]at hF3
 simp only[←hB,←hZ]
 have hF4:Frm ⟨B,Z,ar⟩ ⟨B++ [some [.d (.int .i64 0)]],Z,ar⟩:=Frm.new (xf:=[]) (by simp)
 have aeE:=hF3.trans hF4
 have z0:((0:Int) !=0)=false:=rfl
 have z7:((7:Int) !=0)=true:=rfl
 refine VK (fs:=[]) (cs:=[.d (.aX [x.deed.dv]), .ptr bs.length 0]) (hF3.fzb h.fzb) (by kernel_rfl) ?_
 refine SC.oh (SC.mono (ahb (h.frm aeE) hok x.deed hfi hdf (pb:=bs.length) ?_) ?_) ?_
 ·simp only;rw[List.getElem?_append_left (by omega)];exact hBp
 ·rintro v ⟨bs',fz',ar'⟩ ⟨g1,g2⟩
  have hF5:=aeE.trans g2
  have hd5:=h.frm hF5
  have hl5:=hF5.len
  simp only at hl5
  have hp5:bs'[bs.length]?=some (some [.ptr d 0]):=by
   have:=g2.box bs.length (by simp only[List.length_append,hBl];omega)
   simp only at this
   rw[this,List.getElem?_append_left (by omega)];exact hBp
  have he5:bs'[B.length]?=some (some [.d (.int .i64 0)]):=by
   have:=g2.box B.length (by simp)
   simp only at this
   rw[this,aN rfl];rfl
  have hef:B.length∉fz':=fun e=>by
   have:=(g2.fz B.length (by simp)).1 e
   simp only at this
   have h5:=hF3.fzb h.fzb _ this
   simp only at h5;omega
  refine⟨he5,hef,?_⟩
  have he:D.enter x=(D.with x,0):=by simp[Dk.enter,hfm,h24,hfi,g1]
  rw[he]
  have aju:=hd5.fzb
  have hm0:bs'.length∉fz':=fun e=>Nat.lt_irrefl _ (aju _ e)
  have hpd:bs.length≠d:=by omega
  have aoy:bs.length<bs'.length:=(List.getElem?_eq_some_iff.1 hp5).1
  simp only[z0,RN,qA,qB,qC,qD,qE,qF]
  by_cases hs:∃n,x.deed= .strike n
  ·obtain⟨n,hs⟩:=hs
   have hx:(De.strike n).dv= .iface T.aZ (.agg [.int .i64 n]):=rfl
   have hn:(0≤n∧n≤(D.es.length:Int) - 1)∧n.toNat<D.st.length:=by
    rw[hs]at hfi
    simp only[Dk.lZ,inR,Bool.and_eq_true,decide_eq_true_eq]at hfi
    have:=hok.len
    omega
   have aoi:=hd5.box
   rw[jg]at aoi
   simp only at aoi
   have aqv:d<bs'.length:=by omega
   obtain⟨k2,afA,st2,rfl,hk2,_,hst2⟩:=ND h.str (by intro e;simp at e;rw[e]at hn;simp at hn)
   have hst2:=hst2 rfl
   subst hst2
   have hk5:ar'[k2]?=some (some ⟨1,D.st.map .bool,afA,1⟩):=(hF5.row k2 (List.getElem?_eq_some_iff.1 hk2).1).trans hk2
   have aqE:=(List.getElem?_eq_some_iff.1 hk5).1
   have aqw:∀k,d<bs'.length+k:=fun k=>by omega
   have aqO:∀k,bs.length<bs'.length+k:=fun k=>by omega
   rw[hs,hx]
   simp only[oI,hp5,aoi,aqv,aoy,aqw,aqO,aU,aN,aP,hm0,List.length_append,hk5,hn.1.1,hn.2,List.length_map,RN,qA,qB,qC,qD,qE,qF]
   refine MO (ds:=[.bool true]) hk5 rfl (by decide) rfl rfl (by rw[getD_map hn.2];exact Nat.le_refl 1) ?_
   have hset:(D.st.map DV.bool).set n.toNat (setCells ((D.st.map DV.bool).getD n.toNat default) 0 [.bool true])=(D.st.set n.toNat true).map .bool:=by
    rw[List.map_set,getD_map hn.2];rfl
   rw[hset]
   have hF6:Frm ⟨bs,fz,ar⟩ ⟨bs'++ [some [.d (.int .i64 n)]],bs'.length::fz',ar'⟩:=hF5.trans (Frm.new (xf:=[bs'.length]) (by simp))
   obtain⟨q3,q4⟩:=(h.frm hF6).row aqE (D.st.set n.toNat true)
   refine Wp q3 x (by have:=IQ hfm;omega) (Nat.le_trans hel (by decide)) (by rw[List.length_set];exact Nat.le_trans hsl (by decide)) (pb:=bs.length) (by rw[List.getElem?_append_left aoy];exact hp5) hpd fun ce' cs' M' q1 q2=> ?_
   (try simp only[RN,qA,qB,qC,qD,qE,qF])
   have hw:D.with x={D with es:=D.es++ [x],st:=D.st.set n.toNat true++ [false]}:=by
    unfold Dk.with
    rw[hs];rfl
   rw[hw]
   exact⟨_,_,q1,(hF6.frD.trans q4).trans q2⟩
  ·have hy:∀n,x.deed≠ .strike n:=fun n e=>hs ⟨n,e⟩
   have hx:x.deed.dv= .iface x.deed.ty x.deed.cs:=rfl
   rw[hx]
   simp only[eX (ano hy),aN,aP,hm0,List.length_append,RN,qA,qB,qC,qD,qE,qF]
   have hF6:Frm ⟨bs,fz,ar⟩ ⟨bs'++ [some [.d (.int .i64 0)]],bs'.length::fz',ar'⟩:=hF5.trans (Frm.new (xf:=[bs'.length]) (by simp))
   refine Wp (h.frm hF6) x (by have:=IQ hfm;omega) (Nat.le_trans hel (by decide)) (Nat.le_trans hsl (by decide)) (pb:=bs.length) (by rw[List.getElem?_append_left aoy];exact hp5) hpd fun ce' cs' M' q1 q2=> ?_
   (try simp only[RN,qA,qB,qC,qD,qE,qF])
   have hw:D.with x={D with es:=D.es++ [x],st:=D.st++ [false]}:=by
    unfold Dk.with
    cases hd:x.deed with
    |strike n=>exact absurd hd (hy n)
    | _=>rfl
   rw[hw]
   exact⟨_,_,q1,hF6.frD.trans q2⟩
 ·rintro dd ⟨bs',fz',ar'⟩ ⟨g1,g2,g3⟩
  have hF5:=aeE.trans g3
  have hl5:=g3.len
  simp only[List.length_append,List.length_cons,List.length_nil]at hl5
  have he5:bs'[B.length]?=some (some [.d (.int .i64 0)]):=by
   have:=g3.box B.length (by simp)
   simp only at this
   rw[this,aN rfl];rfl
  have hef:B.length∉fz':=fun e=>by
   have:=(g3.fz B.length (by simp)).1 e
   simp only at this
   have h5:=hF3.fzb h.fzb _ this
   simp only at h5;omega
  have aju:=hF5.fzb h.fzb
  have hm0:bs'.length∉fz':=fun e=>Nat.lt_irrefl _ (aju _ e)
  have he:D.enter x=(D,7):=by simp[Dk.enter,hfm,h24,hfi,g1]
  refine⟨he5,hef,hm0, .inl ⟨g2,fun y=> ?_⟩⟩
  rw[he]
  simp only[z7,RN,qA,qB,qC,qD,qE,qF]
  have hF6:Frm ⟨bs,fz,ar⟩ ⟨(bs'++ [y]).set B.length (some [.d (.int .i64 7)]),fz',ar'⟩:=hF5.akC (by simp only;omega)
  exact⟨_,_,h.frm hF6,hF6.frD⟩
end Go.Tel
namespace Go.Tel
open Go.Am
def pK (f1 f2 e1 e2:Bool)(D:Dk)(t:Sp):List DV:=[.aX (t.cells f1 f2 D.su), .aX (O5 e1 e2 D)]
def BA (f1 f2 e1 e2:Bool)(D:Dk)(t:Sp):DV:= .agg (pK f1 f2 e1 e2 D t)
theorem iG {f1 f2 e1 e2:Bool}{D:Dk}{t:Sp}:BA f1 f2 e1 e2 D t= .agg [.aX (t.cells f1 f2 D.su), .aX (O5 e1 e2 D)]:=rfl
def Ans (f:FuncId)(ds:List DV)(l:List Int)(e:Int):Prop:=
 Pure C f ds (.tup [.tsl 0 0 0, .d (.int .i64 e)]) [⟨1,l.map ay,0,Bq l⟩]∨(l=[]∧Pure C f ds (.d (.tup [.slice true [], .int .i64 e])) [])
theorem gy {f:FuncId}{ds:List DV}{l:List Int}{e:Int}(hsc:SC C f (ds.map .d) bH (fun p M=>∃c,p= .tup [c, .d (.int .i64 e)]∧Qd M c 1 (l.map ay) (Bq l)) (fun _ _=>False)):Ans f ds l e:=by
 refine .inl (Jj (SC.mono hsc fun p M h=> ?_))
 obtain⟨c,rfl,k,ver,rfl,h⟩:=h
 refine⟨[(k,0)],⟨fun q hq=>by simp only[List.mem_singleton]at hq;subst hq;simp[Fv,h],by simp⟩,?_,?_⟩
 ·simp[ren,akp,XJ,Mem.row,h,Rf]
 ·simp[mkRow,h]
theorem EZ {f:FuncId}{ds:List DV}{l:List Int}{e:Int}(hl:l=[])(h:Pure C f ds (.d (.tup [.slice true [], .int .i64 e])) []):Ans f ds l e:= .inr ⟨hl,h⟩
theorem DI {C:Ctx}{base:Nat}{M:Mem}{K:PV→Mem→Prop}{KP:DV→Mem→Prop}{z:DV}{k:IntKind}{n:Int}:aj C base (.qc 1 [z] [0]) [.d (.int k n)] M K KP=K (.tsl M.aA.length 0 0) {M with aA:=M.aA++ [some ⟨1,[.int k n],0,1⟩]}:=
 Nc rfl (by decide)
theorem aep {C:Ctx}{base:Nat}{M:Mem}{K:PV→Mem→Prop}{KP:DV→Mem→Prop}{z1 z2:DV}{k k':IntKind}{n n':Int}:aj C base (.qc 1 [z1,z2] [0,1]) [.d (.int k n), .d (.int k' n')] M K KP=K (.tsl M.aA.length 0 0) {M with aA:=M.aA++ [some ⟨1,[.int k n, .int k' n'],0,1⟩]}:=by
 simp[aj,jd,zU,DV.strip,DV.cells,DV.fits,DV.one]
theorem aer {C:Ctx}{base:Nat}{M:Mem}{K:PV→Mem→Prop}{KP:DV→Mem→Prop}{z1 z2 z3:DV}{k k' k2:IntKind}{n n' n2:Int}:aj C base (.qc 1 [z1,z2,z3] [0,1,2]) [.d (.int k n), .d (.int k' n'), .d (.int k2 n2)] M K KP=K (.tsl M.aA.length 0 0) {M with aA:=M.aA++ [some ⟨1,[.int k n, .int k' n', .int k2 n2],0,1⟩]}:=by
 simp[aj,jd,zU,DV.strip,DV.cells,DV.fits,DV.one]
section
variable (f1 f2 e1 e2:Bool){D:Dk}{t:Sp}(ns:List Int)
theorem aoU:Ans F.fO [BA f1 f2 e1 e2 D t, .slice false (ns.map ay)] [t.lX] 0:=by
 refine gy (aF mixed rfl Gi ?_)
 simp only[tK,uy,iG,bK,DI,List.not_mem_nil,bn,dG,RN,qA,qB,qC,qD,qE,qF]
 exact⟨_,rfl,0,0,rfl,rfl⟩
theorem anG (hok:D.Ok)(hn:ns.length=1):Ans F.fJ [BA f1 f2 e1 e2 D t, .slice false (ns.map ay)] [(D.su.dvd.cuts (ns.getD 0 default)).1.circle,(D.su.dvd.cuts (ns.getD 0 default)).1.turns,(D.su.dvd.cuts (ns.getD 0 default)).1.holes] (D.su.dvd.cuts (ns.getD 0 default)).2:=by
 have hc:=adK D.su.dvd (ns.getD 0 default) (by have:=(Su.VP hok.su).ci;omega)
 rw[IJ,KN]at hc
 have j0:(0:Int)≤0:=by omega
 have t0:(0:Int).toNat=0:=rfl
 have l0:0<ns.length:=by omega
 refine gy (aF mixed rfl Gh ?_)
 simp only[tJ,uw,iG,bK,j0,t0,l0,List.length_map,getD_map,aV,RN,qA,qB,qC,qD,qE,qF]
 refine au rfl rfl hc ?_
 simp only[aer,List.not_mem_nil,bn,dG,RN,qA,qB,qC,qD,qE,qF]
 exact⟨_,rfl,0,0,rfl,rfl⟩
theorem anF (hok:D.Ok)(ht:KG D.su 24 t)(hn:ns.length=1):Ans F.fH [BA f1 f2 e1 e2 D t, .slice false (ns.map ay)]
  (if inR (ns.getD 0 default) 0 (D.su.pc.hands.length - 1)then[PN D.su t (ns.getD 0 default).toNat]else[]) (if inR (ns.getD 0 default) 0 (D.su.pc.hands.length - 1)then 0 else 2):=by
 have hi:=KY e1 e2 D (by have:=hok.small;omega) (ns.getD 0 default)
 rw[yA]at hi
 have j0:(0:Int)≤0:=by omega
 have t0:(0:Int).toNat=0:=rfl
 have l0:0<ns.length:=by omega
 cases h1:inR (ns.getD 0 default) 0 ((D.su.pc.hands.length:Int) - 1)
 ·refine EZ (by simp) (ah mixed rfl sU ?_)
  simp only[lK,lS,iG,j0,t0,l0,List.length_map,getD_map,aV,RN,qA,qB,qC,qD,qE,qF]
  refine au rfl rfl hi ?_
  simp only[h1,RN,qA,qB,qC,qD,qE,qF]
  simp
 ·have hh:0≤ns.getD 0 default∧ns.getD 0 default≤(D.su.pc.hands.length:Int) - 1:=by simpa[inR]using h1
  obtain⟨a,ha⟩:∃a:Nat,ns.getD 0 default=a:=⟨(ns.getD 0 default).toNat,by omega⟩
  have hp:=agb f1 f2 D.su t a ht.pc (by rw[ht.hh];omega)
  rw[ha]at h1 hi⊢
  refine gy (aF mixed rfl sU ?_)
  simp only[lK,lS,iG,j0,t0,l0,List.length_map,getD_map,aV,ha,RN,qA,qB,qC,qD,qE,qF]
  refine au rfl rfl hi ?_
  simp only[h1,j0,t0,l0,List.length_map,getD_map,aV,ha,RN,qA,qB,qC,qD,qE,qF]
  refine au rfl rfl hp ?_
  simp only[DI,List.not_mem_nil,bn,dG,if_true,Int.toNat_natCast,RN,qA,qB,qC,qD,qE,qF]
  exact⟨_,rfl,0,0,rfl,rfl⟩
end
end Go.Tel
namespace Go.Tel
open Go.Am
def Zc:List Int→Int→Int→Int
 | [],_,l=>l
 |s::r,day,l=>Zc r day (if s≤day then s else l)
def Sp.turns (t:Sp)(day:Int):Int:=day - Zc t.sets day 0
section
variable (f1 f2 e1 e2:Bool){D:Dk}{t:Sp}(ns:List Int)
theorem abd (ht:KG D.su 24 t)(day:Int)(hd:0≤day∧day≤1000000):Pure C F.jK [BA f1 f2 e1 e2 D t, .int .i64 day] (.d (.int .i64 (t.turns day))) []:=by
 have hse:=ht.se
 refine ah mixed rfl ES ?_
 simp only[rF,rW,iG,bK,List.length_map,RN,qA,qB,qC,qD,qE,qF]
 refine aT t.sets.length (fun i (a:Int)=>⟨[(1, .d (.int .i64 day)),(5, .d (.int .i64 a)),(12, .d (.slice f2 (t.sets.map ay))),(13, .d (.int .i64 t.sets.length)),(14, .d (.int .i64 i))],⟨[some [.d (.aX (t.cells f1 f2 D.su)), .d (.aX (O5 e1 e2 D))]],[0],[]⟩⟩)
  (fun i a=>Zc t.sets day 0=Zc (t.sets.drop i) day a∧0≤a∧a≤366) 0 0 (Nat.zero_le _) (by rw[bK];rfl) ⟨rfl,by decide,by decide⟩ (fun i a g1 hix=> ?_) (fun a hix=> ?_)
 ·obtain⟨g2,g3,g6⟩:=rng g1 (by omega)
  obtain⟨q1,q2,q3⟩:=hix
  rw[drop_cons g1,Zc]at q1
  have hv:=ht.sv _ (getD_mem g1)
  simp only[g2,g3,g1,getD_map,aV,Int.toNat_natCast,List.length_map,RN,qA,qB,qC,qD,qE,qF]
  by_cases hle:t.sets.getD i default≤day
  ·rw[if_pos hle]at q1
   simp only[hle,g6,RN,qA,qB,qC,qD,qE,qF]
   exact lI (t.sets.getD i default) g1 rfl ⟨q1,by omega,by omega⟩
  ·rw[if_neg hle]at q1
   simp only[hle,g6,RN,qA,qB,qC,qD,qE,qF]
   exact lI a g1 rfl ⟨q1,q2,q3⟩
 ·obtain⟨q1,q2,q3⟩:=hix
  rw[List.drop_length,Zc]at q1
  have w1:IntKind.i64.wrap (day - a)=day - a:=aG (by omega)
  simp only[Int.lt_irrefl,w1,RN,qA,qB,qC,qD,qE,qF]
  simp only[Sp.turns,q1]
theorem ap5 (hok:D.Ok)(ht:KG D.su 24 t)(hn:ns.length=2):Ans F.gG [BA f1 f2 e1 e2 D t, .slice false (ns.map ay)]
  (if inR (ns.getD 0 default) 0 (D.su.pc.hands.length - 1)&&inR (ns.getD 1 default) 1 D.su.days.length then[(zF t.pc (ns.getD 0 default) (t.tg.getD (ns.getD 0 default).toNat default) (t.turns (ns.getD 1 default))).1]else[])
  (if inR (ns.getD 0 default) 0 (D.su.pc.hands.length - 1)&&inR (ns.getD 1 default) 1 D.su.days.length then(zF t.pc (ns.getD 0 default) (t.tg.getD (ns.getD 0 default).toNat default) (t.turns (ns.getD 1 default))).2 else 2):=by
 have hi:=KY e1 e2 D (by have:=hok.small;omega) (ns.getD 0 default)
 have hd:=VJ e1 e2 D (ns.getD 1 default)
 rw[yA]at hi hd
 have j0:(0:Int)≤0:=by omega
 have t0:(0:Int).toNat=0:=rfl
 have j1:(0:Int)≤1:=by omega
 have t1:(1:Int).toNat=1:=rfl
 have l0:0<ns.length:=by omega
 have l1:1<ns.length:=by omega
 have hsm:=hok.small
 cases h1:inR (ns.getD 0 default) 0 ((D.su.pc.hands.length:Int) - 1)
 ·refine EZ (by simp) (ah mixed rfl mO ?_)
  simp only[ji,jo,iG,j0,t0,l0,List.length_map,getD_map,aV,RN,qA,qB,qC,qD,qE,qF]
  refine au rfl rfl hi ?_
  simp only[h1,RN,qA,qB,qC,qD,qE,qF]
  simp
 cases h2:inR (ns.getD 1 default) 1 (D.su.days.length:Int)
 ·refine EZ (by simp) (ah mixed rfl mO ?_)
  simp only[ji,jo,iG,j0,t0,l0,j1,t1,l1,List.length_map,getD_map,aV,RN,qA,qB,qC,qD,qE,qF]
  refine au rfl rfl hi ?_
  simp only[h1,j0,t0,l0,j1,t1,l1,List.length_map,getD_map,aV,RN,qA,qB,qC,qD,qE,qF]
  refine au rfl rfl hd ?_
  simp only[h2,RN,qA,qB,qC,qD,qE,qF]
  simp
 have hh:0≤ns.getD 0 default∧ns.getD 0 default≤(D.su.pc.hands.length:Int) - 1:=by simpa[inR]using h1
 have hdy:1≤ns.getD 1 default∧ns.getD 1 default≤(D.su.days.length:Int):=by simpa[inR]using h2
 have hdl:=GR D.su
 have hll:=Pc.Gt ht.pc
 have htu:=abd f1 f2 e1 e2 (D:=D) ht (ns.getD 1 default) (by omega)
 have hw:=afI t.pc (by omega) (by omega) (ns.getD 0 default) (t.tg.getD (ns.getD 0 default).toNat default) (t.turns (ns.getD 1 default))
 have hgt:(ns.getD 0 default).toNat<t.tg.length:=by rw[ht.tl];omega
 rw[iG]at htu
 rw[lY,dH]at hw
 simp only[Bool.and_self,if_true]
 refine gy (aF mixed rfl mO ?_)
 simp only[ji,jo,iG,j0,t0,l0,j1,t1,l1,List.length_map,getD_map,aV,RN,qA,qB,qC,qD,qE,qF]
 refine au rfl rfl hi ?_
 simp only[h1,j0,t0,l0,j1,t1,l1,List.length_map,getD_map,aV,RN,qA,qB,qC,qD,qE,qF]
 refine au rfl rfl hd ?_
 rw[bK]at htu
 simp only[h2,bK,j0,t0,l0,j1,t1,l1,List.length_map,getD_map,aV,hh.1,hgt,dH,RN,qA,qB,qC,qD,qE,qF]
 refine au rfl rfl htu ?_
 (try simp only[RN,qA,qB,qC,qD,qE,qF])
 refine au rfl rfl hw ?_
 simp only[DI,List.not_mem_nil,bn,dG,if_true,RN,qA,qB,qC,qD,qE,qF]
 exact⟨_,rfl,0,0,rfl,rfl⟩
theorem anI (hok:D.Ok)(hn:ns.length=1):Ans F.fK [BA f1 f2 e1 e2 D t, .slice false (ns.map ay)]
  (if inR (ns.getD 0 default) 1 D.su.days.length then[(V8 D.su.cal D.su.year.toNat (D.su.first+(ns.getD 0 default - 1))).m,(V8 D.su.cal D.su.year.toNat (D.su.first+(ns.getD 0 default - 1))).d]else[])
  (if inR (ns.getD 0 default) 1 D.su.days.length then 0 else 2):=by
 have hd:=VJ e1 e2 D (ns.getD 0 default)
 rw[yA]at hd
 have j0:(0:Int)≤0:=by omega
 have t0:(0:Int).toNat=0:=rfl
 have l0:0<ns.length:=by omega
 cases h2:inR (ns.getD 0 default) 1 (D.su.days.length:Int)
 ·refine EZ (by simp) (ah mixed rfl sV ?_)
  simp only[lM,lT,iG,j0,t0,l0,List.length_map,getD_map,aV,RN,qA,qB,qC,qD,qE,qF]
  refine au rfl rfl hd ?_
  simp only[h2,RN,qA,qB,qC,qD,qE,qF]
  simp
 have hdy:1≤ns.getD 0 default∧ns.getD 0 default≤(D.su.days.length:Int):=by simpa[inR]using h2
 have hdl:=GR D.su
 obtain⟨a,ha⟩:∃a:Nat,ns.getD 0 default=((a+1:Nat):Int):=⟨(ns.getD 0 default - 1).toNat,by omega⟩
 have hal:a<D.su.days.length:=by omega
 have w1:IntKind.i64.wrap (((a+1:Nat):Int) - 1)=(a:Int):=by rw[aG (by omega)];omega
 have ja:(0:Int)≤(a:Int):=by omega
 have had:a<D.su.dur:=by simpa[Su.days,Su.y9]using hal
 have hga:D.su.days.getD a default=(D.su.first+a,D.su.works (D.su.first+a)):=by
  simp only[Su.days,Su.y9,List.getD_eq_getElem?_getD,List.getElem?_map,List.getElem?_range had,Option.map_some,Option.getD_some]
 obtain⟨q1,_,_,_,q5,_,_,q8,_⟩:=Su.facts hok.su
 have hst:=IL D.su.cal D.su.year.toNat
 have hbd:=D.su.cal.pW D.su.year.toNat
 have hdt:=anq D.su.cal D.su.year.toNat (D.su.first+a) q5 (by omega) (by simp only[Su.first];omega) (by
  have e1:D.su.cal.first (D.su.year.toNat+1)=D.su.cal.first D.su.year.toNat+II (D.su.cal.leap D.su.year):=by
   rw[Cal.first]
   rw[show((D.su.year.toNat:Nat):Int)=D.su.year by omega]
  have e2:(D.su.dur:Int)=II (D.su.cal.leap D.su.year):=by
   have:=zI (D.su.cal.leap D.su.year)
   simp only[Su.dur];split at this<;>omega
  rw[e1,←e2,Su.first];omega)
 have hz:(ns.getD 0 default - 1)=(a:Int):=by omega
 rw[pR,Fg]at hdt
 rw[ha]at hd h2
 refine gy (aF mixed rfl sV ?_)
 simp only[lM,lT,iG,j0,t0,l0,List.length_map,getD_map,aV,ha,RN,qA,qB,qC,qD,qE,qF]
 refine au rfl rfl hd ?_
 simp only[h2,bK,j0,t0,l0,List.length_map,getD_map,aV,ha,w1,ja,hal,Int.toNat_natCast,aek,hga,RN,qA,qB,qC,qD,qE,qF]
 refine au rfl rfl hdt ?_
 simp only[aep,List.not_mem_nil,bn,dG,if_true,RN,qA,qB,qC,qD,qE,qF]
 refine⟨_,rfl,0,0,rfl,?_⟩
 have hz2:(((a+1:Nat):Int) - 1)=(a:Int):=by omega
 rw[hz2]
 rfl
end
end Go.Tel
namespace Go.Tel
open Go.Am
def zk (p:Int→Bool):Nat→Int→Option Int
 |0,_=>none
 |k+1,n=>if p n then some n else zk p k (n+1)
def Dk.JD (D:Dk)(d:Int):Bool:=(D.su.days.getD (d - 1).toNat default).2
section
variable (f1 f2 e1 e2:Bool){D:Dk}{t:Sp}(ns:List Int)
theorem akY (d:Int)(hd:1≤d∧d≤D.su.days.length):Pure C F.iW [.int .i64 d, .aX (pK f1 f2 e1 e2 D t)] (.d (.bool (D.JD d))) []:=by
 have hdl:=GR D.su
 have w1:IntKind.i64.wrap (d - 1)=d - 1:=aG (by omega)
 have j0:0≤d - 1:=by omega
 have jl:(d - 1).toNat<D.su.days.length:=by omega
 refine ah mixed rfl CZ ?_
 simp only[o9,pq,pK,bK,w1,j0,jl,List.length_map,getD_map,aek,RN,qA,qB,qC,qD,qE,qF]
 rfl
theorem aey (a b:Int)(fn:FuncId)(caps:List DV)(p:Int→Bool)(ha:1≤a∧a≤b∧b≤1000000)(hc:callable C.P fn=true)(hp:∀x,1≤x→x≤b→Pure C fn ([.int .i64 x]++caps.map DV.strip) (.d (.bool (p x))) []):
  Pure C F.pY [.int .i64 a, .int .i64 b, .func (.func fn) [] caps] (.d (.tup [.int .i64 ((zk p (b+1 - a).toNat a).getD 0), .bool (zk p (b+1 - a).toNat a).isSome])) []:=by
 refine ah mixed rfl G6 ?_
 simp only[vV,wu,RN,qA,qB,qC,qD,qE,qF]
 refine qR (fun(n:Int)=>⟨[(1, .d (.int .i64 b)),(2, .d (.func (.func fn) [] caps)),(8, .d (.int .i64 n))],⟨[],[],[]⟩⟩)
  (fun n=>1≤n∧n≤b+1∧zk p (b+1 - a).toNat a=zk p (b+1 - n).toNat n) (fun n=>(b+1 - n).toNat) a rfl ⟨by omega,by omega,rfl⟩ (fun n hn=> ?_)
 obtain⟨q1,q2,q3⟩:=hn
 by_cases hle:n≤b
 ·obtain⟨k,hk⟩:∃k,(b+1 - n).toNat=k+1:=⟨(b - n).toNat,by omega⟩
  rw[hk,zk]at q3
  have w1:IntKind.i64.wrap (n+1)=n+1:=aG (by omega)
  simp only[hle,RN,qA,qB,qC,qD,qE,qF]
  refine Qi rfl hc rfl (hp n q1 hle) ?_
  cases hpn:p n
  ·rw[hpn]at q3
   simp only[Bool.false_eq_true,if_false]at q3
   simp only[w1,RN,qA,qB,qC,qD,qE,qF]
   exact FV (a:=n) (μ:=fun n=>(b+1 - n).toNat) (n+1) (by show(b+1 - (n+1)).toNat<(b+1 - n).toNat;omega) rfl ⟨by omega,by omega,by rw[q3,show(b+1 - (n+1)).toNat=k by omega]⟩
  ·rw[hpn]at q3
   simp only[if_true]at q3
   simp only[q3,Option.getD_some,Option.isSome_some,RN,qA,qB,qC,qD,qE,qF]
 ·rw[show(b+1 - n).toNat=0 by omega,zk]at q3
  simp only[hle,q3,Option.getD_none,Option.isSome_none,RN,qA,qB,qC,qD,qE,qF]
theorem am2 (hok:D.Ok)(hn:ns.length=1):Ans F.fC [BA f1 f2 e1 e2 D t, .slice false (ns.map ay)]
  (if inR (ns.getD 0 default) 1 D.su.days.length then(match zk D.JD ((D.su.days.length:Int)+1 - ns.getD 0 default).toNat (ns.getD 0 default)with|some d=>[d]|none=>[])else[])
  (if inR (ns.getD 0 default) 1 D.su.days.length then(match zk D.JD ((D.su.days.length:Int)+1 - ns.getD 0 default).toNat (ns.getD 0 default)with|some _=>0|none=>5)else 2):=by
 have hd:=VJ e1 e2 D (ns.getD 0 default)
 rw[yA]at hd
 have j0:(0:Int)≤0:=by omega
 have t0:(0:Int).toNat=0:=rfl
 have l0:0<ns.length:=by omega
 cases h2:inR (ns.getD 0 default) 1 (D.su.days.length:Int)
 ·refine EZ (by simp) (ah mixed rfl kX ?_)
  simp only[iJ,iK,iG,j0,t0,l0,List.length_map,getD_map,aV,RN,qA,qB,qC,qD,qE,qF]
  refine au rfl rfl hd ?_
  simp only[h2,RN,qA,qB,qC,qD,qE,qF]
  simp
 have hdy:1≤ns.getD 0 default∧ns.getD 0 default≤(D.su.days.length:Int):=by simpa[inR]using h2
 have hdl:=GR D.su
 have hf:=aey (ns.getD 0 default) (D.su.days.length:Int) F.iW [.aX (pK f1 f2 e1 e2 D t)] D.JD (by omega) (by kernel_rfl) (fun x h1 h2=>akY f1 f2 e1 e2 x ⟨h1,h2⟩)
 simp only[if_true]
 cases hw:zk D.JD ((D.su.days.length:Int)+1 - ns.getD 0 default).toNat (ns.getD 0 default)with
 |none=>
  rw[hw]at hf
  refine EZ rfl (ah mixed rfl kX ?_)
  simp only[iJ,iK,iG,j0,t0,l0,List.length_map,getD_map,aV,RN,qA,qB,qC,qD,qE,qF]
  refine au rfl rfl hd ?_
  simp only[h2,bK,j0,t0,l0,List.length_map,getD_map,aV,RN,qA,qB,qC,qD,qE,qF]
  rw[pK,bK]at hf
  refine au rfl rfl hf ?_
  simp only[Option.isSome_none,RN,qA,qB,qC,qD,qE,qF]
 |some x=>
  rw[hw]at hf
  refine gy (aF mixed rfl kX ?_)
  simp only[iJ,iK,iG,j0,t0,l0,List.length_map,getD_map,aV,RN,qA,qB,qC,qD,qE,qF]
  refine au rfl rfl hd ?_
  simp only[h2,bK,j0,t0,l0,List.length_map,getD_map,aV,RN,qA,qB,qC,qD,qE,qF]
  rw[pK,bK]at hf
  refine au rfl rfl hf ?_
  simp only[Option.isSome_some,Option.getD_some,DI,List.not_mem_nil,bn,dG,RN,qA,qB,qC,qD,qE,qF]
  exact⟨_,rfl,0,0,rfl,rfl⟩
def abe (s:Su)(t:Sp)(turns:Int):List Fr→Nat→Bool
 | [],_=>false
 |f::l,h=> !Zb s t h f turns||abe s t turns l (h+1)
def ZQ (s:Su)(t:Sp)(i:Nat):Bool:=abe s t (t.turns ((i:Int)+1)) t.tg 0
def zG (s:Su)(t:Sp)(n:Nat):Int:=(((List.range n).filter (ZQ s t)).length:Nat)
theorem adJ (s:Su)(t:Sp)(n:Nat):zG s t (n+1)=if ZQ s t n then zG s t n+1 else zG s t n:=by
 simp only[zG,List.range_succ,List.filter_append,List.length_append,List.filter_cons,List.filter_nil]
 split<;>simp
theorem aip (s:Su)(t:Sp)(n:Nat):0≤zG s t n∧zG s t n≤n:=by
 have:=List.length_filter_le (ZQ s t) (List.range n)
 simp only[List.length_range]at this
 simp only[zG];omega
theorem am5 (hok:D.Ok)(ht:KG D.su 24 t):Ans F.fD [BA f1 f2 e1 e2 D t, .slice false (ns.map ay)] [zG D.su t D.su.days.length] 0:=by
 have hdl:=GR D.su
 have hll:=Pc.Gt ht.pc
 have hlim:0≤D.su.lim∧D.su.lim≤10800:=by simpa[inR]using(Su.facts hok.su).2.2.1
 have htl:t.tg.length≤4:=by rw[ht.tl,←ht.hh];omega
 refine gy (aF mixed rfl ET ?_)
 simp only[rG,rX,iG,bK,List.length_map,List.not_mem_nil,RN,qA,qB,qC,qD,qE,qF]
 refine aT D.su.days.length (fun i (_:Unit)=>⟨[(2, .d (.aX (pK f1 f2 e1 e2 D t))),(6, .d (.int .i64 (zG D.su t i))),(15, .d (.int .i64 D.su.days.length)),(16, .d (.int .i64 i))],⟨[some ((pK f1 f2 e1 e2 D t).map .d)],[0],[]⟩⟩)
  (fun _ _=>True) 0 () (Nat.zero_le _) (by rw[pK,bK];rfl) trivial (fun i _ g1 _=> ?_) (fun _ _=> ?_)
 ·obtain⟨g2,g3,g6⟩:=rng g1 (by omega)
  have hwl:=aip D.su t i
  have w2:IntKind.i64.wrap (zG D.su t i+1)=zG D.su t i+1:=aG (by omega)
  have w3:IntKind.i64.wrap ((i:Int)+1)=(i:Int)+1:=aG (by omega)
  have htu:=abd f1 f2 e1 e2 (D:=D) ht ((i:Int)+1) (by omega)
  rw[iG]at htu
  have hsucc:=adJ D.su t i
  simp only[g2,pK,bK,List.length_map,RN,qA,qB,qC,qD,qE,qF]
  refine aT t.tg.length (fun h (_:Unit)=>⟨[(2, .d (.aX (pK f1 f2 e1 e2 D t))),(6, .d (.int .i64 (zG D.su t i))),(7, .d (.int .i64 i)),(15, .d (.int .i64 D.su.days.length)),(16, .d (.int .i64 i)),(24, .d (.slice false (t.tg.map Fr.dv))),(25, .d (.int .i64 t.tg.length)),(26, .d (.int .i64 h))],⟨[some ((pK f1 f2 e1 e2 D t).map .d)],[0],[]⟩⟩)
   (fun h _=>ZQ D.su t i=abe D.su t (t.turns ((i:Int)+1)) (t.tg.drop h) h) 0 () (Nat.zero_le _) (by rw[pK,bK];rfl) rfl (fun h _ k1 hix=> ?_) (fun _ hix=> ?_)
  ·obtain⟨k2,k3,k6⟩:=rng k1 (by omega)
   rw[drop_cons k1,abe]at hix
   have hk:=ajI f1 f2 D.su t h (t.tg.getD h default) (t.turns ((i:Int)+1)) (by omega) (by omega) hlim
   rw[dH]at hk
   rw[bK]at htu hk
   simp only[pK,bK,k2,k3,k1,getD_map,dH,Int.toNat_natCast,List.length_map,w3,RN,qA,qB,qC,qD,qE,qF]
   refine au rfl rfl htu ?_
   (try simp only[RN,qA,qB,qC,qD,qE,qF])
   refine au rfl rfl hk ?_
   cases hkb:Zb D.su t h (t.tg.getD h default) (t.turns ((i:Int)+1))
   ·rw[hkb]at hix
    simp only[Bool.not_false,Bool.true_or]at hix
    rw[if_pos hix]at hsucc
    simp only[w2,g6,RN,qA,qB,qC,qD,qE,qF]
    refine jR 1 0 () g1 ?_ trivial (by simp) (by simp) rfl rfl
    rw[hsucc];rfl
   ·rw[hkb]at hix
    simp only[Bool.not_true,Bool.false_or]at hix
    simp only[k6,RN,qA,qB,qC,qD,qE,qF]
    exact jR 1 0 () k1 rfl hix (by simp) (by simp) rfl rfl
  ·rw[List.drop_length,abe]at hix
   rw[if_neg (by rw[hix];simp)]at hsucc
   simp only[Int.lt_irrefl,g6,RN,qA,qB,qC,qD,qE,qF]
   refine lI () g1 ?_ trivial
   rw[hsucc,pK,bK];rfl
 ·simp only[Int.lt_irrefl,DI,List.not_mem_nil,bn,dG,RN,qA,qB,qC,qD,qE,qF]
  exact⟨_,rfl,0,0,rfl,rfl⟩
end
end Go.Tel
namespace Go.Am
section
variable {C:Ctx}{base:Nat}{KP:DV→Mem→Prop}{K:PV→Mem→Prop}{M:Mem}
theorem ae1 {ok:Bool}{ks:List Nat}{z k:DV}{l:List (DV×DV)}(r:Option DV)(h1:iF ks k k=some true)(h2:sN ks l k=some r)(hK:K (.d (KW ok z r)) M):aj C base (.NM ok ks z) [.d (.map (some l)), .d k] M K KP:=by
 simp only[aj,h1,h2];exact hK
theorem abJ {z1 z2 z3:DV}{k1 k2 k3:IntKind}{a b c:Int}:aj C base (.iH 1 [z1,z2,z3] [0,1,2]) [.d (.int k1 a), .d (.int k2 b), .d (.int k3 c)] M K KP=K (.d (.slice true [.int k1 a, .int k2 b, .int k3 c])) M:=by
 have:=KU (M:=M) (ds:=[DV.int k1 a, .int k2 b, .int k3 c])
 simp only[List.map_cons,List.map_nil]at this
 simp[aj,dD,datum,zU,this,DV.strip,DV.cells]
end
end Go.Am
namespace Go.Tel
open Go.Am
theorem akL {α:Type}{l:List α}{x y:α}:Bq (l++ [x,y])=1:=by cases l<;>rfl
theorem Yh {α:Type}{l:List α}{x y z:α}:Bq (l++ [x,y,z])=1:=by cases l<;>rfl
def Jk (p:Pc)(h:Int):List Int:=[((oV p).getD h.toNat default).n,((oV p).getD h.toNat default).d]
def ajp (p:Pc):List Int:=p.hands.flatMap (Jk p)
def Nv (op:List (Int×Fr))(i:Nat):List Int:=match o8 op i with|some f=>[(i:Int),f.n,f.d]|none=>[]
def sZ (op:List (Int×Fr))(n:Nat):List Int:=(List.range n).flatMap (Nv op)
theorem Oj (op:List (Int×Fr))(n:Nat):sZ op (n+1)=sZ op n++Nv op n:=by simp[sZ,List.range_succ]
theorem QO (op:List (Int×Fr)):∀n,(sZ op n).length≤3*n
 |0=>by simp[sZ]
 |n+1=>by
  have:=QO op n
  have h:(Nv op n).length≤3:=by unfold Nv;split<;>simp
  rw[Oj,List.length_append];omega
def anE (c:Chg):List Int:=[c.link,c.pr.a,c.pr.b]
def N9 (l:List Chg):List Int:=l.flatMap anE
theorem ag0 (l:List Chg):(N9 l).length=3*l.length:=by
 induction l with
 |nil=>rfl
 |cons x l ih=>simp only[N9,List.flatMap_cons,List.length_append,List.length_cons]at ih⊢;rw[ih];simp[anE];omega
theorem abP (p:Pc)(l:List Int):(l.flatMap (Jk p)).length=2*l.length:=by
 induction l with
 |nil=>rfl
 |cons x l ih=>simp only[List.flatMap_cons,List.length_append,List.length_cons,ih];simp[Jk];omega
section
variable (f1 f2 e1 e2:Bool){D:Dk}{t:Sp}(ns:List Int)
theorem alM (ht:KG D.su 24 t):Ans F.fB [BA f1 f2 e1 e2 D t, .slice false (ns.map ay)] (ajp t.pc) 0:=by
 have hll:=Pc.Gt ht.pc
 have hg:=Pc.good ht.pc
 have hr:=ak3 t.pc ht.pc
 rw[lY]at hr
 refine gy (aF mixed rfl ER ?_)
 simp only[rE,rV,iG,bK,List.length_map,List.not_mem_nil,RN,qA,qB,qC,qD,qE,qF]
 refine au rfl rfl hr ?_
 simp only[List.length_map,RN,qA,qB,qC,qD,qE,qF]
 refine aT t.pc.hands.length (fun i (v:Nat)=>⟨[(6, .d (.slice false ((oV t.pc).map Fr.dv))),(8, .d (.int .i64 0)),(9, .tsl 1 v 0),(29, .d (.slice false (t.pc.hands.map ay))),(30, .d (.int .i64 t.pc.hands.length)),(31, .d (.int .i64 i))],
   ⟨[some ((pK f1 f2 e1 e2 D t).map .d)],[0],[some ⟨1,[],0,0⟩,some ⟨1,((t.pc.hands.take i).flatMap (Jk t.pc)).map ay,v,Bq ((t.pc.hands.take i).flatMap (Jk t.pc))⟩]⟩⟩)
  (fun _ _=>True) 0 0 (Nat.zero_le _) (by rw[pK,bK];rfl) trivial (fun i v g1 _=> ?_) (fun v _=> ?_)
 ·obtain⟨g2,g3,g6⟩:=rng g1 (by omega)
  have hh:=hg.hd _ (getD_mem g1)
  have n0:0≤t.pc.hands.getD i default:=by omega
  have n1:(t.pc.hands.getD i default).toNat<(oV t.pc).length:=by simp only[oV,List.length_cons,List.length_map,List.length_range];omega
  have hst:(t.pc.hands.take (i+1)).flatMap (Jk t.pc)=(t.pc.hands.take i).flatMap (Jk t.pc)++ [((oV t.pc).getD (t.pc.hands.getD i default).toNat default).n,((oV t.pc).getD (t.pc.hands.getD i default).toNat default).d]:=by
   rw[dQ g1];simp[Jk]
  have hln:=abP t.pc (t.pc.hands.take i)
  have hne:¬Bq ((t.pc.hands.take i).flatMap (Jk t.pc))=2:=NG
  simp only[g2,g3,g1,n0,n1,getD_map,aV,dH,Int.toNat_natCast,List.length_map,Wu,hne,RN,qA,qB,qC,qD,qE,qF]
  refine⟨by rintro y (rfl|rfl)<;>rfl,by simp,by rw[hln];simp only[List.length_take];omega,?_⟩
  simp only[g6,RN,qA,qB,qC,qD,qE,qF]
  refine lI (v+1) g1 ?_ trivial
  rw[hst,akL];simp[ay]
 ·simp only[Int.lt_irrefl,bn,dG,RN,qA,qB,qC,qD,qE,qF]
  rw[List.take_length]
  exact⟨_,rfl,1,v,rfl,rfl⟩
theorem ake (ht:KG D.su 24 t):Ans F.dW [BA f1 f2 e1 e2 D t, .slice false (ns.map ay)] (sZ t.op t.pc.hands.length) 0:=by
 have hll:=Pc.Gt ht.pc
 refine gy (aF mixed rfl DX ?_)
 simp only[qj,qw,iG,bK,List.length_map,List.not_mem_nil,RN,qA,qB,qC,qD,qE,qF]
 refine aT t.pc.hands.length (fun i (v:Nat)=>⟨[(2, .d (.aX (pK f1 f2 e1 e2 D t))),(6, .tsl 1 v 0),(17, .d (.int .i64 t.pc.hands.length)),(18, .d (.int .i64 i))],
   ⟨[some ((pK f1 f2 e1 e2 D t).map .d)],[0],[some ⟨1,[],0,0⟩,some ⟨1,(sZ t.op i).map ay,v,Bq (sZ t.op i)⟩]⟩⟩)
  (fun _ _=>True) 0 0 (Nat.zero_le _) (by rw[pK,bK];rfl) trivial (fun i v g1 _=> ?_) (fun v _=> ?_)
 ·obtain⟨g2,g3,g6⟩:=rng g1 (by omega)
  have hln:=QO t.op i
  have hne:¬Bq (sZ t.op i)=2:=NG
  have hsu:=Oj t.op i
  simp only[g2,pK,bK,RN,qA,qB,qC,qD,qE,qF]
  refine ae1 ((o8 t.op i).map Fr.dv) (zY i) (Nu _ _) ?_
  cases hg:o8 t.op i with
  |none=>
   rw[Nv,hg,List.append_nil]at hsu
   simp only[KW,Option.map_none,Option.getD_none,Option.isSome_none,List.mem_cons,List.not_mem_nil,or_false,g6,RN,qA,qB,qC,qD,qE,qF]
   refine jR 1 2 v g1 ?_ trivial (by simp) (by simp) rfl rfl
   rw[hsu];rfl
  |some f=>
   rw[Nv,hg]at hsu
   simp only[KW,Option.map_some,Option.getD_some,Option.isSome_some,dH,List.mem_cons,List.not_mem_nil,or_false,abJ,hne,List.length_map,RN,qA,qB,qC,qD,qE,qF]
   refine⟨by rintro y (rfl|rfl|rfl)<;>rfl,by simp,by omega,?_⟩
   simp only[g6,RN,qA,qB,qC,qD,qE,qF]
   refine jR 1 2 (v+1) g1 ?_ trivial (by simp) (by simp) rfl rfl
   rw[hsu,Yh];simp[ay]
 ·simp only[Int.lt_irrefl,bn,dG,RN,qA,qB,qC,qD,qE,qF]
  exact⟨_,rfl,1,v,rfl,rfl⟩
def yE (D:Dk)(t:Sp)(hand least most:Int):List Int×Int:=
 if inR hand 0 (D.su.pc.hands.length - 1)&&bg least&&bg most&&inR (most - least) 0 10 then
  (match o8 t.op hand with
  |none=>([],7)
  |some f=>(N9 (t.pc.changes least most hand f).1,(t.pc.changes least most hand f).2))
 else([],2)
theorem abu (p:Pc)(a b h:Int)(f:Fr):(p.changes a b h f).1.length≤2:=by
 unfold Pc.changes
 split
 ·split
  ·rename_i hs;have:=AP hs;simp only;omega
  ·split
   ·rename_i hs;have:=AP hs;simp only;omega
   ·split
    ·rename_i hs;have:=AP hs;simp only;omega
    ·simp
 ·simp
theorem aoP (hok:D.Ok)(ht:KG D.su 24 t)(hn:ns.length=3):Ans F.fM [BA f1 f2 e1 e2 D t, .slice false (ns.map ay)]
  (yE D t (ns.getD 0 default) (ns.getD 1 default) (ns.getD 2 default)).1 (yE D t (ns.getD 0 default) (ns.getD 1 default) (ns.getD 2 default)).2:=by
 have hll:=Pc.Gt ht.pc
 have hi:=KY e1 e2 D (by have:=hok.small;omega) (ns.getD 0 default)
 rw[yA]at hi
 have j0:(0:Int)≤0:=by omega
 have t0:(0:Int).toNat=0:=rfl
 have l0:0<ns.length:=by omega
 have j1:(0:Int)≤1:=by omega
 have t1:(1:Int).toNat=1:=rfl
 have l1:1<ns.length:=by omega
 have j2:(0:Int)≤2:=by omega
 have t2:(2:Int).toNat=2:=rfl
 have l2:2<ns.length:=by omega
 generalize hA:ns.getD 0 default=A at*
 generalize hB:ns.getD 1 default=B at*
 generalize hC:ns.getD 2 default=Cc at*
 cases h1:inR A 0 ((D.su.pc.hands.length:Int) - 1)
 ·have hne:yE D t A B Cc=([],2):=by simp[yE,h1]
  rw[hne]
  refine gy (aF mixed rfl dS ?_)
  simp only[dw,dA,iG,j0,t0,l0,j1,t1,l1,j2,t2,l2,List.length_map,getD_map,aV,hA,hB,hC,RN,qA,qB,qC,qD,qE,qF]
  refine au rfl rfl hi ?_
  simp only[h1,bn,dG,RN,qA,qB,qC,qD,qE,qF]
  exact⟨_,rfl,1,0,rfl,rfl⟩
 cases h2:bg B
 ·have hne:yE D t A B Cc=([],2):=by simp[yE,h2]
  rw[hne]
  refine gy (aF mixed rfl dS ?_)
  simp only[dw,dA,iG,j0,t0,l0,j1,t1,l1,j2,t2,l2,List.length_map,getD_map,aV,hA,hB,hC,RN,qA,qB,qC,qD,qE,qF]
  refine au rfl rfl hi ?_
  simp only[h1,RN,qA,qB,qC,qD,qE,qF]
  refine au rfl rfl (nZ _) ?_
  simp only[h2,bn,dG,RN,qA,qB,qC,qD,qE,qF]
  exact⟨_,rfl,1,0,rfl,rfl⟩
 cases h3:bg Cc
 ·have hne:yE D t A B Cc=([],2):=by simp[yE,h3]
  rw[hne]
  refine gy (aF mixed rfl dS ?_)
  simp only[dw,dA,iG,j0,t0,l0,j1,t1,l1,j2,t2,l2,List.length_map,getD_map,aV,hA,hB,hC,RN,qA,qB,qC,qD,qE,qF]
  refine au rfl rfl hi ?_
  simp only[h1,RN,qA,qB,qC,qD,qE,qF]
  refine au rfl rfl (nZ _) ?_
  simp only[h2,RN,qA,qB,qC,qD,qE,qF]
  refine au rfl rfl (nZ _) ?_
  simp only[h3,bn,dG,RN,qA,qB,qC,qD,qE,qF]
  exact⟨_,rfl,1,0,rfl,rfl⟩
 have b1: -1000000≤B∧B≤1000000:=by simp only[bg,inR,Bool.and_eq_true,decide_eq_true_eq]at h2;omega
 have b2: -1000000≤Cc∧Cc≤1000000:=by simp only[bg,inR,Bool.and_eq_true,decide_eq_true_eq]at h3;omega
 have w1:IntKind.i64.wrap (Cc - B)=Cc - B:=aG (by omega)
 cases h4:inR (Cc - B) 0 10
 ·have hne:yE D t A B Cc=([],2):=by simp[yE,h4]
  rw[hne]
  refine gy (aF mixed rfl dS ?_)
  simp only[dw,dA,iG,j0,t0,l0,j1,t1,l1,j2,t2,l2,List.length_map,getD_map,aV,hA,hB,hC,RN,qA,qB,qC,qD,qE,qF]
  refine au rfl rfl hi ?_
  simp only[h1,RN,qA,qB,qC,qD,qE,qF]
  refine au rfl rfl (nZ _) ?_
  simp only[h2,RN,qA,qB,qC,qD,qE,qF]
  refine au rfl rfl (nZ _) ?_
  simp only[h3,w1,RN,qA,qB,qC,qD,qE,qF]
  refine au rfl rfl (Fq _ _ _) ?_
  simp only[h4,bn,dG,RN,qA,qB,qC,qD,qE,qF]
  exact⟨_,rfl,1,0,rfl,rfl⟩
 cases hg:o8 t.op A with
 |none=>
  have hne:yE D t A B Cc=([],7):=by simp[yE,h1,h2,h3,h4,hg]
  rw[hne]
  refine gy (aF mixed rfl dS ?_)
  simp only[dw,dA,iG,j0,t0,l0,j1,t1,l1,j2,t2,l2,List.length_map,getD_map,aV,hA,hB,hC,RN,qA,qB,qC,qD,qE,qF]
  refine au rfl rfl hi ?_
  simp only[h1,RN,qA,qB,qC,qD,qE,qF]
  refine au rfl rfl (nZ _) ?_
  simp only[h2,RN,qA,qB,qC,qD,qE,qF]
  refine au rfl rfl (nZ _) ?_
  simp only[h3,w1,RN,qA,qB,qC,qD,qE,qF]
  refine au rfl rfl (Fq _ _ _) ?_
  simp only[h4,bK,RN,qA,qB,qC,qD,qE,qF]
  refine ae1 ((o8 t.op A).map Fr.dv) (zY A) (Nu _ _) ?_
  simp only[hg,KW,Option.map_none,Option.getD_none,Option.isSome_none,List.mem_cons,List.not_mem_nil,or_false,bn,dG,RN,qA,qB,qC,qD,qE,qF]
  exact⟨_,rfl,1,0,rfl,rfl⟩
 |some f=>
  have hch:=ags t.pc B Cc A f (by omega) (by omega) b2 b1
  have hcl:=abu t.pc B Cc A f
  rw[lY,dH]at hch
  have hne:yE D t A B Cc=(N9 (t.pc.changes B Cc A f).1,(t.pc.changes B Cc A f).2):=by simp[yE,h1,h2,h3,h4,hg]
  rw[hne]
  generalize hr:t.pc.changes B Cc A f=r at*
  obtain⟨l,e⟩:=r
  simp only at hch hcl⊢
  refine gy (aF mixed rfl dS ?_)
  simp only[dw,dA,iG,j0,t0,l0,j1,t1,l1,j2,t2,l2,List.length_map,getD_map,aV,hA,hB,hC,RN,qA,qB,qC,qD,qE,qF]
  refine au rfl rfl hi ?_
  simp only[h1,RN,qA,qB,qC,qD,qE,qF]
  refine au rfl rfl (nZ _) ?_
  simp only[h2,RN,qA,qB,qC,qD,qE,qF]
  refine au rfl rfl (nZ _) ?_
  simp only[h3,w1,RN,qA,qB,qC,qD,qE,qF]
  refine au rfl rfl (Fq _ _ _) ?_
  simp only[h4,bK,RN,qA,qB,qC,qD,qE,qF]
  refine ae1 ((o8 t.op A).map Fr.dv) (zY A) (Nu _ _) ?_
  simp only[hg,KW,Option.map_some,Option.getD_some,Option.isSome_some,dH,List.mem_cons,List.not_mem_nil,or_false,RN,qA,qB,qC,qD,qE,qF]
  refine au rfl rfl hch ?_
  simp only[List.length_map,RN,qA,qB,qC,qD,qE,qF]
  refine aT l.length (fun i (v:Nat)=>⟨[(12, .d (.int .i64 e)),(13, .tsl 1 v 0),(73, .d (.slice (e !=0) (l.map Chg.dv))),(74, .d (.int .i64 l.length)),(75, .d (.int .i64 i))],
    ⟨[some ((pK f1 f2 e1 e2 D t).map .d),some [.d (.int .i64 f.n), .d (.int .i64 f.d)]],[1,0],[some ⟨1,[],0,0⟩,some ⟨1,(N9 (l.take i)).map ay,v,Bq (N9 (l.take i))⟩]⟩⟩)
   (fun _ _=>True) 0 0 (Nat.zero_le _) (by rw[pK,bK];rfl) trivial (fun i v g1 _=> ?_) (fun v _=> ?_)
  ·obtain⟨g2,g3,g6⟩:=rng g1 (by omega)
   have hst:N9 (l.take (i+1))=N9 (l.take i)++ [(l.getD i default).link,(l.getD i default).pr.a,(l.getD i default).pr.b]:=by
    rw[dQ g1];simp[N9,anE]
   have hln:=ag0 (l.take i)
   have hne:¬Bq (N9 (l.take i))=2:=NG
   simp only[g2,g3,g1,getD_map,KL,Int.toNat_natCast,List.length_map,abJ,hne,List.mem_cons,List.not_mem_nil,or_false,RN,qA,qB,qC,qD,qE,qF]
   refine⟨by rintro y (rfl|rfl|rfl)<;>rfl,by simp,by rw[hln];simp only[List.length_take];omega,?_⟩
   simp only[g6,RN,qA,qB,qC,qD,qE,qF]
   refine jR 2 2 (v+1) g1 ?_ trivial (by simp) (by simp) rfl rfl
   rw[hst,Yh];simp[ay]
  ·simp only[Int.lt_irrefl,bn,dG,RN,qA,qB,qC,qD,qE,qF]
   rw[List.take_length]
   exact⟨_,rfl,1,v,rfl,rfl⟩
end
end Go.Tel
namespace Go.Tel
open Go.Am
def QN (n:Int):List DV:=[.int .i64 n]
theorem adF (xs:List Int)(ex:Bool)(hl:xs.length≤1000000):
  YN C F.mD [] [.d (.aX [.slice ex (xs.map ay)])] (xs.map QN) no no no (fun _=>True):=by
 rintro⟨bs,fz,ar⟩ b n R stop K KP hbn hbo hn hfz _ hmv nD h0 hstop hend
 simp only at hn
 refine aF mixed rfl Jh ?_
 simp only[xu,xW,List.length_map,RN,qA,qB,qC,qD,qE,qF]
 refine H8 (fun m s=>∃(i:Nat) (M1:Mem),m=xs.length - i∧i≤xs.length∧s=⟨[(0, .qY b),(5, .d (.slice ex (xs.map ay))),(6, .d (.int .i64 xs.length)),(7, .d (.int .i64 i))],M1⟩∧n≤M1.boxes.length∧R ((xs.take i).map QN) M1)
  xs.length ⟨0,_,rfl,Nat.zero_le _,rfl,hn,h0⟩ ?_
 rintro m s ⟨i,⟨bs1,fz1,ar1⟩,rfl,hi,rfl,hn1,hR⟩
 by_cases hlt:i<xs.length
 case neg=>
  have hie:i=xs.length:=by omega
  subst hie
  simp only[Int.lt_irrefl,RN,qA,qB,qC,qD,qE,qF]
  rw[List.take_length]at hR
  exact hend _ _ hn1 hR
 obtain⟨g2,g3,g6⟩:=rng hlt hl
 simp only[g2,g3,hlt,getD_map,aV,Int.toNat_natCast,List.length_map,RN,qA,qB,qC,qD,qE,qF]
 refine GU ?_
 refine SY.mono (nD ((xs.take i).map QN) (QN (xs.getD i default)) ((xs.drop (i+1)).map QN) _ (by
  conv=>lhs;rw[←List.take_append_drop i xs,drop_cons hlt]
  simp) hn1 hR) ?_
 rintro p M3 ⟨hkp,hp⟩
 have hl3:=hkp.len
 simp only at hl3 hn1
 rcases hp with⟨rfl,hR3⟩|⟨rfl,hs3⟩
 ·simp only[g6,RN,qA,qB,qC,qD,qE,qF]
  refine⟨xs.length - (i+1),_,by omega, .inl rfl,i+1,M3,rfl,by omega,rfl,by omega,?_⟩
  rw[dQ hlt,List.map_append];exact hR3
 ·(try simp only[RN,qA,qB,qC,qD,qE,qF])
  exact hstop _ _ hs3
def Iq (ex:Bool)(xs:List Int):DV:= .func (.func F.mD) [] [.aX [.slice ex (xs.map ay)]]
theorem agA (xs:List Int)(ex:Bool)(hl:xs.length≤1000000){bs:List (Option (List PV))}{fz:List Nat}{ar:List (Option Arr)}(hfz:FzB ⟨bs,fz,ar⟩){KP:DV→Mem→Prop}:
  SC C F.qK [.d (.slice true []), .d (Iq ex xs)] ⟨bs,fz,ar⟩ (fun p M'=>slN 1 true p (xs.map ay) M'.aA∧Frm ⟨bs,fz,ar⟩ M'∧(∀k,kOf p=some k→ar.length≤k)∧(xs=[]→p= .d (.slice true []))) KP:=by
 have hn0:bs.length∉fz:=fun e=>Nat.lt_irrefl _ (hfz _ e)
 refine aF mixed rfl G8 ?_
 simp only[vX,wB,Iq,aN,aP,List.length_append,RN,qA,qB,qC,qD,qE,qF]
 refine vG (adF xs ex hl) (fun _ h=>h) rfl (by kernel_rfl) (fun i hi=>by have:=hfz i hi;simp at this⊢;omega) (fun x hx=>by obtain⟨i,_,rfl⟩:=List.mem_map.1 hx;rfl) (fun _ h=>h.elim) (fun _ _=>trivial)
  (fun pre M1=>∃l r c,xs=l++r∧pre=l.map QN∧M1.boxes[bs.length]?=some (some [c])∧bs.length∉M1.fz∧slN 1 true c (l.map ay) M1.aA∧Frm ⟨bs,fz,ar⟩ M1∧(∀k,kOf c=some k→ar.length≤k)∧(l=[]→c= .d (.slice true []))) ?_ ?_ ?_ ?_
 ·rintro pre M1 M2 hm ⟨l,r,c,q1,q2,q3,q4,q5,q6,q7,q8⟩
  simp only[List.length_append,List.length_cons,List.length_nil]at hm
  exact⟨l,r,c,q1,q2,(hm.box _ (by omega) id).trans q3,fun e=>q4 ((hm.fz _ (by omega) id).1 e),by rw[hm.aA];exact q5,q6.moved hm (by simp),q7,q8⟩
 ·exact⟨[],xs,_,rfl,rfl,by simp only;rw[aN rfl];rfl,hn0, .inl ⟨rfl,rfl⟩,Frm.new (xf:=[]) (by simp),(fun k hk=>by cases hk),fun _=>rfl⟩
 ·rintro L cells pre x post ⟨bs1,fz1,ar1⟩ hx hlt hrec hnf ⟨l,r,c,q1,q2,q3,q4,q5,q6,q7,q8⟩ M0
  simp only[List.length_append,List.length_cons,List.length_nil]at hlt hrec hnf q3 q4⊢
  obtain⟨p,r',rfl⟩:∃p r',r=p::r':=by
   cases r with
   |nil=>
    rw[q1,q2]at hx
    have:=congrArg List.length hx
    simp at this
   |cons p r'=>exact⟨p,r',rfl⟩
  have hxp:x=QN p:=by
   rw[q1,q2,List.map_append,List.map_cons]at hx
   have:=List.append_cancel_left hx
   exact(List.cons.inj this).1.symm
  subst hxp
  have hbl:bs.length<bs1.length:=by omega
  have hlen:l.length≤1000000:=by have:=congrArg List.length q1;simp at this;omega
  simp only[QN,List.zip_cons_cons,List.zip_nil_left,List.map_cons,List.map_nil,q3,hbl,jZ,DV.strip,RN,qA,qB,qC,qD,qE,qF]
  refine VO q5 (by decide) (by intro y hy;simp only[List.mem_singleton]at hy;subst hy;rfl) (by simp) (by simp;omega) fun k ver st ar2 a1 a2 a3 a4 a5 a6=> ?_
  have hst:=a6 rfl
  subst hst
  simp only[q3,hbl,q4,bM,dN,zL,RN,qA,qB,qC,qD,qE,qF]
  have hka:ar.length≤k:=by
   rcases a1 with a1|a1
   ·exact q7 k a1
   ·have:=q6.aY;simp only at this;omega
  refine⟨by rw[List.getElem?_set_ne (by omega)];exact hrec,hnf,Kept.RI (by omega) id a4 (fun _ h=>h.elim),l++ [p],r', .tsl k ver 0,by rw[q1];simp,by rw[q2];simp[QN],by simp[hbl], .inr ⟨k,ver,1,rfl,by rw[a2];simp[ay],by decide,fun _=> .inl rfl⟩,?_,(fun k' hk'=>by cases hk';exact hka),fun e=>by simp at e⟩
  exact
  {len:=by have:=q6.len;simpa using this
   aY:=Nat.le_trans q6.aY a4
   box:=fun i hi=>by
    have:=q6.box i hi
    simp only at hi this⊢
    rw[List.getElem?_set_ne (by omega)];exact this
   fz:=q6.fz
   row:=fun j hj=>by
    have:=q6.row j hj
    have hlA:=q6.aY
    simp only at hj this hlA⊢
    rw[a3 j (by omega) (by omega)];exact this
   fzb:=fun e i hi=>by have:=q6.fzb e i hi;simpa using this}
 ·rintro⟨bs1,fz1,ar1⟩ ⟨l,r,c,q1,q2,q3,q4,q5,q6,q7,q8⟩ hlt
  simp only[List.length_append,List.length_cons,List.length_nil]at hlt q3
  have hr:r=[]:=by
   have:=congrArg List.length q2
   rw[q1]at this
   simp at this
   exact this
  subst hr
  rw[List.append_nil]at q1
  subst q1
  have hbl:bs.length<bs1.length:=by omega
  simp only[q3,hbl,RN,qA,qB,qC,qD,qE,qF]
  exact⟨q5,q6,q7,q8⟩
end Go.Tel
namespace Go.Proofs
open Go.Shelf
end Go.Proofs
namespace Go.Tel
open Go.Am
theorem ak4 {k ver:Nat}{zs:List Int}{bs:List (Option (List PV))}{fz:List Nat}{ar:List (Option Arr)}{K:PV→Mem→Prop}{KP:DV→Mem→Prop}
  (h:ar[k]?=some (some ⟨1,zs.map (DV.int .i64),ver,1⟩))(hz:zs≠[])(hl:zs.length<4611686018427387904)
  (hK:K (.d (.tup [])) ⟨bs,fz,ar.set k (some ⟨1,(zs.mergeSort fun x y=>decide (x≤y)).map (DV.int .i64),ver,1⟩)⟩):SC Go.Tel.C F.slices_Sort_int [.tsl k ver 0] ⟨bs,fz,ar⟩ K KP:=
 amR (C:=Go.Tel.C) Go.Proofs.Tryz.laysSort h hz hl hK
end Go.Tel
