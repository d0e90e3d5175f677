/-
  Part 23 of the proof of a law of desks: an abstract machine over the model, contracts of functions, plain laws.
  Conditions: none.
-/
import Derived.Test.YtbefoehadfnkbaaGreatDoorJourneymanNilM13
import Derived.Test.YtbefoehadfnkbaaGreatDoorJourneymanNilM22
import Derived.Shelf.Slices.In.SortNone
import Derived.Ground.NamesProg
set_option linter.all false
set_option maxRecDepth 10000
set_option maxHeartbeats 4000000
open Nat renaming reduceBEq→qA,reduceAdd→qB,reduceSub→qC,reduceEqDiff→qD,reduceLT→qE,reduceLeDiff→qF
namespace Go.Tel
open Go.Am
def De.aa8:De→Option Nat
 | .strike n=>some n.toNat
 | _=>none
def Dk.with (D:Dk)(x:En):Dk:=match x.deed.aa8 with
 |some n=>{D with es:=D.es++ [x],st:=D.st.set n true++ [false]}
 |none=>{D with es:=D.es++ [x],st:=D.st++ [false]}
def Dk.enter (D:Dk)(x:En):Dk×Int:=
 if x.formed=false then(D,2)else if D.es.length=24 then(D,3)else if D.lY x.deed=false then(D,2)else if D.goes x.deed then(D.with x,0)else(D,7)
theorem Frm.aju {M:Mem}{bs':List (Option (List PV))}{fz':List Nat}{ar':List (Option Arr)}{x y:Option (List PV)}{i:Nat}(h:Frm M ⟨bs',fz',ar'⟩)(hi:M.boxes.length≤i):Frm M ⟨(bs'++ [x]).set i y,fz',ar'⟩:=
 {len:=by have:=h.len;simp only[List.length_set,List.length_append]at this⊢;omega
  aY:=h.aY
  box:=fun j hj=>by
   have h1:=h.len
   have h2:=h.box j hj
   simp only at h1 h2⊢
   rw[List.getElem?_set_ne (by omega),List.getElem?_append_left (by omega)];exact h2
  fz:=h.fz
  row:=h.row
  fzb:=fun e j hj=>by have:=h.fzb e j hj;simp only[List.length_set,List.length_append]at this⊢;omega}
theorem agb {D:Dk}(h:D.Ok)(x:En)(hf:x.formed=true)(hb:D.lY x.deed=true)(hl:D.es.length≠24):(D.with x).Ok:=by
 have hfi:=aeN hf hb
 have h1:=h.few
 unfold Dk.with
 cases x.deed.aa8<;>simp only
 ·exact⟨h.su,by simp[h.len],by simp;omega,fun y hy=>by
   rcases List.mem_append.1 hy with hy|hy
   ·exact h.formed y hy
   ·simp only[List.mem_singleton]at hy;rw[hy];exact hf,fun y hy=>by
   rcases List.mem_append.1 hy with hy|hy
   ·exact h.fine y hy
   ·simp only[List.mem_singleton]at hy;rw[hy];exact hfi⟩
 ·exact⟨h.su,by simp[h.len],by simp;omega,fun y hy=>by
   rcases List.mem_append.1 hy with hy|hy
   ·exact h.formed y hy
   ·simp only[List.mem_singleton]at hy;rw[hy];exact hf,fun y hy=>by
   rcases List.mem_append.1 hy with hy|hy
   ·exact h.fine y hy
   ·simp only[List.mem_singleton]at hy;rw[hy];exact hfi⟩
theorem ah1 {D:Dk}(h:D.Ok)(x:En):(D.enter x).1.Ok:=by
 unfold Dk.enter
 split
 ·exact h
 split
 ·exact h
 split
 ·exact h
 split
 ·rename_i h1 h2 h3 _
  exact agb h x (by simpa using h1) (by simpa using h3) h2
 ·exact h
theorem Bd.row {D:Dk}{d k ver:Nat}{ce:PV}{bs:List (Option (List PV))}{fz:List Nat}{ar:List (Option Arr)}(h:Bd D d ce (.tsl k ver 0) ⟨bs,fz,ar⟩)(hk:k<ar.length)(l:List Bool):
  Bd {D with st:=l} d ce (.tsl k ver 0) ⟨bs,fz,ar.set k (some ⟨1,l.map .bool,ver,1⟩)⟩∧FrD d ce (.tsl k ver 0) ce (.tsl k ver 0) ⟨bs,fz,ar⟩ ⟨bs,fz,ar.set k (some ⟨1,l.map .bool,ver,1⟩)⟩:=by
 constructor
 ·exact
  {box:=h.box
   ent:=EG h.ent fun j A hj hA=>by
    simp only
    rw[List.getElem?_set_ne (fun e=>by subst e;exact h.dif _ hj rfl)];exact hA
   str:= .inr ⟨k,ver,1,rfl,by simp[hk],by decide,fun _=> .inl rfl⟩
   dif:=h.dif
   nb:=h.nb
   fzb:=h.fzb}
 ·exact
  {len:=Nat.le_refl _
   aY:=by simp
   box:=fun _ _ _=>rfl
   fz:=fun _ _=>Iff.rfl
   row:=fun j hj _ h3=>by simp only;rw[List.getElem?_set_ne (fun e=>h3 (by rw[e];rfl))]
   oe:=fun _=> .inl
   os:=fun _=> .inl}
theorem VT {x:En}(h:x.formed=true):x.ns.length≤3:=by
 simp only[En.formed,Bool.and_eq_true,decide_eq_true_eq]at h
 have:=aeZ x.kind
 omega
def abM:aB:=
(.seq
 (.region false [
  oa 2 (.box 0) 0,
  oa 3 (.box 1) 1,
  mk 4 (kI 0)] 2 [2,3] [3])
 (.seq
 (.seq
  (rg [
   lo 9 2,
   oa 10 (.iT F.cO) 9,
   oa 11 (.un .not) 10] 0 [2,3,11])
  (.cond (.t 11)
  (.seq
   (rg [
    mk 4 (kI 1)] 0 [4])
   .ret)
  .skip))
 (.seq
  (.seq
  (rg [
   oa 12 (.load true 2) 3,
   oa 13 (.ak F.mD) 12,
   oa 14 (.un .not) 13] 0 [2,3,14])
  (.cond (.t 14)
   (.seq
   (rg [
    mk 4 (kI 2)] 0 [4])
   .ret)
   .skip))
  (.seq
  (.seq
   (rg [
    lo 15 2,
    oa 16 .aV 15,
    oa 17 (.fld 2) 16,
    lo 18 17,
    oa 19 .len 18,
    oc 20 (.bin .eql) 19 (kI 24)] 0 [2,3,20])
   (.cond (.t 20)
   (.seq
    (rg [
     mk 4 (kI 3)] 0 [4])
    .ret)
   .skip))
  (.seq
   (.region false [
    oa 21 (.load true 2) 3,
    oa 22 (.ak F.lu) 21,
    on 5 (.alloc 0 [.nilIface]) [],
    os (.store 1) [.t 5, .t 22] 0] 1 [2,3,5] [5])
   (.seq
   (.seq
    (rg [
     lo 23 5,
     lo 24 2,
     ob 25 (.inv "tellurion/journeyman.fine") 23 24,
     oa 26 (.un .not) 25] 0 [2,3,5,26])
    (.cond (.t 26)
    (.seq
     (rg [
      mk 4 (kI 2)] 0 [4])
     .ret)
    .skip))
   (.seq
    (rg [
     ob 27 (.mkF (.func F.ji) 0) 5 2,
     oa 28 (.call F.jY) 27,
     mv 6 28] 0 [2,3,5,6])
    (.seq
    (.seq
     (rg [
      mv 29 6,
      oc 30 (.bin .neq) 29 (kI 0)] 0 [2,3,5,6,30])
     (.cond (.t 30)
     (.seq
      (rg [
       mv 31 6,
       mv 4 31] 0 [4])
      .ret)
     .skip))
    (.seq
     (.seq
     (.region false [
      lo 33 5,
      oa 34 (.tas T.aZ (.agg [.int .i64 0])) 33,
      mv 32 34,
      oa 35 (.ext 0) 32,
      oa 36 (.ext 1) 32,
      on 7 (.alloc 0 [.int .i64 0]) [],
      os (.store 1) [.t 7, .t 35] 0,
      mv 8 36] 1 [2,3,7,8] [7])
     (.seq
      (rg [
       mv 37 8] 0 [2,3,7,37])
      (.cond (.t 37)
      (.region true [
       of 38 (.load false 1) [.t 2] 2,
       oa 39 .aV 38,
       of 40 (.fld 3) [.t 39] 2,
       of 41 (.load false 1) [.t 40] 2,
       of 42 (.fld 0) [.t 7] 1,
       of 43 (.load false 1) [.t 42] 1,
       ob 44 (.bF 1) 41 43,
       os (.store 1) [.t 44, .c (.bool true)] 3] 0 [2,3] [])
      .skip)))
     WL)))))))))
theorem aeb:lH=abM:=rfl
theorem ahn {D:Dk}{d:Nat}{ce cs:PV}{M:Mem}(h:Bd D d ce cs M)(hok:D.Ok)(x:En){KP:DV→Mem→Prop}:
  SC C F.iL [.ptr d 0, .d x.dv] M (fun p M'=>p= .d (.int .i64 (D.enter x).2)∧∃ce' cs',Bd (D.enter x).1 d ce' cs' M'∧FrD d ce cs ce' cs' M M') KP:=by
 obtain⟨bs,fz,ar⟩:=M
 have hbox:=h.box
 rw[jh]at hbox
 simp only at hbox
 have hdl:d<bs.length:=(List.getElem?_eq_some_iff.1 hbox).1
 have KG:∀i∈fz,i<bs.length:=h.fzb
 have hn0:bs.length∉fz:=fun e=>Nat.lt_irrefl _ (KG _ e)
 have hn1:∀k,bs.length+k∉fz:=fun k e=>by have:=KG _ e;omega
 have hb0:¬d=bs.length:=by omega
 have hb1:∀k,¬d=bs.length+k:=fun k=>by omega
 have hb2:∀k,d<bs.length+k:=fun k=>by omega
 have hs1:¬bs.length+1=bs.length:=by omega
 have hs2:¬bs.length+2=bs.length:=by omega
 have hs3:¬bs.length+2=bs.length+1:=by omega
 have hF2:Frm ⟨bs,fz,ar⟩ ⟨bs++ [some [.ptr d 0],some [.d (.int .i64 x.kind), .d (.slice false (x.ns.map ay))]],(bs.length+1)::fz,ar⟩:=Frm.new (xf:=[bs.length+1]) (by simp)
 obtain⟨e1,e2,hdt⟩:=P5 (h.frm hF2)
 have hif:=adK x
 rw[Fa]at hif
 have hel:D.es.length≤24:=hok.few
 have hsl:D.st.length≤24:=by rw[←hok.len];exact hok.few
 refine aF mixed rfl sZ ?_
 rw[aeb]
 simp only[abM,lN,Fa,hbox,hdl,aU,bD,aK,bI,bU,aP,List.append_assoc,List.length_append,Nat.add_assoc,List.length_set,hn0,hn1,hb0,hb1,hb2,hs1,hs2,hs3,Dh,MW,OM,RN,qA,qB,qC,qD,qE,qF]
 refine l9 (PX hdt) rfl (aa6 e1 e2 D) rfl ?_
 (try simp only[RN,qA,qB,qC,qD,qE,qF])
 refine au rfl rfl hif ?_
 cases hfm:x.formed
 ·(try simp only[RN,qA,qB,qC,qD,qE,qF])
  have he:D.enter x=(D,2):=by simp[Dk.enter,hfm]
  rw[he]
  exact⟨rfl,_,_,h.frm hF2,hF2.frD⟩
 simp only[hbox,hdl,aU,bD,aK,hb2,List.length_append,RN,qA,qB,qC,qD,qE,qF]
 rw[ZX h.ent]
 by_cases h24:D.es.length=24
 ·have hb:(((D.es.map En.dv).length:Int)==24)=true:=by simp[h24]
  simp only[hb,RN,qA,qB,qC,qD,qE,qF]
  have he:D.enter x=(D,3):=by simp[Dk.enter,hfm,h24]
  rw[he]
  exact⟨rfl,_,_,h.frm hF2,hF2.frD⟩
 have hb:(((D.es.map En.dv).length:Int)==24)=false:=by simp;omega
 have hde:=VA x (Fb hfm)
 rw[Fa]at hde
 simp only[hb,RN,qA,qB,qC,qD,qE,qF]
 refine au rfl rfl hde ?_
 have apg:=(De.one x.deed).1
 have aph:=(De.one x.deed).2
 simp only[apg,aph,aU,bD,aK,bI,bU,aP,List.append_assoc,List.length_append,Nat.add_assoc,List.length_set,hn0,hn1,hb0,hb1,hb2,hs1,hs2,hs3,RN,qA,qB,qC,qD,qE,qF]
 have hF3:Frm ⟨bs,fz,ar⟩ ⟨bs++ [some [.ptr d 0],some [.d (.int .i64 x.kind), .d (.slice false (x.ns.map ay))],some [.d x.deed.dv]],(bs.length+2)::(bs.length+1)::fz,ar⟩:=Frm.new (xf:=[bs.length+2,bs.length+1]) (by simp)
 refine aia (h.frm hF3) hok x.deed ?_
 cases hfi:D.lY x.deed
 ·(try simp only[RN,qA,qB,qC,qD,qE,qF])
  have he:D.enter x=(D,2):=by simp[Dk.enter,hfm,h24,hfi]
  rw[he]
  exact⟨rfl,_,_,h.frm hF3,hF3.frD⟩
 have hdf:ng D.su D.su.sp0 x.deed:=aeN hfm hfi
 simp only[pR,Option.map_none,RN,qA,qB,qC,qD,qE,qF]
 obtain⟨B,hB⟩:∃B,B=bs++ [some [.ptr d 0],some [.d (.int .i64 x.kind), .d (.slice false (x.ns.map ay))],some [.d x.deed.dv]]:=⟨_,rfl⟩
 obtain⟨Z,hZ⟩:∃Z,Z=(bs.length+2)::(bs.length+1)::fz:=⟨_,rfl⟩
 have hBl:B.length=bs.length+3:=by rw[hB];simp
 have hBp:B[bs.length]?=some (some [.ptr d 0]):=by rw[hB,aK rfl];rfl
 rw[←hB,←hZ]at hF3
 simp only[←hB,←hZ]
 have hF4:Frm ⟨B,Z,ar⟩ ⟨B++ [some [.d (.int .i64 0)]],Z,ar⟩:=Frm.new (xf:=[]) (by simp)
 have adz:=hF3.trans hF4
 have z0:((0:Int) !=0)=false:=rfl
 have z7:((7:Int) !=0)=true:=rfl
 refine Vd (fs:=[]) (cs:=[.d (.aT [x.deed.dv]), .ptr bs.length 0]) (hF3.fzb h.fzb) (by kernel_rfl) ?_
 refine SC.oC (SC.mono (aga (h.frm adz) hok x.deed hfi hdf (pb:=bs.length) ?_) ?_) ?_
 ·simp only;rw[List.getElem?_append_left (by omega)];exact hBp
 ·rintro v ⟨bs',fz',ar'⟩ ⟨g1,g2⟩
  have hF5:=adz.trans g2
  have hd5:=h.frm hF5
  have hl5:=hF5.len
  simp only at hl5
  have hp5:bs'[bs.length]?=some (some [.ptr d 0]):=by
   have:=g2.box bs.length (by simp only[List.length_append,hBl];omega)
   simp only at this
   rw[this,List.getElem?_append_left (by omega)];exact hBp
  have he5:bs'[B.length]?=some (some [.d (.int .i64 0)]):=by
   have:=g2.box B.length (by simp)
   simp only at this
   rw[this,aK rfl];rfl
  have hef:B.length∉fz':=fun e=>by
   have:=(g2.fz B.length (by simp)).1 e
   simp only at this
   have h5:=hF3.fzb h.fzb _ this
   simp only at h5;omega
  refine⟨he5,hef,?_⟩
  have he:D.enter x=(D.with x,0):=by simp[Dk.enter,hfm,h24,hfi,g1]
  rw[he]
  have aiq:=hd5.fzb
  have hm0:bs'.length∉fz':=fun e=>Nat.lt_irrefl _ (aiq _ e)
  have hpd:bs.length≠d:=by omega
  have anj:bs.length<bs'.length:=(List.getElem?_eq_some_iff.1 hp5).1
  simp only[z0,RN,qA,qB,qC,qD,qE,qF]
  by_cases hs:∃n,x.deed= .strike n
  ·obtain⟨n,hs⟩:=hs
   have hx:(De.strike n).dv= .iface T.aZ (.agg [.int .i64 n]):=rfl
   have hn:(0≤n∧n≤(D.es.length:Int) - 1)∧n.toNat<D.st.length:=by
    rw[hs]at hfi
    simp only[Dk.lY,inR,Bool.and_eq_true,decide_eq_true_eq]at hfi
    have:=hok.len
    omega
   have am2:=hd5.box
   rw[jh]at am2
   simp only at am2
   have ape:d<bs'.length:=by omega
   obtain⟨k2,aex,st2,rfl,hk2,_,hst2⟩:=Nk h.str (by intro e;simp at e;rw[e]at hn;simp at hn)
   have hst2:=hst2 rfl
   subst hst2
   have hk5:ar'[k2]?=some (some ⟨1,D.st.map .bool,aex,1⟩):=(hF5.row k2 (List.getElem?_eq_some_iff.1 hk2).1).trans hk2
   have apo:=(List.getElem?_eq_some_iff.1 hk5).1
   have apf:∀k,d<bs'.length+k:=fun k=>by omega
   have apz:∀k,bs.length<bs'.length+k:=fun k=>by omega
   rw[hs,hx]
   simp only[oN,hp5,am2,ape,anj,apf,apz,aU,aK,aP,hm0,List.length_append,hk5,hn.1.1,hn.2,List.length_map,RN,qA,qB,qC,qD,qE,qF]
   refine Md (ds:=[.bool true]) hk5 rfl (by decide) rfl rfl (by rw[getD_map hn.2];exact Nat.le_refl 1) ?_
   have hset:(D.st.map DV.bool).set n.toNat (setCells ((D.st.map DV.bool).getD n.toNat default) 0 [.bool true])=(D.st.set n.toNat true).map .bool:=by
    rw[List.map_set,getD_map hn.2];rfl
   rw[hset]
   have hF6:Frm ⟨bs,fz,ar⟩ ⟨bs'++ [some [.d (.int .i64 n)]],bs'.length::fz',ar'⟩:=hF5.trans (Frm.new (xf:=[bs'.length]) (by simp))
   obtain⟨q3,q4⟩:=(h.frm hF6).row apo (D.st.set n.toNat true)
   refine VF q3 x (by have:=VT hfm;omega) (Nat.le_trans hel (by decide)) (by rw[List.length_set];exact Nat.le_trans hsl (by decide)) (pb:=bs.length) (by rw[List.getElem?_append_left anj];exact hp5) hpd fun ce' cs' M' q1 q2=> ?_
   (try simp only[RN,qA,qB,qC,qD,qE,qF])
   have hw:D.with x={D with es:=D.es++ [x],st:=D.st.set n.toNat true++ [false]}:=by
    unfold Dk.with
    rw[hs];rfl
   rw[hw]
   exact⟨_,_,q1,(hF6.frD.trans q4).trans q2⟩
  ·have hy:∀n,x.deed≠ .strike n:=fun n e=>hs ⟨n,e⟩
   have hx:x.deed.dv= .iface x.deed.ty x.deed.cs:=rfl
   rw[hx]
   simp only[eX (al6 hy),aK,aP,hm0,List.length_append,RN,qA,qB,qC,qD,qE,qF]
   have hF6:Frm ⟨bs,fz,ar⟩ ⟨bs'++ [some [.d (.int .i64 0)]],bs'.length::fz',ar'⟩:=hF5.trans (Frm.new (xf:=[bs'.length]) (by simp))
   refine VF (h.frm hF6) x (by have:=VT hfm;omega) (Nat.le_trans hel (by decide)) (Nat.le_trans hsl (by decide)) (pb:=bs.length) (by rw[List.getElem?_append_left anj];exact hp5) hpd fun ce' cs' M' q1 q2=> ?_
   (try simp only[RN,qA,qB,qC,qD,qE,qF])
   have hw:D.with x={D with es:=D.es++ [x],st:=D.st++ [false]}:=by
    unfold Dk.with
    cases hd:x.deed with
    |strike n=>exact absurd hd (hy n)
    | _=>rfl
   rw[hw]
   exact⟨_,_,q1,hF6.frD.trans q2⟩
 ·rintro dd ⟨bs',fz',ar'⟩ ⟨g1,g2,g3⟩
  have hF5:=adz.trans g3
  have hl5:=g3.len
  simp only[List.length_append,List.length_cons,List.length_nil]at hl5
  have he5:bs'[B.length]?=some (some [.d (.int .i64 0)]):=by
   have:=g3.box B.length (by simp)
   simp only at this
   rw[this,aK rfl];rfl
  have hef:B.length∉fz':=fun e=>by
   have:=(g3.fz B.length (by simp)).1 e
   simp only at this
   have h5:=hF3.fzb h.fzb _ this
   simp only at h5;omega
  have aiq:=hF5.fzb h.fzb
  have hm0:bs'.length∉fz':=fun e=>Nat.lt_irrefl _ (aiq _ e)
  have he:D.enter x=(D,7):=by simp[Dk.enter,hfm,h24,hfi,g1]
  refine⟨he5,hef,hm0, .inl ⟨g2,fun y=> ?_⟩⟩
  rw[he]
  simp only[z7,RN,qA,qB,qC,qD,qE,qF]
  have hF6:Frm ⟨bs,fz,ar⟩ ⟨(bs'++ [y]).set B.length (some [.d (.int .i64 7)]),fz',ar'⟩:=hF5.aju (by simp only;omega)
  exact⟨_,_,h.frm hF6,hF6.frD⟩
end Go.Tel
namespace Go.Tel
open Go.Am
def pU (f1 f2 e1 e2:Bool)(D:Dk)(t:Sp):List DV:=[.aT (t.cells f1 f2 D.su), .aT (OH e1 e2 D)]
def BG (f1 f2 e1 e2:Bool)(D:Dk)(t:Sp):DV:= .agg (pU f1 f2 e1 e2 D t)
theorem iE {f1 f2 e1 e2:Bool}{D:Dk}{t:Sp}:BG f1 f2 e1 e2 D t= .agg [.aT (t.cells f1 f2 D.su), .aT (OH e1 e2 D)]:=rfl
def Ans (f:FuncId)(ds:List DV)(l:List Int)(e:Int):Prop:=
 Pure C f ds (.tup [.tsl 0 0 0, .d (.int .i64 e)]) [⟨1,l.map ay,0,BA l⟩]∨(l=[]∧Pure C f ds (.d (.tup [.slice true [], .int .i64 e])) [])
theorem gB {f:FuncId}{ds:List DV}{l:List Int}{e:Int}(hsc:SC C f (ds.map .d) bH (fun p M=>∃c,p= .tup [c, .d (.int .i64 e)]∧PI M c 1 (l.map ay) (BA l)) (fun _ _=>False)):Ans f ds l e:=by
 refine .inl (I8 (SC.mono hsc fun p M h=> ?_))
 obtain⟨c,rfl,k,ver,rfl,h⟩:=h
 refine⟨[(k,0)],⟨fun q hq=>by simp only[List.mem_singleton]at hq;subst hq;simp[Fj,h],by simp⟩,?_,?_⟩
 ·simp[ren,aji,WW,Mem.row,h,QK]
 ·simp[mkRow,h]
theorem EU {f:FuncId}{ds:List DV}{l:List Int}{e:Int}(hl:l=[])(h:Pure C f ds (.d (.tup [.slice true [], .int .i64 e])) []):Ans f ds l e:= .inr ⟨hl,h⟩
theorem Dz {C:Ctx}{base:Nat}{M:Mem}{K:PV→Mem→Prop}{KP:DV→Mem→Prop}{z:DV}{k:IntKind}{n:Int}:aj C base (.qj 1 [z] [0]) [.d (.int k n)] M K KP=K (.tsl M.aA.length 0 0) {M with aA:=M.aA++ [some ⟨1,[.int k n],0,1⟩]}:=
 MN rfl (by decide)
theorem adl {C:Ctx}{base:Nat}{M:Mem}{K:PV→Mem→Prop}{KP:DV→Mem→Prop}{z1 z2:DV}{k k':IntKind}{n n':Int}:aj C base (.qj 1 [z1,z2] [0,1]) [.d (.int k n), .d (.int k' n')] M K KP=K (.tsl M.aA.length 0 0) {M with aA:=M.aA++ [some ⟨1,[.int k n, .int k' n'],0,1⟩]}:=by
 simp[aj,je,yE,DV.strip,DV.cells,DV.fits,DV.one]
theorem adn {C:Ctx}{base:Nat}{M:Mem}{K:PV→Mem→Prop}{KP:DV→Mem→Prop}{z1 z2 z3:DV}{k k' k2:IntKind}{n n' n2:Int}:aj C base (.qj 1 [z1,z2,z3] [0,1,2]) [.d (.int k n), .d (.int k' n'), .d (.int k2 n2)] M K KP=K (.tsl M.aA.length 0 0) {M with aA:=M.aA++ [some ⟨1,[.int k n, .int k' n', .int k2 n2],0,1⟩]}:=by
 simp[aj,je,yE,DV.strip,DV.cells,DV.fits,DV.one]
section
variable (f1 f2 e1 e2:Bool){D:Dk}{t:Sp}(ns:List Int)
theorem anI:Ans F.fO [BG f1 f2 e1 e2 D t, .slice false (ns.map ay)] [t.lW] 0:=by
 refine gB (aF mixed rfl F8 ?_)
 simp only[tX,uD,iE,bK,Dz,List.not_mem_nil,bg,dH,RN,qA,qB,qC,qD,qE,qF]
 exact⟨_,rfl,0,0,rfl,rfl⟩
theorem amn (hok:D.Ok)(hn:ns.length=1):Ans F.fJ [BG f1 f2 e1 e2 D t, .slice false (ns.map ay)] [(D.su.dvd.cuts (ns.getD 0 default)).1.circle,(D.su.dvd.cuts (ns.getD 0 default)).1.turns,(D.su.dvd.cuts (ns.getD 0 default)).1.holes] (D.su.dvd.cuts (ns.getD 0 default)).2:=by
 have hc:=acE D.su.dvd (ns.getD 0 default) (by have:=(Su.Vh hok.su).ci;omega)
 rw[Iw,Ky]at hc
 have j0:(0:Int)≤0:=by omega
 have t0:(0:Int).toNat=0:=rfl
 have l0:0<ns.length:=by omega
 refine gB (aF mixed rfl F7 ?_)
 simp only[tV,uz,iE,bK,j0,t0,l0,List.length_map,getD_map,aW,RN,qA,qB,qC,qD,qE,qF]
 refine au rfl rfl hc ?_
 simp only[adn,List.not_mem_nil,bg,dH,RN,qA,qB,qC,qD,qE,qF]
 exact⟨_,rfl,0,0,rfl,rfl⟩
theorem amm (hok:D.Ok)(ht:Kq D.su 24 t)(hn:ns.length=1):Ans F.fH [BG f1 f2 e1 e2 D t, .slice false (ns.map ay)]
  (if inR (ns.getD 0 default) 0 (D.su.pc.hands.length - 1)then[Pg D.su t (ns.getD 0 default).toNat]else[]) (if inR (ns.getD 0 default) 0 (D.su.pc.hands.length - 1)then 0 else 2):=by
 have hi:=KH e1 e2 D (by have:=hok.small;omega) (ns.getD 0 default)
 rw[yB]at hi
 have j0:(0:Int)≤0:=by omega
 have t0:(0:Int).toNat=0:=rfl
 have l0:0<ns.length:=by omega
 cases h1:inR (ns.getD 0 default) 0 ((D.su.pc.hands.length:Int) - 1)
 ·refine EU (by simp) (ah mixed rfl tq ?_)
  simp only[lI,lQ,iE,j0,t0,l0,List.length_map,getD_map,aW,RN,qA,qB,qC,qD,qE,qF]
  refine au rfl rfl hi ?_
  simp only[h1,RN,qA,qB,qC,qD,qE,qF]
  simp
 ·have hh:0≤ns.getD 0 default∧ns.getD 0 default≤(D.su.pc.hands.length:Int) - 1:=by simpa[inR]using h1
  obtain⟨a,ha⟩:∃a:Nat,ns.getD 0 default=a:=⟨(ns.getD 0 default).toNat,by omega⟩
  have hp:=ae8 f1 f2 D.su t a ht.pc (by rw[ht.hh];omega)
  rw[ha]at h1 hi⊢
  refine gB (aF mixed rfl tq ?_)
  simp only[lI,lQ,iE,j0,t0,l0,List.length_map,getD_map,aW,ha,RN,qA,qB,qC,qD,qE,qF]
  refine au rfl rfl hi ?_
  simp only[h1,j0,t0,l0,List.length_map,getD_map,aW,ha,RN,qA,qB,qC,qD,qE,qF]
  refine au rfl rfl hp ?_
  simp only[Dz,List.not_mem_nil,bg,dH,if_true,Int.toNat_natCast,RN,qA,qB,qC,qD,qE,qF]
  exact⟨_,rfl,0,0,rfl,rfl⟩
end
end Go.Tel
namespace Go.Tel
open Go.Am
def Yu:List Int→Int→Int→Int
 | [],_,l=>l
 |s::r,day,l=>Yu r day (if s≤day then s else l)
def Sp.turns (t:Sp)(day:Int):Int:=day - Yu t.sets day 0
section
variable (f1 f2 e1 e2:Bool){D:Dk}{t:Sp}(ns:List Int)
theorem aak (ht:Kq D.su 24 t)(day:Int)(hd:0≤day∧day≤1000000):Pure C F.jL [BG f1 f2 e1 e2 D t, .int .i64 day] (.d (.int .i64 (t.turns day))) []:=by
 have hse:=ht.se
 refine ah mixed rfl EN ?_
 simp only[rO,sD,iE,bK,List.length_map,RN,qA,qB,qC,qD,qE,qF]
 refine aX t.sets.length (fun i (a:Int)=>⟨[(1, .d (.int .i64 day)),(5, .d (.int .i64 a)),(12, .d (.slice f2 (t.sets.map ay))),(13, .d (.int .i64 t.sets.length)),(14, .d (.int .i64 i))],⟨[some [.d (.aT (t.cells f1 f2 D.su)), .d (.aT (OH e1 e2 D))]],[0],[]⟩⟩)
  (fun i a=>Yu t.sets day 0=Yu (t.sets.drop i) day a∧0≤a∧a≤366) 0 0 (Nat.zero_le _) (by rw[bK];rfl) ⟨rfl,by decide,by decide⟩ (fun i a g1 hix=> ?_) (fun a hix=> ?_)
 ·obtain⟨g2,g3,g6⟩:=rng g1 (by omega)
  obtain⟨q1,q2,q3⟩:=hix
  rw[drop_cons g1,Yu]at q1
  have hv:=ht.sv _ (getD_mem g1)
  simp only[g2,g3,g1,getD_map,aW,Int.toNat_natCast,List.length_map,RN,qA,qB,qC,qD,qE,qF]
  by_cases hle:t.sets.getD i default≤day
  ·rw[if_pos hle]at q1
   simp only[hle,g6,RN,qA,qB,qC,qD,qE,qF]
   exact nU (t.sets.getD i default) g1 rfl ⟨q1,by omega,by omega⟩
  ·rw[if_neg hle]at q1
   simp only[hle,g6,RN,qA,qB,qC,qD,qE,qF]
   exact nU a g1 rfl ⟨q1,q2,q3⟩
 ·obtain⟨q1,q2,q3⟩:=hix
  rw[List.drop_length,Yu]at q1
  have w1:IntKind.i64.wrap (day - a)=day - a:=aG (by omega)
  simp only[Int.lt_irrefl,w1,RN,qA,qB,qC,qD,qE,qF]
  simp only[Sp.turns,q1]
theorem aoP (hok:D.Ok)(ht:Kq D.su 24 t)(hn:ns.length=2):Ans F.gI [BG f1 f2 e1 e2 D t, .slice false (ns.map ay)]
  (if inR (ns.getD 0 default) 0 (D.su.pc.hands.length - 1)&&inR (ns.getD 1 default) 1 D.su.days.length then[(zI t.pc (ns.getD 0 default) (t.tg.getD (ns.getD 0 default).toNat default) (t.turns (ns.getD 1 default))).1]else[])
  (if inR (ns.getD 0 default) 0 (D.su.pc.hands.length - 1)&&inR (ns.getD 1 default) 1 D.su.days.length then(zI t.pc (ns.getD 0 default) (t.tg.getD (ns.getD 0 default).toNat default) (t.turns (ns.getD 1 default))).2 else 2):=by
 have hi:=KH e1 e2 D (by have:=hok.small;omega) (ns.getD 0 default)
 have hd:=Vb e1 e2 D (ns.getD 1 default)
 rw[yB]at hi hd
 have j0:(0:Int)≤0:=by omega
 have t0:(0:Int).toNat=0:=rfl
 have j1:(0:Int)≤1:=by omega
 have t1:(1:Int).toNat=1:=rfl
 have l0:0<ns.length:=by omega
 have l1:1<ns.length:=by omega
 have hsm:=hok.small
 cases h1:inR (ns.getD 0 default) 0 ((D.su.pc.hands.length:Int) - 1)
 ·refine EU (by simp) (ah mixed rfl mQ ?_)
  simp only[jm,jq,iE,j0,t0,l0,List.length_map,getD_map,aW,RN,qA,qB,qC,qD,qE,qF]
  refine au rfl rfl hi ?_
  simp only[h1,RN,qA,qB,qC,qD,qE,qF]
  simp
 cases h2:inR (ns.getD 1 default) 1 (D.su.days.length:Int)
 ·refine EU (by simp) (ah mixed rfl mQ ?_)
  simp only[jm,jq,iE,j0,t0,l0,j1,t1,l1,List.length_map,getD_map,aW,RN,qA,qB,qC,qD,qE,qF]
  refine au rfl rfl hi ?_
  simp only[h1,j0,t0,l0,j1,t1,l1,List.length_map,getD_map,aW,RN,qA,qB,qC,qD,qE,qF]
  refine au rfl rfl hd ?_
  simp only[h2,RN,qA,qB,qC,qD,qE,qF]
  simp
 have hh:0≤ns.getD 0 default∧ns.getD 0 default≤(D.su.pc.hands.length:Int) - 1:=by simpa[inR]using h1
 have hdy:1≤ns.getD 1 default∧ns.getD 1 default≤(D.su.days.length:Int):=by simpa[inR]using h2
 have hdl:=GH D.su
 have hll:=Pc.Gm ht.pc
 have htu:=aak f1 f2 e1 e2 (D:=D) ht (ns.getD 1 default) (by omega)
 have hw:=aeE t.pc (by omega) (by omega) (ns.getD 0 default) (t.tg.getD (ns.getD 0 default).toNat default) (t.turns (ns.getD 1 default))
 have hgt:(ns.getD 0 default).toNat<t.tg.length:=by rw[ht.tl];omega
 rw[iE]at htu
 rw[lX,dI]at hw
 simp only[Bool.and_self,if_true]
 refine gB (aF mixed rfl mQ ?_)
 simp only[jm,jq,iE,j0,t0,l0,j1,t1,l1,List.length_map,getD_map,aW,RN,qA,qB,qC,qD,qE,qF]
 refine au rfl rfl hi ?_
 simp only[h1,j0,t0,l0,j1,t1,l1,List.length_map,getD_map,aW,RN,qA,qB,qC,qD,qE,qF]
 refine au rfl rfl hd ?_
 rw[bK]at htu
 simp only[h2,bK,j0,t0,l0,j1,t1,l1,List.length_map,getD_map,aW,hh.1,hgt,dI,RN,qA,qB,qC,qD,qE,qF]
 refine au rfl rfl htu ?_
 (try simp only[RN,qA,qB,qC,qD,qE,qF])
 refine au rfl rfl hw ?_
 simp only[Dz,List.not_mem_nil,bg,dH,if_true,RN,qA,qB,qC,qD,qE,qF]
 exact⟨_,rfl,0,0,rfl,rfl⟩
theorem amq (hok:D.Ok)(hn:ns.length=1):Ans F.fK [BG f1 f2 e1 e2 D t, .slice false (ns.map ay)]
  (if inR (ns.getD 0 default) 1 D.su.days.length then[(Vz D.su.cal D.su.year.toNat (D.su.first+(ns.getD 0 default - 1))).m,(Vz D.su.cal D.su.year.toNat (D.su.first+(ns.getD 0 default - 1))).d]else[])
  (if inR (ns.getD 0 default) 1 D.su.days.length then 0 else 2):=by
 have hd:=Vb e1 e2 D (ns.getD 0 default)
 rw[yB]at hd
 have j0:(0:Int)≤0:=by omega
 have t0:(0:Int).toNat=0:=rfl
 have l0:0<ns.length:=by omega
 cases h2:inR (ns.getD 0 default) 1 (D.su.days.length:Int)
 ·refine EU (by simp) (ah mixed rfl tu ?_)
  simp only[lJ,lS,iE,j0,t0,l0,List.length_map,getD_map,aW,RN,qA,qB,qC,qD,qE,qF]
  refine au rfl rfl hd ?_
  simp only[h2,RN,qA,qB,qC,qD,qE,qF]
  simp
 have hdy:1≤ns.getD 0 default∧ns.getD 0 default≤(D.su.days.length:Int):=by simpa[inR]using h2
 have hdl:=GH D.su
 obtain⟨a,ha⟩:∃a:Nat,ns.getD 0 default=((a+1:Nat):Int):=⟨(ns.getD 0 default - 1).toNat,by omega⟩
 have hal:a<D.su.days.length:=by omega
 have w1:IntKind.i64.wrap (((a+1:Nat):Int) - 1)=(a:Int):=by rw[aG (by omega)];omega
 have ja:(0:Int)≤(a:Int):=by omega
 have had:a<D.su.dur:=by simpa[Su.days,Su.zh]using hal
 have hga:D.su.days.getD a default=(D.su.first+a,D.su.works (D.su.first+a)):=by
  simp only[Su.days,Su.zh,List.getD_eq_getElem?_getD,List.getElem?_map,List.getElem?_range had,Option.map_some,Option.getD_some]
 obtain⟨q1,_,_,_,q5,_,_,q8,_⟩:=Su.facts hok.su
 have hst:=Iz D.su.cal D.su.year.toNat
 have hbd:=D.su.cal.qc D.su.year.toNat
 have hdt:=al8 D.su.cal D.su.year.toNat (D.su.first+a) q5 (by omega) (by simp only[Su.first];omega) (by
  have e1:D.su.cal.first (D.su.year.toNat+1)=D.su.cal.first D.su.year.toNat+Iu (D.su.cal.leap D.su.year):=by
   rw[Cal.first]
   rw[show((D.su.year.toNat:Nat):Int)=D.su.year by omega]
  have e2:(D.su.dur:Int)=Iu (D.su.cal.leap D.su.year):=by
   have:=zL (D.su.cal.leap D.su.year)
   simp only[Su.dur];split at this<;>omega
  rw[e1,←e2,Su.first];omega)
 have hz:(ns.getD 0 default - 1)=(a:Int):=by omega
 rw[pW,E8]at hdt
 rw[ha]at hd h2
 refine gB (aF mixed rfl tu ?_)
 simp only[lJ,lS,iE,j0,t0,l0,List.length_map,getD_map,aW,ha,RN,qA,qB,qC,qD,qE,qF]
 refine au rfl rfl hd ?_
 simp only[h2,bK,j0,t0,l0,List.length_map,getD_map,aW,ha,w1,ja,hal,Int.toNat_natCast,adf,hga,RN,qA,qB,qC,qD,qE,qF]
 refine au rfl rfl hdt ?_
 simp only[adl,List.not_mem_nil,bg,dH,if_true,RN,qA,qB,qC,qD,qE,qF]
 refine⟨_,rfl,0,0,rfl,?_⟩
 have hz2:(((a+1:Nat):Int) - 1)=(a:Int):=by omega
 rw[hz2]
 rfl
end
end Go.Tel
namespace Go.Tel
open Go.Am
def zn (p:Int→Bool):Nat→Int→Option Int
 |0,_=>none
 |k+1,n=>if p n then some n else zn p k (n+1)
def Dk.Jr (D:Dk)(d:Int):Bool:=(D.su.days.getD (d - 1).toNat default).2
section
variable (f1 f2 e1 e2:Bool){D:Dk}{t:Sp}(ns:List Int)
theorem ajQ (d:Int)(hd:1≤d∧d≤D.su.days.length):Pure C F.iZ [.int .i64 d, .aT (pU f1 f2 e1 e2 D t)] (.d (.bool (D.Jr d))) []:=by
 have hdl:=GH D.su
 have w1:IntKind.i64.wrap (d - 1)=d - 1:=aG (by omega)
 have j0:0≤d - 1:=by omega
 have jl:(d - 1).toNat<D.su.days.length:=by omega
 refine ah mixed rfl CY ?_
 simp only[pG,pI,pU,bK,w1,j0,jl,List.length_map,getD_map,adf,RN,qA,qB,qC,qD,qE,qF]
 rfl
theorem adt (a b:Int)(fn:FuncId)(caps:List DV)(p:Int→Bool)(ha:1≤a∧a≤b∧b≤1000000)(hc:callable C.P fn=true)(hp:∀x,1≤x→x≤b→Pure C fn ([.int .i64 x]++caps.map DV.strip) (.d (.bool (p x))) []):
  Pure C F.qh [.int .i64 a, .int .i64 b, .func (.func fn) [] caps] (.d (.tup [.int .i64 ((zn p (b+1 - a).toNat a).getD 0), .bool (zn p (b+1 - a).toNat a).isSome])) []:=by
 refine ah mixed rfl GR ?_
 simp only[vY,wE,RN,qA,qB,qC,qD,qE,qF]
 refine wC (fun(n:Int)=>⟨[(1, .d (.int .i64 b)),(2, .d (.func (.func fn) [] caps)),(8, .d (.int .i64 n))],⟨[],[],[]⟩⟩)
  (fun n=>1≤n∧n≤b+1∧zn p (b+1 - a).toNat a=zn p (b+1 - n).toNat n) (fun n=>(b+1 - n).toNat) a rfl ⟨by omega,by omega,rfl⟩ (fun n hn=> ?_)
 obtain⟨q1,q2,q3⟩:=hn
 by_cases hle:n≤b
 ·obtain⟨k,hk⟩:∃k,(b+1 - n).toNat=k+1:=⟨(b - n).toNat,by omega⟩
  rw[hk,zn]at q3
  have w1:IntKind.i64.wrap (n+1)=n+1:=aG (by omega)
  simp only[hle,RN,qA,qB,qC,qD,qE,qF]
  refine PS rfl hc rfl (hp n q1 hle) ?_
  cases hpn:p n
  ·rw[hpn]at q3
   simp only[Bool.false_eq_true,if_false]at q3
   simp only[w1,RN,qA,qB,qC,qD,qE,qF]
   exact FQ (a:=n) (μ:=fun n=>(b+1 - n).toNat) (n+1) (by show(b+1 - (n+1)).toNat<(b+1 - n).toNat;omega) rfl ⟨by omega,by omega,by rw[q3,show(b+1 - (n+1)).toNat=k by omega]⟩
  ·rw[hpn]at q3
   simp only[if_true]at q3
   simp only[q3,Option.getD_some,Option.isSome_some,RN,qA,qB,qC,qD,qE,qF]
 ·rw[show(b+1 - n).toNat=0 by omega,zn]at q3
  simp only[hle,q3,Option.getD_none,Option.isSome_none,RN,qA,qB,qC,qD,qE,qF]
theorem alM (hok:D.Ok)(hn:ns.length=1):Ans F.fC [BG f1 f2 e1 e2 D t, .slice false (ns.map ay)]
  (if inR (ns.getD 0 default) 1 D.su.days.length then(match zn D.Jr ((D.su.days.length:Int)+1 - ns.getD 0 default).toNat (ns.getD 0 default)with|some d=>[d]|none=>[])else[])
  (if inR (ns.getD 0 default) 1 D.su.days.length then(match zn D.Jr ((D.su.days.length:Int)+1 - ns.getD 0 default).toNat (ns.getD 0 default)with|some _=>0|none=>5)else 2):=by
 have hd:=Vb e1 e2 D (ns.getD 0 default)
 rw[yB]at hd
 have j0:(0:Int)≤0:=by omega
 have t0:(0:Int).toNat=0:=rfl
 have l0:0<ns.length:=by omega
 cases h2:inR (ns.getD 0 default) 1 (D.su.days.length:Int)
 ·refine EU (by simp) (ah mixed rfl kV ?_)
  simp only[iH,iJ,iE,j0,t0,l0,List.length_map,getD_map,aW,RN,qA,qB,qC,qD,qE,qF]
  refine au rfl rfl hd ?_
  simp only[h2,RN,qA,qB,qC,qD,qE,qF]
  simp
 have hdy:1≤ns.getD 0 default∧ns.getD 0 default≤(D.su.days.length:Int):=by simpa[inR]using h2
 have hdl:=GH D.su
 have hf:=adt (ns.getD 0 default) (D.su.days.length:Int) F.iZ [.aT (pU f1 f2 e1 e2 D t)] D.Jr (by omega) (by kernel_rfl) (fun x h1 h2=>ajQ f1 f2 e1 e2 x ⟨h1,h2⟩)
 simp only[if_true]
 cases hw:zn D.Jr ((D.su.days.length:Int)+1 - ns.getD 0 default).toNat (ns.getD 0 default)with
 |none=>
  rw[hw]at hf
  refine EU rfl (ah mixed rfl kV ?_)
  simp only[iH,iJ,iE,j0,t0,l0,List.length_map,getD_map,aW,RN,qA,qB,qC,qD,qE,qF]
  refine au rfl rfl hd ?_
  simp only[h2,bK,j0,t0,l0,List.length_map,getD_map,aW,RN,qA,qB,qC,qD,qE,qF]
  rw[pU,bK]at hf
  refine au rfl rfl hf ?_
  simp only[Option.isSome_none,RN,qA,qB,qC,qD,qE,qF]
 |some x=>
  rw[hw]at hf
  refine gB (aF mixed rfl kV ?_)
  simp only[iH,iJ,iE,j0,t0,l0,List.length_map,getD_map,aW,RN,qA,qB,qC,qD,qE,qF]
  refine au rfl rfl hd ?_
  simp only[h2,bK,j0,t0,l0,List.length_map,getD_map,aW,RN,qA,qB,qC,qD,qE,qF]
  rw[pU,bK]at hf
  refine au rfl rfl hf ?_
  simp only[Option.isSome_some,Option.getD_some,Dz,List.not_mem_nil,bg,dH,RN,qA,qB,qC,qD,qE,qF]
  exact⟨_,rfl,0,0,rfl,rfl⟩
def aal (s:Su)(t:Sp)(turns:Int):List Fr→Nat→Bool
 | [],_=>false
 |f::l,h=> !Yt s t h f turns||aal s t turns l (h+1)
def Y4 (s:Su)(t:Sp)(i:Nat):Bool:=aal s t (t.turns ((i:Int)+1)) t.tg 0
def zJ (s:Su)(t:Sp)(n:Nat):Int:=(((List.range n).filter (Y4 s t)).length:Nat)
theorem acD (s:Su)(t:Sp)(n:Nat):zJ s t (n+1)=if Y4 s t n then zJ s t n+1 else zJ s t n:=by
 simp only[zJ,List.range_succ,List.filter_append,List.length_append,List.filter_cons,List.filter_nil]
 split<;>simp
theorem ahj (s:Su)(t:Sp)(n:Nat):0≤zJ s t n∧zJ s t n≤n:=by
 have:=List.length_filter_le (Y4 s t) (List.range n)
 simp only[List.length_range]at this
 simp only[zJ];omega
theorem alP (hok:D.Ok)(ht:Kq D.su 24 t):Ans F.fD [BG f1 f2 e1 e2 D t, .slice false (ns.map ay)] [zJ D.su t D.su.days.length] 0:=by
 have hdl:=GH D.su
 have hll:=Pc.Gm ht.pc
 have hlim:0≤D.su.lim∧D.su.lim≤10800:=by simpa[inR]using(Su.facts hok.su).2.2.1
 have htl:t.tg.length≤4:=by rw[ht.tl,←ht.hh];omega
 refine gB (aF mixed rfl EO ?_)
 simp only[rP,sF,iE,bK,List.length_map,List.not_mem_nil,RN,qA,qB,qC,qD,qE,qF]
 refine aX D.su.days.length (fun i (_:Unit)=>⟨[(2, .d (.aT (pU f1 f2 e1 e2 D t))),(6, .d (.int .i64 (zJ D.su t i))),(15, .d (.int .i64 D.su.days.length)),(16, .d (.int .i64 i))],⟨[some ((pU f1 f2 e1 e2 D t).map .d)],[0],[]⟩⟩)
  (fun _ _=>True) 0 () (Nat.zero_le _) (by rw[pU,bK];rfl) trivial (fun i _ g1 _=> ?_) (fun _ _=> ?_)
 ·obtain⟨g2,g3,g6⟩:=rng g1 (by omega)
  have hwl:=ahj D.su t i
  have w2:IntKind.i64.wrap (zJ D.su t i+1)=zJ D.su t i+1:=aG (by omega)
  have w3:IntKind.i64.wrap ((i:Int)+1)=(i:Int)+1:=aG (by omega)
  have htu:=aak f1 f2 e1 e2 (D:=D) ht ((i:Int)+1) (by omega)
  rw[iE]at htu
  have hsucc:=acD D.su t i
  simp only[g2,pU,bK,List.length_map,RN,qA,qB,qC,qD,qE,qF]
  refine aX t.tg.length (fun h (_:Unit)=>⟨[(2, .d (.aT (pU f1 f2 e1 e2 D t))),(6, .d (.int .i64 (zJ D.su t i))),(7, .d (.int .i64 i)),(15, .d (.int .i64 D.su.days.length)),(16, .d (.int .i64 i)),(24, .d (.slice false (t.tg.map Fr.dv))),(25, .d (.int .i64 t.tg.length)),(26, .d (.int .i64 h))],⟨[some ((pU f1 f2 e1 e2 D t).map .d)],[0],[]⟩⟩)
   (fun h _=>Y4 D.su t i=aal D.su t (t.turns ((i:Int)+1)) (t.tg.drop h) h) 0 () (Nat.zero_le _) (by rw[pU,bK];rfl) rfl (fun h _ k1 hix=> ?_) (fun _ hix=> ?_)
  ·obtain⟨k2,k3,k6⟩:=rng k1 (by omega)
   rw[drop_cons k1,aal]at hix
   have hk:=aiE f1 f2 D.su t h (t.tg.getD h default) (t.turns ((i:Int)+1)) (by omega) (by omega) hlim
   rw[dI]at hk
   rw[bK]at htu hk
   simp only[pU,bK,k2,k3,k1,getD_map,dI,Int.toNat_natCast,List.length_map,w3,RN,qA,qB,qC,qD,qE,qF]
   refine au rfl rfl htu ?_
   (try simp only[RN,qA,qB,qC,qD,qE,qF])
   refine au rfl rfl hk ?_
   cases hkb:Yt D.su t h (t.tg.getD h default) (t.turns ((i:Int)+1))
   ·rw[hkb]at hix
    simp only[Bool.not_false,Bool.true_or]at hix
    rw[if_pos hix]at hsucc
    simp only[w2,g6,RN,qA,qB,qC,qD,qE,qF]
    refine jR 1 0 () g1 ?_ trivial (by simp) (by simp) rfl rfl
    rw[hsucc];rfl
   ·rw[hkb]at hix
    simp only[Bool.not_true,Bool.false_or]at hix
    simp only[k6,RN,qA,qB,qC,qD,qE,qF]
    exact jR 1 0 () k1 rfl hix (by simp) (by simp) rfl rfl
  ·rw[List.drop_length,aal]at hix
   rw[if_neg (by rw[hix];simp)]at hsucc
   simp only[Int.lt_irrefl,g6,RN,qA,qB,qC,qD,qE,qF]
   refine nU () g1 ?_ trivial
   rw[hsucc,pU,bK];rfl
 ·simp only[Int.lt_irrefl,Dz,List.not_mem_nil,bg,dH,RN,qA,qB,qC,qD,qE,qF]
  exact⟨_,rfl,0,0,rfl,rfl⟩
end
end Go.Tel
namespace Go.Am
section
variable {C:Ctx}{base:Nat}{KP:DV→Mem→Prop}{K:PV→Mem→Prop}{M:Mem}
theorem adY {ok:Bool}{ks:List Nat}{z k:DV}{l:List (DV×DV)}(r:Option DV)(h1:iD ks k k=some true)(h2:sS ks l k=some r)(hK:K (.d (KF ok z r)) M):aj C base (.Nu ok ks z) [.d (.map (some l)), .d k] M K KP:=by
 simp only[aj,h1,h2];exact hK
theorem aaM {z1 z2 z3:DV}{k1 k2 k3:IntKind}{a b c:Int}:aj C base (.iO 1 [z1,z2,z3] [0,1,2]) [.d (.int k1 a), .d (.int k2 b), .d (.int k3 c)] M K KP=K (.d (.slice true [.int k1 a, .int k2 b, .int k3 c])) M:=by
 have:=KE (M:=M) (ds:=[DV.int k1 a, .int k2 b, .int k3 c])
 simp only[List.map_cons,List.map_nil]at this
 simp[aj,dw,datum,yE,this,DV.strip,DV.cells]
end
end Go.Am
namespace Go.Tel
open Go.Am
theorem ajD {α:Type}{l:List α}{x y:α}:BA (l++ [x,y])=1:=by cases l<;>rfl
theorem Xu {α:Type}{l:List α}{x y z:α}:BA (l++ [x,y,z])=1:=by cases l<;>rfl
def I9 (p:Pc)(h:Int):List Int:=[((o8 p).getD h.toNat default).n,((o8 p).getD h.toNat default).d]
def aij (p:Pc):List Int:=p.hands.flatMap (I9 p)
def Na (op:List (Int×Fr))(i:Nat):List Int:=match pF op i with|some f=>[(i:Int),f.n,f.d]|none=>[]
def tH (op:List (Int×Fr))(n:Nat):List Int:=(List.range n).flatMap (Na op)
theorem NV (op:List (Int×Fr))(n:Nat):tH op (n+1)=tH op n++Na op n:=by simp[tH,List.range_succ]
theorem Qy (op:List (Int×Fr)):∀n,(tH op n).length≤3*n
 |0=>by simp[tH]
 |n+1=>by
  have:=Qy op n
  have h:(Na op n).length≤3:=by unfold Na;split<;>simp
  rw[NV,List.length_append];omega
def aml (c:Chg):List Int:=[c.link,c.pr.a,c.pr.b]
def NM (l:List Chg):List Int:=l.flatMap aml
theorem afX (l:List Chg):(NM l).length=3*l.length:=by
 induction l with
 |nil=>rfl
 |cons x l ih=>simp only[NM,List.flatMap_cons,List.length_append,List.length_cons]at ih⊢;rw[ih];simp[aml];omega
theorem aaR (p:Pc)(l:List Int):(l.flatMap (I9 p)).length=2*l.length:=by
 induction l with
 |nil=>rfl
 |cons x l ih=>simp only[List.flatMap_cons,List.length_append,List.length_cons,ih];simp[I9];omega
section
variable (f1 f2 e1 e2:Bool){D:Dk}{t:Sp}(ns:List Int)
theorem akE (ht:Kq D.su 24 t):Ans F.fB [BG f1 f2 e1 e2 D t, .slice false (ns.map ay)] (aij t.pc) 0:=by
 have hll:=Pc.Gm ht.pc
 have hg:=Pc.good ht.pc
 have hr:=ajX t.pc ht.pc
 rw[lX]at hr
 refine gB (aF mixed rfl EM ?_)
 simp only[rM,rZ,iE,bK,List.length_map,List.not_mem_nil,RN,qA,qB,qC,qD,qE,qF]
 refine au rfl rfl hr ?_
 simp only[List.length_map,RN,qA,qB,qC,qD,qE,qF]
 refine aX t.pc.hands.length (fun i (v:Nat)=>⟨[(6, .d (.slice false ((o8 t.pc).map Fr.dv))),(8, .d (.int .i64 0)),(9, .tsl 1 v 0),(29, .d (.slice false (t.pc.hands.map ay))),(30, .d (.int .i64 t.pc.hands.length)),(31, .d (.int .i64 i))],
   ⟨[some ((pU f1 f2 e1 e2 D t).map .d)],[0],[some ⟨1,[],0,0⟩,some ⟨1,((t.pc.hands.take i).flatMap (I9 t.pc)).map ay,v,BA ((t.pc.hands.take i).flatMap (I9 t.pc))⟩]⟩⟩)
  (fun _ _=>True) 0 0 (Nat.zero_le _) (by rw[pU,bK];rfl) trivial (fun i v g1 _=> ?_) (fun v _=> ?_)
 ·obtain⟨g2,g3,g6⟩:=rng g1 (by omega)
  have hh:=hg.hd _ (getD_mem g1)
  have n0:0≤t.pc.hands.getD i default:=by omega
  have n1:(t.pc.hands.getD i default).toNat<(o8 t.pc).length:=by simp only[o8,List.length_cons,List.length_map,List.length_range];omega
  have hst:(t.pc.hands.take (i+1)).flatMap (I9 t.pc)=(t.pc.hands.take i).flatMap (I9 t.pc)++ [((o8 t.pc).getD (t.pc.hands.getD i default).toNat default).n,((o8 t.pc).getD (t.pc.hands.getD i default).toNat default).d]:=by
   rw[dQ g1];simp[I9]
  have hln:=aaR t.pc (t.pc.hands.take i)
  have hne:¬BA ((t.pc.hands.take i).flatMap (I9 t.pc))=2:=Nl
  simp only[g2,g3,g1,n0,n1,getD_map,aW,dI,Int.toNat_natCast,List.length_map,VI,hne,RN,qA,qB,qC,qD,qE,qF]
  refine⟨by rintro y (rfl|rfl)<;>rfl,by simp,by rw[hln];simp only[List.length_take];omega,?_⟩
  simp only[g6,RN,qA,qB,qC,qD,qE,qF]
  refine nU (v+1) g1 ?_ trivial
  rw[hst,ajD];simp[ay]
 ·simp only[Int.lt_irrefl,bg,dH,RN,qA,qB,qC,qD,qE,qF]
  rw[List.take_length]
  exact⟨_,rfl,1,v,rfl,rfl⟩
theorem ai7 (ht:Kq D.su 24 t):Ans F.dX [BG f1 f2 e1 e2 D t, .slice false (ns.map ay)] (tH t.op t.pc.hands.length) 0:=by
 have hll:=Pc.Gm ht.pc
 refine gB (aF mixed rfl DT ?_)
 simp only[qp,qI,iE,bK,List.length_map,List.not_mem_nil,RN,qA,qB,qC,qD,qE,qF]
 refine aX t.pc.hands.length (fun i (v:Nat)=>⟨[(2, .d (.aT (pU f1 f2 e1 e2 D t))),(6, .tsl 1 v 0),(17, .d (.int .i64 t.pc.hands.length)),(18, .d (.int .i64 i))],
   ⟨[some ((pU f1 f2 e1 e2 D t).map .d)],[0],[some ⟨1,[],0,0⟩,some ⟨1,(tH t.op i).map ay,v,BA (tH t.op i)⟩]⟩⟩)
  (fun _ _=>True) 0 0 (Nat.zero_le _) (by rw[pU,bK];rfl) trivial (fun i v g1 _=> ?_) (fun v _=> ?_)
 ·obtain⟨g2,g3,g6⟩:=rng g1 (by omega)
  have hln:=Qy t.op i
  have hne:¬BA (tH t.op i)=2:=Nl
  have hsu:=NV t.op i
  simp only[g2,pU,bK,RN,qA,qB,qC,qD,qE,qF]
  refine adY ((pF t.op i).map Fr.dv) (zZ i) (MZ _ _) ?_
  cases hg:pF t.op i with
  |none=>
   rw[Na,hg,List.append_nil]at hsu
   simp only[KF,Option.map_none,Option.getD_none,Option.isSome_none,List.mem_cons,List.not_mem_nil,or_false,g6,RN,qA,qB,qC,qD,qE,qF]
   refine jR 1 2 v g1 ?_ trivial (by simp) (by simp) rfl rfl
   rw[hsu];rfl
  |some f=>
   rw[Na,hg]at hsu
   simp only[KF,Option.map_some,Option.getD_some,Option.isSome_some,dI,List.mem_cons,List.not_mem_nil,or_false,aaM,hne,List.length_map,RN,qA,qB,qC,qD,qE,qF]
   refine⟨by rintro y (rfl|rfl|rfl)<;>rfl,by simp,by omega,?_⟩
   simp only[g6,RN,qA,qB,qC,qD,qE,qF]
   refine jR 1 2 (v+1) g1 ?_ trivial (by simp) (by simp) rfl rfl
   rw[hsu,Xu];simp[ay]
 ·simp only[Int.lt_irrefl,bg,dH,RN,qA,qB,qC,qD,qE,qF]
  exact⟨_,rfl,1,v,rfl,rfl⟩
def yG (D:Dk)(t:Sp)(hand least most:Int):List Int×Int:=
 if inR hand 0 (D.su.pc.hands.length - 1)&&bG least&&bG most&&inR (most - least) 0 10 then
  (match pF t.op hand with
  |none=>([],7)
  |some f=>(NM (t.pc.changes least most hand f).1,(t.pc.changes least most hand f).2))
 else([],2)
theorem aaz (p:Pc)(a b h:Int)(f:Fr):(p.changes a b h f).1.length≤2:=by
 unfold Pc.changes
 split
 ·split
  ·rename_i hs;have:=AV hs;simp only;omega
  ·split
   ·rename_i hs;have:=AV hs;simp only;omega
   ·split
    ·rename_i hs;have:=AV hs;simp only;omega
    ·simp
 ·simp
theorem anD (hok:D.Ok)(ht:Kq D.su 24 t)(hn:ns.length=3)(hb:∀n∈ns, -1000000≤n∧n≤1000000):Ans F.fM [BG f1 f2 e1 e2 D t, .slice false (ns.map ay)]
  (yG D t (ns.getD 0 default) (ns.getD 1 default) (ns.getD 2 default)).1 (yG D t (ns.getD 0 default) (ns.getD 1 default) (ns.getD 2 default)).2:=by
 have hll:=Pc.Gm ht.pc
 have b0:=hb _ (getD_mem (show 0<ns.length by omega))
 have b1:=hb _ (getD_mem (show 1<ns.length by omega))
 have b2:=hb _ (getD_mem (show 2<ns.length by omega))
 have hi:=KH e1 e2 D (by have:=hok.small;omega) (ns.getD 0 default)
 rw[yB]at hi
 have j0:(0:Int)≤0:=by omega
 have t0:(0:Int).toNat=0:=rfl
 have l0:0<ns.length:=by omega
 have j1:(0:Int)≤1:=by omega
 have t1:(1:Int).toNat=1:=rfl
 have l1:1<ns.length:=by omega
 have j2:(0:Int)≤2:=by omega
 have t2:(2:Int).toNat=2:=rfl
 have l2:2<ns.length:=by omega
 generalize hA:ns.getD 0 default=A at*
 generalize hB:ns.getD 1 default=B at*
 generalize hC:ns.getD 2 default=Cc at*
 have w1:IntKind.i64.wrap (Cc - B)=Cc - B:=aG (by omega)
 cases h1:inR A 0 ((D.su.pc.hands.length:Int) - 1)
 ·have hne:yG D t A B Cc=([],2):=by simp[yG,h1]
  rw[hne]
  refine gB (aF mixed rfl dS ?_)
  simp only[dB,dD,iE,j0,t0,l0,j1,t1,l1,j2,t2,l2,List.length_map,getD_map,aW,hA,hB,hC,RN,qA,qB,qC,qD,qE,qF]
  refine au rfl rfl hi ?_
  simp only[h1,bg,dH,RN,qA,qB,qC,qD,qE,qF]
  exact⟨_,rfl,1,0,rfl,rfl⟩
 cases h2:bG B
 ·have hne:yG D t A B Cc=([],2):=by simp[yG,h2]
  rw[hne]
  refine gB (aF mixed rfl dS ?_)
  simp only[dB,dD,iE,j0,t0,l0,j1,t1,l1,j2,t2,l2,List.length_map,getD_map,aW,hA,hB,hC,RN,qA,qB,qC,qD,qE,qF]
  refine au rfl rfl hi ?_
  simp only[h1,RN,qA,qB,qC,qD,qE,qF]
  refine au rfl rfl (oz _) ?_
  simp only[h2,bg,dH,RN,qA,qB,qC,qD,qE,qF]
  exact⟨_,rfl,1,0,rfl,rfl⟩
 cases h3:bG Cc
 ·have hne:yG D t A B Cc=([],2):=by simp[yG,h3]
  rw[hne]
  refine gB (aF mixed rfl dS ?_)
  simp only[dB,dD,iE,j0,t0,l0,j1,t1,l1,j2,t2,l2,List.length_map,getD_map,aW,hA,hB,hC,RN,qA,qB,qC,qD,qE,qF]
  refine au rfl rfl hi ?_
  simp only[h1,RN,qA,qB,qC,qD,qE,qF]
  refine au rfl rfl (oz _) ?_
  simp only[h2,RN,qA,qB,qC,qD,qE,qF]
  refine au rfl rfl (oz _) ?_
  simp only[h3,bg,dH,RN,qA,qB,qC,qD,qE,qF]
  exact⟨_,rfl,1,0,rfl,rfl⟩
 cases h4:inR (Cc - B) 0 10
 ·have hne:yG D t A B Cc=([],2):=by simp[yG,h4]
  rw[hne]
  refine gB (aF mixed rfl dS ?_)
  simp only[dB,dD,iE,j0,t0,l0,j1,t1,l1,j2,t2,l2,List.length_map,getD_map,aW,hA,hB,hC,RN,qA,qB,qC,qD,qE,qF]
  refine au rfl rfl hi ?_
  simp only[h1,RN,qA,qB,qC,qD,qE,qF]
  refine au rfl rfl (oz _) ?_
  simp only[h2,RN,qA,qB,qC,qD,qE,qF]
  refine au rfl rfl (oz _) ?_
  simp only[h3,w1,RN,qA,qB,qC,qD,qE,qF]
  refine au rfl rfl (Fg _ _ _) ?_
  simp only[h4,bg,dH,RN,qA,qB,qC,qD,qE,qF]
  exact⟨_,rfl,1,0,rfl,rfl⟩
 cases hg:pF t.op A with
 |none=>
  have hne:yG D t A B Cc=([],7):=by simp[yG,h1,h2,h3,h4,hg]
  rw[hne]
  refine gB (aF mixed rfl dS ?_)
  simp only[dB,dD,iE,j0,t0,l0,j1,t1,l1,j2,t2,l2,List.length_map,getD_map,aW,hA,hB,hC,RN,qA,qB,qC,qD,qE,qF]
  refine au rfl rfl hi ?_
  simp only[h1,RN,qA,qB,qC,qD,qE,qF]
  refine au rfl rfl (oz _) ?_
  simp only[h2,RN,qA,qB,qC,qD,qE,qF]
  refine au rfl rfl (oz _) ?_
  simp only[h3,w1,RN,qA,qB,qC,qD,qE,qF]
  refine au rfl rfl (Fg _ _ _) ?_
  simp only[h4,bK,RN,qA,qB,qC,qD,qE,qF]
  refine adY ((pF t.op A).map Fr.dv) (zZ A) (MZ _ _) ?_
  simp only[hg,KF,Option.map_none,Option.getD_none,Option.isSome_none,List.mem_cons,List.not_mem_nil,or_false,bg,dH,RN,qA,qB,qC,qD,qE,qF]
  exact⟨_,rfl,1,0,rfl,rfl⟩
 |some f=>
  have hch:=afn t.pc B Cc A f (by omega) (by omega) b2 b1
  have hcl:=aaz t.pc B Cc A f
  rw[lX,dI]at hch
  have hne:yG D t A B Cc=(NM (t.pc.changes B Cc A f).1,(t.pc.changes B Cc A f).2):=by simp[yG,h1,h2,h3,h4,hg]
  rw[hne]
  generalize hr:t.pc.changes B Cc A f=r at*
  obtain⟨l,e⟩:=r
  simp only at hch hcl⊢
  refine gB (aF mixed rfl dS ?_)
  simp only[dB,dD,iE,j0,t0,l0,j1,t1,l1,j2,t2,l2,List.length_map,getD_map,aW,hA,hB,hC,RN,qA,qB,qC,qD,qE,qF]
  refine au rfl rfl hi ?_
  simp only[h1,RN,qA,qB,qC,qD,qE,qF]
  refine au rfl rfl (oz _) ?_
  simp only[h2,RN,qA,qB,qC,qD,qE,qF]
  refine au rfl rfl (oz _) ?_
  simp only[h3,w1,RN,qA,qB,qC,qD,qE,qF]
  refine au rfl rfl (Fg _ _ _) ?_
  simp only[h4,bK,RN,qA,qB,qC,qD,qE,qF]
  refine adY ((pF t.op A).map Fr.dv) (zZ A) (MZ _ _) ?_
  simp only[hg,KF,Option.map_some,Option.getD_some,Option.isSome_some,dI,List.mem_cons,List.not_mem_nil,or_false,RN,qA,qB,qC,qD,qE,qF]
  refine au rfl rfl hch ?_
  simp only[List.length_map,RN,qA,qB,qC,qD,qE,qF]
  refine aX l.length (fun i (v:Nat)=>⟨[(12, .d (.int .i64 e)),(13, .tsl 1 v 0),(73, .d (.slice (e !=0) (l.map Chg.dv))),(74, .d (.int .i64 l.length)),(75, .d (.int .i64 i))],
    ⟨[some ((pU f1 f2 e1 e2 D t).map .d),some [.d (.int .i64 f.n), .d (.int .i64 f.d)]],[1,0],[some ⟨1,[],0,0⟩,some ⟨1,(NM (l.take i)).map ay,v,BA (NM (l.take i))⟩]⟩⟩)
   (fun _ _=>True) 0 0 (Nat.zero_le _) (by rw[pU,bK];rfl) trivial (fun i v g1 _=> ?_) (fun v _=> ?_)
  ·obtain⟨g2,g3,g6⟩:=rng g1 (by omega)
   have hst:NM (l.take (i+1))=NM (l.take i)++ [(l.getD i default).link,(l.getD i default).pr.a,(l.getD i default).pr.b]:=by
    rw[dQ g1];simp[NM,aml]
   have hln:=afX (l.take i)
   have hne:¬BA (NM (l.take i))=2:=Nl
   simp only[g2,g3,g1,getD_map,Kw,Int.toNat_natCast,List.length_map,aaM,hne,List.mem_cons,List.not_mem_nil,or_false,RN,qA,qB,qC,qD,qE,qF]
   refine⟨by rintro y (rfl|rfl|rfl)<;>rfl,by simp,by rw[hln];simp only[List.length_take];omega,?_⟩
   simp only[g6,RN,qA,qB,qC,qD,qE,qF]
   refine jR 2 2 (v+1) g1 ?_ trivial (by simp) (by simp) rfl rfl
   rw[hst,Xu];simp[ay]
  ·simp only[Int.lt_irrefl,bg,dH,RN,qA,qB,qC,qD,qE,qF]
   rw[List.take_length]
   exact⟨_,rfl,1,v,rfl,rfl⟩
end
end Go.Tel
namespace Go.Tel
open Go.Am
def Qx (n:Int):List DV:=[.int .i64 n]
theorem acz (xs:List Int)(ex:Bool)(hl:xs.length≤1000000):
  X7 C F.mF [] [.d (.aT [.slice ex (xs.map ay)])] (xs.map Qx) no no no (fun _=>True):=by
 rintro⟨bs,fz,ar⟩ b n R stop K KP hbn hbo hn hfz _ hmv nH h0 hstop hend
 simp only at hn
 refine aF mixed rfl I5 ?_
 simp only[xB,xX,List.length_map,RN,qA,qB,qC,qD,qE,qF]
 refine Ee (fun m s=>∃(i:Nat) (M1:Mem),m=xs.length - i∧i≤xs.length∧s=⟨[(0, .rE b),(5, .d (.slice ex (xs.map ay))),(6, .d (.int .i64 xs.length)),(7, .d (.int .i64 i))],M1⟩∧n≤M1.boxes.length∧R ((xs.take i).map Qx) M1)
  xs.length ⟨0,_,rfl,Nat.zero_le _,rfl,hn,h0⟩ ?_
 rintro m s ⟨i,⟨bs1,fz1,ar1⟩,rfl,hi,rfl,hn1,hR⟩
 by_cases hlt:i<xs.length
 case neg=>
  have hie:i=xs.length:=by omega
  subst hie
  simp only[Int.lt_irrefl,RN,qA,qB,qC,qD,qE,qF]
  rw[List.take_length]at hR
  exact hend _ _ hn1 hR
 obtain⟨g2,g3,g6⟩:=rng hlt hl
 simp only[g2,g3,hlt,getD_map,aW,Int.toNat_natCast,List.length_map,RN,qA,qB,qC,qD,qE,qF]
 refine GI ?_
 refine SY.mono (nH ((xs.take i).map Qx) (Qx (xs.getD i default)) ((xs.drop (i+1)).map Qx) _ (by
  conv=>lhs;rw[←List.take_append_drop i xs,drop_cons hlt]
  simp) hn1 hR) ?_
 rintro p M3 ⟨hkp,hp⟩
 have hl3:=hkp.len
 simp only at hl3 hn1
 rcases hp with⟨rfl,hR3⟩|⟨rfl,hs3⟩
 ·simp only[g6,RN,qA,qB,qC,qD,qE,qF]
  refine⟨xs.length - (i+1),_,by omega, .inl rfl,i+1,M3,rfl,by omega,rfl,by omega,?_⟩
  rw[dQ hlt,List.map_append];exact hR3
 ·(try simp only[RN,qA,qB,qC,qD,qE,qF])
  exact hstop _ _ hs3
def Ig (ex:Bool)(xs:List Int):DV:= .func (.func F.mF) [] [.aT [.slice ex (xs.map ay)]]
theorem afx (xs:List Int)(ex:Bool)(hl:xs.length≤1000000){bs:List (Option (List PV))}{fz:List Nat}{ar:List (Option Arr)}(hfz:FzB ⟨bs,fz,ar⟩){KP:DV→Mem→Prop}:
  SC C F.qP [.d (.slice true []), .d (Ig ex xs)] ⟨bs,fz,ar⟩ (fun p M'=>slN 1 true p (xs.map ay) M'.aA∧Frm ⟨bs,fz,ar⟩ M'∧(∀k,kOf p=some k→ar.length≤k)∧(xs=[]→p= .d (.slice true []))) KP:=by
 have hn0:bs.length∉fz:=fun e=>Nat.lt_irrefl _ (hfz _ e)
 refine aF mixed rfl GV ?_
 simp only[wu,wG,Ig,aK,aP,List.length_append,RN,qA,qB,qC,qD,qE,qF]
 refine vJ (acz xs ex hl) (fun _ h=>h) rfl (by kernel_rfl) (fun i hi=>by have:=hfz i hi;simp at this⊢;omega) (fun x hx=>by obtain⟨i,_,rfl⟩:=List.mem_map.1 hx;rfl) (fun _ h=>h.elim) (fun _ _=>trivial)
  (fun pre M1=>∃l r c,xs=l++r∧pre=l.map Qx∧M1.boxes[bs.length]?=some (some [c])∧bs.length∉M1.fz∧slN 1 true c (l.map ay) M1.aA∧Frm ⟨bs,fz,ar⟩ M1∧(∀k,kOf c=some k→ar.length≤k)∧(l=[]→c= .d (.slice true []))) ?_ ?_ ?_ ?_
 ·rintro pre M1 M2 hm ⟨l,r,c,q1,q2,q3,q4,q5,q6,q7,q8⟩
  simp only[List.length_append,List.length_cons,List.length_nil]at hm
  exact⟨l,r,c,q1,q2,(hm.box _ (by omega) id).trans q3,fun e=>q4 ((hm.fz _ (by omega) id).1 e),by rw[hm.aA];exact q5,q6.moved hm (by simp),q7,q8⟩
 ·exact⟨[],xs,_,rfl,rfl,by simp only;rw[aK rfl];rfl,hn0, .inl ⟨rfl,rfl⟩,Frm.new (xf:=[]) (by simp),(fun k hk=>by cases hk),fun _=>rfl⟩
 ·rintro L cells pre x post ⟨bs1,fz1,ar1⟩ hx hlt hrec hnf ⟨l,r,c,q1,q2,q3,q4,q5,q6,q7,q8⟩ M0
  simp only[List.length_append,List.length_cons,List.length_nil]at hlt hrec hnf q3 q4⊢
  obtain⟨p,r',rfl⟩:∃p r',r=p::r':=by
   cases r with
   |nil=>
    rw[q1,q2]at hx
    have:=congrArg List.length hx
    simp at this
   |cons p r'=>exact⟨p,r',rfl⟩
  have hxp:x=Qx p:=by
   rw[q1,q2,List.map_append,List.map_cons]at hx
   have:=List.append_cancel_left hx
   exact(List.cons.inj this).1.symm
  subst hxp
  have hbl:bs.length<bs1.length:=by omega
  have hlen:l.length≤1000000:=by have:=congrArg List.length q1;simp at this;omega
  simp only[Qx,List.zip_cons_cons,List.zip_nil_left,List.map_cons,List.map_nil,q3,hbl,mM,DV.strip,RN,qA,qB,qC,qD,qE,qF]
  refine Vg q5 (by decide) (by intro y hy;simp only[List.mem_singleton]at hy;subst hy;rfl) (by simp) (by simp;omega) fun k ver st ar2 a1 a2 a3 a4 a5 a6=> ?_
  have hst:=a6 rfl
  subst hst
  simp only[q3,hbl,q4,bM,dO,zN,RN,qA,qB,qC,qD,qE,qF]
  have hka:ar.length≤k:=by
   rcases a1 with a1|a1
   ·exact q7 k a1
   ·have:=q6.aY;simp only at this;omega
  refine⟨by rw[List.getElem?_set_ne (by omega)];exact hrec,hnf,Kept.Q8 (by omega) id a4 (fun _ h=>h.elim),l++ [p],r', .tsl k ver 0,by rw[q1];simp,by rw[q2];simp[Qx],by simp[hbl], .inr ⟨k,ver,1,rfl,by rw[a2];simp[ay],by decide,fun _=> .inl rfl⟩,?_,(fun k' hk'=>by cases hk';exact hka),fun e=>by simp at e⟩
  exact
  {len:=by have:=q6.len;simpa using this
   aY:=Nat.le_trans q6.aY a4
   box:=fun i hi=>by
    have:=q6.box i hi
    simp only at hi this⊢
    rw[List.getElem?_set_ne (by omega)];exact this
   fz:=q6.fz
   row:=fun j hj=>by
    have:=q6.row j hj
    have hlA:=q6.aY
    simp only at hj this hlA⊢
    rw[a3 j (by omega) (by omega)];exact this
   fzb:=fun e i hi=>by have:=q6.fzb e i hi;simpa using this}
 ·rintro⟨bs1,fz1,ar1⟩ ⟨l,r,c,q1,q2,q3,q4,q5,q6,q7,q8⟩ hlt
  simp only[List.length_append,List.length_cons,List.length_nil]at hlt q3
  have hr:r=[]:=by
   have:=congrArg List.length q2
   rw[q1]at this
   simp at this
   exact this
  subst hr
  rw[List.append_nil]at q1
  subst q1
  have hbl:bs.length<bs1.length:=by omega
  simp only[q3,hbl,RN,qA,qB,qC,qD,qE,qF]
  exact⟨q5,q6,q7,q8⟩
end Go.Tel
namespace Go.Proofs
open Go.Shelf
end Go.Proofs
namespace Go.Tel
open Go.Am
theorem ajY {k ver:Nat}{zs:List Int}{bs:List (Option (List PV))}{fz:List Nat}{ar:List (Option Arr)}{K:PV→Mem→Prop}{KP:DV→Mem→Prop}
  (h:ar[k]?=some (some ⟨1,zs.map (DV.int .i64),ver,1⟩))(hz:zs≠[])(hl:zs.length<4611686018427387904)
  (hK:K (.d (.tup [])) ⟨bs,fz,ar.set k (some ⟨1,(zs.mergeSort fun x y=>decide (x≤y)).map (DV.int .i64),ver,1⟩)⟩):SC Go.Tel.C F.slices_Sort_int [.tsl k ver 0] ⟨bs,fz,ar⟩ K KP:=
 alB (C:=Go.Tel.C) Go.Proofs.Tryz.laysSort h hz hl hK
end Go.Tel
