/-
  Part 24 of the proof of a law of desks: an abstract machine over the model, contracts of functions, plain laws.
  Conditions: none.
-/
import Derived.Test.YtbefoehadfnkbaaGreatDoorJourneymanParsesM13
import Derived.Test.YtbefoehadfnkbaaGreatDoorJourneymanParsesM22
import Derived.Test.YtbefoehadfnkbaaGreatDoorJourneymanParsesM23
import Derived.Ground.NamesProg
import Derived.Shelf.Strings.Split
import Derived.Shelf.Strings.OnBuilder
import Derived.Shelf.Strconv.Itoa3
import Derived.Lib.ItoaLen
import Derived.Laws.RangeString
import Derived.Laws.RangeAny
set_option linter.all false
set_option maxRecDepth 10000
set_option maxHeartbeats 4000000
open Nat renaming reduceBEq→qA,reduceAdd→qB,reduceSub→qC,reduceEqDiff→qD,reduceLT→qE,reduceLeDiff→qF
namespace Go.Tel
open Go.Am
theorem aix (ex:Bool):Pure C F.slices_Sort_int [.slice ex []] (.d (.tup [])) []:=by
 refine uh fun X w vals hG hx hr=> ?_
 cases hr with|cons h1 t1=>
 cases t1
 have key:∀a cap,Calls C.P F.slices_Sort_int #[.slice a 0 cap] w fun e w'=>∃v,e= .returned v∧Later w w'∧bf w' X v (.tup []):=by
  intro a cap
  refine(Go.Proofs.Any.slices_Sort_int_none Go.Proofs.Tryz.laysSort a cap w).mono ?_
  rintro e w' ⟨rfl,rfl⟩
  exact⟨_,rfl,Later.refl _, .tup .nil⟩
 cases h1 with
 |empty hx=>exact key _ _
 |slice hb ho hl hs hc hx' h=>
  simp only[List.length_nil]at hl
  subst hl
  exact key _ _
theorem V6 (xs:List Int)(ex:Bool)(hl:xs.length≤1000000){bs:List (Option (List PV))}{fz:List Nat}{ar:List (Option Arr)}(hfz:FzB ⟨bs,fz,ar⟩){KP:DV→Mem→Prop}:
  SC C F.vJ [.d (Iq ex xs)] ⟨bs,fz,ar⟩ (fun p M'=>slN 1 true p (xs.map ay) M'.aA∧Frm ⟨bs,fz,ar⟩ M'∧(∀k,kOf p=some k→ar.length≤k)∧(xs=[]→p= .d (.slice true []))) KP:=by
 refine aF mixed rfl KC ?_
 simp only[yM,yV,RN,qA,qB,qC,qD,qE,qF]
 refine SC.oh (SC.mono (agA xs ex hl hfz (KP:=fun _ _=>False)) ?_) (fun _ _ h=>h.elim)
 rintro p ⟨bs1,fz1,ar1⟩ h
 (try simp only[RN,qA,qB,qC,qD,qE,qF])
 exact h
def Yd (xs:List Int):List Int:=xs.mergeSort fun x y=>decide (x≤y)
theorem ah8:Yd []=[]:=by simp[Yd]
theorem akG {xs:List Int}(h:xs≠[]):Yd xs≠[]:=fun e=>h (by
 have:=congrArg List.length e
 simp only[Yd,List.length_mergeSort,List.length_nil]at this
 exact List.eq_nil_of_length_eq_zero this)
theorem Vm {α:Type}{l:List α}(h:l≠[]):Bq l=1:=by cases l with|nil=>exact absurd rfl h|cons _ _=>rfl
theorem akH (xs:List Int)(ex:Bool)(hl:xs.length≤1000000)(hx:xs≠[]):Pure C F.pF [Iq ex xs] (.tsl 0 0 0) [⟨1,(Yd xs).map ay,0,1⟩]:=by
 refine UZ (aF mixed rfl Ac ?_)
 simp only[qo,qG,RN,qA,qB,qC,qD,qE,qF]
 refine SC.oh (SC.mono (V6 xs ex hl (bs:=[]) (fz:=[]) (ar:=[]) (by intro i hi;simp at hi) (KP:=fun _ _=>False)) ?_) (fun _ _ h=>h.elim)
 rintro p ⟨bs1,fz1,ar1⟩ ⟨h1,h2,h3,h4⟩
 obtain⟨k,ver,st,rfl,hk,_,hst⟩:=ND h1 (by simpa using hx)
 have hst:=hst rfl
 subst hst
 simp only at hk
 (try simp only[RN,qA,qB,qC,qD,qE,qF])
 refine ak4 (zs:=xs) hk hx (by omega) ?_
 (try simp only[RN,qA,qB,qC,qD,qE,qF])
 exact⟨k,ver,rfl,by simp only;rw[List.getElem?_set_self (List.getElem?_eq_some_iff.1 hk).1];rfl⟩
theorem afs (ex:Bool):Pure C F.pF [Iq ex []] (.d (.slice true [])) []:=by
 refine gI (aF mixed rfl Ac ?_)
 simp only[qo,qG,RN,qA,qB,qC,qD,qE,qF]
 refine SC.oh (SC.mono (V6 [] ex (by simp) (bs:=[]) (fz:=[]) (ar:=[]) (by intro i hi;simp at hi) (KP:=fun _ _=>False)) ?_) (fun _ _ h=>h.elim)
 rintro p ⟨bs1,fz1,ar1⟩ ⟨h1,h2,h3,h4⟩
 have hp:=h4 rfl
 subst hp
 (try simp only[RN,qA,qB,qC,qD,qE,qF])
 refine agc (aix false) rfl (ds:=[.slice true []]) rfl rfl ?_
 (try simp only[RN,qA,qB,qC,qD,qE,qF])
 rfl
theorem akT (xs:List Int)(ex:Bool):Pure C F.yt [.slice ex (xs.map ay)] (.d (Iq ex xs)) []:=by
 refine ah mixed rfl Lm ?_
 simp only[Aj,AB,List.not_mem_nil,RN,qA,qB,qC,qD,qE,qF]
 rfl
section
variable (f1 f2 e1 e2:Bool){D:Dk}{t:Sp}(ns:List Int)
theorem akW (ht:KG D.su 24 t):Ans F.dX [BA f1 f2 e1 e2 D t, .slice false (ns.map ay)] (Yd t.dU) 0:=by
 have hst:=ht.st
 have hv:=akT t.dU false
 by_cases hx:t.dU=[]
 ·have hs:=afs false
  rw[hx]at hv⊢
  refine EZ ah8 (ah mixed rfl qh ?_)
  simp only[kE,kG,iG,bK,hx,List.not_mem_nil,RN,qA,qB,qC,qD,qE,qF]
  refine au rfl rfl hv ?_
  (try simp only[RN,qA,qB,qC,qD,qE,qF])
  refine Dw rfl rfl hs (by simp) ?_
  simp only[PV.shift,lW,RN,qA,qB,qC,qD,qE,qF]
 ·have hs:=akH t.dU false (by omega) hx
  refine gy (aF mixed rfl qh ?_)
  simp only[kE,kG,iG,bK,List.not_mem_nil,RN,qA,qB,qC,qD,qE,qF]
  refine au rfl rfl hv ?_
  (try simp only[RN,qA,qB,qC,qD,qE,qF])
  refine Dw rfl rfl hs (by simp) ?_
  simp only[PV.shift,lW,bn,dG,RN,qA,qB,qC,qD,qE,qF]
  exact⟨_,rfl,0,0,rfl,by rw[Vm (akG hx)];rfl⟩
theorem RY {D:Dk}(hl:D.es.length=D.st.length)(h24:D.es.length≤1000)(hf:∀x∈D.es,o7 x.kind≤x.ns.length):
  YN C F.gZ [.d (.aX (O5 e1 e2 D))] [] (bV D 0) no no no (fun _=>True):=by
 rintro⟨bs,fz,ar⟩ b n R stop K KP hbn hbo hn hfz hst hmv nD h0 hstop hend
 simp only at hn hfz
 refine aF mixed rfl qZ ?_
 simp only[kY,kZ,O5,List.length_map,RN,qA,qB,qC,qD,qE,qF]
 refine H8 (fun m s=>∃(i:Nat) (pre:List (List DV)) (M1:Mem),m=D.es.length - i∧i≤D.es.length∧s=⟨[(0, .d (.aX (O5 e1 e2 D))),(1, .qY b),(9, .d (.slice e1 (D.es.map En.dv))),(10, .d (.int .i64 D.es.length)),(11, .d (.int .i64 i))],M1⟩∧n≤M1.boxes.length∧FzB M1∧bV D 0=pre++bV D i∧R pre M1)
  D.es.length ⟨0,[],_,rfl,Nat.zero_le _,rfl,hn,hfz,rfl,h0⟩ ?_
 rintro m s ⟨i,pre,⟨bs1,fz1,ar1⟩,rfl,hi,rfl,hn1,hfz1,hpre,hR⟩
 simp only at hn1
 have hn0:bs1.length∉fz1:=fun e=>Nat.lt_irrefl _ (hfz1 _ e)
 by_cases hlt:i<D.es.length
 case neg=>
  have hie:i=D.es.length:=by omega
  subst hie
  simp only[Int.lt_irrefl,RN,qA,qB,qC,qD,qE,qF]
  refine hend _ _ hn1 ?_
  rw[hpre]
  have:bV D D.es.length=[]:=by simp[bV,nO]
  rw[this,List.append_nil];exact hR
 have hlt':(i:Int)<(D.es.length:Int):=by omega
 have hlt2:i<D.st.length:=by omega
 have j0:(0:Int)≤(i:Int):=by omega
 have w1:IntKind.i64.wrap ((i:Int)+1)=((i+1:Nat):Int):=by rw[aG (by omega)];omega
 have hstep:=MN hl hlt
 obtain⟨x,hx⟩:∃x,x=D.es.getD i default:=⟨_,rfl⟩
 have hxm:x∈D.es:=by rw[hx];exact getD_mem hlt
 have abU:=V9 x (hf x hxm)
 rw[←hx]at hstep
 rw[wO]at abU
 have hR2:R pre ⟨bs1++ [some [.d (.int .i64 x.kind), .d (.slice false (x.ns.map ay))]],bs1.length::fz1,ar1⟩:=
  hmv pre _ _ (Moved.ext (xf:=[bs1.length]) (xb:=[_]) hn1 (by simpa using hn1)) hR
 have aeH:FzB ⟨bs1++ [some [.d (.int .i64 x.kind), .d (.slice false (x.ns.map ay))]],bs1.length::fz1,ar1⟩:=by
  intro j hj
  simp only[List.mem_cons]at hj
  simp only[List.length_append,List.length_cons,List.length_nil]
  rcases hj with rfl|hj
  ·omega
  ·have:=hfz1 j hj;simp only at this;omega
 simp only[hlt',hlt,j0,Int.toNat_natCast,List.length_map,getD_map,←hx,wO,hn0,aU,aN,aP,List.length_append,RN,qA,qB,qC,qD,qE,qF]
 by_cases h6:x.kind=6
 ·have b6:(x.kind !=6)=false:=by simp[h6]
  rw[if_neg (by simp[h6])]at hstep
  simp only[b6,w1,RN,qA,qB,qC,qD,qE,qF]
  refine⟨D.es.length - (i+1),_,by omega, .inl rfl,i+1,pre,_,rfl,by omega,rfl,by simp;omega,aeH,by rw[hpre,hstep],hR2⟩
 have b6:(x.kind !=6)=true:=by simp[h6]
 cases hsb:D.st.getD i default
 case true=>
  rw[if_neg (fun e=>by rw[hsb]at e;cases e.2)]at hstep
  simp only[O5,b6,hlt2,j0,Int.toNat_natCast,List.length_map,getD_map,vO,hsb,w1,RN,qA,qB,qC,qD,qE,qF]
  refine⟨D.es.length - (i+1),_,by omega, .inl rfl,i+1,pre,_,rfl,by omega,rfl,by simp;omega,aeH,by rw[hpre,hstep],hR2⟩
 rw[if_pos ⟨h6,hsb⟩]at hstep
 simp only[O5,b6,hlt2,j0,Int.toNat_natCast,List.length_map,getD_map,vO,hsb,RN,qA,qB,qC,qD,qE,qF]
 refine au rfl rfl abU ?_
 (try simp only[RN,qA,qB,qC,qD,qE,qF])
 refine GU ?_
 refine SY.mono (nD pre (qW (i,x.deed)) (bV D (i+1)) _ (by rw[hpre,hstep]) (by simp;omega) hR2) ?_
 rintro p M3 ⟨hkp,hp⟩
 rcases hp with⟨rfl,hR3⟩|⟨rfl,hs3⟩
 ·simp only[w1,RN,qA,qB,qC,qD,qE,qF]
  have hl3:=hkp.len
  simp only[List.length_append,List.length_cons,List.length_nil]at hl3
  refine⟨D.es.length - (i+1),_,by omega, .inl rfl,i+1,_,M3,rfl,by omega,rfl,by omega,hkp.fzb aeH,by rw[hpre,hstep,List.append_assoc];rfl,hR3⟩
 ·(try simp only[RN,qA,qB,qC,qD,qE,qF])
  exact hstop _ _ hs3
theorem afv (hok:D.Ok):Ans F.dK [BA f1 f2 e1 e2 D t, .slice false (ns.map ay)] (D.stands.map fun p=>(p.1:Int)) 0:=by
 have hsl:D.stands.length≤24:=Nat.le_trans (FQ _ _ _) hok.few
 by_cases hne:D.stands=[]
 ·refine EZ (by rw[hne];rfl) (gI (aF mixed rfl oq ?_))
  simp only[jw,jy,iG,List.not_mem_nil,RN,qA,qB,qC,qD,qE,qF]
  refine vG (RY e1 e2 hok.len (by have:=hok.few;omega) (fun x hx=>Fj (hok.formed x hx))) (fun _ h=>h) rfl (by kernel_rfl) (fun i hi=>by simp at hi;simp[hi]) (fun x hx=>by simp only[bV,List.mem_map]at hx;obtain⟨p,_,rfl⟩:=hx;rfl) (fun _ h=>h.elim) (fun _ _=>trivial)
   (fun pre M1=>M1.boxes[1]?=some (some [.d (.slice true [])])) ?_ rfl ?_ ?_
  ·intro pre M1 M2 hm h
   exact(hm.box 1 (by simp) id).trans h
  ·intro L cells pre x post M1 hx
   rw[bV,List.drop_zero,List.drop_zero,←Dk.stands,hne]at hx
   simp at hx
  ·rintro⟨bs1,fz1,ar1⟩ h hlt
   simp only at h
   simp only[h,RN,qA,qB,qC,qD,qE,qF]
   rfl
 ·refine gy (aF mixed rfl oq ?_)
  simp only[jw,jy,iG,List.not_mem_nil,RN,qA,qB,qC,qD,qE,qF]
  refine vG (RY e1 e2 hok.len (by have:=hok.few;omega) (fun x hx=>Fj (hok.formed x hx))) (fun _ h=>h) rfl (by kernel_rfl) (fun i hi=>by simp at hi;simp[hi]) (fun x hx=>by simp only[bV,List.mem_map]at hx;obtain⟨p,_,rfl⟩:=hx;rfl) (fun _ h=>h.elim) (fun _ _=>trivial)
   (fun pre M1=>∃l r c,D.stands=l++r∧pre=l.map qW∧M1.boxes[1]?=some (some [c])∧1∉M1.fz∧slN 1 true c (l.map fun p=> .int .i64 (p.1:Int)) M1.aA) ?_ ⟨[],D.stands,_,rfl,rfl,rfl,by simp, .inl ⟨rfl,rfl⟩⟩ ?_ ?_
  ·rintro pre M1 M2 hm ⟨l,r,c,q1,q2,q3,q4,q5⟩
   exact⟨l,r,c,q1,q2,(hm.box 1 (by simp) id).trans q3,fun e=>q4 ((hm.fz 1 (by simp) id).1 e),by rw[hm.aA];exact q5⟩
  ·rintro L cells pre x post ⟨bs1,fz1,ar1⟩ hx hlt hrec hnf ⟨l,r,c,q1,q2,q3,q4,q5⟩ M0
   simp only[List.length_cons,List.length_nil]at hlt hrec hnf q3 q4⊢
   obtain⟨p,r',rfl⟩:∃p r',r=p::r':=by
    cases r with
    |nil=>
     rw[bV,List.drop_zero,List.drop_zero,←Dk.stands,q1,q2]at hx
     have:=congrArg List.length hx
     simp at this
    |cons p r'=>exact⟨p,r',rfl⟩
   have hxp:x=qW p:=by
    rw[bV,List.drop_zero,List.drop_zero,←Dk.stands,q1,q2,List.map_append,List.map_cons]at hx
    exact(List.cons.inj (List.append_cancel_left hx)).1.symm
   subst hxp
   have hbl:1<bs1.length:=by omega
   have hlen:l.length≤24:=by have:=congrArg List.length q1;simp at this;omega
   simp only[qW,List.zip_cons_cons,List.zip_nil_left,List.map_cons,List.map_nil,q3,hbl,jZ,DV.strip,RN,qA,qB,qC,qD,qE,qF]
   refine VO q5 (by decide) (by intro y hy;simp only[List.mem_singleton]at hy;subst hy;rfl) (by simp) (by simp;omega) fun k ver st ar2 a1 a2 a3 a4 a5 a6=> ?_
   have hst:=a6 rfl
   subst hst
   simp only[q3,hbl,q4,bM,dN,zL,RN,qA,qB,qC,qD,qE,qF]
   exact⟨by rw[List.getElem?_set_ne (by omega)];exact hrec,hnf,Kept.RI (by omega) id a4 (fun _ h=>h.elim),l++ [p],r', .tsl k ver 0,by rw[q1];simp,by rw[q2];simp[qW],by simp[hbl], .inr ⟨k,ver,1,rfl,by rw[a2];simp,by decide,fun _=> .inl rfl⟩⟩
  ·rintro⟨bs1,fz1,ar1⟩ ⟨l,r,c,q1,q2,q3,q4,q5⟩ hlt
   simp only[List.length_cons,List.length_nil]at hlt q3
   have hr:r=[]:=by
    have:=congrArg List.length q2
    rw[bV,List.drop_zero,List.drop_zero,←Dk.stands,q1]at this
    simp at this
    exact this
   subst hr
   rw[List.append_nil]at q1
   have apD:l≠[]:=by rw[←q1];exact hne
   obtain⟨k,ver,st,rfl,hk,_,hst⟩:=ND q5 (by simpa using apD)
   have hst:=hst rfl
   subst hst
   simp only at hk
   have hbl:1<bs1.length:=by omega
   simp only[q3,hbl,bn,dG,RN,qA,qB,qC,qD,qE,qF]
   refine⟨_,rfl,k,ver,rfl,?_⟩
   rw[Vm (by rw[q1];simpa using apD)]
   simp only[hk,q1,List.map_map]
   rfl
end
end Go.Tel
namespace Go.Am
section
variable {C:Ctx}
def ZN (C:Ctx)(M:Mem)(args qs:List PV)(ds:List DV):Prop:=∀X w E vals,Sim C X w M E→aK w (away X M E) M E vals args→aQ w (away X (M.frz qs) E) vals ds
theorem adN {M:Mem}{p1 p2:PV}{d1 d2 y:DV}(h:dD M [p1,p2, .d y]=some [d1,d2,y]):ZN C M [.agg [p1,p2], .d y] [p1,p2, .d y] [.agg [d1,d2],y]:=by
 intro X w E vals hS hA
 cases hA with|cons h1 t1=>
 cases t1 with|cons h2 t2=>
 cases t2
 cases h1 with|agg hh=>
 rename_i vs
 generalize hvs:vs.toList=l at hh
 cases hh with|cons g1 u1=>
 cases u1 with|cons g2 u2=>
 cases u2
 have hd:=yZ (ps:=[p1,p2, .d y]) hS (.cons g1 (.cons g2 (.cons h2 .nil))) h (fun q hq=>hq)
 cases hd with|cons k1 v1=>
 cases v1 with|cons k2 v2=>
 cases v2 with|cons k3 v3=>
 cases v3
 exact .cons (.agg (by rw[hvs];exact .cons k1 (.cons k2 .nil))) (.cons k3 .nil)
theorem ah2 {f:FuncId}{args qs:List PV}{M:Mem}{ds ds':List DV}{r:PV}{rs:List Arr}(h:Pure C f ds' r rs)(hr:abL r=true)(has:rs.all nC=true){K:PV→Mem→Prop}{KP:DV→Mem→Prop}
  (hds:ZN C M args qs ds)(he:ds.map DV.strip=ds')(hK:K (r.shift M.aA.length) {M with aA:=M.aA++rs.map some}):SC C f args M K KP:=by
 subst he
 intro X w E vals hS hA
 have hS1:=pz hS qs
 have hd:=(hds X w E vals hS hA).strip
 refine(h (away X (M.frz qs) E) w vals hS.glob (fun b hb=> .inl (hS.iE b hb)) (fun b hb=>hS1.CV hb) hd).mono fun e w' he=> ?_
 obtain⟨v,E',rfl,hS',hF,hv⟩:=he
 have hst:∀A∈rs,A.st≠2:=fun A hm e=>by
  have hfl:=List.all_eq_true.1 has A hm
  simp only[nC,Bool.and_eq_true]at hfl
  rcases Bool.or_eq_true_iff.1 hfl.1 with h|h
  ·rw[e]at h;simp at h
  ·rw[e]at h;simp at h
 obtain⟨j1,j2,j3⟩:=MK hS (NC hS hS' hF has) hF hst
 exact⟨_,_,_,hK,j1,j2,TR hS.aY (fun b hb=>(j3 b).1 hb) (Zz hS' has hr hv)⟩
end
end Go.Am
namespace Go.Tel
open Go.Am
theorem amP {f:FuncId}{args qs:List PV}{M:Mem}{ds ds':List DV}{n:Int}{K:PV→Mem→Prop}{KP:DV→Mem→Prop}(h:Pure C f ds' (.d (DU n)) [])(hds:ZN C M args qs ds)(he:ds.map DV.strip=ds')(hK:K (.d (DU n)) M):SC C f args M K KP:=by
 subst he
 intro X w E vals hS hA
 have hS1:=pz hS qs
 have hd:=(hds X w E vals hS hA).strip
 refine(h (away X (M.frz qs) E) w vals hS.glob (fun b hb=> .inl (hS.iE b hb)) (fun b hb=>hS1.CV hb) hd).mono fun e w' he=> ?_
 obtain⟨v,E',rfl,hS',hF,hv⟩:=he
 obtain⟨j1,j2,j3⟩:=MK hS (NC hS hS' hF rfl) hF (by simp)
 exact⟨_,_,_,(by simpa using hK),j1,j2, .d (af4 hv.toD)⟩
theorem anw {f:FuncId}{args qs:List PV}{M:Mem}{ds ds':List DV}{l:List Int}{e:Int}{K:PV→Mem→Prop}{KP:DV→Mem→Prop}(h:Ans f ds' l e)(hds:ZN C M args qs ds)(he:ds.map DV.strip=ds')
  (hK:∀p c xa,(p= .tup [c, .d (.int .i64 e)]∨(p= .d (.tup [.slice true [], .int .i64 e])∧c= .d (.slice true [])))→slN 1 true c (l.map ay) (M.aA++xa)→(∀k,kOf c=some k→M.aA.length≤k)→K p ⟨M.boxes,M.fz,M.aA++xa⟩):SC C f args M K KP:=by
 rcases h with h|⟨rfl,h⟩
 ·refine ah2 h rfl ?_ hds he ?_
  ·simp only[List.all_cons,List.all_nil,Bool.and_true];exact Qu l
  ·refine hK _ (.tsl M.aA.length 0 0) [some ⟨1,l.map ay,0,Bq l⟩] (.inl ?_) (.inr ⟨_,0,Bq l,rfl,by simp,NG,fun _=> ?_⟩) (fun k hk=>by cases hk;exact Nat.le_refl _)
   ·simp[PV.shift,lW,X9]
   ·cases l with
    |nil=>exact .inr rfl
    |cons x l=>exact .inl rfl
 ·refine amP h hds he ?_
  have:=hK (.d (DU e)) (.d (.slice true [])) [] (.inr ⟨rfl,rfl⟩) (.inl ⟨rfl,rfl⟩) (fun k hk=>by cases hk)
  simpa using this
structure Qn where
 kind:Int
 ns:List Int
 deriving DecidableEq,Inhabited
def Qn.dv (x:Qn):DV:= .agg [.int .i64 x.kind, .slice false (x.ns.map ay)]
theorem am8 {x:Qn}:x.dv= .agg [.int .i64 x.kind, .slice false (x.ns.map ay)]:=by rw[Qn.dv]
def Qn.n (x:Qn)(i:Nat):Int:=x.ns.getD i default
def amL:List (ByteArray×Nat):=[(⟨#[104,97,110,100,115]⟩,0),(⟨#[115,116,111,99,107]⟩,0),(⟨#[111,112,101,110]⟩,0),(⟨#[112,114,105,99,101]⟩,1),(⟨#[110,101,101,100]⟩,3),(⟨#[111,102,102]⟩,2),(⟨#[119,114,111,110,103]⟩,0),(⟨#[119,111,114,107,115]⟩,1),(⟨#[100,97,116,101]⟩,1),(⟨#[99,117,116,115]⟩,1),(⟨#[99,111,105,110,115]⟩,0),(⟨#[115,116,97,110,100,115]⟩,0)]
def fwQ (k:Int):ByteArray:=(amL.getD (k - 1).toNat default).1
def Zg (k:Int):Nat:=(amL.getD (k - 1).toNat default).2
theorem ZW {k:Int}(h:1≤k∧k≤12):k=1∨k=2∨k=3∨k=4∨k=5∨k=6∨k=7∨k=8∨k=9∨k=10∨k=11∨k=12:=by omega
theorem apc {k:Int}(h:1≤k∧k≤12):aiA (jd (List.take 2 (List.drop ((k - 1).toNat*2) (List.map PV.d (Yw amL))))) (List.take 2 (List.drop ((k - 1).toNat*2) (List.map PV.d (Yw amL))))= .d (.agg [.str (fwQ k), .int .i64 (Zg k)])∧(k - 1).toNat*2+2≤(List.map PV.d (Yw amL)).length∧IntKind.i64.wrap (k - 1)=k - 1:=by
 rcases ZW h with rfl|rfl|rfl|rfl|rfl|rfl|rfl|rfl|rfl|rfl|rfl|rfl<;>exact⟨rfl,by decide,by decide⟩
theorem afT:Yw amL=[.str ⟨#[104,97,110,100,115]⟩, .int .i64 0, .str ⟨#[115,116,111,99,107]⟩, .int .i64 0, .str ⟨#[111,112,101,110]⟩, .int .i64 0, .str ⟨#[112,114,105,99,101]⟩, .int .i64 1, .str ⟨#[110,101,101,100]⟩, .int .i64 3, .str ⟨#[111,102,102]⟩, .int .i64 2, .str ⟨#[119,114,111,110,103]⟩, .int .i64 0, .str ⟨#[119,111,114,107,115]⟩, .int .i64 1, .str ⟨#[100,97,116,101]⟩, .int .i64 1, .str ⟨#[99,117,116,115]⟩, .int .i64 1, .str ⟨#[99,111,105,110,115]⟩, .int .i64 0, .str ⟨#[115,116,97,110,100,115]⟩, .int .i64 0]:=rfl
theorem aiF:Pure C F.uO [] (.d (.agg (Yw amL))) []:=by
 refine ah mixed rfl Po ?_
 simp only[D8,Es,afT,Nh,RN,qA,qB,qC,qD,qE,qF]
def anA (k:Int):FuncId:=([F.fB,F.dX,F.dW,F.fH,F.fM,F.gG,F.fD,F.fC,F.fK,F.fJ,F.fO,F.dK]:List FuncId).getD (k - 1).toNat default
def Dk.answer (D:Dk)(t:Sp)(q:Qn):List Int×Int:=
 if q.kind=1 then(ajp t.pc,0)else if q.kind=2 then(Yd t.dU,0)else if q.kind=3 then(sZ t.op t.pc.hands.length,0)
 else if q.kind=4 then(if inR (q.n 0) 0 (D.su.pc.hands.length - 1)then[PN D.su t (q.n 0).toNat]else[],if inR (q.n 0) 0 (D.su.pc.hands.length - 1)then 0 else 2)
 else if q.kind=5 then yE D t (q.n 0) (q.n 1) (q.n 2)
 else if q.kind=6 then(if inR (q.n 0) 0 (D.su.pc.hands.length - 1)&&inR (q.n 1) 1 D.su.days.length then[(zF t.pc (q.n 0) (t.tg.getD (q.n 0).toNat default) (t.turns (q.n 1))).1]else[],
  if inR (q.n 0) 0 (D.su.pc.hands.length - 1)&&inR (q.n 1) 1 D.su.days.length then(zF t.pc (q.n 0) (t.tg.getD (q.n 0).toNat default) (t.turns (q.n 1))).2 else 2)
 else if q.kind=7 then([zG D.su t D.su.days.length],0)
 else if q.kind=8 then(if inR (q.n 0) 1 D.su.days.length then(match zk D.JD ((D.su.days.length:Int)+1 - q.n 0).toNat (q.n 0)with|some d=>[d]|none=>[])else[],
  if inR (q.n 0) 1 D.su.days.length then(match zk D.JD ((D.su.days.length:Int)+1 - q.n 0).toNat (q.n 0)with|some _=>0|none=>5)else 2)
 else if q.kind=9 then(if inR (q.n 0) 1 D.su.days.length then[(V8 D.su.cal D.su.year.toNat (D.su.first+(q.n 0 - 1))).m,(V8 D.su.cal D.su.year.toNat (D.su.first+(q.n 0 - 1))).d]else[],if inR (q.n 0) 1 D.su.days.length then 0 else 2)
 else if q.kind=10 then([(D.su.dvd.cuts (q.n 0)).1.circle,(D.su.dvd.cuts (q.n 0)).1.turns,(D.su.dvd.cuts (q.n 0)).1.holes],(D.su.dvd.cuts (q.n 0)).2)
 else if q.kind=11 then([t.lX],0)
 else(D.stands.map fun p=>(p.1:Int),0)
theorem aiD (f1 f2 e1 e2:Bool){D:Dk}{t:Sp}(hok:D.Ok)(ht:KG D.su 24 t)(q:Qn)(hk:1≤q.kind∧q.kind≤12)(hn:q.ns.length=Zg q.kind):
  Ans (anA q.kind) [BA f1 f2 e1 e2 D t, .slice false (q.ns.map ay)] (D.answer t q).1 (D.answer t q).2:=by
 obtain⟨k,ns⟩:=q
 simp only at hk hn⊢
 rcases ZW hk with rfl|rfl|rfl|rfl|rfl|rfl|rfl|rfl|rfl|rfl|rfl|rfl
 ·exact alM _ _ _ _ _ ht
 ·exact akW _ _ _ _ _ ht
 ·exact ake _ _ _ _ _ ht
 ·exact anF _ _ _ _ _ hok ht hn
 ·exact aoP _ _ _ _ _ hok ht hn
 ·exact ap5 _ _ _ _ _ hok ht hn
 ·exact am5 _ _ _ _ _ hok ht
 ·exact am2 _ _ _ _ _ hok hn
 ·exact anI _ _ _ _ _ hok hn
 ·exact anG _ _ _ _ _ hok hn
 ·exact aoU _ _ _ _ _
 ·exact afv _ _ _ _ _ hok
end Go.Tel
namespace Go.Tel
open Go.Am
def Dk.ask (D:Dk)(q:Qn):List Int×Int:=
 if inR q.kind 1 12=false then([],2)else if q.ns.length≠Zg q.kind then([],2)else
  match D.state (-1)with
  |none=>([],7)
  |some t=>if(D.answer t q).2=0 then D.answer t q else([],(D.answer t q).2)
theorem fQ.same {s:Su}{a b mb:Nat}{cst cse:PV}{t:Sp}{M M':Mem}(h:fQ s a b mb cst cse t M)(hb:M'.boxes[b]?=M.boxes[b]?)(hm:M'.boxes[mb]?=M.boxes[mb]?)(ha:M'.aA=M.aA)(hf1:b∉M'.fz)(hf2:mb∉M'.fz)(hfz:FzB M'):fQ s a b mb cst cse t M':=
 {box:=hb.trans h.box
  map:=hm.trans h.map
  r0:=by rw[ha];exact h.r0
  r1:=by rw[ha];exact h.r1
  r2:=by rw[ha];exact h.r2
  r3:=by rw[ha];exact h.r3
  r4:=by rw[ha];exact h.r4
  r5:=by rw[ha];exact h.r5
  stk:=by rw[ha];exact h.stk
  set:=by rw[ha];exact h.set
  kst:=h.kst,kse:=h.kse,dif:=h.dif,nb:=hf1,nm:=hf2,bm:=h.bm,fzb:=hfz}
theorem Frm.aoX {M:Mem}{bs':List (Option (List PV))}{fz':List Nat}{ar':List (Option Arr)}{y:Option (List PV)}{i:Nat}(h:Frm M ⟨bs',fz',ar'⟩)(hi:M.boxes.length≤i):Frm M ⟨bs'.set i y,fz',ar'⟩:=
 {len:=by have:=h.len;simp only[List.length_set]at this⊢;omega
  aY:=h.aY
  box:=fun j hj=>by
   have h2:=h.box j hj
   simp only at h2⊢
   rw[List.getElem?_set_ne (by omega)];exact h2
  fz:=h.fz
  row:=h.row
  fzb:=fun e j hj=>by have:=h.fzb e j hj;simp only[List.length_set]at this⊢;exact this}
theorem ala {D:Dk}{d:Nat}{ce cs:PV}{M:Mem}(h:AZ D d ce cs M)(hok:D.Ok){pb ab:Nat}(hp:M.boxes[pb]?=some (some [.ptr d 0]))(ha:M.boxes[ab]?=some (some [.d .nilPtr, .ptr d 0]))(haf:ab∉M.fz):
  SC C F.oM [.ptr pb 0, .ptr ab 0] M
   (fun _ M'=>∃t b mb a cst cse bs1 fz1 ar1,D.state (-1)=some t∧fQ D.su a b mb cst cse t ⟨bs1,fz1,ar1⟩∧Frm M ⟨bs1,fz1,ar1⟩∧M.boxes.length≤b∧M.boxes.length≤mb∧M'=⟨bs1.set ab (some [.ptr b 0, .ptr d 0]),fz1,ar1⟩)
   (fun dd M'=>D.state (-1)=none∧OW dd∧Frm M M'):=by
 have h0:=h
 obtain⟨bs,fz,ar⟩:=M
 simp only at hp ha haf
 have hpl:pb<bs.length:=(List.getElem?_eq_some_iff.1 hp).1
 have hal:ab<bs.length:=(List.getElem?_eq_some_iff.1 ha).1
 refine aF mixed rfl F8 ?_
 simp only[tq,uj,hp,hpl,RN,qA,qB,qC,qD,qE,qF]
 refine SC.mono (SE h0 hok (-1)) ?_
 rintro v ⟨bs1,fz1,ar1⟩ ⟨t,b,mb,a,cst,cse,rfl,g1,g2,g3,g4,g5,g6⟩
 have ha1:bs1[ab]?=some (some [.d .nilPtr, .ptr d 0]):=(g3.box ab hal).trans ha
 have apr:ab<bs1.length:=(List.getElem?_eq_some_iff.1 ha1).1
 have aqn:ab∉fz1:=fun e=>haf ((g3.fz ab hal).1 e)
 simp only[ha1,apr,aqn,Di,Nr,RN,qA,qB,qC,qD,qE,qF]
 exact⟨t,b,mb,a,cst,cse,bs1,fz1,ar1,g1,g2,g3,g4,g5,rfl⟩
theorem anB {k:Int}(h:1≤k∧k≤12):(List.map PV.d [DV.func (.func F.fB) [] [], .func (.func F.dX) [] [], .func (.func F.dW) [] [], .func (.func F.fH) [] [], .func (.func F.fM) [] [], .func (.func F.gG) [] [], .func (.func F.fD) [] [], .func (.func F.fC) [] [], .func (.func F.fK) [] [], .func (.func F.fJ) [] [], .func (.func F.fO) [] [], .func (.func F.dK) [] []]).getD (k - 1).toNat .dead= .d (.func (.func (anA k)) [] [])∧callable C.P (anA k)=true:=by
 rcases ZW h with rfl|rfl|rfl|rfl|rfl|rfl|rfl|rfl|rfl|rfl|rfl|rfl<;>exact⟨rfl,by kernel_rfl⟩
theorem anp {D:Dk}{d:Nat}{ce cs:PV}{M:Mem}(h:AZ D d ce cs M)(hok:D.Ok)(q:Qn){KP:DV→Mem→Prop}:
  SC C F.sG [.ptr d 0, .d q.dv] M (fun p M'=>∃c,(p= .tup [c, .d (.int .i64 (D.ask q).2)]∨(p= .d (.tup [.slice true [], .int .i64 (D.ask q).2])∧c= .d (.slice true [])))∧slN 1 true c ((D.ask q).1.map ay) M'.aA∧(∀k,kOf c=some k→M.aA.length≤k)∧Frm M M') KP:=by
 obtain⟨bs,fz,ar⟩:=M
 have hbox:=h.box
 rw[jg]at hbox
 simp only at hbox
 have hdl:d<bs.length:=(List.getElem?_eq_some_iff.1 hbox).1
 have KX:∀i∈fz,i<bs.length:=h.fzb
 have hn0:bs.length∉fz:=fun e=>Nat.lt_irrefl _ (KX _ e)
 have hn1:∀k,bs.length+k∉fz:=fun k e=>by have:=KX _ e;omega
 have hb0:¬d=bs.length:=by omega
 have hb1:∀k,¬d=bs.length+k:=fun k=>by omega
 have hb2:∀k,d<bs.length+k:=fun k=>by omega
 have hs1:¬bs.length+1=bs.length:=by omega
 have hs2:¬bs.length+2=bs.length:=by omega
 have hs3:¬bs.length+2=bs.length+1:=by omega
 have hF2:Frm ⟨bs,fz,ar⟩ ⟨bs++ [some [.ptr d 0],some [.d (.int .i64 q.kind), .d (.slice false (q.ns.map ay))]],(bs.length+1)::fz,ar⟩:=Frm.new (xf:=[bs.length+1]) (by simp)
 obtain⟨e1,e2,hdt⟩:=Qp (h.frm hF2)
 refine aF mixed rfl Ja ?_
 simp only[wV,xJ,am8,hbox,hdl,aU,bG,aN,bI,bU,aP,List.append_assoc,List.length_append,Nat.add_assoc,List.length_set,hn0,hn1,hb0,hb1,hb2,hs1,hs2,hs3,Di,Nr,O9,RN,qA,qB,qC,qD,qE,qF]
 refine mg (Ql hdt) rfl (ab5 e1 e2 D) rfl ?_
 (try simp only[RN,qA,qB,qC,qD,qE,qF])
 refine au rfl rfl (Fq _ _ _) ?_
 cases hk:inR q.kind 1 12
 ·(try simp only[RN,qA,qB,qC,qD,qE,qF])
  have he:D.ask q=([],2):=by simp[Dk.ask,hk]
  rw[he]
  exact⟨_, .inr ⟨rfl,rfl⟩, .inl ⟨rfl,rfl⟩,(fun k hk=>by cases hk),hF2⟩
 have hk':1≤q.kind∧q.kind≤12:=by simpa[inR]using hk
 simp only[List.length_map,RN,qA,qB,qC,qD,qE,qF]
 refine au rfl rfl aiF ?_
 obtain⟨a1,a2,a3⟩:=apc hk'
 simp only[a3,a1,RN,qA,qB,qC,qD,qE,qF]
 refine⟨by omega,by omega,a2,?_⟩
 by_cases hn:q.ns.length=Zg q.kind
 case neg=>
  have hb:((q.ns.length:Int) !=(Zg q.kind:Int))=true:=by simp;omega
  simp only[hb,RN,qA,qB,qC,qD,qE,qF]
  have he:D.ask q=([],2):=by simp[Dk.ask,hk,hn]
  rw[he]
  exact⟨_, .inr ⟨rfl,rfl⟩, .inl ⟨rfl,rfl⟩,(fun k hk=>by cases hk),hF2⟩
 have hb:((q.ns.length:Int) !=(Zg q.kind:Int))=false:=by simp[hn]
 simp only[hb,aU,bG,aN,bI,bU,aP,List.append_assoc,List.length_append,Nat.add_assoc,List.length_set,hn0,hn1,hb0,hb1,hb2,hs1,hs2,hs3,Di,Nr,O9,ahm,pJ,Option.map_none,eP,jr,IV,RN,qA,qB,qC,qD,qE,qF]
 refine⟨rfl,?_⟩
 obtain⟨B,hB⟩:∃B,B=bs++ [some [.ptr d 0],some [.d (.int .i64 q.kind), .d (.slice false (q.ns.map ay))],some [.d .nilPtr, .ptr d 0]]:=⟨_,rfl⟩
 obtain⟨Z,hZ⟩:∃Z,Z=(bs.length+1)::fz:=⟨_,rfl⟩
 have hBl:B.length=bs.length+3:=by rw[hB];simp
 have hBp:B[bs.length]?=some (some [.ptr d 0]):=by rw[hB,aN rfl];rfl
 have hBa:B[bs.length+2]?=some (some [.d .nilPtr, .ptr d 0]):=by rw[hB,bG rfl];rfl
 have hF3:Frm ⟨bs,fz,ar⟩ ⟨B,Z,ar⟩:=by rw[hB,hZ];exact Frm.new (xf:=[bs.length+1]) (by simp)
 have hZa:bs.length+2∉Z:=by
  rw[hZ];intro e
  rcases List.mem_cons.1 e with e|e
  ·omega
  ·exact hn1 _ e
 simp only[←hB,←hZ]
 have hF4:Frm ⟨B,Z,ar⟩ ⟨B++ [some [.d (.int .i64 0)]],Z,ar⟩:=Frm.new (xf:=[]) (by simp)
 have aeE:=hF3.trans hF4
 have z0:((0:Int) !=0)=false:=rfl
 have z7:((7:Int) !=0)=true:=rfl
 refine VK (fs:=[]) (cs:=[.ptr bs.length 0, .ptr (bs.length+2) 0]) (hF3.fzb h.fzb) (by kernel_rfl) ?_
 refine SC.oh (SC.mono (ala (h.frm aeE) hok (pb:=bs.length) (ab:=bs.length+2) ?_ ?_ hZa) ?_) ?_
 ·simp only;rw[List.getElem?_append_left (by omega)];exact hBp
 ·simp only;rw[List.getElem?_append_left (by omega)];exact hBa
 ·rintro v M' ⟨t,b,mb,a,cst,cse,bs1,fz1,ar1,g1,g2,g3,g4,g5,rfl⟩
  simp only[List.length_append,List.length_cons,List.length_nil]at g4 g5
  have hF5:=aeE.trans g3
  have hl1:=g3.len
  simp only[List.length_append,List.length_cons,List.length_nil]at hl1
  have he5:bs1[B.length]?=some (some [.d (.int .i64 0)]):=by
   have:=g3.box B.length (by simp)
   simp only at this
   rw[this,aN rfl];rfl
  have hef:B.length∉fz1:=fun e=>by
   have:=(g3.fz B.length (by simp)).1 e
   simp only at this
   have h5:=hF3.fzb h.fzb _ this
   simp only at h5;omega
  obtain⟨B1,hB1⟩:∃B1,B1=bs1.set (bs.length+2) (some [.ptr b 0, .ptr d 0]):=⟨_,rfl⟩
  have arx:B1.length=bs1.length:=by rw[hB1];simp
  have aqj:B1[bs.length+2]?=some (some [.ptr b 0, .ptr d 0]):=by rw[hB1,List.getElem?_set_self (by omega)]
  have aqk:B1[B.length]?=some (some [.d (.int .i64 0)]):=by rw[hB1,List.getElem?_set_ne (by omega)];exact he5
  have hF6:Frm ⟨bs,fz,ar⟩ ⟨B1,fz1,ar1⟩:=by rw[hB1];exact hF5.aoX (by simp only;omega)
  have hfz1:FzB ⟨B1,fz1,ar1⟩:=hF6.fzb h.fzb
  have hm0:B1.length∉fz1:=fun e=>Nat.lt_irrefl _ (hfz1 _ e)
  rw[←hB1]
  refine⟨aqk,hef,?_⟩
  have hal:bs.length+2<B1.length:=by omega
  have jk:0≤q.kind - 1:=by omega
  have jk2:q.kind - 1<12:=by omega
  have jk3:(q.kind - 1).toNat+1≤12:=by omega
  obtain⟨hfn,hfc⟩:=anB hk'
  simp only[List.map_cons,List.map_nil]at hfn
  simp only[z0,Nh,aU,aN,aP,hm0,aqj,hal,List.length_append,a3,Nat.zero_add,Nat.mul_one,RN,qA,qB,qC,qD,qE,qF]
  refine⟨rfl,by omega,by omega,by omega,by omega,by omega,?_⟩
  rw[hfn]
  simp only[pJ,Option.map_none,eP,dV,RN,qA,qB,qC,qD,qE,qF]
  refine⟨hfc,?_⟩
  obtain⟨X,hX⟩:∃X,X=[some [PV.d (DV.func (Fn.func F.fB) [] []),PV.d (DV.func (Fn.func F.dX) [] []),PV.d (DV.func (Fn.func F.dW) [] []),PV.d (DV.func (Fn.func F.fH) [] []),PV.d (DV.func (Fn.func F.fM) [] []),PV.d (DV.func (Fn.func F.gG) [] []),PV.d (DV.func (Fn.func F.fD) [] []),PV.d (DV.func (Fn.func F.fC) [] []),PV.d (DV.func (Fn.func F.fK) [] []),PV.d (DV.func (Fn.func F.fJ) [] []),PV.d (DV.func (Fn.func F.fO) [] []),PV.d (DV.func (Fn.func F.dK) [] [])]]:=⟨_,rfl⟩
  simp only[←hX]
  have hF7:Frm ⟨bs,fz,ar⟩ ⟨B1++X,fz1,ar1⟩:=hF6.trans (Frm.new (xf:=[]) (by simp))
  have hbm:b<bs1.length∧mb<bs1.length:=⟨(List.getElem?_eq_some_iff.1 g2.box).1,(List.getElem?_eq_some_iff.1 g2.map).1⟩
  have hs7:fQ D.su a b mb cst cse t ⟨B1++X,fz1,ar1⟩:=g2.same (by
    simp only
    rw[List.getElem?_append_left (by omega),hB1,List.getElem?_set_ne (by omega)]) (by
    simp only
    rw[List.getElem?_append_left (by omega),hB1,List.getElem?_set_ne (by omega)]) rfl g2.nb g2.nm (hF7.fzb h.fzb)
  obtain⟨f1,f2,hst⟩:=adt hs7
  obtain⟨d1,d2,hdk⟩:=Qp (h.frm hF7)
  have hin:=hok.adx g1
  have hA:=aiD f1 f2 d1 d2 hok hin q hk' hn
  have hL:dD ⟨B1++X,fz1,ar1⟩ [.ptr b 0, .ptr d 0, .d (.slice false (q.ns.map ay))]=some [.aX (t.cells f1 f2 D.su),yA d1 d2 D, .slice false (q.ns.map ay)]:=by
   simp only[dD,hst,hdk];rfl
  have hask:D.ask q=if(D.answer t q).2=0 then D.answer t q else([],(D.answer t q).2):=by
   simp only[Dk.ask,hk,hn,g1];simp
  rw[hask]
  generalize D.answer t q=r at*
  obtain⟨l,e⟩:=r
  simp only at hA⊢
  refine anw (ds:=[BA f1 f2 d1 d2 D t, .slice false (q.ns.map ay)]) hA (adN hL) rfl fun p c xa hp hs hk2=> ?_
  have hF8:Frm ⟨bs,fz,ar⟩ ⟨B1++X,fz1,ar1++xa⟩:=hF7.trans (by have:=Frm.ext (bs:=B1++X) (xb:=[]) (fz:=fz1) (xf:=[]) (ar:=ar1) (xa:=xa) (by simp);simpa using this)
  have hk3:∀k,kOf c=some k→ar.length≤k:=fun k hk=>Nat.le_trans hF7.aY (hk2 k hk)
  by_cases hr:e=0
  ·subst hr
   simp only[if_true]
   rcases hp with rfl|⟨rfl,rfl⟩
   ·rcases hs with⟨rfl,hl⟩|⟨k,ver,st,rfl,hl⟩
    ·simp only[DC,DF,z0,RN,qA,qB,qC,qD,qE,qF]
     exact⟨_, .inr rfl, .inl ⟨rfl,hl⟩,hk3,hF8⟩
    ·simp only[DC,DF,z0,bn,dG,RN,qA,qB,qC,qD,qE,qF]
     exact⟨_, .inl rfl, .inr ⟨k,ver,st,rfl,hl⟩,hk3,hF8⟩
   ·simp only[z0,RN,qA,qB,qC,qD,qE,qF]
    exact⟨_, .inr rfl,hs,hk3,hF8⟩
  ·have hz:(e !=0)=true:=by simp[hr]
   rw[if_neg hr]
   rcases hp with rfl|⟨rfl,rfl⟩
   ·simp only[DC,DF,hz,RN,qA,qB,qC,qD,qE,qF]
    exact⟨_, .inr rfl, .inl ⟨rfl,rfl⟩,(fun k hk=>by cases hk),hF8⟩
   ·simp only[hz,RN,qA,qB,qC,qD,qE,qF]
    exact⟨_, .inr rfl, .inl ⟨rfl,rfl⟩,(fun k hk=>by cases hk),hF8⟩
 ·rintro dd ⟨bs',fz',ar'⟩ ⟨g1,g2,g3⟩
  have hF5:=aeE.trans g3
  have hl5:=g3.len
  simp only[List.length_append,List.length_cons,List.length_nil]at hl5
  have he5:bs'[B.length]?=some (some [.d (.int .i64 0)]):=by
   have:=g3.box B.length (by simp)
   simp only at this
   rw[this,aN rfl];rfl
  have hef:B.length∉fz':=fun e=>by
   have:=(g3.fz B.length (by simp)).1 e
   simp only at this
   have h5:=hF3.fzb h.fzb _ this
   simp only at h5;omega
  have aju:=hF5.fzb h.fzb
  have hm0:bs'.length∉fz':=fun e=>Nat.lt_irrefl _ (aju _ e)
  have he:D.ask q=([],7):=by simp[Dk.ask,hk,hn,g1]
  refine⟨he5,hef,hm0, .inl ⟨g2,fun y=> ?_⟩⟩
  rw[he]
  simp only[z7,RN,qA,qB,qC,qD,qE,qF]
  have hF6:Frm ⟨bs,fz,ar⟩ ⟨(bs'++ [y]).set B.length (some [.d (.int .i64 7)]),fz',ar'⟩:=hF5.akC (by simp only;omega)
  exact⟨_, .inr rfl, .inl ⟨rfl,rfl⟩,(fun k hk=>by cases hk),hF6⟩
end Go.Tel
namespace Go.Proofs
open Go.Shelf Go.RowKit Go.Lib
theorem Tryz.joinExtra:Builder.Extra Tryz.prog Tryz.laysJoin_ren:={
 sizeBuilder:=by kernel_rfl
 liesBuilder:=by kernel_rfl
 t5:=by kernel_rfl
 a5:=Tryz.isAgg5
 z5:=Tryz.sizeOf5
 v5:=Tryz.zeroValue5
 infoByte:=by kernel_rfl
 cellsByte:=by kernel_rfl
 sizeByte:=by kernel_rfl
 neB5:=by decide}
section
variable {P:Program}{ρ:Ren}
theorem ah9 (L:Lays.n146 P ρ)(hi9:(P.info? (ρ.t 9)).map (fun i=>(i.zero,i.size,i.bytes))=some (some (.string ByteArray.empty),1,16))(s:ByteArray)(ch:UInt8)(w:World)(hs:s.size<4294967281):
  Calls P (ρ.f 146) #[.string s, .string ⟨#[ch]⟩] w fun e w'=>
   e= .returned (.slice (some ⟨w.heap.size,0,none⟩) (Lib.countB s ⟨#[ch]⟩+1) (Lib.countB s ⟨#[ch]⟩+1))∧w'=w.alloc (.cells ((Lib.splitB ⟨#[ch]⟩ 0 (Lib.countB s ⟨#[ch]⟩) s).map Value.string).toArray (ρ.t 9)):=by
 have h1:1≤(⟨#[ch]⟩:ByteArray).size:=Nat.le_refl _
 have hle:=Lib.countB_le ⟨#[ch]⟩ h1 s.size s (Nat.le_refl _)
 have hlen:=Lib.splitB_all ⟨#[ch]⟩ h1 0 _ s rfl
 have c:=Any.strings_genSplit_core {L with} hi9 s ⟨#[ch]⟩ 0 (-1) (Lib.countB s ⟨#[ch]⟩+1) w hs h1 (Nat.zero_le _)
  (fun x cs _=>(Any.strings_Index_one {L with} x ch _).mono fun e w' ⟨he,hw⟩=>⟨by rw[he];show _=Ending.returned (Value.int .i64 (Lib.index x.data.toList [ch]));rw[Lib.index_one],hw⟩)
  ((Any.strings_Count_one {L with} s ch w).mono fun e w' ⟨he,hw⟩=>⟨by rw[he];show _=Ending.returned (Value.int .i64 ((Lib.count s.data.toList [ch]:Nat):Int));rw[Lib.count_one];rfl,hw⟩)
  (by decide) (by decide) (by rw[if_pos (by decide)];omega)
 rw[Nat.add_sub_cancel,hlen]at c
 have e2:Lib.cellsOf (Lib.splitB ⟨#[ch]⟩ 0 (Lib.countB s ⟨#[ch]⟩) s) (Lib.countB s ⟨#[ch]⟩+1)=((Lib.splitB ⟨#[ch]⟩ 0 (Lib.countB s ⟨#[ch]⟩) s).map Value.string).toArray:=by rw[←hlen];exact Lib.cellsOf_full _
 rw[e2]at c
 have t3:=L.t3;have t9:=L.t9;have t31:=L.t31
 have a3:=L.a3;have a9:=L.a9;have a31:=L.a31
 have z3:=L.z3;have v3:=L.v3;have z9:=L.z9;have v9:=L.v9;have z31:=L.z31;have v31:=L.v31
 have e221:∀args w,(callFunc (ρ.f 221) args).run P w= .ok (.enter (ρ.f 221) args) w:=enters_of L.f221 (by kernel_rfl) rfl
 go_enter L.f146,Body.n146_ntmps ρ
 go_wp2_with (go_at_fn (ρ.f 221);refine c.mono ?_;rintro e w' ⟨rfl,hw⟩;rw[hw])
 go_ret
 exact⟨rfl,rfl⟩
end
end Go.Proofs
namespace Go.Tel
open Go.Am
def jQ (s:ByteArray)(c:UInt8):List ByteArray:=Go.Lib.splitB ⟨#[c]⟩ 0 (Go.Lib.countB s ⟨#[c]⟩) s
theorem Qa (s:ByteArray)(c:UInt8):(jQ s c).length=Go.Lib.countB s ⟨#[c]⟩+1:=Go.Lib.splitB_all ⟨#[c]⟩ (Nat.le_refl _) 0 _ s rfl
theorem Zy {w:World}{O:Nat→Prop}:∀xs:List ByteArray,aQ w O (xs.map Value.string) (xs.map DV.str)
 | []=> .nil
 |x::xs=> .cons (.str _) (Zy xs)
theorem SH:∀xs:List ByteArray,flat (xs.map DV.str)=xs.map DV.str
 | []=>rfl
 |x::xs=>by
  have:=SH xs
  simp only[flat]at this⊢
  simp only[List.map_cons,List.flatMap_cons,this]
  rfl
theorem ak5 (s:ByteArray)(c:UInt8)(hs:s.size≤1000000):Am.Pure Go.Tel.C F.strings_Split [.str s, .str ⟨#[c]⟩] (.d (.slice false ((jQ s c).map .str))) []:=by
 refine uh fun X w vals hG hx hr=> ?_
 cases hr with|cons h1 t1=>
 cases t1 with|cons h2 t2=>
 cases t2
 cases h1
 cases h2
 refine(Go.Proofs.ah9 Go.Proofs.Tryz.laysSplit (by kernel_rfl) s c w (by omega)).mono ?_
 rintro e w' ⟨rfl,rfl⟩
 refine⟨_,rfl,Later.alloc w _,?_⟩
 refine .slice (sz:=1) (T:=Go.Proofs.Tryz.laysSplit_ren.t 9) (fz:=(0,0)) (cs:=((jQ s c).map Value.string).toArray) ?_ (fun h=>Nat.lt_irrefl _ (hx _ h)) (by simp[Qa]) (by intro x hx;obtain⟨y,_,rfl⟩:=List.mem_map.1 hx;rfl) (Nat.le_refl _) (fun h=>by cases h) ?_
 ·show(w.heap.push _)[w.heap.size]?=_
  rw[Array.getElem?_push_size];rfl
 ·rw[SH]
  simp only[List.drop_zero,Nat.mul_one]
  rw[List.take_of_length_le (by simp[Qa])]
  exact Zy _
theorem anr (n:Int)(h0: -9223372036854775808≤n)(h1:n≤9223372036854775807):Am.Pure Go.Tel.C F.strconv_Itoa [.int .i64 n] (.d (.str ⟨(Go.Lib.itoa n).toArray⟩)) []:=by
 refine uh fun X w vals hG hx hr=> ?_
 cases hr with|cons h2 t2=>
 cases t2
 cases h2
 refine(Go.Proofs.Any.strconv_Itoa Go.Proofs.Tryz.laysItoa n h0 h1 w hG).mono ?_
 rintro e w' ⟨rfl,k,os,rfl⟩
 exact⟨_,rfl,⟨rfl,rfl,rfl,by simp[Go.Sort.grow],fun b hb=>by simp only[Go.Sort.grow];rw[Array.getElem?_append_left (by exact hb)];rfl⟩, .str _⟩
def af0 (xs:List ByteArray)(sep:ByteArray):ByteArray:=⟨(Go.Lib.join (xs.map (·.data.toList)) sep.data.toList).toArray⟩
theorem OC {w:World}{O:Nat→Prop}:∀{vs:List Value} {xs:List ByteArray},aQ w O vs (xs.map DV.str)→vs=xs.map Value.string
 | _,[], .nil=>rfl
 | _,x::xs, .cons h t=>by
  cases h
  rw[OC t]
  rfl
end Go.Tel
namespace Go.Am
section
variable {C:Ctx}{base:Nat}{M:Mem}{K:PV→Mem→Prop}{KP:DV→Mem→Prop}
theorem gX {op:BinOp}{a b:ByteArray}{K:DV→Prop}:Ub op (.d (.str a)) (.d (.str b)) K=FX op a b K:=propext ⟨id,id⟩
theorem pG {a b:ByteArray}{K:DV→Prop}:FX .add a b K=(a.size+b.size≤9223372036854775807∧K (.str (a++b))):=propext ⟨id,id⟩
theorem NH {a b:ByteArray}{K:DV→Prop}:FX .eql a b K=K (.bool (a.toList==b.toList)):=propext ⟨id,id⟩
theorem aaX {a b:ByteArray}{K:DV→Prop}:FX .neq a b K=K (.bool (!(a.toList==b.toList))):=propext ⟨id,id⟩
end
end Go.Am
namespace Go.Tel
open Go.Am
theorem size_data (b:ByteArray):b.data.toList.length=b.size:=Array.length_toList
theorem ant (xs:List ByteArray)(sep:ByteArray)(hN:xs.length≤1000000)(hl:(Go.Lib.join (xs.map (·.data.toList)) sep.data.toList).length≤1000000000):
  Am.Pure Go.Tel.C F.strings_Join [.slice false (xs.map .str), .str sep] (.d (.str (af0 xs sep))) []:=by
 refine uh fun X w vals hG hx hr=> ?_
 cases hr with|cons h1 t1=>
 cases t1 with|cons h3 t2=>
 cases t2
 cases h3
 generalize hys:xs.map DV.str=ys at h1
 cases h1 with
 |empty=>
  rw[List.map_eq_nil_iff]at hys
  subst hys
  refine(Go.Proofs.Any.strings_Join_none Go.Proofs.Tryz.laysJoin Go.Proofs.Tryz.joinExtra _ _ sep w).mono ?_
  rintro e w' ⟨rfl,rfl⟩
  exact⟨_,rfl,Later.refl _, .str _⟩
 |slice hb ho hlen hs hc hx' hrow=>
 rename_i blk off len cap sz cs T fz
 subst hys
 rw[List.length_map]at hlen
 subst hlen
 by_cases hz:xs=[]
 ·subst hz
  refine(Go.Proofs.Any.strings_Join_none Go.Proofs.Tryz.laysJoin Go.Proofs.Tryz.joinExtra _ _ sep w).mono ?_
  rintro e w' ⟨rfl,rfl⟩
  exact⟨_,rfl,Later.refl _, .str _⟩
 have hsz:sz=1:=by
  obtain⟨x0,l,rfl⟩:∃x0 l,xs=x0::l:=by
   cases xs with
   |nil=>exact absurd rfl hz
   |cons a t=>exact⟨a,t,rfl⟩
  rw[←hs (.str x0) (by simp)];rfl
 subst hsz
 rw[SH,Nat.mul_one]at hrow
 have hrw:=OC hrow
 refine(Go.Proofs.Any.strings_Join Go.Proofs.Tryz.laysJoin Go.Proofs.Tryz.joinExtra blk off cap xs sep w (fun j x hj=> ?_) (bT hb) (by omega) hc (by omega)).mono ?_
 ·have hj':j<xs.length:=(List.getElem?_eq_some_iff.1 hj).1
  rw[cell_of_row w blk (off+j) cs T fz hb]
  have:=congrArg (fun l=>l[j]?) hrw
  simp only[List.getElem?_take,hj',if_true,List.getElem?_drop,Array.getElem?_toList,List.getElem?_map,hj,Option.map_some]at this
  exact this
 ·rintro e w' ⟨rfl,hbe⟩
  exact⟨_,rfl,⟨hbe.os,hbe.tape,hbe.output,hbe.size,hbe.block⟩, .str _⟩
def eH (n:Int):ByteArray:=⟨(Go.Lib.itoa n).toArray⟩
def I64 (n:Int):Prop:= -9223372036854775808≤n∧n≤9223372036854775807
theorem OU {n:Int}(h:I64 n):Pure C F.strconv_Itoa [.int .i64 n] (.d (.str (eH n))) []:=anr n h.1 h.2
theorem DR {n:Int}(h:I64 n):(eH n).size≤21:=by
 have:=Go.Lib.itoa_length_le n h.1 h.2
 simpa[eH,ByteArray.size]using this
theorem Uw {B:Nat}(sep:UInt8):∀(r:List (List UInt8)),(∀x∈r,x.length≤B)→(Go.Lib.joinTail [sep] r).length≤r.length*(B+1)
 | [],_=>by simp[Go.Lib.joinTail]
 |x::r,h=>by
  have ih:=Uw sep r (fun y hy=>h y (List.mem_cons_of_mem _ hy))
  have hx:=h x List.mem_cons_self
  simp only[Go.Lib.joinTail,List.map_cons,List.flatten_cons,List.length_append,List.length_cons,List.length_nil]at ih⊢
  rw[Nat.succ_mul]
  omega
theorem join_le {B:Nat}(sep:UInt8)(xs:List (List UInt8))(h:∀x∈xs,x.length≤B):(Go.Lib.join xs [sep]).length≤xs.length*(B+1):=by
 cases xs with
 |nil=>simp[Go.Lib.join_nil]
 |cons x r=>
  rw[Go.Lib.join_cons,List.length_append,List.length_cons,Nat.succ_mul]
  have:=Uw sep r (fun y hy=>h y (List.mem_cons_of_mem _ hy))
  have:=h x List.mem_cons_self
  omega
theorem aeR (xs:List ByteArray)(c:UInt8):(af0 xs ⟨#[c]⟩).size=(Go.Lib.join (xs.map (·.data.toList)) [c]).length:=by
 unfold af0
 show(List.toArray _).size=_
 rw[List.size_toArray]
def Nk (ns:List Int):ByteArray:=af0 (ns.map eH) ⟨#[32]⟩
theorem WV {ns:List Int}(h:∀n∈ns,I64 n):(Go.Lib.join ((ns.map eH).map (·.data.toList)) [32]).length≤ns.length*22:=by
 have:=join_le (B:=21) 32 ((ns.map eH).map (·.data.toList)) (fun x hx=>by
  simp only[List.mem_map]at hx
  obtain⟨y,⟨n,hn,rfl⟩,rfl⟩:=hx
  rw[size_data];exact DR (h n hn))
 simpa using this
theorem Qz {ns:List Int}(h:∀n∈ns,I64 n):(Nk ns).size≤ns.length*22:=by
 rw[Nk,aeR];exact WV h
theorem O1 {s:ByteArray}:DV.cells (.str s)=[.str s]:=rfl
theorem ajl {s:ByteArray}:DV.fits 1 (.str s)=true:=rfl
theorem ab8 (ns:List Int)(hl:ns.length≤1000)(h:∀n∈ns,I64 n):Pure C F.oZ [.slice false (ns.map ay)] (.d (.str (Nk ns))) []:=by
 refine ah mixed rfl Lh ?_
 simp only[Af,Aw,List.length_map,RN,qA,qB,qC,qD,qE,qF]
 refine aT ns.length (fun i (v:Nat)=>⟨[(3, .tsl 0 v 0),(6, .d (.slice false (ns.map ay))),(7, .d (.int .i64 ns.length)),(8, .d (.int .i64 i))],⟨[],[],[some ⟨1,((ns.take i).map eH).map .str,v,0⟩]⟩⟩)
  (fun _ _=>True) 0 0 (Nat.zero_le _) rfl trivial (fun i v g1 _=> ?_) (fun v _=> ?_)
 ·obtain⟨g2,g3,g6⟩:=rng g1 (by omega)
  simp only[g2,g3,g1,getD_map,aV,Int.toNat_natCast,List.length_map,RN,qA,qB,qC,qD,qE,qF]
  refine au rfl rfl (OU (h _ (getD_mem g1))) ?_
  simp only[jZ,DV.strip,O1,ajl,forall_eq,List.length_map,RN,qA,qB,qC,qD,qE,qF]
  refine⟨by simp,by simp;omega,?_⟩
  simp only[g6,RN,qA,qB,qC,qD,qE,qF]
  refine lI (v+1) g1 ?_ trivial
  rw[dQ g1];simp
 ·simp only[Int.lt_irrefl,RN,qA,qB,qC,qD,qE,qF]
  rw[List.take_length]
  refine mg (wL (d:= .slice false ((ns.map eH).map .str)) (by simp[datum,Mem.row])) rfl (ant (ns.map eH) ⟨#[32]⟩ (by simp;omega) (by have:=WV h;simp only at this⊢;omega)) rfl ?_
  (try simp only[RN,qA,qB,qC,qD,qE,qF])
  rfl
def En.line (x:En):ByteArray:=fwE x.kind++⟨#[32]⟩++Nk x.ns
theorem GY {x:En}(h:x.formed=true):∀n∈x.ns,0≤n∧n≤9999:=by
 simp only[En.formed,Bool.and_eq_true,decide_eq_true_eq,List.all_eq_true]at h
 intro n hn
 simpa[inR]using h.2 n hn
theorem abO (k:Int):(fwE k).size≤6:=by
 unfold fwE
 have:∀p∈fmL,p.1.size≤6:=by decide
 by_cases h:(k - 1).toNat<fmL.length
 ·exact this _ (getD_mem h)
 ·rw[List.getD_eq_getElem?_getD,List.getElem?_eq_none (by omega)];decide
theorem ak9 (x:En):Pure C F.zo [x.dv] (.d (.tup [.str (if x.formed then x.line else⟨#[]⟩), .int .i64 (if x.formed then 0 else 2)])) []:=by
 have hf:=WT x
 rw[wO]at hf
 refine ah mixed rfl NU ?_
 simp only[BL,Cm,wO,RN,qA,qB,qC,qD,qE,qF]
 refine au rfl rfl hf ?_
 cases hfm:x.formed
 ·(try simp only[RN,qA,qB,qC,qD,qE,qF])
  rfl
 have hk:1≤x.kind∧x.kind≤6:=by
  simp only[En.formed,Bool.and_eq_true,inR,decide_eq_true_eq]at hfm
  omega
 have hbd:=GY hfm
 have hfew:=IQ hfm
 obtain⟨a1,a2,a3⟩:=am9 hk
 have hI:∀n∈x.ns,I64 n:=fun n hn=>by have:=hbd n hn;exact⟨by omega,by omega⟩
 have hjs:=Qz hI
 have hws:=abO x.kind
 have hs1:(⟨#[32]⟩:ByteArray).size=1:=rfl
 have hs2:(fwE x.kind++(⟨#[32]⟩:ByteArray)).size≤7:=by rw[ByteArray.size_append];omega
 (try simp only[RN,qA,qB,qC,qD,qE,qF])
 refine au rfl rfl aah ?_
 simp only[a3,a1,RN,qA,qB,qC,qD,qE,qF]
 refine⟨by omega,by omega,a2,?_⟩
 simp only[gX,pG,RN,qA,qB,qC,qD,qE,qF]
 refine⟨by omega,?_⟩
 refine au rfl rfl (ab8 x.ns (by omega) hI) ?_
 simp only[gX,pG,RN,qA,qB,qC,qD,qE,qF]
 refine⟨by omega,?_⟩
 rfl
end Go.Tel
namespace Go.Am
section
variable {C:Ctx}{base:Nat}{L:PV→Mem→Prop}{KP:DV→Mem→Prop}{bs:List (Option (List PV))}{fz:List Nat}{ar:List (Option Arr)}
theorem alC {i:Nat}{s:ByteArray}:aj C base (.rngS i) [.d (.str s)] ⟨bs,fz,ar⟩ L KP=(bs[base+i]?=some none∧L (.DN (base+i)) ⟨bs.set (base+i) (some [.KE s 0]),fz,ar⟩):=propext ⟨id,id⟩
theorem aev {b pos c n:Nat}{s:ByteArray}(h:bs[b]?=some (some [.KE s pos]))(hf:b∉fz)(hp:pos<s.size)(hd:Utf8.decode s pos=(c,n))(hK:L (.d (.tup [.bool true, .int .i64 pos, .int .i32 c])) ⟨bs.set b (some [.KE s (pos+n)]),fz,ar⟩):
  aj C base .acw [.DN b] ⟨bs,fz,ar⟩ L KP:=by
 simp only[aj,Mem.box,h,hd]
 exact⟨hf,by rw[if_pos hp];exact hK⟩
theorem abK {b pos:Nat}{s:ByteArray}(h:bs[b]?=some (some [.KE s pos]))(hf:b∉fz)(hp:¬pos<s.size)(hK:L (.d (.tup [.bool false])) ⟨bs,fz,ar⟩):
  aj C base .acw [.DN b] ⟨bs,fz,ar⟩ L KP:=by
 simp only[aj,Mem.box,h]
 exact⟨hf,by rw[if_neg hp];exact hK⟩
theorem aew {sz:Nat}{M:Mem}{K:PV→Mem→Prop}{xs:List DV}{k:IntKind}{n:Int}(hs:∀x∈xs,x.cells.length=sz)(h0:0≤n)(h1:n≤xs.length):
  aj C base (.RU sz true false false) [.d (.slice false xs), .d (.int k n)] M K KP=K (.d (.slice false (xs.drop n.toNat))) M:=by
 simp only[aj,Df,dI,Option.getD_some,Option.getD_none,Int.toNat_natCast,List.take_length,Bool.false_and,Bool.or_false]
 refine propext ⟨fun h=>h.2.2.2.2.2.2,fun h=>⟨trivial,hs,h0,h1,Int.le_refl _,fun m' hm=>hm,h⟩⟩
theorem ajc {M:Mem}{K:PV→Mem→Prop}{neq:Bool}{a c:ByteArray}{b d:Int}:aj C base (.Qg neq [2,1]) [.d (.agg [.str a, .int .i64 b]), .d (.agg [.str c, .int .i64 d])] M K KP=K (.d (.bool (((a.toList==c.toList)&&(b==d)) !=neq))) M:=by
 rw[afQ (t:=(a.toList==c.toList)&&(b==d))];simp[dB]
end
end Go.Am
namespace Go.Tel
open Go.Am
theorem amS (xs:List ByteArray):∀y∈xs.map DV.str,y.cells.length=1:=by
 intro y hy;obtain⟨n,_,rfl⟩:=List.mem_map.1 hy;rfl
theorem apd {p:ByteArray×Nat}:aeC p= .agg [.str p.1, .int .i64 (p.2:Int)]:=rfl
def wU (s:ByteArray)(n:Nat)(p:ByteArray×Nat):Bool:=(s.toList==p.1.toList)&&((n:Int)==(p.2:Int))
theorem abZ (l:List (ByteArray×Nat))(hl:l.length≤1000)(s:ByteArray)(n:Nat):Pure C F.jA [.slice false (l.map aeC), .agg [.str s, .int .i64 (n:Int)]] (.d (.int .i64 (nG (wU s n) l 0))) []:=by
 refine ah mixed rfl yB ?_
 simp only[l7,l9,List.length_map,RN,qA,qB,qC,qD,qE,qF]
 refine aT l.length (fun i (_:Unit)=>⟨[(0, .d (.slice false (l.map aeC))),(3, .d (.aX [.str s, .int .i64 (n:Int)])),(7, .d (.int .i64 l.length)),(8, .d (.int .i64 i))],⟨[some [.d (.str s), .d (.int .i64 (n:Int))]],[0],[]⟩⟩)
  (fun i _=>nG (wU s n) l 0=nG (wU s n) (l.drop i) i) 0 () (Nat.zero_le _) rfl rfl (fun i _ h1 hix=> ?_) (fun _ hix=> ?_)
 ·obtain⟨h2,h3,h6⟩:=rng h1 (by omega)
  rw[drop_cons h1,nG]at hix
  simp only[h2,h3,h1,getD_map,Int.toNat_natCast,List.length_map,apd,ajc,afK,RN,qA,qB,qC,qD,qE,qF]
  cases h4:wU s n (l.getD i default)
  ·rw[if_neg (fun h=>by rw[h4]at h;cases h)]at hix
   rw[wU]at h4
   simp only[h4,h6,RN,qA,qB,qC,qD,qE,qF]
   exact lI () h1 rfl hix
  ·rw[if_pos h4]at hix
   rw[wU]at h4
   simp only[h4,RN,qA,qB,qC,qD,qE,qF]
   rw[hix]
 ·rw[List.drop_length,nG]at hix
  simp only[Int.lt_irrefl,hix,RN,qA,qB,qC,qD,qE,qF]
theorem zX {b:Bool}{s:ByteArray}{M:Mem}{K:PV→Mem→Prop}{KP:DV→Mem→Prop}(hK:b=true→K (.d (.tup [])) M)(hP:b=false→∀d,VR d→KP d M):SC C F.nY [.d (.bool b), .d (.str s)] M K KP:=by
 refine Go.Am.X7 (ds:=[.bool b, .str s]) (Kr:=fun x=>b=true∧x= .tup []) (Kp:=fun d=>b=false∧VR d) ?_ (fun x hx=>by rw[hx.2];exact hK hx.1) (fun d hd=>hP hd.1 d hd.2)
 refine aF mixed rfl Pq ?_
 cases b
 ·simp only[vF,vH,QD,O6,RN,qA,qB,qC,qD,qE,qF]
  exact⟨s,rfl⟩
 ·simp only[vF,vH,RN,qA,qB,qC,qD,qE,qF]
  exact⟨_,rfl,rfl⟩
def UC (w:ByteArray):Nat→Nat→Int→Option Int
 |0,_,n=>some n
 |k+1,pos,n=>if 48≤(w.data.getD pos 0).toNat∧(w.data.getD pos 0).toNat≤57∧w.size≤4 then UC w k (pos+1) (10*n+(((w.data.getD pos 0).toNat:Int) - 48))else none
def zK (w:ByteArray):Option Int:=match UC w w.size 0 0 with
 |some n=>if w.size≠0∧(eH n).data.toList=w.data.toList then some n else none
 |none=>none
def F6:List ByteArray→List Int→Option (List Int)
 | [],acc=>some acc
 |x::l,acc=>match zK x with
  |some n=>F6 l (acc++ [n])
  |none=>none
def CU (line:ByteArray)(fm:List (ByteArray×Nat)):Option (Int×List Int):=
 if nG (wU ((jQ line 32).getD 0 default) ((jQ line 32).length - 1)) fm 0≥0 then
  (match F6 ((jQ line 32).drop 1) []with
  |some l=>some (nG (wU ((jQ line 32).getD 0 default) ((jQ line 32).length - 1)) fm 0,l)
  |none=>none)
 else none
theorem aal {α:Type}(p:α→Bool):∀(l:List α) (i:Nat), -1≤nG p l i∧nG p l i≤(i+l.length:Nat)
 | [],i=>by simp only[nG];omega
 |x::l,i=>by
  simp only[nG]
  split
  ·simp;omega
  ·have:=aal p l (i+1);simp only[List.length_cons];omega
theorem agm {line:ByteArray}(hr:line.size≤1000000)(fm:List (ByteArray×Nat))(hfm:fm.length≤1000)(ex:Bool){M:Mem}{K:PV→Mem→Prop}{KP:DV→Mem→Prop}
  (hK:∀at' ns,CU line fm=some (at',ns)→K (.d (.tup [.int .i64 at', .slice false (ns.map ay)])) M)(hP:CU line fm=none→∀d,VR d→KP d M):SC C F.lg [.d (.str line), .d (.slice ex (fm.map aeC))] M K KP:=by
 refine Go.Am.X7 (ds:=[.str line, .slice ex (fm.map aeC)]) (Kr:=fun x=>∃a ns,CU line fm=some (a,ns)∧x= .tup [.int .i64 a, .slice false (ns.map ay)]) (Kp:=fun d=>CU line fm=none∧VR d) ?_ (fun x hx=>by obtain⟨a,ns,h1,rfl⟩:=hx;exact hK a ns h1) (fun d hd=>hP hd.1 d hd.2)
 have hl:=Qa line 32
 have hcb:=Go.Lib.countB_le ⟨#[32]⟩ (Nat.le_refl _) line.size line (Nat.le_refl _)
 have apQ:=ak5 line 32 hr
 refine aF mixed rfl Pv ?_
 simp only[D9,Et,RN,qA,qB,qC,qD,qE,qF]
 refine au rfl rfl apQ ?_
 have agl:CU line fm=if nG (wU ((jQ line 32).getD 0 default) ((jQ line 32).length - 1)) fm 0≥0 then(match F6 ((jQ line 32).drop 1) []with|some l=>some (nG (wU ((jQ line 32).getD 0 default) ((jQ line 32).length - 1)) fm 0,l)|none=>none)else none:=rfl
 have hlb:(jQ line 32).length≤1000001:=by omega
 have hl1:1≤(jQ line 32).length:=by omega
 generalize jQ line 32=ws at*
 have i0:(0:Int)≤0:=by decide
 have l0:0<ws.length:=by omega
 have w1:IntKind.i64.wrap ((ws.length:Int) - 1)=((ws.length - 1:Nat):Int):=by rw[aG (by omega)];omega
 have hix:=abZ fm hfm (ws.getD 0 default) (ws.length - 1)
 have arB:=aal (wU (ws.getD 0 default) (ws.length - 1)) fm 0
 simp only[List.length_map,i0,l0,Int.toNat_zero,getD_map,O1,w1,RN,qA,qB,qC,qD,qE,qF]
 refine au rfl rfl hix ?_
 (try simp only[RN,qA,qB,qC,qD,qE,qF])
 generalize nG (wU (ws.getD 0 default) (ws.length - 1)) fm 0=ix at*
 refine zX (fun e2=> ?_) (fun e2 d hdd=>⟨by rw[agl,if_neg (of_decide_eq_false e2)],hdd⟩)
 rw[if_pos (of_decide_eq_true e2)]at agl
 (try simp only[RN,qA,qB,qC,qD,qE,qF])
 rw[aew (amS ws) (by decide) (by rw[List.length_map];omega)]
 have hdm:(ws.map DV.str).drop (Int.toNat 1)=(ws.drop 1).map DV.str:=by rw[List.map_drop];rfl
 rw[hdm]
 have hxl:(ws.drop 1).length≤1000000:=by simp;omega
 generalize ws.drop 1=xs at*
 simp only[List.length_map,RN,qA,qB,qC,qD,qE,qF]
 refine aT xs.length (fun i (q:List Int×Nat)=>⟨[(0, .d (.str line)),(7, .d (.int .i64 ix)),(8, .tsl 1 q.2 0),(30, .d (.slice false (xs.map .str))),(31, .d (.int .i64 xs.length)),(32, .d (.int .i64 i))],⟨[],[],[some ⟨1,[],0,0⟩,some ⟨1,q.1.map ay,q.2,0⟩]⟩⟩)
  (fun i q=>F6 xs []=F6 (xs.drop i) q.1∧q.1.length=i) 0 ([],0) (Nat.zero_le _) rfl ⟨rfl,rfl⟩ (fun i q g1 hq=> ?_) (fun q hq=> ?_)
 ·obtain⟨acc,ver⟩:=q
  obtain⟨r1,r2⟩:=hq
  simp only at r1 r2
  obtain⟨g2,g3,g6⟩:=rng g1 hxl
  rw[drop_cons g1,F6]at r1
  obtain⟨w,hw⟩:∃w,w=xs.getD i default:=⟨_,rfl⟩
  rw[←hw]at r1
  have hnone:zK w=none→CU line fm=none:=fun h=>by rw[agl,r1,h]
  simp only[g2,g3,g1,getD_map,Int.toNat_natCast,List.length_map,O1,←hw,alC,RN,qA,qB,qC,qD,qE,qF]
  refine qR (fun(q:Nat×Int)=>⟨[(0, .d (.str line)),(7, .d (.int .i64 ix)),(8, .tsl 1 ver 0),(10, .d (.str w)),(11, .d (.int .i64 q.2)),(30, .d (.slice false (xs.map .str))),(31, .d (.int .i64 xs.length)),(32, .d (.int .i64 i)),(37, .DN 0)],⟨[some [.KE w q.1]],[],[some ⟨1,[],0,0⟩,some ⟨1,acc.map ay,ver,0⟩]⟩⟩)
   (fun q=>q.1≤w.size∧UC w w.size 0 0=UC w (w.size - q.1) q.1 q.2∧0≤q.2∧q.2<10 ^ q.1∧(0<q.1→w.size≤4)) (fun q=>w.size - q.1) (0,0) rfl ⟨Nat.zero_le _,rfl,by decide,by decide,by simp⟩ (fun q hq=> ?_)
  obtain⟨pos,n⟩:=q
  obtain⟨q1,q2,q3,q4,q5⟩:=hq
  simp only at q1 q2 q3 q4 q5
  by_cases hp:pos<w.size
  ·obtain⟨c,dn,hd⟩:∃c dn,Utf8.decode w pos=(c,dn):=⟨_,_,rfl⟩
   have hg:w.data.getD pos 0=w[pos]'hp:=by
    rw[Array.getD_eq_getD_getElem?,Array.getElem?_eq_getElem (show pos<w.data.size from hp)];rfl
   have hb:(48≤(w.data.getD pos 0).toNat∧(w.data.getD pos 0).toNat≤57↔48≤c∧c≤57)∧(c≤57→c=(w.data.getD pos 0).toNat∧dn=1):=by
    rw[hg]
    by_cases ha:(w[pos]'hp).toNat<128
    ·have:=decode_ascii w pos hp ha
     rw[hd]at this
     cases this
     exact⟨Iff.rfl,fun _=>⟨rfl,rfl⟩⟩
    ·have:=(decode_high w pos hp (by omega)).1
     rw[hd]at this
     simp only at this
     exact⟨by omega,by omega⟩
   obtain⟨k,hk⟩:∃k,w.size - pos=k+1:=⟨w.size - pos - 1,by omega⟩
   rw[hk,UC]at q2
   have bad:¬(48≤c∧c≤57∧w.size≤4)→zK w=none:=by
    intro hn
    rw[if_neg (by intro hh;exact hn ⟨(hb.1.1 ⟨hh.1,hh.2.1⟩).1,(hb.1.1 ⟨hh.1,hh.2.1⟩).2,hh.2.2⟩)]at q2
    rw[zK,q2]
   (try simp only[RN,qA,qB,qC,qD,qE,qF])
   refine aev rfl (by simp) hp hd ?_
   by_cases k1:(c:Int)≥48
   case neg=>
    simp only[k1,RN,qA,qB,qC,qD,qE,qF]
    exact zX (fun h=>by cases h) (fun _ d hdd=>⟨hnone (bad (by omega)),hdd⟩)
   by_cases k2:(c:Int)≤57
   case neg=>
    simp only[k1,k2,RN,qA,qB,qC,qD,qE,qF]
    exact zX (fun h=>by cases h) (fun _ d hdd=>⟨hnone (bad (by omega)),hdd⟩)
   by_cases k3:(w.size:Int)≤4
   case neg=>
    simp only[k1,k2,k3,RN,qA,qB,qC,qD,qE,qF]
    exact zX (fun h=>by cases h) (fun _ d hdd=>⟨hnone (bad (by omega)),hdd⟩)
   simp only[k1,k2,k3,RN,qA,qB,qC,qD,qE,qF]
   refine zX (fun _=> ?_) (fun h=>by cases h)
   obtain⟨hc,rfl⟩:=hb.2 (by omega)
   rw[if_pos ⟨by omega,by omega,by omega⟩,←hc]at q2
   have hpw:(10:Int) ^ pos≤1000:=by
    rcases pos with _| _| _| _|pos
    ·decide
    ·decide
    ·decide
    ·decide
    ·omega
   have w1:IntKind.i64.wrap (10*n)=10*n:=aG (by omega)
   have w2:IntKind.i32.wrap ((c:Int) - 48)=(c:Int) - 48:=by
    obtain⟨m,hm⟩:∃m:Nat,(c:Int) - 48=m:=Int.eq_ofNat_of_zero_le (by omega)
    have hm2:m<10:=by omega
    rw[hm]
    exact(by decide:∀m<10,IntKind.i32.wrap ((m:Nat):Int)=m) m hm2
   have w3:IntKind.i64.wrap ((c:Int) - 48)=(c:Int) - 48:=aG (by omega)
   have w4:IntKind.i64.wrap (10*n+((c:Int) - 48))=10*n+((c:Int) - 48):=aG (by omega)
   simp only[w1,w2,w3,w4,RN,qA,qB,qC,qD,qE,qF]
   refine aa1 (a:=(pos,n)) (μ:=fun q=>w.size - q.1) (pos+1,10*n+((c:Int) - 48)) (by simp only;omega) rfl ⟨by simp only;omega,?_,by simp only;omega,?_,fun _=>by omega⟩ (by simp) (by simp) rfl rfl
   ·simp only
    rw[q2,show w.size - (pos+1)=k by omega]
   ·simp only[Int.pow_succ];omega
  ·have hps:pos=w.size:=by omega
   rw[hps,Nat.sub_self,UC]at q2
   (try simp only[RN,qA,qB,qC,qD,qE,qF])
   refine abK rfl (by simp) hp ?_
   have e0:(w.toList==(⟨#[]⟩:ByteArray).toList)=decide (w.size=0):=by
    rw[Go.Lib.toList_data,Go.Lib.toList_data,←size_data]
    cases w.data.toList<;>simp
   by_cases hz:w.size=0
   ·rw[decide_eq_true hz]at e0
    simp only[gX,aaX,e0,RN,qA,qB,qC,qD,qE,qF]
    exact zX (fun h=>by cases h) (fun _ d hdd=>⟨hnone (by rw[zK,q2];simp[hz]),hdd⟩)
   ·rw[decide_eq_false hz]at e0
    have hn3:w.size≤4:=q5 (by omega)
    have hpw:(10:Int) ^ pos≤10000:=by
     rcases pos with _| _| _| _| _|pos
     ·decide
     ·decide
     ·decide
     ·decide
     ·decide
     ·omega
    simp only[gX,aaX,e0,RN,qA,qB,qC,qD,qE,qF]
    refine au rfl rfl (OU ⟨by omega,by omega⟩) ?_
    by_cases he:(eH n).data.toList=w.data.toList
    ·have e1:((eH n).toList==w.toList)=true:=by rw[Go.Lib.toList_data,Go.Lib.toList_data];exact beq_iff_eq.2 he
     have hn:zK w=some n:=by rw[zK,q2];simp only;rw[if_pos ⟨hz,he⟩]
     rw[hn]at r1
     simp only[gX,NH,e1,RN,qA,qB,qC,qD,qE,qF]
     refine zX (fun _=> ?_) (fun h=>by cases h)
     simp only[jZ,fits_int,forall_eq,DV.strip,jX,List.length_map,RN,qA,qB,qC,qD,qE,qF]
     refine⟨by simp,by omega,?_⟩
     simp only[g6,RN,qA,qB,qC,qD,qE,qF]
     refine jR 0 2 (acc++ [n],ver+1) g1 ?_ ⟨r1,by simp[r2]⟩ (by simp) (by simp) rfl rfl
     simp only[List.map_append,List.map_cons,List.map_nil,aV];rfl
    ·have e1:((eH n).toList==w.toList)=false:=by rw[Go.Lib.toList_data,Go.Lib.toList_data];exact beq_eq_false_iff_ne.2 he
     simp only[gX,NH,e1,RN,qA,qB,qC,qD,qE,qF]
     exact zX (fun h=>by cases h) (fun _ d hdd=>⟨hnone (by rw[zK,q2];simp only;rw[if_neg (fun hh=>he hh.2)]),hdd⟩)
 ·obtain⟨acc,ver⟩:=q
  obtain⟨r1,r2⟩:=hq
  simp only at r1 r2
  rw[List.drop_length,F6]at r1
  simp only[Int.lt_irrefl,bn,dG,Option.map_none,RN,qA,qB,qC,qD,qE,qF]
  exact⟨.tup [.int .i64 ix, .slice false (acc.map ay)],by simp[datum,bW,eU,Mem.row,afy,jd],ix,acc,by rw[agl,r1],rfl⟩
end Go.Tel
