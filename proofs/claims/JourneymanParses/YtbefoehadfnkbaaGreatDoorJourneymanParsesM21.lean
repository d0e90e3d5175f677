/-
  Part 21 of the proof of a law of desks: an abstract machine over the model, contracts of functions, plain laws.
  Conditions: none.
-/
import Derived.Test.YtbefoehadfnkbaaGreatDoorJourneymanParsesM13
import Derived.Test.YtbefoehadfnkbaaGreatDoorJourneymanParsesM20
import Derived.Shelf.Lays2
import Derived.Shelf.RegionOpenPlain
import Derived.Deep.LoopGhost
import Derived.Deep.RegionLaw
import Derived.Lib.Walk
import Derived.Sort.WalkB12
import Derived.Lib.SliceRun
import Derived.Lib.SlicesDelete
set_option linter.all false
set_option maxRecDepth 10000
set_option maxHeartbeats 4000000
open Nat renaming reduceBEq→qA,reduceAdd→qB,reduceSub→qC,reduceEqDiff→qD,reduceLT→qE,reduceLeDiff→qF
namespace Go.Tel
open Go.Am
theorem abj {base:Nat}{KP:DV→Mem→Prop}{f:FuncId}{args:List PV}{M:Mem}{ds ds':List DV}{r:PV}{rs:List Arr}(h:Pure C f ds' r rs)(hr:abL r=true)(has:rs.all nC=true){K:PV→Mem→Prop}
  (hds:dD M args=some ds)(he:ds.map DV.strip=ds')(hK:K (r.shift M.aA.length) {M with aA:=M.aA++rs.map some}):aj C base (.Qh f) args M K KP:=
 ⟨_,_,adh h hr has hds he ⟨rfl,rfl⟩,hK⟩
theorem fQ.rows {s:Su}{a b mb:Nat}{cst cse:PV}{t:Sp}{bs:List (Option (List PV))}{fz:List Nat}{ar xs:List (Option Arr)}(h:fQ s a b mb cst cse t ⟨bs,fz,ar⟩):fQ s a b mb cst cse t ⟨bs,fz,ar++xs⟩∧FrS a b mb ⟨bs,fz,ar⟩ ⟨bs,fz,ar++xs⟩:=by
 have hr:∀(j:Nat) (A:Arr),ar[j]?=some (some A)→(ar++xs)[j]?=some (some A):=fun j A hA=>by
  rw[List.getElem?_append_left (List.getElem?_eq_some_iff.1 hA).1];exact hA
 constructor
 ·exact
  {box:=h.box,map:=h.map
   r0:=hr _ _ h.r0,r1:=hr _ _ h.r1,r2:=hr _ _ h.r2,r3:=hr _ _ h.r3,r4:=hr _ _ h.r4,r5:=hr _ _ h.r5
   stk:=uM h.stk fun j A _ hA=>hr j A hA
   set:=uM h.set fun j A _ hA=>hr j A hA
   kst:=h.kst,kse:=h.kse,dif:=h.dif,nb:=h.nb,nm:=h.nm,bm:=h.bm,fzb:=h.fzb}
 ·exact
  {len:=Nat.le_refl _
   fzb:=fun hb i hi=>by have:=hb i hi;simpa using this
   aY:=by simp
   box:=fun _ _ _ _=>rfl
   fz:=fun _ _=>Iff.rfl
   row:=fun j hj=>by
    have:=(List.getElem?_eq_some_iff.1 h.r0).1
    simp only at this⊢
    rw[List.getElem?_append_left (by omega)]}
theorem fQ.other {s:Su}{a b mb:Nat}{cst cse:PV}{t:Sp}{bs:List (Option (List PV))}{fz:List Nat}{ar:List (Option Arr)}(h:fQ s a b mb cst cse t ⟨bs,fz,ar⟩){k:Nat}{A:Arr}(hk:a+6≤k)(h1:kOf cst≠some k)(h2:kOf cse≠some k):
  fQ s a b mb cst cse t ⟨bs,fz,ar.set k (some A)⟩∧FrS a b mb ⟨bs,fz,ar⟩ ⟨bs,fz,ar.set k (some A)⟩:=by
 have hr:∀(j:Nat) (B:Arr),j≠k→ar[j]?=some (some B)→(ar.set k (some A))[j]?=some (some B):=fun j B hj hA=>by
  rw[List.getElem?_set_ne (Ne.symm hj)];exact hA
 constructor
 ·exact
  {box:=h.box,map:=h.map
   r0:=hr _ _ (by omega) h.r0
   r1:=hr _ _ (by omega) h.r1
   r2:=hr _ _ (by omega) h.r2
   r3:=hr _ _ (by omega) h.r3
   r4:=hr _ _ (by omega) h.r4
   r5:=hr _ _ (by omega) h.r5
   stk:=uM h.stk fun j B hj hB=>hr j B (fun e=>h1 (e▸hj)) hB
   set:=uM h.set fun j B hj hB=>hr j B (fun e=>h2 (e▸hj)) hB
   kst:=h.kst,kse:=h.kse,dif:=h.dif,nb:=h.nb,nm:=h.nm,bm:=h.bm,fzb:=h.fzb}
 ·exact
  {len:=Nat.le_refl _
   fzb:=fun hb i hi=>by have:=hb i hi;simpa using this
   aY:=by simp
   box:=fun _ _ _ _=>rfl
   fz:=fun _ _=>Iff.rfl
   row:=fun j hj=>by simp only;rw[List.getElem?_set_ne (by omega)]}
theorem fQ.ap1 {s:Su}{a b mb:Nat}{cst cse:PV}{t:Sp}{bs:List (Option (List PV))}{fz:List Nat}{ar:List (Option Arr)}(h:fQ s a b mb cst cse t ⟨bs,fz,ar⟩)(p:Pc)(hp:p.hands=t.pc.hands):
  fQ s a b mb cst cse {t with pc:=p} ⟨bs,fz,ar.set a (some ⟨3,p.links.map Lk.dv,0,1⟩)⟩∧FrS a b mb ⟨bs,fz,ar⟩ ⟨bs,fz,ar.set a (some ⟨3,p.links.map Lk.dv,0,1⟩)⟩:=by
 have hal:a<ar.length:=(List.getElem?_eq_some_iff.1 h.r0).1
 have hr:∀(j:Nat) (A:Arr),j≠a→ar[j]?=some (some A)→(ar.set a (some ⟨3,p.links.map Lk.dv,0,1⟩))[j]?=some (some A):=fun j A hj hA=>by
  rw[List.getElem?_set_ne (Ne.symm hj)];exact hA
 constructor
 ·exact
  {box:=h.box,map:=h.map
   r0:=by simp[hal]
   r1:=hr _ _ (by omega) (by rw[hp];exact h.r1)
   r2:=hr _ _ (by omega) h.r2
   r3:=hr _ _ (by omega) h.r3
   r4:=hr _ _ (by omega) h.r4
   r5:=hr _ _ (by omega) h.r5
   stk:=uM h.stk fun j A hj hA=>hr j A (by have:=h.kst j hj;omega) hA
   set:=uM h.set fun j A hj hA=>hr j A (by have:=h.kse j hj;omega) hA
   kst:=h.kst,kse:=h.kse,dif:=h.dif,nb:=h.nb,nm:=h.nm,bm:=h.bm,fzb:=h.fzb}
 ·exact
  {len:=Nat.le_refl _
   fzb:=fun hb i hi=>by have:=hb i hi;simpa using this
   aY:=by simp
   box:=fun _ _ _ _=>rfl
   fz:=fun _ _=>Iff.rfl
   row:=fun j hj=>by simp only;rw[List.getElem?_set_ne (by omega)]}
section
variable {C:Ctx}{base:Nat}{KP:DV→Mem→Prop}{K:PV→Mem→Prop}{M:Mem}{x y:PV}{l:List PV}
theorem DC:aj C base (.ext 0) [.tup (x::l)] M K KP=K x M:=propext ⟨id,id⟩
theorem DF:aj C base (.ext 1) [.tup (x::y::l)] M K KP=K y M:=propext ⟨id,id⟩
end
theorem X7 {f:FuncId}{args:List PV}{M:Mem}{K:PV→Mem→Prop}{KP:DV→Mem→Prop}(h:SC C f args M K (fun _ _=>False)):SC C f args M K KP:=by
 intro X w E vals hS hA
 refine(h X w E vals hS hA).mono fun e w' he=> ?_
 cases e with
 |returned v=>exact he
 |panicked c=>
  obtain⟨v,d,M1,E1,_,hh,_⟩:=he
  exact hh.elim
 |outgrown=>exact he.elim
theorem afu (p q:Pc):(p.Bo q).length≤p.hands.length:=RX _ _ _ _
theorem Qu (l:List Int):nC ⟨1,l.map ay,0,Bq l⟩=true:=by
 cases l with
 |nil=>rfl
 |cons x l=>
  have:∀l:List Int,(flat (l.map ay)).all afS=true:=by
   intro l
   induction l with
   |nil=>rfl
   |cons x l ih=>simp only[flat,List.map_cons,List.flatMap_cons,List.all_append]at ih⊢;rw[ih];rfl
  simp only[nC,this (x::l)]
  rfl
theorem alL {bs:List (Option (List PV))}{b:Nat}{y:Option (List PV)}(h:b<bs.length):(bs.set b y)[b]?=some y:=by simp[h]
theorem akE {W:Bool}{c x:PV}{xs ys:List DV}{bs:List (Option (List PV))}{fz:List Nat}{ar:List (Option Arr)}{K:PV→Mem→Prop}(h:slR W c xs ar)(hx:Dv 1 x ⟨bs,fz,ar⟩=some ys)(hy:∀y∈ys,y.fits 1=true)(hl:xs.length+ys.length≤1073741824)
  (hK:∀k ver st ar',((kOf c=some k∧(∃v0,ar[k]?=some (some ⟨1,xs,v0,st⟩))∧(W=true→st=1∨xs=[]))∨(kOf c=none∧k=ar.length∧st=0∧xs=[]))→ar'[k]?=some (some ⟨1,xs++ys,ver,st⟩)→(∀j,j≠k→j<ar.length→ar'[j]?=ar[j]?)→ar.length≤ar'.length→st≠2→K (.tsl k ver 0) ⟨bs,fz,ar'⟩):
  mP 1 false c x ⟨bs,fz,ar⟩ K:=by
 rcases h with⟨rfl,rfl⟩|⟨k,ver,st,rfl,hk,h2,h3⟩
 ·simp only[mP,hx]
  refine⟨by decide,hy,by simp,trivial,by simp,by simpa using hl,?_⟩
  exact hK _ _ 0 _ (.inr ⟨rfl,rfl,rfl,rfl⟩) (by simp) (fun j hj hj2=>by rw[List.getElem?_append_left hj2]) (by simp) (by simp)
 ·have hkl:k<ar.length:=(List.getElem?_eq_some_iff.1 hk).1
  simp only[mP,hx,Mem.row,hk,if_true]
  refine⟨by decide,hy,by simp,trivial,h2,hl,?_⟩
  exact hK k (ver+1) st _ (.inl ⟨rfl,⟨ver,hk⟩,h3⟩) (by simp[hkl]) (fun j hj _=>List.getElem?_set_ne (Ne.symm hj)) (by simp) h2
def alg (s:Su)(a b mb:Nat)(cst cse:PV)(t:Sp)(bs:List (Option (List PV)))(fz:List Nat)(ar:List (Option Arr))(n2:Nat)(o v:Int)(P:Nat→Nat→Prop)(c:Chg)(old:Pr)(r:Option (List Int×List Int))(e:Ex)(st:St):Prop:=
 match e with
 | .normal=>∃s1 p1 Z7 ver sn M1 ex,r=some (s1,p1)∧st=⟨[(0, .ptr b 0),(4, .d (.func (.func F.fP) [] [.aX [.iface T.bD (.agg [.int .i64 c.link, .int .i64 c.pr.a, .int .i64 c.pr.b])]])),(8, .d (.aX [.int .i64 c.link, .int .i64 c.pr.a, .int .i64 c.pr.b])),(15, .d (.aX [.int .i64 old.a, .int .i64 old.b])),(16, .tsl n2 ver 0)]++ex,M1⟩∧
   fQ s a b mb Z7 cse {t with dU:=s1} M1∧FrS a b mb ⟨bs,fz,ar⟩ M1∧M1.aA[n2]?=some (some ⟨1,p1.map ay,ver,sn⟩)∧sn≠2∧kOf Z7≠some n2∧n2<M1.aA.length∧kOf cse≠some n2∧(p1=[]∨∃k ver,Z7= .tsl k ver 0∧M1.aA[k]?=some (some ⟨1,s1.map ay,ver,1⟩))
 | .panic d=>r=none∧OW d∧FrS a b mb ⟨bs,fz,ar⟩ st.mem
 | _=>False
def aiS (s:Su)(a b mb:Nat)(cse:PV)(t:Sp)(bs:List (Option (List PV)))(fz:List Nat)(ar:List (Option Arr))(n2:Nat)(c:Chg)(r:Option (List Int×List Int))(e:Ex)(st:St):Prop:=
 match e with
 | .normal=>∃s1 p1 Z7 ver sn env M1,r=some (s1,p1)∧st=⟨env,M1⟩∧Am.look env 0= .ptr b 0∧Am.look env 8= .d (.aX [.int .i64 c.link, .int .i64 c.pr.a, .int .i64 c.pr.b])∧Am.look env 16= .tsl n2 ver 0∧
   fQ s a b mb Z7 cse {t with dU:=s1} M1∧FrS a b mb ⟨bs,fz,ar⟩ M1∧M1.aA[n2]?=some (some ⟨1,p1.map ay,ver,sn⟩)∧sn≠2∧kOf Z7≠some n2∧n2<M1.aA.length∧kOf cse≠some n2∧(p1=[]∨∃k ver,Z7= .tsl k ver 0∧M1.aA[k]?=some (some ⟨1,s1.map ay,ver,1⟩))
 | .panic d=>r=none∧OW d∧FrS a b mb ⟨bs,fz,ar⟩ st.mem
 | _=>False
theorem ZI {st ps s1 p1:List Int}{o v:Int}(h:CS st ps o v=some (s1,p1)):s1.length≤st.length∧p1.length≤ps.length+1:=by
 unfold CS at h
 split at h
 ·cases h;omega
 ·split at h
  ·cases h
   simp only[List.length_append,List.length_cons,List.length_nil]
   exact⟨List.length_erase_le,by omega⟩
  ·cases h
theorem Y0 (hdel:ais){s:Su}{a b mb:Nat}{cst cse:PV}{t:Sp}{M:Mem}(h:fQ s a b mb cst cse t M)(ht:ZP s t)(c:Chg)(hc:t.pc.Qj c=true):
  SC C F.bF [.ptr b 0, .d (De.change c).dv] M (fun p M'=>∃t' wF GN,doS s t (.change c)=some t'∧fQ s a b mb wF GN t' M'∧FrS a b mb M M') (fun d M'=>doS s t (.change c)=none∧OW d∧FrS a b mb M M'):=by
 obtain⟨bs,fz,ar⟩:=M
 have hbox:=h.box
 rw[iC]at hbox
 have hnb:=h.nb
 have hmap:=h.map
 have hr0:=h.r0
 have hr1:=h.r1
 simp only at hbox hnb hmap hr0 hr1
 have hbl:b<bs.length:=(List.getElem?_eq_some_iff.1 hbox).1
 have hml:mb<bs.length:=(List.getElem?_eq_some_iff.1 hmap).1
 have hd1:=(De.one (.change c)).1
 have hd2:=(De.one (.change c)).2
 have hx:(De.change c).dv= .iface T.bD (.agg [.int .i64 c.link, .int .i64 c.pr.a, .int .i64 c.pr.b]):=rfl
 rw[hx]at hd1 hd2⊢
 have hn0:bs.length∉fz:=fun e=>Nat.lt_irrefl _ (h.fzb _ e)
 have hn1:∀k,bs.length+k∉fz:=fun k e=>by have:=h.fzb _ e;simp only at this;omega
 have hb0:¬b=bs.length:=by omega
 have hb1:∀k,¬b=bs.length+k:=fun k=>by omega
 have hb2:∀k,b<bs.length+k:=fun k=>by omega
 have hs1:¬bs.length+1=bs.length:=by omega
 have c1:(T.bD==T.eu)=false:=by decide
 have hsp:=aiy t.pc c hc
 rw[lY,KL]at hsp
 refine aF mixed rfl dM ?_
 simp only[cO,cZ,hd1,hd2,oI,eX c1,hbl,hbox,aU,bG,aN,bI,bU,aP,List.append_assoc,List.length_append,Nat.add_assoc,List.length_set,hn0,hn1,hb0,hb1,hb2,hs1,bn,Option.map_none,eP,RN,qA,qB,qC,qD,qE,qF]
 obtain⟨sp,alR⟩:∃sp,sp=t.pc.Bo (t.pc.changed c):=⟨_,rfl⟩
 rw[←alR]at hsp
 refine abj hsp rfl (by simp only[List.all_cons,List.all_nil,Bool.and_true];exact Qu sp) (wL (d:= .agg [.slice false (t.pc.links.map Lk.dv), .slice false (t.pc.hands.map ay)]) (by simp[datum,bW,eU,Mem.row,hr0,hr1])) rfl ?_
 obtain⟨g1,g2⟩:=h.ext (xs:=[some [PV.d (DV.iface T.bD (DV.agg [DV.int IntKind.i64 c.link,DV.int IntKind.i64 c.pr.a,DV.int IntKind.i64 c.pr.b]))],some [PV.d (DV.int IntKind.i64 c.link),PV.d (DV.int IntKind.i64 c.pr.a),PV.d (DV.int IntKind.i64 c.pr.b)]]) (xf:=[bs.length+1,bs.length]) (by simp)
 obtain⟨g3,g4⟩:=g1.rows (xs:=[some ⟨1,sp.map ay,0,Bq sp⟩])
 have y0:((0:Int)==0)=true:=rfl
 have hgr:(ar++ [some (⟨1,sp.map ay,0,Bq sp⟩:Arr)])[ar.length]?=some (some ⟨1,sp.map ay,0,Bq sp⟩):=by simp
 simp only[PV.shift,X9,lW,y0,dV,DC,DF,RN,qA,qB,qC,qD,qE,qF]
 refine⟨by kernel_rfl,JA ?_⟩
 have apQ:sp.length≤4:=by
  have:=(Pc.Gt ht.pc).2.2
  rw[alR];exact Nat.le_trans (afu _ _) this
 simp only[hgr,Nat.sub_zero,List.length_map,RN,qA,qB,qC,qD,qE,qF]
 refine aT sp.length (fun i (M1:Mem)=>⟨[(0, .ptr b 0),(4, .d (.func (.func F.fP) [] [.aX [.iface T.bD (.agg [.int .i64 c.link, .int .i64 c.pr.a, .int .i64 c.pr.b])]])),(8, .d (.aX [.int .i64 c.link, .int .i64 c.pr.a, .int .i64 c.pr.b])),(83, .tsl ar.length 0 0),(84, .d (.int .i64 sp.length)),(85, .d (.int .i64 i))],M1⟩)
  (fun i M1=>fQ s a b mb cst cse t M1∧FrS a b mb ⟨bs,fz,ar⟩ M1∧M1.aA[ar.length]?=some (some ⟨1,sp.map ay,0,Bq sp⟩)∧(sp.all fun h=>(o8 t.op h).isSome)=((sp.drop i).all fun h=>(o8 t.op h).isSome)) 0 _ (Nat.zero_le _) rfl ⟨g3,g2.trans g4,hgr,rfl⟩ (fun i M1 k1 hix=> ?_) (fun M1 hix=> ?_)
 ·obtain⟨k2,k3,k6⟩:=rng k1 (by omega)
  obtain⟨p1,p2,p3,p4⟩:=hix
  rw[drop_cons k1,List.all_cons]at p4
  obtain⟨bs1,fz1,ar1⟩:=M1
  have yD:=p1.box
  rw[iC]at yD
  have hmap1:=p1.map
  simp only at yD hmap1 p3
  have ajs:b<bs1.length:=(List.getElem?_eq_some_iff.1 yD).1
  have apG:mb<bs1.length:=(List.getElem?_eq_some_iff.1 hmap1).1
  have hm0:bs1.length∉fz1:=fun e=>Nat.lt_irrefl _ (p1.fzb _ e)
  have hm1:∀k,bs1.length+k∉fz1:=fun k e=>by have:=p1.fzb _ e;simp only at this;omega
  have hc0:¬b=bs1.length:=by omega
  have hc1:∀k,¬b=bs1.length+k:=fun k=>by omega
  have hc2:∀k,b<bs1.length+k:=fun k=>by omega
  simp only[k2,k3,k1,p3,Nat.sub_zero,List.length_map,getD_map,Int.toNat_natCast,aV,ajs,yD,aU,bG,aN,bI,bU,aP,List.append_assoc,List.length_append,Nat.add_assoc,List.length_set,hm0,hm1,hc0,hc1,hc2,RN,qA,qB,qC,qD,qE,qF]
  refine Xa (opD t.op) ((o8 t.op (sp.getD i default)).map Fr.dv) (by simp[Mem.box,List.getElem?_append_left apG,hmap1]) (zY _) (Nu _ _) ?_
  cases hg:o8 t.op (sp.getD i default)with
  |none=>
   rw[hg,Option.isSome_none,Bool.false_and]at p4
   simp only[KW,Option.map_none,Option.getD_none,Option.isSome_none,ajs,yD,aU,bG,aN,bI,bU,aP,List.append_assoc,List.length_append,Nat.add_assoc,List.length_set,hm0,hm1,hc0,hc1,hc2,dV,RN,qA,qB,qC,qD,qE,qF]
   refine⟨by kernel_rfl,Bv ⟨rfl,rfl⟩ ⟨by simp only[doS,←alR,p4,Bool.and_false];rfl,⟨_,rfl,rfl,rfl⟩,?_⟩⟩
   exact p2.trans (p1.ext (xf:=[]) (by simp)).2
  |some f0=>
   rw[hg,Option.isSome_some,Bool.true_and]at p4
   simp only[KW,Option.map_some,Option.getD_some,Option.isSome_some,ajs,yD,aU,bG,aN,bI,bU,aP,List.append_assoc,List.length_append,Nat.add_assoc,List.length_set,hm0,hm1,hc0,hc1,hc2,dV,dH,RN,qA,qB,qC,qD,qE,qF]
   refine⟨by kernel_rfl,JA ?_⟩
   simp only[k6,RN,qA,qB,qC,qD,qE,qF]
   obtain⟨x1,x2⟩:=p1.ext (xs:=[some [.d (.int .i64 f0.n), .d (.int .i64 f0.d)]]) (xf:=[]) (by simp)
   exact lI (len:=sp.length) (i:=i) _ k1 rfl ⟨x1,p2.trans x2,p3,p4⟩
 ·obtain⟨p1,p2,p3,p4⟩:=hix
  rw[List.drop_length,List.all_nil]at p4
  obtain⟨bs1,fz1,ar1⟩:=M1
  have yD:=p1.box
  rw[iC]at yD
  have hmap1:=p1.map
  have apN:=p1.r0
  simp only at yD hmap1 p3 apN
  have ajs:b<bs1.length:=(List.getElem?_eq_some_iff.1 yD).1
  have apG:mb<bs1.length:=(List.getElem?_eq_some_iff.1 hmap1).1
  have hm0:bs1.length∉fz1:=fun e=>Nat.lt_irrefl _ (p1.fzb _ e)
  have hm1:∀k,bs1.length+k∉fz1:=fun k e=>by have:=p1.fzb _ e;simp only at this;omega
  have hc0:¬b=bs1.length:=by omega
  have hc1:∀k,¬b=bs1.length+k:=fun k=>by omega
  have hc2:∀k,b<bs1.length+k:=fun k=>by omega
  have hlk2:0≤c.link∧c.link.toNat<t.pc.links.length:=by
   simp only[Pc.Qj,Bool.and_eq_true,inR,decide_eq_true_eq]at hc
   omega
  obtain⟨j0,hlk⟩:=hlk2
  obtain⟨old,hold⟩:∃old,old=(t.pc.links.getD c.link.toNat default).pr:=⟨_,rfl⟩
  simp only[Int.lt_irrefl,ajs,yD,aU,bG,aN,bI,bU,aP,List.append_assoc,List.length_append,Nat.add_assoc,List.length_set,hm0,hm1,hc0,hc1,hc2,apN,j0,hlk,List.length_map,getD_map,JG,←hold,RN,qA,qB,qC,qD,qE,qF]
  obtain⟨x1,x2⟩:=p1.ext (xs:=[some [.d (.int .i64 old.a), .d (.int .i64 old.b)]]) (xf:=[bs1.length]) (by simp)
  obtain⟨x3,x4⟩:=x1.rows (xs:=[some ⟨1,[],0,0⟩])
  have x5:=(p2.trans x2).trans x4
  have hno:∀k,kOf cst=some k→k≠ar1.length:=fun k hk e=>by
   rcases p1.stk with⟨rfl,_⟩|⟨k',_,_,rfl,q,_⟩
   ·cases hk
   ·cases hk
    have:=(List.getElem?_eq_some_iff.1 q).1
    simp only at this
    omega
  have aox:∀k,kOf cse=some k→k≠ar1.length:=fun k hk e=>by
   rcases p1.set with⟨rfl,_⟩|⟨k',_,_,rfl,q,_⟩
   ·cases hk
   ·cases hk
    have:=(List.getElem?_eq_some_iff.1 q).1
    simp only at this
    omega
  have apr:a+5<ar1.length:=(List.getElem?_eq_some_iff.1 p1.r5).1
  refine qp (Q:=alg s a b mb cst cse t bs fz ar ar1.length old.a c.pr.a (fun _ _=>True) c old (CS t.dU [] old.a c.pr.a)) (fun e st he=> ?_) ?_
  ·cases e with
   |normal=>
    obtain⟨s1,ps1,Z7,ver,sn,M1,ex,hr1',rfl,y1,y2,y3,y4,y5,y6,y7,y8⟩:=he
    have hlen1:=ZI hr1'
    have hst:=ht.st
    have arD:=y5
    (try simp only[RN,qA,qB,qC,qD,qE,qF])
    refine qp (Q:=aiS s a b mb cse t bs fz ar ar1.length c (CS s1 ps1 old.b c.pr.b)) (fun e st he=> ?_) ?_
    ·cases e with
     |normal=>
      obtain⟨s2,ps2,ars,afA,sn2,aru,M2,hr2',rfl,l0,l8,l16,w1,w2,w3,w4,w5,w6,w7,w8⟩:=he
      have hlen2:=ZI hr2'
      obtain⟨bs2,fz2,ar2⟩:=M2
      have abT:=w1.box
      rw[iC]at abT
      have apK:=w1.nb
      simp only at abT apK w3
      have apv:b<bs2.length:=(List.getElem?_eq_some_iff.1 abT).1
      obtain⟨o1,o2,o3⟩:=Ns w1.stk
      have hl5:a+5<ar2.length:=(List.getElem?_eq_some_iff.1 w1.r5).1
      simp only[l0,l8,l16,abT,apv,RN,qA,qB,qC,qD,qE,qF]
      refine akE (ys:=ps2.map ay) w1.stk (by simp[Dv,Mem.row,w3]) zl (by have:=hlen1;have:=hlen2;simp at*;omega) fun k ver st ar' e1 e2 e3 e4 e5=> ?_
      have hst1:st=1∨s2++ps2=[]:=by
       rcases w8 with hp|⟨k8,v8,hc8,h8⟩
       ·subst hp
        rcases e1 with⟨_,_,e1⟩|⟨_,_,_,e1⟩
        ·exact(e1 rfl).imp id fun e=>by simpa using e
        ·exact .inr (by simpa using e1)
       ·rcases e1 with⟨e0,⟨v0,e1⟩,_⟩|⟨e1,_⟩
        ·rw[hc8]at e0
         cases e0
         simp only at h8
         rw[e1]at h8
         simp at h8
         exact .inl h8.2
        ·rw[hc8]at e1;cases e1
      obtain⟨g5,g6⟩:=w1.Xc (k:=k) (ver:=ver) (st:=st) (xs:=s2++ps2) (ar':=ar') (by
        rcases e1 with⟨e1,_⟩|⟨_,e1,_⟩
        ·exact w1.kst k e1
        ·omega) (fun e=>by
        rcases e1 with⟨e1,_⟩|⟨_,e1,_⟩
        ·exact w1.dif k e1 e
        ·rcases w1.set with⟨rfl,_⟩|⟨k',_,_,rfl,q,_⟩
         ·cases e
         ·cases e
          have:=(List.getElem?_eq_some_iff.1 q).1
          simp only at this
          omega) (by rw[e2];simp) e3 e4 ⟨e5,hst1⟩
      have hra:=g5.r0
      simp only at hra
      simp only[abT,apv,apK,alL,List.length_set,bM,dN,l0,l8,hra,j0,hlk,List.length_map,Int.toNat_natCast,RN,qA,qB,qC,qD,qE,qF]
      have hset:(t.pc.links.map Lk.dv).set c.link.toNat (setCells ((t.pc.links.map Lk.dv).getD c.link.toNat default) 1 [.int .i64 c.pr.a, .int .i64 c.pr.b])=(t.pc.changed c).links.map Lk.dv:=by
       rw[Pc.changed,List.map_set,getD_map hlk];rfl
      refine MO (ds:=[.int .i64 c.pr.a, .int .i64 c.pr.b]) hra rfl (by decide) rfl rfl (by rw[getD_map hlk];exact Nat.le_refl 3) ?_
      rw[hset]
      obtain⟨g7,g8⟩:=g5.ap1 (t.pc.changed c) rfl
      exact⟨_,_,_,by simp only[doS,hc,←alR,p4,Bool.and_self,if_true,←hold,hr1',hr2'],g7,((w2.trans g6).trans g8)⟩
     |panic d=>
      obtain⟨h1,h2,h3⟩:=he
      (try simp only[RN,qA,qB,qC,qD,qE,qF])
      refine⟨?_,h2,h3⟩
      simp only[doS,←hold,hr1',h1]
      split<;>rfl
     |ret=>exact he.elim
     |exit id=>exact he.elim
    ·by_cases hab:old.b=c.pr.b
     ·have hb':(old.b !=c.pr.b)=false:=by simp[hab]
      simp only[hb',RN,qA,qB,qC,qD,qE,qF]
      refine⟨s1,ps1,Z7,ver,sn,_,M1,by rw[CS,if_pos hab],rfl,rfl,rfl,rfl,y1,y2,y3,y4,y5,y6,y7,y8⟩
     ·have hb':(old.b !=c.pr.b)=true:=by simp[hab]
      simp only[hb',RN,qA,qB,qC,qD,qE,qF]
      refine X7 (SC.mono (agj hdel y1 c.pr.b (by simp only;omega)) ?_)
      rintro p M2 (⟨q1,rfl,rfl⟩|⟨q1,rfl,wF,q2,q3,q4,⟨kk,kv,rfl,q8⟩,q5⟩)
      ·simp only[dV,RN,qA,qB,qC,qD,qE,qF]
       refine⟨by kernel_rfl,Bv ⟨rfl,rfl⟩ ?_⟩
       refine⟨by rw[CS,if_neg hab,if_neg q1],⟨_,rfl,rfl,rfl⟩,y2⟩
      ·obtain⟨bs2,fz2,ar2⟩:=M2
       simp only[dV,RN,qA,qB,qC,qD,qE,qF]
       refine⟨by kernel_rfl,JA ?_⟩
       have hrow:ar2[ar1.length]?=some (some ⟨1,ps1.map ay,ver,sn⟩):=by
        have:=q5 ar1.length y5
        simp only at this
        rw[this];exact y3
       have hl2:ar1.length<ar2.length:=(List.getElem?_eq_some_iff.1 hrow).1
       simp only[hrow,jZ,DV.strip,jX,fits_int,forall_eq,y4,List.length_map,RN,qA,qB,qC,qD,qE,qF]
       obtain⟨q6,q7⟩:=q2.other (k:=ar1.length) (A:=⟨1,(ps1++ [old.b]).map ay,ver+1,sn⟩) (by omega) (by rw[q4];exact y5) y7
       have hps:ps1.length≤1073741823:=by have:=hlen1.2;simp at this;omega
       have hmp:ps1.map ay++ [DV.int .i64 old.b]=(ps1++ [old.b]).map ay:=by simp[ay]
       rw[hmp]
       refine⟨by simp,hps,s1.erase c.pr.b,ps1++ [old.b], .tsl kk kv 0,ver+1,sn,_,_,by rw[CS,if_neg hab,if_pos q1],rfl,rfl,rfl,rfl,q6,(y2.trans q3).trans q7,by simp[hl2],y4,by rw[q4];exact y5,by simp;exact hl2,y7, .inr ⟨kk,kv,rfl,?_⟩⟩
       simp only
       rw[List.getElem?_set_ne (fun e=>y5 (by rw[←q4,e];rfl))];exact q8
   |panic d=>
    obtain⟨h1,h2,h3⟩:=he
    (try simp only[RN,qA,qB,qC,qD,qE,qF])
    refine⟨?_,h2,h3⟩
    simp only[doS,←hold,h1]
    split<;>rfl
   |ret=>exact he.elim
   |exit id=>exact he.elim
  ·by_cases hab:old.a=c.pr.a
   ·have hb':(old.a !=c.pr.a)=false:=by simp[hab]
    simp only[hb',RN,qA,qB,qC,qD,qE,qF]
    refine⟨t.dU,[],cst,0,0,_,[_],by rw[CS,if_pos hab],rfl,x3,x5,by simp,by decide,fun e=>hno _ e rfl,by simp,fun e=>aox _ e rfl, .inl rfl⟩
   ·have hb':(old.a !=c.pr.a)=true:=by simp[hab]
    simp only[hb',RN,qA,qB,qC,qD,qE,qF]
    refine X7 (SC.mono (agj hdel x3 c.pr.a (by have:=ht.st;omega)) ?_)
    rintro p M2 (⟨q1,rfl,rfl⟩|⟨q1,rfl,wF,q2,q3,q4,⟨kk,kv,rfl,q8⟩,q5⟩)
    ·simp only[dV,RN,qA,qB,qC,qD,qE,qF]
     refine⟨by kernel_rfl,Bv ⟨rfl,rfl⟩ ?_⟩
     refine⟨by rw[CS,if_neg hab,if_neg q1],⟨_,rfl,rfl,rfl⟩,x5⟩
    ·obtain⟨bs2,fz2,ar2⟩:=M2
     simp only[dV,RN,qA,qB,qC,qD,qE,qF]
     refine⟨by kernel_rfl,JA ?_⟩
     have hrow:ar2[ar1.length]?=some (some ⟨1,[],0,0⟩):=by
      have:=q5 ar1.length (fun e=>hno _ e rfl)
      simp only at this
      rw[this];simp
     simp only[hrow,jZ,DV.strip,jX,fits_int,forall_eq,RN,qA,qB,qC,qD,qE,qF]
     have hl2:ar1.length<ar2.length:=(List.getElem?_eq_some_iff.1 hrow).1
     obtain⟨q6,q7⟩:=q2.other (k:=ar1.length) (A:=⟨1,[.int .i64 old.a],1,0⟩) (by omega) (fun e=>hno _ (q4▸e) rfl) (fun e=>aox _ e rfl)
     refine⟨by simp,t.dU.erase c.pr.a,[old.a], .tsl kk kv 0,1,0,_,[],by rw[CS,if_neg hab,if_pos q1];rfl,rfl,q6,(x5.trans q3).trans q7,by simp[hl2,ay],by decide,fun e=>hno _ (q4▸e) rfl,by simp;exact hl2,fun e=>aox _ e rfl, .inr ⟨kk,kv,rfl,by simp only;rw[List.getElem?_set_ne (fun e=>hno _ (q4▸rfl) e.symm)];exact q8⟩⟩
def aqg (s:Su)(t:Sp):De→Prop
 | .change c=>t.pc.Qj c=true
 | .serve h c=>(0≤h∧h.toNat<t.pc.hands.length)∧0≤c∧c≤1000000000
 | .set d=>1≤d∧d.toNat≤s.days.length
 | _=>True
theorem abD (hdel:ais){s:Su}{a b mb:Nat}{cst cse:PV}{t:Sp}{M:Mem}(h:fQ s a b mb cst cse t M)(ht:ZP s t)(x:De)(hx:aqg s t x):
  SC C F.bF [.ptr b 0, .d x.dv] M (fun p M'=>∃t' wF GN,doS s t x=some t'∧fQ s a b mb wF GN t' M'∧FrS a b mb M M') (fun d M'=>doS s t x=none∧OW d∧FrS a b mb M M'):=by
 cases x with
 |cut n=>
  refine SC.mono (anN h ht n) fun p M' hp=> ?_
  obtain⟨t',wF,h1,h2,h3⟩:=hp
  exact⟨t',wF,cse,h1,h2,h3⟩
 |change c=>exact Y0 hdel h ht c hx
 |order n f=>exact ai4 h n f
 |serve n c=>
  obtain⟨⟨h1,h2⟩,h3⟩:=hx
  obtain⟨k,rfl⟩:=Int.eq_ofNat_of_zero_le h1
  exact ai5 h ht k (by simpa using h2) c h3
 |set d=>
  obtain⟨h1,h2⟩:=hx
  obtain⟨k,hk⟩:∃k:Nat,d=((k+1:Nat):Int):=⟨(d - 1).toNat,by omega⟩
  subst hk
  exact anO h ht k (by omega)
 |strike n=>exact ag9 h n
end Go.Tel
namespace Go.Tel
open Go.Am
theorem aa7 (p:Pc)(c:Chg)(hp:p.ok=true)(hr:inR c.link 0 (p.links.length - 1)=true)(hc:c.pr.ok=true)(he:c.pr=(p.links.getD c.link.toNat default).pr):Pure C F.AQ [p.dv,c.dv] (.d (.tup [.slice true [], .int .i64 2])) []:=by
 have hg:=Pc.good hp
 have hr':0≤c.link∧c.link≤(p.links.length:Int) - 1:=by simpa[inR]using hr
 have hlt:c.link.toNat<p.links.length:=by have:=hg.l1;omega
 have hl2:=hg.l2
 have hh2:=hg.h2
 have hi:=zn p (by omega) (by omega)
 have hpr:=aaV c.pr
 have e1:IntKind.i64.wrap ((p.links.length:Int) - 1)=(p.links.length:Int) - 1:=aG (by omega)
 have hne':((c.pr.a==(p.links.getD c.link.toNat default).pr.a)&&(c.pr.b==(p.links.getD c.link.toNat default).pr.b))=true:=by rw[aga];simpa using he
 refine ah mixed rfl Xk ?_
 simp only[lY,KL,yC]at hi hpr⊢
 simp only[LP,MC,RN,qA,qB,qC,qD,qE,qF]
 refine au rfl rfl hi ?_
 simp only[hp,List.length_map,e1,RN,qA,qB,qC,qD,qE,qF]
 refine au rfl rfl (ML _ _ _) ?_
 simp only[hr,RN,qA,qB,qC,qD,qE,qF]
 refine au rfl rfl hpr ?_
 simp only[hc,hr'.1,hlt,getD_map,JG,List.length_map,Wq,hne',afK,RN,qA,qB,qC,qD,qE,qF]
end Go.Tel
namespace Go.Tel
open Go.Am
def DU (n:Int):DV:= .tup [.slice true [], .int .i64 n]
theorem af4 {w w':World}{O O':Nat→Prop}{v:Value}{n:Int}(h:bf w O v (DU n)):bf w' O' v (DU n):=by
 unfold DU at*
 cases h with|tup h=>
 generalize hvs:Array.toList _=vs at h
 cases h with|cons h1 h2=>
 cases h2 with|cons h3 h4=>
 cases h4
 cases h3
 refine .tup ?_
 rw[hvs]
 refine .cons ?_ (.cons (.int _ _) .nil)
 cases h1 with
 |empty hx=>exact .empty hx
 |slice hb ho hl hs hc hx hh=>
  simp only[List.length_nil]at hl
  subst hl
  exact .empty hx
theorem aoW {f:FuncId}{args:List PV}{M:Mem}{ds ds':List DV}{n:Int}{K:PV→Mem→Prop}{KP:DV→Mem→Prop}(h:Pure C f ds' (.d (DU n)) [])(hds:dD M args=some ds)(he:ds.map DV.strip=ds')(hK:K (.d (DU n)) M):SC C f args M K KP:=by
 subst he
 intro X w E vals hS hA
 have hS1:=pz hS args
 have hd:=(yZ hS hA hds (fun q hq=>hq)).strip
 refine(h (away X (M.frz args) E) w vals hS.glob (fun b hb=> .inl (hS.iE b hb)) (fun b hb=>hS1.CV hb) hd).mono fun e w' he=> ?_
 obtain⟨v,E',rfl,hS',hF,hv⟩:=he
 obtain⟨j1,j2,j3⟩:=MK hS (NC hS hS' hF rfl) hF (by simp)
 exact⟨_,_,_,(by simpa using hK),j1,j2, .d (af4 hv.toD)⟩
theorem agC {base:Nat}{f:FuncId}{args:List PV}{M:Mem}{ds ds':List DV}{n:Int}{K:PV→Mem→Prop}{KP:DV→Mem→Prop}(h:Pure C f ds' (.d (DU n)) [])(hds:dD M args=some ds)(he:ds.map DV.strip=ds')(hK:K (.d (DU n)) M):aj C base (.Qh f) args M K KP:=
 ⟨_,_,aoW h hds he ⟨rfl,rfl⟩,hK⟩
theorem alm {s:Su}{a b mb:Nat}{cst cse:PV}{t:Sp}{M:Mem}(h:fQ s a b mb cst cse t M)(ht:ZP s t)(c:Chg)(hr:inR c.link 0 (t.pc.links.length - 1)=true)(hc:c.pr.ok=true)(he:c.pr=(t.pc.links.getD c.link.toNat default).pr):
  SC C F.bF [.ptr b 0, .d (De.change c).dv] M (fun p M'=>∃t' wF GN,doS s t (.change c)=some t'∧fQ s a b mb wF GN t' M'∧FrS a b mb M M') (fun d M'=>doS s t (.change c)=none∧OW d∧FrS a b mb M M'):=by
 have hno:t.pc.Qj c=false:=by simp[Pc.Qj,he]
 obtain⟨bs,fz,ar⟩:=M
 have hbox:=h.box
 rw[iC]at hbox
 have hr0:=h.r0
 have hr1:=h.r1
 simp only at hbox hr0 hr1
 have hbl:b<bs.length:=(List.getElem?_eq_some_iff.1 hbox).1
 have hd1:=(De.one (.change c)).1
 have hd2:=(De.one (.change c)).2
 have hx:(De.change c).dv= .iface T.bD (.agg [.int .i64 c.link, .int .i64 c.pr.a, .int .i64 c.pr.b]):=rfl
 rw[hx]at hd1 hd2⊢
 have hn0:bs.length∉fz:=fun e=>Nat.lt_irrefl _ (h.fzb _ e)
 have hn1:∀k,bs.length+k∉fz:=fun k e=>by have:=h.fzb _ e;simp only at this;omega
 have hb0:¬b=bs.length:=by omega
 have hb1:∀k,¬b=bs.length+k:=fun k=>by omega
 have hb2:∀k,b<bs.length+k:=fun k=>by omega
 have hs1:¬bs.length+1=bs.length:=by omega
 have c1:(T.bD==T.eu)=false:=by decide
 have hsp:=aa7 t.pc c ht.pc hr hc he
 rw[lY,KL]at hsp
 refine aF mixed rfl dM ?_
 simp only[cO,cZ,hd1,hd2,oI,eX c1,hbl,hbox,aU,bG,aN,bI,bU,aP,List.append_assoc,List.length_append,Nat.add_assoc,List.length_set,hn0,hn1,hb0,hb1,hb2,hs1,bn,Option.map_none,eP,RN,qA,qB,qC,qD,qE,qF]
 refine agC (n:=2) hsp (wL (d:= .agg [.slice false (t.pc.links.map Lk.dv), .slice false (t.pc.hands.map ay)]) (by simp[datum,bW,eU,Mem.row,hr0,hr1])) rfl ?_
 have y2:((2:Int)==0)=false:=rfl
 simp only[DU,y2,dV,RN,qA,qB,qC,qD,qE,qF]
 refine⟨by kernel_rfl,Bv ⟨rfl,rfl⟩ ⟨by simp[doS,hno],⟨_,rfl,rfl,rfl⟩,?_⟩⟩
 exact(h.ext (xf:=[bs.length+1,bs.length]) (by simp)).2
def mZ (s:Su)(t:Sp):De→Prop
 | .change c=>inR c.link 0 (t.pc.links.length - 1)=true∧c.pr.ok=true
 | .serve h c=>(0≤h∧h.toNat<t.pc.hands.length)∧0≤c∧c≤1000000000
 | .set d=>1≤d∧d.toNat≤s.days.length
 | _=>True
theorem ai3 (hdel:ais){s:Su}{a b mb:Nat}{cst cse:PV}{t:Sp}{M:Mem}(h:fQ s a b mb cst cse t M)(ht:ZP s t)(x:De)(hx:mZ s t x):
  SC C F.bF [.ptr b 0, .d x.dv] M (fun p M'=>∃t' wF GN,doS s t x=some t'∧fQ s a b mb wF GN t' M'∧FrS a b mb M M') (fun d M'=>doS s t x=none∧OW d∧FrS a b mb M M'):=by
 cases x with
 |change c=>
  obtain⟨h1,h2⟩:=hx
  by_cases he:c.pr=(t.pc.links.getD c.link.toNat default).pr
  ·exact alm h ht c h1 h2 he
  ·refine Y0 hdel h ht c ?_
   simp only[Pc.Qj,ht.pc,h1,h2,decide_eq_false he,Bool.and_self,Bool.not_false]
 |cut n=>exact abD hdel h ht _ trivial
 |order n f=>exact abD hdel h ht _ trivial
 |serve n c=>exact abD hdel h ht _ hx
 |set d=>exact abD hdel h ht _ hx
 |strike n=>exact abD hdel h ht _ trivial
end Go.Tel
namespace Go.Tel
open Go.Am
theorem abq {l:List DV}:PV.cells (.d (.aX l))=[.d (.aX l)]:=rfl
theorem akb {l:List DV}:DV.one (.aX l)=true:=rfl
def jg (s:Su)(ce cs:PV):List PV:=[.d (.aX s.cs), .d (.slice false (s.days.map Fb)),ce,cs]
theorem ak2 (s:Su)(hs:s.Small)(bs:List (Option (List PV)))(fz:List Nat)(ar:List (Option Arr))(KP:DV→Mem→Prop)(hfz:∀i∈fz,i<bs.length):
  SC C F.Bc [.d s.dv] ⟨bs,fz,ar⟩ (fun p M'=>(s.ok=false∧p= .d (.tup [.nilPtr, .int .i64 2]))∨(s.ok=true∧p= .tup [.ptr (bs.length+2) 0, .d (.int .i64 0)]∧∃x1 x2,M'=⟨bs++ [x1,x2,some (jg s (.d (.slice true [])) (.d (.slice true [])))],(bs.length+1)::bs.length::fz,ar⟩)) KP:=by
 have hi:=ahy s hs
 rw[Oc]at hi
 refine aF mixed rfl Pn ?_
 simp only[D7,Ep,Oc,aU,bG,aN,bI,bU,aP,List.append_assoc,List.length_append,Nat.add_assoc,List.length_set,RN,qA,qB,qC,qD,qE,qF]
 refine au rfl rfl hi ?_
 cases hok:s.ok
 ·(try simp only[RN,qA,qB,qC,qD,qE,qF])
  exact .inl trivial
 ·(try simp only[RN,qA,qB,qC,qD,qE,qF])
  have hc:=aiV s (Su.VP hok)
  have hy:=ao7 s hok
  rw[Oc]at hc hy
  refine au rfl rfl hc ?_
  simp only[aU,bG,aN,bI,bU,aP,List.append_assoc,List.length_append,Nat.add_assoc,List.length_set,RN,qA,qB,qC,qD,qE,qF]
  have hn0:bs.length∉fz:=fun e=>Nat.lt_irrefl _ (hfz _ e)
  have hn1:∀k,bs.length+k∉fz:=fun k e=>by have:=hfz _ e;omega
  have hs1:¬bs.length+1=bs.length:=by omega
  simp only[hn0,hn1,hs1,aU,bG,aN,bI,bU,aP,List.append_assoc,List.length_append,Nat.add_assoc,List.length_set,RN,qA,qB,qC,qD,qE,qF]
  refine au rfl rfl hy ?_
  simp only[aU,bG,aN,bI,bU,aP,List.append_assoc,List.length_append,Nat.add_assoc,List.length_set,abq,akb,pJ,Option.map_none,dG,RN,qA,qB,qC,qD,qE,qF]
  exact .inr ⟨_,_,by rw[jg,abx]⟩
theorem acU {ls ms:List Lk}(h:∀i,(ls.getD i default).fr=(ms.getD i default).fr):∀(k a:Nat),BF ls k a=BF ms k a
 |0,_=>rfl
 | _+1,0=>rfl
 |k+1,a+1=>by simp only[BF,h a];rw[acU h k]
theorem alK {ls ms:List Lk}(h:ls.map (·.fr)=ms.map (·.fr))(i:Nat):(ls.getD i default).fr=(ms.getD i default).fr:=by
 have h1:=congrArg (fun l=>l[i]?) h
 simp only[List.getElem?_map]at h1
 simp only[List.getD_eq_getElem?_getD]
 cases h2:ls[i]?<;>cases h3:ms[i]?<;>simp_all
theorem W9:∀(ls ls' pre pre':List Lk),ls.map (·.fr)=ls'.map (·.fr)→pre.map (·.fr)=pre'.map (·.fr)→(∀l∈ls',l.pr.ok=true)→uQ pre ls=true→uQ pre' ls'=true
 | [],[],_,_,_,_,_,_=>rfl
 | [],_::_,_,_,h,_,_,_=>by simp at h
 | _::_,[],_,_,h,_,_,_=>by simp at h
 |l::ls,l'::ls',pre,pre',h,hp,hok,hl=>by
  simp only[List.map_cons,List.cons.injEq]at h
  obtain⟨h1,h2⟩:=h
  have hlen:pre.length=pre'.length:=by simpa using congrArg List.length hp
  simp only[uQ,Bool.and_eq_true,Bf]at hl⊢
  obtain⟨⟨⟨q1,_⟩,q3⟩,q4⟩:=hl
  refine⟨⟨⟨?_,hok l' List.mem_cons_self⟩,?_⟩,W9 ls ls' _ _ h2 (by simp[hp,h1]) (fun x hx=>hok x (List.mem_cons_of_mem _ hx)) q4⟩
  ·rw[←h1,←hlen];exact q1
  ·have e:iw pre' l.fr.toNat=iw pre l.fr.toNat:=(acU (alK hp) _ _).symm
   rw[←h1]
   simpa only[e]using q3
theorem aec {p:Pc}{c:Chg}(h:p.ok=true)(hc:c.pr.ok=true):(p.changed c).ok=true:=by
 have hg:=Pc.good h
 have hl:(p.changed c).links.length=p.links.length:=by simp[Pc.changed]
 have h':=h
 simp only[Pc.ok,Bool.and_eq_true]at h'⊢
 obtain⟨⟨⟨q1,q2⟩,q3⟩,q4⟩:=h'
 rw[hl]
 refine⟨⟨⟨q1,q2⟩,W9 p.links _ [] [] ?_ rfl (IB hg hc).2.2 q3⟩,q4⟩
 apply List.ext_getElem?
 intro i
 simp only[Pc.changed,List.getElem?_map,List.getElem?_set]
 by_cases he:c.link.toNat=i
 ·subst he
  by_cases hi:c.link.toNat<p.links.length
  ·simp[hi,List.getD_eq_getElem?_getD]
  ·simp[List.getElem?_eq_none (Nat.le_of_not_lt hi)];omega
 ·simp[he]
structure KG (s:Su) (n:Nat) (t:Sp):Prop where
 ok:s.ok=true
 pc:t.pc.ok=true
 ll:t.pc.links.length=s.pc.links.length
 hh:t.pc.hands=s.pc.hands
 tl:t.tg.length=s.pc.hands.length
 st:t.dU.length≤n
 se:t.sets.length≤n
 co:0≤t.lX∧t.lX≤(n:Int)*1000000000
 sv:∀d∈t.sets,1≤d∧d≤366
theorem GR (s:Su):s.days.length≤366:=by
 have:=zI (s.cal.leap s.year)
 simp only[Su.days,Su.y9,List.length_map,List.length_range,Su.dur]
 split at this<;>omega
theorem KG.sp {s:Su}{n:Nat}{t:Sp}(h:KG s n t)(hn:n≤1000):ZP s t:=⟨h.ok,h.pc,by rw[h.tl,h.hh],by have:=h.st;omega,by have:=h.se;omega,by have:=h.co;omega⟩
theorem mZ.same {s:Su}{n:Nat}{t t':Sp}(h:t.pc.links.length=t'.pc.links.length)(hh:t.pc.hands=t'.pc.hands){x:De}(hx:mZ s t x):mZ s t' x:=by
 cases x<;>simp only[mZ,h,hh]at hx⊢<;>exact hx
theorem ZJ {dU puts s1 p1:List Int}{a b:Int}(h:CS dU puts a b=some (s1,p1)):s1.length+p1.length=dU.length+puts.length:=by
 unfold CS at h
 split at h
 ·cases h;rfl
 ·split at h
  ·rename_i hm
   cases h
   have:=List.length_erase_of_mem hm
   have h0:=List.length_pos_of_mem hm
   simp;omega
  ·cases h
theorem anM {s:Su}{n:Nat}{t t':Sp}(h:KG s n t){x:De}(hx:mZ s t x)(hd:doS s t x=some t'):KG s (n+1) t':=by
 have hc:=h.co
 have hst:=h.st
 have hse:=h.se
 cases x with
 |cut m=>
  simp only[doS]at hd
  split at hd
  ·cases hd;exact⟨h.ok,h.pc,h.ll,h.hh,h.tl,by simp;omega,by simp only;omega,by simp only;omega,h.sv⟩
  ·cases hd
 |change c=>
  obtain⟨h1,h2⟩:=hx
  simp only[doS]at hd
  split at hd
  ·generalize hq1:CS t.dU [] _ _=q1 at hd
   cases q1 with
   |none=>cases hd
   |some q1=>
    obtain⟨s1,p1⟩:=q1
    simp only at hd
    generalize hq2:CS s1 p1 _ _=q2 at hd
    cases q2 with
    |none=>cases hd
    |some q2=>
     obtain⟨s2,p2⟩:=q2
     simp only at hd
     cases hd
     have e1:=ZJ hq1
     have e2:=ZJ hq2
     have e3:s2.length+p2.length=t.dU.length:=by simpa[e1]using e2
     exact⟨h.ok,aec h.pc h2,by simp[Pc.changed,h.ll],h.hh,h.tl,by simp;omega,by simp only;omega,by simp only;omega,h.sv⟩
  ·cases hd
 |order m f=>
  simp only[doS]at hd
  split at hd
  ·cases hd
  ·cases hd;exact⟨h.ok,h.pc,h.ll,h.hh,h.tl,by simp only;omega,by simp only;omega,by simp only;omega,h.sv⟩
 |serve m c=>
  obtain⟨_,h2⟩:=hx
  simp only[doS]at hd
  generalize o8 t.op m=o at hd
  cases o with
  |none=>cases hd
  |some f=>
   simp only at hd
   split at hd
   ·cases hd;exact⟨h.ok,h.pc,h.ll,h.hh,by simp[h.tl],by simp only;omega,by simp only;omega,by simp only;omega,h.sv⟩
   ·cases hd
 |set d=>
  simp only[doS]at hd
  split at hd
  ·cases hd;exact⟨h.ok,h.pc,h.ll,h.hh,h.tl,by simp only;omega,by simp;omega,by simp only;omega,fun x hm=>by
    rcases List.mem_append.1 hm with hm|hm
    ·exact h.sv x hm
    ·simp only[List.mem_singleton]at hm
     obtain⟨h1,h2⟩:=hx
     have:=GR s
     rw[hm];omega⟩
  ·cases hd
 |strike e=>
  simp only[doS]at hd
  cases hd;exact⟨h.ok,h.pc,h.ll,h.hh,h.tl,by omega,by omega,by omega,h.sv⟩
structure Dk where
 su:Su
 es:List En
 st:List Bool
 deriving DecidableEq,Inhabited
def nO:List En→List Bool→Nat→List (Nat×De)
 |x::xs,b::bs,i=>if x.kind≠6∧b=false then(i,x.deed)::nO xs bs (i+1)else nO xs bs (i+1)
 | _,_,_=>[]
def Dk.stands (d:Dk):List (Nat×De):=nO d.es d.st 0
def Su.sp0 (s:Su):Sp:=⟨s.pc,s.tg,[],[],0,[]⟩
def JF (s:Su):List De→Sp→Option Sp
 | [],t=>some t
 |x::l,t=>(doS s t x).bind (JF s l)
def Dk.without (d:Dk)(w:Int):List De:=(d.stands.filter fun p=>decide ((p.1:Int)≠w)).map (·.2)
def Dk.state (d:Dk)(w:Int):Option Sp:=JF d.su (d.without w) d.su.sp0
def En.formed (x:En):Bool:=inR x.kind 1 6&&decide (x.ns.length=o7 x.kind)&&x.ns.all fun n=>inR n 0 9999
def Dk.lZ (d:Dk):De→Bool
 | .cut n=>bg n
 | .change c=>inR c.link 0 (d.su.pc.links.length - 1)&&c.pr.ok
 | .order h f=>inR h 0 (d.su.pc.hands.length - 1)&&f.ok
 | .serve h _=>inR h 0 (d.su.pc.hands.length - 1)
 | .set n=>inR n 1 d.su.days.length
 | .strike e=>inR e 0 (d.es.length - 1)&&decide ((d.es.getD e.toNat default).kind≠6)
structure Dk.Ok (d:Dk):Prop where
 su:d.su.ok=true
 len:d.es.length=d.st.length
 few:d.es.length≤24
 formed:∀x∈d.es,x.formed=true
 fine:∀x∈d.es,mZ d.su d.su.sp0 x.deed
theorem afR {d:Dk}{x:En}(hx:x.formed=true)(hf:d.lZ x.deed=true):mZ d.su d.su.sp0 x.deed:=by
 simp only[En.formed,Bool.and_eq_true,decide_eq_true_eq,List.all_eq_true]at hx
 obtain⟨⟨h1,h2⟩,h3⟩:=hx
 have hn:∀i,i<x.ns.length→0≤x.n i∧x.n i≤9999:=fun i hi=>by
  have:=h3 _ (getD_mem hi)
  simpa[inR,En.n]using this
 unfold En.deed at hf⊢
 split
 ·trivial
 ·split
  ·rename_i h4 h5
   rw[if_neg h4,if_pos h5]at hf
   simpa[Dk.lZ,mZ,Su.sp0]using hf
  ·split
   ·trivial
   ·split
    ·rename_i h4 h5 h6 h7
     rw[if_neg h4,if_neg h5,if_neg h6,if_pos h7]at hf
     have e:x.ns.length=2:=by rw[h2,o7,h7];rfl
     have hc:=hn 1 (by omega)
     simp only[Dk.lZ,inR,Bool.and_eq_true,decide_eq_true_eq]at hf
     refine⟨⟨by omega,by simp only[Su.sp0];omega⟩,by omega,by omega⟩
    ·split
     ·rename_i h4 h5 h6 h7 h8
      rw[if_neg h4,if_neg h5,if_neg h6,if_neg h7,if_pos h8]at hf
      simp only[Dk.lZ,inR,Bool.and_eq_true,decide_eq_true_eq]at hf
      exact⟨by omega,by omega⟩
     ·trivial
theorem AV:∀(es:List En) (st:List Bool) (i:Nat) (p:Nat×De),p∈nO es st i→∃x∈es,p.2=x.deed
 | [],_,_,_,h=>by simp[nO]at h
 | _::_,[],_,_,h=>by simp[nO]at h
 |x::xs,b::bs,i,p,h=>by
  simp only[nO]at h
  split at h
  ·rcases List.mem_cons.1 h with h|h
   ·exact⟨x,List.mem_cons_self,by rw[h]⟩
   ·obtain⟨y,hy,e⟩:=AV xs bs _ p h
    exact⟨y,List.mem_cons_of_mem _ hy,e⟩
  ·obtain⟨y,hy,e⟩:=AV xs bs _ p h
   exact⟨y,List.mem_cons_of_mem _ hy,e⟩
theorem FQ:∀(es:List En) (st:List Bool) (i:Nat),(nO es st i).length≤es.length
 | [],_,_=>by simp[nO]
 | _::_,[],_=>by simp[nO]
 |x::xs,b::bs,i=>by
  have:=FQ xs bs (i+1)
  simp only[nO]
  split<;>simp<;>omega
theorem akI {s:Su}(h:s.ok=true):KG s 0 s.sp0:=by
 obtain⟨h1,h2,_⟩:=Su.facts h
 exact⟨h,h1,rfl,rfl,h2,by simp[Su.sp0],by simp[Su.sp0],by simp[Su.sp0],by simp[Su.sp0]⟩
theorem Wj {s:Su}:∀(l:List De) (n:Nat) (t t':Sp),KG s n t→(∀x∈l,mZ s s.sp0 x)→JF s l t=some t'→KG s (n+l.length) t'
 | [],n,t,t',h,_,hd=>by cases hd;exact h
 |x::l,n,t,t',h,hf,hd=>by
  simp only[JF]at hd
  cases h1:doS s t x with
  |none=>rw[h1]at hd;cases hd
  |some t1=>
   rw[h1]at hd
   have:=Wj l (n+1) t1 t' (anM h (mZ.same (n:=n) h.ll.symm h.hh.symm (hf x List.mem_cons_self)) h1) (fun y hy=>hf y (List.mem_cons_of_mem _ hy)) hd
   simpa[Nat.add_assoc,Nat.add_comm 1]using this
theorem Dk.Ok.aa3 {d:Dk}(h:d.Ok)(w:Int):∀x∈d.without w,mZ d.su d.su.sp0 x:=by
 intro x hx
 simp only[Dk.without,List.mem_map,List.mem_filter]at hx
 obtain⟨p,⟨hp,_⟩,rfl⟩:=hx
 obtain⟨y,hy,e⟩:=AV _ _ _ _ hp
 rw[e];exact h.fine y hy
theorem Dk.adG (d:Dk)(w:Int):(d.without w).length≤d.es.length:=by
 simp only[Dk.without,List.length_map]
 exact Nat.le_trans (List.length_filter_le _ _) (FQ _ _ _)
theorem Dk.Ok.adx {d:Dk}(h:d.Ok){w:Int}{t:Sp}(ht:d.state w=some t):KG d.su 24 t:=by
 have h1:=Wj _ 0 _ t (akI h.su) (h.aa3 w) ht
 have h2:=d.adG w
 have h3:=h.few
 have hc:=h1.co
 exact⟨h1.ok,h1.pc,h1.ll,h1.hh,h1.tl,by have:=h1.st;omega,by have:=h1.se;omega,by omega,h1.sv⟩
end Go.Tel
namespace Go.Tel
open Go.Am
def slN (sz:Nat)(W:Bool)(c:PV)(xs:List DV)(ar:List (Option Arr)):Prop:=
 (c= .d (.slice true [])∧xs=[])∨∃k ver st,c= .tsl k ver 0∧ar[k]?=some (some ⟨sz,xs,ver,st⟩)∧st≠2∧(W=true→st=1∨xs=[])
theorem aaU {sz:Nat}{W:Bool}{c:PV}{xs:List DV}{bs:List (Option (List PV))}{fz:List Nat}{ar:List (Option Arr)}{K:Int→Prop}(h:slN sz W c xs ar):vI c ⟨bs,fz,ar⟩ K=K xs.length:=by
 rcases h with⟨rfl,rfl⟩|⟨k,ver,st,rfl,hk,_⟩
 ·rfl
 ·simp[vI,Mem.row,hk]
theorem agd {sz:Nat}{W:Bool}{c:PV}{xs:List DV}{ar:List (Option Arr)}(h:slN sz W c xs ar):PV.one c=true∧PV.cells c=[c]∧c.wS=false:=by
 rcases h with⟨rfl,rfl⟩|⟨k,ver,st,rfl,_⟩<;>exact⟨rfl,rfl,rfl⟩
theorem EK {sz:Nat}{W:Bool}{c:PV}{xs:List DV}{ar ar':List (Option Arr)}(h:slN sz W c xs ar)(hk:∀k A,kOf c=some k→ar[k]?=some (some A)→ar'[k]?=some (some A)):slN sz W c xs ar':=by
 rcases h with⟨rfl,rfl⟩|⟨k,ver,st,rfl,h1,h2⟩
 ·exact .inl ⟨rfl,rfl⟩
 ·exact .inr ⟨k,ver,st,rfl,hk _ _ rfl h1,h2⟩
theorem ND {sz:Nat}{W:Bool}{c:PV}{xs:List DV}{ar:List (Option Arr)}(h:slN sz W c xs ar)(hx:xs≠[]):∃k ver st,c= .tsl k ver 0∧ar[k]?=some (some ⟨sz,xs,ver,st⟩)∧st≠2∧(W=true→st=1):=by
 rcases h with⟨_,rfl⟩|⟨k,ver,st,rfl,h,h2,h3⟩
 ·exact absurd rfl hx
 ·exact⟨k,ver,st,rfl,h,h2,fun hw=>(h3 hw).resolve_right hx⟩
structure DkRd (D:Dk) (d:Nat) (ce cs:PV) (M:Mem):Prop where
 box:M.boxes[d]?=some (some (jg D.su ce cs))
 ent:slN 2 false ce (D.es.map En.dv) M.aA
 str:slN 1 true cs (D.st.map .bool) M.aA
structure AZ (D:Dk) (d:Nat) (ce cs:PV) (M:Mem):Prop extends DkRd D d ce cs M where
 dif:∀k,kOf ce=some k→kOf cs≠some k
 nb:d∉M.fz
 fzb:FzB M
def qW (p:Nat×De):List DV:=[.int .i64 p.1,p.2.dv]
def adu (ce cs:PV)(k:Nat):Prop:=kOf ce=some k∨kOf cs=some k
theorem DkRd.kept {D:Dk}{d n:Nat}{ce cs:PV}{M M':Mem}(h:DkRd D d ce cs M)(hk:Kept n (·=d) (adu ce cs) M M'):DkRd D d ce cs M':=
 ⟨(hk.box d (.inr rfl) (List.getElem?_eq_some_iff.1 h.box).1).trans h.box,EK h.ent fun k A h1 h2=>(hk.row k (.inl h1)).trans h2,EK h.str fun k A h1 h2=>(hk.row k (.inr h1)).trans h2⟩
theorem DkRd.ext {D:Dk}{d:Nat}{ce cs:PV}{bs xs:List (Option (List PV))}{fz fz':List Nat}{ar:List (Option Arr)}(h:DkRd D d ce cs ⟨bs,fz,ar⟩):DkRd D d ce cs ⟨bs++xs,fz',ar⟩:=
 ⟨by have:=h.box;simp only at this⊢;rw[List.getElem?_append_left (List.getElem?_eq_some_iff.1 this).1];exact this,h.ent,h.str⟩
theorem DkRd.moved {D:Dk}{d n:Nat}{ce cs:PV}{M M':Mem}(h:DkRd D d ce cs M)(hd:d<n)(hm:Moved n (fun _=>False) M M'):DkRd D d ce cs M':=
 ⟨(hm.box d hd id).trans h.box,by rw[hm.aA];exact h.ent,by rw[hm.aA];exact h.str⟩
def bV (D:Dk)(i:Nat):List (List DV):=(nO (D.es.drop i) (D.st.drop i) i).map qW
theorem MN {D:Dk}(hl:D.es.length=D.st.length){i:Nat}(hi:i<D.es.length):
  bV D i=if(D.es.getD i default).kind≠6∧D.st.getD i default=false then qW (i,(D.es.getD i default).deed)::bV D (i+1)else bV D (i+1):=by
 rw[bV,drop_cons hi,drop_cons (by omega:i<D.st.length),nO]
 split<;>rfl
theorem vO {b:Bool}:DV.cells (.bool b)=[.bool b]:=rfl
theorem adw {D:Dk}{d:Nat}{ce cs:PV}(hl:D.es.length=D.st.length)(h24:D.es.length≤1000)(hf:∀x∈D.es,o7 x.kind≤x.ns.length):
  YN C F.gZ [.ptr d 0] [] (bV D 0) (·=d) no (adu ce cs) (DkRd D d ce cs):=by
 rintro⟨bs,fz,ar⟩ b n R stop K KP hbn hbo hn hfz hst hmv nD h0 hstop hend
 simp only at hn hfz
 have hbox:=hst.box
 rw[jg]at hbox
 simp only at hbox
 have hdl:d<bs.length:=(List.getElem?_eq_some_iff.1 hbox).1
 refine aF mixed rfl qZ ?_
 simp only[kY,kZ,hbox,hdl,RN,qA,qB,qC,qD,qE,qF]
 rw[aaU hst.ent]
 simp only[List.length_map,RN,qA,qB,qC,qD,qE,qF]
 refine H8 (fun m s=>∃(i:Nat) (pre:List (List DV)) (M1:Mem),m=D.es.length - i∧i≤D.es.length∧s=⟨[(0, .ptr d 0),(1, .qY b),(9,ce),(10, .d (.int .i64 D.es.length)),(11, .d (.int .i64 i))],M1⟩∧n≤M1.boxes.length∧FzB M1∧DkRd D d ce cs M1∧bV D 0=pre++bV D i∧R pre M1)
  D.es.length ⟨0,[],_,rfl,Nat.zero_le _,rfl,hn,hfz,hst,rfl,h0⟩ ?_
 rintro m s ⟨i,pre,⟨bs1,fz1,ar1⟩,rfl,hi,rfl,hn1,hfz1,hst1,hpre,hR⟩
 simp only at hn1
 have yD:=hst1.box
 rw[jg]at yD
 simp only at yD
 have aon:d<bs1.length:=(List.getElem?_eq_some_iff.1 yD).1
 have hn0:bs1.length∉fz1:=fun e=>Nat.lt_irrefl _ (hfz1 _ e)
 by_cases hlt:i<D.es.length
 case neg=>
  have hie:i=D.es.length:=by omega
  subst hie
  simp only[Int.lt_irrefl,RN,qA,qB,qC,qD,qE,qF]
  refine hend _ _ hn1 ?_
  rw[hpre]
  have:bV D D.es.length=[]:=by simp[bV,nO]
  rw[this,List.append_nil];exact hR
 obtain⟨k,ver,st,rfl,hk,_⟩:=ND hst1.ent (by intro e;simp at e;rw[e]at hlt;simp at hlt)
 obtain⟨k2,afA,st2,rfl,hk2,_⟩:=ND hst1.str (by intro e;simp at e;rw[e]at hl;simp at hl;rw[hl]at hlt;simp at hlt)
 simp only at hk hk2
 have hlt':(i:Int)<(D.es.length:Int):=by omega
 have hlt2:i<D.st.length:=by omega
 have j0:(0:Int)≤(i:Int):=by omega
 have w1:IntKind.i64.wrap ((i:Int)+1)=((i+1:Nat):Int):=by rw[aG (by omega)];omega
 have hstep:=MN hl hlt
 obtain⟨x,hx⟩:∃x,x=D.es.getD i default:=⟨_,rfl⟩
 have hxm:x∈D.es:=by rw[hx];exact getD_mem hlt
 have abU:=V9 x (hf x hxm)
 rw[←hx]at hstep
 rw[wO]at abU
 have hR2:R pre ⟨bs1++ [some [.d (.int .i64 x.kind), .d (.slice false (x.ns.map ay))]],bs1.length::fz1,ar1⟩:=
  hmv pre _ _ (Moved.ext (xf:=[bs1.length]) (xb:=[_]) hn1 (by simpa using hn1)) hR
 have hst2:DkRd D d (.tsl k ver 0) (.tsl k2 afA 0) ⟨bs1++ [some [.d (.int .i64 x.kind), .d (.slice false (x.ns.map ay))]],bs1.length::fz1,ar1⟩:=hst1.ext
 have aeH:FzB ⟨bs1++ [some [.d (.int .i64 x.kind), .d (.slice false (x.ns.map ay))]],bs1.length::fz1,ar1⟩:=by
  intro j hj
  simp only[List.mem_cons]at hj
  simp only[List.length_append,List.length_cons,List.length_nil]
  rcases hj with rfl|hj
  ·omega
  ·have:=hfz1 j hj;simp only at this;omega
 simp only[hlt',hlt,j0,hk,Int.toNat_natCast,List.length_map,getD_map,←hx,wO,yD,aon,hn0,aU,aN,aP,List.length_append,RN,qA,qB,qC,qD,qE,qF]
 by_cases h6:x.kind=6
 ·have b6:(x.kind !=6)=false:=by simp[h6]
  rw[if_neg (by simp[h6])]at hstep
  simp only[b6,w1,RN,qA,qB,qC,qD,qE,qF]
  refine⟨D.es.length - (i+1),_,by omega, .inl rfl,i+1,pre,_,rfl,by omega,rfl,by simp;omega,aeH,hst2,by rw[hpre,hstep],hR2⟩
 have b6:(x.kind !=6)=true:=by simp[h6]
 cases hsb:D.st.getD i default
 case true=>
  rw[if_neg (fun e=>by rw[hsb]at e;cases e.2)]at hstep
  simp only[b6,yD,aon,aU,hk2,hlt2,j0,Int.toNat_natCast,List.length_map,getD_map,vO,hsb,w1,RN,qA,qB,qC,qD,qE,qF]
  refine⟨D.es.length - (i+1),_,by omega, .inl rfl,i+1,pre,_,rfl,by omega,rfl,by simp;omega,aeH,hst2,by rw[hpre,hstep],hR2⟩
 rw[if_pos ⟨h6,hsb⟩]at hstep
 simp only[b6,yD,aon,aU,hk2,hlt2,j0,Int.toNat_natCast,List.length_map,getD_map,vO,hsb,RN,qA,qB,qC,qD,qE,qF]
 refine au rfl rfl abU ?_
 (try simp only[RN,qA,qB,qC,qD,qE,qF])
 refine GU ?_
 refine SY.mono (nD pre (qW (i,x.deed)) (bV D (i+1)) _ (by rw[hpre,hstep]) (by simp;omega) hR2) ?_
 rintro p M3 ⟨hkp,hp⟩
 rcases hp with⟨rfl,hR3⟩|⟨rfl,hs3⟩
 ·simp only[w1,RN,qA,qB,qC,qD,qE,qF]
  have hl3:=hkp.len
  simp only[List.length_append,List.length_cons,List.length_nil]at hl3
  refine⟨D.es.length - (i+1),_,by omega, .inl rfl,i+1,_,M3,rfl,by omega,rfl,by omega,hkp.fzb aeH,hst2.kept hkp,by rw[hpre,hstep,List.append_assoc];rfl,hR3⟩
 ·(try simp only[RN,qA,qB,qC,qD,qE,qF])
  exact hstop _ _ hs3
end Go.Tel
namespace Go.Proofs
open Go.Shelf Go.RowKit Go.Lib Go.Sort
section
variable {P:Program}{ρ:Ren}
set_option maxRecDepth 1000000 in
theorem anK (L:Lays2.n23 P ρ)(blk off cap i:Nat)(d:Array Int)(w:World)(hH:Holds (Value.int .i64) w blk off d)(hcap:d.size≤cap)(hi:i<d.size):
  Calls P (ρ.f 23) #[.slice (some ⟨blk,off,none⟩) d.size cap, .int .i64 i, .int .i64 (i+1:Nat)] w fun e w'=>
   e= .returned (.slice (some ⟨blk,off,none⟩) (d.size - 1) cap)∧∃q,w'=putRow (Value.int .i64) (Sort.ahead w q) blk off (d.toList.take i++d.toList.drop (i+1)++ [0]).toArray:=by
 have mixed:=L.mixed;have t0:=L.t0;have a0:=L.a0;have z0:=L.z0;have v0:=L.v0;have t3:=L.t3;have a3:=L.a3;have z3:=L.z3;have v3:=L.v3;have t4:=L.t4;have a4:=L.a4;have z4:=L.z4;have v4:=L.v4;have t22:=L.t22;have a22:=L.a22;have z22:=L.z22;have v22:=L.v22
 obtain⟨i0,hi0,hz0,hz1,hz2⟩:=info_parts L.i3
 obtain⟨tl,htl⟩:∃tl,tl=(d.toList.drop (i+1)).map (Value.int .i64):=⟨_,rfl⟩
 have hln:tl.length=d.size - (i+1):=by rw[htl];simp
 have hg:∀t,t<d.size - (i+1)→tl[t]?=some (Value.int .i64 d[i+1+t]!):=by
  intro t ht
  rw[htl,List.getElem?_map,List.getElem?_drop,Array.getElem?_toList,getElem!_pos d (i+1+t) (by omega),Array.getElem?_eq_getElem (by omega)]
  rfl
 have hA:∃A:Addr,(if cap=i+1 then some (⟨blk,off,none⟩:Addr)else some ⟨blk,off+(i+1),none⟩)=some A∧Hid (∀t u,tl[t]?=some u→w.drew.cell? (A.add t)=some u):=by
  by_cases h:cap=i+1
  ·refine⟨⟨blk,off,none⟩,by simp[h],fun t u hu=> ?_⟩
   have h0:tl.length=0:=by rw[hln];omega
   rw[List.length_eq_zero_iff.1 h0]at hu
   simp at hu
  ·refine⟨⟨blk,off+(i+1),none⟩,by simp[h],fun t u hu=> ?_⟩
   have ht:t<d.size - (i+1):=by
    have:=(List.getElem?_eq_some_iff.1 hu).1
    rwa [hln]at this
   rw[hg t ht]at hu
   rw[Addr.add_lit,show off+(i+1)+t=off+(i+1+t) by omega]
   exact(hH (i+1+t) (by omega)).1.trans hu
 obtain⟨A,hA,hsrc⟩:=hA
 have s1:Hid (tl.length=(d.size - (i+1))*1):=by rw[Nat.mul_one];exact hln
 have s2:Hid (∀u∈tl,u.oneCell'=true):=by
  intro u hu
  rw[htl]at hu
  obtain⟨x,_,rfl⟩:=List.mem_map.1 hu
  rfl
 have s3:Hid (∀t,t<tl.length→(w.drew.cell? ⟨blk,off+i*1+t,none⟩).isSome=true∧w.drew.frozen? ⟨blk,off+i*1+t,none⟩=false):=by
  intro t ht
  rw[hln]at ht
  rw[Nat.mul_one,Nat.add_assoc]
  exact⟨by show(w.cell? _).isSome=true;rw[(hH (i+t) (by omega)).1];rfl,(hH (i+t) (by omega)).2⟩
 obtain⟨W1,hW1⟩:∃W1,W1=w.drew.setCells blk (off+i*1) tl:=⟨_,rfl⟩
 have hW1':W1=putRow (Value.int .i64) (Sort.ahead w 1) blk off (lay d i (d.toList.drop (i+1))):=by
  rw[hW1,htl,Nat.mul_one,←putRow_setCells (Value.int .i64) (Sort.ahead w 1) blk off _ d i (by simp;omega),putRow_self (Value.int .i64) (Sort.ahead w 1) blk off d (holds_ahead (Value.int .i64) w 1 blk off d hH)]
  rfl
 have hH1:Holds (Value.int .i64) W1 blk off (lay d i (d.toList.drop (i+1))):=by rw[hW1'];exact holds_putRow (Value.int .i64) _ blk off d _ (holds_ahead (Value.int .i64) w 1 blk off d hH) (lay_size _ _ _)
 have hcl:∀ty,(Builtin.clear_ #[ρ.t 22] ty #[.slice (some ⟨blk,off+(i+(d.size - (i+1))),none⟩) (d.size - (i+(d.size - (i+1)))) (cap - (i+(d.size - (i+1))))]).run P W1= .ok (.tuple #[]) (W1.setCells blk (off+(i+(d.size - (i+1)))) (List.replicate (d.size - (i+(d.size - (i+1)))) (Value.int .i64 0))):=
  fun ty=>Lib.run_clear_slice W1 _ _ ty _ t22 v3 rfl rfl blk (off+(i+(d.size - (i+1)))) _ _ (by omega) (fun t ht=>by rw[show off+(i+(d.size - (i+1)))+t=off+(i+(d.size - (i+1))+t) by omega,(hH1 _ (by rw[lay_size];omega)).1];rfl) (fun t ht=>by rw[show off+(i+(d.size - (i+1)))+t=off+(i+(d.size - (i+1))+t) by omega];exact(hH1 _ (by rw[lay_size];omega)).2)
 have X:Aside (W1=putRow (Value.int .i64) (Sort.ahead w 1) blk off (lay d i (d.toList.drop (i+1)))):=hW1'
 have hW:Hid (W1=w.drew.setCells blk (off+i*1) tl):=hW1
 have hic:i≤cap:=by omega
 have hjc:i+1≤cap:=by omega
 have hij:i≤i+1:=by omega
 have hj:i+1≤d.size:=by omega
 generalize hjj:i+1=j at*
 have hlt:i<j:=by omega
 clear hW1 hW1' hH1 hH hg htl hln
 go_enter L.f23,Body2.n23_ntmps ρ
 go_wp2_with fail
 go_region_law_o (refine step_append_room rfl (.tmp 22) (.tmp 25) (ρ.t 22) rfl (ρ.t 3) i0 1 t22 hi0 hz1 blk off i cap (by simp[Act.eval,Act.put]) A (d.size - j) (cap - j) tl (by simp[Act.eval,Act.put]) s1.out hsrc.out s2.out (by omega) s3.out ?_;rw[←hW.out])
 go_wp2
 go_ret
 refine⟨by rw[show d.size - 1=i+(d.size - j) by omega];rfl,1,?_⟩
 have hd:=delete_arr d i j 0 hij hj
 rw[show j - i=1 by omega]at hd
 rw[show([0]:List Int)=List.replicate 1 0 from rfl,←hd,←putRow_setCells (Value.int .i64) _ blk off _ _ (i+(d.size - j)) (by rw[lay_size];simp;omega),←X.out,List.map_replicate,show d.size - (i+(d.size - j))=1 by omega]
end
end Go.Proofs
namespace Go.Am
open Go.Sort Go.RowKit
section
variable {C:Ctx}
theorem anL {ρ:Go.Shelf.Ren}(Ly:Go.Proofs.Lays2.n23 C.P ρ){k ver i:Nat}{zs:List Int}{bs:List (Option (List PV))}{fz:List Nat}{ar:List (Option Arr)}{K:PV→Mem→Prop}{KP:DV→Mem→Prop}
  (h:ar[k]?=some (some ⟨1,zs.map (DV.int .i64),ver,1⟩))(hi:i<zs.length)
  (hK:K (.tsl k (ver+1) 0) ⟨bs,fz,ar.set k (some ⟨1,(zs.take i++zs.drop (i+1)).map (DV.int .i64),ver+1,1⟩)⟩):SC C (ρ.f 23) [.tsl k ver 0, .d (.int .i64 i), .d (.int .i64 (i+1:Nat))] ⟨bs,fz,ar⟩ K KP:=by
 intro X w E vals hS hA
 cases hA with|cons hr ht=>
 cases ht with|cons ha ht=>
 cases ht with|cons hb ht=>
 cases ht
 cases ha with|d ha=>
 cases ha
 cases hb with|d hb=>
 cases hb
 cases hr with|tsl hlt hh=>
 obtain⟨_,hv⟩:=hh _ h
 obtain⟨loc,hloc,hT⟩:=hv rfl
 obtain⟨s1,s2,s3,s4⟩:=hS.arr k _ h
 obtain⟨q,hq⟩:=s3 rfl
 rw[hq]at hloc
 cases hloc
 obtain⟨blk,o,e⟩:=q
 obtain⟨hX,vs,T,g2,g3,g4,g5⟩:=s4 blk o e hq
 obtain⟨_,hT⟩:=hT
 rcases hT with⟨cap',he,hcap,hend⟩|⟨h0,_⟩
 case inr=>simp at h0;rw[h0]at hi;simp at hi
 cases he
 simp only[List.length_map,Nat.mul_one,Nat.sub_zero,Nat.zero_mul,Nat.add_zero,Nat.zero_add]at g3 g5 hcap hend⊢
 rw[KQ]at g5
 have hcells:=Jp g5
 have hH:Holds (Value.int .i64) w blk o zs.toArray:=by
  intro j hj
  have hj':j<zs.length:=by simpa using hj
  have hv:vs[o+j]?=some (.int .i64 zs[j]):=by
   have:=congrArg (fun l=>l[j]?) hcells
   simp only[List.getElem?_take,hj',if_true,List.getElem?_drop,Array.getElem?_toList,List.getElem?_map,List.getElem?_eq_getElem hj',Option.map_some]at this
   exact this
  refine⟨?_,?_⟩
  ·rw[cell_of_row w blk (o+j) vs T.ty T.fr g2,hv]
   simp[hj']
  ·have hlt:o+j<vs.size:=(Array.getElem?_eq_some_iff.1 hv).1
   obtain⟨ty,⟨f1,f2⟩,hok⟩:=T
   simp only at hok g2
   simp[World.frozen?,g2]
   intro hh
   omega
 have hblk:blk<w.heap.size:=bT g2
 have hcall:=Go.Proofs.anK Ly blk o _ i zs.toArray w hH (by simpa using hcap) (by simpa using hi)
 simp only[List.size_toArray,List.toList_toArray]at hcall
 refine hcall.mono ?_
 rintro en w' ⟨rfl,n,rfl⟩
 generalize hss:zs.take i++zs.drop (i+1)=ss at*
 have hsl:ss.length+1=zs.length:=by rw[←hss];simp;omega
 have hrow:((putCells (Value.int .i64) o (ss++ [0]).toArray vs).toList.drop o).take ss.length=ss.map (Value.int .i64):=by
  apply List.ext_getElem?
  intro j
  rw[List.getElem?_take,List.getElem?_drop,Array.getElem?_toList,List.getElem?_map]
  by_cases hj:j<ss.length
  ·rw[if_pos hj]
   have hv:o+j<vs.size:=by omega
   have hj2:j<ss.length+1:=by omega
   simp[putCells,Array.getElem?_mapIdx,hv,hj,hj2,List.getElem?_append_left hj]
  ·rw[if_neg hj,List.getElem?_eq_none (by omega)];rfl
 have hsv:=EJ (A':=⟨1,ss.map (DV.int .i64),ver+1,1⟩) (loc:=some (blk,o,e)) (w':=putRow (Value.int .i64) (Go.Sort.ahead w n) blk o (ss++ [0]).toArray) hS h (by simp) rfl rfl rfl (by simp[putRow,mapBlock,Go.Sort.ahead])
  (fun b ob hb hob=>by
   have hne:b≠blk:=by rintro rfl;exact hb o e hq
   simp[putRow,mapBlock,Go.Sort.ahead,Array.getElem?_modify,Ne.symm hne,hob])
  (by simp) (Nat.zero_lt_one) (by intro x hx;obtain⟨y,_,rfl⟩:=List.mem_map.1 hx;rfl) (by simp)
  (fun blk' o' e' he'=>by
   cases he'
   refine⟨.inr ⟨o,e,hq⟩,putCells (Value.int .i64) o (ss++ [0]).toArray vs,TM.cast (by simp[putCells]) T,?_,by simp;omega,by simp[putCells];omega,?_⟩
   ·simp[putRow,mapBlock,Go.Sort.ahead,Array.getElem?_modify,g2,onCells,TM.cast]
   ·simp only[List.length_map,Nat.mul_one]
    rw[KQ,hrow]
    exact XL ss)
 refine⟨_,_,_,hK,hsv.1,hsv.2,?_⟩
 refine .tsl (by simpa using(List.getElem?_eq_some_iff.1 h).1) fun A hA=> ?_
 have hlt:k<ar.length:=(List.getElem?_eq_some_iff.1 h).1
 simp only[List.getElem?_set_self hlt,Option.some.injEq]at hA
 subst hA
 refine⟨Nat.le_refl _,fun _=>⟨some (blk,o,e),?_,?_⟩⟩
 ·have:=hS.aY
  simp only at this
  simp[this▸hlt]
 ·have e1:zs.length - 1=(ss.map (DV.int .i64)).length - 0:=by simp;omega
  refine⟨Nat.zero_le _, .inl ⟨_,by rw[e1,Nat.zero_mul,Nat.add_zero],?_,by simpa using hend⟩⟩
  show(ss.map (DV.int .i64)).length - 0≤_
  rw[←e1];omega
end
end Go.Am
