/-
  Part 20 of the proof of a law of desks: an abstract machine over the model, contracts of functions, plain laws.
  Conditions: none.
-/
import Derived.Test.YtbefoehadfnkbaaGreatDoorJourneymanParsesM19
set_option linter.all false
set_option maxRecDepth 10000
set_option maxHeartbeats 1000000
open Nat renaming reduceBEq→qA,reduceAdd→qB,reduceSub→qC,reduceEqDiff→qD,reduceLT→qE,reduceLeDiff→qF
namespace Go.Tel
open Go.Am
def slR (W:Bool)(c:PV)(xs:List DV)(ar:List (Option Arr)):Prop:=
 (c= .d (.slice true [])∧xs=[])∨∃k ver st,c= .tsl k ver 0∧ar[k]?=some (some ⟨1,xs,ver,st⟩)∧st≠2∧(W=true→st=1∨xs=[])
def kOf:PV→Option Nat| .tsl k _ _=>some k| _=>none
def iC (s:Su)(a mb:Nat)(cst cse:PV)(lX:Int):List PV:=[.tsl a 0 0, .tsl (a+1) 0 0, .tsl (a+2) 0 0, .d (.int .i64 s.lim), .d (.int .i64 s.dvd.jI), .tsl (a+4) 0 0, .d (.int .i64 s.cal.ep), .tsl (a+5) 0 0, .d (.int .i64 s.qg.n), .d (.int .i64 s.qg.d), .d (.int .i64 s.qg.ad), .tsl (a+3) 0 0, .d (.int .i64 s.year), .d (.int .i64 s.mW), .d (.int .i64 s.hours), .d (.int .i64 s.AX), .d (.int .i64 s.pct), .d (.slice false (s.days.map Fb)),cst, .mref mb, .d (.int .i64 lX),cse]
structure fQ (s:Su) (a b mb:Nat) (cst cse:PV) (t:Sp) (M:Mem):Prop where
 box:M.boxes[b]?=some (some (iC s a mb cst cse t.lX))
 map:M.boxes[mb]?=some (some [.iY (opD t.op)])
 r0:M.aA[a]?=some (some ⟨3,t.pc.links.map Lk.dv,0,1⟩)
 r1:M.aA[a+1]?=some (some ⟨1,t.pc.hands.map ay,0,0⟩)
 r2:M.aA[a+2]?=some (some ⟨2,t.tg.map Fr.dv,0,1⟩)
 r3:M.aA[a+3]?=some (some ⟨4,s.fs.map Fs.dv,0,0⟩)
 r4:M.aA[a+4]?=some (some ⟨1,s.dvd.cir.map ay,0,0⟩)
 r5:M.aA[a+5]?=some (some ⟨1,s.cal.cy.map ay,0,0⟩)
 stk:slR true cst (t.dU.map ay) M.aA
 set:slR false cse (t.sets.map ay) M.aA
 kst:∀k,kOf cst=some k→a+6≤k
 kse:∀k,kOf cse=some k→a+6≤k
 dif:∀k,kOf cst=some k→kOf cse≠some k
 nb:b∉M.fz
 nm:mb∉M.fz
 bm:b≠mb
 fzb:∀i∈M.fz,i<M.boxes.length
structure FrS (a b mb:Nat) (M M':Mem):Prop where
 len:M.boxes.length≤M'.boxes.length
 aY:M.aA.length≤M'.aA.length
 box:∀i,i<M.boxes.length→i≠b→i≠mb→M'.boxes[i]?=M.boxes[i]?
 fz:∀i,i<M.boxes.length→(i∈M'.fz↔i∈M.fz)
 row:∀k,k<a→M'.aA[k]?=M.aA[k]?
 fzb:FzB M→FzB M'
theorem FrS.refl {a b mb:Nat}(M:Mem):FrS a b mb M M:=⟨Nat.le_refl _,Nat.le_refl _,fun _ _ _ _=>rfl,fun _ _=>Iff.rfl,fun _ _=>rfl,id⟩
theorem FrS.trans {a b mb:Nat}{M M' M'':Mem}(h:FrS a b mb M M')(h':FrS a b mb M' M''):FrS a b mb M M'':=
 ⟨Nat.le_trans h.len h'.len,Nat.le_trans h.aY h'.aY,fun i hi h1 h2=>(h'.box i (Nat.lt_of_lt_of_le hi h.len) h1 h2).trans (h.box i hi h1 h2),fun i hi=>(h'.fz i (Nat.lt_of_lt_of_le hi h.len)).trans (h.fz i hi),fun k hk=>(h'.row k hk).trans (h.row k hk),fun e=>h'.fzb (h.fzb e)⟩
def ais:Prop:=∀(k ver i:Nat) (zs:List Int) (bs:List (Option (List PV))) (fz:List Nat) (ar:List (Option Arr)) (K:PV→Mem→Prop) (KP:DV→Mem→Prop),ar[k]?=some (some ⟨1,zs.map ay,ver,1⟩)→i<zs.length→
 K (.tsl k (ver+1) 0) ⟨bs,fz,ar.set k (some ⟨1,(zs.take i++zs.drop (i+1)).map ay,ver+1,1⟩)⟩→SC C F.slices_Delete_int [.tsl k ver 0, .d (.int .i64 i), .d (.int .i64 (i+1:Nat))] ⟨bs,fz,ar⟩ K KP
theorem abX (v:Int):∀(xs:List Int) (i:Nat),(idx v xs i= -1∧v∉xs)∨∃n,idx v xs i=((i+n:Nat):Int)∧n<xs.length∧xs.take n++xs.drop (n+1)=xs.erase v∧v∈xs
 | [],i=> .inl ⟨rfl,by simp⟩
 |x::xs,i=>by
  rw[idx]
  by_cases h:v=x
  ·subst h
   exact .inr ⟨0,by simp,by simp,by simp,by simp⟩
  ·rcases abX v xs (i+1)with⟨h1,h2⟩|⟨n,h1,h2,h3,h4⟩
   ·refine .inl ⟨by simp[h,h1],by simp[h,h2]⟩
   ·refine .inr ⟨n+1,by simp[h,h1];omega,by simp;omega,?_,by simp[h4]⟩
    have hx:¬(x==v)=true:=by simp;exact fun e=>h e.symm
    rw[List.erase_cons_tail hx,←h3]
    simp
theorem ah7 {W:Bool}{c:PV}{xs:List DV}{bs:List (Option (List PV))}{fz:List Nat}{ar:List (Option Arr)}(h:slR W c xs ar):∃ex,datum ⟨bs,fz,ar⟩ c=some (.slice ex xs):=by
 rcases h with⟨rfl,rfl⟩|⟨k,ver,st,rfl,h,_⟩
 ·exact⟨true,rfl⟩
 ·exact⟨false,by simp[datum,Mem.row,h]⟩
theorem Ns {W:Bool}{c:PV}{xs:List DV}{ar:List (Option Arr)}(h:slR W c xs ar):PV.one c=true∧PV.cells c=[c]∧c.wS=false:=by
 rcases h with⟨rfl,rfl⟩|⟨k,ver,st,rfl,_⟩<;>exact⟨rfl,rfl,rfl⟩
theorem uM {W:Bool}{c:PV}{xs:List DV}{ar ar':List (Option Arr)}(h:slR W c xs ar)(hk:∀k A,kOf c=some k→ar[k]?=some (some A)→ar'[k]?=some (some A)):slR W c xs ar':=by
 rcases h with⟨rfl,rfl⟩|⟨k,ver,st,rfl,h1,h2⟩
 ·exact .inl ⟨rfl,rfl⟩
 ·exact .inr ⟨k,ver,st,rfl,hk _ _ rfl h1,h2⟩
theorem fQ.Xc {s:Su}{a b mb:Nat}{cst cse:PV}{t:Sp}{bs:List (Option (List PV))}{fz:List Nat}{ar ar':List (Option Arr)}(h:fQ s a b mb cst cse t ⟨bs,fz,ar⟩){k ver st:Nat}{xs:List Int}(hk:a+6≤k)(hd:kOf cse≠some k)
  (h1:ar'[k]?=some (some ⟨1,xs.map ay,ver,st⟩))(h2:∀j,j≠k→j<ar.length→ar'[j]?=ar[j]?)(hl:ar.length≤ar'.length)(hst:st≠2∧(st=1∨xs=[])):
  fQ s a b mb (.tsl k ver 0) cse {t with dU:=xs} ⟨bs.set b (some (iC s a mb (.tsl k ver 0) cse t.lX)),fz,ar'⟩∧FrS a b mb ⟨bs,fz,ar⟩ ⟨bs.set b (some (iC s a mb (.tsl k ver 0) cse t.lX)),fz,ar'⟩:=by
 have hbl:b<bs.length:=(List.getElem?_eq_some_iff.1 h.box).1
 have hr:∀(j:Nat) (A:Arr),j≠k→ar[j]?=some (some A)→ar'[j]?=some (some A):=fun j A hj hA=>by
  rw[h2 j hj (List.getElem?_eq_some_iff.1 hA).1];exact hA
 constructor
 ·exact
  {box:=by simp[hbl]
   map:=by
    have:=h.map
    have hne:=h.bm
    simp only at this⊢
    rw[List.getElem?_set_ne hne];exact this
   r0:=hr _ _ (by omega) h.r0
   r1:=hr _ _ (by omega) h.r1
   r2:=hr _ _ (by omega) h.r2
   r3:=hr _ _ (by omega) h.r3
   r4:=hr _ _ (by omega) h.r4
   r5:=hr _ _ (by omega) h.r5
   stk:= .inr ⟨k,ver,st,rfl,h1,hst.1,fun _=>hst.2.imp id fun e=>by simp[e]⟩
   set:=uM h.set fun j A hj hA=>hr j A (fun e=>hd (e▸hj)) hA
   kst:=fun j hj=>by cases hj;exact hk
   kse:=h.kse
   dif:=fun j hj=>by cases hj;exact hd
   nb:=h.nb
   nm:=h.nm
   bm:=h.bm
   fzb:=fun i hi=>by simpa using h.fzb i hi}
 ·exact
  {len:=by simp
   fzb:=fun hb i hi=>by have:=hb i hi;simpa using this
   aY:=hl
   box:=fun i _ h3 _=>by simp only;rw[List.getElem?_set_ne (Ne.symm h3)]
   fz:=fun _ _=>Iff.rfl
   row:=fun j hj=>by
    by_cases hja:j<ar.length
    ·exact h2 j (by omega) hja
    ·exact absurd (List.getElem?_eq_some_iff.1 h.r0).1 (by simp only;omega)}
theorem agj (hdel:ais){s:Su}{a b mb:Nat}{cst cse:PV}{t:Sp}{M:Mem}(h:fQ s a b mb cst cse t M)(v:Int)(hl:t.dU.length≤1000000):
  SC C F.kN [.ptr b 0, .d (.int .i64 v)] M (fun p M'=>(v∉t.dU∧p= .d (.bool false)∧M'=M)∨(v∈t.dU∧p= .d (.bool true)∧∃wF,fQ s a b mb wF cse {t with dU:=t.dU.erase v} M'∧FrS a b mb M M'∧kOf wF=kOf cst∧(∃k ver,wF= .tsl k ver 0∧M'.aA[k]?=some (some ⟨1,(t.dU.erase v).map ay,ver,1⟩))∧∀k,kOf cst≠some k→M'.aA[k]?=M.aA[k]?)) (fun _ _=>False):=by
 obtain⟨bs,fz,ar⟩:=M
 have hbox:=h.box
 rw[iC]at hbox
 have hnb:=h.nb
 simp only at hbox hnb
 obtain⟨o1,o2,o3⟩:=Ns h.stk
 obtain⟨ex,hdt⟩:=ah7 (bs:=bs) (fz:=fz) h.stk
 refine aF mixed rfl Gs ?_
 simp only[ug,uJ,hbox,o1,o2,o3,RN,qA,qB,qC,qD,qE,qF]
 refine mg (wL hdt) rfl (WR t.dU v hl) rfl ?_
 rcases abX v t.dU 0 with⟨h1,h2⟩|⟨n,h1,h2,h3,h4⟩
 ·have hx:idx v t.dU 0<0:=by omega
  simp only[hx,RN,qA,qB,qC,qD,qE,qF]
  exact .inl h2
 ·have hx:¬(n:Int)<0:=by omega
  have e1:IntKind.i64.wrap ((n:Int)+1)=((n+1:Nat):Int):=by rw[aG (by omega)];omega
  have e2:idx v t.dU 0=(n:Int):=by omega
  have hne:t.dU≠[]:=fun e=>by rw[e]at h4;cases h4
  rcases h.stk with⟨_,h5⟩|⟨k,ver,st,rfl,h5,h6,h7⟩
  ·exact absurd (by simpa using h5) hne
  ·have hst:st=1:=(h7 rfl).resolve_right (by simpa using hne)
   subst hst
   simp only[hx,hbox,e1,e2,RN,qA,qB,qC,qD,qE,qF]
   refine hdel k ver n t.dU _ _ _ _ _ h5 h2 ?_
   simp only[hbox,hnb,bM,dN,RN,qA,qB,qC,qD,qE,qF]
   rw[h3]
   have hkl:k<ar.length:=(List.getElem?_eq_some_iff.1 h5).1
   obtain⟨g1,g2⟩:=h.Xc (k:=k) (ver:=ver+1) (st:=1) (xs:=t.dU.erase v) (ar':=ar.set k (some ⟨1,(t.dU.erase v).map ay,ver+1,1⟩)) (h.kst k rfl) (h.dif k rfl) (by simp[hkl]) (fun j hj _=>List.getElem?_set_ne (Ne.symm hj)) (by simp) ⟨by decide, .inl rfl⟩
   exact .inr ⟨h4,_,g1,g2,rfl,⟨k,_,rfl,by simp[hkl]⟩,fun j hj=>List.getElem?_set_ne (fun e=>hj (by rw[e];rfl))⟩
end Go.Tel
namespace Go.Tel
open Go.Am
section
variable {C:Ctx}{base:Nat}{KP:DV→Mem→Prop}{K:PV→Mem→Prop}{M:Mem}
theorem O6 {t:TypeId}{x:DV}:aj C base .panic [.d (.iface t x)] M K KP=KP (.iface t x) M:=by
 have:=KU (M:=M) (ds:=[DV.iface t x])
 simp only[List.map_cons,List.map_nil]at this
 simp only[aj,datum,this]
theorem dV {f:FuncId}{fs cs:List DV}{args:List PV}:aj C base .je (.d (.func (.func f) fs cs)::args) M K KP=(callable C.P f=true∧SC C f (fs.map .d++args++cs.map .d) M K KP):=propext ⟨id,id⟩
end
def OW (d:DV):Prop:=∃y,d= .iface T.iQ (.agg [y])∧PV.cells (.d y)=[.d y]∧y.one=true
theorem JA {x:DV}{M:Mem}{K:PV→Mem→Prop}{KP:DV→Mem→Prop}(h:K (.d (.tup [])) M):SC C F.fP [.d (.bool true), .d (.aX [x])] M K KP:=by
 obtain⟨bs,fz,ar⟩:=M
 refine aF mixed rfl sW ?_
 simp only[lN,lU,RN,qA,qB,qC,qD,qE,qF]
 exact h
theorem Bv {x:DV}{M:Mem}{K:PV→Mem→Prop}{KP:DV→Mem→Prop}(hx:PV.cells (.d x)=[.d x]∧x.one=true)(h:KP (.iface T.iQ (.agg [x])) M):SC C F.fP [.d (.bool false), .d (.aX [x])] M K KP:=by
 obtain⟨bs,fz,ar⟩:=M
 refine aF mixed rfl sW ?_
 simp only[lN,lU,hx.1,hx.2,QD,O6,RN,qA,qB,qC,qD,qE,qF]
 exact h
def o8:List (Int×Fr)→Int→Option Fr
 | [],_=>none
 |p::l,h=>if h=p.1 then some p.2 else o8 l h
def UE:List (Int×Fr)→Int→List (Int×Fr)
 | [],_=>[]
 |p::l,h=>if h=p.1 then l else p::UE l h
theorem Ls (p:Int×Fr)(l:List (Int×Fr)):opD (p::l)=(.int .i64 p.1,p.2.dv)::opD l:=rfl
theorem ajJ (h n:Int):iF [] (.int .i64 h) (.int .i64 n)=some (h==n):=by simp[iF]
theorem Nu (l:List (Int×Fr))(h:Int):sN [] (opD l) (.int .i64 h)=some ((o8 l h).map Fr.dv):=by
 induction l with
 |nil=>rfl
 |cons p l ih=>
  rw[Ls,sN,ajJ,o8]
  by_cases hp:h=p.1
  ·have b1:(h==p.1)=true:=by simp[hp]
   rw[b1,if_pos hp];rfl
  ·have b1:(h==p.1)=false:=beq_false_of_ne hp
   rw[b1,if_neg hp];exact ih
theorem aoS (l:List (Int×Fr))(h:Int)(f:Fr)(hn:o8 l h=none):JJ [] (opD l) (.int .i64 h) f.dv=some (opD (l++ [(h,f)])):=by
 induction l with
 |nil=>rfl
 |cons p l ih=>
  rw[o8]at hn
  by_cases hp:h=p.1
  ·rw[if_pos hp]at hn;cases hn
  ·have b1:(h==p.1)=false:=beq_false_of_ne hp
   rw[if_neg hp]at hn
   rw[Ls,JJ,ajJ,b1]
   simp only[ih hn,Option.map_some,List.cons_append,Ls]
theorem aoR (l:List (Int×Fr))(h:Int):JI [] (opD l) (.int .i64 h)=some (opD (UE l h)):=by
 induction l with
 |nil=>rfl
 |cons p l ih=>
  rw[Ls,JI,ajJ,UE]
  by_cases hp:h=p.1
  ·have b1:(h==p.1)=true:=by simp[hp]
   rw[b1,if_pos hp]
  ·have b1:(h==p.1)=false:=beq_false_of_ne hp
   rw[b1,if_neg hp]
   simp only[ih,Option.map_some,Ls]
def CS (dU puts:List Int)(old new:Int):Option (List Int×List Int):=if old=new then some (dU,puts)else if new∈dU then some (dU.erase new,puts++ [old])else none
def doS (s:Su)(t:Sp):De→Option Sp
 | .cut n=>if(s.dvd.cuts n).2=0∧t.dU.length<8 then some {t with dU:=t.dU++ [n]}else none
 | .change c=>
  if t.pc.Qj c&&((t.pc.Bo (t.pc.changed c)).all fun h=>(o8 t.op h).isSome)then
   let old:=(t.pc.links.getD c.link.toNat default).pr
   match CS t.dU [] old.a c.pr.a with
   |none=>none
   |some (s1,p1)=>match CS s1 p1 old.b c.pr.b with
    |none=>none
    |some (s2,p2)=>some {t with pc:=t.pc.changed c,dU:=s2++p2}
  else none
 | .order h f=>if(o8 t.op h).isSome then none else some {t with op:=t.op++ [(h,f)]}
 | .serve h lX=>match o8 t.op h with
  |none=>none
  |some f=>if Zb s t h f 100&&decide (lX≥PN s t h.toNat)then some {t with op:=UE t.op h,tg:=t.tg.set h.toNat f,lX:=t.lX+lX}else none
 | .set d=>if(s.days.getD (d - 1).toNat default).2&&(t.sets.isEmpty||decide (d>t.sets.getD (t.sets.length - 1) default))then some {t with sets:=t.sets++ [d]}else none
 | .strike _=>some t
theorem adt {s:Su}{a b mb:Nat}{cst cse:PV}{t:Sp}{M:Mem}(h:fQ s a b mb cst cse t M):∃e1 e2,datum M (.ptr b 0)=some (.aX [.slice false (t.pc.links.map Lk.dv), .slice false (t.pc.hands.map ay), .slice false (t.tg.map Fr.dv), .int .i64 s.lim, .int .i64 s.dvd.jI, .slice false (s.dvd.cir.map ay), .int .i64 s.cal.ep, .slice false (s.cal.cy.map ay), .int .i64 s.qg.n, .int .i64 s.qg.d, .int .i64 s.qg.ad, .slice false (s.fs.map Fs.dv), .int .i64 s.year, .int .i64 s.mW, .int .i64 s.hours, .int .i64 s.AX, .int .i64 s.pct,
 .slice false (s.days.map Fb), .slice e1 (t.dU.map ay), .map (some (opD t.op)), .int .i64 t.lX, .slice e2 (t.sets.map ay)]):=by
 have h1:=h.box
 have h2:=h.map
 rw[iC]at h1
 rcases h.stk with⟨rfl,e1⟩|⟨k,ver,st,rfl,e1,_⟩<;>rcases h.set with⟨rfl,e2⟩|⟨k',arE,st',rfl,e2,_⟩
 ·exact⟨true,true,by simp[datum,bW,eU,Mem.box,Mem.row,h1,h2,h.r0,h.r1,h.r2,h.r3,h.r4,h.r5,e1,e2]⟩
 ·exact⟨true,false,by simp[datum,bW,eU,Mem.box,Mem.row,h1,h2,h.r0,h.r1,h.r2,h.r3,h.r4,h.r5,e1,e2]⟩
 ·exact⟨false,true,by simp[datum,bW,eU,Mem.box,Mem.row,h1,h2,h.r0,h.r1,h.r2,h.r3,h.r4,h.r5,e1,e2]⟩
 ·exact⟨false,false,by simp[datum,bW,eU,Mem.box,Mem.row,h1,h2,h.r0,h.r1,h.r2,h.r3,h.r4,h.r5,e1,e2]⟩
end Go.Tel
namespace Go.Tel
open Go.Am
structure ZP (s:Su) (t:Sp):Prop where
 ok:s.ok=true
 pc:t.pc.ok=true
 tl:t.tg.length=t.pc.hands.length
 st:t.dU.length≤100000
 se:t.sets.length≤100000
 co:0≤t.lX∧t.lX≤1000000000000
section
variable {bs xs:List (Option (List PV))}{b n k:Nat}{y:Option (List PV)}
theorem aU (h:b<bs.length):(bs++xs)[b]?=bs[b]?:=List.getElem?_append_left h
theorem bG (h:bs.length=n):(bs++xs)[n+k]?=xs[k]?:=by rw[←h,List.getElem?_append_right (by omega)];congr 1;omega
theorem aN (h:bs.length=n):(bs++xs)[n]?=xs[0]?:=by rw[←h,List.getElem?_append_right (by omega)];congr 1;omega
theorem bI (h:b<bs.length):(bs++xs).set b y=bs.set b y++xs:=List.set_append_left _ _ h
theorem bU (h:bs.length=n):(bs++xs).set (n+k) y=bs++xs.set k y:=by rw[←h,List.set_append_right _ _ (by omega)];congr 2;omega
theorem aP (h:bs.length=n):(bs++xs).set n y=bs++xs.set 0 y:=by rw[←h,List.set_append_right _ _ (by omega)];congr 2;omega
end
theorem fQ.ext {s:Su}{a b mb:Nat}{cst cse:PV}{t:Sp}{bs xs:List (Option (List PV))}{fz xf:List Nat}{ar:List (Option Arr)}(h:fQ s a b mb cst cse t ⟨bs,fz,ar⟩)(hf:∀i∈xf,bs.length≤i∧i<bs.length+xs.length):fQ s a b mb cst cse t ⟨bs++xs,xf++fz,ar⟩∧FrS a b mb ⟨bs,fz,ar⟩ ⟨bs++xs,xf++fz,ar⟩:=by
 have hbl:b<bs.length:=(List.getElem?_eq_some_iff.1 h.box).1
 have hml:mb<bs.length:=(List.getElem?_eq_some_iff.1 h.map).1
 constructor
 ·exact
  {box:=by simp only;rw[List.getElem?_append_left hbl];exact h.box
   map:=by simp only;rw[List.getElem?_append_left hml];exact h.map
   r0:=h.r0,r1:=h.r1,r2:=h.r2,r3:=h.r3,r4:=h.r4,r5:=h.r5,stk:=h.stk,set:=h.set,kst:=h.kst,kse:=h.kse,dif:=h.dif
   nb:=fun e=>by
    rcases List.mem_append.1 e with e|e
    ·have:=hf _ e;omega
    ·exact h.nb e
   nm:=fun e=>by
    rcases List.mem_append.1 e with e|e
    ·have:=hf _ e;omega
    ·exact h.nm e
   bm:=h.bm
   fzb:=fun i e=>by
    simp only[List.length_append]
    rcases List.mem_append.1 e with e|e
    ·have:=hf _ e;omega
    ·have:=h.fzb i e;simp only at this;omega}
 ·exact
  {len:=by simp
   fzb:=fun hb i hi=>by
    simp only[List.length_append]
    rcases List.mem_append.1 hi with e|e
    ·exact(hf _ e).2
    ·have:=hb i e;simp only at this;omega
   aY:=Nat.le_refl _
   box:=fun i hi _ _=>List.getElem?_append_left hi
   fz:=fun i hi=>by
    simp only[List.mem_append]
    refine⟨fun e=>e.elim (fun e=> ?_) id, .inr⟩
    have:=hf _ e
    simp only at hi
    omega
   row:=fun _ _=>rfl}
theorem agh {W:Bool}{c:PV}{xs:List DV}{bs:List (Option (List PV))}{fz:List Nat}{ar:List (Option Arr)}{K:Int→Prop}(h:slR W c xs ar):vI c ⟨bs,fz,ar⟩ K=K xs.length:=by
 rcases h with⟨rfl,rfl⟩|⟨k,ver,st,rfl,hk,_⟩
 ·rfl
 ·simp[vI,Mem.row,hk]
theorem agf {W st1:Bool}{c:PV}{xs ys:List DV}{ex:Bool}{bs:List (Option (List PV))}{fz:List Nat}{ar:List (Option Arr)}{K:PV→Mem→Prop}(h:slR W c xs ar)(hy:∀y∈ys,y.fits 1=true)(hxs:∀y∈xs,y.fits 1=true)(hn:st1=true→ys≠[])(hl:xs.length+ys.length≤1073741824)
  (hK:∀k ver st ar',(kOf c=some k∨k=ar.length)→ar'[k]?=some (some ⟨1,xs++ys,ver,st⟩)→(∀j,j≠k→j<ar.length→ar'[j]?=ar[j]?)→ar.length≤ar'.length→st≠2→(st1=true→st=1)→(st1=false→kOf c=some k→W=true→st=1∨xs=[])→(st1=false→kOf c=none→st=0)→K (.tsl k ver 0) ⟨bs,fz,ar'⟩):
  mP 1 st1 c (.d (.slice ex ys)) ⟨bs,fz,ar⟩ K:=by
 rcases h with⟨rfl,rfl⟩|⟨k,ver,st,rfl,hk,h2,h3⟩
 ·simp only[mP,Dv]
  refine⟨by decide,hy,hn,trivial,by simp,by simpa using hl,?_⟩
  refine hK _ _ _ _ (.inr rfl) (by simp;rfl) (fun j hj hj2=>by rw[List.getElem?_append_left hj2]) (by simp) (by cases st1<;>simp) (fun e=>by simp[e]) (fun _ e=>by cases e) (fun e _=>by simp[e])
 ·have hkl:k<ar.length:=(List.getElem?_eq_some_iff.1 hk).1
  simp only[mP,Dv,Mem.row,hk,if_true]
  refine⟨by decide,hy,hn,trivial,h2,hl,?_⟩
  refine hK k (ver+1) _ _ (.inl rfl) (by simp[hkl];rfl) (fun j hj _=>List.getElem?_set_ne (Ne.symm hj)) (by simp) (by cases st1<;>simp[h2]) (fun e=>by simp[e]) (fun e _ hW=>by simpa[e]using h3 hW) (fun _ e=>by cases e)
theorem De.one (x:De):PV.cells (.d x.dv)=[.d x.dv]∧x.dv.one=true:=⟨rfl,rfl⟩
theorem anN {s:Su}{a b mb:Nat}{cst cse:PV}{t:Sp}{M:Mem}(h:fQ s a b mb cst cse t M)(ht:ZP s t)(n:Int):
  SC C F.bF [.ptr b 0, .d (De.cut n).dv] M (fun p M'=>∃t' wF,doS s t (.cut n)=some t'∧fQ s a b mb wF cse t' M'∧FrS a b mb M M') (fun d M'=>doS s t (.cut n)=none∧OW d∧FrS a b mb M M'):=by
 obtain⟨bs,fz,ar⟩:=M
 have hbox:=h.box
 rw[iC]at hbox
 have hnb:=h.nb
 have hr4:=h.r4
 simp only at hbox hnb hr4
 have hbl:b<bs.length:=(List.getElem?_eq_some_iff.1 hbox).1
 obtain⟨o1,o2,o3⟩:=Ns h.stk
 have hd1:=(De.one (.cut n)).1
 have hd2:=(De.one (.cut n)).2
 have hx:(De.cut n).dv= .iface T.eu (.agg [.int .i64 n]):=rfl
 refine aF mixed rfl dM ?_
 rw[hx]at hd1 hd2⊢
 have hn0:bs.length∉fz:=fun e=>Nat.lt_irrefl _ (h.fzb _ e)
 have hn1:∀k,bs.length+k∉fz:=fun k e=>by have:=h.fzb _ e;simp only at this;omega
 have hb0:¬b=bs.length:=by omega
 have hb1:∀k,¬b=bs.length+k:=fun k=>by omega
 have hb2:∀k,b<bs.length+k:=fun k=>by omega
 have hs1:¬bs.length+1=bs.length:=by omega
 have hcu:=adK s.dvd n (by have:=(Su.VP ht.ok).ci;omega)
 rw[IJ,KN]at hcu
 simp only[cO,cZ,hd1,hd2,oI,hbl,hbox,aU,bG,aN,bI,bU,aP,List.append_assoc,List.length_append,Nat.add_assoc,List.length_set,hn0,hn1,hb0,hb1,hb2,hs1,bn,Option.map_none,eP,RN,qA,qB,qC,qD,qE,qF]
 refine mg (wL (d:= .agg [.int .i64 s.dvd.jI, .slice false (s.dvd.cir.map ay)]) (by simp[datum,bW,eU,Mem.row,hr4])) rfl hcu rfl ?_
 have z0:((0:Int)==0)=true:=rfl
 by_cases hcz:(s.dvd.cuts n).2=0
 ·have aol:((s.dvd.cuts n).2==0)=true:=by simp[hcz]
  simp only[aol,hbl,hbox,aU,bG,aN,bI,bU,aP,List.append_assoc,List.length_append,Nat.add_assoc,List.length_set,hn0,hn1,hb0,hb1,hb2,hs1,dV,RN,qA,qB,qC,qD,qE,qF]
  refine⟨by simp,?_⟩
  rw[agh h.stk]
  by_cases h8:t.dU.length<8
  ·have h8':decide (((t.dU.map ay).length:Int)<8)=true:=by simp;omega
   rw[h8']
   refine⟨by kernel_rfl,JA ?_⟩
   simp only[hbl,hbox,aU,hb2,List.length_append,o1,o2,DV.strip,jX,RN,qA,qB,qC,qD,qE,qF]
   refine agf h.stk (fun y hy=>by simp only[List.mem_singleton]at hy;subst hy;rfl) zl (by simp) (by simp;omega) fun k ver st ar' e1 e2 e3 e4 e5 e6 _ _=> ?_
   have hst1:=e6 rfl
   subst hst1
   obtain⟨g1,g2⟩:=h.ext (xs:=[some [PV.d (DV.iface T.eu (DV.agg [DV.int IntKind.i64 n]))],some [PV.d (DV.int IntKind.i64 n)],some [PV.d (DV.int IntKind.i64 (s.dvd.cuts n).fst.circle),PV.d (DV.int IntKind.i64 (s.dvd.cuts n).fst.turns),PV.d (DV.int IntKind.i64 (s.dvd.cuts n).fst.holes)]]) (xf:=[bs.length+1,bs.length]) (by simp)
   have hal:a+5<ar.length:=(List.getElem?_eq_some_iff.1 h.r5).1
   obtain⟨g3,g4⟩:=g1.Xc (k:=k) (ver:=ver) (st:=1) (xs:=t.dU++ [n]) (ar':=ar') (by
     rcases e1 with e1|e1
     ·exact h.kst k e1
     ·omega) (fun e=>by
     rcases e1 with e1|e1
     ·exact h.dif k e1 e
     ·rcases h.set with⟨rfl,_⟩|⟨k',_,_,rfl,q,_⟩
      ·cases e
      ·cases e
       have:=(List.getElem?_eq_some_iff.1 q).1
       simp only at this
       omega) (by rw[e2];simp[ay]) e3 e4 ⟨by decide, .inl rfl⟩
   simp only[hbl,hbox,aU,hb2,List.length_append,bI,hn0,hn1,hb0,hb1,hnb,bM,dN,RN,qA,qB,qC,qD,qE,qF]
   rw[bI hbl]at g3 g4
   exact⟨_,_,by simp[doS,hcz,h8],g3,g2.trans g4⟩
  ·have h8':decide (((t.dU.map ay).length:Int)<8)=false:=by simp;omega
   rw[h8']
   refine⟨by kernel_rfl,Bv ⟨rfl,rfl⟩ ⟨by simp[doS,h8],⟨_,rfl,rfl,rfl⟩,?_⟩⟩
   exact(h.ext (xf:=[bs.length+1,bs.length]) (by simp)).2
 ·have aol:((s.dvd.cuts n).2==0)=false:=by simp[hcz]
  simp only[aol,hbl,hbox,aU,bG,aN,bI,bU,aP,List.append_assoc,List.length_append,Nat.add_assoc,List.length_set,hn0,hn1,hb0,hb1,hb2,hs1,dV,RN,qA,qB,qC,qD,qE,qF]
  refine⟨by simp,by kernel_rfl,Bv ⟨rfl,rfl⟩ ⟨by simp[doS,hcz],⟨_,rfl,rfl,rfl⟩,?_⟩⟩
  exact(h.ext (xf:=[bs.length+1,bs.length]) (by simp)).2
end Go.Tel
namespace Go.Tel
open Go.Am
section
variable {C:Ctx}{base:Nat}{KP:DV→Mem→Prop}
theorem aoN {ks:List Nat}{b:Nat}{k v:DV}{M:Mem}{K:PV→Mem→Prop}(l l':List (DV×DV))(hb:M.box b=some [.iY l])(hf:b∉M.fz)(h1:iF ks k k=some true)(h2:JJ ks l k v=some l')(hK:K .dead {M with boxes:=M.boxes.set b (some [.iY l'])}):
  aj C base (.ae2 ks) [.mref b, .d k, .d v] M K KP:=by
 simp only[aj,hb,h1,h2];exact⟨hf,hK⟩
theorem aoM {ks:List Nat}{b:Nat}{k:DV}{M:Mem}{K:PV→Mem→Prop}(l l':List (DV×DV))(hb:M.box b=some [.iY l])(hf:b∉M.fz)(h1:iF ks k k=some true)(h2:JI ks l k=some l')(hK:K (.d (.tup [])) {M with boxes:=M.boxes.set b (some [.iY l'])}):
  aj C base (.ae0 ks) [.mref b, .d k] M K KP:=by
 simp only[aj,hb,h1,h2];exact⟨hf,hK⟩
end
theorem zY (h:Int):iF [] (.int .i64 h) (.int .i64 h)=some true:=by simp[iF]
theorem fQ.anj {s:Su}{a b mb:Nat}{cst cse:PV}{t:Sp}{bs:List (Option (List PV))}{fz:List Nat}{ar:List (Option Arr)}(h:fQ s a b mb cst cse t ⟨bs,fz,ar⟩)(op':List (Int×Fr)):
  fQ s a b mb cst cse {t with op:=op'} ⟨bs.set mb (some [.iY (opD op')]),fz,ar⟩∧FrS a b mb ⟨bs,fz,ar⟩ ⟨bs.set mb (some [.iY (opD op')]),fz,ar⟩:=by
 have hml:mb<bs.length:=(List.getElem?_eq_some_iff.1 h.map).1
 constructor
 ·exact
  {box:=by simp only;rw[List.getElem?_set_ne (Ne.symm h.bm)];exact h.box
   map:=by simp[hml]
   r0:=h.r0,r1:=h.r1,r2:=h.r2,r3:=h.r3,r4:=h.r4,r5:=h.r5,stk:=h.stk,set:=h.set,kst:=h.kst,kse:=h.kse,dif:=h.dif
   nb:=h.nb,nm:=h.nm,bm:=h.bm
   fzb:=fun i e=>by simpa using h.fzb i e}
 ·exact
  {len:=by simp
   fzb:=fun hb i hi=>by have:=hb i hi;simpa using this
   aY:=Nat.le_refl _
   box:=fun i _ _ h2=>by simp only;rw[List.getElem?_set_ne (Ne.symm h2)]
   fz:=fun _ _=>Iff.rfl
   row:=fun _ _=>rfl}
theorem ai4 {s:Su}{a b mb:Nat}{cst cse:PV}{t:Sp}{M:Mem}(h:fQ s a b mb cst cse t M)(n:Int)(f:Fr):
  SC C F.bF [.ptr b 0, .d (De.order n f).dv] M (fun p M'=>∃t' wF GN,doS s t (.order n f)=some t'∧fQ s a b mb wF GN t' M'∧FrS a b mb M M') (fun d M'=>doS s t (.order n f)=none∧OW d∧FrS a b mb M M'):=by
 obtain⟨bs,fz,ar⟩:=M
 have hbox:=h.box
 rw[iC]at hbox
 have hnb:=h.nb
 have hmap:=h.map
 simp only at hbox hnb hmap
 have hbl:b<bs.length:=(List.getElem?_eq_some_iff.1 hbox).1
 have hml:mb<bs.length:=(List.getElem?_eq_some_iff.1 hmap).1
 obtain⟨o1,o2,o3⟩:=Ns h.stk
 have hd1:=(De.one (.order n f)).1
 have hd2:=(De.one (.order n f)).2
 have hx:(De.order n f).dv= .iface T.dR (.agg [.int .i64 n, .int .i64 f.n, .int .i64 f.d]):=rfl
 rw[hx]at hd1 hd2⊢
 have hn0:bs.length∉fz:=fun e=>Nat.lt_irrefl _ (h.fzb _ e)
 have hn1:∀k,bs.length+k∉fz:=fun k e=>by have:=h.fzb _ e;simp only at this;omega
 have hb0:¬b=bs.length:=by omega
 have hb1:∀k,¬b=bs.length+k:=fun k=>by omega
 have hb2:∀k,b<bs.length+k:=fun k=>by omega
 have hs1:¬bs.length+1=bs.length:=by omega
 have c1:(T.dR==T.eu)=false:=by decide
 have c2:(T.dR==T.bD)=false:=by decide
 refine aF mixed rfl dM ?_
 simp only[cO,cZ,hd1,hd2,oI,eX c1,eX c2,hbl,hbox,aU,bG,aN,bI,bU,aP,List.append_assoc,List.length_append,Nat.add_assoc,List.length_set,hn0,hn1,hb0,hb1,hb2,hs1,RN,qA,qB,qC,qD,qE,qF]
 refine Xa (opD t.op) ((o8 t.op n).map Fr.dv) (by simp[Mem.box,List.getElem?_append_left hml,hmap]) (zY n) (Nu _ _) ?_
 obtain⟨g1,g2⟩:=h.ext (xs:=[some [PV.d (DV.iface T.dR (DV.agg [DV.int IntKind.i64 n,DV.int IntKind.i64 f.n,DV.int IntKind.i64 f.d]))],some [PV.d (DV.int IntKind.i64 n), .d (.int .i64 f.n), .d (.int .i64 f.d)],some [.d (.int .i64 0), .d (.int .i64 0)]]) (xf:=[bs.length+1,bs.length]) (by simp)
 cases hg:o8 t.op n with
 |none=>
  simp only[KW,Option.map_none,Option.getD_none,Option.isSome_none,hbl,hbox,aU,bG,aN,bI,bU,aP,List.append_assoc,List.length_append,Nat.add_assoc,List.length_set,hn0,hn1,hb0,hb1,hb2,hs1,dV,RN,qA,qB,qC,qD,qE,qF]
  refine⟨by simp,by kernel_rfl,JA ?_⟩
  simp only[hbl,hbox,aU,bG,aN,bI,bU,aP,List.append_assoc,List.length_append,Nat.add_assoc,List.length_set,hn0,hn1,hb0,hb1,hb2,hs1,RN,qA,qB,qC,qD,qE,qF]
  refine aoN (opD t.op) (opD (t.op++ [(n,f)])) (by simp[Mem.box,List.getElem?_append_left hml,hmap]) g1.nm (zY n) (by rw[←dH];exact aoS _ _ _ hg) ?_
  obtain⟨g3,g4⟩:=g1.anj (t.op++ [(n,f)])
  exact⟨_,_,_,by simp[doS,hg],g3,g2.trans g4⟩
 |some f0=>
  simp only[KW,Option.map_some,Option.getD_some,Option.isSome_some,hbl,hbox,aU,bG,aN,bI,bU,aP,List.append_assoc,List.length_append,Nat.add_assoc,List.length_set,hn0,hn1,hb0,hb1,hb2,hs1,dV,dH,RN,qA,qB,qC,qD,qE,qF]
  refine⟨by simp,by kernel_rfl,Bv ⟨rfl,rfl⟩ ⟨by simp[doS,hg],⟨_,rfl,rfl,rfl⟩,?_⟩⟩
  exact(h.ext (xf:=[bs.length+1,bs.length]) (by simp)).2
end Go.Tel
namespace Go.Tel
open Go.Am
theorem fQ.amh {s:Su}{a b mb:Nat}{cst cse:PV}{t:Sp}{bs:List (Option (List PV))}{fz:List Nat}{ar ar':List (Option Arr)}(h:fQ s a b mb cst cse t ⟨bs,fz,ar⟩){k ver st:Nat}{xs:List Int}(hk:a+6≤k)(hd:kOf cst≠some k)
  (h1:ar'[k]?=some (some ⟨1,xs.map ay,ver,st⟩))(h2:∀j,j≠k→j<ar.length→ar'[j]?=ar[j]?)(hl:ar.length≤ar'.length)(hst:st≠2):
  fQ s a b mb cst (.tsl k ver 0) {t with sets:=xs} ⟨bs.set b (some (iC s a mb cst (.tsl k ver 0) t.lX)),fz,ar'⟩∧FrS a b mb ⟨bs,fz,ar⟩ ⟨bs.set b (some (iC s a mb cst (.tsl k ver 0) t.lX)),fz,ar'⟩:=by
 have hbl:b<bs.length:=(List.getElem?_eq_some_iff.1 h.box).1
 have hr:∀(j:Nat) (A:Arr),j≠k→ar[j]?=some (some A)→ar'[j]?=some (some A):=fun j A hj hA=>by
  rw[h2 j hj (List.getElem?_eq_some_iff.1 hA).1];exact hA
 constructor
 ·exact
  {box:=by simp[hbl]
   map:=by
    have:=h.map
    have hne:=h.bm
    simp only at this⊢
    rw[List.getElem?_set_ne hne];exact this
   r0:=hr _ _ (by omega) h.r0
   r1:=hr _ _ (by omega) h.r1
   r2:=hr _ _ (by omega) h.r2
   r3:=hr _ _ (by omega) h.r3
   r4:=hr _ _ (by omega) h.r4
   r5:=hr _ _ (by omega) h.r5
   stk:=uM h.stk fun j A hj hA=>hr j A (fun e=>hd (e▸hj)) hA
   set:= .inr ⟨k,ver,st,rfl,h1,hst,fun e=>by cases e⟩
   kst:=h.kst
   kse:=fun j hj=>by cases hj;exact hk
   dif:=fun j hj e=>by cases e;exact hd hj
   nb:=h.nb
   nm:=h.nm
   bm:=h.bm
   fzb:=fun i hi=>by simpa using h.fzb i hi}
 ·exact
  {len:=by simp
   fzb:=fun hb i hi=>by have:=hb i hi;simpa using this
   aY:=hl
   box:=fun i _ h3 _=>by simp only;rw[List.getElem?_set_ne (Ne.symm h3)]
   fz:=fun _ _=>Iff.rfl
   row:=fun j hj=>by
    by_cases hja:j<ar.length
    ·exact h2 j (by omega) hja
    ·exact absurd (List.getElem?_eq_some_iff.1 h.r0).1 (by simp only;omega)}
theorem anO {s:Su}{a b mb:Nat}{cst cse:PV}{t:Sp}{M:Mem}(h:fQ s a b mb cst cse t M)(ht:ZP s t)(n:Nat)(hn:n<s.days.length):
  SC C F.bF [.ptr b 0, .d (De.set (n+1:Nat)).dv] M (fun p M'=>∃t' wF GN,doS s t (.set (n+1:Nat))=some t'∧fQ s a b mb wF GN t' M'∧FrS a b mb M M') (fun d M'=>doS s t (.set (n+1:Nat))=none∧OW d∧FrS a b mb M M'):=by
 obtain⟨bs,fz,ar⟩:=M
 have hbox:=h.box
 rw[iC]at hbox
 have hnb:=h.nb
 simp only at hbox hnb
 have hbl:b<bs.length:=(List.getElem?_eq_some_iff.1 hbox).1
 obtain⟨o1,o2,o3⟩:=Ns h.set
 have hd1:=(De.one (.set (n+1:Nat))).1
 have hd2:=(De.one (.set (n+1:Nat))).2
 have hx:(De.set (n+1:Nat)).dv= .iface T.eF (.agg [.int .i64 (n+1:Nat)]):=rfl
 rw[hx]at hd1 hd2⊢
 have hn0:bs.length∉fz:=fun e=>Nat.lt_irrefl _ (h.fzb _ e)
 have hn1:∀k,bs.length+k∉fz:=fun k e=>by have:=h.fzb _ e;simp only at this;omega
 have hb0:¬b=bs.length:=by omega
 have hb1:∀k,¬b=bs.length+k:=fun k=>by omega
 have hb2:∀k,b<bs.length+k:=fun k=>by omega
 have hs1:¬bs.length+1=bs.length:=by omega
 have c1:(T.eF==T.eu)=false:=by decide
 have c2:(T.eF==T.bD)=false:=by decide
 have c3:(T.eF==T.dR)=false:=by decide
 have c4:(T.eF==T.dF)=false:=by decide
 have hd0:s.days.length≤366:=by
  have:=zI (s.cal.leap s.year)
  simp only[Su.days,Su.y9,List.length_map,List.length_range,Su.dur]
  split at this<;>omega
 have e1:IntKind.i64.wrap (((n+1:Nat):Int) - 1)=(n:Int):=by rw[aG (by omega)];omega
 have e2:(0:Int)≤(n:Int):=by omega
 have e3:((((n+1:Nat):Int) - 1).toNat)=n:=by omega
 refine aF mixed rfl dM ?_
 simp only[cO,cZ,hd1,hd2,oI,eX c1,eX c2,eX c3,eX c4,hbl,hbox,aU,bG,aN,bI,bU,aP,List.append_assoc,List.length_append,Nat.add_assoc,List.length_set,hn0,hn1,hb0,hb1,hb2,hs1,e1,e2,Int.toNat_natCast,hn,List.length_map,getD_map,aek,RN,qA,qB,qC,qD,qE,qF]
 obtain⟨g1,g2⟩:=h.ext (xs:=[some [PV.d (DV.iface T.eF (DV.agg [DV.int IntKind.i64 (n+1:Nat)]))],some [PV.d (DV.int IntKind.i64 (n+1:Nat))]]) (xf:=[bs.length+1,bs.length]) (by simp)
 have hal:a+5<ar.length:=(List.getElem?_eq_some_iff.1 h.r5).1
 have hfin:∀(KP:DV→Mem→Prop),doS s t (.set (n+1:Nat))=some {t with sets:=t.sets++ [((n+1:Nat):Int)]}→
   mP 1 false cse (PV.d (DV.slice true [DV.int IntKind.i64 (n+1:Nat)])) ⟨bs++ [some [PV.d (DV.iface T.eF (DV.agg [DV.int IntKind.i64 (n+1:Nat)]))],some [PV.d (DV.int IntKind.i64 (n+1:Nat))]],(bs.length+1)::bs.length::fz,ar⟩ (fun v M_1=>
    jH 1 (PV.ptr b 21) v M_1 fun M'=>∃t' wF GN,doS s t (.set (n+1:Nat))=some t'∧fQ s a b mb wF GN t' M'∧FrS a b mb ⟨bs,fz,ar⟩ M'):=by
  intro _ hdo
  refine agf h.set (fun y hy=>by simp only[List.mem_singleton]at hy;subst hy;rfl) zl (by simp) (by have:=ht.se;simp;omega) fun k ver st ar' e1 e2 e3 e4 e5 e6 _ _=> ?_
  obtain⟨g3,g4⟩:=g1.amh (k:=k) (ver:=ver) (st:=st) (xs:=t.sets++ [((n+1:Nat):Int)]) (ar':=ar') (by
    rcases e1 with e1|e1
    ·exact h.kse k e1
    ·omega) (fun e=>by
    rcases e1 with e1|e1
    ·exact h.dif k e e1
    ·rcases h.stk with⟨rfl,_⟩|⟨k',_,_,rfl,q,_⟩
     ·cases e
     ·cases e
      have:=(List.getElem?_eq_some_iff.1 q).1
      simp only at this
      omega) (by rw[e2];simp[ay]) e3 e4 e5
  simp only[hbl,hbox,aU,bG,aN,bI,bU,aP,List.append_assoc,List.length_append,Nat.add_assoc,List.length_set,hn0,hn1,hb0,hb1,hb2,hs1,hnb,bM,dN,RN,qA,qB,qC,qD,qE,qF]
  rw[bI hbl]at g3 g4
  exact⟨_,_,_,hdo,g3,g2.trans g4⟩
 cases hw:(s.days.getD n default).2
 ·simp only[hbl,hbox,aU,bG,aN,bI,bU,aP,List.append_assoc,List.length_append,Nat.add_assoc,List.length_set,hn0,hn1,hb0,hb1,hb2,hs1,dV,RN,qA,qB,qC,qD,qE,qF]
  refine⟨by kernel_rfl,Bv ⟨rfl,rfl⟩ ⟨by simp only[doS,e3,hw,Bool.false_and];rfl,⟨_,rfl,rfl,rfl⟩,?_⟩⟩
  exact(h.ext (xf:=[bs.length+1,bs.length]) (by simp)).2
 ·by_cases hz:t.sets=[]
  ·have hz':(((t.sets.map ay).length:Int)==0)=true:=by simp[hz]
   simp only[hbl,hbox,aU,bG,aN,bI,bU,aP,List.append_assoc,List.length_append,Nat.add_assoc,List.length_set,hn0,hn1,hb0,hb1,hb2,hs1,dV,agh h.set,hz',RN,qA,qB,qC,qD,qE,qF]
   refine⟨by kernel_rfl,JA ?_⟩
   simp only[hbl,hbox,aU,bG,aN,bI,bU,aP,List.append_assoc,List.length_append,Nat.add_assoc,List.length_set,hn0,hn1,hb0,hb1,hb2,hs1,o1,o2,DV.strip,jX,RN,qA,qB,qC,qD,qE,qF]
   exact hfin (fun _ _=>True) (by simp only[doS,e3,hw,hz];rfl)
  ·have hz':((t.sets.length:Int)==0)=false:=by simp[hz]
   rcases h.set with⟨_,hh⟩|⟨k,ver,st,hce,hk,_⟩
   ·exact absurd (by simpa using hh) hz
   simp only at hk
   have hpos:0<t.sets.length:=List.length_pos_iff.2 hz
   have q1:IntKind.i64.wrap ((t.sets.length:Int) - 1)=((t.sets.length - 1:Nat):Int):=by rw[aG (by have:=ht.se;omega)];omega
   have q2:(0:Int)≤((t.sets.length - 1:Nat):Int):=by omega
   have q3:t.sets.length - 1<t.sets.length:=by omega
   simp only[hbl,hbox,aU,bG,aN,bI,bU,aP,List.append_assoc,List.length_append,Nat.add_assoc,List.length_set,hn0,hn1,hb0,hb1,hb2,hs1,dV,hce,Nat.sub_zero,hz',q1,q2,q3,hk,Int.toNat_natCast,List.length_map,getD_map,aV,RN,qA,qB,qC,qD,qE,qF]
   refine⟨by kernel_rfl,?_⟩
   by_cases hgt:((n+1:Nat):Int)>t.sets.getD (t.sets.length - 1) default
   ·rw[decide_eq_true hgt]
    refine JA ?_
    simp only[hbl,hbox,aU,bG,aN,bI,bU,aP,List.append_assoc,List.length_append,Nat.add_assoc,List.length_set,hn0,hn1,hb0,hb1,hb2,hs1,o1,o2,DV.strip,jX,RN,qA,qB,qC,qD,qE,qF]
    exact hfin (fun _ _=>True) (by simp only[doS,e3,hw,decide_eq_true hgt,Bool.or_true,Bool.and_self,if_true])
   ·rw[decide_eq_false hgt]
    have hem:t.sets.isEmpty=false:=by simpa using hz
    refine Bv ⟨rfl,rfl⟩ ⟨by simp only[doS,e3,hw,decide_eq_false hgt,hem,Bool.or_false,Bool.and_false];rfl,⟨_,rfl,rfl,rfl⟩,?_⟩
    exact(h.ext (xf:=[bs.length+1,bs.length]) (by simp)).2
end Go.Tel
namespace Go.Tel
open Go.Am
theorem Uk {M:Mem}{p:PV}{d:DV}{ps:List PV}{ds:List DV}(h:datum M p=some d)(ht:dD M ps=some ds):dD M (p::ps)=some (d::ds):=by
 simp only[dD,h,ht]
theorem fQ.ap3 {s:Su}{a b mb:Nat}{cst cse:PV}{t:Sp}{bs:List (Option (List PV))}{fz:List Nat}{ar:List (Option Arr)}(h:fQ s a b mb cst cse t ⟨bs,fz,ar⟩)(tg':List Fr):
  fQ s a b mb cst cse {t with tg:=tg'} ⟨bs,fz,ar.set (a+2) (some ⟨2,tg'.map Fr.dv,0,1⟩)⟩∧FrS a b mb ⟨bs,fz,ar⟩ ⟨bs,fz,ar.set (a+2) (some ⟨2,tg'.map Fr.dv,0,1⟩)⟩:=by
 have hal:a+2<ar.length:=(List.getElem?_eq_some_iff.1 h.r2).1
 have hr:∀(j:Nat) (A:Arr),j≠a+2→ar[j]?=some (some A)→(ar.set (a+2) (some ⟨2,tg'.map Fr.dv,0,1⟩))[j]?=some (some A):=fun j A hj hA=>by
  rw[List.getElem?_set_ne (Ne.symm hj)];exact hA
 constructor
 ·exact
  {box:=h.box
   map:=h.map
   r0:=hr _ _ (by omega) h.r0
   r1:=hr _ _ (by omega) h.r1
   r2:=by simp[hal]
   r3:=hr _ _ (by omega) h.r3
   r4:=hr _ _ (by omega) h.r4
   r5:=hr _ _ (by omega) h.r5
   stk:=uM h.stk fun j A hj hA=>hr j A (by have:=h.kst j hj;omega) hA
   set:=uM h.set fun j A hj hA=>hr j A (by have:=h.kse j hj;omega) hA
   kst:=h.kst,kse:=h.kse,dif:=h.dif,nb:=h.nb,nm:=h.nm,bm:=h.bm,fzb:=h.fzb}
 ·exact
  {len:=Nat.le_refl _
   fzb:=fun hb i hi=>by have:=hb i hi;simpa using this
   aY:=by simp
   box:=fun _ _ _ _=>rfl
   fz:=fun _ _=>Iff.rfl
   row:=fun j hj=>by simp only;rw[List.getElem?_set_ne (by omega)]}
theorem fQ.ajY {s:Su}{a b mb:Nat}{cst cse:PV}{t:Sp}{bs:List (Option (List PV))}{fz:List Nat}{ar:List (Option Arr)}(h:fQ s a b mb cst cse t ⟨bs,fz,ar⟩)(c:Int):
  fQ s a b mb cst cse {t with lX:=c} ⟨bs.set b (some (iC s a mb cst cse c)),fz,ar⟩∧FrS a b mb ⟨bs,fz,ar⟩ ⟨bs.set b (some (iC s a mb cst cse c)),fz,ar⟩:=by
 have hbl:b<bs.length:=(List.getElem?_eq_some_iff.1 h.box).1
 constructor
 ·exact
  {box:=by simp[hbl]
   map:=by
    have:=h.map
    have hne:=h.bm
    simp only at this⊢
    rw[List.getElem?_set_ne hne];exact this
   r0:=h.r0,r1:=h.r1,r2:=h.r2,r3:=h.r3,r4:=h.r4,r5:=h.r5,stk:=h.stk,set:=h.set
   kst:=h.kst,kse:=h.kse,dif:=h.dif,nb:=h.nb,nm:=h.nm,bm:=h.bm
   fzb:=fun i hi=>by simpa using h.fzb i hi}
 ·exact
  {len:=by simp
   fzb:=fun hb i hi=>by have:=hb i hi;simpa using this
   aY:=Nat.le_refl _
   box:=fun i _ h3 _=>by simp only;rw[List.getElem?_set_ne (Ne.symm h3)]
   fz:=fun _ _=>Iff.rfl
   row:=fun _ _=>rfl}
theorem ai5 {s:Su}{a b mb:Nat}{cst cse:PV}{t:Sp}{M:Mem}(h:fQ s a b mb cst cse t M)(ht:ZP s t)(n:Nat)(hn:n<t.pc.hands.length)(c:Int)(hc:0≤c∧c≤1000000000):
  SC C F.bF [.ptr b 0, .d (De.serve n c).dv] M (fun p M'=>∃t' wF GN,doS s t (.serve n c)=some t'∧fQ s a b mb wF GN t' M'∧FrS a b mb M M') (fun d M'=>doS s t (.serve n c)=none∧OW d∧FrS a b mb M M'):=by
 obtain⟨bs,fz,ar⟩:=M
 have hbox:=h.box
 rw[iC]at hbox
 have hnb:=h.nb
 have hmap:=h.map
 have hr2:=h.r2
 simp only at hbox hnb hmap hr2
 have hbl:b<bs.length:=(List.getElem?_eq_some_iff.1 hbox).1
 have hml:mb<bs.length:=(List.getElem?_eq_some_iff.1 hmap).1
 obtain⟨o1,o2,o3⟩:=Ns h.stk
 have hd1:=(De.one (.serve n c)).1
 have hd2:=(De.one (.serve n c)).2
 have hx:(De.serve n c).dv= .iface T.dF (.agg [.int .i64 n, .int .i64 c]):=rfl
 rw[hx]at hd1 hd2⊢
 have hn0:bs.length∉fz:=fun e=>Nat.lt_irrefl _ (h.fzb _ e)
 have hn1:∀k,bs.length+k∉fz:=fun k e=>by have:=h.fzb _ e;simp only at this;omega
 have hb0:¬b=bs.length:=by omega
 have hb1:∀k,¬b=bs.length+k:=fun k=>by omega
 have hb2:∀k,b<bs.length+k:=fun k=>by omega
 have hs1:¬bs.length+1=bs.length:=by omega
 have c1:(T.dF==T.eu)=false:=by decide
 have c2:(T.dF==T.bD)=false:=by decide
 have c3:(T.dF==T.dR)=false:=by decide
 have hhl:=(Pc.Gt ht.pc).2
 have hpl:=(Pc.Gt ht.pc).1
 have hlim:0≤s.lim∧s.lim≤10800:=by simpa[inR]using(Su.facts ht.ok).2.2.1
 refine aF mixed rfl dM ?_
 simp only[cO,cZ,hd1,hd2,oI,eX c1,eX c2,eX c3,hbl,hbox,aU,bG,aN,bI,bU,aP,List.append_assoc,List.length_append,Nat.add_assoc,List.length_set,hn0,hn1,hb0,hb1,hb2,hs1,RN,qA,qB,qC,qD,qE,qF]
 refine Xa (opD t.op) ((o8 t.op n).map Fr.dv) (by simp[Mem.box,List.getElem?_append_left hml,hmap]) (zY n) (Nu _ _) ?_
 cases hg:o8 t.op n with
 |none=>
  simp only[KW,Option.map_none,Option.getD_none,Option.isSome_none,hbl,hbox,aU,bG,aN,bI,bU,aP,List.append_assoc,List.length_append,Nat.add_assoc,List.length_set,hn0,hn1,hb0,hb1,hb2,hs1,dV,RN,qA,qB,qC,qD,qE,qF]
  refine⟨by simp,by kernel_rfl,Bv ⟨rfl,rfl⟩ ⟨by simp[doS,hg],⟨_,rfl,rfl,rfl⟩,?_⟩⟩
  exact(h.ext (xf:=[bs.length+2,bs.length+1,bs.length]) (by simp)).2
 |some f=>
  obtain⟨g1,g2⟩:=h.ext (xs:=[some [PV.d (DV.iface T.dF (DV.agg [DV.int IntKind.i64 n,DV.int IntKind.i64 c]))],some [PV.d (DV.int IntKind.i64 n), .d (.int .i64 c)],some [.d (.int .i64 f.n), .d (.int .i64 f.d)]]) (xf:=[bs.length+2,bs.length+1,bs.length]) (by simp)
  obtain⟨e1,e2,hst⟩:=adt g1
  have hk:=ajI e1 e2 s t n f 100 (by omega) (by omega) hlim
  have hp:=agb e1 e2 s t n ht.pc hn
  rw[dH,bK]at hk
  rw[bK]at hp
  simp only[KW,Option.map_some,Option.getD_some,Option.isSome_some,hbl,hbox,aU,bG,aN,bI,bU,aP,List.append_assoc,List.length_append,Nat.add_assoc,List.length_set,hn0,hn1,hb0,hb1,hb2,hs1,dV,dH,RN,qA,qB,qC,qD,qE,qF]
  refine⟨by simp,?_⟩
  refine mg (Uk hst rfl) rfl hk rfl ?_
  cases hkb:Zb s t n f 100
  ·simp only[hbl,hbox,aU,bG,aN,bI,bU,aP,List.append_assoc,List.length_append,Nat.add_assoc,List.length_set,hn0,hn1,hb0,hb1,hb2,hs1,dV,RN,qA,qB,qC,qD,qE,qF]
   exact⟨by kernel_rfl,Bv ⟨rfl,rfl⟩ ⟨by simp[doS,hg,hkb],⟨_,rfl,rfl,rfl⟩,g2⟩⟩
  ·simp only[hbl,hbox,aU,bG,aN,bI,bU,aP,List.append_assoc,List.length_append,Nat.add_assoc,List.length_set,hn0,hn1,hb0,hb1,hb2,hs1,RN,qA,qB,qC,qD,qE,qF]
   refine mg (Uk hst rfl) rfl hp rfl ?_
   simp only[hbl,hbox,aU,bG,aN,bI,bU,aP,List.append_assoc,List.length_append,Nat.add_assoc,List.length_set,hn0,hn1,hb0,hb1,hb2,hs1,dV,RN,qA,qB,qC,qD,qE,qF]
   refine⟨by kernel_rfl,?_⟩
   by_cases hge:c≥PN s t n
   ·rw[decide_eq_true hge]
    refine JA ?_
    simp only[hbl,hbox,aU,bG,aN,bI,bU,aP,List.append_assoc,List.length_append,Nat.add_assoc,List.length_set,hn0,hn1,hb0,hb1,hb2,hs1,RN,qA,qB,qC,qD,qE,qF]
    refine aoM (opD t.op) (opD (UE t.op n)) (by simp[Mem.box,List.getElem?_append_left hml,hmap]) g1.nm (zY n) (aoR _ _) ?_
    obtain⟨g3,g4⟩:=g1.anj (UE t.op n)
    obtain⟨B,hB⟩:∃B,B=(bs++ [some [PV.d (DV.iface T.dF (DV.agg [DV.int IntKind.i64 n,DV.int IntKind.i64 c]))],some [PV.d (DV.int IntKind.i64 n), .d (.int .i64 c)],some [.d (.int .i64 f.n), .d (.int .i64 f.d)]]).set mb (some [.iY (opD (UE t.op n))]):=⟨_,rfl⟩
    rw[←hB]at g3 g4
    simp only[←hB]
    have hBb:=g3.box
    rw[iC]at hBb
    have hBl:b<B.length:=(List.getElem?_eq_some_iff.1 hBb).1
    have hBn:=g3.nb
    simp only at hBb hBn
    have htl:n<t.tg.length:=by rw[ht.tl];exact hn
    have j0:(0:Int)≤(n:Int):=by omega
    simp only[hBb,hBl,hr2,j0,htl,Int.toNat_natCast,List.length_map,RN,qA,qB,qC,qD,qE,qF]
    have hset:(t.tg.map Fr.dv).set n (setCells ((t.tg.map Fr.dv).getD n default) 0 [.int .i64 f.n, .int .i64 f.d])=(t.tg.set n f).map Fr.dv:=by
     rw[List.map_set,getD_map htl];rfl
    have hce:IntKind.i64.wrap (t.lX+c)=t.lX+c:=aG (by have:=ht.co;omega)
    refine MO (ds:=[.int .i64 f.n, .int .i64 f.d]) hr2 rfl (by decide) rfl rfl (by rw[getD_map htl];exact Nat.le_refl 2) ?_
    rw[hset]
    obtain⟨g5,g6⟩:=g3.ap3 (t.tg.set n f)
    obtain⟨g7,g8⟩:=g5.ajY (t.lX+c)
    simp only[hBb,hBl,hBn,hce,RN,qA,qB,qC,qD,qE,qF]
    refine⟨by simpa using hBn,{t with op:=UE t.op n,tg:=t.tg.set n f,lX:=t.lX+c},cst,cse,by simp[doS,hg,hkb,hge],g7,?_⟩
    exact((g2.trans g4).trans g6).trans g8
   ·rw[decide_eq_false hge]
    exact Bv ⟨rfl,rfl⟩ ⟨by simp[doS,hg,hkb,hge],⟨_,rfl,rfl,rfl⟩,g2⟩
theorem ag9 {s:Su}{a b mb:Nat}{cst cse:PV}{t:Sp}{M:Mem}(h:fQ s a b mb cst cse t M)(n:Int):
  SC C F.bF [.ptr b 0, .d (De.strike n).dv] M (fun p M'=>∃t' wF GN,doS s t (.strike n)=some t'∧fQ s a b mb wF GN t' M'∧FrS a b mb M M') (fun d M'=>doS s t (.strike n)=none∧OW d∧FrS a b mb M M'):=by
 obtain⟨bs,fz,ar⟩:=M
 have hd1:=(De.one (.strike n)).1
 have hd2:=(De.one (.strike n)).2
 have hx:(De.strike n).dv= .iface T.aZ (.agg [.int .i64 n]):=rfl
 rw[hx]at hd1 hd2⊢
 have c1:(T.aZ==T.eu)=false:=by decide
 have c2:(T.aZ==T.bD)=false:=by decide
 have c3:(T.aZ==T.dR)=false:=by decide
 have c4:(T.aZ==T.dF)=false:=by decide
 have c5:(T.aZ==T.eF)=false:=by decide
 refine aF mixed rfl dM ?_
 simp only[cO,cZ,hd1,hd2,aN,eX c1,eX c2,eX c3,eX c4,eX c5,aP,List.length_append,RN,qA,qB,qC,qD,qE,qF]
 obtain⟨g1,g2⟩:=h.ext (xs:=[some [PV.d (DV.iface T.aZ (DV.agg [DV.int IntKind.i64 n]))]]) (xf:=[bs.length]) (by simp)
 exact⟨t,cst,cse,rfl,g1,g2⟩
end Go.Tel
