/-
  Part 26 of the proof of a law of desks: an abstract machine over the model, contracts of functions, plain laws.
  Conditions: none.
-/
import Derived.Test.YtbefoehadfnkbaaGreatDoorJourneymanParsesM13
import Derived.Test.YtbefoehadfnkbaaGreatDoorJourneymanParsesM24
import Derived.Test.YtbefoehadfnkbaaGreatDoorJourneymanParsesM25
set_option linter.all false
set_option maxRecDepth 10000
set_option maxHeartbeats 4000000
open Nat renaming reduceBEq→qA,reduceAdd→qB,reduceSub→qC,reduceEqDiff→qD,reduceLT→qE,reduceLeDiff→qF
namespace Go.Tel
open Go.Am
theorem S9 {base sz:Nat}{zs:List DV}{is:List Nat}{args:List PV}{ds xs:List DV}{M:Mem}{K:PV→Mem→Prop}{KP:DV→Mem→Prop}(h1:dD M args=some ds)(h2:zU sz zs is (ds.map DV.strip)=some xs)(h4:M.frz args=M)(hK:K (.d (.slice true xs)) M):aj C base (.iH sz zs is) args M K KP:=by
 simp only[aj,h1,h2,h4]
 exact hK
theorem afa (a b:Int):Pure C F.KZ [.int .i64 a, .int .i64 b] (.d (.agg [.int .i64 a, .int .i64 b])) []:=by
 refine ah mixed rfl acE ?_
 simp only[UJ,U7,mQ,RN,qA,qB,qC,qD,qE,qF]
theorem P_k:Pure C F.ajM [] (.d (.agg [.slice true (aO.pc.links.map Lk.dv), .slice true (aO.pc.hands.map ay)])) []:=by
 refine ah mixed rfl aj7 ?_
 simp only[acZ,ada,mQ,RN,qA,qB,qC,qD,qE,qF]
 refine au rfl rfl (afa 10 20) ?_
 (try simp only[RN,qA,qB,qC,qD,qE,qF])
 refine au rfl rfl (afa 12 18) ?_
 (try simp only[RN,qA,qB,qC,qD,qE,qF])
 refine au rfl rfl (afa 15 10) ?_
 (try simp only[RN,qA,qB,qC,qD,qE,qF])
 refine S9 rfl rfl rfl ?_
 (try simp only[RN,qA,qB,qC,qD,qE,qF])
 refine S9 rfl rfl rfl ?_
 simp only[mQ,RN,qA,qB,qC,qD,qE,qF]
 rfl
theorem O_k:Pure C F.ajL [] (.d (.agg [.int .i64 0, .slice true [.int .i64 4]])) []:=by
 refine ah mixed rfl aj6 ?_
 simp only[acY,ac9,mQ,RN,qA,qB,qC,qD,qE,qF]
 exact⟨rfl,rfl⟩
theorem M_k:Pure C F.ajK [] (.d (.agg [.int .i64 59, .int .i64 2, .int .i64 0])) []:=by
 refine ah mixed rfl aj3 ?_
 simp only[acX,ac8,mQ,RN,qA,qB,qC,qD,qE,qF]
theorem D_k:Pure C F.ajN [] (.d (.agg [.int .i64 40, .slice true [.int .i64 15, .int .i64 21, .int .i64 27]])) []:=by
 refine ah mixed rfl aj8 ?_
 simp only[ac0,adb,RN,qA,qB,qC,qD,qE,qF]
 refine S9 rfl rfl rfl ?_
 simp only[mQ,RN,qA,qB,qC,qD,qE,qF]
 rfl
def amT:DV:= .agg [.slice true (aO.pc.links.map Lk.dv), .slice true (aO.pc.hands.map ay), .slice true (aO.tg.map Fr.dv), .int .i64 100, .int .i64 40, .slice true (aO.dvd.cir.map ay), .int .i64 0, .slice true (aO.cal.cy.map ay), .int .i64 59, .int .i64 2, .int .i64 0, .slice true (aO.fs.map Fs.dv), .int .i64 1, .int .i64 3, .int .i64 6, .int .i64 4, .int .i64 10]
theorem ak6:Pure C F.SN [] (.d amT) []:=by
 refine ah mixed rfl aaE ?_
 simp only[QU,Rl,RN,qA,qB,qC,qD,qE,qF]
 refine au rfl rfl P_k ?_
 (try simp only[RN,qA,qB,qC,qD,qE,qF])
 refine S9 rfl rfl rfl ?_
 (try simp only[RN,qA,qB,qC,qD,qE,qF])
 refine au rfl rfl D_k ?_
 (try simp only[RN,qA,qB,qC,qD,qE,qF])
 refine au rfl rfl O_k ?_
 (try simp only[RN,qA,qB,qC,qD,qE,qF])
 refine au rfl rfl M_k ?_
 (try simp only[RN,qA,qB,qC,qD,qE,qF])
 refine S9 rfl rfl rfl ?_
 simp only[mQ,RN,qA,qB,qC,qD,qE,qF]
 rfl
theorem aaZ:aO.Small:=⟨by decide,by decide,by decide,by decide,by decide⟩
theorem aap:Pure C F.GZ [] (.d (.bool true)) []:=by
 refine ah mixed rfl aaF ?_
 simp only[QV,Rn,RN,qA,qB,qC,qD,qE,qF]
 refine au rfl rfl ak6 ?_
 (try simp only[RN,qA,qB,qC,qD,qE,qF])
 refine au rfl rfl (agt aO aaZ (by kernel_rfl) (by decide:aaQ.size≤1500) (by kernel_rfl) apX) ?_
 have z1:((0:Int)==0)=true:=rfl
 have z2:(Qe.toList==Qe.toList)=true:=beq_self_eq_true _
 have ha:(.str ⟨#[49,32,51,32,51,32,52,10,110,111,116,101,100,10,101,114,114,111,114,32,55,10,49,32,49,50,32,49,53,10,101,114,114,111,114,32,55,10,101,114,114,111,114,32,55,10,101,114,114,111,114,32,55,10,110,111,116,101,100,10,49,53,10,110,111,116,101,100,10,49,56,10,53,55,10,101,114,114,111,114,32,55,10,110,111,116,101,100,10,110,111,116,104,105,110,103,10,53,55,10,57,55,10,49,48,56,10,51,53,54,10,101,114,114,111,114,32,55,10,101,114,114,111,114,32,55,10,110,111,116,101,100,10,101,114,114,111,114,32,55,10,49,48,10,50,32,57,10,51,52,56,10,50,32,49,32,51,10,101,114,114,111,114,32,55,10,110,111,116,101,100,10,110,111,116,101,100,10,48,10,48,32,50,32,53,10,48,32,49,32,50,10,101,114,114,111,114,32,55,10,101,114,114,111,114,32,50,10,101,114,114,111,114,32,52,10]⟩:DV)= .str Qe:=rfl
 simp only[z1,gX,NH,ha,z2,RN,qA,qB,qC,qD,qE,qF]
end Go.Tel
namespace Go.Tel
open Go.Am Go.Lib
theorem alb {a b:ByteArray}(h:a.data.toList=b.data.toList):a=b:=by
 cases a with|mk x=>cases b with|mk y=>
 simp only at h
 rw[Array.toList_inj.1 h]
theorem Du (a b:ByteArray):(a++b).data.toList=a.data.toList++b.data.toList:=by
 rw[ByteArray.data_append,Array.toList_append]
theorem aaz {xs ys:List ByteArray}(h:xs.map (·.data.toList)=ys.map (·.data.toList)):xs=ys:=by
 induction xs generalizing ys with
 |nil=>cases ys with
  |nil=>rfl
  |cons y ys=>cases h
 |cons x xs ih=>cases ys with
  |nil=>cases h
  |cons y ys=>
   simp only[List.map_cons,List.cons.injEq]at h
   rw[alb h.1,ih h.2]
theorem arS {a b:ByteArray}:(a.toList==b.toList)=decide (a=b):=by
 rw[toList_data,toList_data]
 by_cases h:a=b
 ·rw[h,decide_eq_true rfl,beq_self_eq_true]
 ·rw[decide_eq_false h];exact beq_eq_false_iff_ne.2 fun e=>h (alb e)
def spl (c:UInt8):List UInt8→List (List UInt8)
 | []=>[[]]
 |b::l=>if b=c then[]::spl c l else match spl c l with
  |x::r=>(b::x)::r
  | []=>[[b]]
theorem aaW {c:UInt8}:∀{x:List UInt8} {l:List UInt8},c∉x→spl c (x++c::l)=x::spl c l
 | [],l,_=>by rw[List.nil_append,spl,if_pos rfl]
 |b::x,l,h=>by
  have h1:b≠c:=fun e=>h (by rw[e];exact List.mem_cons_self)
  rw[List.cons_append,spl,if_neg h1,aaW fun hh=>h (List.mem_cons_of_mem _ hh)]
theorem Ye {c:UInt8}:∀{x:List UInt8},c∉x→spl c x=[x]
 | [],_=>rfl
 |b::x,h=>by
  have h1:b≠c:=fun e=>h (by rw[e];exact List.mem_cons_self)
  rw[spl,if_neg h1,Ye fun hh=>h (List.mem_cons_of_mem _ hh)]
theorem Y5 (c:UInt8):∀l:List UInt8,c∉l∨∃x r,l=x++c::r∧c∉x
 | []=> .inl (by simp)
 |b::l=>by
  by_cases h:b=c
  ·right;exact⟨[],l,by rw[h];rfl,by simp⟩
  ·rcases Y5 c l with h1|⟨x,r,rfl,h2⟩
   ·left;simp only[List.mem_cons,not_or];exact⟨fun e=>h e.symm,h1⟩
   ·right;exact⟨b::x,r,rfl,by simp only[List.mem_cons,not_or];exact⟨fun e=>h e.symm,h2⟩⟩
theorem ajB {c:UInt8}:∀{x r:List UInt8},c∉x→indexByte (x++c::r) c=x.length
 | [],r,_=>by rw[List.nil_append,indexByte,beq_self_eq_true,if_pos rfl];rfl
 |b::x,r,h=>by
  have h1:(b==c)=false:=beq_eq_false_iff_ne.2 fun e=>h (by rw[e];exact List.mem_cons_self)
  have ih:=ajB (r:=r) fun hh=>h (List.mem_cons_of_mem b hh)
  have h2:(((x.length:Nat):Int)== -1)=false:=beq_eq_false_iff_ne.2 (by omega)
  rw[List.cons_append,indexByte,h1,ih,h2]
  simp only[Bool.false_eq_true,if_false,List.length_cons]
  omega
theorem Yf (c:UInt8):∀(n:Nat) (l:List UInt8),l.length≤n→splitK [c] 0 (l.count c) l=spl c l
 |n,l,hn=>by
  rcases Y5 c l with h|⟨x,r,rfl,h⟩
  ·rw[List.count_eq_zero.2 h,splitK,Ye h]
  ·have hc:(x++c::r).count c=r.count c+1:=by rw[List.count_append,List.count_eq_zero.2 h,List.count_cons_self];omega
   have hi:index (x++c::r) [c]=(x.length:Int):=by rw[index_one,ajB h]
   have hm:¬(index (x++c::r) [c]== -1)=true:=by rw[hi,beq_iff_eq];omega
   rw[hc,splitK,if_neg hm,hi,aaW h,Int.toNat_natCast,Nat.add_zero]
   have e1:(x++c::r).take x.length=x:=by rw[List.take_left]
   have e2:(x++c::r).drop (x.length+ [c].length)=r:=by
    rw[List.length_singleton,←List.drop_drop,List.drop_left];rfl
   rw[e1,e2]
   cases n with
   |zero=>simp at hn
   |succ n=>rw[Yf c n r (by simp at hn;omega)]
theorem adr (s:ByteArray)(c:UInt8):(jQ s c).map (·.data.toList)=spl c s.data.toList:=by
 rw[jQ,splitB_data]
 have h:countB s ⟨#[c]⟩=s.data.toList.count c:=count_one c _
 rw[h]
 exact Yf c _ _ (Nat.le_refl _)
theorem ZH {α:Type}{c:UInt8}{f:α→List UInt8}:∀{ns:List α} {w:List UInt8},c∉w→(∀n∈ns,c∉f n)→spl c (w++(ns.map fun n=>c::f n).flatten)=w::ns.map f
 | [],w,hw,_=>by simp[Ye hw]
 |n::ns,w,hw,h=>by
  have e:w++((n::ns).map fun n=>c::f n).flatten=w++c::(f n++(ns.map fun n=>c::f n).flatten):=by simp
  rw[e,aaW hw,ZH (h n List.mem_cons_self) fun m hm=>h m (List.mem_cons_of_mem _ hm)];rfl
theorem asa (c:UInt8):∀l:List UInt8,∃x r,spl c l=x::r∧l=x++(r.map fun y=>c::y).flatten
 | []=>⟨[],[],rfl,rfl⟩
 |b::l=>by
  obtain⟨x,r,h1,h2⟩:=asa c l
  rw[spl,h1]
  by_cases h:b=c
  ·rw[if_pos h]
   exact⟨[],x::r,rfl,by rw[h2,h];simp⟩
  ·rw[if_neg h]
   exact⟨b::x,r,rfl,by rw[List.cons_append,←h2]⟩
theorem WU (n:Nat):(eH (n:Int)).data.toList=decDigits n:=by
 rw[eH,itoa,if_neg (by omega),Int.toNat_natCast]
theorem VG {d:Nat}(h:d<10):(UInt8.ofNat (48+d)).toNat=48+d:=by
 have:48+d<256:=by omega
 simp[UInt8.toNat_ofNat];omega
theorem ag7 {n:Nat}(h:n<10):decDigits n=[UInt8.ofNat (48+n)]:=by rw[decDigits,dif_pos h]
theorem ai1 {n:Nat}(h:¬n<10):decDigits n=decDigits (n / 10)++ [UInt8.ofNat (48+n % 10)]:=by rw[decDigits,dif_neg h]
theorem aac:∀(k n:Nat),n≤k→∀b∈decDigits n,48≤b.toNat∧b.toNat≤57
 |k,n,hk,b,hb=>by
  by_cases h:n<10
  ·rw[ag7 h,List.mem_singleton]at hb
   rw[hb,VG h];omega
  ·rw[ai1 h]at hb
   rcases List.mem_append.1 hb with hb|hb
   ·cases k with
    |zero=>omega
    |succ k=>exact aac k (n / 10) (by omega) b hb
   ·rw[List.mem_singleton.1 hb,VG (Nat.mod_lt _ (by decide))]
    have:n % 10<10:=Nat.mod_lt _ (by decide)
    omega
theorem al6 {n:Int}(h:0≤n){c:UInt8}(hc:c.toNat<48):c∉(eH n).data.toList:=fun hh=>by
 obtain⟨m,rfl⟩:=Int.eq_ofNat_of_zero_le h
 rw[WU]at hh
 have:=aac m m (Nat.le_refl _) c hh
 omega
theorem aad:∀(k n:Nat),n<10 ^ (k+1)→(decDigits n).length≤k+1∧1≤(decDigits n).length
 |0,n,h=>by rw[ag7 (by omega)];simp
 |k+1,n,h=>by
  by_cases h1:n<10
  ·rw[ag7 h1];simp
  ·have:=aad k (n / 10) (by rw[Nat.pow_succ]at h;omega)
   rw[ai1 h1,List.length_append,List.length_singleton];omega
theorem ahr (w:ByteArray)(i:Nat):w.data.getD i 0=w.data.toList.getD i 0:=by
 rw[Array.getD_eq_getD_getElem?,←Array.getElem?_toList,List.getD_eq_getElem?_getD]
theorem Xd (w:ByteArray)(hs:w.size≤4):∀(l:List UInt8) (pos:Nat) (n:Int),w.data.toList.drop pos=l→(∀b∈l,48≤b.toNat∧b.toNat≤57)→UC w l.length pos n=some (l.foldl (fun n b=>10*n+((b.toNat:Int) - 48)) n)
 | [],_,_,_,_=>rfl
 |b::l,pos,n,h,hd=>by
  have hp:pos<w.data.toList.length:=by
   refine Nat.lt_of_not_le fun hh=> ?_
   rw[List.drop_of_length_le hh]at h;cases h
  have h2:=List.drop_eq_getElem_cons hp
  rw[h]at h2
  obtain⟨hb,ht⟩:=List.cons.inj h2
  have hg:w.data.getD pos 0=b:=by rw[ahr,List.getD_eq_getElem?_getD,List.getElem?_eq_getElem hp,hb];rfl
  have hdb:=hd b List.mem_cons_self
  rw[List.length_cons,UC,hg,if_pos ⟨hdb.1,hdb.2,hs⟩,Xd w hs l (pos+1) _ ht.symm fun x hx=>hd x (List.mem_cons_of_mem _ hx)]
  rfl
theorem afO:∀(k n:Nat),n≤k→(decDigits n).foldl (fun n b=>10*n+((b.toNat:Int) - 48)) 0=(n:Int)
 |k,n,hk=>by
  by_cases h:n<10
  ·rw[ag7 h]
   simp only[List.foldl_cons,List.foldl_nil,VG h];omega
  ·cases k with
   |zero=>omega
   |succ k=>
    rw[ai1 h,List.foldl_append,afO k (n / 10) (by omega)]
    have:n % 10<10:=Nat.mod_lt _ (by decide)
    simp only[List.foldl_cons,List.foldl_nil,VG this];omega
theorem acu {n:Int}(h:0≤n∧n≤9999):zK (eH n)=some n:=by
 obtain⟨m,rfl⟩:=Int.eq_ofNat_of_zero_le h.1
 have hd:=WU m
 have hl:=aad 3 m (by omega)
 have hsz:(eH (m:Int)).size=(decDigits m).length:=by rw[←size_data,hd]
 have hg:=Xd (eH (m:Int)) (by omega) (decDigits m) 0 0 (by rw[List.drop_zero,hd]) (aac m m (Nat.le_refl _))
 rw[afO m m (Nat.le_refl _)]at hg
 rw[zK,hsz,hg]
 simp only
 rw[if_pos ⟨by omega,trivial⟩]
theorem asi {w:ByteArray}{n:Int}(h:zK w=some n):eH n=w:=by
 unfold zK at h
 split at h
 ·split at h
  ·rename_i h1
   cases h;exact alb h1.2
  ·cases h
 ·cases h
theorem UA:∀(ns acc:List Int),(∀n∈ns,0≤n∧n≤9999)→F6 (ns.map eH) acc=some (acc++ns)
 | [],acc,_=>by simp[F6]
 |n::ns,acc,h=>by
  rw[List.map_cons,F6,acu (h n List.mem_cons_self)]
  simp only
  rw[UA ns _ fun m hm=>h m (List.mem_cons_of_mem _ hm),List.append_assoc];rfl
theorem arM:∀(ws:List ByteArray) (acc l:List Int),F6 ws acc=some l→∃ns,l=acc++ns∧ns.map eH=ws
 | [],acc,l,h=>by cases h;exact⟨[],by simp,rfl⟩
 |w::ws,acc,l,h=>by
  rw[F6]at h
  cases hn:zK w with
  |none=>rw[hn]at h;cases h
  |some n=>
   rw[hn]at h
   obtain⟨ns,h1,h2⟩:=arM ws _ l h
   exact⟨n::ns,by rw[h1,List.append_assoc];rfl,by rw[List.map_cons,asi hn,h2]⟩
theorem ab9 (n:Int)(ns:List Int):(Nk (n::ns)).data.toList=(eH n).data.toList++(ns.map fun n=>32::(eH n).data.toList).flatten:=by
 show(List.toArray (join ((List.map eH (n::ns)).map (·.data.toList)) [32])).toList=_
 rw[List.map_cons,List.map_cons,join_cons,joinTail]
 simp[List.map_map,Function.comp_def]
theorem SQ {x:En}(h:x.ns≠[]):x.line.data.toList=(fwE x.kind).data.toList++(x.ns.map fun n=>32::(eH n).data.toList).flatten:=by
 obtain⟨n,ns,e⟩:∃n ns,x.ns=n::ns:=by
  cases hn:x.ns with
  |nil=>exact absurd hn h
  |cons n ns=>exact⟨n,ns,rfl⟩
 rw[En.line,Du,Du,e,ab9]
 simp
theorem apm {k:Int}(hk:1≤k∧k≤6):(32:UInt8)∉(fwE k).data.toList:=by
 obtain rfl|rfl|rfl|rfl|rfl|rfl:=V4 hk
 all_goals decide
theorem aob {k:Int}(hk:1≤k∧k≤6):nG (wU (fwE k) (o7 k)) fmL 0=k - 1:=by
 obtain rfl|rfl|rfl|rfl|rfl|rfl:=V4 hk
 all_goals kernel_rfl
theorem IU {x:En}(h:x.formed=true):(1≤x.kind∧x.kind≤6)∧x.ns.length=o7 x.kind∧1≤x.ns.length:=by
 have hm:∀k,1≤o7 k:=by
  intro k;unfold o7;split
  ·omega
  ·split<;>omega
 simp only[En.formed,Bool.and_eq_true,inR,decide_eq_true_eq]at h
 have:=hm x.kind
 exact⟨by omega,h.1.2,by omega⟩
theorem aft {x:En}(h:x.formed=true):jQ x.line 32=fwE x.kind::x.ns.map eH:=by
 obtain⟨h1,h2,h3⟩:=IU h
 have hb:=GY h
 refine aaz ?_
 rw[adr,SQ (by intro e;rw[e]at h3;simp at h3),ZH (apm h1) fun n hn=>al6 (hb n hn).1 (by decide)]
 simp
theorem ase {line:ByteArray}{a:Int}{ns:List Int}(h:CU line fmL=some (a,ns)):(⟨1+a,ns⟩:En).formed=true∧(⟨1+a,ns⟩:En).line=line:=by
 obtain⟨x,r,h1,h2⟩:=asa 32 line.data.toList
 rw[←adr]at h1
 have hws:∃w ws,jQ line 32=w::ws∧w.data.toList=x∧ws.map (·.data.toList)=r:=by
  cases hs:jQ line 32 with
  |nil=>rw[hs]at h1;cases h1
  |cons w ws=>rw[hs]at h1;cases h1;exact⟨w,ws,rfl,rfl,rfl⟩
 obtain⟨w,ws,hs,rfl,rfl⟩:=hws
 unfold CU at h
 rw[hs]at h
 simp only[List.getD_cons_zero,List.length_cons,Nat.add_sub_cancel,List.drop_succ_cons,List.drop_zero]at h
 split at h
 ·rename_i hge
  cases hm:F6 ws []with
  |none=>rw[hm]at h;cases h
  |some l=>
   rw[hm]at h
   simp only[Option.some.injEq,Prod.mk.injEq]at h
   obtain⟨rfl,rfl⟩:=h
   obtain⟨ns,e1,rfl⟩:=arM ws [] l hm
   rw[List.nil_append]at e1
   subst e1
   have hbd:∀n∈l,0≤n∧n≤9999:=by
    have:=asu (line:=line) (fm:=fmL) (a:=nG (wU w (l.map eH).length) fmL 0) (ns:=l) (by
     unfold CU
     rw[hs]
     simp only[List.getD_cons_zero,List.length_cons,Nat.add_sub_cancel,List.drop_succ_cons,List.drop_zero]
     rw[if_pos hge,hm])
    exact this
   obtain⟨k,hk,hw,hl⟩:∃k:Int,(1≤k∧k≤6)∧w=fwE k∧l.length=o7 k∧nG (wU w (l.map eH).length) fmL 0=k - 1:=by
    have key:∀(n:Nat) (p:ByteArray×Nat),wU w n p=true→w=p.1∧n=p.2:=by
     intro n p hp
     rw[wU,arS,Bool.and_eq_true,decide_eq_true_eq,beq_iff_eq]at hp
     exact⟨hp.1,by omega⟩
    rw[List.length_map]at hge⊢
    have hcase:∀k:Int,1≤k∧k≤6→wU w l.length (fmL.getD (k - 1).toNat default)=true→w=fwE k∧l.length=o7 k:=by
     intro k hk hp
     obtain⟨a,b⟩:=key _ _ hp
     refine⟨a,b.trans ?_⟩
     obtain rfl|rfl|rfl|rfl|rfl|rfl:=V4 hk
     all_goals rfl
    have fin:∀k:Int,1≤k∧k≤6→wU w l.length (fmL.getD (k - 1).toNat default)=true→∃k:Int,(1≤k∧k≤6)∧w=fwE k∧l.length=o7 k∧nG (wU w l.length) fmL 0=k - 1:=by
     intro k hk hp
     obtain⟨a,b⟩:=hcase k hk hp
     exact⟨k,hk,a,b,by rw[a,b];exact aob hk⟩
    have hany:fmL.any (wU w l.length)=true:=by rw[←Qx _ fmL 0];exact decide_eq_true hge
    obtain⟨p,hp1,hp2⟩:=List.any_eq_true.1 hany
    obtain⟨i,hi,rfl⟩:=List.mem_iff_getElem.1 hp1
    have hi6:i<6:=hi
    have hg:fmL.getD (((i:Int)+1) - 1).toNat default=fmL[i]:=by
     rw[show(((i:Int)+1) - 1).toNat=i by omega,List.getD_eq_getElem?_getD,List.getElem?_eq_getElem hi];rfl
    exact fin ((i:Int)+1) ⟨by omega,by omega⟩ (by rw[hg];exact hp2)
   obtain⟨hl1,hl2⟩:=hl
   have e:1+nG (wU w (l.map eH).length) fmL 0=k:=by omega
   rw[e]
   have hf:(⟨k,l⟩:En).formed=true:=by
    simp only[En.formed,Bool.and_eq_true,inR,decide_eq_true_eq,List.all_eq_true]
    exact⟨⟨⟨hk.1,hk.2⟩,hl1⟩,fun n hn=>⟨(hbd n hn).1,(hbd n hn).2⟩⟩
   refine⟨hf,alb ?_⟩
   obtain⟨_,_,h3⟩:=IU hf
   rw[SQ (by intro e';rw[e']at h3;simp at h3),h2,hw]
   simp[List.map_map,Function.comp_def]
 ·cases h
def UN:aB:=(.seq (rg [mk 4 (.c (.bool false))] 0 [0,1]) (.seq (rg [mv 5 0,mv 6 1,ob 7 (.ak F.XB) 5 6,mv 4 7] 0 [4]) .ret))
def Vb:List aJ:=[.tmp 4]
theorem acI:aC C.P F.XD 2 UN Vb=true:=by kernel_rfl
def Ov:aB:=(.seq (.region false [oa 1 (.box 0) 0,mk 2 (.c (.bool false))] 1 [1] [1]) (.seq (.seq (.region true [of 4 (.fld 1) [.t 1] 1,of 5 (.load false 1) [.t 4] 1,of 6 .len [.t 5] 1,of 7 (.fld 0) [.t 1] 1,of 8 (.load false 1) [.t 7] 1,oa 9 (.ak F.XE) 8,ob 10 (.bin .neq) 6 9] 0 [1,10] []) (.cond (.t 10) (.seq (rg [mk 2 (.c (.bool false))] 0 [2]) .ret) .skip)) (.seq (.seq (rg [mk 3 (kI 0)] 0 [1,3]) (.block 0 (.loop (.seq (.seq (rg [mv 11 3,oa 12 (.fld 1) 1,lo 13 12,oa 14 .len 13,ob 15 (.bin .lss) 11 14] 0 [1,3,15]) (.cond (.t 15) .skip (.exit 0))) (.seq (.block 1 (.seq (rg [oa 18 (.fld 1) 1,lo 19 18,mv 20 3,ob 21 (.bC 1) 19 20,lo 22 21,on 23 (.ak F.afh) [.t 22,kI 0,kI 9999],oa 24 (.un .not) 23] 0 [1,3,24]) (.cond (.t 24) (.seq (rg [mk 2 (.c (.bool false))] 0 [2]) .ret) .skip))) (rg [mv 16 3,oc 17 (.bin .add) 16 (kI 1),mv 3 17] 0 [1,3])))))) (.seq (rg [mk 2 (.c (.bool true))] 0 [2]) .ret))))
def OI:List aJ:=[.tmp 2]
theorem YD:aC C.P F.PS 1 Ov OI=true:=by kernel_rfl
def Ec:aB:=(.seq (.region false [oa 2 (.box 0) 0,oa 3 (.box 1) 1,mk 4 (.c (.bool false))] 2 [2,3] [2,3]) (.seq (rg [oa 5 (.fld 0) 2,lo 6 5,oa 7 (.fld 0) 3,lo 8 7,ob 9 (.bin .eql) 6 8,mv 10 9,ot 11 (.fld 1) [.t 2] 10 0,ot 12 (.load false 1) [.t 11] 10 0,ot 13 (.fld 1) [.t 3] 10 0,ot 14 (.load false 1) [.t 13] 10 0,ot 15 (.ak F.XD) [.t 12,.t 14] 10 0,on 16 .pick [.t 10,.t 15,.c (.bool false)],mv 4 16] 0 [4]) .ret))
def Ez:List aJ:=[.tmp 4]
theorem Pz:aC C.P F.Bh 2 Ec Ez=true:=by kernel_rfl
def arT:aB:=(.seq (rg [on 2 (.alloc 0 [.int .i64 0,.slice true []]) [],mk 3 (.c (.bool false))] 1 [0,2]) (.seq (rg [mv 9 0,oc 10 (.ak F.arY) 9 (.c (.int .u8 32)),mv 4 10] 0 [2,4]) (.seq (rg [mv 12 4,oc 13 (.RU 1 true false false) 12 (kI 1),oa 14 (.ak F.arN) 13,mv 11 14,oa 15 (.ext 0) 11,oa 16 (.ext 1) 11,mv 5 15,mv 6 16] 0 [2,4,5,6]) (.seq (.seq (rg [mk 7 (kI 1)] 0 [2,4,5,6,7]) (.block 0 (.loop (.seq (.seq (rg [mv 17 6,mv 18 17,ot 19 .mov [.t 7] 18 0,ot 20 (.bin .leq) [.t 19,kI 6] 18 0,on 21 .pick [.t 18,.t 20,.c (.bool false)]] 0 [2,4,5,6,7,21]) (.cond (.t 21) .skip (.exit 0))) (.seq (.block 1 (.seq (.region false [mv 24 7,mv 25 5,ob 26 (.build [.int .i64 0,.slice true []] [(0,1),(1,1)]) 24 25,on 8 (.alloc 0 [.int .i64 0,.slice true []]) [],os (.store 2) [.t 8,.t 26] 0] 1 [2,4,5,6,7,8] [8]) (.seq (.region true [mv 27 4,of 28 (.bC 1) [.t 27,kI 0] 1,of 29 (.load false 1) [.t 28] 1,mv 30 7,oa 31 (.ak F.XF) 30,ob 32 (.bin .eql) 29 31,mv 33 32,ot 34 (.load true 2) [.t 8] 33 1,ot 35 (.ak F.PS) [.t 34] 33 0,on 36 .pick [.t 33,.t 35,.c (.bool false)]] 0 [2,4,5,6,7,8,36] []) (.cond (.t 36) (.seq (rg [oa 37 (.load true 2) 8,os (.store 2) [.t 2,.t 37] 0,mk 3 (.c (.bool true))] 0 [2,3]) .ret) .skip)))) (rg [mv 22 7,oc 23 (.bin .add) 22 (kI 1),mv 7 23] 0 [2,4,5,6,7])))))) (.seq (rg [on 38 (.build [.int .i64 0,.slice true []] []) [],os (.store 2) [.t 2,.t 38] 0,mk 3 (.c (.bool false))] 0 [2,3]) .ret)))))
def arV:List aJ:=[.cell 2 true 2, .tmp 3]
theorem ar6:aC C.P F.arX 1 arT arV=true:=by kernel_rfl
def arU:aB:=(.seq (rg [on 4 (.jV 1) [.c (.slice true [])]] 0 [0,1]) (.seq (rg [on 5 (.jV 1) [.c (.slice true [])]] 0 [0,1,5]) (.seq (rg [mk 6 (kI 0)] 0 [0,1,5,6]) (.seq (.seq (rg [mk 7 (kI 0)] 0 [0,1,5,6,7]) (.block 0 (.loop (.seq (.seq (rg [mv 8 7,mv 9 0,oa 10 .Kq 9,ob 11 (.bin .lss) 8 10] 0 [0,1,5,6,7,11]) (.cond (.t 11) .skip (.exit 0))) (.seq (.block 1 (.seq (rg [mv 14 0,mv 15 7,ob 16 .abW 14 15,mv 17 1,ob 18 (.bin .eql) 16 17] 0 [0,1,5,6,7,18]) (.cond (.t 18) (.seq (rg [mv 19 5,mv 20 0,mv 21 6,mv 22 7,on 23 (.RV true true) [.t 20,.t 21,.t 22],oa 24 (.iH 1 [.str ⟨#[]⟩] [0]) 23,ob 25 (.app 1 false) 19 24,mv 5 25] 0 [0,1,5,7]) (rg [mv 26 7,oc 27 (.bin .add) 26 (kI 1),mv 6 27] 0 [0,1,5,6,7])) .skip))) (rg [mv 12 7,oc 13 (.bin .add) 12 (kI 1),mv 7 13] 0 [0,1,5,6,7])))))) (.seq (rg [mv 28 5,mv 29 0,mv 30 6,ob 31 (.RV true false) 29 30,oa 32 (.iH 1 [.str ⟨#[]⟩] [0]) 31,ob 33 (.app 1 false) 28 32,mv 4 33] 0 [4]) .ret)))))
def arW:List aJ:=[.tmp 4]
theorem ar7:aC C.P F.arY 2 arU arW=true:=by kernel_rfl
def UO:aB:=(.seq (rg [mk 2 (kI 0)] 0 [0]) (.seq (.seq (rg [mv 3 0] 0 [3]) (.block 0 (.seq (.seq (rg [oc 5 (.bin .eql) 3 (kI 1),mv 4 5] 0 [3,4]) (.cond (.t 4) .skip (.seq (rg [oc 6 (.bin .eql) 3 (kI 5),mv 4 6] 0 [3,4]) (.cond (.t 4) .skip (rg [oc 7 (.bin .eql) 3 (kI 6),mv 4 7] 0 [3,4]))))) (.cond (.t 4) (.seq (rg [mk 2 (kI 1)] 0 [2]) .ret) (.seq (rg [oc 9 (.bin .eql) 3 (kI 4),mv 8 9] 0 [3,8]) (.cond (.t 8) (.seq (rg [mk 2 (kI 2)] 0 [2]) .ret) (.seq (.seq (rg [oc 11 (.bin .eql) 3 (kI 2),mv 10 11] 0 [3,10]) (.cond (.t 10) .skip (rg [oc 12 (.bin .eql) 3 (kI 3),mv 10 12] 0 [10]))) (.cond (.t 10) (.seq (rg [mk 2 (kI 3)] 0 [2]) .ret) .skip)))))))) (.seq (rg [mk 2 (kI (-1))] 0 [2]) .ret)))
def Vd:List aJ:=[.tmp 2]
theorem acJ:aC C.P F.XE 1 UO Vd=true:=by kernel_rfl
def Zo:aB:=(.seq (rg [mk 6 (.c (.bool false))] 0 [0,1,2]) (.seq (rg [mv 7 0,mv 8 1,ob 9 (.bin .geq) 7 8,mv 10 9,ot 11 .mov [.t 0] 10 0,ot 12 .mov [.t 2] 10 0,ot 13 (.bin .leq) [.t 11,.t 12] 10 0,on 14 .pick [.t 10,.t 13,.c (.bool false)],mv 6 14] 0 [6]) .ret))
def ZC:List aJ:=[.tmp 6]
theorem ahL:aC C.P F.afh 3 Zo ZC=true:=by kernel_rfl
def UQ:aB:=(.seq (rg [mk 2 (.c (.str ⟨#[]⟩))] 0 [0]) (.seq (rg [on 3 (.iH 1 [.str ⟨#[]⟩,.str ⟨#[]⟩,.str ⟨#[]⟩,.str ⟨#[]⟩,.str ⟨#[]⟩,.str ⟨#[]⟩,.str ⟨#[]⟩] [0,1,2,3,4,5,6]) [.c (.str ⟨#[]⟩),.c (.str ⟨#[99,117,116]⟩),.c (.str ⟨#[99,104,97,110,103,101]⟩),.c (.str ⟨#[111,114,100,101,114]⟩),.c (.str ⟨#[115,101,114,118,101]⟩),.c (.str ⟨#[115,101,116]⟩),.c (.str ⟨#[115,116,114,105,107,101]⟩)],mv 4 0,ob 5 (.bC 1) 3 4,lo 6 5,mv 2 6] 0 [2]) .ret))
def Ve:List aJ:=[.tmp 2]
theorem acK:aC C.P F.XF 1 UQ Ve=true:=by kernel_rfl
def arO:aB:=(.seq (rg [on 2 (.jV 1) [.c (.slice true [])],mk 3 (.c (.bool false))] 0 [0]) (.seq (rg [on 4 (.jV 1) [.c (.slice true [])]] 0 [0,4]) (.seq (.seq (rg [mk 5 (kI 0)] 0 [0,4,5]) (.block 0 (.loop (.seq (.seq (rg [mv 8 5,mv 9 0,oa 10 .len 9,ob 11 (.bin .lss) 8 10] 0 [0,4,5,11]) (.cond (.t 11) .skip (.exit 0))) (.seq (.block 1 (.seq (rg [mk 6 (kI 0)] 0 [0,4,5,6]) (.seq (.seq (rg [mk 7 (kI 0)] 0 [0,4,5,6,7]) (.block 2 (.loop (.seq (.seq (rg [mv 14 7,mv 15 0,mv 16 5,ob 17 (.bC 1) 15 16,lo 18 17,oa 19 .Kq 18,ob 20 (.bin .lss) 14 19,mv 21 20,ot 22 .mov [.t 7] 21 0,ot 23 (.bin .lss) [.t 22,kI 5] 21 0,on 24 .pick [.t 21,.t 23,.c (.bool false)]] 0 [0,4,5,6,7,24]) (.cond (.t 24) .skip (.exit 2))) (.seq (.block 3 (.seq (.seq (rg [mv 27 0,mv 28 5,ob 29 (.bC 1) 27 28,lo 30 29,mv 31 7,ob 32 .abW 30 31,oc 33 (.bin .lss) 32 (.c (.int .u8 48)),mv 34 33,oF 35 .mov [.t 0] 34 0,oF 36 .mov [.t 5] 34 0,oF 37 (.bC 1) [.t 35,.t 36] 34 0,oF 38 (.load false 1) [.t 37] 34 0,oF 39 .mov [.t 7] 34 0,oF 40 .abW [.t 38,.t 39] 34 0,oF 41 (.bin .gtr) [.t 40,.c (.int .u8 57)] 34 0,on 42 .pick [.t 34,.c (.bool true),.t 41]] 0 [0,4,5,6,7,42]) (.cond (.t 42) (.seq (rg [on 2 (.jV 1) [.c (.slice true [])],mk 3 (.c (.bool false))] 0 [2,3]) .ret) .skip)) (rg [mv 43 6,on 44 (.bin .mul) [kI 10,.t 43],mv 45 0,mv 46 5,ob 47 (.bC 1) 45 46,lo 48 47,mv 49 7,ob 50 .abW 48 49,oc 51 (.bin .sub) 50 (.c (.int .u8 48)),oa 52 (.conv .i64) 51,ob 53 (.bin .add) 44 52,mv 6 53] 0 [0,4,5,6,7]))) (rg [mv 25 7,oc 26 (.bin .add) 25 (kI 1),mv 7 26] 0 [0,4,5,6,7])))))) (.seq (.seq (.region true [mv 54 6,oc 55 (.bin .gtr) 54 (kI 9999),mv 56 55,oF 57 .mov [.t 6] 56 0,oF 58 (.ak F.Aq) [.t 57] 56 0,oF 59 .mov [.t 0] 56 0,oF 60 .mov [.t 5] 56 0,oF 61 (.bC 1) [.t 59,.t 60] 56 1,oF 62 (.load false 1) [.t 61] 56 1,oF 63 (.bin .neq) [.t 58,.t 62] 56 0,on 64 .pick [.t 56,.c (.bool true),.t 63]] 0 [0,4,5,6,64] []) (.cond (.t 64) (.seq (rg [on 2 (.jV 1) [.c (.slice true [])],mk 3 (.c (.bool false))] 0 [2,3]) .ret) .skip)) (rg [mv 65 4,mv 66 6,oa 67 (.iH 1 [.int .i64 0] [0]) 66,ob 68 (.app 1 false) 65 67,mv 4 68] 0 [0,4,5]))))) (rg [mv 12 5,oc 13 (.bin .add) 12 (kI 1),mv 5 13] 0 [0,4,5])))))) (.seq (rg [mv 69 4,mv 2 69,mk 3 (.c (.bool true))] 0 [2,3]) .ret))))
def arP:List aJ:=[.tmp 2, .tmp 3]
theorem arZ:aC C.P F.arN 1 arO arP=true:=by kernel_rfl
def LM:aB:=(.seq (rg [mk 2 (.c (.str ⟨#[]⟩))] 0 [0]) (.seq (rg [mv 4 0,oc 5 (.bin .rem) 4 (kI 10),on 6 (.bin .add) [kI 48,.t 5],oa 7 (.conv .u8) 6,oa 8 (.iH 1 [.int .u8 0] [0]) 7,oa 9 .b2s 8,mv 3 9] 0 [0,3]) (.seq (.block 0 (.loop (.seq (.seq (rg [mv 10 0,oc 11 (.bin .geq) 10 (kI 10)] 0 [0,3,11]) (.cond (.t 11) .skip (.exit 0))) (.block 1 (.seq (rg [mv 12 0,oc 13 (.bin .quo) 12 (kI 10),mv 0 13] 0 [0,3]) (rg [mv 14 0,oc 15 (.bin .rem) 14 (kI 10),on 16 (.bin .add) [kI 48,.t 15],oa 17 (.conv .u8) 16,oa 18 (.iH 1 [.int .u8 0] [0]) 17,oa 19 .b2s 18,mv 20 3,ob 21 (.bin .add) 19 20,mv 3 21] 0 [0,3])))))) (.seq (rg [mv 22 3,mv 2 22] 0 [2]) .ret))))
def MB:List aJ:=[.tmp 2]
theorem Xj:aC C.P F.Aq 1 LM MB=true:=by kernel_rfl
def UL:aB:=(.seq (rg [mk 4 (.c (.bool false))] 0 [0,1]) (.seq (.seq (rg [mv 6 0,oa 7 .len 6,mv 8 1,oa 9 .len 8,ob 10 (.bin .neq) 7 9] 0 [0,1,10]) (.cond (.t 10) (.seq (rg [mk 4 (.c (.bool false))] 0 [4]) .ret) .skip)) (.seq (.seq (rg [mk 5 (kI 0)] 0 [0,1,5]) (.block 0 (.loop (.seq (.seq (rg [mv 11 5,mv 12 0,oa 13 .len 12,ob 14 (.bin .lss) 11 13] 0 [0,1,5,14]) (.cond (.t 14) .skip (.exit 0))) (.seq (.block 1 (.seq (.region true [mv 17 0,mv 18 5,of 19 (.bC 1) [.t 17,.t 18] 1,of 20 (.load false 1) [.t 19] 1,mv 21 1,mv 22 5,of 23 (.bC 1) [.t 21,.t 22] 1,of 24 (.load false 1) [.t 23] 1,ob 25 (.bin .neq) 20 24] 0 [0,1,5,25] []) (.cond (.t 25) (.seq (rg [mk 4 (.c (.bool false))] 0 [4]) .ret) .skip))) (rg [mv 15 5,oc 16 (.bin .add) 15 (kI 1),mv 5 16] 0 [0,1,5])))))) (.seq (rg [mk 4 (.c (.bool true))] 0 [4]) .ret))))
def U9:List aJ:=[.tmp 4]
theorem acG:aC C.P F.XB 2 UL U9=true:=by kernel_rfl
end Go.Tel
namespace Go.Am
theorem ajb {C:Ctx}{base:Nat}{M:Mem}{K:PV→Mem→Prop}{KP:DV→Mem→Prop}{xs:List DV}{l:List UInt8}{ex:Bool}(h:bytesOf xs=some l)(hK:K (.d (.str ⟨l.toArray⟩)) M):aj C base .b2s [.d (.slice ex xs)] M K KP:=by
 simp only[aj,Dv,h]
 exact hK
end Go.Am
namespace Go.Tel
open Go.Am Go.Lib
theorem ap7 (n l h:Int):Pure C F.afh [.int .i64 n, .int .i64 l, .int .i64 h] (.d (.bool (inR n l h))) []:=by
 refine ah mixed rfl ahL ?_
 simp only[Zo,ZC,RN,qA,qB,qC,qD,qE,qF]
 by_cases h1:n≥l
 ·simp only[h1,RN,qA,qB,qC,qD,qE,qF]
  simp[inR,show l≤n from h1]
 ·simp only[h1,RN,qA,qB,qC,qD,qE,qF]
  simp[inR,show¬l≤n from h1]
def QC (k:Int):Int:=if k=1∨k=5∨k=6 then 1 else if k=4 then 2 else if k=2∨k=3 then 3 else -1
theorem amx (k:Int):Pure C F.XE [.int .i64 k] (.d (.int .i64 (QC k))) []:=by
 refine ah mixed rfl acJ ?_
 simp only[UO,Vd,RN,qA,qB,qC,qD,qE,qF]
 unfold QC
 by_cases h1:k=1
 ·have b1:(k==1)=true:=by simp[h1]
  simp only[b1,RN,qA,qB,qC,qD,qE,qF]
  simp[h1]
 have b1:(k==1)=false:=beq_false_of_ne h1
 simp only[b1,RN,qA,qB,qC,qD,qE,qF]
 by_cases h2:k=5
 ·have b2:(k==5)=true:=by simp[h2]
  simp only[b2,RN,qA,qB,qC,qD,qE,qF]
  simp[h2]
 have b2:(k==5)=false:=beq_false_of_ne h2
 simp only[b2,RN,qA,qB,qC,qD,qE,qF]
 by_cases h3:k=6
 ·have b3:(k==6)=true:=by simp[h3]
  simp only[b3,RN,qA,qB,qC,qD,qE,qF]
  simp[h3]
 have b3:(k==6)=false:=beq_false_of_ne h3
 simp only[b3,RN,qA,qB,qC,qD,qE,qF]
 by_cases h4:k=4
 ·have b4:(k==4)=true:=by simp[h4]
  simp only[b4,RN,qA,qB,qC,qD,qE,qF]
  simp[h4]
 have b4:(k==4)=false:=beq_false_of_ne h4
 simp only[b4,RN,qA,qB,qC,qD,qE,qF]
 by_cases h5:k=2
 ·have b5:(k==2)=true:=by simp[h5]
  simp only[b5,RN,qA,qB,qC,qD,qE,qF]
  simp[h5]
 have b5:(k==2)=false:=beq_false_of_ne h5
 simp only[b5,RN,qA,qB,qC,qD,qE,qF]
 by_cases h6:k=3
 ·have b6:(k==3)=true:=by simp[h6]
  simp only[b6,RN,qA,qB,qC,qD,qE,qF]
  simp[h6]
 have b6:(k==3)=false:=beq_false_of_ne h6
 simp only[b6,RN,qA,qB,qC,qD,qE,qF]
 simp[h1,h2,h3,h4,h5,h6]
theorem aeD (x:En):x.formed=(decide ((x.ns.length:Int)=QC x.kind)&&x.ns.all fun n=>inR n 0 9999):=by
 unfold En.formed
 congr 1
 by_cases h:1≤x.kind∧x.kind≤6
 ·rw[show inR x.kind 1 6=true by simp[inR,h],Bool.true_and]
  have:QC x.kind=(o7 x.kind:Int):=by
   rcases V4 h with e|e|e|e|e|e<;>rw[e]<;>rfl
  rw[this]
  by_cases hl:x.ns.length=o7 x.kind
  ·rw[decide_eq_true hl,decide_eq_true (by omega)]
  ·rw[decide_eq_false hl,decide_eq_false (by omega)]
 ·rw[show inR x.kind 1 6=false by simp only[inR,Bool.and_eq_false_iff,decide_eq_false_iff_not];omega,Bool.false_and]
  have:QC x.kind= -1:=by
   unfold QC
   rw[if_neg (by omega),if_neg (by omega),if_neg (by omega)]
  rw[this,decide_eq_false (by omega)]
theorem ahW (x:En)(hx:x.ns.length≤1000000):Pure C F.PS [x.dv] (.d (.bool x.formed)) []:=by
 refine ah mixed rfl YD ?_
 rw[wO,aeD]
 simp only[Ov,OI,List.length_map,RN,qA,qB,qC,qD,qE,qF]
 refine au rfl rfl (amx _) ?_
 by_cases hl:(x.ns.length:Int)=QC x.kind
 case neg=>
  have b:((x.ns.length:Int) !=QC x.kind)=true:=by simp[hl]
  simp only[b,RN,qA,qB,qC,qD,qE,qF]
  simp[hl]
 have b:((x.ns.length:Int) !=QC x.kind)=false:=by simp[hl]
 simp only[b,RN,qA,qB,qC,qD,qE,qF]
 rw[decide_eq_true hl,Bool.true_and]
 refine aT x.ns.length (fun i (_:Unit)=>⟨[(1, .d (.aX [.int .i64 x.kind, .slice false (x.ns.map ay)])),(3, .d (.int .i64 i))],⟨[some [.d (.int .i64 x.kind), .d (.slice false (x.ns.map ay))]],[0],[]⟩⟩)
  (fun i _=>(x.ns.all fun n=>inR n 0 9999)=((x.ns.drop i).all fun n=>inR n 0 9999)) 0 () (Nat.zero_le _) rfl rfl (fun i _ g1 hix=> ?_) (fun _ hix=> ?_)
 ·obtain⟨g2,g3,g6⟩:=rng g1 hx
  rw[drop_cons g1,List.all_cons]at hix
  simp only[g2,g3,g1,getD_map,aV,Int.toNat_natCast,List.length_map,RN,qA,qB,qC,qD,qE,qF]
  refine au rfl rfl (ap7 _ _ _) ?_
  cases hb:inR (x.ns.getD i default) 0 9999
  ·rw[hb,Bool.false_and]at hix
   simp only[hix,RN,qA,qB,qC,qD,qE,qF]
  ·rw[hb,Bool.true_and]at hix
   simp only[g6,RN,qA,qB,qC,qD,qE,qF]
   exact lI () g1 rfl hix
 ·rw[List.drop_length,List.all_nil]at hix
  simp only[Int.lt_irrefl,List.length_map,hix,RN,qA,qB,qC,qD,qE,qF]
def Yv (d:Nat):ByteArray:=⟨#[UInt8.ofNat (48+d)]⟩
def Oa:Nat→Nat→ByteArray→ByteArray
 |0,_,s=>s
 |k+1,n,s=>if 10≤n then Oa k (n / 10) (Yv (n / 10 % 10)++s)else s
theorem abB:∀(k n:Nat) (s:ByteArray),n≤k→(Oa k n s).data.toList=(if 10≤n then decDigits (n / 10)else[])++s.data.toList
 |0,n,s,h=>by rw[Oa,if_neg (by omega),List.nil_append]
 |k+1,n,s,h=>by
  rw[Oa]
  by_cases h1:10≤n
  ·have hd:(Yv (n / 10 % 10)).data.toList=[UInt8.ofNat (48+n / 10 % 10)]:=rfl
   rw[if_pos h1,if_pos h1,abB k (n / 10) _ (by omega),Du,hd]
   by_cases h2:10≤n / 10
   ·rw[if_pos h2,ai1 (show¬n / 10<10 by omega)];simp
   ·rw[if_neg h2,ag7 (show n / 10<10 by omega),Nat.mod_eq_of_lt (show n / 10<10 by omega)];simp
  ·rw[if_neg h1,if_neg h1,List.nil_append]
theorem alk (n:Nat):Oa n n (Yv (n % 10))=eH n:=by
 refine alb ?_
 rw[WU,abB n n _ (Nat.le_refl _)]
 have hd:(Yv (n % 10)).data.toList=[UInt8.ofNat (48+n % 10)]:=rfl
 rw[hd]
 by_cases h:10≤n
 ·rw[if_pos h,ai1 (show¬n<10 by omega)]
 ·rw[if_neg h,ag7 (show n<10 by omega),Nat.mod_eq_of_lt (show n<10 by omega)];rfl
theorem YZ {d:Nat}(h:d<10):bytesOf [.int .u8 ((48+d:Nat):Int)]=some [UInt8.ofNat (48+d)]:=by
 exact(by decide:∀d<10,bytesOf [.int .u8 ((48+d:Nat):Int)]=some [UInt8.ofNat (48+d)]) d h
theorem akS {n:Nat}:IntKind.u8.wrap (IntKind.i64.wrap (48+((n % 10:Nat):Int)))=((48+n % 10:Nat):Int):=by
 have h:n % 10<10:=Nat.mod_lt _ (by decide)
 generalize n % 10=d at h
 exact(by decide:∀d<10,IntKind.u8.wrap (IntKind.i64.wrap (48+((d:Nat):Int)))=((48+d:Nat):Int)) d h
theorem afi (n:Nat)(hn:n≤1000000000):Pure C F.Aq [.int .i64 n] (.d (.str (eH n))) []:=by
 have t1:∀m:Nat,(m:Int).tmod 10=((m % 10:Nat):Int):=fun m=>(Int.ofNat_tmod m 10).symm
 have t2:∀m:Nat,(m:Int).tdiv 10=((m / 10:Nat):Int):=fun m=>(Int.ofNat_tdiv m 10).symm
 have z:(10:Int)≠0:=by decide
 refine ah mixed rfl Xj ?_
 rw[←alk]
 simp only[LM,MB,t1,z,akS,jZ,DV.strip,jX,RN,qA,qB,qC,qD,qE,qF]
 refine ajb (YZ (Nat.mod_lt _ (by decide))) ?_
 refine qR (fun(q:Nat×Nat×ByteArray)=>⟨[(0, .d (.int .i64 q.2.1)),(3, .d (.str q.2.2))],⟨[],[],[]⟩⟩)
  (fun q=>Oa n n (Yv (n % 10))=Oa q.1 q.2.1 q.2.2∧q.2.1≤q.1∧q.2.2.size+q.1≤n+1) (fun q=>q.1) (n,n,Yv (n % 10)) rfl ⟨rfl,Nat.le_refl _,by simp[Yv,ByteArray.size];omega⟩ (fun q hq=> ?_)
 obtain⟨k,m,t⟩:=q
 obtain⟨q1,q2,q3⟩:=hq
 simp only at q1 q2 q3
 by_cases hm:10≤m
 ·obtain⟨k,rfl⟩:∃k',k=k'+1:=⟨k - 1,by omega⟩
  rw[Oa,if_pos hm]at q1
  have b1:(m:Int)≥10:=by omega
  have w1:IntKind.i64.wrap ((m / 10:Nat):Int)=((m / 10:Nat):Int):=aG (by omega)
  simp only[b1,t1,t2,w1,z,akS,jZ,DV.strip,jX,RN,qA,qB,qC,qD,qE,qF]
  refine ajb (YZ (Nat.mod_lt _ (by decide))) ?_
  have hd:(⟨[UInt8.ofNat (48+m / 10 % 10)].toArray⟩:ByteArray)=Yv (m / 10 % 10):=rfl
  have hd1:(Yv (m / 10 % 10)).size=1:=rfl
  rw[hd]
  simp only[gX,pG,RN,qA,qB,qC,qD,qE,qF]
  refine⟨by omega,?_⟩
  exact aa1 (a:=(k+1,m,t)) (μ:=fun q=>q.1) (k,m / 10,Yv (m / 10 % 10)++t) (Nat.lt_succ_self _) rfl ⟨q1,by simp only;omega,by simp only[ByteArray.size_append];omega⟩ (by simp) (by simp) rfl rfl
 ·have b1:¬(m:Int)≥10:=by omega
  have hg:Oa k m t=t:=by cases k with
   |zero=>rfl
   |succ k=>rw[Oa,if_neg hm]
  simp only[b1,RN,qA,qB,qC,qD,qE,qF]
  rw[q1,hg]
theorem XG {n:Int}(h:0≤n∧n≤1000000000):Pure C F.Aq [.int .i64 n] (.d (.str (eH n))) []:=by
 obtain⟨m,rfl⟩:=Int.eq_ofNat_of_zero_le h.1
 exact afi m (by omega)
theorem amI {k:Int}(hk:1≤k∧k≤6):Pure C F.XF [.int .i64 k] (.d (.str (fwE k))) []:=by
 refine ah mixed rfl acK ?_
 simp only[UQ,Ve,RN,qA,qB,qC,qD,qE,qF]
 refine S9 rfl rfl rfl ?_
 rcases V4 hk with rfl|rfl|rfl|rfl|rfl|rfl
 all_goals((try simp only[RN,qA,qB,qC,qD,qE,qF]);exact⟨by decide,by decide,rfl,Nat.le_refl 1,rfl⟩)
theorem amN (a b:List Int)(ha:a.length≤1000000)(hb:b.length≤1000000):Pure C F.XB [.slice false (a.map ay), .slice false (b.map ay)] (.d (.bool (decide (a=b)))) []:=by
 refine ah mixed rfl acG ?_
 simp only[UL,U9,List.length_map,RN,qA,qB,qC,qD,qE,qF]
 by_cases hl:a.length=b.length
 case neg=>
  have e:((a.length:Int) !=(b.length:Int))=true:=by simp;omega
  simp only[e,RN,qA,qB,qC,qD,qE,qF]
  have:a≠b:=fun e=>hl (by rw[e])
  simp[this]
 have e:((a.length:Int) !=(b.length:Int))=false:=by simp[hl]
 simp only[e,RN,qA,qB,qC,qD,qE,qF]
 refine aT a.length (fun i (_:Unit)=>⟨[(0, .d (.slice false (a.map ay))),(1, .d (.slice false (b.map ay))),(5, .d (.int .i64 i))],⟨[],[],[]⟩⟩)
  (fun i _=>decide (a=b)=decide (a.drop i=b.drop i)) 0 () (Nat.zero_le _) rfl (by simp) (fun i _ g1 hix=> ?_) (fun _ hix=> ?_)
 ·obtain⟨g2,g3,g6⟩:=rng g1 ha
  have g1':i<b.length:=by omega
  have g3':(i:Int)<(b.length:Int):=by omega
  rw[drop_cons g1,drop_cons g1']at hix
  simp only[List.length_map,g2,g3,g1,g1',g3',Int.toNat_natCast,getD_map,aV,RN,qA,qB,qC,qD,qE,qF]
  by_cases hv:a.getD i default=b.getD i default
  ·have e1:(a.getD i default !=b.getD i default)=false:=bne_eq_false_iff_eq.2 hv
   rw[hv]at hix
   simp only[e1,g6,RN,qA,qB,qC,qD,qE,qF]
   exact lI () g1 rfl (by rw[hix];simp)
  ·have e1:(a.getD i default !=b.getD i default)=true:=bne_iff_ne.2 hv
   simp only[e1,RN,qA,qB,qC,qD,qE,qF]
   rw[hix,decide_eq_false (by intro e;exact hv (List.cons.inj e).1)]
 ·rw[List.drop_length,List.drop_of_length_le (by omega)]at hix
  simp only[Int.lt_irrefl,List.length_map,hix,RN,qA,qB,qC,qD,qE,qF]
theorem aoV (a b:List Int)(ha:a.length≤1000000)(hb:b.length≤1000000):Pure C F.XD [.slice false (a.map ay), .slice false (b.map ay)] (.d (.bool (decide (a=b)))) []:=by
 refine ah mixed rfl acI ?_
 simp only[UN,Vb,RN,qA,qB,qC,qD,qE,qF]
 refine au rfl rfl (amN a b ha hb) ?_
 (try simp only[RN,qA,qB,qC,qD,qE,qF])
theorem amO (x y:En)(ha:x.ns.length≤1000000)(hb:y.ns.length≤1000000):Pure C F.Bh [x.dv,y.dv] (.d (.bool (decide (x=y)))) []:=by
 refine ah mixed rfl Pz ?_
 rw[wO,wO]
 simp only[Ec,Ez,RN,qA,qB,qC,qD,qE,qF]
 by_cases hk:x.kind=y.kind
 ·have e:(x.kind==y.kind)=true:=by simp[hk]
  simp only[e,RN,qA,qB,qC,qD,qE,qF]
  refine au rfl rfl (aoV x.ns y.ns ha hb) ?_
  (try simp only[RN,qA,qB,qC,qD,qE,qF])
  cases x;cases y;simp only at hk;simp[hk]
 ·have e:(x.kind==y.kind)=false:=by simp[hk]
  simp only[e,RN,qA,qB,qC,qD,qE,qF]
  rw[decide_eq_false (fun e=>hk (by rw[e]))]
end Go.Tel
namespace Go.Am
theorem ar5 {C:Ctx}{base:Nat}{M:Mem}{K:PV→Mem→Prop}{KP:DV→Mem→Prop}{s:ByteArray}{k k':IntKind}{m n:Int}(h0:0≤m)(h1:m≤n)(h2:n≤s.size):aj C base (.RV true true) [.d (.str s), .d (.int k m), .d (.int k' n)] M K KP=K (.d (.str (s.extract m.toNat n.toNat))) M:=by
 simp only[aj,Dh,dI,Option.getD_some]
 exact propext ⟨fun h=>h.2.2.2.2.2,fun h=>⟨trivial,trivial,h0,h1,h2,h⟩⟩
end Go.Am
namespace Go.Tel
open Go.Am Go.Lib
theorem ar9 (s:ByteArray)(a b:Nat):(s.extract a b).data.toList=(s.data.toList.take b).drop a:=by
 rw[ByteArray.data_extract,Array.toList_extract,List.extract_eq_take_drop,List.drop_take]
theorem drop_at {l:List UInt8}{f i:Nat}(h1:f≤i)(h2:i<l.length):l.drop f=(l.take i).drop f++l.getD i 0::l.drop (i+1):=by
 have e:l.drop f=(l.take i++l.drop i).drop f:=by rw[List.take_append_drop]
 have hg:l.getD i 0=l[i]:=by rw[List.getD_eq_getElem?_getD,List.getElem?_eq_getElem h2];rfl
 rw[e,List.drop_append_of_le_length (by rw[List.length_take];omega),List.drop_eq_getElem_cons h2,hg]
theorem take_drop_succ {l:List UInt8}{f i:Nat}(h1:f≤i)(h2:i<l.length):(l.take (i+1)).drop f=(l.take i).drop f++ [l.getD i 0]:=by
 have hg:l.getD i 0=l[i]:=by rw[List.getD_eq_getElem?_getD,List.getElem?_eq_getElem h2];rfl
 rw[List.take_succ_eq_append_getElem h2,List.drop_append_of_le_length (by rw[List.length_take];omega),hg]
theorem asz {a b:UInt8}(h:((a.toNat:Nat):Int)=((b.toNat:Nat):Int)):a=b:=UInt8.toNat_inj.1 (by omega)
theorem asr (s:ByteArray)(c:UInt8)(hs:s.size≤1000000):Pure C F.arY [.str s, .int .u8 c.toNat] (.d (.slice false ((jQ s c).map .str))) []:=by
 have hl:s.data.toList.length=s.size:=size_data s
 refine gI (aF mixed rfl ar7 ?_)
 simp only[arU,arW,List.not_mem_nil,RN,qA,qB,qC,qD,qE,qF]
 refine aT s.size (fun i (q:List ByteArray×Nat×Nat)=>⟨[(0, .d (.str s)),(1, .d (.int .u8 c.toNat)),(5, .tsl 1 q.2.2 0),(6, .d (.int .i64 q.2.1)),(7, .d (.int .i64 i))],⟨[],[],[some ⟨1,[],0,0⟩,some ⟨1,q.1.map .str,q.2.2,0⟩]⟩⟩)
  (fun i q=>(q.1.map (·.data.toList))++spl c (s.data.toList.drop q.2.1)=spl c s.data.toList∧c∉(s.data.toList.take i).drop q.2.1∧q.2.1≤i∧q.1.length≤i) 0 ([],0,0) (Nat.zero_le _) rfl ⟨rfl,by simp,Nat.le_refl _,Nat.le_refl _⟩ (fun i q g1 hix=> ?_) (fun q hix=> ?_)
 ·obtain⟨out,f,ver⟩:=q
  obtain⟨r1,r2,r3,r4⟩:=hix
  simp only at r1 r2 r3 r4
  obtain⟨g2,g3,g6⟩:=rng g1 (by omega)
  have hda:=drop_at r3 (show i<s.data.toList.length by omega)
  have hts:=take_drop_succ r3 (show i<s.data.toList.length by omega)
  have hgd:=ahr s i
  by_cases hb:s.data.getD i 0=c
  ·have e1:(((s.data.getD i 0).toNat:Int)==(c.toNat:Int))=true:=by rw[hb];exact beq_self_eq_true _
   have x1:(0:Int)≤f:=by omega
   have x2:(f:Int)≤i:=by omega
   have x3:(i:Int)≤s.size:=by omega
   simp only[g2,g3,g1,Int.toNat_natCast,e1,ar5 x1 x2 x3,jZ,DV.strip,O1,ajl,forall_eq,List.length_map,g6,RN,qA,qB,qC,qD,qE,qF]
   refine⟨by simp,by omega,?_⟩
   refine nR (out++ [s.extract f i],i+1,ver+1) g1 ?_ ⟨?_,?_,by simp,by simp;omega⟩ (by simp) (by simp) rfl rfl
   ·simp only[List.map_append,List.map_cons,List.map_nil];rfl
   ·simp only[List.map_append,List.map_cons,List.map_nil,ar9]
    rw[←hgd,hb]at hda
    rw[hda,aaW r2]at r1
    simpa using r1
   ·simp only
    rw[List.drop_of_length_le (by rw[List.length_take];omega)]
    simp
  ·have e1:(((s.data.getD i 0).toNat:Int)==(c.toNat:Int))=false:=beq_eq_false_iff_ne.2 fun h=>hb (asz h)
   simp only[g2,g3,g1,Int.toNat_natCast,e1,g6,RN,qA,qB,qC,qD,qE,qF]
   refine nR (out,f,ver) g1 rfl ⟨r1,?_,by simp only;omega,by simp only;omega⟩ (by simp) (by simp) rfl rfl
   simp only
   rw[hts,←hgd]
   intro hh
   rcases List.mem_append.1 hh with hh|hh
   ·exact r2 hh
   ·exact hb (List.mem_singleton.1 hh).symm
 ·obtain⟨out,f,ver⟩:=q
  obtain⟨r1,r2,r3,r4⟩:=hix
  simp only at r1 r2 r3 r4
  have x1:(0:Int)≤f:=by omega
  have x2:(f:Int)≤s.size:=by omega
  have hend:jQ s c=out++ [s.extract f s.size]:=by
   refine aaz ?_
   rw[List.take_of_length_le (by omega)]at r2
   rw[Ye r2]at r1
   rw[adr,←r1,List.map_append,List.map_cons,List.map_nil,ar9,List.take_of_length_le (by omega)]
  simp only[Int.lt_irrefl,Wy x1 x2,Int.toNat_natCast,jZ,DV.strip,O1,ajl,forall_eq,List.length_map,RN,qA,qB,qC,qD,qE,qF]
  refine⟨by simp,by omega,?_⟩
  rw[hend,List.map_append]
  simp[datum,Mem.row]
theorem asj {w:ByteArray}(h:4<w.size):zK w=none:=by
 obtain⟨k,hk⟩:∃k,w.size=k+1:=⟨w.size - 1,by omega⟩
 rw[zK,hk,UC,if_neg (fun h=>by omega)]
theorem asf {n:Int}(h:0≤n∧n≤9999):(eH n).size≤4:=by
 obtain⟨m,rfl⟩:=Int.eq_ofNat_of_zero_le h.1
 have:=aad 3 m (by omega)
 rw[←size_data,WU];omega
def ar0 (o:Option (List Int)):DV:= .tup [.slice false ((o.getD []).map ay), .bool o.isSome]
theorem asc (ws:List ByteArray)(hl:ws.length≤1000000)(hw:∀w∈ws,w.size≤1000000):Pure C F.arN [.slice false (ws.map .str)] (.d (ar0 (F6 ws []))) []:=by
 refine gI (aF mixed rfl arZ ?_)
 simp only[arO,arP,RN,qA,qB,qC,qD,qE,qF]
 refine aT ws.length (fun i (q:List Int×Nat)=>⟨[(0, .d (.slice false (ws.map .str))),(4, .tsl 1 q.2 0),(5, .d (.int .i64 i))],⟨[],[],[some ⟨1,[],0,0⟩,some ⟨1,q.1.map ay,q.2,0⟩]⟩⟩)
  (fun i q=>F6 ws []=F6 (ws.drop i) q.1∧q.1.length=i) 0 ([],0) (Nat.zero_le _) rfl ⟨rfl,rfl⟩ (fun i q g1 hq=> ?_) (fun q hq=> ?_)
 ·obtain⟨acc,ver⟩:=q
  obtain⟨r1,r2⟩:=hq
  simp only at r1 r2
  obtain⟨g2,g3,g6⟩:=rng g1 hl
  rw[drop_cons g1,F6]at r1
  have hws:=hw _ (getD_mem g1)
  obtain⟨w,hwe⟩:∃w,w=ws.getD i default:=⟨_,rfl⟩
  rw[←hwe]at r1 hws
  have hno:zK w=none→datum ⟨[],[],[some ⟨1,[],0,0⟩,some ⟨1,acc.map ay,ver,0⟩,some ⟨1,[],0,0⟩]⟩ (.tup [.tsl 2 0 0, .d (.bool false)])=some (ar0 (F6 ws [])):=by
   intro h
   rw[r1,h]
   simp[datum,bW,eU,Mem.row,afy,jd,ar0]
  simp only[List.length_map,g2,g3,g1,RN,qA,qB,qC,qD,qE,qF]
  refine aT (min w.size 5) (fun k (n:Int)=>⟨[(0, .d (.slice false (ws.map .str))),(4, .tsl 1 ver 0),(5, .d (.int .i64 i)),(6, .d (.int .i64 n)),(7, .d (.int .i64 k))],⟨[],[],[some ⟨1,[],0,0⟩,some ⟨1,acc.map ay,ver,0⟩]⟩⟩)
   (fun k n=>0≤n∧n<10 ^ k∧(w.size≤4→UC w w.size 0 0=UC w (w.size - k) k n)) 0 0 (Nat.zero_le _) rfl ⟨by decide,by decide,fun _=>rfl⟩ (fun k n k1 hn=> ?_) (fun n hn=> ?_)
  ·obtain⟨n1,n2,n3⟩:=hn
   have kw:k<w.size:=by omega
   have k5:(k:Int)<5:=by omega
   have ks:(k:Int)<(w.size:Int):=by omega
   have kz:(0:Int)≤(k:Int):=by omega
   have kp:IntKind.i64.wrap ((k:Int)+1)=((k+1:Nat):Int):=by rw[aG (by omega)];omega
   simp only[List.length_map,g2,g3,g1,getD_map,Int.toNat_natCast,O1,←hwe,ks,k5,kz,kw,RN,qA,qB,qC,qD,qE,qF]
   obtain⟨b,hb⟩:∃b,b=w.data.getD k 0:=⟨_,rfl⟩
   have hb8:b.toNat<256:=UInt8.toNat_lt _
   have bad:¬(48≤b.toNat∧b.toNat≤57)→zK w=none:=by
    intro hbb
    by_cases h4:w.size≤4
    ·have:=n3 h4
     obtain⟨r,hr⟩:∃r,w.size - k=r+1:=⟨w.size - k - 1,by omega⟩
     rw[hr,UC,←hb,if_neg (fun h=>hbb ⟨h.1,h.2.1⟩)]at this
     rw[zK,this]
    ·exact asj (by omega)
   by_cases c1:b.toNat<48
   ·have x1:(b.toNat:Int)<48:=by omega
    simp only[←hb,x1,RN,qA,qB,qC,qD,qE,qF]
    exact hno (bad (by omega))
   have x1:¬(b.toNat:Int)<48:=by omega
   by_cases c2:b.toNat>57
   ·have x2:(b.toNat:Int)>57:=by omega
    simp only[List.length_map,g2,g3,g1,getD_map,Int.toNat_natCast,O1,←hwe,ks,k5,kz,kw,←hb,x1,x2,RN,qA,qB,qC,qD,qE,qF]
    exact hno (bad (by omega))
   have x2:¬(b.toNat:Int)>57:=by omega
   have hpw:(10:Int) ^ k≤10000:=by
    rcases k with _| _| _| _| _|k
    ·decide
    ·decide
    ·decide
    ·decide
    ·decide
    ·omega
   have w1:IntKind.i64.wrap (10*n)=10*n:=aG (by omega)
   have w2:IntKind.u8.wrap ((b.toNat:Int) - 48)=(b.toNat:Int) - 48:=by
    obtain⟨m,hm⟩:∃m:Nat,(b.toNat:Int) - 48=m:=Int.eq_ofNat_of_zero_le (by omega)
    have hm2:m<10:=by omega
    rw[hm]
    exact(by decide:∀m<10,IntKind.u8.wrap ((m:Nat):Int)=m) m hm2
   have w3:IntKind.i64.wrap ((b.toNat:Int) - 48)=(b.toNat:Int) - 48:=aG (by omega)
   have w4:IntKind.i64.wrap (10*n+((b.toNat:Int) - 48))=10*n+((b.toNat:Int) - 48):=aG (by omega)
   simp only[List.length_map,g2,g3,g1,getD_map,Int.toNat_natCast,O1,←hwe,ks,k5,kz,kw,←hb,x1,x2,w1,w2,w3,w4,kp,RN,qA,qB,qC,qD,qE,qF]
   refine nR (10*n+((b.toNat:Int) - 48)) k1 rfl ⟨by omega,by rw[Int.pow_succ];omega,fun h4=> ?_⟩ (by simp) (by simp) rfl rfl
   have:=n3 h4
   obtain⟨r,hr⟩:∃r,w.size - k=r+1:=⟨w.size - k - 1,by omega⟩
   rw[hr,UC,←hb,if_pos ⟨by omega,by omega,h4⟩]at this
   rw[this,show w.size - (k+1)=r by omega]
  ·obtain⟨n1,n2,n3⟩:=hn
   have hmn:min w.size 5≤5:=Nat.min_le_right _ _
   have hpw:(10:Int) ^ (min w.size 5)≤100000:=by
    generalize min w.size 5=z at*
    rcases z with _| _| _| _| _| _|z
    ·decide
    ·decide
    ·decide
    ·decide
    ·decide
    ·decide
    ·omega
   have he:zK w=if n>9999∨eH n≠w then none else some n:=by
    by_cases h4:w.size≤4
    ·have:=n3 h4
     rw[show min w.size 5=w.size by omega]at this hpw n2
     rw[Nat.sub_self,UC]at this
     have h9:¬n>9999:=by
      have:(10:Int) ^ w.size≤10000:=by
       generalize w.size=z at h4
       rcases z with _| _| _| _| _|z
       ·decide
       ·decide
       ·decide
       ·decide
       ·decide
       ·omega
      omega
     rw[zK,this]
     simp only
     by_cases e:eH n=w
     ·have hz:w.size≠0:=by
       intro hz
       obtain⟨m,rfl⟩:=Int.eq_ofNat_of_zero_le n1
       have h1:=(aad 3 m (by omega)).2
       rw[←size_data,←e,WU]at hz
       omega
      rw[if_pos ⟨hz,by rw[e]⟩,if_neg (by intro h;rcases h with h|h;exact h9 h;exact h e)]
     ·rw[if_neg (fun h=>e (alb h.2)),if_pos (.inr e)]
    ·rw[asj (by omega)]
     by_cases h9:n>9999
     ·rw[if_pos (.inl h9)]
     ·have:=asf (n:=n) ⟨n1,by omega⟩
      rw[if_pos (.inr (fun e=>by rw[e]at this;omega))]
   have asy:((min w.size 5:Nat):Int)<(w.size:Int)→¬((min w.size 5:Nat):Int)<5:=by omega
   by_cases hq1:((min w.size 5:Nat):Int)<(w.size:Int)
   all_goals(
    (first
     |(have hq2:=asy hq1;simp only[List.length_map,g2,g3,g1,getD_map,Int.toNat_natCast,O1,←hwe,hq1,hq2,RN,qA,qB,qC,qD,qE,qF])
     |simp only[List.length_map,g2,g3,g1,getD_map,Int.toNat_natCast,O1,←hwe,hq1,RN,qA,qB,qC,qD,qE,qF])
    by_cases h9:n>9999
    ·simp only[h9,RN,qA,qB,qC,qD,qE,qF]
     exact hno (by rw[he,if_pos (.inl h9)])
    simp only[h9,RN,qA,qB,qC,qD,qE,qF]
    refine au rfl rfl (XG ⟨n1,by omega⟩) ?_
    by_cases e:eH n=w
    ·have e1:((eH n).toList==w.toList)=true:=by rw[arS];exact decide_eq_true e
     simp only[List.length_map,g2,g3,g1,getD_map,Int.toNat_natCast,O1,←hwe,gX,aaX,e1,jZ,fits_int,forall_eq,DV.strip,jX,RN,qA,qB,qC,qD,qE,qF]
     refine⟨by simp,by omega,?_⟩
     simp only[g6,RN,qA,qB,qC,qD,qE,qF]
     rw[he,if_neg (by intro h;rcases h with h|h;exact h9 h;exact h e)]at r1
     refine jR 0 2 (acc++ [n],ver+1) g1 ?_ ⟨r1,by simp[r2]⟩ (by simp) (by simp) rfl rfl
     simp only[List.map_append,List.map_cons,List.map_nil,aV];rfl
    ·have e1:((eH n).toList==w.toList)=false:=by rw[arS];exact decide_eq_false e
     simp only[List.length_map,g2,g3,g1,getD_map,Int.toNat_natCast,O1,←hwe,gX,aaX,e1,RN,qA,qB,qC,qD,qE,qF]
     exact hno (by rw[he,if_pos (.inr e)]))
 ·obtain⟨acc,ver⟩:=q
  obtain⟨r1,r2⟩:=hq
  simp only at r1 r2
  rw[List.drop_length,F6]at r1
  simp only[Int.lt_irrefl,List.length_map,RN,qA,qB,qC,qD,qE,qF]
  rw[r1]
  simp[datum,bW,eU,Mem.row,afy,jd,ar0]
end Go.Tel
namespace Go.Tel
open Go.Am Go.Lib
def isKind (w:ByteArray)(l:List Int)(k:Int):Bool:=decide (w=fwE k)&&(⟨k,l⟩:En).formed
theorem aso {line:ByteArray}{l:List Int}{k:Int}(hm:F6 ((jQ line 32).drop 1) []=some l)(hk:1≤k∧k≤6)(h:isKind ((jQ line 32).getD 0 default) l k=true):CU line fmL=some (k - 1,l):=by
 simp only[isKind,Bool.and_eq_true,decide_eq_true_eq]at h
 obtain⟨h1,h2,h3⟩:=IU h.2
 obtain⟨ns,e,e2⟩:=arM _ _ _ hm
 rw[List.nil_append]at e
 subst e
 simp only at h2 h3
 have e3:(jQ line 32).length - 1=o7 k:=by
  have:=congrArg List.length e2
  rw[List.length_map,List.length_drop]at this
  omega
 rw[CU,h.1,e3,aob hk,hm,if_pos (by omega)]
theorem asl {line:ByteArray}{l:List Int}{a:Int}(h:CU line fmL=some (a,l)):F6 ((jQ line 32).drop 1) []=some l∧(1≤1+a∧1+a≤6)∧isKind ((jQ line 32).getD 0 default) l (1+a)=true:=by
 obtain⟨hf,hl⟩:=ase h
 obtain⟨h1,h2,h3⟩:=IU hf
 have hs:=aft hf
 rw[hl]at hs
 refine⟨?_,h1,?_⟩
 ·rw[hs,List.drop_succ_cons,List.drop_zero,UA _ _ (GY hf)];rfl
 ·rw[hs,List.getD_cons_zero,isKind,decide_eq_true rfl,hf];rfl
theorem asn {line w:ByteArray}{c:UInt8}(h:w∈jQ line c):w.size≤line.size:=by
 have h1:w.data.toList∈spl c line.data.toList:=by rw[←adr];exact List.mem_map.2 ⟨w,h,rfl⟩
 have key:∀(l x:List UInt8),x∈spl c l→x.length≤l.length:=by
  intro l
  induction l with
  |nil=>intro x hx;simp[spl]at hx;simp[hx]
  |cons b l ih=>
   intro x hx
   rw[spl]at hx
   split at hx
   ·rcases List.mem_cons.1 hx with hx|hx
    ·simp[hx]
    ·have:=ih x hx;simp;omega
   ·split at hx
    ·rename_i y r he
     rcases List.mem_cons.1 hx with hx|hx
     ·have:=ih y (by rw[he];simp)
      rw[hx];simp;omega
     ·have:=ih x (by rw[he];simp[hx])
      simp;omega
    ·simp only[List.mem_singleton]at hx;rw[hx];simp
 have:=key _ _ h1
 rw[size_data,size_data]at this
 exact this
def tDV:Option (Int×List Int)→DV
 |some (a,l)=> .tup [.agg [.int .i64 (1+a), .slice false (l.map ay)], .bool true]
 |none=> .tup [.agg [.int .i64 0, .slice true []], .bool false]
def arK (line:ByteArray):DV:=tDV (CU line fmL)
theorem asq (line:ByteArray)(hl:line.size≤999999):Pure C F.arX [.str line] (.d (arK line)) []:=by
 have hsl:=Qa line 32
 have hcb:=Go.Lib.countB_le ⟨#[32]⟩ (Nat.le_refl _) line.size line (Nat.le_refl _)
 have hnum:=asc ((jQ line 32).drop 1) (by rw[List.length_drop];omega) (fun w hw=>by have:=asn (List.mem_of_mem_drop hw);omega)
 have apQ:=asr line 32 (by omega)
 have hk1:∀(l:List Int) (k:Int),F6 ((jQ line 32).drop 1) []=some l→1≤k∧k≤6→isKind ((jQ line 32).getD 0 default) l k=true→CU line fmL=some (k - 1,l):=fun l k hm hk h=>aso hm hk h
 have hk2:∀a l,CU line fmL=some (a,l)→F6 ((jQ line 32).drop 1) []=some l∧(1≤1+a∧1+a≤6)∧isKind ((jQ line 32).getD 0 default) l (1+a)=true:=fun a l h=>asl h
 have hbd:∀l,F6 ((jQ line 32).drop 1) []=some l→l.length≤1000000:=by
  intro l hm
  obtain⟨ns,e,e2⟩:=arM _ _ _ hm
  rw[List.nil_append]at e
  have:=congrArg List.length e2
  rw[List.length_map,List.length_drop]at this
  rw[e];omega
 obtain⟨T,hT⟩:∃T,T=CU line fmL:=⟨_,rfl⟩
 rw[←hT]at hk1 hk2
 have hres:arK line=tDV T:=by rw[hT];rfl
 refine ah mixed rfl ar6 ?_
 simp only[arT,arV,RN,qA,qB,qC,qD,qE,qF]
 refine au rfl rfl apQ ?_
 have hln:1≤(jQ line 32).length:=by omega
 have asA:(jQ line 32).length≤1000000:=by omega
 clear apQ hsl hcb
 generalize jQ line 32=ws at*
 (try simp only[RN,qA,qB,qC,qD,qE,qF])
 rw[aew (amS ws) (by decide) (by rw[List.length_map];omega)]
 have hdm:(ws.map DV.str).drop (Int.toNat 1)=(ws.drop 1).map DV.str:=by rw[List.map_drop];rfl
 rw[hdm]
 refine au rfl rfl hnum ?_
 simp only[ar0,RN,qA,qB,qC,qD,qE,qF]
 cases hm:F6 (ws.drop 1) []with
 |none=>
  have hT0:T=none:=by
   cases hTT:T with
   |none=>rfl
   |some q=>obtain⟨h1,_⟩:=hk2 q.1 q.2 hTT;rw[hm]at h1;cases h1
  simp only[Option.isSome_none,RN,qA,qB,qC,qD,qE,qF]
  refine qR (fun(_:Unit)=>⟨[(2, .ptr 0 0),(4, .d (.slice false (ws.map .str))),(5, .d (.slice false [])),(6, .d (.bool false)),(7, .d (.int .i64 1))],⟨[some [.d (.int .i64 0), .d (.slice true [])]],[],[]⟩⟩)
   (fun _=>True) (fun _=>0) () rfl trivial (fun _ _=> ?_)
  simp only[mQ,RN,qA,qB,qC,qD,qE,qF]
  rw[hres,hT0,tDV]
 |some l=>
  have hll:=hbd l hm
  simp only[Option.isSome_some,Option.getD_some,RN,qA,qB,qC,qD,qE,qF]
  refine aT 6 (fun i (_:Unit)=>⟨[(2, .ptr 0 0),(4, .d (.slice false (ws.map .str))),(5, .d (.slice false (l.map ay))),(6, .d (.bool true)),(7, .d (.int .i64 ((i+1:Nat):Int)))],⟨[some [.d (.int .i64 0), .d (.slice true [])]],[],[]⟩⟩)
   (fun i _=>∀j:Nat,j<i→isKind (ws.getD 0 default) l ((j:Int)+1)=false) 0 () (Nat.zero_le _) rfl (fun j hj=>absurd hj (Nat.not_lt_zero _)) (fun i _ g1 hix=> ?_) (fun _ hix=> ?_)
  ·have g2:((i+1:Nat):Int)≤6:=by omega
   have g3:(0:Int)≤0:=by decide
   have g4:(0:Nat)<ws.length:=by omega
   have g6:IntKind.i64.wrap (((i+1:Nat):Int)+1)=((i+1+1:Nat):Int):=by rw[aG (by omega)];omega
   have hkk:(1:Int)≤((i+1:Nat):Int)∧((i+1:Nat):Int)≤6:=by omega
   have hF:=ahW ⟨((i+1:Nat):Int),l⟩ hll
   rw[wO]at hF
   simp only at hF
   obtain⟨k,hke⟩:∃k:Int,k=((i+1:Nat):Int):=⟨_,rfl⟩
   rw[←hke]at g2 g6 hkk hF
   have hkj:(i:Int)+1=k:=by omega
   have hn:=amI hkk
   simp only[←hke,g2,g3,g4,List.length_map,Int.toNat_zero,getD_map,O1,RN,qA,qB,qC,qD,qE,qF]
   refine au rfl rfl hn ?_
   have hd:=arS (a:=ws.getD 0 default) (b:=fwE k)
   by_cases e:ws.getD 0 default=fwE k
   ·rw[decide_eq_true e]at hd
    simp only[gX,NH,hd,RN,qA,qB,qC,qD,qE,qF]
    refine au rfl rfl hF ?_
    cases hfm:(⟨k,l⟩:En).formed
    ·simp only[g6,RN,qA,qB,qC,qD,qE,qF]
     refine jR 1 0 () g1 rfl (fun j hj=> ?_) (by simp) (by simp) rfl rfl
     by_cases hji:j=i
     ·subst hji;rw[hkj,isKind,hfm,Bool.and_false]
     ·exact hix j (by omega)
    ·have ht:=hk1 l k hm hkk (by rw[isKind,hfm,decide_eq_true e];rfl)
     simp only[mQ,RN,qA,qB,qC,qD,qE,qF]
     rw[hres,ht,tDV]
     rw[show 1+(k - 1)=k by omega]
   ·rw[decide_eq_false e]at hd
    simp only[gX,NH,hd,g6,RN,qA,qB,qC,qD,qE,qF]
    refine jR 1 0 () g1 rfl (fun j hj=> ?_) (by simp) (by simp) rfl rfl
    by_cases hji:j=i
    ·subst hji;rw[hkj,isKind,decide_eq_false e];rfl
    ·exact hix j (by omega)
  ·have hT0:T=none:=by
    cases hTT:T with
    |none=>rfl
    |some q=>
     obtain⟨h1,h2,h3⟩:=hk2 q.1 q.2 hTT
     rw[hm]at h1
     cases h1
     have:=hix q.1.toNat (by omega)
     rw[show((q.1.toNat:Nat):Int)+1=1+q.1 by omega,h3]at this
     cases this
   have g2:¬((6+1:Nat):Int)≤6:=by omega
   simp only[g2,mQ,RN,qA,qB,qC,qD,qE,qF]
   rw[hres,hT0,tDV]
theorem asw (line:ByteArray):Pure C F.arH [.str line] (.d (.bool true)) []:=by
 refine ah mixed rfl arJ ?_
 simp only[arF,arG,RN,qA,qB,qC,qD,qE,qF]
 by_cases h1:(line.size:Int)>100
 ·simp only[h1,RN,qA,qB,qC,qD,qE,qF]
  refine au rfl rfl aap ?_
  (try simp only[RN,qA,qB,qC,qD,qE,qF])
 simp only[h1,RN,qA,qB,qC,qD,qE,qF]
 have hP:=afF line
 have hR:=asq line (by omega)
 have hz:=amO ⟨0,[]⟩ ⟨0,[]⟩ (by simp) (by simp)
 rw[wO]at hz
 simp only[List.map_nil,decide_true]at hz
 have z3:((3:Int)==3)=true:=rfl
 have z4:((4:Int)==4)=true:=rfl
 have z0:((0:Int)==0)=true:=rfl
 have z5:((3:Int) !=0)=true:=rfl
 have z6:((4:Int) !=0)=true:=rfl
 have z7:((0:Int) !=0)=false:=rfl
 have b1:decide ((3:Int)≠0)=true:=rfl
 have b2:decide ((4:Int)≠0)=true:=rfl
 have b3:decide ((0:Int)≠0)=false:=rfl
 by_cases h2:line.size>60
 ·have hp:dP line=(⟨0,[]⟩,3):=by rw[dP,if_pos h2]
  have h3:(line.size:Int)>60:=by omega
  rw[hp]at hP
  simp only[F5,b1,List.map_nil]at hP
  refine au rfl rfl hP ?_
  simp only[mQ,RN,qA,qB,qC,qD,qE,qF]
  refine au rfl rfl hR ?_
  cases hT:CU line fmL with
  |none=>
   simp only[arK,hT,tDV,mQ,h3,z5,z3,RN,qA,qB,qC,qD,qE,qF]
   refine au rfl rfl hz ?_
   (try simp only[RN,qA,qB,qC,qD,qE,qF])
   refine au rfl rfl aap ?_
   (try simp only[RN,qA,qB,qC,qD,qE,qF])
  |some q=>
   simp only[arK,hT,tDV,mQ,h3,z5,z3,RN,qA,qB,qC,qD,qE,qF]
   refine au rfl rfl hz ?_
   (try simp only[RN,qA,qB,qC,qD,qE,qF])
   refine au rfl rfl aap ?_
   (try simp only[RN,qA,qB,qC,qD,qE,qF])
 ·have h3:¬(line.size:Int)>60:=by omega
  cases hT:CU line fmL with
  |none=>
   have hp:dP line=(⟨0,[]⟩,4):=by rw[dP,if_neg h2,hT]
   rw[hp]at hP
   simp only[F5,b2,List.map_nil]at hP
   refine au rfl rfl hP ?_
   simp only[mQ,RN,qA,qB,qC,qD,qE,qF]
   refine au rfl rfl hR ?_
   simp only[arK,hT,tDV,mQ,h3,z6,z4,RN,qA,qB,qC,qD,qE,qF]
   refine au rfl rfl hz ?_
   (try simp only[RN,qA,qB,qC,qD,qE,qF])
   refine au rfl rfl aap ?_
   (try simp only[RN,qA,qB,qC,qD,qE,qF])
  |some q=>
   obtain⟨a,l⟩:=q
   have hp:dP line=(⟨1+a,l⟩,0):=by rw[dP,if_neg h2,hT]
   obtain⟨hf,hli⟩:=ase hT
   have hfe:=IQ hf
   have hw:=ak9 ⟨1+a,l⟩
   have hse:=amO ⟨1+a,l⟩ ⟨1+a,l⟩ (by simp only at hfe⊢;omega) (by simp only at hfe⊢;omega)
   rw[wO,hf,hli]at hw
   rw[wO]at hse
   simp only[if_true,decide_true]at hw hse
   have hlb:(line.toList==line.toList)=true:=beq_self_eq_true _
   rw[hp]at hP
   simp only[F5,b3]at hP
   refine au rfl rfl hP ?_
   simp only[mQ,RN,qA,qB,qC,qD,qE,qF]
   refine au rfl rfl hR ?_
   simp only[arK,hT,tDV,mQ,h3,z7,RN,qA,qB,qC,qD,qE,qF]
   refine au rfl rfl hw ?_
   simp only[z0,RN,qA,qB,qC,qD,qE,qF]
   refine au rfl rfl hse ?_
   simp only[z0,gX,NH,hlb,RN,qA,qB,qC,qD,qE,qF]
   refine au rfl rfl aap ?_
   (try simp only[RN,qA,qB,qC,qD,qE,qF])
end Go.Tel
namespace Go.Am
theorem asv {ds:List DV}(h:Has .str ds):∃s,s.size≤maxLen∧ds=[.str s]:=by cases h with|str h=>exact⟨_,h,rfl⟩
theorem ana {T:Ty}{Ts:List Ty}{xs:List DV}(h:Iu (T::Ts) xs):∃x l,xs=x::l∧aiv T x∧Iu Ts l:=by
 cases xs with
 |nil=>exact h.elim
 |cons x l=>exact⟨x,l,rfl,h.1,h.2⟩
theorem aod {xs:List DV}(h:Iu [] xs):xs=[]:=by
 cases xs with
 |nil=>rfl
 |cons x l=>exact h.elim
end Go.Am
namespace Go.Tel
open Go.Am
theorem asx {x:DV}(h:aiv .str x):∃s,s.size≤maxLen∧x= .str s:=by
 obtain⟨s,hs,h1⟩:=asv h.1
 rw[h.2.2 rfl]at h1
 exact⟨s,hs,(List.cons.inj h1).1⟩
end Go.Tel
namespace Go.Am
section
variable {H:Type}{enc:TypeId×Value→H}{P:Program}{w:World}{base:Nat}{spare:Nat→Bool}{held:Bool}
theorem Vp:∀{ts:List TypeId} {vs:List Value} {ds:List (DataW H)} {ps:List MemPlace},DataW.TrodAll enc P w base spare held ts vs ds ps→ds.length=ts.length
 | [],[],[],_,_=>rfl
 |t::ts,v::vs,d::ds,ps,h=>by
  obtain⟨p,q,_,h2,_⟩:=h
  rw[List.length_cons,List.length_cons,Vp h2]
 | [],_::_,_,_,h=>by cases h
 | [],[],_::_,_,h=>by cases h
 | _::_,[],_,_,h=>by cases h
 | _::_,_::_,[],_,h=>by cases h
end
theorem apY {α:Type}{l:List α}(h:l.length=1):∃a,l=[a]:=List.length_eq_one_iff.1 h
end Go.Am
