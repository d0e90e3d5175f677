/-
  Part 26 of the proof of a law of desks: an abstract machine over the model, contracts of functions, plain laws.
  Conditions: none.
-/
import Derived.Test.YtbefoehadfnkbaaGreatDoorJourneymanLinesM13
import Derived.Test.YtbefoehadfnkbaaGreatDoorJourneymanLinesM24
import Derived.Test.YtbefoehadfnkbaaGreatDoorJourneymanLinesM25
import Derived.Test.YtbefoehadfnkbaaGreatDoorRows
import Derived.Lay
import Derived.Handed
import Derived.LaidHandle
import Derived.Lib.LaidTab
set_option linter.all false
set_option maxRecDepth 10000
open Nat renaming reduceBEq→qA,reduceAdd→qB,reduceSub→qC,reduceEqDiff→qD,reduceLT→qE,reduceLeDiff→qF
namespace Go.Tel
open Go.Am
theorem S9 {base sz:Nat}{zs:List DV}{is:List Nat}{args:List PV}{ds xs:List DV}{M:Mem}{K:PV→Mem→Prop}{KP:DV→Mem→Prop}(h1:dD M args=some ds)(h2:zU sz zs is (ds.map DV.strip)=some xs)(h4:M.frz args=M)(hK:K (.d (.slice true xs)) M):aj C base (.iH sz zs is) args M K KP:=by
 simp only[aj,h1,h2,h4]
 exact hK
theorem afa (a b:Int):Pure C F.KZ [.int .i64 a, .int .i64 b] (.d (.agg [.int .i64 a, .int .i64 b])) []:=by
 refine ah mixed rfl acE ?_
 simp only[UJ,U7,mQ,RN,qA,qB,qC,qD,qE,qF]
theorem P_k:Pure C F.ajM [] (.d (.agg [.slice true (aO.pc.links.map Lk.dv), .slice true (aO.pc.hands.map ay)])) []:=by
 refine ah mixed rfl aj7 ?_
 simp only[acZ,ada,mQ,RN,qA,qB,qC,qD,qE,qF]
 refine au rfl rfl (afa 10 20) ?_
 (try simp only[RN,qA,qB,qC,qD,qE,qF])
 refine au rfl rfl (afa 12 18) ?_
 (try simp only[RN,qA,qB,qC,qD,qE,qF])
 refine au rfl rfl (afa 15 10) ?_
 (try simp only[RN,qA,qB,qC,qD,qE,qF])
 refine S9 rfl rfl rfl ?_
 (try simp only[RN,qA,qB,qC,qD,qE,qF])
 refine S9 rfl rfl rfl ?_
 simp only[mQ,RN,qA,qB,qC,qD,qE,qF]
 rfl
theorem O_k:Pure C F.ajL [] (.d (.agg [.int .i64 0, .slice true [.int .i64 4]])) []:=by
 refine ah mixed rfl aj6 ?_
 simp only[acY,ac9,mQ,RN,qA,qB,qC,qD,qE,qF]
 exact⟨rfl,rfl⟩
theorem M_k:Pure C F.ajK [] (.d (.agg [.int .i64 59, .int .i64 2, .int .i64 0])) []:=by
 refine ah mixed rfl aj3 ?_
 simp only[acX,ac8,mQ,RN,qA,qB,qC,qD,qE,qF]
theorem D_k:Pure C F.ajN [] (.d (.agg [.int .i64 40, .slice true [.int .i64 15, .int .i64 21, .int .i64 27]])) []:=by
 refine ah mixed rfl aj8 ?_
 simp only[ac0,adb,RN,qA,qB,qC,qD,qE,qF]
 refine S9 rfl rfl rfl ?_
 simp only[mQ,RN,qA,qB,qC,qD,qE,qF]
 rfl
def amT:DV:= .agg [.slice true (aO.pc.links.map Lk.dv), .slice true (aO.pc.hands.map ay), .slice true (aO.tg.map Fr.dv), .int .i64 100, .int .i64 40, .slice true (aO.dvd.cir.map ay), .int .i64 0, .slice true (aO.cal.cy.map ay), .int .i64 59, .int .i64 2, .int .i64 0, .slice true (aO.fs.map Fs.dv), .int .i64 1, .int .i64 3, .int .i64 6, .int .i64 4, .int .i64 10]
theorem ak6:Pure C F.SN [] (.d amT) []:=by
 refine ah mixed rfl aaE ?_
 simp only[QU,Rl,RN,qA,qB,qC,qD,qE,qF]
 refine au rfl rfl P_k ?_
 (try simp only[RN,qA,qB,qC,qD,qE,qF])
 refine S9 rfl rfl rfl ?_
 (try simp only[RN,qA,qB,qC,qD,qE,qF])
 refine au rfl rfl D_k ?_
 (try simp only[RN,qA,qB,qC,qD,qE,qF])
 refine au rfl rfl O_k ?_
 (try simp only[RN,qA,qB,qC,qD,qE,qF])
 refine au rfl rfl M_k ?_
 (try simp only[RN,qA,qB,qC,qD,qE,qF])
 refine S9 rfl rfl rfl ?_
 simp only[mQ,RN,qA,qB,qC,qD,qE,qF]
 rfl
theorem aaZ:aO.Small:=⟨by decide,by decide,by decide,by decide,by decide⟩
theorem aap:Pure C F.GZ [] (.d (.bool true)) []:=by
 refine ah mixed rfl aaF ?_
 simp only[QV,Rn,RN,qA,qB,qC,qD,qE,qF]
 refine au rfl rfl ak6 ?_
 (try simp only[RN,qA,qB,qC,qD,qE,qF])
 refine au rfl rfl (agt aO aaZ (by kernel_rfl) (by decide:aaQ.size≤1500) (by kernel_rfl) apX) ?_
 have z1:((0:Int)==0)=true:=rfl
 have z2:(Qe.toList==Qe.toList)=true:=beq_self_eq_true _
 have ha:(.str ⟨#[49,32,51,32,51,32,52,10,110,111,116,101,100,10,101,114,114,111,114,32,55,10,49,32,49,50,32,49,53,10,101,114,114,111,114,32,55,10,101,114,114,111,114,32,55,10,101,114,114,111,114,32,55,10,110,111,116,101,100,10,49,53,10,110,111,116,101,100,10,49,56,10,53,55,10,101,114,114,111,114,32,55,10,110,111,116,101,100,10,110,111,116,104,105,110,103,10,53,55,10,57,55,10,49,48,56,10,51,53,54,10,101,114,114,111,114,32,55,10,101,114,114,111,114,32,55,10,110,111,116,101,100,10,101,114,114,111,114,32,55,10,49,48,10,50,32,57,10,51,52,56,10,50,32,49,32,51,10,101,114,114,111,114,32,55,10,110,111,116,101,100,10,110,111,116,101,100,10,48,10,48,32,50,32,53,10,48,32,49,32,50,10,101,114,114,111,114,32,55,10,101,114,114,111,114,32,50,10,101,114,114,111,114,32,52,10]⟩:DV)= .str Qe:=rfl
 simp only[z1,gX,NH,ha,z2,RN,qA,qB,qC,qD,qE,qF]
end Go.Tel
namespace Go.Tel
open Go.Am Go.Lib
theorem alb {a b:ByteArray}(h:a.data.toList=b.data.toList):a=b:=by
 cases a with|mk x=>cases b with|mk y=>
 simp only at h
 rw[Array.toList_inj.1 h]
theorem Du (a b:ByteArray):(a++b).data.toList=a.data.toList++b.data.toList:=by
 rw[ByteArray.data_append,Array.toList_append]
theorem aaz {xs ys:List ByteArray}(h:xs.map (·.data.toList)=ys.map (·.data.toList)):xs=ys:=by
 induction xs generalizing ys with
 |nil=>cases ys with
  |nil=>rfl
  |cons y ys=>cases h
 |cons x xs ih=>cases ys with
  |nil=>cases h
  |cons y ys=>
   simp only[List.map_cons,List.cons.injEq]at h
   rw[alb h.1,ih h.2]
def spl (c:UInt8):List UInt8→List (List UInt8)
 | []=>[[]]
 |b::l=>if b=c then[]::spl c l else match spl c l with
  |x::r=>(b::x)::r
  | []=>[[b]]
theorem aaW {c:UInt8}:∀{x:List UInt8} {l:List UInt8},c∉x→spl c (x++c::l)=x::spl c l
 | [],l,_=>by rw[List.nil_append,spl,if_pos rfl]
 |b::x,l,h=>by
  have h1:b≠c:=fun e=>h (by rw[e];exact List.mem_cons_self)
  rw[List.cons_append,spl,if_neg h1,aaW fun hh=>h (List.mem_cons_of_mem _ hh)]
theorem Ye {c:UInt8}:∀{x:List UInt8},c∉x→spl c x=[x]
 | [],_=>rfl
 |b::x,h=>by
  have h1:b≠c:=fun e=>h (by rw[e];exact List.mem_cons_self)
  rw[spl,if_neg h1,Ye fun hh=>h (List.mem_cons_of_mem _ hh)]
theorem Y5 (c:UInt8):∀l:List UInt8,c∉l∨∃x r,l=x++c::r∧c∉x
 | []=> .inl (by simp)
 |b::l=>by
  by_cases h:b=c
  ·right;exact⟨[],l,by rw[h];rfl,by simp⟩
  ·rcases Y5 c l with h1|⟨x,r,rfl,h2⟩
   ·left;simp only[List.mem_cons,not_or];exact⟨fun e=>h e.symm,h1⟩
   ·right;exact⟨b::x,r,rfl,by simp only[List.mem_cons,not_or];exact⟨fun e=>h e.symm,h2⟩⟩
theorem ajB {c:UInt8}:∀{x r:List UInt8},c∉x→indexByte (x++c::r) c=x.length
 | [],r,_=>by rw[List.nil_append,indexByte,beq_self_eq_true,if_pos rfl];rfl
 |b::x,r,h=>by
  have h1:(b==c)=false:=beq_eq_false_iff_ne.2 fun e=>h (by rw[e];exact List.mem_cons_self)
  have ih:=ajB (r:=r) fun hh=>h (List.mem_cons_of_mem b hh)
  have h2:(((x.length:Nat):Int)== -1)=false:=beq_eq_false_iff_ne.2 (by omega)
  rw[List.cons_append,indexByte,h1,ih,h2]
  simp only[Bool.false_eq_true,if_false,List.length_cons]
  omega
theorem Yf (c:UInt8):∀(n:Nat) (l:List UInt8),l.length≤n→splitK [c] 0 (l.count c) l=spl c l
 |n,l,hn=>by
  rcases Y5 c l with h|⟨x,r,rfl,h⟩
  ·rw[List.count_eq_zero.2 h,splitK,Ye h]
  ·have hc:(x++c::r).count c=r.count c+1:=by rw[List.count_append,List.count_eq_zero.2 h,List.count_cons_self];omega
   have hi:index (x++c::r) [c]=(x.length:Int):=by rw[index_one,ajB h]
   have hm:¬(index (x++c::r) [c]== -1)=true:=by rw[hi,beq_iff_eq];omega
   rw[hc,splitK,if_neg hm,hi,aaW h,Int.toNat_natCast,Nat.add_zero]
   have e1:(x++c::r).take x.length=x:=by rw[List.take_left]
   have e2:(x++c::r).drop (x.length+ [c].length)=r:=by
    rw[List.length_singleton,←List.drop_drop,List.drop_left];rfl
   rw[e1,e2]
   cases n with
   |zero=>simp at hn
   |succ n=>rw[Yf c n r (by simp at hn;omega)]
theorem adr (s:ByteArray)(c:UInt8):(jQ s c).map (·.data.toList)=spl c s.data.toList:=by
 rw[jQ,splitB_data]
 have h:countB s ⟨#[c]⟩=s.data.toList.count c:=count_one c _
 rw[h]
 exact Yf c _ _ (Nat.le_refl _)
theorem ZH {α:Type}{c:UInt8}{f:α→List UInt8}:∀{ns:List α} {w:List UInt8},c∉w→(∀n∈ns,c∉f n)→spl c (w++(ns.map fun n=>c::f n).flatten)=w::ns.map f
 | [],w,hw,_=>by simp[Ye hw]
 |n::ns,w,hw,h=>by
  have e:w++((n::ns).map fun n=>c::f n).flatten=w++c::(f n++(ns.map fun n=>c::f n).flatten):=by simp
  rw[e,aaW hw,ZH (h n List.mem_cons_self) fun m hm=>h m (List.mem_cons_of_mem _ hm)];rfl
theorem WU (n:Nat):(eH (n:Int)).data.toList=decDigits n:=by
 rw[eH,itoa,if_neg (by omega),Int.toNat_natCast]
theorem VG {d:Nat}(h:d<10):(UInt8.ofNat (48+d)).toNat=48+d:=by
 have:48+d<256:=by omega
 simp[UInt8.toNat_ofNat];omega
theorem ag7 {n:Nat}(h:n<10):decDigits n=[UInt8.ofNat (48+n)]:=by rw[decDigits,dif_pos h]
theorem ai1 {n:Nat}(h:¬n<10):decDigits n=decDigits (n / 10)++ [UInt8.ofNat (48+n % 10)]:=by rw[decDigits,dif_neg h]
theorem aac:∀(k n:Nat),n≤k→∀b∈decDigits n,48≤b.toNat∧b.toNat≤57
 |k,n,hk,b,hb=>by
  by_cases h:n<10
  ·rw[ag7 h,List.mem_singleton]at hb
   rw[hb,VG h];omega
  ·rw[ai1 h]at hb
   rcases List.mem_append.1 hb with hb|hb
   ·cases k with
    |zero=>omega
    |succ k=>exact aac k (n / 10) (by omega) b hb
   ·rw[List.mem_singleton.1 hb,VG (Nat.mod_lt _ (by decide))]
    have:n % 10<10:=Nat.mod_lt _ (by decide)
    omega
theorem al6 {n:Int}(h:0≤n){c:UInt8}(hc:c.toNat<48):c∉(eH n).data.toList:=fun hh=>by
 obtain⟨m,rfl⟩:=Int.eq_ofNat_of_zero_le h
 rw[WU]at hh
 have:=aac m m (Nat.le_refl _) c hh
 omega
theorem aad:∀(k n:Nat),n<10 ^ (k+1)→(decDigits n).length≤k+1∧1≤(decDigits n).length
 |0,n,h=>by rw[ag7 (by omega)];simp
 |k+1,n,h=>by
  by_cases h1:n<10
  ·rw[ag7 h1];simp
  ·have:=aad k (n / 10) (by rw[Nat.pow_succ]at h;omega)
   rw[ai1 h1,List.length_append,List.length_singleton];omega
theorem ahr (w:ByteArray)(i:Nat):w.data.getD i 0=w.data.toList.getD i 0:=by
 rw[Array.getD_eq_getD_getElem?,←Array.getElem?_toList,List.getD_eq_getElem?_getD]
theorem Xd (w:ByteArray)(hs:w.size≤4):∀(l:List UInt8) (pos:Nat) (n:Int),w.data.toList.drop pos=l→(∀b∈l,48≤b.toNat∧b.toNat≤57)→UC w l.length pos n=some (l.foldl (fun n b=>10*n+((b.toNat:Int) - 48)) n)
 | [],_,_,_,_=>rfl
 |b::l,pos,n,h,hd=>by
  have hp:pos<w.data.toList.length:=by
   refine Nat.lt_of_not_le fun hh=> ?_
   rw[List.drop_of_length_le hh]at h;cases h
  have h2:=List.drop_eq_getElem_cons hp
  rw[h]at h2
  obtain⟨hb,ht⟩:=List.cons.inj h2
  have hg:w.data.getD pos 0=b:=by rw[ahr,List.getD_eq_getElem?_getD,List.getElem?_eq_getElem hp,hb];rfl
  have hdb:=hd b List.mem_cons_self
  rw[List.length_cons,UC,hg,if_pos ⟨hdb.1,hdb.2,hs⟩,Xd w hs l (pos+1) _ ht.symm fun x hx=>hd x (List.mem_cons_of_mem _ hx)]
  rfl
theorem afO:∀(k n:Nat),n≤k→(decDigits n).foldl (fun n b=>10*n+((b.toNat:Int) - 48)) 0=(n:Int)
 |k,n,hk=>by
  by_cases h:n<10
  ·rw[ag7 h]
   simp only[List.foldl_cons,List.foldl_nil,VG h];omega
  ·cases k with
   |zero=>omega
   |succ k=>
    rw[ai1 h,List.foldl_append,afO k (n / 10) (by omega)]
    have:n % 10<10:=Nat.mod_lt _ (by decide)
    simp only[List.foldl_cons,List.foldl_nil,VG this];omega
theorem acu {n:Int}(h:0≤n∧n≤9999):zK (eH n)=some n:=by
 obtain⟨m,rfl⟩:=Int.eq_ofNat_of_zero_le h.1
 have hd:=WU m
 have hl:=aad 3 m (by omega)
 have hsz:(eH (m:Int)).size=(decDigits m).length:=by rw[←size_data,hd]
 have hg:=Xd (eH (m:Int)) (by omega) (decDigits m) 0 0 (by rw[List.drop_zero,hd]) (aac m m (Nat.le_refl _))
 rw[afO m m (Nat.le_refl _)]at hg
 rw[zK,hsz,hg]
 simp only
 rw[if_pos ⟨by omega,trivial⟩]
theorem UA:∀(ns acc:List Int),(∀n∈ns,0≤n∧n≤9999)→F6 (ns.map eH) acc=some (acc++ns)
 | [],acc,_=>by simp[F6]
 |n::ns,acc,h=>by
  rw[List.map_cons,F6,acu (h n List.mem_cons_self)]
  simp only
  rw[UA ns _ fun m hm=>h m (List.mem_cons_of_mem _ hm),List.append_assoc];rfl
theorem ab9 (n:Int)(ns:List Int):(Nk (n::ns)).data.toList=(eH n).data.toList++(ns.map fun n=>32::(eH n).data.toList).flatten:=by
 show(List.toArray (join ((List.map eH (n::ns)).map (·.data.toList)) [32])).toList=_
 rw[List.map_cons,List.map_cons,join_cons,joinTail]
 simp[List.map_map,Function.comp_def]
theorem SQ {x:En}(h:x.ns≠[]):x.line.data.toList=(fwE x.kind).data.toList++(x.ns.map fun n=>32::(eH n).data.toList).flatten:=by
 obtain⟨n,ns,e⟩:∃n ns,x.ns=n::ns:=by
  cases hn:x.ns with
  |nil=>exact absurd hn h
  |cons n ns=>exact⟨n,ns,rfl⟩
 rw[En.line,Du,Du,e,ab9]
 simp
theorem apm {k:Int}(hk:1≤k∧k≤6):(32:UInt8)∉(fwE k).data.toList:=by
 obtain rfl|rfl|rfl|rfl|rfl|rfl:=V4 hk
 all_goals decide
theorem aob {k:Int}(hk:1≤k∧k≤6):nG (wU (fwE k) (o7 k)) fmL 0=k - 1:=by
 obtain rfl|rfl|rfl|rfl|rfl|rfl:=V4 hk
 all_goals kernel_rfl
theorem IU {x:En}(h:x.formed=true):(1≤x.kind∧x.kind≤6)∧x.ns.length=o7 x.kind∧1≤x.ns.length:=by
 have hm:∀k,1≤o7 k:=by
  intro k;unfold o7;split
  ·omega
  ·split<;>omega
 simp only[En.formed,Bool.and_eq_true,inR,decide_eq_true_eq]at h
 have:=hm x.kind
 exact⟨by omega,h.1.2,by omega⟩
theorem aft {x:En}(h:x.formed=true):jQ x.line 32=fwE x.kind::x.ns.map eH:=by
 obtain⟨h1,h2,h3⟩:=IU h
 have hb:=GY h
 refine aaz ?_
 rw[adr,SQ (by intro e;rw[e]at h3;simp at h3),ZH (apm h1) fun n hn=>al6 (hb n hn).1 (by decide)]
 simp
theorem aic {x:En}(h:x.formed=true):CU x.line fmL=some (x.kind - 1,x.ns):=by
 obtain⟨h1,h2,h3⟩:=IU h
 have hw:=aft h
 have e1:(jQ x.line 32).getD 0 default=fwE x.kind:=by rw[hw];rfl
 have e2:(jQ x.line 32).length - 1=o7 x.kind:=by rw[hw];simp[h2]
 have e3:(jQ x.line 32).drop 1=x.ns.map eH:=by rw[hw];rfl
 rw[CU,e1,e2,e3,aob h1,UA x.ns [] (GY h),if_pos (by omega)];rfl
theorem Zd {x:En}(h:x.formed=true):x.line.size≤30:=by
 obtain⟨h1,h2,h3⟩:=IU h
 have hb:=GY h
 have hm:=aax x.kind
 have hfl:∀ns:List Int,(∀n∈ns,0≤n∧n≤9999)→(ns.map fun n=>32::(eH n).data.toList).flatten.length≤5*ns.length:=by
  intro ns
  induction ns with
  |nil=>intro _;simp
  |cons n ns ih=>
   intro hh
   obtain⟨m,hm⟩:=Int.eq_ofNat_of_zero_le (hh n List.mem_cons_self).1
   have h4:=(hh n List.mem_cons_self).2
   have h5:=aad 3 m (by omega)
   have:=ih fun y hy=>hh y (List.mem_cons_of_mem _ hy)
   rw[List.map_cons,List.flatten_cons,List.length_append,List.length_cons,hm,WU,List.length_cons]
   omega
 have h4:=hfl x.ns hb
 have h5:=abO x.kind
 rw[←size_data,SQ (by intro e;rw[e]at h3;simp at h3),List.length_append,size_data]
 omega
theorem afb {x:En}(h:x.formed=true):dP x.line=(x,0):=by
 have:=Zd h
 rw[dP,if_neg (by omega),aic h]
 simp only[Prod.mk.injEq,and_true]
 cases x
 simp only[En.mk.injEq,and_true]
 omega
def UN:aB:=(.seq (rg [mk 4 (.c (.bool false))] 0 [0,1]) (.seq (rg [mv 5 0,mv 6 1,ob 7 (.ak F.XB) 5 6,mv 4 7] 0 [4]) .ret))
def Vb:List aJ:=[.tmp 4]
theorem acI:aC C.P F.XD 2 UN Vb=true:=by kernel_rfl
def Ov:aB:=(.seq (.region false [oa 1 (.box 0) 0,mk 2 (.c (.bool false))] 1 [1] [1]) (.seq (.seq (.region true [of 4 (.fld 1) [.t 1] 1,of 5 (.load false 1) [.t 4] 1,of 6 .len [.t 5] 1,of 7 (.fld 0) [.t 1] 1,of 8 (.load false 1) [.t 7] 1,oa 9 (.ak F.XE) 8,ob 10 (.bin .neq) 6 9] 0 [1,10] []) (.cond (.t 10) (.seq (rg [mk 2 (.c (.bool false))] 0 [2]) .ret) .skip)) (.seq (.seq (rg [mk 3 (kI 0)] 0 [1,3]) (.block 0 (.loop (.seq (.seq (rg [mv 11 3,oa 12 (.fld 1) 1,lo 13 12,oa 14 .len 13,ob 15 (.bin .lss) 11 14] 0 [1,3,15]) (.cond (.t 15) .skip (.exit 0))) (.seq (.block 1 (.seq (rg [oa 18 (.fld 1) 1,lo 19 18,mv 20 3,ob 21 (.bC 1) 19 20,lo 22 21,on 23 (.ak F.afh) [.t 22,kI 0,kI 9999],oa 24 (.un .not) 23] 0 [1,3,24]) (.cond (.t 24) (.seq (rg [mk 2 (.c (.bool false))] 0 [2]) .ret) .skip))) (rg [mv 16 3,oc 17 (.bin .add) 16 (kI 1),mv 3 17] 0 [1,3])))))) (.seq (rg [mk 2 (.c (.bool true))] 0 [2]) .ret))))
def OI:List aJ:=[.tmp 2]
theorem YD:aC C.P F.PS 1 Ov OI=true:=by kernel_rfl
def UM:aB:=(.seq (.region false [oa 1 (.box 0) 0,mk 2 (.c (.str ⟨#[]⟩))] 1 [1] [1]) (.seq (.region true [of 3 (.fld 0) [.t 1] 1,of 4 (.load false 1) [.t 3] 1,oa 5 (.ak F.XF) 4,of 6 (.fld 1) [.t 1] 1,of 7 (.load false 1) [.t 6] 1,oa 8 (.ak F.TP) 7,ob 9 (.bin .add) 5 8,mv 2 9] 0 [2] []) .ret))
def Va:List aJ:=[.tmp 2]
theorem acH:aC C.P F.XC 1 UM Va=true:=by kernel_rfl
def Ec:aB:=(.seq (.region false [oa 2 (.box 0) 0,oa 3 (.box 1) 1,mk 4 (.c (.bool false))] 2 [2,3] [2,3]) (.seq (rg [oa 5 (.fld 0) 2,lo 6 5,oa 7 (.fld 0) 3,lo 8 7,ob 9 (.bin .eql) 6 8,mv 10 9,ot 11 (.fld 1) [.t 2] 10 0,ot 12 (.load false 1) [.t 11] 10 0,ot 13 (.fld 1) [.t 3] 10 0,ot 14 (.load false 1) [.t 13] 10 0,ot 15 (.ak F.XD) [.t 12,.t 14] 10 0,on 16 .pick [.t 10,.t 15,.c (.bool false)],mv 4 16] 0 [4]) .ret))
def Ez:List aJ:=[.tmp 4]
theorem Pz:aC C.P F.Bh 2 Ec Ez=true:=by kernel_rfl
def UO:aB:=(.seq (rg [mk 2 (kI 0)] 0 [0]) (.seq (.seq (rg [mv 3 0] 0 [3]) (.block 0 (.seq (.seq (rg [oc 5 (.bin .eql) 3 (kI 1),mv 4 5] 0 [3,4]) (.cond (.t 4) .skip (.seq (rg [oc 6 (.bin .eql) 3 (kI 5),mv 4 6] 0 [3,4]) (.cond (.t 4) .skip (rg [oc 7 (.bin .eql) 3 (kI 6),mv 4 7] 0 [3,4]))))) (.cond (.t 4) (.seq (rg [mk 2 (kI 1)] 0 [2]) .ret) (.seq (rg [oc 9 (.bin .eql) 3 (kI 4),mv 8 9] 0 [3,8]) (.cond (.t 8) (.seq (rg [mk 2 (kI 2)] 0 [2]) .ret) (.seq (.seq (rg [oc 11 (.bin .eql) 3 (kI 2),mv 10 11] 0 [3,10]) (.cond (.t 10) .skip (rg [oc 12 (.bin .eql) 3 (kI 3),mv 10 12] 0 [10]))) (.cond (.t 10) (.seq (rg [mk 2 (kI 3)] 0 [2]) .ret) .skip)))))))) (.seq (rg [mk 2 (kI (-1))] 0 [2]) .ret)))
def Vd:List aJ:=[.tmp 2]
theorem acJ:aC C.P F.XE 1 UO Vd=true:=by kernel_rfl
def Zo:aB:=(.seq (rg [mk 6 (.c (.bool false))] 0 [0,1,2]) (.seq (rg [mv 7 0,mv 8 1,ob 9 (.bin .geq) 7 8,mv 10 9,ot 11 .mov [.t 0] 10 0,ot 12 .mov [.t 2] 10 0,ot 13 (.bin .leq) [.t 11,.t 12] 10 0,on 14 .pick [.t 10,.t 13,.c (.bool false)],mv 6 14] 0 [6]) .ret))
def ZC:List aJ:=[.tmp 6]
theorem ahL:aC C.P F.afh 3 Zo ZC=true:=by kernel_rfl
def UQ:aB:=(.seq (rg [mk 2 (.c (.str ⟨#[]⟩))] 0 [0]) (.seq (rg [on 3 (.iH 1 [.str ⟨#[]⟩,.str ⟨#[]⟩,.str ⟨#[]⟩,.str ⟨#[]⟩,.str ⟨#[]⟩,.str ⟨#[]⟩,.str ⟨#[]⟩] [0,1,2,3,4,5,6]) [.c (.str ⟨#[]⟩),.c (.str ⟨#[99,117,116]⟩),.c (.str ⟨#[99,104,97,110,103,101]⟩),.c (.str ⟨#[111,114,100,101,114]⟩),.c (.str ⟨#[115,101,114,118,101]⟩),.c (.str ⟨#[115,101,116]⟩),.c (.str ⟨#[115,116,114,105,107,101]⟩)],mv 4 0,ob 5 (.bC 1) 3 4,lo 6 5,mv 2 6] 0 [2]) .ret))
def Ve:List aJ:=[.tmp 2]
theorem acK:aC C.P F.XF 1 UQ Ve=true:=by kernel_rfl
def QW:aB:=(.seq (rg [mk 2 (.c (.str ⟨#[]⟩))] 0 [0]) (.seq (rg [mk 3 (.c (.str ⟨#[]⟩))] 0 [0,3]) (.seq (.seq (rg [mk 4 (kI 0)] 0 [0,3,4]) (.block 0 (.loop (.seq (.seq (rg [mv 5 4,mv 6 0,oa 7 .len 6,ob 8 (.bin .lss) 5 7] 0 [0,3,4,8]) (.cond (.t 8) .skip (.exit 0))) (.seq (.block 1 (.seq (rg [mv 11 0,mv 12 4,ob 13 (.bC 1) 11 12,lo 14 13,oc 15 (.bin .lss) 14 (kI 0)] 0 [0,3,4,15]) (.cond (.t 15) (rg [mv 16 3,oc 17 (.bin .add) 16 (.c (.str ⟨#[32,45]⟩)),mv 18 0,mv 19 4,ob 20 (.bC 1) 18 19,lo 21 20,oa 22 (.un .neg) 21,oa 23 (.ak F.Aq) 22,ob 24 (.bin .add) 17 23,mv 3 24] 0 [0,3,4]) (rg [mv 25 3,oc 26 (.bin .add) 25 (.c (.str ⟨#[32]⟩)),mv 27 0,mv 28 4,ob 29 (.bC 1) 27 28,lo 30 29,oa 31 (.ak F.Aq) 30,ob 32 (.bin .add) 26 31,mv 3 32] 0 [0,3,4])))) (rg [mv 9 4,oc 10 (.bin .add) 9 (kI 1),mv 4 10] 0 [0,3,4])))))) (.seq (rg [mv 33 3,mv 2 33] 0 [2]) .ret))))
def Ro:List aJ:=[.tmp 2]
theorem aaG:aC C.P F.TP 1 QW Ro=true:=by kernel_rfl
def LM:aB:=(.seq (rg [mk 2 (.c (.str ⟨#[]⟩))] 0 [0]) (.seq (rg [mv 4 0,oc 5 (.bin .rem) 4 (kI 10),on 6 (.bin .add) [kI 48,.t 5],oa 7 (.conv .u8) 6,oa 8 (.iH 1 [.int .u8 0] [0]) 7,oa 9 .b2s 8,mv 3 9] 0 [0,3]) (.seq (.block 0 (.loop (.seq (.seq (rg [mv 10 0,oc 11 (.bin .geq) 10 (kI 10)] 0 [0,3,11]) (.cond (.t 11) .skip (.exit 0))) (.block 1 (.seq (rg [mv 12 0,oc 13 (.bin .quo) 12 (kI 10),mv 0 13] 0 [0,3]) (rg [mv 14 0,oc 15 (.bin .rem) 14 (kI 10),on 16 (.bin .add) [kI 48,.t 15],oa 17 (.conv .u8) 16,oa 18 (.iH 1 [.int .u8 0] [0]) 17,oa 19 .b2s 18,mv 20 3,ob 21 (.bin .add) 19 20,mv 3 21] 0 [0,3])))))) (.seq (rg [mv 22 3,mv 2 22] 0 [2]) .ret))))
def MB:List aJ:=[.tmp 2]
theorem Xj:aC C.P F.Aq 1 LM MB=true:=by kernel_rfl
def UL:aB:=(.seq (rg [mk 4 (.c (.bool false))] 0 [0,1]) (.seq (.seq (rg [mv 6 0,oa 7 .len 6,mv 8 1,oa 9 .len 8,ob 10 (.bin .neq) 7 9] 0 [0,1,10]) (.cond (.t 10) (.seq (rg [mk 4 (.c (.bool false))] 0 [4]) .ret) .skip)) (.seq (.seq (rg [mk 5 (kI 0)] 0 [0,1,5]) (.block 0 (.loop (.seq (.seq (rg [mv 11 5,mv 12 0,oa 13 .len 12,ob 14 (.bin .lss) 11 13] 0 [0,1,5,14]) (.cond (.t 14) .skip (.exit 0))) (.seq (.block 1 (.seq (.region true [mv 17 0,mv 18 5,of 19 (.bC 1) [.t 17,.t 18] 1,of 20 (.load false 1) [.t 19] 1,mv 21 1,mv 22 5,of 23 (.bC 1) [.t 21,.t 22] 1,of 24 (.load false 1) [.t 23] 1,ob 25 (.bin .neq) 20 24] 0 [0,1,5,25] []) (.cond (.t 25) (.seq (rg [mk 4 (.c (.bool false))] 0 [4]) .ret) .skip))) (rg [mv 15 5,oc 16 (.bin .add) 15 (kI 1),mv 5 16] 0 [0,1,5])))))) (.seq (rg [mk 4 (.c (.bool true))] 0 [4]) .ret))))
def U9:List aJ:=[.tmp 4]
theorem acG:aC C.P F.XB 2 UL U9=true:=by kernel_rfl
end Go.Tel
namespace Go.Am
theorem ajb {C:Ctx}{base:Nat}{M:Mem}{K:PV→Mem→Prop}{KP:DV→Mem→Prop}{xs:List DV}{l:List UInt8}{ex:Bool}(h:bytesOf xs=some l)(hK:K (.d (.str ⟨l.toArray⟩)) M):aj C base .b2s [.d (.slice ex xs)] M K KP:=by
 simp only[aj,Dv,h]
 exact hK
end Go.Am
namespace Go.Tel
open Go.Am Go.Lib
theorem ap7 (n l h:Int):Pure C F.afh [.int .i64 n, .int .i64 l, .int .i64 h] (.d (.bool (inR n l h))) []:=by
 refine ah mixed rfl ahL ?_
 simp only[Zo,ZC,RN,qA,qB,qC,qD,qE,qF]
 by_cases h1:n≥l
 ·simp only[h1,RN,qA,qB,qC,qD,qE,qF]
  simp[inR,show l≤n from h1]
 ·simp only[h1,RN,qA,qB,qC,qD,qE,qF]
  simp[inR,show¬l≤n from h1]
def QC (k:Int):Int:=if k=1∨k=5∨k=6 then 1 else if k=4 then 2 else if k=2∨k=3 then 3 else -1
theorem amx (k:Int):Pure C F.XE [.int .i64 k] (.d (.int .i64 (QC k))) []:=by
 refine ah mixed rfl acJ ?_
 simp only[UO,Vd,RN,qA,qB,qC,qD,qE,qF]
 unfold QC
 by_cases h1:k=1
 ·have b1:(k==1)=true:=by simp[h1]
  simp only[b1,RN,qA,qB,qC,qD,qE,qF]
  simp[h1]
 have b1:(k==1)=false:=beq_false_of_ne h1
 simp only[b1,RN,qA,qB,qC,qD,qE,qF]
 by_cases h2:k=5
 ·have b2:(k==5)=true:=by simp[h2]
  simp only[b2,RN,qA,qB,qC,qD,qE,qF]
  simp[h2]
 have b2:(k==5)=false:=beq_false_of_ne h2
 simp only[b2,RN,qA,qB,qC,qD,qE,qF]
 by_cases h3:k=6
 ·have b3:(k==6)=true:=by simp[h3]
  simp only[b3,RN,qA,qB,qC,qD,qE,qF]
  simp[h3]
 have b3:(k==6)=false:=beq_false_of_ne h3
 simp only[b3,RN,qA,qB,qC,qD,qE,qF]
 by_cases h4:k=4
 ·have b4:(k==4)=true:=by simp[h4]
  simp only[b4,RN,qA,qB,qC,qD,qE,qF]
  simp[h4]
 have b4:(k==4)=false:=beq_false_of_ne h4
 simp only[b4,RN,qA,qB,qC,qD,qE,qF]
 by_cases h5:k=2
 ·have b5:(k==2)=true:=by simp[h5]
  simp only[b5,RN,qA,qB,qC,qD,qE,qF]
  simp[h5]
 have b5:(k==2)=false:=beq_false_of_ne h5
 simp only[b5,RN,qA,qB,qC,qD,qE,qF]
 by_cases h6:k=3
 ·have b6:(k==3)=true:=by simp[h6]
  simp only[b6,RN,qA,qB,qC,qD,qE,qF]
  simp[h6]
 have b6:(k==3)=false:=beq_false_of_ne h6
 simp only[b6,RN,qA,qB,qC,qD,qE,qF]
 simp[h1,h2,h3,h4,h5,h6]
theorem aeD (x:En):x.formed=(decide ((x.ns.length:Int)=QC x.kind)&&x.ns.all fun n=>inR n 0 9999):=by
 unfold En.formed
 congr 1
 by_cases h:1≤x.kind∧x.kind≤6
 ·rw[show inR x.kind 1 6=true by simp[inR,h],Bool.true_and]
  have:QC x.kind=(o7 x.kind:Int):=by
   rcases V4 h with e|e|e|e|e|e<;>rw[e]<;>rfl
  rw[this]
  by_cases hl:x.ns.length=o7 x.kind
  ·rw[decide_eq_true hl,decide_eq_true (by omega)]
  ·rw[decide_eq_false hl,decide_eq_false (by omega)]
 ·rw[show inR x.kind 1 6=false by simp only[inR,Bool.and_eq_false_iff,decide_eq_false_iff_not];omega,Bool.false_and]
  have:QC x.kind= -1:=by
   unfold QC
   rw[if_neg (by omega),if_neg (by omega),if_neg (by omega)]
  rw[this,decide_eq_false (by omega)]
theorem ahW (x:En)(hx:x.ns.length≤1000000):Pure C F.PS [x.dv] (.d (.bool x.formed)) []:=by
 refine ah mixed rfl YD ?_
 rw[wO,aeD]
 simp only[Ov,OI,List.length_map,RN,qA,qB,qC,qD,qE,qF]
 refine au rfl rfl (amx _) ?_
 by_cases hl:(x.ns.length:Int)=QC x.kind
 case neg=>
  have b:((x.ns.length:Int) !=QC x.kind)=true:=by simp[hl]
  simp only[b,RN,qA,qB,qC,qD,qE,qF]
  simp[hl]
 have b:((x.ns.length:Int) !=QC x.kind)=false:=by simp[hl]
 simp only[b,RN,qA,qB,qC,qD,qE,qF]
 rw[decide_eq_true hl,Bool.true_and]
 refine aT x.ns.length (fun i (_:Unit)=>⟨[(1, .d (.aX [.int .i64 x.kind, .slice false (x.ns.map ay)])),(3, .d (.int .i64 i))],⟨[some [.d (.int .i64 x.kind), .d (.slice false (x.ns.map ay))]],[0],[]⟩⟩)
  (fun i _=>(x.ns.all fun n=>inR n 0 9999)=((x.ns.drop i).all fun n=>inR n 0 9999)) 0 () (Nat.zero_le _) rfl rfl (fun i _ g1 hix=> ?_) (fun _ hix=> ?_)
 ·obtain⟨g2,g3,g6⟩:=rng g1 hx
  rw[drop_cons g1,List.all_cons]at hix
  simp only[g2,g3,g1,getD_map,aV,Int.toNat_natCast,List.length_map,RN,qA,qB,qC,qD,qE,qF]
  refine au rfl rfl (ap7 _ _ _) ?_
  cases hb:inR (x.ns.getD i default) 0 9999
  ·rw[hb,Bool.false_and]at hix
   simp only[hix,RN,qA,qB,qC,qD,qE,qF]
  ·rw[hb,Bool.true_and]at hix
   simp only[g6,RN,qA,qB,qC,qD,qE,qF]
   exact lI () g1 rfl hix
 ·rw[List.drop_length,List.all_nil]at hix
  simp only[Int.lt_irrefl,List.length_map,hix,RN,qA,qB,qC,qD,qE,qF]
def Yv (d:Nat):ByteArray:=⟨#[UInt8.ofNat (48+d)]⟩
def Oa:Nat→Nat→ByteArray→ByteArray
 |0,_,s=>s
 |k+1,n,s=>if 10≤n then Oa k (n / 10) (Yv (n / 10 % 10)++s)else s
theorem abB:∀(k n:Nat) (s:ByteArray),n≤k→(Oa k n s).data.toList=(if 10≤n then decDigits (n / 10)else[])++s.data.toList
 |0,n,s,h=>by rw[Oa,if_neg (by omega),List.nil_append]
 |k+1,n,s,h=>by
  rw[Oa]
  by_cases h1:10≤n
  ·have hd:(Yv (n / 10 % 10)).data.toList=[UInt8.ofNat (48+n / 10 % 10)]:=rfl
   rw[if_pos h1,if_pos h1,abB k (n / 10) _ (by omega),Du,hd]
   by_cases h2:10≤n / 10
   ·rw[if_pos h2,ai1 (show¬n / 10<10 by omega)];simp
   ·rw[if_neg h2,ag7 (show n / 10<10 by omega),Nat.mod_eq_of_lt (show n / 10<10 by omega)];simp
  ·rw[if_neg h1,if_neg h1,List.nil_append]
theorem alk (n:Nat):Oa n n (Yv (n % 10))=eH n:=by
 refine alb ?_
 rw[WU,abB n n _ (Nat.le_refl _)]
 have hd:(Yv (n % 10)).data.toList=[UInt8.ofNat (48+n % 10)]:=rfl
 rw[hd]
 by_cases h:10≤n
 ·rw[if_pos h,ai1 (show¬n<10 by omega)]
 ·rw[if_neg h,ag7 (show n<10 by omega),Nat.mod_eq_of_lt (show n<10 by omega)];rfl
theorem YZ {d:Nat}(h:d<10):bytesOf [.int .u8 ((48+d:Nat):Int)]=some [UInt8.ofNat (48+d)]:=by
 exact(by decide:∀d<10,bytesOf [.int .u8 ((48+d:Nat):Int)]=some [UInt8.ofNat (48+d)]) d h
theorem akS {n:Nat}:IntKind.u8.wrap (IntKind.i64.wrap (48+((n % 10:Nat):Int)))=((48+n % 10:Nat):Int):=by
 have h:n % 10<10:=Nat.mod_lt _ (by decide)
 generalize n % 10=d at h
 exact(by decide:∀d<10,IntKind.u8.wrap (IntKind.i64.wrap (48+((d:Nat):Int)))=((48+d:Nat):Int)) d h
theorem afi (n:Nat)(hn:n≤1000000000):Pure C F.Aq [.int .i64 n] (.d (.str (eH n))) []:=by
 have t1:∀m:Nat,(m:Int).tmod 10=((m % 10:Nat):Int):=fun m=>(Int.ofNat_tmod m 10).symm
 have t2:∀m:Nat,(m:Int).tdiv 10=((m / 10:Nat):Int):=fun m=>(Int.ofNat_tdiv m 10).symm
 have z:(10:Int)≠0:=by decide
 refine ah mixed rfl Xj ?_
 rw[←alk]
 simp only[LM,MB,t1,z,akS,jZ,DV.strip,jX,RN,qA,qB,qC,qD,qE,qF]
 refine ajb (YZ (Nat.mod_lt _ (by decide))) ?_
 refine qR (fun(q:Nat×Nat×ByteArray)=>⟨[(0, .d (.int .i64 q.2.1)),(3, .d (.str q.2.2))],⟨[],[],[]⟩⟩)
  (fun q=>Oa n n (Yv (n % 10))=Oa q.1 q.2.1 q.2.2∧q.2.1≤q.1∧q.2.2.size+q.1≤n+1) (fun q=>q.1) (n,n,Yv (n % 10)) rfl ⟨rfl,Nat.le_refl _,by simp[Yv,ByteArray.size];omega⟩ (fun q hq=> ?_)
 obtain⟨k,m,t⟩:=q
 obtain⟨q1,q2,q3⟩:=hq
 simp only at q1 q2 q3
 by_cases hm:10≤m
 ·obtain⟨k,rfl⟩:∃k',k=k'+1:=⟨k - 1,by omega⟩
  rw[Oa,if_pos hm]at q1
  have b1:(m:Int)≥10:=by omega
  have w1:IntKind.i64.wrap ((m / 10:Nat):Int)=((m / 10:Nat):Int):=aG (by omega)
  simp only[b1,t1,t2,w1,z,akS,jZ,DV.strip,jX,RN,qA,qB,qC,qD,qE,qF]
  refine ajb (YZ (Nat.mod_lt _ (by decide))) ?_
  have hd:(⟨[UInt8.ofNat (48+m / 10 % 10)].toArray⟩:ByteArray)=Yv (m / 10 % 10):=rfl
  have hd1:(Yv (m / 10 % 10)).size=1:=rfl
  rw[hd]
  simp only[gX,pG,RN,qA,qB,qC,qD,qE,qF]
  refine⟨by omega,?_⟩
  exact aa1 (a:=(k+1,m,t)) (μ:=fun q=>q.1) (k,m / 10,Yv (m / 10 % 10)++t) (Nat.lt_succ_self _) rfl ⟨q1,by simp only;omega,by simp only[ByteArray.size_append];omega⟩ (by simp) (by simp) rfl rfl
 ·have b1:¬(m:Int)≥10:=by omega
  have hg:Oa k m t=t:=by cases k with
   |zero=>rfl
   |succ k=>rw[Oa,if_neg hm]
  simp only[b1,RN,qA,qB,qC,qD,qE,qF]
  rw[q1,hg]
theorem XG {n:Int}(h:0≤n∧n≤1000000000):Pure C F.Aq [.int .i64 n] (.d (.str (eH n))) []:=by
 obtain⟨m,rfl⟩:=Int.eq_ofNat_of_zero_le h.1
 exact afi m (by omega)
def Yo (out:ByteArray):List Int→ByteArray
 | []=>out
 |n::l=>Yo (out++⟨#[32]⟩++eH n) l
theorem YO:∀(ns:List Int) (out:ByteArray),(Yo out ns).data.toList=out.data.toList++(ns.map fun n=>32::(eH n).data.toList).flatten
 | [],out=>by simp[Yo]
 |n::ns,out=>by
  rw[Yo,YO ns,Du,Du];simp
theorem itoa_neg {n:Int}(h:n<0)(s:ByteArray):s++⟨#[32,45]⟩++eH (0 - n)=s++⟨#[32]⟩++eH n:=by
 refine alb ?_
 have e1:(eH n).data.toList=45::decDigits n.natAbs:=by rw[eH,itoa,if_pos h]
 have e2:(eH (0 - n)).data.toList=decDigits n.natAbs:=by
  have:0 - n=((n.natAbs:Nat):Int):=by omega
  rw[this,WU]
 simp only[Du,e1,e2,List.append_assoc]
 rfl
theorem akz (l:List Int)(hl:l.length≤1000)(hb:∀n∈l, -1000000000≤n∧n≤1000000000):Pure C F.TP [.slice false (l.map ay)] (.d (.str (Yo ⟨#[]⟩ l))) []:=by
 refine ah mixed rfl aaG ?_
 simp only[QW,Ro,RN,qA,qB,qC,qD,qE,qF]
 refine aT l.length (fun i (out:ByteArray)=>⟨[(0, .d (.slice false (l.map ay))),(3, .d (.str out)),(4, .d (.int .i64 i))],⟨[],[],[]⟩⟩)
  (fun i out=>Yo ⟨#[]⟩ l=Yo out (l.drop i)∧out.size≤30*i) 0 ⟨#[]⟩ (Nat.zero_le _) rfl ⟨rfl,Nat.le_refl _⟩ (fun i out g1 hix=> ?_) (fun out hix=> ?_)
 ·obtain⟨r1,r2⟩:=hix
  obtain⟨g2,g3,g6⟩:=rng g1 (by omega)
  rw[drop_cons g1,Yo]at r1
  have hn:=hb _ (getD_mem g1)
  have h32:(⟨#[32]⟩:ByteArray).size=1:=rfl
  have h33:(⟨#[32,45]⟩:ByteArray).size=2:=rfl
  obtain⟨n,hne⟩:∃n,n=l.getD i default:=⟨_,rfl⟩
  rw[←hne]at r1 hn
  have i1:=DR (n:=n) ⟨by omega,by omega⟩
  have i2:=DR (n:=0 - n) ⟨by omega,by omega⟩
  have hp:out.size+1+(eH n).size≤30*(i+1):=by omega
  by_cases hs:n<0
  ·have w1:IntKind.i64.wrap (0 - n)=0 - n:=aG (by omega)
   simp only[List.length_map,g2,g3,g1,Int.toNat_natCast,getD_map,aV,←hne,hs,gX,pG,w1,RN,qA,qB,qC,qD,qE,qF]
   refine⟨by omega,?_⟩
   refine au rfl rfl (XG ⟨by omega,by omega⟩) ?_
   simp only[gX,pG,g6,itoa_neg hs,RN,qA,qB,qC,qD,qE,qF]
   refine⟨by rw[ByteArray.size_append];omega,?_⟩
   exact nR (out++⟨#[32]⟩++eH n) g1 rfl ⟨r1,by simp only[ByteArray.size_append];omega⟩ (by simp) (by simp) rfl rfl
  ·simp only[List.length_map,g2,g3,g1,Int.toNat_natCast,getD_map,aV,←hne,hs,gX,pG,RN,qA,qB,qC,qD,qE,qF]
   refine⟨by omega,?_⟩
   refine au rfl rfl (XG ⟨by omega,by omega⟩) ?_
   simp only[gX,pG,g6,RN,qA,qB,qC,qD,qE,qF]
   refine⟨by rw[ByteArray.size_append];omega,?_⟩
   exact nR (out++⟨#[32]⟩++eH n) g1 rfl ⟨r1,by simp only[ByteArray.size_append];omega⟩ (by simp) (by simp) rfl rfl
 ·obtain⟨r1,r2⟩:=hix
  rw[List.drop_length,Yo]at r1
  simp only[Int.lt_irrefl,List.length_map,RN,qA,qB,qC,qD,qE,qF]
  rw[r1]
theorem amI {k:Int}(hk:1≤k∧k≤6):Pure C F.XF [.int .i64 k] (.d (.str (fwE k))) []:=by
 refine ah mixed rfl acK ?_
 simp only[UQ,Ve,RN,qA,qB,qC,qD,qE,qF]
 refine S9 rfl rfl rfl ?_
 rcases V4 hk with rfl|rfl|rfl|rfl|rfl|rfl
 all_goals((try simp only[RN,qA,qB,qC,qD,qE,qF]);exact⟨by decide,by decide,rfl,Nat.le_refl 1,rfl⟩)
theorem ams (x:En)(hx:x.formed=true):Pure C F.XC [x.dv] (.d (.str x.line)) []:=by
 obtain⟨h1,h2,h3⟩:=IU hx
 have hb:=GY hx
 have hf:=IQ hx
 have hls:=Zd hx
 have hl:x.line=fwE x.kind++Yo ⟨#[]⟩ x.ns:=by
  refine alb ?_
  rw[SQ (by intro e;rw[e]at h3;simp at h3),Du,YO];simp
 rw[hl,ByteArray.size_append]at hls
 refine ah mixed rfl acH ?_
 rw[wO,hl]
 simp only[UM,Va,RN,qA,qB,qC,qD,qE,qF]
 refine au rfl rfl (amI h1) ?_
 (try simp only[RN,qA,qB,qC,qD,qE,qF])
 refine au rfl rfl (akz x.ns (by omega) (fun n hn=>by have:=hb n hn;omega)) ?_
 simp only[gX,pG,RN,qA,qB,qC,qD,qE,qF]
 omega
theorem amN (a b:List Int)(ha:a.length≤1000000)(hb:b.length≤1000000):Pure C F.XB [.slice false (a.map ay), .slice false (b.map ay)] (.d (.bool (decide (a=b)))) []:=by
 refine ah mixed rfl acG ?_
 simp only[UL,U9,List.length_map,RN,qA,qB,qC,qD,qE,qF]
 by_cases hl:a.length=b.length
 case neg=>
  have e:((a.length:Int) !=(b.length:Int))=true:=by simp;omega
  simp only[e,RN,qA,qB,qC,qD,qE,qF]
  have:a≠b:=fun e=>hl (by rw[e])
  simp[this]
 have e:((a.length:Int) !=(b.length:Int))=false:=by simp[hl]
 simp only[e,RN,qA,qB,qC,qD,qE,qF]
 refine aT a.length (fun i (_:Unit)=>⟨[(0, .d (.slice false (a.map ay))),(1, .d (.slice false (b.map ay))),(5, .d (.int .i64 i))],⟨[],[],[]⟩⟩)
  (fun i _=>decide (a=b)=decide (a.drop i=b.drop i)) 0 () (Nat.zero_le _) rfl (by simp) (fun i _ g1 hix=> ?_) (fun _ hix=> ?_)
 ·obtain⟨g2,g3,g6⟩:=rng g1 ha
  have g1':i<b.length:=by omega
  have g3':(i:Int)<(b.length:Int):=by omega
  rw[drop_cons g1,drop_cons g1']at hix
  simp only[List.length_map,g2,g3,g1,g1',g3',Int.toNat_natCast,getD_map,aV,RN,qA,qB,qC,qD,qE,qF]
  by_cases hv:a.getD i default=b.getD i default
  ·have e1:(a.getD i default !=b.getD i default)=false:=bne_eq_false_iff_eq.2 hv
   rw[hv]at hix
   simp only[e1,g6,RN,qA,qB,qC,qD,qE,qF]
   exact lI () g1 rfl (by rw[hix];simp)
  ·have e1:(a.getD i default !=b.getD i default)=true:=bne_iff_ne.2 hv
   simp only[e1,RN,qA,qB,qC,qD,qE,qF]
   rw[hix,decide_eq_false (by intro e;exact hv (List.cons.inj e).1)]
 ·rw[List.drop_length,List.drop_of_length_le (by omega)]at hix
  simp only[Int.lt_irrefl,List.length_map,hix,RN,qA,qB,qC,qD,qE,qF]
theorem aoV (a b:List Int)(ha:a.length≤1000000)(hb:b.length≤1000000):Pure C F.XD [.slice false (a.map ay), .slice false (b.map ay)] (.d (.bool (decide (a=b)))) []:=by
 refine ah mixed rfl acI ?_
 simp only[UN,Vb,RN,qA,qB,qC,qD,qE,qF]
 refine au rfl rfl (amN a b ha hb) ?_
 (try simp only[RN,qA,qB,qC,qD,qE,qF])
theorem amO (x y:En)(ha:x.ns.length≤1000000)(hb:y.ns.length≤1000000):Pure C F.Bh [x.dv,y.dv] (.d (.bool (decide (x=y)))) []:=by
 refine ah mixed rfl Pz ?_
 rw[wO,wO]
 simp only[Ec,Ez,RN,qA,qB,qC,qD,qE,qF]
 by_cases hk:x.kind=y.kind
 ·have e:(x.kind==y.kind)=true:=by simp[hk]
  simp only[e,RN,qA,qB,qC,qD,qE,qF]
  refine au rfl rfl (aoV x.ns y.ns ha hb) ?_
  (try simp only[RN,qA,qB,qC,qD,qE,qF])
  cases x;cases y;simp only at hk;simp[hk]
 ·have e:(x.kind==y.kind)=false:=by simp[hk]
  simp only[e,RN,qA,qB,qC,qD,qE,qF]
  rw[decide_eq_false (fun e=>hk (by rw[e]))]
end Go.Tel
namespace Go.Tel
open Go.Am
theorem ao8 (x:En):Pure C F.BD [x.dv] (.d (.bool true)) []:=by
 have hw:=ak9 x
 have hf:=fun h=>ahW x h
 have hL:=fun h=>ams x h
 have hse:=fun h=>amO x x h h
 refine ah mixed rfl Jf ?_
 rw[wO]at*
 simp only[xg,xQ,List.length_map,RN,qA,qB,qC,qD,qE,qF]
 by_cases h6:(x.ns.length:Int)>6
 ·simp only[h6,RN,qA,qB,qC,qD,qE,qF]
  refine au rfl rfl aap ?_
  (try simp only[RN,qA,qB,qC,qD,qE,qF])
 simp only[h6,RN,qA,qB,qC,qD,qE,qF]
 refine au rfl rfl hw ?_
 (try simp only[RN,qA,qB,qC,qD,qE,qF])
 refine au rfl rfl (hf (by omega)) ?_
 cases hfm:x.formed
 ·have z1:((2:Int)==2)=true:=rfl
  have z2:((⟨#[]⟩:ByteArray).toList==(⟨#[]⟩:ByteArray).toList)=true:=beq_self_eq_true _
  simp only[Bool.false_eq_true,if_false,z1,gX,NH,z2,RN,qA,qB,qC,qD,qE,qF]
  refine au rfl rfl aap ?_
  (try simp only[RN,qA,qB,qC,qD,qE,qF])
 have hp:=afF x.line
 rw[afb hfm]at hp
 have e:F5 x.kind x.ns 0= .tup [.agg [.int .i64 x.kind, .slice false (x.ns.map ay)], .int .i64 0]:=rfl
 rw[e]at hp
 have z1:((0:Int)==0)=true:=rfl
 have z2:(x.line.toList==x.line.toList)=true:=beq_self_eq_true _
 simp only[if_true,RN,qA,qB,qC,qD,qE,qF]
 refine au rfl rfl hp ?_
 simp only[mQ,z1,RN,qA,qB,qC,qD,qE,qF]
 refine au rfl rfl (hL hfm) ?_
 simp only[gX,NH,z2,z1,RN,qA,qB,qC,qD,qE,qF]
 refine au rfl rfl (hse (by omega)) ?_
 rw[decide_eq_true rfl]
 (try simp only[RN,qA,qB,qC,qD,qE,qF])
 refine au rfl rfl aap ?_
 (try simp only[RN,qA,qB,qC,qD,qE,qF])
end Go.Tel
namespace Go.Am
theorem afV {k:IntKind}{ds:List DV}(h:Has (.int k) ds):∃n,ds=[.int k n]:=by cases h;exact⟨_,rfl⟩
theorem alN {ds:List DV}(h:Has (.struct []) ds):ds=[]:=by cases h;rfl
theorem abR {t:Ty}{ts:List Ty}{ds:List DV}(h:Has (.struct (t::ts)) ds):∃a b,ds=a++b∧Has t a∧Has (.struct ts) b:=by cases h with|cons h h'=>exact⟨_,_,rfl,h,h'⟩
theorem aps {k:IntKind}{ts:List Ty}{ds:List DV}(h:Has (.struct (.int k::ts)) ds):∃n b,ds= .int k n::b∧Has (.struct ts) b:=by
 obtain⟨a,b,rfl,h1,h2⟩:=abR h
 obtain⟨n,rfl⟩:=afV h1
 exact⟨n,b,rfl,h2⟩
theorem aiC {α:Type}{e:Ty}{dv:α→DV}:∀{xs:List DV},(∀x∈xs,∃a,x=dv a)→∃l:List α,xs=l.map dv
 | [],_=>⟨[],rfl⟩
 |x::xs,h=>by
  obtain⟨a,rfl⟩:=h x List.mem_cons_self
  obtain⟨l,rfl⟩:=aiC (e:=e) fun y hy=>h y (List.mem_cons_of_mem _ hy)
  exact⟨a::l,rfl⟩
theorem aog {α:Type}{e:Ty}{dv:α→DV}(hd:∀x,Has e x.cells→Shp e x→∃a,x=dv a){ds:List DV}(h:Has (.slice e) ds):∃l:List α,ds=[.slice false (l.map dv)]:=by
 cases h with
 |slice h h'=>
  rename_i xs
  obtain⟨l,rfl⟩:=aiC (e:=e) fun x hx=>hd x (h x hx) (h' x hx)
  exact⟨l,rfl⟩
theorem apt {α:Type}{e:Ty}{dv:α→DV}(hd:∀x,Has e x.cells→Shp e x→∃a,x=dv a){ts:List Ty}{ds:List DV}(h:Has (.struct (.slice e::ts)) ds):∃(l:List α) (b:List DV),ds= .slice false (l.map dv)::b∧Has (.struct ts) b:=by
 obtain⟨a,b,rfl,h1,h2⟩:=abR h
 obtain⟨l,rfl⟩:=aog hd h1
 exact⟨l,b,rfl,h2⟩
theorem ana {T:Ty}{Ts:List Ty}{xs:List DV}(h:Iu (T::Ts) xs):∃x l,xs=x::l∧aiv T x∧Iu Ts l:=by
 cases xs with
 |nil=>exact h.elim
 |cons x l=>exact⟨x,l,rfl,h.1,h.2⟩
theorem aod {xs:List DV}(h:Iu [] xs):xs=[]:=by
 cases xs with
 |nil=>rfl
 |cons x l=>exact h.elim
end Go.Am
namespace Go.Tel
open Go.Am
abbrev Fh:Ty:= .struct [.int .i64, .slice (.int .i64)]
theorem aof (x:DV)(h:Has (.int .i64) x.cells)(hs:Shp (.int .i64) x):∃n:Int,x=ay n:=by
 obtain⟨n,h⟩:=afV h
 rw[hs.2 rfl]at h
 exact⟨n,(List.cons.inj h).1⟩
theorem aoe (x:DV)(h:Has Fh x.cells)(hs:Shp Fh x):∃p:En,x=p.dv:=by
 obtain⟨cs,rfl⟩:=hs.1 rfl
 obtain⟨a,_,e1,h1⟩:=aps h
 obtain⟨b,_,rfl,h2⟩:=apt aof h1
 obtain rfl:=alN h2
 exact⟨⟨a,b⟩,by rw[En.dv];exact congrArg DV.agg e1⟩
theorem aqf {x:DV}(h:aiv Fh x):∃p:En,x=p.dv:=aoe x h.1 h.2
end Go.Tel
namespace Go.Am
section
variable {H:Type}{enc:TypeId×Value→H}{P:Program}{w:World}{base:Nat}{spare:Nat→Bool}{held:Bool}
theorem Vp:∀{ts:List TypeId} {vs:List Value} {ds:List (DataW H)} {ps:List MemPlace},DataW.TrodAll enc P w base spare held ts vs ds ps→ds.length=ts.length
 | [],[],[],_,_=>rfl
 |t::ts,v::vs,d::ds,ps,h=>by
  obtain⟨p,q,_,h2,_⟩:=h
  rw[List.length_cons,List.length_cons,Vp h2]
 | [],_::_,_,_,h=>by cases h
 | [],[],_::_,_,h=>by cases h
 | _::_,[],_,_,h=>by cases h
 | _::_,_::_,[],_,h=>by cases h
end
theorem apY {α:Type}{l:List α}(h:l.length=1):∃a,l=[a]:=List.length_eq_one_iff.1 h
theorem ajW {P:Program}{l:List (String×DataW Unit)}{w:World}(he:(l.filter fun x=>x.2.handleName?.isSome)=[])(h:laidMetH P l w):laidMet P l w:=by
 unfold laidMetH at h
 rw[he]at h
 exact h
theorem agp {P:Program}{w:World}{n:String}{d:DataW Unit}:∀{l:List (String×DataW Unit)} {ps:List MemPlace},DataW.LaidVars P w l ps→(n,d)∈l→
  ∃g t cs fuel p,P.globalNamed n=some g∧(P.globals[g]?).map (·.type)=some t∧w.var? P n=some cs∧DataW.trod (fun _=>()) P w 0 (fun _=>true) false fuel t cs.toList=some (d,p)
 | [],_,_,h=>by cases h
 |(n',d')::l,ps,h,hm=>by
  obtain⟨g,t,cs,fuel,p,q,h1,h2,h3,h4,h5,_⟩:=h
  cases hm with
  |head=>exact⟨g,t,cs,fuel,p,h1,h2,h3,h4⟩
  |tail _ hm=>exact agp h5 hm
theorem akP {P:Program}{W:World}{name:String}{k:IntKind}{zs:List Int}{l:List (String×DataW Unit)}{g:Nat}{t e:TypeId}{n:Nat}
  (hg:P.globalNamed name=some g)(hty:(P.globals[g]?).map (·.type)=some t)(ht:P.underlying t=some (.array n e))(he:P.underlying e=some (.int k))(hce:P.cellsOf e=1)(hct:P.cellsOf t=n)
  (h:laidMet P l W)(hm:(name,Lib.tabData k zs)∈l):Lib.TabIs P W name k zs:=by
 obtain⟨ps,hv,_⟩:=h
 obtain⟨g',t',cs,fuel,p,hg',ht',hvar,hd⟩:=agp hv hm
 obtain rfl:=Option.some.inj (hg.symm.trans hg')
 obtain rfl:=Option.some.inj (hty.symm.trans ht')
 unfold Lib.TabIs
 rw[hvar,←Lib.cells_of_tab ht he hce hct hd]
end Go.Am
namespace Go.Tel
open Go.Am
theorem aoL {W:World}(h:C.G W):∀b,C.low b→b<W.heap.size∧∀c T fz,W.heap[b]?=some (.cells c T fz)→∀(i:Nat) (n:Int),c[i]?≠some (.int .i64 n):=by
 intro b hb
 have hb':Go.Proofs.Tryz.prog.globalNamed "internal/strconv.uint64pow10" =some b:=hb
 have h':W.var? Go.Proofs.Tryz.prog "internal/strconv.uint64pow10" =some (Go.Lib.pow10Tab.map fun z=>Value.int .u64 z).toArray:=h
 unfold World.var? at h'
 rw[hb']at h'
 simp only[Option.bind_some]at h'
 cases ho:W.heap[b]? with
 |none=>rw[ho]at h';cases h'
 |some o=>
  rw[ho]at h'
  refine⟨bT ho,fun c T fz hc i n hi=> ?_⟩
  cases hc
  simp only[Option.some.injEq]at h'
  subst h'
  rw[List.getElem?_toArray,List.getElem?_map]at hi
  cases hz:Go.Lib.pow10Tab[i]? with
  |none=>rw[hz]at hi;cases hi
  |some z=>rw[hz]at hi;cases hi
end Go.Tel
namespace Go.Proofs.YtbefoehadfnkbaaGreatDoor
open Go.ChangeShapes Go.WideShapes Go.RowKit Go.Am
theorem fV {a b:Bool}(ha:a=true)(hb:b=true):(a&&b)=true:=by rw[ha,hb];rfl
theorem own:ownKnob Tryz.prog.godebug=none:=by kernel_rfl
theorem laidOut:laidOutB Tryz.prog=true:=by kernel_rfl
def Og:List (String×DataW Unit):=Rows.journeymanWheelsRow.laid
theorem laid_met (os:Os)(args:Array Value):laidMet Tryz.prog Og ((World.laidAll Tryz.prog os Og).forCall (fun _ _=>0) ⟨#[],args,[]⟩).memory:=
 laidMet_laidAll args (by kernel_rfl) (by kernel_rfl)
theorem ahz (os:Os)(args:Array Value):laidMetH Tryz.prog Og ((World.laidAll Tryz.prog os Og).forCall (fun _ _=>0) ⟨#[],args,[]⟩).memory:=
 laidMetH_of_parts (laid_met os args) (by kernel_rfl)
theorem akO:(Rows.laid_internal_strconv_uint64pow10:DataW Unit)=Lib.tabData .u64 Lib.pow10Tab:=rfl
theorem amW:("internal/strconv.uint64pow10",(Rows.laid_internal_strconv_uint64pow10:DataW Unit))∈Og:=List.Mem.tail _ (List.Mem.tail _ (List.Mem.head _))
theorem ao0 {W:World}(h:laidMetH Tryz.prog Og W):Go.Tel.C.G W:=
 akP (P:=Tryz.prog) (g:=1) (t:=390) (e:=372) (n:=20) (by kernel_rfl) (by kernel_rfl) (by kernel_rfl) (by kernel_rfl) (by kernel_rfl) (by kernel_rfl) (ajW (by kernel_rfl) h) (akO▸amW)
end Go.Proofs.YtbefoehadfnkbaaGreatDoor
