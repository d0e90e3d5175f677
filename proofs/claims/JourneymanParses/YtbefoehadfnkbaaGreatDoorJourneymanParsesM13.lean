/-
  Part 13 of the proof of a law of desks: an abstract machine over the model, contracts of functions, plain laws.
  Conditions: none.
-/
import Derived.Test.YtbefoehadfnkbaaGreatDoorJourneymanParsesM11
import Derived.Test.YtbefoehadfnkbaaGreatDoorJourneymanParsesM12
import Derived.RecoverIn
import Derived.Shelf.Sort.Plain
import Derived.Lib.LaidTab
import Derived.Lib.ItoaNum
import Derived.Test.YtbefoehadfnkbaaGreatDoorChecked
set_option linter.all false
namespace Go.Am
def Mem.ext (M:Mem)(xb:List (Option (List PV)))(xf:List Nat)(xa:List (Option Arr)):Mem:=⟨M.boxes++xb,xf++M.fz,M.aA++xa⟩
section
variable {C:Ctx}{base:Nat}
theorem SC.oh {f:FuncId}{args:List PV}{M:Mem}{K:PV→Mem→Prop}{KP KP':DV→Mem→Prop}(h:SC C f args M K KP)(hp:∀d M,KP d M→KP' d M):SC C f args M K KP':=by
 intro X w E vals hS hA
 refine(h X w E vals hS hA).mono fun e w' he=> ?_
 cases e with
 |returned v=>exact he
 |panicked c=>obtain⟨v,d,M',E',g1,g2,g3⟩:=he;exact⟨v,d,M',E',g1,hp _ _ g2,g3⟩
 |outgrown=>exact he
theorem SY.oh {b:Nat}{args:List PV}{M:Mem}{K:PV→Mem→Prop}{KP KP':DV→Mem→Prop}(h:SY C b args M K KP)(hp:∀d M,KP d M→KP' d M):SY C b args M K KP':=by
 intro X w E vals l hS hA hl
 obtain⟨fn,tmps,a,body,h1,h2⟩:=h X w E vals l hS hA hl
 refine⟨fn,tmps,a,body,h1,h2.mono fun e w' he=> ?_⟩
 cases e with
 |returned v=>exact he
 |panicked c=>obtain⟨v,d,M',E',g1,g2,g3⟩:=he;exact⟨v,d,M',E',g1,hp _ _ g2,g3⟩
 |outgrown=>exact he
theorem Vj {op:POp}{args:List PV}{M:Mem}{K:PV→Mem→Prop}{KP KP':DV→Mem→Prop}(hp:∀d M',KP d M'→KP' d M')(h:aj C base op args M K KP):aj C base op args M K KP':=by
 cases op with
 |call f=>exact SC.oh h hp
 |JE agg n f=>
  cases args with
  |nil=>exact h
  |cons a rest=>
   simp only[aj]at h⊢
   obtain⟨v,h1,h2⟩:=kC.1 h
   exact kC.2 ⟨v,h1,SC.oh h2 hp⟩
 |je=>
  simp only[aj]at h⊢
  split at h
  ·exact⟨h.1,h.2.oh hp⟩
  ·exact⟨h.1,h.2.oh hp⟩
  ·exact SY.oh h hp
  ·exact h.elim
 |inv name=>
  simp only[aj]at h⊢
  split at h
  ·obtain⟨f,h1,h2,h3⟩:=h
   exact⟨f,h1,h2,h3.oh hp⟩
  ·exact h.elim
 |panic=>
  simp only[aj]at h⊢
  split at h
  ·split at h
   ·exact hp _ _ h
   ·exact h.elim
  ·exact h.elim
 | _=>exact h
theorem adf {p:PO}{K K':St→Prop}{KP KP':DV→Mem→Prop}(hk:∀s,K s→K' s)(hp:∀d M',KP d M'→KP' d M'){s:St}(h:fU C base p K KP s):fU C base p K' KP' s:=by
 unfold fU at h⊢
 split at h
 ·exact⟨h.1,Vj hp (Jr (fun v M' hh=>hk _ hh) h.2)⟩
 ·split at h
  ·exact⟨fun e=>⟨(h.1 e).1,Vj hp (Jr (fun v M' hh=>hk _ hh) (h.1 e).2)⟩,fun e=>hk _ (h.2 e)⟩
  ·exact hk _ h
  ·exact h.elim
theorem Ry {KP KP':DV→Mem→Prop}(hp:∀d M',KP d M'→KP' d M'):∀{ps:List PO} {K K':St→Prop} (_:∀s,K s→K' s) {s:St},zA C base ps K KP s→zA C base ps K' KP' s
 | [],_,_,hk,_,h=>hk _ h
 | _::_,_,_,hk,_,h=>adf (fun _ h=>Ry hp hk h) hp h
theorem WJ {K K':St→Prop}(hk:∀s,K s→K' s):∀{ts:List Nat} {s:St},zW ts K s→zW ts K' s
 | [],_,h=>hk _ h
 |t::ts,s,h=>by
  simp only[zW]at h⊢
  split at h
  ·exact WJ hk h
  ·exact h.elim
theorem qp {nb na:Nat}:∀{pc:aB} {Q Q':Ex→St→Prop} (_:∀e s,Q e s→Q' e s) {s:St},pwp C nb na pc Q s→pwp C nb na pc Q' s
 | .skip,_,_,hq,_,h=>hq _ _ h
 | .label _,_,_,hq,_,h=>hq _ _ h
 | .exit _,_,_,hq,_,h=>hq _ _ h
 | .ret,_,_,hq,_,h=>hq _ _ h
 | .region _ _ _ _ _,_,_,hq,_,h=>by
  simp only[pwp]at h⊢
  exact Ry (fun d M' h=>hq _ _ h) (fun s h=>WJ (fun s h=>hq _ _ h) h) h
 | .seq a b,_,_,hq,_,h=>by
  simp only[pwp]at h⊢
  refine qp (fun e s h=> ?_) h
  cases e with
  |normal=>exact qp hq h
  |exit id=>exact hq _ _ h
  |ret=>exact hq _ _ h
  |panic d=>exact hq _ _ h
 | .cond c a b,_,_,hq,_,h=>by
  simp only[pwp]at h⊢
  split at h
  ·exact⟨fun e=>qp hq (h.1 e),fun e=>qp hq (h.2 e)⟩
  ·exact h.elim
 | .block id b,_,_,hq,_,h=>by
  simp only[pwp]at h⊢
  refine qp (fun e s h=> ?_) h
  cases e with
  |normal=>exact hq _ _ h
  |exit id'=>
   simp only at h⊢
   split at h
   ·rename_i hid;rw[if_pos hid];exact hq _ _ h
   ·rename_i hid;rw[if_neg hid];exact hq _ _ h
  |ret=>exact hq _ _ h
  |panic d=>exact hq _ _ h
 | .loop b,_,_,hq,_,h=>by
  simp only[pwp]at h⊢
  obtain⟨I,n,h0,hr⟩:=h
  refine⟨I,n,h0,fun k s hs=>qp (fun e s h=> ?_) (hr k s hs)⟩
  cases e with
  |normal=>exact h
  |exit id=>exact hq _ _ h
  |ret=>exact hq _ _ h
  |panic d=>exact hq _ _ h
 | .scope b,_,_,hq,_,h=>by
  simp only[pwp]at h⊢
  exact qp hq h
 | .xB f ps keys asg body,_,_,hq,_,h=>by
  simp only[pwp]at h⊢
  obtain⟨g,fs,cs,h1,h2,h3,h4⟩:=h
  refine⟨g,fs,cs,h1,h2,h3,fun L hL nD=>SC.oh (SC.mono (h4 L hL nD) fun v M hM=> ?_) fun d M h=>hq _ _ h⟩
  obtain⟨st,pd,cells,q1,q2,q3,q4⟩:=hM
  refine⟨st,pd,cells,q1,q2,q3,?_⟩
  split at q4
  ·exact hq _ _ q4
  ·exact hq _ _ q4
  ·exact hq _ _ q4
  ·exact q4.elim
end
section
variable {C:Ctx}{nb na:Nat}{Q:Ex→St→Prop}
theorem aav {M:Mem}{L:Loop}{st:LoopState}{pd:Option Code}{cells:List PV}{xb:List (Option (List PV))}{xf:List Nat}{xa:List (Option Arr)}:(iq M L st pd cells xb xf xa).boxes[M.boxes.length]?=some (some (.gV {L with state:=st,pending:=pd}::cells)):=by simp[iq]
end
theorem GU {C:Ctx}{base b:Nat}{args:List PV}{M:Mem}{K:PV→Mem→Prop}{KP:DV→Mem→Prop}(h:SY C b args M K KP):aj C base .je (.qY b::args) M K KP:=h
def WS (f1:FuncId)(te t3:Nat):List Oper→Bool
 | [o1,o2]=>o1.guard.isNone&&o2.guard.isNone&&o1.dst==some t3&&o2.dst.isNone&&
  (match o1.op with| .makeFunc (.func g) fi ca=>g==f1&&fi.isEmpty&&(match ca.toList with| [.tmp t]=>t==te| _=>false)| _=>false)&&
  (match o2.op with| .defer c=>(match c.callee with| .value (.tmp t)=>t==t3| _=>false)&&c.args.isEmpty| _=>false)
 | _=>false
def Qy (t5:Nat):List Oper→Bool
 | [o]=>o.guard.isNone&&o.dst==some t5&&(match o.op with| .call c=>(match c.callee with| .builtin .recover=>true| _=>false)&&c.args.isEmpty| _=>false)
 | _=>false
def Z5 (P:Program)(f f1:FuncId)(nargs n n1 te t3 t5:Nat)(pc0 pc2 pc3:aB):Bool:=
 match P.funcs[f]?,P.funcs[f1]? with
 |some fn,some fn1=>match fn.body,fn1.body with
  |some (.seq c0 (.seq (.region _ ops false) c2)),some (.seq (.region _ akd false) c3)=>
   fn.ntmps==n&&fn1.ntmps==n1&&decide (nargs≤n)&&decide (1≤n1)&&decide (t3<n)&&decide (t5<n1)&&decide (1≤t5)&&decide (te≠t3)&&chk P n c0 pc0&&chk P n c2 pc2&&chk P n1 c3 pc3&&gq pc3&&UD P fn.results.toList [.cell te false 1]&&fn1.results.isEmpty&&
    callable P f1&&Lc te c2&&WS f1 te t3 ops.toList&&Qy t5 akd.toList&&I5 pc0&&I5 pc2
  | _,_=>false
 | _,_=>false
section
variable {C:Ctx}
theorem Rep.aaM {w w':World}{O O':Nat→Prop}{M:Mem}{E:Emb}{v:Value}{b o:Nat}(h:Rep w O M E v (.ptr b o)):Rep w' O' M E v (.ptr b o):=by
 cases h with|ptr hl hb ho=>exact .ptr hl hb ho
def JC (te:Nat)(b:Nat)(K:PV→Mem→Prop)(e:Ex)(s:St):Prop:=
 match e with
 | .normal=>bQ false 1 (.ptr b 0) s.mem fun v=>K v s.mem
 | .ret=>bQ false 1 (.ptr b 0) s.mem fun v=>K v s.mem
 | _=>False
def ao2 (C:Ctx)(te t5:Nat)(pc3:aB)(b:Nat)(K:PV→Mem→Prop)(e:Ex)(s:St):Prop:=
 match e with
 | .normal=>pwp C s.mem.boxes.length s.mem.aA.length pc3 (JC te b K) ⟨[(0, .ptr b 0),(t5, .d .nilIface)],s.mem⟩
 | .ret=>pwp C s.mem.boxes.length s.mem.aA.length pc3 (JC te b K) ⟨[(0, .ptr b 0),(t5, .d .nilIface)],s.mem⟩
 | .panic d=>pwp C s.mem.boxes.length s.mem.aA.length pc3 (JC te b K) ⟨[(0, .ptr b 0),(t5, .d d)],s.mem⟩
 | .exit _=>False
theorem akQ (hm:C.P.follows .mixedOrders=true){f f1:FuncId}{n n1 te t3 t5:Nat}{pc0 pc2 pc3:aB}{args:List PV}{M:Mem}{K:PV→Mem→Prop}{KP:DV→Mem→Prop}(hc:Z5 C.P f f1 args.length n n1 te t3 t5 pc0 pc2 pc3=true)
  (h:pwp C M.boxes.length M.aA.length pc0 (fun e s=>e= .normal∧∃b,look s.env te= .ptr b 0∧pwp C s.mem.boxes.length s.mem.aA.length pc2 (ao2 C te t5 pc3 b K) ⟨(t3, .dead)::s.env,s.mem⟩) ⟨Dy 0 args,M⟩):SC C f args M K KP:=by
 unfold Z5 at hc
 split at hc
 case h_2=>cases hc
 rename_i fn fn1 hfn aqC
 split at hc
 case h_2=>cases hc
 rename_i c0 id ops c2 id1 akd c3 hbody aoh
 simp only[Bool.and_eq_true,beq_iff_eq,decide_eq_true_eq]at hc
 obtain⟨⟨⟨⟨⟨⟨⟨⟨⟨⟨⟨⟨⟨⟨⟨⟨⟨⟨⟨hn,hn1⟩,hna⟩,arv⟩,ht3⟩,ht5⟩,arw⟩,hte⟩,hc0⟩,hc2⟩,hc3⟩,hp3⟩,hres⟩,apO⟩,hcall⟩,hnd⟩,hdo⟩,hro⟩,aqK⟩,aqL⟩:=hc
 intro X w E vals hS hA
 have hvl:vals.length=args.length:=hA.length
 have hi:InS C X ⟨w.heap.size,[],false,none⟩ n ⟨Dy 0 args,M⟩ {tmps:=vals.toArray++Array.replicate (fn.ntmps - vals.toArray.size) undef,defers:=[]} w E:=
  {sim:=hS
   size:=by simp;omega
   defers:=I8
   fix:=fun _ h=>by cases h
   env:=fun t=>by
    simp only[Ph,Nat.not_lt_zero,if_false,Nat.sub_zero]
    cases ht:args[t]? with
    |none=>exact .dead
    |some p=>
     obtain⟨v,hv,hr⟩:=hA.get' t p ht
     have hlt:t<vals.length:=(List.getElem?_eq_some_iff.1 hv).1
     have:({tmps:=vals.toArray++Array.replicate (fn.ntmps - vals.toArray.size) undef,defers:=[]}:Act).eval (.tmp t)=v:=by
      simp only[Act.eval,Array.getD_eq_getD_getElem?]
      rw[Array.getElem?_append_left (by simpa using hlt)]
      simp[hv]
     rw[this]
     exact hr}
 have hlow:∀b,C.low b→b<w.heap.size:=fun b hb=>hS.xlt b (hS.iE b hb)
 refine(callsIn_wide (n:=0)).1 (callsIn_of_wp_marks (F:=Fence.wide) hfn hbody trivial ?_)
 refine wpIn_seq (F:=RF none) (wpIn_mono (FY hm c0 pc0 (Nat.le_refl _) (Nat.le_refl _) aqK none [] false none _ _ _ w E (fun _ h=>by cases h) (.inl rfl) (fun e=>by cases e) hc0 h hi (.refl _ _ _)) fun e a1 w1 hp=> ?_)
 cases e with
 |exit id=>obtain⟨_,_,_,_,⟨he,_⟩,_⟩:=hp;cases he
 |ret=>obtain⟨_,_,_,_,⟨he,_⟩,_⟩:=hp;cases he
 |panic ch=>obtain⟨_,_,_,_,_,_,_,⟨he,_⟩,_⟩:=hp;cases he
 |goto l=>exact hp.elim
 |outgrown=>exact hp.elim
 |normal=>
  obtain⟨X1,s1,E1,hx1,⟨_,b,aqR,hp2⟩,hi1,hf1⟩:=hp
  have ahw:=hi1.env te
  rw[aqR]at ahw
  obtain⟨blk,hblk⟩:∃blk,a1.eval (.tmp te)= .pointer (some ⟨blk,0,none⟩):=by
   generalize a1.eval (.tmp te)=v at ahw
   cases ahw with
   |ptr hl hb ho=>exact⟨_,rfl⟩
  rw[hblk]at ahw
  unfold WS at hdo
  split at hdo
  case h_2=>cases hdo
  rename_i o1 o2 hops
  simp only[Bool.and_eq_true,beq_iff_eq,Option.isNone_iff_eq_none]at hdo
  obtain⟨⟨⟨⟨⟨hg1,hg2⟩,hd1⟩,hd2⟩,ho1⟩,ho2⟩:=hdo
  obtain⟨ops,rfl⟩:∃l:List Oper,ops=l.toArray:=⟨ops.toList,by simp⟩
  simp only at hops
  subst hops
  split at ho1
  case h_2=>cases ho1
  rename_i g fi ca hop1
  simp only[Bool.and_eq_true,beq_iff_eq,Array.isEmpty_iff]at ho1
  obtain⟨⟨rfl,rfl⟩,hca⟩:=ho1
  split at hca
  case h_2=>cases hca
  rename_i t apw
  simp only[beq_iff_eq]at hca
  have hca:=hca.symm
  subst hca
  obtain⟨ca,rfl⟩:∃l:List Operand,ca=l.toArray:=⟨ca.toList,by simp⟩
  simp only at apw
  subst apw
  split at ho2
  case h_2=>cases ho2
  rename_i cl hop2
  simp only[Bool.and_eq_true,Array.isEmpty_iff]at ho2
  obtain⟨VI,aok⟩:=ho2
  split at VI
  case h_2=>cases VI
  rename_i t' apx
  simp only[beq_iff_eq]at VI
  subst VI
  obtain⟨D1,hD1⟩:∃D1:Deferred,D1={target:= .fn (.func g) #[.pointer (some ⟨blk,0,none⟩)],args:= #[]}:=⟨_,rfl⟩
  obtain⟨ms1,apH,apE,_⟩:=hi1.defers
  rw[List.append_nil]at apH
  have hrun1:(execOp a1.eval o1).run C.P w1= .ok (.value (.func (.func g) #[] #[.pointer (some ⟨blk,0,none⟩)])) w1:=by simp[execOp,hop1,Instr.makeFunc,hblk]
  have hev:(a1.put (some t') (.func (.func g) #[] #[.pointer (some ⟨blk,0,none⟩)])).eval (.tmp t')= .func (.func g) #[] #[.pointer (some ⟨blk,0,none⟩)]:=by
   rw[vT,if_pos ⟨rfl,by rw[hi1.size];exact ht3⟩]
  have hrun2:(execOp (a1.put (some t') (.func (.func g) #[] #[.pointer (some ⟨blk,0,none⟩)])).eval o2).run C.P w1= .ok (.defer D1) w1:=by
   simp[execOp,hop2,resolve,apx,aok,hev,Deferred.ofValue,hD1]
  refine wpIn_seq (F:=RF none) (wpIn_region (F:=RF none) ?_)
  show wpOpsIn (RF none) 0 C.P [o1,o2].toArray _ [0,1] a1 w1
  have hw1:Region.wanted o1 (yielded [o1,o2].toArray a1.tmps)=true:=by simp[Region.wanted,hg1]
  have hw2:∀a:Act,Region.wanted o2 (yielded [o1,o2].toArray a.tmps)=true:=fun a=>by simp[Region.wanted,hg2]
  simp only[wpOpsIn,List.getElem?_toArray,List.getElem?_cons_zero,List.getElem?_cons_succ,hw1,hw2,if_true]
  refine⟨fun _ _=>trivial,?_⟩
  rw[show Oper.semAt (RF none).round a1.eval o1=execOp a1.eval o1 from rfl,hrun1]
  simp only[Oper.uponIn_value,hd1]
  refine⟨fun _ _=>trivial,?_⟩
  rw[show Oper.semAt (RF none).round (a1.put (some t') (.func (.func g) #[] #[.pointer (some ⟨blk,0,none⟩)])).eval o2=execOp (a1.put (some t') (.func (.func g) #[] #[.pointer (some ⟨blk,0,none⟩)])).eval o2 from rfl,hrun2]
  simp only[Oper.uponIn_defer,hd2]
  show(Code.wpIn (RF none) 0 C.P c2 (bodyPostM (RF none) 0 C.P fn fun e w'=>Fin C X w M E K KP w' e)) {a1.put (some t') (.func (.func g) #[] #[.pointer (some ⟨blk,0,none⟩)])with defers:=D1::a1.defers} w1
  have hi2:InS C X1 ⟨w1.heap.size,D1::a1.defers,false,some (te, .pointer (some ⟨blk,0,none⟩))⟩ n ⟨(t', .dead)::s1.env,s1.mem⟩ {a1.put (some t') (.func (.func g) #[] #[.pointer (some ⟨blk,0,none⟩)])with defers:=D1::a1.defers} w1 E1:=
   {sim:=hi1.sim
    size:=by simp[Act.put,hi1.size]
    defers:=I8
    fix:=fun q hq=>by
     cases hq
     show(a1.put (some t') _).eval (.tmp te)=_
     rw[vT,if_neg fun hh=>hte hh.1]
     exact hblk
    env:=fun t=>by
     show Rep _ _ _ _ ((a1.put (some t') _).eval (.tmp t)) _
     rw[vT]
     simp only[look]
     by_cases ht:t'=t
     ·subst ht;simp only[beq_self_eq_true,cond_true];exact .dead
     ·have h1:(t'==t)=false:=by simp[ht]
      have h2:¬(t=t'∧t'<a1.tmps.size):=fun hh=>ht hh.1.symm
      simp only[h1,cond_false,if_neg h2]
      exact hi1.env t}
  refine wpIn_mono (F:=RF none) (FY hm c2 pc2 (Nat.le_refl _) (Nat.le_refl _) aqL none (D1::a1.defers) false (some (te, .pointer (some ⟨blk,0,none⟩))) _ _ _ w1 E1 (fun q hq=>by cases hq;exact hnd) (.inl rfl) (fun e=>by cases e) hc2 hp2 hi2 (.refl _ _ _)) fun e a2 w2 hp=> ?_
  have hD:∀(u u':FrameMode) (X2:Nat→Prop) (w3:World) (M2:Mem) (E2:Emb) (d:DV) (v:Value),u≠ .run→(∀b,X1 b→X2 b)→Sim C X2 w3 M2 E2→From w1 s1.mem E1 w3 M2 E2→bf w3 (away X2 M2 E2) v d→okM w.heap.size X2 a1.defers w3→
    (∀(c₀:Frame) (cs:List Frame),c₀.mode=u→(∃cs',(recoverD (c₀::cs)=some (v,cs')∧cs'={c₀ with mode:=u'}::cs))∨(recoverD (c₀::cs)=none∧v= .nilIface∧u'=u))→settle u'= .returning→
    pwp C M2.boxes.length M2.aA.length pc3 (JC te b K) ⟨[(0, .ptr b 0),(t5, .d d)],M2⟩→
    ∀RZ:Array Value,(RZ.getD te undef= .pointer (some ⟨blk,0,none⟩))→LeavesInM Fence.wide 0 C.P fn RZ (fun e w'=>Fin C X w M E K KP w' e) (D1::a1.defers) u w3:=by
   intro u u' X2 w3 M2 E2 d v hu hx2 hS2 hF2 hrd Vr hrec hset ajx RZ htm
   have aqm:From w M E w3 M2 E2:=hf1.trans hF2
   refine⟨hu, .inr ⟨fun h=>by simp[Fence.wide]at h, .func g, #[.pointer (some ⟨blk,0,none⟩)],g, #[.pointer (some ⟨blk,0,none⟩)],by rw[hD1],by rw[hD1];simp[invoke,xY hcall],fun _ _=>trivial,?_⟩⟩
   refine callsDIn_of_wpSIn (F:=Fence.wide) aqC aoh trivial fun c₀ cs hmode=> ?_
   unfold Qy at hro
   split at hro
   case h_2=>cases hro
   rename_i r ane
   simp only[Bool.and_eq_true,beq_iff_eq,Option.isNone_iff_eq_none]at hro
   obtain⟨⟨hgr,hdr⟩,hor⟩:=hro
   obtain⟨akd,rfl⟩:∃l:List Oper,akd=l.toArray:=⟨akd.toList,by simp⟩
   simp only at ane
   subst ane
   split at hor
   case h_2=>cases hor
   rename_i clr aqN
   simp only[Bool.and_eq_true,Array.isEmpty_iff]at hor
   obtain⟨hcr,apz⟩:=hor
   split at hcr
   case h_2=>cases hcr
   rename_i anb
   have apP:∀a:Act,(execOp a.eval r).run C.P w3= .ok .recover w3:=fun a=>by
    obtain⟨cal,cas,cat⟩:=clr
    simp only at anb apz
    subst anb apz
    simp[execOp,aqN,resolve,invoke]
    rfl
   obtain⟨a3,ha3⟩:∃a3:Act,a3={tmps:= #[.pointer (some ⟨blk,0,none⟩)]++Array.replicate (fn1.ntmps - #[Value.pointer (some ⟨blk,0,none⟩)].size) undef,defers:=[]}:=⟨_,rfl⟩
   rw[←ha3]
   have hsz3:a3.tmps.size=n1:=by rw[ha3];simp;omega
   have fin:∀cs',cs'={c₀ with mode:=u'}::cs→Code.wpSIn Fence.wide 0 C.P c3 (bodyPostS C.P fn1 c₀ cs fun e u' w'=>match e with
     | .returned _=>LeavesInM Fence.wide 0 C.P fn RZ (fun e w'=>Fin C X w M E K KP w' e) a1.defers (settle u') w'
     | .panicked chain=>LeavesInM Fence.wide 0 C.P fn RZ (fun e w'=>Fin C X w M E K KP w' e) a1.defers (raised u' chain) w'
     | .outgrown=>Fin C X w M E K KP w' .outgrown) (a3.put (some t5) v) cs' w3:=by
    rintro cs' rfl
    refine wpSIn_of_wpIn rfl ?_
    have hi3:InS C X2 ⟨w3.heap.size,[],true,none⟩ n1 ⟨[(0, .ptr b 0),(t5, .d d)],M2⟩ (a3.put (some t5) v) w3 E2:=
     {sim:=hS2
      size:=by simp[Act.put,hsz3]
      fix:=fun _ h=>by cases h
      defers:=by
       have:(a3.put (some t5) v).defers=[]:=by rw[ha3];rfl
       rw[this];exact I8
      env:=fun t=>by
       rw[vT,hsz3]
       simp only[look]
       by_cases ht0:0=t
       ·subst ht0
        have:¬(0=t5∧t5<n1):=fun hh=>by omega
        rw[if_neg this]
        simp only[beq_self_eq_true,cond_true]
        have e0:a3.eval (.tmp 0)= .pointer (some ⟨blk,0,none⟩):=by
         rw[ha3]
         simp only[Act.eval,Array.getD_eq_getD_getElem?]
         rw[Array.getElem?_append_left (by simp)]
         rfl
        rw[e0]
        exact(ahw.from hF2).aaM
       ·have h0:(0==t)=false:=by simp[ht0]
        simp only[h0,cond_false]
        by_cases apS:t5=t
        ·subst apS
         rw[if_pos ⟨rfl,ht5⟩]
         simp only[beq_self_eq_true,cond_true]
         exact .d hrd
        ·have h5:(t5==t)=false:=by simp[apS]
         simp only[h5,cond_false]
         exact .dead}
    have:=FY hm c3 pc3 (nb:=M2.boxes.length) (na:=M2.aA.length) (M₀:=M2) (E₀:=E2) (w₀:=w3) (Nat.le_refl _) (Nat.le_refl _) (lJ hp3) none [] true none _ _ _ w3 E2 (fun _ h=>by cases h) (.inl rfl) (fun _=>hp3) hc3 ajx hi3 (.refl _ _ _)
    refine wpIn_mono (F:=RF none) this fun e a4 w4 hp4=> ?_
    have main:∀(X4:Nat→Prop) (s4:St) (E4:Emb),(∀b,X2 b→X4 b)→JC te b K .normal s4→InS C X4 ⟨w3.heap.size,[],true,none⟩ n1 s4 a4 w4 E4→From w3 M2 E2 w4 s4.mem E4→
      a4.defers=[]∧∃u2,({c₀ with mode:=u'}::cs:List Frame)={c₀ with mode:=u2}::cs∧∃v,(results fn1 a4.tmps).run C.P w4= .ok v w4∧LeavesInM Fence.wide 0 C.P fn RZ (fun e w'=>Fin C X w M E K KP w' e) a1.defers (settle u2) w4:=by
     intro X4 s4 E4 hx4 hend hi4 hf4
     obtain⟨ms4,aqF,_,aqz⟩:=hi4.defers
     have hd4:a4.defers=[]:=by rw[aqF,aqz rfl];rfl
     refine⟨hd4,u',rfl,?_⟩
     have hr1:(results fn1 a4.tmps).run C.P w4= .ok (.tuple #[]) w4:=by
      rw[XO]
      have:fn1.results= #[]:=by simpa using apO
      rw[this];simp
     refine⟨_,hr1,?_⟩
     rw[hset]
     have apF:okM w.heap.size X4 a1.defers w4:=by
      refine⟨fun d hd=> ?_,Vr.2⟩
      obtain⟨D,q1,q2,q3,q4⟩:=Vr.1 d hd
      exact⟨D,q1,q2,hx4 _ q3,hf4.keep _ _ (fun ho=>hS2.PK ho q3) q4⟩
     have hF4:From w M E w4 s4.mem E4:=aqm.trans hf4
     rw[←List.append_nil a1.defers]
     refine qO (by simp) apF fun w5 hsh=> ?_
     obtain⟨q1,q2,q3⟩:=MJ hi4.sim hlow hF4 apF hsh
     have apM:Rep w5 (away X4 s4.mem E4) s4.mem E4 (.pointer (some ⟨blk,0,none⟩)) (.ptr b 0):=(((ahw.from hF2).aaM (O':=away X2 M2 E2) (w':=w3)).from hf4).aaM
     have hi5:InS C X4 ⟨w5.heap.size,[],true,none⟩ RZ.size ⟨[(te, .ptr b 0)],s4.mem⟩ {tmps:=RZ,defers:=[]} w5 E4:=
      {sim:=q1,size:=rfl,defers:=I8,fix:=fun _ h=>by cases h
       env:=fun t=>by
        simp only[look]
        by_cases ht:te=t
        ·subst ht;simp only[beq_self_eq_true,cond_true]
         have:({tmps:=RZ,defers:=[]}:Act).eval (.tmp te)= .pointer (some ⟨blk,0,none⟩):=htm
         rw[this];exact apM
        ·have h1:(te==t)=false:=by simp[ht]
         simp only[h1,cond_false];exact .dead}
     have hrr:qI [.cell te false 1] ⟨[(te, .ptr b 0)],s4.mem⟩ (fun vs=>K (resV vs) s4.mem):=by
      simp only[qI,look,beq_self_eq_true,cond_true,resV]
      exact hend
     obtain⟨v5,ps5,g1,g2,g3⟩:=OD hi5 hres hrr
     have hlx:∀b,X b→X4 b:=fun b hb=>hx4 b (hx2 b (hx1 b hb))
     exact⟨v5,g1,_,s4.mem,E4,g2,q1.less hlx hS.iE,q2,g3.less hlx⟩
    cases e with
    |normal=>
     obtain⟨X4,s4,E4,hx4,hend,hi4,hf4⟩:=hp4
     exact main X4 s4 E4 hx4 hend hi4 hf4
    |ret=>
     obtain⟨X4,s4,E4,hx4,hend,hi4,hf4⟩:=hp4
     exact main X4 s4 E4 hx4 hend hi4 hf4
    |exit id=>obtain⟨_,_,_,_,he,_⟩:=hp4;exact he.elim
    |panic ch=>obtain⟨_,_,_,_,_,_,_,he,_⟩:=hp4;exact he.elim
    |goto l=>exact hp4.elim
    |outgrown=>exact hp4.elim
   refine wpSIn_seq (wpSIn_region ?_)
   show wpOpsSIn Fence.wide 0 C.P [r].toArray _ [0] a3 (c₀::cs) w3
   have hwr:Region.wanted r (yielded [r].toArray a3.tmps)=true:=by simp[Region.wanted,hgr]
   simp only[wpOpsSIn,List.getElem?_toArray,List.getElem?_cons_zero,hwr,if_true,apP]
   refine⟨fun _ _=>trivial,?_⟩
   rcases hrec c₀ cs hmode with⟨cs',q1,q2⟩|⟨q1,q2,q3⟩
   ·rw[q1]
    simp only[hdr]
    exact fin cs' q2
   ·rw[q1]
    simp only[hdr]
    rw[←q2]
    exact fin (c₀::cs) (by rw[q3,←hmode])
  have hlow1:∀b,C.low b→b<w1.heap.size:=fun b hb=>by have:=hlow b hb;have:=hf1.size;omega
  have hmark:∀(X2:Nat→Prop) (w2 w3:World) (M2:Mem) (E2:Emb) (ms2:List Deferred),(∀b,X1 b→X2 b)→From w1 s1.mem E1 w2 M2 E2→okM w1.heap.size X2 ms2 w2→Shut ms2 w2 w3→okM w.heap.size X2 a1.defers w3:=by
   intro X2 w2 w3 M2 E2 ms2 hx2 hf2 Vr hsh
   rw[apH]
   refine⟨fun d hd=> ?_,apE.2⟩
   obtain⟨D,q1,q2,q3,q4⟩:=apE.1 d hd
   refine⟨D,q1,q2,hx2 _ q3,?_⟩
   rw[hsh.keep D fun d' hd' he=> ?_]
   ·exact hf2.keep _ _ (fun ho=>hi1.sim.PK ho q3) q4
   ·obtain⟨D',g1,g2,_,_⟩:=Vr.1 d' hd'
    rw[g1]at he
    injection he with he
    have:=bT q4
    omega
  have ret:∀(X2:Nat→Prop) (s2:St) (E2:Emb),(∀b,X1 b→X2 b)→pwp C s2.mem.boxes.length s2.mem.aA.length pc3 (JC te b K) ⟨[(0, .ptr b 0),(t5, .d .nilIface)],s2.mem⟩→
    InS C X2 ⟨w1.heap.size,D1::a1.defers,false,some (te, .pointer (some ⟨blk,0,none⟩))⟩ n s2 a2 w2 E2→From w1 s1.mem E1 w2 s2.mem E2→LeavesInM Fence.wide 0 C.P fn a2.tmps (fun e w'=>Fin C X w M E K KP w' e) a2.defers .returning w2:=by
   intro X2 s2 E2 hx2 ajx aos hf2
   obtain⟨ms2,aow,Vr,_⟩:=aos.defers
   rw[aow]
   refine qO (by simp) Vr fun w3 hsh=> ?_
   obtain⟨q1,q2,q3⟩:=MJ aos.sim hlow1 hf2 Vr hsh
   refine hD .returning .returning X2 w3 s2.mem E2 .nilIface .nilIface (by simp) hx2 q1 q2 .nilIface (hmark X2 w2 w3 s2.mem E2 ms2 hx2 hf2 Vr hsh) (fun c₀ cs hm=> .inr ⟨by simp[recoverD,hm],rfl,rfl⟩) rfl ajx _ ?_
   exact aos.fix _ rfl
  cases e with
  |normal=>obtain⟨X2,s2,E2,hx2,h1,h2,h3⟩:=hp;exact ret X2 s2 E2 hx2 h1 h2 h3
  |ret=>obtain⟨X2,s2,E2,hx2,h1,h2,h3⟩:=hp;exact ret X2 s2 E2 hx2 h1 h2 h3
  |exit id=>obtain⟨_,_,_,_,he,_⟩:=hp;exact he.elim
  |goto l=>exact hp.elim
  |outgrown=>exact hp.elim
  |panic ch=>
   obtain⟨X2,v,d,M2,E2,hx2,rfl,ajx,hS2,hf2,hrd,⟨ms2,aow,Vr,_⟩,hfix⟩:=hp
   show LeavesInM Fence.wide 0 C.P fn a2.tmps (fun e w'=>Fin C X w M E K KP w' e) a2.defers (.panicking [{v,recovered:=false}]) w2
   rw[aow]
   refine qO (by simp) Vr fun w3 hsh=> ?_
   obtain⟨q1,q2,q3⟩:=MJ hS2 hlow1 hf2 Vr hsh
   refine hD (.panicking [{v,recovered:=false}]) (.panicking [{v,recovered:=true}]) X2 w3 M2 E2 d v (by simp) hx2 q1 q2 (hrd.mono q3) (hmark X2 w2 w3 M2 E2 ms2 hx2 hf2 Vr hsh) (fun c₀ cs hm=> .inl ⟨_,by simp[recoverD,hm],rfl⟩) rfl ajx _ ?_
   exact hfix _ rfl
end
open Go.Sort
theorem KQ:∀xs:List Int,flat (xs.map (DV.int .i64))=xs.map (DV.int .i64)
 | []=>rfl
 |x::xs=>by
  have:=KQ xs
  simp only[flat]at this⊢
  simp only[List.map_cons,List.flatMap_cons,this]
  rfl
theorem XL {w:World}{O:Nat→Prop}:∀xs:List Int,aQ w O (xs.map (Value.int .i64)) (xs.map (DV.int .i64))
 | []=> .nil
 |x::xs=> .cons (.int _ _) (XL xs)
theorem Jp {w:World}{O:Nat→Prop}:∀{vs:List Value} {xs:List Int},aQ w O vs (xs.map (DV.int .i64))→vs=xs.map (Value.int .i64)
 | _,[], .nil=>rfl
 | _,x::xs, .cons h t=>by
  cases h
  rw[Jp t]
  rfl
section
variable {C:Ctx}
theorem amR {ρ:Go.Shelf.Ren}(Ly:Go.Proofs.Lays.n189 C.P ρ){k ver:Nat}{zs:List Int}{bs:List (Option (List PV))}{fz:List Nat}{ar:List (Option Arr)}{K:PV→Mem→Prop}{KP:DV→Mem→Prop}
  (h:ar[k]?=some (some ⟨1,zs.map (DV.int .i64),ver,1⟩))(hz:zs≠[])(hl:zs.length<4611686018427387904)
  (hK:K (.d (.tup [])) ⟨bs,fz,ar.set k (some ⟨1,(zs.mergeSort fun x y=>decide (x≤y)).map (DV.int .i64),ver,1⟩)⟩):SC C (ρ.f 189) [.tsl k ver 0] ⟨bs,fz,ar⟩ K KP:=by
 intro X w E vals hS hA
 cases hA with|cons hr ht=>
 cases ht
 cases hr with|tsl hlt hh=>
 obtain⟨_,hv⟩:=hh _ h
 obtain⟨loc,hloc,hT⟩:=hv rfl
 obtain⟨s1,s2,s3,s4⟩:=hS.arr k _ h
 obtain⟨q,hq⟩:=s3 rfl
 rw[hq]at hloc
 cases hloc
 obtain⟨blk,o,e⟩:=q
 obtain⟨hX,vs,T,g2,g3,g4,g5⟩:=s4 blk o e hq
 obtain⟨_,hT⟩:=hT
 rcases hT with⟨cap',he,_,_⟩|⟨h0,_⟩
 case inr=>exact absurd (by simpa using h0) hz
 cases he
 simp only[List.length_map,Nat.mul_one]at g3 g5
 rw[KQ]at g5
 have hcells:=Jp g5
 have hH:Holds (Value.int .i64) w blk o zs.toArray:=by
  intro j hj
  have hj':j<zs.length:=by simpa using hj
  have hv:vs[o+j]?=some (.int .i64 zs[j]):=by
   have:=congrArg (fun l=>l[j]?) hcells
   simp only[List.getElem?_take,hj',if_true,List.getElem?_drop,Array.getElem?_toList,List.getElem?_map,List.getElem?_eq_getElem hj',Option.map_some]at this
   exact this
  refine⟨?_,?_⟩
  ·rw[cell_of_row w blk (o+j) vs T.ty T.fr g2,hv]
   simp[hj']
  ·have hlt:o+j<vs.size:=(Array.getElem?_eq_some_iff.1 hv).1
   obtain⟨ty,⟨f1,f2⟩,hok⟩:=T
   simp only at hok g2
   simp[World.frozen?,g2]
   intro hh
   omega
 have hblk:blk<w.heap.size:=bT g2
 simp only[List.length_map,Nat.sub_zero,Nat.zero_mul,Nat.add_zero]
 refine(Go.Proofs.Any.slices_Sort_int Ly blk o _ zs w hH hblk hl).mono ?_
 rintro en w' ⟨rfl,n,os,rfl⟩
 generalize hss:(zs.mergeSort fun x y=>decide (x≤y))=ss at*
 have hsl:ss.length=zs.length:=by rw[←hss,List.length_mergeSort]
 have hw:Wrote blk w (putRow (Value.int .i64) (Go.Sort.ahead w n) blk o ss.toArray) (putCells (Value.int .i64) o ss.toArray vs).toList T.ty T.fr:=
  {os:=rfl
   tape:=rfl
   output:=rfl
   size:=by simp[putRow,mapBlock,Go.Sort.ahead]
   at_:=by simp[putRow,mapBlock,Go.Sort.ahead,Array.getElem?_modify,g2,onCells]
   keep:=fun b hb=>by simp[putRow,mapBlock,Go.Sort.ahead,Array.getElem?_modify,Ne.symm hb]}
 have hrow:((putCells (Value.int .i64) o ss.toArray vs).toList.drop o).take zs.length=ss.map (Value.int .i64):=by
  apply List.ext_getElem?
  intro j
  rw[List.getElem?_take,List.getElem?_drop,Array.getElem?_toList,List.getElem?_map]
  by_cases hj:j<zs.length
  ·rw[if_pos hj]
   have hj':j<ss.length:=by omega
   have hv:o+j<vs.size:=by omega
   simp[putCells,Array.getElem?_mapIdx,hv,hj']
  ·rw[if_neg hj,List.getElem?_eq_none (by omega)];rfl
 have hsv:=P8 (el:=ss.map (DV.int .i64)) hS h rfl hq g2 (by simp[hsl]) (by intro x hx;obtain⟨y,_,rfl⟩:=List.mem_map.1 hx;rfl) (by simp[putCells]) (by
  simp only[List.length_map,Nat.mul_one]
  rw[KQ,hrow]
  exact XL ss) hw
 have hla:Later (putRow (Value.int .i64) (Go.Sort.ahead w n) blk o ss.toArray) (grow (putRow (Value.int .i64) (Go.Sort.ahead w n) blk o ss.toArray) os):=
  ⟨rfl,rfl,rfl,by simp[grow],fun b hb=>by simp only[grow];rw[Array.getElem?_append_left hb]⟩
 exact⟨_,_,E,hK,hsv.1.later hla,hsv.2.trans (hla.from _ _), .d (.tup .nil)⟩
end
section
variable {C:Ctx}
theorem VW {X:Nat→Prop}:∀b,away X bH ⟨[],[]⟩ b→X b:=by
 rintro b (h|⟨i,cs,h,_⟩|⟨k,A,o,e,h,_⟩)
 ·exact h
 ·simp[bH]at h
 ·simp[bH]at h
theorem X7 {f:FuncId}{ds:List DV}{Kr:DV→Prop}{Kp:DV→Prop}(h:SC C f (ds.map .d) bH (fun v M'=>∃x,datum M' v=some x∧Kr x.strip) (fun d _=>Kp d)){M:Mem}{K:PV→Mem→Prop}{KP:DV→Mem→Prop}
  (hK:∀x,Kr x→K (.d x) M)(hP:∀d,Kp d→KP d M):SC C f (ds.map .d) M K KP:=by
 intro X w E vals hS hA
 have hlow:∀b,C.low b→away X M E b:=fun b hb=> .inl (hS.iE b hb)
 have hlt:∀b,away X M E b→b<w.heap.size:=fun b hb=>hS.CV hb
 have hA':aK w (away (away X M E) bH ⟨[],[]⟩) bH ⟨[],[]⟩ vals (ds.map .d):=by
  refine aK.ofD ?_
  have:aQ w (away X M E) vals ds:=aK.toL hA
  exact this.weaken VW
 refine(h (away X M E) w ⟨[],[]⟩ vals (RP hS.glob hlow hlt) hA').mono fun e w' he=> ?_
 cases e with
 |returned v=>
  obtain⟨p,M',E',⟨x,hd,hx⟩,h2,h3,h4⟩:=he
  have hl:=h3.Nl
  refine⟨.d x.strip,M,E,hK _ hx,hS.later hl,hl.from M E, .d ?_⟩
  exact((mF (ps:=[p]) h2 h4 hd (by simp)).weaken fun b hb=> .inl hb).strip
 |panicked c=>
  obtain⟨v,d,M',E',hc,hp,h2,h3,h4⟩:=he
  have hl:=h3.Nl
  exact⟨v,d,M,E,hc,hP _ hp,hS.later hl,hl.from M E,h4.weaken fun b hb=> .inl hb⟩
 |outgrown=>exact he.elim
theorem uh {f:FuncId}{ds:List DV}{r:DV}
  (h:∀(X:Nat→Prop) (w:World) (vals:List Value),C.G w→(∀b,X b→b<w.heap.size)→aQ w X vals ds→Calls C.P f vals.toArray w fun e w'=>∃v,e= .returned v∧Later w w'∧bf w' X v r):Pure C f ds (.d r) []:=by
 intro X w vals hG hl hx hr
 refine(h X w vals hG hx hr).mono fun e w' he=> ?_
 obtain⟨v,rfl,hla,hv⟩:=he
 have hS:Sim C X w bH ⟨[],[]⟩:=RP hG hl hx
 exact⟨v,⟨[],[]⟩,rfl,hS.later hla,hla.from _ _, .d (hv.weaken VW)⟩
end
section
variable {C:Ctx}{X:Nat→Prop}{w w':World}{M:Mem}{E E':Emb}
def afS:DV→Bool
 | .int _ _=>true
 | .bool _=>true
 | .str _=>true
 | _=>false
theorem ajm {O O':Nat→Prop}:∀{cs:List DV} {vs:List Value},cs.all afS=true→aQ w O vs cs→aQ w' O' vs cs
 | [],_,_, .nil=> .nil
 |c::cs,_,h, .cons hc ht=>by
  simp only[List.all_cons,Bool.and_eq_true]at h
  refine .cons ?_ (ajm h.2 ht)
  cases hc<;>first|exact .int _ _|exact .bool _|exact .str _|(simp[afS]at h)
def nC (A:Arr):Bool:=(A.st==1||(A.elems.isEmpty&&A.st !=2))&&(flat A.elems).all afS
def WC:PV→Bool| .d x=>IW x| .tsl _ _ _=>true| _=>false
def aeA:PV→Bool| .agg cs=>cs.all WC|p=>WC p
def abL:PV→Bool| .agg cs=>cs.all WC| .tup cs=>cs.all aeA|p=>WC p
theorem NC {rs:List Arr}{X1:Nat→Prop}(hS:Sim C X w M E)(h:Sim C X1 w' (rowsOf rs) E')(hf:From w bH ⟨[],[]⟩ w' (rowsOf rs) E')(has:rs.all nC=true):Sim C (away X M E) w' (rowsOf rs) E':=
 {glob:=h.glob,iE:=fun b hb=> .inl (hS.iE b hb),xlt:=fun b hb=>Nat.lt_of_lt_of_le (hS.CV hb) hf.size,ig:=h.ig,aY:=h.aY
  box:=fun b cs hb=>by simp[rowsOf]at hb
  arr:=fun k A hA=>by
   obtain⟨h1,h2,h3,h4⟩:=h.arr k A hA
   have hm:A∈rs:=by
    simp only[rowsOf,List.getElem?_map]at hA
    cases hk:rs[k]? with
    |none=>simp[hk]at hA
    |some B=>rw[hk]at hA;simp at hA;subst hA;exact List.mem_of_getElem? hk
   have hfl:=List.all_eq_true.1 has A hm
   simp only[nC,Bool.and_eq_true]at hfl
   have hst:A.st≠2:=by
    intro e
    rcases Bool.or_eq_true_iff.1 hfl.1 with h|h
    ·rw[e]at h;simp at h
    ·rw[e]at h;simp at h
   refine⟨h1,h2,h3,fun blk o e he=> ?_⟩
   obtain⟨g1,vs,T,g2,g3,g4,g5⟩:=h4 blk o e he
   refine⟨fun hb=> ?_,vs,T,g2,g3,g4,ajm (by simpa using hfl.2) g5⟩
   have hnew:w.heap.size≤blk:=by
    refine(hf.own blk (.inr ⟨k,A,o,e,hA,hst,he⟩)).resolve_left ?_
    rintro(⟨i,cs,h1,_⟩|⟨k,A,o,e,h1,_⟩)<;>simp[bH]at h1
   have:=hS.CV hb
   omega
  bb:=fun b b' cs cs' blk h1=>by simp[rowsOf]at h1
  aa:=h.aa
  ba:=fun b k cs A blk o e h1=>by simp[rowsOf]at h1}
theorem PY {rs:List Arr}{X1 X2:Nat→Prop}(h:Sim C X1 w' (rowsOf rs) E')(has:rs.all nC=true){v:Value}{p:PV}(hp:WC p=true)(hr:Rep w' (away X1 (rowsOf rs) E') (rowsOf rs) E' v p):Rep w' (away X2 (rowsOf rs) E') (rowsOf rs) E' v p:=by
 cases p with
 |d x=>exact .d (abM hp hr.toD)
 |tsl k ver skip=>
  cases hr with|tsl hlt hh=>
  refine .tsl hlt fun A hA=> ?_
  obtain⟨q1,q2⟩:=hh A hA
  refine⟨q1,fun e=> ?_⟩
  obtain⟨loc,q3,q4,q5⟩:=q2 e
  refine⟨loc,q3,q4,?_⟩
  cases loc with
  |some q=>exact q5
  |none=>
   have hm:A∈rs:=by
    simp only[rowsOf,List.getElem?_map]at hA
    cases hk:rs[k]? with
    |none=>simp[hk]at hA
    |some B=>rw[hk]at hA;simp at hA;subst hA;exact List.mem_of_getElem? hk
   have hfl:=List.all_eq_true.1 has A hm
   simp only[nC,Bool.and_eq_true]at hfl
   rcases Bool.or_eq_true_iff.1 hfl.1 with h1|h1
   ·simp only[beq_iff_eq]at h1
    obtain⟨q,hq⟩:=(h.arr k A hA).2.2.1 h1
    rw[q3]at hq;cases hq
   ·simp only[Bool.and_eq_true,List.isEmpty_iff]at h1
    have he:A.elems.drop skip=[]:=by rw[h1.1];simp
    simp only at q5⊢
    rw[he]at q5⊢
    cases q5 with
    |empty hx=>exact .empty hx
    |slice hb ho hl hs hc hx hh=>
     simp only[List.length_nil]at hl
     subst hl
     exact .empty hx
 | _=>simp[WC]at hp
theorem LZ {rs:List Arr}{X1 X2:Nat→Prop}(h:Sim C X1 w' (rowsOf rs) E')(has:rs.all nC=true):∀{vs:List Value} {ps:List PV},ps.all WC=true→aK w' (away X1 (rowsOf rs) E') (rowsOf rs) E' vs ps→aK w' (away X2 (rowsOf rs) E') (rowsOf rs) E' vs ps
 | _,_,_, .nil=> .nil
 | _,_,hp, .cons hr ht=>by
  simp only[List.all_cons,Bool.and_eq_true]at hp
  exact .cons (PY h has hp.1 hr) (LZ h has hp.2 ht)
theorem afm {rs:List Arr}{X1 X2:Nat→Prop}(h:Sim C X1 w' (rowsOf rs) E')(has:rs.all nC=true){v:Value}{p:PV}(hp:aeA p=true)(hr:Rep w' (away X1 (rowsOf rs) E') (rowsOf rs) E' v p):Rep w' (away X2 (rowsOf rs) E') (rowsOf rs) E' v p:=by
 cases p with
 |agg cs=>cases hr with|agg hh=>exact .agg (LZ h has hp hh)
 | _=>exact PY h has hp hr
theorem U1 {rs:List Arr}{X1 X2:Nat→Prop}(h:Sim C X1 w' (rowsOf rs) E')(has:rs.all nC=true):∀{vs:List Value} {ps:List PV},ps.all aeA=true→aK w' (away X1 (rowsOf rs) E') (rowsOf rs) E' vs ps→aK w' (away X2 (rowsOf rs) E') (rowsOf rs) E' vs ps
 | _,_,_, .nil=> .nil
 | _,_,hp, .cons hr ht=>by
  simp only[List.all_cons,Bool.and_eq_true]at hp
  exact .cons (afm h has hp.1 hr) (U1 h has hp.2 ht)
theorem Zz {rs:List Arr}{X1 X2:Nat→Prop}(h:Sim C X1 w' (rowsOf rs) E')(has:rs.all nC=true){v:Value}{p:PV}(hp:abL p=true)(hr:Rep w' (away X1 (rowsOf rs) E') (rowsOf rs) E' v p):Rep w' (away X2 (rowsOf rs) E') (rowsOf rs) E' v p:=by
 cases p with
 |agg cs=>cases hr with|agg hh=>exact .agg (LZ h has hp hh)
 |tup cs=>cases hr with|tup hh=>exact .tup (U1 h has hp hh)
 | _=>exact PY h has hp hr
theorem adh {f:FuncId}{args:List PV}{ds ds':List DV}{r:PV}{rs:List Arr}(h:Pure C f ds' r rs)(hr:abL r=true)(has:rs.all nC=true){K:PV→Mem→Prop}{KP:DV→Mem→Prop}
  (hds:dD M args=some ds)(he:ds.map DV.strip=ds')(hK:K (r.shift M.aA.length) {M with aA:=M.aA++rs.map some}):SC C f args M K KP:=by
 subst he
 intro X w E vals hS hA
 have hS1:=pz hS args
 have hd:=(yZ hS hA hds (fun q hq=>hq)).strip
 refine(h (away X (M.frz args) E) w vals hS.glob (fun b hb=> .inl (hS.iE b hb)) (fun b hb=>hS1.CV hb) hd).mono fun e w' he=> ?_
 obtain⟨v,E',rfl,hS',hF,hv⟩:=he
 have hst:∀A∈rs,A.st≠2:=fun A hm e=>by
  have hfl:=List.all_eq_true.1 has A hm
  simp only[nC,Bool.and_eq_true]at hfl
  rcases Bool.or_eq_true_iff.1 hfl.1 with h|h
  ·rw[e]at h;simp at h
  ·rw[e]at h;simp at h
 obtain⟨j1,j2,j3⟩:=MK hS (NC hS hS' hF has) hF hst
 exact⟨_,_,_,hK,j1,j2,TR hS.aY (fun b hb=>(j3 b).1 hb) (Zz hS' has hr hv)⟩
end
def FzB (M:Mem):Prop:=∀i∈M.fz,i<M.boxes.length
structure Kept (n:Nat) (own wJ:Nat→Prop) (M M':Mem):Prop where
 len:M.boxes.length≤M'.boxes.length
 aY:M.aA.length≤M'.aA.length
 box:∀i,(n≤i∨own i)→i<M.boxes.length→M'.boxes[i]?=M.boxes[i]?
 fz:∀i,(n≤i∨own i)→i<M.boxes.length→(i∈M'.fz↔i∈M.fz)
 row:∀k,wJ k→M'.aA[k]?=M.aA[k]?
 fzb:FzB M→FzB M'
structure Moved (n:Nat) (own:Nat→Prop) (M M':Mem):Prop where
 len:M.boxes.length≤M'.boxes.length
 box:∀i,i<n→¬own i→M'.boxes[i]?=M.boxes[i]?
 fz:∀i,i<n→¬own i→(i∈M'.fz↔i∈M.fz)
 aA:M'.aA=M.aA
 fzb:FzB M→FzB M'
theorem Kept.refl {n:Nat}{own wJ:Nat→Prop}(M:Mem):Kept n own wJ M M:=⟨Nat.le_refl _,Nat.le_refl _,fun _ _ _=>rfl,fun _ _ _=>Iff.rfl,fun _ _=>rfl,id⟩
theorem Moved.refl {n:Nat}{own:Nat→Prop}(M:Mem):Moved n own M M:=⟨Nat.le_refl _,fun _ _ _=>rfl,fun _ _ _=>Iff.rfl,rfl,id⟩
theorem Kept.trans {n:Nat}{own wJ:Nat→Prop}{M M' M'':Mem}(h:Kept n own wJ M M')(h':Kept n own wJ M' M''):Kept n own wJ M M'':=
 ⟨Nat.le_trans h.len h'.len,Nat.le_trans h.aY h'.aY,fun i hi hl=>(h'.box i hi (Nat.lt_of_lt_of_le hl h.len)).trans (h.box i hi hl),fun i hi hl=>(h'.fz i hi (Nat.lt_of_lt_of_le hl h.len)).trans (h.fz i hi hl),fun k hk=>(h'.row k hk).trans (h.row k hk),fun hb=>h'.fzb (h.fzb hb)⟩
theorem Moved.trans {n:Nat}{own:Nat→Prop}{M M' M'':Mem}(h:Moved n own M M')(h':Moved n own M' M''):Moved n own M M'':=
 ⟨Nat.le_trans h.len h'.len,fun i hi hl=>(h'.box i hi hl).trans (h.box i hi hl),fun i hi hl=>(h'.fz i hi hl).trans (h.fz i hi hl),h'.aA.trans h.aA,fun hb=>h'.fzb (h.fzb hb)⟩
theorem Moved.less {n m:Nat}{own own':Nat→Prop}{M M':Mem}(h:Moved n own M M')(hm:m≤n)(ho:∀i,i<m→own i→own' i):Moved m own' M M':=
 ⟨h.len,fun i hi hn=>h.box i (Nat.lt_of_lt_of_le hi hm) fun h=>hn (ho i hi h),fun i hi hn=>h.fz i (Nat.lt_of_lt_of_le hi hm) fun h=>hn (ho i hi h),h.aA,h.fzb⟩
theorem Moved.ext {n:Nat}{own:Nat→Prop}{bs xb:List (Option (List PV))}{fz xf:List Nat}{ar:List (Option Arr)}(hn:n≤bs.length)(hx:∀i∈xf,n≤i∧i<bs.length+xb.length):Moved n own ⟨bs,fz,ar⟩ ⟨bs++xb,xf++fz,ar⟩:=
 ⟨by simp,fun i hi _=>by rw[List.getElem?_append_left (Nat.lt_of_lt_of_le hi hn)],fun i hi _=>by
  simp only[List.mem_append]
  exact⟨fun h=>h.elim (fun h=>absurd (hx i h).1 (by omega)) id, .inr⟩,rfl,fun hb i hi=>by
  simp only[List.length_append]
  rcases List.mem_append.1 hi with h|h
  ·exact(hx i h).2
  ·have:=hb i h;simp only at this;omega⟩
theorem FzB.set {M:Mem}{i:Nat}{x:Option (List PV)}(h:FzB M):FzB {M with boxes:=M.boxes.set i x}:=fun j hj=>by simpa using h j hj
theorem Moved.set {n:Nat}{own:Nat→Prop}{M:Mem}{i:Nat}{x:Option (List PV)}(hi:n≤i∨own i):Moved n own M {M with boxes:=M.boxes.set i x}:=
 ⟨by simp,fun j hj hn=>by
  have:i≠j:=by rintro rfl;exact hi.elim (fun h=>by omega) hn
  simp[this],fun _ _ _=>Iff.rfl,rfl,fun h=>h.set⟩
theorem Kept.set {n:Nat}{own wJ:Nat→Prop}{M:Mem}{i:Nat}{x:Option (List PV)}(hi:i<n)(ho:¬own i):Kept n own wJ M {M with boxes:=M.boxes.set i x}:=
 ⟨by simp,Nat.le_refl _,fun j hj _=>by
  have:i≠j:=by rintro rfl;exact hj.elim (fun h=>by omega) ho
  simp[this],fun _ _ _=>Iff.rfl,fun _ _=>rfl,fun h=>h.set⟩
theorem Kept.set2 {n:Nat}{own wJ:Nat→Prop}{M M':Mem}{i:Nat}{x:Option (List PV)}(h:Kept n own wJ M M')(hi:i<n)(ho:¬own i):Kept n own wJ M {M' with boxes:=M'.boxes.set i x}:=h.trans (.set hi ho)
theorem Kept.ext {n:Nat}{own wJ:Nat→Prop}{bs xb:List (Option (List PV))}{fz xf:List Nat}{ar ar':List (Option Arr)}(hx:∀i∈xf,bs.length≤i∧i<bs.length+xb.length)(hl:ar.length≤ar'.length)(hr:∀k,wJ k→ar'[k]?=ar[k]?):Kept n own wJ ⟨bs,fz,ar⟩ ⟨bs++xb,xf++fz,ar'⟩:=
 ⟨by simp,hl,fun i _ hi=>by rw[List.getElem?_append_left hi],fun i _ hi=>by
  simp only[List.mem_append]
  exact⟨fun h=>h.elim (fun h=>absurd (hx i h).1 (by simp only at hi;omega)) id, .inr⟩,hr,fun hb i hi=>by
  simp only[List.length_append]
  rcases List.mem_append.1 hi with h|h
  ·exact(hx i h).2
  ·have:=hb i h;simp only at this;omega⟩
section
variable {C:Ctx}
theorem gI {f:FuncId}{ds:List DV}{x:DV}(hsc:SC C f (ds.map .d) bH (fun p M=>datum M p=some x) (fun _ _=>False)):Pure C f ds (.d x) []:=by
 intro X w vals hG hl hx hr
 refine(hsc X w ⟨[],[]⟩ vals (RP hG hl hx) (aK.ofD (hr.weaken MW))).mono fun e w' he=> ?_
 cases e with
 |returned v=>
  obtain⟨p,M',E',hd,h2,h3,h4⟩:=he
  have hz:Fz M' []:=⟨fun q hq=>(by cases hq),List.nodup_nil⟩
  exact⟨v,_,rfl,aaS h2 hz,WI h3 hz, .d ((mF (ps:=[p]) h2 h4 hd (by simp)).weaken fun b hb=> .inl (MW b hb))⟩
 |panicked c=>
  obtain⟨v,d,M',E',_,hh,_⟩:=he
  exact hh.elim
 |outgrown=>exact he.elim
def Qd (M:Mem)(p:PV)(sz:Nat)(xs:List DV)(st:Nat):Prop:=∃k ver,p= .tsl k ver 0∧M.aA[k]?=some (some ⟨sz,xs,ver,st⟩)
theorem Qd.datum {M:Mem}{p:PV}{sz st:Nat}{xs:List DV}(h:Qd M p sz xs st):Go.Am.datum M p=some (.slice false xs):=by
 obtain⟨k,ver,rfl,h⟩:=h
 simp[Go.Am.datum,Mem.row,h]
theorem UZ {f:FuncId}{ds:List DV}{sz st:Nat}{xs:List DV}(hsc:SC C f (ds.map .d) bH (fun p M=>Qd M p sz xs st) (fun _ _=>False)):Pure C f ds (.tsl 0 0 0) [⟨sz,xs,0,st⟩]:=by
 refine Jj (SC.mono hsc fun p M h=> ?_)
 obtain⟨k,ver,rfl,h⟩:=h
 refine⟨[(k,0)],⟨fun q hq=>by simp only[List.mem_singleton]at hq;subst hq;simp[Fv,h],by simp⟩,?_,?_⟩
 ·simp[ren,XJ,Mem.row,h,Rf]
 ·simp[mkRow,h]
end
def YN (C:Ctx)(g:FuncId)(fs cs:List PV)(xs:List (List DV))(own ch wJ:Nat→Prop)(st:Mem→Prop):Prop:=
 ∀(M:Mem) (b n:Nat) (R:List (List DV)→Mem→Prop) (stop:Mem→Prop) (K:PV→Mem→Prop) (KP:DV→Mem→Prop),b<n→¬own b→n≤M.boxes.length→(∀i∈M.fz,i<M.boxes.length)→st M→
  (∀pre M1 M2,Moved n ch M1 M2→R pre M1→R pre M2)→
  (∀pre x post M1,xs=pre++x::post→n≤M1.boxes.length→R pre M1→
   SY C b (x.map .d) M1 (fun p M'=>Kept n own wJ M1 M'∧((p= .d (.bool true)∧R (pre++ [x]) M')∨(p= .d (.bool false)∧stop M'))) KP)→
  R [] M→(∀p M',stop M'→K p M')→(∀p M',n≤M'.boxes.length→R xs M'→K p M')→SC C g (fs++ [.qY b]++cs) M K KP
theorem aag {cs:List PV}{off:Nat}{ps:List (Nat×Nat)}{p:PV}{vs:List PV}(h1:p.cells=[p])(h2:p.wS=false)(h:off+1≤cs.length):nV cs ((off,1)::ps) (p::vs)=nV (splice cs off [p]) ps vs:=by
 simp[nV,h1,h2,h]
theorem ahn {cs:List PV}{off:Nat}{ps:List (Nat×Nat)}{k v s:Nat}{vs:List PV}(h:off+1≤cs.length):nV cs ((off,1)::ps) (.tsl k v s::vs)=nV (splice cs off [.tsl k v s]) ps vs:=aag rfl rfl h
theorem ahm {cs:List PV}{off:Nat}{ps:List (Nat×Nat)}{b o:Nat}{vs:List PV}(h:off+1≤cs.length):nV cs ((off,1)::ps) (.ptr b o::vs)=nV (splice cs off [.ptr b o]) ps vs:=aag rfl rfl h
theorem O7 {cs:List PV}{off:Nat}{ps:List (Nat×Nat)}{b:Nat}{vs:List PV}(h:off+1≤cs.length):nV cs ((off,1)::ps) (.mref b::vs)=nV (splice cs off [.mref b]) ps vs:=aag rfl rfl h
theorem ahk {cs as':List PV}{off n:Nat}{ps:List (Nat×Nat)}{vs:List PV}(h1:as'.length=n)(h:off+n≤cs.length):nV cs ((off,n)::ps) (.agg as'::vs)=nV (splice cs off as') ps vs:=by
 simp[nV,PV.cells,PV.wS,h1,h]
theorem bn {k v s:Nat}{l:List PV}:jd (.tsl k v s::l)=none:=rfl
theorem vM {b:Nat}{l:List PV}:jd (.mref b::l)=none:=rfl
theorem jr {cs:List PV}:PV.cells (.agg cs)=cs:=rfl
theorem Lr {b:Nat}:PV.one (.mref b)=true:=rfl
theorem IV {cs:List PV}:PV.wS (.agg cs)=false:=rfl
theorem pJ {b o:Nat}{l:List PV}:jd (.ptr b o::l)=none:=rfl
theorem cells_func {fn:Fn}{f c:List PV}:PV.cells (.func fn f c)=[.func fn f c]:=rfl
theorem Di {b o:Nat}:PV.cells (.ptr b o)=[.ptr b o]:=rfl
theorem bM {k v s:Nat}:PV.cells (.tsl k v s)=[.tsl k v s]:=rfl
theorem aeb {b:Nat}:PV.cells (.qY b)=[.qY b]:=rfl
theorem ab3 {b:Nat}:PV.wS (.qY b)=false:=rfl
theorem O9 {b o:Nat}:PV.wS (.ptr b o)=false:=rfl
theorem acO {fn:Fn}{f c:List PV}:PV.one (.func fn f c)=true:=rfl
theorem Nr {b o:Nat}:PV.one (.ptr b o)=true:=rfl
theorem dN {k v s:Nat}:PV.one (.tsl k v s)=true:=rfl
section
variable {C:Ctx}{nb na:Nat}{Q:Ex→St→Prop}
def zL (env:List (Nat×PV))(b:Nat)(L:Loop)(cells:List PV)(own wJ:Nat→Prop)(M1:Mem)(more:Mem→Prop)(Q:Ex→St→Prop)(e:Ex)(s:St):Prop:=
 match e with
 | .normal=>s.mem.boxes[b]?=some (some (.gV {L with state:= .busy,pending:=none}::cells))∧b∉s.mem.fz∧Kept (b+1) own wJ M1 s.mem∧more s.mem
 | .ret=>s.mem.boxes[b]?=some (some (.gV {L with state:= .busy,pending:=none}::cells))∧b∉s.mem.fz∧Kept (b+1) own wJ M1 s.mem∧∀M2,Moved b (fun _=>False) s.mem M2→Q .ret ⟨env,M2⟩
 | .exit id=>s.mem.boxes[b]?=some (some (.gV {L with state:= .busy,pending:=none}::cells))∧b∉s.mem.fz∧Kept (b+1) own wJ M1 s.mem∧∀M2,Moved b (fun _=>False) s.mem M2→Q (.exit id) ⟨env,M2⟩
 | .panic d=>Q (.panic d) ⟨[],s.mem⟩
theorem WW {b:Nat}{own wJ:Nat→Prop}{M1 M':Mem}{x y:Option (List PV)}(hb:b<M1.boxes.length)(ho:¬own b)(h:Kept (b+1) own wJ {M1 with boxes:=M1.boxes.set b x} M'):Kept (b+1) own wJ M1 {M' with boxes:=M'.boxes.set b y}:=by
 have hl:M1.boxes.length≤M'.boxes.length:=by simpa using h.len
 refine⟨by simpa using h.len,h.aY,fun i hi hlt=> ?_,fun i hi hlt=>h.fz i hi (by simpa using hlt),h.row,fun hb=>(h.fzb hb.set).set⟩
 have hne:b≠i:=by rintro rfl;exact hi.elim (fun h=>by omega) ho
 have:=h.box i hi (by simpa using hlt)
 simpa[hne]using this
theorem vG {f:Opd}{ps keys:List Nat}{asg body:aB}{s:St}{g:FuncId}{fs cs:List PV}{xs:List (List DV)}{own ch wJ:Nat→Prop}{st:Mem→Prop}(hit:YN C g fs cs xs own ch wJ st)(hch:∀i,ch i→own i)(hv:alH (s.val f)=some (g,fs,cs))(hc:callable C.P g=true)
  (KX:∀i∈s.mem.fz,i<s.mem.boxes.length)(hps:∀x∈xs,x.length=ps.length)(hown:∀i,own i→i<s.mem.boxes.length)(hst:∀M',Moved s.mem.boxes.length (fun _=>False) s.mem M'→st M')
  (I:List (List DV)→Mem→Prop)(hI:∀pre M1 M2,Moved s.mem.boxes.length ch M1 M2→I pre M1→I pre M2)(h0:I [] s.mem)
  (hb:∀(L:Loop) (cells:List PV) (pre:List (List DV)) (x:List DV) (post:List (List DV)) (M1:Mem),xs=pre++x::post→s.mem.boxes.length<M1.boxes.length→
   M1.boxes[s.mem.boxes.length]?=some (some (.gV {L with state:= .busy,pending:=none}::cells))→s.mem.boxes.length∉M1.fz→I pre M1→∀M0:Mem,
   pwp C nb na asg (fun e s1=>e= .normal∧s1.mem=M0∧pwp C nb na body (zL s.env s.mem.boxes.length L cells own wJ M1 (I (pre++ [x])) Q) ⟨s1.env,M1⟩) ⟨ps.zip (x.map .d)++iI s.env keys,M0⟩)
  (he:∀M1,I xs M1→s.mem.boxes.length<M1.boxes.length→Q .normal ⟨s.env,M1⟩):
  pwp C nb na (.xB f ps keys asg body) Q s:=by
 have hfz:s.mem.boxes.length∉s.mem.fz:=fun h=>Nat.lt_irrefl _ (KX _ h)
 refine⟨g,fs,cs,hv,hc,hfz,fun L hL nD=> ?_⟩
 generalize hcells:(List.range L.tmps.size).map (look s.env)=cells at nD⊢
 obtain⟨n0,hn0⟩:∃n0,n0=s.mem.boxes.length:=⟨_,rfl⟩
 rw[←hn0]at nD hfz KX hown hst hI hb he⊢
 have hmv:Moved n0 (fun _=>False) s.mem (iq s.mem L .ready none cells [] [] []):=by
  rw[hn0]
  refine⟨by simp[iq],fun i hi _=> ?_,fun i hi _=>by simp[iq],by simp[iq],fun hb i hi=> ?_⟩
  ·simp only[iq]
   rw[List.getElem?_append_left hi]
  ·have:=hb i (by simpa[iq]using hi)
   simp[iq];omega
 have hrec:(iq s.mem L .ready none cells [] [] []).boxes[n0]?=some (some (.gV {L with state:= .ready,pending:=none}::cells)):=by rw[hn0];exact aav
 have hfin:∀(e:Ex) (st:LoopState) (pd:Option Code) (M':Mem),M'.boxes[n0]?=some (some (.gV {L with state:=st,pending:=pd}::cells))→st≠ .busy→n0∉M'.fz→
   (match pd with|none=>e= .normal|some .ret=>e= .ret|some (.exit id)=>e= .exit id| _=>False)→(∀M2,Moved n0 (fun _=>False) M' M2→Q e ⟨s.env,M2⟩)→afterLoop Q s.env n0 L M':=by
  intro e st pd M' h1 h2 h3 h4 h5
  refine⟨st,pd,cells,h1,h2,h3,?_⟩
  have h6:∀x,Q e ⟨s.env,{M' with boxes:=M'.boxes.set n0 x}⟩:=fun x=>h5 _ (Moved.set (.inl (Nat.le_refl _)))
  match pd,h4 with
  |none,h4=>subst h4;exact h6 _
  |some .ret,h4=>subst h4;exact h6 _
  |some (.exit id),h4=>subst h4;exact h6 _
 refine hit _ n0 (n0+1) (fun pre M1=>M1.boxes[n0]?=some (some (.gV {L with state:= .ready,pending:=none}::cells))∧n0∉M1.fz∧I pre M1)
  (fun M'=>afterLoop Q s.env n0 L M') _ _ (by omega) (fun h=>by have:=hown _ h;omega) (by rw[hn0];simp[iq]) (fun i hi=>by simp only[iq,List.nil_append,List.length_append,List.length_cons,List.length_nil]at hi⊢;have:=KX i hi;rw[←hn0];omega) (hst _ hmv) ?_ ?_ ⟨hrec,by simpa[iq]using hfz,hI _ _ _ (hmv.less (Nat.le_refl _) fun _ _ h=>h.elim) h0⟩ (fun _ _ h=>h) ?_
 ·rintro pre M1 M2 hm ⟨h1,h2,h3⟩
  have ho:¬ch n0:=fun h=>by have:=hown _ (hch _ h);omega
  exact⟨by rw[hm.box n0 (by omega) ho];exact h1,fun h=>h2 ((hm.fz n0 (by omega) ho).1 h),hI _ _ _ (hm.less (by omega) fun _ _ h=>h) h3⟩
 ·rintro pre x post M1 hx hl ⟨h1,h2,h3⟩
  have ho:¬own n0:=fun h=>by have:=hown _ h;omega
  refine nD x _ _ M1 (hps x (by rw[hx];simp)) h1 h2 ?_
  have hb':=hb L cells pre x post {M1 with boxes:=M1.boxes.set n0 (some (.gV {L with state:= .busy,pending:=none}::cells))} hx (by simp only[List.length_set];omega) (by rw[List.getElem?_set];simp;omega) h2 (hI _ _ _ (Moved.set (.inl (Nat.le_refl _))) h3) M1
  refine qp ?_ hb'
  rintro e s1 ⟨g1,g2,g3⟩
  refine⟨g1,g2,qp ?_ g3⟩
  intro e2 s2 h
  cases e2 with
  |normal=>
   obtain⟨k1,k2,k3,k4⟩:=h
   refine⟨cells,k1,k2,WW (by omega) ho k3, .inl ⟨rfl,?_,k2,hI _ _ _ (Moved.set (.inl (Nat.le_refl _))) k4⟩⟩
   have:=(List.getElem?_eq_some_iff.1 k1).1
   simp[this]
  |ret=>
   obtain⟨k1,k2,k3,k4⟩:=h
   refine⟨cells,k1,k2,WW (by omega) ho k3, .inr ⟨rfl,hfin .ret .done (some .ret) _ ?_ (by simp) k2 rfl fun M2 hm=>k4 M2 ((Moved.set (.inl (Nat.le_refl _))).trans hm)⟩⟩
   have:=(List.getElem?_eq_some_iff.1 k1).1
   simp[this]
  |exit id=>
   obtain⟨k1,k2,k3,k4⟩:=h
   refine⟨cells,k1,k2,WW (by omega) ho k3, .inr ⟨rfl,hfin (.exit id) .done (some (.exit id)) _ ?_ (by simp) k2 rfl fun M2 hm=>k4 M2 ((Moved.set (.inl (Nat.le_refl _))).trans hm)⟩⟩
   have:=(List.getElem?_eq_some_iff.1 k1).1
   simp[this]
  |panic d=>exact h
 ·rintro p M1 hl ⟨h1,h2,h3⟩
  refine hfin .normal .ready none M1 h1 (by simp) h2 rfl fun M2 hm=>he M2 (hI _ _ _ (hm.less (Nat.le_refl _) fun _ _ h=>h.elim) h3) ?_
  have:=hm.len
  omega
end
end Go.Am
namespace Go.Tel
open Go.Am
namespace F
abbrev arH:FuncId:=10
abbrev GZ:FuncId:=19
abbrev sG:FuncId:=21
abbrev XD:FuncId:=23
abbrev P6:FuncId:=26
abbrev Jv:FuncId:=27
abbrev P7:FuncId:=28
abbrev Ny:FuncId:=29
abbrev Qm:FuncId:=30
abbrev Fe:FuncId:=31
abbrev Bc:FuncId:=36
abbrev oN:FuncId:=38
abbrev vg:FuncId:=40
abbrev zo:FuncId:=42
abbrev PS:FuncId:=43
abbrev qN:FuncId:=44
abbrev Bh:FuncId:=46
abbrev arX:FuncId:=47
abbrev SN:FuncId:=68
abbrev gY:FuncId:=69
abbrev dh:FuncId:=70
abbrev uO:FuncId:=71
abbrev ku:FuncId:=72
abbrev oM:FuncId:=73
abbrev iM:FuncId:=74
abbrev fB:FuncId:=75
abbrev dX:FuncId:=76
abbrev dW:FuncId:=77
abbrev fH:FuncId:=78
abbrev fM:FuncId:=79
abbrev gG:FuncId:=80
abbrev fD:FuncId:=81
abbrev fC:FuncId:=82
abbrev fK:FuncId:=83
abbrev fJ:FuncId:=84
abbrev fO:FuncId:=85
abbrev dK:FuncId:=86
abbrev XB:FuncId:=87
abbrev jP:FuncId:=89
abbrev MP:FuncId:=90
abbrev qU:FuncId:=91
abbrev jO:FuncId:=92
abbrev TY:FuncId:=93
abbrev Gx:FuncId:=94
abbrev VN:FuncId:=95
abbrev Yb:FuncId:=96
abbrev nT:FuncId:=97
abbrev Dj:FuncId:=98
abbrev ny:FuncId:=99
abbrev nU:FuncId:=100
abbrev KJ:FuncId:=101
abbrev Dx:FuncId:=102
abbrev zT:FuncId:=103
abbrev uY:FuncId:=104
abbrev vw:FuncId:=107
abbrev lC:FuncId:=108
abbrev Bd:FuncId:=109
abbrev jB:FuncId:=110
abbrev lD:FuncId:=111
abbrev jh:FuncId:=112
abbrev bF:FuncId:=113
abbrev slices_Clone_int:FuncId:=114
abbrev strings_HasSuffix:FuncId:=115
abbrev Gy:FuncId:=116
abbrev nH:FuncId:=117
abbrev strings_TrimSuffix:FuncId:=118
abbrev arY:FuncId:=119
abbrev mM:FuncId:=121
abbrev oZ:FuncId:=122
abbrev XE:FuncId:=123
abbrev afh:FuncId:=124
abbrev vk:FuncId:=125
abbrev lg:FuncId:=126
abbrev XF:FuncId:=127
abbrev arN:FuncId:=129
abbrev ajM:FuncId:=158
abbrev ajN:FuncId:=159
abbrev ajL:FuncId:=160
abbrev ajK:FuncId:=161
abbrev SL:FuncId:=162
abbrev gZ:FuncId:=163
abbrev pF:FuncId:=164
abbrev yt:FuncId:=165
abbrev dL:FuncId:=166
abbrev jL:FuncId:=167
abbrev fZ:FuncId:=168
abbrev Ju:FuncId:=169
abbrev fG:FuncId:=170
abbrev jK:FuncId:=171
abbrev kM:FuncId:=172
abbrev pY:FuncId:=173
abbrev iW:FuncId:=174
abbrev Sz:FuncId:=175
abbrev Ei:FuncId:=176
abbrev AU:FuncId:=177
abbrev Ya:FuncId:=178
abbrev dY:FuncId:=179
abbrev yh:FuncId:=180
abbrev zO:FuncId:=181
abbrev FU:FuncId:=182
abbrev Nz:FuncId:=183
abbrev zD:FuncId:=184
abbrev JB:FuncId:=185
abbrev GK:FuncId:=186
abbrev Bj:FuncId:=187
abbrev nN:FuncId:=188
abbrev ni:FuncId:=189
abbrev zh:FuncId:=190
abbrev vP:FuncId:=191
abbrev jS:FuncId:=192
abbrev Qo:FuncId:=193
abbrev gQ:FuncId:=194
abbrev qM:FuncId:=195
abbrev uZ:FuncId:=196
abbrev P5:FuncId:=197
abbrev Gv:FuncId:=198
abbrev fE:FuncId:=199
abbrev lF:FuncId:=200
abbrev kL:FuncId:=201
abbrev iL:FuncId:=202
abbrev iR:FuncId:=203
abbrev kJ:FuncId:=204
abbrev slices_Contains_int:FuncId:=205
abbrev kK:FuncId:=206
abbrev fP:FuncId:=207
abbrev AQ:FuncId:=208
abbrev kN:FuncId:=209
abbrev stringslite_HasSuffix:FuncId:=210
abbrev uU:FuncId:=211
abbrev strings_IndexByte:FuncId:=212
abbrev strconv_Itoa:FuncId:=213
abbrev sJ:FuncId:=214
abbrev stringslite_TrimSuffix:FuncId:=215
abbrev Aq:FuncId:=217
abbrev strings_Join:FuncId:=218
abbrev strings_Split:FuncId:=219
abbrev jA:FuncId:=220
abbrev nY:FuncId:=221
abbrev KZ:FuncId:=238
abbrev vJ:FuncId:=239
abbrev slices_Sort_int:FuncId:=240
abbrev mD:FuncId:=241
abbrev Jw:FuncId:=242
abbrev Bl:FuncId:=243
abbrev wE:FuncId:=244
abbrev yc:FuncId:=245
abbrev zB:FuncId:=246
abbrev yg:FuncId:=247
abbrev O4:FuncId:=248
abbrev abC:FuncId:=249
abbrev Um:FuncId:=250
abbrev zf:FuncId:=251
abbrev uS:FuncId:=252
abbrev Gw:FuncId:=253
abbrev PL:FuncId:=254
abbrev qL:FuncId:=255
abbrev EM:FuncId:=256
abbrev gU:FuncId:=257
abbrev Bz:FuncId:=258
abbrev zN:FuncId:=259
abbrev GI:FuncId:=260
abbrev zQ:FuncId:=261
abbrev FP:FuncId:=262
abbrev uK:FuncId:=263
abbrev GH:FuncId:=264
abbrev iT:FuncId:=265
abbrev Wi:FuncId:=266
abbrev IG:FuncId:=267
abbrev gu:FuncId:=268
abbrev slices_Index_int:FuncId:=269
abbrev lH:FuncId:=270
abbrev slices_Delete_int:FuncId:=271
abbrev oP:FuncId:=274
abbrev qK:FuncId:=288
abbrev yj:FuncId:=291
abbrev aeh:FuncId:=292
abbrev slices_BinarySearch_int:FuncId:=293
abbrev H7:FuncId:=294
abbrev xw:FuncId:=295
abbrev iU:FuncId:=296
abbrev Ua:FuncId:=297
abbrev Nb:FuncId:=298
abbrev cmp_Less_int:FuncId:=318
abbrev qV:FuncId:=323
abbrev cmp_isNaN_int:FuncId:=343
abbrev nJ:FuncId:=373
abbrev sH:FuncId:=375
abbrev nI:FuncId:=376
abbrev oO:FuncId:=377
abbrev oQ:FuncId:=378
abbrev sK:FuncId:=379
end F
namespace T
abbrev int:TypeId:=3
abbrev bool:TypeId:=4
abbrev string:TypeId:=9
abbrev aZ:TypeId:=169
abbrev iQ:TypeId:=173
abbrev uP:TypeId:=224
abbrev eu:TypeId:=263
abbrev bD:TypeId:=265
abbrev dR:TypeId:=267
abbrev dF:TypeId:=269
abbrev eF:TypeId:=271
abbrev SA:TypeId:=346
abbrev ag8:TypeId:=348
end T
noncomputable def C:Ctx:=
 {P:=Go.Proofs.Tryz.prog
  low:=fun b=>Go.Proofs.Tryz.prog.globalNamed "internal/strconv.uint64pow10" =some b
  G:=fun w=>Go.Lib.TabIs Go.Proofs.Tryz.prog w "internal/strconv.uint64pow10" .u64 Go.Lib.pow10Tab
  keeps:=fun w w' h hk=>by
   unfold Go.Lib.TabIs World.var? at h⊢
   cases hg:Go.Proofs.Tryz.prog.globalNamed "internal/strconv.uint64pow10" with
   |none=>rw[hg]at h;exact h
   |some g=>
    rw[hg]at h
    simp only[Option.bind_some]at h⊢
    rw[hk g hg]
    exact h}
theorem mixed:C.P.follows .mixedOrders=true:=by kernel_rfl
abbrev kI (n:Int):Opd:= .c (.int .i64 n)
abbrev mv (d a:Nat):PO:=⟨some d, .mov,[.t a],none,0⟩
abbrev mk (d:Nat)(a:Opd):PO:=⟨some d, .mov,[a],none,0⟩
abbrev oa (d:Nat)(o:POp)(a:Nat):PO:=⟨some d,o,[.t a],none,0⟩
abbrev ob (d:Nat)(o:POp)(a b:Nat):PO:=⟨some d,o,[.t a, .t b],none,0⟩
abbrev oc (d:Nat)(o:POp)(a:Nat)(b:Opd):PO:=⟨some d,o,[.t a,b],none,0⟩
abbrev on (d:Nat)(o:POp)(l:List Opd):PO:=⟨some d,o,l,none,0⟩
abbrev of (d:Nat)(o:POp)(l:List Opd)(f:Nat):PO:=⟨some d,o,l,none,f⟩
abbrev ot (d:Nat)(o:POp)(l:List Opd)(g f:Nat):PO:=⟨some d,o,l,some (g,true),f⟩
abbrev oF (d:Nat)(o:POp)(l:List Opd)(g f:Nat):PO:=⟨some d,o,l,some (g,false),f⟩
abbrev lo (d a:Nat):PO:=⟨some d, .load false 1,[.t a],none,0⟩
abbrev os (o:POp)(l:List Opd)(f:Nat):PO:=⟨none,o,l,none,f⟩
abbrev rg (l:List PO)(n:Nat)(k:List Nat):aB:= .region false l n k []
def BQ:aB:=(.seq (rg [on 2 (.jV 1) [.c (.slice true [])]] 0 [0]) (.seq (.seq (rg [mv 3 0,oc 4 (.isNil false) 3 (.c (.slice true []))] 0 [0,4]) (.cond (.t 4) (.seq (rg [on 2 (.jV 1) [.c (.slice true [])]] 0 [2]) .ret) .skip)) (.seq (rg [on 5 (.iH 1 [] []) [],mv 6 0,ob 7 (.app 1 false) 5 6,mv 2 7] 0 [2]) .ret)))
def CJ:List aJ:=[.tmp 2]
theorem NY:aC C.P F.slices_Clone_int 1 BQ CJ=true:=by kernel_rfl
def Ak:aB:=(.seq (rg [mk 4 (.c (.bool false))] 0 [0,1]) (.seq (rg [mv 5 0,mv 6 1,ob 7 (.ak F.stringslite_HasSuffix) 5 6,mv 4 7] 0 [4]) .ret))
def AL:List aJ:=[.tmp 4]
theorem Lp:aC C.P F.strings_HasSuffix 2 Ak AL=true:=by kernel_rfl
def Ht:aB:=(.seq (rg [oa 1 (.box 0) 0,mk 2 (.c (.nilFunc))] 1 [1]) (.seq (rg [oa 3 (.mkF (.func F.uU) 0) 1,mv 2 3] 0 [2]) .ret))
def Ih:List aJ:=[.tmp 2]
theorem TA:aC C.P F.Gy 1 Ht Ih=true:=by kernel_rfl
def yN:aB:=(.seq (rg [mk 4 (.c (.str ⟨#[]⟩))] 0 [0,1]) (.seq (rg [mv 5 0,mv 6 1,ob 7 (.ak F.stringslite_TrimSuffix) 5 6,mv 4 7] 0 [4]) .ret))
def yX:List aJ:=[.tmp 4]
theorem KD:aC C.P F.strings_TrimSuffix 2 yN yX=true:=by kernel_rfl
def qo:aB:=(.seq (rg [mk 2 (.c (.slice true []))] 0 [0]) (.seq (rg [mv 4 0,oa 5 (.call F.vJ) 4,mv 3 5] 0 [3]) (.seq (rg [mv 6 3,oa 7 (.call F.slices_Sort_int) 6] 0 [3]) (.seq (rg [mv 8 3,mv 2 8] 0 [2]) .ret))))
def qG:List aJ:=[.tmp 2]
theorem Ac:aC C.P F.pF 1 qo qG=true:=by kernel_rfl
def Aj:aB:=(.seq (.region false [oa 1 (.box 0) 0,mk 2 (.c (.nilFunc))] 1 [1] [1]) (.seq (rg [oa 3 (.mkF (.func F.mD) 0) 1,mv 2 3] 0 [2]) .ret))
def AB:List aJ:=[.tmp 2]
theorem Lm:aC C.P F.yt 1 Aj AB=true:=by kernel_rfl
def qm:aB:=(.seq (rg [mk 4 (.c (.bool false))] 0 [0,1]) (.seq (rg [mv 5 0,mv 6 1,ob 7 (.ak F.qL) 5 6,oc 8 (.bin .geq) 7 (kI 0),mv 4 8] 0 [4]) .ret))
def qy:List aJ:=[.tmp 4]
theorem DZ:aC C.P F.dY 2 qm qy=true:=by kernel_rfl
def jD:aB:=(.seq (rg [mk 4 (.c (.bool false))] 0 [0,1]) (.seq (rg [mv 5 0,mv 6 1,ob 7 (.ak F.iT) 5 6,oc 8 (.bin .geq) 7 (kI 0),mv 4 8] 0 [4]) .ret))
def jF:List aJ:=[.tmp 4]
theorem sO:aC C.P F.gQ 2 jD jF=true:=by kernel_rfl
def iO:aB:=(.seq (rg [mk 4 (.c (.bool false))] 0 [0,1]) (.seq (rg [mv 5 0,mv 6 1,ob 7 (.ak F.gu) 5 6,oc 8 (.bin .geq) 7 (kI 0),mv 4 8] 0 [4]) .ret))
def iP:List aJ:=[.tmp 4]
theorem oU:aC C.P F.fE 2 iO iP=true:=by kernel_rfl
def ou:aB:=(.seq (rg [on 2 (.jV 3) [.c (.slice true [])]] 0 [0]) (.seq (.seq (rg [mv 3 0,oc 4 (.isNil false) 3 (.c (.slice true []))] 0 [0,4]) (.cond (.t 4) (.seq (rg [on 2 (.jV 3) [.c (.slice true [])]] 0 [2]) .ret) .skip)) (.seq (rg [on 5 (.iH 3 [] []) [],mv 6 0,ob 7 (.app 3 true) 5 6,mv 2 7] 0 [2]) .ret)))
def oG:List aJ:=[.tmp 2]
theorem Bg:aC C.P F.iL 1 ou oG=true:=by kernel_rfl
def kQ:aB:=(.seq (rg [on 2 (.jV 2) [.c (.slice true [])]] 0 [0]) (.seq (.seq (rg [mv 3 0,oc 4 (.isNil false) 3 (.c (.slice true []))] 0 [0,4]) (.cond (.t 4) (.seq (rg [on 2 (.jV 2) [.c (.slice true [])]] 0 [2]) .ret) .skip)) (.seq (rg [on 5 (.iH 2 [] []) [],mv 6 0,ob 7 (.app 2 true) 5 6,mv 2 7] 0 [2]) .ret)))
def kU:List aJ:=[.tmp 2]
theorem wG:aC C.P F.iR 1 kQ kU=true:=by kernel_rfl
def mX:aB:=(.seq (rg [on 2 (.jV 4) [.c (.slice true [])]] 0 [0]) (.seq (.seq (rg [mv 3 0,oc 4 (.isNil false) 3 (.c (.slice true []))] 0 [0,4]) (.cond (.t 4) (.seq (rg [on 2 (.jV 4) [.c (.slice true [])]] 0 [2]) .ret) .skip)) (.seq (rg [on 5 (.iH 4 [] []) [],mv 6 0,ob 7 (.app 4 false) 5 6,mv 2 7] 0 [2]) .ret)))
def mY:List aJ:=[.tmp 2]
theorem Aa:aC C.P F.kJ 1 mX mY=true:=by kernel_rfl
def xq:aB:=(.seq (rg [mk 4 (.c (.bool false))] 0 [0,1]) (.seq (rg [mv 5 0,mv 6 1,ob 7 (.ak F.slices_Index_int) 5 6,oc 8 (.bin .geq) 7 (kI 0),mv 4 8] 0 [4]) .ret))
def xU:List aJ:=[.tmp 4]
theorem Jg:aC C.P F.slices_Contains_int 2 xq xU=true:=by kernel_rfl
def lQ:aB:=(.seq (rg [mk 4 (.c (.bool false))] 0 [0,1]) (.seq (rg [mv 5 0,oa 6 .Kq 5,mv 7 1,oa 8 .Kq 7,ob 9 (.bin .geq) 6 8,mv 10 9,ot 11 .mov [.t 0] 10 0,ot 12 .mov [.t 0] 10 0,ot 13 .Kq [.t 12] 10 0,ot 14 .mov [.t 1] 10 0,ot 15 .Kq [.t 14] 10 0,ot 16 (.bin .sub) [.t 13,.t 15] 10 0,ot 17 (.RV true false) [.t 11,.t 16] 10 0,ot 18 .mov [.t 1] 10 0,ot 19 (.bin .eql) [.t 17,.t 18] 10 0,on 20 .pick [.t 10,.t 19,.c (.bool false)],mv 4 20] 0 [4]) .ret))
def lV:List aJ:=[.tmp 4]
theorem Gu:aC C.P F.stringslite_HasSuffix 2 lQ lV=true:=by kernel_rfl
def Ef:aB:=(.block 0 (.loop (.seq (.seq (rg [lo 5 1,oa 6 .Kq 5,oc 7 (.bin .gtr) 6 (kI 0)] 0 [0,1,7]) (.cond (.t 7) .skip (.exit 0))) (.block 1 (.seq (rg [mk 3 (.c (.str ⟨#[]⟩))] 0 [0,1]) (.seq (.seq (rg [lo 8 1,oc 9 (.ak F.strings_IndexByte) 8 (.c (.int .u8 10)),mv 4 9] 0 [0,1,4]) (.seq (rg [mv 10 4,oc 11 (.bin .geq) 10 (kI 0)] 0 [0,1,4,11]) (.cond (.t 11) (.region true [of 12 (.load false 1) [.t 1] 2,mv 13 4,oc 14 (.bin .add) 13 (kI 1),of 15 (.RV false true) [.t 12,.t 14] 1,of 16 (.load false 1) [.t 1] 2,mv 17 4,oc 18 (.bin .add) 17 (kI 1),of 19 (.RV true false) [.t 16,.t 18] 1,mv 3 15,os (.store 1) [.t 1,.t 19] 0] 0 [0,1,3] []) (rg [lo 20 1,mv 3 20,os (.store 1) [.t 1,.c (.str ⟨#[]⟩)] 0] 0 [0,1,3])))) (.seq (rg [mv 21 0,mv 22 3,ob 23 .je 21 22,oa 24 (.un .not) 23] 0 [0,1,24]) (.cond (.t 24) .ret .skip))))))))
end Go.Tel
