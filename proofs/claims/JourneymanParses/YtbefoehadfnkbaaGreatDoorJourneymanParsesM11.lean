/-
  Part 11 of the proof of a law of desks: an abstract machine over the model, contracts of functions, plain laws.
  Conditions: none.
-/
import Derived.Test.YtbefoehadfnkbaaGreatDoorJourneymanParsesM10
set_option linter.all false
namespace Go.Am
def gq:aB→Bool
 | .seq a b=>gq a&&gq b
 | .cond _ a b=>gq a&&gq b
 | .block _ c=>gq c
 | .scope c=>gq c
 | .loop _=>false
 | .xB _ _ _ _ _=>false
 | _=>true
theorem LX {C:Ctx}{nb na nb' na':Nat}:∀(pc:aB),gq pc=true→∀(Q:Ex→St→Prop),pwp C nb na pc Q=pwp C nb' na' pc Q
 | .skip,_,_=>rfl
 | .region _ _ _ _ _,_,_=>rfl
 | .exit _,_,_=>rfl
 | .label _,_,_=>rfl
 | .ret,_,_=>rfl
 | .seq a b,h,Q=>by
  simp only[gq,Bool.and_eq_true]at h
  funext s
  simp only[pwp]
  rw[LX (nb':=nb') (na':=na') a h.1]
  simp only[LX (nb':=nb') (na':=na') b h.2]
 | .cond c a b,h,Q=>by
  simp only[gq,Bool.and_eq_true]at h
  funext s
  simp only[pwp]
  rw[LX (nb':=nb') (na':=na') a h.1,LX (nb':=nb') (na':=na') b h.2]
 | .block id c,h,Q=>by
  simp only[gq]at h
  funext s
  simp only[pwp]
  rw[LX (nb':=nb') (na':=na') c h]
 | .scope c,h,Q=>by
  simp only[gq]at h
  funext s
  simp only[pwp]
  rw[LX (nb':=nb') (na':=na') c h]
 | .loop _,h,_=>by simp[gq]at h
 | .xB _ _ _ _ _,h,_=>by simp[gq]at h
def I5:aB→Bool
 | .seq a b=>I5 a&&I5 b
 | .cond _ a b=>I5 a&&I5 b
 | .block _ c=>I5 c
 | .scope c=>I5 c
 | .loop c=>I5 c
 | .xB _ _ _ _ _=>false
 | _=>true
theorem lJ:∀{pc:aB},gq pc=true→I5 pc=true
 | .skip,_=>rfl
 | .region _ _ _ _ _,_=>rfl
 | .exit _,_=>rfl
 | .label _,_=>rfl
 | .ret,_=>rfl
 | .seq a b,h=>by simp only[gq,Bool.and_eq_true]at h;simp[I5,lJ h.1,lJ h.2]
 | .cond _ a b,h=>by simp only[gq,Bool.and_eq_true]at h;simp[I5,lJ h.1,lJ h.2]
 | .block _ c,h=>lJ (pc:=c) h
 | .scope c,h=>lJ (pc:=c) h
 | .loop _,h=>by simp[gq]at h
 | .xB _ _ _ _ _,h=>by simp[gq]at h
def Lc (t:Nat):Code→Bool
 | .seq a b=>Lc t a&&Lc t b
 | .cond _ a b=>Lc t a&&Lc t b
 | .block _ c=>Lc t c
 | .loop c=>Lc t c
 | .scope c=>Lc t c
 | .region _ ops _=>ops.all fun o=>o.dst !=some t
 | .rangeFunc _ _ _ _=>false
 | _=>true
def chk (P:Program)(n:Nat):Code→aB→Bool
 | .skip, .skip=>true
 | .region _ ops draw, .region d ps _ _ _=>draw==d&&QH P n ops ops.toList ps&&(!d||aaA ops ps)
 | .seq a b, .seq a' b'=>chk P n a a'&&chk P n b b'
 | .cond c x y, .cond c' x' y'=>acy c c'&&chk P n x x'&&chk P n y y'
 | .block id c, .block id' c'=>id==id'&&chk P n c c'
 | .loop c, .loop c'=>chk P n c c'
 | .exit id, .exit id'=>id==id'
 | .scope c, .scope c'=>chk P n c c'
 | .label l, .label l'=>l==l'
 | .ret, .ret=>true
 | .rangeFunc f ps x y, .xB f' ps' keys x' y'=>acy f f'&&decide (ps.toList=ps')&&decide ps'.Nodup&&(ps'.all (·<n))&&(keys.all (·<n))&&chk P n x x'&&chk P n y y'&&gq x'&&gq y'
 | _,_=>false
section
variable {C:Ctx}{X:Nat→Prop}
theorem ZO.move {w w':World}{O O':Nat→Prop}(hk:∀b o,¬O b→w.heap[b]?=some o→w'.heap[b]?=some o∧¬O' b){A:Arr}{loc:Option (Nat×Nat×Nat)}{i off:Nat}{v:Value}(h:ZO w O A loc i off v):ZO w' O' A loc i off v:=by
 refine⟨h.1,?_⟩
 cases loc with
 |none=>exact bf.mono hk h.2
 |some q=>exact h.2
theorem afH.move {w w':World}{O O':Nat→Prop}(hk:∀b o,¬O b→w.heap[b]?=some o→w'.heap[b]?=some o∧¬O' b){A:Arr}{loc:Option (Nat×Nat×Nat)}{skip:Nat}{v:Value}(h:afH w O A loc skip v):afH w' O' A loc skip v:=by
 refine⟨h.1,?_⟩
 cases loc with
 |none=>exact bf.mono hk h.2
 |some q=>exact h.2
theorem afG.move {w w':World}{O O':Nat→Prop}(hk:∀b o,¬O b→w.heap[b]?=some o→w'.heap[b]?=some o∧¬O' b){A:Arr}{loc:Option (Nat×Nat×Nat)}{skip len:Nat}{v:Value}(h:afG w O A loc skip len v):afG w' O' A loc skip len v:=by
 refine⟨h.1,?_⟩
 cases loc with
 |none=>exact bf.mono hk h.2
 |some q=>exact h.2
mutual
theorem Rep.move {w w':World}{O O':Nat→Prop}{M:Mem}{E:Emb}(hk:∀b o,¬O b→w.heap[b]?=some o→w'.heap[b]?=some o∧¬O' b):∀{v:Value} {p:PV},Rep w O M E v p→Rep w' O' M E v p
 | _,_, .d h=> .d (h.mono hk)
 | _,_, .ptr hl hb ho=> .ptr hl hb ho
 | _,_, .mref hl hb ho=> .mref hl hb ho
 | _,_, .qY hl hb ho=> .qY hl hb ho
 | _,_, .DN hl hb ho=> .DN hl hb ho
 | _,_, .jY hlt h=> .jY hlt fun A hA=>by
   obtain⟨h1,h2⟩:=h A hA
   exact⟨h1,fun e=>by obtain⟨loc,g1,g2⟩:=h2 e;exact⟨loc,g1,g2.move hk⟩⟩
 | _,_, .tsl hlt h=> .tsl hlt fun A hA=>by
   obtain⟨h1,h2⟩:=h A hA
   exact⟨h1,fun e=>by obtain⟨loc,g1,g2⟩:=h2 e;exact⟨loc,g1,g2.move hk⟩⟩
 | _,_, .psl hlt h=> .psl hlt fun A hA=>by
   obtain⟨h1,h2⟩:=h A hA
   exact⟨h1,fun e=>by obtain⟨loc,g1,g2⟩:=h2 e;exact⟨loc,g1,g2.move hk⟩⟩
 | _,_, .dead=> .dead
 | _,_, .func h1 h2=> .func (aK.move hk h1) (aK.move hk h2)
 | _,_, .agg h=> .agg (aK.move hk h)
 | _,_, .tup h=> .tup (aK.move hk h)
theorem aK.move {w w':World}{O O':Nat→Prop}{M:Mem}{E:Emb}(hk:∀b o,¬O b→w.heap[b]?=some o→w'.heap[b]?=some o∧¬O' b):∀{v:List Value} {p:List PV},aK w O M E v p→aK w' O' M E v p
 | _,_, .nil=> .nil
 | _,_, .cons h t=> .cons (Rep.move hk h) (aK.move hk t)
end
theorem Sim.shift {X':Nat→Prop}{w w':World}{M:Mem}{E:Emb}(h:Sim C X w M E)(hlow:∀b,C.low b→X' b)(hlt:∀b,X' b→b<w'.heap.size)(hg:∀b,C.low b→w'.heap[b]?=w.heap[b]?)
  (hk:∀b o,¬X b→w.heap[b]?=some o→w'.heap[b]?=some o∧¬X' b):Sim C X' w' M E∧(∀b o,¬away X M E b→w.heap[b]?=some o→w'.heap[b]?=some o∧¬away X' M E b):=by
 have hk':∀b o,¬away X M E b→w.heap[b]?=some o→w'.heap[b]?=some o∧¬away X' M E b:=by
  intro b o hb ho
  obtain⟨h1,h2⟩:=hk b o (fun hx=>hb (.inl hx)) ho
  exact⟨h1,fun hx=>hx.elim h2 fun ho'=>hb (.inr ho')⟩
 refine⟨?_,hk'⟩
 exact
  {glob:=C.keeps w w' h.glob hg,iE:=hlow,xlt:=hlt,ig:=h.ig,aY:=h.aY
   box:=fun b cs hb=>by
    obtain⟨blk,h1,h2,h3⟩:=h.box b cs hb
    obtain⟨o,ho⟩:=h3.obj
    exact⟨blk,h1,(hk blk o h2 ho).2,h3.move (fun o ho=>(hk blk o h2 ho).1) hk' fun _ _ _ hr=>hr.move hk'⟩
   arr:=fun k A hA=>by
    obtain⟨h1,h2,h3,h4⟩:=h.arr k A hA
    refine⟨h1,h2,h3,fun blk o e he=> ?_⟩
    obtain⟨g1,vs,T,g2,g3,g4,g5⟩:=h4 blk o e he
    exact⟨(hk blk _ g1 g2).2,vs,T,(hk blk _ g1 g2).1,g3,g4,g5.mono hk'⟩
   bb:=h.bb,aa:=h.aa,ba:=h.ba}
theorem Sim.less {X':Nat→Prop}{w:World}{M:Mem}{E:Emb}(h:Sim C X w M E)(hx:∀b,X' b→X b)(hlow:∀b,C.low b→X' b):Sim C X' w M E:=
 (h.shift hlow (fun b hb=>h.xlt b (hx b hb)) (fun _ _=>rfl) fun b o hb ho=>⟨ho,fun h'=>hb (hx b h')⟩).1
theorem Rep.less {X':Nat→Prop}{w:World}{M:Mem}{E:Emb}{v:Value}{p:PV}(h:Rep w (away X M E) M E v p)(hx:∀b,X' b→X b):Rep w (away X' M E) M E v p:=
 h.move fun b o hb ho=>⟨ho,fun h'=>hb (h'.imp (hx b) id)⟩
theorem RJ {w:World}{M:Mem}{E:Emb}{b:Nat}{L:Loop}{st st':LoopState}{pd pd':Option Code}{cells:List PV}(h:Sim C X w M E)(hb:M.boxes[b]?=some (some (.gV {L with state:=st,pending:=pd}::cells)))(hfz:b∉M.fz):
  ∃(l:Nat) (tmps:Array Value),E.bx[b]?=some l∧¬X l∧tmps.size=L.tmps.size∧w.heap[l]?=some (.loop {L with state:=st,pending:=pd,tmps:=tmps})∧aK w (away X M E) M E tmps.toList cells∧
   Sim C X (w.putObj l (.loop {L with state:=st',pending:=pd',tmps:=tmps})) {M with boxes:=M.boxes.set b (some (.gV {L with state:=st',pending:=pd'}::cells))} E∧
   From w M E (w.putObj l (.loop {L with state:=st',pending:=pd',tmps:=tmps})) {M with boxes:=M.boxes.set b (some (.gV {L with state:=st',pending:=pd'}::cells))} E:=by
 obtain⟨l,q1,q2,q3⟩:=h.box b _ hb
 obtain⟨tmps,r1,r2,r3⟩:=q3
 have hlt:=bT r2
 obtain⟨s1,s2⟩:=RQ (cs':= .gV {L with state:=st',pending:=pd'}::cells) h hb hfz rfl rfl q1 (Q8 w l (.loop {L with state:=st',pending:=pd',tmps:=tmps}) hlt)
  fun hf=>⟨tmps,r1,by simp[hlt],r3.from hf⟩
 exact⟨l,tmps,q1,q2,r1,r2,r3,s1,s2⟩
theorem KR:∀(l:List (Nat×Value)) (tmps:Array Value),(l.foldl (fun t (x:Nat×Value)=>t.setIfInBounds x.1 x.2) tmps).size=tmps.size
 | [],_=>rfl
 |x::l,tmps=>by rw[List.foldl_cons,KR l];simp
theorem JH {t:Nat}:∀(l:List (Nat×Value)) (tmps:Array Value),(∀x∈l,x.1≠t)→(l.foldl (fun t (x:Nat×Value)=>t.setIfInBounds x.1 x.2) tmps).getD t undef=tmps.getD t undef
 | [],_,_=>rfl
 |x::l,tmps,h=>by
  rw[List.foldl_cons,JH l _ fun y hy=>h y (by simp[hy])]
  have:x.1≠t:=h x (by simp)
  simp only[Array.getD_eq_getD_getElem?,Array.getElem?_setIfInBounds_ne this]
theorem ZB {R:Value→PV→Prop}{ape:List (Nat×PV)}{t:Nat}:∀(ps:List Nat) (vs:List Value) (ds:List PV) (tmps:Array Value),vs.length=ps.length→ds.length=ps.length→ps.Nodup→(∀p∈ps,p<tmps.size)→
  (∀(i:Nat) (v:Value) (d:PV),vs[i]?=some v→ds[i]?=some d→R v d)→(t∉ps→R (tmps.getD t undef) (look ape t))→
  R (((ps.zip vs).foldl (fun t (x:Nat×Value)=>t.setIfInBounds x.1 x.2) tmps).getD t undef) (look (ps.zip ds++ape) t)
 | [],_,_,_,_,_,_,_,_,h=>by simpa using h
 |p::ps,[],_,_,h,_,_,_,_,_=>by simp at h
 |p::ps,_::_,[],_,_,h,_,_,_,_=>by simp at h
 |p::ps,v::vs,d::ds,tmps,h1,h2,hn,hlt,hr,h0=>by
  rw[List.nodup_cons]at hn
  simp only[List.zip_cons_cons,List.foldl_cons,List.cons_append,look]
  by_cases hp:p=t
  ·subst hp
   simp only[beq_self_eq_true,cond_true]
   rw[JH _ _ fun x hx e=>hn.1 (by rw[←e];exact(List.of_mem_zip hx).1)]
   have:p<tmps.size:=hlt p (by simp)
   have e:(tmps.setIfInBounds p v).getD p undef=v:=by simp[Array.getD_eq_getD_getElem?,this]
   rw[e]
   exact hr 0 v d rfl rfl
  ·have:(p==t)=false:=by simp[hp]
   simp only[this,cond_false]
   refine ZB ps vs ds _ (by simpa using h1) (by simpa using h2) hn.2 (fun q hq=>by simpa using hlt q (by simp[hq])) (fun i v d hv hd=>hr (i+1) v d (by simpa using hv) (by simpa using hd)) fun ht=> ?_
   have e:(tmps.setIfInBounds p v).getD t undef=tmps.getD t undef:=by simp only[Array.getD_eq_getD_getElem?,Array.getElem?_setIfInBounds_ne hp]
   rw[e]
   exact h0 (by simp[ht,Ne.symm hp])
theorem aau {s:St}{n:Nat}{keys:List Nat}(hk:keys.all (·<n)=true)(t:Nat):look (iI s.env keys) t= .dead∨(t<n∧look (iI s.env keys) t=look s.env t):=by
 induction keys with
 |nil=>exact .inl rfl
 |cons k ks ih=>
  simp only[List.all_cons,Bool.and_eq_true,decide_eq_true_eq]at hk
  simp only[iI,List.map_cons,look]
  by_cases h:k=t
  ·subst h;simp[hk.1]
  ·have:(k==t)=false:=by simp[h]
   simp only[this,cond_false]
   exact ih hk.2
theorem InS.from {lo:Lo}{n:Nat}{s:St}{a:Act}{w w':World}{E E':Emb}{M':Mem}(h:InS C X lo n s a w E)(hS:Sim C X w' M' E')(hf:From w s.mem E w' M' E'):InS C X lo n ⟨s.env,M'⟩ a w' E':={
 sim:=hS
 env:=fun t=>(h.env t).from hf
 size:=h.size
 defers:=h.defers.from h.sim hf
 fix:=h.fix}
theorem Uy {M:Mem}{L:Loop}{st:LoopState}{pd:Option Code}{cells:List PV}{xb:List (Option (List PV))}{xf:List Nat}{xa:List (Option Arr)}:(iq M L st pd cells xb xf xa).boxes[M.boxes.length]?=some (some (.gV {L with state:=st,pending:=pd}::cells)):=by simp[iq]
theorem an4 {w:World}{O:Nat→Prop}{M:Mem}{E:Emb}{v:Value}{p:PV}{g:FuncId}{fs cs:List PV}(h:Rep w O M E v p)(hf:alH p=some (g,fs,cs)):
  ∃Fs Cs,v= .func (.func g) Fs Cs∧aK w O M E Fs.toList fs∧aK w O M E Cs.toList cs:=by
 unfold alH at hf
 split at hf
 ·cases hf
  have hd:=h.toD
  cases hd with
  |func hff hfc=>exact⟨_,_,rfl,aK.ofD hff,aK.ofD hfc⟩
 ·cases hf
  cases h with
  |func hff hfc=>exact⟨_,_,rfl,hff,hfc⟩
 ·cases hf
theorem jW (hm:C.P.follows .mixedOrders=true){n:Nat}:∀(c:Code) (pc:aB) {X:Nat→Prop} {w₀:World} {M₀:Mem} {E₀:Emb} {nb na:Nat} (_:M₀.boxes.length≤nb) (_:M₀.aA.length≤na) (B:FuncId→Prop) (_:(∀g,B g→∃fn,C.P.funcs[g]?=some fn)∨I5 pc=true) (ro:Option Nat) (ds₀:List Deferred) (ex:Bool) (fx:Option (Nat×Value)) (Q:Ex→St→Prop) (s:St) (a:Act) (w:World) (E:Emb),
  (∀q,fx=some q→Lc q.1 c=true)→(ro=none∨gq pc=true)→(ex=true→gq pc=true)→chk C.P n c pc=true→pwp C nb na pc Q s→InS C X ⟨w₀.heap.size,ds₀,ex,fx⟩ n s a w E→From w₀ M₀ E₀ w s.mem E→wpB B (RF ro) 0 C.P c (Post C X n w₀ M₀ E₀ ds₀ ex fx Q) a w
 | .skip,pc,X,w₀,M₀,E₀,nb,na,hb,ha,B,hB,ro,ds₀,ex,fx,Q,s,a,w,E,hnd,hro,hex,hc,h,hi,hf=>by
  cases pc<;>simp only[chk,Bool.false_eq_true]at hc
  exact MR (wpIn_skip ⟨X,s,E,fun _ h=>h,h,hi,hf⟩)
 | .label l,pc,X,w₀,M₀,E₀,nb,na,hb,ha,B,hB,ro,ds₀,ex,fx,Q,s,a,w,E,hnd,hro,hex,hc,h,hi,hf=>by
  cases pc<;>simp only[chk,Bool.false_eq_true]at hc
  exact MR (wpIn_label ⟨X,s,E,fun _ h=>h,h,hi,hf⟩)
 | .exit id,pc,X,w₀,M₀,E₀,nb,na,hb,ha,B,hB,ro,ds₀,ex,fx,Q,s,a,w,E,hnd,hro,hex,hc,h,hi,hf=>by
  cases pc<;>simp only[chk,Bool.false_eq_true,beq_iff_eq]at hc
  subst hc
  exact MR (wpIn_exit ⟨X,s,E,fun _ h=>h,h,hi,hf⟩)
 | .ret,pc,X,w₀,M₀,E₀,nb,na,hb,ha,B,hB,ro,ds₀,ex,fx,Q,s,a,w,E,hnd,hro,hex,hc,h,hi,hf=>by
  cases pc<;>simp only[chk,Bool.false_eq_true]at hc
  exact MR (wpIn_ret ⟨X,s,E,fun _ h=>h,h,hi,hf⟩)
 | .region id ops draw,pc,X,w₀,M₀,E₀,nb,na,hb,ha,B,hB,ro,ds₀,ex,fx,Q,s,a,w,E,hnd,hro,hex,hc,h,hi,hf=>by
  cases pc<;>simp only[chk,Bool.false_eq_true]at hc
  rename_i d ps ae5 keep fz
  simp only[Bool.and_eq_true,beq_iff_eq]at hc
  obtain⟨⟨rfl,hok⟩,hdr⟩:=hc
  simp only[pwp]at h
  obtain⟨i1,f1⟩:=hi.reserve ae5
  have hK:∀s' a' w' E',(fun s':St=>zW fz (Q .normal) ⟨iI s'.env keep,s'.mem⟩) s'→InS C X ⟨w₀.heap.size,ds₀,ex,fx⟩ n s' a' w' E'→From w₀ M₀ E₀ w' s'.mem E'→Post C X n w₀ M₀ E₀ ds₀ ex fx Q .normal a' w':=by
   intro s' a' w' E' hk hi' hf'
   obtain⟨s2,g1,g2,g3⟩:=Ut hk hi'.keep
   exact⟨X,s2,E',fun _ h=>h,g1,g2,hf'.trans g3⟩
  have hKP:∀d M' a' w' E' v,(fun d M=>Q (.panic d) ⟨[],M⟩) d M'→Sim C X w' M' E'→From w₀ M₀ E₀ w' M' E'→bf w' (away X M' E') v d→okD ⟨w₀.heap.size,ds₀,ex,fx⟩ X a'.defers w'→(∀q,fx=some q→a'.eval (.tmp q.1)=q.2)→Post C X n w₀ M₀ E₀ ds₀ ex fx Q (.panic [{v,recovered:=false}]) a' w':=by
   intro d M' a' w' E' v h1 h2 h3 h4 h5 h6
   exact⟨X,v,d,M',E',fun _ h=>h,rfl,h1,h2,h3,h4,h5,h6⟩
  have hfx:∀q,(⟨w₀.heap.size,ds₀,ex,fx⟩:Lo).fx=some q→∀o∈ops,o.dst≠some q.1:=fun q hq o ho=>by
   have:=hnd q hq
   simp only[Lc,Array.all_eq_true']at this
   simpa using this o ho
  cases draw with
  |false=>exact MR (wpIn_region (aa4 hfx hok i1 (hf.trans f1) h hK hKP))
  |true=>
   refine MR (aei hfx hm hok (by simpa using hdr) ?_ i1 (hf.trans f1) h hK hKP)
   intro s1 s2 he hmm hk
   have:iI s1.env keep=iI s2.env keep:=by simp only[iI,he]
   simp only[this,hmm]at hk
   exact hk
 | .seq x y,pc,X,w₀,M₀,E₀,nb,na,hb,ha,B,hB,ro,ds₀,ex,fx,Q,s,a,w,E,hnd,hro,hex,hc,h,hi,hf=>by
  cases pc<;>simp only[chk,Bool.false_eq_true,Bool.and_eq_true]at hc
  simp only[gq,Bool.and_eq_true]at hro hex
  simp only[pwp]at h
  refine am4 (AY (jW hm x _ hb ha B (hB.imp id fun e=>(Bool.and_eq_true_iff.1 e).1) ro ds₀ ex fx _ s a w E (fun q hq=>(Bool.and_eq_true_iff.1 (hnd q hq)).1) (hro.imp id And.left) (fun e=>(hex e).1) hc.1 h hi hf) fun e a' w' hp=> ?_)
  cases e with
  |normal=>
   obtain⟨X',s',E',hx,h1,h2,h3⟩:=hp
   exact AY (jW hm y _ hb ha B (hB.imp id fun e=>(Bool.and_eq_true_iff.1 e).2) ro ds₀ ex fx Q s' a' w' E' (fun q hq=>(Bool.and_eq_true_iff.1 (hnd q hq)).2) (hro.imp id And.right) (fun e=>(hex e).2) hc.2 h1 h2 h3) fun e a w hp=>hp.up hx
  |exit id=>exact hp
  |ret=>exact hp
  |panic ch=>exact hp
  |goto l=>exact hp.elim
  |outgrown=>exact hp.elim
 | .cond c x y,pc,X,w₀,M₀,E₀,nb,na,hb,ha,B,hB,ro,ds₀,ex,fx,Q,s,a,w,E,hnd,hro,hex,hc,h,hi,hf=>by
  cases pc<;>simp only[chk,Bool.false_eq_true,Bool.and_eq_true]at hc
  simp only[gq,Bool.and_eq_true]at hro hex
  obtain⟨⟨hc,hx⟩,hy⟩:=hc
  simp only[pwp]at h
  split at h
  ·rename_i t ht
   have hv:=aa0 hi hc
   rw[ht]at hv
   refine Yn hv.toD.pO (fun e=> ?_) (fun e=> ?_)
   ·exact jW hm x _ hb ha B (hB.imp id fun e=>(Bool.and_eq_true_iff.1 e).1) ro ds₀ ex fx Q s a w E (fun q hq=>(Bool.and_eq_true_iff.1 (hnd q hq)).1) (hro.imp id And.left) (fun e=>(hex e).1) hx (h.1 e) hi hf
   ·exact jW hm y _ hb ha B (hB.imp id fun e=>(Bool.and_eq_true_iff.1 e).2) ro ds₀ ex fx Q s a w E (fun q hq=>(Bool.and_eq_true_iff.1 (hnd q hq)).2) (hro.imp id And.right) (fun e=>(hex e).2) hy (h.2 e) hi hf
  ·exact h.elim
 | .block id c,pc,X,w₀,M₀,E₀,nb,na,hb,ha,B,hB,ro,ds₀,ex,fx,Q,s,a,w,E,hnd,hro,hex,hc,h,hi,hf=>by
  cases pc<;>simp only[chk,Bool.false_eq_true,Bool.and_eq_true,beq_iff_eq]at hc
  simp only[gq]at hro hex
  obtain⟨rfl,hc⟩:=hc
  simp only[pwp]at h
  refine aik (AY (jW hm c _ hb ha B (by simp only[I5]at hB;exact hB) ro ds₀ ex fx _ s a w E hnd hro hex hc h hi hf) fun e a' w' hp=> ?_)
  cases e with
  |normal=>exact hp
  |exit id'=>
   obtain⟨X',s',E',hx,h1,h2,h3⟩:=hp
   simp only[Exit.inBlock]
   simp only at h1
   split at h1
   ·rename_i hid;rw[if_pos hid];exact⟨X',s',E',hx,h1,h2,h3⟩
   ·rename_i hid;rw[if_neg hid];exact⟨X',s',E',hx,h1,h2,h3⟩
  |ret=>exact hp
  |panic ch=>exact hp
  |goto l=>exact hp.elim
  |outgrown=>exact hp.elim
 | .loop c,pc,X,w₀,M₀,E₀,nb,na,hb,ha,B,hB,ro,ds₀,ex,fx,Q,s,a,w,E,hnd,hro,hex,hc,h,hi,hf=>by
  cases pc<;>simp only[chk,Bool.false_eq_true]at hc
  simp only[gq,Bool.false_eq_true,or_false]at hro hex
  simp only[pwp]at h
  obtain⟨I,k,h0,hr⟩:=h
  refine akZ (fun k a w=>∃(X':Nat→Prop) (s:St) (E:Emb),(∀b,X b→X' b)∧I k s∧InS C X' ⟨w₀.heap.size,ds₀,ex,fx⟩ n s a w E∧From w₀ M₀ E₀ w s.mem E) k ⟨X,s,E,fun _ h=>h,h0,hi,hf⟩ ?_
  rintro k' a' w' ⟨X',s',E',hx,g1,g2,g3⟩
  refine AY (jW hm c _ hb ha B (by simp only[I5]at hB;exact hB) ro ds₀ ex fx _ s' a' w' E' hnd (.inl hro) (fun e=>(hex e).elim) hc (hr k' s' g1) g2 g3) fun e a2 w2 hp=> ?_
  cases e with
  |normal=>
   obtain⟨X2,s2,E2,hx2,⟨k2,s3,q1,q2,q3⟩,h2,h3⟩:=hp
   obtain⟨E3,r1,r2⟩:=afB h2 h3 hb ha q2
   exact⟨k2,q1,X2,s3,E3,fun b hb=>hx2 b (hx b hb),q3,r1,r2⟩
  |exit id=>obtain⟨X2,s2,E2,q1,q2⟩:=hp;exact⟨X2,s2,E2,fun b hb=>q1 b (hx b hb),q2⟩
  |ret=>obtain⟨X2,s2,E2,q1,q2⟩:=hp;exact⟨X2,s2,E2,fun b hb=>q1 b (hx b hb),q2⟩
  |panic ch=>obtain⟨X2,v2,d2,M2,E2,q1,q2⟩:=hp;exact⟨X2,v2,d2,M2,E2,fun b hb=>q1 b (hx b hb),q2⟩
  |goto l=>exact hp.elim
  |outgrown=>exact hp.elim
 | .scope c,pc,X,w₀,M₀,E₀,nb,na,hb,ha,B,hB,ro,ds₀,ex,fx,Q,s,a,w,E,hnd,hro,hex,hc,h,hi,hf=>by
  cases pc<;>simp only[chk,Bool.false_eq_true]at hc
  simp only[gq]at hro hex
  simp only[pwp]at h
  refine ail (AY (jW hm c _ hb ha B (by simp only[I5]at hB;exact hB) ro ds₀ ex fx Q s a w E hnd hro hex hc h hi hf) fun e a' w' hp=> ?_)
  cases e with
  |goto l=>exact hp.elim
  | _=>exact hp
 | .goto l,pc,X,w₀,M₀,E₀,nb,na,hb,ha,B,hB,ro,ds₀,ex,fx,Q,s,a,w,E,hnd,hro,hex,hc,h,hi,hf=>by cases pc<;>simp[chk]at hc
 | .refuse r,pc,X,w₀,M₀,E₀,nb,na,hb,ha,B,hB,ro,ds₀,ex,fx,Q,s,a,w,E,hnd,hro,hex,hc,h,hi,hf=>by cases pc<;>simp[chk]at hc
 | .rangeFunc f ps x y,pc,X,w₀,M₀,E₀,nb,na,hb,ha,B,hB,ro,ds₀,ex,fx,Q,s,a,w,E,hnd,hro,hex,hc,h,hi,hf=>by
  cases pc<;>simp only[chk,Bool.false_eq_true,Bool.and_eq_true,decide_eq_true_eq]at hc
  rename_i f' ps' keys x' y'
  simp only[gq,Bool.false_eq_true,or_false]at hro hex
  subst hro
  obtain⟨⟨⟨⟨⟨⟨⟨⟨hcf,rfl⟩,hnd⟩,hpl⟩,hkl⟩,hcx⟩,hcy⟩,hpx⟩,hpy⟩:=hc
  simp only[pwp]at h
  obtain⟨g,fs,cs,hfv,hcall,KX,h⟩:=h
  obtain⟨Fs,Cs,apB,hff,hfc⟩:=an4 (aa0 hi hcf) hfv
  ·
   obtain⟨D,hD⟩:∃D,D=w.heap.size:=⟨_,rfl⟩
   obtain⟨w1,hw1⟩:∃w1,w1=w.alloc (.deferred (some [])):=⟨_,rfl⟩
   have hB':∀g,B g→∃fn,C.P.funcs[g]?=some fn:=hB.resolve_right (by simp[I5])
   refine YM ?_
   intro fn _ hBf
   obtain⟨L,hL⟩:∃L:Loop,L={state:= .ready,pending:=none,fn:=fn,tmps:=a.tmps,params:=ps,assign:=x,body:=y,defers:=D}:=⟨_,rfl⟩
   have hLt:L.tmps=a.tmps:=by rw[hL]
   have hsz:L.tmps.size=n:=by rw[hLt,hi.size]
   obtain⟨cells,hcells⟩:∃cells,cells=(List.range L.tmps.size).map (look s.env):=⟨_,rfl⟩
   have h:=h L (by rw[hL])
   rw[←hcells]at h
   obtain⟨lp,hlp⟩:∃lp,lp=w.heap.size+1:=⟨_,rfl⟩
   have hl1:Later w w1:=hw1▸Later.alloc w _
   have hs1:w1.heap.size=w.heap.size+1:=by rw[hw1];simp
   have apq:w1.heap[D]?=some (.deferred (some [])):=by rw[hw1,hD];exact heap_alloc_new w _
   obtain⟨X',hX'⟩:∃X':Nat→Prop,X'=fun b=>X b∨b=D:=⟨_,rfl⟩
   have hxx:∀b,X b→X' b:=fun b hb=>by rw[hX'];exact .inl hb
   have hkX:∀b o,¬X b→w.heap[b]?=some o→w1.heap[b]?=some o∧¬X' b:=by
    intro b o hb ho
    refine⟨hl1.jC ho,?_⟩
    rw[hX']
    rintro(hx|rfl)
    ·exact hb hx
    ·have:=bT ho;omega
   obtain⟨hS1,hk1⟩:=hi.sim.shift (X':=X') (w':=w1) (fun b hb=>hxx b (hi.sim.iE b hb)) (fun b hb=>by
     rw[hX']at hb
     rcases hb with hb|rfl
     ·have:=hi.sim.xlt b hb;omega
     ·omega) (fun b hb=>hl1.keep b (hi.sim.xlt b (hi.sim.iE b hb))) hkX
   have hi1:InS C X' ⟨w₀.heap.size,ds₀,ex,fx⟩ n s a w1 E:=
    {sim:=hS1,env:=fun t=>(hi.env t).move hk1,size:=hi.size,fix:=hi.fix
     defers:=by
      obtain⟨ms,hms,⟨hm1,hm2⟩,hm3⟩:=hi.defers
      exact⟨ms,hms,⟨fun d hd=>by
       obtain⟨D',q1,q2,q3,q4⟩:=hm1 d hd
       exact⟨D',q1,q2,hxx _ q3,hl1.jC q4⟩,hm2⟩,hm3⟩}
   obtain⟨hS2,hf2⟩:=Vl hS1 1
   have hlenE:E.bx.length=s.mem.boxes.length:=hi.sim.ig
   obtain⟨hS3,hf3⟩:=aaR (o:= .loop L) (id:=s.mem.boxes.length) (cs:= .gV {L with state:= .ready,pending:=none}::cells) hS2 (by simp) (fun aqB=>by
    refine⟨a.tmps,by rw[hLt],?_,?_⟩
    ·rw[heap_alloc_new];rw[hL]
    ·have:aK w1 (away X' s.mem E) s.mem E a.tmps.toList cells:=by
      rw[hcells,hLt]
      have key:∀(m:Nat) (l:List Value),(∀i v,l[i]?=some v→a.tmps[m+i]?=some v)→aK w1 (away X' s.mem E) s.mem E l ((List.range' m l.length).map (look s.env)):=by
       intro m l
       induction l generalizing m with
       |nil=>intro _;exact .nil
       |cons v l ih=>
        intro hv
        rw[List.length_cons,List.range'_succ,List.map_cons]
        refine .cons ?_ (ih (m+1) fun i u hu=>by
         have:=hv (i+1) u (by simpa using hu)
         rw[←this];congr 1;omega)
        have h0:=hi1.env m
        have h1:=hv 0 v rfl
        simp only[Nat.add_zero]at h1
        simpa[Act.eval,Array.getD_eq_getD_getElem?,h1]using h0
      have:=key 0 a.tmps.toList (fun i v hv=>by simpa using hv)
      simpa[List.range_eq_range']using this
     exact(this.from hf2).from aqB)
   have hw2:(w1.alloc (.loop L)).heap[lp]?=some (.loop L):=by
    have:=heap_alloc_new w1 (.loop L)
    rwa [hs1,←hlp]at this
   have e1:({boxes:=(s.mem.boxes++List.replicate 1 none).set s.mem.boxes.length (some (.gV {L with state:= .ready,pending:=none}::cells)),fz:=s.mem.fz,aA:=s.mem.aA}:Mem)=iq s.mem L .ready none cells [] [] []:=by
    simp[iq]
   obtain⟨E1,hE1⟩:∃E1:Emb,E1={bx:=(E.bx++List.replicate 1 0).set s.mem.boxes.length w1.heap.size,ar:=E.ar}:=⟨_,rfl⟩
   obtain⟨w2,ajA⟩:∃w2,w2=w1.alloc (.loop L):=⟨_,rfl⟩
   have hSL:Sim C X' w2 (iq s.mem L .ready none cells [] [] []) E1:=by rw[←e1,hE1,ajA];exact hS3
   have hFL:From w s.mem E w2 (iq s.mem L .ready none cells [] [] []) E1:=by
    rw[←e1,hE1,ajA];exact((hl1.from s.mem E).trans hf2).trans hf3
   have aeF:From w1 s.mem E w2 (iq s.mem L .ready none cells [] [] []) E1:=by
    rw[←e1,hE1,ajA];exact hf2.trans hf3
   have hbl:E1.bx[s.mem.boxes.length]?=some lp:=by
    rw[hE1,hlp,hs1];simp[hlenE]
   rw[←ajA]at hw2
   have nD:∀(args:List DV) (K:PV→Mem→Prop) (KP:DV→Mem→Prop) (My:Mem),args.length=ps.toList.length→My.boxes[s.mem.boxes.length]?=some (some (.gV {L with state:= .ready,pending:=none}::cells))→s.mem.boxes.length∉My.fz→
     pwp C nb na x' (fun e s1=>e= .normal∧s1.mem=My∧pwp C nb na y' (akr s.mem.boxes.length L K KP) ⟨s1.env,{My with boxes:=My.boxes.set s.mem.boxes.length (some (.gV {L with state:= .busy,pending:=none}::cells))}⟩)
      ⟨ps.toList.zip (args.map .d)++iI s.env keys,My⟩→
     SY C s.mem.boxes.length (args.map .d) My K KP:=by
    intro args K KP My hlen hget apC hp Xy wy Ey vals l hSy hAy hly
    obtain⟨l',tmps,q1,q2,q3,q4,q5,_,_⟩:=RJ (st':= .busy) (pd':=none) hSy hget apC
    rw[hly]at q1;cases q1
    have hLp:L.params=ps:=by rw[hL]
    have hLf:L.fn=fn:=by rw[hL]
    have hLa:L.assign=x:=by rw[hL]
    have hLb:L.body=y:=by rw[hL]
    have hvl:vals.length=ps.toList.length:=by rw[hAy.length,List.length_map,hlen]
    have hy:=run_yield (P:=C.P) (args:=vals.toArray) q4 (by simp only[hLp];simpa using hvl)
    simp only[hLf]at hy
    refine⟨_,_,_,_,hy,XP (F:=Fence.wide) (n:=0) (B:=B) trivial hBf (hB' _ hBf) ?_⟩
    simp only[hLp,hLa,hLb]
    have hfold:((ps.zip vals.toArray).foldl (fun tmps (x:Nat×Value)=>tmps.setIfInBounds x.1 x.2) tmps)=((ps.toList.zip vals).foldl (fun t (x:Nat×Value)=>t.setIfInBounds x.1 x.2) tmps):=by
     rw[←Array.foldl_toList];simp
    have hir:InS C Xy ⟨wy.heap.size,[],true,none⟩ n ⟨ps.toList.zip (args.map .d)++iI s.env keys,My⟩
      {tmps:=(ps.zip vals.toArray).foldl (fun tmps (x:Nat×Value)=>tmps.setIfInBounds x.1 x.2) tmps,defers:=[]} wy Ey:=
     {sim:=hSy
      size:=by simp only[hfold,KR,q3,hsz]
      fix:=fun _ h=>by cases h
      defers:=I8
      env:=fun t=>by
       simp only[Act.eval,hfold]
       refine ZB (R:=fun v p=>Rep wy (away Xy My Ey) My Ey v p) _ _ _ _ hvl (by simpa using hlen) hnd (fun p hp=> ?_) (fun i v d hv hd=> ?_) fun _=> ?_
       ·have:=List.all_eq_true.1 hpl p hp
        rw[q3,hsz];simpa using this
       ·obtain⟨v',g1,g2⟩:=hAy.get' i d hd
        rw[hv]at g1;cases g1;exact g2
       ·rcases aau (s:=s) hkl t with he|⟨ht,he⟩
        ·rw[he];exact .dead
        ·rw[he]
         have hc:cells[t]?=some (look s.env t):=by rw[hcells];simp[hsz,ht]
         obtain⟨v',g1,g2⟩:=q5.get' t _ hc
         have:tmps.getD t undef=v':=by
          rw[Array.getElem?_toList]at g1
          simp[Array.getD_eq_getD_getElem?,g1]
         rw[this];exact g2}
    have apo:∀{pc:aB},(∀g,B g→∃fn,C.P.funcs[g]?=some fn)∨I5 pc=true:= .inl hB'
    have hx':=jW hm x x' (M₀:=My) (nb:=My.boxes.length) (na:=My.aA.length) (Nat.le_refl _) (Nat.le_refl _) B apo (some l) [] true none _ _ _ wy Ey (fun _ h=>by cases h) (.inr hpx) (fun _=>hpx) hcx (by rw[LX (nb':=nb) (na':=na) x' hpx];exact hp) hir (.refl _ _ _)
    refine AY (F:=Fence.wide.inRound l) hx' fun e a1 w3 hpost=> ?_
    cases e with
    |exit id=>obtain⟨_,_,_,_,⟨he,_⟩,_⟩:=hpost;cases he
    |ret=>obtain⟨_,_,_,_,⟨he,_⟩,_⟩:=hpost;cases he
    |panic ch=>obtain⟨_,_,_,_,_,_,_,⟨he,_⟩,_⟩:=hpost;cases he
    |goto t=>exact hpost.elim
    |outgrown=>exact hpost.elim
    |normal=>
     obtain⟨X3,⟨aqh,mem3⟩,E3,hx3,⟨_,hm3,hp2⟩,hi3,aoq⟩:=hpost
     simp only at hm3
     rw[hm3]at hi3 aoq
     obtain⟨l3,aqb,u1,u2,u3,u4,u5,u6,u7⟩:=RJ (st':= .busy) (pd':=none) hi3.sim hget apC
     rw[(aoq.bx _ _ hget).1,hly]at u1;cases u1
     have hbr:=run_beginRound (P:=C.P) u4 rfl
     refine⟨_,hbr,?_⟩
     have hi4:InS C X3 ⟨wy.heap.size,[],true,none⟩ n ⟨aqh,{My with boxes:=My.boxes.set s.mem.boxes.length (some (.gV {L with state:= .busy,pending:=none}::cells))}⟩ a1 _ E3:=hi3.from u6 u7
     have hy':=jW hm y y' (M₀:=My) (nb:=My.boxes.length) (na:=My.aA.length) (Nat.le_refl _) (Nat.le_refl _) B apo (some l) [] true none _ _ _ _ E3 (fun _ h=>by cases h) (.inr hpy) (fun _=>hpy) hcy (by rw[LX (nb':=nb) (na':=na) y' hpy];exact hp2) hi4 (aoq.trans u7)
     refine AY (F:=Fence.wide.inRound l) hy' fun e2 a5 w5 SK=> ?_
     have fin:∀{e:Exit} {e':Ex} (jump:Option Code) (X5:Nat→Prop) (s5:St) (E5:Emb) (st:LoopState),(∀b,X3 b→X5 b)→st=(if jump.isNone then LoopState.ready else .done)→
       (∃cells5,s5.mem.boxes[s.mem.boxes.length]?=some (some (.gV {L with state:= .busy,pending:=none}::cells5))∧s.mem.boxes.length∉s5.mem.fz∧
        K (.d (.bool jump.isNone)) {s5.mem with boxes:=s5.mem.boxes.set s.mem.boxes.length (some (.gV {L with state:=st,pending:=jump}::cells5))})→
       InS C X5 ⟨wy.heap.size,[],true,none⟩ n s5 a5 w5 E5→From wy My Ey w5 s5.mem E5→
       ∃v w',(Instr.endRound l jump).run C.P w5= .ok v w'∧Fin C Xy wy My Ey K KP w' (.returned v):=by
      rintro e e' jump X5 s5 E5 st hx5 hst ⟨cells5,v1,v2,v3⟩ hi5 hf5
      subst hst
      obtain⟨l5,arq,t1,t2,t3,t4,t5,t6,t7⟩:=RJ (st':=if jump.isNone then LoopState.ready else .done) (pd':=jump) hi5.sim v1 v2
      rw[(hf5.bx _ _ hget).1,hly]at t1;cases t1
      refine⟨_,_,run_endRound jump t4,?_⟩
      refine⟨_,_,E5,v3,?_,?_, .d (.bool _)⟩
      ·exact t6.less (X':=Xy) (fun b hb=>hx5 b (hx3 b hb)) hSy.iE
      ·exact hf5.trans t7
     cases e2 with
     |normal=>
      obtain⟨X5,s5,E5,hx5,⟨cells5,v1,v2,v3⟩,hi5,hf5⟩:=SK
      exact fin (e:= .normal) (e':= .normal) none X5 s5 E5 .ready hx5 rfl ⟨cells5,v1,v2,v3⟩ hi5 hf5
     |ret=>
      obtain⟨X5,s5,E5,hx5,⟨cells5,v1,v2,v3⟩,hi5,hf5⟩:=SK
      exact fin (e:= .normal) (e':= .normal) (some .ret) X5 s5 E5 .done hx5 rfl ⟨cells5,v1,v2,v3⟩ hi5 hf5
     |exit id=>
      obtain⟨X5,s5,E5,hx5,⟨cells5,v1,v2,v3⟩,hi5,hf5⟩:=SK
      exact fin (e:= .normal) (e':= .normal) (some (.exit id)) X5 s5 E5 .done hx5 rfl ⟨cells5,v1,v2,v3⟩ hi5 hf5
     |panic ch=>
      obtain⟨X5,v5,d5,M5,E5,hx5,rfl,h1,h2,h3,h4,⟨ms,hms,_,hme⟩,_⟩:=SK
      have apU:∀b,Xy b→X5 b:=fun b hb=>hx5 b (hx3 b hb)
      exact⟨by rw[hms,hme rfl];rfl,v5,d5,M5,E5,rfl,h1,h2.less apU hSy.iE,h3,h4.weaken fun b hb=>hb.imp (apU b) id⟩
     |goto t=>exact SK.elim
     |outgrown=>exact SK.elim
   have hsc:=h nD
   have hA:aK w2 (away X' (iq s.mem L .ready none cells [] [] []) E1) (iq s.mem L .ready none cells [] [] []) E1 (Fs.toList++ [.func (.yield lp) #[] #[]]++Cs.toList) (fs++ [.qY s.mem.boxes.length]++cs):=
    (((hff.move hk1).from aeF).append (.cons (.qY Uy hbl rfl) .nil)).append ((hfc.move hk1).from aeF)
   have ajt:=hsc X' w2 E1 _ hSL hA
   refine⟨lp,[{target:= .collected D,args:= #[]}],w2,{target:= .fn (.func g) Cs,args:=Fs++ #[.func (.yield lp) #[] #[]]},w2,g,Fs++ #[.func (.yield lp) #[] #[]]++Cs,w2,?_,?_,fun _ _=>trivial,?_,fun h=>by simp[RF,Fence.wide]at h,?_⟩
   ·have:=run_enterLoop_outer (P:=C.P) (w:=w) fn a.tmps ps x y
    rw[ajA,hw1,hL,hlp,hD]
    exact this
   ·simp only[resolve,apB]
    simp[go_sem,Deferred.ofValue,Act.eval]
   ·simp[invoke,xY hcall]
   have hargs:(Fs.toList++ [Value.func (.yield lp) #[] #[]]++Cs.toList).toArray=Fs++ #[Value.func (.yield lp) #[] #[]]++Cs:=by simp
   rw[hargs]at ajt
   refine VZ (Calls.mono ajt fun e w3 hfin=> ?_)
   cases e with
   |outgrown=>exact hfin.elim
   |panicked chain=>
    obtain⟨v,d,M3,E3,rfl,hq,aoc,aht,hr3⟩:=hfin
    have hF4:=hFL.trans aht
    refine⟨X',v,d,M3,E3,hxx,rfl,hq,aoc,hf.trans hF4,hr3,?_,hi.fix⟩
    obtain⟨ms,hms,⟨hm1,hm2⟩,_⟩:=hi.defers
    obtain⟨ms',aov,hold,_⟩:=hi1.defers.from hi1.sim (aeF.trans aht)
    have hmm:ms'=ms:=by simpa using aov.symm.trans hms
    subst hmm
    refine⟨_::ms',by rw[hms];rfl,⟨fun d hd=> ?_,?_⟩,fun e=>(hex e).elim⟩
    ·rcases List.mem_cons.1 hd with rfl|hd
     ·refine⟨D,rfl,by rw[hD];exact hf.size,by rw[hX'];exact .inr rfl,?_⟩
      have hno:¬owned s.mem E D:=fun ho=>by have:=hi.sim.Xq ho;omega
      exact(aeF.trans aht).keep D _ hno apq
     ·exact hold.1 d hd
    ·refine List.pairwise_cons.2 ⟨fun d hd he=> ?_,hm2⟩
     obtain⟨D',g1,g2,g3,g4⟩:=hm1 d hd
     rw[g1]at he
     injection he with he
     have:=bT g4
     omega
   |returned v=>
    obtain⟨p,M3,E3,⟨st,pd,cells3,v1,v2,v3,v4⟩,aoc,aht,_⟩:=hfin
    obtain⟨l3,aqb,u1,u2,u3,u4,u5,u6,u7⟩:=RJ (st':= .exhausted) (pd':=pd) aoc v1 v3
    rw[(aht.bx _ _ Uy).1,hbl]at u1;cases u1
    refine⟨pd,_,run_endLoop u4 v2,?_⟩
    have hF4:=(aht.trans u7)
    have hi4:InS C X' ⟨w₀.heap.size,ds₀,ex,fx⟩ n ⟨s.env,_⟩ {a with defers:=[{target:= .collected D,args:= #[]}]++a.defers} _ E3:=
     {sim:=u6
      env:=fun t=>(hi1.env t).from (aeF.trans hF4)
      size:=hi.size
      fix:=hi.fix
      defers:=by
       obtain⟨ms,hms,⟨hm1,hm2⟩,_⟩:=hi.defers
       obtain⟨ms',aov,hold,_⟩:=hi1.defers.from hi1.sim (aeF.trans hF4)
       have hmm:ms'=ms:=by simpa using aov.symm.trans hms
       subst hmm
       refine⟨_::ms',by rw[hms];rfl,⟨fun d hd=> ?_,?_⟩,fun e=>(hex e).elim⟩
       ·rcases List.mem_cons.1 hd with rfl|hd
        ·refine⟨D,rfl,by rw[hD];exact hf.size,by rw[hX'];exact .inr rfl,?_⟩
         have hno:¬owned s.mem E D:=fun ho=>by have:=hi.sim.Xq ho;omega
         exact(aeF.trans hF4).keep D _ hno apq
        ·exact hold.1 d hd
       ·refine List.pairwise_cons.2 ⟨fun d hd he=> ?_,hm2⟩
        obtain⟨D',g1,g2,g3,g4⟩:=hm1 d hd
        rw[g1]at he
        injection he with he
        have:=bT g4
        omega}
    have aeG:=(hf.trans hFL).trans hF4
    match pd,v4,hi4,aeG with
    |none,v4,hi4,aeG=>exact⟨X',_,E3,hxx,v4,hi4,aeG⟩
    |some .ret,v4,hi4,aeG=>exact MR<|wpIn_ret ⟨X',_,E3,hxx,v4,hi4,aeG⟩
    |some (.exit id),v4,hi4,aeG=>exact MR<|wpIn_exit ⟨X',_,E3,hxx,v4,hi4,aeG⟩
theorem FY (hm:C.P.follows .mixedOrders=true){n:Nat}(c:Code)(pc:aB){X:Nat→Prop}{w₀:World}{M₀:Mem}{E₀:Emb}{nb na:Nat}(hb:M₀.boxes.length≤nb)(ha:M₀.aA.length≤na)(hr:I5 pc=true)(ro:Option Nat)(ds₀:List Deferred)(ex:Bool)(fx:Option (Nat×Value))(Q:Ex→St→Prop)(s:St)(a:Act)(w:World)(E:Emb)
  (h1:∀q,fx=some q→Lc q.1 c=true)(h2:ro=none∨gq pc=true)(h3:ex=true→gq pc=true)(h4:chk C.P n c pc=true)(h5:pwp C nb na pc Q s)(h6:InS C X ⟨w₀.heap.size,ds₀,ex,fx⟩ n s a w E)(h7:From w₀ M₀ E₀ w s.mem E):c.wpIn (RF ro) 0 C.P (Post C X n w₀ M₀ E₀ ds₀ ex fx Q) a w:=
 am3 (jW hm c pc hb ha (fun _=>True) (.inr hr) ro ds₀ ex fx Q s a w E h1 h2 h3 h4 h5 h6 h7)
inductive aJ where
 |tmp (t:Nat)
 |cell (t:Nat) (agg:Bool) (n:Nat)
def UD (P:Program):List ResultVar→List aJ→Bool
 | [],[]=>true
 | .tmp t::l, .tmp t'::l'=>t==t'&&UD P l l'
 | .cell t ty::l, .cell t' agg n::l'=>t==t'&&zZ P ty agg n&&UD P l l'
 | _,_=>false
def qI:List aJ→St→(List PV→Prop)→Prop
 | [],_,K=>K []
 | .tmp t::l,s,K=>qI l s fun vs=>K (look s.env t::vs)
 | .cell t agg n::l,s,K=>bQ agg n (look s.env t) s.mem fun v=>qI l s fun vs=>K (v::vs)
def resV:List PV→PV
 | [x]=>x
 |vs=>QE vs
theorem ZX {P:Program}{t:TypeId}{v u:Value}{w:World}(h:(Instr.loadAt t v).run P w= .ok u w):(do loadVar t (←asAddr v):Sem Value).run P w= .ok u w:=by
 cases v with
 |pointer a=>
  cases a with
  |none=>simp[Instr.loadAt,Instr.sureAddr]at h
  |some a=>simpa[Instr.loadAt,Instr.sureAddr,asAddr]using h
 | _=>simp[Instr.loadAt,Instr.sureAddr]at h
def amw (tmps:Array Value):ResultVar→Sem Value
 | .tmp t=>pure (tmps.getD t undef)
 | .cell x t=>do loadVar t (←asAddr (tmps.getD x undef))
theorem XO (fn:Func)(tmps:Array Value):results fn tmps=(do let vs←fn.results.mapM (amw tmps);pure (if h:vs.size=1 then vs[0]else .tuple vs)):=rfl
theorem TS {lo:Lo}{n:Nat}{s:St}{a:Act}{w:World}{E:Emb}(hi:InS C X lo n s a w E):∀{l:List ResultVar} {l':List aJ} {K:List PV→Prop},UD C.P l l'=true→qI l' s K→
  ∃vs ps,(l.mapM (amw a.tmps):Sem (List Value)).run C.P w= .ok vs w∧K ps∧aK w (away X s.mem E) s.mem E vs ps
 | [],[],K,_,h=>⟨[],[],by simp,h, .nil⟩
 | .tmp t::l, .tmp t'::l',K,hok,h=>by
  simp only[UD,Bool.and_eq_true,beq_iff_eq]at hok
  obtain⟨rfl,hok⟩:=hok
  obtain⟨vs,ps,h1,h2,h3⟩:=TS hi hok h
  refine⟨a.tmps.getD t undef::vs,_,?_,h2, .cons (hi.env t) h3⟩
  simp only[List.mapM_cons,amw,Sem.run_bind,Sem.run_pure,Result.andThen_ok,h1]
 | .cell x t::l, .cell x' agg m::l',K,hok,h=>by
  simp only[UD,Bool.and_eq_true,beq_iff_eq]at hok
  obtain⟨⟨rfl,hag⟩,hok⟩:=hok
  simp only[qI]at h
  obtain⟨u,pv,g1,g2,g3⟩:=OQ hi.sim (hi.env x) hag h
  have g1':=ZX g1
  obtain⟨vs,ps,h1,h2,h3⟩:=TS hi hok g2
  refine⟨u::vs,_,?_,h2, .cons g3 h3⟩
  simp only[List.mapM_cons]
  rw[Sem.run_bind]
  simp only[Act.eval]at g1'
  rw[show amw a.tmps (.cell x t)=(do loadVar t (←asAddr (a.tmps.getD x undef))) from rfl,g1']
  simp only[Result.andThen_ok,Sem.run_bind,h1,Sem.run_pure]
theorem Rep.QE {w:World}{O:Nat→Prop}{M:Mem}{E:Emb}{vs:List Value}{ps:List PV}(h:aK w O M E vs ps):Rep w O M E (.tuple vs.toArray) (QE ps):=by
 unfold Am.QE
 split
 ·rename_i ds hd;exact .d (.tup (by simpa using h.jd hd))
 ·exact .tup (by simpa using h)
theorem OD {lo:Lo}{n:Nat}{s:St}{a:Act}{w:World}{E:Emb}(hi:InS C X lo n s a w E){fn:Func}{rs:List aJ}{K:List PV→Prop}(hok:UD C.P fn.results.toList rs=true)(h:qI rs s K):
  ∃v ps,(results fn a.tmps).run C.P w= .ok v w∧K ps∧Rep w (away X s.mem E) s.mem E v (resV ps):=by
 obtain⟨vs,ps,h1,h2,h3⟩:=TS hi hok h
 refine⟨if h:vs.toArray.size=1 then vs.toArray[0]else .tuple vs.toArray,ps,?_,h2,?_⟩
 ·rw[XO,Array.mapM_eq_mapM_toList]
  simp only[Sem.run_bind,Sem.run_map,h1,Result.andThen_ok,Sem.run_pure]
 ·have hl:=h3.length
  match ps,vs,h3,hl with
  | [],[],h3,_=>exact Rep.QE h3
  | [p],[v],h3,_=>cases h3 with|cons h3 _=>exact h3
  |p::q::l,v::u::m,h3,_=>
   have:¬((v::u::m).toArray.size=1):=by simp
   rw[dif_neg this]
   exact Rep.QE h3
def Dy:Nat→List PV→List (Nat×PV)
 | _,[]=>[]
 |k,v::vs=>(k,v)::Dy (k+1) vs
theorem Ph:∀{vs:List PV} {k t:Nat},look (Dy k vs) t=if t<k then .dead else(vs[t - k]?).getD .dead
 | [],k,t=>by simp[Dy,look]
 |v::vs,k,t=>by
  simp only[Dy,look]
  by_cases h:k=t
  ·subst h;simp
  ·have:(k==t)=false:=by simp[h]
   simp only[this,cond_false,Ph]
   by_cases h2:t<k
   ·rw[if_pos (by omega),if_pos h2]
   ·rw[if_neg (by omega),if_neg h2]
    have:t - k=(t - (k+1))+1:=by omega
    rw[this];simp
def aC (P:Program)(f:FuncId)(nargs:Nat)(pc:aB)(rs:List aJ):Bool:=
 match P.funcs[f]? with
 |some fn=>match fn.body with
  |some code=>decide (nargs≤fn.ntmps)&&chk P fn.ntmps code pc&&UD P fn.results.toList rs
  |none=>false
 |none=>false
def aem (rs:List aJ)(K:PV→Mem→Prop)(KP:DV→Mem→Prop):Ex→St→Prop
 | .normal,s=>qI rs s fun vs=>K (resV vs) s.mem
 | .ret,s=>qI rs s fun vs=>K (resV vs) s.mem
 | .panic d,s=>KP d s.mem
 | .exit _,_=>False
structure Shut (ds:List Deferred) (w w':World):Prop where
 os:w'.os=w.os
 tape:w'.tape=w.tape
 output:w'.output=w.output
 size:w'.heap.size=w.heap.size
 keep:∀b,(∀d∈ds,d.target≠ .collected b)→w'.heap[b]?=w.heap[b]?
theorem qO {P:Program}{fn:Func}{tmps:Array Value}{R:Ending→World→Prop}{lo:Nat}{ds₀:List Deferred}{u:FrameMode}(hu:u≠ .run):∀{ds:List Deferred} {w:World},okM lo X ds w→
  (∀w',Shut ds w w'→LeavesInM Fence.wide 0 P fn tmps R ds₀ u w')→LeavesInM Fence.wide 0 P fn tmps R (ds++ds₀) u w
 | [],w,_,h=>h w ⟨rfl,rfl,rfl,rfl,fun _ _=>rfl⟩
 |d::ds,w,hd,h=>by
  obtain⟨h1,h2⟩:=hd
  rw[List.pairwise_cons]at h2
  obtain⟨D,g1,g2,g3,g4⟩:=h1 d (by simp)
  refine⟨hu, .inl ⟨D,w.putObj D (.deferred none),g1,run_takeDeferred g4,?_⟩⟩
  have hne:∀d'∈ds,∀D',d'.target= .collected D'→D'≠D:=by
   rintro d' hd' D' he rfl
   exact h2.1 d' hd' (by rw[g1,he])
  refine qO hu (lo:=lo) ⟨fun d' hd'=> ?_,h2.2⟩ fun w' hs=>h w' ?_
  ·obtain⟨D',q1,q2,q3,q4⟩:=h1 d' (by simp[hd'])
   exact⟨D',q1,q2,q3,by rw[World.putObj_heap_other (hne d' hd' D' q1)];exact q4⟩
  ·refine⟨hs.os,hs.tape,hs.output,by rw[hs.size];simp,fun b hb=> ?_⟩
   rw[hs.keep b fun d' hd'=>hb d' (by simp[hd']),World.putObj_heap_other]
   rintro rfl
   exact hb d (by simp) g1
theorem MJ {X':Nat→Prop}{w w' w2:World}{M M':Mem}{E E':Emb}{ds:List Deferred}(h:Sim C X' w' M' E')(hlow:∀b,C.low b→b<w.heap.size)(hf:From w M E w' M' E')(hd:okM w.heap.size X' ds w')(hs:Shut ds w' w2):
  Sim C X' w2 M' E'∧From w M E w2 M' E'∧(∀b o,¬away X' M' E' b→w'.heap[b]?=some o→w2.heap[b]?=some o∧¬away X' M' E' b):=by
 have hsame:∀b,(¬X' b∨b<w.heap.size)→w2.heap[b]?=w'.heap[b]?:=by
  intro b hb
  refine hs.keep b fun d hd' he=> ?_
  obtain⟨D,g1,g2,g3,_⟩:=hd.1 d hd'
  rw[g1]at he
  injection he with he
  subst he
  rcases hb with hb|hb
  ·exact hb g3
  ·omega
 obtain⟨s1,s2⟩:=h.shift (X':=X') (w':=w2) h.iE (fun b hb=>by rw[hs.size];exact h.xlt b hb) (fun b hb=>hsame b (.inr (hlow b hb))) fun b o hb ho=>⟨by rw[hsame b (.inl hb)];exact ho,hb⟩
 refine⟨s1,?_,s2⟩
 exact
  {os:=hs.os.trans hf.os,tape:=hs.tape.trans hf.tape,output:=hs.output.trans hf.output,size:=by rw[hs.size];exact hf.size,
   keep:=fun b o hb ho=>by rw[hsame b (.inr (bT ho))];exact hf.keep b o hb ho,
   own:=hf.own,ig:=hf.ig,bx:=hf.bx,aY:=hf.aY,ar:=hf.ar}
theorem aF (hm:C.P.follows .mixedOrders=true){f:FuncId}{args:List PV}{M:Mem}{K:PV→Mem→Prop}{KP:DV→Mem→Prop}{pc:aB}{rs:List aJ}{nargs:Nat}(hn:args.length=nargs)(hc:aC C.P f nargs pc rs=true)
  (h:pwp C M.boxes.length M.aA.length pc (aem rs K KP) ⟨Dy 0 args,M⟩):SC C f args M K KP:=by
 subst hn
 intro X w E vals hS hA
 unfold aC at hc
 split at hc
 ·rename_i fn hfn
  split at hc
  ·rename_i code hcode
   simp only[Bool.and_eq_true,decide_eq_true_eq]at hc
   obtain⟨⟨hna,aqt⟩,hres⟩:=hc
   have hvl:vals.length=args.length:=hA.length
   have hi:InS C X ⟨w.heap.size,[],false,none⟩ fn.ntmps ⟨Dy 0 args,M⟩ {tmps:=vals.toArray++Array.replicate (fn.ntmps - vals.toArray.size) undef,defers:=[]} w E:=
    {sim:=hS
     size:=by simp;omega
     defers:=I8
     fix:=fun _ h=>by cases h
     env:=fun t=>by
      simp only[Ph,Nat.not_lt_zero,if_false,Nat.sub_zero]
      cases ht:args[t]? with
      |none=>exact .dead
      |some p=>
       obtain⟨v,hv,hr⟩:=hA.get' t p ht
       have hlt:t<vals.length:=(List.getElem?_eq_some_iff.1 hv).1
       have:({tmps:=vals.toArray++Array.replicate (fn.ntmps - vals.toArray.size) undef,defers:=[]}:Act).eval (.tmp t)=v:=by
        simp only[Act.eval,Array.getD_eq_getD_getElem?]
        rw[Array.getElem?_append_left (by simpa using hlt)]
        simp[hv]
       rw[this]
       exact hr}
   refine(callsIn_wide (n:=0)).1 (V3 (F:=Fence.wide) (B:=fun g=>∃fn,C.P.funcs[g]?=some fn) hfn hcode trivial ⟨fn,hfn⟩ ?_)
   refine AY (F:=RF none) (jW hm code pc (Nat.le_refl _) (Nat.le_refl _) _ (.inl fun _ h=>h) none [] false none _ _ _ w E (fun _ h=>by cases h) (.inl rfl) (fun e=>by cases e) aqt h hi (.refl _ _ _)) fun e a' w' hp=> ?_
   have hlow:∀b,C.low b→b<w.heap.size:=fun b hb=>hS.xlt b (hS.iE b hb)
   have fin:∀(s:St) (X':Nat→Prop) (E':Emb),(∀b,X b→X' b)→qI rs s (fun vs=>K (resV vs) s.mem)→InS C X' ⟨w.heap.size,[],false,none⟩ fn.ntmps s a' w' E'→From w M E w' s.mem E'→
     LeavesInM Fence.wide 0 C.P fn a'.tmps (fun e w'=>Fin C X w M E K KP w' e) a'.defers .returning w':=by
    intro s X' E' hx h1 h2 h3
    obtain⟨ms,hms,hmk,_⟩:=h2.defers
    rw[hms]
    refine qO (by simp) hmk fun w2 hsh=> ?_
    obtain⟨q1,q2,q3⟩:=MJ h2.sim hlow h3 hmk hsh
    have hi2:InS C X' ⟨w.heap.size,[],false,none⟩ fn.ntmps s {a' with defers:=[]} w2 E':={sim:=q1,env:=fun t=>(h2.env t).move q3,size:=h2.size,defers:=I8,fix:=fun _ h=>by cases h}
    obtain⟨v,ps,g1,g2,g3⟩:=OD hi2 hres h1
    exact⟨v,g1,_,s.mem,E',g2,q1.less hx hS.iE,q2,g3.less hx⟩
   cases e with
   |normal=>
    obtain⟨X',s,E',hx,h1,h2,h3⟩:=hp
    exact fin s X' E' hx h1 h2 h3
   |ret=>
    obtain⟨X',s,E',hx,h1,h2,h3⟩:=hp
    exact fin s X' E' hx h1 h2 h3
   |panic ch=>
    obtain⟨X',v,d,M',E',hx,rfl,h1,h2,h3,h4,h5,_⟩:=hp
    obtain⟨ms,hms,hmk,_⟩:=h5
    show LeavesInM _ _ _ _ _ _ a'.defers _ _
    rw[hms]
    refine qO (by simp) hmk fun w2 hsh=> ?_
    obtain⟨q1,q2,q3⟩:=MJ h2 hlow h3 hmk hsh
    exact⟨v,d,M',E',rfl,h1,q1.less hx hS.iE,q2,(h4.mono q3).weaken fun b hb=>hb.imp (hx b) id⟩
   |exit id=>obtain⟨X',s,E',hx,h1,_⟩:=hp;exact h1.elim
   |goto l=>exact hp.elim
   |outgrown=>exact hp.elim
  ·cases hc
 ·cases hc
end
def mkRow (M:Mem)(q:Nat×Nat):Arr:=match M.aA[q.1]? with|some (some A)=>⟨A.sz,A.elems.drop q.2,0,A.st⟩| _=>default
def gK (M:Mem)(E:Emb)(q:Nat×Nat):Option (Nat×Nat×Nat):=match M.aA[q.1]?,E.ar[q.1]? with|some (some A),some (some (blk,o,e))=>some (blk,o+q.2*A.sz,e)| _,_=>none
def Fv (M:Mem)(q:Nat×Nat):Bool:=match M.aA[q.1]? with|some (some A)=>decide (q.2≤A.elems.length)| _=>false
def Rf:List (Nat×Nat)→Nat→Nat→Nat→Option Nat
 | [],_,_,_=>none
 |(a,b)::l,i,k,s=>bif a==k&&b==s then some i else Rf l (i+1) k s
def XJ (M:Mem)(L:List (Nat×Nat)):PV→PV
 | .d x=> .d x
 | .tsl k ver skip=>match M.row k ver,Rf L 0 k skip with|some _,some i=> .tsl i 0 0| _,_=> .dead
 | _=> .dead
def akp (M:Mem)(L:List (Nat×Nat)):PV→PV
 | .agg cs=> .agg (cs.map (XJ M L))
 |p=>XJ M L p
def ren (M:Mem)(L:List (Nat×Nat)):PV→PV
 | .agg cs=> .agg (cs.map (XJ M L))
 | .tup cs=> .tup (cs.map (akp M L))
 |p=>XJ M L p
def Fz (M:Mem)(L:List (Nat×Nat)):Prop:=(∀q∈L,Fv M q=true)∧(L.map (·.1)).Nodup
theorem Zw:∀{L:List (Nat×Nat)} {i k s j:Nat},Rf L i k s=some j→i≤j∧L[j - i]?=some (k,s)
 | [],i,k,s,j,h=>by simp[Rf]at h
 |(a,b)::l,i,k,s,j,h=>by
  simp only[Rf]at h
  cases hc:(a==k&&b==s)with
  |true=>
   rw[hc]at h
   simp only[cond_true,Option.some.injEq]at h
   subst h
   simp only[Bool.and_eq_true,beq_iff_eq]at hc
   obtain⟨rfl,rfl⟩:=hc
   simp
  |false=>
   rw[hc]at h
   simp only[cond_false]at h
   obtain⟨h1,h2⟩:=Zw h
   refine⟨by omega,?_⟩
   rw[show j - i=(j - (i+1))+1 by omega]
   simpa using h2
section
variable {C:Ctx}{X:Nat→Prop}{w:World}{M:Mem}{E:Emb}
theorem ajT {q:Nat×Nat}(h:Fv M q=true):∃A,M.aA[q.1]?=some (some A)∧q.2≤A.elems.length∧mkRow M q=⟨A.sz,A.elems.drop q.2,0,A.st⟩:=by
 unfold Fv at h
 split at h
 ·rename_i A hA
  simp only[decide_eq_true_eq]at h
  exact⟨A,hA,h,by simp[mkRow,hA]⟩
 ·cases h
theorem Nw {q:Nat×Nat}{blk o e:Nat}(h:gK M E q=some (blk,o,e)):∃A o',M.aA[q.1]?=some (some A)∧E.ar[q.1]?=some (some (blk,o',e))∧o=o'+q.2*A.sz:=by
 unfold gK at h
 split at h
 ·rename_i A blk' o' e' hA hE
  simp only[Option.some.injEq,Prod.mk.injEq]at h
  obtain⟨rfl,rfl,rfl⟩:=h
  exact⟨A,o',hA,hE,rfl⟩
 ·cases h
theorem VL {L:List (Nat×Nat)}{i:Nat}{B:Arr}(hL:Fz M L)(h:(rowsOf (L.map (mkRow M))).aA[i]?=some (some B)):∃q A,L[i]?=some q∧M.aA[q.1]?=some (some A)∧q.2≤A.elems.length∧B=⟨A.sz,A.elems.drop q.2,0,A.st⟩:=by
 simp only[rowsOf,List.map_map,List.getElem?_map,Option.map_eq_some_iff,Function.comp]at h
 obtain⟨q,hq,he⟩:=h
 simp only[Option.some.injEq]at he
 obtain⟨A,h1,h2,h3⟩:=ajT (hL.1 q (List.mem_of_getElem? hq))
 exact⟨q,A,hq,h1,h2,by rw[←he,h3]⟩
theorem Dp {L:List (Nat×Nat)}{i:Nat}{q:Nat×Nat}(hq:L[i]?=some q):(L.map (gK M E))[i]?=some (gK M E q):=by
 simp[hq]
theorem TL {L:List (Nat×Nat)}(hL:Fz M L){b:Nat}(h:owned (rowsOf (L.map (mkRow M))) ⟨[],L.map (gK M E)⟩ b):owned M E b:=by
 rcases h with⟨i,cs,h1,_⟩|⟨i,B,o,e,h1,h2,h3⟩
 ·simp[rowsOf]at h1
 ·obtain⟨q,A,g1,g2,g3,rfl⟩:=VL hL h1
  simp only[Dp g1,Option.some.injEq]at h3
  obtain⟨A',o',q1,q2,_⟩:=Nw h3
  rw[g2]at q1;cases q1
  exact .inr ⟨q.1,A,o',e,g2,h2,q2⟩
theorem aaS {L:List (Nat×Nat)}(h:Sim C X w M E)(hL:Fz M L):Sim C X w (rowsOf (L.map (mkRow M))) ⟨[],L.map (gK M E)⟩:=by
 have haw:∀b,away X (rowsOf (L.map (mkRow M))) ⟨[],L.map (gK M E)⟩ b→away X M E b:=fun b hb=>hb.imp id (TL hL)
 exact
  {glob:=h.glob,iE:=h.iE,xlt:=h.xlt
   ig:=rfl
   aY:=by simp[rowsOf]
   box:=fun b cs hb=>by simp[rowsOf]at hb
   arr:=fun i B hB=>by
    obtain⟨q,A,g1,g2,g3,rfl⟩:=VL hL hB
    obtain⟨s1,s2,s3,s4⟩:=h.arr q.1 A g2
    refine⟨s1,fun x hx=>s2 x (List.mem_of_mem_drop hx),fun hs=> ?_,fun blk o e he=> ?_⟩
    ·obtain⟨⟨blk,o,e⟩,hq⟩:=s3 hs
     exact⟨(blk,o+q.2*A.sz,e),by rw[Dp g1];simp[gK,g2,hq]⟩
    ·simp only[Dp g1,Option.some.injEq]at he
     obtain⟨A',o',q1,q2,rfl⟩:=Nw he
     rw[g2]at q1;cases q1
     obtain⟨r1,vs,T,r2,r3,r4,r5⟩:=s4 blk o' e q2
     refine⟨r1,vs,T,r2,?_,r4,?_⟩
     ·simp only[List.length_drop]
      have:q.2*A.sz+(A.elems.length - q.2)*A.sz=A.elems.length*A.sz:=by rw[←Nat.add_mul];congr 1;omega
      omega
     ·simp only[List.length_drop]
      exact(row_drop s2 r5).weaken haw
   bb:=fun b b' cs cs' blk h1=>by simp[rowsOf]at h1
   aa:=fun i i' B B' blk o e o' e' h1 h2 h3 h4=>by
    obtain⟨q,A,g1,g2,g3,rfl⟩:=VL hL h1
    obtain⟨q',A',g1',g2',g3',rfl⟩:=VL hL h2
    simp only[Dp g1,Option.some.injEq]at h3
    simp only[Dp g1',Option.some.injEq]at h4
    obtain⟨_,p1,_,p2,_⟩:=Nw h3
    obtain⟨_,p1',_,p2',_⟩:=Nw h4
    have hk:=h.aa q.1 q'.1 A A' blk p1 e p1' e' g2 g2' p2 p2'
    have hi:i<(L.map (·.1)).length:=by simpa using(List.getElem?_eq_some_iff.1 g1).1
    refine(List.getElem?_inj hi hL.2).1 ?_
    simp[g1,g1',hk]
   ba:=fun b i cs B blk o e h1=>by simp[rowsOf]at h1}
theorem WI {w₀:World}{L:List (Nat×Nat)}(hf:From w₀ bH ⟨[],[]⟩ w M E)(hL:Fz M L):From w₀ bH ⟨[],[]⟩ w (rowsOf (L.map (mkRow M))) ⟨[],L.map (gK M E)⟩:={
 os:=hf.os
 tape:=hf.tape
 output:=hf.output
 size:=hf.size
 keep:=hf.keep
 own:=fun b hb=>hf.own b (TL hL hb)
 ig:=Nat.le_refl _
 bx:=fun b cs hb=>by simp[bH]at hb
 aY:=Nat.zero_le _
 ar:=fun k A' hk=>by simp[bH]at hk}
theorem XM {L:List (Nat×Nat)}(h:Sim C X w M E)(hL:Fz M L){v:Value}{p:PV}(hr:Rep w (away X M E) M E v p):
  Rep w (away X (rowsOf (L.map (mkRow M))) ⟨[],L.map (gK M E)⟩) (rowsOf (L.map (mkRow M))) ⟨[],L.map (gK M E)⟩ v (XJ M L p):=by
 have haw:∀b,away X (rowsOf (L.map (mkRow M))) ⟨[],L.map (gK M E)⟩ b→away X M E b:=fun b hb=>hb.imp id (TL hL)
 cases p with
 |d x=>exact .d (hr.toD.weaken haw)
 |tsl k ver skip=>
  simp only[XJ]
  split
  ·rename_i A i hA hi
   obtain⟨_,hget⟩:=Zw hi
   simp only[Nat.sub_zero]at hget
   obtain⟨t1,t2,t3,t4,t5⟩:=MQ h hr hA
   obtain⟨a,cap,hv⟩:=hr.lq hA
   subst hv
   have hrow:mkRow M (k,skip)=⟨A.sz,A.elems.drop skip,0,A.st⟩:=by simp[mkRow,t1]
   have hlt:i<L.length:=(List.getElem?_eq_some_iff.1 hget).1
   refine .tsl (by simpa[rowsOf]using hlt) fun B hB=> ?_
   have hB':B=⟨A.sz,A.elems.drop skip,0,A.st⟩:=by
    simp only[rowsOf,List.map_map,List.getElem?_map,hget,Option.map_some,Function.comp,Option.some.injEq]at hB
    rw[←hB,hrow]
   subst hB'
   refine⟨Nat.le_refl _,fun _=>⟨_,Dp hget,Nat.zero_le _,?_⟩⟩
   rcases t5 with⟨blk,o,e,vs,T,cap',p1,p2,p3,p4,p5,p6⟩|⟨p1,p2,hd⟩
   ·have hp:gK M E (k,skip)=some (blk,o+skip*A.sz,e):=by simp[gK,t1,p1]
    rw[hp]
    simp only
    rcases p6 with⟨hh,p7,p8⟩|⟨p7,_,a',hh⟩
    ·cases hh
     refine .inl ⟨cap,by simp,by simpa using p7,?_⟩
     simp only[Nat.zero_add];rw[Nat.add_assoc,←Nat.add_mul];exact p8
    ·refine .inr ⟨by simp;omega,a',?_⟩
     exact hh
   ·have hp:gK M E (k,skip)=none:=by simp[gK,t1,p1]
    rw[hp]
    simpa using hd.weaken haw
  ·exact .dead
 | _=>exact .dead
theorem TQ {L:List (Nat×Nat)}(h:Sim C X w M E)(hL:Fz M L):∀{vs:List Value} {ps:List PV},aK w (away X M E) M E vs ps→
  aK w (away X (rowsOf (L.map (mkRow M))) ⟨[],L.map (gK M E)⟩) (rowsOf (L.map (mkRow M))) ⟨[],L.map (gK M E)⟩ vs (ps.map (XJ M L))
 | _,_, .nil=> .nil
 | _,_, .cons h1 t=> .cons (XM h hL h1) (TQ h hL t)
theorem akq {L:List (Nat×Nat)}(h:Sim C X w M E)(hL:Fz M L){v:Value}{p:PV}(hr:Rep w (away X M E) M E v p):
  Rep w (away X (rowsOf (L.map (mkRow M))) ⟨[],L.map (gK M E)⟩) (rowsOf (L.map (mkRow M))) ⟨[],L.map (gK M E)⟩ v (akp M L p):=by
 cases p with
 |agg cs=>cases hr with|agg hh=>exact .agg (TQ h hL hh)
 | _=>exact XM h hL hr
theorem ZA {L:List (Nat×Nat)}(h:Sim C X w M E)(hL:Fz M L):∀{vs:List Value} {ps:List PV},aK w (away X M E) M E vs ps→
  aK w (away X (rowsOf (L.map (mkRow M))) ⟨[],L.map (gK M E)⟩) (rowsOf (L.map (mkRow M))) ⟨[],L.map (gK M E)⟩ vs (ps.map (akp M L))
 | _,_, .nil=> .nil
 | _,_, .cons h1 t=> .cons (akq h hL h1) (ZA h hL t)
theorem amv {L:List (Nat×Nat)}(h:Sim C X w M E)(hL:Fz M L){v:Value}{p:PV}(hr:Rep w (away X M E) M E v p):
  Rep w (away X (rowsOf (L.map (mkRow M))) ⟨[],L.map (gK M E)⟩) (rowsOf (L.map (mkRow M))) ⟨[],L.map (gK M E)⟩ v (ren M L p):=by
 cases p with
 |agg cs=>cases hr with|agg hh=>exact .agg (TQ h hL hh)
 |tup cs=>cases hr with|tup hh=>exact .tup (ZA h hL hh)
 | _=>exact XM h hL hr
theorem RP {w:World}(hG:C.G w)(hl:∀b,C.low b→X b)(hx:∀b,X b→b<w.heap.size):Sim C X w bH ⟨[],[]⟩:={
 glob:=hG
 iE:=hl
 xlt:=hx
 ig:=rfl
 aY:=rfl
 box:=fun b cs h=>by simp[bH]at h
 arr:=fun k A h=>by simp[bH]at h
 bb:=fun b b' cs cs' blk h=>by simp[bH]at h
 aa:=fun k k' A A' blk o e o' e' h=>by simp[bH]at h
 ba:=fun b k cs A blk o e h=>by simp[bH]at h}
theorem MW:∀b,away X bH ⟨[],[]⟩ b→X b:=by
 rintro b (h|⟨i,cs,h,_⟩|⟨k,A,o,e,h,_⟩)
 ·exact h
 ·simp[bH]at h
 ·simp[bH]at h
theorem Jj {f:FuncId}{ds:List DV}{r:PV}{as:List Arr}(h:SC C f (ds.map .d) bH (fun p M=>∃L,Fz M L∧ren M L p=r∧L.map (mkRow M)=as) (fun _ _=>False)):Pure C f ds r as:=by
 intro X w vals hG hl hx hr
 refine(h X w ⟨[],[]⟩ vals (RP hG hl hx) (aK.ofD (hr.weaken MW))).mono fun e w' he=> ?_
 cases e with
 |returned v=>
  obtain⟨p,M',E',⟨L,hL,rfl,rfl⟩,h2,h3,h4⟩:=he
  exact⟨v,_,rfl,aaS h2 hL,WI h3 hL,amv h2 hL h4⟩
 |panicked c=>
  obtain⟨v,d,M',E',_,hh,_⟩:=he
  exact hh.elim
 |outgrown=>exact he.elim
theorem vZ (hm:C.P.follows .mixedOrders=true){f:FuncId}{ds:List DV}{r:PV}{as:List Arr}{pc:aB}{rs:List aJ}{nargs:Nat}(hn:(ds.map PV.d).length=nargs)(hc:aC C.P f nargs pc rs=true)
  (h:pwp C 0 0 pc (aem rs (fun p M=>∃L,Fz M L∧ren M L p=r∧L.map (mkRow M)=as) (fun _ _=>False)) ⟨Dy 0 (ds.map .d),bH⟩):Pure C f ds r as:=
 Jj (aF hm hn hc h)
theorem ah (hm:C.P.follows .mixedOrders=true){f:FuncId}{ds:List DV}{x:DV}{pc:aB}{rs:List aJ}{nargs:Nat}(hn:(ds.map PV.d).length=nargs)(hc:aC C.P f nargs pc rs=true)
  (h:pwp C 0 0 pc (aem rs (fun p _=>p= .d x) (fun _ _=>False)) ⟨Dy 0 (ds.map .d),bH⟩):Pure C f ds (.d x) []:=by
 refine Jj (SC.mono (aF hm hn hc h) fun v M' hv=>⟨[],⟨fun q hq=>(by cases hq),List.nodup_nil⟩,?_,rfl⟩)
 subst hv
 rfl
end
end Go.Am
