/-
  Part 8 of the proof of a law of desks: an abstract machine over the model, contracts of functions, plain laws.
  Conditions: none.
-/
import Derived.Test.YtbefoehadfnkbaaGreatDoorJourneymanParsesM07
set_option linter.all false
namespace Go.Am
section
variable {C:Ctx}{X:Nat→Prop}{w:World}{M:Mem}{E:Emb}{K:PV→Mem→Prop}{KP:DV→Mem→Prop}{O:Nat→Prop}
theorem sS {P:Program}{t e:TypeId}{a:Option Addr}(ht:P.underlying t=some (.pointer e))(w:World)(d:Nat):(Op.equalIn (d+1) t (.pointer a) (.pointer none)).run P w= .ok a.isNone w:=by
 cases a<;>simp only[Op.equalIn,Sem.run_bind,run_underlying ht,Result.andThen_ok,Sem.run_pure,Option.isNone_none,Option.isNone_some]
theorem abn {ρ:Operand→Value}{o:Oper}{op:BinOp}{neq:Bool}{t u:TypeId}{x y:Operand}(ho:o.op= .binOp op t x y u)(hρ:∀v,ρ (.const v)=v){args:List PV}(hS:Sim C X w M E)(hA:aK w (away X M E) M E ((opsOf o.op).map ρ) args)
  (hok:aI C.P (.binOp op t x y u) (.Ba neq)=true){base:Nat}(h:aj C base (.Ba neq) args M K KP):dZ C X w M E K KP ((execOp ρ o).run C.P w):=by
 simp only[aI,Bool.and_eq_true]at hok
 obtain⟨⟨hop,hty⟩,hy⟩:=hok
 split at hty
 ·rename_i e hun
  split at hy
  ·simp only[ho,opsOf,List.map_cons,List.map_nil,hρ]at hA
   obtain⟨v,hv⟩:∃v,v=ρ x:=⟨_,rfl⟩
   rw[←hv]at hA
   have fin:∀b:Bool,(Op.equal t v (.pointer none)).run C.P w= .ok b w→(eqGuard op t x (.const (.pointer none)) v (.pointer none)).run C.P w= .ok () w→(execOp ρ o).run C.P w= .ok (.value (.bool (b !=neq))) w:=by
    intro b heq hg
    cases op<;>simp only[Bool.not_eq_true',Bool.false_eq_true]at hop
    ·subst hop
     simp only[execOp,ho,Sem.run_bind,hρ,←hv,hg,Result.andThen_ok,binOp,heq,Sem.run_pure]
     simp
    ·subst hop
     simp only[execOp,ho,Sem.run_bind,hρ,←hv,hg,Result.andThen_ok,binOp,heq,Sem.run_pure]
     simp
   simp only[aj]at h
   split at h
   ·obtain⟨v1,u1,he,hr,_⟩:=dJ hA
    simp only[List.cons.injEq,and_true]at he
    obtain⟨rfl,_⟩:=he
    generalize hvv:v=vv at hr
    cases hr with
    |ptr _ _ _=>
     subst hvv
     rw[fin false (sS hun w 9999) (by unfold eqGuard;simp<;>split<;>simp)]
     exact .same hS (by simpa using h) (.d (.bool _))
   ·obtain⟨v1,u1,he,hr,_⟩:=dJ hA
    simp only[List.cons.injEq,and_true]at he
    obtain⟨rfl,_⟩:=he
    have hd:=hr.toD
    generalize hvv:v=vv at hd
    cases hd with
    |aX _ _ _=>
     subst hvv
     rw[fin false (sS hun w 9999) (by unfold eqGuard;simp<;>split<;>simp)]
     exact .same hS (by simpa using h) (.d (.bool _))
   ·obtain⟨v1,u1,he,hr,_⟩:=dJ hA
    simp only[List.cons.injEq,and_true]at he
    obtain⟨rfl,_⟩:=he
    have hd:=hr.toD
    generalize hvv:v=vv at hd
    cases hd with
    |nilPtr=>
     subst hvv
     rw[fin true (sS hun w 9999) (by unfold eqGuard;simp<;>split<;>simp)]
     exact .same hS (by simpa using h) (.d (.bool _))
   ·exact h.elim
  ·cases hy
 ·cases hty
theorem adX {ρ:Operand→Value}{o:Oper}{t:TypeId}{x i:Operand}{sz len:Nat}(ho:o.op= .indexAddr t x i){args:List PV}(hS:Sim C X w M E)(hA:aK w (away X M E) M E ((opsOf o.op).map ρ) args)
  (hok:aI C.P (.indexAddr t x i) (.Oe sz len)=true){base:Nat}(h:aj C base (.Oe sz len) args M K KP):dZ C X w M E K KP ((execOp ρ o).run C.P w):=by
 simp only[aI]at hok
 split at hok
 ·rename_i n e hun
  simp only[Bool.and_eq_true,beq_iff_eq]at hok
  obtain⟨rfl,hok⟩:=hok
  split at hok
  ·rename_i inf jJ
   simp only[Bool.and_eq_true,beq_iff_eq,decide_eq_true_eq]at hok
   obtain⟨hsz,hpos⟩:=hok
   have hrun:∀blk p k m,ρ x= .pointer (some ⟨blk,p,none⟩)→ρ i= .int k m→0≤m→m<(n:Int)→(execOp ρ o).run C.P w= .ok (.value (.pointer (some ⟨blk,p+m.toNat*sz,none⟩))) w:=by
    intro blk p k m h1 h2 h3 h4
    simp[execOp,ho,h1,h2,Instr.indexAt,Instr.sureAddr,asIntOf,run_underlying hun,h3,h4,run_sizeOf jJ,hsz,Addr.add_lit]
   simp only[ho,opsOf,List.map_cons,List.map_nil]at hA
   simp only[aj]at h
   split at h
   ·rename_i b off k m
    obtain⟨v,u,he,hr,hr2⟩:=dJ hA
    simp only[List.cons.injEq,and_true]at he
    obtain⟨rfl,rfl⟩:=he
    have e2:=hr2.toD.fA
    generalize hv:ρ x=vv at hr
    cases hr with
    |ptr hl hb hob=>
     rw[hrun _ _ _ _ hv e2 h.1 h.2.1]
     exact .same hS h.2.2 (.ptr hl hb hob)
   ·rename_i cs k m
    obtain⟨v,u,he,hr,hr2⟩:=dJ hA
    simp only[List.cons.injEq,and_true]at he
    obtain⟨rfl,rfl⟩:=he
    have e2:=hr2.toD.fA
    have hd:=hr.toD
    generalize hv:ρ x=vv at hd
    cases hd with
    |aX hb ho' hh=>
     rename_i blk off T
     rw[hrun _ _ _ _ hv e2 h.1 h.2.1]
     refine .same hS h.2.2.2 (.d (.aX hb ho' ?_))
     have:=hh.drop (m.toNat*sz)
     rw[List.drop_take,List.drop_drop]at this
     rw[List.length_drop]
     exact this
   ·exact h.elim
  ·cases hok
 ·cases hok
theorem Ug {agg:Bool}{sz:Nat}:∀{n:Nat} {cs:List DV},cs.length=n*sz→(agg=false→sz=1∧∀c∈cs,c.one=true)→flat (yY agg sz n cs)=cs∧(∀x∈yY agg sz n cs,x.cells.length=sz)∧(yY agg sz n cs).length=n
 |0,cs,h,_=>by
  have:cs=[]:=List.length_eq_zero_iff.1 (by omega)
  subst this
  simp[yY,flat]
 |n+1,cs,h,ha=>by
  have hl:(cs.drop sz).length=n*sz:=by rw[List.length_drop,h,Nat.succ_mul];omega
  have hle:sz≤cs.length:=by rw[h,Nat.succ_mul];omega
  obtain⟨h1,h2,h3⟩:=Ug (agg:=agg) hl fun e=>⟨(ha e).1,fun c hc=>(ha e).2 c (List.mem_of_mem_drop hc)⟩
  cases agg with
  |true=>
   refine⟨?_,?_,by simp[yY,h3]⟩
   ·simp only[yY,cond_true]
    rw[flat,List.flatMap_cons]
    show(DV.agg (cs.take sz)).cells++flat _=cs
    rw[h1];simp[DV.cells]
   ·intro x hx
    simp only[yY,cond_true,List.mem_cons]at hx
    rcases hx with rfl|hx
    ·simp only[DV.cells,List.length_take];omega
    ·exact h2 x hx
  |false=>
   obtain⟨rfl,hone⟩:=ha rfl
   obtain⟨c,cs',rfl⟩:∃c cs',cs=c::cs':=by
    cases cs with
    |nil=>simp at hle
    |cons c cs'=>exact⟨c,cs',rfl⟩
   have hc1:c.cells=[c]:=by
    have:=hone c (by simp)
    cases c<;>first|rfl|simp[DV.one]at this
   refine⟨?_,?_,by simp only[List.drop_succ_cons,List.drop_zero]at h3;simp[yY,h3]⟩
   ·simp only[yY,cond_false,List.headD_cons]
    rw[flat,List.flatMap_cons]
    show c.cells++flat _=_
    rw[h1,hc1];simp
   ·intro x hx
    simp only[yY,cond_false,List.headD_cons,List.mem_cons]at hx
    rcases hx with rfl|hx
    ·rw[hc1];rfl
    ·exact h2 x hx
theorem agW {ρ:Operand→Value}{o:Oper}{t:TypeId}{x:Operand}{lo hi mx:Option Operand}{agg:Bool}{sz len:Nat}(ho:o.op= .slice t x lo hi mx){args:List PV}(hS:Sim C X w M E)(hA:aK w (away X M E) M E ((opsOf o.op).map ρ) args)
  (hok:aI C.P (.slice t x lo hi mx) (.YL agg sz len)=true){base:Nat}(h:aj C base (.YL agg sz len) args M K KP):dZ C X w M E K KP ((execOp ρ o).run C.P w):=by
 simp only[aI,Bool.and_eq_true,Option.isNone_iff_eq_none]at hok
 obtain⟨⟨⟨hok,rfl⟩,rfl⟩,rfl⟩:=hok
 split at hok
 ·rename_i n e hun
  simp only[Bool.and_eq_true,beq_iff_eq]at hok
  obtain⟨rfl,hok⟩:=hok
  split at hok
  ·rename_i inf jJ
   simp only[Bool.and_eq_true,beq_iff_eq,decide_eq_true_eq]at hok
   obtain⟨hsz,hpos⟩:=hok
   simp only[ho,opsOf,List.map_cons,List.map_nil,Option.toList_none,List.append_nil]at hA
   simp only[aj]at h
   split at h
   ·rename_i cs
    obtain⟨hl,hone,h⟩:=h
    obtain⟨v,he,hr⟩:=eG hA
    simp only[List.cons.injEq,and_true]at he
    subst he
    have hd:=hr.toD
    generalize hv:ρ x=vv at hd
    obtain⟨f1,f2,f3⟩:=Ug (n:=n) hl hone
    cases hd with
    |aX hb ho' hh=>
     rename_i blk off T fz ws
     have hrun:(execOp ρ o).run C.P w= .ok (.value (.slice (some ⟨blk,off,none⟩) n n)) w:=by
      by_cases hn:n=0<;>simp[execOp,ho,hv,Instr.sliceAt,Instr.sureAddr,run_underlying hun,Instr.sliceBounds,run_sizeOf jJ,hn,Addr.add_lit]
     rw[hrun]
     refine .same hS h (.d (.slice hb ho' f3 f2 (Nat.le_refl _) (fun _=>rfl) ?_))
     rw[f1,←hl];exact hh
   ·exact h.elim
  ·cases hok
 ·cases hok
structure KeyLaw (P:Program) (key:TypeId) (ks:List Nat) (O:Nat→Prop) (w:World) (v:Value) (k:DV)where
 fnd:List MapEntry→Nat→Sem (Option (Nat×Value))
 nil:∀i,(fnd [] i).run P w= .ok none w
 cons:∀{e:MapEntry} {es:List MapEntry} {i:Nat} {d:DV} {t:Bool},bf w O e.key d→iF ks k d=some t→(fnd (e::es) i).run P w=if t then .ok (some (i,e.val)) w else(fnd es (i+1)).run P w
 find:∀{es:List MapEntry} {x:Option (Nat×Value)},(fnd es 0).run P w= .ok x w→(Instr.findKey key v es).run P w= .ok x w
 check:∀em:Bool,(Instr.checkKey em 10000 key v).run P w= .ok () w
 stays:∀{u:Value} {d:DV},bf w O u d→iF ks k d=some true→(Instr.keyThatStays u v).run P w= .ok v w
theorem aeS {P:Program}{key:TypeId}{ks:List Nat}(hk:acf P key ks=true){v:Value}{k:DV}(hv:bf w O v k)(hc:iF ks k k=some true):Nonempty (KeyLaw P key ks O w v k):=by
 unfold acf at hk
 split at hk
 ·rename_i fs hun
  simp only[Bool.and_eq_true,Bool.not_eq_true']at hk
  obtain⟨hne,hsc,hst⟩:=hk
  obtain⟨xs,rfl⟩:∃xs,k= .agg xs:=by cases k<;>first|exact⟨_,rfl⟩|simp[iF]at hc<;>simp[hc]at hne
  simp only[iF,hne,Bool.false_eq_true,if_false]at hc
  obtain⟨vs,rfl,hx⟩:=hv.zH
  refine⟨⟨fun es i=>Instr.findAsking key (.agg vs) es i,fun i=>by simp[Instr.findAsking],?_,?_,fun em=>A8 hun hsc hx hc em,?_⟩⟩
  ·intro e es i d t hd ht
   obtain⟨d',rfl⟩:∃d',d= .agg d':=by cases d<;>first|exact⟨_,rfl⟩|simp[iF]at ht
   simp only[iF,hne,Bool.false_eq_true,if_false]at ht
   obtain⟨ys,e2,hy⟩:=hd.zH
   have heq:(Op.equal key (.agg vs) e.key).run P w= .ok t w:=by
    show(Op.equalIn 10000 key (.agg vs) e.key).run P w= .ok t w
    have hfo:P.fieldsOf key=fs:=by simp[Program.fieldsOf,hun]
    rw[e2,run_equalIn_agg w 9999 key vs ys (by rw[hfo];exact hun) hst,hfo]
    exact wP 9998 hsc (by simpa using hx) (by simpa using hy) ht
   cases t<;>simp[Instr.findAsking,heq]
  ·intro es x h
   rw[run_findKey_eq (P:=P) w (by rw[hun])];exact h
  ·intro u d hu hd
   obtain⟨d',rfl⟩:∃d',d= .agg d':=by cases d<;>first|exact⟨_,rfl⟩|simp[iF]at hd
   simp only[iF,hne,Bool.false_eq_true,if_false]at hd
   obtain⟨ys,rfl,hy⟩:=hu.zH
   obtain⟨b1,b2⟩:=VX hx hy hd
   have ajr:Instr.sameBits 10000 (.agg ys) (.agg vs)=true:=by
    simp only[Instr.sameBits,Bool.and_eq_true,beq_iff_eq]
    exact⟨by simpa using b1.symm,b2⟩
   simp only[Instr.keyThatStays,ajr,if_true,Sem.run_pure]
 ·rename_i kk0 hun
  obtain⟨kk,n,rfl⟩:∃kk n,k= .int kk n:=by cases k<;>first|exact⟨_,_,rfl⟩|simp[iF,hk]at hc
  have e1:=hv.fA
  subst e1
  refine⟨⟨fun es i=>match Instr.findNow (.int kk0) (.int kk n) es i with|some r=>pure r|none=>stuck "",fun i=>by simp[Instr.findNow],?_,?_,?_,?_⟩⟩
  ·intro e es i d t hd ht
   obtain⟨k2,n2,rfl⟩:∃k2 n2,d= .int k2 n2:=by cases d<;>first|exact⟨_,_,rfl⟩|simp[iF]at ht
   have e2:=hd.fA
   simp only[iF,hk,true_and]at ht
   split at ht
   ·rename_i hkk
    cases ht
    subst hkk
    simp only[Instr.findNow,e2,Instr.sameNow,if_true]
    cases hb:n==n2<;>simp
   ·cases ht
  ·intro es x h
   simp only[Instr.findKey,Sem.run_bind,run_underlying hun,Result.andThen_ok]
   cases hr:Instr.findNow (.int kk0) (.int kk n) es 0 with
   |none=>rw[hr]at h;simp[stuck]at h
   |some r=>rw[hr]at h;exact h
  ·intro em
   rw[show(10000:Nat)=9999+1 from rfl,Instr.checkKey]
   simp only[Sem.run_bind,run_underlying hun,Result.andThen_ok,Sem.run_pure]
  ·intro u d hu hd
   obtain⟨k2,n2,rfl⟩:∃k2 n2,d= .int k2 n2:=by cases d<;>first|exact⟨_,_,rfl⟩|simp[iF]at hd
   have e2:=hu.fA
   simp only[iF,hk,true_and]at hd
   split at hd
   ·rename_i hkk
    simp only[Option.some.injEq,beq_iff_eq]at hd
    subst hkk hd e2
    simp[Instr.keyThatStays,Instr.sameBits]
   ·cases hd
 ·cases hk
def Jt (ks:List Nat):List (DV×DV)→DV→Bool
 | [],_=>true
 |(k',_)::l,k=>match iF ks k k' with|some true=>true|some false=>Jt ks l k|none=>false
theorem ZF {ks:List Nat}{k:DV}:∀{l:List (DV×DV)} {r:Option DV},sN ks l k=some r→Jt ks l k=true
 | [],_,_=>rfl
 |(k',v)::l,r,h=>by
  simp only[sN]at h
  simp only[Jt]
  cases hk:iF ks k k' with
  |none=>simp[hk]at h
  |some b=>cases b with
   |true=>rfl
   |false=>simp only[hk]at h;exact ZF h
theorem adl {ks:List Nat}{k v:DV}:∀{l l':List (DV×DV)},JJ ks l k v=some l'→Jt ks l k=true
 | [],_,_=>rfl
 |(k',v')::l,r,h=>by
  simp only[JJ]at h
  simp only[Jt]
  cases hk:iF ks k k' with
  |none=>simp[hk]at h
  |some b=>cases b with
   |true=>rfl
   |false=>
    simp only[hk,Option.map_eq_some_iff]at h
    obtain⟨l2,h,_⟩:=h
    exact adl h
theorem adk {ks:List Nat}{k:DV}:∀{l l':List (DV×DV)},JI ks l k=some l'→Jt ks l k=true
 | [],_,_=>rfl
 |(k',v')::l,r,h=>by
  simp only[JI]at h
  simp only[Jt]
  cases hk:iF ks k k' with
  |none=>simp[hk]at h
  |some b=>cases b with
   |true=>rfl
   |false=>
    simp only[hk,Option.map_eq_some_iff]at h
    obtain⟨l2,h,_⟩:=h
    exact adk h
theorem Qr {P:Program}{key:TypeId}{ks:List Nat}{v:Value}{k:DV}(L:KeyLaw P key ks O w v k):∀(es:List MapEntry) (l:List (DV×DV)) (i:Nat),aQ w O (es.map (·.key)) (l.map (·.1))→aQ w O (es.map (·.val)) (l.map (·.2))→Jt ks l k=true→
  ∃x,(L.fnd es i).run P w= .ok x w∧
   ((x=none∧sN ks l k=some none∧(∀y,JJ ks l k y=some (l++ [(k,y)]))∧JI ks l k=some l)∨
   (∃j u e dk dv,x=some (i+j,u)∧es[j]?=some e∧j<l.length∧bf w O e.key dk∧bf w O u dv∧iF ks k dk=some true∧sN ks l k=some (some dv)∧(∀y,JJ ks l k y=some (l.set j (k,y)))∧JI ks l k=some (l.eraseIdx j)))
 | [],[],i,_,_,_=>⟨none,L.nil i, .inl ⟨rfl,rfl,fun _=>rfl,rfl⟩⟩
 |e::es,(dk,dv)::l,i,h1,h2,h=>by
  simp only[List.map_cons]at h1 h2
  cases h1 with
  |cons hk hks=>cases h2 with
   |cons hv hvs=>
    simp only[Jt]at h
    cases hc:iF ks k dk with
    |none=>simp[hc]at h
    |some b=>
     have hr:=L.cons (es:=es) (i:=i) hk hc
     cases b with
     |true=>
      simp only[if_true]at hr
      exact⟨_,hr, .inr ⟨0,e.val,e,dk,dv,rfl,rfl,by simp,hk,hv,hc,by simp[sN,hc],fun y=>by simp[JJ,hc],by simp[JI,hc]⟩⟩
     |false=>
      simp only[hc]at h
      simp only[Bool.false_eq_true,if_false]at hr
      obtain⟨x,g1,g2⟩:=Qr L es l (i+1) hks hvs h
      refine⟨x,hr.trans g1,?_⟩
      rcases g2 with⟨rfl,q1,q2,q3⟩|⟨j,u,e',dk',dv',rfl,q1,q2,q3,q4,q5,q6,q7,q8⟩
      ·exact .inl ⟨rfl,by simp[sN,hc,q1],fun y=>by simp[JJ,hc,q2],by simp[JI,hc,q3]⟩
      ·exact .inr ⟨j+1,u,e',dk',dv',by simp;omega,by simpa using q1,by simp;omega,q3,q4,q5,by simp[sN,hc,q6],fun y=>by simp[JJ,hc,q7],by simp[JI,hc,q8]⟩
 | [],_::_,_,h1,_,_=>by simp at h1;cases h1
 | _::_,[],_,h1,_,_=>by simp at h1;cases h1
theorem map_eraseIdx {α β:Type}(f:α→β):∀(l:List α) (j:Nat),(l.eraseIdx j).map f=(l.map f).eraseIdx j
 | [],_=>rfl
 | _::_,0=>rfl
 |a::l,j+1=>by simp[map_eraseIdx f l j]
theorem aQ.eraseIdx {vs:List Value}{ds:List DV}(h:aQ w O vs ds)(j:Nat):aQ w O (vs.eraseIdx j) (ds.eraseIdx j):=by
 rw[List.eraseIdx_eq_take_drop_succ,List.eraseIdx_eq_take_drop_succ]
 exact(h.take j).append (h.drop (j+1))
theorem aay {b:Nat}{l:List (DV×DV)}(hS:Sim C X w M E)(hbox:M.box b=some [.iY l]){v:Value}(hr:Rep w (away X M E) M E v (.mref b)):
  ∃blk es clock,v= .map (some blk)∧E.bx[b]?=some blk∧M.boxes[b]?=some (some [.iY l])∧w.heap[blk]?=some (.map es clock)∧aQ w (away X M E) (es.toList.map (·.key)) (l.map (·.1))∧aQ w (away X M E) (es.toList.map (·.val)) (l.map (·.2)):=by
 have hbx:M.boxes[b]?=some (some [.iY l]):=by
  unfold Mem.box at hbox
  split at hbox
  ·rename_i cs hcs;cases hbox;exact hcs
  ·cases hbox
 cases hr with
 |mref hlb hbb hob=>
  rename_i blk cs
  rw[hbx]at hlb;cases hlb
  obtain⟨blk',q1,q2,q3⟩:=hS.box b _ hbx
  rw[hbb]at q1;cases q1
  obtain⟨es,clock,hb,hk,hv⟩:=q3
  exact⟨blk,es,clock,rfl,hbb,hbx,hb,hk,hv⟩
theorem agP {ρ:Operand→Value}{o:Oper}{t:TypeId}{x i:Operand}{c ok:Bool}{ks:List Nat}{z:DV}(ho:o.op= .lookup t x i c){args:List PV}(hS:Sim C X w M E)(hA:aK w (away X M E) M E ((opsOf o.op).map ρ) args)
  (hok:aI C.P (.lookup t x i c) (.NM ok ks z)=true){base:Nat}(h:aj C base (.NM ok ks z) args M K KP):dZ C X w M E K KP ((execOp ρ o).run C.P w):=by
 simp only[aI,Bool.and_eq_true,beq_iff_eq]at hok
 obtain⟨rfl,hty⟩:=hok
 split at hty
 ·rename_i key e hun
  simp only[Bool.and_eq_true]at hty
  obtain⟨hkey,hz⟩:=hty
  split at hz
  ·rename_i inf jJ
   split at hz
   ·rename_i z' hz'
    simp only[ho,opsOf,List.map_cons,List.map_nil]at hA
    have hzv:(zeroValue e).run C.P w= .ok z' w:=by simp[zeroValue,typeInfo,jJ,hz']
    have main:∀(blk:Nat) (es:Array MapEntry) (clock:Nat) (l:List (DV×DV)) (k:DV) (r:Option DV),ρ x= .map (some blk)→w.heap[blk]?=some (.map es clock)→aQ w (away X M E) (es.toList.map (·.key)) (l.map (·.1))→aQ w (away X M E) (es.toList.map (·.val)) (l.map (·.2))→
      bf w (away X M E) (ρ i) k→iF ks k k=some true→sN ks l k=some r→K (.d (KW c z r)) M→dZ C X w M E K KP ((execOp ρ o).run C.P w):=by
     intro blk es clock l k r hvv hb hk hv hki hc hl hK
     obtain⟨L⟩:=aeS (P:=C.P) hkey hki hc
     obtain⟨y,g1,g2⟩:=Qr L es.toList l 0 hk hv (ZF hl)
     have hck:=L.check es.isEmpty
     have hfk:=L.find g1
     have hget:(getObj blk).run C.P w= .ok (.map es clock) w:=by simp[getObj,Sem.run,hb]
     rcases g2 with⟨rfl,q1,_,_⟩|⟨j,u,e',dk,dv,rfl,_,_,_,q4,_,q6,_,_⟩
     ·rw[hl]at q1;cases q1
      have hrun:(execOp ρ o).run C.P w= .ok (.value (if c then .tuple #[z', .bool false]else z')) w:=by
       simp only[execOp,ho,Instr.lookup,Sem.run_bind,run_underlying hun,Result.andThen_ok,hvv,hget,Sem.run_pure,hck,hfk,hzv]
      rw[hrun]
      refine .same hS hK (.d ?_)
      cases c
      ·exact ng hz
      ·exact .tup (.cons (ng hz) (.cons (.bool _) .nil))
     ·rw[hl]at q6;cases q6
      have hrun:(execOp ρ o).run C.P w= .ok (.value (if c then .tuple #[u, .bool true]else u)) w:=by
       simp only[execOp,ho,Instr.lookup,Sem.run_bind,run_underlying hun,Result.andThen_ok,hvv,hget,Sem.run_pure,hck,hfk]
      rw[hrun]
      refine .same hS hK (.d ?_)
      cases c
      ·exact q4
      ·exact .tup (.cons q4 (.cons (.bool _) .nil))
    simp only[aj]at h
    split at h
    ·rename_i l k
     obtain⟨v,u',he,hr,hr2⟩:=dJ hA
     simp only[List.cons.injEq,and_true]at he
     obtain⟨rfl,rfl⟩:=he
     split at h
     ·rename_i r hc hl
      have hm:=hr.toD
      generalize hvv:ρ x=vv at hm
      cases hm with
      |map hb ho' hk hv=>exact main _ _ _ l k r hvv hb hk hv hr2.toD hc hl h
     ·exact h.elim
    ·rename_i b k
     obtain⟨v,u',he,hr,hr2⟩:=dJ hA
     simp only[List.cons.injEq,and_true]at he
     obtain⟨rfl,rfl⟩:=he
     split at h
     ·rename_i l hbox
      split at h
      ·rename_i r hc hl
       obtain⟨blk,es,clock,q1,q2,q3,q4,q5,q6⟩:=aay hS hbox hr
       exact main _ _ _ l k r q1 q4 q5 q6 hr2.toD hc hl h
      ·exact h.elim
     ·exact h.elim
    ·exact h.elim
   ·cases hz
  ·cases hz
 ·cases hty
theorem agR {ρ:Operand→Value}{o:Oper}{t:TypeId}{x i y:Operand}{ks:List Nat}(ho:o.op= .mapUpdate t x i y){args:List PV}(hS:Sim C X w M E)(hA:aK w (away X M E) M E ((opsOf o.op).map ρ) args)
  (hok:aI C.P (.mapUpdate t x i y) (.ae2 ks)=true){base:Nat}(h:aj C base (.ae2 ks) args M K KP):dZ C X w M E K KP ((execOp ρ o).run C.P w):=by
 simp only[aI]at hok
 split at hok
 ·rename_i key e hun
  simp only[ho,opsOf,List.map_cons,List.map_nil]at hA
  simp only[aj]at h
  split at h
  ·rename_i b k v
   obtain⟨v1,v2,v3,he,hr,hr2,hr3⟩:=PX hA
   simp only[List.cons.injEq,and_true]at he
   obtain⟨rfl,rfl,rfl⟩:=he
   split at h
   ·rename_i l hbox
    obtain⟨hfz,h⟩:=h
    split at h
    ·rename_i l' hc hl
     obtain⟨blk,es,clock,hvv,hbb,hbx,hb,hk,hv⟩:=aay hS hbox hr
     obtain⟨L⟩:=aeS (P:=C.P) hok hr2.toD hc
     obtain⟨z,g1,g2⟩:=Qr L es.toList l 0 hk hv (adl hl)
     have hck:=L.check false
     have hfk:=L.find g1
     have hget:(getObj blk).run C.P w= .ok (.map es clock) w:=by simp[getObj,Sem.run,hb]
     have hlt:=bT hb
     have hset:∀o':Obj,(setObj blk o').run C.P w= .ok () {w with heap:=w.heap.setIfInBounds blk o'}:=fun o'=>by simp[setObj,Sem.run,hb]
     have fin:∀(es':Array MapEntry) (clock':Nat),aQ w (away X M E) (es'.toList.map (·.key)) (l'.map (·.1))→aQ w (away X M E) (es'.toList.map (·.val)) (l'.map (·.2))→
       dZ C X w M E K KP (.ok .skip {w with heap:=w.heap.setIfInBounds blk (.map es' clock')}):=by
      intro es' clock' p1 p2
      obtain⟨s1,s2⟩:=RQ (cs':=[.iY l']) hS hbx hfz rfl rfl hbb (Q8 w blk (.map es' clock') hlt) fun hf=>⟨es',clock',by simp[hlt],p1.from hf,p2.from hf⟩
      exact⟨_,_,h,s1,s2⟩
     rcases g2 with⟨rfl,_,q2,_⟩|⟨j,u,en,dk,dv,rfl,q1,q2,q3,q4,q5,_,q7,_⟩
     ·rw[q2]at hl;cases hl
      have hrun:(execOp ρ o).run C.P w= .ok .skip {w with heap:=w.heap.setIfInBounds blk (.map (es.push {key:=ρ i,val:=ρ y,born:=clock}) (clock+1))}:=by
       simp only[execOp,ho,Instr.mapUpdate,Sem.run_bind,run_underlying hun,Result.andThen_ok,hvv,hget,hck,hfk,hset]
       simp[Sem.run_pure]
      rw[hrun]
      refine fin _ _ ?_ ?_
      ·simpa using hk.append (.cons hr2.toD .nil)
      ·simpa using hv.append (.cons hr3.toD .nil)
     ·rw[q7]at hl;cases hl
      have hj:es[j]?=some en:=by simpa using q1
      have hjlt:j<es.size:=bT hj
      have ajz:(Instr.keyThatStays (((es[j]?).map (·.key)).getD (ρ i)) (ρ i)).run C.P w= .ok (ρ i) w:=by
       simp only[hj,Option.map_some,Option.getD_some];exact L.stays q3 q5
      have hrun:(execOp ρ o).run C.P w= .ok .skip {w with heap:=w.heap.setIfInBounds blk (.map (es.modify j fun e=>{e with key:=ρ i,val:=ρ y}) clock)}:=by
       simp only[Nat.zero_add]at hfk
       simp only[execOp,ho,Instr.mapUpdate,Sem.run_bind,run_underlying hun,Result.andThen_ok,hvv,hget,hck,hfk,ajz,hset]
       simp[Sem.run_pure]
      rw[hrun]
      have hm:(es.modify j fun e=>{e with key:=ρ i,val:=ρ y}).toList=es.toList.set j {en with key:=ρ i,val:=ρ y}:=by
       apply List.ext_getElem?
       intro q
       rw[List.getElem?_set]
       simp only[Array.getElem?_toList,Array.getElem?_modify]
       by_cases hq:j=q
       ·subst hq;rw[if_pos rfl,if_pos rfl,hj,if_pos (by simpa using hjlt)];rfl
       ·rw[if_neg hq,if_neg hq]
      refine fin _ _ ?_ ?_
      ·rw[hm,List.map_set,List.map_set];exact hk.set j hr2.toD
      ·rw[hm,List.map_set,List.map_set];exact hv.set j hr3.toD
    ·exact h.elim
   ·exact h.elim
  ·exact h.elim
 ·cases hok
theorem agO {ρ:Operand→Value}{o:Oper}{ks:List Nat}{argTypes:Array TypeId}{as:Array Operand}(ho:o.op= .call {callee:= .builtin .delete,args:=as,argTypes}){args:List PV}(hS:Sim C X w M E)(hA:aK w (away X M E) M E ((opsOf o.op).map ρ) args)
  (hok:aI C.P (.call {callee:= .builtin .delete,args:=as,argTypes}) (.ae0 ks)=true){base:Nat}(h:aj C base (.ae0 ks) args M K KP):dZ C X w M E K KP ((execOp ρ o).run C.P w):=by
 simp only[aI,Bool.and_eq_true,beq_iff_eq]at hok
 obtain⟨h1,hok⟩:=hok
 simp only[ho,opsOf]at hA
 simp only[aj]at h
 split at hok
 ·rename_i key e hun
  split at h
  ·rename_i b k
   obtain⟨v1,v2,he,hr,hr2⟩:=dJ hA
   have has:as.map ρ= #[v1,v2]:=by apply Array.ext';simpa using he
   split at h
   ·rename_i l hbox
    obtain⟨hfz,h⟩:=h
    split at h
    ·rename_i l' hc hl
     obtain⟨dT,kT,rfl⟩:∃dT kT,argTypes= #[dT,kT]:=by
      obtain⟨l⟩:=argTypes
      match l,h1 with
      | [t,u],_=>exact⟨t,u,rfl⟩
     have hun:C.P.underlying dT=some (.map key e):=by simpa using hun
     obtain⟨blk,es,clock,rfl,hbb,hbx,hb,hk,hv⟩:=aay hS hbox hr
     obtain⟨L⟩:=aeS (P:=C.P) hok hr2.toD hc
     obtain⟨z,g1,g2⟩:=Qr L es.toList l 0 hk hv (adk hl)
     have hck:=L.check es.isEmpty
     have hfk:=L.find g1
     have hget:(getObj blk).run C.P w= .ok (.map es clock) w:=by simp[getObj,Sem.run,hb]
     have hlt:=bT hb
     have hset:∀o':Obj,(setObj blk o').run C.P w= .ok () {w with heap:=w.heap.setIfInBounds blk o'}:=fun o'=>by simp[setObj,Sem.run,hb]
     have hfin:∀{r:Value} {w':World},(Builtin.delete_ #[dT,kT] o.type #[.map (some blk),v2]).run C.P w= .ok r w'→(execOp ρ o).run C.P w= .ok (.value r) w':=by
      intro r w' hh
      simp[execOp,ho,has,hh,go_sem]
     have fin:∀(es':Array MapEntry),aQ w (away X M E) (es'.toList.map (·.key)) (l'.map (·.1))→aQ w (away X M E) (es'.toList.map (·.val)) (l'.map (·.2))→
       dZ C X w M E K KP (.ok (.value (.tuple #[])) {w with heap:=w.heap.setIfInBounds blk (.map es' clock)}):=by
      intro es' p1 p2
      obtain⟨s1,s2⟩:=RQ (cs':=[.iY l']) hS hbx hfz rfl rfl hbb (Q8 w blk (.map es' clock) hlt) fun hf=>⟨es',clock,by simp[hlt],p1.from hf,p2.from hf⟩
      exact⟨_,_,_,h,s1,s2, .d (.tup .nil)⟩
     rcases g2 with⟨rfl,_,_,q3⟩|⟨j,u,en,dk,dv,rfl,q1,q2,_,_,_,_,_,q8⟩
     ·rw[q3]at hl;cases hl
      have hrun:(Builtin.delete_ #[dT,kT] o.type #[.map (some blk),v2]).run C.P w= .ok (.tuple #[]) {w with heap:=w.heap.setIfInBounds blk (.map es clock)}:=by
       simp[Builtin.delete_,Sem.run_bind,run_underlying hun,hget,hck,hfk,hset]
      rw[hfin hrun]
      exact fin _ hk hv
     ·rw[q8]at hl;cases hl
      have hrun:(Builtin.delete_ #[dT,kT] o.type #[.map (some blk),v2]).run C.P w= .ok (.tuple #[]) {w with heap:=w.heap.setIfInBounds blk (.map (es.eraseIdxIfInBounds j) clock)}:=by
       simp only[Nat.zero_add]at hfk
       simp[Builtin.delete_,Sem.run_bind,run_underlying hun,hget,hck,hfk,hset]
      rw[hfin hrun]
      have hm:(es.eraseIdxIfInBounds j).toList=es.toList.eraseIdx j:=by simp
      refine fin _ ?_ ?_
      ·rw[hm,map_eraseIdx,map_eraseIdx];exact hk.eraseIdx j
      ·rw[hm,map_eraseIdx,map_eraseIdx];exact hv.eraseIdx j
    ·exact h.elim
   ·exact h.elim
  ·exact h.elim
 ·cases hok
end
structure Lo where
 n:Nat
 ds:List Deferred
 ex:Bool
 fx:Option (Nat×Value)
section
variable {C:Ctx}{X:Nat→Prop}{w:World}{M:Mem}{E:Emb}{K:PV→Mem→Prop}{KP:DV→Mem→Prop}{lo:Lo}{ro:Option Nat}
theorem YI {ρ:Operand→Value}(hρ:∀f,ρ (.func f)= .func (.func f) #[] #[])(hρc:∀v,ρ (.const v)=v){o:Oper}{op:Op}{p:POp}(ho:o.op=op){args:List PV}(hS:Sim C X w M E)(hA:aK w (away X M E) M E ((opsOf o.op).map ρ) args)
  (hok:aI C.P op p=true){base:Nat}(h:aj C base p args M K KP):dZ C X w M E K KP ((execOp ρ o).run C.P w):=by
 have hok':=hok
 unfold aI at hok
 split at hok
 ·exact abo (.inl ho) hS hA h
 ·exact abo (.inr ho) hS hA h
 ·exact YR (.inl ho) hS hA h
 ·exact YR (.inr ho) hS hA h
 ·exact agU ho hS hA h
 ·exact adU ho hS hok' h
 ·exact aiI ho hS hA h
 ·exact adV ho hS hA hok' h
 ·exact agQ ho hS hA hok' h
 ·exact YS ho hS hA hok h
 ·exact adZ ho hS hA hok h
 ·exact ad7 ho hS hA hok' h
 ·exact ad5 ho hS hA h
 ·exact aiH ho hS hA hok' h
 ·exact agE ho hS hA hok' h
 ·exact agF ho hS hA hok' h
 ·exact adY ho hρc hS hA hok' h
 ·exact alf ho hS hA hok' h
 ·exact agG ho hS hA hok' h
 ·exact aiO ho hS hA hok' h
 ·exact aiN ho hS hA hok' h
 ·exact agZ ho hS hA hok' h
 ·exact YT ho hS hA hok' h
 ·exact aaO ho hS hA hok' h
 ·exact agI ho hS hA hok' h
 ·exact agJ ho hS hA hok' h
 ·exact agK ho hS hA hok' h
 ·exact agL ho hS hA hok' h
 ·exact aiK ho hS hA hok' h
 ·simp only[Bool.and_eq_true,beq_iff_eq]at hok
  obtain⟨rfl,hok⟩:=hok
  exact GL ho (hρ _) hA hok h
 ·simp only[Bool.and_eq_true,beq_iff_eq]at hok
  obtain⟨rfl,hok⟩:=hok
  exact GL ho (hρ _) hA hok (adi h)
 ·simp only[Bool.and_eq_true,beq_iff_eq]at hok
  obtain⟨rfl,hok⟩:=hok
  exact GL ho (hρ _) hA hok (zM h)
 ·simp only[Bool.and_eq_true,beq_iff_eq]at hok
  obtain⟨rfl,hok⟩:=hok
  exact GL ho (hρ _) hA hok (zM (aaP h))
 ·simp only[Bool.and_eq_true,beq_iff_eq]at hok
  obtain⟨rfl,hok⟩:=hok
  exact GL ho (hρ _) hA hok (zM (RG h))
 ·exact adW ho hS hA h
 ·exact abl ho hS hA hok' h
 ·exact agD ho hS hA hok' h
 ·exact aiM ho hS hA hok' h
 ·exact agN ho hS hA hok' h
 ·exact agM ho hS hok' h
 ·subst hok
  exact Uf ho (.inl ⟨rfl,rfl⟩) hS (by simpa[ho,opsOf]using hA) h
 ·simp only[Bool.not_eq_true']at hok
  subst hok
  exact Uf ho (.inr ⟨rfl,rfl⟩) hS (by simpa[ho,opsOf]using hA) h
 ·exact ad6 ho hS hA h
 ·exact ad4 ho hS hA hok' h
 ·exact ad2 ho hS hA hok' h
 ·exact aiP ho hS hA hok' h
 ·exact aiG ho hS hA hok' h
 ·exact aiR ho hS hA hok' h
 ·exact agX ho hS hA hok' h
 ·exact agY ho hS hA hok' h
 ·exact agH ho hS hA hok' h
 ·exact aiJ ho hS hA hok' h
 ·exact abm ho hρc hS hA hok' h
 ·exact agV ho hS hA hok' h
 ·exact agT ho hS hA hok' h
 ·exact aiL ho hA hok' h
 ·exact aiQ ho hS hA hok' h
 ·exact ad1 ho hS h
 ·exact agS ho hS hA hok' h
 ·exact abn ho hρc hS hA hok' h
 ·exact adX ho hS hA hok' h
 ·exact agW ho hS hA hok' h
 ·exact agP ho hS hA hok' h
 ·exact agR ho hS hA hok' h
 ·exact agO ho hS hA hok' h
 ·exact ad3 ho hS hA hok' h
 ·cases hok
def acy:Operand→Opd→Bool
 | .tmp m, .t k=>m==k
 | .const v, .c x=>nS x v
 | .func f, .c (.func (.func f') [] [])=>f==f'
 | _,_=>false
def Td:List Operand→List Opd→Bool
 | [],[]=>true
 |x::xs,y::ys=>acy x y&&Td xs ys
 | _,_=>false
def okM (n:Nat)(X:Nat→Prop)(ds:List Deferred)(w:World):Prop:=
 (∀d∈ds,∃D,d.target= .collected D∧n≤D∧X D∧w.heap[D]?=some (.deferred (some [])))∧ds.Pairwise (fun d d'=>d.target≠d'.target)
def okD (lo:Lo)(X:Nat→Prop)(ds:List Deferred)(w:World):Prop:=∃ms,ds=ms++lo.ds∧okM lo.n X ms w∧(lo.ex=true→ms=[])
theorem ami {n:Nat}{X:Nat→Prop}{w:World}:okM n X [] w:=⟨fun _ h=>by simp at h, .nil⟩
theorem I8 {n:Nat}{ds:List Deferred}{ex:Bool}{fx:Option (Nat×Value)}{X:Nat→Prop}{w:World}:okD ⟨n,ds,ex,fx⟩ X ds w:=⟨[],rfl,ami,fun _=>rfl⟩
theorem Sim.PK (h:Sim C X w M E){b:Nat}(ho:owned M E b):¬X b:=by
 rcases ho with⟨i,cs,h1,_,h2⟩|⟨k,A,o,e,h1,_,h2⟩
 ·obtain⟨blk,q1,q2,_⟩:=h.box i cs h1
  rw[h2]at q1;cases q1;exact q2
 ·exact((h.arr k A h1).2.2.2 _ _ _ h2).1
theorem okM.keep {n:Nat}{ds:List Deferred}{w':World}(h:okM n X ds w)(hk:∀b o,X b→w.heap[b]?=some o→w'.heap[b]?=some o):okM n X ds w':=
 ⟨fun d hd=>by obtain⟨D,h1,h2,h3,h4⟩:=h.1 d hd;exact⟨D,h1,h2,h3,hk D _ h3 h4⟩,h.2⟩
theorem okD.keep {lo:Lo}{ds:List Deferred}{w':World}(h:okD lo X ds w)(hk:∀b o,X b→w.heap[b]?=some o→w'.heap[b]?=some o):okD lo X ds w':=by
 obtain⟨ms,h1,h2,h3⟩:=h
 exact⟨ms,h1,h2.keep hk,h3⟩
theorem okD.from {lo:Lo}{ds:List Deferred}{w':World}{M':Mem}{E':Emb}(h:okD lo X ds w)(hS:Sim C X w M E)(hf:From w M E w' M' E'):okD lo X ds w':=
 h.keep fun b o hx ho=>hf.keep b o (fun hb=>hS.PK hb hx) ho
def RF (ro:Option Nat):Fence:={Fence.wide with round:=ro}
theorem VZ {ro:Option Nat}{n:Nat}{P:Program}{f:FuncId}{args:Array Value}{w:World}{R:Ending→World→Prop}(h:Calls P f args w R):CallsIn (RF ro) n P f args w R:=(callsIn_wide (n:=n)).2 h
structure InS (C:Ctx) (X:Nat→Prop) (lo:Lo) (n:Nat) (s:St) (a:Act) (w:World) (E:Emb):Prop where
 sim:Sim C X w s.mem E
 env:∀t,Rep w (away X s.mem E) s.mem E (a.eval (.tmp t)) (look s.env t)
 size:a.tmps.size=n
 defers:okD lo X a.defers w
 fix:∀q,lo.fx=some q→a.eval (.tmp q.1)=q.2
theorem aa0 {n:Nat}{s:St}{a:Act}(h:InS C X lo n s a w E){x:Operand}{y:Opd}(hok:acy x y=true):Rep w (away X s.mem E) s.mem E (a.eval x) (s.val y):=by
 unfold acy at hok
 split at hok
 ·simp only[beq_iff_eq]at hok;subst hok;exact h.env _
 ·exact .d (ng hok)
 ·simp only[beq_iff_eq]at hok
  subst hok
  exact .d (.func .nil .nil)
 ·cases hok
theorem adE {n:Nat}{s:St}{a:Act}(h:InS C X lo n s a w E):∀{xs:List Operand} {ys:List Opd},Td xs ys=true→aK w (away X s.mem E) s.mem E (xs.map a.eval) (ys.map s.val)
 | [],[],_=> .nil
 |x::xs,y::ys,hok=>by
  simp only[Td,Bool.and_eq_true]at hok
  exact .cons (aa0 h hok.1) (adE h hok.2)
 | [],_::_,hok=>by simp[Td]at hok
 | _::_,[],hok=>by simp[Td]at hok
theorem vT {a:Act}{d t:Nat}{v:Value}:(a.put (some d) v).eval (.tmp t)=if t=d∧d<a.tmps.size then v else a.eval (.tmp t):=by
 simp only[Act.put,Act.eval,Array.getD_eq_getD_getElem?,Array.getElem?_setIfInBounds]
 by_cases h:d=t
 ·subst h
  by_cases h2:d<a.tmps.size
  ·simp[h2]
  ·simp[h2]
 ·have:¬t=d:=fun e=>h e.symm
  simp[h,this]
theorem InS.put {n:Nat}{s:St}{a:Act}{M':Mem}{w':World}{E':Emb}(h:InS C X lo n s a w E)(hS:Sim C X w' M' E')(hf:From w s.mem E w' M' E'){dst:Option Nat}(hfx:∀q,lo.fx=some q→dst≠some q.1)(hd:dst.all (·<n)=true){v:Value}{p:PV}
  (hr:dst.isSome=true→Rep w' (away X M' E') M' E' v p):InS C X lo n ⟨put s.env dst p,M'⟩ (a.put dst v) w' E':={
 sim:=hS
 env:=fun t=>by
  cases dst with
  |none=>simpa[Am.put,Act.put]using(h.env t).from hf
  |some d=>
   simp only[Option.all_some,decide_eq_true_eq]at hd
   rw[vT]
   simp only[Am.put,look]
   by_cases hdt:t=d
   ·subst hdt
    simp only[beq_self_eq_true,cond_true,true_and,h.size,hd,if_true]
    exact hr rfl
   ·have:(d==t)=false:=by simp;exact fun e=>hdt e.symm
    simp only[this,cond_false,hdt,false_and,if_false]
    exact(h.env t).from hf
 size:=by cases dst<;>simp[Act.put,h.size]
 defers:=by
  have:(a.put dst v).defers=a.defers:=by cases dst<;>rfl
  rw[this];exact h.defers.from h.sim hf
 fix:=fun q hq=>by
  cases dst with
  |none=>exact h.fix q hq
  |some d=>
   rw[vT,if_neg fun hh=>hfx q hq (by rw[←hh.1])]
   exact h.fix q hq}
theorem InS.later {n:Nat}{s:St}{a:Act}{w':World}(h:InS C X lo n s a w E)(hl:Later w w'):InS C X lo n s a w' E:={
 sim:=h.sim.later hl
 env:=fun t=>(h.env t).from (hl.from s.mem E)
 size:=h.size
 defers:=h.defers.from h.sim (hl.from s.mem E)
 fix:=h.fix}
def Post (C:Ctx)(X:Nat→Prop)(n:Nat)(w₀:World)(M₀:Mem)(E₀:Emb)(ds₀:List Deferred)(ex:Bool)(fx:Option (Nat×Value))(Q:Ex→St→Prop):Exit→Act→World→Prop
 | .normal,a,w=>∃(X':Nat→Prop) (s:St) (E:Emb),(∀b,X b→X' b)∧Q .normal s∧InS C X' ⟨w₀.heap.size,ds₀,ex,fx⟩ n s a w E∧From w₀ M₀ E₀ w s.mem E
 | .exit id,a,w=>∃(X':Nat→Prop) (s:St) (E:Emb),(∀b,X b→X' b)∧Q (.exit id) s∧InS C X' ⟨w₀.heap.size,ds₀,ex,fx⟩ n s a w E∧From w₀ M₀ E₀ w s.mem E
 | .ret,a,w=>∃(X':Nat→Prop) (s:St) (E:Emb),(∀b,X b→X' b)∧Q .ret s∧InS C X' ⟨w₀.heap.size,ds₀,ex,fx⟩ n s a w E∧From w₀ M₀ E₀ w s.mem E
 | .panic chain,a,w=>∃(X':Nat→Prop) (v:Value) (d:DV) (M:Mem) (E:Emb),(∀b,X b→X' b)∧chain=[{v,recovered:=false}]∧Q (.panic d) ⟨[],M⟩∧Sim C X' w M E∧From w₀ M₀ E₀ w M E∧bf w (away X' M E) v d∧okD ⟨w₀.heap.size,ds₀,ex,fx⟩ X' a.defers w∧(∀q,fx=some q→a.eval (.tmp q.1)=q.2)
 | _,_,_=>False
theorem Post.up {X':Nat→Prop}{n:Nat}{w₀:World}{M₀:Mem}{E₀:Emb}{ds₀:List Deferred}{ex:Bool}{fx:Option (Nat×Value)}{Q:Ex→St→Prop}(hx:∀b,X b→X' b){e:Exit}{a:Act}(h:Post C X' n w₀ M₀ E₀ ds₀ ex fx Q e a w):Post C X n w₀ M₀ E₀ ds₀ ex fx Q e a w:=by
 cases e with
 |normal=>obtain⟨X2,s,E,h1,h2⟩:=h;exact⟨X2,s,E,fun b hb=>h1 b (hx b hb),h2⟩
 |exit id=>obtain⟨X2,s,E,h1,h2⟩:=h;exact⟨X2,s,E,fun b hb=>h1 b (hx b hb),h2⟩
 |ret=>obtain⟨X2,s,E,h1,h2⟩:=h;exact⟨X2,s,E,fun b hb=>h1 b (hx b hb),h2⟩
 |panic c=>obtain⟨X2,v,d,M,E,h1,h2⟩:=h;exact⟨X2,v,d,M,E,fun b hb=>h1 b (hx b hb),h2⟩
 |goto l=>exact h.elim
 |outgrown=>exact h.elim
theorem aaB {P:Program}{op:Op}{p:POp}(h:aI P op p=true):∀c,op≠ .defer c:=by
 rintro c rfl
 simp[aI]at h
def af6 (ops:Array Oper)(g:Option (Nat×Bool))(g':Option (Nat×Bool)):Bool:=
 match g,g' with
 |none,none=>true
 |some (j,want),some (t,want')=>want==want'&&decide ((ops[j]?).bind (·.dst)=some t)
 | _,_=>false
def aj2 (P:Program)(n:Nat)(ops:Array Oper)(o:Oper)(p:PO):Bool:=
 aI P o.op p.op&&Td (opsOf o.op) p.args&&decide (o.dst=p.dst)&&p.dst.all (·<n)&&af6 ops o.guard p.g
def PO.plain (p:PO):PO:=match p.op with| .JE _ _ f=>{p with op:= .call f,args:=p.args.tail}| _=>p
def POp.noK:POp→Bool| .JE _ _ _=>false| _=>true
def aj1 (P:Program)(n:Nat)(ops:Array Oper)(o:Oper)(p:PO):Bool:=aj2 P n ops o p.plain&&(decide (p.fl=0)||p.op.noK)
theorem SC.mono {f:FuncId}{args:List PV}{M:Mem}{K K':PV→Mem→Prop}{KP:DV→Mem→Prop}(h:SC C f args M K KP)(hk:∀v M',K v M'→K' v M'):SC C f args M K' KP:=by
 intro X w E vals hS hA
 refine(h X w E vals hS hA).mono fun e w' he=> ?_
 cases e with
 |returned v=>
  obtain⟨p,M',E',h1,h2⟩:=he
  exact⟨p,M',E',hk _ _ h1,h2⟩
 |panicked c=>exact he
 |outgrown=>exact he
theorem amb {agg:Bool}{n:Nat}{x:PV}{M:Mem}{K:PV→Prop}(h:bQ agg n x M K):∃v,K v:=by
 unfold bQ at h
 split at h
 ·split at h
  ·exact⟨_,h.2⟩
  ·exact h.elim
 ·exact⟨_,h.2⟩
 ·split at h
  ·exact⟨_,h.2⟩
  ·exact h.elim
 ·exact h.elim
theorem VY {agg:Bool}{n:Nat}{f:FuncId}{args:List PV}{base:Nat}(h:aj C base (.JE agg n f) args M K KP):aj C base (.call f) args.tail M K KP:=by
 cases args with
 |nil=>simp only[aj]at h
 |cons a rest=>
  simp only[aj]at h
  obtain⟨v,h⟩:=amb h
  simp only[aj,List.tail_cons]
  exact SC.mono h fun p M' hh=>hh.2
theorem ahR {p:PO}{base:Nat}{K:St→Prop}{s:St}(h:fU C base p K KP s)(hfl:p.plain.op=p.op∨CY base p.fl (p.args.tail.map s.val)):fU C base p.plain K KP s:=by
 unfold PO.plain at hfl⊢
 split
 ·rename_i agg n f hop
  have hfl:=hfl.resolve_left (by rw[hop];simp)
  unfold fU at h⊢
  simp only
  cases hg:p.g with
  |none=>
   rw[hg]at h
   simp only[hop]at h⊢
   refine⟨hfl,?_⟩
   have:=VY h.2
   rwa [←List.map_tail]at this
  |some q=>
   rw[hg]at h
   obtain⟨t,want⟩:=q
   simp only[hop]at h⊢
   split at h
   ·refine⟨fun hx=>⟨hfl,?_⟩,h.2⟩
    have:=VY (h.1 hx).2
    rwa [←List.map_tail]at this
   ·exact h
   ·exact h.elim
 ·exact h
theorem ahN {n:Nat}{ops:Array Oper}(hfx:∀q,lo.fx=some q→∀o∈ops,o.dst≠some q.1){i:Nat}{o:Oper}{p:PO}(hi:ops[i]?=some o)(hok:aj2 C.P n ops o p=true){s:St}{a:Act}(h:InS C X lo n s a w E){base:Nat}{K:St→Prop}{KP:DV→Mem→Prop}
  (hr:fU C base p K KP s){next:Act→World→Prop}{Q:Exit→Act→World→Prop}
  (hK:∀s' a' w' E',K s'→InS C X lo n s' a' w' E'→From w s.mem E w' s'.mem E'→next a' w')
  (hKP:∀d M' a' w' E' v,KP d M'→Sim C X w' M' E'→From w s.mem E w' M' E'→bf w' (away X M' E') v d→okD lo X a'.defers w'→(∀q,lo.fx=some q→a'.eval (.tmp q.1)=q.2)→Q (.panic [{v,recovered:=false}]) a' w'):
  wpOpIn (RF ro) 0 C.P ops Q i next a w:=by
 simp only[aj2,Bool.and_eq_true,decide_eq_true_eq]at hok
 obtain⟨⟨⟨⟨hk,ha⟩,hd⟩,hn⟩,hg⟩:=hok
 have hA:=adE h ha
 have hfo:∀q,lo.fx=some q→p.dst≠some q.1:=fun q hq=>by rw[←hd];exact hfx q hq o (Array.mem_of_getElem? hi)
 have main:aj C base p.op (p.args.map s.val) s.mem (fun v M=>K ⟨put s.env p.dst v,M⟩) KP→o.wpIn (RF ro) 0 C.P a w next Q:=by
  intro hop
  have:=YI (ρ:=a.eval) (fun f=>rfl) (fun v=>rfl) (o:=o) rfl h.sim hA hk hop
  unfold Oper.wpIn
  refine⟨fun _ _=>trivial,?_⟩
  rw[Oper.semAt_eq _ _ _ (aaB hk)]
  generalize (execOp a.eval o).run C.P w=r at this
  cases r with
  |ok nx w'=>
   cases nx with
   |value v=>
    obtain⟨pv,M',E',h1,h2,h3,h4⟩:=this
    simp only[Oper.uponIn_value]
    rw[hd]
    exact hK _ _ _ _ h1 (h.put h2 h3 hfo hn (fun _=>h4)) h3
   |skip=>
    obtain⟨M',E',h1,h2,h3⟩:=this
    simp only[Oper.uponIn_skip]
    rw[hd]
    exact hK _ _ _ _ h1 (h.put h2 h3 hfo hn (fun _=> .dead)) h3
   |enter f args=>
    obtain⟨rfl,ps,h1,h2⟩:=this
    simp only[Oper.uponIn_enter]
    have:=h1 X w' E args.toList h.sim h2
    refine⟨fun h=>by simp[RF,Fence.wide]at h,CallsIn.mono (VZ (ro:=ro) (by simpa using this)) fun e w'' he=> ?_⟩
    cases e with
    |returned v=>
     obtain⟨pv,M',E',g1,g2,g3,g4⟩:=he
     show next (a.put o.dst v) w''
     rw[hd]
     exact hK _ _ _ _ g1 (h.put g2 g3 hfo hn (fun _=>g4)) g3
    |panicked chain=>
     obtain⟨v,d,M',E',rfl,g1,g2,g3,g4⟩:=he
     exact hKP _ _ _ _ _ _ g1 g2 g3 g4 (h.defers.from h.sim g3) h.fix
    |outgrown=>exact he.elim
   |round l f tmps as body=>
    obtain⟨rfl,h1⟩:=this
    simp only[Oper.uponIn_round]
    refine⟨fun h=>by simp[RF,Fence.wide]at h,RoundIn.mono (F:=RF ro) (n:=0 - 1) h1 fun e w'' he=> ?_⟩
    cases e with
    |returned v=>
     obtain⟨pv,M',E',g1,g2,g3,g4⟩:=he
     show next (a.put o.dst v) w''
     rw[hd]
     exact hK _ _ _ _ g1 (h.put g2 g3 hfo hn (fun _=>g4)) g3
    |panicked chain=>
     obtain⟨v,d,M',E',rfl,g1,g2,g3,g4⟩:=he
     exact hKP _ _ _ _ _ _ g1 g2 g3 g4 (h.defers.from h.sim g3) h.fix
    |outgrown=>exact he.elim
   | _=>exact this.elim
  |halt x w'=>
   cases x with
   |panic v=>
    obtain⟨d,M',E',g1,g2,g3,g4⟩:=this
    exact hKP _ _ _ _ _ _ g1 g2 g3 g4 (h.defers.from h.sim g3) h.fix
   | _=>exact this.elim
 unfold wpOpIn
 simp only[hi]
 unfold fU at hr
 unfold af6 at hg
 split at hg
 ·rename_i hog hpg
  simp only[hpg]at hr
  have hw:Region.wanted o (yielded ops a.tmps)=true:=by simp[Region.wanted,hog]
  simp only[hw,if_true]
  exact main hr.2
 ·rename_i j want t want' hog hpg
  simp only[Bool.and_eq_true,beq_iff_eq,decide_eq_true_eq]at hg
  obtain⟨rfl,hj⟩:=hg
  simp only[hpg]at hr
  split at hr
  ·rename_i x hx
   obtain⟨r1,r2⟩:=hr
   have ht:=h.env t
   rw[hx]at ht
   have hb:=ht.toD.pO
   have hy:yielded ops a.tmps j=some x:=by
    simp only[yielded,hj,Option.bind_some]
    simp only[Act.eval,Array.getD_eq_getD_getElem?]at hb
    cases hq:a.tmps[t]? with
    |none=>rw[hq]at hb;simp[undef]at hb
    |some u=>rw[hq]at hb;simp at hb;simp[hb]
   have hw:Region.wanted o (yielded ops a.tmps)=(x==want):=by simp[Region.wanted,hog,hy]
   rw[hw]
   by_cases hxw:x=want
   ·subst hxw
    simp only[beq_self_eq_true,if_true]
    exact main (r1 rfl).2
   ·have:(x==want)=false:=by simp[hxw]
    simp only[this,Bool.false_eq_true,if_false]
    rw[hd]
    refine⟨fun _ _=>trivial,?_⟩
    exact hK _ _ _ _ (r2 (by cases x<;>cases want<;>simp_all)) (h.put h.sim (.refl _ _ _) hfo hn (fun _=> .d (.tup .nil))) (.refl _ _ _)
  ·rename_i hx
   have ht:=h.env t
   rw[hx]at ht
   have hy:yielded ops a.tmps j=none:=by
    simp only[yielded,hj,Option.bind_some]
    have hb:=ht.toD
    simp only[Act.eval,Array.getD_eq_getD_getElem?]at hb
    cases hq:a.tmps[t]? with
    |none=>rfl
    |some u=>
     rw[hq]at hb
     simp only[Option.getD_some]at hb
     cases hb
     rfl
   have hw:Region.wanted o (yielded ops a.tmps)=false:=by simp[Region.wanted,hog,hy]
   simp only[hw,Bool.false_eq_true,if_false]
   rw[hd]
   refine⟨fun _ _=>trivial,?_⟩
   exact hK _ _ _ _ hr (h.put h.sim (.refl _ _ _) hfo hn (fun _=> .d (.tup .nil))) (.refl _ _ _)
  ·exact hr.elim
 ·cases hg
theorem acR {n:Nat}{ops:Array Oper}(hfx:∀q,lo.fx=some q→∀o∈ops,o.dst≠some q.1){i:Nat}{o:Oper}{p:PO}(hi:ops[i]?=some o)(hok:aj1 C.P n ops o p=true){s:St}{a:Act}(h:InS C X lo n s a w E){base:Nat}{K:St→Prop}{KP:DV→Mem→Prop}
  (hr:fU C base p K KP s){next:Act→World→Prop}{Q:Exit→Act→World→Prop}
  (hK:∀s' a' w' E',K s'→InS C X lo n s' a' w' E'→From w s.mem E w' s'.mem E'→next a' w')
  (hKP:∀d M' a' w' E' v,KP d M'→Sim C X w' M' E'→From w s.mem E w' M' E'→bf w' (away X M' E') v d→okD lo X a'.defers w'→(∀q,lo.fx=some q→a'.eval (.tmp q.1)=q.2)→Q (.panic [{v,recovered:=false}]) a' w'):
  wpOpIn (RF ro) 0 C.P ops Q i next a w:=by
 simp only[aj1,Bool.and_eq_true,Bool.or_eq_true,decide_eq_true_eq]at hok
 refine ahN hfx hi hok.1 h (ahR hr ?_) hK hKP
 rcases hok.2 with h2|h2
 ·exact .inr (by rw[h2];trivial)
 ·refine .inl ?_
  unfold PO.plain
  split
  ·rename_i agg n f hop
   rw[hop]at h2;cases h2
  ·rfl
theorem Zk {n:Nat}{ops:Array Oper}(hfx:∀q,lo.fx=some q→∀o∈ops,o.dst≠some q.1){base:Nat}{K:St→Prop}{KP:DV→Mem→Prop}{Q:Exit→Act→World→Prop}{w₀:World}{M₀:Mem}{E₀:Emb}
  (hK:∀s' a' w' E',K s'→InS C X lo n s' a' w' E'→From w₀ M₀ E₀ w' s'.mem E'→Q .normal a' w')
  (hKP:∀d M' a' w' E' v,KP d M'→Sim C X w' M' E'→From w₀ M₀ E₀ w' M' E'→bf w' (away X M' E') v d→okD lo X a'.defers w'→(∀q,lo.fx=some q→a'.eval (.tmp q.1)=q.2)→Q (.panic [{v,recovered:=false}]) a' w'):
  ∀(ps:List PO) (k:Nat),(∀(j:Nat) (p:PO),ps[j]?=some p→∃o,ops[k+j]?=some o∧aj1 C.P n ops o p=true)→∀(s:St) (a:Act) (w:World) (E:Emb),InS C X lo n s a w E→From w₀ M₀ E₀ w s.mem E→
   zA C base ps K KP s→wpOpsIn (RF ro) 0 C.P ops Q (List.range' k ps.length) a w
 | [],_,_,s,a,w,E,h,hf,hr=>by
  simp only[List.length_nil,List.range'_zero,wpOpsIn]
  exact hK s a w E hr h hf
 |p::ps,k,hok,s,a,w,E,h,hf,hr=>by
  simp only[List.length_cons,List.range'_succ]
  rw[wpOpsIn_cons]
  obtain⟨o,ho,hp⟩:=hok 0 p rfl
  refine acR hfx ho hp h hr (fun s' a' w' E' hs' hi' hf'=> ?_) (fun d M' a' w' E' v h1 h2 h3 h4 h5=>hKP d M' a' w' E' v h1 h2 (hf.trans h3) h4 h5)
  refine Zk hfx hK hKP ps (k+1) (fun j q hq=> ?_) s' a' w' E' hi' (hf.trans hf') hs'
  obtain⟨o',h1,h2⟩:=hok (j+1) q (by simpa using hq)
  exact⟨o',by rw[show k+1+j=k+(j+1) by omega];exact h1,h2⟩
def QH (P:Program)(n:Nat)(ops:Array Oper):List Oper→List PO→Bool
 | [],[]=>true
 |o::os,p::ps=>aj1 P n ops o p&&QH P n ops os ps
 | _,_=>false
theorem Nq {P:Program}{n:Nat}{ops:Array Oper}:∀{os:List Oper} {ps:List PO},QH P n ops os ps=true→os.length=ps.length∧∀(j:Nat) (p:PO),ps[j]?=some p→∃o,os[j]?=some o∧aj1 P n ops o p=true
 | [],[],_=>⟨rfl,fun j p h=>by simp at h⟩
 |o::os,p::ps,h=>by
  simp only[QH,Bool.and_eq_true]at h
  obtain⟨h1,h2⟩:=Nq h.2
  refine⟨by simp[h1],fun j q hq=> ?_⟩
  cases j with
  |zero=>simp at hq;subst hq;exact⟨o,rfl,h.1⟩
  |succ j=>simpa using h2 j q (by simpa using hq)
 | [],_::_,h=>by simp[QH]at h
 | _::_,[],h=>by simp[QH]at h
theorem aa4 {n:Nat}{ops:Array Oper}(hfx:∀q,lo.fx=some q→∀o∈ops,o.dst≠some q.1){ps:List PO}(hok:QH C.P n ops ops.toList ps=true){base:Nat}{K:St→Prop}{KP:DV→Mem→Prop}{Q:Exit→Act→World→Prop}
  {s:St}{a:Act}{w₀:World}{M₀:Mem}{E₀:Emb}(h:InS C X lo n s a w E)(hf:From w₀ M₀ E₀ w s.mem E)(hr:zA C base ps K KP s)
  (hK:∀s' a' w' E',K s'→InS C X lo n s' a' w' E'→From w₀ M₀ E₀ w' s'.mem E'→Q .normal a' w')
  (hKP:∀d M' a' w' E' v,KP d M'→Sim C X w' M' E'→From w₀ M₀ E₀ w' M' E'→bf w' (away X M' E') v d→okD lo X a'.defers w'→(∀q,lo.fx=some q→a'.eval (.tmp q.1)=q.2)→Q (.panic [{v,recovered:=false}]) a' w'):
  wpOpsIn (RF ro) 0 C.P ops Q (List.range ops.size) a w:=by
 obtain⟨h1,h2⟩:=Nq hok
 have:=Zk (ro:=ro) (C:=C) (X:=X) hfx hK hKP ps 0 (fun j p hp=>by
  obtain⟨o,g1,g2⟩:=h2 j p hp
  exact⟨o,by simpa using g1,g2⟩) s a w E h hf hr
 rw[List.range_eq_range',show ops.size=ps.length by simpa using h1]
 exact this
end
section
variable {C:Ctx}{X:Nat→Prop}{w:World}{M:Mem}{E:Emb}{lo:Lo}
theorem iD {α:Type}{l:List α}{n i:Nat}{x:α}(h:(l.take n)[i]?=some x):i<n∧l[i]?=some x:=by
 rw[List.getElem?_take]at h
 split at h
 ·rename_i hi;exact⟨hi,h⟩
 ·cases h
theorem gJ {α:Type}{l:List α}{n i:Nat}(h:i<n):(l.take n)[i]?=l[i]?:=by
 rw[List.getElem?_take,if_pos h]
theorem Xr {n m:Nat}{b:Nat}(h:owned ⟨M.boxes.take n,M.fz.filter (fun b=>decide (b<n)),M.aA.take m⟩ ⟨E.bx.take n,E.ar.take m⟩ b):owned M E b:=by
 rcases h with⟨i,cs,h1,h2,h3⟩|⟨k,A,o,e,h1,h2,h3⟩
 ·exact .inl ⟨i,cs,(iD h1).2,fun hi=>h2 (List.mem_filter.2 ⟨hi,by simpa using(iD h1).1⟩),(iD h3).2⟩
 ·exact .inr ⟨k,A,o,e,(iD h1).2,h2,(iD h3).2⟩
theorem MX {n m:Nat}:∀b,away X ⟨M.boxes.take n,M.fz.filter (fun b=>decide (b<n)),M.aA.take m⟩ ⟨E.bx.take n,E.ar.take m⟩ b→away X M E b:=fun _ h=>h.imp id Xr
mutual
theorem Rep.take {n m:Nat}{O O':Nat→Prop}(hO:∀b,O' b→O b):∀{v:Value} {p:PV},p.upto n m=true→Rep w O M E v p→Rep w O' ⟨M.boxes.take n,M.fz.filter (fun b=>decide (b<n)),M.aA.take m⟩ ⟨E.bx.take n,E.ar.take m⟩ v p
 | _,_,_, .d h=> .d (h.weaken hO)
 | _,_,hu, .ptr hl hb ho=>by
  simp only[PV.upto,decide_eq_true_eq]at hu
  exact .ptr (by simp only[gJ hu];exact hl) (by simp only[gJ hu];exact hb) ho
 | _,_,hu, .mref hl hb ho=>by
  simp only[PV.upto,decide_eq_true_eq]at hu
  exact .mref (by simp only[gJ hu];exact hl) (by simp only[gJ hu];exact hb) ho
 | _,_,hu, .qY hl hb ho=>by
  simp only[PV.upto,decide_eq_true_eq]at hu
  exact .qY (by simp only[gJ hu];exact hl) (by simp only[gJ hu];exact hb) ho
 | _,_,hu, .DN hl hb ho=>by
  simp only[PV.upto,decide_eq_true_eq]at hu
  exact .DN (by simp only[gJ hu];exact hl) (by simp only[gJ hu];exact hb) ho
 | _,_,hu, .jY hlt h=>by
  simp only[PV.upto,decide_eq_true_eq]at hu
  refine .jY (by simp;omega) fun A hA=> ?_
  simp only[gJ hu]at hA⊢
  obtain⟨g1,g2⟩:=h A hA
  refine⟨g1,fun hv=> ?_⟩
  obtain⟨loc,q1,q2,q3⟩:=g2 hv
  refine⟨loc,q1,q2,?_⟩
  cases loc with
  |none=>exact bf.weaken hO q3
  |some q=>exact q3
 | _,_,hu, .tsl hlt h=>by
  simp only[PV.upto,decide_eq_true_eq]at hu
  refine .tsl (by simp;omega) fun A hA=> ?_
  simp only[gJ hu]at hA⊢
  obtain⟨g1,g2⟩:=h A hA
  refine⟨g1,fun hv=> ?_⟩
  obtain⟨loc,q1,q2,q3⟩:=g2 hv
  refine⟨loc,q1,q2,?_⟩
  cases loc with
  |none=>exact bf.weaken hO q3
  |some q=>exact q3
 | _,_,hu, .psl hlt h=>by
  simp only[PV.upto,decide_eq_true_eq]at hu
  refine .psl (by simp;omega) fun A hA=> ?_
  simp only[gJ hu]at hA⊢
  obtain⟨g1,g2⟩:=h A hA
  refine⟨g1,fun hv=> ?_⟩
  obtain⟨loc,q1,q2,q3⟩:=g2 hv
  refine⟨loc,q1,q2,?_⟩
  cases loc with
  |none=>exact bf.weaken hO q3
  |some q=>exact q3
 | _,_,_, .dead=> .dead
 | _,_,hu, .func h1 h2=>by
  simp only[PV.upto,Bool.and_eq_true]at hu
  exact .func (aK.ZK hO hu.1 h1) (aK.ZK hO hu.2 h2)
 | _,_,hu, .agg h=>by
  simp only[PV.upto]at hu
  exact .agg (aK.ZK hO hu h)
 | _,_,hu, .tup h=>by
  simp only[PV.upto]at hu
  exact .tup (aK.ZK hO hu h)
theorem aK.ZK {n m:Nat}{O O':Nat→Prop}(hO:∀b,O' b→O b):∀{v:List Value} {p:List PV},Si n m p=true→aK w O M E v p→aK w O' ⟨M.boxes.take n,M.fz.filter (fun b=>decide (b<n)),M.aA.take m⟩ ⟨E.bx.take n,E.ar.take m⟩ v p
 | _,_,_, .nil=> .nil
 | _,_,hu, .cons h t=>by
  simp only[Si,Bool.and_eq_true]at hu
  exact .cons (Rep.take hO hu.1 h) (aK.ZK hO hu.2 t)
end
theorem adD {n m:Nat}:∀{cs:List PV},(∀c∈cs,c.upto n m=true)→Si n m cs=true
 | [],_=>rfl
 |c::cs,h=>by
  simp only[Si,Bool.and_eq_true]
  exact⟨h c (by simp),adD fun d hd=>h d (by simp[hd])⟩
theorem afB {k nb na:Nat}{s s':St}{a:Act}{w₀:World}{M₀:Mem}{E₀:Emb}(h:InS C X lo k s a w E)(hf:From w₀ M₀ E₀ w s.mem E)(hb:M₀.boxes.length≤nb)(ha:M₀.aA.length≤na)(hw:Weak nb na s s'):
  ∃E',InS C X lo k s' a w E'∧From w₀ M₀ E₀ w s'.mem E':=by
 rcases hw with rfl|hw
 ·exact⟨E,h,hf⟩
 obtain⟨n,m,hn,hm,hmem,henv,hbox⟩:=hw
 obtain⟨env',mem'⟩:=s'
 simp only at hmem
 subst hmem
 refine⟨⟨E.bx.take n,E.ar.take m⟩,?_,?_⟩
 ·exact
   {size:=h.size,defers:=h.defers,fix:=h.fix
    env:=fun t=>by
     rcases henv t with hd|⟨he,hu⟩
     ·simp only at hd⊢;rw[hd];exact .dead
     ·simp only at he hu⊢
      rw[he]at hu⊢
      exact(h.env t).take MX hu
    sim:=
     {glob:=h.sim.glob,iE:=h.sim.iE,xlt:=h.sim.xlt
      ig:=by simp[h.sim.ig]
      aY:=by simp[h.sim.aY]
      box:=fun b cs hcs=>by
       obtain⟨h1,h2⟩:=iD hcs
       obtain⟨blk,q1,q2,q3⟩:=h.sim.box b cs h2
       refine⟨blk,by rw[gJ h1];exact q1,q2,q3.move (fun _ ho=>ho) (fun b o hb ho=>⟨ho,fun h=>hb (MX b h)⟩) fun vs ps hps q4=>q4.ZK MX (adD fun c hc=> ?_)⟩
       exact hbox (some cs) (List.mem_of_getElem? hcs) c (by simpa using hps c hc)
      arr:=fun j A hA=>by
       obtain⟨h1,h2⟩:=iD hA
       obtain⟨q1,q2,q3,q4⟩:=h.sim.arr j A h2
       refine⟨q1,q2,fun hs=>by rw[gJ h1];exact q3 hs,fun blk o e he=> ?_⟩
       rw[gJ h1]at he
       obtain⟨r1,vs,T,r2,r3,r4,r5⟩:=q4 blk o e he
       exact⟨r1,vs,T,r2,r3,r4,r5.weaken MX⟩
      bb:=fun b b' cs cs' blk h1 h2 h3 h4=>h.sim.bb b b' cs cs' blk (iD h1).2 (iD h2).2 (iD h3).2 (iD h4).2
      aa:=fun j j' A A' blk o e o' e' h1 h2 h3 h4=>h.sim.aa j j' A A' blk o e o' e' (iD h1).2 (iD h2).2 (iD h3).2 (iD h4).2
      ba:=fun b j cs A blk o e h1 h2 h3 h4=>h.sim.ba b j cs A blk o e (iD h1).2 (iD h2).2 (iD h3).2 (iD h4).2}}
 ·exact
   {os:=hf.os,tape:=hf.tape,output:=hf.output,size:=hf.size,keep:=hf.keep
    own:=fun b hb'=>hf.own b (Xr hb')
    ig:=by have:=hf.ig;simp only[List.length_take];omega
    bx:=fun b cs hcs=>by
     have hlt:b<n:=Nat.lt_of_lt_of_le (List.getElem?_eq_some_iff.1 hcs).1 (by omega)
     obtain⟨h1,cs',h2,h3⟩:=hf.bx b cs hcs
     exact⟨by rw[gJ hlt];exact h1,cs',by rw[gJ hlt];exact h2,h3⟩
    aY:=by have:=hf.aY;simp only[List.length_take];omega
    ar:=fun j A' hj hA=>by
     have hlt:j<m:=by omega
     rw[gJ hlt]at hA⊢
     exact hf.ar j A' hj hA}
theorem InS.frz {k:Nat}{s:St}{a:Act}{t:Nat}{d:DV}(h:InS C X lo k s a w E)(hd:datum s.mem (look s.env t)=some d):
  InS C X lo k ⟨(t, .d d)::s.env,s.mem.frz [look s.env t]⟩ a w E∧From w s.mem E w (s.mem.frz [look s.env t]) E:=by
 have hf:=nX (M:=s.mem) (E:=E) [look s.env t] w
 refine⟨{sim:=pz h.sim _,size:=h.size,defers:=h.defers,fix:=h.fix,env:=fun u=> ?_},hf⟩
 simp only[look]
 by_cases hu:t=u
 ·subst hu
  simp only[beq_self_eq_true,cond_true]
  exact .d (mF h.sim (h.env t) hd (by simp))
 ·have:(t==u)=false:=by simp[hu]
  simp only[this,cond_false]
  exact(h.env u).from hf
theorem Ut {k:Nat}{K:St→Prop}:∀{ts:List Nat} {s:St} {a:Act},zW ts K s→InS C X lo k s a w E→∃s',K s'∧InS C X lo k s' a w E∧From w s.mem E w s'.mem E
 | [],s,a,h,hi=>⟨s,h,hi, .refl _ _ _⟩
 |t::ts,s,a,h,hi=>by
  simp only[zW]at h
  split at h
  ·rename_i d hd
   obtain⟨h1,h2⟩:=hi.frz hd
   obtain⟨s',g1,g2,g3⟩:=Ut h h1
   exact⟨s',g1,g2,h2.trans g3⟩
  ·exact h.elim
theorem QA {l:List (Nat×PV)}:∀{ks:List Nat} (t:Nat),look (iI l ks) t=look l t∨look (iI l ks) t= .dead
 | [],t=> .inr rfl
 |k::ks,t=>by
  simp only[iI,List.map_cons,look]
  by_cases h:k=t
  ·subst h;simp
  ·have:(k==t)=false:=by simp[h]
   simp only[this,cond_false]
   exact QA (ks:=ks) t
theorem InS.keep {k:Nat}{s:St}{a:Act}{ks:List Nat}(h:InS C X lo k s a w E):InS C X lo k ⟨iI s.env ks,s.mem⟩ a w E:={
 sim:=h.sim
 size:=h.size
 defers:=h.defers
 fix:=h.fix
 env:=fun t=>by
  rcases QA (l:=s.env) (ks:=ks) t with he|he
  ·simp only[he];exact h.env t
  ·simp only[he];exact .dead}
theorem InS.reserve {k:Nat}{s:St}{a:Act}(n:Nat)(h:InS C X lo k s a w E):
  InS C X lo k ⟨s.env,{s.mem with boxes:=s.mem.boxes++List.replicate n none}⟩ a w {E with bx:=E.bx++List.replicate n 0}∧
  From w s.mem E w {s.mem with boxes:=s.mem.boxes++List.replicate n none} {E with bx:=E.bx++List.replicate n 0}:=by
 obtain⟨h1,h2⟩:=Vl h.sim n
 exact⟨{sim:=h1,size:=h.size,defers:=h.defers,fix:=h.fix,env:=fun t=>(h.env t).from h2},h2⟩
end
end Go.Am
