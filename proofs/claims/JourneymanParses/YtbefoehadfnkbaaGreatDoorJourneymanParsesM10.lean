/-
  Part 10 of the proof of a law of desks: an abstract machine over the model, contracts of functions, plain laws.
  Conditions: none.
-/
import Derived.Test.YtbefoehadfnkbaaGreatDoorJourneymanParsesM09
import Derived.RangeFuncRecord
import Derived.Sort.LoopGhostIn
set_option linter.all false
namespace Go.Am
def SI (env:List (Nat×PV)):Option (Nat×Bool)→Option Bool
 |none=>some true
 |some (t,want)=>match look env t with| .d (.bool x)=>some (x==want)| .d (.tup [])=>some false| _=>none
section
variable {C:Ctx}{base:Nat}
theorem nM {o:PO}{K:St→Prop}{KP:DV→Mem→Prop}{s:St}:fU C base o K KP s↔match SI s.env o.g with
  |some true=>CY base o.fl (o.args.map s.val)∧aj C base o.op (o.args.map s.val) s.mem (fun v M=>K ⟨put s.env o.dst v,M⟩) KP
  |some false=>K ⟨put s.env o.dst (.d (.tup [])),s.mem⟩
  |none=>False:=by
 unfold fU SI
 cases hg:o.g with
 |none=>exact Iff.rfl
 |some q=>
  obtain⟨t,want⟩:=q
  simp only
  generalize look s.env t=p
  cases p with
  |d y=>
   cases y with
   |bool x=>
    simp only
    by_cases hxw:x=want
    ·subst hxw
     have:¬(x= !x):=by cases x<;>simp
     simp only[beq_self_eq_true,true_implies,this,false_implies,and_true]
    ·have h1:(x==want)=false:=by simp[hxw]
     have h2:x= !want:=by cases x<;>cases want<;>simp_all
     simp only[h1]
     constructor
     ·intro h;exact h.2 h2
     ·intro h;exact⟨fun e=>absurd e hxw,fun _=>h⟩
   |tup vs=>cases vs<;>exact Iff.rfl
   | _=>exact Iff.rfl
  | _=>exact Iff.rfl
def Opd.isT (d:Nat):Opd→Bool| .t n=>n==d| .c _=>false
def looks (o:PO)(d:Nat):Bool:=o.args.any (Opd.isT d)||(match o.g with|some (t,_)=>t==d|none=>false)
def Iy (x y:PO):Bool:=(match x.dst with|some d=> !looks y d&&decide (y.dst≠some d)|none=>true)&&(match y.dst with|some d=> !looks x d|none=>true)
theorem Ux {env:List (Nat×PV)}{dst:Option Nat}{v:PV}{t:Nat}(h:∀d,dst=some d→t≠d):look (put env dst v) t=look env t:=by
 cases dst with
 |none=>rfl
 |some d=>
  have:(d==t)=false:=by simp;exact fun e=>h d rfl e.symm
  simp[put,look,this]
theorem lu {o:PO}{env:List (Nat×PV)}{dst:Option Nat}{v:PV}{M M':Mem}(h:∀d,dst=some d→looks o d=false):
  o.args.map (St.val ⟨put env dst v,M'⟩)=o.args.map (St.val ⟨env,M⟩)∧SI (put env dst v) o.g=SI env o.g:=by
 constructor
 ·refine List.map_congr_left fun x hx=> ?_
  cases x with
  |c d=>rfl
  |t n=>
   refine Ux fun d hd=> ?_
   have:=h d hd
   simp only[looks,Bool.or_eq_false_iff,List.any_eq_false]at this
   have:=this.1 _ hx
   simpa[Opd.isT]using this
 ·cases hg:o.g with
  |none=>rfl
  |some q=>
   obtain⟨t,want⟩:=q
   simp only[SI]
   rw[Ux fun d hd=> ?_]
   have:=h d hd
   simp only[looks,hg,Bool.or_eq_false_iff,beq_eq_false_iff_ne]at this
   exact this.2
def Ext (K:St→Prop):Prop:=∀s s':St,(∀t,look s.env t=look s'.env t)→s.mem=s'.mem→K s→K s'
theorem Ext.use {K:St→Prop}(hK:Ext K){s s':St}(h:K s)(he:∀t,look s.env t=look s'.env t)(hm:s.mem=s'.mem):K s':=hK s s' he hm h
theorem oJ {env:List (Nat×PV)}{d1 d2:Option Nat}{v1 v2:PV}(h:∀d,d1=some d→d2≠some d)(t:Nat):look (put (put env d1 v1) d2 v2) t=look (put (put env d2 v2) d1 v1) t:=by
 cases d1 with
 |none=>rfl
 |some a=>
  cases d2 with
  |none=>rfl
  |some b=>
   have hab:a≠b:=fun e=>h a rfl (e▸rfl)
   simp only[put,look]
   by_cases h1:a=t
   ·subst h1
    have:(b==a)=false:=by simp;exact fun e=>hab e.symm
    simp[this]
   ·have:(a==t)=false:=by simp[h1]
    simp[this]
theorem amV {oj oi:PO}(hk:(kd oj.op oj.fl).swap (kd oi.op oi.fl)=true)(hap:Iy oj oi=true){K:St→Prop}{KP:DV→Mem→Prop}(hK:Ext K)(s:St)
  (h:fU C base oj (fun s'=>fU C base oi K KP s') KP s):fU C base oi (fun s'=>fU C base oj K KP s') KP s:=by
 have hxj:kd oj.op oj.fl≠ .x:=by intro e;rw[e]at hk;cases hk
 have hxi:kd oi.op oi.fl≠ .x:=by intro e;rw[e]at hk;cases hh:kd oj.op oj.fl<;>rw[hh]at hk<;>cases hk
 simp only[Iy,Bool.and_eq_true]at hap
 obtain⟨a1,a2⟩:=hap
 have hj:∀d,oj.dst=some d→looks oi d=false:=by intro d hd;rw[hd]at a1;simp at a1;exact a1.1
 have hd:∀d,oj.dst=some d→oi.dst≠some d:=by intro d hd;rw[hd]at a1;simp at a1;exact a1.2
 have hi:∀d,oi.dst=some d→looks oj d=false:=by intro d hd;rw[hd]at a2;simpa using a2
 obtain⟨env,M⟩:=s
 rw[nM]at h⊢
 simp only at h⊢
 cases gj:SI env oj.g with
 |none=>rw[gj]at h;exact h.elim
 |some bj=>
  rw[gj]at h
  cases bj with
  |false=>
   simp only at h
   rw[nM]at h
   simp only[(lu (M:=M) (M':=M) hj).1,(lu (M:=M) (M':=M) hj).2]at h
   cases gi:SI env oi.g with
   |none=>rw[gi]at h;exact h.elim
   |some bi=>
    rw[gi]at h
    cases bi with
    |false=>
     simp only at h⊢
     rw[nM]
     simp only[(lu (M:=M) (M':=M) hi).2,gj]
     exact hK.use h (oJ hd) rfl
    |true=>
     simp only at h⊢
     obtain⟨hf,hr⟩:=h
     obtain⟨R,_,hR⟩:=VQ (C:=C) hxi hf
     obtain⟨v,M',r1,r2⟩:=(hR _ _ _).1 hr
     refine⟨hf,(hR _ _ _).2 ⟨v,M',r1,?_⟩⟩
     rw[nM]
     simp only[(lu (M:=M) (M':=M') hi).2,gj]
     exact hK.use r2 (oJ hd) rfl
  |true=>
   simp only at h
   obtain⟨hfj,hrj⟩:=h
   obtain⟨Rj,sj,hRj⟩:=VQ (C:=C) hxj hfj
   obtain⟨v1,M1,r1,h⟩:=(hRj _ _ _).1 hrj
   rw[nM]at h
   simp only[(lu (M:=M) (M':=M1) hj).1,(lu (M:=M) (M':=M1) hj).2]at h
   cases gi:SI env oi.g with
   |none=>rw[gi]at h;exact h.elim
   |some bi=>
    rw[gi]at h
    cases bi with
    |false=>
     simp only at h⊢
     rw[nM]
     simp only[(lu (M:=M) (M':=M) hi).1,(lu (M:=M) (M':=M) hi).2,gj]
     exact⟨hfj,(hRj _ _ _).2 ⟨v1,M1,r1,hK.use h (oJ hd) rfl⟩⟩
    |true=>
     simp only at h⊢
     obtain⟨hfi,hri⟩:=h
     obtain⟨Ri,si,hRi⟩:=VQ (C:=C) hxi hfi
     obtain⟨v2,M2,r2,h⟩:=(hRi _ _ _).1 hri
     obtain⟨M1',c1,c2⟩:=ag3 hk sj si _ _ _ _ _ r1 r2
     refine⟨hfi,(hRi _ _ _).2 ⟨v2,M1',c1,?_⟩⟩
     rw[nM]
     simp only[(lu (M:=M) (M':=M1') hi).1,(lu (M:=M) (M':=M1') hi).2,gj]
     exact⟨hfj,(hRj _ _ _).2 ⟨v1,M2,c2,hK.use h (oJ hd) rfl⟩⟩
theorem SY.mono {b:Nat}{args:List PV}{M:Mem}{K K':PV→Mem→Prop}{KP:DV→Mem→Prop}(h:SY C b args M K KP)(hk:∀v M',K v M'→K' v M'):SY C b args M K' KP:=by
 intro X w E vals l hS hA hl
 obtain⟨fn,tmps,a,body,h1,h2⟩:=h X w E vals l hS hA hl
 refine⟨fn,tmps,a,body,h1,h2.mono fun e w' he=> ?_⟩
 cases e with
 |returned v=>obtain⟨p,M',E',g1,g2⟩:=he;exact⟨p,M',E',hk _ _ g1,g2⟩
 |panicked c=>exact he
 |outgrown=>exact he
theorem lG {f:Bool}{l:List PV}{K K':Option Int→List PV→Prop}(hk:∀a l,K a l→K' a l)(h:dI f l K):dI f l K':=by
 unfold dI at h⊢
 split at h
 ·exact hk _ _ h
 ·exact hk _ _ h
 ·exact h.elim
theorem Jr {op:POp}{args:List PV}{M:Mem}{K K':PV→Mem→Prop}{KP:DV→Mem→Prop}(hk:∀v M',K v M'→K' v M')(h:aj C base op args M K KP):aj C base op args M K' KP:=by
 by_cases hx:∃fl,kd op fl≠ .x∧CY base fl args
 ·obtain⟨fl,h1,h2⟩:=hx
  obtain⟨R,_,hR⟩:=VQ (C:=C) h1 h2
  obtain⟨v,M',r,k⟩:=(hR _ _ _).1 h
  exact(hR _ _ _).2 ⟨v,M',r,hk _ _ k⟩
 ·have hx':kd op 0= .x:=by
   by_cases hh:kd op 0= .x
   ·exact hh
   ·exact absurd ⟨0,hh,trivial⟩ hx
  cases op with
  |jV sz=>
   simp only[aj]at h⊢
   split at h
   ·exact⟨h.1,h.2.1,h.2.2.1,hk _ _ h.2.2.2⟩
   ·exact hk _ _ h
   ·exact h.elim
  |iH sz zs is=>
   simp only[aj]at h⊢
   split at h
   ·rename_i ds hds
    try simp only[hds]
    split at h
    ·rename_i xs hxs;(try simp only[hxs]);exact hk _ _ h
    ·exact h.elim
   ·exact h.elim
  |store n=>
   simp only[aj]at h⊢
   split at h
   ·rename_i x y
    simp only[jH]at h⊢
    split at h
    ·split at h
     ·rename_i cs hcs;(try simp only[hcs]);exact⟨h.1,h.2.1,h.2.2.1,h.2.2.2.1,hk _ _ h.2.2.2.2⟩
     ·exact h.elim
    ·split at h
     ·rename_i A ds hA hds;(try simp only[hA,hds]);exact⟨h.1,h.2.1,h.2.2.1,h.2.2.2.1,h.2.2.2.2.1,hk _ _ h.2.2.2.2.2⟩
     ·exact h.elim
    ·exact h.elim
   ·exact h.elim
  |mkI t=>
   simp only[aj]at h⊢
   split at h
   ·split at h
    ·rename_i d hd;(try simp only[hd]);exact hk _ _ h
    ·exact h.elim
   ·exact h.elim
  |RV lo hi=>
   simp only[aj,Dh]at h⊢
   split at h
   ·refine lG (fun a l=>lG fun b l=>lG fun m l hh=> ?_) h
    exact⟨hh.1,hh.2.1,hh.2.2.1,hh.2.2.2.1,hh.2.2.2.2.1,hk _ _ hh.2.2.2.2.2⟩
   ·exact h.elim
  |RU sz lo hi mx=>
   simp only[aj,Df]at h⊢
   split at h
   ·refine lG (fun a l=>lG fun b l=>lG fun m l hh=> ?_) h
    exact⟨hh.1,hh.2.1,hh.2.2.1,hh.2.2.2.1,hh.2.2.2.2.1,hh.2.2.2.2.2.1,hk _ _ hh.2.2.2.2.2.2⟩
   ·refine lG (fun a l=>lG fun b l=>lG fun m l hh=> ?_) h
    refine⟨hh.1,?_⟩
    have h2:=hh.2
    split at h2
    ·rename_i A hA
     try simp only[hA]
     split at h2
     ·exact⟨h2.1,h2.2.1,h2.2.2.1,h2.2.2.2.1,hk _ _ h2.2.2.2.2⟩
     ·exact⟨h2.1,h2.2.1,h2.2.2.1,h2.2.2.2.1,h2.2.2.2.2.1,hk _ _ h2.2.2.2.2.2⟩
    ·exact h2.elim
   ·exact h.elim
  |call f=>exact SC.mono h hk
  |JE agg n f=>
   cases args with
   |nil=>exact h
   |cons a rest=>
    simp only[aj]at h⊢
    obtain⟨v,h1,h2⟩:=kC.1 h
    exact kC.2 ⟨v,h1,SC.mono h2 fun p M' hh=>⟨hh.1,hk _ _ hh.2⟩⟩
  |mkRow sz z=>
   simp only[aj]at h⊢
   split at h
   ·exact⟨h.1,h.2.1,h.2.2.1,h.2.2.2.1,h.2.2.2.2.1,hk _ _ h.2.2.2.2.2⟩
   ·exact h.elim
  |s2b=>
   simp only[aj]at h⊢
   split at h
   ·exact hk _ _ h
   ·exact h.elim
  |b2s=>
   simp only[aj]at h⊢
   split at h
   ·rename_i x
    cases hx:Dv 0 x M with
    |none=>simp only[hx]at h
    |some xs=>
     simp only[hx]at h⊢
     cases hb:bytesOf xs with
     |none=>simp only[hb]at h
     |some l=>simp only[hb]at h⊢;exact hk _ _ h
   ·exact h.elim
  |clr sz z=>
   simp only[aj]at h⊢
   split at h
   ·rename_i k ver skip
    cases hA:M.row k ver with
    |none=>simp only[hA]at h
    |some A=>simp only[hA]at h⊢;exact⟨h.1,h.2.1,h.2.2.1,hk _ _ h.2.2.2⟩
   ·exact h.elim
  |Ap f=>
   obtain⟨ds,h1,r,as,h2,h3⟩:=h
   refine⟨ds,h1,r,as,h2,h3.imp ?_ ?_⟩
   ·rintro⟨x,g1,g2,g3,g4⟩;exact⟨x,g1,g2,g3,hk _ _ g4⟩
   ·rintro⟨g1,g2⟩;exact⟨g1,hk _ _ g2⟩
  |iZ f=>
   obtain⟨ds,h1,x,h2,h3,h4⟩:=h
   exact⟨ds,h1,x,h2,h3,hk _ _ h4⟩
  |je=>
   simp only[aj]at h⊢
   split at h
   ·exact⟨h.1,h.2.mono hk⟩
   ·exact⟨h.1,h.2.mono hk⟩
   ·exact SY.mono h hk
   ·exact h.elim
  |IX neq=>
   simp only[aj]at h⊢
   split at h
   ·exact hk _ _ h
   ·exact hk _ _ h
   ·exact h.elim
  |rngS i=>
   simp only[aj]at h⊢
   split at h
   ·exact⟨h.1,hk _ _ h.2⟩
   ·exact h.elim
  |acw=>
   simp only[aj]at h⊢
   split at h
   ·rename_i b
    cases hb:M.box b with
    |none=>simp only[hb]at h
    |some cs=>
     simp only[hb]at h⊢
     split at h
     ·rename_i s pos hs
      refine⟨h.1,?_⟩
      have h2:=h.2
      split at h2
      ·rename_i hp;rw[if_pos hp];exact hk _ _ h2
      ·rename_i hp;rw[if_neg hp];exact hk _ _ h2
     ·exact h.elim
   ·exact h.elim
  |inv name=>
   simp only[aj]at h⊢
   split at h
   ·obtain⟨f,h1,h2,h3⟩:=h
    exact⟨f,h1,h2,h3.mono hk⟩
   ·exact h.elim
  |qc sz zs is=>
   simp only[aj]at h⊢
   split at h
   ·rename_i ds hds
    try simp only[hds]
    split at h
    ·rename_i xs hxs;(try simp only[hxs]);exact⟨h.1,h.2.1,hk _ _ h.2.2⟩
    ·exact h.elim
   ·exact h.elim
  |mkMap i=>
   simp only[aj]at h⊢
   split at h
   ·exact⟨h.1,hk _ _ h.2⟩
   ·exact h.elim
  |ae3 ks=>
   simp only[aj]at h⊢
   split at h
   ·rename_i b k v
    cases hb:M.box b with
    |none=>simp only[hb]at h
    |some cs=>
     simp only[hb]at h⊢
     split at h
     ·rename_i l hl
      refine⟨h.1,?_⟩
      have h2:=h.2
      split at h2
      ·rename_i l' h3 h4;exact hk _ _ h2
      ·exact h2.elim
     ·exact h.elim
   ·exact h.elim
  |NM ok ks z=>
   simp only[aj]at h⊢
   split at h
   ·split at h
    ·rename_i h1 h2;(try simp only[h1,h2]);exact hk _ _ h
    ·exact h.elim
   ·rename_i b k
    cases hb:M.box b with
    |none=>simp only[hb]at h
    |some cs=>
     simp only[hb]at h⊢
     split at h
     ·split at h
      ·exact hk _ _ h
      ·exact h.elim
     ·exact h.elim
   ·exact h.elim
  |ae2 ks=>
   simp only[aj]at h⊢
   split at h
   ·rename_i b k v
    cases hb:M.box b with
    |none=>simp only[hb]at h
    |some cs=>
     simp only[hb]at h⊢
     split at h
     ·refine⟨h.1,?_⟩
      have h2:=h.2
      split at h2
      ·exact hk _ _ h2
      ·exact h2.elim
     ·exact h.elim
   ·exact h.elim
  |ae0 ks=>
   simp only[aj]at h⊢
   split at h
   ·rename_i b k
    cases hb:M.box b with
    |none=>simp only[hb]at h
    |some cs=>
     simp only[hb]at h⊢
     split at h
     ·refine⟨h.1,?_⟩
      have h2:=h.2
      split at h2
      ·exact hk _ _ h2
      ·exact h2.elim
     ·exact h.elim
   ·exact h.elim
  |isNil neq=>
   simp only[aj]at h⊢
   split at h
   ·exact⟨fun hx=>hk _ _ (h.1 hx),fun hx b=>hk _ _ (h.2 hx b)⟩
   ·exact h.elim
  |panic=>exact h
  | _=>simp[kd]at hx'
theorem XY {o:PO}{K K':St→Prop}{KP:DV→Mem→Prop}{s:St}(hk:∀s,K s→K' s)(h:fU C base o K KP s):fU C base o K' KP s:=by
 rw[nM]at h⊢
 cases hg:SI s.env o.g with
 |none=>rw[hg]at h;exact h
 |some b=>
  rw[hg]at h
  cases b with
  |false=>exact hk _ h
  |true=>exact⟨h.1,Jr (fun v M' hh=>hk _ hh) h.2⟩
theorem am1 {s s':St}(h:∀t,look s.env t=look s'.env t)(args:List Opd):args.map s.val=args.map s'.val:=by
 refine List.map_congr_left fun x _=> ?_
 cases x with
 |c d=>rfl
 |t n=>exact h n
theorem QB {env env':List (Nat×PV)}(h:∀t,look env t=look env' t)(dst:Option Nat)(v:PV)(t:Nat):look (put env dst v) t=look (put env' dst v) t:=by
 cases dst with
 |none=>exact h t
 |some d=>simp only[put,look,h]
theorem ah0 {o:PO}{K:St→Prop}{KP:DV→Mem→Prop}(hK:Ext K):Ext (fU C base o K KP):=by
 intro s s' he hm h
 rw[nM]at h⊢
 have hg:SI s'.env o.g=SI s.env o.g:=by
  cases o.g with
  |none=>rfl
  |some q=>obtain⟨t,want⟩:=q;simp only[SI,he]
 rw[hg,←am1 he,←hm]
 cases hg2:SI s.env o.g with
 |none=>rw[hg2]at h;exact h
 |some b=>
  rw[hg2]at h
  cases b with
  |false=>exact hK.use h (QB he _ _) rfl
  |true=>exact⟨h.1,Jr (K:=fun v M=>K ⟨put s.env o.dst v,M⟩) (fun v M' hh=>hK.use hh (QB he _ _) rfl) h.2⟩
def anm (q p:PO):Bool:=
 match q.op,p.op,q.args,p.args with
 | .load ag n, .JE ag' n' _,[.t a], .t b::_=>ag==ag'&&n==n'&&a==b&&q.fl==0&&p.fl==0&&q.g.isNone&&p.g.isNone
 | .JE ag n _, .load ag' n', .t a::_,[.t b]=>ag==ag'&&n==n'&&a==b&&q.fl==0&&p.fl==0&&q.g.isNone&&p.g.isNone
 | _,_,_,_=>false
def Yk (q p:PO):Bool:=(kd q.op q.fl).swap (kd p.op p.fl)||anm q p
theorem aci {agg:Bool}{n:Nat}{x:PV}{M:Mem}{v v':PV}(h:bQ agg n x M fun u=>v=u)(h':bQ agg n x M fun u=>v'=u):v=v':=by
 unfold bQ at h h'
 split at h
 ·split at h
  ·rename_i hb;simp only[hb]at h';rw[h.2,h'.2]
  ·exact h.elim
 ·rw[h.2,h'.2]
 ·split at h
  ·rename_i hb;simp only[hb]at h';rw[h.2,h'.2]
  ·exact h.elim
 ·exact h.elim
theorem AO {o:PO}{K:St→Prop}{KP:DV→Mem→Prop}{s:St}(hg:o.g=none)(hf:o.fl=0):fU C base o K KP s↔aj C base o.op (o.args.map s.val) s.mem (fun v M=>K ⟨put s.env o.dst v,M⟩) KP:=by
 unfold fU
 rw[hg,hf]
 exact⟨fun h=>h.2,fun h=>⟨trivial,h⟩⟩
theorem akN {oj oi:PO}(hk:Yk oj oi=true)(hap:Iy oj oi=true){K:St→Prop}{KP:DV→Mem→Prop}(hK:Ext K)(s:St)
  (h:fU C base oj (fun s'=>fU C base oi K KP s') KP s):fU C base oi (fun s'=>fU C base oj K KP s') KP s:=by
 simp only[Yk,Bool.or_eq_true]at hk
 rcases hk with hk|hk
 ·exact amV hk hap hK s h
 simp only[Iy,Bool.and_eq_true]at hap
 obtain⟨a1,a2⟩:=hap
 have hj:∀d,oj.dst=some d→looks oi d=false:=by intro d hd;rw[hd]at a1;simp at a1;exact a1.1
 have hd:∀d,oj.dst=some d→oi.dst≠some d:=by intro d hd;rw[hd]at a1;simp at a1;exact a1.2
 have hi:∀d,oi.dst=some d→looks oj d=false:=by intro d hd;rw[hd]at a2;simpa using a2
 obtain⟨env,M⟩:=s
 unfold anm at hk
 split at hk
 ·rename_i ag n ag' n' f a b rest h1 h2 h3 h4
  simp only[Bool.and_eq_true,beq_iff_eq,Option.isNone_iff_eq_none]at hk
  obtain⟨⟨⟨⟨⟨⟨rfl,rfl⟩,rfl⟩,f1⟩,f2⟩,g1⟩,g2⟩:=hk
  rw[AO g1 f1]at h
  rw[AO g2 f2]
  simp only[h1,h3,List.map_cons,List.map_nil,aj]at h
  obtain⟨v,q1,q2⟩:=kC.1 h
  rw[AO g2 f2]at q2
  simp only[(lu (M:=M) (M':=M) hj).1]at q2
  simp only[h2,h4,List.map_cons,aj]at q2⊢
  obtain⟨v',q3,q4⟩:=kC.1 q2
  refine kC.2 ⟨v',q3,SC.mono q4 fun p M' hh=>⟨hh.1,?_⟩⟩
  rw[AO g1 f1]
  simp only[(lu (M:=M) (M':=M') hi).1]
  simp only[h1,h3,List.map_cons,List.map_nil,aj]
  obtain⟨v2,r1,r2⟩:=kC.1 hh.1
  have e1:=aci q1 q3
  refine kC.2 ⟨v2,r1,hK.use hh.2 (fun t=> ?_) rfl⟩
  rw[r2,←e1]
  exact oJ hd t
 ·rename_i ag n f ag' n' a rest b h1 h2 h3 h4
  simp only[Bool.and_eq_true,beq_iff_eq,Option.isNone_iff_eq_none]at hk
  obtain⟨⟨⟨⟨⟨⟨rfl,rfl⟩,rfl⟩,f1⟩,f2⟩,g1⟩,g2⟩:=hk
  rw[AO g1 f1]at h
  rw[AO g2 f2]
  simp only[h1,h3,List.map_cons,aj]at h
  obtain⟨v,q1,q2⟩:=kC.1 h
  simp only[h2,h4,List.map_cons,List.map_nil,aj]
  refine kC.2 ⟨v,q1,?_⟩
  rw[AO g1 f1]
  simp only[(lu (M:=M) (M':=M) hi).1]
  simp only[h1,h3,List.map_cons,aj]
  refine kC.2 ⟨v,q1,SC.mono q2 fun p M' hh=>⟨hh.1,?_⟩⟩
  have q5:=hh.2
  rw[AO g2 f2]at q5
  simp only[(lu (M:=M) (M':=M') hj).1]at q5
  simp only[h2,h4,List.map_cons,List.map_nil,aj]at q5
  obtain⟨v2,r1,r2⟩:=kC.1 q5
  obtain⟨v3,r3,r4⟩:=kC.1 hh.1
  have e1:=aci r1 r3
  refine hK.use r2 (fun t=> ?_) rfl
  rw[e1,r4]
  exact oJ hd t
 ·cases hk
def YJ (C:Ctx)(base:Nat)(ps:List PO):List Nat→(St→Prop)→(DV→Mem→Prop)→St→Prop
 | [],K,_,s=>K s
 |i::l,K,KP,s=>match ps[i]? with
  |some p=>fU C base p (fun s'=>YJ C base ps l K KP s') KP s
  |none=>False
theorem ade {ps:List PO}{K:St→Prop}{KP:DV→Mem→Prop}(hK:Ext K):∀l,Ext (YJ C base ps l K KP)
 | []=>hK
 |i::l=>by
  intro s s' he hm h
  simp only[YJ]at h⊢
  split at h
  ·rename_i p hp;exact ah0 (ade hK l) s s' he hm h
  ·exact h.elim
theorem XV {ps:List PO}{i:Nat}{p:PO}(hp:ps[i]?=some p){K:St→Prop}{KP:DV→Mem→Prop}(hK:Ext K){l2:List Nat}:∀{l1:List Nat} (_:∀j∈l1,∀q,ps[j]?=some q→Yk q p=true∧Iy q p=true) {s:St},
  YJ C base ps (l1++i::l2) K KP s→fU C base p (fun s'=>YJ C base ps (l1++l2) K KP s') KP s
 | [],_,s,h=>by simpa[YJ,hp]using h
 |j::l1,hc,s,h=>by
  simp only[List.cons_append,YJ]at h⊢
  split at h
  ·rename_i q hq
   obtain⟨c1,c2⟩:=hc j (by simp) q hq
   try simp only[hq]
   exact akN c1 c2 (ade hK _) s (XY (fun s' h'=>XV hp hK (fun j' hj'=>hc j' (by simp[hj'])) h') h)
  ·exact h.elim
theorem XW {ps:List PO}{K:St→Prop}{KP:DV→Mem→Prop}:∀(n k:Nat) (s:St),k+n=ps.length→zA C base (ps.drop k) K KP s→YJ C base ps (List.range' k n) K KP s
 |0,k,s,hk,h=>by
  rw[List.drop_eq_nil_of_le (by omega)]at h
  exact h
 |n+1,k,s,hk,h=>by
  have hlt:k<ps.length:=by omega
  rw[List.drop_eq_getElem_cons hlt]at h
  simp only[List.range'_succ,YJ,List.getElem?_eq_getElem hlt]
  exact XY (fun s' h'=>XW n (k+1) s' (by omega) h') h
end
def xA (o:Oper):List Nat:=(o.after.toList.filter (Region.binds .any)).map (·.on)
def SV (acc:List Nat)(ps:List Nat):Nat:=ps.foldl (fun m k=>m|||(1<<<k)|||acc.getD k 0) 0
def aed:List (List Nat)→List Nat→List Nat
 | [],acc=>acc
 |ps::rest,acc=>aed rest (acc++ [SV acc ps])
def af9 (clo:List Nat)(ps:List PO):Bool:=
 (List.range ps.length).all fun i=>(List.range i).all fun j=>(clo.getD i 0).testBit j||match ps[j]?,ps[i]? with
  |some q,some p=>Yk q p&&Iy q p
  | _,_=>false
def aaA (ops:Array Oper)(ps:List PO):Bool:=
 let pre:=ops.toList.map xA
 (pre.zipIdx.all fun(l,i)=>l.all fun k=>decide (k<i))&&af9 (aed pre []) ps
inductive Rch (pre:List (List Nat)):Nat→Nat→Prop
 |one {j i:Nat} {l:List Nat} (hl:pre[i]?=some l) (h:j∈l):Rch pre j i
 |step {j k i:Nat} {l:List Nat} (hl:pre[i]?=some l) (h:k∈l) (t:Rch pre j k):Rch pre j i
theorem aco {pre:List (List Nat)}{acc:List Nat}{i:Nat}{l:List Nat}(hl:pre[i]?=some l)(hacc:∀k j,(acc.getD k 0).testBit j=true→Rch pre j k){j:Nat}(h:(SV acc l).testBit j=true):Rch pre j i:=by
 have key:∀(l':List Nat) (m:Nat),(∀k∈l',k∈l)→(m.testBit j=true→Rch pre j i)→(l'.foldl (fun m k=>m|||(1<<<k)|||acc.getD k 0) m).testBit j=true→Rch pre j i:=by
  intro l'
  induction l' with
  |nil=>intro m _ hm h;exact hm h
  |cons k l' ih=>
   intro m hk hm h
   refine ih _ (fun k' hk'=>hk k' (by simp[hk'])) (fun hb=> ?_) h
   simp only[Nat.testBit_or,Bool.or_eq_true]at hb
   rcases hb with(hb|hb)|hb
   ·exact hm hb
   ·rw[Nat.one_shiftLeft,Nat.testBit_two_pow]at hb
    simp only[decide_eq_true_eq]at hb
    subst hb
    exact .one hl (hk _ (by simp))
   ·exact .step hl (hk k (by simp)) (hacc k j hb)
 exact key l 0 (fun _ h=>h) (fun h=>by simp at h) h
theorem Uh {pre:List (List Nat)}:∀(rest:List (List Nat)) (acc:List Nat),(∀j,rest[j]?=pre[acc.length+j]?)→(∀k j,(acc.getD k 0).testBit j=true→Rch pre j k)→
  ∀k j,((aed rest acc).getD k 0).testBit j=true→Rch pre j k
 | [],acc,_,h=>h
 |l::rest,acc,hr,h=>by
  refine Uh rest _ (fun j=> ?_) fun k j hb=> ?_
  ·have:=hr (j+1)
   simp only[List.getElem?_cons_succ]at this
   rw[this];simp only[List.length_append,List.length_singleton];congr 1;omega
  ·by_cases hk:k<acc.length
   ·have:(acc++ [SV acc l]).getD k 0=acc.getD k 0:=by simp[List.getD,List.getElem?_append_left hk]
    rw[this]at hb
    exact h k j hb
   ·by_cases hk2:k=acc.length
    ·subst hk2
     have:(acc++ [SV acc l]).getD acc.length 0=SV acc l:=by simp[List.getD]
     rw[this]at hb
     exact aco (by have:=hr 0;simpa using this.symm) h hb
    ·have:(acc++ [SV acc l]).getD k 0=0:=by
      rw[List.getD,List.getElem?_eq_none (by simp;omega)];rfl
     rw[this]at hb
     simp at hb
section
variable {C:Ctx}{X:Nat→Prop}{w:World}{E:Emb}{lo:Lo}{ro:Option Nat}
structure Done (ops:Array Oper) (listed:Array Bool) (rest:List Nat):Prop where
 size:listed.size=ops.size
 mem:∀j,j∈rest↔(j<ops.size∧listed.getD j true=false)
 sorted:rest.Pairwise (·<·)
 closed:∀j o,ops[j]?=some o→listed.getD j false=true→∀k∈xA o,listed.getD k false=true
theorem SX {o:Oper}{k:Nat}:k∈xA o↔∃e∈o.after,Region.binds .any e=true∧e.on=k:=by
 simp[xA,and_assoc]
theorem afj {ops:Array Oper}{listed:Array Bool}{rest:List Nat}(hd:Done ops listed rest){j i:Nat}(h:Rch (ops.toList.map xA) j i):
  (∀o,ops[i]?=some o→∀k∈xA o,listed.getD k false=true)→listed.getD j false=true:=by
 induction h with
 |one hl h=>
  intro hi
  simp only[List.getElem?_map,Option.map_eq_some_iff,Array.getElem?_toList]at hl
  obtain⟨o,ho,rfl⟩:=hl
  exact hi o ho _ h
 |step hl h t ih=>
  intro hi
  simp only[List.getElem?_map,Option.map_eq_some_iff,Array.getElem?_toList]at hl
  obtain⟨o,ho,rfl⟩:=hl
  have hk:=hi o ho _ h
  exact ih fun o' ho'=>hd.closed _ o' ho' hk
theorem agy {n:Nat}{ops:Array Oper}(hfx:∀q,lo.fx=some q→∀o∈ops,o.dst≠some q.1){ps:List PO}(hok:QH C.P n ops ops.toList ps=true)(hdr:aaA ops ps=true){base:Nat}{K:St→Prop}{KP:DV→Mem→Prop}{Q:Exit→Act→World→Prop}{w₀:World}{M₀:Mem}{E₀:Emb}
  (hext:Ext K)
  (hK:∀s' a' w' E',K s'→InS C X lo n s' a' w' E'→From w₀ M₀ E₀ w' s'.mem E'→Q .normal a' w')
  (hKP:∀d M' a' w' E' v,KP d M'→Sim C X w' M' E'→From w₀ M₀ E₀ w' M' E'→bf w' (away X M' E') v d→okD lo X a'.defers w'→(∀q,lo.fx=some q→a'.eval (.tmp q.1)=q.2)→Q (.panic [{v,recovered:=false}]) a' w'):
  ∀(fuel:Nat) (rest:List Nat) (listed:Array Bool),fuel=rest.length→Done ops listed rest→∀(s:St) (a:Act) (w:World) (E:Emb),InS C X lo n s a w E→From w₀ M₀ E₀ w s.mem E→YJ C base ps rest K KP s→
   wpAnyIn (RF ro) 0 C.P .any ops Q fuel listed a w:=by
 obtain⟨hlen,hget⟩:=Nq hok
 simp only[Array.length_toList]at hlen
 simp only[aaA,Bool.and_eq_true]at hdr
 obtain⟨hpre,ajy⟩:=hdr
 have hlt:∀i o,ops[i]?=some o→∀k∈xA o,k<i:=by
  intro i o ho k hk
  simp only[List.all_eq_true]at hpre
  have:=hpre (xA o,i) (by
   rw[List.mem_zipIdx_iff_getElem?]
   simp[ho])
  simp only[List.all_eq_true,decide_eq_true_eq]at this
  exact this k hk
 have aqu:=Uh (pre:=ops.toList.map xA) (ops.toList.map xA) [] (fun j=>by simp) (fun k j h=>by simp at h)
 have apL:∀i j q p,j<i→ps[j]?=some q→ps[i]?=some p→Rch (ops.toList.map xA) j i∨(Yk q p=true∧Iy q p=true):=by
  intro i j q p hji hq hp
  simp only[af9,List.all_eq_true,List.mem_range,Bool.or_eq_true]at ajy
  have hi:i<ps.length:=(List.getElem?_eq_some_iff.1 hp).1
  rcases ajy i hi j hji with h|h
  ·exact .inl (aqu i j h)
  ·rw[hq,hp]at h
   simp only[Bool.and_eq_true]at h
   exact .inr h
 intro fuel
 induction fuel with
 |zero=>
  intro rest listed hf hd s a w E h hfr hr
  have:rest=[]:=List.length_eq_zero_iff.1 hf.symm
  subst this
  refine⟨?_,hK s a w E hr h hfr⟩
  cases hrd:Region.ready .any ops listed with
  |nil=>rfl
  |cons i l=>
   have hmem:i∈Region.ready .any ops listed:=by rw[hrd];simp
   rw[mem_ready]at hmem
   obtain⟨h0,o,ho,_⟩:=hmem
   have:=(hd.mem i).2 ⟨(Array.getElem?_eq_some_iff.1 ho).1,h0⟩
   cases this
 |succ fuel ih=>
  intro rest listed hf hd s a w E h hfr hr
  refine⟨fun hnil=> ?_,fun i hi=> ?_⟩
  ·exfalso
   cases rest with
   |nil=>simp at hf
   |cons i l=>
    obtain⟨hi1,hi2⟩:=(hd.mem i).1 (by simp)
    have:i∈Region.ready .any ops listed:=by
     rw[mem_ready]
     refine⟨hi2,ops[i],Array.getElem?_eq_getElem hi1,fun e he hb=> ?_⟩
     have hk:=hlt i ops[i] (Array.getElem?_eq_getElem hi1) e.on (SX.2 ⟨e,he,hb,rfl⟩)
     cases hl:listed.getD e.on false with
     |true=>rfl
     |false=>
      have hsz:e.on<listed.size:=by rw[hd.size];omega
      have h3:listed.getD e.on true=false:=by
       simp only[Array.getD_eq_getD_getElem?,Array.getElem?_eq_getElem hsz,Option.getD_some]at hl⊢;exact hl
      have hin:=(hd.mem e.on).2 ⟨by omega,h3⟩
      rcases List.mem_cons.1 hin with heq|hin
      ·omega
      ·have:=(List.pairwise_cons.1 hd.sorted).1 _ hin
       omega
    rw[hnil]at this;cases this
  ·obtain⟨hi0,o,ho,hall⟩:=mem_ready.1 hi
   have hi1:i<ops.size:=(Array.getElem?_eq_some_iff.1 ho).1
   have hin:=(hd.mem i).2 ⟨hi1,hi0⟩
   obtain⟨l1,l2,rfl⟩:=List.append_of_mem hin
   have hpi:i<ps.length:=by omega
   obtain⟨o',ho',aqM⟩:=hget i ps[i] (List.getElem?_eq_getElem hpi)
   rw[Array.getElem?_toList,ho]at ho'
   cases ho'
   have hsorted:=List.pairwise_append.1 hd.sorted
   have aor:=XV (C:=C) (base:=base) (List.getElem?_eq_getElem hpi) hext (l1:=l1) (l2:=l2) (fun j hj q hq=>by
    have hji:j<i:=hsorted.2.2 j hj i (by simp)
    rcases apL i j q ps[i] hji hq (List.getElem?_eq_getElem hpi)with hr|hc
    ·exfalso
     have hl:=afj hd hr fun o2 ho2 k hk=>by
      rw[ho]at ho2;cases ho2
      obtain⟨e,he,hb,rfl⟩:=SX.1 hk
      exact hall e he hb
     have hj':=(hd.mem j).1 (by simp[hj])
     have hsz:j<listed.size:=by rw[hd.size];exact hj'.1
     have h3:=hj'.2
     simp only[Array.getD_eq_getD_getElem?,Array.getElem?_eq_getElem hsz,Option.getD_some]at hl h3
     rw[hl]at h3;cases h3
    ·exact hc) hr
   refine acR hfx ho aqM h aor (fun s' a' w' E' hs' hi' hf'=> ?_) (fun d M' a' w' E' v h1 h2 h3 h4 h5=>hKP d M' a' w' E' v h1 h2 (hfr.trans h3) h4 h5)
   refine ih (l1++l2) (listed.setIfInBounds i true) (by simp at hf⊢;omega) ?_ s' a' w' E' hi' (hfr.trans hf') hs'
   have hnd:=hd.sorted
   refine⟨by simp[hd.size],fun j=> ?_,?_,fun j o2 ho2 hj2 k hk=> ?_⟩
   ·by_cases hji:j=i
    ·subst hji
     constructor
     ·intro hj
      exfalso
      rcases List.mem_append.1 hj with hj|hj
      ·exact absurd (hsorted.2.2 j hj j (by simp)) (by omega)
      ·exact absurd ((List.pairwise_cons.1 hsorted.2.1).1 j hj) (by omega)
     ·rintro⟨h1,h2⟩
      exfalso
      have hsz:j<listed.size:=by rw[hd.size];exact h1
      simp[hsz]at h2
    ·rw[getD_set_ne true (Ne.symm hji)]
     have:=hd.mem j
     simp only[List.mem_append,List.mem_cons,hji,false_or]at this⊢
     exact this
   ·refine List.pairwise_append.2 ⟨hsorted.1,(List.pairwise_cons.1 hsorted.2.1).2,fun x hx y hy=>hsorted.2.2 x hx y (by simp[hy])⟩
   ·by_cases hji:j=i
    ·subst hji
     rw[ho]at ho2;cases ho2
     obtain⟨e,he,hb,rfl⟩:=SX.1 hk
     exact getD_set_true (hall e he hb)
    ·rw[getD_set_ne false (Ne.symm hji)]at hj2
     exact getD_set_true (hd.closed j o2 ho2 hj2 k hk)
theorem aei {n:Nat}{ops:Array Oper}(hfx:∀q,lo.fx=some q→∀o∈ops,o.dst≠some q.1){ps:List PO}(hm:C.P.follows .mixedOrders=true)(hok:QH C.P n ops ops.toList ps=true)(hdr:aaA ops ps=true){base id:Nat}{K:St→Prop}{KP:DV→Mem→Prop}{Q:Exit→Act→World→Prop}
  {s:St}{a:Act}{w₀:World}{M₀:Mem}{E₀:Emb}(hext:Ext K)(h:InS C X lo n s a w E)(hf:From w₀ M₀ E₀ w s.mem E)(hr:zA C base ps K KP s)
  (hK:∀s' a' w' E',K s'→InS C X lo n s' a' w' E'→From w₀ M₀ E₀ w' s'.mem E'→Q .normal a' w')
  (hKP:∀d M' a' w' E' v,KP d M'→Sim C X w' M' E'→From w₀ M₀ E₀ w' M' E'→bf w' (away X M' E') v d→okD lo X a'.defers w'→(∀q,lo.fx=some q→a'.eval (.tmp q.1)=q.2)→Q (.panic [{v,recovered:=false}]) a' w'):
  (Code.region id ops true).wpIn (RF ro) 0 C.P Q a w:=by
 refine wpIn_region_any hm ?_
 have hlen:ops.size=ps.length:=by simpa using(Nq hok).1
 have hl:Later w {w with drawn:=w.drawn+1}:=⟨rfl,rfl,rfl,Nat.le_refl _,fun _ _=>rfl⟩
 have hrl:=XW (C:=C) (base:=base) (ps:=ps) (K:=K) (KP:=KP) ps.length 0 s (by simp) (by simpa using hr)
 refine agy (C:=C) (X:=X) hfx hok hdr hext hK hKP ops.size (List.range' 0 ps.length) (Array.replicate ops.size false) (by simp[hlen]) ?_ s a _ E (h.later hl) (hf.trans (hl.from s.mem E)) hrl
 refine⟨by simp,fun j=> ?_,?_,fun j o _ hj=> ?_⟩
 ·simp only[List.mem_range'_1,Nat.zero_le,true_and,Nat.zero_add,←hlen]
  constructor
  ·intro hj;exact⟨hj,by simp[hj]⟩
  ·exact fun hj=>hj.1
 ·exact List.pairwise_lt_range' ..
 ·exfalso
  simp[Array.getElem?_replicate]at hj
  split at hj<;>simp at hj
end
def wpB (B:FuncId→Prop)(F:Fence)(n:Nat)(P:Program)(c:Code)(Q:Exit→Act→World→Prop)(a:Act)(w:World):Prop:=
 ∀(b:Frame) (k:List Item) (cs:List Frame),b.roundOf=F.round→F.fn b.fn→B b.fn→F.room (cs.length+1+n)→
  ∃e a' w',Q e a' w'∧ArrivesIn (Machine.fenced P F) P (lone (b.atR a (.code c::k)) cs w) b k cs e a' w'
section
variable {B:FuncId→Prop}{F:Fence}{n:Nat}{P:Program}{Q:Exit→Act→World→Prop}{a:Act}{w:World}
theorem MR {c:Code}(h:c.wpIn F n P Q a w):wpB B F n P c Q a w:=fun b k cs hro hb _ hr=>h b k cs hro hb hr
theorem am3 {c:Code}(h:wpB (fun _=>True) F n P c Q a w):c.wpIn F n P Q a w:=fun b k cs hro hb hr=>h b k cs hro hb trivial hr
theorem AY {c:Code}{Q':Exit→Act→World→Prop}(h:wpB B F n P c Q a w)(hq:∀e a w,Q e a w→Q' e a w):wpB B F n P c Q' a w:=
 fun b k cs hro hb hB hr=>let⟨e,a',w',q,r⟩:=h b k cs hro hb hB hr;⟨e,a',w',hq _ _ _ q,r⟩
theorem am4 {x y:Code}(h:wpB B F n P x (Exit.then (wpB B F n P y Q) Q) a w):wpB B F n P (Code.seq x y) Q a w:=by
 intro b k cs hro hb hB hr
 have h0:(lone (b.atR a (.code (.seq x y)::k)) cs w).fenced P F:=fenced_calm hb hr rfl
 obtain⟨e,a₁,w₁,hq,harr⟩:=h b (.code y::k) cs hro hb hB hr
 cases e with
 |normal=>
  obtain⟨e₂,a₂,w₂,hq₂,harr₂⟩:=hq b k cs hro hb hB hr
  exact⟨e₂,a₂,w₂,hq₂, .of_steps (.head h0 stepR_seq harr) harr₂⟩
 |exit id=>exact⟨_,a₁,w₁,hq, .of_steps (.one h0 stepR_seq) (.pass (x:= .code y) rfl (fun _ _=> .inl (by simp)) harr)⟩
 |goto l=>exact⟨_,a₁,w₁,hq, .of_steps (.one h0 stepR_seq) (.pass (x:= .code y) rfl (fun _ _=> .inl (by simp)) harr)⟩
 |ret=>exact⟨_,a₁,w₁,hq, .of_steps (.one h0 stepR_seq) (.pass (x:= .code y) rfl (fun _ _=> .inl (by simp)) harr)⟩
 |panic ch=>exact⟨_,a₁,w₁,hq, .of_steps (.one h0 stepR_seq) (.pass (x:= .code y) rfl (fun _ _=> .inl (by simp)) harr)⟩
 |outgrown=>exact⟨_,a₁,w₁,hq, .of_steps (.one h0 stepR_seq) (.pass (x:= .code y) rfl (fun _ _=> .inl (by simp)) harr)⟩
theorem adH {c:Operand}{x y:Code}{t:Bool}(hc:a.eval c= .bool t)(h:wpB B F n P (if t then x else y) Q a w):wpB B F n P (Code.cond c x y) Q a w:=
 fun b k cs hro hb hB hr=>let⟨e,a',w',q,r⟩:=h b k cs hro hb hB hr;⟨e,a',w',q, .of_steps (.one (fenced_calm hb hr rfl) (stepR_cond hc)) r⟩
theorem Yn {c:Operand}{x y:Code}{t:Bool}(hc:a.eval c= .bool t)(ht:t=true→wpB B F n P x Q a w)
  (hf:t=false→wpB B F n P y Q a w):wpB B F n P (Code.cond c x y) Q a w:=by
 cases t
 ·exact adH hc (hf rfl)
 ·exact adH hc (ht rfl)
theorem aik {id:Nat}{c:Code}(h:wpB B F n P c (Exit.inBlock id Q) a w):wpB B F n P (Code.block id c) Q a w:=by
 intro b k cs hro hb hB hr
 have h0:(lone (b.atR a (.code (.block id c)::k)) cs w).fenced P F:=fenced_calm hb hr rfl
 obtain⟨e,a₁,w₁,hq,harr⟩:=h b (.inBlock id::k) cs hro hb hB hr
 cases e with
 |normal=>exact⟨.normal,a₁,w₁,hq, .head h0 stepR_block (StepsIn.trans harr (.one (fenced_calm hb hr rfl) stepR_inBlock))⟩
 |exit id'=>
  by_cases hid:id'=id
  ·simp only[Exit.inBlock,hid,if_true]at hq
   exact⟨.normal,a₁,w₁,hq, .head h0 stepR_block (harr.1 k (by simp[exitTo,hid]))⟩
  ·simp only[Exit.inBlock,hid,if_false]at hq
   have this:(id==id')=false:=by simp;exact fun h=>hid h.symm
   have hx:exitTo id' (.inBlock id::k)=exitTo id' k:=by simp[exitTo,this]
   exact⟨.exit id',a₁,w₁,hq,fun k' hk=> .head h0 stepR_block (harr.1 k' (by rw[hx];exact hk)),
    fun hr' hk=>let⟨k₁,h1,h2⟩:=harr.2 hr' (by rw[hx];exact hk);⟨k₁,h1, .head h0 stepR_block h2⟩⟩
 |goto l=>
  have hx:gotoIn l (.inBlock id::k)=gotoIn l k:=by simp[gotoIn]
  exact⟨_,a₁,w₁,hq,fun k' hk=> .head h0 stepR_block (harr.1 k' (by rw[hx];exact hk)),
   fun hr' hk=>let⟨k₁,h1,h2⟩:=harr.2 hr' (by rw[hx];exact hk);⟨k₁,h1, .head h0 stepR_block h2⟩⟩
 |ret=>exact⟨_,a₁,w₁,hq, .of_steps (.one h0 stepR_block) harr⟩
 |panic ch=>exact⟨_,a₁,w₁,hq, .of_steps (.one h0 stepR_block) harr⟩
 |outgrown=>exact⟨_,a₁,w₁,hq, .of_steps (.one h0 stepR_block) harr⟩
theorem akZ {c:Code}(I:Nat→Act→World→Prop)(n₀:Nat)(h₀:I n₀ a w)
  (round:∀j a w,I j a w→wpB B F n P c (Exit.then (fun a' w'=>∃j',j'<j∧I j' a' w') Q) a w):wpB B F n P (Code.loop c) Q a w:=by
 intro b k cs hro hb hB hr
 have key:∀j a w,I j a w→
   ∃e a' w',Q e a' w'∧ArrivesIn (Machine.fenced P F) P (lone (b.atR a (.code c:: .inLoop c::k)) cs w) b k cs e a' w':=by
  intro j
  induction j using Nat.strongRecOn with
  | _ j ih=>
   intro a w hI
   obtain⟨e,a₁,w₁,hq,harr⟩:=round j a w hI b (.inLoop c::k) cs hro hb hB hr
   cases e with
   |normal=>
    obtain⟨j',hlt,hI₁⟩:=hq
    obtain⟨e₂,a₂,w₂,hq₂,harr₂⟩:=ih j' hlt a₁ w₁ hI₁
    exact⟨e₂,a₂,w₂,hq₂, .of_steps (StepsIn.trans harr (.one (fenced_calm hb hr rfl) stepR_inLoop)) harr₂⟩
   |exit id=>exact⟨_,a₁,w₁,hq, .pass (x:= .inLoop c) rfl (fun _ _=> .inl (by simp)) harr⟩
   |goto l=>exact⟨_,a₁,w₁,hq, .pass (x:= .inLoop c) rfl (fun _ _=> .inl (by simp)) harr⟩
   |ret=>exact⟨_,a₁,w₁,hq, .pass (x:= .inLoop c) rfl (fun _ _=> .inl (by simp)) harr⟩
   |panic ch=>exact⟨_,a₁,w₁,hq, .pass (x:= .inLoop c) rfl (fun _ _=> .inl (by simp)) harr⟩
   |outgrown=>exact⟨_,a₁,w₁,hq, .pass (x:= .inLoop c) rfl (fun _ _=> .inl (by simp)) harr⟩
 obtain⟨e,a',w',hq,harr⟩:=key _ a w h₀
 exact⟨e,a',w',hq, .of_steps (.one (fenced_calm hb hr rfl) stepR_loop) harr⟩
theorem qX {b:Frame}{k:List Item}{cs:List Frame}{c:Code}:step P (lone (b.atR a (.code (.scope c)::k)) cs w)= .next (lone (b.atR a (.code c:: .inScope c::k)) cs w):=
 step_lone_go (by simp[stepG,stepG.exec,Frame.atR])
theorem Yj {b:Frame}{k:List Item}{cs:List Frame}{c:Code}:step P (lone (b.atR a (.inScope c::k)) cs w)= .next (lone (b.atR a k) cs w):=
 step_lone_go (by simp[stepG,stepG.exec,Frame.atR])
theorem ail {c:Code}(h:wpB B F n P c (Exit.noGoto Q) a w):wpB B F n P (Code.scope c) Q a w:=by
 intro b k cs hro hb hB hr
 have h0:(lone (b.atR a (.code (.scope c)::k)) cs w).fenced P F:=fenced_calm hb hr rfl
 obtain⟨e,a₁,w₁,hq,harr⟩:=h b (.inScope c::k) cs hro hb hB hr
 cases e with
 |normal=>exact⟨.normal,a₁,w₁,hq, .head h0 qX (StepsIn.trans harr (.one (fenced_calm hb hr rfl) Yj))⟩
 |exit id=>
  have hx:exitTo id (.inScope c::k)=exitTo id k:=by simp[exitTo]
  exact⟨.exit id,a₁,w₁,hq,fun k' hk=> .head h0 qX (harr.1 k' (by rw[hx];exact hk)),
   fun hr' hk=>let⟨k₁,h1,h2⟩:=harr.2 hr' (by rw[hx];exact hk);⟨k₁,h1, .head h0 qX h2⟩⟩
 |goto l=>exact hq.elim
 |ret=>exact⟨_,a₁,w₁,hq, .of_steps (.one h0 qX) harr⟩
 |panic ch=>exact⟨_,a₁,w₁,hq, .of_steps (.one h0 qX) harr⟩
 |outgrown=>exact⟨_,a₁,w₁,hq, .of_steps (.one h0 qX) harr⟩
def akn (B:FuncId→Prop)(F:Fence)(n:Nat)(P:Program)(l:Nat)(Q:Exit→Act→World→Prop)(a':Act):Ending→World→Prop
 | .returned _,w₃=>∃jump w₄,(Instr.endLoop l).run P w₃= .ok jump w₄∧
   (match jump with
   |none=>Q .normal a' w₄
   |some c=>wpB B F n P c Q a' w₄)
 | .panicked chain,w₃=>Q (.panic chain) a' w₃
 | .outgrown,_=>LetsOut Q
theorem YM {g:Operand}{ps:Array Tmp}{assign body:Code}
  (h:∀fn,F.fn fn→B fn→∃(l:Nat) (mark:List Deferred) (w₁:World) (d:Deferred) (w₁':World) (f:FuncId) (args:Array Value) (w₂:World),
   (Instr.enterLoop fn a.tmps ps assign body F.round).run P w= .ok (l,mark) w₁∧
   (resolve a.eval (rangeCall g l) 0).run P w₁= .ok d w₁'∧
   (∀f',Target.leads P w₁' d.target d.args=some f'→F.fn f')∧
   (invoke d.target d.args).run P w₁'= .ok (.enter f args) w₂∧
   (F.depth.isSome=true→1≤n)∧
   CallsIn F (n - 1) P f args w₂ (akn B F n P l Q {a with defers:=mark++a.defers})):
  wpB B F n P (Code.rangeFunc g ps assign body) Q a w:=by
 intro b k cs hro hb hB hr
 obtain⟨l,mark,w₁,d,w₁',f,args,w₂,he,hres,hlead,hinv,hn,hF,hcall⟩:=h b.fn hb hB
 rw[←hro]at he
 have h0:(lone (b.atR a (.code (.rangeFunc g ps assign body)::k)) cs w).fenced P F:=by
  refine fenced_lone (.inl hb) (fun f' hf'=>hlead f' ?_) (Fence.room_le hr (by omega))
  have hev:=Frame.eval_atR b a (.code (.rangeFunc g ps assign body)::k)
  simp only[Frame.atR]at hev
  simp only[Frame.about,Frame.atR,he,hev,hres]at hf'
  exact hf'
 have henter:=stepR_rangeFunc (P:=P) (b:=b) (a:=a) (k:=k) (cs:=cs) (w:=w) he hres hinv
 have hroom:F.room ((b.atR {a with defers:=mark++a.defers} (.inRangeFunc l::k)::cs).length+1+(n - 1)):=Fence.room_enter hr hn
 obtain⟨e,w₃,fr,hR,hsteps,hfn,hleave⟩:=hcall (b.atR {a with defers:=mark++a.defers} (.inRangeFunc l::k)::cs) hroom
 cases e with
 |outgrown=>
  obtain⟨a₀,w₀,hq⟩:=hR
  exact⟨.outgrown,a₀,w₀,hq, .inr (Outgrown.of_steps (.one henter) hsteps)⟩
 |returned v=>
  have hl:(lone fr (b.atR {a with defers:=mark++a.defers} (.inRangeFunc l::k)::cs) w₃).fenced P F:=fenced_leaving (hfn▸hF) hroom hleave
  obtain⟨jump,w₄,hend,hj⟩:=hR
  have sback:StepsIn (Machine.fenced P F) P (lone (b.atR a (.code (.rangeFunc g ps assign body)::k)) cs w) (lone (b.atR {a with defers:=mark++a.defers} ((jump.map Item.code).toList++k)) cs w₄):=by
   refine .head h0 henter (StepsIn.trans hsteps (.head hl ?_ (.one (fenced_calm (fr:=b.atR {a with defers:=mark++a.defers} (.endRangeFunc l::k)) hb hr rfl) (stepR_endRangeFunc hend))))
   rw[←finish_atR_inRangeFunc l v];exact step_leave_returned hleave
  cases jump with
  |none=>exact⟨.normal,_,w₄,hj,sback⟩
  |some c=>
   obtain⟨e',a'',w₅,hq,harr⟩:=hj b k cs hro hb hB hr
   exact⟨e',a'',w₅,hq, .of_steps sback harr⟩
 |panicked chain=>
  have hl:(lone fr (b.atR {a with defers:=mark++a.defers} (.inRangeFunc l::k)::cs) w₃).fenced P F:=fenced_leaving (hfn▸hF) hroom hleave
  refine⟨.panic chain,_,w₃,hR, .inRangeFunc l::k, .head h0 henter (StepsIn.trans hsteps (.one hl ?_))⟩
  rw[←Frame.raise_atR];exact step_leave_panicked hleave
def roundEnd (P:Program)(l:Nat)(R:Ending→World→Prop):Exit→Act→World→Prop
 | .normal,_,w=>∃v w',(Instr.endRound l none).run P w= .ok v w'∧R (.returned v) w'
 | .ret,_,w=>∃v w',(Instr.endRound l (some .ret)).run P w= .ok v w'∧R (.returned v) w'
 | .exit id,_,w=>∃v w',(Instr.endRound l (some (.exit id))).run P w= .ok v w'∧R (.returned v) w'
 | .panic chain,a,w=>a.defers=[]∧R (.panicked chain) w
 | _,_,_=>False
theorem XP {l:Nat}{f:FuncId}{tmps:Array Value}{assign body:Code}{R:Ending→World→Prop}(hF:F.fn f)(hB:B f)(hf:∃fn,P.funcs[f]?=some fn)
  (h:wpB B (F.inRound l) n P assign (Exit.then (fun a₁ w₁=>∃w₂,(Instr.beginRound l).run P w₁= .ok () w₂∧wpB B (F.inRound l) n P body (roundEnd P l R) a₁ w₂) (fun _ _ _=>False))
   {tmps:=tmps,defers:=[]} w):
  RoundIn F n P l f tmps assign body w R:=by
 refine⟨hF,fun c cs hr=> ?_⟩
 let b:Frame:={(default:Frame)with fn:=f,kind:= .normal,roundOf:=some l}
 have hb0:Frame.round l f tmps assign body .normal=b.atR {tmps:=tmps,defers:=[]} [.code assign, .beginRound, .code body]:=by
  simp[Frame.round,Frame.atR,b]
 have hr':(F.inRound l).room ((c::cs).length+1+n):=hr
 have hF':(F.inRound l).fn b.fn:=hF
 obtain⟨e,a₁,w₁,hq,harr⟩:=h b [.beginRound, .code body] (c::cs) rfl hF' hB hr'
 rw[←hb0]at harr
 cases e with
 |normal=>
  obtain⟨w₂,hbr,hbody⟩:=hq
  have s1:StepsIn (Machine.fenced P (F.inRound l)) P (lone (b.atR a₁ [.beginRound, .code body]) (c::cs) w₁) (lone (b.atR a₁ [.code body]) (c::cs) w₂):=
   .one (fenced_calm (fr:=b.atR a₁ [.beginRound, .code body]) hF' hr' rfl) (stepR_beginRound rfl hbr)
  obtain⟨e₂,a₂,w₃,hq₂,harr₂⟩:=hbody b [] (c::cs) rfl hF' hB hr'
  cases e₂ with
  |normal=>
   obtain⟨v,w₄,hend,hR⟩:=hq₂
   exact⟨.returned v,w₄,hR,(StepsIn.trans harr s1).trans (StepsIn.trans harr₂ (.one (fenced_calm (fr:=b.atR a₂ []) hF' hr' rfl) (stepR_round_end rfl rfl hend)))⟩
  |ret=>
   obtain⟨v,w₄,hend,hR⟩:=hq₂
   obtain⟨k₁,hs⟩:=harr₂.2 rfl
   exact⟨.returned v,w₄,hR,(StepsIn.trans harr s1).trans (StepsIn.trans hs (.one (fenced_calm (fr:=b.atR a₂ (.code .ret::k₁)) hF' hr' rfl) (stepR_round_ret rfl rfl hend)))⟩
  |exit id=>
   obtain⟨v,w₄,hend,hR⟩:=hq₂
   obtain⟨k₁,hk,hs⟩:=harr₂.2 rfl rfl
   exact⟨.returned v,w₄,hR,(StepsIn.trans harr s1).trans (StepsIn.trans hs (.one (fenced_calm (fr:=b.atR a₂ (.code (.exit id)::k₁)) hF' hr' rfl) (stepR_round_exit rfl rfl hk hend)))⟩
  |goto t=>exact hq₂.elim
  |panic chain=>
   obtain⟨hd,hR⟩:=hq₂
   obtain⟨todo,hs⟩:=harr₂
   have hl:({b.atR a₂ todo with mode:= .panicking chain}:Frame).leaving P w₃ (.panicked chain):=⟨rfl,hd,hf⟩
   refine⟨.panicked chain,w₃,hR,(StepsIn.trans harr s1).trans (StepsIn.trans hs (.one (fenced_leaving (n:=n) hF' hr' hl) (step_leave_panicked hl)))⟩
  |outgrown=>exact hq₂.elim
 |exit id=>exact hq.elim
 |goto t=>exact hq.elim
 |ret=>exact hq.elim
 |panic chain=>exact hq.elim
 |outgrown=>exact hq.elim
theorem V3 {f:FuncId}{fn:Func}{c:Code}{args:Array Value}{R:Ending→World→Prop}
  (hf:P.funcs[f]?=some fn)(hb:fn.body=some c)(hF:F.fn f)(hB:B f)
  (h:wpB B F n P c (bodyPostM F n P fn R) {tmps:=args++Array.replicate (fn.ntmps - args.size) undef,defers:=[]} w)(hro:F.round=none:=by rfl):CallsIn F n P f args w R:=by
 refine⟨hF,fun cs hr=> ?_⟩
 let b:Frame:={(default:Frame)with fn:=f,kind:= .normal,roundOf:=none}
 have henter:Frame.enter P f args .normal=
   b.atR {tmps:=args++Array.replicate (fn.ntmps - args.size) undef,defers:=[]} [.code c]:=by
  simp[Frame.enter,Frame.atR,hf,hb,b]
 obtain⟨e,a',w',hq,harr⟩:=h b [] cs hro.symm hF hB hr
 rw[←henter]at harr
 cases e with
 |normal=>
  obtain⟨e',w'',fr',hR,hs,hfn,hl⟩:=leaves_stepsInM a'.defers .returning w' {b.atR a' []with mode:= .returning} cs rfl rfl rfl hf rfl hF hr hq
  exact⟨e',w'',fr',hR,ComesIn.of_steps (StepsIn.trans harr (.one (fenced_calm (fr:=b.atR a' []) hF hr rfl) (stepR_end rfl))) hs,hfn,hl⟩
 |ret=>
  obtain⟨todo,hs₀⟩:=harr.1 rfl
  obtain⟨e',w'',fr',hR,hs,hfn,hl⟩:=leaves_stepsInM a'.defers .returning w' {b.atR a' todo with mode:= .returning} cs rfl rfl rfl hf rfl hF hr hq
  exact⟨e',w'',fr',hR,ComesIn.of_steps hs₀ hs,hfn,hl⟩
 |panic chain=>
  obtain⟨todo,hs₀⟩:=harr
  obtain⟨e',w'',fr',hR,hs,hfn,hl⟩:=leaves_stepsInM a'.defers (.panicking chain) w' {b.atR a' todo with mode:= .panicking chain} cs rfl rfl rfl hf rfl hF hr hq
  exact⟨e',w'',fr',hR,ComesIn.of_steps hs₀ hs,hfn,hl⟩
 |exit id=>exact hq.elim
 |goto l=>exact hq.elim
 |outgrown=>exact⟨.outgrown,w',b,hq,harr.resolve_left (by simp[b]),rfl,trivial⟩
end
end Go.Am
