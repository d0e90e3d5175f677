/-
  Part 4 of the proof of a law of desks: an abstract machine over the model, contracts of functions, plain laws.
  Conditions: none.
-/
import Derived.Test.YtbefoehadfnkbaaGreatDoorJourneymanParsesM03
set_option linter.all false
namespace Go.Am
section
variable {C:Ctx}{X:Nat→Prop}{w:World}{M:Mem}{E:Emb}{K:PV→Mem→Prop}{KP:DV→Mem→Prop}{O:Nat→Prop}
theorem adP {P:Program}{op:BinOp}{k:IntKind}{a b:Int}{t:TypeId}{K:DV→Prop}(h:oK op k a b K)(w:World):∃d v,(binOp op t (.int k a) (.int k b)).run P w= .ok v w∧K d∧∀O,bf w O v d:=by
 cases op<;>simp only[oK]at h
 case add=>exact⟨_,_,by simp[binOp,Op.intArith],h,fun O=> .int _ _⟩
 case sub=>exact⟨_,_,by simp[binOp,Op.intArith],h,fun O=> .int _ _⟩
 case mul=>exact⟨_,_,by simp[binOp,Op.intArith],h,fun O=> .int _ _⟩
 case quo=>exact⟨_,_,by simp[binOp,Op.intDiv,h.1],h.2,fun O=> .int _ _⟩
 case rem=>exact⟨_,_,by simp[binOp,Op.intDiv,h.1],h.2,fun O=> .int _ _⟩
 case eql=>exact⟨_,_,by simp[binOp,Op.intCmp],h,fun O=> .bool _⟩
 case neq=>exact⟨_,_,by simp[binOp,Op.intCmp],h,fun O=> .bool _⟩
 case lss=>exact⟨_,_,by simp[binOp,Op.intCmp],h,fun O=> .bool _⟩
 case leq=>exact⟨_,_,by simp[binOp,Op.intCmp],h,fun O=> .bool _⟩
 case gtr=>exact⟨_,_,by simp[binOp,Op.intCmp],h,fun O=> .bool _⟩
 case geq=>exact⟨_,_,by simp[binOp,Op.intCmp],h,fun O=> .bool _⟩
 case and=>exact⟨_,_,by simp[binOp,Op.intBits],h,fun O=> .int _ _⟩
 case or=>exact⟨_,_,by simp[binOp,Op.intBits],h,fun O=> .int _ _⟩
 case xor=>exact⟨_,_,by simp[binOp,Op.intBits],h,fun O=> .int _ _⟩
 case andNot=>exact⟨_,_,by simp[binOp,Op.intBits],h,fun O=> .int _ _⟩
theorem adR {P:Program}{op:BinOp}{a b:ByteArray}{t:TypeId}{K:DV→Prop}(h:FX op a b K)(w:World):∃d v,(binOp op t (.string a) (.string b)).run P w= .ok v w∧K d∧∀O,bf w O v d:=by
 cases op<;>simp only[FX]at h
 case add=>
  have h2:¬((9223372036854775807:Int)<(a.size:Int)+(b.size:Int)):=by omega
  exact⟨_, .string (a++b),by simp[binOp,Op.stringOp,IntKind.max,IntKind.signed,IntKind.bits];omega,h.2,fun O=> .str _⟩
 case eql=>exact⟨_,_,by simp[binOp,Op.stringOp],h,fun O=> .bool _⟩
 case neq=>exact⟨_,_,by simp[binOp,Op.stringOp],h,fun O=> .bool _⟩
theorem run_equalIn_bool {P:Program}{a b:Bool}{t:TypeId}(ht:P.underlying t=some .bool)(w:World)(d:Nat):(Op.equalIn (d+1) t (.bool a) (.bool b)).run P w= .ok (a==b) w:=by
 simp only[Op.equalIn,Sem.run_bind,run_underlying ht,Result.andThen_ok,Sem.run_pure]
theorem abg {P:Program}{a b:Bool}{t:TypeId}(ht:P.underlying t=some .bool)(w:World):
  (binOp .eql t (.bool a) (.bool b)).run P w= .ok (.bool (a==b)) w∧(binOp .neq t (.bool a) (.bool b)).run P w= .ok (.bool (!(a==b))) w:=by
 have he:(Op.equal t (.bool a) (.bool b)).run P w= .ok (a==b) w:=run_equalIn_bool ht w 9999
 constructor<;>simp[binOp,he]
theorem wQ {P:Program}{op:BinOp}{t:TypeId}{x y:Operand}{a b:Value}(h:(∃k m,a= .int k m)∨(∃s,a= .string s)∨∃c,a= .bool c)(w:World):(eqGuard op t x y a b).run P w= .ok () w:=by
 unfold eqGuard
 rcases h with⟨k,m,rfl⟩|⟨s,rfl⟩|⟨c,rfl⟩<;>simp<;>split<;>simp
theorem aiH {ρ:Operand→Value}{o:Oper}{op op':BinOp}{t u:TypeId}{x y:Operand}(ho:o.op= .binOp op t x y u){args:List PV}(hS:Sim C X w M E)(hA:aK w (away X M E) M E ((opsOf o.op).map ρ) args)
  (hok:aI C.P (.binOp op t x y u) (.bin op')=true){base:Nat}(h:aj C base (.bin op') args M K KP):dZ C X w M E K KP ((execOp ρ o).run C.P w):=by
 simp only[aI,Bool.and_eq_true,decide_eq_true_eq]at hok
 obtain⟨rfl,hsc⟩:=hok
 simp only[ho,opsOf,List.map_cons,List.map_nil]at hA
 simp only[aj]at h
 split at h
 ·rename_i p q
  obtain⟨v,u',he,hr,hr2⟩:=dJ hA
  simp only[List.cons.injEq,and_true]at he
  obtain⟨rfl,rfl⟩:=he
  have fin:∀{d:DV} {v:Value},K (.d d) M→(∀O,bf w O v d)→(eqGuard op t x y (ρ x) (ρ y)).run C.P w= .ok () w→(binOp op t (ρ x) (ρ y)).run C.P w= .ok v w→dZ C X w M E K KP ((execOp ρ o).run C.P w):=by
   intro d v hK hR hg hb
   have hrun:(execOp ρ o).run C.P w= .ok (.value v) w:=by simp[execOp,ho,hg,hb]
   rw[hrun]
   exact .same hS hK (.d (hR _))
  unfold Ub at h
  split at h
  ·obtain⟨rfl,h⟩:=h
   have e1:=hr.toD.fA
   have e2:=hr2.toD.fA
   obtain⟨d,v,g1,g2,g3⟩:=adP (P:=C.P) (t:=t) h w
   exact fin g2 g3 (wQ (.inl ⟨_,_,e1⟩) w) (by rw[e1,e2];exact g1)
  ·have e1:=hr.toD.uT
   have e2:=hr2.toD.uT
   obtain⟨d,v,g1,g2,g3⟩:=adR (P:=C.P) (t:=t) h w
   exact fin g2 g3 (wQ (.inr (.inl ⟨_,e1⟩)) w) (by rw[e1,e2];exact g1)
  ·exact h.elim
 ·exact h.elim
theorem agF {ρ:Operand→Value}{o:Oper}{op:BinOp}{neq:Bool}{t u:TypeId}{x y:Operand}(ho:o.op= .binOp op t x y u){args:List PV}(hS:Sim C X w M E)(hA:aK w (away X M E) M E ((opsOf o.op).map ρ) args)
  (hok:aI C.P (.binOp op t x y u) (.abf neq)=true){base:Nat}(h:aj C base (.abf neq) args M K KP):dZ C X w M E K KP ((execOp ρ o).run C.P w):=by
 simp only[aI,Bool.and_eq_true]at hok
 obtain⟨hop,hty⟩:=hok
 split at hty
 ·rename_i hun
  simp only[ho,opsOf,List.map_cons,List.map_nil]at hA
  simp only[aj]at h
  split at h
  ·rename_i a b
   obtain⟨v,u',he,hr,hr2⟩:=dJ hA
   simp only[List.cons.injEq,and_true]at he
   obtain⟨rfl,rfl⟩:=he
   have e1:=hr.toD.pO
   have e2:=hr2.toD.pO
   obtain⟨b1,b2⟩:=abg (P:=C.P) (a:=a) (b:=b) hun w
   have hg:=wQ (P:=C.P) (op:=op) (t:=t) (x:=x) (y:=y) (b:=ρ y) (.inr (.inr ⟨_,e1⟩)) w
   have hrun:(execOp ρ o).run C.P w= .ok (.value (.bool ((a==b) !=neq))) w:=by
    cases op<;>simp only[Bool.not_eq_true',Bool.false_eq_true]at hop
    ·subst hop
     simp only[execOp,ho,Sem.run_bind,hg,Result.andThen_ok]
     rw[e1,e2,b1]
     simp
    ·subst hop
     simp only[execOp,ho,Sem.run_bind,hg,Result.andThen_ok]
     rw[e1,e2,b2]
     simp
   rw[hrun]
   exact .same hS h (.d (.bool _))
  ·exact h.elim
 ·cases hty
theorem alf {ρ:Operand→Value}{o:Oper}{op op':UnOp}{t:TypeId}{x:Operand}(ho:o.op= .unOp op t x){args:List PV}(hS:Sim C X w M E)(hA:aK w (away X M E) M E ((opsOf o.op).map ρ) args)
  (hok:aI C.P (.unOp op t x) (.un op')=true){base:Nat}(h:aj C base (.un op') args M K KP):dZ C X w M E K KP ((execOp ρ o).run C.P w):=by
 simp only[aI,decide_eq_true_eq]at hok
 subst hok
 simp only[ho,opsOf,List.map_cons,List.map_nil]at hA
 simp only[aj]at h
 split at h
 ·obtain⟨v,he,hr⟩:=eG hA
  simp only[List.cons.injEq,and_true]at he
  subst he
  unfold adC at h
  split at h
  ·rename_i k n
   have e1:=hr.toD.fA
   have hrun:(execOp ρ o).run C.P w= .ok (.value (.int k (k.wrap (0 - n)))) w:=by simp[execOp,ho,e1,Op.unary,Op.intArith]
   rw[hrun]
   exact .same hS h (.d (.int _ _))
  ·rename_i b
   have e1:=hr.toD.pO
   have hrun:(execOp ρ o).run C.P w= .ok (.value (.bool !b)) w:=by simp[execOp,ho,e1,Op.unary]
   rw[hrun]
   exact .same hS h (.d (.bool _))
  ·exact h.elim
 ·exact h.elim
theorem agG {ρ:Operand→Value}{o:Oper}{k:IntKind}{s d:TypeId}{x:Operand}(ho:o.op= .convert s d x){args:List PV}(hS:Sim C X w M E)(hA:aK w (away X M E) M E ((opsOf o.op).map ρ) args)
  (hok:aI C.P (.convert s d x) (.conv k)=true){base:Nat}(h:aj C base (.conv k) args M K KP):dZ C X w M E K KP ((execOp ρ o).run C.P w):=by
 simp only[aI,Bool.and_eq_true]at hok
 obtain⟨hs,hd⟩:=hok
 split at hs
 ·rename_i k' hk'
  split at hd
  ·rename_i k'' hk''
   simp only[decide_eq_true_eq]at hd
   subst hd
   simp only[ho,opsOf,List.map_cons,List.map_nil]at hA
   simp only[aj]at h
   split at h
   ·obtain⟨v,he,hr⟩:=eG hA
    simp only[List.cons.injEq,and_true]at he
    subst he
    rename_i kk n
    have e1:=hr.toD.fA
    have hrun:(execOp ρ o).run C.P w= .ok (.value (.int k'' (k''.wrap n))) w:=by simp[execOp,ho,e1,convert,run_underlying hk',run_underlying hk'',Conv.intToInt]
    rw[hrun]
    exact .same hS h (.d (.int _ _))
   ·exact h.elim
  ·cases hd
 ·cases hs
theorem aiO {ρ:Operand→Value}{o:Oper}{t t':TypeId}{x:Operand}(ho:o.op= .makeInterface t x){args:List PV}(hS:Sim C X w M E)(hA:aK w (away X M E) M E ((opsOf o.op).map ρ) args)
  (hok:aI C.P (.makeInterface t x) (.mkI t')=true){base:Nat}(h:aj C base (.mkI t') args M K KP):dZ C X w M E K KP ((execOp ρ o).run C.P w):=by
 simp only[aI,Bool.and_eq_true,decide_eq_true_eq]at hok
 obtain⟨rfl,hd⟩:=hok
 simp only[ho,opsOf,List.map_cons,List.map_nil]at hA
 simp only[aj]at h
 split at h
 ·rename_i p
  obtain⟨v,he,hr⟩:=eG hA
  simp only[List.cons.injEq,and_true]at he
  subst he
  split at h
  ·rename_i d hdt
   have hrun:(execOp ρ o).run C.P w= .ok (.value (.iface t (ρ x))) w:=by
    split at hd
    ·cases hd
    ·rename_i dd hdd hun
     have:=run_underlying (w:=w) hun
     cases dd<;>first|(exact absurd rfl (hdd _))|simp[execOp,ho,Instr.makeInterface,this]
    ·cases hd
   rw[hrun]
   exact⟨_,_,_,h,pz hS [p],nX [p] w, .d (.iface (mF hS hr hdt (by simp)))⟩
  ·exact h.elim
 ·exact h.elim
theorem SS (ρ:Operand→Value)(a b:Array Operand):((a.toList++b.toList).map ρ).take a.size=(a.map ρ).toList∧((a.toList++b.toList).map ρ).drop a.size=(b.map ρ).toList:=by
 constructor<;>simp
theorem aiN {ρ:Operand→Value}{o:Oper}{fn fn':Fn}{nf:Nat}{first captured:Array Operand}(ho:o.op= .makeFunc fn first captured){args:List PV}(hS:Sim C X w M E)(hA:aK w (away X M E) M E ((opsOf o.op).map ρ) args)
  (hok:aI C.P (.makeFunc fn first captured) (.mkF fn' nf)=true){base:Nat}(h:aj C base (.mkF fn' nf) args M K KP):dZ C X w M E K KP ((execOp ρ o).run C.P w):=by
 simp only[aI,Bool.and_eq_true,decide_eq_true_eq,beq_iff_eq]at hok
 obtain⟨rfl,rfl⟩:=hok
 simp only[ho,opsOf]at hA
 have hrun:(execOp ρ o).run C.P w= .ok (.value (.func fn (first.map ρ) (captured.map ρ))) w:=by simp[execOp,ho,Instr.makeFunc]
 rw[hrun]
 obtain⟨e1,e2⟩:=SS ρ first captured
 simp only[aj]at h
 split at h
 ·rename_i ds hds
  have hL:=hA.jd hds
  refine .same hS h (.d (.func ?_ ?_))
  ·rw[←e1];exact hL.take _
  ·rw[←e2];exact hL.drop _
 ·refine .same hS h (.func ?_ ?_)
  ·rw[←e1];exact hA.take _
  ·rw[←e2];exact hA.drop _
theorem aky {P:Program}{t:TypeId}{agg:Bool}{n off:Nat}{cs:Array Value}(h:zZ P t agg n=true)(hl:off+n≤cs.size)(w:World):
  (part t cs off).run P w= .ok (bif agg then .agg ((cs.toList.drop off).take n).toArray else cs.toList.getD off undef) w:=by
 obtain⟨h1,h2,h3⟩:=Dn h w
 cases agg with
 |true=>
  simp only[part,Sem.run_bind,h1,Result.andThen_ok,if_true,h2 rfl,Sem.run_pure,cond_true]
  congr 2
  apply Array.ext'
  simp
 |false=>
  have:=h3 rfl
  subst this
  have hlt:off<cs.size:=by omega
  simp[part,h1,hlt,List.getD]
theorem acT {P:Program}{t:TypeId}{agg:Bool}{n off:Nat}{vs:Array Value}{cs:List PV}(h:zZ P t agg n=true)(hr:aK w O M E vs.toList cs)(hn:off+n≤cs.length):
  ∃v,(part t vs off).run P w= .ok v w∧Rep w O M E v (ld agg n off cs):=by
 have hl:=hr.length
 simp only[Array.length_toList]at hl
 have h3:=(Dn h w).2.2
 refine⟨_,aky h (by omega) w,?_⟩
 cases agg with
 |true=>exact Rep.G5 ((hr.drop off).take n)
 |false=>
  have hn1:=h3 rfl
  have hlt:off<cs.length:=by omega
  obtain⟨v,hv,hrd⟩:=hr.get' off cs[off] (List.getElem?_eq_getElem hlt)
  simp only[cond_false,ld]
  rw[getD_eq hlt,List.getD,hv]
  exact hrd
theorem VT {v:Value}{p:PV}(h:Rep w O M E v p)(hp:p.isAgg=true):∃vs,v= .agg vs∧aK w O M E vs.toList p.cells:=by
 cases h with
 |d hd=>
  cases hd with
  |agg hh=>exact⟨_,rfl,aK.ofD hh⟩
  | _=>cases hp
 |agg hh=>exact⟨_,rfl,hh⟩
 | _=>cases hp
theorem agI {ρ:Operand→Value}{o:Oper}{t:TypeId}{x:Operand}{f off n:Nat}{agg:Bool}(ho:o.op= .field t x f){args:List PV}(hS:Sim C X w M E)(hA:aK w (away X M E) M E ((opsOf o.op).map ρ) args)
  (hok:aI C.P (.field t x f) (.WH agg off n)=true){base:Nat}(h:aj C base (.WH agg off n) args M K KP):dZ C X w M E K KP ((execOp ρ o).run C.P w):=by
 simp only[aI]at hok
 split at hok
 ·rename_i fs hfs
  split at hok
  ·rename_i fd hfd
   simp only[Bool.and_eq_true,beq_iff_eq]at hok
   obtain⟨rfl,hok⟩:=hok
   simp only[ho,opsOf,List.map_cons,List.map_nil]at hA
   simp only[aj]at h
   split at h
   ·obtain⟨v,he,hr⟩:=eG hA
    simp only[List.cons.injEq,and_true]at he
    subst he
    obtain⟨h0,h1,hK⟩:=h
    obtain⟨vs,hv,hcs⟩:=VT hr h0
    obtain⟨u,g1,g2⟩:=acT hok hcs h1
    have hrun:(execOp ρ o).run C.P w= .ok (.value u) w:=by simp[execOp,ho,hv,Instr.field,run_underlying hfs,hfd,asAgg,g1]
    rw[hrun]
    exact .same hS hK g2
   ·exact h.elim
  ·cases hok
 ·cases hok
theorem agL {ρ:Operand→Value}{o:Oper}{t:TypeId}{x i:Operand}{sz len:Nat}{agg:Bool}(ho:o.op= .index t x i){args:List PV}(hS:Sim C X w M E)(hA:aK w (away X M E) M E ((opsOf o.op).map ρ) args)
  (hok:aI C.P (.index t x i) (.WQ agg sz len)=true){base:Nat}(h:aj C base (.WQ agg sz len) args M K KP):dZ C X w M E K KP ((execOp ρ o).run C.P w):=by
 simp only[aI]at hok
 split at hok
 ·rename_i n e hun
  simp only[Bool.and_eq_true,beq_iff_eq]at hok
  obtain⟨⟨rfl,hsz⟩,hagg⟩:=hok
  split at hsz
  ·rename_i inf jJ
   simp only[beq_iff_eq]at hsz
   simp only[ho,opsOf,List.map_cons,List.map_nil]at hA
   simp only[aj]at h
   split at h
   ·rename_i p k m
    obtain⟨v,u,he,hr,hr2⟩:=dJ hA
    simp only[List.cons.injEq,and_true]at he
    obtain⟨rfl,rfl⟩:=he
    obtain⟨h0,h1,h2,h3,hK⟩:=h
    obtain⟨vs,hv,hcs⟩:=VT hr h0
    obtain⟨u,g1,g2⟩:=acT hagg hcs h3
    have e2:=hr2.toD.fA
    have hrun:(execOp ρ o).run C.P w= .ok (.value u) w:=by
     simp[execOp,ho,hv,e2,Instr.index,asIntOf,run_underlying hun,h1,h2,run_sizeOf jJ,hsz,g1]
    rw[hrun]
    exact .same hS hK g2
   ·exact h.elim
  ·cases hsz
 ·cases hok
theorem agK {ρ:Operand→Value}{o:Oper}{t:TypeId}{x i:Operand}(ho:o.op= .index t x i){args:List PV}(hS:Sim C X w M E)(hA:aK w (away X M E) M E ((opsOf o.op).map ρ) args)
  (hok:aI C.P (.index t x i) .abW=true){base:Nat}(h:aj C base .abW args M K KP):dZ C X w M E K KP ((execOp ρ o).run C.P w):=by
 simp only[aI]at hok
 split at hok
 ·rename_i hun
  simp only[ho,opsOf,List.map_cons,List.map_nil]at hA
  simp only[aj]at h
  split at h
  ·rename_i s k m
   obtain⟨v,u,he,hr,hr2⟩:=dJ hA
   simp only[List.cons.injEq,and_true]at he
   obtain⟨rfl,rfl⟩:=he
   obtain⟨h1,h2,hK⟩:=h
   have e1:=hr.toD.uT
   have e2:=hr2.toD.fA
   have hrun:(execOp ρ o).run C.P w= .ok (.value (.int .u8 (s.data.getD m.toNat 0).toNat)) w:=by
    have h2':m.toNat<s.data.size:=h2
    have hg:s[m.toNat]?=some (s.data.getD m.toNat 0):=by
     rw[getElem?_pos s m.toNat h2]
     congr 1
     show s.data[m.toNat]=s.data.getD m.toNat 0
     simp[Array.getD]
     intro hh
     exact absurd h2 (by omega)
    simp only[execOp,ho,e1,e2,Instr.index,asIntOf,pure_bind,Sem.run_bind,run_underlying hun,Result.andThen_ok,h1,if_true,hg,Sem.run_pure]
   rw[hrun]
   exact .same hS hK (.d (.int _ _))
  ·exact h.elim
 ·cases hok
theorem agJ {ρ:Operand→Value}{o:Oper}{t:TypeId}{x i:Operand}{sz:Nat}(ho:o.op= .indexAddr t x i){args:List PV}(hS:Sim C X w M E)(hA:aK w (away X M E) M E ((opsOf o.op).map ρ) args)
  (hok:aI C.P (.indexAddr t x i) (.bC sz)=true){base:Nat}(h:aj C base (.bC sz) args M K KP):dZ C X w M E K KP ((execOp ρ o).run C.P w):=by
 simp only[aI]at hok
 split at hok
 ·rename_i e hun
  split at hok
  ·rename_i inf jJ
   simp only[Bool.and_eq_true,beq_iff_eq,decide_eq_true_eq]at hok
   obtain⟨hsz,hpos⟩:=hok
   have hrun:∀blk p len cap k m,ρ x= .slice (some ⟨blk,p,none⟩) len cap→ρ i= .int k m→0≤m→m.toNat<len→(execOp ρ o).run C.P w= .ok (.value (.pointer (some ⟨blk,p+m.toNat*sz,none⟩))) w:=by
    intro blk p len cap k m h1 h2 h3 h4
    have h5:m<(len:Int):=by omega
    simp[execOp,ho,h1,h2,Instr.indexAt,asIntOf,run_underlying hun,h3,h5,run_sizeOf jJ,hsz,Addr.add_lit]
   simp only[ho,opsOf,List.map_cons,List.map_nil]at hA
   simp only[aj]at h
   split at h
   ·rename_i p q
    obtain⟨v,u,he,hr,hr2⟩:=dJ hA
    simp only[List.cons.injEq,and_true]at he
    obtain⟨rfl,rfl⟩:=he
    unfold xX at h
    split at h
    ·rename_i ex xs k m
     obtain⟨h1,h2,h3,hK⟩:=h
     have e2:=hr2.toD.fA
     rw[getD_eq h2]at h3 hK
     have hd:=hr.toD
     generalize hv:ρ x=v at hd
     cases hd with
     |empty=>simp at h2
     |slice hb ho' hl hs hc hx hh=>
      rename_i blk off len cap sz' cs T fz
      have hsz':sz'=sz:=by rw[←hs _ (List.getElem_mem h2),h3]
      subst hsz'
      rw[hrun _ _ _ _ _ _ hv e2 h1 (by omega)]
      refine .same hS hK (.d (.aX hb ho' ?_))
      have hin:m.toNat*sz'+sz'≤xs.length*sz':=by rw[←Nat.succ_mul];exact Nat.mul_le_mul_right _ h2
      have h4:=(hh.drop (m.toNat*sz')).take sz'
      rw[flat_get hs h2,List.drop_take,List.drop_drop,List.take_take]at h4
      rw[h3]
      rw[hl]at hin
      rw[Nat.min_eq_left (by omega)]at h4
      exact h4
    ·rename_i k ver skip kk m
     split at h
     ·rename_i A hrow
      obtain⟨h0,h1,h2,hK⟩:=h
      obtain⟨hA1,O8⟩:=xI hrow
      have e2:=hr2.toD.fA
      generalize hv:ρ x=v at hr
      cases hr with
      |tsl hlt hh=>
       rename_i len cap a
       obtain⟨hle,hh2⟩:=hh A hA1
       obtain⟨loc,h3,h4,h5⟩:=hh2 O8
       have hi:skip+m.toNat<A.elems.length:=h2
       cases loc with
       |some q=>
        obtain⟨blk,o1,e1⟩:=q
        simp only at h5
        rcases h5 with⟨cap',he',hc,hcap⟩|⟨hn,_⟩
        ·cases he'
         rw[hrun _ _ _ _ _ _ hv e2 h1 (by omega)]
         refine .same hS hK (.jY hlt fun B hB=> ?_)
         rw[hA1]at hB;cases hB
         exact⟨hle,fun _=>⟨_,h3,hi,by simp only[Value.pointer.injEq,Option.some.injEq,Addr.mk.injEq,true_and,and_true];rw[h0,Nat.add_mul];omega⟩⟩
        ·omega
       |none=>
        simp only at h5
        generalize hds:A.elems.drop skip=ds at h5
        have hlen:ds.length=A.elems.length - skip:=by rw[←hds];simp
        generalize hpv:Value.slice a len cap=pv at h5
        cases h5 with
        |empty=>simp at hlen;omega
        |slice hb ho' hl hs hc hx hh'=>
         rename_i blk off len' cap' sz' cs T fz
         cases hpv
         have hlt':m.toNat<ds.length:=by omega
         have hel:ds[m.toNat]=A.elems[skip+m.toNat]:=by subst hds;simp
         have hfit:=(hS.arr k A hA1).2.1 _ (List.getElem_mem hi)
         have hsz':sz'=sz:=by
          have:=hs _ (List.getElem_mem hlt')
          rw[hel,DV.cu hfit]at this
          omega
         subst hsz'
         rw[hrun _ _ _ _ _ _ hv e2 h1 (by omega)]
         refine .same hS hK (.jY hlt fun B hB=> ?_)
         rw[hA1]at hB;cases hB
         refine⟨hle,fun _=>⟨none,h3,hi,?_⟩⟩
         simp only[List.drop_zero,List.getElem?_eq_getElem hi,Option.getD_some]
         refine .aX hb ho' ?_
         have hin:m.toNat*sz'+sz'≤ds.length*sz':=by rw[←Nat.succ_mul];exact Nat.mul_le_mul_right _ hlt'
         have h4':=(hh'.drop (m.toNat*sz')).take sz'
         rw[flat_get hs hlt',List.drop_take,List.drop_drop,List.take_take,hel]at h4'
         rw[DV.cu hfit,h0]
         rw[hl]at hin
         rw[Nat.min_eq_left (by omega)]at h4'
         exact h4'
     ·exact h.elim
    ·exact h.elim
   ·exact h.elim
  ·cases hok
 ·cases hok
end
section
variable {C:Ctx}{X:Nat→Prop}{w:World}{M:Mem}{E:Emb}{K:PV→Mem→Prop}{KP:DV→Mem→Prop}{O:Nat→Prop}
theorem LC {P:Program}{t:TypeId}{k off:Nat}{cs:Array Value}{v:Value}(h:qJ (P.underlying t) k=true)(hv:cs[off]?=some v):(part t cs off).run P w= .ok v w:=by
 have:(isAgg t).run P w= .ok false w:=by
  unfold qJ at h
  split at h
  ·rename_i hu;simp[isAgg,run_underlying hu]
  ·rename_i hu;simp[isAgg,run_underlying hu]
  ·rename_i hu;simp[isAgg,run_underlying hu]
  ·cases h
 simp[part,this,hv]
theorem wP {P:Program}{xs ys:Array Value}(d:Nat):∀{fs:List Field} {ks:List Nat} {off:Nat} {l m:List DV} {t:Bool},dO P fs ks off=true→aQ w O (xs.toList.drop off) l→aQ w O (ys.toList.drop off) m→
  dB ks l m=some t→(Op.eqFields (d+1) xs ys fs).run P w= .ok t w
 | [],[],off,l,m,t,_,hl,hm,hc=>by
  cases l<;>cases m<;>simp[dB]at hc
  subst hc
  simp[Op.eqFields]
 |f::fs,k::ks,off,l,m,t,hs,hl,hm,hc=>by
  simp only[dO,Bool.and_eq_true,decide_eq_true_eq]at hs
  obtain⟨⟨⟨hoff,hk⟩,hn⟩,hs⟩:=hs
  have step:∀{a b:DV} {l' m':List DV} {t1 t2:Bool},l=a::l'→m=b::m'→dB ks l' m'=some t2→t=(t1&&t2)→
    (∀u v,bf w O u a→bf w O v b→(Op.equalIn (d+1) f.type u v).run P w= .ok t1 w)→(Op.eqFields (d+1) xs ys (f::fs)).run P w= .ok t w:=by
   intro a b l' m' t1 t2 e1 e2 h2 ht heq
   subst e1;subst e2
   generalize hx:xs.toList.drop off=xl at hl
   generalize hy:ys.toList.drop off=yl at hm
   cases hl with
   |cons hu hl'=>cases hm with
    |cons hv hm'=>
     rename_i u us v vs
     have hx0:xs[off]?=some u:=by
      have:(xs.toList.drop off)[0]?=some u:=by rw[hx];rfl
      simpa using this
     have hy0:ys[off]?=some v:=by
      have:(ys.toList.drop off)[0]?=some v:=by rw[hy];rfl
      simpa using this
     have hx1:xs.toList.drop (off+1)=us:=by
      rw[←List.drop_drop,hx];rfl
     have hy1:ys.toList.drop (off+1)=vs:=by
      rw[←List.drop_drop,hy];rfl
     have ih:=wP (xs:=xs) (ys:=ys) d hs (hx1▸hl') (hy1▸hm') h2
     simp only[Op.eqFields,hn,ne_eq,not_false_eq_true,if_true,Sem.run_bind,hoff,LC hk hx0,LC hk hy0,Result.andThen_ok,heq u v hu hv,Sem.run_ite,ih,Sem.run_pure]
     cases t1<;>simp[ht]
  unfold dB at hc
  split at hc
  ·contradiction
  ·rename_i ks' k1 a l' k2 b m' heq
   cases heq
   split at hc
   ·rename_i hkk
    subst hkk
    rw[Option.map_eq_some_iff]at hc
    obtain⟨t2,h2,h3⟩:=hc
    refine step rfl rfl h2 h3.symm fun u v hu hv=> ?_
    have:=hu.fA;subst this
    have:=hv.fA;subst this
    unfold qJ at hk
    split at hk
    ·cases hk
    ·rename_i hun;exact run_equalIn_int w d f.type k1 _ a b hun
    ·cases hk
    ·cases hk
   ·cases hc
  ·rename_i ks' a l' b m' heq
   cases heq
   rw[Option.map_eq_some_iff]at hc
   obtain⟨t2,h2,h3⟩:=hc
   refine step rfl rfl h2 h3.symm fun u v hu hv=> ?_
   have:=hu.pO;subst this
   have:=hv.pO;subst this
   unfold qJ at hk
   split at hk
   ·rename_i hun;exact Go.run_equalIn_bool w d f.type a b hun
   ·cases hk
   ·cases hk
   ·cases hk
  ·rename_i ks' a l' b m' heq
   cases heq
   rw[Option.map_eq_some_iff]at hc
   obtain⟨t2,h2,h3⟩:=hc
   refine step rfl rfl h2 h3.symm fun u v hu hv=> ?_
   have:=hu.uT;subst this
   have:=hv.uT;subst this
   unfold qJ at hk
   split at hk
   ·cases hk
   ·cases hk
   ·rename_i hun;exact run_equalIn_string w d f.type a b hun
   ·cases hk
  ·cases hc
 | [],_::_,_,_,_,_,hs,_,_,_=>by simp[dO]at hs
 | _::_,[],_,_,_,_,hs,_,_,_=>by simp[dO]at hs
theorem agE {ρ:Operand→Value}{o:Oper}{op:BinOp}{neq:Bool}{ks:List Nat}{t u:TypeId}{x y:Operand}(ho:o.op= .binOp op t x y u){args:List PV}(hS:Sim C X w M E)(hA:aK w (away X M E) M E ((opsOf o.op).map ρ) args)
  (hok:aI C.P (.binOp op t x y u) (.Qg neq ks)=true){base:Nat}(h:aj C base (.Qg neq ks) args M K KP):dZ C X w M E K KP ((execOp ρ o).run C.P w):=by
 simp only[aI,Bool.and_eq_true]at hok
 obtain⟨hop,hty⟩:=hok
 split at hty
 ·rename_i fs hun
  simp only[Bool.and_eq_true,Bool.not_eq_true']at hty
  obtain⟨⟨hsc,hst⟩,hgt⟩:=hty
  have hfo:C.P.fieldsOf t=fs:=by simp[Program.fieldsOf,hun]
  simp only[ho,opsOf,List.map_cons,List.map_nil]at hA
  simp only[aj]at h
  split at h
  ·rename_i a b
   obtain⟨v,u',he,hr,hr2⟩:=dJ hA
   simp only[List.cons.injEq,and_true]at he
   obtain⟨rfl,rfl⟩:=he
   split at h
   ·rename_i tt htt
    obtain⟨xs,e1,hx⟩:=hr.toD.zH
    obtain⟨ys,e2,hy⟩:=hr2.toD.zH
    have heq:(Op.equalIn 10000 t (.agg xs) (.agg ys)).run C.P w= .ok tt w:=by
     rw[run_equalIn_agg w 9999 t xs ys (by rw[hfo];exact hun) hst,hfo]
     exact wP 9998 hsc (by simpa using hx) (by simpa using hy) htt
    have hg:=run_eqGuard_agg (P:=C.P) w op t x y xs ys hgt
    have hrun:(execOp ρ o).run C.P w= .ok (.value (.bool (tt !=neq))) w:=by
     cases op<;>simp only[Bool.not_eq_true',Bool.false_eq_true]at hop
     ·subst hop
      simp only[execOp,ho,Sem.run_bind,e1,e2,hg,Result.andThen_ok,run_eql_struct,heq,Sem.run_pure]
      simp
     ·subst hop
      simp only[execOp,ho,Sem.run_bind,e1,e2,hg,Result.andThen_ok,run_neq_struct,heq,Sem.run_pure]
      simp
    rw[hrun]
    exact .same hS h (.d (.bool _))
   ·exact h.elim
  ·exact h.elim
 ·cases hty
theorem aiK {ρ:Operand→Value}{o:Oper}{x:Operand}{i j:Nat}(ho:o.op= .extract x i){args:List PV}(hS:Sim C X w M E)(hA:aK w (away X M E) M E ((opsOf o.op).map ρ) args)
  (hok:aI C.P (.extract x i) (.ext j)=true){base:Nat}(h:aj C base (.ext j) args M K KP):dZ C X w M E K KP ((execOp ρ o).run C.P w):=by
 simp only[aI,beq_iff_eq]at hok
 subst hok
 simp only[ho,opsOf,List.map_cons,List.map_nil]at hA
 simp only[aj]at h
 split at h
 ·obtain⟨v,he,hr⟩:=eG hA
  simp only[List.cons.injEq,and_true]at he
  subst he
  split at h
  ·rename_i d hd
   have hdd:=hr.toD
   generalize hv:ρ x=v at hdd
   cases hdd with
   |tup hh=>
    obtain⟨u,h1,h2⟩:=hh.get' i d hd
    have hrun:(execOp ρ o).run C.P w= .ok (.value u) w:=by
     simp[execOp,ho,hv,Instr.extract,Array.getElem?_toList▸h1]
    rw[hrun]
    exact .same hS h (.d h2)
  ·exact h.elim
 ·obtain⟨v,he,hr⟩:=eG hA
  simp only[List.cons.injEq,and_true]at he
  subst he
  split at h
  ·rename_i d hd
   generalize hv:ρ x=v at hr
   cases hr with
   |tup hh=>
    obtain⟨u,h1,h2⟩:=hh.get' i d hd
    have hrun:(execOp ρ o).run C.P w= .ok (.value u) w:=by
     simp[execOp,ho,hv,Instr.extract,Array.getElem?_toList▸h1]
    rw[hrun]
    exact .same hS h h2
  ·exact h.elim
 ·exact h.elim
theorem Rep.lq {v:Value}{k ver skip:Nat}{A:Arr}(hr:Rep w O M E v (.tsl k ver skip))(hA:M.row k ver=some A):∃a cap,v= .slice a (A.elems.length - skip) cap:=by
 obtain⟨hA1,O8⟩:=xI hA
 cases hr with
 |tsl hlt hh=>
  obtain⟨_,h2⟩:=hh A hA1
  obtain⟨loc,_,_,h5⟩:=h2 O8
  cases loc with
  |some q=>
   obtain⟨blk,o,e⟩:=q
   rcases h5 with⟨cap',he,_⟩|⟨hn,a',he⟩
   ·cases he;exact⟨_,_,rfl⟩
   ·cases he;exact⟨_,_,by rw[hn,Nat.sub_self]⟩
  |none=>
   obtain⟨a',c',he⟩:=bf.lq h5
   exact⟨a',c',by rw[he];simp⟩
theorem acP {argTypes:Array TypeId}{p:Option TypeDesc→Bool}{P:Program}(h:(argTypes.size==1&&p (P.underlying (argTypes.getD 0 0)))=true):∃t,argTypes= #[t]∧p (P.underlying t)=true:=by
 simp only[Bool.and_eq_true,beq_iff_eq]at h
 obtain⟨h1,h2⟩:=h
 obtain⟨t,rfl⟩:=Array.size_eq_one_iff.1 h1
 exact⟨t,rfl,by simpa using h2⟩
theorem aiM {ρ:Operand→Value}{o:Oper}{argTypes:Array TypeId}{as:Array Operand}(ho:o.op= .call {callee:= .builtin .len,args:=as,argTypes}){args:List PV}(hS:Sim C X w M E)(hA:aK w (away X M E) M E ((opsOf o.op).map ρ) args)
  (hok:aI C.P (.call {callee:= .builtin .len,args:=as,argTypes}) .len=true){base:Nat}(h:aj C base .len args M K KP):dZ C X w M E K KP ((execOp ρ o).run C.P w):=by
 simp only[aI]at hok
 simp only[ho,opsOf]at hA
 simp only[aj]at h
 split at h
 ·rename_i p
  obtain⟨v,he,hr⟩:=eG hA
  obtain⟨t,rfl,hu⟩:=acP (p:=fun d=>match d with|some (.slice _)=>true| _=>false) hok
  split at hu
  ·rename_i e hun
   have has:as.map ρ= #[v]:=by apply Array.ext';simpa using he
   have hrun:∀a n cap,v= .slice a n cap→(execOp ρ o).run C.P w= .ok (.value (.int .i64 n)) w:=by
    intro a n cap hv
    simp[execOp,ho,resolve,has,invoke,builtin,Builtin.len_,run_underlying hun,hv,goInt]
   unfold vI at h
   split at h
   ·obtain⟨a,cap,hv⟩:=hr.toD.lq
    rw[hrun _ _ _ hv]
    exact .same hS h (.d (.int _ _))
   ·split at h
    ·rename_i A hA'
     obtain⟨a,cap,hv⟩:=hr.lq hA'
     rw[hrun _ _ _ hv]
     exact .same hS h (.d (.int _ _))
    ·exact h.elim
   ·exact h.elim
  ·cases hu
 ·exact h.elim
theorem agN {ρ:Operand→Value}{o:Oper}{argTypes:Array TypeId}{as:Array Operand}(ho:o.op= .call {callee:= .builtin .len,args:=as,argTypes}){args:List PV}(hS:Sim C X w M E)(hA:aK w (away X M E) M E ((opsOf o.op).map ρ) args)
  (hok:aI C.P (.call {callee:= .builtin .len,args:=as,argTypes}) .Kq=true){base:Nat}(h:aj C base .Kq args M K KP):dZ C X w M E K KP ((execOp ρ o).run C.P w):=by
 simp only[aI]at hok
 simp only[ho,opsOf]at hA
 simp only[aj]at h
 split at h
 ·rename_i s
  obtain⟨v,he,hr⟩:=eG hA
  obtain⟨t,rfl,hu⟩:=acP (p:=fun d=>match d with|some .string=>true| _=>false) hok
  split at hu
  ·rename_i hun
   have has:as.map ρ= #[v]:=by apply Array.ext';simpa using he
   have hv:=hr.toD.uT
   have hrun:(execOp ρ o).run C.P w= .ok (.value (.int .i64 s.size)) w:=by
    simp[execOp,ho,resolve,has,invoke,builtin,Builtin.len_,run_underlying hun,hv,goInt]
   rw[hrun]
   exact .same hS h (.d (.int _ _))
  ·cases hu
 ·exact h.elim
theorem agM {ρ:Operand→Value}{o:Oper}{n:Nat}{argTypes:Array TypeId}{as:Array Operand}(ho:o.op= .call {callee:= .builtin .len,args:=as,argTypes}){args:List PV}(hS:Sim C X w M E)
  (hok:aI C.P (.call {callee:= .builtin .len,args:=as,argTypes}) (.ach n)=true){base:Nat}(h:aj C base (.ach n) args M K KP):dZ C X w M E K KP ((execOp ρ o).run C.P w):=by
 simp only[aI,Bool.and_eq_true,beq_iff_eq]at hok
 obtain⟨⟨h1,h2⟩,hu⟩:=hok
 obtain⟨t,rfl⟩:=Array.size_eq_one_iff.1 h1
 obtain⟨x,rfl⟩:=Array.size_eq_one_iff.1 h2
 simp only[aj]at h
 split at hu
 ·rename_i m e hun
  simp only[beq_iff_eq]at hu
  subst hu
  have hun':C.P.underlying t=some (.array m e):=by simpa using hun
  have hrun:(execOp ρ o).run C.P w= .ok (.value (.int .i64 m)) w:=by
   simp only[execOp,ho,resolve,invoke,builtin,Builtin.len_]
   cases hx:ρ x<;>simp[hx,run_underlying hun',goInt]
  rw[hrun]
  exact .same hS h (.d (.int _ _))
 ·cases hu
theorem Uf {ρ:Operand→Value}{o:Oper}{mx:Bool}{b:Builtin}{argTypes:Array TypeId}{as:Array Operand}(ho:o.op= .call {callee:= .builtin b,args:=as,argTypes})(hb:(b= .max∧mx=true)∨(b= .min∧mx=false))
  {args:List PV}(hS:Sim C X w M E)(hA:aK w (away X M E) M E (as.toList.map ρ) args)
  {base:Nat}(h:aj C base (.La mx) args M K KP):dZ C X w M E K KP ((execOp ρ o).run C.P w):=by
 simp only[aj]at h
 split at h
 ·rename_i k x k' y
  obtain⟨v,u,he,hr,hr2⟩:=dJ hA
  have has:as.map ρ= #[v,u]:=by apply Array.ext';simpa using he
  have e1:=hr.toD.fA
  have e2:=hr2.toD.fA
  have hrun:(execOp ρ o).run C.P w= .ok (.value (.int k (bif mx then(if y>x then y else x)else(if y<x then y else x)))) w:=by
   rcases hb with⟨rfl,rfl⟩|⟨rfl,rfl⟩
   ·simp[execOp,ho,resolve,has,invoke,builtin,Builtin.max_,Builtin.max2,e1,e2]
   ·simp[execOp,ho,resolve,has,invoke,builtin,Builtin.min_,Builtin.min2,e1,e2]
  rw[hrun]
  exact .same hS h (.d (.int _ _))
 ·exact h.elim
theorem ad6 {ρ:Operand→Value}{o:Oper}{x:Operand}(ho:o.op= .panic x){args:List PV}(hS:Sim C X w M E)(hA:aK w (away X M E) M E ((opsOf o.op).map ρ) args)
  {base:Nat}(h:aj C base .panic args M K KP):dZ C X w M E K KP ((execOp ρ o).run C.P w):=by
 simp only[ho,opsOf,List.map_cons,List.map_nil]at hA
 simp only[aj]at h
 split at h
 ·rename_i p
  obtain⟨v,he,hr⟩:=eG hA
  simp only[List.cons.injEq,and_true]at he
  subst he
  split at h
  ·rename_i t d hd
   have hdd:=mF (ps:=[p]) hS hr hd (by simp)
   have hrun:(execOp ρ o).run C.P w= .halt (.panic (ρ x)) w:=by
    have:∃u,ρ x= .iface t u:=by
     generalize hv:ρ x=v at hdd
     cases hdd;exact⟨_,rfl⟩
    obtain⟨u,hu⟩:=this
    simp[execOp,ho,hu,Instr.panic]
   rw[hrun]
   exact⟨_,_,_,h,pz hS [p],nX [p] w,hdd⟩
  ·exact h.elim
 ·exact h.elim
theorem Lu {f:Bool}{l:List PV}{Q:Option Int→List PV→Prop}(h:dI f l Q){vs:List Value}(hv:aK w O M E vs l):
  ∃a l' vs',Q a l'∧aK w O M E vs' l'∧((f=false∧a=none∧vs'=vs)∨∃k n,f=true∧a=some n∧vs= .int k n::vs'):=by
 unfold dI at h
 split at h
 ·exact⟨none,_,vs,h,hv, .inl ⟨rfl,rfl,rfl⟩⟩
 ·cases hv with
  |cons h1 h2=>
   have:=h1.toD.fA
   subst this
   exact⟨some _,_,_,h,h2, .inr ⟨_,_,rfl,rfl,rfl⟩⟩
 ·exact h.elim
def FW (v:Option Value)(a:Option Int):Prop:=(v=none∧a=none)∨∃k n,v=some (.int k n)∧a=some n
theorem Js {P:Program}{isSlice:Bool}{len cap:Nat}{lo hi mx:Option Value}{a b m:Option Int}(ha:FW lo a)(hb:FW hi b)(hm:FW mx m)(hmb:∀m',m=some m'→b=some m')
  (h0:0≤a.getD 0)(h1:a.getD 0≤b.getD len)(h2:b.getD len≤len)(h3:len≤cap)(w:World):
  (Instr.sliceBounds isSlice len cap lo hi mx).run P w= .ok ((a.getD 0).toNat,(b.getD len).toNat,(m.map Int.toNat).getD cap) w:=by
 rcases ha with⟨rfl,rfl⟩|⟨ka,na,rfl,rfl⟩<;>rcases hb with⟨rfl,rfl⟩|⟨kb,nb,rfl,rfl⟩<;>rcases hm with⟨rfl,rfl⟩|⟨km,nm,rfl,rfl⟩<;>
  simp only[Option.getD_some,Option.getD_none]at h0 h1 h2⊢
 ·simp[Instr.sliceBounds]
 ·have:=hmb _ rfl;cases this
 ·have e1:nb≤(cap:Int):=by omega
  simp only[Instr.sliceBounds,Sem.run_bind,Sem.run_pure,Result.andThen_ok]
  rw[run_sliceBound w kb nb cap _ h1 e1]
  simp
 ·have:=hmb _ rfl;cases this
  have e1:nb≤(cap:Int):=by omega
  have e2:nb≤(nb.toNat:Int):=by omega
  simp only[Instr.sliceBounds,Sem.run_bind,Sem.run_pure,Result.andThen_ok]
  rw[run_sliceBound w km nb cap _ h1 e1]
  simp only[Result.andThen_ok]
  rw[run_sliceBound w kb nb nb.toNat _ h1 e2]
  simp
 ·have e1:na≤(len:Int):=h1
  simp only[Instr.sliceBounds,Sem.run_bind,Sem.run_pure,Result.andThen_ok]
  rw[run_sliceBound w ka na len _ h0 e1]
  simp
 ·have:=hmb _ rfl;cases this
 ·have e1:nb≤(cap:Int):=by omega
  have e0:0≤nb:=by omega
  have e2:na≤(nb.toNat:Int):=by omega
  simp only[Instr.sliceBounds,Sem.run_bind,Sem.run_pure,Result.andThen_ok]
  rw[run_sliceBound w kb nb cap _ e0 e1]
  simp only[Result.andThen_ok]
  rw[run_sliceBound w ka na nb.toNat _ h0 e2]
  simp
 ·have:=hmb _ rfl;cases this
  have e1:nb≤(cap:Int):=by omega
  have e0:0≤nb:=by omega
  have e2:nb≤(nb.toNat:Int):=by omega
  have e3:na≤(nb.toNat:Int):=by omega
  simp only[Instr.sliceBounds,Sem.run_bind,Sem.run_pure,Result.andThen_ok]
  rw[run_sliceBound w km nb cap _ e0 e1]
  simp only[Result.andThen_ok]
  rw[run_sliceBound w kb nb nb.toNat _ e0 e2]
  simp only[Result.andThen_ok]
  rw[run_sliceBound w ka na nb.toNat _ h0 e3]
  simp
theorem Sr {lo hi mx:Bool}{l:List PV}{Q:Option Int→Option Int→Option Int→Prop}
  (h:dI lo l fun a l=>dI hi l fun b l=>dI mx l fun m l=>l=[]∧Q a b m){ρ:Operand→Value}{olo ohi omx:Option Operand}(h1:olo.isSome=lo)(h2:ohi.isSome=hi)(h3:omx.isSome=mx)
  (hv:aK w O M E ((olo.toList++ohi.toList++omx.toList).map ρ) l):∃a b m,Q a b m∧FW (olo.map ρ) a∧FW (ohi.map ρ) b∧FW (omx.map ρ) m:=by
 obtain⟨a,l1,v1,g1,r1,c1⟩:=Lu h hv
 obtain⟨b,l2,v2,g2,r2,c2⟩:=Lu g1 r1
 obtain⟨m,l3,v3,⟨g3,g4⟩,r3,c3⟩:=Lu g2 r2
 refine⟨a,b,m,g4,?_⟩
 subst h1 h2 h3
 cases olo<;>cases ohi<;>cases omx<;>simp at c1 c2 c3<;>simp[FW]<;>grind
end
section
variable {C:Ctx}{X:Nat→Prop}{w:World}{M:Mem}{E:Emb}{K:PV→Mem→Prop}{KP:DV→Mem→Prop}{O:Nat→Prop}
theorem agZ {ρ:Operand→Value}{o:Oper}{t:TypeId}{x:Operand}{olo ohi omx:Option Operand}{lo hi:Bool}(ho:o.op= .slice t x olo ohi omx){args:List PV}(hS:Sim C X w M E)
  (hA:aK w (away X M E) M E ((opsOf o.op).map ρ) args)(hok:aI C.P (.slice t x olo ohi omx) (.RV lo hi)=true){base:Nat}(h:aj C base (.RV lo hi) args M K KP):dZ C X w M E K KP ((execOp ρ o).run C.P w):=by
 simp only[aI,Bool.and_eq_true,beq_iff_eq]at hok
 obtain⟨⟨⟨hu,h1⟩,h2⟩,h3⟩:=hok
 split at hu
 ·rename_i hun
  have hmx:omx=none:=by simpa using h3
  subst hmx
  simp only[ho,opsOf,List.map_cons,List.cons_append]at hA
  simp only[aj]at h
  unfold Dh at h
  split at h
  ·rename_i s l
   cases hA with
   |cons hx hl=>
    obtain⟨a,b,m,⟨_,q1,q2,q3,hK⟩,ba,bb,bm⟩:=Sr h h1 h2 (omx:=none) rfl hl
    have hv:=hx.toD.uT
    have hbn:=Js (P:=C.P) (isSlice:=false) ba bb (mx:=none) (m:=none) (.inl ⟨rfl,rfl⟩) (fun _ hh=>by cases hh) q1 q2 q3 (Nat.le_refl _) w
    have hrun:(execOp ρ o).run C.P w= .ok (.value (.string (s.extract (a.getD 0).toNat (b.getD s.size).toNat))) w:=by
     simp only[execOp,ho,Sem.run_bind,hv,Option.map_none]
     rw[run_sliceAt_string w t _ _ _ _ hun]
     simp only[Instr.slice,Sem.run_bind,run_underlying hun,Result.andThen_ok,Option.isSome_none,Bool.false_eq_true,if_false,hbn,Sem.run_pure,pure_bind]
    rw[hrun]
    exact .same hS hK (.d (.str _))
  ·exact h.elim
 ·cases hu
theorem bf.P9 {w:World}{O:Nat→Prop}{v:Value}{ex:Bool}{xs:List DV}(h:bf w O v (.slice ex xs)):∃a cap,v= .slice a xs.length cap∧xs.length≤cap∧(ex=true→cap=xs.length)∧
  (xs=[]∨∃blk off sz cs T fz,a=some ⟨blk,off,none⟩∧w.heap[blk]?=some (.cells cs T fz)∧¬O blk∧(∀x∈xs,x.cells.length=sz)∧aQ w O ((cs.toList.drop off).take (xs.length*sz)) (flat xs)):=by
 cases h with
 |empty hx=>exact⟨_,_,rfl,Nat.zero_le _,hx, .inl rfl⟩
 |slice hb ho hl hs hc hx hh=>subst hl;exact⟨_,_,rfl,hc,hx, .inr ⟨_,_,_,_,_,_,rfl,hb,ho,hs,hh⟩⟩
theorem Jy {P:Program}{t e:TypeId}{inf:TypeInfo}{v:Value}{ex:Bool}{xs:List DV}{lo hi mx:Option Value}{a b m:Option Int}(hun:P.underlying t=some (.slice e))(jJ:P.info? e=some inf)
  (hsz:∀x∈xs,x.cells.length=inf.size)(hv:bf w O v (.slice ex xs))
  (ha:FW lo a)(hb:FW hi b)(hm:FW mx m)(hmb:∀m',m=some m'→b=some m')(h0:0≤a.getD 0)(h1:a.getD 0≤b.getD xs.length)(h2:b.getD xs.length≤xs.length):
  ∃u,(Instr.sliceAt t v lo hi mx).run P w= .ok u w∧bf w O u (.slice (mx.isSome||(ex&& !hi.isSome)) ((xs.take (b.getD xs.length).toNat).drop (a.getD 0).toNat)):=by
 have hpe:P.elem t=e:=by simp[Program.elem,hun]
 have hun':P.underlying t=some (.slice (P.elem t)):=by rw[hpe];exact hun
 obtain⟨av,cap,rfl,hcap,hcx,aoz⟩:=hv.P9
 have hbn:=Js (P:=P) (isSlice:=true) ha hb hm hmb h0 h1 h2 hcap w
 have aqH:(b.getD xs.length).toNat≤(m.map Int.toNat).getD cap∧(m.map Int.toNat).getD cap≤cap:=by
  cases m with
  |none=>simp only[Option.map_none,Option.getD_none];omega
  |some m'=>have:=hmb m' rfl;subst this;simp only[Option.getD_some]at h2;simp only[Option.map_some,Option.getD_some];omega
 have hex:(mx.isSome||(ex&& !hi.isSome))=true→(m.map Int.toNat).getD cap=(b.getD xs.length).toNat:=by
  intro hx
  rcases hm with⟨rfl,rfl⟩|⟨km,nm,rfl,rfl⟩
  ·simp only[Option.isSome_none,Bool.false_or,Bool.and_eq_true,Bool.not_eq_true']at hx
   obtain⟨hx1,hx2⟩:=hx
   rcases hb with⟨rfl,rfl⟩|⟨kb,nb,rfl,rfl⟩
   ·simp only[Option.getD_none,Option.map_none]
    rw[hcx hx1];simp
   ·cases hx2
  ·have:=hmb nm rfl;subst this
   simp
 generalize (m.map Int.toNat).getD cap=mv at hbn aqH hex
 have hlh:(a.getD 0).toNat≤(b.getD xs.length).toNat:=by omega
 have hhl:(b.getD xs.length).toNat≤xs.length:=by omega
 generalize (a.getD 0).toNat=l at*
 generalize (b.getD xs.length).toNat=hh at*
 refine⟨sliced av l hh mv inf.size,?_,?_⟩
 ·rw[run_sliceAt_slice w t _ _ _ _ hun',run_slice_any w t av xs.length cap hun',hbn,hpe]
  simp only[Result.andThen_ok,run_sizeOf jJ]
 ·simp only[sliced]
  by_cases hle:l=hh
  ·have:(xs.take hh).drop l=[]:=List.drop_eq_nil_of_le (by simp;omega)
   rw[this,hle,Nat.sub_self]
   exact .empty (fun hx=>by rw[hex hx];omega)
  ·have hne:mv≠l:=by omega
   rw[if_neg hne]
   rcases aoz with rfl|⟨blk,off,sz,cs,T,fz,rfl,hb1,ho,hs,hr⟩
   ·simp at hhl;omega
   ·have hszz:sz=inf.size:=by
     have h0':0<xs.length:=by omega
     rw[←hs _ (List.getElem_mem h0'),hsz _ (List.getElem_mem h0')]
    subst hszz
    simp only[Option.map_some,Addr.add_lit]
    refine .slice hb1 ho (by simp;omega) (fun x hx=>hs x (List.mem_of_mem_take (List.mem_of_mem_drop hx))) (by omega) (fun hx=>by have:=hex hx;omega) ?_
    rw[List.drop_take,←GX (fun x hx=>hs x (List.mem_of_mem_drop hx)),←Dl hs]
    have h5:=(hr.drop (l*inf.size)).take ((hh - l)*inf.size)
    rw[List.drop_take,List.drop_drop,List.take_take]at h5
    have:(hh - l)*inf.size≤xs.length*inf.size - l*inf.size:=by
     rw[←Nat.sub_mul];exact Nat.mul_le_mul_right _ (by omega)
    rw[Nat.min_eq_left this]at h5
    exact h5
theorem isSome_map {α β:Type}(f:α→β)(o:Option α):(o.map f).isSome=o.isSome:=by cases o<;>rfl
theorem YT {ρ:Operand→Value}{o:Oper}{t:TypeId}{x:Operand}{olo ohi omx:Option Operand}{sz:Nat}{lo hi mx:Bool}(ho:o.op= .slice t x olo ohi omx){args:List PV}(hS:Sim C X w M E)
  (hA:aK w (away X M E) M E ((opsOf o.op).map ρ) args)(hok:aI C.P (.slice t x olo ohi omx) (.RU sz lo hi mx)=true){base:Nat}(h:aj C base (.RU sz lo hi mx) args M K KP):dZ C X w M E K KP ((execOp ρ o).run C.P w):=by
 simp only[aI,Bool.and_eq_true,beq_iff_eq]at hok
 obtain⟨⟨⟨hu,h1⟩,h2⟩,h3⟩:=hok
 split at hu
 ·rename_i e hun
  split at hu
  ·rename_i inf jJ
   simp only[Bool.and_eq_true,beq_iff_eq,decide_eq_true_eq]at hu
   obtain⟨hsz,hpos⟩:=hu
   subst hsz
   have hpe:C.P.elem t=e:=by simp[Program.elem,hun]
   have hun':C.P.underlying t=some (.slice (C.P.elem t)):=by rw[hpe];exact hun
   simp only[ho,opsOf,List.map_cons,List.cons_append]at hA
   simp only[aj]at h
   have hfin:∀{u:Value},(Instr.sliceAt t (ρ x) (olo.map ρ) (ohi.map ρ) (omx.map ρ)).run C.P w= .ok u w→(execOp ρ o).run C.P w= .ok (.value u) w:=by
    intro u hu
    simp only[execOp,ho,Sem.run_bind,hu,Result.andThen_ok,Sem.run_pure]
   unfold Df at h
   split at h
   ·rename_i ex xs l
    cases hA with
    |cons hx hl=>
     obtain⟨a,b,m,⟨hsz,q1,q2,q3,q4,hK⟩,ba,bb,bm⟩:=Sr h h1 h2 h3 hl
     obtain⟨u,g1,g2⟩:=Jy (P:=C.P) hun jJ hsz hx.toD ba bb bm q4 q1 q2 q3
     rw[hfin g1]
     refine .same hS hK (.d ?_)
     simp only[isSome_map,h2,h3]at g2
     exact g2
   ·rename_i k ver skip l
    cases hA with
    |cons hx hl=>
     obtain⟨a,b,m,hQ,ba,bb,bm⟩:=Sr h h1 h2 h3 hl
     split at hQ
     ·rename_i A hrow
      obtain⟨hA1,O8⟩:=xI hrow
      have aaj:=(hS.arr k A hA1).2.1
      split at hQ
      ·obtain⟨WM,rfl,q1,q2,hK⟩:=hQ
       generalize hv:ρ x=v at hx hfin
       cases hx with
       |tsl hlt hh=>
        rename_i len cap av
        obtain⟨hle,hh2⟩:=hh A hA1
        obtain⟨loc,h4,h5,h6⟩:=hh2 O8
        cases loc with
        |some q=>
         obtain⟨blk,o1,e1⟩:=q
         simp only at h6
         have key:∀av len cap,len=A.elems.length - skip→len≤cap→(Instr.sliceAt t (.slice av len cap) (olo.map ρ) (ohi.map ρ) (omx.map ρ)).run C.P w= .ok (sliced av (a.getD 0).toNat len cap inf.size) w:=by
          intro av len cap e1 e2
          have hbn:=Js (P:=C.P) (isSlice:=true) ba bb bm (fun _ hh=>by cases hh) q1 (by simp only[Option.getD_none];omega) (by simp only[Option.getD_none];omega) e2 w
          rw[run_sliceAt_slice w t _ _ _ _ hun',run_slice_any w t av len cap hun',hbn,hpe]
          simp only[Result.andThen_ok,run_sizeOf jJ,Option.getD_none]
          congr 2
         rcases h6 with⟨cap',he,hc,hcap⟩|⟨hn,a',he⟩
         ·cases he
          rw[hfin (key _ _ _ rfl hc)]
          simp only[sliced]
          have hal:(a.getD 0).toNat≤A.elems.length - skip:=by omega
          refine .same hS hK (.tsl hlt fun B hB=> ?_)
          rw[hA1]at hB;cases hB
          refine⟨hle,fun _=>⟨_,h4,by omega,?_⟩⟩
          by_cases hce:cap=(a.getD 0).toNat
          ·rw[if_pos hce]
           refine .inr ⟨by omega,some ⟨blk,o1+skip*A.sz,none⟩,?_⟩
           rw[show A.elems.length - skip - (a.getD 0).toNat=0 by omega,show cap - (a.getD 0).toNat=0 by omega]
          ·rw[if_neg hce]
           refine .inl ⟨cap - (a.getD 0).toNat,?_,by omega,?_⟩
           ·simp only[Option.map_some,Addr.add_lit,WM,Nat.add_mul,Nat.add_assoc,Nat.sub_sub]
           ·rw[←hcap];congr 2;omega
         ·cases he
          have ha0:(a.getD 0).toNat=0:=by omega
          rw[hfin (key _ _ _ (by omega) (Nat.le_refl _))]
          simp only[sliced,ha0,if_true,Nat.sub_self]
          refine .same hS hK (.tsl hlt fun B hB=> ?_)
          rw[hA1]at hB;cases hB
          exact⟨hle,fun _=>⟨_,h4,by omega, .inr ⟨by omega,_,rfl⟩⟩⟩
        |none=>
         simp only at h6
         have hdl:(A.elems.drop skip).length=A.elems.length - skip:=by simp
         obtain⟨u,g1,g2⟩:=Jy (P:=C.P) hun jJ (fun x hx=>by rw[DV.cu (aaj x (List.mem_of_mem_drop hx)),WM]) h6 ba bb bm (fun _ hh=>by cases hh) q1 (by simp only[Option.getD_none,hdl];omega) (by simp)
         rw[hfin g1]
         have hhi:ohi=none:=by
          rcases bb with⟨e,_⟩|⟨_,_,_,e⟩
          ·simpa using e
          ·cases e
         have aqI:omx=none:=by
          rcases bm with⟨e,_⟩|⟨_,_,_,e⟩
          ·simpa using e
          ·cases e
         subst hhi aqI
         simp only[Option.map_none,Option.isSome_none,Bool.false_or,Bool.not_false,Bool.and_true,Option.getD_none]at g2
         have ht:(((A.elems.drop skip).take ((A.elems.drop skip).length:Int).toNat).drop (a.getD 0).toNat)=A.elems.drop (skip+(a.getD 0).toNat):=by
          rw[Int.toNat_natCast,List.take_length,List.drop_drop]
         rw[ht]at g2
         obtain⟨av',c',hu⟩:=g2.lq
         subst hu
         refine .same hS hK (.tsl hlt fun B hB=> ?_)
         rw[hA1]at hB;cases hB
         exact⟨hle,fun _=>⟨none,h4,by omega,g2⟩⟩
      ·rename_i b'
       obtain⟨WM,q1,q2,q3,q4,hK⟩:=hQ
       have hdl:(A.elems.drop skip).length=A.elems.length - skip:=by simp
       have hd:datum M (.tsl k ver skip)=some (.slice false (A.elems.drop skip)):=by simp[datum,hrow]
       have hdd:=mF (ps:=[PV.tsl k ver skip]) hS hx hd (by simp)
       obtain⟨u,g1,g2⟩:=Jy (P:=C.P) hun jJ (fun x hx=>by rw[DV.cu (aaj x (List.mem_of_mem_drop hx)),WM]) hdd ba bb bm (fun m' hm'=>by rw[q4 m' hm']) q1 (by simpa using q2) (by simp only[Option.getD_some,hdl];omega)
       rw[hfin g1]
       refine⟨_,_,_,hK,pz hS _,nX _ w, .d ?_⟩
       simp only[isSome_map,h2,h3,Bool.false_and,Bool.or_false,Option.getD_some]at g2
       exact g2
     ·exact hQ.elim
   ·exact h.elim
  ·cases hu
 ·cases hu
end
end Go.Am
