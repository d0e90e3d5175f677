/-
  Part 3 of the proof of a law of desks: an abstract machine over the model, contracts of functions, plain laws.
  Conditions: none.
-/
import Derived.Test.YtbefoehadfnkbaaGreatDoorJourneymanParsesM02
set_option linter.all false
namespace Go.Am
mutual
def nS:DV→Value→Bool
 | .int k n, .int k' n'=>decide (k=k')&&decide (n=n')
 | .bool a, .bool b=>a==b
 | .str a, .string b=>decide (a.data.toList=b.data.toList)
 | .nilPtr, .pointer none=>true
 | .slice ex xs, .slice none 0 0=>ex&&xs.isEmpty
 | .agg ds, .agg vs=>jf ds vs.toList
 | .tup ds, .tuple vs=>jf ds vs.toList
 | .nilFunc, .nilFunc=>true
 | .nilIface, .nilIface=>true
 | .iface t d, .iface t' v=>decide (t=t')&&nS d v
 | .map none, .map none=>true
 | _,_=>false
def jf:List DV→List Value→Bool
 | [],[]=>true
 |d::ds,v::vs=>nS d v&&jf ds vs
 | _,_=>false
end
mutual
theorem ng {w:World}{O:Nat→Prop}:∀{d:DV} {v:Value},nS d v=true→bf w O v d
 | .int k n, .int k' n',h=>by simp[nS]at h;obtain⟨rfl,rfl⟩:=h;exact .int _ _
 | .bool a, .bool b,h=>by simp[nS]at h;subst h;exact .bool _
 | .str a, .string b,h=>by
  simp[nS]at h
  have:a=b:=ByteArray.ext h
  subst this;exact .str _
 | .nilPtr, .pointer none,_=> .nilPtr
 | .slice ex xs, .slice none 0 0,h=>by
  simp[nS]at h
  obtain⟨h1,rfl⟩:=h
  exact .empty (fun _=>rfl)
 | .agg ds, .agg vs,h=> .agg (iV h)
 | .tup ds, .tuple vs,h=> .tup (iV h)
 | .nilFunc, .nilFunc,_=> .nilFunc
 | .nilIface, .nilIface,_=> .nilIface
 | .iface t d, .iface t' v,h=>by
  simp[nS]at h
  obtain⟨rfl,h2⟩:=h
  exact .iface (ng h2)
 | .map none, .map none,_=> .ae4
theorem iV {w:World}{O:Nat→Prop}:∀{ds:List DV} {vs:List Value},jf ds vs=true→aQ w O vs ds
 | [],[],_=> .nil
 |d::ds,v::vs,h=>by
  simp only[jf,Bool.and_eq_true]at h
  exact .cons (ng h.1) (iV h.2)
end
def isScalar:Option TypeDesc→Bool
 |some .bool=>true
 |some (.int _)=>true
 |some .string=>true
 | _=>false
def qJ (d:Option TypeDesc)(k:Nat):Bool:=
 match d with
 |some .bool=>k==0
 |some (.int _)=>k==1
 |some .string=>k==2
 | _=>false
def dO (P:Program):List Field→List Nat→Nat→Bool
 | [],[],_=>true
 |f::fs,k::ks,off=>decide (f.offset=off)&&qJ (P.underlying f.type) k&&decide (f.name≠ "_")&&dO P fs ks (off+1)
 | _,_,_=>false
def zZ (P:Program)(t:TypeId)(agg:Bool)(n:Nat):Bool:=
 match P.underlying t,P.info? t with
 |some (.struct _),some i=>agg&&i.size==n&&decide (0<n)
 |some (.array _ _),some i=>agg&&i.size==n&&decide (0<n)
 |some _,_=> !agg&&n==1
 | _,_=>false
def placesOf (P:Program)(fs:Array Field)(ps:List (Nat×Operand)):Option (List (Nat×Nat)):=
 ps.mapM fun(i,_)=>(fs[i]?).bind fun f=>(P.info? f.type).map fun j=>(f.offset,j.size)
def acf (P:Program)(key:TypeId)(ks:List Nat):Bool:=
 match P.underlying key with
 |some (.struct fs)=> !ks.isEmpty&&(dO P fs.toList ks 0&& !P.stoodInHeld key)
 |some (.int _)=>ks.isEmpty
 | _=>false
def aI (P:Program):Op→POp→Bool
 | .move _, .mov=>true
 | .assign _, .mov=>true
 | .move _, .jV _=>true
 | .assign _, .jV _=>true
 | .pick _ _ _, .pick=>true
 | .alloc t, .alloc _ zs=>match P.info? t with
  |some i=>match i.zero with|some z=>jf zs z.cells.toList|none=>false
  |none=>false
 | .box _ _, .box _=>true
 | .build t parts, .build zs ps=>match P.info? t with
  |some i=>match i.zero with
   |some z=>jf zs z.cells.toList&&match P.underlying t with
    |some (.struct fs)=>(fs.all fun f=>(P.info? f.type).isSome)&&decide (placesOf P fs parts.toList=some ps)
    |some (.array _ e)=>match P.info? e with|some j=>decide (ps=parts.toList.map fun(i,_)=>(i*j.size,j.size))|none=>false
    | _=>false
   |none=>false
  |none=>false
 | .buildSlice t len parts, .iH sz zs is=>match P.underlying t with
  |some (.slice e)=>match P.info? e with
   |some i=>match i.zero with
    |some z=>decide (0<sz)&&i.size==sz&&z.cells.size==sz&&decide (len*sz≤2 ^ 24)&&zs.length==len&&(zs.all fun d=>jf d.cells z.cells.toList)&&decide (is=parts.toList.map (·.1))
    |none=>false
   |none=>false
  | _=>false
 | .load t _, .load agg n=>zZ P t agg n
 | .load t _, .Oi agg n=>zZ P t agg n
 | .store t _ _, .store n=>match P.info? t with|some i=>i.size==n|none=>false
 | .nilCheck _, .aW=>true
 | .binOp op t _ _ _, .bin op'=>decide (op=op')&&isScalar (P.underlying t)
 | .binOp op t _ _ _, .Qg neq ks=>(match op with| .eql=> !neq| .neq=>neq| _=>false)&&match P.underlying t with
  |some (.struct fs)=>dO P fs.toList ks 0&& !P.stoodInHeld t&& !P.eqGuardType P.depth t
  | _=>false
 | .binOp op t _ _ _, .abf neq=>(match op with| .eql=> !neq| .neq=>neq| _=>false)&&match P.underlying t with|some .bool=>true| _=>false
 | .binOp op t _ y _, .isNil neq=>(match op with| .eql=> !neq| .neq=>neq| _=>false)&&(match P.underlying t with|some (.slice _)=>true| _=>false)&&(match y with| .const (.slice none 0 0)=>true| _=>false)
 | .unOp op _ _, .un op'=>decide (op=op')
 | .convert s d _, .conv k=>(match P.underlying s with|some (.int _)=>true| _=>false)&&(match P.underlying d with|some (.int k')=>decide (k'=k)| _=>false)
 | .makeInterface t _, .mkI t'=>decide (t=t')&&match P.underlying t with|some (.interface _)=>false|some _=>true|none=>false
 | .makeFunc fn first _, .mkF fn' nf=>decide (fn=fn')&&first.size==nf
 | .slice t _ lo hi mx, .RV a b=>(match P.underlying t with|some .string=>true| _=>false)&&(lo.isSome==a)&&(hi.isSome==b)&&mx.isNone
 | .slice t _ lo hi mx, .RU sz a b c=>(match P.underlying t with|some (.slice e)=>(match P.info? e with|some i=>i.size==sz&&decide (0<sz)|none=>false)| _=>false)&&(lo.isSome==a)&&(hi.isSome==b)&&(mx.isSome==c)
 | .fieldAddr t _ f, .fld off=>match P.underlying t with
  |some (.struct fs)=>match fs[f]? with|some fd=>fd.offset==off&&(match P.info? fd.type with|some i=>decide (i.size≠0)|none=>false)|none=>false
  | _=>false
 | .field t _ f, .WH agg off n=>match P.underlying t with
  |some (.struct fs)=>match fs[f]? with|some fd=>fd.offset==off&&zZ P fd.type agg n|none=>false
  | _=>false
 | .indexAddr t _ _, .bC sz=>match P.underlying t with
  |some (.slice e)=>(match P.info? e with|some i=>i.size==sz&&decide (0<sz)|none=>false)
  | _=>false
 | .index t _ _, .abW=>match P.underlying t with|some .string=>true| _=>false
 | .index t _ _, .WQ agg sz len=>match P.underlying t with
  |some (.array n e)=>n==len&&(match P.info? e with|some i=>i.size==sz|none=>false)&&zZ P e agg sz
  | _=>false
 | .extract _ i, .ext j=>i==j
 | .call {callee:= .value (.func f), .. }, .call f'=>f==f'&&callable P f
 | .call {callee:= .value (.func f), .. }, .Qh f'=>f==f'&&callable P f
 | .call {callee:= .value (.func f), .. }, .Ap f'=>f==f'&&callable P f
 | .call {callee:= .value (.func f), .. }, .iZ f'=>f==f'&&callable P f
 | .call {callee:= .value (.func f), .. }, .ak f'=>f==f'&&callable P f
 | .call {callee:= .value (.tmp _), .. }, .je=>true
 | .call {callee:= .builtin .append,argTypes, .. }, .app sz _=>argTypes.size==2&&match P.underlying (argTypes.getD 0 0),P.underlying (argTypes.getD 1 0)with
  |some (.slice e),some d=>(match d with| .int _=>false| _=>true)&&(match P.info? e with
   |some i=>match i.zero with|some z=>i.size==sz&&decide (0<sz)&&decide (i.bytes≤1024)&&z.cells.size==sz|none=>false
   |none=>false)
  | _,_=>false
 | .call {callee:= .builtin .append,argTypes, .. }, .agz sz=>argTypes.size==2&&match P.underlying (argTypes.getD 0 0),P.underlying (argTypes.getD 1 0)with
  |some (.slice e),some d=>(match d with| .int _=>false| _=>true)&&(match P.info? e with
   |some i=>match i.zero with|some z=>i.size==sz&&decide (0<sz)&&decide (i.bytes≤1024)&&z.cells.size==sz|none=>false
   |none=>false)
  | _,_=>false
 | .call {callee:= .builtin .len,argTypes, .. }, .len=>argTypes.size==1&&match P.underlying (argTypes.getD 0 0)with|some (.slice _)=>true| _=>false
 | .call {callee:= .builtin .len,argTypes, .. }, .Kq=>argTypes.size==1&&match P.underlying (argTypes.getD 0 0)with|some .string=>true| _=>false
 | .call {callee:= .builtin .len,argTypes,args}, .ach n=>argTypes.size==1&&args.size==1&&match P.underlying (argTypes.getD 0 0)with|some (.array m _)=>m==n| _=>false
 | .call {callee:= .builtin .max, .. }, .La mx=>mx
 | .call {callee:= .builtin .min, .. }, .La mx=> !mx
 | .panic _, .panic=>true
 | .lookup t _ _ c, .Xb ks z=> !c&&match P.underlying t with
  |some (.map key e)=>(match P.underlying key with|some (.struct fs)=>dO P fs.toList ks 0&& !P.stoodInHeld key| _=>false)&&(match P.info? e with|some i=>(match i.zero with|some z'=>nS z z'|none=>false)|none=>false)
  | _=>false
 | .makeSlice t _ _, .mkRow sz z=>match P.underlying t with
  |some (.slice e)=>(match P.info? e with
   |some i=>(match i.zero with|some z'=>i.size==sz&&decide (0<sz)&&decide (i.bytes≤1024)&&decide (sz≤16)&&z'.cells.size==sz&&jf z.cells z'.cells.toList|none=>false)
   |none=>false)
  | _=>false
 | .convert s d _, .s2b=>(match P.underlying d with|some (.slice e)=>(match P.underlying e with|some (.int k)=>decide (k= .u8)| _=>false)| _=>false)&&(match P.underlying s with|some .string=>true| _=>false)
 | .convert s d _, .b2s=>(match P.underlying s with|some (.slice e)=>(match P.underlying e with|some (.int k)=>decide (k= .u8)| _=>false)| _=>false)&&(match P.underlying d with|some .string=>true| _=>false)
 | .typeAssert _ _ t c, .tas t' z=>decide (t=t')&&c&&(match P.underlying t with|some (.interface _)=>false|some _=>true|none=>false)&&(match P.info? t with|some i=>(match i.zero with|some z'=>nS z z'|none=>false)|none=>false)
 | .slice t _ lo hi mx, .adp sz=>(match P.underlying t with|some (.slice e)=>(match P.info? e with|some i=>i.size==sz&&decide (0<sz)|none=>false)| _=>false)&&(lo.isSome==true)&&(hi.isSome==false)&&(mx.isSome==false)
 | .slice t _ lo hi mx, .adq sz=>(match P.underlying t with|some (.slice e)=>(match P.info? e with|some i=>i.size==sz&&decide (0<sz)|none=>false)| _=>false)&&(lo.isSome==false)&&(hi.isSome==true)&&(mx.isSome==false)
 | .call {callee:= .builtin .copy,argTypes, .. }, .copy sz=>argTypes.size==2&&match P.underlying (argTypes.getD 0 0),P.underlying (argTypes.getD 1 0)with
  |some (.slice e),some (.slice _)=>(match P.info? e with|some i=>i.size==sz&&decide (0<sz)|none=>false)
  | _,_=>false
 | .call {callee:= .builtin .clear,argTypes, .. }, .clr sz z=>argTypes.size==1&&match P.underlying (argTypes.getD 0 0)with
  |some (.slice e)=>(match P.info? e with|some i=>(match i.zero with|some z'=>i.size==sz&&decide (0<sz)&&z'.cells.size==sz&&jf z.cells z'.cells.toList|none=>false)|none=>false)
  | _=>false
 | .binOp op t _ y _, .IX neq=>(match op with| .eql=> !neq| .neq=>neq| _=>false)&&(match P.underlying t with|some (.interface _)=>true| _=>false)&&(match y with| .const .nilIface=>true| _=>false)
 | .range t _, .rngS _=>match P.underlying t with|some .string=>true| _=>false
 | .next _ c, .acw=>c
 | .call {callee:= .invoke _ name, .. }, .inv name'=>decide (name=name')
 | .binOp op t _ _ _, .shf op'=>decide (op=op')&&(match op with| .shl=>true| .shr=>true| _=>false)&&match P.underlying t with|some (.int _)=>true| _=>false
 | .makeMap _ none, .mkMap _=>true
 | .mapUpdate t _ _ _, .ae3 ks=>match P.underlying t with
  |some (.map key _)=>(match P.underlying key with|some (.struct fs)=>dO P fs.toList ks 0&& !P.stoodInHeld key| _=>false)
  | _=>false
 | .binOp op t _ y _, .Ba neq=>(match op with| .eql=> !neq| .neq=>neq| _=>false)&&(match P.underlying t with|some (.pointer _)=>true| _=>false)&&(match y with| .const (.pointer none)=>true| _=>false)
 | .indexAddr t _ _, .Oe sz len=>match P.underlying t with
  |some (.array n e)=>n==len&&(match P.info? e with|some i=>i.size==sz&&decide (0<sz)|none=>false)
  | _=>false
 | .slice t _ lo hi mx, .YL _ sz len=>(match P.underlying t with|some (.array n e)=>n==len&&(match P.info? e with|some i=>i.size==sz&&decide (0<sz)|none=>false)| _=>false)&&lo.isNone&&hi.isNone&&mx.isNone
 | .lookup t _ _ c, .NM ok ks z=>c==ok&&match P.underlying t with
  |some (.map key e)=>acf P key ks&&(match P.info? e with|some i=>(match i.zero with|some z'=>nS z z'|none=>false)|none=>false)
  | _=>false
 | .mapUpdate t _ _ _, .ae2 ks=>match P.underlying t with
  |some (.map key _)=>acf P key ks
  | _=>false
 | .call {callee:= .builtin .delete,argTypes, .. }, .ae0 ks=>argTypes.size==2&&match P.underlying (argTypes.getD 0 0)with
  |some (.map key _)=>acf P key ks
  | _=>false
 | .buildSlice t len parts, .qc sz zs is=>match P.underlying t with
  |some (.slice e)=>match P.info? e with
   |some i=>match i.zero with
    |some z=>decide (0<sz)&&i.size==sz&&z.cells.size==sz&&decide (len*sz≤2 ^ 24)&&zs.length==len&&(zs.all fun d=>jf d.cells z.cells.toList)&&decide (is=parts.toList.map (·.1))
    |none=>false
   |none=>false
  | _=>false
 | _,_=>false
def opsOf:Op→List Operand
 | .move x| .assign x| .box _ x| .load _ x| .nilCheck x| .unOp _ _ x| .convert _ _ x| .makeInterface _ x| .fieldAddr _ x _| .field _ x _| .extract x _| .panic x=>[x]
 | .pick c a b=>[c,a,b]
 | .build _ ps| .buildSlice _ _ ps=>ps.toList.map (·.2)
 | .store _ a v| .binOp _ _ a v _| .indexAddr _ a v| .index _ a v| .lookup _ a v _=>[a,v]
 | .typeAssert x _ _ _=>[x]
 | .makeSlice _ l c=>[l,c]
 | .mapUpdate _ m k v=>[m,k,v]
 | .range _ x=>[x]
 | .next it _=>[it]
 | .call {callee:= .invoke r _,args, .. }=>r::args.toList
 | .makeFunc _ first captured=>first.toList++captured.toList
 | .slice _ x lo hi mx=>x::lo.toList++hi.toList++mx.toList
 | .call {callee:= .value (.func _),args, .. }=>args.toList
 | .call {callee:= .value f,args, .. }=>f::args.toList
 | .call {args, .. }=>args.toList
 | _=>[]
def dZ (C:Ctx)(X:Nat→Prop)(w:World)(M:Mem)(E:Emb)(K:PV→Mem→Prop)(KP:DV→Mem→Prop):Result Next→Prop
 | .ok (.value v) w'=>∃pv M' E',K pv M'∧Sim C X w' M' E'∧From w M E w' M' E'∧Rep w' (away X M' E') M' E' v pv
 | .ok .skip w'=>∃M' E',K .dead M'∧Sim C X w' M' E'∧From w M E w' M' E'
 | .ok (.enter f args) w'=>w'=w∧∃ps,SC C f ps M K KP∧aK w (away X M E) M E args.toList ps
 | .ok (.round l f tmps as body) w'=>w'=w∧RoundIn Fence.wide 0 C.P l f tmps as body w fun e w'=>Fin C X w M E K KP w' e
 | .halt (.panic v) w'=>∃d M' E',KP d M'∧Sim C X w' M' E'∧From w M E w' M' E'∧bf w' (away X M' E') v d
 | _=>False
section
variable {C:Ctx}{X:Nat→Prop}{w:World}{M:Mem}{E:Emb}{K:PV→Mem→Prop}{KP:DV→Mem→Prop}
theorem dZ.same {v:Value}{pv:PV}(hS:Sim C X w M E)(hK:K pv M)(hr:Rep w (away X M E) M E v pv):dZ C X w M E K KP (.ok (.value v) w):=
 ⟨pv,M,E,hK,hS, .refl w M E,hr⟩
theorem bf.pO {O:Nat→Prop}{v:Value}{b:Bool}(h:bf w O v (.bool b)):v= .bool b:=by cases h;rfl
theorem bf.fA {O:Nat→Prop}{v:Value}{k:IntKind}{n:Int}(h:bf w O v (.int k n)):v= .int k n:=by cases h;rfl
theorem bf.uT {O:Nat→Prop}{v:Value}{s:ByteArray}(h:bf w O v (.str s)):v= .string s:=by cases h;rfl
theorem bf.lq {O:Nat→Prop}{v:Value}{ex:Bool}{xs:List DV}(h:bf w O v (.slice ex xs)):∃a cap,v= .slice a xs.length cap:=by
 cases h with
 |empty hx=>exact⟨_,_,rfl⟩
 |slice hb ho hl hs hc hx hh=>subst hl;exact⟨_,_,rfl⟩
theorem bf.zH {O:Nat→Prop}{v:Value}{cs:List DV}(h:bf w O v (.agg cs)):∃vs,v= .agg vs∧aQ w O vs.toList cs:=by
 cases h with|agg hh=>exact⟨_,rfl,hh⟩
theorem eG {vs:List Value}{p:PV}(h:aK w (away X M E) M E vs [p]):∃v,vs=[v]∧Rep w (away X M E) M E v p:=by
 cases h with|cons h t=>cases t;exact⟨_,rfl,h⟩
theorem dJ {vs:List Value}{p q:PV}(h:aK w (away X M E) M E vs [p,q]):∃v u,vs=[v,u]∧Rep w (away X M E) M E v p∧Rep w (away X M E) M E u q:=by
 cases h with|cons h t=>obtain⟨u,rfl,h2⟩:=eG t;exact⟨_,_,rfl,h,h2⟩
theorem PX {vs:List Value}{p q r:PV}(h:aK w (away X M E) M E vs [p,q,r]):∃v u t,vs=[v,u,t]∧Rep w (away X M E) M E v p∧Rep w (away X M E) M E u q∧Rep w (away X M E) M E t r:=by
 cases h with|cons h t=>obtain⟨u,t,rfl,h2,h3⟩:=dJ t;exact⟨_,_,_,rfl,h,h2,h3⟩
theorem agU {ρ:Operand→Value}{o:Oper}{c a b:Operand}(ho:o.op= .pick c a b){args:List PV}(hS:Sim C X w M E)(hA:aK w (away X M E) M E ((opsOf o.op).map ρ) args){base:Nat}
  (h:aj C base .pick args M K KP):dZ C X w M E K KP ((execOp ρ o).run C.P w):=by
 simp only[ho,opsOf,List.map_cons,List.map_nil]at hA
 simp only[aj]at h
 split at h
 ·rename_i t p q
  obtain⟨v,u,x,he,h1,h2,h3⟩:=PX hA
  simp only[List.cons.injEq,and_true]at he
  obtain⟨rfl,rfl,rfl⟩:=he
  have hc:=h1.toD.pO
  simp only[execOp,ho,hc,asBool,pure_bind,Sem.run_pure]
  cases t
  ·exact .same hS h h3
  ·exact .same hS h h2
 ·exact h.elim
theorem abo {ρ:Operand→Value}{o:Oper}{x:Operand}(ho:o.op= .move x∨o.op= .assign x){args:List PV}(hS:Sim C X w M E)(hA:aK w (away X M E) M E ((opsOf o.op).map ρ) args){base:Nat}
  (h:aj C base .mov args M K KP):dZ C X w M E K KP ((execOp ρ o).run C.P w):=by
 simp only[aj]at h
 split at h
 ·rename_i p
  rcases ho with ho|ho<;>
  ·simp only[ho,opsOf,List.map_cons,List.map_nil]at hA
   obtain⟨v,he,h1⟩:=eG hA
   simp only[List.cons.injEq,and_true]at he
   subst he
   simp only[execOp,ho,Sem.run_pure]
   exact .same hS h h1
 ·exact h.elim
theorem YR {ρ:Operand→Value}{o:Oper}{x:Operand}{sz:Nat}(ho:o.op= .move x∨o.op= .assign x){args:List PV}(hS:Sim C X w M E)(hA:aK w (away X M E) M E ((opsOf o.op).map ρ) args){base:Nat}
  (h:aj C base (.jV sz) args M K KP):dZ C X w M E K KP ((execOp ρ o).run C.P w):=by
 have key:∃p,args=[p]∧Rep w (away X M E) M E (ρ x) p∧(execOp ρ o).run C.P w= .ok (.value (ρ x)) w:=by
  rcases ho with ho|ho<;>
  ·simp only[ho,opsOf,List.map_cons,List.map_nil]at hA
   cases hA with|cons h1 t=>cases t;exact⟨_,rfl,h1,by simp only[execOp,ho,Sem.run_pure]⟩
 obtain⟨p,rfl,hr,hrun⟩:=key
 rw[hrun]
 simp only[aj]at h
 split at h
 ·rename_i hp
  simp only[List.cons.injEq,and_true]at hp
  subst hp
  obtain⟨rfl,hsz,hfit,hK⟩:=h
  rename_i xs
  obtain⟨s1,s2⟩:=zC (A:=⟨sz,xs,0,0⟩) (loc:=none) hS (Later.refl w) hsz hfit (fun hh=>by cases hh) (fun _ _ _ hh=>by cases hh)
  have hr':=hr.toD.from s2
  refine⟨_,_,_,hK,s1,s2,?_⟩
  obtain⟨a,cap,hv⟩:=hr.toD.lq
  rw[hv]at hr'⊢
  refine .tsl (by simp) fun A hA'=> ?_
  have hAe:A=⟨sz,xs,0,0⟩:=by
   simp at hA'
   exact hA'.symm
  subst hAe
  refine⟨Nat.le_refl _,fun _=>⟨none,by simp[←hS.aY],Nat.zero_le _,by simpa using hr'⟩⟩
 ·rename_i hp
  simp only[List.cons.injEq,and_true]at hp
  subst hp
  exact .same hS h hr
 ·exact h.elim
end
section
variable {C:Ctx}{X:Nat→Prop}{w:World}{M:Mem}{E:Emb}{K:PV→Mem→Prop}{KP:DV→Mem→Prop}{O:Nat→Prop}
theorem Rep.G5 {vs:List Value}{ps:List PV}(h:aK w O M E vs ps):Rep w O M E (.agg vs.toArray) (G5 ps):=by
 unfold Am.G5
 split
 ·rename_i ds hd;exact .d (.agg (by simpa using h.jd hd))
 ·exact .agg (by simpa using h)
theorem adU {ρ:Operand→Value}{o:Oper}{t:TypeId}{i:Nat}{zs:List DV}(ho:o.op= .alloc t){args:List PV}(hS:Sim C X w M E)(hok:aI C.P (.alloc t) (.alloc i zs)=true){base:Nat}
  (h:aj C base (.alloc i zs) args M K KP):dZ C X w M E K KP ((execOp ρ o).run C.P w):=by
 simp only[aj]at h
 split at h
 ·obtain⟨h1,hK⟩:=h
  simp only[aI]at hok
  split at hok
  ·rename_i inf jJ
   split at hok
   ·rename_i z hz
    obtain⟨a1,a2,a3⟩:=ZG (T:=t) (vs:=z.cells) hS h1 (aK.ofD (iV hok))
    have hrun:(execOp ρ o).run C.P w= .ok (.value (.pointer (some ⟨w.heap.size,0,none⟩))) (w.alloc (.cells z.cells t)):=by
     simp[execOp,ho,Instr.alloc,zeroValue,typeInfo,jJ,hz,newVar,newRow]
    rw[hrun]
    exact⟨_,_,_,hK,a1,a2,a3⟩
   ·cases hok
  ·cases hok
 ·exact h.elim
theorem bf.anD {v:Value}{x:DV}(h:bf w O v x):aQ w O v.cells.toList x.cells:=by
 have:=(Rep.d (M:=bH) (E:=⟨[],[]⟩) h).cells (by simp)
 cases x with
 |agg cs=>exact this.toL
 | _=>exact aK.toL (ds:=[_]) this
theorem PV.acr {p:PV}(h:p.wS=false):p≠ .dead:=by rintro rfl;cases h
theorem aiI {ρ:Operand→Value}{o:Oper}{t:TypeId}{x:Operand}{i:Nat}(ho:o.op= .box t x){args:List PV}(hS:Sim C X w M E)(hA:aK w (away X M E) M E ((opsOf o.op).map ρ) args){base:Nat}
  (h:aj C base (.box i) args M K KP):dZ C X w M E K KP ((execOp ρ o).run C.P w):=by
 simp only[aj]at h
 split at h
 ·rename_i p
  obtain⟨h0,h1,hK⟩:=h
  simp only[ho,opsOf,List.map_cons,List.map_nil]at hA
  obtain⟨v,he,hr⟩:=eG hA
  simp only[List.cons.injEq,and_true]at he
  obtain⟨a1,a2,a3⟩:=ZG (T:=t) hS h1 (hr.cells (PV.acr h0))
  have hrun:(execOp ρ o).run C.P w= .ok (.value (.pointer (some ⟨w.heap.size,0,none⟩))) (w.alloc (.cells v.cells t)):=by
   simp[execOp,ho,Instr.box,newVar,newRow,he]
  rw[hrun]
  exact⟨_,_,_,hK,a1,a2,a3⟩
 ·exact h.elim
theorem foldl_set (off:Nat):∀(us:List Value) (k:Nat) (cs:Array Value),off+k+us.length≤cs.size→
  ((us.zipIdx k).foldl (fun cs (c,j)=>cs.setIfInBounds (off+j) c) cs).toList=splice cs.toList (off+k) us
 | [],k,cs,_=>by simp[splice]
 |u::us,k,cs,h=>by
  simp only[List.zipIdx_cons,List.foldl_cons]
  rw[foldl_set off us (k+1) _ (by simp at h⊢;omega)]
  simp only[splice,Array.toList_setIfInBounds,List.length_cons]
  have hlt:off+k<cs.toList.length:=by simp at h⊢;omega
  rw[←Nat.add_assoc off k 1,List.take_succ_eq_append_getElem (by simpa using hlt),List.take_set_of_le (Nat.le_refl _),List.drop_set]
  simp only[List.getElem_set_self]
  rw[if_pos (by omega)]
  simp only[List.append_assoc,List.singleton_append]
  congr 3
  omega
theorem Y3 (off n:Nat)(v:Value)(cs:Array Value)(hn:v.cells.size=n)(h:off+n≤cs.size):
  (v.cells.zipIdx.foldl (fun cs (c,j)=>cs.setIfInBounds (off+j) c) cs).toList=splice cs.toList off v.cells.toList:=by
 have:=foldl_set off v.cells.toList 0 cs (by simp;omega)
 rw[←Array.foldl_toList,Array.toList_zipIdx]
 simpa using this
theorem WA {place:Nat→Option (Nat×Nat)}:∀{parts:List (Nat×Value)} {ps:List (Nat×Nat)} {args cs cs':List PV} {vs:Array Value},
  (parts.map fun x=>place x.1)=ps.map some→aK w O M E (parts.map (·.2)) args→aK w O M E vs.toList cs→nV cs ps args=some cs'→
  ∃vs',Instr.fill place vs parts=some vs'∧aK w O M E vs'.toList cs'
 | [],[],[],cs,cs',vs,_,_,hc,hf=>by simp only[nV,Option.some.injEq]at hf;subst hf;exact⟨vs,rfl,hc⟩
 |(i,v)::parts,(off,n)::ps,a::args,cs,cs',vs,hp,hA,hc,hf=>by
  simp only[List.map_cons,List.cons.injEq]at hp
  obtain⟨hp1,hp2⟩:=hp
  cases hA with
  |cons h1 h2=>
   simp only[nV]at hf
   split at hf
   ·rename_i hcond
    obtain⟨e0,e1,e2⟩:=hcond
    have hcells:=h1.cells (PV.acr e0)
    have hlen:=hcells.length
    have ajv:=hc.length
    have hvn:v.cells.size=n:=by simp at hlen;omega
    have hbound:off+n≤vs.size:=by simp at ajv;omega
    have hst:=Y3 off n v vs hvn hbound
    obtain⟨vs',g1,g2⟩:=WA (vs:=v.cells.zipIdx.foldl (fun cs (c,j)=>cs.setIfInBounds (off+j) c) vs) hp2 h2 (by rw[hst];exact hc.splice hcells off) hf
    refine⟨vs',?_,g2⟩
    simp only[Instr.fill,hp1]
    rw[if_neg (by simp[hvn];omega)]
    exact g1
   ·cases hf
theorem run_sizeOf {P:Program}{t:TypeId}{j:TypeInfo}(h:P.info? t=some j):(sizeOf t).run P w= .ok j.size w:=by simp[sizeOf,typeInfo,h]
theorem aeZ {fs:Array Field}(h:(fs.all fun f=>(C.P.info? f.type).isSome)=true):
  (fs.mapM fun f=>Functor.map (Prod.mk f.offset) (sizeOf f.type):Sem (Array (Nat×Nat))).run C.P w= .ok (fs.map fun f=>(f.offset,((C.P.info? f.type).map (·.size)).getD 0)) w:=by
 have key:∀(l:List Field),(∀f∈l,(C.P.info? f.type).isSome=true)→
   (l.mapM fun f=>Functor.map (Prod.mk f.offset) (sizeOf f.type):Sem (List (Nat×Nat))).run C.P w= .ok (l.map fun f=>(f.offset,((C.P.info? f.type).map (·.size)).getD 0)) w:=by
  intro l
  induction l with
  |nil=>intro _;simp
  |cons f l ih=>
   intro hl
   obtain⟨j,hj⟩:=Option.isSome_iff_exists.1 (hl f (by simp))
   have:=ih fun g hg=>hl g (by simp[hg])
   simp only[List.mapM_cons,Sem.run_bind,Sem.run_map,run_sizeOf hj,Result.andThen_ok,this,Sem.run_pure,List.map_cons,hj,Option.map_some,Option.getD_some]
 have hl:∀f∈fs.toList,(C.P.info? f.type).isSome=true:=by
  intro f hf
  simp only[Array.all_eq_true]at h
  obtain⟨i,hi,rfl⟩:=List.getElem_of_mem hf
  simpa using h i (by simpa using hi)
 rw[Array.mapM_eq_mapM_toList]
 simp only[Sem.run_map,key fs.toList hl,Result.andThen_ok]
 congr 1
 apply Array.ext'
 simp
theorem UY {fs:Array Field}:∀{parts:List (Nat×Operand)} {ps:List (Nat×Nat)} (ρ:Operand→Value),placesOf C.P fs parts=some ps→
  ((parts.map fun x=>(x.1,ρ x.2)).map fun x=>(fs.map fun f=>(f.offset,((C.P.info? f.type).map (·.size)).getD 0))[x.1]?)=ps.map some
 | [],ps,ρ,h=>by simp[placesOf]at h;subst h;rfl
 |(i,x)::parts,ps,ρ,h=>by
  simp only[placesOf,List.mapM_cons,Option.bind_eq_bind,Option.bind_eq_some_iff,Option.map_eq_some_iff,Option.pure_def,Option.some.injEq]at h
  obtain⟨q,⟨f,hf,j,hj,rfl⟩,qs,hqs,rfl⟩:=h
  simp only[List.map_cons,List.cons.injEq]
  refine⟨by simp[hf,hj],UY ρ (by simpa[placesOf]using hqs)⟩
theorem adV {ρ:Operand→Value}{o:Oper}{t:TypeId}{parts:Array (Nat×Operand)}{zs:List DV}{ps:List (Nat×Nat)}(ho:o.op= .build t parts){args:List PV}(hS:Sim C X w M E)
  (hA:aK w (away X M E) M E ((opsOf o.op).map ρ) args)(hok:aI C.P (.build t parts) (.build zs ps)=true){base:Nat}
  (h:aj C base (.build zs ps) args M K KP):dZ C X w M E K KP ((execOp ρ o).run C.P w):=by
 simp only[aj]at h
 split at h
 ·rename_i cs hcs
  simp only[aI]at hok
  split at hok
  ·rename_i inf jJ
   split at hok
   ·rename_i z hz
    simp only[Bool.and_eq_true]at hok
    obtain⟨hz1,hok⟩:=hok
    simp only[ho,opsOf]at hA
    have hA':aK w (away X M E) M E (((parts.toList.map fun x=>(x.1,ρ x.2))).map (·.2)) args:=by simpa[List.map_map,Function.comp_def]using hA
    split at hok
    ·rename_i fs hfs
     simp only[Bool.and_eq_true,decide_eq_true_eq]at hok
     obtain⟨hall,hps⟩:=hok
     obtain⟨vs',g1,g2⟩:=WA (vs:=z.cells) (UY ρ hps) hA' (aK.ofD (iV hz1)) hcs
     have hrun:(execOp ρ o).run C.P w= .ok (.value (.agg vs')) w:=by
      have hm:=aeZ (w:=w) hall
      simp only[execOp,ho,Instr.build,zeroValue,typeInfo,Sem.run_bind,run_program,Result.andThen_ok,jJ,Sem.run_pure,hz,run_underlying hfs,bind_pure_comp,Sem.run_map,hm]
      rw[show(Array.map (fun x=>(x.1,ρ x.2)) parts).toList=parts.toList.map (fun x=>(x.1,ρ x.2)) by simp,g1]
      simp
     rw[hrun]
     exact .same hS h (by simpa using Rep.G5 g2)
    ·rename_i n e hfs
     split at hok
     ·rename_i j hj
      simp only[decide_eq_true_eq]at hok
      obtain⟨vs',g1,g2⟩:=WA (place:=fun i=>some (i*j.size,j.size)) (parts:=parts.toList.map fun x=>(x.1,ρ x.2)) (ps:=ps) (vs:=z.cells) (by subst hok;simp[Function.comp_def]) hA' (aK.ofD (iV hz1)) hcs
      have hrun:(execOp ρ o).run C.P w= .ok (.value (.agg vs')) w:=by
       simp only[execOp,ho,Instr.build,zeroValue,typeInfo,Sem.run_bind,run_program,Result.andThen_ok,jJ,Sem.run_pure,hz,run_underlying hfs,bind_pure_comp,Sem.run_map,run_sizeOf hj]
       rw[show(Array.map (fun x=>(x.1,ρ x.2)) parts).toList=parts.toList.map (fun x=>(x.1,ρ x.2)) by simp,g1]
       simp
      rw[hrun]
      exact .same hS h (by simpa using Rep.G5 g2)
     ·cases hok
    ·cases hok
   ·cases hok
  ·cases hok
 ·exact h.elim
theorem SG {sz:Nat}{O:Nat→Prop}:∀{parts:List (Nat×Value)} {is:List Nat} {ds xs xs':List DV} {vs:Array Value},
  parts.map (·.1)=is→aQ w O (parts.map (·.2)) ds→aQ w O vs.toList (flat xs)→(∀x∈xs,x.cells.length=sz)→zU sz xs is ds=some xs'→
  ∃vs',Instr.fill (fun i=>some (i*sz,sz)) vs parts=some vs'∧aQ w O vs'.toList (flat xs')∧(∀x∈xs',x.cells.length=sz)∧xs'.length=xs.length
 | [],[],[],xs,xs',vs,_,_,hc,hx,hf=>by simp only[zU,Option.some.injEq]at hf;subst hf;exact⟨vs,rfl,hc,hx,rfl⟩
 |(i,v)::parts,i'::is,a::ds,xs,xs',vs,hp,hA,hc,hx,hf=>by
  simp only[List.map_cons,List.cons.injEq]at hp
  obtain⟨rfl,hp2⟩:=hp
  cases hA with
  |cons h1 h2=>
   simp only[zU]at hf
   split at hf
   ·rename_i hcond
    obtain⟨e1,e2⟩:=hcond
    have hcells:aQ w O v.cells.toList a.cells:=bf.anD h1
    have hlen:=hcells.length
    have ajv:=hc.length
    have hvn:v.cells.size=sz:=by simp at hlen;omega
    have hfl:(flat xs).length=xs.length*sz:=flat_length hx
    have hin:i*sz+sz≤xs.length*sz:=by rw[←Nat.succ_mul];exact Nat.mul_le_mul_right _ e2
    have hbound:i*sz+sz≤vs.size:=by simp at ajv;omega
    have hst:=Y3 (i*sz) sz v vs hvn hbound
    have hset:flat (xs.set i a)=splice (flat xs) (i*sz+0) a.cells:=WG hx e2 e1 (by
     simp only[splice,List.take_zero,List.nil_append,Nat.zero_add]
     rw[List.drop_eq_nil_of_le (by rw[hx _ (List.getElem_mem e2)];omega),List.append_nil]) (by omega)
    obtain⟨vs',g1,g2,g3,g4⟩:=SG (vs:=v.cells.zipIdx.foldl (fun cs (c,j)=>cs.setIfInBounds (i*sz+j) c) vs) hp2 h2
     (by rw[hst,hset];exact hc.splice hcells _) (fun x hx'=>(List.mem_or_eq_of_mem_set hx').elim (hx x) (fun e=>e▸e1)) hf
    refine⟨vs',?_,g2,g3,by simpa using g4⟩
    simp only[Instr.fill]
    rw[if_neg (by simp[hvn];omega)]
    exact g1
   ·cases hf
theorem Ir {w:World}{O:Nat→Prop}{z:Array Value}{sz:Nat}(hz:z.size=sz)(hsz:0<sz):∀{zs:List DV},(zs.all fun d=>jf d.cells z.toList)=true→
  aQ w O ((Array.range (zs.length*sz)).map (z[· % sz]!)).toList (flat zs)
 | [],_=>by simpa[flat]using .nil
 |d::zs,h=>by
  simp only[List.all_cons,Bool.and_eq_true]at h
  rw[mJ]
  have e:((Array.range ((d::zs).length*sz)).map (z[· % sz]!)).toList=z.toList++((Array.range (zs.length*sz)).map (z[· % sz]!)).toList:=by
   apply List.ext_getElem
   ·simp[hz];rw[Nat.add_mul];omega
   ·intro i h1 h2
    simp only[Array.toList_map,Array.toList_range,List.getElem_map,List.getElem_range,List.getElem_append,Array.length_toList]
    split
    ·rename_i hi
     rw[Nat.mod_eq_of_lt (by omega)]
     simp[getElem!_pos z i hi]
    ·rename_i hi
     have:(i - z.size) % sz=i % sz:=by rw[hz,←Nat.mod_eq_sub_mod (by omega)]
     rw[this]
  rw[e]
  exact(iV h.1).append (Ir hz hsz h.2)
theorem agQ {ρ:Operand→Value}{o:Oper}{t:TypeId}{len sz:Nat}{parts:Array (Nat×Operand)}{zs:List DV}{is:List Nat}(ho:o.op= .buildSlice t len parts){args:List PV}(hS:Sim C X w M E)
  (hA:aK w (away X M E) M E ((opsOf o.op).map ρ) args)(hok:aI C.P (.buildSlice t len parts) (.iH sz zs is)=true){base:Nat}
  (h:aj C base (.iH sz zs is) args M K KP):dZ C X w M E K KP ((execOp ρ o).run C.P w):=by
 simp only[aj]at h
 split at h
 ·rename_i ds hds
  split at h
  ·rename_i xs hxs
   simp only[aI]at hok
   split at hok
   ·rename_i e he
    split at hok
    ·rename_i inf jJ
     split at hok
     ·rename_i z hz
      simp only[Bool.and_eq_true,decide_eq_true_eq,beq_iff_eq]at hok
      obtain⟨⟨⟨⟨⟨⟨hsz,hs⟩,hzs⟩,hlim⟩,hzl⟩,WO⟩,his⟩:=hok
      simp only[ho,opsOf]at hA
      have hA':=(yZ hS hA hds (fun q hq=>hq)).strip
      have hA2:aQ w (away X (M.frz args) E) ((parts.toList.map fun x=>(x.1,ρ x.2)).map (·.2)) (ds.map DV.strip):=by simpa[List.map_map,Function.comp_def]using hA'
      have hzx:∀x∈zs,x.cells.length=sz:=by
       intro x hx
       simp only[List.all_eq_true]at WO
       have:=(iV (w:=w) (O:=fun _=>False) (WO x hx)).length
       simp at this;omega
      obtain⟨vs',g1,g2,g3,g4⟩:=SG (vs:=(Array.range (zs.length*sz)).map (z.cells[· % sz]!)) (by subst his;simp[Function.comp_def]) hA2 (Ir hzs hsz WO) hzx hxs
      have hne:¬(len*sz>2 ^ 24):=by omega
      have hrun:(execOp ρ o).run C.P w= .ok (.value (.slice (some ⟨w.heap.size,0,none⟩) len len)) (w.alloc (.cells vs' e)):=by
       simp only[execOp,ho,Instr.buildSlice,Sem.run_bind,run_underlying he,Result.andThen_ok,run_sizeOf jJ,hs,hne,if_false,bind_pure_comp,Sem.run_map,Sem.run_ite,Sem.run_pure]
       have hzv:(zeroValue e).run C.P w= .ok z w:=by simp[zeroValue,typeInfo,jJ,hz]
       have hpl:(Array.map (fun x=>(x.1,ρ x.2)) parts).toList=parts.toList.map (fun x=>(x.1,ρ x.2)):=by simp
       rw[hzl]at g1
       by_cases h0:len*sz=0
       ·have ez:∀(f:Nat→Value),Array.map f (Array.range (len*sz))= #[]:=by intro f;rw[h0];simp
        rw[ez]at g1
        rw[h0]at ez
        simp only[h0,if_true,hpl,ez,g1]
        simp only[newRow,Sem.run_map,run_newObj_alloc,bind_pure_comp,Result.andThen_ok]
       ·simp only[h0,if_false,hzv,Result.andThen_ok,hzs,hpl,g1,newRow,Sem.run_map,run_newObj_alloc,bind_pure_comp]
      rw[hrun]
      have hl:=Later.alloc w (.cells vs' e)
      have s1:=(pz hS args).later hl
      have s2:=(nX args w (M:=M) (E:=E)).trans (hl.from (M.frz args) E)
      refine⟨_,_,_,h,s1,s2, .d ?_⟩
      have hlen:xs.length=len:=by omega
      by_cases h0:len=0
      ·have:xs=[]:=List.length_eq_zero_iff.1 (by omega)
       subst this;subst h0
       exact .empty (fun _=>rfl)
      ·refine .slice (sz:=sz) (heap_alloc_new w _) (fun hh=> ?_) hlen g3 (Nat.le_refl _) (fun _=>rfl) ?_
       ·exact absurd ((pz hS args).CV hh) (by omega)
       ·have hfl:(flat xs).length=len*sz:=by rw[flat_length g3,hlen]
        have hvl:=g2.length
        rw[List.drop_zero,List.take_of_length_le (by rw[hvl,hfl];exact Nat.le_refl _)]
        exact g2.from (hl.from (M.frz args) E)
     ·cases hok
    ·cases hok
   ·cases hok
  ·exact h.elim
 ·exact h.elim
theorem Dn {P:Program}{t:TypeId}{agg:Bool}{n:Nat}(h:zZ P t agg n=true)(w:World):(isAgg t).run P w= .ok agg w∧(agg=true→(sizeOf t).run P w= .ok n w)∧(agg=false→n=1):=by
 simp only[zZ]at h
 split at h
 ·rename_i fs i hu hi
  simp only[Bool.and_eq_true,beq_iff_eq,decide_eq_true_eq]at h
  obtain⟨⟨rfl,rfl⟩,_⟩:=h
  exact⟨by simp[isAgg,run_underlying hu],fun _=>run_sizeOf hi,fun h=>by cases h⟩
 ·rename_i m e i hu hi
  simp only[Bool.and_eq_true,beq_iff_eq,decide_eq_true_eq]at h
  obtain⟨⟨rfl,rfl⟩,_⟩:=h
  exact⟨by simp[isAgg,run_underlying hu],fun _=>run_sizeOf hi,fun h=>by cases h⟩
 ·rename_i oi d hu h1 h2
  simp only[Bool.and_eq_true,beq_iff_eq,Bool.not_eq_true']at h
  obtain⟨rfl,rfl⟩:=h
  refine⟨?_,(fun h=>by cases h),fun _=>rfl⟩
  cases hi:P.info? t with
  |none=>exfalso;simp[Program.underlying,hi]at hu
  |some j=>
   cases d with
   |struct fs=>exact(h1 fs j hi rfl).elim
   |array m e=>exact(h2 m e j hi rfl).elim
   | _=>simp[isAgg,run_underlying hu]
 ·cases h
theorem Zh {P:Program}{t:TypeId}{agg:Bool}{n:Nat}(h:zZ P t agg n=true):0<n:=by
 simp only[zZ]at h
 split at h
 ·simp only[Bool.and_eq_true,decide_eq_true_eq]at h;exact h.2
 ·simp only[Bool.and_eq_true,decide_eq_true_eq]at h;exact h.2
 ·simp only[Bool.and_eq_true,beq_iff_eq]at h;omega
 ·cases h
theorem X6 {P:Program}{t:TypeId}{agg:Bool}{n blk p:Nat}{cs:Array Value}{T:TypeId}{fz:Nat×Nat}(h:zZ P t agg n=true)(hb:w.heap[blk]?=some (.cells cs T fz))(hp:p+n≤cs.size):
  (Instr.loadAt t (.pointer (some ⟨blk,p,none⟩))).run P w= .ok (bif agg then .agg ((cs.toList.drop p).take n).toArray else cs.toList.getD p undef) w:=by
 obtain⟨h1,h2,h3⟩:=Dn h w
 cases agg with
 |true=>
  have hl:((cs.toList.drop p).take n).length=n:=by simp;omega
  have:=run_loadCells_list (P:=P) w ⟨blk,p,none⟩ ((cs.toList.drop p).take n) (fun j v hj=>by
   rw[Addr.add_lit,cell_of_row w blk (p+j) cs T fz hb]
   rw[List.getElem?_take]at hj
   split at hj
   ·rw[List.getElem?_drop]at hj;simpa using hj
   ·cases hj)
  rw[hl]at this
  simp[Instr.loadAt,Instr.sureAddr,loadVar,h1,h2 rfl,this]
 |false=>
  have hn:=h3 rfl
  subst hn
  have hlt:p<cs.size:=by omega
  have hc:w.cell? ⟨blk,p,none⟩=some cs[p]:=by rw[cell_of_row w blk p cs T fz hb];simp[hlt]
  simp[Instr.loadAt,Instr.sureAddr,loadVar,h1,run_load,hc,List.getD,hlt]
theorem Zf {P:Program}{O:Nat→Prop}{t:TypeId}{agg:Bool}{n blk p:Nat}{cs:Array Value}{T:TypeId}{fz:Nat×Nat}{ds:List DV}(h:zZ P t agg n=true)(hb:w.heap[blk]?=some (.cells cs T fz))
  (hr:aQ w O ((cs.toList.drop p).take n) ds)(hn:ds.length=n):
  ∃v,(Instr.loadAt t (.pointer (some ⟨blk,p,none⟩))).run P w= .ok v w∧bf w O v (bif agg then .agg ds else ds.getD 0 default):=by
 have hl:=hr.length
 simp only[List.length_take,List.length_drop,Array.length_toList]at hl
 have h3:=(Dn h w).2.2
 refine⟨_,X6 h hb ?_,?_⟩
 ·cases agg with
  |false=>have:=h3 rfl;omega
  |true=>have:=Zh h;omega
 ·cases agg with
  |true=>exact .agg (by simpa using hr)
  |false=>
   have hn1:=h3 rfl
   subst hn1
   obtain⟨d,rfl⟩:=List.length_eq_one_iff.1 hn
   obtain⟨v,hv,hrd⟩:=hr.get' 0 d rfl
   rw[List.getElem?_take]at hv
   simp only[Nat.zero_lt_one,if_true,List.getElem?_drop,Nat.add_zero]at hv
   simp only[cond_false,List.getD_cons_zero]
   rw[List.getD,hv]
   exact hrd
end
section
variable {C:Ctx}{X:Nat→Prop}{w:World}{M:Mem}{E:Emb}{K:PV→Mem→Prop}{KP:DV→Mem→Prop}{O:Nat→Prop}
theorem ahG {P:Program}{t:TypeId}{agg:Bool}{n blk off:Nat}{vs:Array Value}{T:TypeId}{fz:Nat×Nat}{cs:List PV}(h:zZ P t agg n=true)(hb:w.heap[blk]?=some (.cells vs T fz))
  (hr:aK w O M E vs.toList cs)(hn:off+n≤cs.length):
  ∃v,(Instr.loadAt t (.pointer (some ⟨blk,off,none⟩))).run P w= .ok v w∧Rep w O M E v (ld agg n off cs):=by
 have hl:=hr.length
 simp only[Array.length_toList]at hl
 have h3:=(Dn h w).2.2
 refine⟨_,X6 h hb (by omega),?_⟩
 cases agg with
 |true=>exact Rep.G5 ((hr.drop off).take n)
 |false=>
  have hn1:=h3 rfl
  have hlt:off<cs.length:=by omega
  obtain⟨v,hv,hrd⟩:=hr.get' off cs[off] (List.getElem?_eq_getElem hlt)
  simp only[cond_false,ld]
  rw[getD_eq hlt,List.getD,hv]
  exact hrd
theorem ael {A:Arr}{o e i:Nat}{vs:Array Value}(hfit:∀x∈A.elems,x.fits A.sz=true)(hi:i<A.elems.length)
  (h:aQ w O ((vs.toList.drop o).take (A.elems.length*A.sz)) (flat A.elems))(off n:Nat)(hn:off+n≤A.elems[i].cells.length)(_he:o+A.elems.length*A.sz≤e)(_hv:e≤vs.size):
  aQ w O ((vs.toList.drop (o+i*A.sz+off)).take n) ((A.elems[i].cells.drop off).take n):=by
 have hlen:∀x∈A.elems,x.cells.length=A.sz:=fun x hx=>DV.cu (hfit x hx)
 have hsz:=hlen _ (List.getElem_mem hi)
 have h1:=((((h.drop (i*A.sz)).take A.sz).drop off).take n)
 rw[flat_get hlen hi]at h1
 have hin:i*A.sz+A.sz≤A.elems.length*A.sz:=by rw[←Nat.succ_mul];exact Nat.mul_le_mul_right _ hi
 have e1:(((((vs.toList.drop o).take (A.elems.length*A.sz)).drop (i*A.sz)).take A.sz).drop off).take n=(vs.toList.drop (o+i*A.sz+off)).take n:=by
  rw[List.drop_take,List.drop_drop,List.take_take,List.drop_take,List.drop_drop,List.take_take,←Nat.add_assoc]
  congr 1
  omega
 rw[e1]at h1
 exact h1
theorem ajP (agg:Bool)(n off:Nat)(cs:List DV)(hn:0<n)(hl:off+n≤cs.length)(h1:agg=false→n=1):ldD agg n off cs= .d (bif agg then .agg ((cs.drop off).take n)else((cs.drop off).take n).getD 0 default):=by
 cases agg with
 |true=>rfl
 |false=>
  have:=h1 rfl
  subst this
  simp only[ldD,cond_false]
  have hlt:off<cs.length:=by omega
  simp[List.getD]
theorem OQ {t:TypeId}{agg:Bool}{n:Nat}{x:PV}{v:Value}(hS:Sim C X w M E)(hr:Rep w (away X M E) M E v x)(hok:zZ C.P t agg n=true){K:PV→Prop}(h:bQ agg n x M K):
  ∃u pv,(Instr.loadAt t v).run C.P w= .ok u w∧K pv∧Rep w (away X M E) M E u pv:=by
 have hpos:=Zh hok
 have hone:=(Dn hok w).2.2
 have data:∀{v:Value} {cs:List DV},bf w (away X M E) v (.aX cs)→∀off,off=0→n≤cs.length→
   ∃u,(Instr.loadAt t v).run C.P w= .ok u w∧bf w (away X M E) u (bif agg then .agg (cs.take n)else cs.getD 0 default):=by
  intro v cs hd off _ hn
  cases hd with
  |aX hb ho hh=>
   have hh':=hh.take n
   rw[List.take_take,Nat.min_eq_left hn]at hh'
   obtain⟨u,h1,h2⟩:=Zf hok hb hh' (by simp;omega)
   refine⟨u,h1,?_⟩
   cases agg with
   |true=>exact h2
   |false=>
    have:=hone rfl
    subst this
    simp only[cond_false]at h2⊢
    cases cs with
    |nil=>simp at hn
    |cons c cs=>simpa using h2
 cases x with
 |ptr b off=>
  simp only[bQ]at h
  split at h
  ·rename_i cs hcs
   obtain⟨hn,hK⟩:=h
   cases hr with
   |ptr hl he hno=>
    rw[oL hcs]at hl;cases hl
    obtain⟨blk,vs,T,h1,h2,h3,h4⟩:=hS.cells (oL hcs) hno
    rw[he]at h1;cases h1
    obtain⟨u,g1,g2⟩:=ahG hok h3 h4 hn
    exact⟨u,_,g1,hK,g2⟩
  ·exact h.elim
 |d x=>
  cases x with
  |aX cs=>
   simp only[bQ]at h
   obtain⟨hn,hK⟩:=h
   obtain⟨u,g1,g2⟩:=data hr.toD 0 rfl hn
   refine⟨u,_,g1,hK,?_⟩
   cases agg<;>exact .d (by simpa using g2)
  | _=>simp[bQ]at h
 |jY k ver i off=>
  simp only[bQ]at h
  split at h
  ·rename_i A hA
   obtain⟨hn,hK⟩:=h
   obtain⟨hA1,hv⟩:=xI hA
   cases hr with
   |jY hlt hh=>
    obtain⟨_,h2⟩:=hh A hA1
    obtain⟨loc,h3,hi,h5⟩:=h2 hv
    obtain⟨s1,s2,s3,s4⟩:=hS.arr k A hA1
    rw[getD_eq hi]at hn hK
    cases loc with
    |none=>
     simp only[List.getElem?_eq_getElem hi,Option.getD_some]at h5
     obtain⟨u,g1,g2⟩:=data h5 0 rfl (by simp;omega)
     refine⟨u,_,g1,hK,?_⟩
     rw[ajP agg n off _ hpos hn hone]
     refine .d ?_
     cases agg with
     |true=>exact g2
     |false=>
      have:=hone rfl
      subst this
      simp only[cond_false]at g2⊢
      have hlt':off<A.elems[i].cells.length:=by omega
      rw[List.drop_eq_getElem_cons hlt']at g2⊢
      simpa using g2
    |some q=>
     obtain⟨blk,o,e⟩:=q
     simp only at h5
     obtain⟨hX,vs,T,g2,g3,g4,g5⟩:=s4 blk o e h3
     simp only[Value.pointer.injEq]at h5
     subst h5
     obtain⟨u,q1,q2⟩:=Zf hok g2 (ael s2 hi g5 off n hn g3 g4) (by simp;omega)
     refine⟨u,_,q1,hK,?_⟩
     rw[ajP agg n off _ hpos hn hone]
     exact .d q2
  ·exact h.elim
 | _=>simp[bQ]at h
theorem YS {ρ:Operand→Value}{o:Oper}{t:TypeId}{x:Operand}{agg:Bool}{n:Nat}(ho:o.op= .load t x){args:List PV}(hS:Sim C X w M E)(hA:aK w (away X M E) M E ((opsOf o.op).map ρ) args)
  (hok:zZ C.P t agg n=true){base:Nat}(h:aj C base (.load agg n) args M K KP):dZ C X w M E K KP ((execOp ρ o).run C.P w):=by
 simp only[aj]at h
 split at h
 ·rename_i p
  simp only[ho,opsOf,List.map_cons,List.map_nil]at hA
  obtain⟨v,he,hr⟩:=eG hA
  simp only[List.cons.injEq,and_true]at he
  subst he
  obtain⟨u,pv,h1,h2,h3⟩:=OQ hS hr hok h
  have hrun:(execOp ρ o).run C.P w= .ok (.value u) w:=by simp[execOp,ho,h1]
  rw[hrun]
  exact .same hS h2 h3
 ·exact h.elim
theorem YK {agg:Bool}{n:Nat}{x:PV}{K:PV→Prop}(h:qH agg n x M K):bQ agg n x M K:=by
 cases x with
 |d x=>cases x<;>first|exact h|exact h.elim
 |ptr=>exact h
 | _=>exact h.elim
theorem adZ {ρ:Operand→Value}{o:Oper}{t:TypeId}{x:Operand}{agg:Bool}{n:Nat}(ho:o.op= .load t x){args:List PV}(hS:Sim C X w M E)(hA:aK w (away X M E) M E ((opsOf o.op).map ρ) args)
  (hok:zZ C.P t agg n=true){base:Nat}(h:aj C base (.Oi agg n) args M K KP):dZ C X w M E K KP ((execOp ρ o).run C.P w):=by
 refine YS (base:=base) ho hS hA hok ?_
 simp only[aj]at h⊢
 split at h
 ·exact YK h
 ·exact h.elim
theorem bf.oneCell {v:Value}{x:DV}(h:bf w O v x)(hx:x.one=true):v.oneCell'=true:=by
 cases h<;>first|rfl|(simp[DV.one]at hx)
theorem aQ.oneCell:∀{vs:List Value} {xs:List DV},aQ w O vs xs→(∀x∈xs,x.one=true)→∀v∈vs,v.oneCell'=true
 | _,_, .nil,_,v,hv=>by simp at hv
 | _,_, .cons h t,hx,v,hv=>by
  rcases List.mem_cons.1 hv with rfl|hv
  ·exact h.oneCell (hx _ (by simp))
  ·exact aQ.oneCell t (fun x hx'=>hx x (by simp[hx'])) v hv
theorem Rep.oneCell {v:Value}{x:PV}(h:Rep w O M E v x)(hx:x.one=true):v.oneCell'=true:=by
 cases h with
 |d h=>exact h.oneCell hx
 |ptr=>rfl
 |jY=>rfl
 |tsl=>rfl
 |psl=>rfl
 |DN=>rfl
 |func=>rfl
 |mref=>rfl
 |qY=>rfl
 | _=>simp[PV.one]at hx
theorem aK.oneCell:∀{vs:List Value} {xs:List PV},aK w O M E vs xs→(∀x∈xs,x.one=true)→∀v∈vs,v.oneCell'=true
 | _,_, .nil,_,v,hv=>by simp at hv
 | _,_, .cons h t,hx,v,hv=>by
  rcases List.mem_cons.1 hv with rfl|hv
  ·exact h.oneCell (hx _ (by simp))
  ·exact aK.oneCell t (fun x hx'=>hx x (by simp[hx'])) v hv
theorem Vk {P:Program}{t:TypeId}{i:TypeInfo}{blk off:Nat}{v:Value}{cur:Array Value}{T:TypeId}{mk:Nat×Nat}(hmk:mk.2=0∨cur.size≤mk.1)(hi:P.info? t=some i)(hn:v.cells.size=i.size)
  (hb:w.heap[blk]?=some (.cells cur T mk))(hl:off+v.cells.size≤cur.size)(h1:∀u∈v.cells.toList,u.oneCell'=true):
  (Instr.storeAt t (.pointer (some ⟨blk,off,none⟩)) v).run P w= .ok () (w.setRow blk (splice cur.toList off v.cells.toList).toArray):=by
 have hst:=kH P blk off T mk v.cells.toList 0 cur w hb hmk (by simpa using hl) h1
 simp only[Nat.add_zero]at hst
 simp only[Instr.storeAt,Instr.sureAddr,pure_bind,storeVar,Sem.run_bind,run_sizeOf hi,Result.andThen_ok,hn,ne_eq,not_true,if_false,hst,splice,Sem.run_ite]
theorem ad7 {ρ:Operand→Value}{o:Oper}{t:TypeId}{a x:Operand}{n:Nat}(ho:o.op= .store t a x){args:List PV}(hS:Sim C X w M E)(hA:aK w (away X M E) M E ((opsOf o.op).map ρ) args)
  (hok:aI C.P (.store t a x) (.store n)=true){base:Nat}(h:aj C base (.store n) args M K KP):dZ C X w M E K KP ((execOp ρ o).run C.P w):=by
 simp only[aI]at hok
 split at hok
 ·rename_i inf jJ
  simp only[beq_iff_eq]at hok
  simp only[aj]at h
  split at h
  ·rename_i p q
   simp only[ho,opsOf,List.map_cons,List.map_nil]at hA
   obtain⟨v,u,he,hr,hr2⟩:=dJ hA
   simp only[List.cons.injEq,and_true]at he
   obtain⟨rfl,rfl⟩:=he
   cases p with
   |ptr b off=>
    simp only[jH]at h
    split at h
    ·rename_i cs hcs
     obtain⟨hfz,hlen,hall,hbd,hK⟩:=h
     have hq:q≠ .dead:=by rintro rfl;simp[PV.cells,PV.one]at hall
     have hc:=hr2.cells hq
     have hcl:=hc.length
     generalize hv:ρ a=va at hr
     cases hr with
     |ptr hl he hno=>
      rw[oL hcs]at hl;cases hl
      obtain⟨blk,vs,T,h1,h2,h3,h4⟩:=hS.cells (oL hcs) hno
      have hvl:=h4.length
      simp only[Array.length_toList]at hcl hvl
      obtain rfl:=Option.some.inj (h1.symm.trans he)
      have hrun:=Vk (P:=C.P) (t:=t) (v:=ρ x) (.inl rfl) jJ (by omega) h3 (off:=off) (by omega) (hc.oneCell (by simpa[List.all_eq_true]using hall))
      have hex:(execOp ρ o).run C.P w= .ok .skip (w.setRow blk (splice vs.toList off (ρ x).cells.toList).toArray):=by simp[execOp,ho,hv,hrun]
      rw[hex]
      obtain⟨s1,s2⟩:=ah6 (off:=off) hS (oL hcs) hfz he h3 hc (yx w blk vs T _ h3)
      exact⟨_,_,hK,s1,s2⟩
    ·exact h.elim
   |jY k ver i off=>
    simp only[jH]at h
    split at h
    ·rename_i A ds hrow hds
     obtain⟨hst,hn0,hlen,hall,hbd,hK⟩:=h
     obtain⟨hA1,O8⟩:=xI hrow
     have hq:q≠ .dead:=by rintro rfl;simp[PV.cells,jd]at hds
     have hc:=(hr2.cells hq).jd hds
     have hcl:=hc.length
     simp only[Array.length_toList]at hcl
     generalize hv:ρ a=va at hr
     cases hr with
     |jY hlt hh=>
      obtain⟨_,h2⟩:=hh A hA1
      obtain⟨loc,h3,hi,h5⟩:=h2 O8
      obtain⟨s1,s2,s3,s4⟩:=hS.arr k A hA1
      obtain⟨q',hq'⟩:=s3 hst
      rw[h3]at hq'
      cases hq'
      obtain⟨blk,o',e⟩:=q'
      simp only at h5
      obtain⟨hX,vs,T,g2,g3,g4,g5⟩:=s4 blk o' e h3
      simp only[Value.pointer.injEq]at h5
      subst h5
      have aqo:=hbd
      rw[getD_eq hi]at aqo
      have hfi:A.elems[i].cells.length=A.sz:=DV.cu (s2 _ (List.getElem_mem hi))
      have hin:i*A.sz+A.sz≤A.elems.length*A.sz:=by rw[←Nat.succ_mul];exact Nat.mul_le_mul_right _ hi
      have hrun:=Vk (P:=C.P) (t:=t) (v:=ρ x) T.ok jJ (by omega) g2 (off:=o'+i*A.sz+off) (by omega) (hc.oneCell (by simpa[List.all_eq_true]using hall))
      have hex:(execOp ρ o).run C.P w= .ok .skip (w.setRow blk (splice vs.toList (o'+i*A.sz+off) (ρ x).cells.toList).toArray):=by simp[execOp,ho,hv,hrun]
      rw[hex]
      obtain⟨t1,t2⟩:=afr hS hA1 hst h3 g2 hi (by rw[hlen];exact hbd) (by rw[hlen];exact hn0) hall hc (yx w blk vs T.ty _ g2)
      exact⟨_,_,hK,t1,t2⟩
    ·exact h.elim
   | _=>simp[jH]at h
  ·exact h.elim
 ·cases hok
theorem ad5 {ρ:Operand→Value}{o:Oper}{x:Operand}(ho:o.op= .nilCheck x){args:List PV}(hS:Sim C X w M E)(hA:aK w (away X M E) M E ((opsOf o.op).map ρ) args)
  {base:Nat}(h:aj C base .aW args M K KP):dZ C X w M E K KP ((execOp ρ o).run C.P w):=by
 have key:∀a,ρ x= .pointer (some a)→(execOp ρ o).run C.P w= .ok (.value (ρ x)) w:=by
  intro a ha;simp[execOp,ho,ha]
 simp only[ho,opsOf,List.map_cons,List.map_nil]at hA
 simp only[aj]at h
 split at h
 ·obtain⟨v,he,hr⟩:=eG hA
  simp only[List.cons.injEq,and_true]at he
  subst he
  generalize hv:ρ x=v at hr
  cases hr with
  |ptr hl hb hno=>
   rw[key _ hv,hv]
   exact .same hS h (.ptr hl hb hno)
 ·obtain⟨v,he,hr⟩:=eG hA
  simp only[List.cons.injEq,and_true]at he
  subst he
  have hv:=hr
  generalize hv':ρ x=v at hv
  cases hv with
  |d hd=>cases hd with
   |aX hb ho' hh=>
    rw[key _ hv']
    exact .same hS h hr
 ·exact h.elim
theorem aaO {t:TypeId}{f off:Nat}{ρ:Operand→Value}{o:Oper}{x:Operand}(ho:o.op= .fieldAddr t x f){args:List PV}(hS:Sim C X w M E)(hA:aK w (away X M E) M E ((opsOf o.op).map ρ) args)
  (hok:aI C.P (.fieldAddr t x f) (.fld off)=true){base:Nat}(h:aj C base (.fld off) args M K KP):dZ C X w M E K KP ((execOp ρ o).run C.P w):=by
 simp only[aI]at hok
 split at hok
 ·rename_i fs hfs
  split at hok
  ·rename_i fd hfd
   simp only[Bool.and_eq_true,beq_iff_eq]at hok
   obtain⟨hoff,hok⟩:=hok
   split at hok
   ·rename_i i hi
    simp only[decide_eq_true_eq]at hok
    have hrun:∀blk p,ρ x= .pointer (some ⟨blk,p,none⟩)→(execOp ρ o).run C.P w= .ok (.value (.pointer (some ⟨blk,p+off,none⟩))) w:=by
     intro blk p hp
     simp[execOp,ho,hp,Instr.fieldAt,run_underlying hfs,hfd,Instr.sureAddr,fieldPlace,run_sizeOf hi,hok,hoff,Addr.add_lit]
    simp only[ho,opsOf,List.map_cons,List.map_nil]at hA
    simp only[aj]at h
    split at h
    ·rename_i p
     obtain⟨v,he,hr⟩:=eG hA
     simp only[List.cons.injEq,and_true]at he
     subst he
     generalize hv:ρ x=v at hr
     cases p with
     |ptr b o'=>
      cases hr with
      |ptr hl hb hno=>
       rw[hrun _ _ hv]
       exact .same hS h (.ptr hl hb hno)
     |d y=>
      cases y with
      |aX cs=>
       simp only[nK]at h
       obtain⟨h1,hK⟩:=h
       cases hr with
       |d hd=>cases hd with
        |aX hb ho' hh=>
         rw[hrun _ _ hv]
         refine .same hS hK (.d (.aX hb ho' ?_))
         have:=hh.drop off
         rw[List.drop_take,List.drop_drop]at this
         simpa using this
      | _=>simp[nK]at h
     |jY k ver i' o'=>
      simp only[nK]at h
      cases hr with
      |jY hlt hh=>
       rename_i a
       split at h
       ·rename_i A hA
        obtain⟨hA1,O8⟩:=xI hA
        obtain⟨hle,h2⟩:=hh A hA1
        obtain⟨loc,h3,hi',h5⟩:=h2 O8
        cases loc with
        |some q=>
         obtain⟨blk,o1,e⟩:=q
         simp only[Value.pointer.injEq]at h5
         subst h5
         rw[hrun _ _ hv]
         refine .same hS h (.jY hlt fun B hB=> ?_)
         rw[hA1]at hB;cases hB
         exact⟨hle,fun _=>⟨_,h3,hi',by simp[Nat.add_assoc]⟩⟩
        |none=>
         simp only at h5
         generalize hpv:Value.pointer a=pv at h5
         cases h5 with
         |aX hb ho' hh'=>
          cases hpv
          rw[hrun _ _ hv]
          refine .same hS h (.jY hlt fun B hB=> ?_)
          rw[hA1]at hB;cases hB
          refine⟨hle,fun _=>⟨none,h3,hi',?_⟩⟩
          have:=hh'.drop off
          rw[List.drop_take,List.drop_drop,List.drop_drop]at this
          refine .aX hb ho' ?_
          simp only[List.length_drop]at this⊢
          rw[show(A.elems[i']?.getD default).cells.length - (o'+off)=(A.elems[i']?.getD default).cells.length - o' - off by omega]
          exact this
       ·exact h.elim
     | _=>simp[nK]at h
    ·exact h.elim
   ·cases hok
  ·cases hok
 ·cases hok
end
end Go.Am
