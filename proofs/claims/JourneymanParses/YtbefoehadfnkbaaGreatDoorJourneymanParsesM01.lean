/-
  Part 1 of the proof of a law of desks: an abstract machine over the model, contracts of functions, plain laws.
  Conditions: none.
-/
import Derived.WalkKit
import Derived.Deep.LoopGhost
import Derived.Laws.CopyRow
import Derived.OrdersIn
set_option linter.all false
namespace Go.Am
structure TM (n:Nat)where
 ty:TypeId
 fr:Nat×Nat
 ok:fr.2=0∨n≤fr.1
def TM.cast {n m:Nat}(h:n=m)(T:TM n):TM m:=⟨T.ty,T.fr,h▸T.ok⟩
def TM.zero (n:Nat)(t:TypeId):TM n:=⟨t,(0,0), .inl rfl⟩
theorem kH (P:Program)(g o:Nat)(t:TypeId)(fz:Nat×Nat):∀(vs:List Value) (i:Nat) (cur:Array Value) (w:World),w.heap[g]?=some (.cells cur t fz)→(fz.2=0∨cur.size≤fz.1)→o+i+vs.length≤cur.size→(∀v∈vs,v.oneCell'=true)→
  (storeCells ⟨g,o,none⟩ vs i).run P w= .ok () (w.setRow g (cur.toList.take (o+i)++vs++cur.toList.drop (o+i+vs.length)).toArray)
 | [],i,cur,w,hg,_,_,_=>by
  simp only[storeCells,List.append_nil,List.length_nil,Nat.add_zero,List.take_append_drop,Array.toArray_toList]
  rw[setRow_self w g cur t fz hg]
  rfl
 |v::rest,i,cur,w,hg,hfz,hl,h1=>by
  have hi:o+i<cur.size:=by simp at hl;omega
  have hadd:(⟨g,o,none⟩:Addr).add i=⟨g,o+i,none⟩:=by unfold Addr.add;split<;>simp_all
  have hcell:w.cell? ⟨g,o+i,none⟩=some cur[o+i]:=by simp[World.cell?,hg,hi]
  have hfro:w.frozen? ⟨g,o+i,none⟩=false:=by
   obtain⟨lo,hi'⟩:=fz
   simp only[World.frozen?,hg,Bool.and_eq_false_iff,decide_eq_false_iff_not]
   simp only at hfz
   omega
  have hst:(store ((⟨g,o,none⟩:Addr).add i) v).run P w= .ok () (w.setRow g (cur.setIfInBounds (o+i) v)):=by
   rw[hadd,run_store P w _ v _ (h1 v (by simp)),hcell]
   simp[hfro,setCell_eq_setRow w g (o+i) cur t fz v hg]
  have ih:=kH P g o t fz rest (i+1) (cur.setIfInBounds (o+i) v) (w.setRow g (cur.setIfInBounds (o+i) v)) (setRow_heap w g cur _ t _ hg) (by simpa using hfz) (by simp at hl⊢;omega) (fun x hx=>h1 x (by simp[hx]))
  simp only[storeCells,Sem.run_bind,hst,Result.andThen_ok,ih,setRow_setRow]
  congr 3
  have e:=list_seg_step cur.toList (o+i) v rest (by simp at hl⊢;omega)
  simpa[Array.toList_setIfInBounds,Nat.add_assoc]using e
inductive DV where
 |int (k:IntKind) (n:Int)
 |bool (b:Bool)
 |str (s:ByteArray)
 |nilPtr
 |aX (cs:List DV)
 |slice (ex:Bool) (xs:List DV)
 |agg (cs:List DV)
 |tup (vs:List DV)
 |func (fn:Fn) (first captured:List DV)
 |nilFunc
 |nilIface
 |iface (t:TypeId) (v:DV)
 |map (r:Option (List (DV×DV)))
 deriving Inhabited
def DV.cells:DV→List DV
 | .agg cs=>cs
 |v=>[v]
def DV.one:DV→Bool
 | .agg _=>false
 | .tup _=>false
 | _=>true
def DV.fits (sz:Nat)(x:DV):Bool:=x.cells.length==sz&&x.cells.all DV.one
def flat (xs:List DV):List DV:=xs.flatMap DV.cells
inductive PV where
 |d (x:DV)
 |ptr (b off:Nat)
 |jY (k ver i off:Nat)
 |tsl (k ver skip:Nat)
 |psl (k ver skip len:Nat)
 |func (fn:Fn) (first captured:List PV)
 |agg (cs:List PV)
 |tup (vs:List PV)
 |dead
 |mref (b:Nat)
 |qY (b:Nat)
 |iY (l:List (DV×DV))
 |gV (L:Loop)
 |DN (b:Nat)
 |KE (s:ByteArray) (pos:Nat)
 deriving Inhabited
def isObj:List PV→Bool
 | [.iY _]=>true
 | .gV _::_=>true
 | [.KE _ _]=>true
 | _=>false
def PV.cells:PV→List PV
 | .agg cs=>cs
 | .d (.agg cs)=>cs.map .d
 |v=>[v]
def PV.one:PV→Bool
 | .d x=>x.one
 | .agg _=>false
 | .tup _=>false
 | .dead=>false
 | .tsl _ _ _=>true
 | .psl _ _ _ _=>true
 | .ptr _ _=>true
 | .jY _ _ _ _=>true
 | .func _ _ _=>true
 | .mref _=>true
 | .qY _=>true
 | .iY _=>false
 | .gV _=>false
 | .DN _=>true
 | .KE _ _=>false
structure Arr where
 sz:Nat
 elems:List DV
 ver:Nat
 st:Nat
 deriving Inhabited
structure Mem where
 boxes:List (Option (List PV))
 fz:List Nat
 aA:List (Option Arr)
structure Emb where
 bx:List Nat
 ar:List (Option (Nat×Nat×Nat))
def owned (M:Mem)(E:Emb)(blk:Nat):Prop:=
 (∃b cs:_,M.boxes[b]?=some (some cs)∧b∉M.fz∧E.bx[b]?=some blk)∨
 (∃(k:Nat) (A:Arr) (o e:Nat),M.aA[k]?=some (some A)∧A.st≠2∧E.ar[k]?=some (some (blk,o,e)))
mutual
inductive bf (w:World) (O:Nat→Prop):Value→DV→Prop
 |int (k:IntKind) (n:Int):bf w O (.int k n) (.int k n)
 |bool (b:Bool):bf w O (.bool b) (.bool b)
 |str (s:ByteArray):bf w O (.string s) (.str s)
 |nilPtr:bf w O (.pointer none) .nilPtr
 |aX {blk off:Nat} {cs:Array Value} {T:TypeId} {fz:Nat×Nat} {ds:List DV}
   (hb:w.heap[blk]?=some (.cells cs T fz)) (ho:¬O blk) (h:aQ w O ((cs.toList.drop off).take ds.length) ds):
   bf w O (.pointer (some ⟨blk,off,none⟩)) (.aX ds)
 |empty {a:Option Addr} {cap:Nat} {ex:Bool} (hx:ex=true→cap=0):bf w O (.slice a 0 cap) (.slice ex [])
 |slice {blk off len cap sz:Nat} {ex:Bool} {xs:List DV} {cs:Array Value} {T:TypeId} {fz:Nat×Nat}
   (hb:w.heap[blk]?=some (.cells cs T fz)) (ho:¬O blk) (hl:xs.length=len) (hs:∀x∈xs,x.cells.length=sz) (hc:len≤cap) (hx:ex=true→cap=len)
   (h:aQ w O ((cs.toList.drop off).take (len*sz)) (flat xs)):bf w O (.slice (some ⟨blk,off,none⟩) len cap) (.slice ex xs)
 |agg {vs:Array Value} {ds:List DV} (h:aQ w O vs.toList ds):bf w O (.agg vs) (.agg ds)
 |tup {vs:Array Value} {ds:List DV} (h:aQ w O vs.toList ds):bf w O (.tuple vs) (.tup ds)
 |func {fn:Fn} {f c:Array Value} {df dc:List DV} (hf:aQ w O f.toList df) (hc:aQ w O c.toList dc):bf w O (.func fn f c) (.func fn df dc)
 |nilFunc:bf w O .nilFunc .nilFunc
 |nilIface:bf w O .nilIface .nilIface
 |iface {t:TypeId} {v:Value} {x:DV} (h:bf w O v x):bf w O (.iface t v) (.iface t x)
 |ae4:bf w O (.map none) (.map none)
 |map {r:Nat} {es:Array MapEntry} {clock:Nat} {l:List (DV×DV)} (hb:w.heap[r]?=some (.map es clock)) (ho:¬O r)
   (hk:aQ w O (es.toList.map (·.key)) (l.map (·.1))) (hv:aQ w O (es.toList.map (·.val)) (l.map (·.2))):bf w O (.map (some r)) (.map (some l))
inductive aQ (w:World) (O:Nat→Prop):List Value→List DV→Prop
 |nil:aQ w O [] []
 |cons {v:Value} {d:DV} {vs:List Value} {ds:List DV} (h:bf w O v d) (t:aQ w O vs ds):aQ w O (v::vs) (d::ds)
end
mutual
theorem bf.mono {w w':World}{O O':Nat→Prop}(hk:∀b o,¬O b→w.heap[b]?=some o→w'.heap[b]?=some o∧¬O' b):
  ∀{v:Value} {d:DV},bf w O v d→bf w' O' v d
 | _,_, .int k n=> .int k n
 | _,_, .bool b=> .bool b
 | _,_, .str s=> .str s
 | _,_, .nilPtr=> .nilPtr
 | _,_, .aX hb ho h=> .aX (hk _ _ ho hb).1 (hk _ _ ho hb).2 (aQ.mono hk h)
 | _,_, .empty hx=> .empty hx
 | _,_, .slice hb ho hl hs hc hx h=> .slice (hk _ _ ho hb).1 (hk _ _ ho hb).2 hl hs hc hx (aQ.mono hk h)
 | _,_, .agg h=> .agg (aQ.mono hk h)
 | _,_, .tup h=> .tup (aQ.mono hk h)
 | _,_, .func hf hc=> .func (aQ.mono hk hf) (aQ.mono hk hc)
 | _,_, .nilFunc=> .nilFunc
 | _,_, .nilIface=> .nilIface
 | _,_, .iface h=> .iface (bf.mono hk h)
 | _,_, .ae4=> .ae4
 | _,_, .map hb ho h1 h2=> .map (hk _ _ ho hb).1 (hk _ _ ho hb).2 (aQ.mono hk h1) (aQ.mono hk h2)
theorem aQ.mono {w w':World}{O O':Nat→Prop}(hk:∀b o,¬O b→w.heap[b]?=some o→w'.heap[b]?=some o∧¬O' b):
  ∀{vs:List Value} {ds:List DV},aQ w O vs ds→aQ w' O' vs ds
 | _,_, .nil=> .nil
 | _,_, .cons h t=> .cons (bf.mono hk h) (aQ.mono hk t)
end
theorem aQ.length {w:World}{O:Nat→Prop}:∀{vs:List Value} {ds:List DV},aQ w O vs ds→vs.length=ds.length
 | _,_, .nil=>rfl
 | _,_, .cons _ t=>by simp[aQ.length t]
theorem aQ.get {w:World}{O:Nat→Prop}:∀{vs:List Value} {ds:List DV} (_:aQ w O vs ds) (i:Nat) (v:Value) (_:vs[i]?=some v),∃d,ds[i]?=some d∧bf w O v d
 | _,_, .nil,i,v,h=>by simp at h
 | _,_, .cons h t,0,v,hv=>by simp at hv;subst hv;exact⟨_,rfl,h⟩
 | _,_, .cons h t,i+1,v,hv=>by simpa using aQ.get t i v (by simpa using hv)
theorem aQ.get' {w:World}{O:Nat→Prop}{vs:List Value}{ds:List DV}(h:aQ w O vs ds)(i:Nat)(d:DV)(hd:ds[i]?=some d):∃v,vs[i]?=some v∧bf w O v d:=by
 have hi:i<vs.length:=by
  rw[h.length];exact(List.getElem?_eq_some_iff.1 hd).1
 obtain⟨d',h1,h2⟩:=h.get i vs[i] (List.getElem?_eq_getElem hi)
 rw[hd]at h1;cases h1
 exact⟨_,List.getElem?_eq_getElem hi,h2⟩
theorem aQ.append {w:World}{O:Nat→Prop}:∀{vs us:List Value} {ds es:List DV},aQ w O vs ds→aQ w O us es→aQ w O (vs++us) (ds++es)
 | _,_,_,_, .nil,h=>h
 | _,_,_,_, .cons h t,h'=> .cons h (aQ.append t h')
theorem aQ.take {w:World}{O:Nat→Prop}:∀{vs:List Value} {ds:List DV} (_:aQ w O vs ds) (n:Nat),aQ w O (vs.take n) (ds.take n)
 | _,_,_,0=>by simpa using .nil
 | _,_, .nil,n+1=>by simpa using .nil
 | _,_, .cons h t,n+1=>by simpa using .cons h (aQ.take t n)
theorem aQ.drop {w:World}{O:Nat→Prop}:∀{vs:List Value} {ds:List DV} (_:aQ w O vs ds) (n:Nat),aQ w O (vs.drop n) (ds.drop n)
 | _,_,h,0=>by simpa using h
 | _,_, .nil,n+1=>by simpa using .nil
 | _,_, .cons h t,n+1=>by simpa using aQ.drop t n
theorem aQ.set {w:World}{O:Nat→Prop}:∀{vs:List Value} {ds:List DV} (_:aQ w O vs ds) (n:Nat) {v:Value} {d:DV} (_:bf w O v d),aQ w O (vs.set n v) (ds.set n d)
 | _,_, .nil,_,_,_,_=>by simpa using .nil
 | _,_, .cons h t,0,_,_,hv=>by simpa using .cons hv t
 | _,_, .cons h t,n+1,_,_,hv=>by simpa using .cons h (aQ.set t n hv)
def afH (w:World)(O:Nat→Prop)(A:Arr)(loc:Option (Nat×Nat×Nat))(skip:Nat)(v:Value):Prop:=
 skip≤A.elems.length∧
 match loc with
 |some (blk,o,e)=>
  (∃cap,v= .slice (some ⟨blk,o+skip*A.sz,none⟩) (A.elems.length - skip) cap∧A.elems.length - skip≤cap∧o+(skip+cap)*A.sz=e)∨
  (A.elems.length=skip∧∃a,v= .slice a 0 0)
 |none=>bf w O v (.slice true (A.elems.drop skip))
def afG (w:World)(O:Nat→Prop)(A:Arr)(loc:Option (Nat×Nat×Nat))(skip len:Nat)(v:Value):Prop:=
 skip+len≤A.elems.length∧
 match loc with
 |some (blk,o,_)=>∃a cap,v= .slice a len cap∧(len≠0→a=some ⟨blk,o+skip*A.sz,none⟩)
 |none=>bf w O v (.slice false ((A.elems.drop skip).take len))
def ZO (w:World)(O:Nat→Prop)(A:Arr)(loc:Option (Nat×Nat×Nat))(i off:Nat)(v:Value):Prop:=
 i<A.elems.length∧
 match loc with
 |some (blk,o,_)=>v= .pointer (some ⟨blk,o+i*A.sz+off,none⟩)
 |none=>bf w O v (.aX (((A.elems[i]?).getD default).cells.drop off))
mutual
inductive Rep (w:World) (O:Nat→Prop) (M:Mem) (E:Emb):Value→PV→Prop
 |d {v:Value} {x:DV} (h:bf w O v x):Rep w O M E v (.d x)
 |ptr {b off blk:Nat} {cs:List PV} (hl:M.boxes[b]?=some (some cs)) (hb:E.bx[b]?=some blk) (ho:isObj cs=false):Rep w O M E (.pointer (some ⟨blk,off,none⟩)) (.ptr b off)
 |jY {k ver i off:Nat} {a:Option Addr} (hlt:k<M.aA.length)
   (h:∀A:Arr,M.aA[k]?=some (some A)→ver≤A.ver∧(A.ver=ver→∃loc,E.ar[k]?=some loc∧ZO w O A loc i off (.pointer a))):Rep w O M E (.pointer a) (.jY k ver i off)
 |tsl {k ver skip len cap:Nat} {a:Option Addr} (hlt:k<M.aA.length)
   (h:∀A:Arr,M.aA[k]?=some (some A)→ver≤A.ver∧(A.ver=ver→∃loc,E.ar[k]?=some loc∧afH w O A loc skip (.slice a len cap))):Rep w O M E (.slice a len cap) (.tsl k ver skip)
 |psl {k ver skip len n cap:Nat} {a:Option Addr} (hlt:k<M.aA.length)
   (h:∀A:Arr,M.aA[k]?=some (some A)→ver≤A.ver∧(A.ver=ver→∃loc,E.ar[k]?=some loc∧afG w O A loc skip len (.slice a n cap))):Rep w O M E (.slice a n cap) (.psl k ver skip len)
 |dead {v:Value}:Rep w O M E v .dead
 |mref {b blk:Nat} {cs:List PV} (hl:M.boxes[b]?=some (some cs)) (hb:E.bx[b]?=some blk) (ho:isObj cs=true):Rep w O M E (.map (some blk)) (.mref b)
 |qY {b blk:Nat} {cs:List PV} (hl:M.boxes[b]?=some (some cs)) (hb:E.bx[b]?=some blk) (ho:isObj cs=true):Rep w O M E (.func (.yield blk) #[] #[]) (.qY b)
 |DN {b blk:Nat} {cs:List PV} (hl:M.boxes[b]?=some (some cs)) (hb:E.bx[b]?=some blk) (ho:isObj cs=true):Rep w O M E (.pointer (some ⟨blk,0,none⟩)) (.DN b)
 |func {fn:Fn} {f c:Array Value} {df dc:List PV} (hf:aK w O M E f.toList df) (hc:aK w O M E c.toList dc):Rep w O M E (.func fn f c) (.func fn df dc)
 |agg {vs:Array Value} {ds:List PV} (h:aK w O M E vs.toList ds):Rep w O M E (.agg vs) (.agg ds)
 |tup {vs:Array Value} {ds:List PV} (h:aK w O M E vs.toList ds):Rep w O M E (.tuple vs) (.tup ds)
inductive aK (w:World) (O:Nat→Prop) (M:Mem) (E:Emb):List Value→List PV→Prop
 |nil:aK w O M E [] []
 |cons {v:Value} {d:PV} {vs:List Value} {ds:List PV} (h:Rep w O M E v d) (t:aK w O M E vs ds):aK w O M E (v::vs) (d::ds)
end
structure From (w:World) (M:Mem) (E:Emb) (w':World) (M':Mem) (E':Emb):Prop where
 os:w'.os=w.os
 tape:w'.tape=w.tape
 output:w'.output=w.output
 size:w.heap.size≤w'.heap.size
 keep:∀b o,¬owned M E b→w.heap[b]?=some o→w'.heap[b]?=some o
 own:∀b,owned M' E' b→owned M E b∨w.heap.size≤b
 ig:M.boxes.length≤M'.boxes.length
 bx:∀(b:Nat) (cs:List PV),M.boxes[b]?=some (some cs)→E'.bx[b]?=E.bx[b]?∧∃cs',M'.boxes[b]?=some (some cs')∧isObj cs'=isObj cs
 aY:M.aA.length≤M'.aA.length
 ar:∀k A',k<M.aA.length→M'.aA[k]?=some (some A')→∃A,M.aA[k]?=some (some A)∧A.ver≤A'.ver∧
  (A'.ver=A.ver→E'.ar[k]?=E.ar[k]?∧A'.sz=A.sz∧A'.elems.length=A.elems.length∧(E.ar[k]?=some none→A'.elems=A.elems))
theorem From.refl (w:World)(M:Mem)(E:Emb):From w M E w M E:=
 ⟨rfl,rfl,rfl,Nat.le_refl _,fun _ _ _ h=>h,fun _ h=> .inl h,Nat.le_refl _,fun _ cs h=>⟨rfl,cs,h,rfl⟩,Nat.le_refl _,fun _ A' _ h=>⟨A',h,Nat.le_refl _,fun _=>⟨rfl,rfl,rfl,fun _=>rfl⟩⟩⟩
theorem bT {α:Type}{a:Array α}{i:Nat}{o:α}(h:a[i]?=some o):i<a.size:=(Array.getElem?_eq_some_iff.1 h).1
theorem From.trans {w w' w'':World}{M M' M'':Mem}{E E' E'':Emb}(h:From w M E w' M' E')(h':From w' M' E' w'' M'' E''):From w M E w'' M'' E'':={
 os:=h'.os.trans h.os
 tape:=h'.tape.trans h.tape
 output:=h'.output.trans h.output
 size:=Nat.le_trans h.size h'.size
 keep:=fun b o hb ho=>h'.keep b o (fun hb'=>(h.own b hb').elim hb (fun hs=>absurd (bT ho) (by omega))) (h.keep b o hb ho)
 own:=fun b hb=>(h'.own b hb).elim (h.own b) (fun hs=> .inr (Nat.le_trans h.size hs))
 ig:=Nat.le_trans h.ig h'.ig
 bx:=fun b cs hb=>by
  obtain⟨e1,cs1,h1,k1⟩:=h.bx b cs hb
  obtain⟨e2,cs2,h2,k2⟩:=h'.bx b cs1 h1
  exact⟨e2.trans e1,cs2,h2,k2.trans k1⟩
 aY:=Nat.le_trans h.aY h'.aY
 ar:=fun k A'' hk hA=>by
  obtain⟨A',hA',hv',hr'⟩:=h'.ar k A'' (Nat.lt_of_lt_of_le hk h.aY) hA
  obtain⟨A,hA0,hv,hr⟩:=h.ar k A' hk hA'
  refine⟨A,hA0,Nat.le_trans hv hv',fun he=> ?_⟩
  obtain⟨a1,a2,a3,a4⟩:=hr' (by omega)
  obtain⟨b1,b2,b3,b4⟩:=hr (by omega)
  exact⟨a1.trans b1,a2.trans b2,a3.trans b3,fun hn=>(a4 (b1▸hn)).trans (b4 hn)⟩}
def away (X:Nat→Prop)(M:Mem)(E:Emb)(b:Nat):Prop:=X b∨owned M E b
theorem From.mono {X:Nat→Prop}{w w':World}{M M':Mem}{E E':Emb}(h:From w M E w' M' E'):
  ∀b o,¬away X M E b→w.heap[b]?=some o→w'.heap[b]?=some o∧¬away X M' E' b:=by
 intro b o hb ho
 refine⟨h.keep b o (fun hb'=>hb (.inr hb')) ho,?_⟩
 rintro(hx|hx)
 ·exact hb (.inl hx)
 ·rcases h.own b hx with hx|hx
  ·exact hb (.inr hx)
  ·have:=bT ho;omega
theorem bf.from {X:Nat→Prop}{w w':World}{M M':Mem}{E E':Emb}(h:From w M E w' M' E'){v:Value}{d:DV}(hr:bf w (away X M E) v d):bf w' (away X M' E') v d:=
 hr.mono h.mono
theorem aQ.from {X:Nat→Prop}{w w':World}{M M':Mem}{E E':Emb}(h:From w M E w' M' E'){v:List Value}{d:List DV}(hr:aQ w (away X M E) v d):aQ w' (away X M' E') v d:=
 hr.mono h.mono
mutual
theorem Rep.from {X:Nat→Prop}{w w':World}{M M':Mem}{E E':Emb}(hf:From w M E w' M' E'):
  ∀{v:Value} {p:PV},Rep w (away X M E) M E v p→Rep w' (away X M' E') M' E' v p
 | _,_, .d h=> .d (h.from hf)
 | _,_, .ptr hl hb ho=>by
   obtain⟨e,cs',hl',k⟩:=hf.bx _ _ hl
   exact .ptr hl' (e.trans hb) (k.trans ho)
 | _,_, .mref hl hb ho=>by
   obtain⟨e,cs',hl',k⟩:=hf.bx _ _ hl
   exact .mref hl' (e.trans hb) (k.trans ho)
 | _,_, .qY hl hb ho=>by
   obtain⟨e,cs',hl',k⟩:=hf.bx _ _ hl
   exact .qY hl' (e.trans hb) (k.trans ho)
 | _,_, .DN hl hb ho=>by
   obtain⟨e,cs',hl',k⟩:=hf.bx _ _ hl
   exact .DN hl' (e.trans hb) (k.trans ho)
 | _,_, .jY hlt h=> .jY (Nat.lt_of_lt_of_le hlt hf.aY) fun A' hA'=>by
   obtain⟨A,hA,hle,hr⟩:=hf.ar _ A' hlt hA'
   obtain⟨hv,h⟩:=h A hA
   refine⟨by omega,fun he=> ?_⟩
   obtain⟨e1,e2,e3,e4⟩:=hr (by omega)
   obtain⟨loc,hl,hi,ha⟩:=h (by omega)
   refine⟨loc,e1.trans hl,e3▸hi,?_⟩
   cases loc with
   |none=>simp only[e4 hl]at ha⊢;exact ha.from hf
   |some q=>obtain⟨q1,q2,q3⟩:=q;simp only[e2]at ha⊢;exact ha
 | _,_, .tsl hlt h=> .tsl (Nat.lt_of_lt_of_le hlt hf.aY) fun A' hA'=>by
   obtain⟨A,hA,hle,hr⟩:=hf.ar _ A' hlt hA'
   obtain⟨hv,h⟩:=h A hA
   refine⟨by omega,fun he=> ?_⟩
   obtain⟨e1,e2,e3,e4⟩:=hr (by omega)
   obtain⟨loc,hl,hi,ha⟩:=h (by omega)
   refine⟨loc,e1.trans hl,e3▸hi,?_⟩
   cases loc with
   |none=>simp only[e4 hl]at ha⊢;exact ha.from hf
   |some q=>obtain⟨q1,q2,q3⟩:=q;simp only[e2,e3]at ha⊢;exact ha
 | _,_, .psl hlt h=> .psl (Nat.lt_of_lt_of_le hlt hf.aY) fun A' hA'=>by
   obtain⟨A,hA,hle,hr⟩:=hf.ar _ A' hlt hA'
   obtain⟨hv,h⟩:=h A hA
   refine⟨by omega,fun he=> ?_⟩
   obtain⟨e1,e2,e3,e4⟩:=hr (by omega)
   obtain⟨loc,hl,hi,ha⟩:=h (by omega)
   refine⟨loc,e1.trans hl,e3▸hi,?_⟩
   cases loc with
   |none=>simp only[e4 hl]at ha⊢;exact ha.from hf
   |some q=>obtain⟨q1,q2,q3⟩:=q;simp only[e2]at ha⊢;exact ha
 | _,_, .dead=> .dead
 | _,_, .func h1 h2=> .func (aK.from hf h1) (aK.from hf h2)
 | _,_, .agg h=> .agg (aK.from hf h)
 | _,_, .tup h=> .tup (aK.from hf h)
theorem aK.from {X:Nat→Prop}{w w':World}{M M':Mem}{E E':Emb}(hf:From w M E w' M' E'):
  ∀{v:List Value} {p:List PV},aK w (away X M E) M E v p→aK w' (away X M' E') M' E' v p
 | _,_, .nil=> .nil
 | _,_, .cons h t=> .cons (Rep.from hf h) (aK.from hf t)
end
theorem aK.Tc {w:World}{O:Nat→Prop}{M:Mem}{E:Emb}{vs:List Value}{cs:List PV}(h:aK w O M E vs cs):isObj cs=false:=by
 unfold isObj
 split
 ·cases h with|cons h _=>cases h
 ·cases h with|cons h _=>cases h
 ·cases h with|cons h _=>cases h
 ·rfl
def pI (w:World)(O:Nat→Prop)(M:Mem)(E:Emb)(blk:Nat):List PV→Prop
 | [.iY l]=>∃(es:Array MapEntry) (clock:Nat),w.heap[blk]?=some (.map es clock)∧aQ w O (es.toList.map (·.key)) (l.map (·.1))∧aQ w O (es.toList.map (·.val)) (l.map (·.2))
 | .gV L::cs=>∃tmps:Array Value,tmps.size=L.tmps.size∧w.heap[blk]?=some (.loop {L with tmps:=tmps})∧aK w O M E tmps.toList cs
 | [.KE s pos]=>w.heap[blk]?=some (.stringIter s pos)
 |cs=>∃(vs:Array Value) (T:TypeId),w.heap[blk]?=some (.cells vs T (0,0))∧aK w O M E vs.toList cs
theorem pI.plain {w:World}{O:Nat→Prop}{M:Mem}{E:Emb}{blk:Nat}{cs:List PV}(ho:isObj cs=false):pI w O M E blk cs=∃(vs:Array Value) (T:TypeId),w.heap[blk]?=some (.cells vs T (0,0))∧aK w O M E vs.toList cs:=by
 unfold pI
 split
 ·cases ho
 ·cases ho
 ·cases ho
 ·rfl
theorem pI.mk {w:World}{O:Nat→Prop}{M:Mem}{E:Emb}{blk:Nat}{cs:List PV}{vs:Array Value}{T:TypeId}(h:w.heap[blk]?=some (.cells vs T (0,0)))(hr:aK w O M E vs.toList cs):pI w O M E blk cs:=by
 rw[pI.plain hr.Tc];exact⟨vs,T,h,hr⟩
theorem pI.obj {w:World}{O:Nat→Prop}{M:Mem}{E:Emb}{blk:Nat}{cs:List PV}(h:pI w O M E blk cs):∃o,w.heap[blk]?=some o:=by
 unfold pI at h
 split at h
 ·obtain⟨es,clock,h,_⟩:=h;exact⟨_,h⟩
 ·obtain⟨tmps,_,h,_⟩:=h;exact⟨_,h⟩
 ·exact⟨_,h⟩
 ·obtain⟨vs,T,h,_⟩:=h;exact⟨_,h⟩
theorem pI.Tc {w:World}{O:Nat→Prop}{M:Mem}{E:Emb}{blk:Nat}{cs:List PV}{vs:Array Value}{T:TypeId}{fz:Nat×Nat}(h:pI w O M E blk cs)(hg:w.heap[blk]?=some (.cells vs T fz)):isObj cs=false:=by
 unfold pI at h
 split at h
 ·obtain⟨es,clock,h,_⟩:=h;rw[hg]at h;cases h
 ·obtain⟨tmps,_,h,_⟩:=h;rw[hg]at h;cases h
 ·rw[hg]at h;cases h
 ·obtain⟨vs,T,h,hr⟩:=h;exact hr.Tc
theorem pI.move {w w':World}{O O':Nat→Prop}{M M':Mem}{E E':Emb}{blk:Nat}{cs:List PV}(h:pI w O M E blk cs)(hb:∀o,w.heap[blk]?=some o→w'.heap[blk]?=some o)
  (hk:∀b o,¬O b→w.heap[b]?=some o→w'.heap[b]?=some o∧¬O' b)(hr:∀(vs:List Value) (ps:List PV),(∀p∈ps,p∈cs)→aK w O M E vs ps→aK w' O' M' E' vs ps):pI w' O' M' E' blk cs:=by
 unfold pI at h⊢
 split at h
 ·obtain⟨es,clock,h,h1,h2⟩:=h;exact⟨es,clock,hb _ h,h1.mono hk,h2.mono hk⟩
 ·obtain⟨tmps,h0,h,h1⟩:=h;exact⟨tmps,h0,hb _ h,hr _ _ (fun p hp=>by simp[hp]) h1⟩
 ·exact hb _ h
 ·obtain⟨vs,T,h,h1⟩:=h;exact⟨vs,T,hb _ h,hr _ _ (fun _ hp=>hp) h1⟩
structure Ctx where
 P:Program
 low:Nat→Prop
 G:World→Prop
 keeps:∀w w':World,G w→(∀b,low b→w'.heap[b]?=w.heap[b]?)→G w'
structure Sim (C:Ctx) (X:Nat→Prop) (w:World) (M:Mem) (E:Emb):Prop where
 glob:C.G w
 iE:∀b,C.low b→X b
 xlt:∀b,X b→b<w.heap.size
 ig:E.bx.length=M.boxes.length
 aY:E.ar.length=M.aA.length
 box:∀(b:Nat) (cs:List PV),M.boxes[b]?=some (some cs)→∃blk:Nat,E.bx[b]?=some blk∧¬X blk∧pI w (away X M E) M E blk cs
 arr:∀(k:Nat) (A:Arr),M.aA[k]?=some (some A)→0<A.sz∧(∀x∈A.elems,x.fits A.sz=true)∧(A.st=1→∃q,E.ar[k]?=some (some q))∧
  ∀(blk o e:Nat),E.ar[k]?=some (some (blk,o,e))→¬X blk∧∃(vs:Array Value) (T:TM vs.size),w.heap[blk]?=some (.cells vs T.ty T.fr)∧o+A.elems.length*A.sz≤e∧e≤vs.size∧
   aQ w (away X M E) ((vs.toList.drop o).take (A.elems.length*A.sz)) (flat A.elems)
 bb:∀(b b':Nat) (cs cs':List PV) (blk:Nat),M.boxes[b]?=some (some cs)→M.boxes[b']?=some (some cs')→E.bx[b]?=some blk→E.bx[b']?=some blk→b=b'
 aa:∀(k k':Nat) (A A':Arr) (blk o e o' e':Nat),M.aA[k]?=some (some A)→M.aA[k']?=some (some A')→E.ar[k]?=some (some (blk,o,e))→E.ar[k']?=some (some (blk,o',e'))→k=k'
 ba:∀(b k:Nat) (cs:List PV) (A:Arr) (blk o e:Nat),M.boxes[b]?=some (some cs)→M.aA[k]?=some (some A)→E.bx[b]?=some blk→E.ar[k]?=some (some (blk,o,e))→False
def Fin (C:Ctx)(X:Nat→Prop)(w:World)(M:Mem)(E:Emb)(K:PV→Mem→Prop)(KP:DV→Mem→Prop)(w':World):Ending→Prop
 | .returned v=>∃p M' E',K p M'∧Sim C X w' M' E'∧From w M E w' M' E'∧Rep w' (away X M' E') M' E' v p
 | .panicked chain=>∃v d M' E',chain=[{v,recovered:=false}]∧KP d M'∧Sim C X w' M' E'∧From w M E w' M' E'∧bf w' (away X M' E') v d
 | .outgrown=>False
def SC (C:Ctx)(f:FuncId)(args:List PV)(M:Mem)(K:PV→Mem→Prop)(KP:DV→Mem→Prop):Prop:=
 ∀(X:Nat→Prop) (w:World) (E:Emb) (vals:List Value),Sim C X w M E→aK w (away X M E) M E vals args→
  Calls C.P f vals.toArray w fun e w'=>Fin C X w M E K KP w' e
def bH:Mem:=⟨[],[],[]⟩
def rowsOf (as:List Arr):Mem:=⟨[],[],as.map some⟩
def Pure (C:Ctx)(f:FuncId)(args:List DV)(r:PV)(as:List Arr):Prop:=
 ∀(X:Nat→Prop) (w:World) (vals:List Value),C.G w→(∀b,C.low b→X b)→(∀b,X b→b<w.heap.size)→aQ w X vals args→
  Calls C.P f vals.toArray w fun e w'=>∃v E',e= .returned v∧Sim C X w' (rowsOf as) E'∧From w bH ⟨[],[]⟩ w' (rowsOf as) E'∧Rep w' (away X (rowsOf as) E') (rowsOf as) E' v r
def jd:List PV→Option (List DV)
 | []=>some []
 | .d x::l=>(jd l).map (x::·)
 | _::_=>none
def G5 (cs:List PV):PV:=match jd cs with|some ds=> .d (.agg ds)|none=> .agg cs
def QE (cs:List PV):PV:=match jd cs with|some ds=> .d (.tup ds)|none=> .tup cs
def splice {α:Type}(cs:List α)(off:Nat)(new:List α):List α:=cs.take off++new++cs.drop (off+new.length)
def setCells (x:DV)(off:Nat)(ds:List DV):DV:=match x with| .agg cs=> .agg (splice cs off ds)| _=>ds.getD 0 default
def Mem.row (M:Mem)(k ver:Nat):Option Arr:=match M.aA[k]? with|some (some A)=>if A.ver=ver then some A else none| _=>none
def Mem.box (M:Mem)(b:Nat):Option (List PV):=match M.boxes[b]? with|some (some cs)=>some cs| _=>none
def eU (M:Mem):PV→Option DV
 | .d x=>some x
 | .tsl k ver skip=>(M.row k ver).map fun A=> .slice false (A.elems.drop skip)
 | .mref b=>match M.box b with|some [.iY l]=>some (.map (some l))| _=>none
 | _=>none
def bW (M:Mem):List PV→Option (List DV)
 | []=>some []
 |c::cs=>match eU M c,bW M cs with|some x,some xs=>some (x::xs)| _,_=>none
def datum (M:Mem):PV→Option DV
 | .d x=>some x
 | .tsl k ver skip=>(M.row k ver).map fun A=> .slice false (A.elems.drop skip)
 | .ptr b off=>match M.box b with|some cs=>(bW M cs).map fun ds=> .aX (ds.drop off)|none=>none
 | .func fn f c=>match bW M f,bW M c with|some df,some dc=>some (.func fn df dc)| _,_=>none
 | .agg cs=>(bW M cs).map .agg
 | .tup cs=>(bW M cs).map .tup
 | .mref b=>match M.box b with|some [.iY l]=>some (.map (some l))| _=>none
 | _=>none
def xG:PV→List Nat| .tsl k _ _=>[k]| _=>[]
def oC (M:Mem):PV→List Nat
 | .tsl k _ _=>[k]
 | .ptr b _=>match M.box b with|some cs=>cs.flatMap xG|none=>[]
 | .func _ f c=>f.flatMap xG++c.flatMap xG
 | .agg cs=>cs.flatMap xG
 | .tup cs=>cs.flatMap xG
 | _=>[]
def xH:PV→List Nat| .mref b=>[b]| _=>[]
def oD (M:Mem):PV→List Nat
 | .ptr b _=>b::(match M.box b with|some cs=>cs.flatMap xH|none=>[])
 | .func _ f c=>f.flatMap xH++c.flatMap xH
 | .agg cs=>cs.flatMap xH
 | .tup cs=>cs.flatMap xH
 | .mref b=>[b]
 | _=>[]
def Qv (ks:List Nat)(l:List (Option Arr)):List (Option Arr):=ks.foldl (fun l k=>l.modify k (Option.map fun A=>{A with st:=2})) l
def Mem.frz (M:Mem)(ps:List PV):Mem:={M with fz:=ps.flatMap (oD M)++M.fz,aA:=Qv (ps.flatMap (oC M)) M.aA}
def dD (M:Mem):List PV→Option (List DV)
 | []=>some []
 |c::cs=>match datum M c,dD M cs with|some x,some xs=>some (x::xs)| _,_=>none
def DV.strip:DV→DV
 | .slice _ xs=> .slice false xs
 | .agg cs=> .agg (cs.map fun| .slice _ xs=> .slice false xs|c=>c)
 |x=>x
def lW (n:Nat):PV→PV
 | .d x=> .d x
 | .tsl k ver skip=> .tsl (n+k) ver skip
 | _=> .dead
def X9 (n:Nat):PV→PV
 | .agg cs=> .agg (cs.map (lW n))
 |p=>lW n p
def PV.shift (n:Nat):PV→PV
 | .agg cs=> .agg (cs.map (lW n))
 | .tup cs=> .tup (cs.map (X9 n))
 |p=>lW n p
inductive POp where
 |mov
 |jV (sz:Nat)
 |pick
 |alloc (i:Nat) (zs:List DV)
 |box (i:Nat)
 |build (zs:List DV) (ps:List (Nat×Nat))
 |iH (sz:Nat) (zs:List DV) (ps:List Nat)
 |load (agg:Bool) (n:Nat)
 |Oi (agg:Bool) (n:Nat)
 |store (n:Nat)
 |aW
 |bin (op:BinOp)
 |Qg (neq:Bool) (ks:List Nat)
 |abf (neq:Bool)
 |isNil (neq:Bool)
 |un (op:UnOp)
 |conv (k:IntKind)
 |mkI (t:TypeId)
 |mkF (fn:Fn) (nf:Nat)
 |RV (lo hi:Bool)
 |RU (sz:Nat) (lo hi max:Bool)
 |fld (off:Nat)
 |WH (agg:Bool) (off n:Nat)
 |bC (sz:Nat)
 |abW
 |WQ (agg:Bool) (sz len:Nat)
 |ext (i:Nat)
 |call (f:FuncId)
 |Qh (f:FuncId)
 |JE (agg:Bool) (n:Nat) (f:FuncId)
 |Ap (f:FuncId)
 |iZ (f:FuncId)
 |ak (f:FuncId)
 |je
 |app (sz:Nat) (st1:Bool)
 |agz (sz:Nat)
 |len
 |Kq
 |ach (n:Nat)
 |La (mx:Bool)
 |panic
 |Xb (ks:List Nat) (z:DV)
 |mkRow (sz:Nat) (z:DV)
 |b2s
 |s2b
 |clr (sz:Nat) (z:DV)
 |tas (t:TypeId) (z:DV)
 |mkMap (i:Nat)
 |ae3 (ks:List Nat)
 |qc (sz:Nat) (zs:List DV) (ps:List Nat)
 |adq (sz:Nat)
 |adp (sz:Nat)
 |copy (sz:Nat)
 |IX (neq:Bool)
 |rngS (i:Nat)
 |acw
 |inv (name:String)
 |shf (op:BinOp)
 |Ba (neq:Bool)
 |Oe (sz len:Nat)
 |YL (agg:Bool) (sz len:Nat)
 |NM (ok:Bool) (ks:List Nat) (z:DV)
 |ae2 (ks:List Nat)
 |ae0 (ks:List Nat)
 deriving Inhabited
inductive Opd where
 |t (n:Nat)
 |c (x:DV)
 deriving Inhabited
structure PO where
 dst:Option Nat
 op:POp
 args:List Opd
 g:Option (Nat×Bool)
 fl:Nat
 deriving Inhabited
inductive aB where
 |skip
 |region (draw:Bool) (ops:List PO) (ae5:Nat) (keep fz:List Nat)
 |seq (a b:aB)
 |cond (c:Opd) (thn els:aB)
 |block (id:Nat) (body:aB)
 |loop (body:aB)
 |exit (id:Nat)
 |scope (body:aB)
 |label (l:Nat)
 |ret
 |xB (f:Opd) (ps keys:List Nat) (asg body:aB)
 deriving Inhabited
structure St where
 env:List (Nat×PV)
 mem:Mem
def look:List (Nat×PV)→Nat→PV
 | [],_=> .dead
 |(k,v)::l,t=>bif k==t then v else look l t
def St.get (s:St)(t:Nat):PV:=look s.env t
def St.val (s:St):Opd→PV| .t n=>look s.env n| .c x=> .d x
def put (l:List (Nat×PV))(dst:Option Nat)(v:PV):List (Nat×PV):=match dst with|some d=>(d,v)::l|none=>l
def iI (l:List (Nat×PV))(ks:List Nat):List (Nat×PV):=ks.map fun k=>(k,look l k)
def PV.wS:PV→Bool| .dead=>true| _=>false
def PV.isAgg:PV→Bool| .agg _=>true| .d (.agg _)=>true| _=>false
def nV (cs:List PV):List (Nat×Nat)→List PV→Option (List PV)
 | [],[]=>some cs
 |(off,n)::ps,v::vs=>if v.wS=false∧v.cells.length=n∧off+n≤cs.length then nV (splice cs off v.cells) ps vs else none
 | _,_=>none
def zU (sz:Nat)(xs:List DV):List Nat→List DV→Option (List DV)
 | [],[]=>some xs
 |i::is,v::vs=>if v.cells.length=sz∧i<xs.length then zU sz (xs.set i v) is vs else none
 | _,_=>none
def oK (op:BinOp)(k:IntKind)(a b:Int)(K:DV→Prop):Prop:=
 match op with
 | .add=>K (.int k (k.wrap (a+b)))
 | .sub=>K (.int k (k.wrap (a - b)))
 | .mul=>K (.int k (k.wrap (a*b)))
 | .quo=>b≠0∧K (.int k (k.wrap (a.tdiv b)))
 | .rem=>b≠0∧K (.int k (a.tmod b))
 | .eql=>K (.bool (a==b))
 | .neq=>K (.bool (a !=b))
 | .lss=>K (.bool (decide (a<b)))
 | .leq=>K (.bool (decide (a≤b)))
 | .gtr=>K (.bool (decide (a>b)))
 | .geq=>K (.bool (decide (a≥b)))
 | .and=>K (.int k (k.wrap ((BitVec.ofInt k.bits a&&&BitVec.ofInt k.bits b).toNat:Int)))
 | .or=>K (.int k (k.wrap ((BitVec.ofInt k.bits a|||BitVec.ofInt k.bits b).toNat:Int)))
 | .xor=>K (.int k (k.wrap ((BitVec.ofInt k.bits a ^^^ BitVec.ofInt k.bits b).toNat:Int)))
 | .andNot=>K (.int k (k.wrap ((BitVec.ofInt k.bits a&&& ~~~BitVec.ofInt k.bits b).toNat:Int)))
 | _=>False
def FX (op:BinOp)(a b:ByteArray)(K:DV→Prop):Prop:=
 match op with
 | .add=>a.size+b.size≤9223372036854775807∧K (.str (a++b))
 | .eql=>K (.bool (a.toList==b.toList))
 | .neq=>K (.bool (!(a.toList==b.toList)))
 | _=>False
def Ub (op:BinOp)(x y:PV)(K:DV→Prop):Prop:=
 match x,y with
 | .d (.int k a), .d (.int k' b)=>k=k'∧oK op k a b K
 | .d (.str a), .d (.str b)=>FX op a b K
 | _,_=>False
def dB:List Nat→List DV→List DV→Option Bool
 | [],[],[]=>some true
 |1::ks, .int k a::l, .int k' b::m=>if k=k' then(dB ks l m).map fun t=>(a==b)&&t else none
 |0::ks, .bool a::l, .bool b::m=>(dB ks l m).map fun t=>(a==b)&&t
 |2::ks, .str a::l, .str b::m=>(dB ks l m).map fun t=>(a.toList==b.toList)&&t
 | _,_,_=>none
def I4 (ks:List Nat):List (DV×DV)→List DV→Option (Option DV)
 | [],_=>some none
 |(.agg k',v)::l,k=>match dB ks k k' with|some true=>some (some v)|some false=>I4 ks l k|none=>none
 | _::_,_=>none
def QG (ks:List Nat):List (DV×DV)→List DV→DV→Option (List (DV×DV))
 | [],k,v=>some [(.agg k,v)]
 |(.agg k',v')::l,k,v=>match dB ks k k' with|some true=>some ((.agg k,v)::l)|some false=>(QG ks l k v).map ((.agg k',v')::·)|none=>none
 | _::_,_,_=>none
def iF (ks:List Nat):DV→DV→Option Bool
 | .agg k, .agg k'=>if ks.isEmpty then none else dB ks k k'
 | .int k n, .int k' n'=>if ks.isEmpty∧k=k' then some (n==n')else none
 | _,_=>none
def sN (ks:List Nat):List (DV×DV)→DV→Option (Option DV)
 | [],_=>some none
 |(k',v)::l,k=>match iF ks k k' with|some true=>some (some v)|some false=>sN ks l k|none=>none
def JJ (ks:List Nat):List (DV×DV)→DV→DV→Option (List (DV×DV))
 | [],k,v=>some [(k,v)]
 |(k',v')::l,k,v=>match iF ks k k' with|some true=>some ((k,v)::l)|some false=>(JJ ks l k v).map ((k',v')::·)|none=>none
def JI (ks:List Nat):List (DV×DV)→DV→Option (List (DV×DV))
 | [],_=>some []
 |(k',v')::l,k=>match iF ks k k' with|some true=>some l|some false=>(JI ks l k).map ((k',v')::·)|none=>none
def KW (ok:Bool)(z:DV)(r:Option DV):DV:=bif ok then .tup [r.getD z, .bool r.isSome]else r.getD z
def yY (agg:Bool)(sz:Nat):Nat→List DV→List DV
 |0,_=>[]
 |n+1,cs=>(bif agg then .agg (cs.take sz)else cs.headD default)::yY agg sz n (cs.drop sz)
def bytesOf:List DV→Option (List UInt8)
 | []=>some []
 | .int .u8 n::l=>(bytesOf l).map (UInt8.ofNat n.toNat::·)
 | _::_=>none
def adC (op:UnOp)(x:PV)(K:DV→Prop):Prop:=
 match op,x with
 | .neg, .d (.int k n)=>K (.int k (k.wrap (0 - n)))
 | .not, .d (.bool b)=>K (.bool !b)
 | _,_=>False
def ld (agg:Bool)(n off:Nat)(cs:List PV):PV:=bif agg then G5 ((cs.drop off).take n)else cs.getD off .dead
def ldD (agg:Bool)(n off:Nat)(cs:List DV):PV:= .d (bif agg then .agg ((cs.drop off).take n)else cs.getD off default)
def bQ (agg:Bool)(n:Nat)(x:PV)(M:Mem)(K:PV→Prop):Prop:=
 match x with
 | .ptr b off=>match M.box b with|some cs=>off+n≤cs.length∧K (ld agg n off cs)|none=>False
 | .d (.aX cs)=>n≤cs.length∧K (ldD agg n 0 cs)
 | .jY k ver i off=>match M.row k ver with
  |some A=>off+n≤(A.elems.getD i default).cells.length∧K (ldD agg n off (A.elems.getD i default).cells)
  |none=>False
 | _=>False
def qH (agg:Bool)(n:Nat)(x:PV)(M:Mem)(K:PV→Prop):Prop:=
 match x with
 | .ptr b off=>match M.box b with|some cs=>off+n≤cs.length∧K (ld agg n off cs)|none=>False
 | .d (.aX cs)=>n≤cs.length∧K (ldD agg n 0 cs)
 | _=>False
def jH (n:Nat)(x v:PV)(M:Mem)(K:Mem→Prop):Prop:=
 match x with
 | .ptr b off=>match M.box b with
  |some cs=>b∉M.fz∧v.cells.length=n∧v.cells.all PV.one=true∧off+n≤cs.length∧K {M with boxes:=M.boxes.set b (some (splice cs off v.cells))}
  |none=>False
 | .jY k ver i off=>match M.row k ver,jd v.cells with
  |some A,some ds=>A.st=1∧0<n∧ds.length=n∧ds.all DV.one=true∧off+n≤(A.elems.getD i default).cells.length∧
    K {M with aA:=M.aA.set k (some {A with elems:=A.elems.set i (setCells (A.elems.getD i default) off ds)})}
  | _,_=>False
 | _=>False
def vI (x:PV)(M:Mem)(K:Int→Prop):Prop:=
 match x with
 | .d (.slice _ xs)=>K xs.length
 | .tsl k ver skip=>match M.row k ver with|some A=>K ((A.elems.length - skip:Nat):Int)|none=>False
 | _=>False
def xX (sz:Nat)(x i:PV)(M:Mem)(K:PV→Prop):Prop:=
 match x,i with
 | .d (.slice _ xs), .d (.int _ n)=>0≤n∧n.toNat<xs.length∧(xs.getD n.toNat default).cells.length=sz∧K (.d (.aX (xs.getD n.toNat default).cells))
 | .tsl k ver skip, .d (.int _ n)=>match M.row k ver with
  |some A=>A.sz=sz∧0≤n∧skip+n.toNat<A.elems.length∧K (.jY k ver (skip+n.toNat) 0)
  |none=>False
 | _,_=>False
def nK (off:Nat)(x:PV)(M:Mem)(K:PV→Prop):Prop:=
 match x with
 | .ptr b o=>K (.ptr b (o+off))
 | .d (.aX cs)=>off≤cs.length∧K (.d (.aX (cs.drop off)))
 | .jY k ver i o=>match M.row k ver with|some _=>K (.jY k ver i (o+off))|none=>False
 | _=>False
def Dv (sz:Nat)(x:PV)(M:Mem):Option (List DV):=
 match x with
 | .d (.slice _ xs)=>some xs
 | .d (.str s)=>if sz=1 then some (s.data.toList.map fun b=> .int .u8 b.toNat)else none
 | .tsl k ver skip=>(M.row k ver).map fun A=>A.elems.drop skip
 | _=>none
def mP (sz:Nat)(st1:Bool)(s x:PV)(M:Mem)(K:PV→Mem→Prop):Prop:=
 match Dv sz x M with
 |none=>False
 |some ys=>0<sz∧(∀y∈ys,y.fits sz=true)∧(st1=true→ys≠[])∧
  match s with
  | .d (.slice ex xs)=>ex=true∧(∀y∈xs,y.fits sz=true)∧xs.length+ys.length≤1073741824∧
    K (.tsl M.aA.length 0 0) {M with aA:=M.aA++ [some ⟨sz,xs++ys,0,bif st1 then 1 else 0⟩]}
  | .tsl k ver skip=>match M.row k ver with
   |some A=>A.sz=sz∧A.st≠2∧A.elems.length+ys.length≤1073741824∧
     K (.tsl k (ver+1) 0) {M with aA:=M.aA.set k (some ⟨sz,A.elems.drop skip++ys,ver+1,bif st1 then 1 else A.st⟩)}
   |none=>False
  | _=>False
def dI:Bool→List PV→(Option Int→List PV→Prop)→Prop
 |false,l,K=>K none l
 |true, .d (.int _ n)::l,K=>K (some n) l
 | _,_,_=>False
def Dh (lo hi:Bool)(args:List PV)(K:DV→Prop):Prop:=
 match args with
 | .d (.str s)::l=>dI lo l fun a l=>dI hi l fun b l=>dI false l fun m l=>l=[]∧m=none∧
   0≤a.getD 0∧a.getD 0≤b.getD s.size∧b.getD s.size≤s.size∧K (.str (s.extract (a.getD 0).toNat (b.getD s.size).toNat))
 | _=>False
def Df (sz:Nat)(lo hi max:Bool)(args:List PV)(M:Mem)(K:PV→Mem→Prop):Prop:=
 match args with
 | .d (.slice ex xs)::l=>dI lo l fun a l=>dI hi l fun b l=>dI max l fun m l=>l=[]∧(∀x∈xs,x.cells.length=sz)∧
   0≤a.getD 0∧a.getD 0≤b.getD xs.length∧b.getD xs.length≤xs.length∧(∀m',m=some m'→b=some m')∧
   K (.d (.slice (max||(ex&& !hi)) ((xs.take (b.getD xs.length).toNat).drop (a.getD 0).toNat))) M
 | .tsl k ver skip::l=>dI lo l fun a l=>dI hi l fun b l=>dI max l fun m l=>l=[]∧
   match M.row k ver with
   |some A=>(match b with
    |none=>A.sz=sz∧m=none∧0≤a.getD 0∧a.getD 0≤(A.elems.length - skip:Nat)∧K (.tsl k ver (skip+(a.getD 0).toNat)) M
    |some b=>A.sz=sz∧0≤a.getD 0∧a.getD 0≤b∧b≤(A.elems.length - skip:Nat)∧(∀m',m=some m'→b=m')∧
      K (.d (.slice max (((A.elems.drop skip).take b.toNat).drop (a.getD 0).toNat))) (M.frz [.tsl k ver skip]))
   |none=>False
 | _=>False
def Np (P:Program)(t:TypeId)(name:String):Option FuncId:=
 match P.info? t with
 |some i=>match i.methods.find? (·.name==name)with
  |some m=>if m.path.isEmpty then(match P.underlying t with|some (.pointer _)=>none|some _=>(match m.func with|some (f,false)=>some f| _=>none)|none=>none)else none
  |none=>none
 |none=>none
def callable (P:Program)(f:FuncId):Bool:=
 match P.funcs[f]? with
 |some fn=>fn.body.isSome&& !(fn.name== "runtime.NumGoroutine")
 |none=>false
def IW:DV→Bool
 | .int _ _=>true
 | .bool _=>true
 | .str _=>true
 | .nilPtr=>true
 | .nilIface=>true
 | .nilFunc=>true
 | .agg cs=>cs.all fun| .int _ _=>true| .bool _=>true| .str _=>true| _=>false
 | .tup cs=>cs.all fun| .int _ _=>true| .bool _=>true| .str _=>true| .agg cs=>(cs.all fun| .int _ _=>true| .bool _=>true| .str _=>true| _=>false)| _=>false
 | _=>false
def Rz (C:Ctx)(f:FuncId)(args:List PV)(M:Mem)(K:PV→Mem→Prop):Prop:=
 ∃ds,dD M args=some ds∧∃r as,Pure C f (ds.map DV.strip) r as∧
  ((∃x,r= .d x∧IW x=true∧as=[]∧K r M)∨((∀A∈as,A.st≠2)∧K (r.shift M.aA.length) {M.frz args with aA:=(M.frz args).aA++as.map some}))
def RD (C:Ctx)(f:FuncId)(args:List PV)(M:Mem)(K:PV→Mem→Prop):Prop:=
 ∃ds,dD M args=some ds∧∃x,Pure C f (ds.map DV.strip) (.d x) []∧IW x=true∧K (.d x) M
def XZ (C:Ctx)(f:FuncId)(args:List PV)(M:Mem)(K:PV→Mem→Prop):Prop:=
 ∃ds,jd args=some ds∧∃x,Pure C f (ds.map DV.strip) (.d x) []∧K (.d x) M
def SY (C:Ctx)(b:Nat)(args:List PV)(M:Mem)(K:PV→Mem→Prop)(KP:DV→Mem→Prop):Prop:=
 ∀(X:Nat→Prop) (w:World) (E:Emb) (vals:List Value) (l:Nat),Sim C X w M E→aK w (away X M E) M E vals args→E.bx[b]?=some l→
  ∃fn tmps as body,(Instr.yield l vals.toArray).run C.P w= .ok (.round l fn tmps as body) w∧RoundIn Fence.wide 0 C.P l fn tmps as body w fun e w'=>Fin C X w M E K KP w' e
def Yg (x:PV)(M:Mem):Option (List DV):=
 match x with
 | .d (.slice _ xs)=>some xs
 | .tsl k ver skip=>(M.row k ver).map fun A=>A.elems.drop skip
 | .psl k ver skip len=>(M.row k ver).map fun A=>(A.elems.drop skip).take len
 | _=>none
def PV.isD:PV→Bool| .d _=>true| _=>false
def CY (base fl:Nat)(args:List PV):Prop:=
 match fl with
 |0=>True
 |1=>args.all PV.isD=true
 |2=>match args with| .ptr b _::_=>b<base| .d _::_=>True| _=>False
 |3=>match args with| .jY _ _ _ _::_=>True| _=>False
 |i+4=>match args with| .ptr b _::_=>b=base+i| _=>False
def aj (C:Ctx)(base:Nat)(op:POp)(args:List PV)(M:Mem)(K:PV→Mem→Prop)(KP:DV→Mem→Prop):Prop:=
 match op with
 | .mov=>match args with| [x]=>K x M| _=>False
 | .jV sz=>match args with
  | [.d (.slice ex xs)]=>ex=true∧0<sz∧(∀e∈xs,e.fits sz=true)∧K (.tsl M.aA.length 0 0) {M with aA:=M.aA++ [some ⟨sz,xs,0,0⟩]}
  | [.tsl k ver skip]=>K (.tsl k ver skip) M
  | _=>False
 | .pick=>match args with| [.d (.bool t),a,b]=>K (bif t then a else b) M| _=>False
 | .alloc i zs=>match args with| []=>M.boxes[base+i]?=some none∧K (.ptr (base+i) 0) {M with boxes:=M.boxes.set (base+i) (some (zs.map .d))}| _=>False
 | .box i=>match args with| [x]=>x.wS=false∧M.boxes[base+i]?=some none∧K (.ptr (base+i) 0) {M with boxes:=M.boxes.set (base+i) (some x.cells)}| _=>False
 | .build zs ps=>(match nV (zs.map .d) ps args with|some cs=>K (G5 cs) M|none=>False)
 | .iH sz zs is=>(match dD M args with|some ds=>(match zU sz zs is (ds.map DV.strip)with|some xs=>K (.d (.slice true xs)) (M.frz args)|none=>False)|none=>False)
 | .load agg n=>match args with| [x]=>bQ agg n x M fun v=>K v M| _=>False
 | .Oi agg n=>match args with| [x]=>qH agg n x M fun v=>K v M| _=>False
 | .store n=>match args with| [x,v]=>jH n x v M fun M'=>K .dead M'| _=>False
 | .aW=>match args with
  | [.ptr b o]=>K (.ptr b o) M
  | [.d (.aX cs)]=>K (.d (.aX cs)) M
  | _=>False
 | .bin op=>match args with| [x,y]=>Ub op x y fun v=>K (.d v) M| _=>False
 | .Qg neq ks=>match args with| [.d (.agg a), .d (.agg b)]=>(match dB ks a b with|some t=>K (.d (.bool (t !=neq))) M|none=>False)| _=>False
 | .abf neq=>match args with| [.d (.bool a), .d (.bool b)]=>K (.d (.bool ((a==b) !=neq))) M| _=>False
 | .isNil neq=>match args with| [.d (.slice _ xs), .d (.slice true [])]=>(xs≠[]→K (.d (.bool neq)) M)∧(xs=[]→∀b,K (.d (.bool b)) M)| _=>False
 | .un op=>match args with| [x]=>adC op x fun v=>K (.d v) M| _=>False
 | .conv k=>match args with| [.d (.int _ n)]=>K (.d (.int k (k.wrap n))) M| _=>False
 | .mkI t=>match args with| [x]=>(match datum M x with|some d=>K (.d (.iface t d)) (M.frz [x])|none=>False)| _=>False
 | .mkF fn nf=>(match jd args with|some ds=>K (.d (.func fn (ds.take nf) (ds.drop nf))) M|none=>K (.func fn (args.take nf) (args.drop nf)) M)
 | .RV lo hi=>Dh lo hi args fun v=>K (.d v) M
 | .RU sz lo hi max=>Df sz lo hi max args M K
 | .fld off=>match args with| [x]=>nK off x M fun v=>K v M| _=>False
 | .WH agg off n=>match args with| [x]=>x.isAgg=true∧off+n≤x.cells.length∧K (ld agg n off x.cells) M| _=>False
 | .bC sz=>match args with| [x,i]=>xX sz x i M fun v=>K v M| _=>False
 | .abW=>match args with| [.d (.str s), .d (.int _ n)]=>0≤n∧n.toNat<s.size∧K (.d (.int .u8 (s.data.getD n.toNat 0).toNat)) M| _=>False
 | .WQ agg sz len=>match args with| [x, .d (.int _ n)]=>x.isAgg=true∧0≤n∧n<len∧n.toNat*sz+sz≤x.cells.length∧K (ld agg sz (n.toNat*sz) x.cells) M| _=>False
 | .ext i=>match args with
  | [.d (.tup vs)]=>(match vs[i]? with|some v=>K (.d v) M|none=>False)
  | [.tup vs]=>(match vs[i]? with|some v=>K v M|none=>False)
  | _=>False
 | .call f=>SC C f args M K KP
 | .Qh f=>∃p M',SC C f args M (fun q N=>q=p∧N=M') (fun _ _=>False)∧K p M'
 | .JE agg n f=>match args with|a::rest=>bQ agg n a M (fun v=>SC C f rest M (fun p M'=>bQ agg n a M' (fun v'=>v'=v)∧K p M') KP)| _=>False
 | .Ap f=>Rz C f args M K
 | .iZ f=>RD C f args M K
 | .ak f=>XZ C f args M K
 | .je=>match args with
  | .d (.func (.func f) fs cs)::args=>callable C.P f=true∧SC C f (fs.map .d++args++cs.map .d) M K KP
  | .func (.func f) fs cs::args=>callable C.P f=true∧SC C f (fs++args++cs) M K KP
  | .qY b::args=>SY C b args M K KP
  | _=>False
 | .app sz st1=>match args with| [s,x]=>mP sz st1 s x M K| _=>False
 | .agz sz=>match args with| [s,x]=>mP sz false s x M fun v M'=>∃d,datum M' v=some d∧K (.d d) (M'.frz [v])| _=>False
 | .len=>match args with| [x]=>vI x M fun n=>K (.d (.int .i64 n)) M| _=>False
 | .Kq=>match args with| [.d (.str s)]=>K (.d (.int .i64 s.size)) M| _=>False
 | .ach n=>K (.d (.int .i64 n)) M
 | .La mx=>match args with| [.d (.int k a), .d (.int _ b)]=>K (.d (.int k (bif mx then(if b>a then b else a)else(if b<a then b else a)))) M| _=>False
 | .panic=>match args with| [x]=>(match datum M x with|some (.iface t d)=>KP (.iface t d) (M.frz [x])| _=>False)| _=>False
 | .Xb ks z=>match args with| [.d (.map (some l)), .d (.agg k)]=>(match dB ks k k,I4 ks l k with|some true,some r=>K (.d (r.getD z)) M| _,_=>False)| _=>False
 | .mkRow sz z=>match args with
  | [.d (.int _ n), .d (.int _ m)]=>n=m∧0≤n∧n≤1048576∧0<sz∧z.fits sz=true∧K (.tsl M.aA.length 0 0) {M with aA:=M.aA++ [some ⟨sz,List.replicate n.toNat z,0,1⟩]}
  | _=>False
 | .s2b=>match args with| [.d (.str s)]=>K (.tsl M.aA.length 0 0) {M with aA:=M.aA++ [some ⟨1,s.data.toList.map fun b=> .int .u8 b.toNat,0,1⟩]}| _=>False
 | .b2s=>match args with| [x]=>(match Dv 0 x M with|some xs=>(match bytesOf xs with|some l=>K (.d (.str ⟨l.toArray⟩)) M|none=>False)|none=>False)| _=>False
 | .clr sz z=>match args with
  | [.tsl k ver skip]=>(match M.row k ver with
   |some A=>A.st=1∧A.sz=sz∧z.fits sz=true∧K (.d (.tup [])) {M with aA:=M.aA.set k (some {A with elems:=A.elems.take skip++List.replicate (A.elems.length - skip) z})}
   |none=>False)
  | _=>False
 | .tas t z=>match args with| [.d (.iface t' v)]=>K (.d (.tup [if t'=t then v else z, .bool (decide (t'=t))])) M| _=>False
 | .adp sz=>match args with
  | [.tsl k ver skip, .d (.int _ n)]=>(match M.row k ver with
   |some A=>A.sz=sz∧0≤n∧n≤(A.elems.length - skip:Nat)∧K (.tsl k ver (skip+n.toNat)) M
   |none=>False)
  | _=>False
 | .adq sz=>match args with
  | [.tsl k ver skip, .d (.int _ n)]=>(match M.row k ver with
   |some A=>A.sz=sz∧0≤n∧n≤(A.elems.length - skip:Nat)∧K (.psl k ver skip n.toNat) M
   |none=>False)
  | _=>False
 | .copy sz=>match args with
  | [.tsl k ver skip,x]=>(match M.row k ver,Yg x M with
   |some A,some ys=>A.st=1∧A.sz=sz∧(∀y∈ys,y.fits sz=true)∧
     K (.d (.int .i64 (min ys.length (A.elems.length - skip):Nat))) {M with aA:=M.aA.set k (some {A with elems:=A.elems.take skip++(ys.take (A.elems.length - skip)++A.elems.drop (skip+ys.length))})}
   | _,_=>False)
  | _=>False
 | .IX neq=>match args with
  | [.d (.iface _ _), .d .nilIface]=>K (.d (.bool neq)) M
  | [.d .nilIface, .d .nilIface]=>K (.d (.bool !neq)) M
  | _=>False
 | .rngS i=>match args with| [.d (.str s)]=>M.boxes[base+i]?=some none∧K (.DN (base+i)) {M with boxes:=M.boxes.set (base+i) (some [.KE s 0])}| _=>False
 | .acw=>match args with
  | [.DN b]=>(match M.box b with
   |some [.KE s pos]=>b∉M.fz∧(if pos<s.size then K (.d (.tup [.bool true, .int .i64 pos, .int .i32 (Utf8.decode s pos).1])) {M with boxes:=M.boxes.set b (some [.KE s (pos+(Utf8.decode s pos).2)])}else K (.d (.tup [.bool false])) M)
   | _=>False)
  | _=>False
 | .inv name=>match args with
  | .d (.iface t v)::rest=>∃f,Np C.P t name=some f∧callable C.P f=true∧SC C f (.d v::rest) M K KP
  | _=>False
 | .shf op=>match args with
  | [.d (.int k a), .d (.int _ b)]=>0≤b∧(match op with| .shl=>K (.d (.int k (k.wrap (a*2 ^ min b.toNat k.bits)))) M| .shr=>K (.d (.int k (a.fdiv (2 ^ min b.toNat k.bits)))) M| _=>False)
  | _=>False
 | .mkMap i=>match args with| []=>M.boxes[base+i]?=some none∧K (.mref (base+i)) {M with boxes:=M.boxes.set (base+i) (some [.iY []])}| _=>False
 | .ae3 ks=>match args with
  | [.mref b, .d (.agg k), .d v]=>(match M.box b with
   |some [.iY l]=>b∉M.fz∧(match dB ks k k,QG ks l k v with|some true,some l'=>K .dead {M with boxes:=M.boxes.set b (some [.iY l'])}| _,_=>False)
   | _=>False)
  | _=>False
 | .Ba neq=>match args with
  | [.ptr _ _, .d .nilPtr]=>K (.d (.bool neq)) M
  | [.d (.aX _), .d .nilPtr]=>K (.d (.bool neq)) M
  | [.d .nilPtr, .d .nilPtr]=>K (.d (.bool !neq)) M
  | _=>False
 | .Oe sz len=>match args with
  | [.ptr b o, .d (.int _ n)]=>0≤n∧n<len∧K (.ptr b (o+n.toNat*sz)) M
  | [.d (.aX cs), .d (.int _ n)]=>0≤n∧n<len∧n.toNat*sz≤cs.length∧K (.d (.aX (cs.drop (n.toNat*sz)))) M
  | _=>False
 | .YL agg sz len=>match args with
  | [.d (.aX cs)]=>cs.length=len*sz∧(agg=false→sz=1∧∀c∈cs,c.one=true)∧K (.d (.slice true (yY agg sz len cs))) M
  | _=>False
 | .NM ok ks z=>match args with
  | [.d (.map (some l)), .d k]=>(match iF ks k k,sN ks l k with|some true,some r=>K (.d (KW ok z r)) M| _,_=>False)
  | [.mref b, .d k]=>(match M.box b with
   |some [.iY l]=>(match iF ks k k,sN ks l k with|some true,some r=>K (.d (KW ok z r)) M| _,_=>False)
   | _=>False)
  | _=>False
 | .ae2 ks=>match args with
  | [.mref b, .d k, .d v]=>(match M.box b with
   |some [.iY l]=>b∉M.fz∧(match iF ks k k,JJ ks l k v with|some true,some l'=>K .dead {M with boxes:=M.boxes.set b (some [.iY l'])}| _,_=>False)
   | _=>False)
  | _=>False
 | .ae0 ks=>match args with
  | [.mref b, .d k]=>(match M.box b with
   |some [.iY l]=>b∉M.fz∧(match iF ks k k,JI ks l k with|some true,some l'=>K (.d (.tup [])) {M with boxes:=M.boxes.set b (some [.iY l'])}| _,_=>False)
   | _=>False)
  | _=>False
 | .qc sz zs is=>match jd args with
  |some ds=>(match zU sz zs is (ds.map DV.strip)with
   |some xs=>0<sz∧(∀x∈xs,x.fits sz=true)∧K (.tsl M.aA.length 0 0) {M with aA:=M.aA++ [some ⟨sz,xs,0,1⟩]}
   |none=>False)
  |none=>False
def fU (C:Ctx)(base:Nat)(o:PO)(K:St→Prop)(KP:DV→Mem→Prop)(s:St):Prop:=
 match o.g with
 |none=>CY base o.fl (o.args.map s.val)∧aj C base o.op (o.args.map s.val) s.mem (fun v M=>K ⟨put s.env o.dst v,M⟩) KP
 |some (t,want)=>match look s.env t with
  | .d (.bool x)=>(x=want→CY base o.fl (o.args.map s.val)∧aj C base o.op (o.args.map s.val) s.mem (fun v M=>K ⟨put s.env o.dst v,M⟩) KP)∧(x= !want→K ⟨put s.env o.dst (.d (.tup [])),s.mem⟩)
  | .d (.tup [])=>K ⟨put s.env o.dst (.d (.tup [])),s.mem⟩
  | _=>False
def zA (C:Ctx)(base:Nat):List PO→(St→Prop)→(DV→Mem→Prop)→St→Prop
 | [],K,_,s=>K s
 |o::os,K,KP,s=>fU C base o (fun s'=>zA C base os K KP s') KP s
def zW:List Nat→(St→Prop)→St→Prop
 | [],K,s=>K s
 |t::ts,K,s=>match datum s.mem (look s.env t)with
  |some d=>zW ts K ⟨(t, .d d)::s.env,s.mem.frz [look s.env t]⟩
  |none=>False
inductive Ex where
 |normal
 |exit (id:Nat)
 |ret
 |panic (d:DV)
mutual
def PV.upto (n m:Nat):PV→Bool
 | .d _=>true
 | .ptr b _=>b<n
 | .jY k _ _ _=>k<m
 | .tsl k _ _=>k<m
 | .psl k _ _ _=>k<m
 | .func _ f c=>Si n m f&&Si n m c
 | .agg cs=>Si n m cs
 | .tup cs=>Si n m cs
 | .dead=>true
 | .mref b=>b<n
 | .qY b=>b<n
 | .DN b=>b<n
 | .KE _ _=>true
 | .iY _=>true
 | .gV _=>true
def Si (n m:Nat):List PV→Bool
 | []=>true
 |c::cs=>PV.upto n m c&&Si n m cs
end
def Weak (nb na:Nat)(s s':St):Prop:=
 s'=s∨∃n m,nb≤n∧na≤m∧s'.mem=⟨s.mem.boxes.take n,s.mem.fz.filter (fun b=>decide (b<n)),s.mem.aA.take m⟩∧
  (∀t,look s'.env t= .dead∨(look s'.env t=look s.env t∧(look s'.env t).upto n m=true))∧
  ∀cs∈s'.mem.boxes,∀c∈cs.getD [],c.upto n m=true
def iq (M:Mem)(L:Loop)(st:LoopState)(pd:Option Code)(cells:List PV)(xb:List (Option (List PV)))(xf:List Nat)(xa:List (Option Arr)):Mem:=
 ⟨M.boxes++some (.gV {L with state:=st,pending:=pd}::cells)::xb,xf++M.fz,M.aA++xa⟩
def afterLoop (Q:Ex→St→Prop)(env:List (Nat×PV))(b:Nat)(L:Loop)(M:Mem):Prop:=
 ∃st pd cells,M.boxes[b]?=some (some (.gV {L with state:=st,pending:=pd}::cells))∧st≠ .busy∧b∉M.fz∧
  match pd with
  |none=>Q .normal ⟨env,{M with boxes:=M.boxes.set b (some (.gV {L with state:= .exhausted,pending:=pd}::cells))}⟩
  |some .ret=>Q .ret ⟨env,{M with boxes:=M.boxes.set b (some (.gV {L with state:= .exhausted,pending:=pd}::cells))}⟩
  |some (.exit id)=>Q (.exit id) ⟨env,{M with boxes:=M.boxes.set b (some (.gV {L with state:= .exhausted,pending:=pd}::cells))}⟩
  | _=>False
def akr (b:Nat)(L:Loop)(K:PV→Mem→Prop)(KP:DV→Mem→Prop)(e:Ex)(s:St):Prop:=
 match e with
 | .normal=>∃cells,s.mem.boxes[b]?=some (some (.gV {L with state:= .busy,pending:=none}::cells))∧b∉s.mem.fz∧K (.d (.bool true)) {s.mem with boxes:=s.mem.boxes.set b (some (.gV {L with state:= .ready,pending:=none}::cells))}
 | .ret=>∃cells,s.mem.boxes[b]?=some (some (.gV {L with state:= .busy,pending:=none}::cells))∧b∉s.mem.fz∧K (.d (.bool false)) {s.mem with boxes:=s.mem.boxes.set b (some (.gV {L with state:= .done,pending:=some .ret}::cells))}
 | .exit id=>∃cells,s.mem.boxes[b]?=some (some (.gV {L with state:= .busy,pending:=none}::cells))∧b∉s.mem.fz∧K (.d (.bool false)) {s.mem with boxes:=s.mem.boxes.set b (some (.gV {L with state:= .done,pending:=some (.exit id)}::cells))}
 | .panic d=>KP d s.mem
def alH:PV→Option (FuncId×List PV×List PV)
 | .d (.func (.func g) fs cs)=>some (g,fs.map .d,cs.map .d)
 | .func (.func g) fs cs=>some (g,fs,cs)
 | _=>none
def pwp (C:Ctx)(nb na:Nat):aB→(Ex→St→Prop)→St→Prop
 | .skip,Q,s=>Q .normal s
 | .region _ ops ae5 keep fz,Q,s=>
  zA C s.mem.boxes.length ops (fun s'=>zW fz (Q .normal) ⟨iI s'.env keep,s'.mem⟩) (fun d M=>Q (.panic d) ⟨[],M⟩)
   ⟨s.env,{s.mem with boxes:=s.mem.boxes++List.replicate ae5 none}⟩
 | .seq a b,Q,s=>pwp C nb na a (fun e s'=>match e with| .normal=>pwp C nb na b Q s'|e=>Q e s') s
 | .cond c a b,Q,s=>match s.val c with
  | .d (.bool x)=>(x=true→pwp C nb na a Q s)∧(x=false→pwp C nb na b Q s)
  | _=>False
 | .block id b,Q,s=>pwp C nb na b (fun e s'=>match e with| .exit id'=>if id'=id then Q .normal s' else Q (.exit id') s'|e=>Q e s') s
 | .loop b,Q,s=>∃(I:Nat→St→Prop) (n:Nat),I n s∧
   ∀n s,I n s→pwp C nb na b (fun e s'=>match e with| .normal=>∃n' s'',n'<n∧Weak nb na s' s''∧I n' s''|e=>Q e s') s
 | .exit id,Q,s=>Q (.exit id) s
 | .scope b,Q,s=>pwp C nb na b Q s
 | .label _,Q,s=>Q .normal s
 | .ret,Q,s=>Q .ret s
 | .xB f ps keys asg body,Q,s=>∃g fs cs,alH (s.val f)=some (g,fs,cs)∧callable C.P g=true∧s.mem.boxes.length∉s.mem.fz∧
  ∀L:Loop,L.pending=none→
   (∀(args:List DV) (K:PV→Mem→Prop) (KP:DV→Mem→Prop) (My:Mem),args.length=ps.length→
    My.boxes[s.mem.boxes.length]?=some (some (.gV {L with state:= .ready,pending:=none}::(List.range L.tmps.size).map (look s.env)))→s.mem.boxes.length∉My.fz→
    pwp C nb na asg (fun e s1=>e= .normal∧s1.mem=My∧
     pwp C nb na body (akr s.mem.boxes.length L K KP) ⟨s1.env,{My with boxes:=My.boxes.set s.mem.boxes.length (some (.gV {L with state:= .busy,pending:=none}::(List.range L.tmps.size).map (look s.env)))}⟩)
     ⟨ps.zip (args.map .d)++iI s.env keys,My⟩→
    SY C s.mem.boxes.length (args.map .d) My K KP)→
   SC C g (fs++ [.qY s.mem.boxes.length]++cs) (iq s.mem L .ready none ((List.range L.tmps.size).map (look s.env)) [] [] [])
    (fun _ M=>afterLoop Q s.env s.mem.boxes.length L M) (fun d M=>Q (.panic d) ⟨[],M⟩)
end Go.Am
