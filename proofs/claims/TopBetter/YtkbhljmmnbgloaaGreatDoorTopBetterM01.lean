/-
  Part 1 of a law of desks.
  Conditions: none.
-/
import Derived.WalkKit
import Derived.Deep.LoopGhost
import Derived.Laws.CopyRow
import Derived.OrdersIn
set_option linter.all false
open Bool renaming and_eq_true->F,not_eq_true'->bR
open Nat renaming le_refl->H,lt_of_lt_of_le->ai,mul_le_mul_right->ap,add_mul->az,le_trans->aE,succ_mul->a7,add_assoc->bp,add_sub_cancel_left->bs,add_zero->bv,min_eq_left->bA,add_comm->bX,zero_add->b5,one_mul->cb,le_of_eq->cp
open Option renaming map_eq_some_iff->J,getD_some->bt,map_some->cf,map->cm
open List renaming map_cons->S,mem_append->U,map_nil->V,getElem?_eq_getElem->W,getElem?_append_left->Y,getElem?_eq_some_iff->Z,replicate->ae,getElem_mem->am,drop_drop->an,drop_take->ao,take_of_length_le->aq,flatMap_cons->av,getElem?_set->aw,take_take->ax,all_eq_true->aD,mem_singleton->aL,append_assoc->aR,drop_eq_nil_of_le->a6,mem_cons->a8,drop_append_of_le_length->bc,getD->be,getElem?_append_right->bi,length_append->bj,drop_eq_getElem_cons->bk,mem_or_eq_of_mem_set->bl,length_eq_zero_iff->bq,take_append->br,length_eq_one_iff->bu,append_nil->bw,nil_append->bz,length_singleton->bB,mem_of_mem_drop->bE,getD_cons_zero->bL,getElem?_drop->bN,getElem?_take->bO,size_toArray->bS,length_cons->b7,length_drop->b8,length_take->b9,mem_flatMap->ca,foldl_cons->ce,drop_zero->ch,mapM_cons->cj,range->ck,take_zero->cl,map_map->cn
open Array renaming length_toList->ab,toList_setIfInBounds->bh,range->bo,map->b6,ext'->cg
open Function renaming comp_def->aM
namespace Go.Am
def px {a:Prop}:a=a:=propext ⟨id,id⟩
structure TM (n:Nat)where
 ty:TypeId
 fr:Nat×Nat
 ok:fr.2=0\/n<=fr.1
def TM.cast {n m:Nat}(h:n=m)(T:TM n):TM m:=⟨T.ty,T.fr,h▸T.ok⟩
def TM.zero (n:Nat)(t:TypeId):TM n:=⟨t,(0,0), .inl rfl⟩
def kC (P:Program)(g o:Nat)(t:TypeId)(fz:Nat×Nat):∀(vs:List Value) (i:Nat) (a:Array Value) (w:World),w.heap[g]?=some (.cells a t fz)->(fz.2=0\/a.size<=fz.1)->o+i+vs.length<=a.size->(∀v∈vs,v.oneCell'=true)->
  (storeCells ⟨g,o,none⟩ vs i).run P w= .ok () (w.setRow g (a.toList.take (o+i)++vs++a.toList.drop (o+i+vs.length)).toArray)
 | [],i,a,w,d,_,_,_=>by
  simp only[storeCells,bw,List.length_nil,bv,List.take_append_drop,Array.toArray_toList];rw[setRow_self w g a t fz d]
  rfl
 |v::b,i,a,w,d,j,k,h1=>by
  have hi:o+i<a.size:=by simp at k;omega
  have f:(⟨g,o,none⟩:Addr).add i=⟨g,o+i,none⟩:=by unfold Addr.add;split<;>simp_all
  have c:w.cell? ⟨g,o+i,none⟩=some a[o+i]:=by simp[World.cell?,d,hi]
  have h:w.frozen? ⟨g,o+i,none⟩=false:=by
   obtain⟨lo,m⟩:=fz;simp only[World.frozen?,d,Bool.and_eq_false_iff,decide_eq_false_iff_not];simp only at j;omega
  have l:(store ((⟨g,o,none⟩:Addr).add i) v).run P w= .ok () (w.setRow g (a.setIfInBounds (o+i) v)):=by
   rw[f,run_store P w _ v _ (h1 v (by simp)),c];simp[h,setCell_eq_setRow w g (o+i) a t fz v d]
  have p:=kC P g o t fz b (i+1) (a.setIfInBounds (o+i) v) (w.setRow g (a.setIfInBounds (o+i) v)) (setRow_heap w g a _ t _ d) (by simpa using j) (by simp at k⊢;omega) (fun x n=>h1 x (by simp[n]));simp only[storeCells,Sem.run_bind,l,Result.andThen_ok,p,setRow_setRow]
  congr 3
  have e:=list_seg_step a.toList (o+i) v b (by simp at k⊢;omega)
  simpa[bh,bp]using e
inductive DV where
 |int (k:IntKind) (n:Int)
 |bool (b:Bool)
 |str (s:ByteArray)
 |nilPtr
 |aP (cs:List DV)
 |slice (ex:Bool) (xs:List DV)
 |agg (cs:List DV)
 |tup (vs:List DV)
 |func (fn:Fn) (first captured:List DV)
 |nilFunc
 |nilIface
 |iface (t:TypeId) (v:DV)
 |map (r:Option (List (DV×DV)))
 deriving Inhabited
def DV.cells:DV->List DV
 | .agg cs=>cs
 |v=>[v]
def DV.one:DV->Bool
 | .agg _=>false
 | .tup _=>false
 | _=>true
def DV.fits (sz:Nat)(x:DV):Bool:=x.cells.length==sz&&x.cells.all DV.one
def flat (xs:List DV):List DV:=xs.flatMap DV.cells
inductive PV where
 |d (x:DV)
 |ptr (b off:Nat)
 |jX (k ver i off:Nat)
 |tsl (k ver skip:Nat)
 |psl (k ver skip len:Nat)
 |func (fn:Fn) (first captured:List PV)
 |agg (cs:List PV)
 |tup (vs:List PV)
 |dead
 |mref (b:Nat)
 |mV (b:Nat)
 |iO (l:List (DV×DV))
 |fQ (L:Loop)
 |zT (b:Nat)
 |Gj (s:ByteArray) (pos:Nat)
 deriving Inhabited
def isObj:List PV->Bool
 | [.iO _]=>true
 | .fQ _::_=>true
 | [.Gj _ _]=>true
 | _=>false
def PV.cells:PV->List PV
 | .agg cs=>cs
 | .d (.agg cs)=>cs.map .d
 |v=>[v]
def PV.one:PV->Bool
 | .d x=>x.one
 | .agg _=>false
 | .tup _=>false
 | .dead=>false
 | .tsl _ _ _=>true
 | .psl _ _ _ _=>true
 | .ptr _ _=>true
 | .jX _ _ _ _=>true
 | .func _ _ _=>true
 | .mref _=>true
 | .mV _=>true
 | .iO _=>false
 | .fQ _=>false
 | .zT _=>true
 | .Gj _ _=>false
structure Arr where
 sz:Nat
 elems:List DV
 ver:Nat
 st:Nat
 deriving Inhabited
structure Mem where
 boxes:List (Option (List PV))
 fz:List Nat
 aC:List (Option Arr)
structure Emb where
 bx:List Nat
 ar:List (Option (Nat×Nat×Nat))
def owned (M:Mem)(E:Emb)(blk:Nat):Prop:=
 (∃b cs:_,M.boxes[b]?=some (some cs)/\b∉M.fz/\E.bx[b]?=some blk)\/
 (∃(k:Nat) (A:Arr) (o e:Nat),M.aC[k]?=some (some A)/\A.st≠2/\E.ar[k]?=some (some (blk,o,e)))
mutual
inductive bK (w:World) (O:Nat->Prop):Value->DV->Prop
 |int (k:IntKind) (n:Int):bK w O (.int k n) (.int k n)
 |bool (b:Bool):bK w O (.bool b) (.bool b)
 |str (s:ByteArray):bK w O (.string s) (.str s)
 |nilPtr:bK w O (.pointer none) .nilPtr
 |aP {blk off:Nat} {cs:Array Value} {T:TypeId} {fz:Nat×Nat} {ds:List DV}
   (hb:w.heap[blk]?=some (.cells cs T fz)) (ho:¬O blk) (h:aV w O ((cs.toList.drop off).take ds.length) ds):
   bK w O (.pointer (some ⟨blk,off,none⟩)) (.aP ds)
 |empty {a:Option Addr} {cap:Nat} {ex:Bool} (hx:ex=true->cap=0):bK w O (.slice a 0 cap) (.slice ex [])
 |slice {blk off len cap sz:Nat} {ex:Bool} {xs:List DV} {cs:Array Value} {T:TypeId} {fz:Nat×Nat}
   (hb:w.heap[blk]?=some (.cells cs T fz)) (ho:¬O blk) (hl:xs.length=len) (hs:∀x∈xs,x.cells.length=sz) (hc:len<=cap) (hx:ex=true->cap=len)
   (h:aV w O ((cs.toList.drop off).take (len*sz)) (flat xs)):bK w O (.slice (some ⟨blk,off,none⟩) len cap) (.slice ex xs)
 |agg {vs:Array Value} {ds:List DV} (h:aV w O vs.toList ds):bK w O (.agg vs) (.agg ds)
 |tup {vs:Array Value} {ds:List DV} (h:aV w O vs.toList ds):bK w O (.tuple vs) (.tup ds)
 |func {fn:Fn} {f c:Array Value} {df dc:List DV} (hf:aV w O f.toList df) (hc:aV w O c.toList dc):bK w O (.func fn f c) (.func fn df dc)
 |nilFunc:bK w O .nilFunc .nilFunc
 |nilIface:bK w O .nilIface .nilIface
 |iface {t:TypeId} {v:Value} {x:DV} (h:bK w O v x):bK w O (.iface t v) (.iface t x)
 |ach:bK w O (.map none) (.map none)
 |map {r:Nat} {es:Array MapEntry} {clock:Nat} {l:List (DV×DV)} (hb:w.heap[r]?=some (.map es clock)) (ho:¬O r)
   (hk:aV w O (es.toList.map (·.key)) (l.map (·.1))) (hv:aV w O (es.toList.map (·.val)) (l.map (·.2))):bK w O (.map (some r)) (.map (some l))
inductive aV (w:World) (O:Nat->Prop):List Value->List DV->Prop
 |nil:aV w O [] []
 |cons {v:Value} {d:DV} {vs:List Value} {ds:List DV} (h:bK w O v d) (t:aV w O vs ds):aV w O (v::vs) (d::ds)
end
mutual
def bK.mono {w w':World}{O O':Nat->Prop}(hk:∀b o,¬O b->w.heap[b]?=some o->w'.heap[b]?=some o/\¬O' b):
  ∀{v:Value} {d:DV},bK w O v d->bK w' O' v d
 | _,_, .int k n=> .int k n
 | _,_, .bool b=> .bool b
 | _,_, .str s=> .str s
 | _,_, .nilPtr=> .nilPtr
 | _,_, .aP a c h=> .aP (hk _ _ c a).1 (hk _ _ c a).2 (aV.mono hk h)
 | _,_, .empty f=> .empty f
 | _,_, .slice a c i j e f h=> .slice (hk _ _ c a).1 (hk _ _ c a).2 i j e f (aV.mono hk h)
 | _,_, .agg h=> .agg (aV.mono hk h)
 | _,_, .tup h=> .tup (aV.mono hk h)
 | _,_, .func g e=> .func (aV.mono hk g) (aV.mono hk e)
 | _,_, .nilFunc=> .nilFunc
 | _,_, .nilIface=> .nilIface
 | _,_, .iface h=> .iface (bK.mono hk h)
 | _,_, .ach=> .ach
 | _,_, .map a c h1 h2=> .map (hk _ _ c a).1 (hk _ _ c a).2 (aV.mono hk h1) (aV.mono hk h2)
def aV.mono {w w':World}{O O':Nat->Prop}(hk:∀b o,¬O b->w.heap[b]?=some o->w'.heap[b]?=some o/\¬O' b):
  ∀{vs:List Value} {ds:List DV},aV w O vs ds->aV w' O' vs ds
 | _,_, .nil=> .nil
 | _,_, .cons h t=> .cons (bK.mono hk h) (aV.mono hk t)
end
def aV.length {w:World}{O:Nat->Prop}:∀{vs:List Value} {ds:List DV},aV w O vs ds->vs.length=ds.length
 | _,_, .nil=>rfl
 | _,_, .cons _ t=>by simp[aV.length t]
def aV.get {w:World}{O:Nat->Prop}:∀{vs:List Value} {ds:List DV} (_:aV w O vs ds) (i:Nat) (v:Value) (_:vs[i]?=some v),∃d,ds[i]?=some d/\bK w O v d
 | _,_, .nil,i,v,h=>by simp at h
 | _,_, .cons h t,0,v,a=>by simp at a;subst a;exact⟨_,rfl,h⟩
 | _,_, .cons h t,i+1,v,a=>by simpa using aV.get t i v (by simpa using a)
def aV.get' {w:World}{O:Nat->Prop}{vs:List Value}{ds:List DV}(h:aV w O vs ds)(i:Nat)(d:DV)(hd:ds[i]?=some d):∃v,vs[i]?=some v/\bK w O v d:=by
 have hi:i<vs.length:=by
  rw[h.length];exact(Z.1 hd).1
 obtain⟨a,h1,h2⟩:=h.get i vs[i] (W hi);rw[hd]at h1;cases h1;exact⟨_,W hi,h2⟩
def aV.append {w:World}{O:Nat->Prop}:∀{vs us:List Value} {ds es:List DV},aV w O vs ds->aV w O us es->aV w O (vs++us) (ds++es)
 | _,_,_,_, .nil,h=>h
 | _,_,_,_, .cons h t,a=> .cons h (aV.append t a)
def aV.take {w:World}{O:Nat->Prop}:∀{vs:List Value} {ds:List DV} (_:aV w O vs ds) (n:Nat),aV w O (vs.take n) (ds.take n)
 | _,_,_,0=>by simpa using .nil
 | _,_, .nil,n+1=>by simpa using .nil
 | _,_, .cons h t,n+1=>by simpa using .cons h (aV.take t n)
def aV.drop {w:World}{O:Nat->Prop}:∀{vs:List Value} {ds:List DV} (_:aV w O vs ds) (n:Nat),aV w O (vs.drop n) (ds.drop n)
 | _,_,h,0=>by simpa using h
 | _,_, .nil,n+1=>by simpa using .nil
 | _,_, .cons h t,n+1=>by simpa using aV.drop t n
def aV.set {w:World}{O:Nat->Prop}:∀{vs:List Value} {ds:List DV} (_:aV w O vs ds) (n:Nat) {v:Value} {d:DV} (_:bK w O v d),aV w O (vs.set n v) (ds.set n d)
 | _,_, .nil,_,_,_,_=>by simpa using .nil
 | _,_, .cons h t,0,_,_,a=>by simpa using .cons a t
 | _,_, .cons h t,n+1,_,_,a=>by simpa using .cons h (aV.set t n a)
def ac0 (w:World)(O:Nat->Prop)(A:Arr)(loc:Option (Nat×Nat×Nat))(skip:Nat)(v:Value):Prop:=
 skip<=A.elems.length/\
 match loc with
 |some (blk,o,e)=>
  (∃cap,v= .slice (some ⟨blk,o+skip*A.sz,none⟩) (A.elems.length - skip) cap/\A.elems.length - skip<=cap/\o+(skip+cap)*A.sz=e)\/
  (A.elems.length=skip/\∃a,v= .slice a 0 0)
 |none=>bK w O v (.slice true (A.elems.drop skip))
def acZ (w:World)(O:Nat->Prop)(A:Arr)(loc:Option (Nat×Nat×Nat))(skip len:Nat)(v:Value):Prop:=
 skip+len<=A.elems.length/\
 match loc with
 |some (blk,o,_)=>∃a cap,v= .slice a len cap/\(len≠0->a=some ⟨blk,o+skip*A.sz,none⟩)
 |none=>bK w O v (.slice false ((A.elems.drop skip).take len))
def VT (w:World)(O:Nat->Prop)(A:Arr)(loc:Option (Nat×Nat×Nat))(i off:Nat)(v:Value):Prop:=
 i<A.elems.length/\
 match loc with
 |some (blk,o,_)=>v= .pointer (some ⟨blk,o+i*A.sz+off,none⟩)
 |none=>bK w O v (.aP (((A.elems[i]?).getD default).cells.drop off))
mutual
inductive Rep (w:World) (O:Nat->Prop) (M:Mem) (E:Emb):Value->PV->Prop
 |d {v:Value} {x:DV} (h:bK w O v x):Rep w O M E v (.d x)
 |ptr {b off blk:Nat} {cs:List PV} (hl:M.boxes[b]?=some (some cs)) (hb:E.bx[b]?=some blk) (ho:isObj cs=false):Rep w O M E (.pointer (some ⟨blk,off,none⟩)) (.ptr b off)
 |jX {k ver i off:Nat} {a:Option Addr} (hlt:k<M.aC.length)
   (h:∀A:Arr,M.aC[k]?=some (some A)->ver<=A.ver/\(A.ver=ver->∃loc,E.ar[k]?=some loc/\VT w O A loc i off (.pointer a))):Rep w O M E (.pointer a) (.jX k ver i off)
 |tsl {k ver skip len cap:Nat} {a:Option Addr} (hlt:k<M.aC.length)
   (h:∀A:Arr,M.aC[k]?=some (some A)->ver<=A.ver/\(A.ver=ver->∃loc,E.ar[k]?=some loc/\ac0 w O A loc skip (.slice a len cap))):Rep w O M E (.slice a len cap) (.tsl k ver skip)
 |psl {k ver skip len n cap:Nat} {a:Option Addr} (hlt:k<M.aC.length)
   (h:∀A:Arr,M.aC[k]?=some (some A)->ver<=A.ver/\(A.ver=ver->∃loc,E.ar[k]?=some loc/\acZ w O A loc skip len (.slice a n cap))):Rep w O M E (.slice a n cap) (.psl k ver skip len)
 |dead {v:Value}:Rep w O M E v .dead
 |mref {b blk:Nat} {cs:List PV} (hl:M.boxes[b]?=some (some cs)) (hb:E.bx[b]?=some blk) (ho:isObj cs=true):Rep w O M E (.map (some blk)) (.mref b)
 |mV {b blk:Nat} {cs:List PV} (hl:M.boxes[b]?=some (some cs)) (hb:E.bx[b]?=some blk) (ho:isObj cs=true):Rep w O M E (.func (.yield blk) #[] #[]) (.mV b)
 |zT {b blk:Nat} {cs:List PV} (hl:M.boxes[b]?=some (some cs)) (hb:E.bx[b]?=some blk) (ho:isObj cs=true):Rep w O M E (.pointer (some ⟨blk,0,none⟩)) (.zT b)
 |func {fn:Fn} {f c:Array Value} {df dc:List PV} (hf:aQ w O M E f.toList df) (hc:aQ w O M E c.toList dc):Rep w O M E (.func fn f c) (.func fn df dc)
 |agg {vs:Array Value} {ds:List PV} (h:aQ w O M E vs.toList ds):Rep w O M E (.agg vs) (.agg ds)
 |tup {vs:Array Value} {ds:List PV} (h:aQ w O M E vs.toList ds):Rep w O M E (.tuple vs) (.tup ds)
inductive aQ (w:World) (O:Nat->Prop) (M:Mem) (E:Emb):List Value->List PV->Prop
 |nil:aQ w O M E [] []
 |cons {v:Value} {d:PV} {vs:List Value} {ds:List PV} (h:Rep w O M E v d) (t:aQ w O M E vs ds):aQ w O M E (v::vs) (d::ds)
end
structure From (w:World) (M:Mem) (E:Emb) (w':World) (M':Mem) (E':Emb):Prop where
 os:w'.os=w.os
 tape:w'.tape=w.tape
 output:w'.output=w.output
 size:w.heap.size<=w'.heap.size
 keep:∀b o,¬owned M E b->w.heap[b]?=some o->w'.heap[b]?=some o
 own:∀b,owned M' E' b->owned M E b\/w.heap.size<=b
 iE:M.boxes.length<=M'.boxes.length
 bx:∀(b:Nat) (cs:List PV),M.boxes[b]?=some (some cs)->E'.bx[b]?=E.bx[b]?/\∃cs',M'.boxes[b]?=some (some cs')/\isObj cs'=isObj cs
 bC:M.aC.length<=M'.aC.length
 ar:∀k A',k<M.aC.length->M'.aC[k]?=some (some A')->∃A,M.aC[k]?=some (some A)/\A.ver<=A'.ver/\
  (A'.ver=A.ver->E'.ar[k]?=E.ar[k]?/\A'.sz=A.sz/\A'.elems.length=A.elems.length/\(E.ar[k]?=some none->A'.elems=A.elems))
def From.refl (w:World)(M:Mem)(E:Emb):From w M E w M E:=
 ⟨rfl,rfl,rfl,H _,fun _ _ _ h=>h,fun _ h=> .inl h,H _,fun _ cs h=>⟨rfl,cs,h,rfl⟩,H _,fun _ a _ h=>⟨a,h,H _,fun _=>⟨rfl,rfl,rfl,fun _=>rfl⟩⟩⟩
def dw {α:Type}{a:Array α}{i:Nat}{o:α}(h:a[i]?=some o):i<a.size:=(Array.getElem?_eq_some_iff.1 h).1
def From.trans {w w' e:World}{M M' d:Mem}{E E' c:Emb}(h:From w M E w' M' E')(h':From w' M' E' e d c):From w M E e d c:={
 os:=h'.os.trans h.os
 tape:=h'.tape.trans h.tape
 output:=h'.output.trans h.output
 size:=aE h.size h'.size
 keep:=fun b o a m=>h'.keep b o (fun g=>(h.own b g).elim a (fun n=>absurd (dw m) (by omega))) (h.keep b o a m)
 own:=fun b a=>(h'.own b a).elim (h.own b) (fun n=> .inr (aE h.size n))
 iE:=aE h.iE h'.iE
 bx:=fun b cs a=>by
  obtain⟨t,cs1,h1,y⟩:=h.bx b cs a;obtain⟨u,cs2,h2,z⟩:=h'.bx b cs1 h1;exact⟨u.trans t,cs2,h2,z.trans y⟩
 bC:=aE h.bC h'.bC
 ar:=fun k f j v=>by
  obtain⟨p,hA',hv',i⟩:=h'.ar k f (ai j h.bC) v;obtain⟨A,hA0,hv,x⟩:=h.ar k p j hA';refine⟨A,hA0,aE hv hv',fun B=> ?_⟩;obtain⟨q,a2,a3,r⟩:=i (by omega);obtain⟨b1,b2,b3,s⟩:=x (by omega);exact⟨q.trans b1,a2.trans b2,a3.trans b3,fun l=>(r (b1▸l)).trans (s l)⟩}
def away (X:Nat->Prop)(M:Mem)(E:Emb)(b:Nat):Prop:=X b\/owned M E b
variable{X:Nat->Prop}{w w':World}{M M':Mem}{E E':Emb}
def From.mono (h:From w M E w' M' E'):
  ∀b o,¬away X M E b->w.heap[b]?=some o->w'.heap[b]?=some o/\¬away X M' E' b:=by
 intro b o c e;refine⟨h.keep b o (fun d=>c (.inr d)) e,?_⟩;rintro(a|a)
 ·exact c (.inl a)
 ·rcases h.own b a with a|a
  ·exact c (.inr a)
  ·have:=dw e;omega
def bK.from (h:From w M E w' M' E'){v:Value}{d:DV}(a:bK w (away X M E) v d):bK w' (away X M' E') v d:=
 a.mono h.mono
def aV.from (h:From w M E w' M' E'){v:List Value}{d:List DV}(a:aV w (away X M E) v d):aV w' (away X M' E') v d:=
 a.mono h.mono
mutual
def Rep.from {X:Nat->Prop}{w w':World}{M M':Mem}{E E':Emb}(hf:From w M E w' M' E'):
  ∀{v:Value} {p:PV},Rep w (away X M E) M E v p->Rep w' (away X M' E') M' E' v p
 | _,_, .d h=> .d (h.from hf)
 | _,_, .ptr c l m=>by
   obtain⟨e,j,f,k⟩:=hf.bx _ _ c;exact .ptr f (e.trans l) (k.trans m)
 | _,_, .mref c l m=>by
   obtain⟨e,j,f,k⟩:=hf.bx _ _ c;exact .mref f (e.trans l) (k.trans m)
 | _,_, .mV c l m=>by
   obtain⟨e,j,f,k⟩:=hf.bx _ _ c;exact .mV f (e.trans l) (k.trans m)
 | _,_, .zT c l m=>by
   obtain⟨e,j,f,k⟩:=hf.bx _ _ c;exact .zT f (e.trans l) (k.trans m)
 | _,_, .jX a h=> .jX (ai a hf.bC) fun o i=>by
   obtain⟨A,u,x,y⟩:=hf.ar _ o a i;obtain⟨B,h⟩:=h A u;refine⟨by omega,fun z=> ?_⟩;obtain⟨r,s,n,t⟩:=y (by omega);obtain⟨b,c,hi,g⟩:=h (by omega);refine⟨b,r.trans c,n▸hi,?_⟩;cases b with
   |none=>simp only[t c]at g⊢;exact g.from hf
   |some q=>obtain⟨C,D,F⟩:=q;simp only[s]at g⊢;exact g
 | _,_, .tsl a h=> .tsl (ai a hf.bC) fun o i=>by
   obtain⟨A,u,x,y⟩:=hf.ar _ o a i;obtain⟨B,h⟩:=h A u;refine⟨by omega,fun z=> ?_⟩;obtain⟨r,s,n,t⟩:=y (by omega);obtain⟨b,c,hi,g⟩:=h (by omega);refine⟨b,r.trans c,n▸hi,?_⟩;cases b with
   |none=>simp only[t c]at g⊢;exact g.from hf
   |some q=>obtain⟨C,D,F⟩:=q;simp only[s,n]at g⊢;exact g
 | _,_, .psl a h=> .psl (ai a hf.bC) fun o i=>by
   obtain⟨A,u,x,y⟩:=hf.ar _ o a i;obtain⟨B,h⟩:=h A u;refine⟨by omega,fun z=> ?_⟩;obtain⟨r,s,n,t⟩:=y (by omega);obtain⟨b,c,hi,g⟩:=h (by omega);refine⟨b,r.trans c,n▸hi,?_⟩;cases b with
   |none=>simp only[t c]at g⊢;exact g.from hf
   |some q=>obtain⟨C,D,F⟩:=q;simp only[s]at g⊢;exact g
 | _,_, .dead=> .dead
 | _,_, .func h1 h2=> .func (aQ.from hf h1) (aQ.from hf h2)
 | _,_, .agg h=> .agg (aQ.from hf h)
 | _,_, .tup h=> .tup (aQ.from hf h)
def aQ.from {X:Nat->Prop}{w w':World}{M M':Mem}{E E':Emb}(hf:From w M E w' M' E'):
  ∀{v:List Value} {p:List PV},aQ w (away X M E) M E v p->aQ w' (away X M' E') M' E' v p
 | _,_, .nil=> .nil
 | _,_, .cons h t=> .cons (Rep.from hf h) (aQ.from hf t)
end
variable{w:World}{O:Nat->Prop}{M:Mem}{E:Emb}
def aQ.Oh {vs:List Value}{cs:List PV}(h:aQ w O M E vs cs):isObj cs=false:=by
 unfold isObj
 split
 ·cases h with|cons h _=>cases h
 ·cases h with|cons h _=>cases h
 ·cases h with|cons h _=>cases h
 ·rfl
def nR (w:World)(O:Nat->Prop)(M:Mem)(E:Emb)(blk:Nat):List PV->Prop
 | [.iO l]=>∃(es:Array MapEntry) (clock:Nat),w.heap[blk]?=some (.map es clock)/\aV w O (es.toList.map (·.key)) (l.map (·.1))/\aV w O (es.toList.map (·.val)) (l.map (·.2))
 | .fQ L::cs=>∃a:Array Value,a.size=L.tmps.size/\w.heap[blk]?=some (.loop {L with tmps:=a})/\aQ w O M E a.toList cs
 | [.Gj s pos]=>w.heap[blk]?=some (.stringIter s pos)
 |cs=>∃(vs:Array Value) (T:TypeId),w.heap[blk]?=some (.cells vs T (0,0))/\aQ w O M E vs.toList cs
variable{blk:Nat}
def nR.plain {cs:List PV}(ho:isObj cs=false):nR w O M E blk cs=∃(vs:Array Value) (T:TypeId),w.heap[blk]?=some (.cells vs T (0,0))/\aQ w O M E vs.toList cs:=by
 unfold nR
 split
 ·cases ho
 ·cases ho
 ·cases ho
 ·rfl
def nR.mk {cs:List PV}{vs:Array Value}{T:TypeId}(h:w.heap[blk]?=some (.cells vs T (0,0)))(a:aQ w O M E vs.toList cs):nR w O M E blk cs:=by
 rw[nR.plain a.Oh];exact⟨vs,T,h,a⟩
def nR.obj {cs:List PV}(h:nR w O M E blk cs):∃o,w.heap[blk]?=some o:=by
 unfold nR at h
 split at h
 ·obtain⟨es,clock,h,_⟩:=h;exact⟨_,h⟩
 ·obtain⟨a,_,h,_⟩:=h;exact⟨_,h⟩
 ·exact⟨_,h⟩
 ·obtain⟨vs,T,h,_⟩:=h;exact⟨_,h⟩
def nR.Oh {w:World}{O:Nat->Prop}{M:Mem}{E:Emb}{blk:Nat}{cs:List PV}{vs:Array Value}{T:TypeId}{fz:Nat×Nat}(h:nR w O M E blk cs)(a:w.heap[blk]?=some (.cells vs T fz)):isObj cs=false:=by
 unfold nR at h
 split at h
 ·obtain⟨es,clock,h,_⟩:=h;rw[a]at h;cases h
 ·obtain⟨b,_,h,_⟩:=h;rw[a]at h;cases h
 ·rw[a]at h;cases h
 ·obtain⟨vs,T,h,c⟩:=h;exact c.Oh
def nR.move {w':World}{O':Nat->Prop}{M':Mem}{E':Emb}{cs:List PV}(h:nR w O M E blk cs)(hb:∀o,w.heap[blk]?=some o->w'.heap[blk]?=some o)
  (hk:∀b o,¬O b->w.heap[b]?=some o->w'.heap[b]?=some o/\¬O' b)(d:∀(vs:List Value) (ps:List PV),(∀p∈ps,p∈cs)->aQ w O M E vs ps->aQ w' O' M' E' vs ps):nR w' O' M' E' blk cs:=by
 unfold nR at h⊢
 split at h
 ·obtain⟨es,clock,h,h1,h2⟩:=h;exact⟨es,clock,hb _ h,h1.mono hk,h2.mono hk⟩
 ·obtain⟨a,e,h,h1⟩:=h;exact⟨a,e,hb _ h,d _ _ (fun p c=>by simp[c]) h1⟩
 ·exact hb _ h
 ·obtain⟨vs,T,h,h1⟩:=h;exact⟨vs,T,hb _ h,d _ _ (fun _ c=>c) h1⟩
structure Ctx where
 P:Program
 low:Nat->Prop
 G:World->Prop
 keeps:∀w w':World,G w->(∀b,low b->w'.heap[b]?=w.heap[b]?)->G w'
structure Sim (C:Ctx) (X:Nat->Prop) (w:World) (M:Mem) (E:Emb):Prop where
 glob:C.G w
 iF:∀b,C.low b->X b
 xlt:∀b,X b->b<w.heap.size
 iE:E.bx.length=M.boxes.length
 bC:E.ar.length=M.aC.length
 box:∀(b:Nat) (cs:List PV),M.boxes[b]?=some (some cs)->∃blk:Nat,E.bx[b]?=some blk/\¬X blk/\nR w (away X M E) M E blk cs
 arr:∀(k:Nat) (A:Arr),M.aC[k]?=some (some A)->0<A.sz/\(∀x∈A.elems,x.fits A.sz=true)/\(A.st=1->∃q,E.ar[k]?=some (some q))/\
  ∀(blk o e:Nat),E.ar[k]?=some (some (blk,o,e))->¬X blk/\∃(vs:Array Value) (T:TM vs.size),w.heap[blk]?=some (.cells vs T.ty T.fr)/\o+A.elems.length*A.sz<=e/\e<=vs.size/\
   aV w (away X M E) ((vs.toList.drop o).take (A.elems.length*A.sz)) (flat A.elems)
 bb:∀(b b':Nat) (cs cs':List PV) (blk:Nat),M.boxes[b]?=some (some cs)->M.boxes[b']?=some (some cs')->E.bx[b]?=some blk->E.bx[b']?=some blk->b=b'
 aa:∀(k k':Nat) (A A':Arr) (blk o e o' e':Nat),M.aC[k]?=some (some A)->M.aC[k']?=some (some A')->E.ar[k]?=some (some (blk,o,e))->E.ar[k']?=some (some (blk,o',e'))->k=k'
 ba:∀(b k:Nat) (cs:List PV) (A:Arr) (blk o e:Nat),M.boxes[b]?=some (some cs)->M.aC[k]?=some (some A)->E.bx[b]?=some blk->E.ar[k]?=some (some (blk,o,e))->False
def Fin (C:Ctx)(X:Nat->Prop)(w:World)(M:Mem)(E:Emb)(K:PV->Mem->Prop)(KP:DV->Mem->Prop)(w':World):Ending->Prop
 | .returned v=>∃p M' E',K p M'/\Sim C X w' M' E'/\From w M E w' M' E'/\Rep w' (away X M' E') M' E' v p
 | .panicked chain=>∃v d M' E',chain=[{v,recovered:=false}]/\KP d M'/\Sim C X w' M' E'/\From w M E w' M' E'/\bK w' (away X M' E') v d
 | .outgrown=>False
def SC (C:Ctx)(f:FuncId)(args:List PV)(M:Mem)(K:PV->Mem->Prop)(KP:DV->Mem->Prop):Prop:=
 ∀(X:Nat->Prop) (w:World) (E:Emb) (a:List Value),Sim C X w M E->aQ w (away X M E) M E a args->
  Calls C.P f a.toArray w fun e w'=>Fin C X w M E K KP w' e
def bG:Mem:=⟨[],[],[]⟩
def rowsOf (ass:List Arr):Mem:=⟨[],[],ass.map some⟩
def Pure (C:Ctx)(f:FuncId)(args:List DV)(r:PV)(ass:List Arr):Prop:=
 ∀(X:Nat->Prop) (w:World) (a:List Value),C.G w->(∀b,C.low b->X b)->(∀b,X b->b<w.heap.size)->aV w X a args->
  Calls C.P f a.toArray w fun e w'=>∃v E',e= .returned v/\Sim C X w' (rowsOf ass) E'/\From w bG ⟨[],[]⟩ w' (rowsOf ass) E'/\Rep w' (away X (rowsOf ass) E') (rowsOf ass) E' v r
def gV:List PV->Option (List DV)
 | []=>some []
 | .d x::l=>(gV l).map (x::·)
 | _::_=>none
def zX (cs:List PV):PV:=match gV cs with|some ds=> .d (.agg ds)|none=> .agg cs
def LZ (cs:List PV):PV:=match gV cs with|some ds=> .d (.tup ds)|none=> .tup cs
def splice {α:Type}(cs:List α)(off:Nat)(new:List α):List α:=cs.take off++new++cs.drop (off+new.length)
def setCells (x:DV)(off:Nat)(ds:List DV):DV:=match x with| .agg cs=> .agg (splice cs off ds)| _=>ds.getD 0 default
def Mem.row (M:Mem)(k ver:Nat):Option Arr:=match M.aC[k]? with|some (some A)=>if A.ver=ver then some A else none| _=>none
def Mem.box (M:Mem)(b:Nat):Option (List PV):=match M.boxes[b]? with|some (some cs)=>some cs| _=>none
def dR (M:Mem):PV->Option DV
 | .d x=>some x
 | .tsl k ver skip=>(M.row k ver).map fun A=> .slice false (A.elems.drop skip)
 | .mref b=>match M.box b with|some [.iO l]=>some (.map (some l))| _=>none
 | _=>none
def bT (M:Mem):List PV->Option (List DV)
 | []=>some []
 |c::cs=>match dR M c,bT M cs with|some x,some xs=>some (x::xs)| _,_=>none
def datum (M:Mem):PV->Option DV
 | .d x=>some x
 | .tsl k ver skip=>(M.row k ver).map fun A=> .slice false (A.elems.drop skip)
 | .ptr b off=>match M.box b with|some cs=>(bT M cs).map fun ds=> .aP (ds.drop off)|none=>none
 | .func fn f c=>match bT M f,bT M c with|some e,some a=>some (.func fn e a)| _,_=>none
 | .agg cs=>(bT M cs).map .agg
 | .tup cs=>(bT M cs).map .tup
 | .mref b=>match M.box b with|some [.iO l]=>some (.map (some l))| _=>none
 | _=>none
def rY:PV->List Nat| .tsl k _ _=>[k]| _=>[]
def lg (M:Mem):PV->List Nat
 | .tsl k _ _=>[k]
 | .ptr b _=>match M.box b with|some cs=>cs.flatMap rY|none=>[]
 | .func _ f c=>f.flatMap rY++c.flatMap rY
 | .agg cs=>cs.flatMap rY
 | .tup cs=>cs.flatMap rY
 | _=>[]
def rZ:PV->List Nat| .mref b=>[b]| _=>[]
def kK (M:Mem):PV->List Nat
 | .ptr b _=>b::(match M.box b with|some cs=>cs.flatMap rZ|none=>[])
 | .func _ f c=>f.flatMap rZ++c.flatMap rZ
 | .agg cs=>cs.flatMap rZ
 | .tup cs=>cs.flatMap rZ
 | .mref b=>[b]
 | _=>[]
def Gh (ks:List Nat)(l:List (Option Arr)):List (Option Arr):=ks.foldl (fun l k=>l.modify k (cm fun A=>{A with st:=2})) l
def Mem.frz (M:Mem)(ps:List PV):Mem:={M with fz:=ps.flatMap (kK M)++M.fz,aC:=Gh (ps.flatMap (lg M)) M.aC}
def bV (M:Mem):List PV->Option (List DV)
 | []=>some []
 |c::cs=>match datum M c,bV M cs with|some x,some xs=>some (x::xs)| _,_=>none
def DV.strip:DV->DV
 | .slice _ xs=> .slice false xs
 | .agg cs=> .agg (cs.map fun| .slice _ xs=> .slice false xs|c=>c)
 |x=>x
def jw (n:Nat):PV->PV
 | .d x=> .d x
 | .tsl k ver skip=> .tsl (n+k) ver skip
 | _=> .dead
def TR (n:Nat):PV->PV
 | .agg cs=> .agg (cs.map (jw n))
 |p=>jw n p
def PV.shift (n:Nat):PV->PV
 | .agg cs=> .agg (cs.map (jw n))
 | .tup cs=> .tup (cs.map (TR n))
 |p=>jw n p
inductive POp where
 |mov
 |VY (sz:Nat)
 |pick
 |alloc (i:Nat) (zs:List DV)
 |box (i:Nat)
 |build (zs:List DV) (ps:List (Nat×Nat))
 |dU (sz:Nat) (zs:List DV) (ps:List Nat)
 |load (agg:Bool) (n:Nat)
 |Jr (agg:Bool) (n:Nat)
 |store (n:Nat)
 |bg
 |bin (op:BinOp)
 |CZ (neq:Bool) (ks:List Nat)
 |Yg (neq:Bool)
 |isNil (neq:Bool)
 |un (op:UnOp)
 |conv (k:IntKind)
 |mkI (t:TypeId)
 |mkF (fn:Fn) (nf:Nat)
 |Ns (lo hi:Bool)
 |Jh (sz:Nat) (lo hi max:Bool)
 |fld (off:Nat)
 |Qh (agg:Bool) (off n:Nat)
 |bH (sz:Nat)
 |WQ
 |Qj (agg:Bool) (sz len:Nat)
 |ext (i:Nat)
 |call (f:FuncId)
 |KX (f:FuncId)
 |Fp (agg:Bool) (n:Nat) (f:FuncId)
 |KY (f:FuncId)
 |kZ (f:FuncId)
 |gG (f:FuncId)
 |yC (f:FuncId)
 |aj (f:FuncId)
 |dQ
 |app (sz:Nat) (st1:Bool)
 |QM (sz:Nat)
 |Ya (sz:Nat)
 |len
 |Gi
 |Zg (n:Nat)
 |qo (mx:Bool)
 |panic
 |L6 (ks:List Nat) (z:DV)
 |mkRow (sz:Nat) (z:DV)
 |b2s
 |s2b
 |clr (sz:Nat) (z:DV)
 |tas (t:TypeId) (z:DV)
 |mkMap (i:Nat)
 |Qk (ks:List Nat)
 |ng (sz:Nat) (zs:List DV) (ps:List Nat)
 |UD (sz:Nat)
 |UC (sz:Nat)
 |copy (sz:Nat)
 |ED (neq:Bool)
 |rngS (i:Nat)
 |Zu
 |inv (name:String)
 |shf (op:BinOp)
 |yx (neq:Bool)
 |GL (sz len:Nat)
 |UA (agg:Bool) (sz len:Nat)
 |Jg (ok:Bool) (ks:List Nat) (z:DV)
 |acf (ks:List Nat)
 |acd (ks:List Nat)
 deriving Inhabited
inductive Opd where
 |t (n:Nat)
 |c (x:DV)
 deriving Inhabited
structure PO where
 dst:Option Nat
 op:POp
 args:List Opd
 g:Option (Nat×Bool)
 fl:Nat
 deriving Inhabited
inductive aA where
 |skip
 |region (draw:Bool) (ops:List PO) (acj:Nat) (keep fz:List Nat)
 |seq (a b:aA)
 |cond (c:Opd) (thn els:aA)
 |block (id:Nat) (body:aA)
 |loop (body:aA)
 |exit (id:Nat)
 |scope (body:aA)
 |label (l:Nat)
 |ret
 |nD (f:Opd) (ps keys:List Nat) (asg body:aA)
 deriving Inhabited
structure St where
 env:List (Nat×PV)
 mem:Mem
def look:List (Nat×PV)->Nat->PV
 | [],_=> .dead
 |(k,v)::l,t=>bif k==t then v else look l t
def St.get (s:St)(t:Nat):PV:=look s.env t
def St.val (s:St):Opd->PV| .t n=>look s.env n| .c x=> .d x
def put (l:List (Nat×PV))(dst:Option Nat)(v:PV):List (Nat×PV):=match dst with|some d=>(d,v)::l|none=>l
def iq (l:List (Nat×PV))(ks:List Nat):List (Nat×PV):=ks.map fun k=>(k,look l k)
def PV.oh:PV->Bool| .dead=>true| _=>false
def PV.isAgg:PV->Bool| .agg _=>true| .d (.agg _)=>true| _=>false
def jY (cs:List PV):List (Nat×Nat)->List PV->Option (List PV)
 | [],[]=>some cs
 |(off,n)::ps,v::vs=>if v.oh=false/\v.cells.length=n/\off+n<=cs.length then jY (splice cs off v.cells) ps vs else none
 | _,_=>none
def qJ (sz:Nat)(xs:List DV):List Nat->List DV->Option (List DV)
 | [],[]=>some xs
 |i::a,v::vs=>if v.cells.length=sz/\i<xs.length then qJ sz (xs.set i v) a vs else none
 | _,_=>none
def mD (op:BinOp)(k:IntKind)(a b:Int)(K:DV->Prop):Prop:=
 match op with
 | .add=>K (.int k (k.wrap (a+b)))
 | .sub=>K (.int k (k.wrap (a - b)))
 | .mul=>K (.int k (k.wrap (a*b)))
 | .quo=>b≠0/\K (.int k (k.wrap (a.tdiv b)))
 | .rem=>b≠0/\K (.int k (a.tmod b))
 | .eql=>K (.bool (a==b))
 | .neq=>K (.bool (a !=b))
 | .lss=>K (.bool (decide (a<b)))
 | .leq=>K (.bool (decide (a<=b)))
 | .gtr=>K (.bool (decide (a>b)))
 | .geq=>K (.bool (decide (a>=b)))
 | .and=>K (.int k (k.wrap ((BitVec.ofInt k.bits a&&&BitVec.ofInt k.bits b).toNat:Int)))
 | .or=>K (.int k (k.wrap ((BitVec.ofInt k.bits a|||BitVec.ofInt k.bits b).toNat:Int)))
 | .xor=>K (.int k (k.wrap ((BitVec.ofInt k.bits a ^^^ BitVec.ofInt k.bits b).toNat:Int)))
 | .andNot=>K (.int k (k.wrap ((BitVec.ofInt k.bits a&&& ~~~BitVec.ofInt k.bits b).toNat:Int)))
 | _=>False
def CS (op:BinOp)(a b:ByteArray)(K:DV->Prop):Prop:=
 match op with
 | .add=>a.size+b.size<=9223372036854775807/\K (.str (a++b))
 | .eql=>K (.bool (a.toList==b.toList))
 | .neq=>K (.bool (!(a.toList==b.toList)))
 | _=>False
def OM (op:BinOp)(x y:PV)(K:DV->Prop):Prop:=
 match x,y with
 | .d (.int k a), .d (.int c b)=>k=c/\mD op k a b K
 | .d (.str a), .d (.str b)=>CS op a b K
 | _,_=>False
def bW:List Nat->List DV->List DV->Option Bool
 | [],[],[]=>some true
 |1::c, .int k a::l, .int d b::m=>if k=d then(bW c l m).map fun t=>(a==b)&&t else none
 |0::c, .bool a::l, .bool b::m=>(bW c l m).map fun t=>(a==b)&&t
 |2::c, .str a::l, .str b::m=>(bW c l m).map fun t=>(a.toList==b.toList)&&t
 | _,_,_=>none
def zY (ks:List Nat):List (DV×DV)->List DV->Option (Option DV)
 | [],_=>some none
 |(.agg a,v)::l,k=>match bW ks k a with|some true=>some (some v)|some false=>zY ks l k|none=>none
 | _::_,_=>none
def Dv (ks:List Nat):List (DV×DV)->List DV->DV->Option (List (DV×DV))
 | [],k,v=>some [(.agg k,v)]
 |(.agg a,b)::l,k,v=>match bW ks k a with|some true=>some ((.agg k,v)::l)|some false=>(Dv ks l k v).map ((.agg a,b)::·)|none=>none
 | _::_,_,_=>none
def iP (ks:List Nat):DV->DV->Option Bool
 | .agg k, .agg a=>if ks.isEmpty then none else bW ks k a
 | .int k n, .int a b=>if ks.isEmpty/\k=a then some (n==b)else none
 | _,_=>none
def qp (ks:List Nat):List (DV×DV)->DV->Option (Option DV)
 | [],_=>some none
 |(a,v)::l,k=>match iP ks k a with|some true=>some (some v)|some false=>qp ks l k|none=>none
def FH (ks:List Nat):List (DV×DV)->DV->DV->Option (List (DV×DV))
 | [],k,v=>some [(k,v)]
 |(a,b)::l,k,v=>match iP ks k a with|some true=>some ((k,v)::l)|some false=>(FH ks l k v).map ((a,b)::·)|none=>none
def FD (ks:List Nat):List (DV×DV)->DV->Option (List (DV×DV))
 | [],_=>some []
 |(a,b)::l,k=>match iP ks k a with|some true=>some l|some false=>(FD ks l k).map ((a,b)::·)|none=>none
def GI (ok:Bool)(z:DV)(r:Option DV):DV:=bif ok then .tup [r.getD z, .bool r.isSome]else r.getD z
def vY (agg:Bool)(sz:Nat):Nat->List DV->List DV
 |0,_=>[]
 |n+1,cs=>(bif agg then .agg (cs.take sz)else cs.headD default)::vY agg sz n (cs.drop sz)
def bytesOf:List DV->Option (List UInt8)
 | []=>some []
 | .int .u8 n::l=>(bytesOf l).map (UInt8.ofNat n.toNat::·)
 | _::_=>none
def aat (op:UnOp)(x:PV)(K:DV->Prop):Prop:=
 match op,x with
 | .neg, .d (.int k n)=>K (.int k (k.wrap (0 - n)))
 | .not, .d (.bool b)=>K (.bool !b)
 | _,_=>False
def ld (agg:Bool)(n off:Nat)(cs:List PV):PV:=bif agg then zX ((cs.drop off).take n)else cs.getD off .dead
def ldD (agg:Bool)(n off:Nat)(cs:List DV):PV:= .d (bif agg then .agg ((cs.drop off).take n)else cs.getD off default)
def bY (agg:Bool)(n:Nat)(x:PV)(M:Mem)(K:PV->Prop):Prop:=
 match x with
 | .ptr b off=>match M.box b with|some cs=>off+n<=cs.length/\K (ld agg n off cs)|none=>False
 | .d (.aP cs)=>n<=cs.length/\K (ldD agg n 0 cs)
 | .jX k ver i off=>match M.row k ver with
  |some A=>off+n<=(A.elems.getD i default).cells.length/\K (ldD agg n off (A.elems.getD i default).cells)
  |none=>False
 | _=>False
def oJ (agg:Bool)(n:Nat)(x:PV)(M:Mem)(K:PV->Prop):Prop:=
 match x with
 | .ptr b off=>match M.box b with|some cs=>off+n<=cs.length/\K (ld agg n off cs)|none=>False
 | .d (.aP cs)=>n<=cs.length/\K (ldD agg n 0 cs)
 | _=>False
def jM (n:Nat)(x v:PV)(M:Mem)(K:Mem->Prop):Prop:=
 match x with
 | .ptr b off=>match M.box b with
  |some cs=>b∉M.fz/\v.cells.length=n/\v.cells.all PV.one=true/\off+n<=cs.length/\K {M with boxes:=M.boxes.set b (some (splice cs off v.cells))}
  |none=>False
 | .jX k ver i off=>match M.row k ver,gV v.cells with
  |some A,some ds=>A.st=1/\0<n/\ds.length=n/\ds.all DV.one=true/\off+n<=(A.elems.getD i default).cells.length/\
    K {M with aC:=M.aC.set k (some {A with elems:=A.elems.set i (setCells (A.elems.getD i default) off ds)})}
  | _,_=>False
 | _=>False
def qx (x:PV)(M:Mem)(K:Int->Prop):Prop:=
 match x with
 | .d (.slice _ xs)=>K xs.length
 | .tsl k ver skip=>match M.row k ver with|some A=>K ((A.elems.length - skip:Nat):Int)|none=>False
 | _=>False
def uT (sz:Nat)(x i:PV)(M:Mem)(K:PV->Prop):Prop:=
 match x,i with
 | .d (.slice _ xs), .d (.int _ n)=>0<=n/\n.toNat<xs.length/\(xs.getD n.toNat default).cells.length=sz/\K (.d (.aP (xs.getD n.toNat default).cells))
 | .tsl k ver skip, .d (.int _ n)=>match M.row k ver with
  |some A=>A.sz=sz/\0<=n/\skip+n.toNat<A.elems.length/\K (.jX k ver (skip+n.toNat) 0)
  |none=>False
 | _,_=>False
def mM (off:Nat)(x:PV)(M:Mem)(K:PV->Prop):Prop:=
 match x with
 | .ptr b o=>K (.ptr b (o+off))
 | .d (.aP cs)=>off<=cs.length/\K (.d (.aP (cs.drop off)))
 | .jX k ver i o=>match M.row k ver with|some _=>K (.jX k ver i (o+off))|none=>False
 | _=>False
def yg (sz:Nat)(x:PV)(M:Mem):Option (List DV):=
 match x with
 | .d (.slice _ xs)=>some xs
 | .d (.str s)=>if sz=1 then some (s.data.toList.map fun b=> .int .u8 b.toNat)else none
 | .tsl k ver skip=>(M.row k ver).map fun A=>A.elems.drop skip
 | _=>none
def kL (sz:Nat)(st1:Bool)(s x:PV)(M:Mem)(K:PV->Mem->Prop):Prop:=
 match yg sz x M with
 |none=>False
 |some ys=>0<sz/\(∀y∈ys,y.fits sz=true)/\(st1=true->ys≠[])/\
  match s with
  | .d (.slice ex xs)=>ex=true/\(∀y∈xs,y.fits sz=true)/\xs.length+ys.length<=1073741824/\
    K (.tsl M.aC.length 0 0) {M with aC:=M.aC++ [some ⟨sz,xs++ys,0,bif st1 then 1 else 0⟩]}
  | .tsl k ver skip=>match M.row k ver with
   |some A=>A.sz=sz/\A.st≠2/\A.elems.length+ys.length<=1073741824/\
     K (.tsl k (ver+1) 0) {M with aC:=M.aC.set k (some ⟨sz,A.elems.drop skip++ys,ver+1,bif st1 then 1 else A.st⟩)}
   |none=>False
  | _=>False
def Qy (sz:Nat)(s x:PV)(M:Mem)(K:PV->Mem->Prop):Prop:=
 match s,yg sz x M with
 | .d (.slice true []),some ys=>0<sz/\(∀y∈ys,y.fits sz=true)/\ys.length<=1073741824/\
   K (bif ys.isEmpty then .d (.slice false [])else .tsl M.aC.length 0 0) {M with aC:=M.aC++ [some ⟨sz,ys,0,bif ys.isEmpty then 0 else 1⟩]}
 | _,_=>False
def dY:Bool->List PV->(Option Int->List PV->Prop)->Prop
 |false,l,K=>K none l
 |true, .d (.int _ n)::l,K=>K (some n) l
 | _,_,_=>False
def zx (lo hi:Bool)(args:List PV)(K:DV->Prop):Prop:=
 match args with
 | .d (.str s)::l=>dY lo l fun a l=>dY hi l fun b l=>dY false l fun m l=>l=[]/\m=none/\
   0<=a.getD 0/\a.getD 0<=b.getD s.size/\b.getD s.size<=s.size/\K (.str (s.extract (a.getD 0).toNat (b.getD s.size).toNat))
 | _=>False
def zu (sz:Nat)(lo hi max:Bool)(args:List PV)(M:Mem)(K:PV->Mem->Prop):Prop:=
 match args with
 | .d (.slice ex xs)::l=>dY lo l fun a l=>dY hi l fun b l=>dY max l fun m l=>l=[]/\(∀x∈xs,x.cells.length=sz)/\
   0<=a.getD 0/\a.getD 0<=b.getD xs.length/\b.getD xs.length<=xs.length/\(∀c,m=some c->b=some c)/\
   K (.d (.slice (max||(ex&& !hi)) ((xs.take (b.getD xs.length).toNat).drop (a.getD 0).toNat))) M
 | .tsl k ver skip::l=>dY lo l fun a l=>dY hi l fun b l=>dY max l fun m l=>l=[]/\
   match M.row k ver with
   |some A=>(match b with
    |none=>A.sz=sz/\m=none/\0<=a.getD 0/\a.getD 0<=(A.elems.length - skip:Nat)/\K (.tsl k ver (skip+(a.getD 0).toNat)) M
    |some b=>A.sz=sz/\0<=a.getD 0/\a.getD 0<=b/\b<=(A.elems.length - skip:Nat)/\(∀c,m=some c->b=c)/\
      K (.d (.slice max (((A.elems.drop skip).take b.toNat).drop (a.getD 0).toNat))) (M.frz [.tsl k ver skip]))
   |none=>False
 | _=>False
def IQ (P:Program)(t:TypeId)(name:String):Option FuncId:=
 match P.info? t with
 |some i=>match i.methods.find? (·.name==name)with
  |some m=>if m.path.isEmpty then(match P.underlying t with|some (.pointer _)=>none|some _=>(match m.func with|some (f,false)=>some f| _=>none)|none=>none)else none
  |none=>none
 |none=>none
def callable (P:Program)(f:FuncId):Bool:=
 match P.funcs[f]? with
 |some fn=>fn.body.isSome&& !(fn.name== "runtime.NumGoroutine")
 |none=>false
def yw:DV->Bool
 | .int _ _=>true
 | .bool _=>true
 | .str _=>true
 | .nilPtr=>true
 | .nilIface=>true
 | .nilFunc=>true
 | .agg cs=>cs.all fun| .int _ _=>true| .bool _=>true| .str _=>true| _=>false
 | .tup cs=>cs.all fun| .int _ _=>true| .bool _=>true| .str _=>true| .agg cs=>(cs.all fun| .int _ _=>true| .bool _=>true| .str _=>true| _=>false)| _=>false
 | _=>false
def Rq:DV->Bool
 | .int _ _=>true
 | .bool _=>true
 | .str _=>true
 | _=>false
def jP (A:Arr):Bool:=(A.st==1||(A.elems.isEmpty&&A.st !=2))&&(flat A.elems).all Rq
def Ro:PV->Bool| .d x=>yw x| .tsl _ _ _=>true| _=>false
def abw:PV->Bool| .agg cs=>cs.all Ro|p=>Ro p
def Rw:PV->Bool| .agg cs=>cs.all Ro| .tup cs=>cs.all abw|p=>Ro p
def Rt:DV->Bool
 | .iface _ (.agg cs)=>cs.all Rq
 |x=>yw x
def Nh (C:Ctx)(f:FuncId)(args:List PV)(M:Mem)(K:PV->Mem->Prop):Prop:=
 ∃ds,bV M args=some ds/\∃r a,Pure C f (ds.map DV.strip) r a/\
  ((∃x,r= .d x/\yw x=true/\a=[]/\K r M)\/((∀A∈a,A.st≠2)/\K (r.shift M.aC.length) {M.frz args with aC:=(M.frz args).aC++a.map some}))
def Nj (C:Ctx)(f:FuncId)(args:List PV)(M:Mem)(K:PV->Mem->Prop):Prop:=
 ∃ds,bV M args=some ds/\∃x,Pure C f (ds.map DV.strip) (.d x) []/\yw x=true/\K (.d x) M
def TJ (C:Ctx)(f:FuncId)(args:List PV)(M:Mem)(K:PV->Mem->Prop):Prop:=
 ∃ds,bV M args=some ds/\∃r a x,Pure C f (ds.map DV.strip) r a/\((a=[]/\r= .d x/\Rt x=true)\/(Rw r=true/\a.all jP=true/\datum (rowsOf a) r=some x))/\K (.d x) M
def TI (C:Ctx)(f:FuncId)(args:List PV)(M:Mem)(K:PV->Mem->Prop):Prop:=
 ∃ds,gV args=some ds/\∃x,Pure C f (ds.map DV.strip) (.d x) []/\K (.d x) M
def SY (C:Ctx)(b:Nat)(args:List PV)(M:Mem)(K:PV->Mem->Prop)(KP:DV->Mem->Prop):Prop:=
 ∀(X:Nat->Prop) (w:World) (E:Emb) (d:List Value) (l:Nat),Sim C X w M E->aQ w (away X M E) M E d args->E.bx[b]?=some l->
  ∃fn c f a,(Instr.yield l d.toArray).run C.P w= .ok (.round l fn c f a) w/\RoundIn Fence.wide 0 C.P l fn c f a w fun e w'=>Fin C X w M E K KP w' e
def Nw (x:PV)(M:Mem):Option (List DV):=
 match x with
 | .d (.slice _ xs)=>some xs
 | .tsl k ver skip=>(M.row k ver).map fun A=>A.elems.drop skip
 | .psl k ver skip len=>(M.row k ver).map fun A=>(A.elems.drop skip).take len
 | _=>none
def PV.isD:PV->Bool| .d _=>true| _=>false
def yu (base fl:Nat)(args:List PV):Prop:=
 match fl with
 |0=>True
 |1=>args.all PV.isD=true
 |2=>match args with| .ptr b _::_=>b<base| .d _::_=>True| _=>False
 |3=>match args with| .jX _ _ _ _::_=>True| _=>False
 |i+4=>match args with| .ptr b _::_=>b=base+i| _=>False
def au (C:Ctx)(base:Nat)(op:POp)(args:List PV)(M:Mem)(K:PV->Mem->Prop)(KP:DV->Mem->Prop):Prop:=
 match op with
 | .mov=>match args with| [x]=>K x M| _=>False
 | .VY sz=>match args with
  | [.d (.slice ex xs)]=>ex=true/\0<sz/\(∀e∈xs,e.fits sz=true)/\K (.tsl M.aC.length 0 0) {M with aC:=M.aC++ [some ⟨sz,xs,0,0⟩]}
  | [.tsl k ver skip]=>K (.tsl k ver skip) M
  | _=>False
 | .pick=>match args with| [.d (.bool t),a,b]=>K (bif t then a else b) M| _=>False
 | .alloc i zs=>match args with| []=>M.boxes[base+i]?=some none/\K (.ptr (base+i) 0) {M with boxes:=M.boxes.set (base+i) (some (zs.map .d))}| _=>False
 | .box i=>match args with| [x]=>x.oh=false/\M.boxes[base+i]?=some none/\K (.ptr (base+i) 0) {M with boxes:=M.boxes.set (base+i) (some x.cells)}| _=>False
 | .build zs ps=>(match jY (zs.map .d) ps args with|some cs=>K (zX cs) M|none=>False)
 | .dU sz zs w=>(match bV M args with|some ds=>(match qJ sz zs w (ds.map DV.strip)with|some xs=>K (.d (.slice true xs)) (M.frz args)|none=>False)|none=>False)
 | .load agg n=>match args with| [x]=>bY agg n x M fun v=>K v M| _=>False
 | .Jr agg n=>match args with| [x]=>oJ agg n x M fun v=>K v M| _=>False
 | .store n=>match args with| [x,v]=>jM n x v M fun M'=>K .dead M'| _=>False
 | .bg=>match args with
  | [.ptr b o]=>K (.ptr b o) M
  | [.d (.aP cs)]=>K (.d (.aP cs)) M
  | _=>False
 | .bin op=>match args with| [x,y]=>OM op x y fun v=>K (.d v) M| _=>False
 | .CZ neq g=>match args with| [.d (.agg a), .d (.agg b)]=>(match bW g a b with|some t=>K (.d (.bool (t !=neq))) M|none=>False)| _=>False
 | .Yg neq=>match args with| [.d (.bool a), .d (.bool b)]=>K (.d (.bool ((a==b) !=neq))) M| _=>False
 | .isNil neq=>match args with| [.d (.slice _ xs), .d (.slice true [])]=>(xs≠[]->K (.d (.bool neq)) M)/\(xs=[]->∀b,K (.d (.bool b)) M)| _=>False
 | .un op=>match args with| [x]=>aat op x fun v=>K (.d v) M| _=>False
 | .conv k=>match args with| [.d (.int _ n)]=>K (.d (.int k (k.wrap n))) M| _=>False
 | .mkI t=>match args with| [x]=>(match datum M x with|some d=>K (.d (.iface t d)) (M.frz [x])|none=>False)| _=>False
 | .mkF fn u=>(match gV args with|some ds=>K (.d (.func fn (ds.take u) (ds.drop u))) M|none=>K (.func fn (args.take u) (args.drop u)) M)
 | .Ns lo hi=>zx lo hi args fun v=>K (.d v) M
 | .Jh sz lo hi max=>zu sz lo hi max args M K
 | .fld off=>match args with| [x]=>mM off x M fun v=>K v M| _=>False
 | .Qh agg off n=>match args with| [x]=>x.isAgg=true/\off+n<=x.cells.length/\K (ld agg n off x.cells) M| _=>False
 | .bH sz=>match args with| [x,i]=>uT sz x i M fun v=>K v M| _=>False
 | .WQ=>match args with| [.d (.str s), .d (.int _ n)]=>0<=n/\n.toNat<s.size/\K (.d (.int .u8 (s.data.getD n.toNat 0).toNat)) M| _=>False
 | .Qj agg sz len=>match args with| [x, .d (.int _ n)]=>x.isAgg=true/\0<=n/\n<len/\n.toNat*sz+sz<=x.cells.length/\K (ld agg sz (n.toNat*sz) x.cells) M| _=>False
 | .ext i=>match args with
  | [.d (.tup vs)]=>(match vs[i]? with|some v=>K (.d v) M|none=>False)
  | [.tup vs]=>(match vs[i]? with|some v=>K v M|none=>False)
  | _=>False
 | .call f=>SC C f args M K KP
 | .KX f=>∃p M',SC C f args M (fun q N=>q=p/\N=M') (fun _ _=>False)/\K p M'
 | .KY f=>∃P:PV->Mem->Prop,SC C f args M P KP/\(∃p M',P p M')/\∀p M',P p M'->K p M'
 | .Fp agg n f=>match args with|a::h=>bY agg n a M (fun v=>SC C f h M (fun p M'=>bY agg n a M' (fun F=>F=v)/\K p M') KP)| _=>False
 | .kZ f=>Nh C f args M K
 | .gG f=>Nj C f args M K
 | .yC f=>TJ C f args M K
 | .aj f=>TI C f args M K
 | .dQ=>match args with
  | .d (.func (.func f) fs cs)::args=>callable C.P f=true/\SC C f (fs.map .d++args++cs.map .d) M K KP
  | .func (.func f) fs cs::args=>callable C.P f=true/\SC C f (fs++args++cs) M K KP
  | .mV b::args=>SY C b args M K KP
  | _=>False
 | .app sz B=>match args with| [s,x]=>kL sz B s x M K| _=>False
 | .Ya sz=>match args with| [s,x]=>Qy sz s x M K| _=>False
 | .QM sz=>match args with| [s,x]=>kL sz false s x M fun v M'=>∃d,datum M' v=some d/\K (.d d) (M'.frz [v])| _=>False
 | .len=>match args with| [x]=>qx x M fun n=>K (.d (.int .i64 n)) M| _=>False
 | .Gi=>match args with| [.d (.str s)]=>K (.d (.int .i64 s.size)) M| _=>False
 | .Zg n=>K (.d (.int .i64 n)) M
 | .qo E=>match args with| [.d (.int k a), .d (.int _ b)]=>K (.d (.int k (bif E then(if b>a then b else a)else(if b<a then b else a)))) M| _=>False
 | .panic=>match args with| [x]=>(match datum M x with|some (.iface t d)=>KP (.iface t d) (M.frz [x])| _=>False)| _=>False
 | .L6 g z=>match args with| [.d (.map (some l)), .d (.agg k)]=>(match bW g k k,zY g l k with|some true,some r=>K (.d (r.getD z)) M| _,_=>False)| _=>False
 | .mkRow sz z=>match args with
  | [.d (.int _ n), .d (.int _ m)]=>n=m/\0<=n/\n<=1048576/\0<sz/\z.fits sz=true/\K (.tsl M.aC.length 0 0) {M with aC:=M.aC++ [some ⟨sz,ae n.toNat z,0,1⟩]}
  | _=>False
 | .s2b=>match args with| [.d (.str s)]=>K (.tsl M.aC.length 0 0) {M with aC:=M.aC++ [some ⟨1,s.data.toList.map fun b=> .int .u8 b.toNat,0,1⟩]}| _=>False
 | .b2s=>match args with| [x]=>(match yg 0 x M with|some xs=>(match bytesOf xs with|some l=>K (.d (.str ⟨l.toArray⟩)) M|none=>False)|none=>False)| _=>False
 | .clr sz z=>match args with
  | [.tsl k ver skip]=>(match M.row k ver with
   |some A=>A.st=1/\A.sz=sz/\z.fits sz=true/\K (.d (.tup [])) {M with aC:=M.aC.set k (some {A with elems:=A.elems.take skip++ae (A.elems.length - skip) z})}
   |none=>False)
  | _=>False
 | .tas t z=>match args with| [.d (.iface D v)]=>K (.d (.tup [if D=t then v else z, .bool (decide (D=t))])) M| _=>False
 | .UC sz=>match args with
  | [.tsl k ver skip, .d (.int _ n)]=>(match M.row k ver with
   |some A=>A.sz=sz/\0<=n/\n<=(A.elems.length - skip:Nat)/\K (.tsl k ver (skip+n.toNat)) M
   |none=>False)
  | _=>False
 | .UD sz=>match args with
  | [.tsl k ver skip, .d (.int _ n)]=>(match M.row k ver with
   |some A=>A.sz=sz/\0<=n/\n<=(A.elems.length - skip:Nat)/\K (.psl k ver skip n.toNat) M
   |none=>False)
  | _=>False
 | .copy sz=>match args with
  | [.tsl k ver skip,x]=>(match M.row k ver,Nw x M with
   |some A,some ys=>A.st=1/\A.sz=sz/\(∀y∈ys,y.fits sz=true)/\
     K (.d (.int .i64 (min ys.length (A.elems.length - skip):Nat))) {M with aC:=M.aC.set k (some {A with elems:=A.elems.take skip++(ys.take (A.elems.length - skip)++A.elems.drop (skip+ys.length))})}
   | _,_=>False)
  | _=>False
 | .ED neq=>match args with
  | [.d (.iface _ _), .d .nilIface]=>K (.d (.bool neq)) M
  | [.d .nilIface, .d .nilIface]=>K (.d (.bool !neq)) M
  | _=>False
 | .rngS i=>match args with| [.d (.str s)]=>M.boxes[base+i]?=some none/\K (.zT (base+i)) {M with boxes:=M.boxes.set (base+i) (some [.Gj s 0])}| _=>False
 | .Zu=>match args with
  | [.zT b]=>(match M.box b with
   |some [.Gj s pos]=>b∉M.fz/\(if pos<s.size then K (.d (.tup [.bool true, .int .i64 pos, .int .i32 (Utf8.decode s pos).1])) {M with boxes:=M.boxes.set b (some [.Gj s (pos+(Utf8.decode s pos).2)])}else K (.d (.tup [.bool false])) M)
   | _=>False)
  | _=>False
 | .inv name=>match args with
  | .d (.iface t v)::h=>∃f,IQ C.P t name=some f/\callable C.P f=true/\SC C f (.d v::h) M K KP
  | _=>False
 | .shf op=>match args with
  | [.d (.int k a), .d (.int _ b)]=>0<=b/\(match op with| .shl=>K (.d (.int k (k.wrap (a*2 ^ min b.toNat k.bits)))) M| .shr=>K (.d (.int k (a.fdiv (2 ^ min b.toNat k.bits)))) M| _=>False)
  | _=>False
 | .mkMap i=>match args with| []=>M.boxes[base+i]?=some none/\K (.mref (base+i)) {M with boxes:=M.boxes.set (base+i) (some [.iO []])}| _=>False
 | .Qk g=>match args with
  | [.mref b, .d (.agg k), .d v]=>(match M.box b with
   |some [.iO l]=>b∉M.fz/\(match bW g k k,Dv g l k v with|some true,some j=>K .dead {M with boxes:=M.boxes.set b (some [.iO j])}| _,_=>False)
   | _=>False)
  | _=>False
 | .yx neq=>match args with
  | [.ptr _ _, .d .nilPtr]=>K (.d (.bool neq)) M
  | [.d (.aP _), .d .nilPtr]=>K (.d (.bool neq)) M
  | [.d .nilPtr, .d .nilPtr]=>K (.d (.bool !neq)) M
  | _=>False
 | .GL sz len=>match args with
  | [.ptr b o, .d (.int _ n)]=>0<=n/\n<len/\K (.ptr b (o+n.toNat*sz)) M
  | [.d (.aP cs), .d (.int _ n)]=>0<=n/\n<len/\n.toNat*sz<=cs.length/\K (.d (.aP (cs.drop (n.toNat*sz)))) M
  | _=>False
 | .UA agg sz len=>match args with
  | [.d (.aP cs)]=>cs.length=len*sz/\(agg=false->sz=1/\∀c∈cs,c.one=true)/\K (.d (.slice true (vY agg sz len cs))) M
  | _=>False
 | .Jg ok g z=>match args with
  | [.d (.map (some l)), .d k]=>(match iP g k k,qp g l k with|some true,some r=>K (.d (GI ok z r)) M| _,_=>False)
  | [.mref b, .d k]=>(match M.box b with
   |some [.iO l]=>(match iP g k k,qp g l k with|some true,some r=>K (.d (GI ok z r)) M| _,_=>False)
   | _=>False)
  | _=>False
 | .acf g=>match args with
  | [.mref b, .d k, .d v]=>(match M.box b with
   |some [.iO l]=>b∉M.fz/\(match iP g k k,FH g l k v with|some true,some j=>K .dead {M with boxes:=M.boxes.set b (some [.iO j])}| _,_=>False)
   | _=>False)
  | _=>False
 | .acd g=>match args with
  | [.mref b, .d k]=>(match M.box b with
   |some [.iO l]=>b∉M.fz/\(match iP g k k,FD g l k with|some true,some j=>K (.d (.tup [])) {M with boxes:=M.boxes.set b (some [.iO j])}| _,_=>False)
   | _=>False)
  | _=>False
 | .ng sz zs w=>match gV args with
  |some ds=>(match qJ sz zs w (ds.map DV.strip)with
   |some xs=>0<sz/\(∀x∈xs,x.fits sz=true)/\K (.tsl M.aC.length 0 0) {M with aC:=M.aC++ [some ⟨sz,xs,0,1⟩]}
   |none=>False)
  |none=>False
def eH (C:Ctx)(base:Nat)(o:PO)(K:St->Prop)(KP:DV->Mem->Prop)(s:St):Prop:=
 match o.g with
 |none=>yu base o.fl (o.args.map s.val)/\au C base o.op (o.args.map s.val) s.mem (fun v M=>K ⟨put s.env o.dst v,M⟩) KP
 |some (t,a)=>match look s.env t with
  | .d (.bool x)=>(x=a->yu base o.fl (o.args.map s.val)/\au C base o.op (o.args.map s.val) s.mem (fun v M=>K ⟨put s.env o.dst v,M⟩) KP)/\(x= !a->K ⟨put s.env o.dst (.d (.tup [])),s.mem⟩)
  | .d (.tup [])=>K ⟨put s.env o.dst (.d (.tup [])),s.mem⟩
  | _=>False
def wK (C:Ctx)(base:Nat):List PO->(St->Prop)->(DV->Mem->Prop)->St->Prop
 | [],K,_,s=>K s
 |o::os,K,KP,s=>eH C base o (fun a=>wK C base os K KP a) KP s
def sQ:List Nat->(St->Prop)->St->Prop
 | [],K,s=>K s
 |t::a,K,s=>match datum s.mem (look s.env t)with
  |some d=>sQ a K ⟨(t, .d d)::s.env,s.mem.frz [look s.env t]⟩
  |none=>False
inductive Ex where
 |normal
 |exit (id:Nat)
 |ret
 |panic (d:DV)
mutual
def PV.upto (n m:Nat):PV->Bool
 | .d _=>true
 | .ptr b _=>b<n
 | .jX k _ _ _=>k<m
 | .tsl k _ _=>k<m
 | .psl k _ _ _=>k<m
 | .func _ f c=>NG n m f&&NG n m c
 | .agg cs=>NG n m cs
 | .tup cs=>NG n m cs
 | .dead=>true
 | .mref b=>b<n
 | .mV b=>b<n
 | .zT b=>b<n
 | .Gj _ _=>true
 | .iO _=>true
 | .fQ _=>true
def NG (n m:Nat):List PV->Bool
 | []=>true
 |c::cs=>PV.upto n m c&&NG n m cs
end
def Weak (nb na:Nat)(s a:St):Prop:=
 a=s\/(∃n m,nb<=n/\na<=m/\a.mem=⟨s.mem.boxes.take n,s.mem.fz.filter (fun b=>decide (b<n)),s.mem.aC.take m⟩/\
  (∀t,look a.env t= .dead\/(look a.env t=look s.env t/\(look a.env t).upto n m=true))/\
  ∀cs∈a.mem.boxes,∀c∈cs.getD [],c.upto n m=true)\/
 ∃t d,datum s.mem (look s.env t)=some d/\a=⟨(t, .d d)::s.env,s.mem.frz [look s.env t]⟩
def dN (M:Mem)(L:Loop)(st:LoopState)(a:Option Code)(cells:List PV)(xb:List (Option (List PV)))(xf:List Nat)(xa:List (Option Arr)):Mem:=
 ⟨M.boxes++some (.fQ {L with state:=st,pending:=a}::cells)::xb,xf++M.fz,M.aC++xa⟩
def afterLoop (Q:Ex->St->Prop)(env:List (Nat×PV))(b:Nat)(L:Loop)(M:Mem):Prop:=
 ∃st a cells,M.boxes[b]?=some (some (.fQ {L with state:=st,pending:=a}::cells))/\st≠ .busy/\b∉M.fz/\
  match a with
  |none=>Q .normal ⟨env,{M with boxes:=M.boxes.set b (some (.fQ {L with state:= .exhausted,pending:=a}::cells))}⟩
  |some .ret=>Q .ret ⟨env,{M with boxes:=M.boxes.set b (some (.fQ {L with state:= .exhausted,pending:=a}::cells))}⟩
  |some (.exit id)=>Q (.exit id) ⟨env,{M with boxes:=M.boxes.set b (some (.fQ {L with state:= .exhausted,pending:=a}::cells))}⟩
  | _=>False
def ai5 (b:Nat)(L:Loop)(K:PV->Mem->Prop)(KP:DV->Mem->Prop)(e:Ex)(s:St):Prop:=
 match e with
 | .normal=>∃cells,s.mem.boxes[b]?=some (some (.fQ {L with state:= .busy,pending:=none}::cells))/\b∉s.mem.fz/\K (.d (.bool true)) {s.mem with boxes:=s.mem.boxes.set b (some (.fQ {L with state:= .ready,pending:=none}::cells))}
 | .ret=>∃cells,s.mem.boxes[b]?=some (some (.fQ {L with state:= .busy,pending:=none}::cells))/\b∉s.mem.fz/\K (.d (.bool false)) {s.mem with boxes:=s.mem.boxes.set b (some (.fQ {L with state:= .done,pending:=some .ret}::cells))}
 | .exit id=>∃cells,s.mem.boxes[b]?=some (some (.fQ {L with state:= .busy,pending:=none}::cells))/\b∉s.mem.fz/\K (.d (.bool false)) {s.mem with boxes:=s.mem.boxes.set b (some (.fQ {L with state:= .done,pending:=some (.exit id)}::cells))}
 | .panic d=>KP d s.mem
def ahI:PV->Option (FuncId×List PV×List PV)
 | .d (.func (.func g) fs cs)=>some (g,fs.map .d,cs.map .d)
 | .func (.func g) fs cs=>some (g,fs,cs)
 | _=>none
def pwp (C:Ctx)(nb na:Nat):aA->(Ex->St->Prop)->St->Prop
 | .skip,Q,s=>Q .normal s
 | .region _ p acj keep fz,Q,s=>
  wK C s.mem.boxes.length p (fun h=>sQ fz (Q .normal) ⟨iq h.env keep,h.mem⟩) (fun d M=>Q (.panic d) ⟨[],M⟩)
   ⟨s.env,{s.mem with boxes:=s.mem.boxes++ae acj none}⟩
 | .seq a b,Q,s=>pwp C nb na a (fun e h=>match e with| .normal=>pwp C nb na b Q h|e=>Q e h) s
 | .cond c a b,Q,s=>match s.val c with
  | .d (.bool x)=>(x=true->pwp C nb na a Q s)/\(x=false->pwp C nb na b Q s)
  | _=>False
 | .block id b,Q,s=>pwp C nb na b (fun e h=>match e with| .exit k=>if k=id then Q .normal h else Q (.exit k) h|e=>Q e h) s
 | .loop b,Q,s=>∃(I:Nat->St->Prop) (n:Nat),I n s/\
   ∀n s,I n s->pwp C nb na b (fun e h=>match e with| .normal=>∃q m,q<n/\Weak nb na h m/\I q m|e=>Q e h) s
 | .exit id,Q,s=>Q (.exit id) s
 | .scope b,Q,s=>pwp C nb na b Q s
 | .label _,Q,s=>Q .normal s
 | .ret,Q,s=>Q .ret s
 | .nD f ps l o j,Q,s=>∃g fs cs,ahI (s.val f)=some (g,fs,cs)/\callable C.P g=true/\s.mem.boxes.length∉s.mem.fz/\
  ∀L:Loop,L.pending=none->
   (∀(args:List DV) (K:PV->Mem->Prop) (KP:DV->Mem->Prop) (i:Mem),args.length=ps.length->
    i.boxes[s.mem.boxes.length]?=some (some (.fQ {L with state:= .ready,pending:=none}::(ck L.tmps.size).map (look s.env)))->s.mem.boxes.length∉i.fz->
    pwp C nb na o (fun e r=>e= .normal/\r.mem=i/\
     pwp C nb na j (ai5 s.mem.boxes.length L K KP) ⟨r.env,{i with boxes:=i.boxes.set s.mem.boxes.length (some (.fQ {L with state:= .busy,pending:=none}::(ck L.tmps.size).map (look s.env)))}⟩)
     ⟨ps.zip (args.map .d)++iq s.env l,i⟩->
    SY C s.mem.boxes.length (args.map .d) i K KP)->
   SC C g (fs++ [.mV s.mem.boxes.length]++cs) (dN s.mem L .ready none ((ck L.tmps.size).map (look s.env)) [] [] [])
    (fun _ M=>afterLoop Q s.env s.mem.boxes.length L M) (fun d M=>Q (.panic d) ⟨[],M⟩)
def lV (x:DV)(xs:List DV):flat (x::xs)=x.cells++flat xs:=by simp[flat]
def xg (xs ys:List DV):flat (xs++ys)=flat xs++flat ys:=by simp[flat]
def flat_length {sz:Nat}:∀{xs:List DV},(∀x∈xs,x.cells.length=sz)->(flat xs).length=xs.length*sz
 | [],_=>by simp[flat]
 |x::xs,h=>by
  rw[lV,bj,h x (by simp),flat_length (fun y a=>h y (by simp[a])),b7,az,cb,bX]
variable{sz:Nat}{x:DV}
def DV.dK (h:x.fits sz=true):x.cells.length=sz:=by simp[DV.fits]at h;exact h.1
def DV.LC (h:x.fits sz=true):∀c∈x.cells,c.one=true:=by simp[DV.fits]at h;exact h.2
def zB {sz:Nat}:∀{xs:List DV} (_:∀x∈xs,x.cells.length=sz) (n:Nat),(flat xs).drop (n*sz)=flat (xs.drop n)
 |xs,_,0=>by simp
 | [],_,n+1=>by simp[flat]
 |x::xs,h,n+1=>by
  rw[lV,az,cb,bX,List.drop_append,a6 (by rw[h x (by simp)];omega),bz,h x (by simp),bs,List.drop_succ_cons];exact zB (fun y a=>h y (by simp[a])) n
def Dn {sz:Nat}:∀{xs:List DV} (_:∀x∈xs,x.cells.length=sz) (n:Nat),(flat xs).take (n*sz)=flat (xs.take n)
 |xs,_,0=>by simp[flat]
 | [],_,n+1=>by simp[flat]
 |x::xs,h,n+1=>by
  rw[lV,az,cb,bX,br,aq (by rw[h x (by simp)];omega),h x (by simp),bs,List.take_succ_cons,lV];rw[Dn (fun y a=>h y (by simp[a])) n]
def flat_get {xs:List DV}(h:∀x∈xs,x.cells.length=sz){i:Nat}(hi:i<xs.length):((flat xs).drop (i*sz)).take sz=xs[i].cells:=by
 rw[zB h,bk hi,lV,br,aq (by rw[h _ (am hi)];omega),h _ (am hi)];simp
def getD_eq {α:Type}{xs:List α}{i:Nat}(hi:i<xs.length)(d:α):xs.getD i d=xs[i]:=by simp[be,W hi]
section
variable {C:Ctx}{X:Nat->Prop}{w w':World}{M M':Mem}{E E':Emb}
def Sim.Gq (h:Sim C X w M E){b blk:Nat}{cs:List PV}(hb:M.boxes[b]?=some (some cs))(d:E.bx[b]?=some blk):blk<w.heap.size:=by
 obtain⟨c,h1,_,a⟩:=h.box b cs hb;rw[d]at h1;cases h1;obtain⟨o,a⟩:=a.obj;exact dw a
def Sim.cells (h:Sim C X w M E){b:Nat}{cs:List PV}(hb:M.boxes[b]?=some (some cs))(ho:isObj cs=false):∃(blk:Nat) (vs:Array Value) (T:TypeId),E.bx[b]?=some blk/\¬X blk/\w.heap[blk]?=some (.cells vs T (0,0))/\aQ w (away X M E) M E vs.toList cs:=by
 obtain⟨blk,h1,h2,a⟩:=h.box b cs hb;rw[nR.plain ho]at a;obtain⟨vs,T,a,c⟩:=a;exact⟨blk,vs,T,h1,h2,a,c⟩
def nR.from {blk:Nat}{cs:List PV}(h:nR w (away X M E) M E blk cs)(hf:From w M E w' M' E')(hb:∀o,w.heap[blk]?=some o->w'.heap[blk]?=some o):nR w' (away X M' E') M' E' blk cs:=
 h.move hb hf.mono fun _ _ _ a=>a.from hf
def Sim.Ei (h:Sim C X w M E){k blk o e:Nat}{A:Arr}(hk:M.aC[k]?=some (some A))(b:E.ar[k]?=some (some (blk,o,e))):blk<w.heap.size:=by
 obtain⟨_,vs,T,a,_⟩:=(h.arr k A hk).2.2.2 blk o e b;exact dw a
def Sim.SN (h:Sim C X w M E){b:Nat}(ho:owned M E b):b<w.heap.size:=by
 rcases ho with⟨i,cs,h1,_,h2⟩|⟨k,A,o,e,h1,_,h2⟩
 ·exact h.Gq h1 h2
 ·exact h.Ei h1 h2
def Sim.wQ (h:Sim C X w M E){b:Nat}(ho:away X M E b):b<w.heap.size:=ho.elim (h.xlt b) h.SN
structure Later (w w':World):Prop where
 os:w'.os=w.os
 tape:w'.tape=w.tape
 output:w'.output=w.output
 size:w.heap.size<=w'.heap.size
 keep:∀b,b<w.heap.size->w'.heap[b]?=w.heap[b]?
def Later.refl (w:World):Later w w:=⟨rfl,rfl,rfl,H _,fun _ _=>rfl⟩
def Later.trans {w w' a:World}(h:Later w w')(h':Later w' a):Later w a:=
 ⟨h'.os.trans h.os,h'.tape.trans h.tape,h'.output.trans h.output,aE h.size h'.size,fun b c=>(h'.keep b (ai c h.size)).trans (h.keep b c)⟩
def Later.alloc (w:World)(o:Obj):Later w (w.alloc o):=⟨rfl,rfl,rfl,by simp,fun b a=>RowKit.Below.heap_alloc w o b a⟩
def Later.drew (w:World):Later w w.drew:=⟨rfl,rfl,rfl,H _,fun _ _=>rfl⟩
def Later.jG {w w':World}(h:Later w w'){b:Nat}{o:Obj}(hb:w.heap[b]?=some o):w'.heap[b]?=some o:=(h.keep b (dw hb)).trans hb
def Later.from (hl:Later w w')(M:Mem)(E:Emb):From w M E w' M E:=
 ⟨hl.os,hl.tape,hl.output,hl.size,fun _ _ _ b=>hl.jG b,fun _ h=> .inl h,H _,fun _ cs h=>⟨rfl,cs,h,rfl⟩,H _,fun _ a _ h=>⟨a,h,H _,fun _=>⟨rfl,rfl,rfl,fun _=>rfl⟩⟩⟩
def Sim.later (h:Sim C X w M E)(hl:Later w w'):Sim C X w' M E:={
 glob:=C.keeps w w' h.glob fun b a=>hl.keep b (h.xlt b (h.iF b a))
 iF:=h.iF
 xlt:=fun b a=>ai (h.xlt b a) hl.size
 iE:=h.iE
 bC:=h.bC
 box:=fun b cs a=>by
  obtain⟨blk,h1,h2,h3⟩:=h.box b cs a;exact⟨blk,h1,h2,h3.from (hl.from M E) fun _ j=>hl.jG j⟩
 arr:=fun k A g=>by
  obtain⟨h1,h2,h3,f⟩:=h.arr k A g;refine⟨h1,h2,h3,fun blk o e i=> ?_⟩;obtain⟨c,vs,T,g2,g3,g4,d⟩:=f blk o e i;exact⟨c,vs,T,hl.jG g2,g3,g4,d.from (hl.from M E)⟩
 bb:=h.bb
 aa:=h.aa
 ba:=h.ba}
variable{j:Nat}
def aO {α:Type}{l:List α}{i:Nat}{x y:α}(h:(l.set i x)[j]?=some y):(j=i/\y=x)\/(j≠i/\l[j]?=some y):=by
 rw[aw]at h
 split at h
 ·rename_i e;subst e
  split at h
  ·simp at h;exact .inl ⟨rfl,h.symm⟩
  ·cases h
 ·rename_i e;exact .inr ⟨fun h=>e h.symm,h⟩
def VK {id:Nat}{vs:Array Value}{T:TypeId}{cs:List PV}(h:Sim C X w M E)(hid:M.boxes[id]?=some none)(u:aQ w (away X M E) M E vs.toList cs):
  Sim C X (w.alloc (.cells vs T)) {M with boxes:=M.boxes.set id (some cs)} {E with bx:=E.bx.set id w.heap.size}/\
  From w M E (w.alloc (.cells vs T)) {M with boxes:=M.boxes.set id (some cs)} {E with bx:=E.bx.set id w.heap.size}/\
  Rep (w.alloc (.cells vs T)) (away X {M with boxes:=M.boxes.set id (some cs)} {E with bx:=E.bx.set id w.heap.size}) {M with boxes:=M.boxes.set id (some cs)} {E with bx:=E.bx.set id w.heap.size}
   (.pointer (some ⟨w.heap.size,0,none⟩)) (.ptr id 0):=by
 have m:id<M.boxes.length:=(Z.1 hid).1;have WL:id<E.bx.length:=h.iE▸m;have c:∀b,b≠id->(E.bx.set id w.heap.size)[b]?=E.bx[b]?:=fun b f=>by rw[aw];simp[Ne.symm f]
 have hbi:(E.bx.set id w.heap.size)[id]?=some w.heap.size:=by simp[WL]
 have n:From w M E (w.alloc (.cells vs T)) {M with boxes:=M.boxes.set id (some cs)} {E with bx:=E.bx.set id w.heap.size}:=
  {os:=rfl,tape:=rfl,output:=rfl,size:=by simp
   keep:=fun b o _ t=>(Later.alloc w _).jG t
   own:=by
    rintro b (⟨i,cs',h1,h2,h3⟩|⟨k,A,o,e,h1,h2,h3⟩)
    ·rcases aO h1 with⟨rfl,_⟩|⟨a,h1'⟩
     ·rw[hbi]at h3;cases h3;exact .inr (H _)
     ·rw[c i a]at h3;exact .inl (.inl ⟨i,cs',h1',h2,h3⟩)
    ·exact .inl (.inr ⟨k,A,o,e,h1,h2,h3⟩)
   iE:=by simp
   bx:=fun b cs' f=>by
    have a:b≠id:=by rintro rfl;rw[hid]at f;cases f
    exact⟨c b a,cs',by rw[aw];simp[Ne.symm a,f],rfl⟩
   bC:=H _
   ar:=fun _ v _ h=>⟨v,h,H _,fun _=>⟨rfl,rfl,rfl,fun _=>rfl⟩⟩}
 refine⟨?_,n, .ptr (cs:=cs) (by simp[m]) hbi u.Oh⟩;exact
  {glob:=C.keeps w _ h.glob fun b f=>(Later.alloc w _).keep b (h.xlt b (h.iF b f)),iF:=h.iF
   xlt:=fun b f=>by have:=h.xlt b f;simp;omega
   iE:=by simp[h.iE]
   bC:=h.bC
   box:=fun b cs' f=>by
    rcases aO f with⟨rfl,s⟩|⟨a,r⟩
    ·cases s
     exact⟨w.heap.size,hbi,fun D=>absurd (h.xlt _ D) (by omega), .mk (heap_alloc_new w _) (u.from n)⟩
    ·obtain⟨blk,h1,h2,h3⟩:=h.box b cs' r
     exact⟨blk,(c b a).trans h1,h2,h3.from n fun _ t=>(Later.alloc w _).jG t⟩
   arr:=fun k A z=>by
    obtain⟨h1,h2,h3,d⟩:=h.arr k A z;refine⟨h1,h2,h3,fun blk o e B=> ?_⟩;obtain⟨x,vs,T,g2,g3,g4,y⟩:=d blk o e B;exact⟨x,vs,T,(Later.alloc w _).jG g2,g3,g4,y.from n⟩
   bb:=fun b p j q blk h1 h2 h3 d=>by
    rcases aO h1 with⟨rfl,_⟩|⟨a,h1'⟩<;>rcases aO h2 with⟨rfl,_⟩|⟨g,l⟩
    ·rfl
    ·rw[hbi]at h3;cases h3;rw[c p g]at d;exact absurd (h.Gq l d) (by omega)
    ·rw[hbi]at d;cases d;rw[c b a]at h3;exact absurd (h.Gq h1' h3) (by omega)
    ·rw[c b a]at h3;rw[c p g]at d;exact h.bb b p j q blk h1' l h3 d
   aa:=h.aa
   ba:=fun b k j A blk o e h1 h2 h3 d=>by
    rcases aO h1 with⟨rfl,_⟩|⟨a,h1'⟩
    ·rw[hbi]at h3;cases h3;exact absurd (h.Ei h2 d) (by omega)
    ·rw[c b a]at h3;exact h.ba b k j A blk o e h1' h2 h3 d}
def gX {α:Type}{l:List α}{x y:α}(h:(l++ [x])[j]?=some y):(j=l.length/\y=x)\/(j<l.length/\l[j]?=some y):=by
 by_cases a:j<l.length
 ·exact .inr ⟨a,by rw[Y a]at h;exact h⟩
 ·rw[bi (by omega)]at h
  rcases Nat.lt_or_ge (j - l.length) 1 with hh|hh
  ·have:j=l.length:=by omega
   subst this;simp at h;exact .inl ⟨rfl,h.symm⟩
  ·rw[List.getElem?_eq_none (by simpa using hh)]at h;cases h
def wL {A:Arr}{loc:Option (Nat×Nat×Nat)}(h:Sim C X w M E)(hl:Later w w')(B:0<A.sz)(hfit:∀x∈A.elems,x.fits A.sz=true)(z:A.st=1->loc≠none)
  (j:∀blk o e,loc=some (blk,o,e)->w.heap.size<=blk/\∃(vs:Array Value) (T:TM vs.size),w'.heap[blk]?=some (.cells vs T.ty T.fr)/\o+A.elems.length*A.sz<=e/\e<=vs.size/\
   aV w (away X M E) ((vs.toList.drop o).take (A.elems.length*A.sz)) (flat A.elems)):
  Sim C X w' {M with aC:=M.aC++ [some A]} {E with ar:=E.ar++ [loc]}/\From w M E w' {M with aC:=M.aC++ [some A]} {E with ar:=E.ar++ [loc]}:=by
 have c:∀blk o e,loc=some (blk,o,e)->w.heap.size<=blk:=fun blk o e hh=>(j blk o e hh).1
 have a:∀k,k<E.ar.length->(E.ar++ [loc])[k]?=E.ar[k]?:=fun k f=>Y f
 have afn:(E.ar++ [loc])[M.aC.length]?=some loc:=by rw[<-h.bC];simp
 have p:From w M E w' {M with aC:=M.aC++ [some A]} {E with ar:=E.ar++ [loc]}:=
  {os:=hl.os,tape:=hl.tape,output:=hl.output,size:=hl.size
   keep:=fun b o _ v=>hl.jG v
   own:=by
    rintro b (⟨i,cs',h1,h2,h3⟩|⟨k,A',o,e,h1,h2,h3⟩)
    ·exact .inl (.inl ⟨i,cs',h1,h2,h3⟩)
    ·rcases gX h1 with⟨rfl,_⟩|⟨f,h1'⟩
     ·simp only[afn,Option.some.injEq]at h3;exact .inr (c _ _ _ h3)
     ·rw[a k (by rw[h.bC];exact f)]at h3;exact .inl (.inr ⟨k,A',o,e,h1',h2,h3⟩)
   iE:=H _
   bx:=fun b cs' hb=>⟨rfl,cs',hb,rfl⟩
   bC:=by simp
   ar:=fun k A' f u=>by
    rcases gX u with⟨rfl,_⟩|⟨_,hA'⟩
    ·omega
    ·exact⟨A',hA',H _,fun _=>⟨a k (by rw[h.bC];exact f),rfl,rfl,fun _=>rfl⟩⟩}
 refine⟨?_,p⟩;exact
  {glob:=C.keeps w w' h.glob fun b hb=>hl.keep b (h.xlt b (h.iF b hb)),iF:=h.iF
   xlt:=fun b hb=>ai (h.xlt b hb) hl.size
   iE:=h.iE
   bC:=by simp[h.bC]
   box:=fun b cs hb=>by
    obtain⟨blk,h1,h2,h3⟩:=h.box b cs hb;exact⟨blk,h1,h2,h3.from p fun _ v=>hl.jG v⟩
   arr:=fun k A' u=>by
    rcases gX u with⟨rfl,l⟩|⟨f,hA'⟩
    ·cases l
     refine⟨B,hfit,fun y=> ?_,fun blk o e l=> ?_⟩
     ·cases n:loc with
      |none=>exact absurd n (z y)
      |some q=>exact⟨q,n▸afn⟩
     ·simp only[afn,Option.some.injEq]at l
      obtain⟨G,vs,T,g2,g3,g4,t⟩:=j blk o e l;refine⟨fun K=>absurd (h.xlt _ K) (by omega),vs,T,g2,g3,g4,t.from p⟩
    ·obtain⟨h1,h2,h3,d⟩:=h.arr k A' hA'
     have F:=a k (by rw[h.bC];exact f);refine⟨h1,h2,fun y=>by rw[F];exact h3 y,fun blk o e l=> ?_⟩;simp only[F]at l;obtain⟨G,vs,T,g2,g3,g4,t⟩:=d blk o e l;exact⟨G,vs,T,hl.jG g2,g3,g4,t.from p⟩
   bb:=h.bb
   aa:=fun k D r I blk o e L J h1 h2 h3 d=>by
    rcases gX h1 with⟨rfl,_⟩|⟨f,h1'⟩<;>rcases gX h2 with⟨rfl,_⟩|⟨m,g⟩
    ·rfl
    ·simp only[afn,Option.some.injEq]at h3;simp only[a D (by rw[h.bC];exact m)]at d
     exact absurd (h.Ei g d) (by have:=c _ _ _ h3;omega)
    ·simp only[afn,Option.some.injEq]at d;simp only[a k (by rw[h.bC];exact f)]at h3
     exact absurd (h.Ei h1' h3) (by have:=c _ _ _ d;omega)
    ·simp only[a k (by rw[h.bC];exact f)]at h3;simp only[a D (by rw[h.bC];exact m)]at d
     exact h.aa k D r I blk o e L J h1' g h3 d
   ba:=fun b k s r blk o e h1 h2 h3 d=>by
    rcases gX h2 with⟨rfl,_⟩|⟨f,g⟩
    ·simp only[afn,Option.some.injEq]at d;exact absurd (h.Gq h1 h3) (by have:=c _ _ _ d;omega)
    ·simp only[a k (by rw[h.bC];exact f)]at d;exact h.ba b k s r blk o e h1 g h3 d}
end
section
variable {w:World}{O:Nat->Prop}{M:Mem}{E:Emb}
def aQ.length:∀{vs:List Value} {ds:List PV},aQ w O M E vs ds->vs.length=ds.length
 | _,_, .nil=>rfl
 | _,_, .cons _ t=>by simp[aQ.length t]
def aQ.get':∀{vs:List Value} {ds:List PV} (_:aQ w O M E vs ds) (i:Nat) (d:PV) (_:ds[i]?=some d),∃v,vs[i]?=some v/\Rep w O M E v d
 | _,_, .nil,i,d,h=>by simp at h
 | _,_, .cons h t,0,d,hd=>by simp at hd;subst hd;exact⟨_,rfl,h⟩
 | _,_, .cons h t,i+1,d,hd=>by simpa using aQ.get' t i d (by simpa using hd)
def aQ.append:∀{vs us:List Value} {ds es:List PV},aQ w O M E vs ds->aQ w O M E us es->aQ w O M E (vs++us) (ds++es)
 | _,_,_,_, .nil,h=>h
 | _,_,_,_, .cons h t,a=> .cons h (aQ.append t a)
def aQ.take:∀{vs:List Value} {ds:List PV} (_:aQ w O M E vs ds) (n:Nat),aQ w O M E (vs.take n) (ds.take n)
 | _,_,_,0=>by simpa using .nil
 | _,_, .nil,n+1=>by simpa using .nil
 | _,_, .cons h t,n+1=>by simpa using .cons h (aQ.take t n)
def aQ.drop:∀{vs:List Value} {ds:List PV} (_:aQ w O M E vs ds) (n:Nat),aQ w O M E (vs.drop n) (ds.drop n)
 | _,_,h,0=>by simpa using h
 | _,_, .nil,n+1=>by simpa using .nil
 | _,_, .cons h t,n+1=>by simpa using aQ.drop t n
def aQ.splice {vs us:List Value}{ds es:List PV}(h:aQ w O M E vs ds)(h':aQ w O M E us es)(off:Nat):aQ w O M E (splice vs off us) (splice ds off es):=by
 unfold Am.splice;rw[h'.length];exact((h.take off).append h').append (h.drop _)
def aV.splice {vs us:List Value}{ds es:List DV}(h:aV w O vs ds)(h':aV w O us es)(off:Nat):aV w O (splice vs off us) (splice ds off es):=by
 unfold Am.splice;rw[h'.length];exact((h.take off).append h').append (h.drop _)
def aQ.ofD:∀{vs:List Value} {ds:List DV},aV w O vs ds->aQ w O M E vs (ds.map .d)
 | _,_, .nil=> .nil
 | _,_, .cons h t=> .cons (.d h) (aQ.ofD t)
def Rep.toD {v:Value}{x:DV}(h:Rep w O M E v (.d x)):bK w O v x:=by cases h;assumption
def aQ.toL:∀{vs:List Value} {ds:List DV},aQ w O M E vs (ds.map .d)->aV w O vs ds
 | [],[], .nil=> .nil
 | _::_,_::_, .cons h t=> .cons h.toD (aQ.toL t)
def IB:∀{ps:List PV} {ds:List DV},gV ps=some ds->ps=ds.map .d
 | [],ds,h=>by simp[gV]at h;subst h;rfl
 | .d x::l,ds,h=>by
  simp only[gV,J]at h;obtain⟨xs,h1,rfl⟩:=h;simp[IB h1]
 | .ptr _ _::_,_,h| .jX _ _ _ _::_,_,h| .tsl _ _ _::_,_,h| .func _ _ _::_,_,h| .agg _::_,_,h| .tup _::_,_,h| .dead::_,_,h| .mref _::_,_,h| .psl _ _ _ _::_,_,h| .zT _::_,_,h| .Gj _ _::_,_,h| .mV _::_,_,h| .iO _::_,_,h| .fQ _::_,_,h=>by simp[gV]at h
def aQ.gV {vs:List Value}{ps:List PV}{ds:List DV}(h:aQ w O M E vs ps)(hd:gV ps=some ds):aV w O vs ds:=by
 rw[IB hd]at h;exact h.toL
def Rep.cells {v:Value}{p:PV}(h:Rep w O M E v p)(i:p≠ .dead):aQ w O M E v.cells.toList p.cells:=by
 cases h with
 |d h=>cases h with
  |agg h=>exact aQ.ofD h
  | _=>exact .cons (.d (by constructor<;>assumption)) .nil
 |ptr c b e=>exact .cons (.ptr c b e) .nil
 |mref c b e=>exact .cons (.mref c b e) .nil
 |mV c b e=>exact .cons (.mV c b e) .nil
 |zT c b e=>exact .cons (.zT c b e) .nil
 |jX a h=>exact .cons (.jX a h) .nil
 |tsl a h=>exact .cons (.tsl a h) .nil
 |psl a h=>exact .cons (.psl a h) .nil
 |dead=>exact absurd rfl i
 |func g f=>exact .cons (.func g f) .nil
 |agg h=>exact h
 |tup h=>exact .cons (.tup h) .nil
end
section
variable {C:Ctx}{X:Nat->Prop}{w w':World}{M M':Mem}{E E':Emb}
structure Wrote (g:Nat) (w w':World) (vs:List Value) (T:TypeId) (mk:Nat×Nat:=(0,0)):Prop where
 os:w'.os=w.os
 tape:w'.tape=w.tape
 output:w'.output=w.output
 size:w'.heap.size=w.heap.size
 at_:w'.heap[g]?=some (.cells vs.toArray T mk)
 keep:∀b,b≠g->w'.heap[b]?=w.heap[b]?
def vk (w:World)(g:Nat)(a:Array Value)(T:TypeId)(vs:List Value){mk:Nat×Nat}(d:w.heap[g]?=some (.cells a T mk)):Wrote g w (w.setRow g vs.toArray) vs T mk:={
 os:=rfl
 tape:=rfl
 output:=rfl
 size:=by simp
 at_:=setRow_heap w g a vs.toArray T mk d
 keep:=fun b c=>by simp only[World.setRow,Array.getElem?_modify];rw[if_neg (Ne.symm c)]}
def Wrote.jG {g:Nat}{vs:List Value}{T:TypeId}{mk:Nat×Nat}(h:Wrote g w w' vs T mk){b:Nat}{o:Obj}(hb:b≠g)(ho:w.heap[b]?=some o):w'.heap[b]?=some o:=(h.keep b hb).trans ho
def length_splice {α:Type}(cs:List α)(off:Nat)(new:List α)(h:off+new.length<=cs.length):(splice cs off new).length=cs.length:=by
 simp[splice];omega
variable{off blk:Nat}{vs:Array Value}{us:List Value}
def agb {b:Nat}{cs ps:List PV}{T:TypeId}(h:Sim C X w M E)(hb:M.boxes[b]?=some (some cs))(z:b∉M.fz)
  (he:E.bx[b]?=some blk)(I:w.heap[blk]?=some (.cells vs T (0,0)))(s:aQ w (away X M E) M E us ps)(f:Wrote blk w w' (splice vs.toList off us) T):
  Sim C X w' {M with boxes:=M.boxes.set b (some (splice cs off ps))} E/\From w M E w' {M with boxes:=M.boxes.set b (some (splice cs off ps))} E:=by
 have B:b<M.boxes.length:=(Z.1 hb).1;have r:owned M E blk:= .inl ⟨b,cs,hb,z,he⟩;have hX:¬X blk:=by
  obtain⟨a,h1,h2,_⟩:=h.box b cs hb;rw[he]at h1;cases h1;exact h2
 have n:isObj cs=false:=by
  obtain⟨a,h1,_,h3⟩:=h.box b cs hb;rw[he]at h1;cases h1;exact h3.Oh I
 have q:isObj (splice cs off ps)=false:=by
  obtain⟨a,vs',T',h1,h2,h3,g⟩:=h.cells hb n;exact(g.splice s off).Oh
 have c:∀(i:Nat) (cs':List PV),(M.boxes.set b (some (splice cs off ps)))[i]?=some (some cs')->∃cs'':List PV,M.boxes[i]?=some (some cs''):=by
  intro i cs' hi
  rcases aO hi with⟨rfl,_⟩|⟨_,l⟩
  ·exact⟨cs,hb⟩
  ·exact⟨cs',l⟩
 have t:From w M E w' {M with boxes:=M.boxes.set b (some (splice cs off ps))} E:=
  {os:=f.os,tape:=f.tape,output:=f.output,size:=cp f.size.symm
   keep:=fun i o hi F=>f.jG (fun e=>hi (e▸r)) F
   own:=by
    rintro i (⟨j,cs',h1,h2,h3⟩|⟨k,A,o,e,h1,h2,h3⟩)
    ·obtain⟨cs'',h1'⟩:=c j cs' h1
     exact .inl (.inl ⟨j,cs'',h1',h2,h3⟩)
    ·exact .inl (.inr ⟨k,A,o,e,h1,h2,h3⟩)
   iE:=by simp
   bx:=fun i cs' hi=>by
    refine⟨rfl,?_⟩
    by_cases p:i=b
    ·subst p;rw[hb]at hi;cases hi;exact⟨splice cs off ps,by simp[B],q.trans n.symm⟩
    ·exact⟨cs',by rw[aw];simp[Ne.symm p,hi],rfl⟩
   bC:=H _
   ar:=fun _ K _ h=>⟨K,h,H _,fun _=>⟨rfl,rfl,rfl,fun _=>rfl⟩⟩}
 refine⟨?_,t⟩;exact
  {glob:=C.keeps w w' h.glob fun b hb=>f.keep b (fun e=>hX (e▸h.iF b hb)),iF:=h.iF
   xlt:=fun i hi=>by rw[f.size];exact h.xlt i hi
   iE:=by simp[h.iE]
   bC:=h.bC
   box:=fun i cs' hi=>by
    rcases aO hi with⟨rfl,y⟩|⟨D,l⟩
    ·cases y
     obtain⟨a,vs',T',h1,h2,h3,g⟩:=h.cells hb n;rw[he]at h1;cases h1;rw[I]at h3;cases h3;exact⟨blk,he,hX, .mk f.at_ (by simpa using(g.splice s off).from t)⟩
    ·obtain⟨a,h1,h2,h3⟩:=h.box i cs' l
     have d:a≠blk:=fun e=>D (h.bb i b cs' cs blk l hb (e▸h1) he)
     exact⟨a,h1,h2,h3.from t fun _ F=>f.jG d F⟩
   arr:=fun k A G=>by
    obtain⟨h1,h2,h3,g⟩:=h.arr k A G;refine⟨h1,h2,h3,fun a o e J=> ?_⟩;obtain⟨O,vs',T',g2,g3,g4,P⟩:=g a o e J;have d:a≠blk:=fun N=>h.ba b k cs A blk o e hb G he (N▸J)
    exact⟨O,vs',T',f.jG d g2,g3,g4,P.from t⟩
   bb:=fun i j m u a h1 h2 h3 g=>by
    obtain⟨v,h1'⟩:=c i m h1;obtain⟨L,x⟩:=c j u h2;exact h.bb i j v L a h1' x h3 g
   aa:=h.aa
   ba:=fun i k m A a o e h1 h2 h3 g=>by
    obtain⟨v,h1'⟩:=c i m h1;exact h.ba i k v A a o e h1' h2 h3 g}
variable{ds:List DV}
def TQ {x:DV}(h:off+ds.length<=x.cells.length)(hd:0<ds.length)(h1:ds.all DV.one=true):(setCells x off ds).cells=splice x.cells off ds:=by
 cases x with
 |agg cs=>rfl
 | _=>
  simp only[DV.cells,bB]at h;have a:off=0:=by omega
  have h2:ds.length=1:=by omega
  subst a;obtain⟨d,rfl⟩:=bu.1 h2;simp only[setCells,splice,DV.cells,cl,bz,b5,bB,bL];simp only[List.drop_one,List.tail_cons,bw];cases d<;>simp_all[DV.one]
def Rz {sz:Nat}:∀{xs:List DV} (_:∀x∈xs,x.cells.length=sz) {i:Nat} (hi:i<xs.length) {y:DV} (_:y.cells.length=sz) {off:Nat} {ds:List DV} (_:y.cells=splice xs[i].cells off ds) (_:off+ds.length<=sz),
  flat (xs.set i y)=splice (flat xs) (i*sz+off) ds
 | [],_,i,hi,_,_,_,_,_,_=>by simp at hi
 |x::xs,h,0,_,y,d,off,ds,a,b=>by
  simp only[List.set_cons_zero,lV,a,List.getElem_cons_zero,Nat.zero_mul,b5,splice];have c:x.cells.length=sz:=h x (by simp);rw[List.take_append_of_le_length (by omega),bc (by omega)];simp
 |x::xs,h,i+1,hi,y,d,off,ds,a,b=>by
  have c:x.cells.length=sz:=h x (by simp);simp only[List.set_cons_succ,lV];rw[Rz (fun z g=>h z (by simp[g])) (by simpa using hi) d (by simpa using a) b];have e:(i+1)*sz+off=x.cells.length+(i*sz+off):=by rw[c,az];omega
  have f:∀q,x.cells.length+q+ds.length=x.cells.length+(q+ds.length):=fun q=>by omega
  simp only[splice,e,f,List.take_length_add_append,List.drop_length_add_append,aR]
def CJ {α:Type}(cs new:List α)(n off:Nat)(h:off+new.length<=n)(b:n<=cs.length):(splice cs off new).take n=splice (cs.take n) off new:=by
 simp only[splice,br,b9,bj,ao,ax];have h1:min off cs.length=off:=by omega
 have h2:min n off=off:=by omega
 have a:min off n=off:=by omega
 simp only[h1,h2,a,aR];rw[aq (by omega:new.length<=n - off)]
def tZ {α:Type}(cs new:List α)(o off:Nat)(h:o<=off)(a:off<=cs.length):(splice cs off new).drop o=splice (cs.drop o) (off - o) new:=by
 simp only[splice,aR];rw[bc (by simp;omega),ao,an,show o+(off - o+new.length)=off+new.length by omega]
def acK {k i o e:Nat}{A:Arr}{T:TM vs.size}(h:Sim C X w M E)(hk:M.aC[k]?=some (some A))(ai:A.st=1)
  (s:E.ar[k]?=some (some (blk,o,e)))(hg:w.heap[blk]?=some (.cells vs T.ty T.fr))(hi:i<A.elems.length)(f:off+ds.length<=(A.elems.getD i default).cells.length)(hd:0<ds.length)(h1:ds.all DV.one=true)
  (D:aV w (away X M E) us ds)(n:Wrote blk w w' (splice vs.toList (o+i*A.sz+off) us) T.ty T.fr):
  Sim C X w' {M with aC:=M.aC.set k (some {A with elems:=A.elems.set i (setCells (A.elems.getD i default) off ds)})} E/\
  From w M E w' {M with aC:=M.aC.set k (some {A with elems:=A.elems.set i (setCells (A.elems.getD i default) off ds)})} E:=by
 rw[getD_eq hi]at f⊢;generalize g:({A with elems:=A.elems.set i (setCells A.elems[i] off ds)}:Arr)=A';have ae:k<M.aC.length:=(Z.1 hk).1;obtain⟨s1,s2,s3,s4⟩:=h.arr k A hk;obtain⟨hX,vs',T',P,g3,g4,g5⟩:=s4 blk o e s;rw[hg]at P;simp only[Option.some.injEq,Obj.cells.injEq]at P;obtain⟨rfl,_,_⟩:=P;have z:owned M E blk:= .inr ⟨k,A,o,e,hk,by omega,s⟩;have q:A.elems[i].fits A.sz=true:=s2 _ (am hi);have y:A.elems[i].cells.length=A.sz:=DV.dK q;have r:=TQ f hd h1;have d:∀(j:Nat) (B:Arr),(M.aC.set k (some A'))[j]?=some (some B)->∃B':Arr,M.aC[j]?=some (some B')/\B.st=B'.st:=by
  intro j B hj
  rcases aO hj with⟨rfl,v⟩|⟨_,Q⟩
  ·cases v;exact⟨A,hk,by rw[<-g]⟩
  ·exact⟨B,Q,rfl⟩
 have J:From w M E w' {M with aC:=M.aC.set k (some A')} E:=
  {os:=n.os,tape:=n.tape,output:=n.output,size:=cp n.size.symm
   keep:=fun i o hi S=>n.jG (fun e=>hi (e▸z)) S
   own:=by
    rintro i (⟨j,cs',h1,h2,h3⟩|⟨j,B,o,e,h1,h2,h3⟩)
    ·exact .inl (.inl ⟨j,cs',h1,h2,h3⟩)
    ·obtain⟨B',h1',hs⟩:=d j B h1
     exact .inl (.inr ⟨j,B',o,e,h1',hs▸h2,h3⟩)
   iE:=H _
   bx:=fun i cs' hi=>⟨rfl,cs',hi,rfl⟩
   bC:=by simp
   ar:=fun j B hj v=>by
    rcases aO v with⟨rfl,p⟩|⟨_,hB'⟩
    ·cases p
     refine⟨A,hk,by rw[<-g];exact H _,fun _=>⟨rfl,by rw[<-g],by rw[<-g];simp,fun hn=> ?_⟩⟩;rw[s]at hn;cases hn
    ·exact⟨B,hB',H _,fun _=>⟨rfl,rfl,rfl,fun _=>rfl⟩⟩}
 refine⟨?_,J⟩;exact
  {glob:=C.keeps w w' h.glob fun b I=>n.keep b (fun e=>hX (e▸h.iF b I)),iF:=h.iF
   xlt:=fun i hi=>by rw[n.size];exact h.xlt i hi
   iE:=h.iE
   bC:=by simp[h.bC]
   box:=fun b cs' I=>by
    obtain⟨a,h1,h2,h3⟩:=h.box b cs' I;have m:a≠blk:=fun t=>h.ba b k cs' A blk o e I hk (t▸h1) s
    exact⟨a,h1,h2,h3.from J fun _ S=>n.jG m S⟩
   arr:=fun j B v=>by
    rcases aO v with⟨rfl,p⟩|⟨R,hB'⟩
    ·cases p
     subst g;refine⟨s1,fun x G=> ?_,s3,fun a Y t l=> ?_⟩
     ·rcases bl G with G|rfl
      ·exact s2 x G
      ·simp only[DV.fits,F,beq_iff_eq,aD]
       rw[r];refine⟨by rw[length_splice _ _ _ f,y],fun c hc=> ?_⟩;simp only[splice,U]at hc
       rcases hc with(hc|hc)|hc
       ·exact DV.LC q c (List.mem_of_mem_take hc)
       ·exact aD.1 h1 c hc
       ·exact DV.LC q c (bE hc)
     ·rw[s]at l;cases l
      have W:us.length=ds.length:=D.length;have ac:i*A.sz+A.sz<=A.elems.length*A.sz:=by
       rw[<-a7];exact ap _ hi
      have V:vs.size=(splice vs.toList (o+i*A.sz+off) us).toArray.size:=by
       have hz:(splice vs.toList (o+i*A.sz+off) us).toArray.size=(splice vs.toList (o+i*A.sz+off) us).length:=bS;rw[hz,length_splice _ _ _ (by simp;omega),ab]
      refine⟨hX,_,T.cast V,n.at_,by simpa using g3,?_,?_⟩
      ·simp only[bS];rw[length_splice _ _ _ (by simp;omega)];simpa using g4
      ·simp only[List.length_set]
       rw[Rz (fun x G=>DV.dK (s2 x G)) hi (by rw[r,length_splice _ _ _ f,y]) r (by omega)];rw[tZ _ _ _ _ (by omega) (by simp;omega),show o+i*A.sz+off - o=i*A.sz+off by omega,
        CJ _ _ _ _ (by rw[W];omega) (by simp;omega)]
       exact(g5.splice D _).from J
    ·obtain⟨h1,h2,h3,u⟩:=h.arr j B hB'
     refine⟨h1,h2,h3,fun a Y t l=> ?_⟩;obtain⟨q1,vs',T',q2,q3,q4,q5⟩:=u a Y t l;have m:a≠blk:=fun O=>R (h.aa j k B A blk Y t o e hB' hk (O▸l) s)
     exact⟨q1,vs',T',n.jG m q2,q3,q4,q5.from J⟩
   bb:=h.bb
   aa:=fun j j' B B' a o1 N o2 O h1 h2 h3 u=>by
    obtain⟨d1,h1',_⟩:=d j B h1;obtain⟨L,h2',_⟩:=d j' B' h2;exact h.aa j j' d1 L a o1 N o2 O h1' h2' h3 u
   ba:=fun b j K B a o1 N h1 h2 h3 u=>by
    obtain⟨L,h2',_⟩:=d j B h2;exact h.ba b j K L a o1 N h1 h2' h3 u}
end
def Gz (ks:List Nat):∀(l:List (Option Arr)),(Gh ks l).length=l.length:=by
 induction ks with
 |nil=>intro l;rfl
 |cons k ks a=>intro l;simp only[Gh,ce];exact(a _).trans (by simp)
def Arr.frz (A:Arr):Arr:={A with st:=2}
def ahJ (ks:List Nat):∀(l:List (Option Arr)) (k:Nat),(Gh ks l)[k]?=if k∈ks then(l[k]?).map (cm Arr.frz)else l[k]?:=by
 induction ks with
 |nil=>intro l k;simp[Gh]
 |cons j ks a=>
  intro l k;have e:Gh (j::ks) l=Gh ks (l.modify j (cm Arr.frz)):=rfl;rw[e,a];simp only[List.getElem?_modify,a8]
  by_cases h1:k∈ks<;>by_cases h2:k=j
  ·subst h2;simp only[h1,if_true,true_or];cases l[k]? with
   |none=>rfl
   |some o=>cases o<;>rfl
  ·simp[h1,Ne.symm h2]
  ·subst h2;simp[h1]
  ·simp[h1,h2,Ne.symm h2]
section
variable {C:Ctx}{X:Nat->Prop}{w w':World}{M M':Mem}{E E':Emb}
variable{ps:List PV}{k:Nat}
def BF {A':Arr}(h:(M.frz ps).aC[k]?=some (some A')):∃A,M.aC[k]?=some (some A)/\(A'=A\/A'=A.frz)/\(k∈ps.flatMap (lg M)->A'=A.frz):=by
 simp only[Mem.frz,ahJ]at h
 split at h
 ·rw[J]at h
  obtain⟨o,h1,h2⟩:=h;cases o with
  |none=>cases h2
  |some A=>simp only[cf,Option.some.injEq]at h2;exact⟨A,h1, .inr h2.symm,fun _=>h2.symm⟩
 ·rename_i a;exact⟨A',h, .inl rfl,fun hh=>absurd hh a⟩
variable{b:Nat}
def Vr (h:owned (M.frz ps) E b):owned M E b:=by
 rcases h with⟨i,cs,h1,h2,a⟩|⟨k,f,o,e,h1,h2,a⟩
 ·exact .inl ⟨i,cs,h1,fun hh=>h2 (by simp[Mem.frz,hh]),a⟩
 ·obtain⟨A,c,d,_⟩:=BF h1
  refine .inr ⟨k,A,o,e,c,?_,a⟩
  rcases d with rfl|rfl
  ·exact h2
  ·exact absurd rfl h2
def mX (ps:List PV)(w:World):From w M E w (M.frz ps) E:={
 os:=rfl
 tape:=rfl
 output:=rfl
 size:=H _
 keep:=fun _ _ _ h=>h
 own:=fun _ h=> .inl (Vr h)
 iE:=H _
 bx:=fun b cs h=>⟨rfl,cs,h,rfl⟩
 bC:=by simp[Mem.frz,Gz]
 ar:=fun k a _ h=>by
  obtain⟨A,g1,g2,_⟩:=BF h;refine⟨A,g1,?_,fun _=> ?_⟩<;>rcases g2 with rfl|rfl
  ·exact H _
  ·exact H _
  ·exact⟨rfl,rfl,rfl,fun _=>rfl⟩
  ·exact⟨rfl,rfl,rfl,fun _=>rfl⟩}
def mP (h:Sim C X w M E)(ps:List PV):Sim C X w (M.frz ps) E:={
 glob:=h.glob
 iF:=h.iF
 xlt:=h.xlt
 iE:=h.iE
 bC:=by simp[Mem.frz,Gz,h.bC]
 box:=fun b cs m=>by
  obtain⟨blk,h1,h2,h3⟩:=h.box b cs m;exact⟨blk,h1,h2,h3.from (mX ps w) fun _ n=>n⟩
 arr:=fun k g l=>by
  obtain⟨A,g1,g2,_⟩:=BF l;obtain⟨h1,h2,h3,a⟩:=h.arr k A g1
  rcases g2 with rfl|rfl
  ·refine⟨h1,h2,h3,fun blk o e c=> ?_⟩
   obtain⟨d,vs,T,q2,q3,q4,f⟩:=a blk o e c;exact⟨d,vs,T,q2,q3,q4,f.from (mX ps w)⟩
  ·refine⟨h1,h2,fun p=>absurd p (by simp[Arr.frz]),fun blk o e c=> ?_⟩
   obtain⟨d,vs,T,q2,q3,q4,f⟩:=a blk o e c;exact⟨d,vs,T,q2,q3,q4,f.from (mX ps w)⟩
 bb:=h.bb
 aa:=fun k q A g blk o e r j h1 h2 h3 a=>by
  obtain⟨B,g1,_⟩:=BF h1;obtain⟨i,g1',_⟩:=BF h2;exact h.aa k q B i blk o e r j g1 g1' h3 a
 ba:=fun b k cs A blk o e h1 h2 h3 a=>by
  obtain⟨B,g1,_⟩:=BF h2;exact h.ba b k cs B blk o e h1 g1 h3 a}
variable{O O':Nat->Prop}
def bK.weaken (ho:∀b,O' b->O b){v:Value}{d:DV}(h:bK w O v d):bK w O' v d:=h.mono fun b _ c hh=>⟨hh,fun a=>c (ho b a)⟩
def aV.weaken (ho:∀b,O' b->O b){v:List Value}{d:List DV}(h:aV w O v d):aV w O' v d:=h.mono fun b _ c hh=>⟨hh,fun a=>c (ho b a)⟩
variable{v:Value}
def bK.aoJ {ex:Bool}{xs:List DV}(h:bK w O v (.slice ex xs)):bK w O v (.slice false xs):=by
 cases h with
 |empty f=>exact .empty (fun h=>by cases h)
 |slice a d c e b f hh=>exact .slice a d c e b (fun h=>by cases h) hh
variable{ver:Nat}{A:Arr}
def uS (h:M.row k ver=some A):M.aC[k]?=some (some A)/\A.ver=ver:=by
 simp only[Mem.row]at h
 split at h
 ·rename_i B a
  split at h
  ·rename_i b;cases h;exact⟨a,b⟩
  ·cases h
 ·cases h
def nC {cs:List PV}(h:M.box b=some cs):M.boxes[b]?=some (some cs):=by
 simp only[Mem.box]at h
 split at h
 ·rename_i B a;cases h;exact a
 ·cases h
def aar {skip:Nat}(h:Sim C X w M E)(z:Rep w (away X M E) M E v (.tsl k ver skip))(t:M.row k ver=some A)
  (l:∀b,O' b->away X M E b)(hk:∀blk o e,E.ar[k]?=some (some (blk,o,e))->¬O' blk):bK w O' v (.slice false (A.elems.drop skip)):=by
 obtain⟨a,B⟩:=uS t;cases z with
 |tsl y hh=>
  obtain⟨_,h2⟩:=hh A a;obtain⟨g,j,I,c⟩:=h2 B;obtain⟨L,n,N,D⟩:=h.arr k A a;cases g with
  |none=>exact c.aoJ.weaken l
  |some q=>
   obtain⟨blk,o,e⟩:=q;obtain⟨J,vs,T,r,G,H,s⟩:=D blk o e j;simp only at c
   rcases c with⟨i,d,u,m⟩|⟨K,F,d⟩
   ·cases d
    refine .slice r (hk blk o e j) (by simp) (fun x f=>DV.dK (n x (bE f))) u (fun h=>by cases h) ?_;have p:(vs.toList.drop (o+skip*A.sz)).take ((A.elems.length - skip)*A.sz)=(((vs.toList.drop o).take (A.elems.length*A.sz)).drop (skip*A.sz)):=by
     rw[ao,an,Nat.sub_mul]
    rw[p,<-zB (fun x f=>DV.dK (n x f)) skip];exact(s.drop _).weaken l
   ·cases d
    rw[a6 (by omega)];exact .empty (fun h=>by cases h)
def adw {l:List (DV×DV)}(h:Sim C X w M E)(j:Rep w (away X M E) M E v (.mref b))(hd:M.box b=some [.iO l])
  (a:∀b,O' b->away X M E b)(hb:∀blk,E.bx[b]?=some blk->¬O' blk):bK w O' v (.map (some l)):=by
 cases j with
 |mref d c k=>
  rw[nC hd]at d;cases d;obtain⟨blk,h1,h2,i⟩:=h.box b _ (nC hd);rw[c]at h1;cases h1;obtain⟨es,clock,e,f,g⟩:∃(es:Array MapEntry) (clock:Nat),_:=i
  exact .map e (hb _ c) (f.weaken a) (g.weaken a)
variable{p:PV}{d:DV}
def aa9 (h:Sim C X w M E)(c:Rep w (away X M E) M E v p)(hd:dR M p=some d)
  (a:∀b,O' b->away X M E b)(hk:∀k∈rY p,∀blk o e,E.ar[k]?=some (some (blk,o,e))->¬O' blk)(hb:∀b∈rZ p,∀blk,E.bx[b]?=some blk->¬O' blk):bK w O' v d:=by
 cases p with
 |mref b=>
  simp only[dR]at hd
  split at hd
  ·rename_i l g
   cases hd;exact adw h c g a (hb b (by simp[rZ]))
  ·cases hd
 |d x=>simp only[dR,Option.some.injEq]at hd;subst hd;exact c.toD.weaken a
 |tsl k ver skip=>
  simp only[dR,J]at hd;obtain⟨A,f,rfl⟩:=hd;exact aar h c f a (hk k (by simp[rY]))
 | _=>simp[dR]at hd
def sJ {O':Nat->Prop}(h:Sim C X w M E)(d:∀b,O' b->away X M E b):∀{ps:List PV} {ds:List DV} {vs:List Value},aQ w (away X M E) M E vs ps->bT M ps=some ds->
  (∀k∈ps.flatMap rY,∀blk o e,E.ar[k]?=some (some (blk,o,e))->¬O' blk)->(∀b∈ps.flatMap rZ,∀blk,E.bx[b]?=some blk->¬O' blk)->aV w O' vs ds
 | [],ds,_, .nil,hd,_,_=>by simp only[bT,Option.some.injEq]at hd;subst hd;exact .nil
 |p::ps,ds,_, .cons h1 h2,hd,g,f=>by
  simp only[bT]at hd
  split at hd
  ·rename_i x xs i j
   cases hd;exact .cons (aa9 h h1 i d (fun k c=>g k (by rw[av,U];exact .inl c)) fun b a=>f b (by rw[av,U];exact .inl a)) (sJ h d h2 j (fun k c=>g k (by
    rw[av,U];exact .inr c)) fun b a=>f b (by rw[av,U];exact .inr a))
  ·cases hd
def aeW (h:Sim C X w M E)(n:Rep w (away X M E) M E v p)(hd:datum M p=some d)
  (m:∀b,O' b->away X M E b)(hk:∀k∈lg M p,∀blk o e,E.ar[k]?=some (some (blk,o,e))->¬O' blk)(hb:∀b∈kK M p,∀blk,E.bx[b]?=some blk->¬O' blk):bK w O' v d:=by
 cases p with
 |d x=>simp only[datum,Option.some.injEq]at hd;subst hd;exact n.toD.weaken m
 |tsl k ver skip=>
  simp only[datum,J]at hd;obtain⟨A,F,rfl⟩:=hd;exact aar h n F m (hk k (by simp[lg]))
 |ptr b off=>
  simp only[datum]at hd
  split at hd
  ·rename_i cs j
   simp only[J]at hd;obtain⟨ds,i,rfl⟩:=hd;cases n with
   |ptr q t r=>
    rw[nC j]at q;cases q;obtain⟨blk,vs,T,h1,h2,B,D⟩:=h.cells (nC j) r;rw[t]at h1;cases h1;have s:=sJ h m D i (fun k g=>hk k (by simp[lg,j];simpa using g)) fun u a=>hb u (by simp only[kK,j,a8];exact .inr a)
    refine .aP B (hb b (by simp[kK]) _ t) ?_;rw[aq (by have:=s.length;simp at this⊢;omega)];exact s.drop off
  ·cases hd
 |func fn f c=>
  simp only[datum]at hd
  split at hd
  ·rename_i K I y z
   cases hd;cases n with
   |func H G=>exact .func (sJ h m H y (fun k g=>hk k (by simp only[lg,U];exact .inl g)) fun b a=>hb b (by simp only[kK,U];exact .inl a)) (sJ h m G z (fun k g=>hk k (by simp only[lg,U];exact .inr g)) fun b a=>hb b (by simp only[kK,U];exact .inr a))
  ·cases hd
 |agg cs=>
  simp only[datum,J]at hd;obtain⟨ds,i,rfl⟩:=hd;cases n with
  |agg hh=>exact .agg (sJ h m hh i (fun k g=>hk k (by simpa only[lg]using g)) fun b a=>hb b (by simpa only[kK]using a))
 |tup cs=>
  simp only[datum,J]at hd;obtain⟨ds,i,rfl⟩:=hd;cases n with
  |tup hh=>exact .tup (sJ h m hh i (fun k g=>hk k (by simpa only[lg]using g)) fun b a=>hb b (by simpa only[kK]using a))
 |jX=>simp[datum]at hd
 |dead=>simp[datum]at hd
 |mref b=>
  simp only[datum]at hd
  split at hd
  ·rename_i l q
   cases hd;exact adw h n q m (hb b (by simp[kK]))
  ·cases hd
 |mV=>simp[datum]at hd
 |psl=>simp[datum]at hd
 |zT=>simp[datum]at hd
 |Gj=>simp[datum]at hd
 |iO=>simp[datum]at hd
 |fQ=>simp[datum]at hd
def anJ (h:Sim C X w M E){k:Nat}(hk:k∈ps.flatMap (lg M)){blk o e:Nat}{A:Arr}(c:M.aC[k]?=some (some A))(d:E.ar[k]?=some (some (blk,o,e))):¬away X (M.frz ps) E blk:=by
 rintro(l|⟨b,cs,h1,h2,a⟩|⟨f,n,m,g,h1,h2,a⟩)
 ·exact(((h.arr k A c).2.2.2) blk o e d).1 l
 ·exact h.ba b k cs A blk o e h1 c a d
 ·obtain⟨B,i,_,j⟩:=BF h1
  have:f=k:=h.aa f k B A blk m g o e i c a d;subst this;exact h2 (by rw[j hk];rfl)
def anK (h:Sim C X w M E){b:Nat}(hb:b∈ps.flatMap (kK M)){blk:Nat}{cs:List PV}(a:M.boxes[b]?=some (some cs))(f:E.bx[b]?=some blk):¬away X (M.frz ps) E blk:=by
 rintro(l|⟨g,d,h1,h2,e⟩|⟨m,o,n,j,h1,h2,e⟩)
 ·obtain⟨i,c,k,_⟩:=h.box b cs a
  rw[f]at c;cases c;exact k l
 ·have:g=b:=h.bb g b d cs blk h1 a e f
  subst this;exact h2 (by simp only[Mem.frz,U];exact .inl hb)
 ·obtain⟨B,c,_,_⟩:=BF h1
  exact h.ba b m cs B blk n j a c f e
def Ut (hd:datum M p=some d):(∀k∈lg M p,∃A,M.aC[k]?=some (some A))/\(∀b∈kK M p,∃cs,M.boxes[b]?=some (some cs)):=by
 have s:∀{p:PV} {d:DV},dR M p=some d->∀k∈rY p,∃A,M.aC[k]?=some (some A):=by
  intro p d hd k hk;cases p with
  |tsl t ver skip=>
   simp only[dR,J]at hd;obtain⟨A,n,_⟩:=hd;simp only[rY,aL]at hk;subst hk;exact⟨A,(uS n).1⟩
  | _=>simp[rY]at hk
 have g:∀{ps:List PV} {ds:List DV},bT M ps=some ds->∀k∈ps.flatMap rY,∃A,M.aC[k]?=some (some A):=by
  intro ps
  induction ps with
  |nil=>intro ds _ k hk;simp at hk
  |cons p ps q=>
   intro ds hd k hk;simp only[bT]at hd
   split at hd
   ·rename_i x xs i j
    rw[av,U]at hk
    rcases hk with hk|hk
    ·exact s i k hk
    ·exact q j k hk
   ·cases hd
 have r:∀{p:PV} {d:DV},dR M p=some d->∀b∈rZ p,∃cs,M.boxes[b]?=some (some cs):=by
  intro p d hd b hb;cases p with
  |mref m=>
   simp only[dR]at hd
   split at hd
   ·rename_i l o
    simp only[rZ,aL]at hb;subst hb;exact⟨_,nC o⟩
   ·cases hd
  | _=>simp[rZ]at hb
 have e:∀{ps:List PV} {ds:List DV},bT M ps=some ds->∀b∈ps.flatMap rZ,∃cs,M.boxes[b]?=some (some cs):=by
  intro ps
  induction ps with
  |nil=>intro ds _ k hk;simp at hk
  |cons p ps q=>
   intro ds hd k hk;simp only[bT]at hd
   split at hd
   ·rename_i x xs i j
    rw[av,U]at hk
    rcases hk with hk|hk
    ·exact r i k hk
    ·exact q j k hk
   ·cases hd
 cases p with
 |mref m=>
  simp only[datum]at hd
  split at hd
  ·rename_i l o
   refine⟨fun k hk=>by simp[lg]at hk,fun b hb=> ?_⟩;simp only[kK,aL]at hb;subst hb;exact⟨_,nC o⟩
  ·cases hd
 |tsl t ver skip=>
  simp only[datum,J]at hd;obtain⟨A,n,_⟩:=hd;refine⟨fun k hk=> ?_,fun b hb=>by simp[kK]at hb⟩;simp only[lg,aL]at hk;subst hk;exact⟨A,(uS n).1⟩
 |ptr b off=>
  simp only[datum]at hd
  split at hd
  ·rename_i cs h
   simp only[J]at hd;obtain⟨ds,a,_⟩:=hd;refine⟨fun k hk=>g a k (by simpa only[lg,h]using hk),fun m hb=> ?_⟩;simp only[kK,h,a8]at hb
   rcases hb with rfl|hb
   ·exact⟨cs,nC h⟩
   ·exact e a m hb
  ·cases hd
 |func fn f c=>
  simp only[datum]at hd
  split at hd
  ·rename_i v u i j
   refine⟨fun k hk=> ?_,fun b hb=> ?_⟩
   ·simp only[lg,U]at hk
    exact hk.elim (g i k) (g j k)
   ·simp only[kK,U]at hb
    exact hb.elim (e i b) (e j b)
  ·cases hd
 |agg cs=>
  simp only[datum,J]at hd;obtain⟨ds,a,_⟩:=hd;exact⟨fun k hk=>g a k (by simpa only[lg]using hk),fun b hb=>e a b (by simpa only[kK]using hb)⟩
 |tup cs=>
  simp only[datum,J]at hd;obtain⟨ds,a,_⟩:=hd;exact⟨fun k hk=>g a k (by simpa only[lg]using hk),fun b hb=>e a b (by simpa only[kK]using hb)⟩
 | _=>exact⟨fun k hk=>by simp[lg]at hk,fun b hb=>by simp[kK]at hb⟩
def jB (h:Sim C X w M E)(l:Rep w (away X M E) M E v p)(hd:datum M p=some d)(i:p∈ps):bK w (away X (M.frz ps) E) v d:=by
 obtain⟨l1,l2⟩:=Ut hd;refine aeW h l hd (fun b a=>a.imp id Vr) (fun k g blk o e f=> ?_) (fun b a blk f=> ?_)
 ·obtain⟨A,j⟩:=l1 k g
  exact anJ h (ca.2 ⟨p,i,g⟩) j f
 ·obtain⟨cs,c⟩:=l2 b a
  exact anK h (ca.2 ⟨p,i,a⟩) c f
def rQ {ps:List PV}(h:Sim C X w M E):∀{a:List PV} {ds:List DV} {vs:List Value},aQ w (away X M E) M E vs a->bV M a=some ds->(∀q∈a,q∈ps)->aV w (away X (M.frz ps) E) vs ds
 | [],ds,_, .nil,hd,_=>by simp only[bV,Option.some.injEq]at hd;subst hd;exact .nil
 |p::a,ds,_, .cons h1 h2,hd,b=>by
  simp only[bV]at hd
  split at hd
  ·rename_i x xs c d
   cases hd;exact .cons (jB h h1 c (b p (by simp))) (rQ h h2 d fun q e=>b q (by simp[e]))
  ·cases hd
def bK.strip {O:Nat->Prop}{v:Value}{d:DV}(h:bK w O v d):bK w O v d.strip:=by
 cases d with
 |slice ex xs=>exact h.aoJ
 |agg cs=>
  cases h with
  |agg hh=>
   refine .agg ?_
   revert hh
   generalize Array.toList _=vs;intro hh
   induction cs generalizing vs with
   |nil=>cases hh;exact .nil
   |cons c cs a=>
    cases hh with
    |cons h1 h2=>
     refine .cons ?_ (a _ h2);cases c<;>first|exact h1|exact h1.aoJ
 | _=>exact h
def aV.strip {O:Nat->Prop}:∀{vs:List Value} {ds:List DV},aV w O vs ds->aV w O vs (ds.map DV.strip)
 | _,_, .nil=> .nil
 | _,_, .cons h t=> .cons h.strip (aV.strip t)
def P9 (h:Sim C X w M E)(n:Nat):Sim C X w {M with boxes:=M.boxes++ae n none} {E with bx:=E.bx++ae n 0}/\
  From w M E w {M with boxes:=M.boxes++ae n none} {E with bx:=E.bx++ae n 0}:=by
 have a:∀(b:Nat) (cs:List PV),(M.boxes++ae n none)[b]?=some (some cs)->M.boxes[b]?=some (some cs)/\(E.bx++ae n 0)[b]?=E.bx[b]?:=by
  intro b cs a
  by_cases c:b<M.boxes.length
  ·rw[Y c]at a
   exact⟨a,Y (by rw[h.iE];exact c)⟩
  ·rw[bi (by omega),List.getElem?_replicate]at a
   split at a<;>simp at a
 have p:From w M E w {M with boxes:=M.boxes++ae n none} {E with bx:=E.bx++ae n 0}:=
  {os:=rfl,tape:=rfl,output:=rfl,size:=H _
   keep:=fun _ _ _ h=>h
   own:=by
    rintro b (⟨i,cs,h1,h2,h3⟩|hh)
    ·obtain⟨g1,f⟩:=a i cs h1
     exact .inl (.inl ⟨i,cs,g1,h2,f▸h3⟩)
    ·exact .inl (.inr hh)
   iE:=by simp
   bx:=fun b cs d=>by
    have c:b<M.boxes.length:=(Z.1 d).1;exact⟨Y (by rw[h.iE];exact c),cs,by rw[Y c];exact d,rfl⟩
   bC:=H _
   ar:=fun _ r _ h=>⟨r,h,H _,fun _=>⟨rfl,rfl,rfl,fun _=>rfl⟩⟩}
 refine⟨?_,p⟩;exact
  {glob:=h.glob,iF:=h.iF,xlt:=h.xlt
   iE:=by simp[h.iE]
   bC:=h.bC
   box:=fun b cs d=>by
    obtain⟨g1,f⟩:=a b cs d;obtain⟨blk,h1,h2,h3⟩:=h.box b cs g1;exact⟨blk,f.trans h1,h2,h3.from p fun _ u=>u⟩
   arr:=fun k A s=>by
    obtain⟨h1,h2,h3,j⟩:=h.arr k A s;refine⟨h1,h2,h3,fun blk o e t=> ?_⟩;obtain⟨v,vs,T,q2,q3,q4,x⟩:=j blk o e t;exact⟨v,vs,T,q2,q3,q4,x.from p⟩
   bb:=fun b q cs g blk h1 h2 h3 j=>by
    obtain⟨g1,f⟩:=a b cs h1;obtain⟨l,m⟩:=a q g h2;exact h.bb b q cs g blk g1 l (f▸h3) (m▸j)
   aa:=h.aa
   ba:=fun b k cs A blk o e h1 h2 h3 j=>by
    obtain⟨g1,f⟩:=a b cs h1;exact h.ba b k cs A blk o e g1 h2 (f▸h3) j}
end
section
variable {C:Ctx}{X:Nat->Prop}{w w':World}{M M':Mem}{E E':Emb}
def A8 {k:Nat}{A A':Arr}{loc:Option (Nat×Nat×Nat)}(h:Sim C X w M E)(hk:M.aC[k]?=some (some A))(V:A.st≠2)
  (S:w'.os=w.os)(F:w'.tape=w.tape)(L:w'.output=w.output)(r:w.heap.size<=w'.heap.size)
  (f:∀b o,(∀o' e',E.ar[k]?≠some (some (b,o',e')))->w.heap[b]?=some o->w'.heap[b]?=some o)
  (Kq:A.ver<A'.ver)(W:0<A'.sz)(hfit:∀x∈A'.elems,x.fits A'.sz=true)(N:A'.st=1->loc≠none)
  (g:∀blk o e,loc=some (blk,o,e)->(w.heap.size<=blk\/∃o' e',E.ar[k]?=some (some (blk,o',e')))/\∃(vs:Array Value) (T:TM vs.size),w'.heap[blk]?=some (.cells vs T.ty T.fr)/\
   o+A'.elems.length*A'.sz<=e/\e<=vs.size/\aV w (away X M E) ((vs.toList.drop o).take (A'.elems.length*A'.sz)) (flat A'.elems)):
  Sim C X w' {M with aC:=M.aC.set k (some A')} {E with ar:=E.ar.set k loc}/\From w M E w' {M with aC:=M.aC.set k (some A')} {E with ar:=E.ar.set k loc}:=by
 have D:k<M.aC.length:=(Z.1 hk).1;have WL:k<E.ar.length:=h.bC▸D;have c:∀j,j≠k->(E.ar.set k loc)[j]?=E.ar[j]?:=fun j G=>by rw[aw];simp[Ne.symm G]
 have afm:(E.ar.set k loc)[k]?=some loc:=by simp[WL]
 have v:∀b o' e',E.ar[k]?=some (some (b,o',e'))->owned M E b:=fun b o' e' d=> .inr ⟨k,A,o',e',hk,V,d⟩
 have K:∀b o' e',E.ar[k]?=some (some (b,o',e'))->¬X b:=fun b o' e' d=>((h.arr k A hk).2.2.2 b o' e' d).1
 have Q:From w M E w' {M with aC:=M.aC.set k (some A')} {E with ar:=E.ar.set k loc}:=
  {os:=S,tape:=F,output:=L,size:=r
   keep:=fun b o hb u=>f b o (fun o' e' d=>hb (v b o' e' d)) u
   own:=by
    rintro b (⟨i,cs,h1,h2,h3⟩|⟨j,B,o,e,h1,h2,h3⟩)
    ·exact .inl (.inl ⟨i,cs,h1,h2,h3⟩)
    ·rcases aO h1 with⟨rfl,P⟩|⟨a,h1'⟩
     ·simp only[afm,Option.some.injEq]at h3
      rcases(g b o e h3).1 with hh|⟨o',e',d⟩
      ·exact .inr hh
      ·exact .inl (v b o' e' d)
     ·simp only[c j a]at h3
      exact .inl (.inr ⟨j,B,o,e,h1',h2,h3⟩)
   iE:=H _
   bx:=fun b cs hb=>⟨rfl,cs,hb,rfl⟩
   bC:=by simp
   ar:=fun j B G P=>by
    rcases aO P with⟨rfl,y⟩|⟨a,hB'⟩
    ·cases y
     exact⟨A,hk,by omega,fun d=>by omega⟩
    ·exact⟨B,hB',H _,fun _=>⟨c j a,rfl,rfl,fun _=>rfl⟩⟩}
 have an2:∀b o,X b->w.heap[b]?=some o->w'.heap[b]?=some o:=fun b o hb u=>f b o (fun o' e' d=>K b o' e' d hb) u
 refine⟨?_,Q⟩;exact
  {glob:=C.keeps w w' h.glob fun b hb=>by
    have D:=h.xlt b (h.iF b hb);obtain⟨o,u⟩:∃o,w.heap[b]?=some o:=⟨_,Array.getElem?_eq_getElem D⟩
    rw[u,an2 b o (h.iF b hb) u]
   iF:=h.iF
   xlt:=fun b hb=>ai (h.xlt b hb) r
   iE:=h.iE
   bC:=by simp[h.bC]
   box:=fun b cs hb=>by
    obtain⟨blk,h1,h2,h3⟩:=h.box b cs hb;exact⟨blk,h1,h2,h3.from Q fun _ u=>f blk _ (fun o' e' d=>h.ba b k cs A blk o' e' hb hk h1 d) u⟩
   arr:=fun j B P=>by
    rcases aO P with⟨rfl,y⟩|⟨a,hB'⟩
    ·cases y
     refine⟨W,hfit,fun U=> ?_,fun blk o e d=> ?_⟩
     ·cases hl:loc with
      |none=>exact absurd hl (N U)
      |some q=>exact⟨q,hl▸afm⟩
     ·simp only[afm,Option.some.injEq]at d
      obtain⟨g0,vs,T,g2,g3,g4,g5⟩:=g blk o e d;refine⟨?_,vs,T,g2,g3,g4,g5.from Q⟩
      rcases g0 with hh|⟨o',e',n⟩
      ·exact fun hx=>absurd (h.xlt _ hx) (by omega)
      ·exact K blk o' e' n
    ·obtain⟨h1,h2,h3,m⟩:=h.arr j B hB'
     refine⟨h1,h2,fun U=>by rw[c j a];exact h3 U,fun blk o e d=> ?_⟩;simp only[c j a]at d;obtain⟨q1,vs,T,q2,q3,q4,q5⟩:=m blk o e d;exact⟨q1,vs,T,f blk _ (fun o' e' n=>a (h.aa j k B A blk o e o' e' hB' hk d n)) q2,q3,q4,q5.from Q⟩
   bb:=h.bb
   aa:=fun j l B s blk o e o' e' h1 h2 h3 m=>by
    have Y:∀l s o' e',l≠k->M.aC[l]?=some (some s)->E.ar[l]?=some (some (blk,o',e'))->loc=some (blk,o,e)->False:=by
     intro l s o' e' G I J R
     rcases(g blk o e R).1 with hh|⟨o2,e2,z⟩
     ·exact absurd (h.Ei I J) (by omega)
     ·exact G (h.aa l k s A blk o' e' o2 e2 I hk J z)
    have O:∀l s o e,l≠k->M.aC[l]?=some (some s)->E.ar[l]?=some (some (blk,o,e))->loc=some (blk,o',e')->False:=by
     intro l s o e G I J R
     rcases(g blk o' e' R).1 with hh|⟨o2,e2,z⟩
     ·exact absurd (h.Ei I J) (by omega)
     ·exact G (h.aa l k s A blk o e o2 e2 I hk J z)
    rcases aO h1 with⟨rfl,_⟩|⟨a,h1'⟩<;>rcases aO h2 with⟨rfl,_⟩|⟨p,t⟩
    ·rfl
    ·simp only[afm,Option.some.injEq]at h3;simp only[c l p]at m
     exact(Y l s o' e' p t m h3).elim
    ·simp only[afm,Option.some.injEq]at m;simp only[c j a]at h3
     exact(O j B o e a h1' h3 m).elim
    ·simp only[c j a]at h3;simp only[c l p]at m
     exact h.aa j l B s blk o e o' e' h1' t h3 m
   ba:=fun b j cs B blk o e h1 h2 h3 m=>by
    rcases aO h2 with⟨rfl,_⟩|⟨a,t⟩
    ·simp only[afm,Option.some.injEq]at m
     rcases(g blk o e m).1 with hh|⟨o',e',n⟩
     ·exact absurd (h.Gq h1 h3) (by omega)
     ·exact h.ba b j cs A blk o' e' h1 hk h3 n
    ·simp only[c j a]at m
     exact h.ba b j cs B blk o e h1 t h3 m}
def afk (n:Nat):∀(r c:Nat),Builtin.growBy n r c<=max c (n+(n+768) / 4):=by
 intro r
 induction r with
 |zero=>intro c;simp[Builtin.growBy];omega
 |succ r a=>
  intro c;simp only[Builtin.growBy]
  split
  ·omega
  ·refine aE (a _) ?_
   omega
def nextslicecap_le (n c:Nat)(h:c<n):Builtin.nextslicecap n c<=2*n+768:=by
 unfold Builtin.nextslicecap
 split
 ·omega
 ·split
  ·omega
  ·have:=afk n 4 c;omega
def TK {P:Program}{C D ty e:TypeId}{i:TypeInfo}{z:Value}{sz n a b:Nat}{base:Option Addr}{x:Value}{c j:List Value}{w:World}
  (hs:P.underlying C=some (.slice e))(hx:∃d,P.underlying D=some d/\∀k,d≠ .int k)(hi:P.info? e=some i)(R:i.zero=some z)(s:i.size=sz)(hb:i.bytes<=1024)(L:z.cells.size=sz)
  (hl:(Builtin.lenOf x).run P w= .ok n w)(H:∀w',Later w w'->(Builtin.firstCells sz n x).run P w'= .ok c.toArray w')(I:c.length=n*sz)
  (ho:∀w',Later w w'->(Builtin.firstCells sz a (.slice base a b)).run P w'= .ok j.toArray w')(K:j.length=a*sz)
  (N:a+n<=1073741824)(h1:∀v∈c,v.oneCell'=true)
  (q:a+n<=b->n≠0->∃(g o:Nat) (h:Array Value) (T:TM h.size),base=some ⟨g,o,none⟩/\w.heap[g]?=some (.cells h T.ty T.fr)/\o+a*sz+c.length<=h.size):
  (a+n<=b/\n=0/\(Builtin.append_ #[C,D] ty #[.slice base a b,x]).run P w= .ok (.slice base (a+n) b) w)\/
  (a+n<=b/\n≠0/\∃(w':World) (g o:Nat) (h:Array Value) (T:TM h.size),(Builtin.append_ #[C,D] ty #[.slice base a b,x]).run P w= .ok (.slice base (a+n) b) w'/\
   base=some ⟨g,o,none⟩/\w.heap[g]?=some (.cells h T.ty T.fr)/\Wrote g w w' (splice h.toList (o+a*sz) c) T.ty T.fr)\/
  (b<a+n/\∃w' cap rest,(Builtin.append_ #[C,D] ty #[.slice base a b,x]).run P w= .ok (.slice (some ⟨w.heap.size,0,none⟩) (a+n) cap) w'/\a+n<=cap/\
   Later w w'/\w'.heap[w.heap.size]?=some (.cells (j++c++rest).toArray e (0,0))/\(j++c++rest).length=cap*sz):=by
 obtain⟨d,hd,Q⟩:=hx;have r:=run_underlying (w:=w) hs;have t:=run_underlying (w:=w) hd
 by_cases f:a+n<=b
 ·by_cases m:n=0
  ·refine .inl ⟨f,m,?_⟩
   subst m;have l:=H w (Later.refl w);have A:c=[]:=bq.1 (by omega);subst A;have O:¬b<a:=by omega
   cases base<;>simp[Builtin.append_,r,t,sizeOf,typeInfo,hi,s,hl,l,O,storeCells]
  ·obtain⟨g,o,h,T,F,G,y⟩:=q f m
   refine .inr (.inl ⟨f,m,?_⟩);subst F;refine⟨w.setRow g (splice h.toList (o+a*sz) c).toArray,g,o,h,T,?_,rfl,G,vk w g h T.ty _ G⟩;have l:=H w (Later.refl w);have B:=kC P g (o+a*sz) T.ty T.fr c 0 h w G T.ok (by simpa using y) h1;simp only[bv]at B;simp[Builtin.append_,r,t,sizeOf,typeInfo,hi,s,hl,l,f,Addr.add_lit,B,splice]
 ·refine .inr (.inr ⟨by omega,?_⟩)
  have u:=nextslicecap_le (a+n) b (by omega);have M:¬(Builtin.nextslicecap (a+n) b*i.bytes>2 ^ 48):=by
   have:Builtin.nextslicecap (a+n) b*i.bytes<=(2*(a+n)+768)*1024:=Nat.mul_le_mul u hb;omega
  have l:=H w.drew (Later.drew w);have J:=ho w.drew (Later.drew w);refine⟨(w.drew).alloc (.cells (j++c++(Builtin.zeroCells z.cells ((grownCap w (a+n) b e) - (a+n))).toList).toArray e),grownCap w (a+n) b e,
   (Builtin.zeroCells z.cells ((grownCap w (a+n) b e) - (a+n))).toList,?_,grownCap_ge w _ _ _,(Later.drew w).trans (Later.alloc _ _),heap_alloc_new w.drew _,?_⟩
  ·have p:¬(281474976710656<Builtin.nextslicecap (a+n) b*i.bytes):=by omega
   have E:¬((9223372036854775807:Int)<(a:Int)+(n:Int)):=by omega
   simp[Builtin.append_,r,t,sizeOf,typeInfo,hi,s,hl,l,J,f,p,E,zeroValue,R,newRow,grownCap,Question.forced]
   congr 2
   apply cg;simp
  ·have:=grownCap_ge w (a+n) b e
   simp only[bj,ab,size_zeroCells,K,I,L];rw[<-az,<-az]
   congr 1;omega
end
mutual
def mW:DV->Value->Bool
 | .int k n, .int c e=>decide (k=c)&&decide (n=e)
 | .bool a, .bool b=>a==b
 | .str a, .string b=>decide (a.data.toList=b.data.toList)
 | .nilPtr, .pointer none=>true
 | .slice ex xs, .slice none 0 0=>ex&&xs.isEmpty
 | .agg ds, .agg vs=>jA ds vs.toList
 | .tup ds, .tuple vs=>jA ds vs.toList
 | .nilFunc, .nilFunc=>true
 | .nilIface, .nilIface=>true
 | .iface t d, .iface f v=>decide (t=f)&&mW d v
 | .map none, .map none=>true
 | _,_=>false
def jA:List DV->List Value->Bool
 | [],[]=>true
 |d::ds,v::vs=>mW d v&&jA ds vs
 | _,_=>false
end
mutual
def mG {w:World}{O:Nat->Prop}:∀{d:DV} {v:Value},mW d v=true->bK w O v d
 | .int k n, .int c e,h=>by simp[mW]at h;obtain⟨rfl,rfl⟩:=h;exact .int _ _
 | .bool a, .bool b,h=>by simp[mW]at h;subst h;exact .bool _
 | .str a, .string b,h=>by
  simp[mW]at h;have:a=b:=ByteArray.ext h;subst this;exact .str _
 | .nilPtr, .pointer none,_=> .nilPtr
 | .slice ex xs, .slice none 0 0,h=>by
  simp[mW]at h;obtain⟨h1,rfl⟩:=h;exact .empty (fun _=>rfl)
 | .agg ds, .agg vs,h=> .agg (je h)
 | .tup ds, .tuple vs,h=> .tup (je h)
 | .nilFunc, .nilFunc,_=> .nilFunc
 | .nilIface, .nilIface,_=> .nilIface
 | .iface t d, .iface f v,h=>by
  simp[mW]at h;obtain⟨rfl,h2⟩:=h;exact .iface (mG h2)
 | .map none, .map none,_=> .ach
def je {w:World}{O:Nat->Prop}:∀{ds:List DV} {vs:List Value},jA ds vs=true->aV w O vs ds
 | [],[],_=> .nil
 |d::ds,v::vs,h=>by
  simp only[jA,F]at h;exact .cons (mG h.1) (je h.2)
end
def isScalar:Option TypeDesc->Bool
 |some .bool=>true
 |some (.int _)=>true
 |some .string=>true
 | _=>false
def oL (d:Option TypeDesc)(k:Nat):Bool:=
 match d with
 |some .bool=>k==0
 |some (.int _)=>k==1
 |some .string=>k==2
 | _=>false
def eG (P:Program):List Field->List Nat->Nat->Bool
 | [],[],_=>true
 |f::fs,k::a,off=>decide (f.offset=off)&&oL (P.underlying f.type) k&&decide (f.name≠ "_")&&eG P fs a (off+1)
 | _,_,_=>false
def xw (P:Program)(t:TypeId)(agg:Bool)(n:Nat):Bool:=
 match P.underlying t,P.info? t with
 |some (.struct _),some i=>agg&&i.size==n&&decide (0<n)
 |some (.array _ _),some i=>agg&&i.size==n&&decide (0<n)
 |some _,_=> !agg&&n==1
 | _,_=>false
def placesOf (P:Program)(fs:Array Field)(ps:List (Nat×Operand)):Option (List (Nat×Nat)):=
 ps.mapM fun(i,_)=>(fs[i]?).bind fun f=>(P.info? f.type).map fun j=>(f.offset,j.size)
def Zd (P:Program)(key:TypeId)(ks:List Nat):Bool:=
 match P.underlying key with
 |some (.struct fs)=> !ks.isEmpty&&(eG P fs.toList ks 0&& !P.stoodInHeld key)
 |some (.int _)=>ks.isEmpty
 | _=>false
def aN (P:Program):Op->POp->Bool
 | .move _, .mov=>true
 | .assign _, .mov=>true
 | .move _, .VY _=>true
 | .assign _, .VY _=>true
 | .pick _ _ _, .pick=>true
 | .alloc t, .alloc _ zs=>match P.info? t with
  |some i=>match i.zero with|some z=>jA zs z.cells.toList|none=>false
  |none=>false
 | .box _ _, .box _=>true
 | .build t parts, .build zs ps=>match P.info? t with
  |some i=>match i.zero with
   |some z=>jA zs z.cells.toList&&match P.underlying t with
    |some (.struct fs)=>(fs.all fun f=>(P.info? f.type).isSome)&&decide (placesOf P fs parts.toList=some ps)
    |some (.array _ e)=>match P.info? e with|some j=>decide (ps=parts.toList.map fun(i,_)=>(i*j.size,j.size))|none=>false
    | _=>false
   |none=>false
  |none=>false
 | .buildSlice t len parts, .dU sz zs w=>match P.underlying t with
  |some (.slice e)=>match P.info? e with
   |some i=>match i.zero with
    |some z=>decide (0<sz)&&i.size==sz&&z.cells.size==sz&&decide (len*sz<=2 ^ 24)&&zs.length==len&&(zs.all fun d=>jA d.cells z.cells.toList)&&decide (w=parts.toList.map (·.1))
    |none=>false
   |none=>false
  | _=>false
 | .load t _, .load agg n=>xw P t agg n
 | .load t _, .Jr agg n=>xw P t agg n
 | .store t _ _, .store n=>match P.info? t with|some i=>i.size==n|none=>false
 | .nilCheck _, .bg=>true
 | .binOp op t _ _ _, .bin p=>decide (op=p)&&isScalar (P.underlying t)
 | .binOp op t _ _ _, .CZ neq o=>(match op with| .eql=> !neq| .neq=>neq| _=>false)&&match P.underlying t with
  |some (.struct fs)=>eG P fs.toList o 0&& !P.stoodInHeld t&& !P.eqGuardType P.depth t
  | _=>false
 | .binOp op t _ _ _, .Yg neq=>(match op with| .eql=> !neq| .neq=>neq| _=>false)&&match P.underlying t with|some .bool=>true| _=>false
 | .binOp op t _ y _, .isNil neq=>(match op with| .eql=> !neq| .neq=>neq| _=>false)&&(match P.underlying t with|some (.slice _)=>true| _=>false)&&(match y with| .const (.slice none 0 0)=>true| _=>false)
 | .unOp op _ _, .un p=>decide (op=p)
 | .convert s d _, .conv k=>(match P.underlying s with|some (.int _)=>true| _=>false)&&(match P.underlying d with|some (.int A)=>decide (A=k)| _=>false)
 | .makeInterface t _, .mkI x=>decide (t=x)&&match P.underlying t with|some (.interface _)=>false|some _=>true|none=>false
 | .makeFunc fn first _, .mkF v B=>decide (fn=v)&&first.size==B
 | .slice t _ lo hi h, .Ns a b=>(match P.underlying t with|some .string=>true| _=>false)&&(lo.isSome==a)&&(hi.isSome==b)&&h.isNone
 | .slice t _ lo hi h, .Jh sz a b c=>(match P.underlying t with|some (.slice e)=>(match P.info? e with|some i=>i.size==sz&&decide (0<sz)|none=>false)| _=>false)&&(lo.isSome==a)&&(hi.isSome==b)&&(h.isSome==c)
 | .fieldAddr t _ f, .fld off=>match P.underlying t with
  |some (.struct fs)=>match fs[f]? with|some u=>u.offset==off&&(match P.info? u.type with|some i=>decide (i.size≠0)|none=>false)|none=>false
  | _=>false
 | .field t _ f, .Qh agg off n=>match P.underlying t with
  |some (.struct fs)=>match fs[f]? with|some u=>u.offset==off&&xw P u.type agg n|none=>false
  | _=>false
 | .indexAddr t _ _, .bH sz=>match P.underlying t with
  |some (.slice e)=>(match P.info? e with|some i=>i.size==sz&&decide (0<sz)|none=>false)
  | _=>false
 | .index t _ _, .WQ=>match P.underlying t with|some .string=>true| _=>false
 | .index t _ _, .Qj agg sz len=>match P.underlying t with
  |some (.array n e)=>n==len&&(match P.info? e with|some i=>i.size==sz|none=>false)&&xw P e agg sz
  | _=>false
 | .extract _ i, .ext j=>i==j
 | .call {callee:= .value (.func f), .. }, .call l=>f==l&&callable P f
 | .call {callee:= .value (.func f), .. }, .KX l=>f==l&&callable P f
 | .call {callee:= .value (.func f), .. }, .kZ l=>f==l&&callable P f
 | .call {callee:= .value (.func f), .. }, .gG l=>f==l&&callable P f
 | .call {callee:= .value (.func f), .. }, .yC l=>f==l&&callable P f
 | .call {callee:= .value (.func f), .. }, .aj l=>f==l&&callable P f
 | .call {callee:= .value (.tmp _), .. }, .dQ=>true
 | .call {callee:= .builtin .append,argTypes, .. }, .app sz _=>argTypes.size==2&&match P.underlying (argTypes.getD 0 0),P.underlying (argTypes.getD 1 0)with
  |some (.slice e),some d=>(match d with| .int _=>false| _=>true)&&(match P.info? e with
   |some i=>match i.zero with|some z=>i.size==sz&&decide (0<sz)&&decide (i.bytes<=1024)&&z.cells.size==sz|none=>false
   |none=>false)
  | _,_=>false
 | .call {callee:= .builtin .append,argTypes, .. }, .QM sz=>argTypes.size==2&&match P.underlying (argTypes.getD 0 0),P.underlying (argTypes.getD 1 0)with
  |some (.slice e),some d=>(match d with| .int _=>false| _=>true)&&(match P.info? e with
   |some i=>match i.zero with|some z=>i.size==sz&&decide (0<sz)&&decide (i.bytes<=1024)&&z.cells.size==sz|none=>false
   |none=>false)
  | _,_=>false
 | .call {callee:= .builtin .append,argTypes, .. }, .Ya sz=>argTypes.size==2&&match P.underlying (argTypes.getD 0 0),P.underlying (argTypes.getD 1 0)with
  |some (.slice e),some d=>(match d with| .int _=>false| _=>true)&&(match P.info? e with
   |some i=>match i.zero with|some z=>i.size==sz&&decide (0<sz)&&decide (i.bytes<=1024)&&z.cells.size==sz|none=>false
   |none=>false)
  | _,_=>false
 | .call {callee:= .builtin .len,argTypes, .. }, .len=>argTypes.size==1&&match P.underlying (argTypes.getD 0 0)with|some (.slice _)=>true| _=>false
 | .call {callee:= .builtin .len,argTypes, .. }, .Gi=>argTypes.size==1&&match P.underlying (argTypes.getD 0 0)with|some .string=>true| _=>false
 | .call {callee:= .builtin .len,argTypes,args}, .Zg n=>argTypes.size==1&&args.size==1&&match P.underlying (argTypes.getD 0 0)with|some (.array m _)=>m==n| _=>false
 | .call {callee:= .builtin .max, .. }, .qo h=>h
 | .call {callee:= .builtin .min, .. }, .qo h=> !h
 | .panic _, .panic=>true
 | .lookup t _ _ c, .L6 o z=> !c&&match P.underlying t with
  |some (.map g e)=>(match P.underlying g with|some (.struct fs)=>eG P fs.toList o 0&& !P.stoodInHeld g| _=>false)&&(match P.info? e with|some i=>(match i.zero with|some q=>mW z q|none=>false)|none=>false)
  | _=>false
 | .makeSlice t _ _, .mkRow sz z=>match P.underlying t with
  |some (.slice e)=>(match P.info? e with
   |some i=>(match i.zero with|some q=>i.size==sz&&decide (0<sz)&&decide (i.bytes<=1024)&&decide (sz<=16)&&q.cells.size==sz&&jA z.cells q.cells.toList|none=>false)
   |none=>false)
  | _=>false
 | .convert s d _, .s2b=>(match P.underlying d with|some (.slice e)=>(match P.underlying e with|some (.int k)=>decide (k= .u8)| _=>false)| _=>false)&&(match P.underlying s with|some .string=>true| _=>false)
 | .convert s d _, .b2s=>(match P.underlying s with|some (.slice e)=>(match P.underlying e with|some (.int k)=>decide (k= .u8)| _=>false)| _=>false)&&(match P.underlying d with|some .string=>true| _=>false)
 | .typeAssert _ _ t c, .tas x z=>decide (t=x)&&c&&(match P.underlying t with|some (.interface _)=>false|some _=>true|none=>false)&&(match P.info? t with|some i=>(match i.zero with|some q=>mW z q|none=>false)|none=>false)
 | .slice t _ lo hi h, .UC sz=>(match P.underlying t with|some (.slice e)=>(match P.info? e with|some i=>i.size==sz&&decide (0<sz)|none=>false)| _=>false)&&(lo.isSome==true)&&(hi.isSome==false)&&(h.isSome==false)
 | .slice t _ lo hi h, .UD sz=>(match P.underlying t with|some (.slice e)=>(match P.info? e with|some i=>i.size==sz&&decide (0<sz)|none=>false)| _=>false)&&(lo.isSome==false)&&(hi.isSome==true)&&(h.isSome==false)
 | .call {callee:= .builtin .copy,argTypes, .. }, .copy sz=>argTypes.size==2&&match P.underlying (argTypes.getD 0 0),P.underlying (argTypes.getD 1 0)with
  |some (.slice e),some (.slice _)=>(match P.info? e with|some i=>i.size==sz&&decide (0<sz)|none=>false)
  | _,_=>false
 | .call {callee:= .builtin .clear,argTypes, .. }, .clr sz z=>argTypes.size==1&&match P.underlying (argTypes.getD 0 0)with
  |some (.slice e)=>(match P.info? e with|some i=>(match i.zero with|some q=>i.size==sz&&decide (0<sz)&&q.cells.size==sz&&jA z.cells q.cells.toList|none=>false)|none=>false)
  | _=>false
 | .binOp op t _ y _, .ED neq=>(match op with| .eql=> !neq| .neq=>neq| _=>false)&&(match P.underlying t with|some (.interface _)=>true| _=>false)&&(match y with| .const .nilIface=>true| _=>false)
 | .range t _, .rngS _=>match P.underlying t with|some .string=>true| _=>false
 | .next _ c, .Zu=>c
 | .call {callee:= .invoke _ name, .. }, .inv r=>decide (name=r)
 | .binOp op t _ _ _, .shf p=>decide (op=p)&&(match op with| .shl=>true| .shr=>true| _=>false)&&match P.underlying t with|some (.int _)=>true| _=>false
 | .makeMap _ none, .mkMap _=>true
 | .mapUpdate t _ _ _, .Qk o=>match P.underlying t with
  |some (.map g _)=>(match P.underlying g with|some (.struct fs)=>eG P fs.toList o 0&& !P.stoodInHeld g| _=>false)
  | _=>false
 | .binOp op t _ y _, .yx neq=>(match op with| .eql=> !neq| .neq=>neq| _=>false)&&(match P.underlying t with|some (.pointer _)=>true| _=>false)&&(match y with| .const (.pointer none)=>true| _=>false)
 | .indexAddr t _ _, .GL sz len=>match P.underlying t with
  |some (.array n e)=>n==len&&(match P.info? e with|some i=>i.size==sz&&decide (0<sz)|none=>false)
  | _=>false
 | .slice t _ lo hi h, .UA _ sz len=>(match P.underlying t with|some (.array n e)=>n==len&&(match P.info? e with|some i=>i.size==sz&&decide (0<sz)|none=>false)| _=>false)&&lo.isNone&&hi.isNone&&h.isNone
 | .lookup t _ _ c, .Jg ok o z=>c==ok&&match P.underlying t with
  |some (.map g e)=>Zd P g o&&(match P.info? e with|some i=>(match i.zero with|some q=>mW z q|none=>false)|none=>false)
  | _=>false
 | .mapUpdate t _ _ _, .acf o=>match P.underlying t with
  |some (.map g _)=>Zd P g o
  | _=>false
 | .call {callee:= .builtin .delete,argTypes, .. }, .acd o=>argTypes.size==2&&match P.underlying (argTypes.getD 0 0)with
  |some (.map g _)=>Zd P g o
  | _=>false
 | .buildSlice t len parts, .ng sz zs w=>match P.underlying t with
  |some (.slice e)=>match P.info? e with
   |some i=>match i.zero with
    |some z=>decide (0<sz)&&i.size==sz&&z.cells.size==sz&&decide (len*sz<=2 ^ 24)&&zs.length==len&&(zs.all fun d=>jA d.cells z.cells.toList)&&decide (w=parts.toList.map (·.1))
    |none=>false
   |none=>false
  | _=>false
 | _,_=>false
def opsOf:Op->List Operand
 | .move x| .assign x| .box _ x| .load _ x| .nilCheck x| .unOp _ _ x| .convert _ _ x| .makeInterface _ x| .fieldAddr _ x _| .field _ x _| .extract x _| .panic x=>[x]
 | .pick c a b=>[c,a,b]
 | .build _ ps| .buildSlice _ _ ps=>ps.toList.map (·.2)
 | .store _ a v| .binOp _ _ a v _| .indexAddr _ a v| .index _ a v| .lookup _ a v _=>[a,v]
 | .typeAssert x _ _ _=>[x]
 | .makeSlice _ l c=>[l,c]
 | .mapUpdate _ m k v=>[m,k,v]
 | .range _ x=>[x]
 | .next e _=>[e]
 | .call {callee:= .invoke r _,args, .. }=>r::args.toList
 | .makeFunc _ first d=>first.toList++d.toList
 | .slice _ x lo hi g=>x::lo.toList++hi.toList++g.toList
 | .call {callee:= .value (.func _),args, .. }=>args.toList
 | .call {callee:= .value f,args, .. }=>f::args.toList
 | .call {args, .. }=>args.toList
 | _=>[]
def fB (C:Ctx)(X:Nat->Prop)(w:World)(M:Mem)(E:Emb)(K:PV->Mem->Prop)(KP:DV->Mem->Prop):Result Next->Prop
 | .ok (.value v) w'=>∃pv M' E',K pv M'/\Sim C X w' M' E'/\From w M E w' M' E'/\Rep w' (away X M' E') M' E' v pv
 | .ok .skip w'=>∃M' E',K .dead M'/\Sim C X w' M' E'/\From w M E w' M' E'
 | .ok (.enter f args) w'=>w'=w/\∃ps,SC C f ps M K KP/\aQ w (away X M E) M E args.toList ps
 | .ok (.round l f b c a) w'=>w'=w/\RoundIn Fence.wide 0 C.P l f b c a w fun e w'=>Fin C X w M E K KP w' e
 | .halt (.panic v) w'=>∃d M' E',KP d M'/\Sim C X w' M' E'/\From w M E w' M' E'/\bK w' (away X M' E') v d
 | _=>False
section
variable {C:Ctx}{X:Nat->Prop}{w:World}{M:Mem}{E:Emb}{K:PV->Mem->Prop}{KP:DV->Mem->Prop}
variable{v:Value}
def fB.same {pv:PV}(b:Sim C X w M E)(a:K pv M)(c:Rep w (away X M E) M E v pv):fB C X w M E K KP (.ok (.value v) w):=
 ⟨pv,M,E,a,b, .refl w M E,c⟩
variable{O:Nat->Prop}
def bK.nT {b:Bool}(h:bK w O v (.bool b)):v= .bool b:=by cases h;rfl
def bK.fO {k:IntKind}{n:Int}(h:bK w O v (.int k n)):v= .int k n:=by cases h;rfl
def bK.rM {s:ByteArray}(h:bK w O v (.str s)):v= .string s:=by cases h;rfl
def bK.kP {ex:Bool}{xs:List DV}(h:bK w O v (.slice ex xs)):∃a cap,v= .slice a xs.length cap:=by
 cases h with
 |empty c=>exact⟨_,_,rfl⟩
 |slice d f b g e c hh=>subst b;exact⟨_,_,rfl⟩
def bK.wP {cs:List DV}(h:bK w O v (.agg cs)):∃vs,v= .agg vs/\aV w O vs.toList cs:=by
 cases h with|agg hh=>exact⟨_,rfl,hh⟩
variable{vs:List Value}{p:PV}
def fJ (h:aQ w (away X M E) M E vs [p]):∃v,vs=[v]/\Rep w (away X M E) M E v p:=by
 cases h with|cons h t=>cases t;exact⟨_,rfl,h⟩
variable{q:PV}
def dZ (h:aQ w (away X M E) M E vs [p,q]):∃v u,vs=[v,u]/\Rep w (away X M E) M E v p/\Rep w (away X M E) M E u q:=by
 cases h with|cons h t=>obtain⟨u,rfl,h2⟩:=fJ t;exact⟨_,_,rfl,h,h2⟩
def KH {r:PV}(h:aQ w (away X M E) M E vs [p,q,r]):∃v u t,vs=[v,u,t]/\Rep w (away X M E) M E v p/\Rep w (away X M E) M E u q/\Rep w (away X M E) M E t r:=by
 cases h with|cons h t=>obtain⟨u,t,rfl,h2,a⟩:=dZ t;exact⟨_,_,_,rfl,h,h2,a⟩
variable{ρ:Operand->Value}{o:Oper}
def aeF {c a b:Operand}(ho:o.op= .pick c a b){args:List PV}(e:Sim C X w M E)(d:aQ w (away X M E) M E ((opsOf o.op).map ρ) args){base:Nat}
  (h:au C base .pick args M K KP):fB C X w M E K KP ((execOp ρ o).run C.P w):=by
 simp only[ho,opsOf,S,V]at d;simp only[au]at h
 split at h
 ·rename_i t p q
  obtain⟨v,u,x,f,h1,h2,g⟩:=KH d;simp only[List.cons.injEq,and_true]at f;obtain⟨rfl,rfl,rfl⟩:=f;have i:=h1.toD.nT;simp only[execOp,ho,i,asBool,pure_bind,Sem.run_pure];cases t
  ·exact .same e h g
  ·exact .same e h h2
 ·exact h.elim
variable{x:Operand}
def Yp (ho:o.op= .move x\/o.op= .assign x){args:List PV}(c:Sim C X w M E)(a:aQ w (away X M E) M E ((opsOf o.op).map ρ) args){base:Nat}
  (h:au C base .mov args M K KP):fB C X w M E K KP ((execOp ρ o).run C.P w):=by
 simp only[au]at h
 split at h
 ·rename_i p
  rcases ho with ho|ho<;>
  ·simp only[ho,opsOf,S,V]at a
   obtain⟨v,b,h1⟩:=fJ a;simp only[List.cons.injEq,and_true]at b;subst b;simp only[execOp,ho,Sem.run_pure];exact .same c h h1
 ·exact h.elim
def UM {sz:Nat}(ho:o.op= .move x\/o.op= .assign x){args:List PV}(i:Sim C X w M E)(m:aQ w (away X M E) M E ((opsOf o.op).map ρ) args){base:Nat}
  (h:au C base (.VY sz) args M K KP):fB C X w M E K KP ((execOp ρ o).run C.P w):=by
 have l:∃p,args=[p]/\Rep w (away X M E) M E (ρ x) p/\(execOp ρ o).run C.P w= .ok (.value (ρ x)) w:=by
  rcases ho with ho|ho<;>
  ·simp only[ho,opsOf,S,V]at m
   cases m with|cons h1 t=>cases t;exact⟨_,rfl,h1,by simp only[execOp,ho,Sem.run_pure]⟩
 obtain⟨p,rfl,j,f⟩:=l;rw[f];simp only[au]at h
 split at h
 ·rename_i d
  simp only[List.cons.injEq,and_true]at d;subst d;obtain⟨rfl,k,c,q⟩:=h
  rename_i xs
  obtain⟨s,n⟩:=wL (A:=⟨sz,xs,0,0⟩) (loc:=none) i (Later.refl w) k c (fun hh=>by cases hh) (fun _ _ _ hh=>by cases hh);have e:=j.toD.from n
  refine⟨_,_,_,q,s,n,?_⟩;obtain⟨a,cap,r⟩:=j.toD.kP;rw[r]at e⊢;refine .tsl (by simp) fun A b=> ?_
  have g:A=⟨sz,xs,0,0⟩:=by
   simp at b;exact b.symm
  subst g;refine⟨H _,fun _=>⟨none,by simp[<-i.bC],Nat.zero_le _,by simpa using e⟩⟩
 ·rename_i d
  simp only[List.cons.injEq,and_true]at d;subst d;exact .same i h j
 ·exact h.elim
end
section
variable {C:Ctx}{X:Nat->Prop}{w:World}{M:Mem}{E:Emb}{K:PV->Mem->Prop}{KP:DV->Mem->Prop}{O:Nat->Prop}
def Rep.zX {vs:List Value}{ps:List PV}(h:aQ w O M E vs ps):Rep w O M E (.agg vs.toArray) (zX ps):=by
 unfold Am.zX
 split
 ·rename_i ds hd;exact .d (.agg (by simpa using h.gV hd))
 ·exact .agg (by simpa using h)
variable{ρ:Operand->Value}{o:Oper}{i:Nat}
def aaQ {t:TypeId}{zs:List DV}(ho:o.op= .alloc t){args:List PV}(g:Sim C X w M E)(a:aN C.P (.alloc t) (.alloc i zs)=true){base:Nat}
  (h:au C base (.alloc i zs) args M K KP):fB C X w M E K KP ((execOp ρ o).run C.P w):=by
 simp only[au]at h
 split at h
 ·obtain⟨h1,f⟩:=h
  simp only[aN]at a
  split at a
  ·rename_i k jT
   split at a
   ·rename_i z j
    obtain⟨c,d,e⟩:=VK (T:=t) (vs:=z.cells) g h1 (aQ.ofD (je a));have b:(execOp ρ o).run C.P w= .ok (.value (.pointer (some ⟨w.heap.size,0,none⟩))) (w.alloc (.cells z.cells t)):=by
     simp[execOp,ho,Instr.alloc,zeroValue,typeInfo,jT,j,newVar,newRow]
    rw[b];exact⟨_,_,_,f,c,d,e⟩
   ·cases a
  ·cases a
 ·exact h.elim
def bK.am8 {v:Value}{x:DV}(h:bK w O v x):aV w O v.cells.toList x.cells:=by
 have:=(Rep.d (M:=bG) (E:=⟨[],[]⟩) h).cells (by simp);cases x with
 |agg cs=>exact this.toL
 | _=>exact aQ.toL (ds:=[_]) this
def PV.Zq {p:PV}(h:p.oh=false):p≠ .dead:=by rintro rfl;cases h
def agZ {t:TypeId}{x:Operand}(ho:o.op= .box t x){args:List PV}(k:Sim C X w M E)(b:aQ w (away X M E) M E ((opsOf o.op).map ρ) args){base:Nat}
  (h:au C base (.box i) args M K KP):fB C X w M E K KP ((execOp ρ o).run C.P w):=by
 simp only[au]at h
 split at h
 ·rename_i p
  obtain⟨g,h1,j⟩:=h;simp only[ho,opsOf,S,V]at b;obtain⟨v,c,l⟩:=fJ b;simp only[List.cons.injEq,and_true]at c;obtain⟨d,e,f⟩:=VK (T:=t) k h1 (l.cells (PV.Zq g));have a:(execOp ρ o).run C.P w= .ok (.value (.pointer (some ⟨w.heap.size,0,none⟩))) (w.alloc (.cells v.cells t)):=by
   simp[execOp,ho,Instr.box,newVar,newRow,c]
  rw[a];exact⟨_,_,_,j,d,e,f⟩
 ·exact h.elim
def foldl_set (off:Nat):∀(us:List Value) (k:Nat) (cs:Array Value),off+k+us.length<=cs.size->
  ((us.zipIdx k).foldl (fun cs (c,j)=>cs.setIfInBounds (off+j) c) cs).toList=splice cs.toList (off+k) us
 | [],k,cs,_=>by simp[splice]
 |u::us,k,cs,h=>by
  simp only[List.zipIdx_cons,ce];rw[foldl_set off us (k+1) _ (by simp at h⊢;omega)];simp only[splice,bh,b7];have a:off+k<cs.toList.length:=by simp at h⊢;omega
  rw[<-bp off k 1,List.take_succ_eq_append_getElem (by simpa using a),List.take_set_of_le (H _),List.drop_set];simp only[List.getElem_set_self];rw[if_pos (by omega)];simp only[aR,List.singleton_append]
  congr 3
  omega
def U2 (off n:Nat)(v:Value)(cs:Array Value)(a:v.cells.size=n)(h:off+n<=cs.size):
  (v.cells.zipIdx.foldl (fun cs (c,j)=>cs.setIfInBounds (off+j) c) cs).toList=splice cs.toList off v.cells.toList:=by
 have:=foldl_set off v.cells.toList 0 cs (by simp;omega);rw[<-Array.foldl_toList,Array.toList_zipIdx]
 simpa using this
def Rk {place:Nat->Option (Nat×Nat)}:∀{parts:List (Nat×Value)} {ps:List (Nat×Nat)} {args cs cs':List PV} {vs:Array Value},
  (parts.map fun x=>place x.1)=ps.map some->aQ w O M E (parts.map (·.2)) args->aQ w O M E vs.toList cs->jY cs ps args=some cs'->
  ∃e,Instr.fill place vs parts=some e/\aQ w O M E e.toList cs'
 | [],[],[],cs,cs',vs,_,_,l,g=>by simp only[jY,Option.some.injEq]at g;subst g;exact⟨vs,rfl,l⟩
 |(i,v)::parts,(off,n)::ps,a::args,cs,cs',vs,q,u,l,g=>by
  simp only[S,List.cons.injEq]at q;obtain⟨m,o⟩:=q;cases u with
  |cons h1 h2=>
   simp only[jY]at g
   split at g
   ·rename_i f
    obtain⟨r,y,z⟩:=f;have b:=h1.cells (PV.Zq r);have h:=b.length;have ah1:=l.length;have k:v.cells.size=n:=by simp at h;omega
    have d:off+n<=vs.size:=by simp at ah1;omega
    have p:=U2 off n v vs k d;obtain⟨e,s,t⟩:=Rk (vs:=v.cells.zipIdx.foldl (fun cs (c,j)=>cs.setIfInBounds (off+j) c) vs) o h2 (by rw[p];exact l.splice b off) g;refine⟨e,?_,t⟩;simp only[Instr.fill,m];rw[if_neg (by simp[k];omega)];exact s
   ·cases g
variable{P:Program}
def run_sizeOf {t:TypeId}{j:TypeInfo}(h:P.info? t=some j):(sizeOf t).run P w= .ok j.size w:=by simp[sizeOf,typeInfo,h]
def ab9 {fs:Array Field}(h:(fs.all fun f=>(C.P.info? f.type).isSome)=true):
  (fs.mapM fun f=>Functor.map (Prod.mk f.offset) (sizeOf f.type):Sem (Array (Nat×Nat))).run C.P w= .ok (fs.map fun f=>(f.offset,((C.P.info? f.type).map (·.size)).getD 0)) w:=by
 have b:∀(l:List Field),(∀f∈l,(C.P.info? f.type).isSome=true)->
   (l.mapM fun f=>Functor.map (Prod.mk f.offset) (sizeOf f.type):Sem (List (Nat×Nat))).run C.P w= .ok (l.map fun f=>(f.offset,((C.P.info? f.type).map (·.size)).getD 0)) w:=by
  intro l
  induction l with
  |nil=>intro _;simp
  |cons f l k=>
   intro a;obtain⟨j,c⟩:=Option.isSome_iff_exists.1 (a f (by simp));have:=k fun g e=>a g (by simp[e])
   simp only[cj,Sem.run_bind,Sem.run_map,run_sizeOf c,Result.andThen_ok,this,Sem.run_pure,S,c,cf,bt]
 have a:∀f∈fs.toList,(C.P.info? f.type).isSome=true:=by
  intro f d;simp only[Array.all_eq_true]at h;obtain⟨i,hi,rfl⟩:=List.getElem_of_mem d
  simpa using h i (by simpa using hi)
 rw[Array.mapM_eq_mapM_toList];simp only[Sem.run_map,b fs.toList a,Result.andThen_ok]
 congr 1
 apply cg;simp
def PU {fs:Array Field}:∀{parts:List (Nat×Operand)} {ps:List (Nat×Nat)} (ρ:Operand->Value),placesOf C.P fs parts=some ps->
  ((parts.map fun x=>(x.1,ρ x.2)).map fun x=>(fs.map fun f=>(f.offset,((C.P.info? f.type).map (·.size)).getD 0))[x.1]?)=ps.map some
 | [],ps,ρ,h=>by simp[placesOf]at h;subst h;rfl
 |(i,x)::parts,ps,ρ,h=>by
  simp only[placesOf,cj,Option.bind_eq_bind,Option.bind_eq_some_iff,J,Option.pure_def,Option.some.injEq]at h;obtain⟨q,⟨f,b,j,c,rfl⟩,d,a,rfl⟩:=h;simp only[S,List.cons.injEq];refine⟨by simp[b,c],PU ρ (by simpa[placesOf]using a)⟩
variable{parts:Array (Nat×Operand)}
def aaR {t:TypeId}{zs:List DV}{ps:List (Nat×Nat)}(ho:o.op= .build t parts){args:List PV}(s:Sim C X w M E)
  (r:aQ w (away X M E) M E ((opsOf o.op).map ρ) args)(a:aN C.P (.build t parts) (.build zs ps)=true){base:Nat}
  (h:au C base (.build zs ps) args M K KP):fB C X w M E K KP ((execOp ρ o).run C.P w):=by
 simp only[au]at h
 split at h
 ·rename_i cs k
  simp only[aN]at a
  split at a
  ·rename_i A jT
   split at a
   ·rename_i z u
    simp only[F]at a;obtain⟨l,a⟩:=a;simp only[ho,opsOf]at r;have f:aQ w (away X M E) M E (((parts.toList.map fun x=>(x.1,ρ x.2))).map (·.2)) args:=by simpa[cn,aM]using r
    split at a
    ·rename_i fs c
     simp only[F,decide_eq_true_eq]at a;obtain⟨g,q⟩:=a;obtain⟨d,m,p⟩:=Rk (vs:=z.cells) (PU ρ q) f (aQ.ofD (je l)) k;have b:(execOp ρ o).run C.P w= .ok (.value (.agg d)) w:=by
      have y:=ab9 (w:=w) g;simp only[execOp,ho,Instr.build,zeroValue,typeInfo,Sem.run_bind,run_program,Result.andThen_ok,jT,Sem.run_pure,u,run_underlying c,bind_pure_comp,Sem.run_map,y];rw[show(b6 (fun x=>(x.1,ρ x.2)) parts).toList=parts.toList.map (fun x=>(x.1,ρ x.2)) by simp,m];simp
     rw[b];exact .same s h (by simpa using Rep.zX p)
    ·rename_i n e c
     split at a
     ·rename_i j v
      simp only[decide_eq_true_eq]at a;obtain⟨d,m,p⟩:=Rk (place:=fun i=>some (i*j.size,j.size)) (parts:=parts.toList.map fun x=>(x.1,ρ x.2)) (ps:=ps) (vs:=z.cells) (by subst a;simp[aM]) f (aQ.ofD (je l)) k;have b:(execOp ρ o).run C.P w= .ok (.value (.agg d)) w:=by
       simp only[execOp,ho,Instr.build,zeroValue,typeInfo,Sem.run_bind,run_program,Result.andThen_ok,jT,Sem.run_pure,u,run_underlying c,bind_pure_comp,Sem.run_map,run_sizeOf v];rw[show(b6 (fun x=>(x.1,ρ x.2)) parts).toList=parts.toList.map (fun x=>(x.1,ρ x.2)) by simp,m];simp
      rw[b];exact .same s h (by simpa using Rep.zX p)
     ·cases a
    ·cases a
   ·cases a
  ·cases a
 ·exact h.elim
def NV {sz:Nat}{O:Nat->Prop}:∀{parts:List (Nat×Value)} {u:List Nat} {ds xs d:List DV} {vs:Array Value},
  parts.map (·.1)=u->aV w O (parts.map (·.2)) ds->aV w O vs.toList (flat xs)->(∀x∈xs,x.cells.length=sz)->qJ sz xs u ds=some d->
  ∃g,Instr.fill (fun i=>some (i*sz,sz)) vs parts=some g/\aV w O g.toList (flat d)/\(∀x∈d,x.cells.length=sz)/\d.length=xs.length
 | [],[],[],xs,d,vs,_,_,p,l,k=>by simp only[qJ,Option.some.injEq]at k;subst k;exact⟨vs,rfl,p,l,rfl⟩
 |(i,v)::parts,H::u,a::ds,xs,d,vs,z,E,p,l,k=>by
  simp only[S,List.cons.injEq]at z;obtain⟨rfl,r⟩:=z;cases E with
  |cons h1 h2=>
   simp only[qJ]at k
   split at k
   ·rename_i h
    obtain⟨y,q⟩:=h;have b:aV w O v.cells.toList a.cells:=bK.am8 h1;have m:=b.length;have ah1:=p.length;have o:v.cells.size=sz:=by simp at m;omega
    have F:(flat xs).length=xs.length*sz:=flat_length l;have G:i*sz+sz<=xs.length*sz:=by rw[<-a7];exact ap _ q
    have f:i*sz+sz<=vs.size:=by simp at ah1;omega
    have s:=U2 (i*sz) sz v vs o f;have n:flat (xs.set i a)=splice (flat xs) (i*sz+0) a.cells:=Rz l q y (by
     simp only[splice,cl,bz,b5];rw[a6 (by rw[l _ (am q)];omega),bw]) (by omega)
    obtain⟨g,A,B,C,D⟩:=NV (vs:=v.cells.zipIdx.foldl (fun cs (c,j)=>cs.setIfInBounds (i*sz+j) c) vs) r h2
     (by rw[s,n];exact p.splice b _) (fun x t=>(bl t).elim (l x) (fun e=>e▸y)) k
    refine⟨g,?_,B,C,by simpa using D⟩;simp only[Instr.fill];rw[if_neg (by simp[o];omega)];exact A
   ·cases k
def Ec {w:World}{O:Nat->Prop}{z:Array Value}{sz:Nat}(b:z.size=sz)(a:0<sz):∀{zs:List DV},(zs.all fun d=>jA d.cells z.toList)=true->
  aV w O ((bo (zs.length*sz)).map (z[· % sz]!)).toList (flat zs)
 | [],_=>by simpa[flat]using .nil
 |d::zs,h=>by
  simp only[List.all_cons,F]at h;rw[lV];have e:((bo ((d::zs).length*sz)).map (z[· % sz]!)).toList=z.toList++((bo (zs.length*sz)).map (z[· % sz]!)).toList:=by
   apply List.ext_getElem
   ·simp[b];rw[az];omega
   ·intro i h1 h2
    simp only[Array.toList_map,Array.toList_range,List.getElem_map,List.getElem_range,List.getElem_append,ab]
    split
    ·rename_i hi
     rw[Nat.mod_eq_of_lt (by omega)];simp[getElem!_pos z i hi]
    ·rename_i hi
     have:(i - z.size) % sz=i % sz:=by rw[b,<-Nat.mod_eq_sub_mod (by omega)]
     rw[this]
  rw[e];exact(je h.1).append (Ec b a h.2)
def aeB {t:TypeId}{len sz:Nat}{zs:List DV}{T:List Nat}(ho:o.op= .buildSlice t len parts){args:List PV}(r:Sim C X w M E)
  (R:aQ w (away X M E) M E ((opsOf o.op).map ρ) args)(a:aN C.P (.buildSlice t len parts) (.dU sz zs T)=true){base:Nat}
  (h:au C base (.dU sz zs T) args M K KP):fB C X w M E K KP ((execOp ρ o).run C.P w):=by
 simp only[au]at h
 split at h
 ·rename_i ds s
  split at h
  ·rename_i xs G
   simp only[aN]at a
   split at a
   ·rename_i e U
    split at a
    ·rename_i ab jT
     split at a
     ·rename_i z Z
      simp only[F,decide_eq_true_eq,beq_iff_eq]at a;obtain⟨⟨⟨⟨⟨⟨B,W⟩,j⟩,S⟩,I⟩,RQ⟩,v⟩:=a;simp only[ho,opsOf]at R;have n:=(rQ r R s (fun q V=>V)).strip;have p:aV w (away X (M.frz args) E) ((parts.toList.map fun x=>(x.1,ρ x.2)).map (·.2)) (ds.map DV.strip):=by simpa[cn,aM]using n
      have L:∀x∈zs,x.cells.length=sz:=by
       intro x Y;simp only[aD]at RQ;have:=(je (w:=w) (O:=fun _=>False) (RQ x Y)).length;simp at this;omega
      obtain⟨k,l,N,Q,g4⟩:=NV (vs:=(bo (zs.length*sz)).map (z.cells[· % sz]!)) (by subst v;simp[aM]) p (Ec j B RQ) L G;have A:¬(len*sz>2 ^ 24):=by omega
      have i:(execOp ρ o).run C.P w= .ok (.value (.slice (some ⟨w.heap.size,0,none⟩) len len)) (w.alloc (.cells k e)):=by
       simp only[execOp,ho,Instr.buildSlice,Sem.run_bind,run_underlying U,Result.andThen_ok,run_sizeOf jT,W,A,if_false,bind_pure_comp,Sem.run_map,Sem.run_ite,Sem.run_pure];have J:(zeroValue e).run C.P w= .ok z w:=by simp[zeroValue,typeInfo,jT,Z]
       have g:(b6 (fun x=>(x.1,ρ x.2)) parts).toList=parts.toList.map (fun x=>(x.1,ρ x.2)):=by simp
       rw[I]at l
       by_cases c:len*sz=0
       ·have m:∀(f:Nat->Value),b6 f (bo (len*sz))= #[]:=by intro f;rw[c];simp
        rw[m]at l;rw[c]at m;simp only[c,if_true,g,m,l];simp only[newRow,Sem.run_map,run_newObj_alloc,bind_pure_comp,Result.andThen_ok]
       ·simp only[c,if_false,J,Result.andThen_ok,j,g,l,newRow,Sem.run_map,run_newObj_alloc,bind_pure_comp]
      rw[i];have y:=Later.alloc w (.cells k e);have s1:=(mP r args).later y;have s2:=(mX args w (M:=M) (E:=E)).trans (y.from (M.frz args) E);refine⟨_,_,_,h,s1,s2, .d ?_⟩;have b:xs.length=len:=by omega
      by_cases c:len=0
      ·have:xs=[]:=bq.1 (by omega)
       subst this;subst c;exact .empty (fun _=>rfl)
      ·refine .slice (sz:=sz) (heap_alloc_new w _) (fun hh=> ?_) b Q (H _) (fun _=>rfl) ?_
       ·exact absurd ((mP r args).wQ hh) (by omega)
       ·have u:(flat xs).length=len*sz:=by rw[flat_length Q,b]
        have D:=N.length;rw[ch,aq (by rw[D,u];exact H _)];exact N.from (y.from (M.frz args) E)
     ·cases a
    ·cases a
   ·cases a
  ·exact h.elim
 ·exact h.elim
variable{agg:Bool}
def zC {t:TypeId}{n:Nat}(h:xw P t agg n=true)(w:World):(isAgg t).run P w= .ok agg w/\(agg=true->(sizeOf t).run P w= .ok n w)/\(agg=false->n=1):=by
 simp only[xw]at h
 split at h
 ·rename_i fs i a hi
  simp only[F,beq_iff_eq,decide_eq_true_eq]at h;obtain⟨⟨rfl,rfl⟩,_⟩:=h;exact⟨by simp[isAgg,run_underlying a],fun _=>run_sizeOf hi,fun h=>by cases h⟩
 ·rename_i m e i a hi
  simp only[F,beq_iff_eq,decide_eq_true_eq]at h;obtain⟨⟨rfl,rfl⟩,_⟩:=h;exact⟨by simp[isAgg,run_underlying a],fun _=>run_sizeOf hi,fun h=>by cases h⟩
 ·rename_i oi d a h1 h2
  simp only[F,beq_iff_eq,bR]at h;obtain⟨rfl,rfl⟩:=h;refine⟨?_,(fun h=>by cases h),fun _=>rfl⟩;cases hi:P.info? t with
  |none=>exfalso;simp[Program.underlying,hi]at a
  |some j=>
   cases d with
   |struct fs=>exact(h1 fs j hi rfl).elim
   |array m e=>exact(h2 m e j hi rfl).elim
   | _=>simp[isAgg,run_underlying a]
 ·cases h
def Vm {t:TypeId}{n:Nat}(h:xw P t agg n=true):0<n:=by
 simp only[xw]at h
 split at h
 ·simp only[F,decide_eq_true_eq]at h;exact h.2
 ·simp only[F,decide_eq_true_eq]at h;exact h.2
 ·simp only[F,beq_iff_eq]at h;omega
 ·cases h
variable{fz:Nat×Nat}
def TL {t:TypeId}{n blk p:Nat}{cs:Array Value}{T:TypeId}(h:xw P t agg n=true)(hb:w.heap[blk]?=some (.cells cs T fz))(g:p+n<=cs.size):
  (Instr.loadAt t (.pointer (some ⟨blk,p,none⟩))).run P w= .ok (bif agg then .agg ((cs.toList.drop p).take n).toArray else cs.toList.getD p undef) w:=by
 obtain⟨h1,h2,c⟩:=zC h w;cases agg with
 |true=>
  have e:((cs.toList.drop p).take n).length=n:=by simp;omega
  have:=run_loadCells_list (P:=P) w ⟨blk,p,none⟩ ((cs.toList.drop p).take n) (fun j v a=>by
   rw[Addr.add_lit,cell_of_row w blk (p+j) cs T fz hb];rw[bO]at a
   split at a
   ·rw[bN]at a;simpa using a
   ·cases a)
  rw[e]at this;simp[Instr.loadAt,Instr.sureAddr,loadVar,h1,h2 rfl,this]
 |false=>
  have f:=c rfl;subst f;have b:p<cs.size:=by omega
  have d:w.cell? ⟨blk,p,none⟩=some cs[p]:=by rw[cell_of_row w blk p cs T fz hb];simp[b]
  simp[Instr.loadAt,Instr.sureAddr,loadVar,h1,run_load,d,be,b]
def Ve {O:Nat->Prop}{t:TypeId}{n blk p:Nat}{cs:Array Value}{T:TypeId}{ds:List DV}(h:xw P t agg n=true)(hb:w.heap[blk]?=some (.cells cs T fz))
  (b:aV w O ((cs.toList.drop p).take n) ds)(i:ds.length=n):
  ∃v,(Instr.loadAt t (.pointer (some ⟨blk,p,none⟩))).run P w= .ok v w/\bK w O v (bif agg then .agg ds else ds.getD 0 default):=by
 have g:=b.length;simp only[b9,b8,ab]at g;have f:=(zC h w).2.2;refine⟨_,TL h hb ?_,?_⟩
 ·cases agg with
  |false=>have:=f rfl;omega
  |true=>have:=Vm h;omega
 ·cases agg with
  |true=>exact .agg (by simpa using b)
  |false=>
   have a:=f rfl;subst a;obtain⟨d,rfl⟩:=bu.1 i;obtain⟨v,e,c⟩:=b.get' 0 d rfl;rw[bO]at e;simp only[Nat.zero_lt_one,if_true,bN,bv]at e;simp only[cond_false,bL];rw[be,e];exact c
end
section
variable {C:Ctx}{X:Nat->Prop}{w:World}{M:Mem}{E:Emb}{K:PV->Mem->Prop}{KP:DV->Mem->Prop}{O:Nat->Prop}
variable{P:Program}{agg:Bool}{vs:Array Value}
def afG {t:TypeId}{n blk off:Nat}{T:TypeId}{fz:Nat×Nat}{cs:List PV}(h:xw P t agg n=true)(hb:w.heap[blk]?=some (.cells vs T fz))
  (b:aQ w O M E vs.toList cs)(i:off+n<=cs.length):
  ∃v,(Instr.loadAt t (.pointer (some ⟨blk,off,none⟩))).run P w= .ok v w/\Rep w O M E v (ld agg n off cs):=by
 have e:=b.length;simp only[ab]at e;have d:=(zC h w).2.2;refine⟨_,TL h hb (by omega),?_⟩;cases agg with
 |true=>exact Rep.zX ((b.drop off).take n)
 |false=>
  have f:=d rfl;have a:off<cs.length:=by omega
  obtain⟨v,g,c⟩:=b.get' off cs[off] (W a);simp only[cond_false,ld];rw[getD_eq a,be,g];exact c
def abg {A:Arr}{o e i:Nat}(b:∀x∈A.elems,x.fits A.sz=true)(hi:i<A.elems.length)
  (h:aV w O ((vs.toList.drop o).take (A.elems.length*A.sz)) (flat A.elems))(off n:Nat)(j:off+n<=A.elems[i].cells.length)(_he:o+A.elems.length*A.sz<=e)(_hv:e<=vs.size):
  aV w O ((vs.toList.drop (o+i*A.sz+off)).take n) ((A.elems[i].cells.drop off).take n):=by
 have a:∀x∈A.elems,x.cells.length=A.sz:=fun x g=>DV.dK (b x g)
 have f:=a _ (am hi);have h1:=((((h.drop (i*A.sz)).take A.sz).drop off).take n)
 rw[flat_get a hi]at h1;have d:i*A.sz+A.sz<=A.elems.length*A.sz:=by rw[<-a7];exact ap _ hi
 have c:(((((vs.toList.drop o).take (A.elems.length*A.sz)).drop (i*A.sz)).take A.sz).drop off).take n=(vs.toList.drop (o+i*A.sz+off)).take n:=by
  rw[ao,an,ax,ao,an,ax,<-bp]
  congr 1
  omega
 rw[c]at h1;exact h1
def ail (agg:Bool)(n off:Nat)(cs:List DV)(b:0<n)(hl:off+n<=cs.length)(h1:agg=false->n=1):ldD agg n off cs= .d (bif agg then .agg ((cs.drop off).take n)else((cs.drop off).take n).getD 0 default):=by
 cases agg with
 |true=>rfl
 |false=>
  have:=h1 rfl;subst this;simp only[ldD,cond_false];have a:off<cs.length:=by omega
  simp[be]
variable{v:Value}
def JR {t:TypeId}{n:Nat}{x:PV}(I:Sim C X w M E)(G:Rep w (away X M E) M E v x)(g:xw C.P t agg n=true){K:PV->Prop}(h:bY agg n x M K):
  ∃u pv,(Instr.loadAt t v).run C.P w= .ok u w/\K pv/\Rep w (away X M E) M E u pv:=by
 have l:=Vm g;have a:=(zC g w).2.2;have data:∀{v:Value} {cs:List DV},bK w (away X M E) v (.aP cs)->∀off,off=0->n<=cs.length->
   ∃u,(Instr.loadAt t v).run C.P w= .ok u w/\bK w (away X M E) u (bif agg then .agg (cs.take n)else cs.getD 0 default):=by
  intro v cs hd off _ f;cases hd with
  |aP S ho hh=>
   have z:=hh.take n;rw[ax,bA f]at z;obtain⟨u,h1,h2⟩:=Ve g S z (by simp;omega);refine⟨u,h1,?_⟩;cases agg with
   |true=>exact h2
   |false=>
    have:=a rfl;subst this;simp only[cond_false]at h2⊢;cases cs with
    |nil=>simp at f
    |cons c cs=>simpa using h2
 cases x with
 |ptr b off=>
  simp only[bY]at h
  split at h
  ·rename_i cs y
   obtain⟨f,m⟩:=h;cases G with
   |ptr J U F=>
    rw[nC y]at J;cases J;obtain⟨blk,vs,T,h1,h2,D,Q⟩:=I.cells (nC y) F;rw[U]at h1;cases h1;obtain⟨u,p,j⟩:=afG g D Q f;exact⟨u,_,p,m,j⟩
  ·exact h.elim
 |d x=>
  cases x with
  |aP cs=>
   simp only[bY]at h;obtain⟨f,m⟩:=h;obtain⟨u,p,j⟩:=data G.toD 0 rfl f;refine⟨u,_,p,m,?_⟩;cases agg<;>exact .d (by simpa using j)
  | _=>simp[bY]at h
 |jX k ver i off=>
  simp only[bY]at h
  split at h
  ·rename_i A R
   obtain⟨f,m⟩:=h;obtain⟨s,Y⟩:=uS R;cases G with
   |jX V hh=>
    obtain⟨_,h2⟩:=hh A s;obtain⟨H,D,hi,r⟩:=h2 Y;obtain⟨s1,s2,s3,s4⟩:=I.arr k A s;rw[getD_eq hi]at f m;cases H with
    |none=>
     simp only[W hi,bt]at r;obtain⟨u,p,j⟩:=data r 0 rfl (by simp;omega);refine⟨u,_,p,m,?_⟩;rw[ail agg n off _ l f a];refine .d ?_;cases agg with
     |true=>exact j
     |false=>
      have:=a rfl;subst this;simp only[cond_false]at j⊢;have B:off<A.elems[i].cells.length:=by omega
      rw[bk B]at j⊢
      simpa using j
    |some q=>
     obtain⟨blk,o,e⟩:=q;simp only at r;obtain⟨hX,vs,T,j,L,N,O⟩:=s4 blk o e D;simp only[Value.pointer.injEq]at r;subst r;obtain⟨u,Z,q2⟩:=Ve g j (abg s2 hi O off n f L N) (by simp;omega);refine⟨u,_,Z,m,?_⟩;rw[ail agg n off _ l f a];exact .d q2
  ·exact h.elim
 | _=>simp[bY]at h
variable{ρ:Operand->Value}{o:Oper}{x:Operand}
def UN {t:TypeId}{n:Nat}(ho:o.op= .load t x){args:List PV}(d:Sim C X w M E)(c:aQ w (away X M E) M E ((opsOf o.op).map ρ) args)
  (b:xw C.P t agg n=true){base:Nat}(h:au C base (.load agg n) args M K KP):fB C X w M E K KP ((execOp ρ o).run C.P w):=by
 simp only[au]at h
 split at h
 ·rename_i p
  simp only[ho,opsOf,S,V]at c;obtain⟨v,e,g⟩:=fJ c;simp only[List.cons.injEq,and_true]at e;subst e;obtain⟨u,pv,h1,h2,f⟩:=JR d g b h;have a:(execOp ρ o).run C.P w= .ok (.value u) w:=by simp[execOp,ho,h1]
  rw[a];exact .same d h2 f
 ·exact h.elim
def Uz {n:Nat}{x:PV}{K:PV->Prop}(h:oJ agg n x M K):bY agg n x M K:=by
 cases x with
 |d x=>cases x<;>first|exact h|exact h.elim
 |ptr=>exact h
 | _=>exact h.elim
def aaV {t:TypeId}{n:Nat}(ho:o.op= .load t x){args:List PV}(c:Sim C X w M E)(b:aQ w (away X M E) M E ((opsOf o.op).map ρ) args)
  (a:xw C.P t agg n=true){base:Nat}(h:au C base (.Jr agg n) args M K KP):fB C X w M E K KP ((execOp ρ o).run C.P w):=by
 refine UN (base:=base) ho c b a ?_;simp only[au]at h⊢
 split at h
 ·exact Uz h
 ·exact h.elim
def bK.oneCell {x:DV}(h:bK w O v x)(hx:x.one=true):v.oneCell'=true:=by
 cases h<;>first|rfl|(simp[DV.one]at hx)
def aV.oneCell:∀{vs:List Value} {xs:List DV},aV w O vs xs->(∀x∈xs,x.one=true)->∀v∈vs,v.oneCell'=true
 | _,_, .nil,_,v,a=>by simp at a
 | _,_, .cons h t,c,v,a=>by
  rcases a8.1 a with rfl|a
  ·exact h.oneCell (c _ (by simp))
  ·exact aV.oneCell t (fun x b=>c x (by simp[b])) v a
def Rep.oneCell {v:Value}{x:PV}(h:Rep w O M E v x)(hx:x.one=true):v.oneCell'=true:=by
 cases h with
 |d h=>exact h.oneCell hx
 |ptr=>rfl
 |jX=>rfl
 |tsl=>rfl
 |psl=>rfl
 |zT=>rfl
 |func=>rfl
 |mref=>rfl
 |mV=>rfl
 | _=>simp[PV.one]at hx
def aQ.oneCell:∀{vs:List Value} {xs:List PV},aQ w O M E vs xs->(∀x∈xs,x.one=true)->∀v∈vs,v.oneCell'=true
 | _,_, .nil,_,v,a=>by simp at a
 | _,_, .cons h t,c,v,a=>by
  rcases a8.1 a with rfl|a
  ·exact h.oneCell (c _ (by simp))
  ·exact aQ.oneCell t (fun x b=>c x (by simp[b])) v a
variable{off:Nat}
def P8 {t:TypeId}{i:TypeInfo}{blk:Nat}{a:Array Value}{T:TypeId}{mk:Nat×Nat}(c:mk.2=0\/a.size<=mk.1)(hi:P.info? t=some i)(d:v.cells.size=i.size)
  (hb:w.heap[blk]?=some (.cells a T mk))(hl:off+v.cells.size<=a.size)(h1:∀u∈v.cells.toList,u.oneCell'=true):
  (Instr.storeAt t (.pointer (some ⟨blk,off,none⟩)) v).run P w= .ok () (w.setRow blk (splice a.toList off v.cells.toList).toArray):=by
 have b:=kC P blk off T mk v.cells.toList 0 a w hb c (by simpa using hl) h1;simp only[bv]at b;simp only[Instr.storeAt,Instr.sureAddr,pure_bind,storeVar,Sem.run_bind,run_sizeOf hi,Result.andThen_ok,d,ne_eq,not_true,if_false,b,splice,Sem.run_ite]
def aa2 {t:TypeId}{a:Operand}{n:Nat}(ho:o.op= .store t a x){args:List PV}(J:Sim C X w M E)(hA:aQ w (away X M E) M E ((opsOf o.op).map ρ) args)
  (g:aN C.P (.store t a x) (.store n)=true){base:Nat}(h:au C base (.store n) args M K KP):fB C X w M E K KP ((execOp ρ o).run C.P w):=by
 simp only[aN]at g
 split at g
 ·rename_i ao jT
  simp only[beq_iff_eq]at g;simp only[au]at h
  split at h
  ·rename_i p q
   simp only[ho,opsOf,S,V]at hA;obtain⟨v,u,D,L,G⟩:=dZ hA;simp only[List.cons.injEq,and_true]at D;obtain⟨rfl,rfl⟩:=D;cases p with
   |ptr b off=>
    simp only[jM]at h
    split at h
    ·rename_i cs y
     obtain⟨R,d,c,m,Q⟩:=h;have Y:q≠ .dead:=by rintro rfl;simp[PV.cells,PV.one]at c
     have r:=G.cells Y;have s:=r.length;generalize Z:ρ a=va at L;cases L with
     |ptr hl D W=>
      rw[nC y]at hl;cases hl;obtain⟨blk,vs,T,h1,h2,j,h4⟩:=J.cells (nC y) W;have ac:=h4.length;simp only[ab]at s ac;obtain rfl:=Option.some.inj (h1.symm.trans D);have f:=P8 (P:=C.P) (t:=t) (v:=ρ x) (.inl rfl) jT (by omega) j (off:=off) (by omega) (r.oneCell (by simpa[aD]using c));have z:(execOp ρ o).run C.P w= .ok .skip (w.setRow blk (splice vs.toList off (ρ x).cells.toList).toArray):=by simp[execOp,ho,Z,f]
      rw[z];obtain⟨s1,s2⟩:=agb (off:=off) J (nC y) R D j r (vk w blk vs T _ j);exact⟨_,_,Q,s1,s2⟩
    ·exact h.elim
   |jX k ver i off=>
    simp only[jM]at h
    split at h
    ·rename_i A ds H B
     obtain⟨I,U,d,c,m,Q⟩:=h;obtain⟨l,Kq⟩:=uS H;have Y:q≠ .dead:=by rintro rfl;simp[PV.cells,gV]at B
     have r:=(G.cells Y).gV B;have s:=r.length;simp only[ab]at s;generalize Z:ρ a=va at L;cases L with
     |jX an hh=>
      obtain⟨_,h2⟩:=hh A l;obtain⟨aq,j,hi,O⟩:=h2 Kq;obtain⟨s1,s2,s3,s4⟩:=J.arr k A l;obtain⟨q',F⟩:=s3 I;rw[j]at F;cases F;obtain⟨blk,o',e⟩:=q';simp only at O;obtain⟨hX,vs,T,N,g3,g4,g5⟩:=s4 blk o' e j;simp only[Value.pointer.injEq]at O;subst O;have afo:=m;rw[getD_eq hi]at afo;have ae:A.elems[i].cells.length=A.sz:=DV.dK (s2 _ (am hi));have ai:i*A.sz+A.sz<=A.elems.length*A.sz:=by rw[<-a7];exact ap _ hi
      have f:=P8 (P:=C.P) (t:=t) (v:=ρ x) T.ok jT (by omega) N (off:=o'+i*A.sz+off) (by omega) (r.oneCell (by simpa[aD]using c));have z:(execOp ρ o).run C.P w= .ok .skip (w.setRow blk (splice vs.toList (o'+i*A.sz+off) (ρ x).cells.toList).toArray):=by simp[execOp,ho,Z,f]
      rw[z];obtain⟨t1,t2⟩:=acK J l I j N hi (by rw[d];exact m) (by rw[d];exact U) c r (vk w blk vs T.ty _ N);exact⟨_,_,Q,t1,t2⟩
    ·exact h.elim
   | _=>simp[jM]at h
  ·exact h.elim
 ·cases g
def aa0 (ho:o.op= .nilCheck x){args:List PV}(k:Sim C X w M E)(g:aQ w (away X M E) M E ((opsOf o.op).map ρ) args)
  {base:Nat}(h:au C base .bg args M K KP):fB C X w M E K KP ((execOp ρ o).run C.P w):=by
 have f:∀a,ρ x= .pointer (some a)->(execOp ρ o).run C.P w= .ok (.value (ρ x)) w:=by
  intro a m;simp[execOp,ho,m]
 simp only[ho,opsOf,S,V]at g;simp only[au]at h
 split at h
 ·obtain⟨v,b,c⟩:=fJ g
  simp only[List.cons.injEq,and_true]at b;subst b;generalize e:ρ x=v at c;cases c with
  |ptr n l i=>
   rw[f _ e,e];exact .same k h (.ptr n l i)
 ·obtain⟨v,b,c⟩:=fJ g
  simp only[List.cons.injEq,and_true]at b;subst b;have e:=c;generalize j:ρ x=v at e;cases e with
  |d hd=>cases hd with
   |aP l p hh=>
    rw[f _ j];exact .same k h c
 ·exact h.elim
def XC {t:TypeId}{f:Nat}(ho:o.op= .fieldAddr t x f){args:List PV}(H:Sim C X w M E)(G:aQ w (away X M E) M E ((opsOf o.op).map ρ) args)
  (c:aN C.P (.fieldAddr t x f) (.fld off)=true){base:Nat}(h:au C base (.fld off) args M K KP):fB C X w M E K KP ((execOp ρ o).run C.P w):=by
 simp only[aN]at c
 split at c
 ·rename_i fs N
  split at c
  ·rename_i fd L
   simp only[F,beq_iff_eq]at c;obtain⟨D,c⟩:=c
   split at c
   ·rename_i i hi
    simp only[decide_eq_true_eq]at c;have g:∀blk p,ρ x= .pointer (some ⟨blk,p,none⟩)->(execOp ρ o).run C.P w= .ok (.value (.pointer (some ⟨blk,p+off,none⟩))) w:=by
     intro blk p hp;simp[execOp,ho,hp,Instr.fieldAt,run_underlying N,L,Instr.sureAddr,fieldPlace,run_sizeOf hi,c,D,Addr.add_lit]
    simp only[ho,opsOf,S,V]at G;simp only[au]at h
    split at h
    ·rename_i p
     obtain⟨v,Y,I⟩:=fJ G;simp only[List.cons.injEq,and_true]at Y;subst Y;generalize J:ρ x=v at I;cases p with
     |ptr b U=>
      cases I with
      |ptr hl r Q=>
       rw[g _ _ J];exact .same H h (.ptr hl r Q)
     |d y=>
      cases y with
      |aP cs=>
       simp only[mM]at h;obtain⟨h1,hK⟩:=h;cases I with
       |d hd=>cases hd with
        |aP r l hh=>
         rw[g _ _ J];refine .same H hK (.d (.aP r l ?_));have:=hh.drop off;rw[ao,an]at this
         simpa using this
      | _=>simp[mM]at h
     |jX k ver Z U=>
      simp only[mM]at h;cases I with
      |jX z hh=>
       rename_i a
       split at h
       ·rename_i A G
        obtain⟨j,Kq⟩:=uS G;obtain⟨u,h2⟩:=hh A j;obtain⟨T,W,s,m⟩:=h2 Kq;cases T with
        |some q=>
         obtain⟨blk,o1,e⟩:=q;simp only[Value.pointer.injEq]at m;subst m;rw[g _ _ J];refine .same H h (.jX z fun B n=> ?_);rw[j]at n;cases n;exact⟨u,fun _=>⟨_,W,s,by simp[bp]⟩⟩
        |none=>
         simp only at m;generalize R:Value.pointer a=pv at m;cases m with
         |aP r l O=>
          cases R;rw[g _ _ J];refine .same H h (.jX z fun B n=> ?_);rw[j]at n;cases n;refine⟨u,fun _=>⟨none,W,s,?_⟩⟩;have:=O.drop off;rw[ao,an,an]at this;refine .aP r l ?_;simp only[b8]at this⊢;rw[show(A.elems[Z]?.getD default).cells.length - (U+off)=(A.elems[Z]?.getD default).cells.length - U - off by omega];exact this
       ·exact h.elim
     | _=>simp[mM]at h
    ·exact h.elim
   ·cases c
  ·cases c
 ·cases c
end
section
variable {C:Ctx}{X:Nat->Prop}{w:World}{M:Mem}{E:Emb}{K:PV->Mem->Prop}{KP:DV->Mem->Prop}{O:Nat->Prop}
variable{P:Program}{op:BinOp}{k:IntKind}
def aaJ {a b:Int}{t:TypeId}{K:DV->Prop}(h:mD op k a b K)(w:World):∃d v,(binOp op t (.int k a) (.int k b)).run P w= .ok v w/\K d/\∀O,bK w O v d:=by
 cases op<;>simp only[mD]at h
 case add=>exact⟨_,_,by simp[binOp,Op.intArith],h,fun O=> .int _ _⟩
 case sub=>exact⟨_,_,by simp[binOp,Op.intArith],h,fun O=> .int _ _⟩
 case mul=>exact⟨_,_,by simp[binOp,Op.intArith],h,fun O=> .int _ _⟩
 case quo=>exact⟨_,_,by simp[binOp,Op.intDiv,h.1],h.2,fun O=> .int _ _⟩
 case rem=>exact⟨_,_,by simp[binOp,Op.intDiv,h.1],h.2,fun O=> .int _ _⟩
 case eql=>exact⟨_,_,by simp[binOp,Op.intCmp],h,fun O=> .bool _⟩
 case neq=>exact⟨_,_,by simp[binOp,Op.intCmp],h,fun O=> .bool _⟩
 case lss=>exact⟨_,_,by simp[binOp,Op.intCmp],h,fun O=> .bool _⟩
 case leq=>exact⟨_,_,by simp[binOp,Op.intCmp],h,fun O=> .bool _⟩
 case gtr=>exact⟨_,_,by simp[binOp,Op.intCmp],h,fun O=> .bool _⟩
 case geq=>exact⟨_,_,by simp[binOp,Op.intCmp],h,fun O=> .bool _⟩
 case and=>exact⟨_,_,by simp[binOp,Op.intBits],h,fun O=> .int _ _⟩
 case or=>exact⟨_,_,by simp[binOp,Op.intBits],h,fun O=> .int _ _⟩
 case xor=>exact⟨_,_,by simp[binOp,Op.intBits],h,fun O=> .int _ _⟩
 case andNot=>exact⟨_,_,by simp[binOp,Op.intBits],h,fun O=> .int _ _⟩
def aaL {a b:ByteArray}{t:TypeId}{K:DV->Prop}(h:CS op a b K)(w:World):∃d v,(binOp op t (.string a) (.string b)).run P w= .ok v w/\K d/\∀O,bK w O v d:=by
 cases op<;>simp only[CS]at h
 case add=>
  have h2:¬((9223372036854775807:Int)<(a.size:Int)+(b.size:Int)):=by omega
  exact⟨_, .string (a++b),by simp[binOp,Op.stringOp,IntKind.max,IntKind.signed,IntKind.bits];omega,h.2,fun O=> .str _⟩
 case eql=>exact⟨_,_,by simp[binOp,Op.stringOp],h,fun O=> .bool _⟩
 case neq=>exact⟨_,_,by simp[binOp,Op.stringOp],h,fun O=> .bool _⟩
variable{a b:Bool}
def run_equalIn_bool {t:TypeId}(c:P.underlying t=some .bool)(w:World)(d:Nat):(Op.equalIn (d+1) t (.bool a) (.bool b)).run P w= .ok (a==b) w:=by
 simp only[Op.equalIn,Sem.run_bind,run_underlying c,Result.andThen_ok,Sem.run_pure]
def Yh {t:TypeId}(d:P.underlying t=some .bool)(w:World):
  (binOp .eql t (.bool a) (.bool b)).run P w= .ok (.bool (a==b)) w/\(binOp .neq t (.bool a) (.bool b)).run P w= .ok (.bool (!(a==b))) w:=by
 have c:(Op.equal t (.bool a) (.bool b)).run P w= .ok (a==b) w:=run_equalIn_bool d w 9999;constructor<;>simp[binOp,c]
variable{x y:Operand}
def uj {t:TypeId}{a b:Value}(h:(∃k m,a= .int k m)\/(∃s,a= .string s)\/∃c,a= .bool c)(w:World):(eqGuard op t x y a b).run P w= .ok () w:=by
 unfold eqGuard
 rcases h with⟨k,m,rfl⟩|⟨s,rfl⟩|⟨c,rfl⟩<;>simp<;>split<;>simp
variable{ρ:Operand->Value}{o:Oper}
def agY {g:BinOp}{t u:TypeId}(ho:o.op= .binOp op t x y u){args:List PV}(A:Sim C X w M E)(m:aQ w (away X M E) M E ((opsOf o.op).map ρ) args)
  (c:aN C.P (.binOp op t x y u) (.bin g)=true){base:Nat}(h:au C base (.bin g) args M K KP):fB C X w M E K KP ((execOp ρ o).run C.P w):=by
 simp only[aN,F,decide_eq_true_eq]at c;obtain⟨rfl,G⟩:=c;simp only[ho,opsOf,S,V]at m;simp only[au]at h
 split at h
 ·rename_i p q
  obtain⟨v,H,n,r,e⟩:=dZ m;simp only[List.cons.injEq,and_true]at n;obtain⟨rfl,rfl⟩:=n;have b:∀{d:DV} {v:Value},K (.d d) M->(∀O,bK w O v d)->(eqGuard op t x y (ρ x) (ρ y)).run C.P w= .ok () w->(binOp op t (ρ x) (ρ y)).run C.P w= .ok v w->fB C X w M E K KP ((execOp ρ o).run C.P w):=by
   intro d v s z D B;have f:(execOp ρ o).run C.P w= .ok (.value v) w:=by simp[execOp,ho,D,B]
   rw[f];exact .same A s (.d (z _))
  unfold OM at h
  split at h
  ·obtain⟨rfl,h⟩:=h
   have a:=r.toD.fO;have i:=e.toD.fO;obtain⟨d,v,j,k,l⟩:=aaJ (P:=C.P) (t:=t) h w;exact b k l (uj (.inl ⟨_,_,a⟩) w) (by rw[a,i];exact j)
  ·have a:=r.toD.rM
   have i:=e.toD.rM;obtain⟨d,v,j,k,l⟩:=aaL (P:=C.P) (t:=t) h w;exact b k l (uj (.inr (.inl ⟨_,a⟩)) w) (by rw[a,i];exact j)
  ·exact h.elim
 ·exact h.elim
def aeo {neq:Bool}{t u:TypeId}(ho:o.op= .binOp op t x y u){args:List PV}(q:Sim C X w M E)(m:aQ w (away X M E) M E ((opsOf o.op).map ρ) args)
  (e:aN C.P (.binOp op t x y u) (.Yg neq)=true){base:Nat}(h:au C base (.Yg neq) args M K KP):fB C X w M E K KP ((execOp ρ o).run C.P w):=by
 simp only[aN,F]at e;obtain⟨c,g⟩:=e
 split at g
 ·rename_i k
  simp only[ho,opsOf,S,V]at m;simp only[au]at h
  split at h
  ·rename_i a b
   obtain⟨v,s,n,r,j⟩:=dZ m;simp only[List.cons.injEq,and_true]at n;obtain⟨rfl,rfl⟩:=n;have i:=r.toD.nT;have l:=j.toD.nT;obtain⟨b1,b2⟩:=Yh (P:=C.P) (a:=a) (b:=b) k w;have p:=uj (P:=C.P) (op:=op) (t:=t) (x:=x) (y:=y) (b:=ρ y) (.inr (.inr ⟨_,i⟩)) w;have f:(execOp ρ o).run C.P w= .ok (.value (.bool ((a==b) !=neq))) w:=by
    cases op<;>simp only[bR,Bool.false_eq_true]at c
    ·subst c
     simp only[execOp,ho,Sem.run_bind,p,Result.andThen_ok];rw[i,l,b1];simp
    ·subst c
     simp only[execOp,ho,Sem.run_bind,p,Result.andThen_ok];rw[i,l,b2];simp
   rw[f];exact .same q h (.d (.bool _))
  ·exact h.elim
 ·cases g
def akp {op e:UnOp}{t:TypeId}(ho:o.op= .unOp op t x){args:List PV}(i:Sim C X w M E)(g:aQ w (away X M E) M E ((opsOf o.op).map ρ) args)
  (c:aN C.P (.unOp op t x) (.un e)=true){base:Nat}(h:au C base (.un e) args M K KP):fB C X w M E K KP ((execOp ρ o).run C.P w):=by
 simp only[aN,decide_eq_true_eq]at c;subst c;simp only[ho,opsOf,S,V]at g;simp only[au]at h
 split at h
 ·obtain⟨v,j,l⟩:=fJ g
  simp only[List.cons.injEq,and_true]at j;subst j;unfold aat at h
  split at h
  ·rename_i k n
   have f:=l.toD.fO;have a:(execOp ρ o).run C.P w= .ok (.value (.int k (k.wrap (0 - n)))) w:=by simp[execOp,ho,f,Op.unary,Op.intArith]
   rw[a];exact .same i h (.d (.int _ _))
  ·rename_i b
   have f:=l.toD.nT;have a:(execOp ρ o).run C.P w= .ok (.value (.bool !b)) w:=by simp[execOp,ho,f,Op.unary]
   rw[a];exact .same i h (.d (.bool _))
  ·exact h.elim
 ·exact h.elim
def aep {s d:TypeId}(ho:o.op= .convert s d x){args:List PV}(m:Sim C X w M E)(g:aQ w (away X M E) M E ((opsOf o.op).map ρ) args)
  (b:aN C.P (.convert s d x) (.conv k)=true){base:Nat}(h:au C base (.conv k) args M K KP):fB C X w M E K KP ((execOp ρ o).run C.P w):=by
 simp only[aN,F]at b;obtain⟨j,hd⟩:=b
 split at j
 ·rename_i q f
  split at hd
  ·rename_i e a
   simp only[decide_eq_true_eq]at hd;subst hd;simp only[ho,opsOf,S,V]at g;simp only[au]at h
   split at h
   ·obtain⟨v,i,p⟩:=fJ g
    simp only[List.cons.injEq,and_true]at i;subst i
    rename_i r n
    have l:=p.toD.fO;have c:(execOp ρ o).run C.P w= .ok (.value (.int e (e.wrap n))) w:=by simp[execOp,ho,l,convert,run_underlying f,run_underlying a,Conv.intToInt]
    rw[c];exact .same m h (.d (.int _ _))
   ·exact h.elim
  ·cases hd
 ·cases j
def ag5 {t k:TypeId}(ho:o.op= .makeInterface t x){args:List PV}(i:Sim C X w M E)(g:aQ w (away X M E) M E ((opsOf o.op).map ρ) args)
  (a:aN C.P (.makeInterface t x) (.mkI k)=true){base:Nat}(h:au C base (.mkI k) args M K KP):fB C X w M E K KP ((execOp ρ o).run C.P w):=by
 simp only[aN,F,decide_eq_true_eq]at a;obtain⟨rfl,hd⟩:=a;simp only[ho,opsOf,S,V]at g;simp only[au]at h
 split at h
 ·rename_i p
  obtain⟨v,j,m⟩:=fJ g;simp only[List.cons.injEq,and_true]at j;subst j
  split at h
  ·rename_i d e
   have b:(execOp ρ o).run C.P w= .ok (.value (.iface t (ρ x))) w:=by
    split at hd
    ·cases hd
    ·rename_i l c f
     have:=run_underlying (w:=w) f;cases l<;>first|(exact absurd rfl (c _))|simp[execOp,ho,Instr.makeInterface,this]
    ·cases hd
   rw[b];exact⟨_,_,_,h,mP i [p],mX [p] w, .d (.iface (jB i m e (by simp)))⟩
  ·exact h.elim
 ·exact h.elim
def Oa (ρ:Operand->Value)(a b:Array Operand):((a.toList++b.toList).map ρ).take a.size=(a.map ρ).toList/\((a.toList++b.toList).map ρ).drop a.size=(b.map ρ).toList:=by
 constructor<;>simp
def ag4 {fn a:Fn}{nf:Nat}{first captured:Array Operand}(ho:o.op= .makeFunc fn first captured){args:List PV}(k:Sim C X w M E)(e:aQ w (away X M E) M E ((opsOf o.op).map ρ) args)
  (b:aN C.P (.makeFunc fn first captured) (.mkF a nf)=true){base:Nat}(h:au C base (.mkF a nf) args M K KP):fB C X w M E K KP ((execOp ρ o).run C.P w):=by
 simp only[aN,F,decide_eq_true_eq,beq_iff_eq]at b;obtain⟨rfl,rfl⟩:=b;simp only[ho,opsOf]at e;have c:(execOp ρ o).run C.P w= .ok (.value (.func fn (first.map ρ) (captured.map ρ))) w:=by simp[execOp,ho,Instr.makeFunc]
 rw[c];obtain⟨g,i⟩:=Oa ρ first captured;simp only[au]at h
 split at h
 ·rename_i ds f
  have j:=e.gV f;refine .same k h (.d (.func ?_ ?_))
  ·rw[<-g];exact j.take _
  ·rw[<-i];exact j.drop _
 ·refine .same k h (.func ?_ ?_)
  ·rw[<-g];exact e.take _
  ·rw[<-i];exact e.drop _
variable{agg:Bool}
def aju {t:TypeId}{n off:Nat}{cs:Array Value}(h:xw P t agg n=true)(hl:off+n<=cs.size)(w:World):
  (part t cs off).run P w= .ok (bif agg then .agg ((cs.toList.drop off).take n).toArray else cs.toList.getD off undef) w:=by
 obtain⟨h1,h2,b⟩:=zC h w;cases agg with
 |true=>
  simp only[part,Sem.run_bind,h1,Result.andThen_ok,if_true,h2 rfl,Sem.run_pure,cond_true]
  congr 2
  apply cg;simp
 |false=>
  have:=b rfl;subst this;have a:off<cs.size:=by omega
  simp[part,h1,a,be]
def ZE {t:TypeId}{n off:Nat}{vs:Array Value}{cs:List PV}(h:xw P t agg n=true)(b:aQ w O M E vs.toList cs)(i:off+n<=cs.length):
  ∃v,(part t vs off).run P w= .ok v w/\Rep w O M E v (ld agg n off cs):=by
 have e:=b.length;simp only[ab]at e;have d:=(zC h w).2.2;refine⟨_,aju h (by omega) w,?_⟩;cases agg with
 |true=>exact Rep.zX ((b.drop off).take n)
 |false=>
  have f:=d rfl;have a:off<cs.length:=by omega
  obtain⟨v,g,c⟩:=b.get' off cs[off] (W a);simp only[cond_false,ld];rw[getD_eq a,be,g];exact c
def QI {v:Value}{p:PV}(h:Rep w O M E v p)(a:p.isAgg=true):∃vs,v= .agg vs/\aQ w O M E vs.toList p.cells:=by
 cases h with
 |d hd=>
  cases hd with
  |agg hh=>exact⟨_,rfl,aQ.ofD hh⟩
  | _=>cases a
 |agg hh=>exact⟨_,rfl,hh⟩
 | _=>cases a
def aes {t:TypeId}{f off n:Nat}(ho:o.op= .field t x f){args:List PV}(p:Sim C X w M E)(g:aQ w (away X M E) M E ((opsOf o.op).map ρ) args)
  (a:aN C.P (.field t x f) (.Qh agg off n)=true){base:Nat}(h:au C base (.Qh agg off n) args M K KP):fB C X w M E K KP ((execOp ρ o).run C.P w):=by
 simp only[aN]at a
 split at a
 ·rename_i fs e
  split at a
  ·rename_i s d
   simp only[F,beq_iff_eq]at a;obtain⟨rfl,a⟩:=a;simp only[ho,opsOf,S,V]at g;simp only[au]at h
   split at h
   ·obtain⟨v,i,q⟩:=fJ g
    simp only[List.cons.injEq,and_true]at i;subst i;obtain⟨l,h1,m⟩:=h;obtain⟨vs,r,c⟩:=QI q l;obtain⟨u,j,k⟩:=ZE a c h1;have b:(execOp ρ o).run C.P w= .ok (.value u) w:=by simp[execOp,ho,r,Instr.field,run_underlying e,d,asAgg,j]
    rw[b];exact .same p m k
   ·exact h.elim
  ·cases a
 ·cases a
variable{i:Operand}{sz:Nat}
def aew {t:TypeId}{len:Nat}(ho:o.op= .index t x i){args:List PV}(D:Sim C X w M E)(l:aQ w (away X M E) M E ((opsOf o.op).map ρ) args)
  (a:aN C.P (.index t x i) (.Qj agg sz len)=true){base:Nat}(h:au C base (.Qj agg sz len) args M K KP):fB C X w M E K KP ((execOp ρ o).run C.P w):=by
 simp only[aN]at a
 split at a
 ·rename_i n e j
  simp only[F,beq_iff_eq]at a;obtain⟨⟨rfl,b⟩,c⟩:=a
  split at b
  ·rename_i I jT
   simp only[beq_iff_eq]at b;simp only[ho,opsOf,S,V]at l;simp only[au]at h
   split at h
   ·rename_i p k m
    obtain⟨v,u,q,G,g⟩:=dZ l;simp only[List.cons.injEq,and_true]at q;obtain⟨rfl,rfl⟩:=q;obtain⟨z,h1,h2,A,B⟩:=h;obtain⟨vs,H,f⟩:=QI G z;obtain⟨u,s,y⟩:=ZE c f A;have r:=g.toD.fO;have d:(execOp ρ o).run C.P w= .ok (.value u) w:=by
     simp[execOp,ho,H,r,Instr.index,asIntOf,run_underlying j,h1,h2,run_sizeOf jT,b,s]
    rw[d];exact .same D B y
   ·exact h.elim
  ·cases b
 ·cases a
def aev {t:TypeId}(ho:o.op= .index t x i){args:List PV}(q:Sim C X w M E)(f:aQ w (away X M E) M E ((opsOf o.op).map ρ) args)
  (a:aN C.P (.index t x i) .WQ=true){base:Nat}(h:au C base .WQ args M K KP):fB C X w M E K KP ((execOp ρ o).run C.P w):=by
 simp only[aN]at a
 split at a
 ·rename_i e
  simp only[ho,opsOf,S,V]at f;simp only[au]at h
  split at h
  ·rename_i s k m
   obtain⟨v,u,g,y,c⟩:=dZ f;simp only[List.cons.injEq,and_true]at g;obtain⟨rfl,rfl⟩:=g;obtain⟨h1,h2,p⟩:=h;have j:=y.toD.rM;have l:=c.toD.fO;have b:(execOp ρ o).run C.P w= .ok (.value (.int .u8 (s.data.getD m.toNat 0).toNat)) w:=by
    have n:m.toNat<s.data.size:=h2;have r:s[m.toNat]?=some (s.data.getD m.toNat 0):=by
     rw[getElem?_pos s m.toNat h2]
     congr 1
     show s.data[m.toNat]=s.data.getD m.toNat 0
     simp[Array.getD];intro hh;exact absurd h2 (by omega)
    simp only[execOp,ho,j,l,Instr.index,asIntOf,pure_bind,Sem.run_bind,run_underlying e,Result.andThen_ok,h1,if_true,r,Sem.run_pure]
   rw[b];exact .same q p (.d (.int _ _))
  ·exact h.elim
 ·cases a
def aeu {t:TypeId}(ho:o.op= .indexAddr t x i){args:List PV}(hS:Sim C X w M E)(hA:aQ w (away X M E) M E ((opsOf o.op).map ρ) args)
  (c:aN C.P (.indexAddr t x i) (.bH sz)=true){base:Nat}(h:au C base (.bH sz) args M K KP):fB C X w M E K KP ((execOp ρ o).run C.P w):=by
 simp only[aN]at c
 split at c
 ·rename_i e av
  split at c
  ·rename_i aM jT
   simp only[F,beq_iff_eq,decide_eq_true_eq]at c;obtain⟨aq,aE⟩:=c;have g:∀blk p len cap k m,ρ x= .slice (some ⟨blk,p,none⟩) len cap->ρ i= .int k m->0<=m->m.toNat<len->(execOp ρ o).run C.P w= .ok (.value (.pointer (some ⟨blk,p+m.toNat*sz,none⟩))) w:=by
    intro blk p len cap k m h1 h2 n H;have r:m<(len:Int):=by omega
    simp[execOp,ho,h1,h2,Instr.indexAt,asIntOf,run_underlying av,n,r,run_sizeOf jT,aq,Addr.add_lit]
   simp only[ho,opsOf,S,V]at hA;simp only[au]at h
   split at h
   ·rename_i p q
    obtain⟨v,u,he,hr,U⟩:=dZ hA;simp only[List.cons.injEq,and_true]at he;obtain⟨rfl,rfl⟩:=he;unfold uT at h
    split at h
    ·rename_i ex xs k m
     obtain⟨h1,h2,n,J⟩:=h;have e2:=U.toD.fO;rw[getD_eq h2]at n J;have hd:=hr.toD;generalize hv:ρ x=v at hd;cases hd with
     |empty=>simp at h2
     |slice hb D hl Z hc hx hh=>
      rename_i blk off len cap b cs T fz
      have j:b=sz:=by rw[<-Z _ (am h2),n]
      subst j;rw[g _ _ _ _ _ _ hv e2 h1 (by omega)];refine .same hS J (.d (.aP hb D ?_));have z:m.toNat*b+b<=xs.length*b:=by rw[<-a7];exact ap _ h2
      have H:=(hh.drop (m.toNat*b)).take b;rw[flat_get Z h2,ao,an,ax]at H;rw[n];rw[hl]at z;rw[bA (by omega)]at H;exact H
    ·rename_i k ver skip kk m
     split at h
     ·rename_i A Y
      obtain⟨h0,h1,h2,J⟩:=h;obtain⟨l,Kq⟩:=uS Y;have e2:=U.toD.fO;generalize hv:ρ x=v at hr;cases hr with
      |tsl R hh=>
       rename_i len cap a
       obtain⟨O,ae⟩:=hh A l;obtain⟨aw,n,H,r⟩:=ae Kq;have hi:skip+m.toNat<A.elems.length:=h2;cases aw with
       |some q=>
        obtain⟨blk,o1,e1⟩:=q;simp only at r
        rcases r with⟨G,ab,hc,aD⟩|⟨hn,_⟩
        ·cases ab
         rw[g _ _ _ _ _ _ hv e2 h1 (by omega)];refine .same hS J (.jX R fun B I=> ?_);rw[l]at I;cases I;exact⟨O,fun _=>⟨_,n,hi,by simp only[Value.pointer.injEq,Option.some.injEq,Addr.mk.injEq,true_and,and_true];rw[h0,az];omega⟩⟩
        ·omega
       |none=>
        simp only at r;generalize L:A.elems.drop skip=ds at r;have Q:ds.length=A.elems.length - skip:=by rw[<-L];simp
        generalize ai:Value.slice a len cap=pv at r;cases r with
        |empty=>simp at Q;omega
        |slice hb D hl Z hc hx ac=>
         rename_i blk off aL G b cs T fz
         cases ai;have f:m.toNat<ds.length:=by omega
         have N:ds[m.toNat]=A.elems[skip+m.toNat]:=by subst L;simp
         have s:=(hS.arr k A l).2.1 _ (am hi);have j:b=sz:=by
          have:=Z _ (am f);rw[N,DV.dK s]at this;omega
         subst j;rw[g _ _ _ _ _ _ hv e2 h1 (by omega)];refine .same hS J (.jX R fun B I=> ?_);rw[l]at I;cases I;refine⟨O,fun _=>⟨none,n,hi,?_⟩⟩;simp only[ch,W hi,bt];refine .aP hb D ?_;have z:m.toNat*b+b<=ds.length*b:=by rw[<-a7];exact ap _ f
         have y:=(ac.drop (m.toNat*b)).take b;rw[flat_get Z f,ao,an,ax,N]at y;rw[DV.dK s,h0];rw[hl]at z;rw[bA (by omega)]at y;exact y
     ·exact h.elim
    ·exact h.elim
   ·exact h.elim
  ·cases c
 ·cases c
end
end Go.Am
