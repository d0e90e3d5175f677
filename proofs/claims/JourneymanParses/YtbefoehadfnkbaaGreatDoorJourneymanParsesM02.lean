/-
  Part 2 of the proof of a law of desks: an abstract machine over the model, contracts of functions, plain laws.
  Conditions: none.
-/
import Derived.Test.YtbefoehadfnkbaaGreatDoorJourneymanParsesM01
set_option linter.all false
namespace Go.Am
theorem mJ (x:DV)(xs:List DV):flat (x::xs)=x.cells++flat xs:=by simp[flat]
theorem zV (xs ys:List DV):flat (xs++ys)=flat xs++flat ys:=by simp[flat]
theorem flat_length {sz:Nat}:∀{xs:List DV},(∀x∈xs,x.cells.length=sz)→(flat xs).length=xs.length*sz
 | [],_=>by simp[flat]
 |x::xs,h=>by
  rw[mJ,List.length_append,h x (by simp),flat_length (fun y hy=>h y (by simp[hy])),List.length_cons,Nat.add_mul,Nat.one_mul,Nat.add_comm]
theorem DV.cu {sz:Nat}{x:DV}(h:x.fits sz=true):x.cells.length=sz:=by simp[DV.fits]at h;exact h.1
theorem DV.Qs {sz:Nat}{x:DV}(h:x.fits sz=true):∀c∈x.cells,c.one=true:=by simp[DV.fits]at h;exact h.2
theorem Dl {sz:Nat}:∀{xs:List DV} (_:∀x∈xs,x.cells.length=sz) (n:Nat),(flat xs).drop (n*sz)=flat (xs.drop n)
 |xs,_,0=>by simp
 | [],_,n+1=>by simp[flat]
 |x::xs,h,n+1=>by
  rw[mJ,Nat.add_mul,Nat.one_mul,Nat.add_comm,List.drop_append,List.drop_eq_nil_of_le (by rw[h x (by simp)];omega),List.nil_append,h x (by simp),Nat.add_sub_cancel_left,List.drop_succ_cons]
  exact Dl (fun y hy=>h y (by simp[hy])) n
theorem GX {sz:Nat}:∀{xs:List DV} (_:∀x∈xs,x.cells.length=sz) (n:Nat),(flat xs).take (n*sz)=flat (xs.take n)
 |xs,_,0=>by simp[flat]
 | [],_,n+1=>by simp[flat]
 |x::xs,h,n+1=>by
  rw[mJ,Nat.add_mul,Nat.one_mul,Nat.add_comm,List.take_append,List.take_of_length_le (by rw[h x (by simp)];omega),h x (by simp),Nat.add_sub_cancel_left,List.take_succ_cons,mJ]
  rw[GX (fun y hy=>h y (by simp[hy])) n]
theorem flat_get {sz:Nat}{xs:List DV}(h:∀x∈xs,x.cells.length=sz){i:Nat}(hi:i<xs.length):((flat xs).drop (i*sz)).take sz=xs[i].cells:=by
 rw[Dl h,List.drop_eq_getElem_cons hi,mJ,List.take_append,List.take_of_length_le (by rw[h _ (List.getElem_mem hi)];omega),h _ (List.getElem_mem hi)]
 simp
theorem getD_eq {α:Type}{xs:List α}{i:Nat}(hi:i<xs.length)(d:α):xs.getD i d=xs[i]:=by simp[List.getD,List.getElem?_eq_getElem hi]
section
variable {C:Ctx}{X:Nat→Prop}{w w':World}{M M':Mem}{E E':Emb}
theorem Sim.KH (h:Sim C X w M E){b blk:Nat}{cs:List PV}(hb:M.boxes[b]?=some (some cs))(he:E.bx[b]?=some blk):blk<w.heap.size:=by
 obtain⟨blk',h1,_,h3⟩:=h.box b cs hb
 rw[he]at h1;cases h1
 obtain⟨o,h3⟩:=h3.obj
 exact bT h3
theorem Sim.cells (h:Sim C X w M E){b:Nat}{cs:List PV}(hb:M.boxes[b]?=some (some cs))(ho:isObj cs=false):∃(blk:Nat) (vs:Array Value) (T:TypeId),E.bx[b]?=some blk∧¬X blk∧w.heap[blk]?=some (.cells vs T (0,0))∧aK w (away X M E) M E vs.toList cs:=by
 obtain⟨blk,h1,h2,h3⟩:=h.box b cs hb
 rw[pI.plain ho]at h3
 obtain⟨vs,T,h3,h4⟩:=h3
 exact⟨blk,vs,T,h1,h2,h3,h4⟩
theorem pI.from {blk:Nat}{cs:List PV}(h:pI w (away X M E) M E blk cs)(hf:From w M E w' M' E')(hb:∀o,w.heap[blk]?=some o→w'.heap[blk]?=some o):pI w' (away X M' E') M' E' blk cs:=
 h.move hb hf.mono fun _ _ _ hr=>hr.from hf
theorem Sim.Iz (h:Sim C X w M E){k blk o e:Nat}{A:Arr}(hk:M.aA[k]?=some (some A))(he:E.ar[k]?=some (some (blk,o,e))):blk<w.heap.size:=by
 obtain⟨_,vs,T,h3,_⟩:=(h.arr k A hk).2.2.2 blk o e he
 exact bT h3
theorem Sim.Xq (h:Sim C X w M E){b:Nat}(ho:owned M E b):b<w.heap.size:=by
 rcases ho with⟨i,cs,h1,_,h2⟩|⟨k,A,o,e,h1,_,h2⟩
 ·exact h.KH h1 h2
 ·exact h.Iz h1 h2
theorem Sim.CV (h:Sim C X w M E){b:Nat}(ho:away X M E b):b<w.heap.size:=ho.elim (h.xlt b) h.Xq
structure Later (w w':World):Prop where
 os:w'.os=w.os
 tape:w'.tape=w.tape
 output:w'.output=w.output
 size:w.heap.size≤w'.heap.size
 keep:∀b,b<w.heap.size→w'.heap[b]?=w.heap[b]?
theorem Later.refl (w:World):Later w w:=⟨rfl,rfl,rfl,Nat.le_refl _,fun _ _=>rfl⟩
theorem Later.trans {w w' w'':World}(h:Later w w')(h':Later w' w''):Later w w'':=
 ⟨h'.os.trans h.os,h'.tape.trans h.tape,h'.output.trans h.output,Nat.le_trans h.size h'.size,fun b hb=>(h'.keep b (Nat.lt_of_lt_of_le hb h.size)).trans (h.keep b hb)⟩
theorem Later.alloc (w:World)(o:Obj):Later w (w.alloc o):=⟨rfl,rfl,rfl,by simp,fun b hb=>RowKit.Below.heap_alloc w o b hb⟩
theorem Later.drew (w:World):Later w w.drew:=⟨rfl,rfl,rfl,Nat.le_refl _,fun _ _=>rfl⟩
theorem Later.jC {w w':World}(h:Later w w'){b:Nat}{o:Obj}(hb:w.heap[b]?=some o):w'.heap[b]?=some o:=(h.keep b (bT hb)).trans hb
theorem Later.from (hl:Later w w')(M:Mem)(E:Emb):From w M E w' M E:=
 ⟨hl.os,hl.tape,hl.output,hl.size,fun _ _ _ ho=>hl.jC ho,fun _ h=> .inl h,Nat.le_refl _,fun _ cs h=>⟨rfl,cs,h,rfl⟩,Nat.le_refl _,fun _ A' _ h=>⟨A',h,Nat.le_refl _,fun _=>⟨rfl,rfl,rfl,fun _=>rfl⟩⟩⟩
theorem Sim.later (h:Sim C X w M E)(hl:Later w w'):Sim C X w' M E:={
 glob:=C.keeps w w' h.glob fun b hb=>hl.keep b (h.xlt b (h.iE b hb))
 iE:=h.iE
 xlt:=fun b hb=>Nat.lt_of_lt_of_le (h.xlt b hb) hl.size
 ig:=h.ig
 aY:=h.aY
 box:=fun b cs hb=>by
  obtain⟨blk,h1,h2,h3⟩:=h.box b cs hb
  exact⟨blk,h1,h2,h3.from (hl.from M E) fun _ ho=>hl.jC ho⟩
 arr:=fun k A hA=>by
  obtain⟨h1,h2,h3,h4⟩:=h.arr k A hA
  refine⟨h1,h2,h3,fun blk o e he=> ?_⟩
  obtain⟨g1,vs,T,g2,g3,g4,g5⟩:=h4 blk o e he
  exact⟨g1,vs,T,hl.jC g2,g3,g4,g5.from (hl.from M E)⟩
 bb:=h.bb
 aa:=h.aa
 ba:=h.ba}
theorem aH {α:Type}{l:List α}{i j:Nat}{x y:α}(h:(l.set i x)[j]?=some y):(j=i∧y=x)∨(j≠i∧l[j]?=some y):=by
 rw[List.getElem?_set]at h
 split at h
 ·rename_i e;subst e
  split at h
  ·simp at h;exact .inl ⟨rfl,h.symm⟩
  ·cases h
 ·rename_i e;exact .inr ⟨fun h=>e h.symm,h⟩
theorem ZG {id:Nat}{vs:Array Value}{T:TypeId}{cs:List PV}(h:Sim C X w M E)(hid:M.boxes[id]?=some none)(hr:aK w (away X M E) M E vs.toList cs):
  Sim C X (w.alloc (.cells vs T)) {M with boxes:=M.boxes.set id (some cs)} {E with bx:=E.bx.set id w.heap.size}∧
  From w M E (w.alloc (.cells vs T)) {M with boxes:=M.boxes.set id (some cs)} {E with bx:=E.bx.set id w.heap.size}∧
  Rep (w.alloc (.cells vs T)) (away X {M with boxes:=M.boxes.set id (some cs)} {E with bx:=E.bx.set id w.heap.size}) {M with boxes:=M.boxes.set id (some cs)} {E with bx:=E.bx.set id w.heap.size}
   (.pointer (some ⟨w.heap.size,0,none⟩)) (.ptr id 0):=by
 have hlt:id<M.boxes.length:=(List.getElem?_eq_some_iff.1 hid).1
 have aak:id<E.bx.length:=h.ig▸hlt
 have hbx:∀b,b≠id→(E.bx.set id w.heap.size)[b]?=E.bx[b]?:=fun b hb=>by rw[List.getElem?_set];simp[Ne.symm hb]
 have hbi:(E.bx.set id w.heap.size)[id]?=some w.heap.size:=by simp[aak]
 have hf:From w M E (w.alloc (.cells vs T)) {M with boxes:=M.boxes.set id (some cs)} {E with bx:=E.bx.set id w.heap.size}:=
  {os:=rfl,tape:=rfl,output:=rfl,size:=by simp
   keep:=fun b o _ ho=>(Later.alloc w _).jC ho
   own:=by
    rintro b (⟨i,cs',h1,h2,h3⟩|⟨k,A,o,e,h1,h2,h3⟩)
    ·rcases aH h1 with⟨rfl,_⟩|⟨hne,h1'⟩
     ·rw[hbi]at h3;cases h3;exact .inr (Nat.le_refl _)
     ·rw[hbx i hne]at h3;exact .inl (.inl ⟨i,cs',h1',h2,h3⟩)
    ·exact .inl (.inr ⟨k,A,o,e,h1,h2,h3⟩)
   ig:=by simp
   bx:=fun b cs' hb=>by
    have hne:b≠id:=by rintro rfl;rw[hid]at hb;cases hb
    exact⟨hbx b hne,cs',by rw[List.getElem?_set];simp[Ne.symm hne,hb],rfl⟩
   aY:=Nat.le_refl _
   ar:=fun _ A' _ h=>⟨A',h,Nat.le_refl _,fun _=>⟨rfl,rfl,rfl,fun _=>rfl⟩⟩}
 refine⟨?_,hf, .ptr (cs:=cs) (by simp[hlt]) hbi hr.Tc⟩
 exact
  {glob:=C.keeps w _ h.glob fun b hb=>(Later.alloc w _).keep b (h.xlt b (h.iE b hb)),iE:=h.iE
   xlt:=fun b hb=>by have:=h.xlt b hb;simp;omega
   ig:=by simp[h.ig]
   aY:=h.aY
   box:=fun b cs' hb=>by
    rcases aH hb with⟨rfl,hcs⟩|⟨hne,hb'⟩
    ·cases hcs
     exact⟨w.heap.size,hbi,fun hx=>absurd (h.xlt _ hx) (by omega), .mk (heap_alloc_new w _) (hr.from hf)⟩
    ·obtain⟨blk,h1,h2,h3⟩:=h.box b cs' hb'
     exact⟨blk,(hbx b hne).trans h1,h2,h3.from hf fun _ ho=>(Later.alloc w _).jC ho⟩
   arr:=fun k A hA=>by
    obtain⟨h1,h2,h3,h4⟩:=h.arr k A hA
    refine⟨h1,h2,h3,fun blk o e he=> ?_⟩
    obtain⟨g1,vs,T,g2,g3,g4,g5⟩:=h4 blk o e he
    exact⟨g1,vs,T,(Later.alloc w _).jC g2,g3,g4,g5.from hf⟩
   bb:=fun b b' cs1 cs2 blk h1 h2 h3 h4=>by
    rcases aH h1 with⟨rfl,_⟩|⟨hne,h1'⟩<;>rcases aH h2 with⟨rfl,_⟩|⟨hne',h2'⟩
    ·rfl
    ·rw[hbi]at h3;cases h3;rw[hbx b' hne']at h4;exact absurd (h.KH h2' h4) (by omega)
    ·rw[hbi]at h4;cases h4;rw[hbx b hne]at h3;exact absurd (h.KH h1' h3) (by omega)
    ·rw[hbx b hne]at h3;rw[hbx b' hne']at h4;exact h.bb b b' cs1 cs2 blk h1' h2' h3 h4
   aa:=h.aa
   ba:=fun b k cs1 A blk o e h1 h2 h3 h4=>by
    rcases aH h1 with⟨rfl,_⟩|⟨hne,h1'⟩
    ·rw[hbi]at h3;cases h3;exact absurd (h.Iz h2 h4) (by omega)
    ·rw[hbx b hne]at h3;exact h.ba b k cs1 A blk o e h1' h2 h3 h4}
theorem gB {α:Type}{l:List α}{x y:α}{j:Nat}(h:(l++ [x])[j]?=some y):(j=l.length∧y=x)∨(j<l.length∧l[j]?=some y):=by
 by_cases hj:j<l.length
 ·exact .inr ⟨hj,by rw[List.getElem?_append_left hj]at h;exact h⟩
 ·rw[List.getElem?_append_right (by omega)]at h
  rcases Nat.lt_or_ge (j - l.length) 1 with hh|hh
  ·have:j=l.length:=by omega
   subst this;simp at h;exact .inl ⟨rfl,h.symm⟩
  ·rw[List.getElem?_eq_none (by simpa using hh)]at h;cases h
theorem zC {A:Arr}{loc:Option (Nat×Nat×Nat)}(h:Sim C X w M E)(hl:Later w w')(hsz:0<A.sz)(hfit:∀x∈A.elems,x.fits A.sz=true)(hst:A.st=1→loc≠none)
  (hloc:∀blk o e,loc=some (blk,o,e)→w.heap.size≤blk∧∃(vs:Array Value) (T:TM vs.size),w'.heap[blk]?=some (.cells vs T.ty T.fr)∧o+A.elems.length*A.sz≤e∧e≤vs.size∧
   aQ w (away X M E) ((vs.toList.drop o).take (A.elems.length*A.sz)) (flat A.elems)):
  Sim C X w' {M with aA:=M.aA++ [some A]} {E with ar:=E.ar++ [loc]}∧From w M E w' {M with aA:=M.aA++ [some A]} {E with ar:=E.ar++ [loc]}:=by
 have hnew:∀blk o e,loc=some (blk,o,e)→w.heap.size≤blk:=fun blk o e hh=>(hloc blk o e hh).1
 have har:∀k,k<E.ar.length→(E.ar++ [loc])[k]?=E.ar[k]?:=fun k hk=>List.getElem?_append_left hk
 have ahv:(E.ar++ [loc])[M.aA.length]?=some loc:=by rw[←h.aY];simp
 have hf:From w M E w' {M with aA:=M.aA++ [some A]} {E with ar:=E.ar++ [loc]}:=
  {os:=hl.os,tape:=hl.tape,output:=hl.output,size:=hl.size
   keep:=fun b o _ ho=>hl.jC ho
   own:=by
    rintro b (⟨i,cs',h1,h2,h3⟩|⟨k,A',o,e,h1,h2,h3⟩)
    ·exact .inl (.inl ⟨i,cs',h1,h2,h3⟩)
    ·rcases gB h1 with⟨rfl,_⟩|⟨hk,h1'⟩
     ·simp only[ahv,Option.some.injEq]at h3;exact .inr (hnew _ _ _ h3)
     ·rw[har k (by rw[h.aY];exact hk)]at h3;exact .inl (.inr ⟨k,A',o,e,h1',h2,h3⟩)
   ig:=Nat.le_refl _
   bx:=fun b cs' hb=>⟨rfl,cs',hb,rfl⟩
   aY:=by simp
   ar:=fun k A' hk hA=>by
    rcases gB hA with⟨rfl,_⟩|⟨_,hA'⟩
    ·omega
    ·exact⟨A',hA',Nat.le_refl _,fun _=>⟨har k (by rw[h.aY];exact hk),rfl,rfl,fun _=>rfl⟩⟩}
 refine⟨?_,hf⟩
 exact
  {glob:=C.keeps w w' h.glob fun b hb=>hl.keep b (h.xlt b (h.iE b hb)),iE:=h.iE
   xlt:=fun b hb=>Nat.lt_of_lt_of_le (h.xlt b hb) hl.size
   ig:=h.ig
   aY:=by simp[h.aY]
   box:=fun b cs hb=>by
    obtain⟨blk,h1,h2,h3⟩:=h.box b cs hb
    exact⟨blk,h1,h2,h3.from hf fun _ ho=>hl.jC ho⟩
   arr:=fun k A' hA=>by
    rcases gB hA with⟨rfl,he⟩|⟨hk,hA'⟩
    ·cases he
     refine⟨hsz,hfit,fun hs=> ?_,fun blk o e he=> ?_⟩
     ·cases hlc:loc with
      |none=>exact absurd hlc (hst hs)
      |some q=>exact⟨q,hlc▸ahv⟩
     ·simp only[ahv,Option.some.injEq]at he
      obtain⟨g1,vs,T,g2,g3,g4,g5⟩:=hloc blk o e he
      refine⟨fun hx=>absurd (h.xlt _ hx) (by omega),vs,T,g2,g3,g4,g5.from hf⟩
    ·obtain⟨h1,h2,h3,h4⟩:=h.arr k A' hA'
     have e1:=har k (by rw[h.aY];exact hk)
     refine⟨h1,h2,fun hs=>by rw[e1];exact h3 hs,fun blk o e he=> ?_⟩
     simp only[e1]at he
     obtain⟨g1,vs,T,g2,g3,g4,g5⟩:=h4 blk o e he
     exact⟨g1,vs,T,hl.jC g2,g3,g4,g5.from hf⟩
   bb:=h.bb
   aa:=fun k k' A1 A2 blk o e o' e' h1 h2 h3 h4=>by
    rcases gB h1 with⟨rfl,_⟩|⟨hk,h1'⟩<;>rcases gB h2 with⟨rfl,_⟩|⟨hk',h2'⟩
    ·rfl
    ·simp only[ahv,Option.some.injEq]at h3;simp only[har k' (by rw[h.aY];exact hk')]at h4
     exact absurd (h.Iz h2' h4) (by have:=hnew _ _ _ h3;omega)
    ·simp only[ahv,Option.some.injEq]at h4;simp only[har k (by rw[h.aY];exact hk)]at h3
     exact absurd (h.Iz h1' h3) (by have:=hnew _ _ _ h4;omega)
    ·simp only[har k (by rw[h.aY];exact hk)]at h3;simp only[har k' (by rw[h.aY];exact hk')]at h4
     exact h.aa k k' A1 A2 blk o e o' e' h1' h2' h3 h4
   ba:=fun b k cs1 A1 blk o e h1 h2 h3 h4=>by
    rcases gB h2 with⟨rfl,_⟩|⟨hk,h2'⟩
    ·simp only[ahv,Option.some.injEq]at h4;exact absurd (h.KH h1 h3) (by have:=hnew _ _ _ h4;omega)
    ·simp only[har k (by rw[h.aY];exact hk)]at h4;exact h.ba b k cs1 A1 blk o e h1 h2' h3 h4}
end
section
variable {w:World}{O:Nat→Prop}{M:Mem}{E:Emb}
theorem aK.length:∀{vs:List Value} {ds:List PV},aK w O M E vs ds→vs.length=ds.length
 | _,_, .nil=>rfl
 | _,_, .cons _ t=>by simp[aK.length t]
theorem aK.get':∀{vs:List Value} {ds:List PV} (_:aK w O M E vs ds) (i:Nat) (d:PV) (_:ds[i]?=some d),∃v,vs[i]?=some v∧Rep w O M E v d
 | _,_, .nil,i,d,h=>by simp at h
 | _,_, .cons h t,0,d,hd=>by simp at hd;subst hd;exact⟨_,rfl,h⟩
 | _,_, .cons h t,i+1,d,hd=>by simpa using aK.get' t i d (by simpa using hd)
theorem aK.append:∀{vs us:List Value} {ds es:List PV},aK w O M E vs ds→aK w O M E us es→aK w O M E (vs++us) (ds++es)
 | _,_,_,_, .nil,h=>h
 | _,_,_,_, .cons h t,h'=> .cons h (aK.append t h')
theorem aK.take:∀{vs:List Value} {ds:List PV} (_:aK w O M E vs ds) (n:Nat),aK w O M E (vs.take n) (ds.take n)
 | _,_,_,0=>by simpa using .nil
 | _,_, .nil,n+1=>by simpa using .nil
 | _,_, .cons h t,n+1=>by simpa using .cons h (aK.take t n)
theorem aK.drop:∀{vs:List Value} {ds:List PV} (_:aK w O M E vs ds) (n:Nat),aK w O M E (vs.drop n) (ds.drop n)
 | _,_,h,0=>by simpa using h
 | _,_, .nil,n+1=>by simpa using .nil
 | _,_, .cons h t,n+1=>by simpa using aK.drop t n
theorem aK.splice {vs us:List Value}{ds es:List PV}(h:aK w O M E vs ds)(h':aK w O M E us es)(off:Nat):aK w O M E (splice vs off us) (splice ds off es):=by
 unfold Am.splice
 rw[h'.length]
 exact((h.take off).append h').append (h.drop _)
theorem aQ.splice {vs us:List Value}{ds es:List DV}(h:aQ w O vs ds)(h':aQ w O us es)(off:Nat):aQ w O (splice vs off us) (splice ds off es):=by
 unfold Am.splice
 rw[h'.length]
 exact((h.take off).append h').append (h.drop _)
theorem aK.ofD:∀{vs:List Value} {ds:List DV},aQ w O vs ds→aK w O M E vs (ds.map .d)
 | _,_, .nil=> .nil
 | _,_, .cons h t=> .cons (.d h) (aK.ofD t)
theorem Rep.toD {v:Value}{x:DV}(h:Rep w O M E v (.d x)):bf w O v x:=by cases h;assumption
theorem aK.toL:∀{vs:List Value} {ds:List DV},aK w O M E vs (ds.map .d)→aQ w O vs ds
 | [],[], .nil=> .nil
 | _::_,_::_, .cons h t=> .cons h.toD (aK.toL t)
theorem MV:∀{ps:List PV} {ds:List DV},jd ps=some ds→ps=ds.map .d
 | [],ds,h=>by simp[jd]at h;subst h;rfl
 | .d x::l,ds,h=>by
  simp only[jd,Option.map_eq_some_iff]at h
  obtain⟨xs,h1,rfl⟩:=h
  simp[MV h1]
 | .ptr _ _::_,_,h| .jY _ _ _ _::_,_,h| .tsl _ _ _::_,_,h| .func _ _ _::_,_,h| .agg _::_,_,h| .tup _::_,_,h| .dead::_,_,h| .mref _::_,_,h| .psl _ _ _ _::_,_,h| .DN _::_,_,h| .KE _ _::_,_,h| .qY _::_,_,h| .iY _::_,_,h| .gV _::_,_,h=>by simp[jd]at h
theorem aK.jd {vs:List Value}{ps:List PV}{ds:List DV}(h:aK w O M E vs ps)(hd:jd ps=some ds):aQ w O vs ds:=by
 rw[MV hd]at h;exact h.toL
theorem Rep.cells {v:Value}{p:PV}(h:Rep w O M E v p)(hp:p≠ .dead):aK w O M E v.cells.toList p.cells:=by
 cases h with
 |d h=>cases h with
  |agg h=>exact aK.ofD h
  | _=>exact .cons (.d (by constructor<;>assumption)) .nil
 |ptr hl hb ho=>exact .cons (.ptr hl hb ho) .nil
 |mref hl hb ho=>exact .cons (.mref hl hb ho) .nil
 |qY hl hb ho=>exact .cons (.qY hl hb ho) .nil
 |DN hl hb ho=>exact .cons (.DN hl hb ho) .nil
 |jY hlt h=>exact .cons (.jY hlt h) .nil
 |tsl hlt h=>exact .cons (.tsl hlt h) .nil
 |psl hlt h=>exact .cons (.psl hlt h) .nil
 |dead=>exact absurd rfl hp
 |func hf hc=>exact .cons (.func hf hc) .nil
 |agg h=>exact h
 |tup h=>exact .cons (.tup h) .nil
end
section
variable {C:Ctx}{X:Nat→Prop}{w w':World}{M M':Mem}{E E':Emb}
structure Wrote (g:Nat) (w w':World) (vs:List Value) (T:TypeId) (mk:Nat×Nat:=(0,0)):Prop where
 os:w'.os=w.os
 tape:w'.tape=w.tape
 output:w'.output=w.output
 size:w'.heap.size=w.heap.size
 at_:w'.heap[g]?=some (.cells vs.toArray T mk)
 keep:∀b,b≠g→w'.heap[b]?=w.heap[b]?
theorem yx (w:World)(g:Nat)(cur:Array Value)(T:TypeId)(vs:List Value){mk:Nat×Nat}(hg:w.heap[g]?=some (.cells cur T mk)):Wrote g w (w.setRow g vs.toArray) vs T mk:={
 os:=rfl
 tape:=rfl
 output:=rfl
 size:=by simp
 at_:=setRow_heap w g cur vs.toArray T mk hg
 keep:=fun b hb=>by simp only[World.setRow,Array.getElem?_modify];rw[if_neg (Ne.symm hb)]}
theorem Wrote.jC {g:Nat}{vs:List Value}{T:TypeId}{mk:Nat×Nat}(h:Wrote g w w' vs T mk){b:Nat}{o:Obj}(hb:b≠g)(ho:w.heap[b]?=some o):w'.heap[b]?=some o:=(h.keep b hb).trans ho
theorem length_splice {α:Type}(cs:List α)(off:Nat)(new:List α)(h:off+new.length≤cs.length):(splice cs off new).length=cs.length:=by
 simp[splice];omega
theorem ah6 {b off blk:Nat}{cs ps:List PV}{vs:Array Value}{us:List Value}{T:TypeId}(h:Sim C X w M E)(hb:M.boxes[b]?=some (some cs))(hfz:b∉M.fz)
  (he:E.bx[b]?=some blk)(hg:w.heap[blk]?=some (.cells vs T (0,0)))(hps:aK w (away X M E) M E us ps)(hw:Wrote blk w w' (splice vs.toList off us) T):
  Sim C X w' {M with boxes:=M.boxes.set b (some (splice cs off ps))} E∧From w M E w' {M with boxes:=M.boxes.set b (some (splice cs off ps))} E:=by
 have hlt:b<M.boxes.length:=(List.getElem?_eq_some_iff.1 hb).1
 have hown:owned M E blk:= .inl ⟨b,cs,hb,hfz,he⟩
 have hX:¬X blk:=by
  obtain⟨blk',h1,h2,_⟩:=h.box b cs hb
  rw[he]at h1;cases h1;exact h2
 have hno:isObj cs=false:=by
  obtain⟨blk',h1,_,h3⟩:=h.box b cs hb
  rw[he]at h1;cases h1;exact h3.Tc hg
 have hno':isObj (splice cs off ps)=false:=by
  obtain⟨blk',vs',T',h1,h2,h3,h4⟩:=h.cells hb hno
  exact(h4.splice hps off).Tc
 have hlive:∀(i:Nat) (cs':List PV),(M.boxes.set b (some (splice cs off ps)))[i]?=some (some cs')→∃cs'':List PV,M.boxes[i]?=some (some cs''):=by
  intro i cs' hi
  rcases aH hi with⟨rfl,_⟩|⟨_,hi'⟩
  ·exact⟨cs,hb⟩
  ·exact⟨cs',hi'⟩
 have hf:From w M E w' {M with boxes:=M.boxes.set b (some (splice cs off ps))} E:=
  {os:=hw.os,tape:=hw.tape,output:=hw.output,size:=Nat.le_of_eq hw.size.symm
   keep:=fun i o hi ho=>hw.jC (fun e=>hi (e▸hown)) ho
   own:=by
    rintro i (⟨j,cs',h1,h2,h3⟩|⟨k,A,o,e,h1,h2,h3⟩)
    ·obtain⟨cs'',h1'⟩:=hlive j cs' h1
     exact .inl (.inl ⟨j,cs'',h1',h2,h3⟩)
    ·exact .inl (.inr ⟨k,A,o,e,h1,h2,h3⟩)
   ig:=by simp
   bx:=fun i cs' hi=>by
    refine⟨rfl,?_⟩
    by_cases hib:i=b
    ·subst hib;rw[hb]at hi;cases hi;exact⟨splice cs off ps,by simp[hlt],hno'.trans hno.symm⟩
    ·exact⟨cs',by rw[List.getElem?_set];simp[Ne.symm hib,hi],rfl⟩
   aY:=Nat.le_refl _
   ar:=fun _ A' _ h=>⟨A',h,Nat.le_refl _,fun _=>⟨rfl,rfl,rfl,fun _=>rfl⟩⟩}
 refine⟨?_,hf⟩
 exact
  {glob:=C.keeps w w' h.glob fun b hb=>hw.keep b (fun e=>hX (e▸h.iE b hb)),iE:=h.iE
   xlt:=fun i hi=>by rw[hw.size];exact h.xlt i hi
   ig:=by simp[h.ig]
   aY:=h.aY
   box:=fun i cs' hi=>by
    rcases aH hi with⟨rfl,hcs⟩|⟨hne,hi'⟩
    ·cases hcs
     obtain⟨blk',vs',T',h1,h2,h3,h4⟩:=h.cells hb hno
     rw[he]at h1;cases h1
     rw[hg]at h3;cases h3
     exact⟨blk,he,hX, .mk hw.at_ (by simpa using(h4.splice hps off).from hf)⟩
    ·obtain⟨blk',h1,h2,h3⟩:=h.box i cs' hi'
     have hne':blk'≠blk:=fun e=>hne (h.bb i b cs' cs blk hi' hb (e▸h1) he)
     exact⟨blk',h1,h2,h3.from hf fun _ ho=>hw.jC hne' ho⟩
   arr:=fun k A hA=>by
    obtain⟨h1,h2,h3,h4⟩:=h.arr k A hA
    refine⟨h1,h2,h3,fun blk' o e hk=> ?_⟩
    obtain⟨g1,vs',T',g2,g3,g4,g5⟩:=h4 blk' o e hk
    have hne':blk'≠blk:=fun e'=>h.ba b k cs A blk o e hb hA he (e'▸hk)
    exact⟨g1,vs',T',hw.jC hne' g2,g3,g4,g5.from hf⟩
   bb:=fun i j cs1 cs2 blk' h1 h2 h3 h4=>by
    obtain⟨d1,h1'⟩:=hlive i cs1 h1
    obtain⟨d2,h2'⟩:=hlive j cs2 h2
    exact h.bb i j d1 d2 blk' h1' h2' h3 h4
   aa:=h.aa
   ba:=fun i k cs1 A blk' o e h1 h2 h3 h4=>by
    obtain⟨d1,h1'⟩:=hlive i cs1 h1
    exact h.ba i k d1 A blk' o e h1' h2 h3 h4}
theorem X8 {x:DV}{off:Nat}{ds:List DV}(h:off+ds.length≤x.cells.length)(hd:0<ds.length)(h1:ds.all DV.one=true):(setCells x off ds).cells=splice x.cells off ds:=by
 cases x with
 |agg cs=>rfl
 | _=>
  simp only[DV.cells,List.length_singleton]at h
  have h0:off=0:=by omega
  have h2:ds.length=1:=by omega
  subst h0
  obtain⟨d,rfl⟩:=List.length_eq_one_iff.1 h2
  simp only[setCells,splice,DV.cells,List.take_zero,List.nil_append,Nat.zero_add,List.length_singleton,List.getD_cons_zero]
  simp only[List.drop_one,List.tail_cons,List.append_nil]
  cases d<;>simp_all[DV.one]
theorem WG {sz:Nat}:∀{xs:List DV} (_:∀x∈xs,x.cells.length=sz) {i:Nat} (hi:i<xs.length) {y:DV} (_:y.cells.length=sz) {off:Nat} {ds:List DV} (_:y.cells=splice xs[i].cells off ds) (_:off+ds.length≤sz),
  flat (xs.set i y)=splice (flat xs) (i*sz+off) ds
 | [],_,i,hi,_,_,_,_,_,_=>by simp at hi
 |x::xs,h,0,_,y,hy,off,ds,he,hl=>by
  simp only[List.set_cons_zero,mJ,he,List.getElem_cons_zero,Nat.zero_mul,Nat.zero_add,splice]
  have hx:x.cells.length=sz:=h x (by simp)
  rw[List.take_append_of_le_length (by omega),List.drop_append_of_le_length (by omega)]
  simp
 |x::xs,h,i+1,hi,y,hy,off,ds,he,hl=>by
  have hx:x.cells.length=sz:=h x (by simp)
  simp only[List.set_cons_succ,mJ]
  rw[WG (fun z hz=>h z (by simp[hz])) (by simpa using hi) hy (by simpa using he) hl]
  have e1:(i+1)*sz+off=x.cells.length+(i*sz+off):=by rw[hx,Nat.add_mul];omega
  have e2:∀q,x.cells.length+q+ds.length=x.cells.length+(q+ds.length):=fun q=>by omega
  simp only[splice,e1,e2,List.take_length_add_append,List.drop_length_add_append,List.append_assoc]
theorem FT {α:Type}(cs new:List α)(n off:Nat)(h:off+new.length≤n)(hn:n≤cs.length):(splice cs off new).take n=splice (cs.take n) off new:=by
 simp only[splice,List.take_append,List.length_take,List.length_append,List.drop_take,List.take_take]
 have h1:min off cs.length=off:=by omega
 have h2:min n off=off:=by omega
 have h3:min off n=off:=by omega
 simp only[h1,h2,h3,List.append_assoc]
 rw[List.take_of_length_le (by omega:new.length≤n - off)]
theorem wM {α:Type}(cs new:List α)(o off:Nat)(h:o≤off)(hn:off≤cs.length):(splice cs off new).drop o=splice (cs.drop o) (off - o) new:=by
 simp only[splice,List.append_assoc]
 rw[List.drop_append_of_le_length (by simp;omega),List.drop_take,List.drop_drop,show o+(off - o+new.length)=off+new.length by omega]
theorem afr {k i off blk o e:Nat}{A:Arr}{ds:List DV}{vs:Array Value}{us:List Value}{T:TM vs.size}(h:Sim C X w M E)(hk:M.aA[k]?=some (some A))(hst:A.st=1)
  (he:E.ar[k]?=some (some (blk,o,e)))(hg:w.heap[blk]?=some (.cells vs T.ty T.fr))(hi:i<A.elems.length)(hoff:off+ds.length≤(A.elems.getD i default).cells.length)(hd:0<ds.length)(h1:ds.all DV.one=true)
  (hps:aQ w (away X M E) us ds)(hw:Wrote blk w w' (splice vs.toList (o+i*A.sz+off) us) T.ty T.fr):
  Sim C X w' {M with aA:=M.aA.set k (some {A with elems:=A.elems.set i (setCells (A.elems.getD i default) off ds)})} E∧
  From w M E w' {M with aA:=M.aA.set k (some {A with elems:=A.elems.set i (setCells (A.elems.getD i default) off ds)})} E:=by
 rw[getD_eq hi]at hoff⊢
 generalize hA':({A with elems:=A.elems.set i (setCells A.elems[i] off ds)}:Arr)=A'
 have hlt:k<M.aA.length:=(List.getElem?_eq_some_iff.1 hk).1
 obtain⟨s1,s2,s3,s4⟩:=h.arr k A hk
 obtain⟨hX,vs',T',g2,g3,g4,g5⟩:=s4 blk o e he
 rw[hg]at g2
 simp only[Option.some.injEq,Obj.cells.injEq]at g2
 obtain⟨rfl,_,_⟩:=g2
 have hown:owned M E blk:= .inr ⟨k,A,o,e,hk,by omega,he⟩
 have hfi:A.elems[i].fits A.sz=true:=s2 _ (List.getElem_mem hi)
 have hcl:A.elems[i].cells.length=A.sz:=DV.cu hfi
 have hsc:=X8 hoff hd h1
 have hlive:∀(j:Nat) (B:Arr),(M.aA.set k (some A'))[j]?=some (some B)→∃B':Arr,M.aA[j]?=some (some B')∧B.st=B'.st:=by
  intro j B hj
  rcases aH hj with⟨rfl,hB⟩|⟨_,hj'⟩
  ·cases hB;exact⟨A,hk,by rw[←hA']⟩
  ·exact⟨B,hj',rfl⟩
 have hf:From w M E w' {M with aA:=M.aA.set k (some A')} E:=
  {os:=hw.os,tape:=hw.tape,output:=hw.output,size:=Nat.le_of_eq hw.size.symm
   keep:=fun i o hi ho=>hw.jC (fun e=>hi (e▸hown)) ho
   own:=by
    rintro i (⟨j,cs',h1,h2,h3⟩|⟨j,B,o,e,h1,h2,h3⟩)
    ·exact .inl (.inl ⟨j,cs',h1,h2,h3⟩)
    ·obtain⟨B',h1',hs⟩:=hlive j B h1
     exact .inl (.inr ⟨j,B',o,e,h1',hs▸h2,h3⟩)
   ig:=Nat.le_refl _
   bx:=fun i cs' hi=>⟨rfl,cs',hi,rfl⟩
   aY:=by simp
   ar:=fun j B hj hB=>by
    rcases aH hB with⟨rfl,hBe⟩|⟨_,hB'⟩
    ·cases hBe
     refine⟨A,hk,by rw[←hA'];exact Nat.le_refl _,fun _=>⟨rfl,by rw[←hA'],by rw[←hA'];simp,fun hn=> ?_⟩⟩
     rw[he]at hn;cases hn
    ·exact⟨B,hB',Nat.le_refl _,fun _=>⟨rfl,rfl,rfl,fun _=>rfl⟩⟩}
 refine⟨?_,hf⟩
 exact
  {glob:=C.keeps w w' h.glob fun b hb=>hw.keep b (fun e=>hX (e▸h.iE b hb)),iE:=h.iE
   xlt:=fun i hi=>by rw[hw.size];exact h.xlt i hi
   ig:=h.ig
   aY:=by simp[h.aY]
   box:=fun b cs' hb=>by
    obtain⟨blk',h1,h2,h3⟩:=h.box b cs' hb
    have hne':blk'≠blk:=fun e'=>h.ba b k cs' A blk o e hb hk (e'▸h1) he
    exact⟨blk',h1,h2,h3.from hf fun _ ho=>hw.jC hne' ho⟩
   arr:=fun j B hB=>by
    rcases aH hB with⟨rfl,hBe⟩|⟨hne,hB'⟩
    ·cases hBe
     subst hA'
     refine⟨s1,fun x hx=> ?_,s3,fun blk' o' e' hk'=> ?_⟩
     ·rcases List.mem_or_eq_of_mem_set hx with hx|rfl
      ·exact s2 x hx
      ·simp only[DV.fits,Bool.and_eq_true,beq_iff_eq,List.all_eq_true]
       rw[hsc]
       refine⟨by rw[length_splice _ _ _ hoff,hcl],fun c hc=> ?_⟩
       simp only[splice,List.mem_append]at hc
       rcases hc with(hc|hc)|hc
       ·exact DV.Qs hfi c (List.mem_of_mem_take hc)
       ·exact List.all_eq_true.1 h1 c hc
       ·exact DV.Qs hfi c (List.mem_of_mem_drop hc)
     ·rw[he]at hk';cases hk'
      have hul:us.length=ds.length:=hps.length
      have hin:i*A.sz+A.sz≤A.elems.length*A.sz:=by
       rw[←Nat.succ_mul];exact Nat.mul_le_mul_right _ hi
      have hsz:vs.size=(splice vs.toList (o+i*A.sz+off) us).toArray.size:=by
       have hz:(splice vs.toList (o+i*A.sz+off) us).toArray.size=(splice vs.toList (o+i*A.sz+off) us).length:=List.size_toArray
       rw[hz,length_splice _ _ _ (by simp;omega),Array.length_toList]
      refine⟨hX,_,T.cast hsz,hw.at_,by simpa using g3,?_,?_⟩
      ·simp only[List.size_toArray];rw[length_splice _ _ _ (by simp;omega)];simpa using g4
      ·simp only[List.length_set]
       rw[WG (fun x hx=>DV.cu (s2 x hx)) hi (by rw[hsc,length_splice _ _ _ hoff,hcl]) hsc (by omega)]
       rw[wM _ _ _ _ (by omega) (by simp;omega),show o+i*A.sz+off - o=i*A.sz+off by omega,
        FT _ _ _ _ (by rw[hul];omega) (by simp;omega)]
       exact(g5.splice hps _).from hf
    ·obtain⟨h1,h2,h3,h4⟩:=h.arr j B hB'
     refine⟨h1,h2,h3,fun blk' o' e' hk'=> ?_⟩
     obtain⟨q1,vs',T',q2,q3,q4,q5⟩:=h4 blk' o' e' hk'
     have hne':blk'≠blk:=fun e2=>hne (h.aa j k B A blk o' e' o e hB' hk (e2▸hk') he)
     exact⟨q1,vs',T',hw.jC hne' q2,q3,q4,q5.from hf⟩
   bb:=h.bb
   aa:=fun j j' B B' blk' o1 e1 o2 e2 h1 h2 h3 h4=>by
    obtain⟨d1,h1',_⟩:=hlive j B h1
    obtain⟨d2,h2',_⟩:=hlive j' B' h2
    exact h.aa j j' d1 d2 blk' o1 e1 o2 e2 h1' h2' h3 h4
   ba:=fun b j cs1 B blk' o1 e1 h1 h2 h3 h4=>by
    obtain⟨d2,h2',_⟩:=hlive j B h2
    exact h.ba b j cs1 d2 blk' o1 e1 h1 h2' h3 h4}
end
theorem KT (ks:List Nat):∀(l:List (Option Arr)),(Qv ks l).length=l.length:=by
 induction ks with
 |nil=>intro l;rfl
 |cons k ks ih=>intro l;simp only[Qv,List.foldl_cons];exact(ih _).trans (by simp)
def Arr.frz (A:Arr):Arr:={A with st:=2}
theorem ajo (ks:List Nat):∀(l:List (Option Arr)) (k:Nat),(Qv ks l)[k]?=if k∈ks then(l[k]?).map (Option.map Arr.frz)else l[k]?:=by
 induction ks with
 |nil=>intro l k;simp[Qv]
 |cons j ks ih=>
  intro l k
  have e:Qv (j::ks) l=Qv ks (l.modify j (Option.map Arr.frz)):=rfl
  rw[e,ih]
  simp only[List.getElem?_modify,List.mem_cons]
  by_cases h1:k∈ks<;>by_cases h2:k=j
  ·subst h2;simp only[h1,if_true,true_or];cases l[k]? with
   |none=>rfl
   |some o=>cases o<;>rfl
  ·simp[h1,Ne.symm h2]
  ·subst h2;simp[h1]
  ·simp[h1,h2,Ne.symm h2]
section
variable {C:Ctx}{X:Nat→Prop}{w w':World}{M M':Mem}{E E':Emb}
theorem Fp {ps:List PV}{k:Nat}{A':Arr}(h:(M.frz ps).aA[k]?=some (some A')):∃A,M.aA[k]?=some (some A)∧(A'=A∨A'=A.frz)∧(k∈ps.flatMap (oC M)→A'=A.frz):=by
 simp only[Mem.frz,ajo]at h
 split at h
 ·rw[Option.map_eq_some_iff]at h
  obtain⟨o,h1,h2⟩:=h
  cases o with
  |none=>cases h2
  |some A=>simp only[Option.map_some,Option.some.injEq]at h2;exact⟨A,h1, .inr h2.symm,fun _=>h2.symm⟩
 ·rename_i hk;exact⟨A',h, .inl rfl,fun hh=>absurd hh hk⟩
theorem Zl {ps:List PV}{b:Nat}(h:owned (M.frz ps) E b):owned M E b:=by
 rcases h with⟨i,cs,h1,h2,h3⟩|⟨k,A',o,e,h1,h2,h3⟩
 ·exact .inl ⟨i,cs,h1,fun hh=>h2 (by simp[Mem.frz,hh]),h3⟩
 ·obtain⟨A,g1,g2,_⟩:=Fp h1
  refine .inr ⟨k,A,o,e,g1,?_,h3⟩
  rcases g2 with rfl|rfl
  ·exact h2
  ·exact absurd rfl h2
theorem nX (ps:List PV)(w:World):From w M E w (M.frz ps) E:={
 os:=rfl
 tape:=rfl
 output:=rfl
 size:=Nat.le_refl _
 keep:=fun _ _ _ h=>h
 own:=fun _ h=> .inl (Zl h)
 ig:=Nat.le_refl _
 bx:=fun b cs h=>⟨rfl,cs,h,rfl⟩
 aY:=by simp[Mem.frz,KT]
 ar:=fun k A' _ h=>by
  obtain⟨A,g1,g2,_⟩:=Fp h
  refine⟨A,g1,?_,fun _=> ?_⟩<;>rcases g2 with rfl|rfl
  ·exact Nat.le_refl _
  ·exact Nat.le_refl _
  ·exact⟨rfl,rfl,rfl,fun _=>rfl⟩
  ·exact⟨rfl,rfl,rfl,fun _=>rfl⟩}
theorem pz (h:Sim C X w M E)(ps:List PV):Sim C X w (M.frz ps) E:={
 glob:=h.glob
 iE:=h.iE
 xlt:=h.xlt
 ig:=h.ig
 aY:=by simp[Mem.frz,KT,h.aY]
 box:=fun b cs hb=>by
  obtain⟨blk,h1,h2,h3⟩:=h.box b cs hb
  exact⟨blk,h1,h2,h3.from (nX ps w) fun _ ho=>ho⟩
 arr:=fun k A' hA=>by
  obtain⟨A,g1,g2,_⟩:=Fp hA
  obtain⟨h1,h2,h3,h4⟩:=h.arr k A g1
  rcases g2 with rfl|rfl
  ·refine⟨h1,h2,h3,fun blk o e he=> ?_⟩
   obtain⟨q1,vs,T,q2,q3,q4,q5⟩:=h4 blk o e he
   exact⟨q1,vs,T,q2,q3,q4,q5.from (nX ps w)⟩
  ·refine⟨h1,h2,fun hs=>absurd hs (by simp[Arr.frz]),fun blk o e he=> ?_⟩
   obtain⟨q1,vs,T,q2,q3,q4,q5⟩:=h4 blk o e he
   exact⟨q1,vs,T,q2,q3,q4,q5.from (nX ps w)⟩
 bb:=h.bb
 aa:=fun k k' A A' blk o e o' e' h1 h2 h3 h4=>by
  obtain⟨B,g1,_⟩:=Fp h1
  obtain⟨B',g1',_⟩:=Fp h2
  exact h.aa k k' B B' blk o e o' e' g1 g1' h3 h4
 ba:=fun b k cs A blk o e h1 h2 h3 h4=>by
  obtain⟨B,g1,_⟩:=Fp h2
  exact h.ba b k cs B blk o e h1 g1 h3 h4}
theorem bf.weaken {O O':Nat→Prop}(ho:∀b,O' b→O b){v:Value}{d:DV}(h:bf w O v d):bf w O' v d:=h.mono fun b _ hb hh=>⟨hh,fun hb'=>hb (ho b hb')⟩
theorem aQ.weaken {O O':Nat→Prop}(ho:∀b,O' b→O b){v:List Value}{d:List DV}(h:aQ w O v d):aQ w O' v d:=h.mono fun b _ hb hh=>⟨hh,fun hb'=>hb (ho b hb')⟩
theorem bf.ao5 {O:Nat→Prop}{v:Value}{ex:Bool}{xs:List DV}(h:bf w O v (.slice ex xs)):bf w O v (.slice false xs):=by
 cases h with
 |empty hx=>exact .empty (fun h=>by cases h)
 |slice hb ho hl hs hc hx hh=>exact .slice hb ho hl hs hc (fun h=>by cases h) hh
theorem xI {k ver:Nat}{A:Arr}(h:M.row k ver=some A):M.aA[k]?=some (some A)∧A.ver=ver:=by
 simp only[Mem.row]at h
 split at h
 ·rename_i B hB
  split at h
  ·rename_i hv;cases h;exact⟨hB,hv⟩
  ·cases h
 ·cases h
theorem oL {b:Nat}{cs:List PV}(h:M.box b=some cs):M.boxes[b]?=some (some cs):=by
 simp only[Mem.box]at h
 split at h
 ·rename_i B hB;cases h;exact hB
 ·cases h
theorem adB {O':Nat→Prop}{k ver skip:Nat}{v:Value}{A:Arr}(h:Sim C X w M E)(hr:Rep w (away X M E) M E v (.tsl k ver skip))(hA:M.row k ver=some A)
  (hO:∀b,O' b→away X M E b)(hk:∀blk o e,E.ar[k]?=some (some (blk,o,e))→¬O' blk):bf w O' v (.slice false (A.elems.drop skip)):=by
 obtain⟨hA1,hv⟩:=xI hA
 cases hr with
 |tsl hlt hh=>
  obtain⟨_,h2⟩:=hh A hA1
  obtain⟨loc,h3,h4,h5⟩:=h2 hv
  obtain⟨s1,s2,s3,s4⟩:=h.arr k A hA1
  cases loc with
  |none=>exact h5.ao5.weaken hO
  |some q=>
   obtain⟨blk,o,e⟩:=q
   obtain⟨hX,vs,T,g2,g3,g4,g5⟩:=s4 blk o e h3
   simp only at h5
   rcases h5 with⟨cap',he,hc,hcap⟩|⟨hn,a',he⟩
   ·cases he
    refine .slice g2 (hk blk o e h3) (by simp) (fun x hx=>DV.cu (s2 x (List.mem_of_mem_drop hx))) hc (fun h=>by cases h) ?_
    have e1:(vs.toList.drop (o+skip*A.sz)).take ((A.elems.length - skip)*A.sz)=(((vs.toList.drop o).take (A.elems.length*A.sz)).drop (skip*A.sz)):=by
     rw[List.drop_take,List.drop_drop,Nat.sub_mul]
    rw[e1,←Dl (fun x hx=>DV.cu (s2 x hx)) skip]
    exact(g5.drop _).weaken hO
   ·cases he
    rw[List.drop_eq_nil_of_le (by omega)]
    exact .empty (fun h=>by cases h)
theorem af2 {O':Nat→Prop}{b:Nat}{l:List (DV×DV)}{v:Value}(h:Sim C X w M E)(hr:Rep w (away X M E) M E v (.mref b))(hd:M.box b=some [.iY l])
  (hO:∀b,O' b→away X M E b)(hb:∀blk,E.bx[b]?=some blk→¬O' blk):bf w O' v (.map (some l)):=by
 cases hr with
 |mref hl he ho=>
  rw[oL hd]at hl;cases hl
  obtain⟨blk,h1,h2,h3⟩:=h.box b _ (oL hd)
  rw[he]at h1;cases h1
  obtain⟨es,clock,g1,g2,g3⟩:∃(es:Array MapEntry) (clock:Nat),_:=h3
  exact .map g1 (hb _ he) (g2.weaken hO) (g3.weaken hO)
theorem aef {O':Nat→Prop}{p:PV}{d:DV}{v:Value}(h:Sim C X w M E)(hr:Rep w (away X M E) M E v p)(hd:eU M p=some d)
  (hO:∀b,O' b→away X M E b)(hk:∀k∈xG p,∀blk o e,E.ar[k]?=some (some (blk,o,e))→¬O' blk)(hb:∀b∈xH p,∀blk,E.bx[b]?=some blk→¬O' blk):bf w O' v d:=by
 cases p with
 |mref b=>
  simp only[eU]at hd
  split at hd
  ·rename_i l hl
   cases hd
   exact af2 h hr hl hO (hb b (by simp[xH]))
  ·cases hd
 |d x=>simp only[eU,Option.some.injEq]at hd;subst hd;exact hr.toD.weaken hO
 |tsl k ver skip=>
  simp only[eU,Option.map_eq_some_iff]at hd
  obtain⟨A,hA,rfl⟩:=hd
  exact adB h hr hA hO (hk k (by simp[xG]))
 | _=>simp[eU]at hd
theorem vN {O':Nat→Prop}(h:Sim C X w M E)(hO:∀b,O' b→away X M E b):∀{ps:List PV} {ds:List DV} {vs:List Value},aK w (away X M E) M E vs ps→bW M ps=some ds→
  (∀k∈ps.flatMap xG,∀blk o e,E.ar[k]?=some (some (blk,o,e))→¬O' blk)→(∀b∈ps.flatMap xH,∀blk,E.bx[b]?=some blk→¬O' blk)→aQ w O' vs ds
 | [],ds,_, .nil,hd,_,_=>by simp only[bW,Option.some.injEq]at hd;subst hd;exact .nil
 |p::ps,ds,_, .cons h1 h2,hd,hk,hb=>by
  simp only[bW]at hd
  split at hd
  ·rename_i x xs e1 e2
   cases hd
   exact .cons (aef h h1 e1 hO (fun k hk'=>hk k (by rw[List.flatMap_cons,List.mem_append];exact .inl hk')) fun b hb'=>hb b (by rw[List.flatMap_cons,List.mem_append];exact .inl hb')) (vN h hO h2 e2 (fun k hk'=>hk k (by
    rw[List.flatMap_cons,List.mem_append];exact .inr hk')) fun b hb'=>hb b (by rw[List.flatMap_cons,List.mem_append];exact .inr hb'))
  ·cases hd
theorem ag6 {O':Nat→Prop}{p:PV}{d:DV}{v:Value}(h:Sim C X w M E)(hr:Rep w (away X M E) M E v p)(hd:datum M p=some d)
  (hO:∀b,O' b→away X M E b)(hk:∀k∈oC M p,∀blk o e,E.ar[k]?=some (some (blk,o,e))→¬O' blk)(hb:∀b∈oD M p,∀blk,E.bx[b]?=some blk→¬O' blk):bf w O' v d:=by
 cases p with
 |d x=>simp only[datum,Option.some.injEq]at hd;subst hd;exact hr.toD.weaken hO
 |tsl k ver skip=>
  simp only[datum,Option.map_eq_some_iff]at hd
  obtain⟨A,hA,rfl⟩:=hd
  exact adB h hr hA hO (hk k (by simp[oC]))
 |ptr b off=>
  simp only[datum]at hd
  split at hd
  ·rename_i cs hcs
   simp only[Option.map_eq_some_iff]at hd
   obtain⟨ds,hds,rfl⟩:=hd
   cases hr with
   |ptr hl he hno=>
    rw[oL hcs]at hl;cases hl
    obtain⟨blk,vs,T,h1,h2,h3,h4⟩:=h.cells (oL hcs) hno
    rw[he]at h1;cases h1
    have hL:=vN h hO h4 hds (fun k hk'=>hk k (by simp[oC,hcs];simpa using hk')) fun b' hb'=>hb b' (by simp only[oD,hcs,List.mem_cons];exact .inr hb')
    refine .aX h3 (hb b (by simp[oD]) _ he) ?_
    rw[List.take_of_length_le (by have:=hL.length;simp at this⊢;omega)]
    exact hL.drop off
  ·cases hd
 |func fn f c=>
  simp only[datum]at hd
  split at hd
  ·rename_i df dc e1 e2
   cases hd
   cases hr with
   |func hf hc=>exact .func (vN h hO hf e1 (fun k hk'=>hk k (by simp only[oC,List.mem_append];exact .inl hk')) fun b hb'=>hb b (by simp only[oD,List.mem_append];exact .inl hb')) (vN h hO hc e2 (fun k hk'=>hk k (by simp only[oC,List.mem_append];exact .inr hk')) fun b hb'=>hb b (by simp only[oD,List.mem_append];exact .inr hb'))
  ·cases hd
 |agg cs=>
  simp only[datum,Option.map_eq_some_iff]at hd
  obtain⟨ds,hds,rfl⟩:=hd
  cases hr with
  |agg hh=>exact .agg (vN h hO hh hds (fun k hk'=>hk k (by simpa only[oC]using hk')) fun b hb'=>hb b (by simpa only[oD]using hb'))
 |tup cs=>
  simp only[datum,Option.map_eq_some_iff]at hd
  obtain⟨ds,hds,rfl⟩:=hd
  cases hr with
  |tup hh=>exact .tup (vN h hO hh hds (fun k hk'=>hk k (by simpa only[oC]using hk')) fun b hb'=>hb b (by simpa only[oD]using hb'))
 |jY=>simp[datum]at hd
 |dead=>simp[datum]at hd
 |mref b=>
  simp only[datum]at hd
  split at hd
  ·rename_i l hl
   cases hd
   exact af2 h hr hl hO (hb b (by simp[oD]))
  ·cases hd
 |qY=>simp[datum]at hd
 |psl=>simp[datum]at hd
 |DN=>simp[datum]at hd
 |KE=>simp[datum]at hd
 |iY=>simp[datum]at hd
 |gV=>simp[datum]at hd
theorem an9 {ps:List PV}(h:Sim C X w M E){k:Nat}(hk:k∈ps.flatMap (oC M)){blk o e:Nat}{A:Arr}(hA:M.aA[k]?=some (some A))(he:E.ar[k]?=some (some (blk,o,e))):¬away X (M.frz ps) E blk:=by
 rintro(hx|⟨b,cs,h1,h2,h3⟩|⟨k',A',o',e',h1,h2,h3⟩)
 ·exact(((h.arr k A hA).2.2.2) blk o e he).1 hx
 ·exact h.ba b k cs A blk o e h1 hA h3 he
 ·obtain⟨B,g1,_,g3⟩:=Fp h1
  have:k'=k:=h.aa k' k B A blk o' e' o e g1 hA h3 he
  subst this
  exact h2 (by rw[g3 hk];rfl)
theorem aoa {ps:List PV}(h:Sim C X w M E){b:Nat}(hb:b∈ps.flatMap (oD M)){blk:Nat}{cs:List PV}(hcs:M.boxes[b]?=some (some cs))(he:E.bx[b]?=some blk):¬away X (M.frz ps) E blk:=by
 rintro(hx|⟨b',cs',h1,h2,h3⟩|⟨k',A',o',e',h1,h2,h3⟩)
 ·obtain⟨blk',g1,g2,_⟩:=h.box b cs hcs
  rw[he]at g1;cases g1;exact g2 hx
 ·have:b'=b:=h.bb b' b cs' cs blk h1 hcs h3 he
  subst this
  exact h2 (by simp only[Mem.frz,List.mem_append];exact .inl hb)
 ·obtain⟨B,g1,_,_⟩:=Fp h1
  exact h.ba b k' cs B blk o' e' hcs g1 he h3
theorem Yz {p:PV}{d:DV}(hd:datum M p=some d):(∀k∈oC M p,∃A,M.aA[k]?=some (some A))∧(∀b∈oD M p,∃cs,M.boxes[b]?=some (some cs)):=by
 have h0:∀{p:PV} {d:DV},eU M p=some d→∀k∈xG p,∃A,M.aA[k]?=some (some A):=by
  intro p d hd k hk
  cases p with
  |tsl k' ver skip=>
   simp only[eU,Option.map_eq_some_iff]at hd
   obtain⟨A,hA,_⟩:=hd
   simp only[xG,List.mem_singleton]at hk
   subst hk
   exact⟨A,(xI hA).1⟩
  | _=>simp[xG]at hk
 have h0L:∀{ps:List PV} {ds:List DV},bW M ps=some ds→∀k∈ps.flatMap xG,∃A,M.aA[k]?=some (some A):=by
  intro ps
  induction ps with
  |nil=>intro ds _ k hk;simp at hk
  |cons p ps ih=>
   intro ds hd k hk
   simp only[bW]at hd
   split at hd
   ·rename_i x xs e1 e2
    rw[List.flatMap_cons,List.mem_append]at hk
    rcases hk with hk|hk
    ·exact h0 e1 k hk
    ·exact ih e2 k hk
   ·cases hd
 have b0:∀{p:PV} {d:DV},eU M p=some d→∀b∈xH p,∃cs,M.boxes[b]?=some (some cs):=by
  intro p d hd b hb
  cases p with
  |mref b'=>
   simp only[eU]at hd
   split at hd
   ·rename_i l hl
    simp only[xH,List.mem_singleton]at hb
    subst hb
    exact⟨_,oL hl⟩
   ·cases hd
  | _=>simp[xH]at hb
 have b0L:∀{ps:List PV} {ds:List DV},bW M ps=some ds→∀b∈ps.flatMap xH,∃cs,M.boxes[b]?=some (some cs):=by
  intro ps
  induction ps with
  |nil=>intro ds _ k hk;simp at hk
  |cons p ps ih=>
   intro ds hd k hk
   simp only[bW]at hd
   split at hd
   ·rename_i x xs e1 e2
    rw[List.flatMap_cons,List.mem_append]at hk
    rcases hk with hk|hk
    ·exact b0 e1 k hk
    ·exact ih e2 k hk
   ·cases hd
 cases p with
 |mref b'=>
  simp only[datum]at hd
  split at hd
  ·rename_i l hl
   refine⟨fun k hk=>by simp[oC]at hk,fun b hb=> ?_⟩
   simp only[oD,List.mem_singleton]at hb
   subst hb
   exact⟨_,oL hl⟩
  ·cases hd
 |tsl k' ver skip=>
  simp only[datum,Option.map_eq_some_iff]at hd
  obtain⟨A,hA,_⟩:=hd
  refine⟨fun k hk=> ?_,fun b hb=>by simp[oD]at hb⟩
  simp only[oC,List.mem_singleton]at hk
  subst hk
  exact⟨A,(xI hA).1⟩
 |ptr b off=>
  simp only[datum]at hd
  split at hd
  ·rename_i cs hcs
   simp only[Option.map_eq_some_iff]at hd
   obtain⟨ds,hds,_⟩:=hd
   refine⟨fun k hk=>h0L hds k (by simpa only[oC,hcs]using hk),fun b' hb=> ?_⟩
   simp only[oD,hcs,List.mem_cons]at hb
   rcases hb with rfl|hb
   ·exact⟨cs,oL hcs⟩
   ·exact b0L hds b' hb
  ·cases hd
 |func fn f c=>
  simp only[datum]at hd
  split at hd
  ·rename_i df dc e1 e2
   refine⟨fun k hk=> ?_,fun b hb=> ?_⟩
   ·simp only[oC,List.mem_append]at hk
    exact hk.elim (h0L e1 k) (h0L e2 k)
   ·simp only[oD,List.mem_append]at hb
    exact hb.elim (b0L e1 b) (b0L e2 b)
  ·cases hd
 |agg cs=>
  simp only[datum,Option.map_eq_some_iff]at hd
  obtain⟨ds,hds,_⟩:=hd
  exact⟨fun k hk=>h0L hds k (by simpa only[oC]using hk),fun b hb=>b0L hds b (by simpa only[oD]using hb)⟩
 |tup cs=>
  simp only[datum,Option.map_eq_some_iff]at hd
  obtain⟨ds,hds,_⟩:=hd
  exact⟨fun k hk=>h0L hds k (by simpa only[oC]using hk),fun b hb=>b0L hds b (by simpa only[oD]using hb)⟩
 | _=>exact⟨fun k hk=>by simp[oC]at hk,fun b hb=>by simp[oD]at hb⟩
theorem mF {ps:List PV}{p:PV}{d:DV}{v:Value}(h:Sim C X w M E)(hr:Rep w (away X M E) M E v p)(hd:datum M p=some d)(hp:p∈ps):bf w (away X (M.frz ps) E) v d:=by
 obtain⟨l1,l2⟩:=Yz hd
 refine ag6 h hr hd (fun b hb=>hb.imp id Zl) (fun k hk blk o e he=> ?_) (fun b hb blk he=> ?_)
 ·obtain⟨A,hA⟩:=l1 k hk
  exact an9 h (List.mem_flatMap.2 ⟨p,hp,hk⟩) hA he
 ·obtain⟨cs,hcs⟩:=l2 b hb
  exact aoa h (List.mem_flatMap.2 ⟨p,hp,hb⟩) hcs he
theorem yZ {ps:List PV}(h:Sim C X w M E):∀{qs:List PV} {ds:List DV} {vs:List Value},aK w (away X M E) M E vs qs→dD M qs=some ds→(∀q∈qs,q∈ps)→aQ w (away X (M.frz ps) E) vs ds
 | [],ds,_, .nil,hd,_=>by simp only[dD,Option.some.injEq]at hd;subst hd;exact .nil
 |p::qs,ds,_, .cons h1 h2,hd,hk=>by
  simp only[dD]at hd
  split at hd
  ·rename_i x xs e1 e2
   cases hd
   exact .cons (mF h h1 e1 (hk p (by simp))) (yZ h h2 e2 fun q hq=>hk q (by simp[hq]))
  ·cases hd
theorem bf.strip {O:Nat→Prop}{v:Value}{d:DV}(h:bf w O v d):bf w O v d.strip:=by
 cases d with
 |slice ex xs=>exact h.ao5
 |agg cs=>
  cases h with
  |agg hh=>
   refine .agg ?_
   revert hh
   generalize Array.toList _=vs
   intro hh
   induction cs generalizing vs with
   |nil=>cases hh;exact .nil
   |cons c cs ih=>
    cases hh with
    |cons h1 h2=>
     refine .cons ?_ (ih _ h2)
     cases c<;>first|exact h1|exact h1.ao5
 | _=>exact h
theorem aQ.strip {O:Nat→Prop}:∀{vs:List Value} {ds:List DV},aQ w O vs ds→aQ w O vs (ds.map DV.strip)
 | _,_, .nil=> .nil
 | _,_, .cons h t=> .cons h.strip (aQ.strip t)
theorem Vl (h:Sim C X w M E)(n:Nat):Sim C X w {M with boxes:=M.boxes++List.replicate n none} {E with bx:=E.bx++List.replicate n 0}∧
  From w M E w {M with boxes:=M.boxes++List.replicate n none} {E with bx:=E.bx++List.replicate n 0}:=by
 have hb:∀(b:Nat) (cs:List PV),(M.boxes++List.replicate n none)[b]?=some (some cs)→M.boxes[b]?=some (some cs)∧(E.bx++List.replicate n 0)[b]?=E.bx[b]?:=by
  intro b cs hb
  by_cases hlt:b<M.boxes.length
  ·rw[List.getElem?_append_left hlt]at hb
   exact⟨hb,List.getElem?_append_left (by rw[h.ig];exact hlt)⟩
  ·rw[List.getElem?_append_right (by omega),List.getElem?_replicate]at hb
   split at hb<;>simp at hb
 have hf:From w M E w {M with boxes:=M.boxes++List.replicate n none} {E with bx:=E.bx++List.replicate n 0}:=
  {os:=rfl,tape:=rfl,output:=rfl,size:=Nat.le_refl _
   keep:=fun _ _ _ h=>h
   own:=by
    rintro b (⟨i,cs,h1,h2,h3⟩|hh)
    ·obtain⟨g1,g2⟩:=hb i cs h1
     exact .inl (.inl ⟨i,cs,g1,h2,g2▸h3⟩)
    ·exact .inl (.inr hh)
   ig:=by simp
   bx:=fun b cs hcs=>by
    have hlt:b<M.boxes.length:=(List.getElem?_eq_some_iff.1 hcs).1
    exact⟨List.getElem?_append_left (by rw[h.ig];exact hlt),cs,by rw[List.getElem?_append_left hlt];exact hcs,rfl⟩
   aY:=Nat.le_refl _
   ar:=fun _ A' _ h=>⟨A',h,Nat.le_refl _,fun _=>⟨rfl,rfl,rfl,fun _=>rfl⟩⟩}
 refine⟨?_,hf⟩
 exact
  {glob:=h.glob,iE:=h.iE,xlt:=h.xlt
   ig:=by simp[h.ig]
   aY:=h.aY
   box:=fun b cs hcs=>by
    obtain⟨g1,g2⟩:=hb b cs hcs
    obtain⟨blk,h1,h2,h3⟩:=h.box b cs g1
    exact⟨blk,g2.trans h1,h2,h3.from hf fun _ ho=>ho⟩
   arr:=fun k A hA=>by
    obtain⟨h1,h2,h3,h4⟩:=h.arr k A hA
    refine⟨h1,h2,h3,fun blk o e he=> ?_⟩
    obtain⟨q1,vs,T,q2,q3,q4,q5⟩:=h4 blk o e he
    exact⟨q1,vs,T,q2,q3,q4,q5.from hf⟩
   bb:=fun b b' cs cs' blk h1 h2 h3 h4=>by
    obtain⟨g1,g2⟩:=hb b cs h1
    obtain⟨g1',g2'⟩:=hb b' cs' h2
    exact h.bb b b' cs cs' blk g1 g1' (g2▸h3) (g2'▸h4)
   aa:=h.aa
   ba:=fun b k cs A blk o e h1 h2 h3 h4=>by
    obtain⟨g1,g2⟩:=hb b cs h1
    exact h.ba b k cs A blk o e g1 h2 (g2▸h3) h4}
end
section
variable {C:Ctx}{X:Nat→Prop}{w w':World}{M M':Mem}{E E':Emb}
theorem EJ {k:Nat}{A A':Arr}{loc:Option (Nat×Nat×Nat)}(h:Sim C X w M E)(hk:M.aA[k]?=some (some A))(hst:A.st≠2)
  (hos:w'.os=w.os)(htape:w'.tape=w.tape)(hout:w'.output=w.output)(hsize:w.heap.size≤w'.heap.size)
  (hkeep:∀b o,(∀o' e',E.ar[k]?≠some (some (b,o',e')))→w.heap[b]?=some o→w'.heap[b]?=some o)
  (O8:A.ver<A'.ver)(hsz:0<A'.sz)(hfit:∀x∈A'.elems,x.fits A'.sz=true)(hst':A'.st=1→loc≠none)
  (hloc:∀blk o e,loc=some (blk,o,e)→(w.heap.size≤blk∨∃o' e',E.ar[k]?=some (some (blk,o',e')))∧∃(vs:Array Value) (T:TM vs.size),w'.heap[blk]?=some (.cells vs T.ty T.fr)∧
   o+A'.elems.length*A'.sz≤e∧e≤vs.size∧aQ w (away X M E) ((vs.toList.drop o).take (A'.elems.length*A'.sz)) (flat A'.elems)):
  Sim C X w' {M with aA:=M.aA.set k (some A')} {E with ar:=E.ar.set k loc}∧From w M E w' {M with aA:=M.aA.set k (some A')} {E with ar:=E.ar.set k loc}:=by
 have hlt:k<M.aA.length:=(List.getElem?_eq_some_iff.1 hk).1
 have aak:k<E.ar.length:=h.aY▸hlt
 have har:∀j,j≠k→(E.ar.set k loc)[j]?=E.ar[j]?:=fun j hj=>by rw[List.getElem?_set];simp[Ne.symm hj]
 have ahu:(E.ar.set k loc)[k]?=some loc:=by simp[aak]
 have hown:∀b o' e',E.ar[k]?=some (some (b,o',e'))→owned M E b:=fun b o' e' he=> .inr ⟨k,A,o',e',hk,hst,he⟩
 have hXk:∀b o' e',E.ar[k]?=some (some (b,o',e'))→¬X b:=fun b o' e' he=>((h.arr k A hk).2.2.2 b o' e' he).1
 have hf:From w M E w' {M with aA:=M.aA.set k (some A')} {E with ar:=E.ar.set k loc}:=
  {os:=hos,tape:=htape,output:=hout,size:=hsize
   keep:=fun b o hb ho=>hkeep b o (fun o' e' he=>hb (hown b o' e' he)) ho
   own:=by
    rintro b (⟨i,cs,h1,h2,h3⟩|⟨j,B,o,e,h1,h2,h3⟩)
    ·exact .inl (.inl ⟨i,cs,h1,h2,h3⟩)
    ·rcases aH h1 with⟨rfl,hB⟩|⟨hne,h1'⟩
     ·simp only[ahu,Option.some.injEq]at h3
      rcases(hloc b o e h3).1 with hh|⟨o',e',he⟩
      ·exact .inr hh
      ·exact .inl (hown b o' e' he)
     ·simp only[har j hne]at h3
      exact .inl (.inr ⟨j,B,o,e,h1',h2,h3⟩)
   ig:=Nat.le_refl _
   bx:=fun b cs hb=>⟨rfl,cs,hb,rfl⟩
   aY:=by simp
   ar:=fun j B hj hB=>by
    rcases aH hB with⟨rfl,hBe⟩|⟨hne,hB'⟩
    ·cases hBe
     exact⟨A,hk,by omega,fun he=>by omega⟩
    ·exact⟨B,hB',Nat.le_refl _,fun _=>⟨har j hne,rfl,rfl,fun _=>rfl⟩⟩}
 have aot:∀b o,X b→w.heap[b]?=some o→w'.heap[b]?=some o:=fun b o hb ho=>hkeep b o (fun o' e' he=>hXk b o' e' he hb) ho
 refine⟨?_,hf⟩
 exact
  {glob:=C.keeps w w' h.glob fun b hb=>by
    have hlt:=h.xlt b (h.iE b hb)
    obtain⟨o,ho⟩:∃o,w.heap[b]?=some o:=⟨_,Array.getElem?_eq_getElem hlt⟩
    rw[ho,aot b o (h.iE b hb) ho]
   iE:=h.iE
   xlt:=fun b hb=>Nat.lt_of_lt_of_le (h.xlt b hb) hsize
   ig:=h.ig
   aY:=by simp[h.aY]
   box:=fun b cs hb=>by
    obtain⟨blk,h1,h2,h3⟩:=h.box b cs hb
    exact⟨blk,h1,h2,h3.from hf fun _ ho=>hkeep blk _ (fun o' e' he=>h.ba b k cs A blk o' e' hb hk h1 he) ho⟩
   arr:=fun j B hB=>by
    rcases aH hB with⟨rfl,hBe⟩|⟨hne,hB'⟩
    ·cases hBe
     refine⟨hsz,hfit,fun hs=> ?_,fun blk o e he=> ?_⟩
     ·cases hl:loc with
      |none=>exact absurd hl (hst' hs)
      |some q=>exact⟨q,hl▸ahu⟩
     ·simp only[ahu,Option.some.injEq]at he
      obtain⟨g0,vs,T,g2,g3,g4,g5⟩:=hloc blk o e he
      refine⟨?_,vs,T,g2,g3,g4,g5.from hf⟩
      rcases g0 with hh|⟨o',e',he'⟩
      ·exact fun hx=>absurd (h.xlt _ hx) (by omega)
      ·exact hXk blk o' e' he'
    ·obtain⟨h1,h2,h3,h4⟩:=h.arr j B hB'
     refine⟨h1,h2,fun hs=>by rw[har j hne];exact h3 hs,fun blk o e he=> ?_⟩
     simp only[har j hne]at he
     obtain⟨q1,vs,T,q2,q3,q4,q5⟩:=h4 blk o e he
     exact⟨q1,vs,T,hkeep blk _ (fun o' e' he'=>hne (h.aa j k B A blk o e o' e' hB' hk he he')) q2,q3,q4,q5.from hf⟩
   bb:=h.bb
   aa:=fun j j' B B' blk o e o' e' h1 h2 h3 h4=>by
    have key:∀j' B' o' e',j'≠k→M.aA[j']?=some (some B')→E.ar[j']?=some (some (blk,o',e'))→loc=some (blk,o,e)→False:=by
     intro j' B' o' e' hj h5 h6 h7
     rcases(hloc blk o e h7).1 with hh|⟨o2,e2,he2⟩
     ·exact absurd (h.Iz h5 h6) (by omega)
     ·exact hj (h.aa j' k B' A blk o' e' o2 e2 h5 hk h6 he2)
    have key':∀j' B' o e,j'≠k→M.aA[j']?=some (some B')→E.ar[j']?=some (some (blk,o,e))→loc=some (blk,o',e')→False:=by
     intro j' B' o e hj h5 h6 h7
     rcases(hloc blk o' e' h7).1 with hh|⟨o2,e2,he2⟩
     ·exact absurd (h.Iz h5 h6) (by omega)
     ·exact hj (h.aa j' k B' A blk o e o2 e2 h5 hk h6 he2)
    rcases aH h1 with⟨rfl,_⟩|⟨hne,h1'⟩<;>rcases aH h2 with⟨rfl,_⟩|⟨hne',h2'⟩
    ·rfl
    ·simp only[ahu,Option.some.injEq]at h3;simp only[har j' hne']at h4
     exact(key j' B' o' e' hne' h2' h4 h3).elim
    ·simp only[ahu,Option.some.injEq]at h4;simp only[har j hne]at h3
     exact(key' j B o e hne h1' h3 h4).elim
    ·simp only[har j hne]at h3;simp only[har j' hne']at h4
     exact h.aa j j' B B' blk o e o' e' h1' h2' h3 h4
   ba:=fun b j cs B blk o e h1 h2 h3 h4=>by
    rcases aH h2 with⟨rfl,_⟩|⟨hne,h2'⟩
    ·simp only[ahu,Option.some.injEq]at h4
     rcases(hloc blk o e h4).1 with hh|⟨o',e',he'⟩
     ·exact absurd (h.KH h1 h3) (by omega)
     ·exact h.ba b j cs A blk o' e' h1 hk h3 he'
    ·simp only[har j hne]at h4
     exact h.ba b j cs B blk o e h1 h2' h3 h4}
theorem ahs (n:Nat):∀(r c:Nat),Builtin.growBy n r c≤max c (n+(n+768) / 4):=by
 intro r
 induction r with
 |zero=>intro c;simp[Builtin.growBy];omega
 |succ r ih=>
  intro c
  simp only[Builtin.growBy]
  split
  ·omega
  ·refine Nat.le_trans (ih _) ?_
   omega
theorem nextslicecap_le (n c:Nat)(h:c<n):Builtin.nextslicecap n c≤2*n+768:=by
 unfold Builtin.nextslicecap
 split
 ·omega
 ·split
  ·omega
  ·have:=ahs n 4 c;omega
theorem X0 {P:Program}{sT xT ty e:TypeId}{i:TypeInfo}{z:Value}{sz n sLen sCap:Nat}{base:Option Addr}{x:Value}{news olds:List Value}{w:World}
  (hs:P.underlying sT=some (.slice e))(hx:∃d,P.underlying xT=some d∧∀k,d≠ .int k)(hi:P.info? e=some i)(hz:i.zero=some z)(hsz:i.size=sz)(hb:i.bytes≤1024)(hzs:z.cells.size=sz)
  (hl:(Builtin.lenOf x).run P w= .ok n w)(hn:∀w',Later w w'→(Builtin.firstCells sz n x).run P w'= .ok news.toArray w')(hnl:news.length=n*sz)
  (ho:∀w',Later w w'→(Builtin.firstCells sz sLen (.slice base sLen sCap)).run P w'= .ok olds.toArray w')(hol:olds.length=sLen*sz)
  (hlim:sLen+n≤1073741824)(h1:∀v∈news,v.oneCell'=true)
  (hroom:sLen+n≤sCap→n≠0→∃(g o:Nat) (cur:Array Value) (T:TM cur.size),base=some ⟨g,o,none⟩∧w.heap[g]?=some (.cells cur T.ty T.fr)∧o+sLen*sz+news.length≤cur.size):
  (sLen+n≤sCap∧n=0∧(Builtin.append_ #[sT,xT] ty #[.slice base sLen sCap,x]).run P w= .ok (.slice base (sLen+n) sCap) w)∨
  (sLen+n≤sCap∧n≠0∧∃(w':World) (g o:Nat) (cur:Array Value) (T:TM cur.size),(Builtin.append_ #[sT,xT] ty #[.slice base sLen sCap,x]).run P w= .ok (.slice base (sLen+n) sCap) w'∧
   base=some ⟨g,o,none⟩∧w.heap[g]?=some (.cells cur T.ty T.fr)∧Wrote g w w' (splice cur.toList (o+sLen*sz) news) T.ty T.fr)∨
  (sCap<sLen+n∧∃w' cap rest,(Builtin.append_ #[sT,xT] ty #[.slice base sLen sCap,x]).run P w= .ok (.slice (some ⟨w.heap.size,0,none⟩) (sLen+n) cap) w'∧sLen+n≤cap∧
   Later w w'∧w'.heap[w.heap.size]?=some (.cells (olds++news++rest).toArray e (0,0))∧(olds++news++rest).length=cap*sz):=by
 obtain⟨d,hd,hdk⟩:=hx
 have hsT:=run_underlying (w:=w) hs
 have hxT:=run_underlying (w:=w) hd
 by_cases hroom':sLen+n≤sCap
 ·by_cases hn0:n=0
  ·refine .inl ⟨hroom',hn0,?_⟩
   subst hn0
   have hn':=hn w (Later.refl w)
   have hnil:news=[]:=List.length_eq_zero_iff.1 (by omega)
   subst hnil
   have h0:¬sCap<sLen:=by omega
   cases base<;>simp[Builtin.append_,hsT,hxT,sizeOf,typeInfo,hi,hsz,hl,hn',h0,storeCells]
  ·obtain⟨g,o,cur,T,hbs,hg,hfit⟩:=hroom hroom' hn0
   refine .inr (.inl ⟨hroom',hn0,?_⟩)
   subst hbs
   refine⟨w.setRow g (splice cur.toList (o+sLen*sz) news).toArray,g,o,cur,T,?_,rfl,hg,yx w g cur T.ty _ hg⟩
   have hn':=hn w (Later.refl w)
   have hst:=kH P g (o+sLen*sz) T.ty T.fr news 0 cur w hg T.ok (by simpa using hfit) h1
   simp only[Nat.add_zero]at hst
   simp[Builtin.append_,hsT,hxT,sizeOf,typeInfo,hi,hsz,hl,hn',hroom',Addr.add_lit,hst,splice]
 ·refine .inr (.inr ⟨by omega,?_⟩)
  have hcap:=nextslicecap_le (sLen+n) sCap (by omega)
  have hbig:¬(Builtin.nextslicecap (sLen+n) sCap*i.bytes>2 ^ 48):=by
   have:Builtin.nextslicecap (sLen+n) sCap*i.bytes≤(2*(sLen+n)+768)*1024:=Nat.mul_le_mul hcap hb
   omega
  have hn':=hn w.drew (Later.drew w)
  have ho':=ho w.drew (Later.drew w)
  refine⟨(w.drew).alloc (.cells (olds++news++(Builtin.zeroCells z.cells ((grownCap w (sLen+n) sCap e) - (sLen+n))).toList).toArray e),grownCap w (sLen+n) sCap e,
   (Builtin.zeroCells z.cells ((grownCap w (sLen+n) sCap e) - (sLen+n))).toList,?_,grownCap_ge w _ _ _,(Later.drew w).trans (Later.alloc _ _),heap_alloc_new w.drew _,?_⟩
  ·have hbig':¬(281474976710656<Builtin.nextslicecap (sLen+n) sCap*i.bytes):=by omega
   have h63:¬((9223372036854775807:Int)<(sLen:Int)+(n:Int)):=by omega
   simp[Builtin.append_,hsT,hxT,sizeOf,typeInfo,hi,hsz,hl,hn',ho',hroom',hbig',h63,zeroValue,hz,newRow,grownCap,Question.forced]
   congr 2
   apply Array.ext'
   simp
  ·have:=grownCap_ge w (sLen+n) sCap e
   simp only[List.length_append,Array.length_toList,size_zeroCells,hol,hnl,hzs]
   rw[←Nat.add_mul,←Nat.add_mul]
   congr 1;omega
end
end Go.Am
