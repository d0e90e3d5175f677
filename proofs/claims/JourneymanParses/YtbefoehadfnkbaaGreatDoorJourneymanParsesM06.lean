/-
  Part 6 of the proof of a law of desks: an abstract machine over the model, contracts of functions, plain laws.
  Conditions: none.
-/
import Derived.Test.YtbefoehadfnkbaaGreatDoorJourneymanParsesM05
import Derived.WideKeyRuns
import Derived.Laws.MakeOwn
import Derived.Laws.BytesString
import Derived.Laws.IdiomStrings
set_option linter.all false
namespace Go.Am
section
variable {C:Ctx}{X:Nat→Prop}{w:World}{M:Mem}{E:Emb}{K:PV→Mem→Prop}{KP:DV→Mem→Prop}{O:Nat→Prop}
theorem Vq {P:Program}{t:TypeId}{k:Nat}(h:qJ (P.underlying t) k=true)(v:Value)(em:Bool)(n:Nat):(Instr.checkKey em (n+1) t v).run P w= .ok () w:=by
 unfold qJ at h
 split at h
 ·rename_i hu;simp[Instr.checkKey,run_underlying hu]
 ·rename_i hu;simp[Instr.checkKey,run_underlying hu]
 ·rename_i hu;simp[Instr.checkKey,run_underlying hu]
 ·cases h
theorem Ur {P:Program}{cs:Array Value}{em:Bool}{n:Nat}:∀{fs:List Field} {ks:List Nat} {off:Nat} {l m:List DV} {t:Bool},dO P fs ks off=true→aQ w O (cs.toList.drop off) l→dB ks l m=some t→
  ∀f∈fs,f.name≠ "_" ∧∃a,(part f.type cs f.offset).run P w= .ok a w∧(Instr.checkKey em (n+1) f.type a).run P w= .ok () w
 | [],_,_,_,_,_,_,_,_,f,hf=>by cases hf
 |f::fs,k::ks,off,l,m,t,hs,hl,hc,g,hg=>by
  simp only[dO,Bool.and_eq_true,decide_eq_true_eq]at hs
  obtain⟨⟨⟨hoff,hk⟩,hn⟩,hs⟩:=hs
  have key:∃a l' m' t',l=a::l'∧dB ks l' m'=some t':=by
   unfold dB at hc
   split at hc
   ·contradiction
   ·rename_i ks' k1 a l' k2 b m' heq
    cases heq
    split at hc
    ·rw[Option.map_eq_some_iff]at hc
     obtain⟨t2,h2,_⟩:=hc
     exact⟨_,_,_,_,rfl,h2⟩
    ·cases hc
   ·rename_i heq
    cases heq
    rw[Option.map_eq_some_iff]at hc
    obtain⟨t2,h2,_⟩:=hc
    exact⟨_,_,_,_,rfl,h2⟩
   ·rename_i heq
    cases heq
    rw[Option.map_eq_some_iff]at hc
    obtain⟨t2,h2,_⟩:=hc
    exact⟨_,_,_,_,rfl,h2⟩
   ·cases hc
  obtain⟨a,l',m',t',rfl,h2⟩:=key
  generalize hx:cs.toList.drop off=xl at hl
  cases hl with
  |cons hu hl'=>
   rename_i u us
   have hx0:cs[off]?=some u:=by
    have:(cs.toList.drop off)[0]?=some u:=by rw[hx];rfl
    simpa using this
   have hx1:cs.toList.drop (off+1)=us:=by
    rw[←List.drop_drop,hx];rfl
   rcases List.mem_cons.1 hg with rfl|hg
   ·exact⟨hn,u,by rw[hoff];exact LC hk hx0,Vq hk u em n⟩
   ·exact Ur hs (hx1▸hl') h2 g hg
 | _::_,[],_,_,_,_,hs,_,_,_,_=>by simp[dO]at hs
theorem A8 {P:Program}{key:TypeId}{fs:Array Field}{ks:List Nat}(hun:P.underlying key=some (.struct fs))(hsc:dO P fs.toList ks 0=true){xs:Array Value}{k m:List DV}{t:Bool}(hx:aQ w O xs.toList k)(hc:dB ks k m=some t)(em:Bool):
  (Instr.checkKey em 10000 key (.agg xs)).run P w= .ok () w:=by
 have each:=Ur (em:=em) (n:=9998) hsc (by simpa using hx) hc
 rw[show(10000:Nat)=9999+1 from rfl,Instr.checkKey]
 simp only[Sem.run_bind,run_underlying hun,Result.andThen_ok]
 rw[←Array.forIn_toList]
 generalize fs.toList=L at each
 induction L with
 |nil=>simp
 |cons f L ih=>
  obtain⟨hn,a,p1,p2⟩:=each f (by simp)
  simp only[List.forIn_cons,Sem.run_bind,hn,ne_eq,not_false_eq_true,if_true,Result.andThen_ok,p1,p2,Sem.run_pure]
  exact ih (fun y hy=>each y (by simp[hy]))
theorem Y4 {P:Program}{key:TypeId}{fs:Array Field}{ks:List Nat}(hun:P.underlying key=some (.struct fs))(hsc:dO P fs.toList ks 0=true)(hst:P.stoodInHeld key=false){xs:Array Value}{k:List DV}(hx:aQ w O xs.toList k):
  ∀(es:List MapEntry) (l:List (DV×DV)) (i:Nat) (r:Option DV),aQ w O (es.map (·.key)) (l.map (·.1))→aQ w O (es.map (·.val)) (l.map (·.2))→I4 ks l k=some r→
  ∃x,(Instr.findAsking key (.agg xs) es i).run P w= .ok x w∧((r=none∧x=none)∨∃dv j v,r=some dv∧x=some (j,v)∧bf w O v dv)
 | [],[],i,r,_,_,h=>by
  simp only[I4,Option.some.injEq]at h
  exact⟨none,by simp[Instr.findAsking], .inl ⟨h.symm,rfl⟩⟩
 |e::es,(dk,dv)::l,i,r,h1,h2,h=>by
  simp only[List.map_cons]at h1 h2
  cases h1 with
  |cons hk hks=>cases h2 with
   |cons hv hvs=>
    have hdk:∃k',dk= .agg k':=by cases dk<;>first|exact⟨_,rfl⟩|(simp[I4]at h)
    obtain⟨k',rfl⟩:=hdk
    obtain⟨ys,e2,hy⟩:=hk.zH
    have heq:∀t,dB ks k k'=some t→(Op.equal key (.agg xs) e.key).run P w= .ok t w:=by
     intro t ht
     show(Op.equalIn 10000 key (.agg xs) e.key).run P w= .ok t w
     have hfo:P.fieldsOf key=fs:=by simp[Program.fieldsOf,hun]
     rw[e2,run_equalIn_agg w 9999 key xs ys (by rw[hfo];exact hun) hst,hfo]
     exact wP 9998 hsc (by simpa using hx) (by simpa using hy) ht
    cases hc:dB ks k k' with
    |none=>simp[I4,hc]at h
    |some b=>
     cases b with
     |true=>
      simp only[I4,hc,Option.some.injEq]at h
      exact⟨some (i,e.val),by simp[Instr.findAsking,heq _ hc], .inr ⟨_,_,_,h.symm,rfl,hv⟩⟩
     |false=>
      simp only[I4,hc]at h
      obtain⟨x,g1,g2⟩:=Y4 hun hsc hst hx es l (i+1) r hks hvs h
      exact⟨x,by simp[Instr.findAsking,heq _ hc,g1],g2⟩
 | [],_::_,_,_,h1,_,_=>by simp at h1;cases h1
 | _::_,[],_,_,h1,_,_=>by simp at h1;cases h1
theorem ad4 {ρ:Operand→Value}{o:Oper}{t:TypeId}{x i:Operand}{c:Bool}{ks:List Nat}{z:DV}(ho:o.op= .lookup t x i c){args:List PV}(hS:Sim C X w M E)(hA:aK w (away X M E) M E ((opsOf o.op).map ρ) args)
  (hok:aI C.P (.lookup t x i c) (.Xb ks z)=true){base:Nat}(h:aj C base (.Xb ks z) args M K KP):dZ C X w M E K KP ((execOp ρ o).run C.P w):=by
 simp only[aI,Bool.and_eq_true,Bool.not_eq_true']at hok
 obtain⟨rfl,hty⟩:=hok
 split at hty
 ·rename_i key e hun
  simp only[Bool.and_eq_true]at hty
  obtain⟨hkey,hz⟩:=hty
  split at hkey
  ·rename_i fs aeI
   simp only[Bool.and_eq_true,Bool.not_eq_true']at hkey
   obtain⟨hsc,hst⟩:=hkey
   split at hz
   ·rename_i inf jJ
    split at hz
    ·rename_i z' hz'
     simp only[ho,opsOf,List.map_cons,List.map_nil]at hA
     simp only[aj]at h
     split at h
     ·rename_i l k
      obtain⟨v,u',he,hr,hr2⟩:=dJ hA
      simp only[List.cons.injEq,and_true]at he
      obtain⟨rfl,rfl⟩:=he
      split at h
      ·rename_i r hc hl
       obtain⟨xs,e1,hx⟩:=hr2.toD.zH
       have hm:=hr.toD
       generalize hvv:ρ x=vv at hm
       cases hm with
       |map hb ho' hk hv=>
        rename_i blk es clock
        obtain⟨y,g1,g2⟩:=Y4 (P:=C.P) aeI hsc hst hx es.toList l 0 r hk hv hl
        have hck:=A8 (P:=C.P) aeI hsc hx hc es.isEmpty
        have hfk:(Instr.findKey key (.agg xs) es.toList).run C.P w= .ok y w:=by
         rw[run_findKey_eq (P:=C.P) w (by rw[aeI])];exact g1
        have hzv:(zeroValue e).run C.P w= .ok z' w:=by simp[zeroValue,typeInfo,jJ,hz']
        have hget:(getObj blk).run C.P w= .ok (.map es clock) w:=by simp[getObj,Sem.run,hb]
        rcases g2 with⟨rfl,rfl⟩|⟨dv,j,v,rfl,rfl,hvr⟩
        ·have hrun:(execOp ρ o).run C.P w= .ok (.value z') w:=by
          simp only[execOp,ho,Instr.lookup,Sem.run_bind,run_underlying hun,Result.andThen_ok,hvv,e1,hget,Sem.run_pure,hck,hfk,hzv]
          simp
         rw[hrun]
         exact .same hS h (.d (ng hz))
        ·have hrun:(execOp ρ o).run C.P w= .ok (.value v) w:=by
          simp only[execOp,ho,Instr.lookup,Sem.run_bind,run_underlying hun,Result.andThen_ok,hvv,e1,hget,Sem.run_pure,hck,hfk]
          simp
         rw[hrun]
         exact .same hS h (.d hvr)
      ·exact h.elim
     ·exact h.elim
    ·cases hz
   ·cases hz
  ·cases hkey
 ·cases hty
theorem aiR {ρ:Operand→Value}{o:Oper}{xt t t':TypeId}{x:Operand}{c:Bool}{z:DV}(ho:o.op= .typeAssert x xt t c){args:List PV}(hS:Sim C X w M E)(hA:aK w (away X M E) M E ((opsOf o.op).map ρ) args)
  (hok:aI C.P (.typeAssert x xt t c) (.tas t' z)=true){base:Nat}(h:aj C base (.tas t' z) args M K KP):dZ C X w M E K KP ((execOp ρ o).run C.P w):=by
 simp only[aI,Bool.and_eq_true,decide_eq_true_eq]at hok
 obtain⟨⟨⟨rfl,rfl⟩,hu⟩,hz⟩:=hok
 split at hz
 ·rename_i inf jJ
  split at hz
  ·rename_i z' hz'
   simp only[ho,opsOf,List.map_cons,List.map_nil]at hA
   simp only[aj]at h
   split at h
   ·rename_i t2 d
    obtain⟨v,he,hr⟩:=eG hA
    simp only[List.cons.injEq,and_true]at he
    subst he
    have hd:=hr.toD
    generalize hvv:ρ x=vv at hd
    cases hd with
    |iface hv=>
     rename_i v
     have hzv:(zeroValue t).run C.P w= .ok z' w:=by simp[zeroValue,typeInfo,jJ,hz']
     by_cases e:t2=t
     ·have hrun:(execOp ρ o).run C.P w= .ok (.value (.tuple #[v, .bool true])) w:=by
       simp only[execOp,ho,Instr.typeAssert,hvv]
       cases hun:C.P.underlying t with
       |none=>simp[hun]at hu
       |some d=>cases d<;>simp_all[run_underlying hun]
      rw[hrun]
      refine .same hS h (.d (.tup (.cons ?_ (.cons ?_ .nil))))
      ·rw[if_pos e];exact hv
      ·simp only[e,decide_true];exact .bool _
     ·have hrun:(execOp ρ o).run C.P w= .ok (.value (.tuple #[z', .bool false])) w:=by
       simp only[execOp,ho,Instr.typeAssert,hvv]
       cases hun:C.P.underlying t with
       |none=>simp[hun]at hu
       |some d=>cases d<;>simp_all[run_underlying hun]
      rw[hrun]
      refine .same hS h (.d (.tup (.cons ?_ (.cons ?_ .nil))))
      ·rw[if_neg e];exact ng hz
      ·simp only[e,decide_false];exact .bool _
   ·exact h.elim
  ·cases hz
 ·cases hz
structure Put (g:Nat) (w w':World) (o:Obj):Prop where
 os:w'.os=w.os
 tape:w'.tape=w.tape
 output:w'.output=w.output
 size:w'.heap.size=w.heap.size
 at_:w'.heap[g]?=some o
 keep:∀b,b≠g→w'.heap[b]?=w.heap[b]?
theorem Q8 (w:World)(g:Nat)(o:Obj)(h:g<w.heap.size):Put g w {w with heap:=w.heap.setIfInBounds g o} o:={
 os:=rfl
 tape:=rfl
 output:=rfl
 size:=by simp
 at_:=by simp[h]
 keep:=fun b hb=>by simp[Array.getElem?_setIfInBounds_ne (Ne.symm hb)]}
theorem Put.jC {g:Nat}{o':Obj}{w w':World}(h:Put g w w' o'){b:Nat}{o:Obj}(hb:b≠g)(ho:w.heap[b]?=some o):w'.heap[b]?=some o:=(h.keep b hb).trans ho
theorem RQ {w':World}{b blk:Nat}{cs cs':List PV}{o:Obj}(h:Sim C X w M E)(hb:M.boxes[b]?=some (some cs))(hfz:b∉M.fz)(ho:isObj cs=true)(ho':isObj cs'=true)
  (he:E.bx[b]?=some blk)(hw:Put blk w w' o)
  (hat:From w M E w' {M with boxes:=M.boxes.set b (some cs')} E→pI w' (away X {M with boxes:=M.boxes.set b (some cs')} E) {M with boxes:=M.boxes.set b (some cs')} E blk cs'):
  Sim C X w' {M with boxes:=M.boxes.set b (some cs')} E∧From w M E w' {M with boxes:=M.boxes.set b (some cs')} E:=by
 have hlt:b<M.boxes.length:=(List.getElem?_eq_some_iff.1 hb).1
 have hown:owned M E blk:= .inl ⟨b,cs,hb,hfz,he⟩
 have hX:¬X blk:=by
  obtain⟨blk',h1,h2,_⟩:=h.box b cs hb
  rw[he]at h1;cases h1;exact h2
 have hlive:∀(i:Nat) (c:List PV),(M.boxes.set b (some cs'))[i]?=some (some c)→∃c':List PV,M.boxes[i]?=some (some c'):=by
  intro i c hi
  rcases aH hi with⟨rfl,_⟩|⟨_,hi'⟩
  ·exact⟨cs,hb⟩
  ·exact⟨c,hi'⟩
 have hf:From w M E w' {M with boxes:=M.boxes.set b (some cs')} E:=
  {os:=hw.os,tape:=hw.tape,output:=hw.output,size:=Nat.le_of_eq hw.size.symm
   keep:=fun i o hi ho=>hw.jC (fun e=>hi (e▸hown)) ho
   own:=by
    rintro i (⟨j,c,h1,h2,h3⟩|⟨k,A,o,e,h1,h2,h3⟩)
    ·obtain⟨c',h1'⟩:=hlive j c h1
     exact .inl (.inl ⟨j,c',h1',h2,h3⟩)
    ·exact .inl (.inr ⟨k,A,o,e,h1,h2,h3⟩)
   ig:=by simp
   bx:=fun i c hi=>by
    refine⟨rfl,?_⟩
    by_cases hib:i=b
    ·subst hib;rw[hb]at hi;cases hi;exact⟨cs',by simp[hlt],ho'.trans ho.symm⟩
    ·exact⟨c,by rw[List.getElem?_set];simp[Ne.symm hib,hi],rfl⟩
   aY:=Nat.le_refl _
   ar:=fun _ A' _ h=>⟨A',h,Nat.le_refl _,fun _=>⟨rfl,rfl,rfl,fun _=>rfl⟩⟩}
 refine⟨?_,hf⟩
 exact
  {glob:=C.keeps w w' h.glob fun b hb=>hw.keep b (fun e=>hX (e▸h.iE b hb)),iE:=h.iE
   xlt:=fun i hi=>by rw[hw.size];exact h.xlt i hi
   ig:=by simp[h.ig]
   aY:=h.aY
   box:=fun i c hi=>by
    rcases aH hi with⟨rfl,hcs⟩|⟨hne,hi'⟩
    ·cases hcs
     exact⟨blk,he,hX,hat hf⟩
    ·obtain⟨blk',h1,h2,h3⟩:=h.box i c hi'
     have hne':blk'≠blk:=fun e=>hne (h.bb i b c cs blk hi' hb (e▸h1) he)
     exact⟨blk',h1,h2,h3.from hf fun _ ho=>hw.jC hne' ho⟩
   arr:=fun k A hA=>by
    obtain⟨h1,h2,h3,h4⟩:=h.arr k A hA
    refine⟨h1,h2,h3,fun blk' o e hk=> ?_⟩
    obtain⟨g1,vs',T',g2,g3,g4,g5⟩:=h4 blk' o e hk
    have hne':blk'≠blk:=fun e'=>h.ba b k cs A blk o e hb hA he (e'▸hk)
    exact⟨g1,vs',T',hw.jC hne' g2,g3,g4,g5.from hf⟩
   bb:=fun i j cs1 cs2 blk' h1 h2 h3 h4=>by
    obtain⟨d1,h1'⟩:=hlive i cs1 h1
    obtain⟨d2,h2'⟩:=hlive j cs2 h2
    exact h.bb i j d1 d2 blk' h1' h2' h3 h4
   aa:=h.aa
   ba:=fun i k cs1 A blk' o e h1 h2 h3 h4=>by
    obtain⟨d1,h1'⟩:=hlive i cs1 h1
    exact h.ba i k d1 A blk' o e h1' h2 h3 h4}
theorem aaR {id:Nat}{o:Obj}{cs:List PV}(h:Sim C X w M E)(hid:M.boxes[id]?=some none)
  (hat:From w M E (w.alloc o) {M with boxes:=M.boxes.set id (some cs)} {E with bx:=E.bx.set id w.heap.size}→
   pI (w.alloc o) (away X {M with boxes:=M.boxes.set id (some cs)} {E with bx:=E.bx.set id w.heap.size}) {M with boxes:=M.boxes.set id (some cs)} {E with bx:=E.bx.set id w.heap.size} w.heap.size cs):
  Sim C X (w.alloc o) {M with boxes:=M.boxes.set id (some cs)} {E with bx:=E.bx.set id w.heap.size}∧
  From w M E (w.alloc o) {M with boxes:=M.boxes.set id (some cs)} {E with bx:=E.bx.set id w.heap.size}:=by
 have hlt:id<M.boxes.length:=(List.getElem?_eq_some_iff.1 hid).1
 have aak:id<E.bx.length:=h.ig▸hlt
 have hbx:∀b,b≠id→(E.bx.set id w.heap.size)[b]?=E.bx[b]?:=fun b hb=>by rw[List.getElem?_set];simp[Ne.symm hb]
 have hbi:(E.bx.set id w.heap.size)[id]?=some w.heap.size:=by simp[aak]
 have hf:From w M E (w.alloc o) {M with boxes:=M.boxes.set id (some cs)} {E with bx:=E.bx.set id w.heap.size}:=
  {os:=rfl,tape:=rfl,output:=rfl,size:=by simp
   keep:=fun b o _ ho=>(Later.alloc w _).jC ho
   own:=by
    rintro b (⟨i,cs',h1,h2,h3⟩|⟨k,A,o,e,h1,h2,h3⟩)
    ·rcases aH h1 with⟨rfl,_⟩|⟨hne,h1'⟩
     ·rw[hbi]at h3;cases h3;exact .inr (Nat.le_refl _)
     ·rw[hbx i hne]at h3;exact .inl (.inl ⟨i,cs',h1',h2,h3⟩)
    ·exact .inl (.inr ⟨k,A,o,e,h1,h2,h3⟩)
   ig:=by simp
   bx:=fun b cs' hb=>by
    have hne:b≠id:=by rintro rfl;rw[hid]at hb;cases hb
    exact⟨hbx b hne,cs',by rw[List.getElem?_set];simp[Ne.symm hne,hb],rfl⟩
   aY:=Nat.le_refl _
   ar:=fun _ A' _ h=>⟨A',h,Nat.le_refl _,fun _=>⟨rfl,rfl,rfl,fun _=>rfl⟩⟩}
 refine⟨?_,hf⟩
 exact
  {glob:=C.keeps w _ h.glob fun b hb=>(Later.alloc w _).keep b (h.xlt b (h.iE b hb)),iE:=h.iE
   xlt:=fun b hb=>by have:=h.xlt b hb;simp;omega
   ig:=by simp[h.ig]
   aY:=h.aY
   box:=fun b cs' hb=>by
    rcases aH hb with⟨rfl,hcs⟩|⟨hne,hb'⟩
    ·cases hcs
     exact⟨w.heap.size,hbi,fun hx=>absurd (h.xlt _ hx) (by omega),hat hf⟩
    ·obtain⟨blk,h1,h2,h3⟩:=h.box b cs' hb'
     exact⟨blk,(hbx b hne).trans h1,h2,h3.from hf fun _ ho=>(Later.alloc w _).jC ho⟩
   arr:=fun k A hA=>by
    obtain⟨h1,h2,h3,h4⟩:=h.arr k A hA
    refine⟨h1,h2,h3,fun blk o e he=> ?_⟩
    obtain⟨g1,vs,T,g2,g3,g4,g5⟩:=h4 blk o e he
    exact⟨g1,vs,T,(Later.alloc w _).jC g2,g3,g4,g5.from hf⟩
   bb:=fun b b' cs1 cs2 blk h1 h2 h3 h4=>by
    rcases aH h1 with⟨rfl,_⟩|⟨hne,h1'⟩<;>rcases aH h2 with⟨rfl,_⟩|⟨hne',h2'⟩
    ·rfl
    ·rw[hbi]at h3;cases h3;rw[hbx b' hne']at h4;exact absurd (h.KH h2' h4) (by omega)
    ·rw[hbi]at h4;cases h4;rw[hbx b hne]at h3;exact absurd (h.KH h1' h3) (by omega)
    ·rw[hbx b hne]at h3;rw[hbx b' hne']at h4;exact h.bb b b' cs1 cs2 blk h1' h2' h3 h4
   aa:=h.aa
   ba:=fun b k cs1 A blk o e h1 h2 h3 h4=>by
    rcases aH h1 with⟨rfl,_⟩|⟨hne,h1'⟩
    ·rw[hbi]at h3;cases h3;exact absurd (h.Iz h2 h4) (by omega)
    ·rw[hbx b hne]at h3;exact h.ba b k cs1 A blk o e h1' h2 h3 h4}
theorem ad1 {ρ:Operand→Value}{o:Oper}{t:TypeId}{i:Nat}(ho:o.op= .makeMap t none){args:List PV}(hS:Sim C X w M E)
  {base:Nat}(h:aj C base (.mkMap i) args M K KP):dZ C X w M E K KP ((execOp ρ o).run C.P w):=by
 simp only[aj]at h
 split at h
 ·obtain⟨h1,h2⟩:=h
  have hlt:base+i<M.boxes.length:=(List.getElem?_eq_some_iff.1 h1).1
  have aak:base+i<E.bx.length:=hS.ig▸hlt
  have hrun:(execOp ρ o).run C.P w= .ok (.value (.map (some w.heap.size))) (w.alloc (.map #[] 0)):=by
   simp only[execOp,ho,Option.map_none];rfl
  rw[hrun]
  obtain⟨g1,g2⟩:=aaR (o:= .map #[] 0) (cs:=[.iY []]) hS h1 fun _=>⟨#[],0,heap_alloc_new w _, .nil, .nil⟩
  exact⟨_,_,_,h2,g1,g2, .mref (cs:=[.iY []]) (by simp[hlt]) (by simp[aak]) rfl⟩
 ·exact h.elim
theorem WB {P:Program}{key:TypeId}{fs:Array Field}{ks:List Nat}(hun:P.underlying key=some (.struct fs))(hsc:dO P fs.toList ks 0=true)(hst:P.stoodInHeld key=false){xs:Array Value}{k:List DV}(hx:aQ w O xs.toList k){v:DV}:
  ∀(es:List MapEntry) (l l':List (DV×DV)) (i:Nat),aQ w O (es.map (·.key)) (l.map (·.1))→aQ w O (es.map (·.val)) (l.map (·.2))→QG ks l k v=some l'→
  ∃x,(Instr.findAsking key (.agg xs) es i).run P w= .ok x w∧((x=none∧l'=l++ [(.agg k,v)])∨
   ∃j u k' e,x=some (i+j,u)∧es[j]?=some e∧j<l.length∧bf w O e.key (.agg k')∧dB ks k k'=some true∧l'=l.set j (.agg k,v))
 | [],[],l',i,_,_,h=>by
  simp only[QG,Option.some.injEq]at h
  subst h
  exact⟨none,by simp[Instr.findAsking], .inl ⟨rfl,rfl⟩⟩
 |e::es,(dk,dv)::l,l',i,h1,h2,h=>by
  simp only[List.map_cons]at h1 h2
  cases h1 with
  |cons hk hks=>cases h2 with
   |cons hv hvs=>
    have hdk:∃k',dk= .agg k':=by cases dk<;>first|exact⟨_,rfl⟩|(simp[QG]at h)
    obtain⟨k',rfl⟩:=hdk
    obtain⟨ys,e2,hy⟩:=hk.zH
    have heq:∀t,dB ks k k'=some t→(Op.equal key (.agg xs) e.key).run P w= .ok t w:=by
     intro t ht
     show(Op.equalIn 10000 key (.agg xs) e.key).run P w= .ok t w
     have hfo:P.fieldsOf key=fs:=by simp[Program.fieldsOf,hun]
     rw[e2,run_equalIn_agg w 9999 key xs ys (by rw[hfo];exact hun) hst,hfo]
     exact wP 9998 hsc (by simpa using hx) (by simpa using hy) ht
    cases hc:dB ks k k' with
    |none=>simp[QG,hc]at h
    |some b=>
     cases b with
     |true=>
      simp only[QG,hc,Option.some.injEq]at h
      exact⟨some (i,e.val),by simp[Instr.findAsking,heq _ hc], .inr ⟨0,e.val,k',e,rfl,rfl,by simp,hk,hc,h.symm⟩⟩
     |false=>
      simp only[QG,hc,Option.map_eq_some_iff]at h
      obtain⟨l2,h3,rfl⟩:=h
      obtain⟨x,g1,g2⟩:=WB hun hsc hst hx es l l2 (i+1) hks hvs h3
      refine⟨x,by simp[Instr.findAsking,heq _ hc,g1],?_⟩
      rcases g2 with⟨rfl,rfl⟩|⟨j,u,k2,e',rfl,q1,q2,q3,q4,rfl⟩
      ·exact .inl ⟨rfl,rfl⟩
      ·exact .inr ⟨j+1,u,k2,e',by simp;omega,by simpa using q1,by simp;omega,q3,q4,rfl⟩
 | [],_::_,_,_,h1,_,_=>by simp at h1;cases h1
 | _::_,[],_,_,h1,_,_=>by simp at h1;cases h1
theorem VX {ks:List Nat}:∀{vs us:List Value} {k k':List DV},aQ w O vs k→aQ w O us k'→dB ks k k'=some true→vs.length=us.length∧((us.zip vs).all fun(x,y)=>Instr.sameBits 9999 x y)=true:=by
 induction ks with
 |nil=>
  intro vs us k k' h1 h2 h
  cases h1 with
  |nil=>cases h2 with
   |nil=>exact⟨rfl,rfl⟩
   |cons _ _=>simp[dB]at h
  |cons _ _=>simp[dB]at h
 |cons a ks ih=>
  intro vs us k k' h1 h2 h
  unfold dB at h
  split at h
  ·contradiction
  ·rename_i ks' k1 n l k2 m m' heq
   cases heq
   cases h1 with
   |cons hv h1=>cases h2 with
    |cons hu h2=>
     split at h
     ·rename_i hk
      subst hk
      rw[Option.map_eq_some_iff]at h
      obtain⟨t,h3,h4⟩:=h
      simp only[Bool.and_eq_true,beq_iff_eq]at h4
      obtain⟨rfl,rfl⟩:=h4
      obtain⟨q1,q2⟩:=ih h1 h2 h3
      rw[hv.fA,hu.fA]
      exact⟨by simp[q1],by simp only[List.zip_cons_cons,List.all_cons,q2,Bool.and_true];simp[Instr.sameBits]⟩
     ·cases h
  ·rename_i ks' b l b' m' heq
   cases heq
   cases h1 with
   |cons hv h1=>cases h2 with
    |cons hu h2=>
     rw[Option.map_eq_some_iff]at h
     obtain⟨t,h3,h4⟩:=h
     simp only[Bool.and_eq_true,beq_iff_eq]at h4
     obtain⟨rfl,rfl⟩:=h4
     obtain⟨q1,q2⟩:=ih h1 h2 h3
     rw[hv.pO,hu.pO]
     exact⟨by simp[q1],by simp only[List.zip_cons_cons,List.all_cons,q2,Bool.and_true];simp[Instr.sameBits]⟩
  ·rename_i ks' b l b' m' heq
   cases heq
   cases h1 with
   |cons hv h1=>cases h2 with
    |cons hu h2=>
     rw[Option.map_eq_some_iff]at h
     obtain⟨t,h3,h4⟩:=h
     simp only[Bool.and_eq_true,beq_iff_eq]at h4
     obtain⟨h5,rfl⟩:=h4
     obtain⟨q1,q2⟩:=ih h1 h2 h3
     rw[hv.uT,hu.uT]
     have h6:b=b':=by
      cases b;cases b'
      simp only[ByteArray.toList_eq]at h5
      simpa using h5
     subst h6
     have h7:(b==b)=true:=by cases b with|mk d=>show(d==d)=true;exact beq_self_eq_true d
     exact⟨by simp[q1],by simp only[List.zip_cons_cons,List.all_cons,q2,Bool.and_true];simp only[Instr.sameBits,h7]⟩
  ·cases h
theorem agS {ρ:Operand→Value}{o:Oper}{t:TypeId}{x i y:Operand}{ks:List Nat}(ho:o.op= .mapUpdate t x i y){args:List PV}(hS:Sim C X w M E)(hA:aK w (away X M E) M E ((opsOf o.op).map ρ) args)
  (hok:aI C.P (.mapUpdate t x i y) (.ae3 ks)=true){base:Nat}(h:aj C base (.ae3 ks) args M K KP):dZ C X w M E K KP ((execOp ρ o).run C.P w):=by
 simp only[aI]at hok
 split at hok
 ·rename_i key e hun
  split at hok
  ·rename_i fs aeI
   simp only[Bool.and_eq_true,Bool.not_eq_true']at hok
   obtain⟨hsc,hst⟩:=hok
   simp only[ho,opsOf,List.map_cons,List.map_nil]at hA
   simp only[aj]at h
   split at h
   ·rename_i b k v
    obtain⟨v1,v2,v3,he,hr,hr2,hr3⟩:=PX hA
    simp only[List.cons.injEq,and_true]at he
    obtain⟨rfl,rfl,rfl⟩:=he
    split at h
    ·rename_i l hbox
     obtain⟨hfz,h⟩:=h
     split at h
     ·rename_i l' hc hl
      have hbx:M.boxes[b]?=some (some [.iY l]):=by
       unfold Mem.box at hbox
       split at hbox
       ·rename_i cs hcs;cases hbox;exact hcs
       ·cases hbox
      obtain⟨xs,e1,hx⟩:=hr2.toD.zH
      generalize hvv:ρ x=vv at hr
      cases hr with
      |mref hlb hbb hob=>
       rename_i blk cs
       rw[hbx]at hlb;cases hlb
       obtain⟨blk',q1,q2,q3⟩:=hS.box b _ hbx
       rw[hbb]at q1;cases q1
       obtain⟨es,clock,hb,hk,hv⟩:=q3
       obtain⟨z,g1,g2⟩:=WB (P:=C.P) (v:=v) aeI hsc hst hx es.toList l l' 0 hk hv hl
       have hck:=A8 (P:=C.P) aeI hsc hx hc false
       have hfk:(Instr.findKey key (.agg xs) es.toList).run C.P w= .ok z w:=by
        rw[run_findKey_eq (P:=C.P) w (by rw[aeI])];exact g1
       have hget:(getObj blk).run C.P w= .ok (.map es clock) w:=by simp[getObj,Sem.run,hb]
       have hlt:=bT hb
       have hset:∀o':Obj,(setObj blk o').run C.P w= .ok () {w with heap:=w.heap.setIfInBounds blk o'}:=fun o'=>by simp[setObj,Sem.run,hb]
       have fin:∀(es':Array MapEntry) (clock':Nat),aQ w (away X M E) (es'.toList.map (·.key)) (l'.map (·.1))→aQ w (away X M E) (es'.toList.map (·.val)) (l'.map (·.2))→
         dZ C X w M E K KP (.ok .skip {w with heap:=w.heap.setIfInBounds blk (.map es' clock')}):=by
        intro es' clock' p1 p2
        obtain⟨s1,s2⟩:=RQ (cs':=[.iY l']) hS hbx hfz rfl rfl hbb (Q8 w blk (.map es' clock') hlt) fun hf=>⟨es',clock',by simp[hlt],p1.from hf,p2.from hf⟩
        exact⟨_,_,h,s1,s2⟩
       rcases g2 with⟨rfl,rfl⟩|⟨j,u,k',en,rfl,p1,p2,p3,p4,rfl⟩
       ·have hrun:(execOp ρ o).run C.P w= .ok .skip {w with heap:=w.heap.setIfInBounds blk (.map (es.push {key:= .agg xs,val:=ρ y,born:=clock}) (clock+1))}:=by
         simp only[execOp,ho,Instr.mapUpdate,Sem.run_bind,run_underlying hun,Result.andThen_ok,hvv,e1,hget,hck,hfk,hset]
         simp[Sem.run_pure]
        rw[hrun]
        refine fin _ _ ?_ ?_
        ·simpa using hk.append (.cons (.agg hx) .nil)
        ·simpa using hv.append (.cons hr3.toD .nil)
       ·obtain⟨ys,e2,hy⟩:=p3.zH
        obtain⟨b1,b2⟩:=VX hx hy p4
        have ajr:Instr.sameBits 10000 (.agg ys) (.agg xs)=true:=by
         simp only[Instr.sameBits,Bool.and_eq_true,beq_iff_eq]
         exact⟨by simpa using b1.symm,b2⟩
        have hj:es[j]?=some en:=by simpa using p1
        have hjlt:j<es.size:=bT hj
        have ajz:(Instr.keyThatStays (((es[j]?).map (·.key)).getD (.agg xs)) (.agg xs)).run C.P w= .ok (.agg xs) w:=by
         simp only[hj,Option.map_some,Option.getD_some,e2,Instr.keyThatStays,ajr,if_true,Sem.run_pure]
        have hrun:(execOp ρ o).run C.P w= .ok .skip {w with heap:=w.heap.setIfInBounds blk (.map (es.modify j fun e=>{e with key:= .agg xs,val:=ρ y}) clock)}:=by
         simp only[Nat.zero_add]at hfk
         simp only[execOp,ho,Instr.mapUpdate,Sem.run_bind,run_underlying hun,Result.andThen_ok,hvv,e1,hget,hck,hfk,ajz,hset]
         simp[Sem.run_pure]
        rw[hrun]
        have hm:(es.modify j fun e=>{e with key:= .agg xs,val:=ρ y}).toList=es.toList.set j {en with key:= .agg xs,val:=ρ y}:=by
         apply List.ext_getElem?
         intro q
         rw[List.getElem?_set]
         simp only[Array.getElem?_toList,Array.getElem?_modify]
         by_cases hq:j=q
         ·subst hq;rw[if_pos rfl,if_pos rfl,hj,if_pos (by simpa using hjlt)];rfl
         ·rw[if_neg hq,if_neg hq]
        refine fin _ _ ?_ ?_
        ·rw[hm,List.map_set,List.map_set];exact hk.set j (.agg hx)
        ·rw[hm,List.map_set,List.map_set];exact hv.set j hr3.toD
     ·exact h.elim
    ·exact h.elim
   ·exact h.elim
  ·cases hok
 ·cases hok
end
section
variable {C:Ctx}{X:Nat→Prop}{w:World}{M:Mem}{E:Emb}{K:PV→Mem→Prop}{KP:DV→Mem→Prop}{O:Nat→Prop}
theorem ad2 {ρ:Operand→Value}{o:Oper}{t:TypeId}{l c:Operand}{sz:Nat}{z:DV}(ho:o.op= .makeSlice t l c){args:List PV}(hS:Sim C X w M E)(hA:aK w (away X M E) M E ((opsOf o.op).map ρ) args)
  (hok:aI C.P (.makeSlice t l c) (.mkRow sz z)=true){base:Nat}(h:aj C base (.mkRow sz z) args M K KP):dZ C X w M E K KP ((execOp ρ o).run C.P w):=by
 simp only[aI]at hok
 split at hok
 ·rename_i e hun
  split at hok
  ·rename_i inf jJ
   split at hok
   ·rename_i z' hz
    simp only[Bool.and_eq_true,beq_iff_eq,decide_eq_true_eq]at hok
    obtain⟨⟨⟨⟨⟨hsz,hpos⟩,hbytes⟩,aqP⟩,hzs⟩,hzr⟩:=hok
    simp only[ho,opsOf,List.map_cons,List.map_nil]at hA
    simp only[aj]at h
    split at h
    ·rename_i k n k' m
     obtain⟨rfl,h0,hlim,_,hfit,hK⟩:=h
     obtain⟨v,u,he,hr,hr2⟩:=dJ hA
     simp only[List.cons.injEq,and_true]at he
     obtain⟨rfl,rfl⟩:=he
     have e1:=hr.toD.fA
     have e2:=hr2.toD.fA
     have hb:(inf.bytes:Int)*n≤281474976710656:=by
      have h1:(inf.bytes:Int)≤1024:=by omega
      have:=Int.mul_le_mul h1 hlim h0 (by omega)
      omega
     have hc:n.toNat*inf.size≤16777216:=by
      rw[hsz]
      have:n.toNat≤1048576:=by omega
      have:=Nat.mul_le_mul this aqP
      omega
     have hrun:=run_makeSlice (P:=C.P) w t e inf z' hun jJ hz k k' n n h0 (Int.le_refl _) hc hb (by omega)
     have hex:(execOp ρ o).run C.P w= .ok (.value (.slice (some ⟨w.heap.size,0,none⟩) n.toNat n.toNat)) (w.alloc (.cells (madeCells z'.cells (n.toNat*inf.size)) e)):=by
      simp[execOp,ho,e1,e2,hrun]
     rw[hex]
     have hzl:∀x∈List.replicate n.toNat z,x.fits sz=true:=fun x hx=>by rw[(List.mem_replicate.1 hx).2];exact hfit
     have hall:((List.replicate n.toNat z).all fun d=>jf d.cells z'.cells.toList)=true:=by
      rw[List.all_eq_true];intro x hx;rw[(List.mem_replicate.1 hx).2];exact hzr
     have apV:=Ir (w:=w) (O:=away X M E) hzs hpos hall
     rw[List.length_replicate]at apV
     have hmc:(madeCells z'.cells (n.toNat*inf.size)).toList=((Array.range (n.toNat*sz)).map (z'.cells[· % sz]!)).toList:=by
      rw[hsz];unfold madeCells;rw[hzs]
     obtain⟨t1,t2⟩:=zC (A:=⟨sz,List.replicate n.toNat z,0,1⟩) (loc:=some (w.heap.size,0,n.toNat*sz)) hS (Later.alloc w (.cells (madeCells z'.cells (n.toNat*inf.size)) e)) hpos hzl (fun _ hh=>by cases hh) (fun blk o' e' hh=>by
      cases hh
      refine⟨Nat.le_refl _,_, .zero _ _,heap_alloc_new w _,?_,?_,?_⟩
      ·simp
      ·rw[size_madeCells,hsz];exact Nat.le_refl _
      ·rw[hmc,List.drop_zero,List.take_of_length_le]
       ·exact apV
       ·simp)
     refine⟨_,_,_,hK,t1,t2, .tsl (by simp) fun B hB=> ?_⟩
     have hBe:B=⟨sz,List.replicate n.toNat z,0,1⟩:=by simp at hB;simp[hB]
     subst hBe
     refine⟨Nat.le_refl _,fun _=>⟨some (w.heap.size,0,n.toNat*sz),by simp[←hS.aY],Nat.zero_le _, .inl ⟨n.toNat,?_,?_,?_⟩⟩⟩
     ·simp
     ·simp
     ·simp
    ·exact h.elim
   ·cases hok
  ·cases hok
 ·cases hok
theorem ad3 {ρ:Operand→Value}{o:Oper}{t:TypeId}{len sz:Nat}{parts:Array (Nat×Operand)}{zs:List DV}{is:List Nat}(ho:o.op= .buildSlice t len parts){args:List PV}(hS:Sim C X w M E)
  (hA:aK w (away X M E) M E ((opsOf o.op).map ρ) args)(hok:aI C.P (.buildSlice t len parts) (.qc sz zs is)=true){base:Nat}
  (h:aj C base (.qc sz zs is) args M K KP):dZ C X w M E K KP ((execOp ρ o).run C.P w):=by
 simp only[aj]at h
 split at h
 ·rename_i ds hds
  split at h
  ·rename_i xs hxs
   obtain⟨hpos,hfit,hK⟩:=h
   simp only[aI]at hok
   split at hok
   ·rename_i e he
    split at hok
    ·rename_i inf jJ
     split at hok
     ·rename_i z hz
      simp only[Bool.and_eq_true,decide_eq_true_eq,beq_iff_eq]at hok
      obtain⟨⟨⟨⟨⟨⟨hsz,hs⟩,hzs⟩,hlim⟩,hzl⟩,WO⟩,his⟩:=hok
      simp only[ho,opsOf]at hA
      have hA':=(hA.jd hds).strip
      have hA2:aQ w (away X M E) ((parts.toList.map fun x=>(x.1,ρ x.2)).map (·.2)) (ds.map DV.strip):=by simpa[List.map_map,Function.comp_def]using hA'
      have hzx:∀x∈zs,x.cells.length=sz:=by
       intro x hx
       simp only[List.all_eq_true]at WO
       have:=(iV (w:=w) (O:=fun _=>False) (WO x hx)).length
       simp at this;omega
      obtain⟨vs',g1,g2,g3,g4⟩:=SG (vs:=(Array.range (zs.length*sz)).map (z.cells[· % sz]!)) (by subst his;simp[Function.comp_def]) hA2 (Ir hzs hsz WO) hzx hxs
      have hne:¬(len*sz>2 ^ 24):=by omega
      have hrun:(execOp ρ o).run C.P w= .ok (.value (.slice (some ⟨w.heap.size,0,none⟩) len len)) (w.alloc (.cells vs' e)):=by
       simp only[execOp,ho,Instr.buildSlice,Sem.run_bind,run_underlying he,Result.andThen_ok,run_sizeOf jJ,hs,hne,if_false,bind_pure_comp,Sem.run_map,Sem.run_ite,Sem.run_pure]
       have hzv:(zeroValue e).run C.P w= .ok z w:=by simp[zeroValue,typeInfo,jJ,hz]
       have hpl:(Array.map (fun x=>(x.1,ρ x.2)) parts).toList=parts.toList.map (fun x=>(x.1,ρ x.2)):=by simp
       rw[hzl]at g1
       by_cases h0:len*sz=0
       ·have ez:∀(f:Nat→Value),Array.map f (Array.range (len*sz))= #[]:=by intro f;rw[h0];simp
        rw[ez]at g1
        rw[h0]at ez
        simp only[h0,if_true,hpl,ez,g1]
        simp only[newRow,Sem.run_map,run_newObj_alloc,bind_pure_comp,Result.andThen_ok]
       ·simp only[h0,if_false,hzv,Result.andThen_ok,hzs,hpl,g1,newRow,Sem.run_map,run_newObj_alloc,bind_pure_comp]
      rw[hrun]
      have hlen:xs.length=len:=by omega
      have hvl:=g2.length
      have hfl:(flat xs).length=len*sz:=by rw[flat_length g3,hlen]
      obtain⟨t1,t2⟩:=zC (A:=⟨sz,xs,0,1⟩) (loc:=some (w.heap.size,0,len*sz)) hS (Later.alloc w (.cells vs' e)) hpos hfit (fun _ hh=>by cases hh) (fun blk o' e' hh=>by
       cases hh
       refine⟨Nat.le_refl _,_, .zero _ _,heap_alloc_new w _,?_,?_,?_⟩
       ·simp[hlen]
       ·rw[Array.length_toList]at hvl;omega
       ·rw[List.drop_zero,List.take_of_length_le (by rw[hvl,hfl,hlen];exact Nat.le_refl _)]
        exact g2)
      refine⟨_,_,_,hK,t1,t2, .tsl (by simp) fun B hB=> ?_⟩
      have hBe:B=⟨sz,xs,0,1⟩:=by simp at hB;simp[hB]
      subst hBe
      refine⟨Nat.le_refl _,fun _=>⟨some (w.heap.size,0,len*sz),by simp[←hS.aY],Nat.zero_le _, .inl ⟨len,?_,?_,?_⟩⟩⟩
      ·simp[hlen]
      ·simp[hlen]
      ·simp
     ·cases hok
    ·cases hok
   ·cases hok
  ·exact h.elim
 ·exact h.elim
theorem Ud:∀{xs:List DV} {l:List UInt8},bytesOf xs=some l→∃ns:List Int,xs=ns.map (DV.int .u8)∧l=ns.map fun n=>UInt8.ofNat n.toNat
 | [],l,h=>by simp only[bytesOf,Option.some.injEq]at h;subst h;exact⟨[],rfl,rfl⟩
 |x::xs,l,h=>by
  unfold bytesOf at h
  split at h
  ·rename_i heq;cases heq
  ·rename_i n l' heq
   cases heq
   rw[Option.map_eq_some_iff]at h
   obtain⟨l'',h1,rfl⟩:=h
   obtain⟨ns,rfl,rfl⟩:=Ud h1
   exact⟨n::ns,rfl,rfl⟩
  ·cases h
theorem ac1:∀(ns:List Int) (s:ByteArray),ns.foldl (fun r n=>r.push (UInt8.ofNat n.toNat)) s=⟨s.data++(ns.map fun n=>UInt8.ofNat n.toNat).toArray⟩
 | [],s=>by simp
 |n::ns,s=>by
  rw[List.foldl_cons,ac1 ns]
  simp[ByteArray.push]
theorem Y6:∀ns:List Int,flat (ns.map (DV.int .u8))=ns.map (DV.int .u8)
 | []=>rfl
 |n::ns=>by rw[List.map_cons,mJ,Y6 ns];rfl
theorem Zx:∀{ns:List Int} {vs:List Value},aQ w O vs (ns.map (DV.int .u8))→vs=ns.map (Value.int .u8)
 | [],_,h=>by cases h;rfl
 |n::ns,_,h=>by
  cases h with
  |cons h t=>rw[h.fA,Zx t];rfl
theorem aiG {ρ:Operand→Value}{o:Oper}{s d:TypeId}{x:Operand}(ho:o.op= .convert s d x){args:List PV}(hS:Sim C X w M E)(hA:aK w (away X M E) M E ((opsOf o.op).map ρ) args)
  (hok:aI C.P (.convert s d x) .b2s=true){base:Nat}(h:aj C base .b2s args M K KP):dZ C X w M E K KP ((execOp ρ o).run C.P w):=by
 simp only[aI,Bool.and_eq_true]at hok
 obtain⟨hs,hd⟩:=hok
 split at hs
 ·rename_i e hse
  split at hs
  ·rename_i k hk
   simp only[decide_eq_true_eq]at hs
   subst hs
   split at hd
   ·rename_i hds
    simp only[ho,opsOf,List.map_cons,List.map_nil]at hA
    simp only[aj]at h
    split at h
    ·rename_i p
     obtain⟨v,he,hr⟩:=eG hA
     simp only[List.cons.injEq,and_true]at he
     subst he
     cases hx:Dv 0 p M with
     |none=>simp only[hx]at h
     |some xs=>
      simp only[hx]at h
      cases hb:bytesOf xs with
      |none=>simp only[hb]at h
      |some l=>
       simp only[hb]at h
       obtain⟨ns,rfl,rfl⟩:=Ud hb
       have hap:Dv 1 p M=some (ns.map (DV.int .u8))∧∃a cap,ρ x= .slice a ns.length cap:=by
        unfold Dv at hx⊢
        split at hx
        ·simp only[Option.some.injEq]at hx
         subst hx
         obtain⟨a,cap,hv⟩:=hr.toD.lq
         exact⟨rfl,a,cap,by simpa using hv⟩
        ·cases hx
        ·rename_i k ver skip
         refine⟨hx,?_⟩
         rw[Option.map_eq_some_iff]at hx
         obtain⟨A,hA',hxs⟩:=hx
         obtain⟨t1,t2,_,_,t5⟩:=MQ hS hr hA'
         have hlen:A.elems.length - skip=ns.length:=by have:=congrArg List.length hxs;simpa using this
         rcases t5 with⟨blk,o,e,vs,T,cap,_,_,_,_,_,(⟨h1,_⟩|⟨h1,_,a,h2⟩)⟩|⟨_,_,h1⟩
         ·exact⟨_,_,by rw[h1,hlen]⟩
         ·exact⟨_,_,by rw[h2,←hlen];congr 1;omega⟩
         ·obtain⟨a,cap,hv⟩:=h1.lq
          exact⟨a,cap,by rw[hv];congr 1;simpa using hlen⟩
        ·cases hx
       obtain⟨hap,a,cap,hv⟩:=hap
       have hfit:∀y∈ns.map (DV.int .u8),y.fits 1=true:=by
        intro y hy;obtain⟨n,_,rfl⟩:=List.mem_map.1 hy;rfl
       obtain⟨news,n1,n2,n3⟩:=XI hS hr hap hfit
       rw[Y6]at n3
       have hnews:=Zx n3
       subst hnews
       have hbs:(Conv.bytesToString (ρ x)).run C.P w= .ok (.string ⟨(ns.map fun n=>UInt8.ofNat n.toNat).toArray⟩) w:=by
        cases a with
        |none=>
         have:ns.length=0:=by
          have:=n2 C.P w (.refl w)
          rw[hv,List.length_map]at this
          by_cases hz:ns.length=0
          ·exact hz
          ·exfalso
           simp[Builtin.firstCells]at this
           exact hz (by simp[this])
         have hn:=List.length_eq_zero_iff.1 this
         subst hn
         rw[hv]
         simp[Conv.bytesToString]
         rfl
        |some a=>
         rw[hv]
         have hl:=n2 C.P w (.refl w)
         rw[hv,List.length_map]at hl
         simp only[Builtin.firstCells,Nat.mul_one]at hl
         rw[run_bytesToString w a ns.length cap ns hl,ac1]
         simp
       have hrun:(execOp ρ o).run C.P w= .ok (.value (.string ⟨(ns.map fun n=>UInt8.ofNat n.toNat).toArray⟩)) w:=by
        have hcv:=run_convert_bytes_string (P:=C.P) w s d e a ns.length cap hse hk hds
        rw[←hv,hbs]at hcv
        simp[execOp,ho,hcv]
       rw[hrun]
       exact .same hS h (.d (.str _))
    ·exact h.elim
   ·cases hd
  ·cases hs
 ·cases hs
theorem XK:∀l:List UInt8,aQ w O (l.map fun b=>Value.int .u8 b.toNat) (l.map fun b=>DV.int .u8 b.toNat)
 | []=> .nil
 |b::l=> .cons (.int _ _) (XK l)
theorem WE:∀l:List UInt8,flat (l.map fun b=>DV.int .u8 b.toNat)=l.map fun b=>DV.int .u8 b.toNat
 | []=>rfl
 |b::l=>by rw[List.map_cons,mJ,WE l];rfl
theorem aiP {ρ:Operand→Value}{o:Oper}{s d:TypeId}{x:Operand}(ho:o.op= .convert s d x){args:List PV}(hS:Sim C X w M E)(hA:aK w (away X M E) M E ((opsOf o.op).map ρ) args)
  (hok:aI C.P (.convert s d x) .s2b=true){base:Nat}(h:aj C base .s2b args M K KP):dZ C X w M E K KP ((execOp ρ o).run C.P w):=by
 simp only[aI,Bool.and_eq_true]at hok
 obtain⟨hd,hs⟩:=hok
 split at hd
 ·rename_i e hde
  split at hd
  ·rename_i k hk
   simp only[decide_eq_true_eq]at hd
   subst hd
   split at hs
   ·rename_i hss
    simp only[ho,opsOf,List.map_cons,List.map_nil]at hA
    simp only[aj]at h
    split at h
    ·rename_i t
     obtain⟨v,he,hr⟩:=eG hA
     simp only[List.cons.injEq,and_true]at he
     subst he
     have hv:ρ x= .string t:=hr.toD.uT
     have hcap:=grownCap_ge w t.size 0 e
     have hrun:(execOp ρ o).run C.P w= .ok (.value (.slice (some ⟨w.heap.size,0,none⟩) t.size (grownCap w t.size 0 e)))
       (w.drew.alloc (.cells (bytesRow t (grownCap w t.size 0 e)) e ((bytesRow t (grownCap w t.size 0 e)).size,(bytesRow t (grownCap w t.size 0 e)).size+1))):=by
      have:=run_bytes_of_string (P:=C.P) w s d e t hss hde hk
      simp[execOp,ho,hv,this]
     rw[hrun]
     generalize grownCap w t.size 0 e=cap at hcap
     have htl:t.data.toList.length=t.size:=by simp
     have hsz:(bytesRow t cap).size=cap:=by simp[bytesRow];have:t.data.size=t.size:=rfl;omega
     have hrow:((bytesRow t cap).toList.drop 0).take t.size=t.data.toList.map fun b=>Value.int .u8 b.toNat:=by
      simp only[bytesRow,List.drop_zero,Array.toList_append,Array.toList_map]
      rw[List.take_left']
      simp
     obtain⟨t1,t2⟩:=zC (A:=⟨1,t.data.toList.map fun b=>DV.int .u8 b.toNat,0,1⟩) (loc:=some (w.heap.size,0,cap)) hS ((Later.drew w).trans (Later.alloc _ _)) Nat.one_pos
      (fun x hx=>by obtain⟨b,_,rfl⟩:=List.mem_map.1 hx;rfl) (fun _ hh=>by cases hh) (fun blk o' e' hh=>by
       cases hh
       refine⟨Nat.le_refl _,bytesRow t cap,⟨e,((bytesRow t cap).size,(bytesRow t cap).size+1), .inr (Nat.le_refl _)⟩,heap_alloc_new w.drew _,?_,?_,?_⟩
       ·simp only[List.length_map,Nat.mul_one,Nat.zero_add,htl];exact hcap
       ·rw[hsz];exact Nat.le_refl _
       ·simp only[List.length_map,Nat.mul_one,htl]
        rw[hrow,WE]
        exact XK _)
     refine⟨_,_,_,h,t1,t2, .tsl (by simp) fun B hB=> ?_⟩
     have hBe:B=⟨1,t.data.toList.map fun b=>DV.int .u8 b.toNat,0,1⟩:=by simp at hB;simp[hB]
     subst hBe
     refine⟨Nat.le_refl _,fun _=>⟨some (w.heap.size,0,cap),by simp[←hS.aY],Nat.zero_le _, .inl ⟨cap,?_,?_,?_⟩⟩⟩
     ·simp
     ·simpa using hcap
     ·simp
    ·exact h.elim
   ·cases hs
  ·cases hd
 ·cases hd
end
end Go.Am
