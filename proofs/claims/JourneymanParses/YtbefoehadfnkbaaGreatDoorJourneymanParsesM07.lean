/-
  Part 7 of the proof of a law of desks: an abstract machine over the model, contracts of functions, plain laws.
  Conditions: none.
-/
import Derived.Test.YtbefoehadfnkbaaGreatDoorJourneymanParsesM06
import Derived.Laws.CopyRow
set_option linter.all false
namespace Go.Am
section
variable {C:Ctx}{X:Nat→Prop}{w w':World}{M:Mem}{E:Emb}{K:PV→Mem→Prop}{KP:DV→Mem→Prop}{O:Nat→Prop}
theorem P8 {k blk o e:Nat}{A:Arr}{el:List DV}{vs:Array Value}{vs':List Value}{T:TM vs.size}(h:Sim C X w M E)(hk:M.aA[k]?=some (some A))(hst:A.st=1)
  (he:E.ar[k]?=some (some (blk,o,e)))(hg:w.heap[blk]?=some (.cells vs T.ty T.fr))(hl:el.length=A.elems.length)(hfit:∀x∈el,x.fits A.sz=true)(hvl:vs'.length=vs.size)
  (hr:aQ w (away X M E) ((vs'.drop o).take (A.elems.length*A.sz)) (flat el))(hw:Wrote blk w w' vs' T.ty T.fr):
  Sim C X w' {M with aA:=M.aA.set k (some {A with elems:=el})} E∧From w M E w' {M with aA:=M.aA.set k (some {A with elems:=el})} E:=by
 generalize hA':({A with elems:=el}:Arr)=A'
 have hlt:k<M.aA.length:=(List.getElem?_eq_some_iff.1 hk).1
 obtain⟨s1,s2,s3,s4⟩:=h.arr k A hk
 obtain⟨hX,vs2,T',g2,g3,g4,g5⟩:=s4 blk o e he
 rw[hg]at g2
 simp only[Option.some.injEq,Obj.cells.injEq]at g2
 obtain⟨rfl,_,_⟩:=g2
 have hown:owned M E blk:= .inr ⟨k,A,o,e,hk,by omega,he⟩
 have hlive:∀(j:Nat) (B:Arr),(M.aA.set k (some A'))[j]?=some (some B)→∃B':Arr,M.aA[j]?=some (some B')∧B.st=B'.st:=by
  intro j B hj
  rcases aH hj with⟨rfl,hB⟩|⟨_,hj'⟩
  ·cases hB;exact⟨A,hk,by rw[←hA']⟩
  ·exact⟨B,hj',rfl⟩
 have hf:From w M E w' {M with aA:=M.aA.set k (some A')} E:=
  {os:=hw.os,tape:=hw.tape,output:=hw.output,size:=Nat.le_of_eq hw.size.symm
   keep:=fun i o hi ho=>hw.jC (fun e=>hi (e▸hown)) ho
   own:=by
    rintro i (⟨j,cs',h1,h2,h3⟩|⟨j,B,o,e,h1,h2,h3⟩)
    ·exact .inl (.inl ⟨j,cs',h1,h2,h3⟩)
    ·obtain⟨B',h1',hs⟩:=hlive j B h1
     exact .inl (.inr ⟨j,B',o,e,h1',hs▸h2,h3⟩)
   ig:=Nat.le_refl _
   bx:=fun i cs' hi=>⟨rfl,cs',hi,rfl⟩
   aY:=by simp
   ar:=fun j B hj hB=>by
    rcases aH hB with⟨rfl,hBe⟩|⟨_,hB'⟩
    ·cases hBe
     refine⟨A,hk,by rw[←hA'];exact Nat.le_refl _,fun _=>⟨rfl,by rw[←hA'],by rw[←hA'];simp[hl],fun hn=> ?_⟩⟩
     rw[he]at hn;cases hn
    ·exact⟨B,hB',Nat.le_refl _,fun _=>⟨rfl,rfl,rfl,fun _=>rfl⟩⟩}
 refine⟨?_,hf⟩
 exact
  {glob:=C.keeps w w' h.glob fun b hb=>hw.keep b (fun e=>hX (e▸h.iE b hb)),iE:=h.iE
   xlt:=fun i hi=>by rw[hw.size];exact h.xlt i hi
   ig:=h.ig
   aY:=by simp[h.aY]
   box:=fun b cs' hb=>by
    obtain⟨blk',h1,h2,h3⟩:=h.box b cs' hb
    have hne':blk'≠blk:=fun e'=>h.ba b k cs' A blk o e hb hk (e'▸h1) he
    exact⟨blk',h1,h2,h3.from hf fun _ ho=>hw.jC hne' ho⟩
   arr:=fun j B hB=>by
    rcases aH hB with⟨rfl,hBe⟩|⟨hne,hB'⟩
    ·cases hBe
     subst hA'
     refine⟨s1,hfit,s3,fun blk' o' e' hk'=> ?_⟩
     rw[he]at hk';cases hk'
     refine⟨hX,_,T.cast (by simpa using hvl.symm),hw.at_,by simp only[hl];exact g3,by simpa[hvl]using g4,?_⟩
     simp only[hl]
     exact hr.from hf
    ·obtain⟨h1,h2,h3,h4⟩:=h.arr j B hB'
     refine⟨h1,h2,h3,fun blk' o' e' hk'=> ?_⟩
     obtain⟨q1,vs',T',q2,q3,q4,q5⟩:=h4 blk' o' e' hk'
     have hne':blk'≠blk:=fun e2=>hne (h.aa j k B A blk o' e' o e hB' hk (e2▸hk') he)
     exact⟨q1,vs',T',hw.jC hne' q2,q3,q4,q5.from hf⟩
   bb:=h.bb
   aa:=fun j j' B B' blk' o1 e1 o2 e2 h1 h2 h3 h4=>by
    obtain⟨d1,h1',_⟩:=hlive j B h1
    obtain⟨d2,h2',_⟩:=hlive j' B' h2
    exact h.aa j j' d1 d2 blk' o1 e1 o2 e2 h1' h2' h3 h4
   ba:=fun b j cs1 B blk' o1 e1 h1 h2 h3 h4=>by
    obtain⟨d2,h2',_⟩:=hlive j B h2
    exact h.ba b j cs1 d2 blk' o1 e1 h1 h2' h3 h4}
def Sl (w:World)(O:Nat→Prop)(sz:Nat)(v:Value)(ys:List DV):Prop:=
 (∀P,(Builtin.lenOf v).run P w= .ok ys.length w)∧∀n,n≤ys.length→∃news:List Value,(∀P,(Builtin.firstCells sz n v).run P w= .ok news.toArray w)∧aQ w O news (flat (ys.take n))
theorem Ej {sz cap:Nat}{a:Option Addr}:Sl w O sz (.slice a 0 cap) []:=by
 refine⟨fun P=>by simp[Builtin.lenOf],fun n hn=> ?_⟩
 have:n=0:=by simpa using hn
 subst this
 refine⟨[],fun P=> ?_,by simpa[flat]using .nil⟩
 cases a with
 |none=>simp[Builtin.firstCells]
 |some a=>simp[Builtin.firstCells,EH]
theorem PU {sz blk off len cap:Nat}{ys:List DV}{cs:Array Value}{T:TypeId}{fz:Nat×Nat}(hb:w.heap[blk]?=some (.cells cs T fz))
  (hr:aQ w O ((cs.toList.drop off).take (len*sz)) (flat ys))(hl:ys.length=len)(hs:∀y∈ys,y.cells.length=sz):Sl w O sz (.slice (some ⟨blk,off,none⟩) len cap) ys:=by
 subst hl
 refine⟨fun P=>by simp[Builtin.lenOf],fun n hn=> ?_⟩
 have hr2:aQ w O ((cs.toList.drop off).take (n*sz)) (flat (ys.take n)):=by
  have:=hr.take (n*sz)
  rw[List.take_take,Nat.min_eq_left (Nat.mul_le_mul_right _ hn),GX hs]at this
  exact this
 have hlen:((cs.toList.drop off).take (n*sz)).length=n*sz:=by rw[hr2.length,flat_length fun y hy=>hs y (List.mem_of_mem_take hy)];simp[hn]
 refine⟨_,fun P=> ?_,hr2⟩
 have:=run_loadCells_list (P:=P) w ⟨blk,off,none⟩ ((cs.toList.drop off).take (n*sz)) (fun j v hj=>by
  rw[Addr.add_lit,cell_of_row w blk (off+j) cs T fz hb]
  rw[List.getElem?_take]at hj
  split at hj
  ·rw[List.getElem?_drop]at hj;simpa using hj
  ·cases hj)
 rw[hlen]at this
 simpa[Builtin.firstCells]using this
theorem LY {sz:Nat}{v:Value}{ex:Bool}{ys:List DV}(hr:bf w O v (.slice ex ys))(hs:∀y∈ys,y.cells.length=sz):Sl w O sz v ys:=by
 cases hr with
 |empty hx=>exact Ej
 |slice hb ho hl hs' hc hx hh=>
  rename_i blk off len cap sz' cs T fz
  cases ys with
  |nil=>
   subst hl
   exact Ej
  |cons y ys=>
   have:sz'=sz:=by rw[←hs' y (by simp),hs y (by simp)]
   subst this
   exact PU hb hh hl hs
theorem aks {A:Arr}{o skip len:Nat}{vs:Array Value}(hfit:∀x∈A.elems,x.fits A.sz=true)(hr:aQ w O ((vs.toList.drop o).take (A.elems.length*A.sz)) (flat A.elems))(hl:skip+len≤A.elems.length):
  aQ w O ((vs.toList.drop (o+skip*A.sz)).take (len*A.sz)) (flat ((A.elems.drop skip).take len)):=by
 have h1:=(row_drop (skip:=skip) hfit hr).take (len*A.sz)
 rw[List.take_take,Nat.min_eq_left (Nat.mul_le_mul_right _ (by omega)),GX (fun x hx=>DV.cu (hfit x (List.mem_of_mem_drop hx)))]at h1
 exact h1
theorem afk {sz:Nat}{x:PV}{v:Value}{ys:List DV}(hS:Sim C X w M E)(hr:Rep w (away X M E) M E v x)(ha:Yg x M=some ys)(hfit:∀y∈ys,y.fits sz=true):Sl w (away X M E) sz v ys:=by
 have hs:∀y∈ys,y.cells.length=sz:=fun y hy=>DV.cu (hfit y hy)
 have base:∀{k ver:Nat} {A:Arr} {zs:List DV},M.row k ver=some A→(∀y∈zs,y∈A.elems)→(∀y∈zs,y.cells.length=sz)→∀{v:Value},(∀sz',sz'=A.sz∨zs=[]→Sl w (away X M E) sz' v zs)→Sl w (away X M E) sz v zs:=by
  intro k ver A zs hA hz1 hz2 v h
  obtain⟨hA1,_⟩:=xI hA
  have hf:=(hS.arr k A hA1).2.1
  cases zs with
  |nil=>exact h sz (.inr rfl)
  |cons z zs=>
   refine h sz (.inl ?_)
   rw[←hz2 z (by simp),DV.cu (hf z (hz1 z (by simp)))]
 unfold Yg at ha
 split at ha
 ·simp only[Option.some.injEq]at ha;subst ha
  exact LY hr.toD hs
 ·rename_i k ver skip
  rw[Option.map_eq_some_iff]at ha
  obtain⟨A,hA,rfl⟩:=ha
  obtain⟨_,h1,h2,h3,h4⟩:=MQ hS hr hA
  refine base hA (fun y hy=>List.mem_of_mem_drop hy) hs fun sz' hsz'=> ?_
  rcases h4 with⟨blk,o,e,vs,T,cap,q1,q2,q3,q4,q5,q6⟩|⟨_,_,hd⟩
  ·rcases q6 with⟨rfl,q7,q8⟩|⟨q7,_,a,rfl⟩
   ·by_cases hz:A.elems.drop skip=[]
    ·rw[hz]
     have:A.elems.length - skip=0:=by simpa using congrArg List.length hz
     rw[this]
     exact Ej
    ·obtain rfl:=hsz'.resolve_right hz
     exact PU q2 (row_drop h3 q5) (by simp) fun y hy=>DV.cu (h3 y (List.mem_of_mem_drop hy))
   ·rw[List.drop_eq_nil_of_le (by omega)]
    exact Ej
  ·refine LY hd fun y hy=> ?_
   rcases hsz' with rfl|hz
   ·exact DV.cu (h3 y (List.mem_of_mem_drop hy))
   ·rw[hz]at hy;simp at hy
 ·rename_i k ver skip len
  rw[Option.map_eq_some_iff]at ha
  obtain⟨A,hA,rfl⟩:=ha
  obtain⟨hA1,O8⟩:=xI hA
  obtain⟨s1,s2,s3,s4⟩:=hS.arr k A hA1
  refine base hA (fun y hy=>List.mem_of_mem_drop (List.mem_of_mem_take hy)) hs fun sz' hsz'=> ?_
  cases hr with
  |psl hlt hh=>
   obtain⟨_,h2⟩:=hh A hA1
   obtain⟨loc,h3,h4,h5⟩:=h2 O8
   have hll:((A.elems.drop skip).take len).length=len:=by simp;omega
   cases loc with
   |some q=>
    obtain⟨blk,o,e⟩:=q
    obtain⟨_,vs,T,g2,g3,g4,g5⟩:=s4 blk o e h3
    obtain⟨a,cap,e1,e2⟩:=h5
    cases e1
    by_cases hz:len=0
    ·subst hz
     simp only[List.take_zero]
     exact Ej
    ·rw[e2 hz]
     have hne:(A.elems.drop skip).take len≠[]:=by intro hh;rw[hh]at hll;simp at hll;exact hz hll.symm
     obtain rfl:=hsz'.resolve_right hne
     exact PU g2 (aks s2 g5 h4) hll fun y hy=>DV.cu (s2 y (List.mem_of_mem_drop (List.mem_of_mem_take hy)))
   |none=>
    refine LY h5 fun y hy=> ?_
    rcases hsz' with rfl|hz
    ·exact DV.cu (s2 y (List.mem_of_mem_drop (List.mem_of_mem_take hy)))
    ·rw[hz]at hy;simp at hy
 ·cases ha
theorem af7 {vs:List Value}{ds:List DV}(h:aQ w O vs ds)(h1:∀c∈ds,c.one=true):∀v∈vs,v.oneCell'=true:=by
 induction vs generalizing ds with
 |nil=>intro v hv;simp at hv
 |cons u us ih=>
  cases h with
  |cons hu ht=>
   intro v hv
   rcases List.mem_cons.1 hv with rfl|hv
   ·have:=h1 _ List.mem_cons_self
    cases hu<;>first|rfl|(simp[DV.one]at this)
   ·exact ih ht (fun c hc=>h1 c (by simp[hc])) v hv
theorem Y7 {sz:Nat}{xs:List DV}(h:∀x∈xs,x.fits sz=true):∀c∈flat xs,c.one=true:=by
 intro c hc
 simp only[flat,List.mem_flatMap]at hc
 obtain⟨x,hx,hc⟩:=hc
 exact DV.Qs (h x hx) c hc
theorem afD {z:DV}{zc:Array Value}{sz n:Nat}(hz:zc.size=sz)(hr:jf z.cells zc.toList=true)(hpos:0<sz):aQ w O (Builtin.zeroCells zc n).toList (flat (List.replicate n z)):=by
 have:=Ir (w:=w) (O:=O) (z:=zc) (zs:=List.replicate n z) hz hpos (by rw[List.all_eq_true];intro x hx;rw[(List.mem_replicate.1 hx).2];exact hr)
 rw[List.length_replicate]at this
 subst hz
 exact this
theorem U3 {A:Arr}{o skip:Nat}{vs:Array Value}{zs:List DV}{us:List Value}(hfit:∀x∈A.elems,x.fits A.sz=true)(hr:aQ w O ((vs.toList.drop o).take (A.elems.length*A.sz)) (flat A.elems))
  (hz:∀z∈zs,z.fits A.sz=true)(hl:skip+zs.length≤A.elems.length)(ho:o+A.elems.length*A.sz≤vs.size)(hu:aQ w O us (flat zs)):
  (splice vs.toList (o+skip*A.sz) us).length=vs.size∧aQ w O (((splice vs.toList (o+skip*A.sz) us).drop o).take (A.elems.length*A.sz)) (flat (A.elems.take skip++(zs++A.elems.drop (skip+zs.length)))):=by
 have hul:us.length=zs.length*A.sz:=by rw[hu.length,flat_length fun z hz'=>DV.cu (hz z hz')]
 have hmul:skip*A.sz+zs.length*A.sz≤A.elems.length*A.sz:=by rw[←Nat.add_mul];exact Nat.mul_le_mul_right _ hl
 refine⟨by rw[length_splice _ _ _ (by simp;omega)];simp,?_⟩
 rw[wM _ _ _ _ (by omega) (by simp;omega),show o+skip*A.sz - o=skip*A.sz by omega,FT _ _ _ _ (by omega) (by simp;omega)]
 have hs:∀x∈A.elems,x.cells.length=A.sz:=fun x hx=>DV.cu (hfit x hx)
 rw[zV,zV,←GX hs skip,←Dl hs (skip+zs.length),Nat.add_mul]
 unfold Am.splice
 rw[hul,List.append_assoc]
 exact(hr.take _).append (hu.append (hr.drop _))
theorem agY {ρ:Operand→Value}{o:Oper}{t:TypeId}{x:Operand}{olo ohi omx:Option Operand}{sz:Nat}(ho:o.op= .slice t x olo ohi omx){args:List PV}(hS:Sim C X w M E)
  (hA:aK w (away X M E) M E ((opsOf o.op).map ρ) args)(hok:aI C.P (.slice t x olo ohi omx) (.adq sz)=true){base:Nat}(h:aj C base (.adq sz) args M K KP):dZ C X w M E K KP ((execOp ρ o).run C.P w):=by
 simp only[aI,Bool.and_eq_true,beq_iff_eq]at hok
 obtain⟨⟨⟨hu,h1⟩,h2⟩,h3⟩:=hok
 obtain rfl:olo=none:=by simpa using h1
 obtain rfl:omx=none:=by simpa using h3
 obtain⟨hi,rfl⟩:=Option.isSome_iff_exists.1 h2
 split at hu
 ·rename_i e hun
  split at hu
  ·rename_i inf jJ
   simp only[Bool.and_eq_true,beq_iff_eq,decide_eq_true_eq]at hu
   obtain⟨hsz,hpos⟩:=hu
   subst hsz
   have hpe:C.P.elem t=e:=by simp[Program.elem,hun]
   have hun':C.P.underlying t=some (.slice (C.P.elem t)):=by rw[hpe];exact hun
   simp only[ho,opsOf,List.map_cons,List.cons_append,Option.toList_none,Option.toList_some,List.append_nil,List.nil_append,List.map_nil]at hA
   simp only[aj]at h
   split at h
   ·rename_i k ver skip kk n
    cases hrow:M.row k ver with
    |none=>simp only[hrow]at h
    |some A=>
     simp only[hrow]at h
     obtain⟨WM,q1,q2,hK⟩:=h
     obtain⟨hA1,O8⟩:=xI hrow
     have aaj:=(hS.arr k A hA1).2.1
     obtain⟨v,u,he,hx,hn⟩:=dJ hA
     simp only[List.cons.injEq,and_true]at he
     obtain⟨hv,hu⟩:=he
     have hnv:=hn.toD.fA
     have hfin:∀{u:Value},(Instr.sliceAt t (ρ x) none (some (ρ hi)) none).run C.P w= .ok u w→(execOp ρ o).run C.P w= .ok (.value u) w:=by
      intro u hu
      simp only[execOp,ho,Option.map_none,Option.map_some,Sem.run_bind,hu,Result.andThen_ok,Sem.run_pure]
     rw[hv]at hfin
     have bb:((some (ρ hi):Option Value)=none∧(some n:Option Int)=none)∨∃(k:IntKind) (a:Int),(some (ρ hi):Option Value)=some (.int k a)∧(some n:Option Int)=some a:= .inr ⟨kk,n,by rw[hu,hnv],rfl⟩
     cases hx with
     |tsl hlt hh=>
      rename_i len cap av
      obtain⟨hle,hh2⟩:=hh A hA1
      obtain⟨loc,h4,h5,h6⟩:=hh2 O8
      cases loc with
      |some q=>
       obtain⟨blk,o1,e1⟩:=q
       simp only at h6
       have key:∀av len cap,len=A.elems.length - skip→len≤cap→∃u,(Instr.sliceAt t (.slice av len cap) none (some (ρ hi)) none).run C.P w= .ok u w∧∃c',u= .slice av n.toNat c':=by
        intro av len cap e1 e2
        have hbn:=Js (P:=C.P) (isSlice:=true) (a:=none) (b:=some n) (m:=none) (.inl ⟨rfl,rfl⟩) bb (.inl ⟨rfl,rfl⟩) (fun _ hh=>by cases hh) (by simp) (by simp only[Option.getD_none,Option.getD_some];omega) (by simp only[Option.getD_none,Option.getD_some];omega) e2 w
        refine⟨sliced av 0 n.toNat cap inf.size,?_,?_⟩
        ·rw[run_sliceAt_slice w t _ _ _ _ hun',run_slice_any w t av len cap hun',hbn,hpe]
         simp only[Result.andThen_ok,run_sizeOf jJ,Option.getD_none,Option.getD_some]
         congr 2
        ·simp[sliced]
         cases av<;>simp[Addr.add]
       rcases h6 with⟨cap',he,hc,hcap⟩|⟨hn0,a',he⟩
       ·cases he
        obtain⟨u',k1,c',rfl⟩:=key _ _ _ rfl hc
        rw[hfin k1]
        refine .same hS hK (.psl hlt fun B hB=> ?_)
        rw[hA1]at hB;cases hB
        exact⟨hle,fun _=>⟨_,h4,by omega,_,_,rfl,fun _=>rfl⟩⟩
       ·cases he
        obtain⟨u',k1,c',rfl⟩:=key _ 0 0 (by omega) (Nat.le_refl _)
        rw[hfin k1]
        refine .same hS hK (.psl hlt fun B hB=> ?_)
        rw[hA1]at hB;cases hB
        exact⟨hle,fun _=>⟨_,h4,by omega,_,_,rfl,fun hne=>by omega⟩⟩
      |none=>
       simp only at h6
       have hdl:(A.elems.drop skip).length=A.elems.length - skip:=by simp
       obtain⟨u',g1,g2⟩:=Jy (P:=C.P) (a:=none) (b:=some n) (m:=none) hun jJ (fun x hx=>by rw[DV.cu (aaj x (List.mem_of_mem_drop hx)),WM]) h6 (.inl ⟨rfl,rfl⟩) bb (.inl ⟨rfl,rfl⟩) (fun _ hh=>by cases hh) (by simp) (by simpa using q1) (by simp only[Option.getD_some,hdl];omega)
       rw[hfin g1]
       have g2':bf w (away X M E) u' (.slice false ((A.elems.drop skip).take n.toNat)):=by simpa using g2
       obtain⟨av',c',hu'⟩:=g2'.lq
       have hll:((A.elems.drop skip).take n.toNat).length=n.toNat:=by simp;omega
       subst hu'
       refine .same hS hK (.psl hlt fun B hB=> ?_)
       rw[hA1]at hB;cases hB
       exact⟨hle,fun _=>⟨none,h4,by omega,g2'⟩⟩
   ·exact h.elim
  ·cases hu
 ·cases hu
theorem agX {ρ:Operand→Value}{o:Oper}{t:TypeId}{x:Operand}{olo ohi omx:Option Operand}{sz:Nat}(ho:o.op= .slice t x olo ohi omx){args:List PV}(hS:Sim C X w M E)
  (hA:aK w (away X M E) M E ((opsOf o.op).map ρ) args)(hok:aI C.P (.slice t x olo ohi omx) (.adp sz)=true){base:Nat}(h:aj C base (.adp sz) args M K KP):dZ C X w M E K KP ((execOp ρ o).run C.P w):=by
 refine YT (lo:=true) (hi:=false) (mx:=false) (sz:=sz) (base:=base) ho hS hA hok ?_
 simp only[aj]at h⊢
 split at h
 ·rename_i k ver skip kk n
  simp only[Df,dI,Option.getD_some]
  cases hA:M.row k ver with
  |none=>simp only[hA]at h
  |some A=>
   simp only[hA]at h⊢
   exact⟨trivial,h.1,trivial,h.2.1,h.2.2.1,h.2.2.2⟩
 ·exact h.elim
theorem agH {ρ:Operand→Value}{o:Oper}{sz:Nat}{argTypes:Array TypeId}{as:Array Operand}(ho:o.op= .call {callee:= .builtin .copy,args:=as,argTypes}){args:List PV}(hS:Sim C X w M E)(hA:aK w (away X M E) M E ((opsOf o.op).map ρ) args)
  (hok:aI C.P (.call {callee:= .builtin .copy,args:=as,argTypes}) (.copy sz)=true){base:Nat}(h:aj C base (.copy sz) args M K KP):dZ C X w M E K KP ((execOp ρ o).run C.P w):=by
 simp only[aI]at hok
 simp only[ho,opsOf]at hA
 simp only[aj]at h
 split at h
 ·rename_i k ver skip x
  obtain⟨v,u,he,hr,hr2⟩:=dJ hA
  have has:as.map ρ= #[v,u]:=by apply Array.ext';simpa using he
  obtain⟨dT,sT,rfl,hu⟩:=ZM (p:=fun a b=>match a,b with
   |some (.slice e),some (.slice _)=>(match C.P.info? e with|some i=>i.size==sz&&decide (0<sz)|none=>false)
   | _,_=>false) hok
  split at hu
  ·rename_i e d hun aoC
   split at hu
   ·rename_i inf jJ
    simp only[Bool.and_eq_true,beq_iff_eq,decide_eq_true_eq]at hu
    obtain⟨hsz,hpos⟩:=hu
    cases hrow:M.row k ver with
    |none=>simp only[hrow]at h
    |some A=>
     cases hys:Yg x M with
     |none=>simp only[hrow,hys]at h
     |some ys=>
      simp only[hrow,hys]at h
      obtain⟨hst,WM,hyf,hK⟩:=h
      obtain⟨hA1,h1,h2,h3,h4⟩:=MQ hS hr hrow
      obtain⟨r1,r2⟩:=afk hS hr2 hys hyf
      have hfin:∀{r:Value} {w':World},(Builtin.copy_ #[dT,sT] o.type #[v,u]).run C.P w= .ok r w'→(execOp ρ o).run C.P w= .ok (.value r) w':=by
       intro r w' hh
       simp[execOp,ho,has,hh,go_sem]
      rcases h4 with⟨blk,o1,e1,vs,T,cap,q1,q2,q3,q4,q5,q6⟩|⟨_,hne,_⟩
      ·obtain⟨news,n1,n2⟩:=r2 (min ys.length (A.elems.length - skip)) (Nat.min_le_left _ _)
       have abV:∀y∈ys.take (min ys.length (A.elems.length - skip)),y.fits A.sz=true:=fun y hy=>WM▸hyf y (List.mem_of_mem_take hy)
       have hyl:(ys.take (min ys.length (A.elems.length - skip))).length=min ys.length (A.elems.length - skip):=by simp
       have hnl:news.length=min ys.length (A.elems.length - skip)*A.sz:=by rw[n2.length,flat_length fun y hy=>DV.cu (abV y hy),hyl]
       obtain⟨w1,w2⟩:=U3 (skip:=skip) h3 q5 abV (by rw[hyl];omega) (by omega) n2
       have hel:A.elems.take skip++(ys.take (min ys.length (A.elems.length - skip))++A.elems.drop (skip+(ys.take (min ys.length (A.elems.length - skip))).length))=A.elems.take skip++(ys.take (A.elems.length - skip)++A.elems.drop (skip+ys.length)):=by
        rw[hyl]
        rcases Nat.le_total ys.length (A.elems.length - skip)with hle|hle
        ·rw[Nat.min_eq_left hle,List.take_of_length_le (Nat.le_refl _),List.take_of_length_le hle]
        ·rw[Nat.min_eq_right hle,List.drop_eq_nil_of_le (by omega),List.drop_eq_nil_of_le (by omega)]
       rw[hel]at w2
       have hell:(A.elems.take skip++(ys.take (A.elems.length - skip)++A.elems.drop (skip+ys.length))).length=A.elems.length:=by simp;omega
       have aop:∀z∈A.elems.take skip++(ys.take (A.elems.length - skip)++A.elems.drop (skip+ys.length)),z.fits A.sz=true:=by
        intro z hz
        rcases List.mem_append.1 hz with hz|hz
        ·exact h3 z (List.mem_of_mem_take hz)
        ·rcases List.mem_append.1 hz with hz|hz
         ·exact WM▸hyf z (List.mem_of_mem_take hz)
         ·exact h3 z (List.mem_of_mem_drop hz)
       rcases q6 with⟨rfl,q7,q8⟩|⟨q7,q9,a',rfl⟩
       ·have aeK:=kH C.P blk (o1+skip*A.sz) T.ty T.fr news 0 vs w q2 T.ok (by
         have:min ys.length (A.elems.length - skip)*A.sz≤(A.elems.length - skip)*A.sz:=Nat.mul_le_mul_right _ (Nat.min_le_right _ _)
         have h5:skip*A.sz+(A.elems.length - skip)*A.sz=A.elems.length*A.sz:=by rw[←Nat.add_mul];congr 1;omega
         rw[hnl];omega) (af7 n2 (Y7 abV))
        simp only[Nat.add_zero]at aeK
        have hrun:(Builtin.copy_ #[dT,sT] o.type #[.slice (some ⟨blk,o1+skip*A.sz,none⟩) (A.elems.length - skip) cap,u]).run C.P w= .ok (goInt (min ys.length (A.elems.length - skip):Nat)) (w.setRow blk (splice vs.toList (o1+skip*A.sz) news).toArray):=by
         have hr1:=r1 C.P
         have hn1:=n1 C.P
         rw[←hsz]at hn1
         simp only[Builtin.copy_,Sem.run_bind,run_underlying hun,Result.andThen_ok,hr1,sizeOf,typeInfo,jJ,Sem.run_pure]
         simp only[Nat.min_def]at hn1 aeK⊢
         simp[run_underlying hun,hr1,jJ,hn1,aeK,Am.splice]
        rw[hfin hrun]
        obtain⟨t1,t2⟩:=P8 hS hA1 hst q1 q2 hell aop w1 w2 (yx w blk vs T.ty _ q2)
        exact⟨_,_,_,hK,t1,t2, .d (.int _ _)⟩
       ·have hz:A.elems.length - skip=0:=by omega
        simp only[hz,Nat.min_zero,Nat.zero_mul,List.length_eq_zero_iff]at hnl
        subst hnl
        have hrun:(Builtin.copy_ #[dT,sT] o.type #[.slice a' 0 0,u]).run C.P w= .ok (goInt 0) w:=by
         have hr1:=r1 C.P
         have hn1:=n1 C.P
         rw[←hsz]at hn1
         simp only[hz,Nat.min_zero]at hn1
         cases a' with
         |none=>simp[Builtin.copy_,run_underlying hun,hr1,sizeOf,typeInfo,jJ,hn1]
         |some a'=>simp[Builtin.copy_,run_underlying hun,hr1,sizeOf,typeInfo,jJ,hn1,storeCells]
        rw[hfin hrun]
        simp only[hz,Nat.min_zero]at hK
        have e3:({A with elems:=A.elems.take skip++(ys.take 0++A.elems.drop (skip+ys.length))}:Arr)=A:=by
         have:A.elems.take skip++(ys.take 0++A.elems.drop (skip+ys.length))=A.elems:=by
          rw[List.take_zero,List.nil_append,List.drop_eq_nil_of_le (by omega),List.append_nil,List.take_of_length_le (by omega)]
         rw[this]
        rw[e3]at hK
        have e4:M.aA.set k (some A)=M.aA:=by
         apply List.ext_getElem?
         intro i
         rw[List.getElem?_set]
         by_cases hi:k=i
         ·subst hi;rw[if_pos rfl,if_pos (List.getElem?_eq_some_iff.1 hA1).1,hA1]
         ·simp[hi]
        rw[e4]at hK
        exact .same hS hK (.d (.int _ _))
      ·exact absurd hst hne
   ·cases hu
  ·cases hu
 ·exact h.elim
theorem aiJ {ρ:Operand→Value}{o:Oper}{sz:Nat}{z:DV}{argTypes:Array TypeId}{as:Array Operand}(ho:o.op= .call {callee:= .builtin .clear,args:=as,argTypes}){args:List PV}(hS:Sim C X w M E)(hA:aK w (away X M E) M E ((opsOf o.op).map ρ) args)
  (hok:aI C.P (.call {callee:= .builtin .clear,args:=as,argTypes}) (.clr sz z)=true){base:Nat}(h:aj C base (.clr sz z) args M K KP):dZ C X w M E K KP ((execOp ρ o).run C.P w):=by
 simp only[aI,Bool.and_eq_true,beq_iff_eq]at hok
 obtain⟨h1,hok⟩:=hok
 simp only[ho,opsOf]at hA
 simp only[aj]at h
 split at hok
 ·rename_i e hun
  split at hok
  ·rename_i inf jJ
   split at hok
   ·rename_i z' hz
    simp only[Bool.and_eq_true,beq_iff_eq,decide_eq_true_eq]at hok
    obtain⟨⟨⟨hsz,hpos⟩,hzs⟩,hzr⟩:=hok
    split at h
    ·rename_i k ver skip
     cases hrow:M.row k ver with
     |none=>simp only[hrow]at h
     |some A=>
      simp only[hrow]at h
      obtain⟨hst,WM,hzf,hK⟩:=h
      obtain⟨v,he,hr⟩:=eG hA
      have has:as.map ρ= #[v]:=by apply Array.ext';simpa using he
      obtain⟨dT,rfl⟩:∃dT,argTypes= #[dT]:=by
       obtain⟨l⟩:=argTypes
       match l,h1 with
       | [t],_=>exact⟨t,rfl⟩
      have hun:C.P.underlying dT=some (.slice e):=by simpa using hun
      obtain⟨hA1,h1,h2,h3,h4⟩:=MQ hS hr hrow
      have hfin:∀{r:Value} {w':World},(Builtin.clear_ #[dT] o.type #[v]).run C.P w= .ok r w'→(execOp ρ o).run C.P w= .ok (.value r) w':=by
       intro r w' hh
       simp[execOp,ho,has,hh,go_sem]
      have hzv:(zeroValue e).run C.P w= .ok z' w:=by simp[zeroValue,typeInfo,jJ,hz]
      rcases h4 with⟨blk,o1,e1,vs,T,cap,q1,q2,q3,q4,q5,q6⟩|⟨_,hne,_⟩
      ·have n2:=afD (w:=w) (O:=away X M E) (n:=A.elems.length - skip) hzs hzr hpos
       have abV:∀y∈List.replicate (A.elems.length - skip) z,y.fits A.sz=true:=fun y hy=>by rw[(List.mem_replicate.1 hy).2,WM];exact hzf
       have hnl:(Builtin.zeroCells z'.cells (A.elems.length - skip)).toList.length=(A.elems.length - skip)*A.sz:=by rw[n2.length,flat_length fun y hy=>DV.cu (abV y hy)];simp
       obtain⟨w1,w2⟩:=U3 (skip:=skip) h3 q5 abV (by simp;omega) (by omega) n2
       have hel:List.drop (skip+(List.replicate (A.elems.length - skip) z).length) A.elems=[]:=List.drop_eq_nil_of_le (by simp;omega)
       rw[hel,List.append_nil]at w2
       have hell:(A.elems.take skip++List.replicate (A.elems.length - skip) z).length=A.elems.length:=by simp;omega
       have aop:∀y∈A.elems.take skip++List.replicate (A.elems.length - skip) z,y.fits A.sz=true:=by
        intro y hy
        rcases List.mem_append.1 hy with hy|hy
        ·exact h3 y (List.mem_of_mem_take hy)
        ·exact abV y hy
       rcases q6 with⟨rfl,q7,q8⟩|⟨q7,q9,a',rfl⟩
       ·by_cases hz0:A.elems.length - skip=0
        ·have hrun:(Builtin.clear_ #[dT] o.type #[.slice (some ⟨blk,o1+skip*A.sz,none⟩) (A.elems.length - skip) cap]).run C.P w= .ok (.tuple #[]) w:=by
          rw[hz0];simp[Builtin.clear_,run_underlying hun]
         rw[hfin hrun]
         have e3:({A with elems:=A.elems.take skip++List.replicate (A.elems.length - skip) z}:Arr)=A:=by
          rw[hz0,List.replicate_zero,List.append_nil,List.take_of_length_le (by omega)]
         rw[e3]at hK
         have e4:M.aA.set k (some A)=M.aA:=by
          apply List.ext_getElem?
          intro i
          rw[List.getElem?_set]
          by_cases hi:k=i
          ·subst hi;rw[if_pos rfl,if_pos (List.getElem?_eq_some_iff.1 hA1).1,hA1]
          ·simp[hi]
         rw[e4]at hK
         exact .same hS hK (.d (.tup .nil))
        ·have aeK:=kH C.P blk (o1+skip*A.sz) T.ty T.fr (Builtin.zeroCells z'.cells (A.elems.length - skip)).toList 0 vs w q2 T.ok (by
          have h5:skip*A.sz+(A.elems.length - skip)*A.sz=A.elems.length*A.sz:=by rw[←Nat.add_mul];congr 1;omega
          rw[hnl];omega) (af7 n2 (Y7 abV))
         simp only[Nat.add_zero]at aeK
         have hrun:(Builtin.clear_ #[dT] o.type #[.slice (some ⟨blk,o1+skip*A.sz,none⟩) (A.elems.length - skip) cap]).run C.P w= .ok (.tuple #[]) (w.setRow blk (splice vs.toList (o1+skip*A.sz) (Builtin.zeroCells z'.cells (A.elems.length - skip)).toList).toArray):=by
          obtain⟨n',hn'⟩:∃n',A.elems.length - skip=n'+1:=⟨A.elems.length - skip - 1,by omega⟩
          rw[hn']at aeK⊢
          simp only[Builtin.clear_]
          simp[run_underlying hun,hzv,aeK,Am.splice]
         rw[hfin hrun]
         obtain⟨t1,t2⟩:=P8 hS hA1 hst q1 q2 hell aop w1 w2 (yx w blk vs T.ty _ q2)
         exact⟨_,_,_,hK,t1,t2, .d (.tup .nil)⟩
       ·have hz0:A.elems.length - skip=0:=by omega
        have hrun:(Builtin.clear_ #[dT] o.type #[.slice a' 0 0]).run C.P w= .ok (.tuple #[]) w:=by
         cases a'<;>simp[Builtin.clear_,run_underlying hun]
        rw[hfin hrun]
        have e3:({A with elems:=A.elems.take skip++List.replicate (A.elems.length - skip) z}:Arr)=A:=by
         rw[hz0,List.replicate_zero,List.append_nil,List.take_of_length_le (by omega)]
        rw[e3]at hK
        have e4:M.aA.set k (some A)=M.aA:=by
         apply List.ext_getElem?
         intro i
         rw[List.getElem?_set]
         by_cases hi:k=i
         ·subst hi;rw[if_pos rfl,if_pos (List.getElem?_eq_some_iff.1 hA1).1,hA1]
         ·simp[hi]
        rw[e4]at hK
        exact .same hS hK (.d (.tup .nil))
      ·exact absurd hst hne
    ·exact h.elim
   ·cases hok
  ·cases hok
 ·cases hok
theorem agV {ρ:Operand→Value}{o:Oper}{t:TypeId}{x:Operand}{i:Nat}(ho:o.op= .range t x){args:List PV}(hS:Sim C X w M E)(hA:aK w (away X M E) M E ((opsOf o.op).map ρ) args)
  (hok:aI C.P (.range t x) (.rngS i)=true){base:Nat}(h:aj C base (.rngS i) args M K KP):dZ C X w M E K KP ((execOp ρ o).run C.P w):=by
 simp only[aI]at hok
 simp only[ho,opsOf,List.map_cons,List.map_nil]at hA
 split at hok
 ·rename_i hun
  simp only[aj]at h
  split at h
  ·rename_i s
   obtain⟨h1,h2⟩:=h
   obtain⟨v,he,hr⟩:=eG hA
   simp only[List.cons.injEq,and_true]at he
   subst he
   have hv:=hr.toD.uT
   have hlt:base+i<M.boxes.length:=(List.getElem?_eq_some_iff.1 h1).1
   have aak:base+i<E.bx.length:=hS.ig▸hlt
   have hrun:(execOp ρ o).run C.P w= .ok (.value (.pointer (some ⟨w.heap.size,0,none⟩))) (w.alloc (.stringIter s 0)):=by
    simp only[execOp,ho,Instr.range,Sem.run_bind,run_underlying hun,Result.andThen_ok,hv,Sem.run_pure,run_newObj_alloc]
   rw[hrun]
   obtain⟨g1,g2⟩:=aaR (o:= .stringIter s 0) (cs:=[.KE s 0]) hS h1 fun _=>heap_alloc_new w _
   exact⟨_,_,_,h2,g1,g2, .DN (cs:=[.KE s 0]) (by simp[hlt]) (by simp[aak]) rfl⟩
  ·exact h.elim
 ·cases hok
theorem agT {ρ:Operand→Value}{o:Oper}{x:Operand}{c:Bool}(ho:o.op= .next x c){args:List PV}(hS:Sim C X w M E)(hA:aK w (away X M E) M E ((opsOf o.op).map ρ) args)
  (hok:aI C.P (.next x c) .acw=true){base:Nat}(h:aj C base .acw args M K KP):dZ C X w M E K KP ((execOp ρ o).run C.P w):=by
 simp only[aI]at hok
 subst hok
 simp only[ho,opsOf,List.map_cons,List.map_nil]at hA
 simp only[aj]at h
 split at h
 ·rename_i b
  obtain⟨v,he,hr⟩:=eG hA
  simp only[List.cons.injEq,and_true]at he
  subst he
  split at h
  ·rename_i s pos hbox
   obtain⟨hfz,h⟩:=h
   have hbx:M.boxes[b]?=some (some [.KE s pos]):=by
    unfold Mem.box at hbox
    split at hbox
    ·rename_i cs hcs;cases hbox;exact hcs
    ·cases hbox
   generalize hvv:ρ x=vv at hr
   cases hr with
   |DN hlb hbb hob=>
    rename_i blk cs
    rw[hbx]at hlb;cases hlb
    obtain⟨blk',q1,q2,q3⟩:=hS.box b _ hbx
    rw[hbb]at q1;cases q1
    have q3:w.heap[blk]?=some (.stringIter s pos):=q3
    have hget:(getObj blk).run C.P w= .ok (.stringIter s pos) w:=by simp[getObj,Sem.run,q3]
    have hset:∀o':Obj,(setObj blk o').run C.P w= .ok () {w with heap:=w.heap.setIfInBounds blk o'}:=fun o'=>by simp[setObj,Sem.run,q3]
    by_cases hp:pos<s.size
    ·rw[if_pos hp]at h
     have hrun:(execOp ρ o).run C.P w= .ok (.value (.tuple #[.bool true, .int .i64 pos, .int .i32 (Utf8.decode s pos).1])) {w with heap:=w.heap.setIfInBounds blk (.stringIter s (pos+(Utf8.decode s pos).2))}:=by
      simp only[execOp,ho,Instr.next,hvv,Sem.run_bind,hget,Result.andThen_ok,if_pos hp,hset,Sem.run_pure]
      rfl
     rw[hrun]
     have hlt:=bT q3
     obtain⟨s1,s2⟩:=RQ (cs':=[.KE s (pos+(Utf8.decode s pos).2)]) hS hbx hfz rfl rfl hbb (Q8 w blk (.stringIter s (pos+(Utf8.decode s pos).2)) hlt) fun hf=>by
      show({w with heap:=w.heap.setIfInBounds blk (.stringIter s (pos+(Utf8.decode s pos).2))}:World).heap[blk]?=_
      simp[hlt]
     exact⟨_,_,_,h,s1,s2, .d (.tup (.cons (.bool _) (.cons (.int _ _) (.cons (.int _ _) .nil))))⟩
    ·rw[if_neg hp]at h
     have hrun:(execOp ρ o).run C.P w= .ok (.value (.tuple #[.bool false])) w:=by
      simp only[execOp,ho,Instr.next,hvv,Sem.run_bind,hget,Result.andThen_ok,if_neg hp,Sem.run_pure]
     rw[hrun]
     exact .same hS h (.d (.tup (.cons (.bool _) .nil)))
  ·exact h.elim
 ·exact h.elim
theorem afp {P:Program}{t:TypeId}{name:String}{f:FuncId}(h:Np P t name=some f)(v:Value)(n:Nat)(w:World):(Go.method (n+1) t v name).run P w= .ok (f,v) w:=by
 unfold Np at h
 split at h
 ·rename_i i hi
  split at h
  ·rename_i m hm
   split at h
   ·rename_i hp
    split at h
    ·cases h
    ·rename_i d hd hdn
     split at h
     ·rename_i f' hf
      simp only[Option.some.injEq]at h
      subst h
      have hpl:m.path.toList=[]:=by simpa using hp
      have hrec:(Go.receiverAt t (.val v) false (if m.path.isEmpty then some ((name.splitOn ".").getLastD name)else none)).run P w= .ok v w:=by
       unfold Go.receiverAt
       simp only[Sem.run_bind,run_underlying hdn,Result.andThen_ok]
       cases d<;>first|rfl|exact absurd rfl (hd _)
      simp only[Go.method,Sem.run_bind,typeInfo,run_program,Result.andThen_ok,hi,Sem.run_pure,hm,hpl,Go.follow,hf,hrec]
     ·cases h
    ·cases h
   ·cases h
  ·cases h
 ·cases h
theorem aiL {ρ:Operand→Value}{o:Oper}{r:Operand}{name name':String}{argTypes:Array TypeId}{as:Array Operand}(ho:o.op= .call {callee:= .invoke r name,args:=as,argTypes})
  {args:List PV}(hA:aK w (away X M E) M E ((opsOf o.op).map ρ) args)(hok:aI C.P (.call {callee:= .invoke r name,args:=as,argTypes}) (.inv name')=true){base:Nat}(h:aj C base (.inv name') args M K KP):dZ C X w M E K KP ((execOp ρ o).run C.P w):=by
 simp only[aI,decide_eq_true_eq]at hok
 subst hok
 simp only[ho,opsOf,List.map_cons]at hA
 simp only[aj]at h
 split at h
 ·rename_i t v rest
  obtain⟨f,hf,hc,h⟩:=h
  cases hA with
  |cons h1 h2=>
   have hd:=h1.toD
   generalize hv:ρ r=vv at hd
   cases hd with
   |iface hx=>
    rename_i u
    have hrun:(execOp ρ o).run C.P w= .ok (.enter f (#[u]++as.map ρ)) w:=by
     simp only[execOp,ho,resolve,hv,Sem.run_bind,Sem.run_pure,Result.andThen_ok,invoke]
     have e1:(#[Value.iface t u]++as.map ρ)[0]?=some (.iface t u):=by rw[Array.getElem?_append_left (by simp)];rfl
     have e2:(#[Value.iface t u]++as.map ρ).extract 1 (#[Value.iface t u]++as.map ρ).size=as.map ρ:=by
      apply Array.ext'
      simp only[Array.toList_extract,Array.toList_append,Array.toList_map,List.extract_eq_take_drop,Array.size_append,Array.size_map,List.size_toArray,List.length_singleton,List.singleton_append,List.drop_succ_cons,List.drop_zero]
      rw[List.take_of_length_le (by simp)]
     simp only[e1,e2,callMethod,Sem.run_bind,run_program,Result.andThen_ok]
     have hpos:C.P.types.size+Made.depth=(C.P.types.size+Made.depth - 1)+1:=by
      have:0<Made.depth:=by decide
      omega
     rw[hpos,afp hf]
     simp only[Result.andThen_ok,xY hc]
    rw[hrun]
    exact⟨rfl,_,h,by simpa using aK.cons (.d hx) h2⟩
 ·exact h.elim
theorem aiQ {ρ:Operand→Value}{o:Oper}{op op':BinOp}{t u:TypeId}{x y:Operand}(ho:o.op= .binOp op t x y u){args:List PV}(hS:Sim C X w M E)(hA:aK w (away X M E) M E ((opsOf o.op).map ρ) args)
  (hok:aI C.P (.binOp op t x y u) (.shf op')=true){base:Nat}(h:aj C base (.shf op') args M K KP):dZ C X w M E K KP ((execOp ρ o).run C.P w):=by
 simp only[aI,Bool.and_eq_true,decide_eq_true_eq]at hok
 obtain⟨⟨rfl,_⟩,_⟩:=hok
 simp only[ho,opsOf,List.map_cons,List.map_nil]at hA
 simp only[aj]at h
 split at h
 ·rename_i k a k' b
  obtain⟨h0,h⟩:=h
  obtain⟨v,u',he,hr,hr2⟩:=dJ hA
  simp only[List.cons.injEq,and_true]at he
  obtain⟨rfl,rfl⟩:=he
  have e1:=hr.toD.fA
  have e2:=hr2.toD.fA
  have hg:(eqGuard op t x y (ρ x) (ρ y)).run C.P w= .ok () w:=wQ (.inl ⟨_,_,e1⟩) w
  have hn:¬b<0:=by omega
  have fin:∀{v:Value} {d:DV},K (.d d) M→bf w (away X M E) v d→(binOp op t (ρ x) (ρ y)).run C.P w= .ok v w→dZ C X w M E K KP ((execOp ρ o).run C.P w):=by
   intro v d hK hR hb
   have hrun:(execOp ρ o).run C.P w= .ok (.value v) w:=by simp[execOp,ho,hg,hb]
   rw[hrun]
   exact .same hS hK (.d hR)
  split at h
  ·exact fin h (.int _ _) (by rw[e1,e2];simp[binOp,Op.shift,hn])
  ·exact fin h (.int _ _) (by rw[e1,e2];simp[binOp,Op.shift,hn])
  ·exact h.elim
 ·exact h.elim
theorem run_equalIn_iface_nil {P:Program}{t:TypeId}{ms:Array (String×TypeId)}(ht:P.underlying t=some (.interface ms))(w:World)(d:Nat)(u:TypeId)(v:Value):(Op.equalIn (d+1) t (.iface u v) .nilIface).run P w= .ok false w:=by
 simp only[Op.equalIn,Sem.run_bind,run_underlying ht,Result.andThen_ok,Sem.run_pure]
theorem run_equalIn_nil_nil {P:Program}{t:TypeId}{ms:Array (String×TypeId)}(ht:P.underlying t=some (.interface ms))(w:World)(d:Nat):(Op.equalIn (d+1) t .nilIface .nilIface).run P w= .ok true w:=by
 simp only[Op.equalIn,Sem.run_bind,run_underlying ht,Result.andThen_ok,Sem.run_pure]
theorem abm {ρ:Operand→Value}{o:Oper}{op:BinOp}{neq:Bool}{t u:TypeId}{x y:Operand}(ho:o.op= .binOp op t x y u)(hρ:∀v,ρ (.const v)=v){args:List PV}(hS:Sim C X w M E)(hA:aK w (away X M E) M E ((opsOf o.op).map ρ) args)
  (hok:aI C.P (.binOp op t x y u) (.IX neq)=true){base:Nat}(h:aj C base (.IX neq) args M K KP):dZ C X w M E K KP ((execOp ρ o).run C.P w):=by
 simp only[aI,Bool.and_eq_true]at hok
 obtain⟨⟨hop,hty⟩,hy⟩:=hok
 split at hty
 ·rename_i ms hun
  split at hy
  ·simp only[ho,opsOf,List.map_cons,List.map_nil,hρ]at hA
   obtain⟨v,hv⟩:∃v,v=ρ x:=⟨_,rfl⟩
   rw[←hv]at hA
   have fin:∀b:Bool,(Op.equal t v .nilIface).run C.P w= .ok b w→(eqGuard op t x (.const .nilIface) v .nilIface).run C.P w= .ok () w→(execOp ρ o).run C.P w= .ok (.value (.bool (b !=neq))) w:=by
    intro b heq hg
    cases op<;>simp only[Bool.not_eq_true',Bool.false_eq_true]at hop
    ·subst hop
     simp only[execOp,ho,Sem.run_bind,hρ,←hv,hg,Result.andThen_ok,binOp,heq,Sem.run_pure]
     simp
    ·subst hop
     simp only[execOp,ho,Sem.run_bind,hρ,←hv,hg,Result.andThen_ok,binOp,heq,Sem.run_pure]
     simp
   simp only[aj]at h
   split at h
   ·rename_i t' d'
    obtain⟨v1,u1,he,hr,_⟩:=dJ hA
    simp only[List.cons.injEq,and_true]at he
    obtain⟨rfl,_⟩:=he
    have hd:=hr.toD
    generalize hvv:v=vv at hd
    cases hd with
    |iface hh=>
     subst hvv
     rw[fin false (run_equalIn_iface_nil hun w 9999 _ _) (by unfold eqGuard;simp<;>split<;>simp)]
     exact .same hS (by simpa using h) (.d (.bool _))
   ·obtain⟨v1,u1,he,hr,_⟩:=dJ hA
    simp only[List.cons.injEq,and_true]at he
    obtain⟨rfl,_⟩:=he
    have hd:=hr.toD
    generalize hvv:v=vv at hd
    cases hd with
    |nilIface=>
     subst hvv
     rw[fin true (run_equalIn_nil_nil hun w 9999) (by unfold eqGuard;simp<;>split<;>simp)]
     exact .same hS (by simpa using h) (.d (.bool _))
   ·exact h.elim
  ·cases hy
 ·cases hty
end
end Go.Am
