/-
  Part 5 of the proof of a law of desks: an abstract machine over the model, contracts of functions, plain laws.
  Conditions: none.
-/
import Derived.Test.YtbefoehadfnkbaaGreatDoorJourneymanParsesM04
set_option linter.all false
namespace Go.Am
def Reads (w:World)(O:Nat→Prop)(sz:Nat)(v:Value)(ys:List DV):Prop:=
 ∃news:List Value,(∀P,(Builtin.lenOf v).run P w= .ok ys.length w)∧(∀P w',Later w w'→(Builtin.firstCells sz ys.length v).run P w'= .ok news.toArray w')∧aQ w O news (flat ys)
section
variable {C:Ctx}{X:Nat→Prop}{w:World}{M:Mem}{E:Emb}{K:PV→Mem→Prop}{KP:DV→Mem→Prop}{O:Nat→Prop}
theorem EH (P:Program)(w:World)(a:Addr):(loadCells a 0).run P w= .ok #[] w:=by
 have:=run_loadCells_list (P:=P) w a [] (fun j v hj=>by simp at hj)
 simpa using this
theorem reads_nil {sz cap:Nat}{a:Option Addr}:Reads w O sz (.slice a 0 cap) []:=by
 refine⟨[],fun P=>by simp[Builtin.lenOf],fun P w' _=> ?_,by simpa[flat]using .nil⟩
 cases a with
 |none=>simp[Builtin.firstCells]
 |some a=>simp[Builtin.firstCells,EH]
theorem Zu {sz blk off len cap:Nat}{ys:List DV}{cs:Array Value}{T:TypeId}{fz:Nat×Nat}(hb:w.heap[blk]?=some (.cells cs T fz))
  (hr:aQ w O ((cs.toList.drop off).take (len*sz)) (flat ys))(hl:ys.length=len)(hs:∀y∈ys,y.cells.length=sz):Reads w O sz (.slice (some ⟨blk,off,none⟩) len cap) ys:=by
 subst hl
 have hlen:((cs.toList.drop off).take (ys.length*sz)).length=ys.length*sz:=by rw[hr.length,flat_length hs]
 refine⟨_,fun P=>by simp[Builtin.lenOf],fun P w' hw=> ?_,hr⟩
 have:=run_loadCells_list (P:=P) w' ⟨blk,off,none⟩ ((cs.toList.drop off).take (ys.length*sz)) (fun j v hj=>by
  rw[Addr.add_lit,cell_of_row w' blk (off+j) cs T fz (hw.jC hb)]
  rw[List.getElem?_take]at hj
  split at hj
  ·rw[List.getElem?_drop]at hj;simpa using hj
  ·cases hj)
 rw[hlen]at this
 simpa[Builtin.firstCells]using this
theorem PW {sz:Nat}{v:Value}{ex:Bool}{ys:List DV}(hr:bf w O v (.slice ex ys))(hs:∀y∈ys,y.cells.length=sz):Reads w O sz v ys:=by
 cases hr with
 |empty hx=>exact reads_nil
 |slice hb ho hl hs' hc hx hh=>
  rename_i blk off len cap sz' cs T fz
  cases ys with
  |nil=>
   subst hl
   exact reads_nil
  |cons y ys=>
   have:sz'=sz:=by rw[←hs' y (by simp),hs y (by simp)]
   subst this
   exact Zu hb hh hl hs
theorem ahX {s:ByteArray}:Reads w O 1 (.string s) (s.data.toList.map fun b=> .int .u8 b.toNat):=by
 have hfl:∀l:List UInt8,flat (l.map fun b=>DV.int .u8 (b.toNat:Int))=l.map fun b=>DV.int .u8 (b.toNat:Int):=by
  intro l
  induction l with
  |nil=>rfl
  |cons b l ih=>rw[List.map_cons,mJ,ih];rfl
 have hlen:(s.data.toList.map fun b=>DV.int .u8 (b.toNat:Int)).length=s.size:=by simp
 refine⟨s.data.toList.map fun b=> .int .u8 b.toNat,fun P=>by rw[hlen];simp[Builtin.lenOf],fun P w' _=> ?_,?_⟩
 ·rw[hlen]
  have:s.extract 0 s.size=s:=by simp
  simp only[Builtin.firstCells,this,Sem.run_pure]
  congr 1
  apply Array.ext'
  simp
 ·rw[hfl]
  generalize s.data.toList=l
  induction l with
  |nil=>exact .nil
  |cons b l ih=>exact .cons (.int _ _) ih
theorem MQ {k ver skip:Nat}{v:Value}{A:Arr}(hS:Sim C X w M E)(hr:Rep w (away X M E) M E v (.tsl k ver skip))(hA:M.row k ver=some A):
  M.aA[k]?=some (some A)∧skip≤A.elems.length∧0<A.sz∧(∀x∈A.elems,x.fits A.sz=true)∧
  ((∃(blk o e:Nat) (vs:Array Value) (T:TM vs.size) (cap:Nat),E.ar[k]?=some (some (blk,o,e))∧w.heap[blk]?=some (.cells vs T.ty T.fr)∧o+A.elems.length*A.sz≤e∧e≤vs.size∧
    aQ w (away X M E) ((vs.toList.drop o).take (A.elems.length*A.sz)) (flat A.elems)∧
    ((v= .slice (some ⟨blk,o+skip*A.sz,none⟩) (A.elems.length - skip) cap∧A.elems.length - skip≤cap∧o+(skip+cap)*A.sz=e)∨(A.elems.length=skip∧cap=0∧∃a,v= .slice a 0 0)))∨
  (E.ar[k]?=some none∧A.st≠1∧bf w (away X M E) v (.slice true (A.elems.drop skip)))):=by
 obtain⟨hA1,hv⟩:=xI hA
 obtain⟨s1,s2,s3,s4⟩:=hS.arr k A hA1
 cases hr with
 |tsl hlt hh=>
  obtain⟨_,h2⟩:=hh A hA1
  obtain⟨loc,h3,h4,h5⟩:=h2 hv
  refine⟨hA1,h4,s1,s2,?_⟩
  cases loc with
  |some q=>
   obtain⟨blk,o,e⟩:=q
   obtain⟨_,vs,T,g2,g3,g4,g5⟩:=s4 blk o e h3
   simp only at h5
   rcases h5 with⟨cap,q1,q2,q3⟩|⟨q1,a,q2⟩
   ·exact .inl ⟨blk,o,e,vs,T,cap,h3,g2,g3,g4,g5, .inl ⟨q1,q2,q3⟩⟩
   ·exact .inl ⟨blk,o,e,vs,T,0,h3,g2,g3,g4,g5, .inr ⟨q1,rfl,a,q2⟩⟩
  |none=>
   refine .inr ⟨h3,fun hs=> ?_,h5⟩
   obtain⟨q,hq⟩:=s3 hs
   rw[h3]at hq;cases hq
theorem row_drop {A:Arr}{o skip:Nat}{vs:Array Value}(hfit:∀x∈A.elems,x.fits A.sz=true)(hr:aQ w O ((vs.toList.drop o).take (A.elems.length*A.sz)) (flat A.elems)):
  aQ w O ((vs.toList.drop (o+skip*A.sz)).take ((A.elems.length - skip)*A.sz)) (flat (A.elems.drop skip)):=by
 have e1:(vs.toList.drop (o+skip*A.sz)).take ((A.elems.length - skip)*A.sz)=(((vs.toList.drop o).take (A.elems.length*A.sz)).drop (skip*A.sz)):=by
  rw[List.drop_take,List.drop_drop,Nat.sub_mul]
 rw[e1,←Dl (fun x hx=>DV.cu (hfit x hx)) skip]
 exact hr.drop _
theorem Zv {k ver skip:Nat}{v:Value}{A:Arr}(hS:Sim C X w M E)(hr:Rep w (away X M E) M E v (.tsl k ver skip))(hA:M.row k ver=some A):Reads w (away X M E) A.sz v (A.elems.drop skip):=by
 obtain⟨_,h1,h2,h3,h4⟩:=MQ hS hr hA
 have hs:∀y∈A.elems.drop skip,y.cells.length=A.sz:=fun y hy=>DV.cu (h3 y (List.mem_of_mem_drop hy))
 rcases h4 with⟨blk,o,e,vs,T,cap,q1,q2,q3,q4,q5,q6⟩|⟨_,_,hd⟩
 ·rcases q6 with⟨rfl,q7,q8⟩|⟨q7,_,a,rfl⟩
  ·exact Zu q2 (row_drop h3 q5) (by simp) hs
  ·rw[List.drop_eq_nil_of_le (by omega)]
   exact reads_nil
 ·exact PW hd hs
theorem Reads.size {sz sz':Nat}{v:Value}{ys:List DV}(h:Reads w O sz v ys)(h1:∀y∈ys,y.cells.length=sz)(h2:∀y∈ys,y.cells.length=sz')(P:Program)(hn:∃a n cap,v= .slice a n cap):Reads w O sz' v ys:=by
 cases ys with
 |nil=>
  obtain⟨a,n,cap,rfl⟩:=hn
  obtain⟨news,q1,_,_⟩:=h
  have:n=0:=by simpa[Builtin.lenOf]using q1 P
  subst this
  exact reads_nil
 |cons y ys=>
  have:sz=sz':=by rw[←h1 y (by simp),h2 y (by simp)]
  subst this
  exact h
theorem XI {sz:Nat}{x:PV}{v:Value}{ys:List DV}(hS:Sim C X w M E)(hr:Rep w (away X M E) M E v x)(ha:Dv sz x M=some ys)(hfit:∀y∈ys,y.fits sz=true):Reads w (away X M E) sz v ys:=by
 have hs:∀y∈ys,y.cells.length=sz:=fun y hy=>DV.cu (hfit y hy)
 unfold Dv at ha
 split at ha
 ·simp only[Option.some.injEq]at ha;subst ha
  exact PW hr.toD hs
 ·split at ha
  ·rename_i hsz
   simp only[Option.some.injEq]at ha;subst ha;subst hsz
   have:=hr.toD.uT
   subst this
   exact ahX
  ·cases ha
 ·rw[Option.map_eq_some_iff]at ha
  obtain⟨A,hA,rfl⟩:=ha
  have h3:=(MQ hS hr hA).2.2.2.1
  obtain⟨a,cap,hv⟩:=hr.lq hA
  exact(Zv hS hr hA).size (fun y hy=>DV.cu (h3 y (List.mem_of_mem_drop hy))) hs C.P ⟨_,_,_,hv⟩
 ·cases ha
theorem ZM {argTypes:Array TypeId}{p:Option TypeDesc→Option TypeDesc→Bool}{P:Program}(h:(argTypes.size==2&&p (P.underlying (argTypes.getD 0 0)) (P.underlying (argTypes.getD 1 0)))=true):
  ∃t u,argTypes= #[t,u]∧p (P.underlying t) (P.underlying u)=true:=by
 simp only[Bool.and_eq_true,beq_iff_eq]at h
 obtain⟨h1,h2⟩:=h
 obtain⟨l⟩:=argTypes
 match l,h1 with
 | [t,u],_=>exact⟨t,u,rfl,by simpa using h2⟩
theorem abl {ρ:Operand→Value}{o:Oper}{sz:Nat}{st1:Bool}{argTypes:Array TypeId}{as:Array Operand}(ho:o.op= .call {callee:= .builtin .append,args:=as,argTypes}){args:List PV}(hS:Sim C X w M E)(hA:aK w (away X M E) M E ((opsOf o.op).map ρ) args)
  (hok:aI C.P (.call {callee:= .builtin .append,args:=as,argTypes}) (.app sz st1)=true){base:Nat}(h:aj C base (.app sz st1) args M K KP):dZ C X w M E K KP ((execOp ρ o).run C.P w):=by
 simp only[aI]at hok
 simp only[ho,opsOf]at hA
 simp only[aj]at h
 split at h
 ·rename_i s x
  obtain⟨v,u,he,hr,hr2⟩:=dJ hA
  have has:as.map ρ= #[v,u]:=by apply Array.ext';simpa using he
  obtain⟨sT,xT,rfl,hu⟩:=ZM (p:=fun a b=>match a,b with
   |some (.slice e),some d=>(match d with| .int _=>false| _=>true)&&(match C.P.info? e with
    |some i=>match i.zero with|some z=>i.size==sz&&decide (0<sz)&&decide (i.bytes≤1024)&&z.cells.size==sz|none=>false
    |none=>false)
   | _,_=>false) hok
  split at hu
  ·rename_i e d hun aoC
   simp only[Bool.and_eq_true]at hu
   obtain⟨hd,hu⟩:=hu
   split at hu
   ·rename_i inf jJ
    split at hu
    ·rename_i z hz
     simp only[Bool.and_eq_true,beq_iff_eq,decide_eq_true_eq]at hu
     obtain⟨⟨⟨hsz,hpos⟩,hbytes⟩,hzs⟩:=hu
     have hdk:∀k,d≠ .int k:=by rintro k rfl;cases hd
     have hfin:∀{r:Value} {w':World},(Builtin.append_ #[sT,xT] o.type #[v,u]).run C.P w= .ok r w'→(execOp ρ o).run C.P w= .ok (.value r) w':=by
      intro r w' hh
      simp[execOp,ho,resolve,has,invoke,builtin,hh]
     unfold mP at h
     split at h
     ·exact h.elim
     ·rename_i ys hys
      obtain⟨_,hyf,hst1,h⟩:=h
      have hyl:∀y∈ys,y.cells.length=sz:=fun y hy=>DV.cu (hyf y hy)
      obtain⟨news,n1,n2,n3⟩:=XI hS hr2 hys hyf
      have hnl:news.length=ys.length*sz:=by rw[n3.length,flat_length hyl]
      have hone:∀v∈news,v.oneCell'=true:=n3.oneCell (by
       intro c hc
       simp only[flat,List.mem_flatMap]at hc
       obtain⟨y,hy,hc⟩:=hc
       exact DV.Qs (hyf y hy) c hc)
      have hnew:∀{olds rest:List Value} {xs:List DV},aQ w (away X M E) olds (flat xs)→(∀x∈xs,x.cells.length=sz)→
        aQ w (away X M E) ((((olds++news++rest).toArray).toList.drop 0).take ((xs++ys).length*sz)) (flat (xs++ys)):=by
       intro olds rest xs ho' hx
       have hol:olds.length=xs.length*sz:=by rw[ho'.length,flat_length hx]
       have hon:(olds++news).length=(xs++ys).length*sz:=by simp[hol,hnl,Nat.add_mul]
       rw[List.drop_zero,←hon,List.take_left,zV]
       exact ho'.append n3
      split at h
      ·rename_i ex xs
       obtain⟨rfl,hxf,hlim,hK⟩:=h
       have hxl:∀y∈xs,y.cells.length=sz:=fun y hy=>DV.cu (hxf y hy)
       obtain⟨olds,o1,o2,o3⟩:=PW (sz:=sz) hr.toD hxl
       have hol:olds.length=xs.length*sz:=by rw[o3.length,flat_length hxl]
       have hcap:∃a,v= .slice a xs.length xs.length:=by
        have hd:=hr.toD
        cases hd with
        |empty hx=>rw[hx rfl];exact⟨_,rfl⟩
        |slice hb ho' hl hs hc hx hh=>rw[hx rfl,hl];exact⟨_,rfl⟩
       obtain⟨a,rfl⟩:=hcap
       have hfit:∀x∈(xs++ys),x.fits sz=true:=by
        intro x hx
        rcases List.mem_append.1 hx with hx|hx
        ·exact hxf x hx
        ·exact hyf x hx
       rcases X0 (ty:=o.type) hun ⟨d,aoC,hdk⟩ jJ hz hsz hbytes hzs (n1 C.P) (n2 C.P) hnl (o2 C.P) hol hlim hone (fun h1 h2=>by omega)with⟨_,q2,q3⟩|⟨q1,q2,_⟩|⟨_,w',cap,rest,q3,q4,q5,q6,q7⟩
       ·have hy0:ys=[]:=List.length_eq_zero_iff.1 q2
        subst hy0
        have hs1:st1=false:=by cases st1<;>simp_all
        subst hs1
        rw[hfin q3]
        obtain⟨t1,t2⟩:=zC (A:=⟨sz,xs++ [],0,0⟩) (loc:=none) hS (Later.refl w) hpos hfit (fun hh=>by cases hh) (fun _ _ _ hh=>by cases hh)
        refine⟨_,_,_,hK,t1,t2, .tsl (by simp) fun B hB=> ?_⟩
        have hBe:B=⟨sz,xs++ [],0,0⟩:=by simp at hB;simp[hB]
        subst hBe
        refine⟨Nat.le_refl _,fun _=>⟨none,by simp[←hS.aY],Nat.zero_le _,?_⟩⟩
        have:=hr.toD.from t2
        simpa using this
       ·omega
       ·rw[hfin q3]
        have hlen:(xs++ys).length=xs.length+ys.length:=by simp
        obtain⟨t1,t2⟩:=zC (A:=⟨sz,xs++ys,0,bif st1 then 1 else 0⟩) (loc:=some (w.heap.size,0,cap*sz)) hS q5 hpos hfit (fun _ hh=>by cases hh) (fun blk o' e' hh=>by
         cases hh
         refine⟨Nat.le_refl _,_, .zero _ _,q6,?_,?_,hnew o3 hxl⟩
         ·show 0+(xs++ys).length*sz≤cap*sz
          rw[Nat.zero_add,hlen]
          exact Nat.mul_le_mul_right _ q4
         ·rw[List.size_toArray,q7];exact Nat.le_refl _)
        refine⟨_,_,_,hK,t1,t2, .tsl (by simp) fun B hB=> ?_⟩
        have hBe:B=⟨sz,xs++ys,0,bif st1 then 1 else 0⟩:=by simp at hB;simp[hB]
        subst hBe
        refine⟨Nat.le_refl _,fun _=>⟨some (w.heap.size,0,cap*sz),by simp[←hS.aY],Nat.zero_le _, .inl ⟨cap,?_,?_,?_⟩⟩⟩
        ·simp
        ·simpa using q4
        ·simp
      ·rename_i k ver skip
       split at h
       ·rename_i A hrow
        obtain⟨rfl,hst,hlim,hK⟩:=h
        obtain⟨hA1,aro,_,hAf,apu⟩:=MQ hS hr hrow
        have hat:=fun _:Unit=>apu
        clear apu
        have hxf:∀y∈A.elems.drop skip,y.fits A.sz=true:=fun y hy=>hAf y (List.mem_of_mem_drop hy)
        have hxl:∀y∈A.elems.drop skip,y.cells.length=A.sz:=fun y hy=>DV.cu (hxf y hy)
        obtain⟨olds,o1,o2,o3⟩:=Zv hS hr hrow
        have hdl:(A.elems.drop skip).length=A.elems.length - skip:=by simp
        have hol:olds.length=(A.elems.length - skip)*A.sz:=by rw[o3.length,flat_length hxl,hdl]
        have aou:k<M.aA.length:=(List.getElem?_eq_some_iff.1 hA1).1
        have O8:=(xI hrow).2
        have afX:A.ver<ver+1:=by omega
        have hfit:∀x∈(A.elems.drop skip++ys),x.fits A.sz=true:=by
         intro x hx
         rcases List.mem_append.1 hx with hx|hx
         ·exact hxf x hx
         ·exact hyf x hx
        obtain⟨a,cap0,hv⟩:=hr.lq hrow
        subst hv
        rw[hdl]at o2
        have hset:∀{B A':Arr},(M.aA.set k (some A'))[k]?=some (some B)→B=A':=by
         intro B A' hB
         simp[aou]at hB
         exact hB.symm
        have hkl:k<(M.aA.set k (some (⟨A.sz,A.elems.drop skip++ys,ver+1,bif st1 then 1 else A.st⟩:Arr))).length:=by simpa using aou
        have hE:∀loc,(E.ar.set k loc)[k]?=some loc:=fun loc=>by simp[hS.aY,aou]
        have hroom:Unit→A.elems.length - skip+ys.length≤cap0→ys.length≠0→∃(blk o e:Nat) (vs:Array Value) (T:TM vs.size),E.ar[k]?=some (some (blk,o,e))∧w.heap[blk]?=some (.cells vs T.ty T.fr)∧o+A.elems.length*A.sz≤e∧e≤vs.size∧
          aQ w (away X M E) ((vs.toList.drop o).take (A.elems.length*A.sz)) (flat A.elems)∧a=some ⟨blk,o+skip*A.sz,none⟩∧o+(skip+cap0)*A.sz=e:=by
         intro _ h1 h2
         rcases hat ()with⟨blk,o,e,vs,T,cap,p1,p2,p3,p4,p5,p6⟩|⟨_,_,hd⟩
         ·rcases p6 with⟨hh,p7,p8⟩|⟨_,_,a',hh⟩
          ·cases hh;exact⟨blk,o,e,vs,T,p1,p2,p3,p4,p5,rfl,p8⟩
          ·simp only[Value.slice.injEq]at hh
           omega
         ·obtain⟨a',c',he',_,hcx,_⟩:=hd.P9
          simp only[Value.slice.injEq]at he'
          have:=hcx rfl
          omega
        rcases X0 (ty:=o.type) hun ⟨d,aoC,hdk⟩ jJ hz hsz hbytes hzs (n1 C.P) (n2 C.P) hnl (o2 C.P) hol (by omega) hone (fun h1 h2=>by
          obtain⟨blk,o',e',vs,T,p1,p2,p3,p4,p5,p6,p7⟩:=hroom () h1 h2
          refine⟨blk,_,vs,T,p6,p2,?_⟩
          rw[hnl,Nat.add_assoc,←Nat.add_mul,Nat.add_assoc,←Nat.add_mul]
          have:(skip+(A.elems.length - skip+ys.length))*A.sz≤(skip+cap0)*A.sz:=Nat.mul_le_mul_right _ (by omega)
          omega)with⟨q1,q2,q3⟩|⟨q1,q2,w',g,og,cur,T,q3,q4,q5,q6⟩|⟨_,w',cap,rest,q3,q4,q5,q6,q7⟩
        ·have hy0:ys=[]:=List.length_eq_zero_iff.1 q2
         subst hy0
         have hs1:st1=false:=by cases st1<;>simp_all
         subst hs1
         rw[hfin q3]
         rcases hat ()with⟨blk,o,e,vs,T,cap,p1,p2,p3,p4,p5,p6⟩|⟨p1,p2,hd⟩
         ·obtain⟨t1,t2⟩:=EJ (A':=⟨A.sz,A.elems.drop skip++ [],ver+1,A.st⟩) (loc:=some (blk,o+skip*A.sz,e)) hS hA1 hst rfl rfl rfl (Nat.le_refl _) (fun _ _ _ hh=>hh) afX hpos hfit (fun _ hh=>by cases hh) (fun blk' o' e' hh=>by
           cases hh
           refine⟨.inr ⟨o,e,p1⟩,vs,T,p2,?_,p4,?_⟩
           ·simp only[List.append_nil,hdl]
            have:skip*A.sz+(A.elems.length - skip)*A.sz=A.elems.length*A.sz:=by rw[←Nat.add_mul];congr 1;omega
            omega
           ·simp only[List.append_nil,hdl]
            exact row_drop hAf p5)
          refine⟨_,_,_,hK,t1,t2, .tsl hkl fun B hB=> ?_⟩
          have hBe:=hset hB
          subst hBe
          refine⟨Nat.le_refl _,fun _=>⟨_,hE _,Nat.zero_le _,?_⟩⟩
          rcases p6 with⟨hh,p7,p8⟩|⟨p7,_,a',hh⟩
          ·simp only[Value.slice.injEq]at hh
           obtain⟨rfl,_,rfl⟩:=hh
           refine .inl ⟨cap0,?_,?_,?_⟩
           ·simp
           ·simpa using p7
           ·simp only[Nat.zero_add];rw[Nat.add_assoc,←Nat.add_mul];exact p8
          ·simp only[Value.slice.injEq]at hh
           obtain⟨rfl,h2,rfl⟩:=hh
           refine .inr ⟨by simp;omega,a,?_⟩
           rw[h2];rfl
         ·obtain⟨t1,t2⟩:=EJ (A':=⟨A.sz,A.elems.drop skip++ [],ver+1,A.st⟩) (loc:=none) hS hA1 hst rfl rfl rfl (Nat.le_refl _) (fun _ _ _ hh=>hh) afX hpos hfit (fun hh=>absurd hh p2) (fun blk' o' e' hh=>by cases hh)
          refine⟨_,_,_,hK,t1,t2, .tsl hkl fun B hB=> ?_⟩
          have hBe:=hset hB
          subst hBe
          refine⟨Nat.le_refl _,fun _=>⟨_,hE _,Nat.zero_le _,?_⟩⟩
          have:=hd.from t2
          simpa using this
        ·obtain⟨blk,o',e',vs,T',p1,p2,p3,p4,p5,p6,p7⟩:=hroom () q1 q2
         rw[p6]at q4
         simp only[Option.some.injEq,Addr.mk.injEq]at q4
         obtain⟨rfl,rfl,_⟩:=q4
         rw[p2]at q5
         simp only[Option.some.injEq,Obj.cells.injEq]at q5
         obtain⟨rfl,_,_⟩:=q5
         rw[hfin q3]
         have hmul:skip*A.sz+(A.elems.length - skip)*A.sz=A.elems.length*A.sz:=by rw[←Nat.add_mul];congr 1;omega
         have apI:(A.elems.drop skip++ys).length*A.sz=(A.elems.length - skip)*A.sz+ys.length*A.sz:=by rw[List.length_append,hdl,Nat.add_mul]
         have hle:(skip+(A.elems.length - skip+ys.length))*A.sz≤(skip+cap0)*A.sz:=Nat.mul_le_mul_right _ (by omega)
         rw[Nat.add_mul,Nat.add_mul (A.elems.length - skip)]at hle
         have hvl:vs.toList.length=vs.size:=by simp
         obtain⟨t1,t2⟩:=EJ (A':=⟨A.sz,A.elems.drop skip++ys,ver+1,bif st1 then 1 else A.st⟩) (loc:=some (blk,o'+skip*A.sz,e')) hS hA1 hst q6.os q6.tape q6.output (Nat.le_of_eq q6.size.symm)
          (fun b ob hb hob=>q6.jC (fun hbe=>hb o' e' (hbe▸p1)) hob) afX hpos hfit (fun _ hh=>by cases hh) (fun blk' o2 e2 hh=>by
           cases hh
           refine⟨.inr ⟨o',e',p1⟩,_,T.cast (by have hz:=length_splice vs.toList (o'+skip*A.sz+(A.elems.length - skip)*A.sz) news (by rw[hnl,hvl];omega);simpa using hz.symm),q6.at_,?_,?_,?_⟩
           ·show o'+skip*A.sz+(A.elems.drop skip++ys).length*A.sz≤e'
            omega
           ·rw[List.size_toArray,length_splice _ _ _ (by rw[hnl,hvl];omega),hvl];exact p4
           ·show aQ w _ ((((splice vs.toList (o'+skip*A.sz+(A.elems.length - skip)*A.sz) news).toArray).toList.drop (o'+skip*A.sz)).take ((A.elems.drop skip++ys).length*A.sz)) (flat (A.elems.drop skip++ys))
            rw[List.toList_toArray,wM _ _ _ _ (by omega) (by rw[hvl];omega),Nat.add_sub_cancel_left,zV]
            have e1:(splice (vs.toList.drop (o'+skip*A.sz)) ((A.elems.length - skip)*A.sz) news).take ((A.elems.drop skip++ys).length*A.sz)=(vs.toList.drop (o'+skip*A.sz)).take ((A.elems.length - skip)*A.sz)++news:=by
             unfold splice
             refine List.take_left' ?_
             rw[List.length_append,List.length_take,List.length_drop,apI,hnl,hvl]
             omega
            rw[e1]
            exact(row_drop hAf p5).append n3)
         refine⟨_,_,_,hK,t1,t2, .tsl hkl fun B hB=> ?_⟩
         have hBe:=hset hB
         subst hBe
         refine⟨Nat.le_refl _,fun _=>⟨_,hE _,Nat.zero_le _, .inl ⟨cap0,?_,?_,?_⟩⟩⟩
         ·simp[p6]
         ·simpa using q1
         ·simp only[Nat.zero_add];rw[Nat.add_assoc,←Nat.add_mul];exact p7
        ·rw[hfin q3]
         have hlen:(A.elems.drop skip++ys).length=A.elems.length - skip+ys.length:=by simp
         obtain⟨t1,t2⟩:=EJ (A':=⟨A.sz,A.elems.drop skip++ys,ver+1,bif st1 then 1 else A.st⟩) (loc:=some (w.heap.size,0,cap*A.sz)) hS hA1 hst q5.os q5.tape q5.output q5.size
          (fun b ob _ hob=>q5.jC hob) afX hpos hfit (fun _ hh=>by cases hh) (fun blk' o2 e2 hh=>by
           cases hh
           refine⟨.inl (Nat.le_refl _),_, .zero _ _,q6,?_,?_,hnew o3 hxl⟩
           ·show 0+(A.elems.drop skip++ys).length*A.sz≤cap*A.sz
            rw[Nat.zero_add,hlen]
            exact Nat.mul_le_mul_right _ q4
           ·rw[List.size_toArray,q7];exact Nat.le_refl _)
         refine⟨_,_,_,hK,t1,t2, .tsl hkl fun B hB=> ?_⟩
         have hBe:=hset hB
         subst hBe
         refine⟨Nat.le_refl _,fun _=>⟨_,hE _,Nat.zero_le _, .inl ⟨cap,?_,?_,?_⟩⟩⟩
         ·simp
         ·simpa using q4
         ·simp
       ·exact h.elim
      ·exact h.elim
    ·cases hu
   ·cases hu
  ·cases hu
 ·exact h.elim
theorem dZ.frz {r:Result Next}(h:dZ C X w M E (fun v M'=>∃d,datum M' v=some d∧K (.d d) (M'.frz [v])) KP r):dZ C X w M E K KP r:=by
 cases r with
 |ok n w'=>
  cases n with
  |value v=>
   obtain⟨pv,M',E',⟨d,hd,hK⟩,h1,h2,h3⟩:=h
   exact⟨_,_,E',hK,pz h1 [pv],h2.trans (nX [pv] w'), .d (mF (ps:=[pv]) h1 h3 hd (by simp))⟩
  |skip=>
   obtain⟨M',E',⟨d,hd,hK⟩,_⟩:=h
   simp[datum]at hd
  |enter f a=>
   obtain⟨e,ps,hsc,hr⟩:=h
   refine⟨e,ps,fun X' w2 E2 vals hS hA=>(hsc X' w2 E2 vals hS hA).mono fun en w3 hf=> ?_,hr⟩
   cases en with
   |returned v=>
    obtain⟨pv,M',E',⟨d,hd,hK⟩,h1,h2,h3⟩:=hf
    exact⟨_,_,E',hK,pz h1 [pv],h2.trans (nX [pv] w3), .d (mF (ps:=[pv]) h1 h3 hd (by simp))⟩
   |panicked c=>exact hf
   |outgrown=>exact hf
  |round l f t a b=>
   obtain⟨e,hr⟩:=h
   refine⟨e,hr.mono fun en w3 hf=> ?_⟩
   cases en with
   |returned v=>
    obtain⟨pv,M',E',⟨d,hd,hK⟩,h1,h2,h3⟩:=hf
    exact⟨_,_,E',hK,pz h1 [pv],h2.trans (nX [pv] w3), .d (mF (ps:=[pv]) h1 h3 hd (by simp))⟩
   |panicked c=>exact hf
   |outgrown=>exact hf
  | _=>exact h.elim
 |halt x w'=>
  cases x with
  |panic u=>exact h
  | _=>exact h.elim
theorem agD {ρ:Operand→Value}{o:Oper}{sz:Nat}{argTypes:Array TypeId}{as:Array Operand}(ho:o.op= .call {callee:= .builtin .append,args:=as,argTypes}){args:List PV}(hS:Sim C X w M E)(hA:aK w (away X M E) M E ((opsOf o.op).map ρ) args)
  (hok:aI C.P (.call {callee:= .builtin .append,args:=as,argTypes}) (.agz sz)=true){base:Nat}(h:aj C base (.agz sz) args M K KP):dZ C X w M E K KP ((execOp ρ o).run C.P w):=by
 have hok':aI C.P (.call {callee:= .builtin .append,args:=as,argTypes}) (.app sz false)=true:=hok
 have h':aj C base (.app sz false) args M (fun v M'=>∃d,datum M' v=some d∧K (.d d) (M'.frz [v])) KP:=h
 exact dZ.frz (abl ho hS hA hok' h')
end
theorem Y8 {w w':World}{O O':Nat→Prop}:∀{cs:List DV} {vs:List Value},(cs.all fun| .int _ _=>true| .bool _=>true| .str _=>true| _=>false)=true→aQ w O vs cs→aQ w' O' vs cs:=by
 intro cs
 induction cs with
 |nil=>intro vs _ h;cases h;exact .nil
 |cons c cs ih=>
  intro vs h hr
  cases hr with
  |cons h1 t=>
   simp only[List.all_cons,Bool.and_eq_true]at h
   refine .cons ?_ (ih h.2 t)
   have h0:=h.1
   cases h1<;>first|exact .int _ _|exact .bool _|exact .str _|(simp at h0)
theorem aho {w w':World}{O O':Nat→Prop}:∀{cs:List DV} {vs:List Value},(cs.all fun| .int _ _=>true| .bool _=>true| .str _=>true| .agg cs=>(cs.all fun| .int _ _=>true| .bool _=>true| .str _=>true| _=>false)| _=>false)=true→
  aQ w O vs cs→aQ w' O' vs cs:=by
 intro cs
 induction cs with
 |nil=>intro vs _ h;cases h;exact .nil
 |cons c cs ih=>
  intro vs h hr
  cases hr with
  |cons h1 t=>
   simp only[List.all_cons,Bool.and_eq_true]at h
   refine .cons ?_ (ih h.2 t)
   have h0:=h.1
   cases h1<;>first|exact .int _ _|exact .bool _|exact .str _|(rename_i hh;exact .agg (Y8 h0 hh))|(simp at h0)
theorem abM {w w':World}{O O':Nat→Prop}{v:Value}{x:DV}(h:IW x=true)(hr:bf w O v x):bf w' O' v x:=by
 cases hr with
 |int k n=>exact .int _ _
 |bool b=>exact .bool _
 |str s=>exact .str _
 |nilPtr=>exact .nilPtr
 |nilIface=>exact .nilIface
 |nilFunc=>exact .nilFunc
 |agg hh=>exact .agg (Y8 h hh)
 |tup hh=>exact .tup (aho h hh)
 | _=>simp[IW]at h
section
variable {C:Ctx}{X:Nat→Prop}{w w':World}{M:Mem}{E E':Emb}{K:PV→Mem→Prop}{KP:DV→Mem→Prop}{O:Nat→Prop}
theorem xY {P:Program}{f:FuncId}{args:Array Value}(h:callable P f=true)(w:World):(callFunc f args).run P w= .ok (.enter f args) w:=by
 unfold callable at h
 split at h
 ·rename_i fn hfn
  simp only[Bool.and_eq_true,Bool.not_eq_true']at h
  obtain⟨h1,h2⟩:=h
  have h3:fn.body.isNone=false:=by cases hb:fn.body<;>simp_all
  simp only[callFunc,Sem.run_bind,run_program,Result.andThen_ok,hfn,h2,h3,Bool.false_eq_true,if_false,Sem.run_pure]
 ·cases h
theorem adi {f:FuncId}{args:List PV}{base:Nat}(h:aj C base (.Qh f) args M K KP):SC C f args M K KP:=by
 obtain⟨p,M',h1,h2⟩:=h
 intro X w E vals hS hA
 refine(h1 X w E vals hS hA).mono fun e w' he=> ?_
 cases e with
 |returned v=>
  obtain⟨q,M1,E1,⟨rfl,rfl⟩,g⟩:=he
  exact⟨_,_,E1,h2,g⟩
 |panicked c=>
  obtain⟨v,d,M1,E1,_,hh,_⟩:=he
  exact hh.elim
 |outgrown=>exact he.elim
theorem GL {ρ:Operand→Value}{o:Oper}{f:FuncId}{argTypes:Array TypeId}{as:Array Operand}(ho:o.op= .call {callee:= .value (.func f),args:=as,argTypes})(hρ:ρ (.func f)= .func (.func f) #[] #[])
  {args:List PV}(hA:aK w (away X M E) M E ((opsOf o.op).map ρ) args)(hok:callable C.P f=true)(h:SC C f args M K KP):dZ C X w M E K KP ((execOp ρ o).run C.P w):=by
 simp only[ho,opsOf]at hA
 have hrun:(execOp ρ o).run C.P w= .ok (.enter f (as.map ρ)) w:=by
  simp[execOp,ho,resolve,hρ,Deferred.ofValue,invoke,xY hok]
 rw[hrun]
 exact⟨rfl,args,h,by simpa using hA⟩
theorem adW {ρ:Operand→Value}{o:Oper}{t:Tmp}{argTypes:Array TypeId}{as:Array Operand}(ho:o.op= .call {callee:= .value (.tmp t),args:=as,argTypes})(hS:Sim C X w M E)
  {args:List PV}(hA:aK w (away X M E) M E ((opsOf o.op).map ρ) args){base:Nat}(h:aj C base .je args M K KP):dZ C X w M E K KP ((execOp ρ o).run C.P w):=by
 simp only[ho,opsOf,List.map_cons]at hA
 simp only[aj]at h
 have key:∀{f:FuncId} {F G:Array Value},ρ (.tmp t)= .func (.func f) F G→callable C.P f=true→(execOp ρ o).run C.P w= .ok (.enter f (F++as.map ρ++G)) w:=by
  intro f F G he hok
  simp[execOp,ho,resolve,he,Deferred.ofValue,invoke,xY hok]
 split at h
 ·rename_i f fs cs ps
  obtain⟨hok,h⟩:=h
  cases hA with
  |cons h1 h2=>
   have hd:=h1.toD
   generalize hv:ρ (.tmp t)=v at hd
   cases hd with
   |func hf hc=>
    rw[key hv hok]
    refine⟨rfl,_,h,?_⟩
    have:=((aK.ofD (M:=M) (E:=E) hf).append h2).append (aK.ofD (M:=M) (E:=E) hc)
    simpa using this
 ·rename_i f fs cs ps
  obtain⟨hok,h⟩:=h
  cases hA with
  |cons h1 h2=>
   generalize hv:ρ (.tmp t)=v at h1
   cases h1 with
   |func hf hc=>
    rw[key hv hok]
    refine⟨rfl,_,h,?_⟩
    have:=(hf.append h2).append hc
    simpa using this
 ·rename_i b ps
  cases hA with
  |cons h1 h2=>
   generalize hv:ρ (.tmp t)=v at h1
   cases h1 with
   |qY hl hb hob=>
    rename_i blk cs
    obtain⟨fn,tmps,a,body,g1,g2⟩:=h X w E _ blk hS h2 hb
    have hrun:(execOp ρ o).run C.P w= .ok (.round blk fn tmps a body) w:=by
     rw[show(as.toList.map ρ).toArray=as.map ρ by rw[←Array.toList_map]]at g1
     simp[execOp,ho,resolve,hv,Deferred.ofValue,invoke]
     exact g1
    rw[hrun]
    exact⟨rfl,g2⟩
 ·exact h.elim
theorem run_equalIn_slice_nil {P:Program}{t e:TypeId}{a:Option Addr}{n cap:Nat}(ht:P.underlying t=some (.slice e))(w:World)(d:Nat):(Op.equalIn (d+1) t (.slice a n cap) (.slice none 0 0)).run P w= .ok a.isNone w:=by
 cases a<;>simp only[Op.equalIn,Sem.run_bind,run_underlying ht,Result.andThen_ok,Sem.run_pure,Option.isNone_none,Option.isNone_some]
theorem run_equal_slice_nil {P:Program}{t e:TypeId}{a:Option Addr}{n cap:Nat}(ht:P.underlying t=some (.slice e))(w:World):(Op.equal t (.slice a n cap) (.slice none 0 0)).run P w= .ok a.isNone w:=run_equalIn_slice_nil ht w 9999
theorem RH {P:Program}{op:BinOp}{t:TypeId}{x y:Operand}{a:Option Addr}{n cap:Nat}{v:Value}(w:World):(eqGuard op t x y (.slice a n cap) v).run P w= .ok () w:=by
 unfold eqGuard
 simp<;>split<;>simp
theorem adY {ρ:Operand→Value}{o:Oper}{op:BinOp}{neq:Bool}{t u:TypeId}{x y:Operand}(ho:o.op= .binOp op t x y u)(hρ:∀v,ρ (.const v)=v){args:List PV}(hS:Sim C X w M E)(hA:aK w (away X M E) M E ((opsOf o.op).map ρ) args)
  (hok:aI C.P (.binOp op t x y u) (.isNil neq)=true){base:Nat}(h:aj C base (.isNil neq) args M K KP):dZ C X w M E K KP ((execOp ρ o).run C.P w):=by
 simp only[aI,Bool.and_eq_true]at hok
 obtain⟨⟨hop,hty⟩,hy⟩:=hok
 split at hty
 ·rename_i e hun
  split at hy
  ·simp only[ho,opsOf,List.map_cons,List.map_nil,hρ]at hA
   simp only[aj]at h
   split at h
   ·rename_i ex xs
    obtain⟨v,u',he,hr,hr2⟩:=dJ hA
    simp only[List.cons.injEq,and_true]at he
    obtain⟨rfl,_⟩:=he
    obtain⟨a,cap,hv,_,_,hpl⟩:=hr.toD.P9
    have heq:=run_equal_slice_nil (P:=C.P) (a:=a) (n:=xs.length) (cap:=cap) hun w
    have hg:=RH (P:=C.P) (op:=op) (t:=t) (x:=x) (y:= .const (.slice none 0 0)) (a:=a) (n:=xs.length) (cap:=cap) (v:= .slice none 0 0) w
    have hrun:(execOp ρ o).run C.P w= .ok (.value (.bool (a.isNone !=neq))) w:=by
     cases op<;>simp only[Bool.not_eq_true',Bool.false_eq_true]at hop
     ·subst hop
      simp only[execOp,ho,Sem.run_bind,hρ,hv,hg,Result.andThen_ok,binOp,heq,Sem.run_pure]
      simp
     ·subst hop
      simp only[execOp,ho,Sem.run_bind,hρ,hv,hg,Result.andThen_ok,binOp,heq,Sem.run_pure]
      simp
    rw[hrun]
    by_cases hx:xs=[]
    ·exact .same hS (h.2 hx _) (.d (.bool _))
    ·have ha:a.isNone=false:=by
      rcases hpl with hh|⟨_,_,_,_,_,_,rfl,_⟩
      ·exact absurd hh hx
      ·rfl
     rw[ha]
     exact .same hS (by simpa using h.1 hx) (.d (.bool _))
   ·exact h.elim
  ·cases hy
 ·cases hty
theorem From.Nl {M':Mem}(h:From w bH ⟨[],[]⟩ w' M' E'):Later w w':=
 ⟨h.os,h.tape,h.output,h.size,fun b hb=>by
  obtain⟨o,ho⟩:∃o,w.heap[b]?=some o:=⟨_,Array.getElem?_eq_getElem hb⟩
  rw[ho,h.keep b o (by rintro(⟨i,cs,h1,_⟩|⟨k,A,o,e,h1,_⟩)<;>simp[bH]at h1) ho]⟩
theorem Xp {as:List Arr}{b:Nat}(hl:E.ar.length=M.aA.length):
  owned {M with aA:=M.aA++as.map some} {E with ar:=E.ar++E'.ar} b↔(owned M E b∨owned (rowsOf as) E' b):=by
 constructor
 ·rintro(hh|⟨k,A,o,e,h1,h2,h3⟩)
  ·exact .inl (.inl hh)
  ·by_cases hk:k<M.aA.length
   ·simp only[List.getElem?_append_left hk]at h1
    simp only[List.getElem?_append_left (hl▸hk)]at h3
    exact .inl (.inr ⟨k,A,o,e,h1,h2,h3⟩)
   ·simp only[List.getElem?_append_right (Nat.le_of_not_lt hk)]at h1
    simp only[List.getElem?_append_right (hl▸Nat.le_of_not_lt hk)]at h3
    exact .inr (.inr ⟨k - M.aA.length,A,o,e,h1,h2,hl▸h3⟩)
 ·rintro((hh|⟨k,A,o,e,h1,h2,h3⟩)|(⟨i,cs,h1,_⟩|⟨k,A,o,e,h1,h2,h3⟩))
  ·exact .inl hh
  ·have hk:k<M.aA.length:=(List.getElem?_eq_some_iff.1 h1).1
   exact .inr ⟨k,A,o,e,by simp only[List.getElem?_append_left hk];exact h1,h2,by simp only[List.getElem?_append_left (hl▸hk)];exact h3⟩
  ·simp[rowsOf]at h1
  ·refine .inr ⟨M.aA.length+k,A,o,e,?_,h2,?_⟩
   ·simp only[List.getElem?_append_right (Nat.le_add_right _ _),Nat.add_sub_cancel_left];exact h1
   ·have:E.ar.length≤M.aA.length+k:=by omega
    simp only[List.getElem?_append_right this,hl,Nat.add_sub_cancel_left];exact h3
theorem MK {as:List Arr}(h:Sim C X w M E)(h':Sim C (away X M E) w' (rowsOf as) E')(hf:From w bH ⟨[],[]⟩ w' (rowsOf as) E')(hst:∀A∈as,A.st≠2):
  Sim C X w' {M with aA:=M.aA++as.map some} {E with ar:=E.ar++E'.ar}∧From w M E w' {M with aA:=M.aA++as.map some} {E with ar:=E.ar++E'.ar}∧
  (∀b,away X {M with aA:=M.aA++as.map some} {E with ar:=E.ar++E'.ar} b↔away (away X M E) (rowsOf as) E' b):=by
 have hl:=h.aY
 have hL:=hf.Nl
 have hiff:∀b,away X {M with aA:=M.aA++as.map some} {E with ar:=E.ar++E'.ar} b↔away (away X M E) (rowsOf as) E' b:=by
  intro b
  simp only[away,Xp hl,or_assoc]
 have hnone:∀b,¬owned bH ⟨[],[]⟩ b:=by
  rintro b (⟨i,cs,h1,_⟩|⟨k,A,o,e,h1,_⟩)<;>simp[bH]at h1
 have hnew:∀b,owned (rowsOf as) E' b→w.heap.size≤b:=fun b hb=>(hf.own b hb).resolve_left (hnone b)
 have hF:From w M E w' {M with aA:=M.aA++as.map some} {E with ar:=E.ar++E'.ar}:=
  {os:=hf.os,tape:=hf.tape,output:=hf.output,size:=hf.size
   keep:=fun b o _ ho=>hf.keep b o (hnone b) ho
   own:=fun b hb=>((Xp hl).1 hb).imp id (hnew b)
   ig:=Nat.le_refl _
   bx:=fun b cs hb=>⟨rfl,cs,hb,rfl⟩
   aY:=by simp
   ar:=fun k A' hk hA=>by
    simp only[List.getElem?_append_left hk]at hA
    exact⟨A',hA,Nat.le_refl _,fun _=>⟨by simp only[List.getElem?_append_left (hl▸hk)],rfl,rfl,fun _=>rfl⟩⟩}
 have hsplit:∀(k:Nat) (A:Arr),(M.aA++as.map some)[k]?=some (some A)→(k<M.aA.length∧M.aA[k]?=some (some A)∧(E.ar++E'.ar)[k]?=E.ar[k]?)∨
   (M.aA.length≤k∧(rowsOf as).aA[k - M.aA.length]?=some (some A)∧A∈as∧(E.ar++E'.ar)[k]?=E'.ar[k - M.aA.length]?):=by
  intro k A hA
  by_cases hk:k<M.aA.length
  ·rw[List.getElem?_append_left hk]at hA
   exact .inl ⟨hk,hA,List.getElem?_append_left (hl▸hk)⟩
  ·have hk':=Nat.le_of_not_lt hk
   rw[List.getElem?_append_right hk']at hA
   refine .inr ⟨hk',hA,?_,?_⟩
   ·have:=List.mem_of_getElem? hA
    simpa using this
   ·rw[List.getElem?_append_right (hl▸hk'),hl]
 have ajw:∀(k:Nat) (A:Arr) (blk o e:Nat),(rowsOf as).aA[k]?=some (some A)→A∈as→E'.ar[k]?=some (some (blk,o,e))→w.heap.size≤blk:=fun k A blk o e h1 h2 h3=>
  hnew blk (.inr ⟨k,A,o,e,h1,hst A h2,h3⟩)
 refine⟨?_,hF,hiff⟩
 exact
  {glob:=h'.glob
   iE:=h.iE
   xlt:=fun b hb=>Nat.lt_of_lt_of_le (h.xlt b hb) hf.size
   ig:=h.ig
   aY:=by
    have:=h'.aY
    simp[rowsOf]at this
    simp[hl,this]
   box:=fun b cs hb=>by
    obtain⟨blk,h1,h2,h3⟩:=h.box b cs hb
    exact⟨blk,h1,h2,h3.from hF fun _ ho=>hL.jC ho⟩
   arr:=fun k A hA=>by
    rcases hsplit k A hA with⟨hk,hA',he⟩|⟨hk,hA',hm,he⟩
    ·obtain⟨h1,h2,h3,h4⟩:=h.arr k A hA'
     refine⟨h1,h2,fun hs=>by rw[he];exact h3 hs,fun blk o e heq=> ?_⟩
     simp only[he]at heq
     obtain⟨q1,vs,T,q2,q3,q4,q5⟩:=h4 blk o e heq
     exact⟨q1,vs,T,hL.jC q2,q3,q4,q5.from hF⟩
    ·obtain⟨h1,h2,h3,h4⟩:=h'.arr _ A hA'
     refine⟨h1,h2,fun hs=>by rw[he];exact h3 hs,fun blk o e heq=> ?_⟩
     simp only[he]at heq
     obtain⟨q1,vs,T,q2,q3,q4,q5⟩:=h4 blk o e heq
     exact⟨fun hx=>q1 (.inl hx),vs,T,q2,q3,q4,q5.weaken fun b hb=>(hiff b).1 hb⟩
   bb:=h.bb
   aa:=fun k k' A A' blk o e o' e' h1 h2 h3 h4=>by
    rcases hsplit k A h1 with⟨hk,hA,he⟩|⟨hk,hA,hm,he⟩<;>rcases hsplit k' A' h2 with⟨hk',hA',he'⟩|⟨hk',hA',hm',he'⟩
    ·simp only[he]at h3;simp only[he']at h4
     exact h.aa k k' A A' blk o e o' e' hA hA' h3 h4
    ·simp only[he]at h3;simp only[he']at h4
     exact absurd (h.Iz hA h3) (by have:=ajw _ A' blk o' e' hA' hm' h4;omega)
    ·simp only[he]at h3;simp only[he']at h4
     exact absurd (h.Iz hA' h4) (by have:=ajw _ A blk o e hA hm h3;omega)
    ·simp only[he]at h3;simp only[he']at h4
     have:=h'.aa _ _ A A' blk o e o' e' hA hA' h3 h4
     omega
   ba:=fun b k cs A blk o e h1 h2 h3 h4=>by
    rcases hsplit k A h2 with⟨hk,hA,he⟩|⟨hk,hA,hm,he⟩
    ·simp only[he]at h4;exact h.ba b k cs A blk o e h1 hA h3 h4
    ·simp only[he]at h4
     exact absurd (h.KH h1 h3) (by have:=ajw _ A blk o e hA hm h4;omega)}
theorem PZ {O O':Nat→Prop}{as:List Arr}(hl:E.ar.length=M.aA.length)(hO:∀b,O' b→O b){v:Value}{p:PV}(h:Rep w O (rowsOf as) E' v p):
  Rep w O' {M with aA:=M.aA++as.map some} {E with ar:=E.ar++E'.ar} v (lW M.aA.length p):=by
 cases h with
 |d h=>exact .d (h.weaken hO)
 |tsl hlt hh=>
  rename_i k ver skip len cap a
  refine .tsl (by simp[rowsOf]at hlt⊢;omega) fun A hA=> ?_
  have hA':(rowsOf as).aA[k]?=some (some A):=by
   rw[List.getElem?_append_right (Nat.le_add_right _ _),Nat.add_sub_cancel_left]at hA
   exact hA
  obtain⟨g1,g2⟩:=hh A hA'
  refine⟨g1,fun hv=> ?_⟩
  obtain⟨loc,g3,g4,g5⟩:=g2 hv
  refine⟨loc,?_,g4,?_⟩
  ·have:E.ar.length≤M.aA.length+k:=by omega
   simp only[List.getElem?_append_right this,hl,Nat.add_sub_cancel_left];exact g3
  ·cases loc with
   |none=>exact bf.weaken hO g5
   |some q=>exact g5
 | _=>exact .dead
theorem L6 {O O':Nat→Prop}{as:List Arr}(hl:E.ar.length=M.aA.length)(hO:∀b,O' b→O b):∀{vs:List Value} {ps:List PV},aK w O (rowsOf as) E' vs ps→
  aK w O' {M with aA:=M.aA++as.map some} {E with ar:=E.ar++E'.ar} vs (ps.map (lW M.aA.length))
 | _,_, .nil=> .nil
 | _,_, .cons h t=> .cons (PZ hl hO h) (L6 hl hO t)
theorem afn {O O':Nat→Prop}{as:List Arr}(hl:E.ar.length=M.aA.length)(hO:∀b,O' b→O b){v:Value}{p:PV}(h:Rep w O (rowsOf as) E' v p):
  Rep w O' {M with aA:=M.aA++as.map some} {E with ar:=E.ar++E'.ar} v (X9 M.aA.length p):=by
 cases p with
 |agg cs=>cases h with|agg hh=>exact .agg (L6 hl hO hh)
 | _=>exact PZ hl hO h
theorem U2 {O O':Nat→Prop}{as:List Arr}(hl:E.ar.length=M.aA.length)(hO:∀b,O' b→O b):∀{vs:List Value} {ps:List PV},aK w O (rowsOf as) E' vs ps→
  aK w O' {M with aA:=M.aA++as.map some} {E with ar:=E.ar++E'.ar} vs (ps.map (X9 M.aA.length))
 | _,_, .nil=> .nil
 | _,_, .cons h t=> .cons (afn hl hO h) (U2 hl hO t)
theorem TR {O O':Nat→Prop}{as:List Arr}(hl:E.ar.length=M.aA.length)(hO:∀b,O' b→O b){v:Value}{p:PV}(h:Rep w O (rowsOf as) E' v p):
  Rep w O' {M with aA:=M.aA++as.map some} {E with ar:=E.ar++E'.ar} v (p.shift M.aA.length):=by
 cases p with
 |agg cs=>cases h with|agg hh=>exact .agg (L6 hl hO hh)
 |tup cs=>cases h with|tup hh=>exact .tup (U2 hl hO hh)
 | _=>exact PZ hl hO h
theorem alJ (args:List PV):(M.frz args).aA.length=M.aA.length:=by simp[Mem.frz,KT]
theorem zM {f:FuncId}{args:List PV}(h:Rz C f args M K):SC C f args M K KP:=by
 obtain⟨ds,hds,r,as,hp,hK⟩:=h
 intro X w E vals hS hA
 have hS1:=pz hS args
 have hd:=(yZ hS hA hds (fun q hq=>hq)).strip
 refine(hp (away X (M.frz args) E) w vals hS.glob (fun b hb=> .inl (hS.iE b hb)) (fun b hb=>hS1.CV hb) hd).mono fun e w' he=> ?_
 obtain⟨v,E',rfl,hS',hF,hr⟩:=he
 rcases hK with⟨x,rfl,hx,rfl,hK⟩|⟨hst,hK⟩
 ·exact⟨_,M,E,hK,hS.later hF.Nl,hF.Nl.from M E, .d (abM hx hr.toD)⟩
 ·obtain⟨j1,j2,j3⟩:=MK hS1 hS' hF hst
  refine⟨_,_,_,hK,j1,(nX args w).trans j2,?_⟩
  have:=TR (M:=M.frz args) (E:=E) hS1.aY (fun b hb=>(j3 b).1 hb) hr
  rw[alJ]at this
  exact this
theorem RG {f:FuncId}{args:List PV}(h:XZ C f args M K):Rz C f args M K:=by
 obtain⟨ds,h1,x,h2,h3⟩:=h
 have ha:=MV h1
 subst ha
 have e1:dD M (ds.map .d)=some ds:=by
  clear h1 h2
  induction ds with
  |nil=>rfl
  |cons d ds ih=>simp only[List.map_cons,dD,datum,ih]
 have e2:M.frz (ds.map .d)=M:=by
  have h1:(ds.map PV.d).flatMap (oD M)=[]:=by
   clear h1 h2 e1;induction ds with
   |nil=>rfl
   |cons d ds ih=>simp[oD]
  have h2:(ds.map PV.d).flatMap (oC M)=[]:=by
   clear h1 h2 e1;induction ds with
   |nil=>rfl
   |cons d ds ih=>simp[oC]
  simp only[Mem.frz,h1,h2,Qv,List.foldl_nil,List.nil_append]
 refine⟨ds,e1,_,_,h2, .inr ⟨(fun A hA=>by cases hA),?_⟩⟩
 rw[e2]
 simpa[PV.shift,lW]using h3
theorem aaP {f:FuncId}{args:List PV}(h:RD C f args M K):Rz C f args M K:=by
 obtain⟨ds,h1,x,h2,h3,h4⟩:=h
 exact⟨ds,h1,_,_,h2, .inl ⟨x,rfl,h3,rfl,h4⟩⟩
end
end Go.Am
