/-
  Part 2 of a law of desks.
  Conditions: none.
-/
import Derived.Test.YtbefoehadfnkbaaGreatDoorJourneymanConsolesM01
import Derived.WideKeyRuns
import Derived.Laws.MakeOwn
import Derived.Laws.BytesString
import Derived.Laws.IdiomStrings
import Derived.Laws.CopyRow
set_option linter.all false
open Bool renaming and_eq_true->H,false_eq_true->S,not_eq_true'->ab,and_true->bq,false_or->ch
open Option renaming map_eq_some_iff->I,getD_none->ai,getD_some->am,map_none->aR,map_some->a6,isSome_none->bp,isNone_none->bO,isNone_some->bR,bind_some->cb
open List renaming map_cons->J,getElem?_append_right->U,getElem?_append_left->W,getElem?_eq_some_iff->Y,map_nil->Z,mem_of_mem_drop->ae,getElem?_set->ap,drop_drop->aw,length_eq_zero_iff->ax,map_set->az,size_toArray->a7,eraseIdx_eq_take_drop_succ->a8,length_take->bd,all_cons->be,drop_take->bi,drop_zero->bj,getElem?_take->bk,replicate->bl,zip_cons_cons->bo,length_drop->br,drop_eq_nil_of_le->bt,take_of_length_le->bu,append_nil->bv,mem_of_getElem?->bz,drop_succ_cons->bB,mem_cons->bE,length_append->bL,ext_getElem?->bX,flatMap_cons->b0,cons_append->b8,getElem_mem->b9,headD_cons->ce,length_map->cf,mem_append->cg,map_tail->cj
open Nat renaming le_refl->N,add_sub_cancel_left->an,add_mul->ao,mul_le_mul_right->aq,zero_le->aL,zero_add->aM,add_assoc->bh,le_of_not_lt->bs,lt_of_lt_of_le->bN,le_of_eq->b5,sub_self->b6,le_add_right->ca,succ_mul->ck,sub_mul->cm
open Array renaming getElem?_toList->aD,getD_eq_getD_getElem?->aE,ext'->bc,getElem?_modify->bw,toList_map->b7,range->cl,map->cn
open Int renaming toNat->bA
open Function renaming comp_def->bS
namespace Go.Am
section
variable {C:Ctx}{X:Nat->Prop}{w:World}{M:Mem}{E:Emb}{K:PV->Mem->Prop}{KP:DV->Mem->Prop}{O:Nat->Prop}
variable{P:Program}
def Fv {t:TypeId}{k off:Nat}{cs:Array Value}{v:Value}(h:oV (P.underlying t) k=true)(hv:cs[off]?=some v):(part t cs off).run P w= .ok v w:=by
 have:(isAgg t).run P w= .ok false w:=by
  unfold oV at h
  split at h
  ·rename_i a;simp[isAgg,run_underlying a]
  ·rename_i a;simp[isAgg,run_underlying a]
  ·rename_i a;simp[isAgg,run_underlying a]
  ·cases h
 simp[part,this,hv]
def yE {P:Program}{xs ys:Array Value}(d:Nat):∀{fs:List Field} {ks:List Nat} {off:Nat} {l m:List DV} {t:Bool},fZ P fs ks off=true->bn w O (xs.toList.drop off) l->bn w O (ys.toList.drop off) m->
  fA ks l m=some t->(Op.eqFields (d+1) xs ys fs).run P w= .ok t w
 | [],[],off,l,m,t,_,y,A,g=>by
  cases l<;>cases m<;>simp[fA]at g
  subst g;simp[Op.eqFields]
 |f::fs,k::ks,off,l,m,t,i,y,A,g=>by
  simp only[fZ,H,decide_eq_true_eq]at i;obtain⟨⟨⟨r,c⟩,M⟩,i⟩:=i;have step:∀{a b:DV} {o p:List DV} {t1 t2:Bool},l=a::o->m=b::p->fA ks o p=some t2->t=(t1&&t2)->
    (∀u v,bU w O u a->bU w O v b->(Op.equalIn (d+1) f.type u v).run P w= .ok t1 w)->(Op.eqFields (d+1) xs ys (f::fs)).run P w= .ok t w:=by
   intro a b o p t1 t2 K L h2 N e;subst K;subst L;generalize G:xs.toList.drop off=xl at y;generalize J:ys.toList.drop off=yl at A;cases y with
   |cons j z=>cases A with
    |cons n B=>
     rename_i u S v T
     have C:xs[off]?=some u:=by
      have:(xs.toList.drop off)[0]?=some u:=by rw[G];rfl
      simpa using this
     have E:ys[off]?=some v:=by
      have:(ys.toList.drop off)[0]?=some v:=by rw[J];rfl
      simpa using this
     have D:xs.toList.drop (off+1)=S:=by
      rw[<-aw,G];rfl
     have F:ys.toList.drop (off+1)=T:=by
      rw[<-aw,J];rfl
     have Q:=yE (xs:=xs) (ys:=ys) d i (D▸z) (F▸B) h2;simp only[Op.eqFields,M,ne_eq,not_false_eq_true,if_true,Sem.run_bind,r,Fv c C,Fv c E,Result.andThen_ok,e u v j n,Sem.run_ite,Q,Sem.run_pure];cases t1<;>simp[N]
  unfold fA at g
  split at g
  ·contradiction
  ·rename_i s R a o U b p e
   cases e
   split at g
   ·rename_i x
    subst x;rw[I]at g;obtain⟨t2,h2,q⟩:=g;refine step rfl rfl h2 q.symm fun u v j n=> ?_
    have:=j.iI;subst this;have:=n.iI;subst this;unfold oV at c
    split at c
    ·cases c
    ·rename_i h;exact run_equalIn_int w d f.type R _ a b h
    ·cases c
    ·cases c
   ·cases g
  ·rename_i s a o b p e
   cases e;rw[I]at g;obtain⟨t2,h2,q⟩:=g;refine step rfl rfl h2 q.symm fun u v j n=> ?_
   have:=j.tX;subst this;have:=n.tX;subst this;unfold oV at c
   split at c
   ·rename_i h;exact Go.run_equalIn_bool w d f.type a b h
   ·cases c
   ·cases c
   ·cases c
  ·rename_i s a o b p e
   cases e;rw[I]at g;obtain⟨t2,h2,q⟩:=g;refine step rfl rfl h2 q.symm fun u v j n=> ?_
   have:=j.vC;subst this;have:=n.vC;subst this;unfold oV at c
   split at c
   ·cases c
   ·cases c
   ·rename_i h;exact run_equalIn_string w d f.type a b h
   ·cases c
  ·cases g
 | [],_::_,_,_,_,_,i,_,_,_=>by simp[fZ]at i
 | _::_,[],_,_,_,_,i,_,_,_=>by simp[fZ]at i
variable{ρ:Operand->Value}{o:Oper}{x:Operand}
def aeg {op:BinOp}{neq:Bool}{ks:List Nat}{t u:TypeId}{y:Operand}(ho:o.op= .binOp op t x y u){args:List PV}(F:Sim C X w M E)(z:aT w (away X M E) M E ((opsOf o.op).map ρ) args)
  (i:aW C.P (.binOp op t x y u) (.AL neq ks)=true){base:Nat}(h:ay C base (.AL neq ks) args M K KP):iy C X w M E K KP ((execOp ρ o).run C.P w):=by
 simp only[aW,H]at i;obtain⟨e,c⟩:=i
 split at c
 ·rename_i fs k
  simp only[H,ab]at c;obtain⟨⟨n,p⟩,l⟩:=c;have g:C.P.fieldsOf t=fs:=by simp[Program.fieldsOf,k]
  simp only[ho,opsOf,J,Z]at z;simp only[ay]at h
  split at h
  ·rename_i a b
   obtain⟨v,N,A,G,m⟩:=gU z;simp only[List.cons.injEq,and_true]at A;obtain⟨rfl,rfl⟩:=A
   split at h
   ·rename_i D q
    obtain⟨xs,r,I⟩:=G.toD.zW;obtain⟨ys,s,L⟩:=m.toD.zW;have f:(Op.equalIn 10000 t (.agg xs) (.agg ys)).run C.P w= .ok D w:=by
     rw[run_equalIn_agg w 9999 t xs ys (by rw[g];exact k) p,g];exact yE 9998 n (by simpa using I) (by simpa using L) q
    have B:=run_eqGuard_agg (P:=C.P) w op t x y xs ys l;have j:(execOp ρ o).run C.P w= .ok (.value (.bool (D !=neq))) w:=by
     cases op<;>simp only[ab,S]at e
     ·subst e
      simp only[execOp,ho,Sem.run_bind,r,s,B,Result.andThen_ok,run_eql_struct,f,Sem.run_pure];simp
     ·subst e
      simp only[execOp,ho,Sem.run_bind,r,s,B,Result.andThen_ok,run_neq_struct,f,Sem.run_pure];simp
    rw[j];exact .same F h (.d (.bool _))
   ·exact h.elim
  ·exact h.elim
 ·cases c
def agx {i j:Nat}(ho:o.op= .extract x i){args:List PV}(l:Sim C X w M E)(g:aT w (away X M E) M E ((opsOf o.op).map ρ) args)
  (e:aW C.P (.extract x i) (.ext j)=true){base:Nat}(h:ay C base (.ext j) args M K KP):iy C X w M E K KP ((execOp ρ o).run C.P w):=by
 simp only[aW,beq_iff_eq]at e;subst e;simp only[ho,opsOf,J,Z]at g;simp only[ay]at h
 split at h
 ·obtain⟨v,c,f⟩:=gQ g
  simp only[List.cons.injEq,and_true]at c;subst c
  split at h
  ·rename_i d hd
   have b:=f.toD;generalize k:ρ x=v at b;cases b with
   |tup hh=>
    obtain⟨u,h1,h2⟩:=hh.get' i d hd;have a:(execOp ρ o).run C.P w= .ok (.value u) w:=by
     simp[execOp,ho,k,Instr.extract,aD▸h1]
    rw[a];exact .same l h (.d h2)
  ·exact h.elim
 ·obtain⟨v,c,f⟩:=gQ g
  simp only[List.cons.injEq,and_true]at c;subst c
  split at h
  ·rename_i d hd
   generalize k:ρ x=v at f;cases f with
   |tup hh=>
    obtain⟨u,h1,h2⟩:=hh.get' i d hd;have a:(execOp ρ o).run C.P w= .ok (.value u) w:=by
     simp[execOp,ho,k,Instr.extract,aD▸h1]
    rw[a];exact .same l h h2
  ·exact h.elim
 ·exact h.elim
def Rep.lU {v:Value}{k ver skip:Nat}{A:Arr}(p:Rep w O M E v (.tsl k ver skip))(l:M.row k ver=some A):∃a cap,v= .slice a (A.elems.length - skip) cap:=by
 obtain⟨c,Rf⟩:=zG l;cases p with
 |tsl m hh=>
  obtain⟨_,h2⟩:=hh A c;obtain⟨d,_,_,h⟩:=h2 Rf;cases d with
  |some q=>
   obtain⟨i,o,e⟩:=q
   rcases h with⟨g,b,_⟩|⟨n,f,b⟩
   ·cases b;exact⟨_,_,rfl⟩
   ·cases b;exact⟨_,_,by rw[n,b6]⟩
  |none=>
   obtain⟨f,j,b⟩:=bU.lU h;exact⟨f,j,by rw[b];simp⟩
def Zk {a:Array TypeId}{p:Option TypeDesc->Bool}(h:(a.size==1&&p (P.underlying (a.getD 0 0)))=true):∃t,a= #[t]/\p (P.underlying t)=true:=by
 simp only[H,beq_iff_eq]at h;obtain⟨h1,h2⟩:=h;obtain⟨t,rfl⟩:=Array.size_eq_one_iff.1 h1;exact⟨t,rfl,by simpa using h2⟩
variable{ass:Array Operand}
def agz {argTypes:Array TypeId}(ho:o.op= .call {callee:= .builtin .len,args:=ass,argTypes}){args:List PV}(l:Sim C X w M E)(k:aT w (away X M E) M E ((opsOf o.op).map ρ) args)
  (c:aW C.P (.call {callee:= .builtin .len,args:=ass,argTypes}) .len=true){base:Nat}(h:ay C base .len args M K KP):iy C X w M E K KP ((execOp ρ o).run C.P w):=by
 simp only[aW]at c;simp only[ho,opsOf]at k;simp only[ay]at h
 split at h
 ·rename_i p
  obtain⟨v,r,m⟩:=gQ k;obtain⟨t,rfl,q⟩:=Zk (p:=fun d=>match d with|some (.slice _)=>true| _=>false) c
  split at q
  ·rename_i e j
   have i:ass.map ρ= #[v]:=by apply bc;simpa using r
   have b:∀a n cap,v= .slice a n cap->(execOp ρ o).run C.P w= .ok (.value (.int .i64 n)) w:=by
    intro a n cap f;simp[execOp,ho,resolve,i,invoke,builtin,Builtin.len_,run_underlying j,f,goInt]
   unfold sH at h
   split at h
   ·obtain⟨a,cap,f⟩:=m.toD.lU
    rw[b _ _ _ f];exact .same l h (.d (.int _ _))
   ·split at h
    ·rename_i A g
     obtain⟨a,cap,f⟩:=m.lU g;rw[b _ _ _ f];exact .same l h (.d (.int _ _))
    ·exact h.elim
   ·exact h.elim
  ·cases q
 ·exact h.elim
def aem {argTypes:Array TypeId}(ho:o.op= .call {callee:= .builtin .len,args:=ass,argTypes}){args:List PV}(i:Sim C X w M E)(f:aT w (away X M E) M E ((opsOf o.op).map ρ) args)
  (a:aW C.P (.call {callee:= .builtin .len,args:=ass,argTypes}) .xP=true){base:Nat}(h:ay C base .xP args M K KP):iy C X w M E K KP ((execOp ρ o).run C.P w):=by
 simp only[aW]at a;simp only[ho,opsOf]at f;simp only[ay]at h
 split at h
 ·rename_i s
  obtain⟨v,j,k⟩:=gQ f;obtain⟨t,rfl,g⟩:=Zk (p:=fun d=>match d with|some .string=>true| _=>false) a
  split at g
  ·rename_i e
   have c:ass.map ρ= #[v]:=by apply bc;simpa using j
   have l:=k.toD.vC;have b:(execOp ρ o).run C.P w= .ok (.value (.int .i64 s.size)) w:=by
    simp[execOp,ho,resolve,c,invoke,builtin,Builtin.len_,run_underlying e,l,goInt]
   rw[b];exact .same i h (.d (.int _ _))
  ·cases g
 ·exact h.elim
def N9 {mx:Bool}{b:Builtin}{argTypes:Array TypeId}(ho:o.op= .call {callee:= .builtin b,args:=ass,argTypes})(hb:(b= .max/\mx=true)\/(b= .min/\mx=false))
  {args:List PV}(j:Sim C X w M E)(i:aT w (away X M E) M E (ass.toList.map ρ) args)
  {base:Nat}(h:ay C base (.Dh mx) args M K KP):iy C X w M E K KP ((execOp ρ o).run C.P w):=by
 simp only[ay]at h
 split at h
 ·rename_i k x n y
  obtain⟨v,u,l,m,e⟩:=gU i;have a:ass.map ρ= #[v,u]:=by apply bc;simpa using l
  have f:=m.toD.iI;have g:=e.toD.iI;have c:(execOp ρ o).run C.P w= .ok (.value (.int k (bif mx then(if y>x then y else x)else(if y<x then y else x)))) w:=by
   rcases hb with⟨rfl,rfl⟩|⟨rfl,rfl⟩
   ·simp[execOp,ho,resolve,a,invoke,builtin,Builtin.max_,Builtin.max2,f,g]
   ·simp[execOp,ho,resolve,a,invoke,builtin,Builtin.min_,Builtin.min2,f,g]
  rw[c];exact .same j h (.d (.int _ _))
 ·exact h.elim
def aaU (ho:o.op= .panic x){args:List PV}(e:Sim C X w M E)(c:aT w (away X M E) M E ((opsOf o.op).map ρ) args)
  {base:Nat}(h:ay C base .panic args M K KP):iy C X w M E K KP ((execOp ρ o).run C.P w):=by
 simp only[ho,opsOf,J,Z]at c;simp only[ay]at h
 split at h
 ·rename_i p
  obtain⟨v,f,g⟩:=gQ c;simp only[List.cons.injEq,and_true]at f;subst f
  split at h
  ·rename_i t d hd
   have a:=lJ (ps:=[p]) e g hd (by simp);have b:(execOp ρ o).run C.P w= .halt (.panic (ρ x)) w:=by
    have:∃u,ρ x= .iface t u:=by
     generalize j:ρ x=v at a;cases a;exact⟨_,rfl⟩
    obtain⟨u,i⟩:=this;simp[execOp,ho,i,Instr.panic]
   rw[b];exact⟨_,_,_,h,nT e [p],mW [p] w,a⟩
  ·exact h.elim
 ·exact h.elim
variable{l:List PV}
def Fq {f:Bool}{Q:Option Int->List PV->Prop}(h:eH f l Q){vs:List Value}(hv:aT w O M E vs l):
  ∃a c b,Q a c/\aT w O M E b c/\((f=false/\a=none/\b=vs)\/∃k n,f=true/\a=some n/\vs= .int k n::b):=by
 unfold eH at h
 split at h
 ·exact⟨none,_,vs,h,hv, .inl ⟨rfl,rfl,rfl⟩⟩
 ·cases hv with
  |cons h1 h2=>
   have:=h1.toD.iI;subst this;exact⟨some _,_,_,h,h2, .inr ⟨_,_,rfl,rfl,rfl⟩⟩
 ·exact h.elim
def AB (v:Option Value)(a:Option Int):Prop:=(v=none/\a=none)\/∃k n,v=some (.int k n)/\a=some n
def Jp {isSlice:Bool}{len cap:Nat}{lo hi mx:Option Value}{a b m:Option Int}(o:AB lo a)(hb:AB hi b)(p:AB mx m)(d:∀l,m=some l->b=some l)
  (h:0<=a.getD 0)(h1:a.getD 0<=b.getD len)(h2:b.getD len<=len)(q:len<=cap)(w:World):
  (Instr.sliceBounds isSlice len cap lo hi mx).run P w= .ok ((a.getD 0).toNat,(b.getD len).toNat,(m.map bA).getD cap) w:=by
 rcases o with⟨rfl,rfl⟩|⟨j,e,rfl,rfl⟩<;>rcases hb with⟨rfl,rfl⟩|⟨i,nb,rfl,rfl⟩<;>rcases p with⟨rfl,rfl⟩|⟨k,nm,rfl,rfl⟩<;>
  simp only[am,ai]at h h1 h2⊢
 ·simp[Instr.sliceBounds]
 ·have:=d _ rfl;cases this
 ·have c:nb<=(cap:Int):=by omega
  simp only[Instr.sliceBounds,Sem.run_bind,Sem.run_pure,Result.andThen_ok];rw[run_sliceBound w i nb cap _ h1 c];simp
 ·have:=d _ rfl;cases this
  have c:nb<=(cap:Int):=by omega
  have f:nb<=(nb.toNat:Int):=by omega
  simp only[Instr.sliceBounds,Sem.run_bind,Sem.run_pure,Result.andThen_ok];rw[run_sliceBound w k nb cap _ h1 c];simp only[Result.andThen_ok];rw[run_sliceBound w i nb nb.toNat _ h1 f];simp
 ·have c:e<=(len:Int):=h1
  simp only[Instr.sliceBounds,Sem.run_bind,Sem.run_pure,Result.andThen_ok];rw[run_sliceBound w j e len _ h c];simp
 ·have:=d _ rfl;cases this
 ·have c:nb<=(cap:Int):=by omega
  have g:0<=nb:=by omega
  have f:e<=(nb.toNat:Int):=by omega
  simp only[Instr.sliceBounds,Sem.run_bind,Sem.run_pure,Result.andThen_ok];rw[run_sliceBound w i nb cap _ g c];simp only[Result.andThen_ok];rw[run_sliceBound w j e nb.toNat _ h f];simp
 ·have:=d _ rfl;cases this
  have c:nb<=(cap:Int):=by omega
  have g:0<=nb:=by omega
  have f:nb<=(nb.toNat:Int):=by omega
  have n:e<=(nb.toNat:Int):=by omega
  simp only[Instr.sliceBounds,Sem.run_bind,Sem.run_pure];rw[run_sliceBound w k nb cap _ g c];simp only[Result.andThen_ok];rw[run_sliceBound w i nb nb.toNat _ g f];simp only[Result.andThen_ok];rw[run_sliceBound w j e nb.toNat _ h n];simp
def MO {lo hi mx:Bool}{Q:Option Int->Option Int->Option Int->Prop}
  (h:eH lo l fun a l=>eH hi l fun b l=>eH mx l fun m l=>l=[]/\Q a b m){ρ:Operand->Value}{olo ohi omx:Option Operand}(h1:olo.isSome=lo)(h2:ohi.isSome=hi)(j:omx.isSome=mx)
  (hv:aT w O M E ((olo.toList++ohi.toList++omx.toList).map ρ) l):∃a b m,Q a b m/\AB (olo.map ρ) a/\AB (ohi.map ρ) b/\AB (omx.map ρ) m:=by
 obtain⟨a,l1,o,f,r1,c⟩:=Fq h hv;obtain⟨b,l2,p,g,r2,d⟩:=Fq f r1;obtain⟨m,n,q,⟨k,i⟩,r3,e⟩:=Fq g r2;refine⟨a,b,m,i,?_⟩;subst h1 h2 j;cases olo<;>cases ohi<;>cases omx<;>simp at c d e<;>simp[AB]<;>grind
end
section
variable {C:Ctx}{X:Nat->Prop}{w:World}{M:Mem}{E:Emb}{K:PV->Mem->Prop}{KP:DV->Mem->Prop}{O:Nat->Prop}
variable{ρ:Operand->Value}{o:Oper}{x:Operand}{olo ohi omx:Option Operand}
def aeA {t:TypeId}{lo hi:Bool}(ho:o.op= .slice t x olo ohi omx){args:List PV}(q:Sim C X w M E)
  (j:aT w (away X M E) M E ((opsOf o.op).map ρ) args)(c:aW C.P (.slice t x olo ohi omx) (.EJ lo hi)=true){base:Nat}(h:ay C base (.EJ lo hi) args M K KP):iy C X w M E K KP ((execOp ρ o).run C.P w):=by
 simp only[aW,H,beq_iff_eq]at c;obtain⟨⟨⟨k,h1⟩,h2⟩,n⟩:=c
 split at k
 ·rename_i f
  have i:omx=none:=by simpa using n
  subst i;simp only[ho,opsOf,J,b8]at j;simp only[ay]at h;unfold wU at h
  split at h
  ·rename_i s l
   cases j with
   |cons v r=>
    obtain⟨a,b,m,⟨_,y,z,A,p⟩,ba,bb,bm⟩:=MO h h1 h2 (omx:=none) rfl r;have u:=v.toD.vC;have g:=Jp (P:=C.P) (isSlice:=false) ba bb (mx:=none) (m:=none) (.inl ⟨rfl,rfl⟩) (fun _ hh=>by cases hh) y z A (N _) w;have e:(execOp ρ o).run C.P w= .ok (.value (.string (s.extract (a.getD 0).toNat (b.getD s.size).toNat))) w:=by
     simp only[execOp,ho,Sem.run_bind,u,aR];rw[run_sliceAt_string w t _ _ _ _ f];simp only[Instr.slice,Sem.run_bind,run_underlying f,Result.andThen_ok,bp,S,if_false,g,Sem.run_pure]
    rw[e];exact .same q p (.d (.str _))
  ·exact h.elim
 ·cases k
variable{v:Value}{ex:Bool}{xs:List DV}
def bU.Js {w:World}{O:Nat->Prop}(h:bU w O v (.slice ex xs)):∃a cap,v= .slice a xs.length cap/\xs.length<=cap/\(ex=true->cap=xs.length)/\
  (xs=[]\/∃blk off sz cs T fz,a=some ⟨blk,off,none⟩/\w.heap[blk]?=some (.cells cs T fz)/\¬O blk/\(∀x∈xs,x.cells.length=sz)/\bn w O ((cs.toList.drop off).take (xs.length*sz)) (flat xs)):=by
 cases h with
 |empty b=>exact⟨_,_,rfl,aL _,b, .inl rfl⟩
 |slice c f e g d b hh=>subst e;exact⟨_,_,rfl,d,b, .inr ⟨_,_,_,_,_,_,rfl,c,f,g,hh⟩⟩
def Jr {P:Program}{t e:TypeId}{c:TypeInfo}{lo hi mx:Option Value}{a b m:Option Int}(p:P.underlying t=some (.slice e))(oJ:P.info? e=some c)
  (D:∀x∈xs,x.cells.length=c.size)(hv:bU w O v (.slice ex xs))
  (L:AB lo a)(hb:AB hi b)(I:AB mx m)(h:∀r,m=some r->b=some r)(K:0<=a.getD 0)(h1:a.getD 0<=b.getD xs.length)(h2:b.getD xs.length<=xs.length):
  ∃u,(Instr.sliceAt t v lo hi mx).run P w= .ok u w/\bU w O u (.slice (mx.isSome||(ex&& !hi.isSome)) ((xs.take (b.getD xs.length).toNat).drop (a.getD 0).toNat)):=by
 have n:P.elem t=e:=by simp[Program.elem,p]
 have f:P.underlying t=some (.slice (P.elem t)):=by rw[n];exact p
 obtain⟨G,cap,rfl,k,z,anl⟩:=hv.Js;have j:=Jp (P:=P) (isSlice:=true) L hb I h K h1 h2 k w;have apG:(b.getD xs.length).toNat<=(m.map bA).getD cap/\(m.map bA).getD cap<=cap:=by
  cases m with
  |none=>simp only[aR,ai];omega
  |some r=>have:=h r rfl;subst this;simp only[am]at h2;simp only[a6,am];omega
 have g:(mx.isSome||(ex&& !hi.isSome))=true->(m.map bA).getD cap=(b.getD xs.length).toNat:=by
  intro d
  rcases I with⟨rfl,rfl⟩|⟨U,nm,rfl,rfl⟩
  ·simp only[bp,ch,H,ab]at d
   obtain⟨E,F⟩:=d
   rcases hb with⟨rfl,rfl⟩|⟨S,nb,rfl,rfl⟩
   ·simp only[ai,aR]
    rw[z E];simp
   ·cases F
  ·have:=h nm rfl;subst this
   simp
 generalize (m.map bA).getD cap=mv at j apG g;have M:(a.getD 0).toNat<=(b.getD xs.length).toNat:=by omega
 have A:(b.getD xs.length).toNat<=xs.length:=by omega
 generalize (a.getD 0).toNat=l at*;generalize (b.getD xs.length).toNat=hh at*;refine⟨sliced G l hh mv c.size,?_,?_⟩
 ·rw[run_sliceAt_slice w t _ _ _ _ f,run_slice_any w t G xs.length cap f,j,n]
  simp only[Result.andThen_ok,run_sizeOf oJ]
 ·simp only[sliced]
  by_cases B:l=hh
  ·have:(xs.take hh).drop l=[]:=bt (by simp;omega)
   rw[this,B,b6];exact .empty (fun d=>by rw[g d];omega)
  ·have C:mv≠l:=by omega
   rw[if_neg C]
   rcases anl with rfl|⟨J,R,sz,cs,T,fz,rfl,y,N,q,Q⟩
   ·simp at A;omega
   ·have o:sz=c.size:=by
     have i:0<xs.length:=by omega
     rw[<-q _ (b9 i),D _ (b9 i)]
    subst o;simp only[a6,Addr.add_lit];refine .slice y N (by simp;omega) (fun x d=>q x (List.mem_of_mem_take (ae d))) (by omega) (fun d=>by have:=g d;omega) ?_;rw[bi,<-U9 (fun x d=>q x (ae d)),<-Bj q];have s:=(Q.drop (l*c.size)).take ((hh - l)*c.size);rw[bi,aw,List.take_take]at s;have:(hh - l)*c.size<=xs.length*c.size - l*c.size:=by
     rw[<-cm];exact aq _ (by omega)
    rw[Nat.min_eq_left this]at s;exact s
def isSome_map {α β:Type}(f:α->β)(o:Option α):(o.map f).isSome=o.isSome:=by cases o<;>rfl
def aez {t:TypeId}{sz:Nat}{lo hi mx:Bool}(ho:o.op= .slice t x olo ohi omx){args:List PV}(z:Sim C X w M E)
  (hA:aT w (away X M E) M E ((opsOf o.op).map ρ) args)(U:aW C.P (.slice t x olo ohi omx) (.zV sz lo hi mx)=true){base:Nat}(h:ay C base (.zV sz lo hi mx) args M K KP):iy C X w M E K KP ((execOp ρ o).run C.P w):=by
 simp only[aW,H,beq_iff_eq]at U;obtain⟨⟨⟨j,h1⟩,h2⟩,Y⟩:=U
 split at j
 ·rename_i e g
  split at j
  ·rename_i aD oJ
   simp only[H,beq_iff_eq,decide_eq_true_eq]at j;obtain⟨I,aM⟩:=j;subst I;have V:C.P.elem t=e:=by simp[Program.elem,g]
   have s:C.P.underlying t=some (.slice (C.P.elem t)):=by rw[V];exact g
   simp only[ho,opsOf,J,b8]at hA;simp only[ay]at h;have c:∀{u:Value},(Instr.sliceAt t (ρ x) (olo.map ρ) (ohi.map ρ) (omx.map ρ)).run C.P w= .ok u w->(execOp ρ o).run C.P w= .ok (.value u) w:=by
    intro u j;simp only[execOp,ho,Sem.run_bind,j,Result.andThen_ok,Sem.run_pure]
   unfold Au at h
   split at h
   ·rename_i ex xs l
    cases hA with
    |cons n hl=>
     obtain⟨a,b,m,⟨I,L,q2,q3,q4,y⟩,ba,bb,bm⟩:=MO h h1 h2 Y hl;obtain⟨u,Q,i⟩:=Jr (P:=C.P) g oJ I n.toD ba bb bm q4 L q2 q3;rw[c Q];refine .same z y (.d ?_);simp only[isSome_map,h2,Y]at i;exact i
   ·rename_i k ver skip l
    cases hA with
    |cons n hl=>
     obtain⟨a,b,m,R,ba,bb,bm⟩:=MO h h1 h2 Y hl
     split at R
     ·rename_i A r
      obtain⟨f,Rf⟩:=zG r;have ahl:=(z.arr k A f).2.1
      split at R
      ·obtain⟨akh,rfl,L,q2,y⟩:=R
       generalize hv:ρ x=v at n c;cases n with
       |tsl G hh=>
        rename_i len cap O
        obtain⟨F,aq⟩:=hh A f;obtain⟨aE,h4,h5,Z⟩:=aq Rf;cases aE with
        |some q=>
         obtain⟨ab,o1,e1⟩:=q;simp only at Z;have W:∀O len cap,len=A.elems.length - skip->len<=cap->(Instr.sliceAt t (.slice O len cap) (olo.map ρ) (ohi.map ρ) (omx.map ρ)).run C.P w= .ok (sliced O (a.getD 0).toNat len cap aD.size) w:=by
          intro O len cap e1 e2;have an:=Jp (P:=C.P) (isSlice:=true) ba bb bm (fun _ hh=>by cases hh) L (by simp only[ai];omega) (by simp only[ai];omega) e2 w;rw[run_sliceAt_slice w t _ _ _ _ s,run_slice_any w t O len cap s,an,V];simp only[Result.andThen_ok,run_sizeOf oJ,ai]
          congr 2
         rcases Z with⟨aL,he,hc,S⟩|⟨hn,a',he⟩
         ·cases he
          rw[c (W _ _ _ rfl hc)];simp only[sliced];have a1:(a.getD 0).toNat<=A.elems.length - skip:=by omega
          refine .same z y (.tsl G fun B p=> ?_);rw[f]at p;cases p;refine⟨F,fun _=>⟨_,h4,by omega,?_⟩⟩
          by_cases T:cap=(a.getD 0).toNat
          ·rw[if_pos T]
           refine .inr ⟨by omega,some ⟨ab,o1+skip*A.sz,none⟩,?_⟩;rw[show A.elems.length - skip - (a.getD 0).toNat=0 by omega,show cap - (a.getD 0).toNat=0 by omega]
          ·rw[if_neg T]
           refine .inl ⟨cap - (a.getD 0).toNat,?_,by omega,?_⟩
           ·simp only[a6,Addr.add_lit,akh,ao,bh,Nat.sub_sub]
           ·rw[<-S];congr 2;omega
         ·cases he
          have ac:(a.getD 0).toNat=0:=by omega
          rw[c (W _ _ _ (by omega) (N _))];simp only[sliced,ac,if_true,b6];refine .same z y (.tsl G fun B p=> ?_);rw[f]at p;cases p;exact⟨F,fun _=>⟨_,h4,by omega, .inr ⟨by omega,_,rfl⟩⟩⟩
        |none=>
         simp only at Z;have D:(A.elems.drop skip).length=A.elems.length - skip:=by simp
         obtain⟨u,Q,i⟩:=Jr (P:=C.P) g oJ (fun x n=>by rw[DV.jD (ahl x (ae n)),akh]) Z ba bb bm (fun _ hh=>by cases hh) L (by simp only[ai,D];omega) (by simp);rw[c Q];have ax:ohi=none:=by
          rcases bb with⟨e,_⟩|⟨_,_,_,e⟩
          ·simpa using e
          ·cases e
         have apH:omx=none:=by
          rcases bm with⟨e,_⟩|⟨_,_,_,e⟩
          ·simpa using e
          ·cases e
         subst ax apH;simp only[aR,bp,ch,Bool.not_false,bq,ai]at i;have ht:(((A.elems.drop skip).take ((A.elems.drop skip).length:Int).toNat).drop (a.getD 0).toNat)=A.elems.drop (skip+(a.getD 0).toNat):=by
          rw[Int.toNat_natCast,List.take_length,aw]
         rw[ht]at i;obtain⟨a0,c',j⟩:=i.lU;subst j;refine .same z y (.tsl G fun B p=> ?_);rw[f]at p;cases p;exact⟨F,fun _=>⟨none,h4,by omega,i⟩⟩
      ·rename_i b'
       obtain⟨akh,L,q2,q3,q4,y⟩:=R;have D:(A.elems.drop skip).length=A.elems.length - skip:=by simp
       have hd:datum M (.tsl k ver skip)=some (.slice false (A.elems.drop skip)):=by simp[datum,r]
       have ap:=lJ (ps:=[PV.tsl k ver skip]) z n hd (by simp);obtain⟨u,Q,i⟩:=Jr (P:=C.P) g oJ (fun x n=>by rw[DV.jD (ahl x (ae n)),akh]) ap ba bb bm (fun m' az=>by rw[q4 m' az]) L (by simpa using q2) (by simp only[am,D];omega);rw[c Q];refine⟨_,_,_,y,nT z _,mW _ w, .d ?_⟩;simp only[isSome_map,h2,Y,Bool.false_and,Bool.or_false,am]at i;exact i
     ·exact R.elim
   ·exact h.elim
  ·cases j
 ·cases j
end
def Reads (w:World)(O:Nat->Prop)(sz:Nat)(v:Value)(ys:List DV):Prop:=
 ∃a:List Value,(∀P,(Builtin.lenOf v).run P w= .ok ys.length w)/\(∀P w',Later w w'->(Builtin.firstCells sz ys.length v).run P w'= .ok a.toArray w')/\bn w O a (flat ys)
section
variable {C:Ctx}{X:Nat->Prop}{w:World}{M:Mem}{E:Emb}{K:PV->Mem->Prop}{KP:DV->Mem->Prop}{O:Nat->Prop}
def Jq (P:Program)(w:World)(a:Addr):(loadCells a 0).run P w= .ok #[] w:=by
 have:=run_loadCells_list (P:=P) w a [] (fun j v b=>by simp at b)
 simpa using this
variable{sz cap:Nat}
def reads_nil {a:Option Addr}:Reads w O sz (.slice a 0 cap) []:=by
 refine⟨[],fun P=>by simp[Builtin.lenOf],fun P w' _=> ?_,by simpa[flat]using .nil⟩;cases a with
 |none=>simp[Builtin.firstCells]
 |some a=>simp[Builtin.firstCells,Jq]
variable{ys:List DV}
def VI {blk off len:Nat}{cs:Array Value}{T:TypeId}{fz:Nat×Nat}(hb:w.heap[blk]?=some (.cells cs T fz))
  (c:bn w O ((cs.toList.drop off).take (len*sz)) (flat ys))(hl:ys.length=len)(hs:∀y∈ys,y.cells.length=sz):Reads w O sz (.slice (some ⟨blk,off,none⟩) len cap) ys:=by
 subst hl;have b:((cs.toList.drop off).take (ys.length*sz)).length=ys.length*sz:=by rw[c.length,flat_length hs]
 refine⟨_,fun P=>by simp[Builtin.lenOf],fun P w' d=> ?_,c⟩;have:=run_loadCells_list (P:=P) w' ⟨blk,off,none⟩ ((cs.toList.drop off).take (ys.length*sz)) (fun j v a=>by
  rw[Addr.add_lit,cell_of_row w' blk (off+j) cs T fz (d.jL hb)];rw[bk]at a
  split at a
  ·rw[List.getElem?_drop]at a;simpa using a
  ·cases a)
 rw[b]at this
 simpa[Builtin.firstCells]using this
variable{v:Value}
def Jj {ex:Bool}(f:bU w O v (.slice ex ys))(hs:∀y∈ys,y.cells.length=sz):Reads w O sz v ys:=by
 cases f with
 |empty g=>exact reads_nil
 |slice e j c a i g hh=>
  rename_i d h len cap b cs T fz
  cases ys with
  |nil=>
   subst c;exact reads_nil
  |cons y ys=>
   have:b=sz:=by rw[<-a y (by simp),hs y (by simp)]
   subst this;exact VI e hh c hs
def afF {s:ByteArray}:Reads w O 1 (.string s) (s.data.toList.map fun b=> .int .u8 b.toNat):=by
 have c:∀l:List UInt8,flat (l.map fun b=>DV.int .u8 (b.toNat:Int))=l.map fun b=>DV.int .u8 (b.toNat:Int):=by
  intro l
  induction l with
  |nil=>rfl
  |cons b l d=>rw[J,nG,d];rfl
 have a:(s.data.toList.map fun b=>DV.int .u8 (b.toNat:Int)).length=s.size:=by simp
 refine⟨s.data.toList.map fun b=> .int .u8 b.toNat,fun P=>by rw[a];simp[Builtin.lenOf],fun P w' _=> ?_,?_⟩
 ·rw[a]
  have:s.extract 0 s.size=s:=by simp
  simp only[Builtin.firstCells,this,Sem.run_pure]
  congr 1
  apply bc;simp
 ·rw[c]
  generalize s.data.toList=l
  induction l with
  |nil=>exact .nil
  |cons b l d=>exact .cons (.int _ _) d
variable{A:Arr}
def Ua {k ver skip:Nat}(s:Sim C X w M E)(u:Rep w (away X M E) M E v (.tsl k ver skip))(r:M.row k ver=some A):
  M.aF[k]?=some (some A)/\skip<=A.elems.length/\0<A.sz/\(∀x∈A.elems,x.fits A.sz=true)/\
  ((∃(blk o e:Nat) (vs:Array Value) (T:TM vs.size) (cap:Nat),E.ar[k]?=some (some (blk,o,e))/\w.heap[blk]?=some (.cells vs T.ty T.fr)/\o+A.elems.length*A.sz<=e/\e<=vs.size/\
    bn w (away X M E) ((vs.toList.drop o).take (A.elems.length*A.sz)) (flat A.elems)/\
    ((v= .slice (some ⟨blk,o+skip*A.sz,none⟩) (A.elems.length - skip) cap/\A.elems.length - skip<=cap/\o+(skip+cap)*A.sz=e)\/(A.elems.length=skip/\cap=0/\∃a,v= .slice a 0 0)))\/
  (E.ar[k]?=some none/\A.st≠1/\bU w (away X M E) v (.slice true (A.elems.drop skip)))):=by
 obtain⟨b,z⟩:=zG r;obtain⟨D,F,G,H⟩:=s.arr k A b;cases u with
 |tsl t hh=>
  obtain⟨_,h2⟩:=hh A b;obtain⟨f,c,p,d⟩:=h2 z;refine⟨b,p,D,F,?_⟩;cases f with
  |some q=>
   obtain⟨blk,o,e⟩:=q;obtain⟨_,vs,T,i,j,l,m⟩:=H blk o e c;simp only at d
   rcases d with⟨cap,g,h,B⟩|⟨g,a,h⟩
   ·exact .inl ⟨blk,o,e,vs,T,cap,c,i,j,l,m, .inl ⟨g,h,B⟩⟩
   ·exact .inl ⟨blk,o,e,vs,T,0,c,i,j,l,m, .inr ⟨g,rfl,a,h⟩⟩
  |none=>
   refine .inr ⟨c,fun y=> ?_,d⟩;obtain⟨q,n⟩:=G y;rw[c]at n;cases n
def row_drop {o skip:Nat}{vs:Array Value}(a:∀x∈A.elems,x.fits A.sz=true)(c:bn w O ((vs.toList.drop o).take (A.elems.length*A.sz)) (flat A.elems)):
  bn w O ((vs.toList.drop (o+skip*A.sz)).take ((A.elems.length - skip)*A.sz)) (flat (A.elems.drop skip)):=by
 have b:(vs.toList.drop (o+skip*A.sz)).take ((A.elems.length - skip)*A.sz)=(((vs.toList.drop o).take (A.elems.length*A.sz)).drop (skip*A.sz)):=by
  rw[bi,aw,cm]
 rw[b,<-Bj (fun x d=>DV.jD (a x d)) skip];exact c.drop _
def VJ {k ver skip:Nat}(h:Sim C X w M E)(i:Rep w (away X M E) M E v (.tsl k ver skip))(g:M.row k ver=some A):Reads w (away X M E) A.sz v (A.elems.drop skip):=by
 obtain⟨_,h1,h2,b,f⟩:=Ua h i g;have c:∀y∈A.elems.drop skip,y.cells.length=A.sz:=fun y j=>DV.jD (b y (ae j))
 rcases f with⟨d,o,e,u,T,cap,q,l,r,s,m,n⟩|⟨_,_,hd⟩
 ·rcases n with⟨rfl,p,t⟩|⟨p,_,a,rfl⟩
  ·exact VI l (row_drop b m) (by simp) c
  ·rw[bt (by omega)]
   exact reads_nil
 ·exact Jj hd c
def Reads.size {b:Nat}(h:Reads w O sz v ys)(h1:∀y∈ys,y.cells.length=sz)(h2:∀y∈ys,y.cells.length=b)(P:Program)(d:∃a n cap,v= .slice a n cap):Reads w O b v ys:=by
 cases ys with
 |nil=>
  obtain⟨a,n,cap,rfl⟩:=d;obtain⟨c,e,_,_⟩:=h;have:n=0:=by simpa[Builtin.lenOf]using e P
  subst this;exact reads_nil
 |cons y ys=>
  have:sz=b:=by rw[<-h1 y (by simp),h2 y (by simp)]
  subst this;exact h
def SN {x:PV}(h:Sim C X w M E)(d:Rep w (away X M E) M E v x)(b:yQ sz x M=some ys)(c:∀y∈ys,y.fits sz=true):Reads w (away X M E) sz v ys:=by
 have i:∀y∈ys,y.cells.length=sz:=fun y g=>DV.jD (c y g)
 unfold yQ at b
 split at b
 ·simp only[Option.some.injEq]at b;subst b
  exact Jj d.toD i
 ·split at b
  ·rename_i f
   simp only[Option.some.injEq]at b;subst b;subst f;have:=d.toD.vC;subst this;exact afF
  ·cases b
 ·rw[I]at b
  obtain⟨A,e,rfl⟩:=b;have j:=(Ua h d e).2.2.2.1;obtain⟨a,cap,k⟩:=d.lU e;exact(VJ h d e).size (fun y g=>DV.jD (j y (ae g))) i C.P ⟨_,_,_,k⟩
 ·cases b
def af2 {a:Array TypeId}{p:Option TypeDesc->Option TypeDesc->Bool}{P:Program}(h:(a.size==2&&p (P.underlying (a.getD 0 0)) (P.underlying (a.getD 1 0)))=true):
  ∃t u,a= #[t,u]/\p (P.underlying t) (P.underlying u)=true:=by
 simp only[H,beq_iff_eq]at h;obtain⟨h1,h2⟩:=h;obtain⟨l⟩:=a
 match l,h1 with
 | [t,u],_=>exact⟨t,u,rfl,by simpa using h2⟩
variable{ρ:Operand->Value}{o:Oper}{ass:Array Operand}
def Yd {st1:Bool}{argTypes:Array TypeId}(ho:o.op= .call {callee:= .builtin .append,args:=ass,argTypes}){args:List PV}(U:Sim C X w M E)(hA:aT w (away X M E) M E ((opsOf o.op).map ρ) args)
  (be:aW C.P (.call {callee:= .builtin .append,args:=ass,argTypes}) (.app sz st1)=true){base:Nat}(h:ay C base (.app sz st1) args M K KP):iy C X w M E K KP ((execOp ρ o).run C.P w):=by
 simp only[aW]at be;simp only[ho,opsOf]at hA;simp only[ay]at h
 split at h
 ·rename_i s x
  obtain⟨v,u,he,hr,bw⟩:=gU hA;have bo:ass.map ρ= #[v,u]:=by apply bc;simpa using he
  obtain⟨sT,xT,rfl,hu⟩:=af2 (p:=fun a b=>match a,b with
   |some (.slice e),some d=>(match d with| .int _=>false| _=>true)&&(match C.P.info? e with
    |some i=>match i.zero with|some z=>i.size==sz&&decide (0<sz)&&decide (i.bytes<=1024)&&z.cells.size==sz|none=>false
    |none=>false)
   | _,_=>false) be
  split at hu
  ·rename_i e d bk aoJ
   simp only[H]at hu;obtain⟨hd,hu⟩:=hu
   split at hu
   ·rename_i bO oJ
    split at hu
    ·rename_i z hz
     simp only[H,beq_iff_eq,decide_eq_true_eq]at hu;obtain⟨⟨⟨bi,t⟩,J⟩,bl⟩:=hu;have a9:∀k,d≠ .int k:=by rintro k rfl;cases hd
     have D:∀{r:Value} {w':World},(Builtin.append_ #[sT,xT] o.type #[v,u]).run C.P w= .ok r w'->(execOp ρ o).run C.P w= .ok (.value r) w':=by
      intro r w' hh;simp[execOp,ho,resolve,bo,invoke,builtin,hh]
     unfold lT at h
     split at h
     ·exact h.elim
     ·rename_i ys bA
      obtain⟨_,av,bE,h⟩:=h;have bz:∀y∈ys,y.cells.length=sz:=fun y hy=>DV.jD (av y hy)
      obtain⟨j,n1,n2,n3⟩:=SN U bw bA av;have I:j.length=ys.length*sz:=by rw[n3.length,flat_length bz]
      have aR:∀v∈j,v.oneCell'=true:=n3.oneCell (by
       intro c hc;simp only[flat,List.mem_flatMap]at hc;obtain⟨y,hy,hc⟩:=hc;exact DV.uq (av y hy) c hc)
      have aE:∀{f Q:List Value} {xs:List DV},bn w (away X M E) f (flat xs)->(∀x∈xs,x.cells.length=sz)->
        bn w (away X M E) ((((f++j++Q).toArray).toList.drop 0).take ((xs++ys).length*sz)) (flat (xs++ys)):=by
       intro f Q xs a1 hx;have ac:f.length=xs.length*sz:=by rw[a1.length,flat_length hx]
       have bu:(f++j).length=(xs++ys).length*sz:=by simp[ac,I,ao]
       rw[bj,<-bu,List.take_left,ES];exact a1.append n3
      split at h
      ·rename_i ex xs
       obtain⟨rfl,ap,aD,hK⟩:=h;have R:∀y∈xs,y.cells.length=sz:=fun y hy=>DV.jD (ap y hy)
       obtain⟨f,o1,o2,o3⟩:=Jj (sz:=sz) hr.toD R;have ac:f.length=xs.length*sz:=by rw[o3.length,flat_length R]
       have a8:∃a,v= .slice a xs.length xs.length:=by
        have hd:=hr.toD;cases hd with
        |empty hx=>rw[hx rfl];exact⟨_,rfl⟩
        |slice hb a1 hl hs hc hx hh=>rw[hx rfl,hl];exact⟨_,rfl⟩
       obtain⟨a,rfl⟩:=a8;have n:∀x∈(xs++ys),x.fits sz=true:=by
        intro x hx
        rcases cg.1 hx with hx|hx
        ·exact ap x hx
        ·exact av x hx
       rcases TB (ty:=o.type) bk ⟨d,aoJ,a9⟩ oJ hz bi J bl (n1 C.P) (n2 C.P) I (o2 C.P) ac aD aR (fun h1 h2=>by omega)with⟨_,q2,q3⟩|⟨q1,q2,_⟩|⟨_,w',cap,Q,q3,q4,q5,q6,q7⟩
       ·have a4:ys=[]:=ax.1 q2
        subst a4;have a3:st1=false:=by cases st1<;>simp_all
        subst a3;rw[D q3];obtain⟨t1,t2⟩:=DW (A:=⟨sz,xs++ [],0,0⟩) (loc:=none) U (Later.refl w) t n (fun hh=>by cases hh) (fun _ _ _ hh=>by cases hh);refine⟨_,_,_,hK,t1,t2, .tsl (by simp) fun B G=> ?_⟩;have m:B=⟨sz,xs++ [],0,0⟩:=by simp at G;simp[G]
        subst m;refine⟨N _,fun _=>⟨none,by simp[<-U.bP],aL _,?_⟩⟩;have:=hr.toD.from t2
        simpa using this
       ·omega
       ·rw[D q3]
        have ab:(xs++ys).length=xs.length+ys.length:=by simp
        obtain⟨t1,t2⟩:=DW (A:=⟨sz,xs++ys,0,bif st1 then 1 else 0⟩) (loc:=some (w.heap.size,0,cap*sz)) U q5 t n (fun _ hh=>by cases hh) (fun l S e' hh=>by
         cases hh;refine⟨N _,_, .zero _ _,q6,?_,?_,aE o3 R⟩
         ·show 0+(xs++ys).length*sz<=cap*sz
          rw[aM,ab];exact aq _ q4
         ·rw[a7,q7];exact N _)
        refine⟨_,_,_,hK,t1,t2, .tsl (by simp) fun B G=> ?_⟩;have m:B=⟨sz,xs++ys,0,bif st1 then 1 else 0⟩:=by simp at G;simp[G]
        subst m;refine⟨N _,fun _=>⟨some (w.heap.size,0,cap*sz),by simp[<-U.bP],aL _, .inl ⟨cap,?_,?_,?_⟩⟩⟩
        ·simp
        ·simpa using q4
        ·simp
      ·rename_i k ver skip
       split at h
       ·rename_i A L
        obtain⟨rfl,az,aD,hK⟩:=h;obtain⟨W,aqk,_,a0,aoi⟩:=Ua U hr L;have a6:=fun _:Unit=>aoi
        clear aoi;have ap:∀y∈A.elems.drop skip,y.fits A.sz=true:=fun y hy=>a0 y (ae hy)
        have R:∀y∈A.elems.drop skip,y.cells.length=A.sz:=fun y hy=>DV.jD (ap y hy)
        obtain⟨f,o1,o2,o3⟩:=VJ U hr L;have Z:(A.elems.drop skip).length=A.elems.length - skip:=by simp
        have ac:f.length=(A.elems.length - skip)*A.sz:=by rw[o3.length,flat_length R,Z]
        have anc:k<M.aF.length:=(Y.1 W).1;have Rf:=(zG L).2;have adh:A.ver<ver+1:=by omega
        have n:∀x∈(A.elems.drop skip++ys),x.fits A.sz=true:=by
         intro x hx
         rcases cg.1 hx with hx|hx
         ·exact ap x hx
         ·exact av x hx
        obtain⟨a,q,hv⟩:=hr.lU L;subst hv;rw[Z]at o2;have O:∀{B A':Arr},(M.aF.set k (some A'))[k]?=some (some B)->B=A':=by
         intro B A' G;simp[anc]at G;exact G.symm
        have aw:k<(M.aF.set k (some (⟨A.sz,A.elems.drop skip++ys,ver+1,bif st1 then 1 else A.st⟩:Arr))).length:=by simpa using anc
        have hE:∀a5,(E.ar.set k a5)[k]?=some a5:=fun a5=>by simp[U.bP,anc]
        have ai:Unit->A.elems.length - skip+ys.length<=q->ys.length≠0->∃(l o e:Nat) (F:Array Value) (T:TM F.size),E.ar[k]?=some (some (l,o,e))/\w.heap[l]?=some (.cells F T.ty T.fr)/\o+A.elems.length*A.sz<=e/\e<=F.size/\
          bn w (away X M E) ((F.toList.drop o).take (A.elems.length*A.sz)) (flat A.elems)/\a=some ⟨l,o+skip*A.sz,none⟩/\o+(skip+q)*A.sz=e:=by
         intro _ h1 h2
         rcases a6 ()with⟨l,o,e,F,T,cap,p1,p2,p3,p4,p5,p6⟩|⟨_,_,hd⟩
         ·rcases p6 with⟨hh,p7,p8⟩|⟨_,_,a',hh⟩
          ·cases hh;exact⟨l,o,e,F,T,p1,p2,p3,p4,p5,rfl,p8⟩
          ·simp only[Value.slice.injEq]at hh
           omega
         ·obtain⟨a',c',bs,_,bq,_⟩:=hd.Js
          simp only[Value.slice.injEq]at bs;have:=bq rfl;omega
        rcases TB (ty:=o.type) bk ⟨d,aoJ,a9⟩ oJ hz bi J bl (n1 C.P) (n2 C.P) I (o2 C.P) ac (by omega) aR (fun h1 h2=>by
          obtain⟨l,S,e',F,T,p1,p2,p3,p4,p5,p6,p7⟩:=ai () h1 h2;refine⟨l,_,F,T,p6,p2,?_⟩;rw[I,bh,<-ao,bh,<-ao];have:(skip+(A.elems.length - skip+ys.length))*A.sz<=(skip+q)*A.sz:=aq _ (by omega);omega)with⟨q1,q2,q3⟩|⟨q1,q2,w',g,og,bN,T,q3,q4,q5,q6⟩|⟨_,w',cap,Q,q3,q4,q5,q6,q7⟩
        ·have a4:ys=[]:=ax.1 q2
         subst a4;have a3:st1=false:=by cases st1<;>simp_all
         subst a3;rw[D q3]
         rcases a6 ()with⟨l,o,e,F,T,cap,p1,p2,p3,p4,p5,p6⟩|⟨p1,p2,hd⟩
         ·obtain⟨t1,t2⟩:=zJ (A':=⟨A.sz,A.elems.drop skip++ [],ver+1,A.st⟩) (loc:=some (l,o+skip*A.sz,e)) U W az rfl rfl rfl (N _) (fun _ _ _ hh=>hh) adh t n (fun _ hh=>by cases hh) (fun V S e' hh=>by
           cases hh;refine⟨.inr ⟨o,e,p1⟩,F,T,p2,?_,p4,?_⟩
           ·simp only[bv,Z]
            have:skip*A.sz+(A.elems.length - skip)*A.sz=A.elems.length*A.sz:=by rw[<-ao];congr 1;omega
            omega
           ·simp only[bv,Z]
            exact row_drop a0 p5)
          refine⟨_,_,_,hK,t1,t2, .tsl aw fun B G=> ?_⟩;have m:=O G;subst m;refine⟨N _,fun _=>⟨_,hE _,aL _,?_⟩⟩
          rcases p6 with⟨hh,p7,p8⟩|⟨p7,_,a',hh⟩
          ·simp only[Value.slice.injEq]at hh
           obtain⟨rfl,_,rfl⟩:=hh;refine .inl ⟨q,?_,?_,?_⟩
           ·simp
           ·simpa using p7
           ·simp only[aM];rw[bh,<-ao];exact p8
          ·simp only[Value.slice.injEq]at hh
           obtain⟨rfl,h2,rfl⟩:=hh;refine .inr ⟨by simp;omega,a,?_⟩;rw[h2];rfl
         ·obtain⟨t1,t2⟩:=zJ (A':=⟨A.sz,A.elems.drop skip++ [],ver+1,A.st⟩) (loc:=none) U W az rfl rfl rfl (N _) (fun _ _ _ hh=>hh) adh t n (fun hh=>absurd hh p2) (fun V S e' hh=>by cases hh)
          refine⟨_,_,_,hK,t1,t2, .tsl aw fun B G=> ?_⟩;have m:=O G;subst m;refine⟨N _,fun _=>⟨_,hE _,aL _,?_⟩⟩;have:=hd.from t2
          simpa using this
        ·obtain⟨l,S,e',F,T',p1,p2,p3,p4,p5,p6,p7⟩:=ai () q1 q2
         rw[p6]at q4;simp only[Option.some.injEq,Addr.mk.injEq]at q4;obtain⟨rfl,rfl,_⟩:=q4;rw[p2]at q5;simp only[Option.some.injEq,Obj.cells.injEq]at q5;obtain⟨rfl,_,_⟩:=q5;rw[D q3];have bB:skip*A.sz+(A.elems.length - skip)*A.sz=A.elems.length*A.sz:=by rw[<-ao];congr 1;omega
         have aoz:(A.elems.drop skip++ys).length*A.sz=(A.elems.length - skip)*A.sz+ys.length*A.sz:=by rw[bL,Z,ao]
         have bt:(skip+(A.elems.length - skip+ys.length))*A.sz<=(skip+q)*A.sz:=aq _ (by omega);rw[ao,ao (A.elems.length - skip)]at bt;have am:F.toList.length=F.size:=by simp
         obtain⟨t1,t2⟩:=zJ (A':=⟨A.sz,A.elems.drop skip++ys,ver+1,bif st1 then 1 else A.st⟩) (loc:=some (l,S+skip*A.sz,e')) U W az q6.os q6.tape q6.output (b5 q6.size.symm)
          (fun b ob hb a2=>q6.jL (fun bp=>hb S e' (bp▸p1)) a2) adh t n (fun _ hh=>by cases hh) (fun V o2 e2 hh=>by
           cases hh;refine⟨.inr ⟨S,e',p1⟩,_,T.cast (by have hz:=length_splice F.toList (S+skip*A.sz+(A.elems.length - skip)*A.sz) j (by rw[I,am];omega);simpa using hz.symm),q6.at_,?_,?_,?_⟩
           ·show S+skip*A.sz+(A.elems.drop skip++ys).length*A.sz<=e'
            omega
           ·rw[a7,length_splice _ _ _ (by rw[I,am];omega),am];exact p4
           ·show bn w _ ((((splice F.toList (S+skip*A.sz+(A.elems.length - skip)*A.sz) j).toArray).toList.drop (S+skip*A.sz)).take ((A.elems.drop skip++ys).length*A.sz)) (flat (A.elems.drop skip++ys))
            rw[List.toList_toArray,Aa _ _ _ _ (by omega) (by rw[am];omega),an,ES];have e1:(splice (F.toList.drop (S+skip*A.sz)) ((A.elems.length - skip)*A.sz) j).take ((A.elems.drop skip++ys).length*A.sz)=(F.toList.drop (S+skip*A.sz)).take ((A.elems.length - skip)*A.sz)++j:=by
             unfold splice;refine List.take_left' ?_;rw[bL,bd,br,aoz,I,am];omega
            rw[e1];exact(row_drop a0 p5).append n3)
         refine⟨_,_,_,hK,t1,t2, .tsl aw fun B G=> ?_⟩;have m:=O G;subst m;refine⟨N _,fun _=>⟨_,hE _,aL _, .inl ⟨q,?_,?_,?_⟩⟩⟩
         ·simp[p6]
         ·simpa using q1
         ·simp only[aM];rw[bh,<-ao];exact p7
        ·rw[D q3]
         have ab:(A.elems.drop skip++ys).length=A.elems.length - skip+ys.length:=by simp
         obtain⟨t1,t2⟩:=zJ (A':=⟨A.sz,A.elems.drop skip++ys,ver+1,bif st1 then 1 else A.st⟩) (loc:=some (w.heap.size,0,cap*A.sz)) U W az q5.os q5.tape q5.output q5.size
          (fun b ob _ a2=>q5.jL a2) adh t n (fun _ hh=>by cases hh) (fun V o2 e2 hh=>by
           cases hh;refine⟨.inl (N _),_, .zero _ _,q6,?_,?_,aE o3 R⟩
           ·show 0+(A.elems.drop skip++ys).length*A.sz<=cap*A.sz
            rw[aM,ab];exact aq _ q4
           ·rw[a7,q7];exact N _)
         refine⟨_,_,_,hK,t1,t2, .tsl aw fun B G=> ?_⟩;have m:=O G;subst m;refine⟨N _,fun _=>⟨_,hE _,aL _, .inl ⟨cap,?_,?_,?_⟩⟩⟩
         ·simp
         ·simpa using q4
         ·simp
       ·exact h.elim
      ·exact h.elim
    ·cases hu
   ·cases hu
  ·cases hu
 ·exact h.elim
def iy.frz {r:Result Next}(h:iy C X w M E (fun v M'=>∃d,datum M' v=some d/\K (.d d) (M'.frz [v])) KP r):iy C X w M E K KP r:=by
 cases r with
 |ok n w'=>
  cases n with
  |value v=>
   obtain⟨pv,M',E',⟨d,hd,i⟩,h1,h2,j⟩:=h;exact⟨_,_,E',i,nT h1 [pv],h2.trans (mW [pv] w'), .d (lJ (ps:=[pv]) h1 j hd (by simp))⟩
  |skip=>
   obtain⟨M',E',⟨d,hd,i⟩,_⟩:=h;simp[datum]at hd
  |enter f a=>
   obtain⟨e,B,p,o⟩:=h;refine⟨e,B,fun y D s k A z=>(p y D s k A z).mono fun m q g=> ?_,o⟩;cases m with
   |returned v=>
    obtain⟨pv,M',E',⟨d,hd,i⟩,h1,h2,j⟩:=g;exact⟨_,_,E',i,nT h1 [pv],h2.trans (mW [pv] q), .d (lJ (ps:=[pv]) h1 j hd (by simp))⟩
   |panicked c=>exact g
   |outgrown=>exact g
  |round l f t a b=>
   obtain⟨e,o⟩:=h;refine⟨e,o.mono fun m q g=> ?_⟩;cases m with
   |returned v=>
    obtain⟨pv,M',E',⟨d,hd,i⟩,h1,h2,j⟩:=g;exact⟨_,_,E',i,nT h1 [pv],h2.trans (mW [pv] q), .d (lJ (ps:=[pv]) h1 j hd (by simp))⟩
   |panicked c=>exact g
   |outgrown=>exact g
  | _=>exact h.elim
 |halt x w'=>
  cases x with
  |panic u=>exact h
  | _=>exact h.elim
def aef {argTypes:Array TypeId}(ho:o.op= .call {callee:= .builtin .append,args:=ass,argTypes}){args:List PV}(g:Sim C X w M E)(f:aT w (away X M E) M E ((opsOf o.op).map ρ) args)
  (b:aW C.P (.call {callee:= .builtin .append,args:=ass,argTypes}) (.XV sz)=true){base:Nat}(h:ay C base (.XV sz) args M K KP):iy C X w M E K KP ((execOp ρ o).run C.P w):=by
 have a:aW C.P (.call {callee:= .builtin .append,args:=ass,argTypes}) (.app sz false)=true:=b;have e:ay C base (.app sz false) args M (fun v c=>∃d,datum c v=some d/\K (.d d) (c.frz [v])) KP:=h;exact iy.frz (Yd ho g f a e)
end
variable{w w':World}{O O':Nat->Prop}
def U8:∀{cs:List DV} {vs:List Value},(cs.all fun| .int _ _=>true| .bool _=>true| .str _=>true| _=>false)=true->bn w O vs cs->bn w' O' vs cs:=by
 intro cs
 induction cs with
 |nil=>intro vs _ h;cases h;exact .nil
 |cons c cs d=>
  intro vs h b;cases b with
  |cons h1 t=>
   simp only[be,H]at h;refine .cons ?_ (d h.2 t);have a:=h.1;cases h1<;>first|exact .int _ _|exact .bool _|exact .str _|(simp at a)
def aeY:∀{cs:List DV} {vs:List Value},(cs.all fun| .int _ _=>true| .bool _=>true| .str _=>true| .agg cs=>(cs.all fun| .int _ _=>true| .bool _=>true| .str _=>true| _=>false)| _=>false)=true->
  bn w O vs cs->bn w' O' vs cs:=by
 intro cs
 induction cs with
 |nil=>intro vs _ h;cases h;exact .nil
 |cons c cs d=>
  intro vs h b;cases b with
  |cons h1 t=>
   simp only[be,H]at h;refine .cons ?_ (d h.2 t);have a:=h.1;cases h1<;>first|exact .int _ _|exact .bool _|exact .str _|(rename_i hh;exact .agg (U8 a hh))|(simp at a)
def YE {v:Value}{x:DV}(h:CV x=true)(a:bU w O v x):bU w' O' v x:=by
 cases a with
 |int k n=>exact .int _ _
 |bool b=>exact .bool _
 |str s=>exact .str _
 |nilPtr=>exact .nilPtr
 |nilIface=>exact .nilIface
 |nilFunc=>exact .nilFunc
 |agg hh=>exact .agg (U8 h hh)
 |tup hh=>exact .tup (aeY h hh)
 | _=>simp[CV]at h
section
variable {C:Ctx}{X:Nat->Prop}{w w':World}{M:Mem}{E E':Emb}{K:PV->Mem->Prop}{KP:DV->Mem->Prop}{O:Nat->Prop}
variable{P:Program}{f:FuncId}
def uY {args:Array Value}(h:callable P f=true)(w:World):(callFunc f args).run P w= .ok (.enter f args) w:=by
 unfold callable at h
 split at h
 ·rename_i fn a
  simp only[H,ab]at h;obtain⟨h1,h2⟩:=h;have b:fn.body.isNone=false:=by cases c:fn.body<;>simp_all
  simp only[callFunc,Sem.run_bind,run_program,Result.andThen_ok,a,h2,b,S,if_false,Sem.run_pure]
 ·cases h
variable{args:List PV}
def Z7 {base:Nat}(h:ay C base (.Jy f) args M K KP):SC C f args M K KP:=by
 obtain⟨p,m,h1,h2⟩:=h;intro X w E a l k;refine(h1 X w E a l k).mono fun e w' b=> ?_
 cases e with
 |returned v=>
  obtain⟨q,j,i,⟨rfl,rfl⟩,g⟩:=b;exact⟨_,_,i,h2,g⟩
 |panicked c=>
  obtain⟨v,d,j,i,_,hh,_⟩:=b;exact hh.elim
 |outgrown=>exact b.elim
variable{ρ:Operand->Value}{o:Oper}
def AZ {argTypes:Array TypeId}{ass:Array Operand}(ho:o.op= .call {callee:= .value (.func f),args:=ass,argTypes})(d:ρ (.func f)= .func (.func f) #[] #[])
  {args:List PV}(c:aT w (away X M E) M E ((opsOf o.op).map ρ) args)(b:callable C.P f=true)(h:SC C f args M K KP):iy C X w M E K KP ((execOp ρ o).run C.P w):=by
 simp only[ho,opsOf]at c;have a:(execOp ρ o).run C.P w= .ok (.enter f (ass.map ρ)) w:=by
  simp[execOp,ho,resolve,d,Deferred.ofValue,invoke,uY b]
 rw[a];exact⟨rfl,args,h,by simpa using c⟩
def aaO {t:Tmp}{argTypes:Array TypeId}{ass:Array Operand}(ho:o.op= .call {callee:= .value (.tmp t),args:=ass,argTypes})(s:Sim C X w M E)
  {args:List PV}(l:aT w (away X M E) M E ((opsOf o.op).map ρ) args){base:Nat}(h:ay C base .jR args M K KP):iy C X w M E K KP ((execOp ρ o).run C.P w):=by
 simp only[ho,opsOf,J]at l;simp only[ay]at h;have j:∀{f:FuncId} {F G:Array Value},ρ (.tmp t)= .func (.func f) F G->callable C.P f=true->(execOp ρ o).run C.P w= .ok (.enter f (F++ass.map ρ++G)) w:=by
  intro f F G x c;simp[execOp,ho,resolve,x,Deferred.ofValue,invoke,uY c]
 split at h
 ·rename_i f fs cs q
  obtain⟨c,h⟩:=h;cases l with
  |cons h1 h2=>
   have hd:=h1.toD;generalize i:ρ (.tmp t)=v at hd;cases hd with
   |func n m=>
    rw[j i c];refine⟨rfl,_,h,?_⟩;have:=((aT.ofD (M:=M) (E:=E) n).append h2).append (aT.ofD (M:=M) (E:=E) m)
    simpa using this
 ·rename_i f fs cs q
  obtain⟨c,h⟩:=h;cases l with
  |cons h1 h2=>
   generalize i:ρ (.tmp t)=v at h1;cases h1 with
   |func n m=>
    rw[j i c];refine⟨rfl,_,h,?_⟩;have:=(n.append h2).append m
    simpa using this
 ·rename_i b q
  cases l with
  |cons h1 h2=>
   generalize i:ρ (.tmp t)=v at h1;cases h1 with
   |qg z u y=>
    rename_i d cs
    obtain⟨fn,k,a,e,p,r⟩:=h X w E _ d s h2 u;have g:(execOp ρ o).run C.P w= .ok (.round d fn k a e) w:=by
     rw[show(ass.toList.map ρ).toArray=ass.map ρ by rw[<-b7]]at p;simp[execOp,ho,resolve,i,Deferred.ofValue,invoke];exact p
    rw[g];exact⟨rfl,r⟩
 ·exact h.elim
variable{a:Option Addr}
def run_equalIn_slice_nil {t e:TypeId}{n cap:Nat}(b:P.underlying t=some (.slice e))(w:World)(d:Nat):(Op.equalIn (d+1) t (.slice a n cap) (.slice none 0 0)).run P w= .ok a.isNone w:=by
 cases a<;>simp only[Op.equalIn,Sem.run_bind,run_underlying b,Result.andThen_ok,Sem.run_pure,bO,bR]
def run_equal_slice_nil {t e:TypeId}{n cap:Nat}(b:P.underlying t=some (.slice e))(w:World):(Op.equal t (.slice a n cap) (.slice none 0 0)).run P w= .ok a.isNone w:=run_equalIn_slice_nil b w 9999
variable{op:BinOp}{x y:Operand}
def LP {t:TypeId}{n cap:Nat}{v:Value}(w:World):(eqGuard op t x y (.slice a n cap) v).run P w= .ok () w:=by
 unfold eqGuard;simp<;>split<;>simp
def aaQ {neq:Bool}{t u:TypeId}(ho:o.op= .binOp op t x y u)(m:∀v,ρ (.const v)=v){args:List PV}(q:Sim C X w M E)(p:aT w (away X M E) M E ((opsOf o.op).map ρ) args)
  (f:aW C.P (.binOp op t x y u) (.isNil neq)=true){base:Nat}(h:ay C base (.isNil neq) args M K KP):iy C X w M E K KP ((execOp ρ o).run C.P w):=by
 simp only[aW,H]at f;obtain⟨⟨b,i⟩,A⟩:=f
 split at i
 ·rename_i e k
  split at A
  ·simp only[ho,opsOf,J,Z,m]at p
   simp only[ay]at h
   split at h
   ·rename_i ex xs
    obtain⟨v,G,r,D,F⟩:=gU p;simp only[List.cons.injEq,and_true]at r;obtain⟨rfl,_⟩:=r;obtain⟨a,cap,z,_,_,j⟩:=D.toD.Js;have c:=run_equal_slice_nil (P:=C.P) (a:=a) (n:=xs.length) (cap:=cap) k w;have s:=LP (P:=C.P) (op:=op) (t:=t) (x:=x) (y:= .const (.slice none 0 0)) (a:=a) (n:=xs.length) (cap:=cap) (v:= .slice none 0 0) w;have g:(execOp ρ o).run C.P w= .ok (.value (.bool (a.isNone !=neq))) w:=by
     cases op<;>simp only[ab,S]at b
     ·subst b
      simp only[execOp,ho,Sem.run_bind,m,z,s,Result.andThen_ok,binOp,c,Sem.run_pure];simp
     ·subst b
      simp only[execOp,ho,Sem.run_bind,m,z,s,Result.andThen_ok,binOp,c,Sem.run_pure];simp
    rw[g]
    by_cases l:xs=[]
    ·exact .same q (h.2 l _) (.d (.bool _))
    ·have B:a.isNone=false:=by
      rcases j with hh|⟨_,_,_,_,_,_,rfl,_⟩
      ·exact absurd hh l
      ·rfl
     rw[B];exact .same q (by simpa using h.1 l) (.d (.bool _))
   ·exact h.elim
  ·cases A
 ·cases i
def From.GR {M':Mem}(h:From w cu ⟨[],[]⟩ w' M' E'):Later w w':=
 ⟨h.os,h.tape,h.output,h.size,fun b c=>by
  obtain⟨o,a⟩:∃o,w.heap[b]?=some o:=⟨_,Array.getElem?_eq_getElem c⟩
  rw[a,h.keep b o (by rintro(⟨i,cs,h1,_⟩|⟨k,A,o,e,h1,_⟩)<;>simp[cu]at h1) a]⟩
variable{ass:List Arr}
def RH {b:Nat}(hl:E.ar.length=M.aF.length):
  owned {M with aF:=M.aF++ass.map some} {E with ar:=E.ar++E'.ar} b↔(owned M E b\/owned (rowsOf ass) E' b):=by
 constructor
 ·rintro(hh|⟨k,A,o,e,h1,h2,a⟩)
  ·exact .inl (.inl hh)
  ·by_cases c:k<M.aF.length
   ·simp only[W c]at h1
    simp only[W (hl▸c)]at a;exact .inl (.inr ⟨k,A,o,e,h1,h2,a⟩)
   ·simp only[U (bs c)]at h1
    simp only[U (hl▸bs c)]at a;exact .inr (.inr ⟨k - M.aF.length,A,o,e,h1,h2,hl▸a⟩)
 ·rintro((hh|⟨k,A,o,e,h1,h2,a⟩)|(⟨i,cs,h1,_⟩|⟨k,A,o,e,h1,h2,a⟩))
  ·exact .inl hh
  ·have c:k<M.aF.length:=(Y.1 h1).1
   exact .inr ⟨k,A,o,e,by simp only[W c];exact h1,h2,by simp only[W (hl▸c)];exact a⟩
  ·simp[rowsOf]at h1
  ·refine .inr ⟨M.aF.length+k,A,o,e,?_,h2,?_⟩
   ·simp only[U (ca _ _),an];exact h1
   ·have:E.ar.length<=M.aF.length+k:=by omega
    simp only[U this,hl,an];exact a
def Gn (h:Sim C X w M E)(h':Sim C (away X M E) w' (rowsOf ass) E')(hf:From w cu ⟨[],[]⟩ w' (rowsOf ass) E')(y:∀A∈ass,A.st≠2):
  Sim C X w' {M with aF:=M.aF++ass.map some} {E with ar:=E.ar++E'.ar}/\From w M E w' {M with aF:=M.aF++ass.map some} {E with ar:=E.ar++E'.ar}/\
  (∀b,away X {M with aF:=M.aF++ass.map some} {E with ar:=E.ar++E'.ar} b↔away (away X M E) (rowsOf ass) E' b):=by
 have r:=h.bP;have F:=hf.GR;have p:∀b,away X {M with aF:=M.aF++ass.map some} {E with ar:=E.ar++E'.ar} b↔away (away X M E) (rowsOf ass) E' b:=by
  intro b;simp only[away,RH r,or_assoc]
 have n:∀b,¬owned cu ⟨[],[]⟩ b:=by
  rintro b (⟨i,cs,h1,_⟩|⟨k,A,o,e,h1,_⟩)<;>simp[cu]at h1
 have q:∀b,owned (rowsOf ass) E' b->w.heap.size<=b:=fun b hb=>(hf.own b hb).resolve_left (n b)
 have u:From w M E w' {M with aF:=M.aF++ass.map some} {E with ar:=E.ar++E'.ar}:=
  {os:=hf.os,tape:=hf.tape,output:=hf.output,size:=hf.size
   keep:=fun b o _ v=>hf.keep b o (n b) v
   own:=fun b hb=>((RH r).1 hb).imp id (q b)
   iP:=N _
   bx:=fun b cs hb=>⟨rfl,cs,hb,rfl⟩
   bP:=by simp
   ar:=fun k s g hA=>by
    simp only[W g]at hA;exact⟨s,hA,N _,fun _=>⟨by simp only[W (r▸g)],rfl,rfl,fun _=>rfl⟩⟩}
 have c:∀(k:Nat) (A:Arr),(M.aF++ass.map some)[k]?=some (some A)->(k<M.aF.length/\M.aF[k]?=some (some A)/\(E.ar++E'.ar)[k]?=E.ar[k]?)\/
   (M.aF.length<=k/\(rowsOf ass).aF[k - M.aF.length]?=some (some A)/\A∈ass/\(E.ar++E'.ar)[k]?=E'.ar[k - M.aF.length]?):=by
  intro k A hA
  by_cases g:k<M.aF.length
  ·rw[W g]at hA
   exact .inl ⟨g,hA,W (r▸g)⟩
  ·have m:=bs g
   rw[U m]at hA;refine .inr ⟨m,hA,?_,?_⟩
   ·have:=bz hA
    simpa using this
   ·rw[U (r▸m),r]
 have aho:∀(k:Nat) (A:Arr) (a o e:Nat),(rowsOf ass).aF[k]?=some (some A)->A∈ass->E'.ar[k]?=some (some (a,o,e))->w.heap.size<=a:=fun k A a o e h1 h2 h3=>
  q a (.inr ⟨k,A,o,e,h1,y A h2,h3⟩)
 refine⟨?_,u,p⟩;exact
  {glob:=h'.glob
   iW:=h.iW
   xlt:=fun b hb=>bN (h.xlt b hb) hf.size
   iP:=h.iP
   bP:=by
    have:=h'.bP;simp[rowsOf]at this;simp[r,this]
   box:=fun b cs hb=>by
    obtain⟨a,h1,h2,h3⟩:=h.box b cs hb;exact⟨a,h1,h2,h3.from u fun _ v=>F.jL v⟩
   arr:=fun k A hA=>by
    rcases c k A hA with⟨g,hA',f⟩|⟨g,hA',hm,f⟩
    ·obtain⟨h1,h2,h3,d⟩:=h.arr k A hA'
     refine⟨h1,h2,fun x=>by rw[f];exact h3 x,fun a o e l=> ?_⟩;simp only[f]at l;obtain⟨B,vs,T,q2,q3,q4,D⟩:=d a o e l;exact⟨B,vs,T,F.jL q2,q3,q4,D.from u⟩
    ·obtain⟨h1,h2,h3,d⟩:=h'.arr _ A hA'
     refine⟨h1,h2,fun x=>by rw[f];exact h3 x,fun a o e l=> ?_⟩;simp only[f]at l;obtain⟨B,vs,T,q2,q3,q4,D⟩:=d a o e l;exact⟨fun H=>B (.inl H),vs,T,q2,q3,q4,D.weaken fun b hb=>(p b).1 hb⟩
   bb:=h.bb
   aa:=fun k G A s a o e z t h1 h2 h3 d=>by
    rcases c k A h1 with⟨g,hA,f⟩|⟨g,hA,hm,f⟩<;>rcases c G s h2 with⟨m,hA',j⟩|⟨m,hA',hm',j⟩
    ·simp only[f]at h3;simp only[j]at d
     exact h.aa k G A s a o e z t hA hA' h3 d
    ·simp only[f]at h3;simp only[j]at d
     exact absurd (h.CB hA h3) (by have:=aho _ s a z t hA' hm' d;omega)
    ·simp only[f]at h3;simp only[j]at d
     exact absurd (h.CB hA' d) (by have:=aho _ A a o e hA hm h3;omega)
    ·simp only[f]at h3;simp only[j]at d
     have:=h'.aa _ _ A s a o e z t hA hA' h3 d;omega
   ba:=fun b k cs A a o e h1 h2 h3 d=>by
    rcases c k A h2 with⟨g,hA,f⟩|⟨g,hA,hm,f⟩
    ·simp only[f]at d;exact h.ba b k cs A a o e h1 hA h3 d
    ·simp only[f]at d
     exact absurd (h.EM h1 h3) (by have:=aho _ A a o e hA hm d;omega)}
def Jm {O O':Nat->Prop}(hl:E.ar.length=M.aF.length)(j:∀b,O' b->O b){v:Value}{p:PV}(h:Rep w O (rowsOf ass) E' v p):
  Rep w O' {M with aF:=M.aF++ass.map some} {E with ar:=E.ar++E'.ar} v (kY M.aF.length p):=by
 cases h with
 |d h=>exact .d (h.weaken j)
 |tsl f hh=>
  rename_i k ver skip len cap a
  refine .tsl (by simp[rowsOf]at f⊢;omega) fun A i=> ?_
  have e:(rowsOf ass).aF[k]?=some (some A):=by
   rw[U (ca _ _),an]at i;exact i
  obtain⟨l,m⟩:=hh A e;refine⟨l,fun r=> ?_⟩;obtain⟨c,n,o,g⟩:=m r;refine⟨c,?_,o,?_⟩
  ·have:E.ar.length<=M.aF.length+k:=by omega
   simp only[U this,hl,an];exact n
  ·cases c with
   |none=>exact bU.weaken j g
   |some q=>exact g
 | _=>exact .dead
def Gh {O O':Nat->Prop}{ass:List Arr}(hl:E.ar.length=M.aF.length)(a:∀b,O' b->O b):∀{vs:List Value} {ps:List PV},aT w O (rowsOf ass) E' vs ps->
  aT w O' {M with aF:=M.aF++ass.map some} {E with ar:=E.ar++E'.ar} vs (ps.map (kY M.aF.length))
 | _,_, .nil=> .nil
 | _,_, .cons h t=> .cons (Jm hl a h) (Gh hl a t)
def acw {O O':Nat->Prop}(hl:E.ar.length=M.aF.length)(a:∀b,O' b->O b){v:Value}{p:PV}(h:Rep w O (rowsOf ass) E' v p):
  Rep w O' {M with aF:=M.aF++ass.map some} {E with ar:=E.ar++E'.ar} v (TI M.aF.length p):=by
 cases p with
 |agg cs=>cases h with|agg hh=>exact .agg (Gh hl a hh)
 | _=>exact Jm hl a h
def Px {O O':Nat->Prop}{ass:List Arr}(hl:E.ar.length=M.aF.length)(a:∀b,O' b->O b):∀{vs:List Value} {ps:List PV},aT w O (rowsOf ass) E' vs ps->
  aT w O' {M with aF:=M.aF++ass.map some} {E with ar:=E.ar++E'.ar} vs (ps.map (TI M.aF.length))
 | _,_, .nil=> .nil
 | _,_, .cons h t=> .cons (acw hl a h) (Px hl a t)
def NI {O O':Nat->Prop}(hl:E.ar.length=M.aF.length)(a:∀b,O' b->O b){v:Value}{p:PV}(h:Rep w O (rowsOf ass) E' v p):
  Rep w O' {M with aF:=M.aF++ass.map some} {E with ar:=E.ar++E'.ar} v (p.shift M.aF.length):=by
 cases p with
 |agg cs=>cases h with|agg hh=>exact .agg (Gh hl a hh)
 |tup cs=>cases h with|tup hh=>exact .tup (Px hl a hh)
 | _=>exact Jm hl a h
def ake (args:List PV):(M.frz args).aF.length=M.aF.length:=by simp[Mem.frz,EW]
def wV (h:LJ C f args M K):SC C f args M K KP:=by
 obtain⟨ds,m,r,ass,t,c⟩:=h;intro X w E j g p;have a:=nT g args;have hd:=(wu g p m (fun q u=>u)).strip;refine(t (away X (M.frz args) E) w j g.glob (fun b i=> .inl (g.iW b i)) (fun b i=>a.yB i) hd).mono fun e w' s=> ?_
 obtain⟨v,E',rfl,l,k,o⟩:=s
 rcases c with⟨x,rfl,y,rfl,c⟩|⟨n,c⟩
 ·exact⟨_,M,E,c,g.later k.GR,k.GR.from M E, .d (YE y o.toD)⟩
 ·obtain⟨z,A,B⟩:=Gn a l k n
  refine⟨_,_,_,c,z,(mW args w).trans A,?_⟩;have:=NI (M:=M.frz args) (E:=E) a.bP (fun b i=>(B b).1 i) o;rw[ake]at this;exact this
def LM (h:TA C f args M K):LJ C f args M K:=by
 obtain⟨ds,h1,x,h2,e⟩:=h;have i:=Gw h1;subst i;have a:dL M (ds.map .d)=some ds:=by
  clear h1 h2
  induction ds with
  |nil=>rfl
  |cons d ds b=>simp only[J,dL,datum,b]
 have c:M.frz (ds.map .d)=M:=by
  have h1:(ds.map PV.d).flatMap (l7 M)=[]:=by
   clear h1 h2 a;induction ds with
   |nil=>rfl
   |cons d ds b=>simp[l7]
  have h2:(ds.map PV.d).flatMap (lZ M)=[]:=by
   clear h1 h2 a;induction ds with
   |nil=>rfl
   |cons d ds b=>simp[lZ]
  simp only[Mem.frz,h1,h2,I9,List.foldl_nil,List.nil_append]
 refine⟨ds,a,_,_,h2, .inr ⟨(fun A g=>by cases g),?_⟩⟩;rw[c]
 simpa[PV.shift,kY]using e
def XA (h:LK C f args M K):LJ C f args M K:=by
 obtain⟨ds,h1,x,h2,a,b⟩:=h;exact⟨ds,h1,_,_,h2, .inl ⟨x,rfl,a,rfl,b⟩⟩
end
section
variable {C:Ctx}{X:Nat->Prop}{w:World}{M:Mem}{E:Emb}{K:PV->Mem->Prop}{KP:DV->Mem->Prop}{O:Nat->Prop}
variable{P:Program}
def PW {t:TypeId}{k:Nat}(h:oV (P.underlying t) k=true)(v:Value)(em:Bool)(n:Nat):(Instr.checkKey em (n+1) t v).run P w= .ok () w:=by
 unfold oV at h
 split at h
 ·rename_i a;simp[Instr.checkKey,run_underlying a]
 ·rename_i a;simp[Instr.checkKey,run_underlying a]
 ·rename_i a;simp[Instr.checkKey,run_underlying a]
 ·cases h
def Oo {P:Program}{cs:Array Value}{em:Bool}{n:Nat}:∀{fs:List Field} {ks:List Nat} {off:Nat} {l m:List DV} {t:Bool},fZ P fs ks off=true->bn w O (cs.toList.drop off) l->fA ks l m=some t->
  ∀f∈fs,f.name≠ "_" /\∃a,(part f.type cs f.offset).run P w= .ok a w/\(Instr.checkKey em (n+1) f.type a).run P w= .ok () w
 | [],_,_,_,_,_,_,_,_,f,z=>by cases z
 |f::fs,k::ks,off,l,m,t,e,v,c,g,hg=>by
  simp only[fZ,H,decide_eq_true_eq]at e;obtain⟨⟨⟨h,s⟩,A⟩,e⟩:=e;have q:∃a i r y,l=a::i/\fA ks i r=some y:=by
   unfold fA at c
   split at c
   ·contradiction
   ·rename_i B E a i F b r d
    cases d
    split at c
    ·rw[I]at c
     obtain⟨t2,h2,_⟩:=c;exact⟨_,_,_,_,rfl,h2⟩
    ·cases c
   ·rename_i d
    cases d;rw[I]at c;obtain⟨t2,h2,_⟩:=c;exact⟨_,_,_,_,rfl,h2⟩
   ·rename_i d
    cases d;rw[I]at c;obtain⟨t2,h2,_⟩:=c;exact⟨_,_,_,_,rfl,h2⟩
   ·cases c
  obtain⟨a,i,r,y,rfl,h2⟩:=q;generalize x:cs.toList.drop off=xl at v;cases v with
  |cons D j=>
   rename_i u C
   have o:cs[off]?=some u:=by
    have:(cs.toList.drop off)[0]?=some u:=by rw[x];rfl
    simpa using this
   have p:cs.toList.drop (off+1)=C:=by
    rw[<-aw,x];rfl
   rcases bE.1 hg with rfl|hg
   ·exact⟨A,u,by rw[h];exact Fv s o,PW s u em n⟩
   ·exact Oo e (p▸j) h2 g hg
 | _::_,[],_,_,_,_,e,_,_,_,_=>by simp[fZ]at e
variable{ks:List Nat}
def D9 {key:TypeId}{fs:Array Field}(d:P.underlying key=some (.struct fs))(c:fZ P fs.toList ks 0=true){xs:Array Value}{k m:List DV}{t:Bool}(hx:bn w O xs.toList k)(hc:fA ks k m=some t)(em:Bool):
  (Instr.checkKey em 10000 key (.agg xs)).run P w= .ok () w:=by
 have b:=Oo (em:=em) (n:=9998) c (by simpa using hx) hc;rw[show(10000:Nat)=9999+1 from rfl,Instr.checkKey];simp only[Sem.run_bind,run_underlying d,Result.andThen_ok];rw[<-Array.forIn_toList];generalize fs.toList=L at b
 induction L with
 |nil=>simp
 |cons f L h=>
  obtain⟨e,a,i,j⟩:=b f (by simp);simp only[List.forIn_cons,Sem.run_bind,e,ne_eq,not_false_eq_true,if_true,Result.andThen_ok,i,j,Sem.run_pure];exact h (fun y g=>b y (by simp[g]))
variable{ρ:Operand->Value}{o:Oper}{x:Operand}
def agD {p t t':TypeId}{c:Bool}{z:DV}(ho:o.op= .typeAssert x p t c){args:List PV}(l:Sim C X w M E)(k:aT w (away X M E) M E ((opsOf o.op).map ρ) args)
  (f:aW C.P (.typeAssert x p t c) (.tas t' z)=true){base:Nat}(h:ay C base (.tas t' z) args M K KP):iy C X w M E K KP ((execOp ρ o).run C.P w):=by
 simp only[aW,H,decide_eq_true_eq]at f;obtain⟨⟨⟨rfl,rfl⟩,n⟩,i⟩:=f
 split at i
 ·rename_i y oJ
  split at i
  ·rename_i q j
   simp only[ho,opsOf,J,Z]at k;simp only[ay]at h
   split at h
   ·rename_i t2 d
    obtain⟨v,m,r⟩:=gQ k;simp only[List.cons.injEq,and_true]at m;subst m;have hd:=r.toD;generalize g:ρ x=vv at hd;cases hd with
    |iface s=>
     rename_i v
     have u:(zeroValue t).run C.P w= .ok q w:=by simp[zeroValue,typeInfo,oJ,j]
     by_cases e:t2=t
     ·have a:(execOp ρ o).run C.P w= .ok (.value (.tuple #[v, .bool true])) w:=by
       simp only[execOp,ho,Instr.typeAssert,g];cases b:C.P.underlying t with
       |none=>simp[b]at n
       |some d=>cases d<;>simp_all[run_underlying b]
      rw[a];refine .same l h (.d (.tup (.cons ?_ (.cons ?_ .nil))))
      ·rw[if_pos e];exact s
      ·simp only[e,decide_true];exact .bool _
     ·have a:(execOp ρ o).run C.P w= .ok (.value (.tuple #[q, .bool false])) w:=by
       simp only[execOp,ho,Instr.typeAssert,g];cases b:C.P.underlying t with
       |none=>simp[b]at n
       |some d=>cases d<;>simp_all[run_underlying b]
      rw[a];refine .same l h (.d (.tup (.cons ?_ (.cons ?_ .nil))))
      ·rw[if_neg e];exact oZ i
      ·simp only[e,decide_false];exact .bool _
   ·exact h.elim
  ·cases i
 ·cases i
structure Put (g:Nat) (w w':World) (o:Obj):Prop where
 os:w'.os=w.os
 tape:w'.tape=w.tape
 output:w'.output=w.output
 size:w'.heap.size=w.heap.size
 at_:w'.heap[g]?=some o
 keep:∀b,b≠g->w'.heap[b]?=w.heap[b]?
def Lp (w:World)(g:Nat)(o:Obj)(h:g<w.heap.size):Put g w {w with heap:=w.heap.setIfInBounds g o} o:={
 os:=rfl
 tape:=rfl
 output:=rfl
 size:=by simp
 at_:=by simp[h]
 keep:=fun b a=>by simp[Array.getElem?_setIfInBounds_ne (Ne.symm a)]}
def Put.jL {g:Nat}{o':Obj}{w w':World}(h:Put g w w' o'){b:Nat}{o:Obj}(hb:b≠g)(ho:w.heap[b]?=some o):w'.heap[b]?=some o:=(h.keep b hb).trans ho
def LW {w':World}{b blk:Nat}{cs cs':List PV}{o:Obj}(h:Sim C X w M E)(hb:M.boxes[b]?=some (some cs))(z:b∉M.fz)(ho:isObj cs=true)(F:isObj cs'=true)
  (he:E.bx[b]?=some blk)(m:Put blk w w' o)
  (x:From w M E w' {M with boxes:=M.boxes.set b (some cs')} E->nY w' (away X {M with boxes:=M.boxes.set b (some cs')} E) {M with boxes:=M.boxes.set b (some cs')} E blk cs'):
  Sim C X w' {M with boxes:=M.boxes.set b (some cs')} E/\From w M E w' {M with boxes:=M.boxes.set b (some cs')} E:=by
 have B:b<M.boxes.length:=(Y.1 hb).1;have r:owned M E blk:= .inl ⟨b,cs,hb,z,he⟩;have hX:¬X blk:=by
  obtain⟨a,h1,h2,_⟩:=h.box b cs hb;rw[he]at h1;cases h1;exact h2
 have d:∀(i:Nat) (c:List PV),(M.boxes.set b (some cs'))[i]?=some (some c)->∃c':List PV,M.boxes[i]?=some (some c'):=by
  intro i c f
  rcases aO f with⟨rfl,_⟩|⟨_,l⟩
  ·exact⟨cs,hb⟩
  ·exact⟨c,l⟩
 have s:From w M E w' {M with boxes:=M.boxes.set b (some cs')} E:=
  {os:=m.os,tape:=m.tape,output:=m.output,size:=b5 m.size.symm
   keep:=fun i o f ho=>m.jL (fun e=>f (e▸r)) ho
   own:=by
    rintro i (⟨j,c,h1,h2,h3⟩|⟨k,A,o,e,h1,h2,h3⟩)
    ·obtain⟨c',h1'⟩:=d j c h1
     exact .inl (.inl ⟨j,c',h1',h2,h3⟩)
    ·exact .inl (.inr ⟨k,A,o,e,h1,h2,h3⟩)
   iP:=by simp
   bx:=fun i c f=>by
    refine⟨rfl,?_⟩
    by_cases q:i=b
    ·subst q;rw[hb]at f;cases f;exact⟨cs',by simp[B],F.trans ho.symm⟩
    ·exact⟨c,by rw[ap];simp[Ne.symm q,f],rfl⟩
   bP:=N _
   ar:=fun _ I _ h=>⟨I,h,N _,fun _=>⟨rfl,rfl,rfl,fun _=>rfl⟩⟩}
 refine⟨?_,s⟩;exact
  {glob:=C.keeps w w' h.glob fun b hb=>m.keep b (fun e=>hX (e▸h.iW b hb)),iW:=h.iW
   xlt:=fun i f=>by rw[m.size];exact h.xlt i f
   iP:=by simp[h.iP]
   bP:=h.bP
   box:=fun i c f=>by
    rcases aO f with⟨rfl,y⟩|⟨D,l⟩
    ·cases y
     exact⟨blk,he,hX,x s⟩
    ·obtain⟨a,h1,h2,h3⟩:=h.box i c l
     have g:a≠blk:=fun e=>D (h.bb i b c cs blk l hb (e▸h1) he)
     exact⟨a,h1,h2,h3.from s fun _ ho=>m.jL g ho⟩
   arr:=fun k A G=>by
    obtain⟨h1,h2,h3,p⟩:=h.arr k A G;refine⟨h1,h2,h3,fun a o e H=> ?_⟩;obtain⟨L,vs',T',g2,g3,g4,O⟩:=p a o e H;have g:a≠blk:=fun K=>h.ba b k cs A blk o e hb G he (K▸H)
    exact⟨L,vs',T',m.jL g g2,g3,g4,O.from s⟩
   bb:=fun i j n t a h1 h2 h3 p=>by
    obtain⟨u,h1'⟩:=d i n h1;obtain⟨J,v⟩:=d j t h2;exact h.bb i j u J a h1' v h3 p
   aa:=h.aa
   ba:=fun i k n A a o e h1 h2 h3 p=>by
    obtain⟨u,h1'⟩:=d i n h1;exact h.ba i k u A a o e h1' h2 h3 p}
def XC {id:Nat}{o:Obj}{cs:List PV}(h:Sim C X w M E)(hid:M.boxes[id]?=some none)
  (r:From w M E (w.alloc o) {M with boxes:=M.boxes.set id (some cs)} {E with bx:=E.bx.set id w.heap.size}->
   nY (w.alloc o) (away X {M with boxes:=M.boxes.set id (some cs)} {E with bx:=E.bx.set id w.heap.size}) {M with boxes:=M.boxes.set id (some cs)} {E with bx:=E.bx.set id w.heap.size} w.heap.size cs):
  Sim C X (w.alloc o) {M with boxes:=M.boxes.set id (some cs)} {E with bx:=E.bx.set id w.heap.size}/\
  From w M E (w.alloc o) {M with boxes:=M.boxes.set id (some cs)} {E with bx:=E.bx.set id w.heap.size}:=by
 have u:id<M.boxes.length:=(Y.1 hid).1;have WT:id<E.bx.length:=h.iP▸u;have c:∀b,b≠id->(E.bx.set id w.heap.size)[b]?=E.bx[b]?:=fun b g=>by rw[ap];simp[Ne.symm g]
 have hbi:(E.bx.set id w.heap.size)[id]?=some w.heap.size:=by simp[WT]
 have n:From w M E (w.alloc o) {M with boxes:=M.boxes.set id (some cs)} {E with bx:=E.bx.set id w.heap.size}:=
  {os:=rfl,tape:=rfl,output:=rfl,size:=by simp
   keep:=fun b o _ v=>(Later.alloc w _).jL v
   own:=by
    rintro b (⟨i,cs',h1,h2,h3⟩|⟨k,A,o,e,h1,h2,h3⟩)
    ·rcases aO h1 with⟨rfl,_⟩|⟨a,h1'⟩
     ·rw[hbi]at h3;cases h3;exact .inr (N _)
     ·rw[c i a]at h3;exact .inl (.inl ⟨i,cs',h1',h2,h3⟩)
    ·exact .inl (.inr ⟨k,A,o,e,h1,h2,h3⟩)
   iP:=by simp
   bx:=fun b cs' g=>by
    have a:b≠id:=by rintro rfl;rw[hid]at g;cases g
    exact⟨c b a,cs',by rw[ap];simp[Ne.symm a,g],rfl⟩
   bP:=N _
   ar:=fun _ x _ h=>⟨x,h,N _,fun _=>⟨rfl,rfl,rfl,fun _=>rfl⟩⟩}
 refine⟨?_,n⟩;exact
  {glob:=C.keeps w _ h.glob fun b g=>(Later.alloc w _).keep b (h.xlt b (h.iW b g)),iW:=h.iW
   xlt:=fun b g=>by have:=h.xlt b g;simp;omega
   iP:=by simp[h.iP]
   bP:=h.bP
   box:=fun b cs' g=>by
    rcases aO g with⟨rfl,t⟩|⟨a,s⟩
    ·cases t
     exact⟨w.heap.size,hbi,fun F=>absurd (h.xlt _ F) (by omega),r n⟩
    ·obtain⟨d,h1,h2,h3⟩:=h.box b cs' s
     exact⟨d,(c b a).trans h1,h2,h3.from n fun _ v=>(Later.alloc w _).jL v⟩
   arr:=fun k A B=>by
    obtain⟨h1,h2,h3,f⟩:=h.arr k A B;refine⟨h1,h2,h3,fun d o e D=> ?_⟩;obtain⟨y,vs,T,g2,g3,g4,z⟩:=f d o e D;exact⟨y,vs,T,(Later.alloc w _).jL g2,g3,g4,z.from n⟩
   bb:=fun b p l q d h1 h2 h3 f=>by
    rcases aO h1 with⟨rfl,_⟩|⟨a,h1'⟩<;>rcases aO h2 with⟨rfl,_⟩|⟨j,m⟩
    ·rfl
    ·rw[hbi]at h3;cases h3;rw[c p j]at f;exact absurd (h.EM m f) (by omega)
    ·rw[hbi]at f;cases f;rw[c b a]at h3;exact absurd (h.EM h1' h3) (by omega)
    ·rw[c b a]at h3;rw[c p j]at f;exact h.bb b p l q d h1' m h3 f
   aa:=h.aa
   ba:=fun b k l A d o e h1 h2 h3 f=>by
    rcases aO h1 with⟨rfl,_⟩|⟨a,h1'⟩
    ·rw[hbi]at h3;cases h3;exact absurd (h.CB h2 f) (by omega)
    ·rw[c b a]at h3;exact h.ba b k l A d o e h1' h2 h3 f}
def aaR {t:TypeId}{i:Nat}(ho:o.op= .makeMap t none){args:List PV}(c:Sim C X w M E)
  {base:Nat}(h:ay C base (.mkMap i) args M K KP):iy C X w M E K KP ((execOp ρ o).run C.P w):=by
 simp only[ay]at h
 split at h
 ·obtain⟨h1,h2⟩:=h
  have a:base+i<M.boxes.length:=(Y.1 h1).1;have WT:base+i<E.bx.length:=c.iP▸a;have b:(execOp ρ o).run C.P w= .ok (.value (.map (some w.heap.size))) (w.alloc (.map #[] 0)):=by
   simp only[execOp,ho,aR];rfl
  rw[b];obtain⟨d,e⟩:=XC (o:= .map #[] 0) (cs:=[.jr []]) c h1 fun _=>⟨#[],0,heap_alloc_new w _, .nil, .nil⟩
  exact⟨_,_,_,h2,d,e, .mref (cs:=[.jr []]) (by simp[a]) (by simp[WT]) rfl⟩
 ·exact h.elim
def QT {P:Program}{key:TypeId}{fs:Array Field}{ks:List Nat}(a:P.underlying key=some (.struct fs))(g:fZ P fs.toList ks 0=true)(m:P.stoodInHeld key=false){xs:Array Value}{k:List DV}(hx:bn w O xs.toList k){v:DV}:
  ∀(es:List MapEntry) (l n:List (DV×DV)) (i:Nat),bn w O (es.map (·.key)) (l.map (·.1))->bn w O (es.map (·.val)) (l.map (·.2))->J5 ks l k v=some n->
  ∃x,(Instr.findAsking key (.agg xs) es i).run P w= .ok x w/\((x=none/\n=l++ [(.agg k,v)])\/
   ∃j u k' e,x=some (i+j,u)/\es[j]?=some e/\j<l.length/\bU w O e.key (.agg k')/\fA ks k k'=some true/\n=l.set j (.agg k,v))
 | [],[],n,i,_,_,h=>by
  simp only[J5,Option.some.injEq]at h;subst h;exact⟨none,by simp[Instr.findAsking], .inl ⟨rfl,rfl⟩⟩
 |e::es,(r,dv)::l,n,i,h1,h2,h=>by
  simp only[J]at h1 h2;cases h1 with
  |cons s p=>cases h2 with
   |cons L q=>
    have o:∃k',r= .agg k':=by cases r<;>first|exact⟨_,rfl⟩|(simp[J5]at h)
    obtain⟨k',rfl⟩:=o;obtain⟨ys,z,E⟩:=s.zW;have d:∀t,fA ks k k'=some t->(Op.equal key (.agg xs) e.key).run P w= .ok t w:=by
     intro t D
     show(Op.equalIn 10000 key (.agg xs) e.key).run P w= .ok t w
     have f:P.fieldsOf key=fs:=by simp[Program.fieldsOf,a]
     rw[z,run_equalIn_agg w 9999 key xs ys (by rw[f];exact a) m,f];exact yE 9998 g (by simpa using hx) (by simpa using E) D
    cases c:fA ks k k' with
    |none=>simp[J5,c]at h
    |some b=>
     cases b with
     |true=>
      simp only[J5,c,Option.some.injEq]at h;exact⟨some (i,e.val),by simp[Instr.findAsking,d _ c], .inr ⟨0,e.val,k',e,rfl,rfl,by simp,s,c,h.symm⟩⟩
     |false=>
      simp only[J5,c,I]at h;obtain⟨l2,C,rfl⟩:=h;obtain⟨x,A,B⟩:=QT a g m hx es l l2 (i+1) p q C;refine⟨x,by simp[Instr.findAsking,d _ c,A],?_⟩
      rcases B with⟨rfl,rfl⟩|⟨j,u,F,y,rfl,G,M,H,K,rfl⟩
      ·exact .inl ⟨rfl,rfl⟩
      ·exact .inr ⟨j+1,u,F,y,by simp;omega,by simpa using G,by simp;omega,H,K,rfl⟩
 | [],_::_,_,_,h1,_,_=>by simp at h1;cases h1
 | _::_,[],_,_,h1,_,_=>by simp at h1;cases h1
def Qx:∀{vs q:List Value} {k k':List DV},bn w O vs k->bn w O q k'->fA ks k k'=some true->vs.length=q.length/\((q.zip vs).all fun(x,y)=>Instr.sameBits 9999 x y)=true:=by
 induction ks with
 |nil=>
  intro vs q k k' h1 h2 h;cases h1 with
  |nil=>cases h2 with
   |nil=>exact⟨rfl,rfl⟩
   |cons _ _=>simp[fA]at h
  |cons _ _=>simp[fA]at h
 |cons a ks s=>
  intro vs q k k' h1 h2 h;unfold fA at h
  split at h
  ·contradiction
  ·rename_i j C n l D m v c
   cases c;cases h1 with
   |cons i h1=>cases h2 with
    |cons g h2=>
     split at h
     ·rename_i B
      subst B;rw[I]at h;obtain⟨t,f,e⟩:=h;simp only[H,beq_iff_eq]at e;obtain⟨rfl,rfl⟩:=e;obtain⟨o,p⟩:=s h1 h2 f;rw[i.iI,g.iI];exact⟨by simp[o],by simp only[bo,be,p,bq];simp[Instr.sameBits]⟩
     ·cases h
  ·rename_i j b l r v c
   cases c;cases h1 with
   |cons i h1=>cases h2 with
    |cons g h2=>
     rw[I]at h;obtain⟨t,f,e⟩:=h;simp only[H,beq_iff_eq]at e;obtain⟨rfl,rfl⟩:=e;obtain⟨o,p⟩:=s h1 h2 f;rw[i.tX,g.tX];exact⟨by simp[o],by simp only[bo,be,p,bq];simp[Instr.sameBits]⟩
  ·rename_i j b l r v c
   cases c;cases h1 with
   |cons i h1=>cases h2 with
    |cons g h2=>
     rw[I]at h;obtain⟨t,f,e⟩:=h;simp only[H,beq_iff_eq]at e;obtain⟨u,rfl⟩:=e;obtain⟨o,p⟩:=s h1 h2 f;rw[i.vC,g.vC];have z:b=r:=by
      cases b;cases r;simp only[ByteArray.toList_eq]at u
      simpa using u
     subst z;have A:(b==b)=true:=by cases b with|mk d=>show(d==d)=true;exact beq_self_eq_true d
     exact⟨by simp[o],by simp only[bo,be,p,bq];simp only[Instr.sameBits,A]⟩
  ·cases h
def aeu {t:TypeId}{i y:Operand}(ho:o.op= .mapUpdate t x i y){args:List PV}(hS:Sim C X w M E)(hA:aT w (away X M E) M E ((opsOf o.op).map ρ) args)
  (d:aW C.P (.mapUpdate t x i y) (.abW ks)=true){base:Nat}(h:ay C base (.abW ks) args M K KP):iy C X w M E K KP ((execOp ρ o).run C.P w):=by
 simp only[aW]at d
 split at d
 ·rename_i ai e O
  split at d
  ·rename_i fs ane
   simp only[H,ab]at d;obtain⟨N,ae⟩:=d;simp only[ho,opsOf,J,Z]at hA;simp only[ay]at h
   split at h
   ·rename_i b k v
    obtain⟨v1,v2,v3,he,hr,ac,L⟩:=Jk hA;simp only[List.cons.injEq,and_true]at he;obtain⟨rfl,rfl,rfl⟩:=he
    split at h
    ·rename_i l f
     obtain⟨V,h⟩:=h
     split at h
     ·rename_i S hc hl
      have r:M.boxes[b]?=some (some [.jr l]):=by
       unfold Mem.box at f
       split at f
       ·rename_i cs U;cases f;exact U
       ·cases f
      obtain⟨xs,e1,R⟩:=ac.toD.zW;generalize Q:ρ x=vv at hr;cases hr with
      |mref G B ao=>
       rename_i c cs
       rw[r]at G;cases G;obtain⟨an,q1,q2,q3⟩:=hS.box b _ r;rw[B]at q1;cases q1;obtain⟨es,clock,T,Y,hv⟩:=q3;obtain⟨z,g1,g2⟩:=QT (P:=C.P) (v:=v) ane N ae R es.toList l S 0 Y hv hl;have D:=D9 (P:=C.P) ane N R hc false;have s:(Instr.findKey ai (.agg xs) es.toList).run C.P w= .ok z w:=by
        rw[run_findKey_eq (P:=C.P) w (by rw[ane])];exact g1
       have n:(getObj c).run C.P w= .ok (.map es clock) w:=by simp[getObj,Sem.run,T]
       have I:=dh T;have p:∀o':Obj,(setObj c o').run C.P w= .ok () {w with heap:=w.heap.setIfInBounds c o'}:=fun o'=>by simp[setObj,Sem.run,T]
       have A:∀(g:Array MapEntry) (a:Nat),bn w (away X M E) (g.toList.map (·.key)) (S.map (·.1))->bn w (away X M E) (g.toList.map (·.val)) (S.map (·.2))->
         iy C X w M E K KP (.ok .skip {w with heap:=w.heap.setIfInBounds c (.map g a)}):=by
        intro g a p1 p2;obtain⟨s1,s2⟩:=LW (cs':=[.jr S]) hS r V rfl rfl B (Lp w c (.map g a) I) fun hf=>⟨g,a,by simp[I],p1.from hf,p2.from hf⟩
        exact⟨_,_,h,s1,s2⟩
       rcases g2 with⟨rfl,rfl⟩|⟨j,u,k',en,rfl,p1,p2,p3,p4,rfl⟩
       ·have m:(execOp ρ o).run C.P w= .ok .skip {w with heap:=w.heap.setIfInBounds c (.map (es.push {key:= .agg xs,val:=ρ y,born:=clock}) (clock+1))}:=by
         simp only[execOp,ho,Instr.mapUpdate,Sem.run_bind,run_underlying O,Result.andThen_ok,Q,e1,n,D,s,p];simp[Sem.run_pure]
        rw[m];refine A _ _ ?_ ?_
        ·simpa using Y.append (.cons (.agg R) .nil)
        ·simpa using hv.append (.cons L.toD .nil)
       ·obtain⟨ys,e2,hy⟩:=p3.zW
        obtain⟨b1,b2⟩:=Qx R hy p4;have ahj:Instr.sameBits 10000 (.agg ys) (.agg xs)=true:=by
         simp only[Instr.sameBits,H,beq_iff_eq];exact⟨by simpa using b1.symm,b2⟩
        have W:es[j]?=some en:=by simpa using p1
        have F:j<es.size:=dh W;have ahr:(Instr.keyThatStays (((es[j]?).map (·.key)).getD (.agg xs)) (.agg xs)).run C.P w= .ok (.agg xs) w:=by
         simp only[W,a6,am,e2,Instr.keyThatStays,ahj,if_true,Sem.run_pure]
        have m:(execOp ρ o).run C.P w= .ok .skip {w with heap:=w.heap.setIfInBounds c (.map (es.modify j fun e=>{e with key:= .agg xs,val:=ρ y}) clock)}:=by
         simp only[aM]at s;simp only[execOp,ho,Instr.mapUpdate,Sem.run_bind,run_underlying O,Result.andThen_ok,Q,e1,n,D,s,ahr,p];simp[Sem.run_pure]
        rw[m];have hm:(es.modify j fun e=>{e with key:= .agg xs,val:=ρ y}).toList=es.toList.set j {en with key:= .agg xs,val:=ρ y}:=by
         apply bX;intro q;rw[ap];simp only[aD,bw]
         by_cases hq:j=q
         ·subst hq;rw[if_pos rfl,if_pos rfl,W,if_pos (by simpa using F)];rfl
         ·rw[if_neg hq,if_neg hq]
        refine A _ _ ?_ ?_
        ·rw[hm,az,az];exact Y.set j (.agg R)
        ·rw[hm,az,az];exact hv.set j L.toD
     ·exact h.elim
    ·exact h.elim
   ·exact h.elim
  ·cases d
 ·cases d
end
section
variable {C:Ctx}{X:Nat->Prop}{w:World}{M:Mem}{E:Emb}{K:PV->Mem->Prop}{KP:DV->Mem->Prop}{O:Nat->Prop}
variable{ρ:Operand->Value}{o:Oper}
def aaS {t:TypeId}{len sz:Nat}{parts:Array (Nat×Operand)}{zs:List DV}{V:List Nat}(ho:o.op= .buildSlice t len parts){args:List PV}(T:Sim C X w M E)
  (R:aT w (away X M E) M E ((opsOf o.op).map ρ) args)(a:aW C.P (.buildSlice t len parts) (.oK sz zs V)=true){base:Nat}
  (h:ay C base (.oK sz zs V) args M K KP):iy C X w M E K KP ((execOp ρ o).run C.P w):=by
 simp only[ay]at h
 split at h
 ·rename_i ds u
  split at h
  ·rename_i xs G
   obtain⟨g,c,Z⟩:=h;simp only[aW]at a
   split at a
   ·rename_i e he
    split at a
    ·rename_i ab oJ
     split at a
     ·rename_i z hz
      simp only[H,decide_eq_true_eq,beq_iff_eq]at a;obtain⟨⟨⟨⟨⟨⟨F,hs⟩,k⟩,U⟩,I⟩,Rh⟩,y⟩:=a;simp only[ho,opsOf]at R;have q:=(R.ji u).strip;have r:bn w (away X M E) ((parts.toList.map fun x=>(x.1,ρ x.2)).map (·.2)) (ds.map DV.strip):=by simpa[List.map_map,bS]using q
      have L:∀x∈zs,x.cells.length=sz:=by
       intro x hx;simp only[List.all_eq_true]at Rh;have:=(jq (w:=w) (O:=fun _=>False) (Rh x hx)).length;simp at this;omega
      obtain⟨l,m,Q,Y,g4⟩:=Nc (vs:=(cl (zs.length*sz)).map (z.cells[· % sz]!)) (by subst y;simp[bS]) r (NW k F Rh) L G;have D:¬(len*sz>2 ^ 24):=by omega
      have i:(execOp ρ o).run C.P w= .ok (.value (.slice (some ⟨w.heap.size,0,none⟩) len len)) (w.alloc (.cells l e)):=by
       simp only[execOp,ho,Instr.buildSlice,Sem.run_bind,run_underlying he,Result.andThen_ok,run_sizeOf oJ,hs,D,if_false,bind_pure_comp,Sem.run_map,Sem.run_ite,Sem.run_pure];have J:(zeroValue e).run C.P w= .ok z w:=by simp[zeroValue,typeInfo,oJ,hz]
       have d:(cn (fun x=>(x.1,ρ x.2)) parts).toList=parts.toList.map (fun x=>(x.1,ρ x.2)):=by simp
       rw[I]at m
       by_cases n:len*sz=0
       ·have p:∀(f:Nat->Value),cn f (cl (len*sz))= #[]:=by intro f;rw[n];simp
        rw[p]at m;rw[n]at p;simp only[n,if_true,d,p,m];simp only[newRow,Sem.run_map,run_newObj_alloc,bind_pure_comp,Result.andThen_ok]
       ·simp only[n,if_false,J,Result.andThen_ok,k,d,m,newRow,Sem.run_map,run_newObj_alloc,bind_pure_comp]
      rw[i];have b:xs.length=len:=by omega
      have j:=Q.length;have v:(flat xs).length=len*sz:=by rw[flat_length Y,b]
      obtain⟨t1,t2⟩:=DW (A:=⟨sz,xs,0,1⟩) (loc:=some (w.heap.size,0,len*sz)) T (Later.alloc w (.cells l e)) g c (fun _ hh=>by cases hh) (fun W o' e' hh=>by
       cases hh;refine⟨N _,_, .zero _ _,heap_alloc_new w _,?_,?_,?_⟩
       ·simp[b]
       ·rw[Array.length_toList]at j;omega
       ·rw[bj,bu (by rw[j,v,b];exact N _)]
        exact Q)
      refine⟨_,_,_,Z,t1,t2, .tsl (by simp) fun B S=> ?_⟩;have s:B=⟨sz,xs,0,1⟩:=by simp at S;simp[S]
      subst s;refine⟨N _,fun _=>⟨some (w.heap.size,0,len*sz),by simp[<-T.bP],aL _, .inl ⟨len,?_,?_,?_⟩⟩⟩
      ·simp[b]
      ·simp[b]
      ·simp
     ·cases a
    ·cases a
   ·cases a
  ·exact h.elim
 ·exact h.elim
def N8:∀{xs:List DV} {l:List UInt8},bytesOf xs=some l->∃ns:List Int,xs=ns.map (DV.int .u8)/\l=ns.map fun n=>UInt8.ofNat n.toNat
 | [],l,h=>by simp only[bytesOf,Option.some.injEq]at h;subst h;exact⟨[],rfl,rfl⟩
 |x::xs,l,h=>by
  unfold bytesOf at h
  split at h
  ·rename_i a;cases a
  ·rename_i n c a
   cases a;rw[I]at h;obtain⟨b,h1,rfl⟩:=h;obtain⟨ns,rfl,rfl⟩:=N8 h1;exact⟨n::ns,rfl,rfl⟩
  ·cases h
def ZA:∀(ns:List Int) (s:ByteArray),ns.foldl (fun r n=>r.push (UInt8.ofNat n.toNat)) s=⟨s.data++(ns.map fun n=>UInt8.ofNat n.toNat).toArray⟩
 | [],s=>by simp
 |n::ns,s=>by
  rw[List.foldl_cons,ZA ns];simp[ByteArray.push]
def U7:∀ns:List Int,flat (ns.map (DV.int .u8))=ns.map (DV.int .u8)
 | []=>rfl
 |n::ns=>by rw[J,nG,U7 ns];rfl
def VN:∀{ns:List Int} {vs:List Value},bn w O vs (ns.map (DV.int .u8))->vs=ns.map (Value.int .u8)
 | [],_,h=>by cases h;rfl
 |n::ns,_,h=>by
  cases h with
  |cons h t=>rw[h.iI,VN t];rfl
def agu {s d:TypeId}{x:Operand}(ho:o.op= .convert s d x){args:List PV}(z:Sim C X w M E)(Q:aT w (away X M E) M E ((opsOf o.op).map ρ) args)
  (r:aW C.P (.convert s d x) .b2s=true){base:Nat}(h:ay C base .b2s args M K KP):iy C X w M E K KP ((execOp ρ o).run C.P w):=by
 simp only[aW,H]at r;obtain⟨j,hd⟩:=r
 split at j
 ·rename_i e N
  split at j
  ·rename_i k hk
   simp only[decide_eq_true_eq]at j;subst j
   split at hd
   ·rename_i F
    simp only[ho,opsOf,J,Z]at Q;simp only[ay]at h
    split at h
    ·rename_i p
     obtain⟨v,R,L⟩:=gQ Q;simp only[List.cons.injEq,and_true]at R;subst R;cases c:yQ 0 p M with
     |none=>simp only[c]at h
     |some xs=>
      simp only[c]at h;cases B:bytesOf xs with
      |none=>simp only[B]at h
      |some l=>
       simp only[B]at h;obtain⟨ns,rfl,rfl⟩:=N8 B;have g:yQ 1 p M=some (ns.map (DV.int .u8))/\∃a cap,ρ x= .slice a ns.length cap:=by
        unfold yQ at c⊢
        split at c
        ·simp only[Option.some.injEq]at c
         subst c;obtain⟨a,cap,f⟩:=L.toD.lU;exact⟨rfl,a,cap,by simpa using f⟩
        ·cases c
        ·rename_i k ver skip
         refine⟨c,?_⟩;rw[I]at c;obtain⟨A,u,O⟩:=c;obtain⟨t1,t2,_,_,t5⟩:=Ua z L u;have b:A.elems.length - skip=ns.length:=by have:=congrArg List.length O;simpa using this
         rcases t5 with⟨Y,o,e,vs,T,cap,_,_,_,_,_,(⟨h1,_⟩|⟨h1,_,a,h2⟩)⟩|⟨_,_,h1⟩
         ·exact⟨_,_,by rw[h1,b]⟩
         ·exact⟨_,_,by rw[h2,<-b];congr 1;omega⟩
         ·obtain⟨a,cap,f⟩:=h1.lU
          exact⟨a,cap,by rw[f];congr 1;simpa using b⟩
        ·cases c
       obtain⟨g,a,cap,f⟩:=g;have q:∀y∈ns.map (DV.int .u8),y.fits 1=true:=by
        intro y hy;obtain⟨n,_,rfl⟩:=List.mem_map.1 hy;rfl
       obtain⟨W,n1,U,V⟩:=SN z L g q;rw[U7]at V;have i:=VN V;subst i;have D:(Conv.bytesToString (ρ x)).run C.P w= .ok (.string ⟨(ns.map fun n=>UInt8.ofNat n.toNat).toArray⟩) w:=by
        cases a with
        |none=>
         have:ns.length=0:=by
          have:=U C.P w (.refl w);rw[f,cf]at this
          by_cases S:ns.length=0
          ·exact S
          ·exfalso
           simp[Builtin.firstCells]at this;exact S (by simp[this])
         have hn:=ax.1 this;subst hn;rw[f];simp[Conv.bytesToString]
         rfl
        |some a=>
         rw[f];have G:=U C.P w (.refl w);rw[f,cf]at G;simp only[Builtin.firstCells,Nat.mul_one]at G;rw[run_bytesToString w a ns.length cap ns G,ZA];simp
       have t:(execOp ρ o).run C.P w= .ok (.value (.string ⟨(ns.map fun n=>UInt8.ofNat n.toNat).toArray⟩)) w:=by
        have m:=run_convert_bytes_string (P:=C.P) w s d e a ns.length cap N hk F;rw[<-f,D]at m;simp[execOp,ho,m]
       rw[t];exact .same z h (.d (.str _))
    ·exact h.elim
   ·cases hd
  ·cases j
 ·cases j
end
section
variable {C:Ctx}{X:Nat->Prop}{w w':World}{M:Mem}{E:Emb}{K:PV->Mem->Prop}{KP:DV->Mem->Prop}{O:Nat->Prop}
def acE {k blk o e:Nat}{A:Arr}{el:List DV}{vs:Array Value}{vs':List Value}{T:TM vs.size}(h:Sim C X w M E)(hk:M.aF[k]?=some (some A))(ab:A.st=1)
  (n:E.ar[k]?=some (some (blk,o,e)))(W:w.heap[blk]?=some (.cells vs T.ty T.fr))(hl:el.length=A.elems.length)(hfit:∀x∈el,x.fits A.sz=true)(t:vs'.length=vs.size)
  (hr:bn w (away X M E) ((vs'.drop o).take (A.elems.length*A.sz)) (flat el))(l:Wrote blk w w' vs' T.ty T.fr):
  Sim C X w' {M with aF:=M.aF.set k (some {A with elems:=el})} E/\From w M E w' {M with aF:=M.aF.set k (some {A with elems:=el})} E:=by
 generalize d:({A with elems:=el}:Arr)=A';have Z:k<M.aF.length:=(Y.1 hk).1;obtain⟨s1,s2,s3,s4⟩:=h.arr k A hk;obtain⟨O,ac,T',G,U,V,g5⟩:=s4 blk o e n;rw[W]at G;simp only[Option.some.injEq,Obj.cells.injEq]at G;obtain⟨rfl,_,_⟩:=G;have s:owned M E blk:= .inr ⟨k,A,o,e,hk,by omega,n⟩;have c:∀(j:Nat) (B:Arr),(M.aF.set k (some A'))[j]?=some (some B)->∃B':Arr,M.aF[j]?=some (some B')/\B.st=B'.st:=by
  intro j B P
  rcases aO P with⟨rfl,r⟩|⟨_,H⟩
  ·cases r;exact⟨A,hk,by rw[<-d]⟩
  ·exact⟨B,H,rfl⟩
 have v:From w M E w' {M with aF:=M.aF.set k (some A')} E:=
  {os:=l.os,tape:=l.tape,output:=l.output,size:=b5 l.size.symm
   keep:=fun i o hi J=>l.jL (fun e=>hi (e▸s)) J
   own:=by
    rintro i (⟨j,cs',h1,h2,h3⟩|⟨j,B,o,e,h1,h2,h3⟩)
    ·exact .inl (.inl ⟨j,cs',h1,h2,h3⟩)
    ·obtain⟨B',h1',hs⟩:=c j B h1
     exact .inl (.inr ⟨j,B',o,e,h1',hs▸h2,h3⟩)
   iP:=N _
   bx:=fun i cs' hi=>⟨rfl,cs',hi,rfl⟩
   bP:=by simp
   ar:=fun j B P r=>by
    rcases aO r with⟨rfl,m⟩|⟨_,hB'⟩
    ·cases m
     refine⟨A,hk,by rw[<-d];exact N _,fun _=>⟨rfl,by rw[<-d],by rw[<-d];simp[hl],fun Q=> ?_⟩⟩;rw[n]at Q;cases Q
    ·exact⟨B,hB',N _,fun _=>⟨rfl,rfl,rfl,fun _=>rfl⟩⟩}
 refine⟨?_,v⟩;exact
  {glob:=C.keeps w w' h.glob fun b u=>l.keep b (fun e=>O (e▸h.iW b u)),iW:=h.iW
   xlt:=fun i hi=>by rw[l.size];exact h.xlt i hi
   iP:=h.iP
   bP:=by simp[h.bP]
   box:=fun b cs' u=>by
    obtain⟨a,h1,h2,h3⟩:=h.box b cs' u;have g:a≠blk:=fun p=>h.ba b k cs' A blk o e u hk (p▸h1) n
    exact⟨a,h1,h2,h3.from v fun _ J=>l.jL g J⟩
   arr:=fun j B r=>by
    rcases aO r with⟨rfl,m⟩|⟨I,hB'⟩
    ·cases m
     subst d;refine⟨s1,hfit,s3,fun a K p f=> ?_⟩;rw[n]at f;cases f;refine⟨O,_,T.cast (by simpa using t.symm),l.at_,by simp only[hl];exact U,by simpa[t]using V,?_⟩;simp only[hl];exact hr.from v
    ·obtain⟨h1,h2,h3,q⟩:=h.arr j B hB'
     refine⟨h1,h2,h3,fun a K p f=> ?_⟩;obtain⟨q1,vs',T',q2,q3,q4,q5⟩:=q a K p f;have g:a≠blk:=fun F=>I (h.aa j k B A blk K p o e hB' hk (F▸f) n)
     exact⟨q1,vs',T',l.jL g q2,q3,q4,q5.from v⟩
   bb:=h.bb
   aa:=fun j R B B' a L D o2 F h1 h2 h3 q=>by
    obtain⟨S,h1',_⟩:=c j B h1;obtain⟨z,h2',_⟩:=c R B' h2;exact h.aa j R S z a L D o2 F h1' h2' h3 q
   ba:=fun b j y B a L D h1 h2 h3 q=>by
    obtain⟨z,h2',_⟩:=c j B h2;exact h.ba b j y z a L D h1 h2' h3 q}
variable{ρ:Operand->Value}{o:Oper}{x:Operand}
def aex {t:TypeId}{i:Nat}(ho:o.op= .range t x){args:List PV}(f:Sim C X w M E)(e:aT w (away X M E) M E ((opsOf o.op).map ρ) args)
  (a:aW C.P (.range t x) (.rngS i)=true){base:Nat}(h:ay C base (.rngS i) args M K KP):iy C X w M E K KP ((execOp ρ o).run C.P w):=by
 simp only[aW]at a;simp only[ho,opsOf,J,Z]at e
 split at a
 ·rename_i d
  simp only[ay]at h
  split at h
  ·rename_i s
   obtain⟨h1,h2⟩:=h;obtain⟨v,g,l⟩:=gQ e;simp only[List.cons.injEq,and_true]at g;subst g;have m:=l.toD.vC;have b:base+i<M.boxes.length:=(Y.1 h1).1;have WT:base+i<E.bx.length:=f.iP▸b;have c:(execOp ρ o).run C.P w= .ok (.value (.pointer (some ⟨w.heap.size,0,none⟩))) (w.alloc (.stringIter s 0)):=by
    simp only[execOp,ho,Instr.range,Sem.run_bind,run_underlying d,Result.andThen_ok,m,Sem.run_pure,run_newObj_alloc]
   rw[c];obtain⟨j,k⟩:=XC (o:= .stringIter s 0) (cs:=[.EI s 0]) f h1 fun _=>heap_alloc_new w _
   exact⟨_,_,_,h2,j,k, .yX (cs:=[.EI s 0]) (by simp[b]) (by simp[WT]) rfl⟩
  ·exact h.elim
 ·cases a
def aev {c:Bool}(ho:o.op= .next x c){args:List PV}(t:Sim C X w M E)(B:aT w (away X M E) M E ((opsOf o.op).map ρ) args)
  (m:aW C.P (.next x c) .Zg=true){base:Nat}(h:ay C base .Zg args M K KP):iy C X w M E K KP ((execOp ρ o).run C.P w):=by
 simp only[aW]at m;subst m;simp only[ho,opsOf,J,Z]at B;simp only[ay]at h
 split at h
 ·rename_i b
  obtain⟨v,D,F⟩:=gQ B;simp only[List.cons.injEq,and_true]at D;subst D
  split at h
  ·rename_i s pos e
   obtain⟨y,h⟩:=h;have i:M.boxes[b]?=some (some [.EI s pos]):=by
    unfold Mem.box at e
    split at e
    ·rename_i cs u;cases e;exact u
    ·cases e
   generalize p:ρ x=vv at F;cases F with
   |yX k j H=>
    rename_i a cs
    rw[i]at k;cases k;obtain⟨A,G,O,q⟩:=t.box b _ i;rw[j]at G;cases G;have q:w.heap[a]?=some (.stringIter s pos):=q;have g:(getObj a).run C.P w= .ok (.stringIter s pos) w:=by simp[getObj,Sem.run,q]
    have n:∀z:Obj,(setObj a z).run C.P w= .ok () {w with heap:=w.heap.setIfInBounds a z}:=fun z=>by simp[setObj,Sem.run,q]
    by_cases r:pos<s.size
    ·rw[if_pos r]at h
     have f:(execOp ρ o).run C.P w= .ok (.value (.tuple #[.bool true, .int .i64 pos, .int .i32 (Utf8.decode s pos).1])) {w with heap:=w.heap.setIfInBounds a (.stringIter s (pos+(Utf8.decode s pos).2))}:=by
      simp only[execOp,ho,Instr.next,p,Sem.run_bind,g,Result.andThen_ok,if_pos r,n,Sem.run_pure]
      rfl
     rw[f];have l:=dh q;obtain⟨I,L⟩:=LW (cs':=[.EI s (pos+(Utf8.decode s pos).2)]) t i y rfl rfl j (Lp w a (.stringIter s (pos+(Utf8.decode s pos).2)) l) fun N=>by
      show({w with heap:=w.heap.setIfInBounds a (.stringIter s (pos+(Utf8.decode s pos).2))}:World).heap[a]?=_
      simp[l]
     exact⟨_,_,_,h,I,L, .d (.tup (.cons (.bool _) (.cons (.int _ _) (.cons (.int _ _) .nil))))⟩
    ·rw[if_neg r]at h
     have f:(execOp ρ o).run C.P w= .ok (.value (.tuple #[.bool false])) w:=by
      simp only[execOp,ho,Instr.next,p,Sem.run_bind,g,Result.andThen_ok,if_neg r,Sem.run_pure]
     rw[f];exact .same t h (.d (.tup (.cons (.bool _) .nil)))
  ·exact h.elim
 ·exact h.elim
variable{P:Program}{name:String}
def acB {t:TypeId}{f:FuncId}(h:GU P t name=some f)(v:Value)(n:Nat)(w:World):(Go.method (n+1) t v name).run P w= .ok (f,v) w:=by
 unfold GU at h
 split at h
 ·rename_i i g
  split at h
  ·rename_i m j
   split at h
   ·rename_i k
    split at h
    ·cases h
    ·rename_i d hd b
     split at h
     ·rename_i l e
      simp only[Option.some.injEq]at h;subst h;have c:m.path.toList=[]:=by simpa using k
      have a:(Go.receiverAt t (.val v) false (if m.path.isEmpty then some ((name.splitOn ".").getLastD name)else none)).run P w= .ok v w:=by
       unfold Go.receiverAt;simp only[Sem.run_bind,run_underlying b,Result.andThen_ok];cases d<;>first|rfl|exact absurd rfl (hd _)
      simp only[Go.method,Sem.run_bind,typeInfo,run_program,Result.andThen_ok,g,Sem.run_pure,j,c,Go.follow,e,a]
     ·cases h
    ·cases h
   ·cases h
  ·cases h
 ·cases h
def agy {r:Operand}{a:String}{argTypes:Array TypeId}{ass:Array Operand}(ho:o.op= .call {callee:= .invoke r name,args:=ass,argTypes})
  {args:List PV}(g:aT w (away X M E) M E ((opsOf o.op).map ρ) args)(b:aW C.P (.call {callee:= .invoke r name,args:=ass,argTypes}) (.inv a)=true){base:Nat}(h:ay C base (.inv a) args M K KP):iy C X w M E K KP ((execOp ρ o).run C.P w):=by
 simp only[aW,decide_eq_true_eq]at b;subst b;simp only[ho,opsOf,J]at g;simp only[ay]at h
 split at h
 ·rename_i t v i
  obtain⟨f,m,l,h⟩:=h;cases g with
  |cons h1 h2=>
   have hd:=h1.toD;generalize n:ρ r=vv at hd;cases hd with
   |iface p=>
    rename_i u
    have e:(execOp ρ o).run C.P w= .ok (.enter f (#[u]++ass.map ρ)) w:=by
     simp only[execOp,ho,resolve,n,Sem.run_bind,Sem.run_pure,Result.andThen_ok,invoke];have j:(#[Value.iface t u]++ass.map ρ)[0]?=some (.iface t u):=by rw[Array.getElem?_append_left (by simp)];rfl
     have k:(#[Value.iface t u]++ass.map ρ).extract 1 (#[Value.iface t u]++ass.map ρ).size=ass.map ρ:=by
      apply bc;simp only[Array.toList_extract,Array.toList_append,b7,List.extract_eq_take_drop,Array.size_append,Array.size_map,a7,List.length_singleton,List.singleton_append,bB,bj];rw[bu (by simp)]
     simp only[j,k,callMethod,Sem.run_bind,run_program,Result.andThen_ok];have c:C.P.types.size+Made.depth=(C.P.types.size+Made.depth - 1)+1:=by
      have:0<Made.depth:=by decide
      omega
     rw[c,acB m];simp only[Result.andThen_ok,uY l]
    rw[e];exact⟨rfl,_,h,by simpa using aT.cons (.d p) h2⟩
 ·exact h.elim
variable{op:BinOp}{y:Operand}
def agC {g:BinOp}{t u:TypeId}(ho:o.op= .binOp op t x y u){args:List PV}(s:Sim C X w M E)(m:aT w (away X M E) M E ((opsOf o.op).map ρ) args)
  (e:aW C.P (.binOp op t x y u) (.shf g)=true){base:Nat}(h:ay C base (.shf g) args M K KP):iy C X w M E K KP ((execOp ρ o).run C.P w):=by
 simp only[aW,H,decide_eq_true_eq]at e;obtain⟨⟨rfl,_⟩,_⟩:=e;simp only[ho,opsOf,J,Z]at m;simp only[ay]at h
 split at h
 ·rename_i k a F b
  obtain⟨D,h⟩:=h;obtain⟨v,G,n,B,j⟩:=gU m;simp only[List.cons.injEq,and_true]at n;obtain⟨rfl,rfl⟩:=n;have i:=B.toD.iI;have l:=j.toD.iI;have A:(eqGuard op t x y (ρ x) (ρ y)).run C.P w= .ok () w:=yS (.inl ⟨_,_,i⟩) w;have p:¬b<0:=by omega
  have c:∀{v:Value} {d:DV},K (.d d) M->bU w (away X M E) v d->(binOp op t (ρ x) (ρ y)).run C.P w= .ok v w->iy C X w M E K KP ((execOp ρ o).run C.P w):=by
   intro v d q r z;have f:(execOp ρ o).run C.P w= .ok (.value v) w:=by simp[execOp,ho,A,z]
   rw[f];exact .same s q (.d r)
  split at h
  ·exact c h (.int _ _) (by rw[i,l];simp[binOp,Op.shift,p])
  ·exact c h (.int _ _) (by rw[i,l];simp[binOp,Op.shift,p])
  ·exact h.elim
 ·exact h.elim
def run_equalIn_iface_nil {t:TypeId}{ms:Array (String×TypeId)}(a:P.underlying t=some (.interface ms))(w:World)(d:Nat)(u:TypeId)(v:Value):(Op.equalIn (d+1) t (.iface u v) .nilIface).run P w= .ok false w:=by
 simp only[Op.equalIn,Sem.run_bind,run_underlying a,Result.andThen_ok,Sem.run_pure]
def run_equalIn_nil_nil {t:TypeId}{ms:Array (String×TypeId)}(a:P.underlying t=some (.interface ms))(w:World)(d:Nat):(Op.equalIn (d+1) t .nilIface .nilIface).run P w= .ok true w:=by
 simp only[Op.equalIn,Sem.run_bind,run_underlying a,Result.andThen_ok,Sem.run_pure]
def Ye {neq:Bool}{t u:TypeId}(ho:o.op= .binOp op t x y u)(p:∀v,ρ (.const v)=v){args:List PV}(q:Sim C X w M E)(l:aT w (away X M E) M E ((opsOf o.op).map ρ) args)
  (i:aW C.P (.binOp op t x y u) (.CW neq)=true){base:Nat}(h:ay C base (.CW neq) args M K KP):iy C X w M E K KP ((execOp ρ o).run C.P w):=by
 simp only[aW,H]at i;obtain⟨⟨a,j⟩,s⟩:=i
 split at j
 ·rename_i ms k
  split at s
  ·simp only[ho,opsOf,J,Z,p]at l
   obtain⟨v,n⟩:∃v,v=ρ x:=⟨_,rfl⟩
   rw[<-n]at l;have e:∀b:Bool,(Op.equal t v .nilIface).run C.P w= .ok b w->(eqGuard op t x (.const .nilIface) v .nilIface).run C.P w= .ok () w->(execOp ρ o).run C.P w= .ok (.value (.bool (b !=neq))) w:=by
    intro b g r;cases op<;>simp only[ab,S]at a
    ·subst a
     simp only[execOp,ho,Sem.run_bind,p,<-n,r,Result.andThen_ok,binOp,g,Sem.run_pure];simp
    ·subst a
     simp only[execOp,ho,Sem.run_bind,p,<-n,r,Result.andThen_ok,binOp,g,Sem.run_pure];simp
   simp only[ay]at h
   split at h
   ·rename_i D B
    obtain⟨A,z,f,m,_⟩:=gU l;simp only[List.cons.injEq,and_true]at f;obtain⟨rfl,_⟩:=f;have hd:=m.toD;generalize c:v=vv at hd;cases hd with
    |iface hh=>
     subst c;rw[e false (run_equalIn_iface_nil k w 9999 _ _) (by unfold eqGuard;simp<;>split<;>simp)];exact .same q (by simpa using h) (.d (.bool _))
   ·obtain⟨A,z,f,m,_⟩:=gU l
    simp only[List.cons.injEq,and_true]at f;obtain⟨rfl,_⟩:=f;have hd:=m.toD;generalize c:v=vv at hd;cases hd with
    |nilIface=>
     subst c;rw[e true (run_equalIn_nil_nil k w 9999) (by unfold eqGuard;simp<;>split<;>simp)];exact .same q (by simpa using h) (.d (.bool _))
   ·exact h.elim
  ·cases s
 ·cases j
end
section
variable {C:Ctx}{X:Nat->Prop}{w:World}{M:Mem}{E:Emb}{K:PV->Mem->Prop}{KP:DV->Mem->Prop}{O:Nat->Prop}
variable{P:Program}
def qP {t e:TypeId}{a:Option Addr}(b:P.underlying t=some (.pointer e))(w:World)(d:Nat):(Op.equalIn (d+1) t (.pointer a) (.pointer none)).run P w= .ok a.isNone w:=by
 cases a<;>simp only[Op.equalIn,Sem.run_bind,run_underlying b,Result.andThen_ok,Sem.run_pure,bO,bR]
variable{ρ:Operand->Value}{o:Oper}{x y:Operand}
def Yf {op:BinOp}{neq:Bool}{t u:TypeId}(ho:o.op= .binOp op t x y u)(r:∀v,ρ (.const v)=v){args:List PV}(p:Sim C X w M E)(k:aT w (away X M E) M E ((opsOf o.op).map ρ) args)
  (m:aW C.P (.binOp op t x y u) (.xO neq)=true){base:Nat}(h:ay C base (.xO neq) args M K KP):iy C X w M E K KP ((execOp ρ o).run C.P w):=by
 simp only[aW,H]at m;obtain⟨⟨g,n⟩,z⟩:=m
 split at n
 ·rename_i e i
  split at z
  ·simp only[ho,opsOf,J,Z,r]at k
   obtain⟨v,q⟩:∃v,v=ρ x:=⟨_,rfl⟩
   rw[<-q]at k;have f:∀b:Bool,(Op.equal t v (.pointer none)).run C.P w= .ok b w->(eqGuard op t x (.const (.pointer none)) v (.pointer none)).run C.P w= .ok () w->(execOp ρ o).run C.P w= .ok (.value (.bool (b !=neq))) w:=by
    intro b l s;cases op<;>simp only[ab,S]at g
    ·subst g
     simp only[execOp,ho,Sem.run_bind,r,<-q,s,Result.andThen_ok,binOp,l,Sem.run_pure];simp
    ·subst g
     simp only[execOp,ho,Sem.run_bind,r,<-q,s,Result.andThen_ok,binOp,l,Sem.run_pure];simp
   simp only[ay]at h
   split at h
   ·obtain⟨B,A,c,j,_⟩:=gU k
    simp only[List.cons.injEq,and_true]at c;obtain⟨rfl,_⟩:=c;generalize a:v=vv at j;cases j with
    |ptr _ _ _=>
     subst a;rw[f false (qP i w 9999) (by unfold eqGuard;simp<;>split<;>simp)];exact .same p (by simpa using h) (.d (.bool _))
   ·obtain⟨B,A,c,j,_⟩:=gU k
    simp only[List.cons.injEq,and_true]at c;obtain⟨rfl,_⟩:=c;have hd:=j.toD;generalize a:v=vv at hd;cases hd with
    |aV _ _ _=>
     subst a;rw[f false (qP i w 9999) (by unfold eqGuard;simp<;>split<;>simp)];exact .same p (by simpa using h) (.d (.bool _))
   ·obtain⟨B,A,c,j,_⟩:=gU k
    simp only[List.cons.injEq,and_true]at c;obtain⟨rfl,_⟩:=c;have hd:=j.toD;generalize a:v=vv at hd;cases hd with
    |nilPtr=>
     subst a;rw[f true (qP i w 9999) (by unfold eqGuard;simp<;>split<;>simp)];exact .same p (by simpa using h) (.d (.bool _))
   ·exact h.elim
  ·cases z
 ·cases n
variable{i:Operand}{sz len:Nat}
def aaP {t:TypeId}(ho:o.op= .indexAddr t x i){args:List PV}(G:Sim C X w M E)(r:aT w (away X M E) M E ((opsOf o.op).map ρ) args)
  (a:aW C.P (.indexAddr t x i) (.Hy sz len)=true){base:Nat}(h:ay C base (.Hy sz len) args M K KP):iy C X w M E K KP ((execOp ρ o).run C.P w):=by
 simp only[aW]at a
 split at a
 ·rename_i n e B
  simp only[H,beq_iff_eq]at a;obtain⟨rfl,a⟩:=a
  split at a
  ·rename_i Q oJ
   simp only[H,beq_iff_eq,decide_eq_true_eq]at a;obtain⟨A,I⟩:=a;have f:∀c p k m,ρ x= .pointer (some ⟨c,p,none⟩)->ρ i= .int k m->0<=m->m<(n:Int)->(execOp ρ o).run C.P w= .ok (.value (.pointer (some ⟨c,p+m.toNat*sz,none⟩))) w:=by
    intro c p k m h1 h2 L N;simp[execOp,ho,h1,h2,Instr.indexAt,Instr.sureAddr,asIntOf,run_underlying B,L,N,run_sizeOf oJ,A,Addr.add_lit]
   simp only[ho,opsOf,J,Z]at r;simp only[ay]at h
   split at h
   ·rename_i b F k m
    obtain⟨v,u,j,l,g⟩:=gU r;simp only[List.cons.injEq,and_true]at j;obtain⟨rfl,rfl⟩:=j;have q:=g.toD.iI;generalize D:ρ x=vv at l;cases l with
    |ptr O s z=>
     rw[f _ _ _ _ D q h.1 h.2.1];exact .same G h.2.2 (.ptr O s z)
   ·rename_i cs k m
    obtain⟨v,u,j,l,g⟩:=gU r;simp only[List.cons.injEq,and_true]at j;obtain⟨rfl,rfl⟩:=j;have q:=g.toD.iI;have hd:=l.toD;generalize D:ρ x=vv at hd;cases hd with
    |aV s y hh=>
     rename_i c F T
     rw[f _ _ _ _ D q h.1 h.2.1];refine .same G h.2.2.2 (.d (.aV s y ?_));have:=hh.drop (m.toNat*sz);rw[bi,aw]at this;rw[br];exact this
   ·exact h.elim
  ·cases a
 ·cases a
def Oe {agg:Bool}{sz:Nat}:∀{n:Nat} {cs:List DV},cs.length=n*sz->(agg=false->sz=1/\∀c∈cs,c.one=true)->flat (vZ agg sz n cs)=cs/\(∀x∈vZ agg sz n cs,x.cells.length=sz)/\(vZ agg sz n cs).length=n
 |0,cs,h,_=>by
  have:cs=[]:=ax.1 (by omega);subst this;simp[vZ,flat]
 |n+1,cs,h,i=>by
  have l:(cs.drop sz).length=n*sz:=by rw[br,h,ck];omega
  have j:sz<=cs.length:=by rw[h,ck];omega
  obtain⟨h1,h2,g⟩:=Oe (agg:=agg) l fun e=>⟨(i e).1,fun c k=>(i e).2 c (ae k)⟩
  cases agg with
  |true=>
   refine⟨?_,?_,by simp[vZ,g]⟩
   ·simp only[vZ,cond_true]
    rw[flat,b0]
    show(DV.agg (cs.take sz)).cells++flat _=cs
    rw[h1];simp[DV.cells]
   ·intro x b
    simp only[vZ,cond_true,bE]at b
    rcases b with rfl|b
    ·simp only[DV.cells,bd];omega
    ·exact h2 x b
  |false=>
   obtain⟨rfl,f⟩:=i rfl;obtain⟨c,a,rfl⟩:∃c a,cs=c::a:=by
    cases cs with
    |nil=>simp at j
    |cons c a=>exact⟨c,a,rfl⟩
   have d:c.cells=[c]:=by
    have:=f c (by simp);cases c<;>first|rfl|simp[DV.one]at this
   refine⟨?_,?_,by simp only[bB,bj]at g;simp[vZ,g]⟩
   ·simp only[vZ,cond_false,ce]
    rw[flat,b0]
    show c.cells++flat _=_
    rw[h1,d];simp
   ·intro x b
    simp only[vZ,cond_false,ce,bE]at b
    rcases b with rfl|b
    ·rw[d];rfl
    ·exact h2 x b
def aey {t:TypeId}{lo hi mx:Option Operand}{agg:Bool}(ho:o.op= .slice t x lo hi mx){args:List PV}(u:Sim C X w M E)(k:aT w (away X M E) M E ((opsOf o.op).map ρ) args)
  (a:aW C.P (.slice t x lo hi mx) (.Uy agg sz len)=true){base:Nat}(h:ay C base (.Uy agg sz len) args M K KP):iy C X w M E K KP ((execOp ρ o).run C.P w):=by
 simp only[aW,H,Option.isNone_iff_eq_none]at a;obtain⟨⟨⟨a,rfl⟩,rfl⟩,rfl⟩:=a
 split at a
 ·rename_i n e i
  simp only[H,beq_iff_eq]at a;obtain⟨rfl,a⟩:=a
  split at a
  ·rename_i F oJ
   simp only[H,beq_iff_eq,decide_eq_true_eq]at a;obtain⟨B,p⟩:=a;simp only[ho,opsOf,J,Z,Option.toList_none,bv]at k;simp only[ay]at h
   split at h
   ·rename_i cs
    obtain⟨m,b,h⟩:=h;obtain⟨v,l,A⟩:=gQ k;simp only[List.cons.injEq,and_true]at l;subst l;have hd:=A.toD;generalize D:ρ x=vv at hd;obtain⟨q,r,s⟩:=Oe (n:=n) m b;cases hd with
    |aV y g hh=>
     rename_i f j T fz ws
     have c:(execOp ρ o).run C.P w= .ok (.value (.slice (some ⟨f,j,none⟩) n n)) w:=by
      by_cases z:n=0<;>simp[execOp,ho,D,Instr.sliceAt,Instr.sureAddr,run_underlying i,Instr.sliceBounds,run_sizeOf oJ,z,Addr.add_lit]
     rw[c];refine .same u h (.d (.slice y g s r (N _) (fun _=>rfl) ?_));rw[q,<-m];exact hh
   ·exact h.elim
  ·cases a
 ·cases a
structure KeyLaw (P:Program) (key:TypeId) (ks:List Nat) (O:Nat->Prop) (w:World) (v:Value) (k:DV)where
 fnd:List MapEntry->Nat->Sem (Option (Nat×Value))
 nil:∀i,(fnd [] i).run P w= .ok none w
 cons:∀{e:MapEntry} {es:List MapEntry} {i:Nat} {d:DV} {t:Bool},bU w O e.key d->iY ks k d=some t->(fnd (e::es) i).run P w=if t then .ok (some (i,e.val)) w else(fnd es (i+1)).run P w
 find:∀{es:List MapEntry} {x:Option (Nat×Value)},(fnd es 0).run P w= .ok x w->(Instr.findKey key v es).run P w= .ok x w
 check:∀em:Bool,(Instr.checkKey em 10000 key v).run P w= .ok () w
 stays:∀{u:Value} {d:DV},bU w O u d->iY ks k d=some true->(Instr.keyThatStays u v).run P w= .ok v w
variable{ks:List Nat}
theorem abL {key:TypeId}(hk:YX P key ks=true){v:Value}{k:DV}(hv:bU w O v k)(hc:iY ks k k=some true):Nonempty (KeyLaw P key ks O w v k):=by
 unfold YX at hk
 split at hk
 ·rename_i fs a
  simp only[H,ab]at hk;obtain⟨b,o,A⟩:=hk;obtain⟨xs,rfl⟩:∃xs,k= .agg xs:=by cases k<;>first|exact⟨_,rfl⟩|simp[iY]at hc<;>simp[hc]at b
  simp only[iY,b,S,if_false]at hc;obtain⟨s,rfl,C⟩:=hv.zW;refine⟨⟨fun es i=>Instr.findAsking key (.agg s) es i,fun i=>by simp[Instr.findAsking],?_,?_,fun E=>D9 a o C hc E,?_⟩⟩
  ·intro e es i d t hd c
   obtain⟨j,rfl⟩:∃j,d= .agg j:=by cases d<;>first|exact⟨_,rfl⟩|simp[iY]at c
   simp only[iY,b,S,if_false]at c;obtain⟨ys,l,D⟩:=hd.zW;have z:(Op.equal key (.agg s) e.key).run P w= .ok t w:=by
    show(Op.equalIn 10000 key (.agg s) e.key).run P w= .ok t w
    have m:P.fieldsOf key=fs:=by simp[Program.fieldsOf,a]
    rw[l,run_equalIn_agg w 9999 key s ys (by rw[m];exact a) A,m];exact yE 9998 o (by simpa using C) (by simpa using D) c
   cases t<;>simp[Instr.findAsking,z]
  ·intro es x h
   rw[run_findKey_eq (P:=P) w (by rw[a])];exact h
  ·intro u d B hd
   obtain⟨j,rfl⟩:∃j,d= .agg j:=by cases d<;>first|exact⟨_,rfl⟩|simp[iY]at hd
   simp only[iY,b,S,if_false]at hd;obtain⟨ys,rfl,D⟩:=B.zW;obtain⟨b1,G⟩:=Qx C D hd;have ahj:Instr.sameBits 10000 (.agg ys) (.agg s)=true:=by
    simp only[Instr.sameBits,H,beq_iff_eq];exact⟨by simpa using b1.symm,G⟩
   simp only[Instr.keyThatStays,ahj,if_true,Sem.run_pure]
 ·rename_i q a
  obtain⟨y,n,rfl⟩:∃y n,k= .int y n:=by cases k<;>first|exact⟨_,_,rfl⟩|simp[iY,hk]at hc
  have I:=hv.iI;subst I;refine⟨⟨fun es i=>match Instr.findNow (.int q) (.int y n) es i with|some r=>pure r|none=>stuck "",fun i=>by simp[Instr.findNow],?_,?_,?_,?_⟩⟩
  ·intro e es i d t hd c
   obtain⟨p,g,rfl⟩:∃p g,d= .int p g:=by cases d<;>first|exact⟨_,_,rfl⟩|simp[iY]at c
   have l:=hd.iI;simp only[iY,hk,true_and]at c
   split at c
   ·rename_i f
    cases c;subst f;simp only[Instr.findNow,l,Instr.sameNow,if_true];cases J:n==g<;>simp
   ·cases c
  ·intro es x h
   simp only[Instr.findKey,Sem.run_bind,run_underlying a,Result.andThen_ok];cases F:Instr.findNow (.int q) (.int y n) es 0 with
   |none=>rw[F]at h;simp[stuck]at h
   |some r=>rw[F]at h;exact h
  ·intro E
   rw[show(10000:Nat)=9999+1 from rfl,Instr.checkKey];simp only[Sem.run_bind,run_underlying a,Result.andThen_ok,Sem.run_pure]
  ·intro u d B hd
   obtain⟨p,g,rfl⟩:∃p g,d= .int p g:=by cases d<;>first|exact⟨_,_,rfl⟩|simp[iY]at hd
   have l:=B.iI;simp only[iY,hk,true_and]at hd
   split at hd
   ·rename_i f
    simp only[Option.some.injEq,beq_iff_eq]at hd;subst f hd l;simp[Instr.keyThatStays,Instr.sameBits]
   ·cases hd
 ·cases hk
def DT (ks:List Nat):List (DV×DV)->DV->Bool
 | [],_=>true
 |(a,_)::l,k=>match iY ks k a with|some true=>true|some false=>DT ks l k|none=>false
def VW {ks:List Nat}{k:DV}:∀{l:List (DV×DV)} {r:Option DV},qM ks l k=some r->DT ks l k=true
 | [],_,_=>rfl
 |(c,v)::l,r,h=>by
  simp only[qM]at h;simp only[DT];cases a:iY ks k c with
  |none=>simp[a]at h
  |some b=>cases b with
   |true=>rfl
   |false=>simp only[a]at h;exact VW h
def Z9 {ks:List Nat}{k v:DV}:∀{l d:List (DV×DV)},Ed ks l k v=some d->DT ks l k=true
 | [],_,_=>rfl
 |(c,e)::l,r,h=>by
  simp only[Ed]at h;simp only[DT];cases a:iY ks k c with
  |none=>simp[a]at h
  |some b=>cases b with
   |true=>rfl
   |false=>
    simp only[a,I]at h;obtain⟨l2,h,_⟩:=h;exact Z9 h
def Z8 {ks:List Nat}{k:DV}:∀{l d:List (DV×DV)},Ec ks l k=some d->DT ks l k=true
 | [],_,_=>rfl
 |(c,e)::l,r,h=>by
  simp only[Ec]at h;simp only[DT];cases a:iY ks k c with
  |none=>simp[a]at h
  |some b=>cases b with
   |true=>rfl
   |false=>
    simp only[a,I]at h;obtain⟨l2,h,_⟩:=h;exact Z8 h
def JJ {P:Program}{key:TypeId}{ks:List Nat}{v:Value}{k:DV}(L:KeyLaw P key ks O w v k):∀(es:List MapEntry) (l:List (DV×DV)) (i:Nat),bn w O (es.map (·.key)) (l.map (·.1))->bn w O (es.map (·.val)) (l.map (·.2))->DT ks l k=true->
  ∃x,(L.fnd es i).run P w= .ok x w/\
   ((x=none/\qM ks l k=some none/\(∀y,Ed ks l k y=some (l++ [(k,y)]))/\Ec ks l k=some l)\/
   (∃j u e c dv,x=some (i+j,u)/\es[j]?=some e/\j<l.length/\bU w O e.key c/\bU w O u dv/\iY ks k c=some true/\qM ks l k=some (some dv)/\(∀y,Ed ks l k y=some (l.set j (k,y)))/\Ec ks l k=some (l.eraseIdx j)))
 | [],[],i,_,_,_=>⟨none,L.nil i, .inl ⟨rfl,rfl,fun _=>rfl,rfl⟩⟩
 |e::es,(c,dv)::l,i,h1,h2,h=>by
  simp only[J]at h1 h2;cases h1 with
  |cons q m=>cases h2 with
   |cons A n=>
    simp only[DT]at h;cases a:iY ks k c with
    |none=>simp[a]at h
    |some b=>
     have d:=L.cons (es:=es) (i:=i) q a;cases b with
     |true=>
      simp only[if_true]at d;exact⟨_,d, .inr ⟨0,e.val,e,c,dv,rfl,rfl,by simp,q,A,a,by simp[qM,a],fun y=>by simp[Ed,a],by simp[Ec,a]⟩⟩
     |false=>
      simp only[a]at h;simp only[S,if_false]at d;obtain⟨x,t,z⟩:=JJ L es l (i+1) m n h;refine⟨x,d.trans t,?_⟩
      rcases z with⟨rfl,o,r,p⟩|⟨j,u,s,f,g,rfl,o,r,p,B,C,D,E,F⟩
      ·exact .inl ⟨rfl,by simp[qM,a,o],fun y=>by simp[Ed,a,r],by simp[Ec,a,p]⟩
      ·exact .inr ⟨j+1,u,s,f,g,by simp;omega,by simpa using o,by simp;omega,p,B,C,by simp[qM,a,D],fun y=>by simp[Ed,a,E],by simp[Ec,a,F]⟩
 | [],_::_,_,h1,_,_=>by simp at h1;cases h1
 | _::_,[],_,h1,_,_=>by simp at h1;cases h1
def map_eraseIdx {α β:Type}(f:α->β):∀(l:List α) (j:Nat),(l.eraseIdx j).map f=(l.map f).eraseIdx j
 | [],_=>rfl
 | _::_,0=>rfl
 |a::l,j+1=>by simp[map_eraseIdx f l j]
def bn.eraseIdx {vs:List Value}{ds:List DV}(h:bn w O vs ds)(j:Nat):bn w O (vs.eraseIdx j) (ds.eraseIdx j):=by
 rw[a8,a8];exact(h.take j).append (h.drop (j+1))
def Xi {b:Nat}{l:List (DV×DV)}(i:Sim C X w M E)(a:M.box b=some [.jr l]){v:Value}(n:Rep w (away X M E) M E v (.mref b)):
  ∃blk es clock,v= .map (some blk)/\E.bx[b]?=some blk/\M.boxes[b]?=some (some [.jr l])/\w.heap[blk]?=some (.map es clock)/\bn w (away X M E) (es.toList.map (·.key)) (l.map (·.1))/\bn w (away X M E) (es.toList.map (·.val)) (l.map (·.2)):=by
 have c:M.boxes[b]?=some (some [.jr l]):=by
  unfold Mem.box at a
  split at a
  ·rename_i cs f;cases a;exact f
  ·cases a
 cases n with
 |mref e d m=>
  rename_i blk cs
  rw[c]at e;cases e;obtain⟨g,h,q,p⟩:=i.box b _ c;rw[d]at h;cases h;obtain⟨es,clock,j,k,o⟩:=p;exact⟨blk,es,clock,rfl,d,c,j,k,o⟩
def aep {t:TypeId}{c ok:Bool}{z:DV}(ho:o.op= .lookup t x i c){args:List PV}(V:Sim C X w M E)(U:aT w (away X M E) M E ((opsOf o.op).map ρ) args)
  (O:aW C.P (.lookup t x i c) (.Hr ok ks z)=true){base:Nat}(h:ay C base (.Hr ok ks z) args M K KP):iy C X w M E K KP ((execOp ρ o).run C.P w):=by
 simp only[aW,H,beq_iff_eq]at O;obtain⟨rfl,g⟩:=O
 split at g
 ·rename_i an e Q
  simp only[H]at g;obtain⟨N,A⟩:=g
  split at A
  ·rename_i am oJ
   split at A
   ·rename_i z' ac
    simp only[ho,opsOf,J,Z]at U;have ae:(zeroValue e).run C.P w= .ok z' w:=by simp[zeroValue,typeInfo,oJ,ac]
    have p:∀(a:Nat) (es:Array MapEntry) (clock:Nat) (l:List (DV×DV)) (k:DV) (r:Option DV),ρ x= .map (some a)->w.heap[a]?=some (.map es clock)->bn w (away X M E) (es.toList.map (·.key)) (l.map (·.1))->bn w (away X M E) (es.toList.map (·.val)) (l.map (·.2))->
      bU w (away X M E) (ρ i) k->iY ks k k=some true->qM ks l k=some r->K (.d (EY c z r)) M->iy C X w M E K KP ((execOp ρ o).run C.P w):=by
     intro a es clock l k r m W Y hv ab D q hK;obtain⟨L⟩:=abL (P:=C.P) N ab D;obtain⟨y,g1,g2⟩:=JJ L es.toList l 0 Y hv (VW q);have F:=L.check es.isEmpty;have I:=L.find g1;have n:(getObj a).run C.P w= .ok (.map es clock) w:=by simp[getObj,Sem.run,W]
     rcases g2 with⟨rfl,R,_,_⟩|⟨j,u,e',dk,dv,rfl,_,_,_,S,_,T,_,_⟩
     ·rw[q]at R;cases R
      have f:(execOp ρ o).run C.P w= .ok (.value (if c then .tuple #[z', .bool false]else z')) w:=by
       simp only[execOp,ho,Instr.lookup,Sem.run_bind,run_underlying Q,Result.andThen_ok,m,n,Sem.run_pure,F,I,ae]
      rw[f];refine .same V hK (.d ?_);cases c
      ·exact oZ A
      ·exact .tup (.cons (oZ A) (.cons (.bool _) .nil))
     ·rw[q]at T;cases T
      have f:(execOp ρ o).run C.P w= .ok (.value (if c then .tuple #[u, .bool true]else u)) w:=by
       simp only[execOp,ho,Instr.lookup,Sem.run_bind,run_underlying Q,Result.andThen_ok,m,n,Sem.run_pure,F,I]
      rw[f];refine .same V hK (.d ?_);cases c
      ·exact S
      ·exact .tup (.cons S (.cons (.bool _) .nil))
    simp only[ay]at h
    split at h
    ·rename_i l k
     obtain⟨v,u',G,hr,s⟩:=gU U;simp only[List.cons.injEq,and_true]at G;obtain⟨rfl,rfl⟩:=G
     split at h
     ·rename_i r D q
      have hm:=hr.toD;generalize m:ρ x=vv at hm;cases hm with
      |map W ai Y hv=>exact p _ _ _ l k r m W Y hv s.toD D q h
     ·exact h.elim
    ·rename_i b k
     obtain⟨v,u',G,hr,s⟩:=gU U;simp only[List.cons.injEq,and_true]at G;obtain⟨rfl,rfl⟩:=G
     split at h
     ·rename_i l B
      split at h
      ·rename_i r D q
       obtain⟨a,es,clock,R,q2,q3,S,q5,T⟩:=Xi V B hr;exact p _ _ _ l k r R S q5 T s.toD D q h
      ·exact h.elim
     ·exact h.elim
    ·exact h.elim
   ·cases A
  ·cases A
 ·cases g
def aes {t:TypeId}(ho:o.op= .mapUpdate t x i y){args:List PV}(hS:Sim C X w M E)(hA:aT w (away X M E) M E ((opsOf o.op).map ρ) args)
  (g:aW C.P (.mapUpdate t x i y) (.abV ks)=true){base:Nat}(h:ay C base (.abV ks) args M K KP):iy C X w M E K KP ((execOp ρ o).run C.P w):=by
 simp only[aW]at g
 split at g
 ·rename_i ab e I
  simp only[ho,opsOf,J,Z]at hA;simp only[ay]at h
  split at h
  ·rename_i b k v
   obtain⟨v1,v2,v3,he,hr,r,H⟩:=Jk hA;simp only[List.cons.injEq,and_true]at he;obtain⟨rfl,rfl,rfl⟩:=he
   split at h
   ·rename_i l A
    obtain⟨S,h⟩:=h
    split at h
    ·rename_i Y hc F
     obtain⟨c,es,clock,N,Q,R,O,U,W⟩:=Xi hS A hr;obtain⟨L⟩:=abL (P:=C.P) g r.toD hc;obtain⟨z,g1,g2⟩:=JJ L es.toList l 0 U W (Z9 F);have B:=L.check false;have p:=L.find g1;have m:(getObj c).run C.P w= .ok (.map es clock) w:=by simp[getObj,Sem.run,O]
     have G:=dh O;have n:∀o':Obj,(setObj c o').run C.P w= .ok () {w with heap:=w.heap.setIfInBounds c o'}:=fun o'=>by simp[setObj,Sem.run,O]
     have s:∀(d:Array MapEntry) (a:Nat),bn w (away X M E) (d.toList.map (·.key)) (Y.map (·.1))->bn w (away X M E) (d.toList.map (·.val)) (Y.map (·.2))->
       iy C X w M E K KP (.ok .skip {w with heap:=w.heap.setIfInBounds c (.map d a)}):=by
      intro d a p1 p2;obtain⟨s1,s2⟩:=LW (cs':=[.jr Y]) hS R S rfl rfl Q (Lp w c (.map d a) G) fun hf=>⟨d,a,by simp[G],p1.from hf,p2.from hf⟩
      exact⟨_,_,h,s1,s2⟩
     rcases g2 with⟨rfl,_,q2,_⟩|⟨j,u,en,dk,dv,rfl,q1,q2,q3,q4,q5,_,q7,_⟩
     ·rw[q2]at F;cases F
      have f:(execOp ρ o).run C.P w= .ok .skip {w with heap:=w.heap.setIfInBounds c (.map (es.push {key:=ρ i,val:=ρ y,born:=clock}) (clock+1))}:=by
       simp only[execOp,ho,Instr.mapUpdate,Sem.run_bind,run_underlying I,Result.andThen_ok,N,m,B,p,n];simp[Sem.run_pure]
      rw[f];refine s _ _ ?_ ?_
      ·simpa using U.append (.cons r.toD .nil)
      ·simpa using W.append (.cons H.toD .nil)
     ·rw[q7]at F;cases F
      have T:es[j]?=some en:=by simpa using q1
      have D:j<es.size:=dh T;have ahr:(Instr.keyThatStays (((es[j]?).map (·.key)).getD (ρ i)) (ρ i)).run C.P w= .ok (ρ i) w:=by
       simp only[T,a6,am];exact L.stays q3 q5
      have f:(execOp ρ o).run C.P w= .ok .skip {w with heap:=w.heap.setIfInBounds c (.map (es.modify j fun e=>{e with key:=ρ i,val:=ρ y}) clock)}:=by
       simp only[aM]at p;simp only[execOp,ho,Instr.mapUpdate,Sem.run_bind,run_underlying I,Result.andThen_ok,N,m,B,p,ahr,n];simp[Sem.run_pure]
      rw[f];have hm:(es.modify j fun e=>{e with key:=ρ i,val:=ρ y}).toList=es.toList.set j {en with key:=ρ i,val:=ρ y}:=by
       apply bX;intro q;rw[ap];simp only[aD,bw]
       by_cases V:j=q
       ·subst V;rw[if_pos rfl,if_pos rfl,T,if_pos (by simpa using D)];rfl
       ·rw[if_neg V,if_neg V]
      refine s _ _ ?_ ?_
      ·rw[hm,az,az];exact U.set j r.toD
      ·rw[hm,az,az];exact W.set j H.toD
    ·exact h.elim
   ·exact h.elim
  ·exact h.elim
 ·cases g
def aeo {argTypes:Array TypeId}{ass:Array Operand}(ho:o.op= .call {callee:= .builtin .delete,args:=ass,argTypes}){args:List PV}(Y:Sim C X w M E)(W:aT w (away X M E) M E ((opsOf o.op).map ρ) args)
  (f:aW C.P (.call {callee:= .builtin .delete,args:=ass,argTypes}) (.abT ks)=true){base:Nat}(h:ay C base (.abT ks) args M K KP):iy C X w M E K KP ((execOp ρ o).run C.P w):=by
 simp only[aW,H,beq_iff_eq]at f;obtain⟨h1,f⟩:=f;simp only[ho,opsOf]at W;simp only[ay]at h
 split at f
 ·rename_i T e i
  split at h
  ·rename_i b k
   obtain⟨v1,F,he,hr,R⟩:=gU W;have G:ass.map ρ= #[v1,F]:=by apply bc;simpa using he
   split at h
   ·rename_i l x
    obtain⟨O,h⟩:=h
    split at h
    ·rename_i U hc A
     obtain⟨s,D,rfl⟩:∃s D,argTypes= #[s,D]:=by
      obtain⟨l⟩:=argTypes
      match l,h1 with
      | [t,u],_=>exact⟨t,u,rfl⟩
     have i:C.P.underlying s=some (.map T e):=by simpa using i
     obtain⟨a,es,clock,rfl,J,N,I,Q,S⟩:=Xi Y x hr;obtain⟨L⟩:=abL (P:=C.P) f R.toD hc;obtain⟨z,g1,g2⟩:=JJ L es.toList l 0 Q S (Z8 A);have y:=L.check es.isEmpty;have q:=L.find g1;have n:(getObj a).run C.P w= .ok (.map es clock) w:=by simp[getObj,Sem.run,I]
     have B:=dh I;have p:∀V:Obj,(setObj a V).run C.P w= .ok () {w with heap:=w.heap.setIfInBounds a V}:=fun V=>by simp[setObj,Sem.run,I]
     have m:∀{r:Value} {w':World},(Builtin.delete_ #[s,D] o.type #[.map (some a),F]).run C.P w= .ok r w'->(execOp ρ o).run C.P w= .ok (.value r) w':=by
      intro r w' hh;simp[execOp,ho,G,hh,go_sem]
     have v:∀(c:Array MapEntry),bn w (away X M E) (c.toList.map (·.key)) (U.map (·.1))->bn w (away X M E) (c.toList.map (·.val)) (U.map (·.2))->
       iy C X w M E K KP (.ok (.value (.tuple #[])) {w with heap:=w.heap.setIfInBounds a (.map c clock)}):=by
      intro c p1 p2;obtain⟨s1,s2⟩:=LW (cs':=[.jr U]) Y N O rfl rfl J (Lp w a (.map c clock) B) fun Z=>⟨c,clock,by simp[B],p1.from Z,p2.from Z⟩
      exact⟨_,_,_,h,s1,s2, .d (.tup .nil)⟩
     rcases g2 with⟨rfl,_,_,q3⟩|⟨j,u,en,dk,dv,rfl,q1,q2,_,_,_,_,_,q8⟩
     ·rw[q3]at A;cases A
      have g:(Builtin.delete_ #[s,D] o.type #[.map (some a),F]).run C.P w= .ok (.tuple #[]) {w with heap:=w.heap.setIfInBounds a (.map es clock)}:=by
       simp[Builtin.delete_,Sem.run_bind,run_underlying i,n,y,q,p]
      rw[m g];exact v _ Q S
     ·rw[q8]at A;cases A
      have g:(Builtin.delete_ #[s,D] o.type #[.map (some a),F]).run C.P w= .ok (.tuple #[]) {w with heap:=w.heap.setIfInBounds a (.map (es.eraseIdxIfInBounds j) clock)}:=by
       simp only[aM]at q;simp[Builtin.delete_,Sem.run_bind,run_underlying i,n,y,q,p]
      rw[m g];have hm:(es.eraseIdxIfInBounds j).toList=es.toList.eraseIdx j:=by simp
      refine v _ ?_ ?_
      ·rw[hm,map_eraseIdx,map_eraseIdx];exact Q.eraseIdx j
      ·rw[hm,map_eraseIdx,map_eraseIdx];exact S.eraseIdx j
    ·exact h.elim
   ·exact h.elim
  ·exact h.elim
 ·cases f
end
structure Lo where
 n:Nat
 ds:List Deferred
 ex:Bool
 fx:Option (Nat×Value)
section
variable {C:Ctx}{X:Nat->Prop}{w:World}{M:Mem}{E:Emb}{K:PV->Mem->Prop}{KP:DV->Mem->Prop}{lo:Lo}{ro:Option Nat}
def Uu {ρ:Operand->Value}(g:∀f,ρ (.func f)= .func (.func f) #[] #[])(e:∀v,ρ (.const v)=v){o:Oper}{op:Op}{p:POp}(ho:o.op=op){args:List PV}(d:Sim C X w M E)(c:aT w (away X M E) M E ((opsOf o.op).map ρ) args)
  (b:aW C.P op p=true){base:Nat}(h:ay C base p args M K KP):iy C X w M E K KP ((execOp ρ o).run C.P w):=by
 have a:=b;unfold aW at b
 split at b
 ·exact Yg (.inl ho) d c h
 ·exact Yg (.inr ho) d c h
 ·exact UM (.inl ho) d c h
 ·exact UM (.inr ho) d c h
 ·exact aew ho d c h
 ·exact aaM ho d a h
 ·exact agw ho d c h
 ·exact aaN ho d c a h
 ·exact aer ho d c a h
 ·exact aen ho d c b h
 ·exact aaV ho d c a h
 ·exact aaT ho d c h
 ·exact agv ho d c a h
 ·exact aeg ho d c a h
 ·exact aaQ ho e d c a h
 ·exact ajK ho d c a h
 ·exact aeh ho d c a h
 ·exact agB ho d c a h
 ·exact agA ho d c a h
 ·exact aeA ho d c a h
 ·exact aez ho d c a h
 ·exact Xz ho d c a h
 ·exact aei ho d c a h
 ·exact aej ho d c a h
 ·exact aek ho d c a h
 ·exact ael ho d c a h
 ·exact agx ho d c a h
 ·simp only[H,beq_iff_eq]at b
  obtain⟨rfl,b⟩:=b;exact AZ ho (g _) c b h
 ·simp only[H,beq_iff_eq]at b
  obtain⟨rfl,b⟩:=b;exact AZ ho (g _) c b (Z7 h)
 ·simp only[H,beq_iff_eq]at b
  obtain⟨rfl,b⟩:=b;exact AZ ho (g _) c b (wV h)
 ·simp only[H,beq_iff_eq]at b
  obtain⟨rfl,b⟩:=b;exact AZ ho (g _) c b (wV (XA h))
 ·simp only[H,beq_iff_eq]at b
  obtain⟨rfl,b⟩:=b;exact AZ ho (g _) c b (wV (LM h))
 ·exact aaO ho d c h
 ·exact Yd ho d c a h
 ·exact aef ho d c a h
 ·exact agz ho d c a h
 ·exact aem ho d c a h
 ·subst b
  exact N9 ho (.inl ⟨rfl,rfl⟩) d (by simpa[ho,opsOf]using c) h
 ·simp only[ab]at b
  subst b;exact N9 ho (.inr ⟨rfl,rfl⟩) d (by simpa[ho,opsOf]using c) h
 ·exact aaU ho d c h
 ·exact agu ho d c a h
 ·exact agD ho d c a h
 ·exact Ye ho e d c a h
 ·exact aex ho d c a h
 ·exact aev ho d c a h
 ·exact agy ho c a h
 ·exact agC ho d c a h
 ·exact aaR ho d h
 ·exact aeu ho d c a h
 ·exact Yf ho e d c a h
 ·exact aaP ho d c a h
 ·exact aey ho d c a h
 ·exact aep ho d c a h
 ·exact aes ho d c a h
 ·exact aeo ho d c a h
 ·exact aaS ho d c a h
 ·cases b
def Zh:Operand->Opd->Bool
 | .tmp m, .t k=>m==k
 | .const v, .c x=>oD x v
 | .func f, .c (.func (.func a) [] [])=>f==a
 | _,_=>false
def Nv:List Operand->List Opd->Bool
 | [],[]=>true
 |x::xs,y::ys=>Zh x y&&Nv xs ys
 | _,_=>false
def okM (n:Nat)(X:Nat->Prop)(ds:List Deferred)(w:World):Prop:=
 (∀d∈ds,∃D,d.target= .collected D/\n<=D/\X D/\w.heap[D]?=some (.deferred (some [])))/\ds.Pairwise (fun d a=>d.target≠a.target)
def okD (lo:Lo)(X:Nat->Prop)(ds:List Deferred)(w:World):Prop:=∃ms,ds=ms++lo.ds/\okM lo.n X ms w/\(lo.ex=true->ms=[])
def akQ {n:Nat}{X:Nat->Prop}{w:World}:okM n X [] w:=⟨fun _ h=>by simp at h, .nil⟩
variable{ds:List Deferred}{ex:Bool}{fx:Option (Nat×Value)}
def Dp {n:Nat}{X:Nat->Prop}{w:World}:okD ⟨n,ds,ex,fx⟩ X ds w:=⟨[],rfl,akQ,fun _=>rfl⟩
def Sim.Jh (h:Sim C X w M E){b:Nat}(ho:owned M E b):¬X b:=by
 rcases ho with⟨i,cs,h1,_,h2⟩|⟨k,A,o,e,h1,_,h2⟩
 ·obtain⟨c,a,d,_⟩:=h.box i cs h1
  rw[h2]at a;cases a;exact d
 ·exact((h.arr k A h1).2.2.2 _ _ _ h2).1
variable{w':World}
def okM.keep {n:Nat}(h:okM n X ds w)(hk:∀b o,X b->w.heap[b]?=some o->w'.heap[b]?=some o):okM n X ds w':=
 ⟨fun d hd=>by obtain⟨D,h1,h2,a,c⟩:=h.1 d hd;exact⟨D,h1,h2,a,hk D _ a c⟩,h.2⟩
def okD.keep {lo:Lo}{ds:List Deferred}{w':World}(h:okD lo X ds w)(hk:∀b o,X b->w.heap[b]?=some o->w'.heap[b]?=some o):okD lo X ds w':=by
 obtain⟨ms,h1,h2,a⟩:=h;exact⟨ms,h1,h2.keep hk,a⟩
def okD.from {lo:Lo}{M':Mem}{E':Emb}(h:okD lo X ds w)(a:Sim C X w M E)(hf:From w M E w' M' E'):okD lo X ds w':=
 h.keep fun b o e d=>hf.keep b o (fun c=>a.Jh c e) d
def RF (ro:Option Nat):Fence:={Fence.wide with round:=ro}
variable{P:Program}{f:FuncId}
def Qz {ro:Option Nat}{n:Nat}{args:Array Value}{w:World}{R:Ending->World->Prop}(h:Calls P f args w R):CallsIn (RF ro) n P f args w R:=(callsIn_wide (n:=n)).2 h
structure InS (C:Ctx) (X:Nat->Prop) (lo:Lo) (n:Nat) (s:St) (a:Act) (w:World) (E:Emb):Prop where
 sim:Sim C X w s.mem E
 env:∀t,Rep w (away X s.mem E) s.mem E (a.eval (.tmp t)) (look s.env t)
 size:a.tmps.size=n
 defers:okD lo X a.defers w
 fix:∀q,lo.fx=some q->a.eval (.tmp q.1)=q.2
variable{s:St}{a:Act}
def XM {n:Nat}(h:InS C X lo n s a w E){x:Operand}{y:Opd}(b:Zh x y=true):Rep w (away X s.mem E) s.mem E (a.eval x) (s.val y):=by
 unfold Zh at b
 split at b
 ·simp only[beq_iff_eq]at b;subst b;exact h.env _
 ·exact .d (oZ b)
 ·simp only[beq_iff_eq]at b
  subst b;exact .d (.func .nil .nil)
 ·cases b
def aax {n:Nat}{s:St}{a:Act}(h:InS C X lo n s a w E):∀{xs:List Operand} {ys:List Opd},Nv xs ys=true->aT w (away X s.mem E) s.mem E (xs.map a.eval) (ys.map s.val)
 | [],[],_=> .nil
 |x::xs,y::ys,b=>by
  simp only[Nv,H]at b;exact .cons (XM h b.1) (aax h b.2)
 | [],_::_,b=>by simp[Nv]at b
 | _::_,[],b=>by simp[Nv]at b
def sW {d t:Nat}{v:Value}:(a.put (some d) v).eval (.tmp t)=if t=d/\d<a.tmps.size then v else a.eval (.tmp t):=by
 simp only[Act.put,Act.eval,aE,Array.getElem?_setIfInBounds]
 by_cases h:d=t
 ·subst h
  by_cases h2:d<a.tmps.size
  ·simp[h2]
  ·simp[h2]
 ·have:¬t=d:=fun e=>h e.symm
  simp[h,this]
def InS.put {n:Nat}{s:St}{a:Act}{M':Mem}{w':World}{E':Emb}(h:InS C X lo n s a w E)(f:Sim C X w' M' E')(hf:From w s.mem E w' M' E'){dst:Option Nat}(b:∀q,lo.fx=some q->dst≠some q.1)(hd:dst.all (·<n)=true){v:Value}{p:PV}
  (g:dst.isSome=true->Rep w' (away X M' E') M' E' v p):InS C X lo n ⟨put s.env dst p,M'⟩ (a.put dst v) w' E':={
 sim:=f
 env:=fun t=>by
  cases dst with
  |none=>simpa[Am.put,Act.put]using(h.env t).from hf
  |some d=>
   simp only[Option.all_some,decide_eq_true_eq]at hd;rw[sW];simp only[Am.put,look]
   by_cases hdt:t=d
   ·subst hdt
    simp only[beq_self_eq_true,cond_true,true_and,h.size,hd,if_true];exact g rfl
   ·have:(d==t)=false:=by simp;exact fun e=>hdt e.symm
    simp only[this,cond_false,hdt,false_and,if_false];exact(h.env t).from hf
 size:=by cases dst<;>simp[Act.put,h.size]
 defers:=by
  have:(a.put dst v).defers=a.defers:=by cases dst<;>rfl
  rw[this];exact h.defers.from h.sim hf
 fix:=fun q c=>by
  cases dst with
  |none=>exact h.fix q c
  |some d=>
   rw[sW,if_neg fun hh=>b q c (by rw[<-hh.1])];exact h.fix q c}
def InS.later {n:Nat}{s:St}{a:Act}{w':World}(h:InS C X lo n s a w E)(hl:Later w w'):InS C X lo n s a w' E:={
 sim:=h.sim.later hl
 env:=fun t=>(h.env t).from (hl.from s.mem E)
 size:=h.size
 defers:=h.defers.from h.sim (hl.from s.mem E)
 fix:=h.fix}
def Post (C:Ctx)(X:Nat->Prop)(n:Nat)(w₀:World)(M₀:Mem)(E₀:Emb)(e:List Deferred)(ex:Bool)(fx:Option (Nat×Value))(Q:Ex->St->Prop):Exit->Act->World->Prop
 | .normal,a,w=>∃(c:Nat->Prop) (s:St) (E:Emb),(∀b,X b->c b)/\Q .normal s/\InS C c ⟨w₀.heap.size,e,ex,fx⟩ n s a w E/\From w₀ M₀ E₀ w s.mem E
 | .exit id,a,w=>∃(c:Nat->Prop) (s:St) (E:Emb),(∀b,X b->c b)/\Q (.exit id) s/\InS C c ⟨w₀.heap.size,e,ex,fx⟩ n s a w E/\From w₀ M₀ E₀ w s.mem E
 | .ret,a,w=>∃(c:Nat->Prop) (s:St) (E:Emb),(∀b,X b->c b)/\Q .ret s/\InS C c ⟨w₀.heap.size,e,ex,fx⟩ n s a w E/\From w₀ M₀ E₀ w s.mem E
 | .panic chain,a,w=>∃(c:Nat->Prop) (v:Value) (d:DV) (M:Mem) (E:Emb),(∀b,X b->c b)/\chain=[{v,recovered:=false}]/\Q (.panic d) ⟨[],M⟩/\Sim C c w M E/\From w₀ M₀ E₀ w M E/\bU w (away c M E) v d/\okD ⟨w₀.heap.size,e,ex,fx⟩ c a.defers w/\(∀q,fx=some q->a.eval (.tmp q.1)=q.2)
 | _,_,_=>False
def Post.up {X':Nat->Prop}{n:Nat}{w₀:World}{M₀:Mem}{E₀:Emb}{i:List Deferred}{Q:Ex->St->Prop}(hx:∀b,X b->X' b){e:Exit}{a:Act}(h:Post C X' n w₀ M₀ E₀ i ex fx Q e a w):Post C X n w₀ M₀ E₀ i ex fx Q e a w:=by
 cases e with
 |normal=>obtain⟨f,s,E,h1,h2⟩:=h;exact⟨f,s,E,fun b g=>h1 b (hx b g),h2⟩
 |exit id=>obtain⟨f,s,E,h1,h2⟩:=h;exact⟨f,s,E,fun b g=>h1 b (hx b g),h2⟩
 |ret=>obtain⟨f,s,E,h1,h2⟩:=h;exact⟨f,s,E,fun b g=>h1 b (hx b g),h2⟩
 |panic c=>obtain⟨f,v,d,M,E,h1,h2⟩:=h;exact⟨f,v,d,M,E,fun b g=>h1 b (hx b g),h2⟩
 |goto l=>exact h.elim
 |outgrown=>exact h.elim
def Xk {op:Op}{p:POp}(h:aW P op p=true):∀c,op≠ .defer c:=by
 rintro c rfl;simp[aW]at h
def adw (ops:Array Oper)(g:Option (Nat×Bool))(c:Option (Nat×Bool)):Bool:=
 match g,c with
 |none,none=>true
 |some (j,b),some (t,a)=>b==a&&decide ((ops[j]?).bind (·.dst)=some t)
 | _,_=>false
def ahW (P:Program)(n:Nat)(ops:Array Oper)(o:Oper)(p:PO):Bool:=
 aW P o.op p.op&&Nv (opsOf o.op) p.args&&decide (o.dst=p.dst)&&p.dst.all (·<n)&&adw ops o.guard p.g
def PO.plain (p:PO):PO:=match p.op with| .D8 _ _ f=>{p with op:= .call f,args:=p.args.tail}| .Jz f=>{p with op:= .call f}| _=>p
def POp.noK:POp->Bool| .D8 _ _ _=>false| .Jz _=>false| _=>true
def ahV (P:Program)(n:Nat)(ops:Array Oper)(o:Oper)(p:PO):Bool:=ahW P n ops o p.plain&&(decide (p.fl=0)||p.op.noK)
def SC.mono {f:FuncId}{args:List PV}{M:Mem}{K d:PV->Mem->Prop}{KP:DV->Mem->Prop}(h:SC C f args M K KP)(hk:∀v M',K v M'->d v M'):SC C f args M d KP:=by
 intro X w E a i g;refine(h X w E a i g).mono fun e w' b=> ?_
 cases e with
 |returned v=>
  obtain⟨p,M',E',h1,h2⟩:=b;exact⟨p,M',E',hk _ _ h1,h2⟩
 |panicked c=>exact b
 |outgrown=>exact b
variable{agg:Bool}
def akG {n:Nat}{x:PV}{M:Mem}{K:PV->Prop}(h:cO agg n x M K):∃v,K v:=by
 unfold cO at h
 split at h
 ·split at h
  ·exact⟨_,h.2⟩
  ·exact h.elim
 ·exact⟨_,h.2⟩
 ·split at h
  ·exact⟨_,h.2⟩
  ·exact h.elim
 ·exact h.elim
variable{base:Nat}
def Qy {n:Nat}{args:List PV}(h:ay C base (.D8 agg n f) args M K KP):ay C base (.call f) args.tail M K KP:=by
 cases args with
 |nil=>simp only[ay]at h
 |cons a b=>
  simp only[ay]at h;obtain⟨v,h⟩:=akG h;simp only[ay,List.tail_cons];exact SC.mono h fun p c hh=>hh.2
def afs {p:PO}{K:St->Prop}(h:fE C base p K KP s)(b:p.plain.op=p.op\/yF base p.fl (p.args.tail.map s.val)):fE C base p.plain K KP s:=by
 unfold PO.plain at b⊢
 split
 ·rename_i agg n f a
  have b:=b.resolve_left (by rw[a];simp);unfold fE at h⊢;simp only;cases c:p.g with
  |none=>
   rw[c]at h;simp only[a]at h⊢;refine⟨b,?_⟩;have:=Qy h.2
   rwa [<-cj]at this
  |some q=>
   rw[c]at h;obtain⟨t,e⟩:=q;simp only[a]at h⊢
   split at h
   ·refine⟨fun i=>⟨b,?_⟩,h.2⟩
    have:=Qy (h.1 i).2
    rwa [<-cj]at this
   ·exact h
   ·exact h.elim
 ·rename_i f a
  have d:∀{j:PV->Mem->Prop},ay C base (.Jz f) (p.args.map s.val) s.mem j KP->ay C base (.call f) (p.args.map s.val) s.mem j KP:=fun⟨_,h1,_,k⟩=>SC.mono h1 k
  unfold fE at h⊢;simp only;cases c:p.g with
  |none=>
   rw[c]at h;simp only[a]at h⊢;exact⟨h.1,d h.2⟩
  |some q=>
   rw[c]at h;obtain⟨t,e⟩:=q;simp only[a]at h⊢
   split at h
   ·exact⟨fun i=>⟨(h.1 i).1,d (h.1 i).2⟩,h.2⟩
   ·exact h
   ·exact h.elim
 ·exact h
variable{ops:Array Oper}
def afn {n:Nat}(ac:∀q,lo.fx=some q->∀o∈ops,o.dst≠some q.1){i:Nat}{o:Oper}{p:PO}(hi:ops[i]?=some o)(W:ahW C.P n ops o p=true){s:St}{a:Act}(h:InS C X lo n s a w E){base:Nat}{K:St->Prop}{KP:DV->Mem->Prop}
  (B:fE C base p K KP s){next:Act->World->Prop}{Q:Exit->Act->World->Prop}
  (O:∀s' N w' E',K s'->InS C X lo n s' N w' E'->From w s.mem E w' s'.mem E'->next N w')
  (G:∀d M' N w' E' v,KP d M'->Sim C X w' M' E'->From w s.mem E w' M' E'->bU w' (away X M' E') v d->okD lo X N.defers w'->(∀q,lo.fx=some q->N.eval (.tmp q.1)=q.2)->Q (.panic [{v,recovered:=false}]) N w'):
  wpOpIn (RF ro) 0 C.P ops Q i next a w:=by
 simp only[ahW,H,decide_eq_true_eq]at W;obtain⟨⟨⟨⟨hk,ha⟩,hd⟩,R⟩,V⟩:=W;have hA:=aax h ha;have g:∀q,lo.fx=some q->p.dst≠some q.1:=fun q T=>by rw[<-hd];exact ac q T o (Array.mem_of_getElem? hi)
 have D:ay C base p.op (p.args.map s.val) s.mem (fun v M=>K ⟨put s.env p.dst v,M⟩) KP->o.wpIn (RF ro) 0 C.P a w next Q:=by
  intro ae;have:=Uu (ρ:=a.eval) (fun f=>rfl) (fun v=>rfl) (o:=o) rfl h.sim hA hk ae;unfold Oper.wpIn;refine⟨fun _ _=>trivial,?_⟩;rw[Oper.semAt_eq _ _ _ (Xk hk)];generalize (execOp a.eval o).run C.P w=r at this;cases r with
  |ok nx w'=>
   cases nx with
   |value v=>
    obtain⟨pv,M',E',h1,h2,U,h4⟩:=this;simp only[Oper.uponIn_value];rw[hd];exact O _ _ _ _ h1 (h.put h2 U g R (fun _=>h4)) U
   |skip=>
    obtain⟨M',E',h1,h2,U⟩:=this;simp only[Oper.uponIn_skip];rw[hd];exact O _ _ _ _ h1 (h.put h2 U g R (fun _=> .dead)) U
   |enter f args=>
    obtain⟨rfl,ps,h1,h2⟩:=this;simp only[Oper.uponIn_enter];have:=h1 X w' E args.toList h.sim h2;refine⟨fun h=>by simp[RF,Fence.wide]at h,CallsIn.mono (Qz (ro:=ro) (by simpa using this)) fun e L I=> ?_⟩;cases e with
    |returned v=>
     obtain⟨pv,M',E',m,y,b,z⟩:=I
     show next (a.put o.dst v) L
     rw[hd];exact O _ _ _ _ m (h.put y b g R (fun _=>z)) b
    |panicked chain=>
     obtain⟨v,d,M',E',rfl,m,y,b,z⟩:=I;exact G _ _ _ _ _ _ m y b z (h.defers.from h.sim b) h.fix
    |outgrown=>exact I.elim
   |round l f ao ass an=>
    obtain⟨rfl,h1⟩:=this;simp only[Oper.uponIn_round];refine⟨fun h=>by simp[RF,Fence.wide]at h,RoundIn.mono (F:=RF ro) (n:=0 - 1) h1 fun e L I=> ?_⟩;cases e with
    |returned v=>
     obtain⟨pv,M',E',m,y,b,z⟩:=I
     show next (a.put o.dst v) L
     rw[hd];exact O _ _ _ _ m (h.put y b g R (fun _=>z)) b
    |panicked chain=>
     obtain⟨v,d,M',E',rfl,m,y,b,z⟩:=I;exact G _ _ _ _ _ _ m y b z (h.defers.from h.sim b) h.fix
    |outgrown=>exact I.elim
   | _=>exact this.elim
  |halt x w'=>
   cases x with
   |panic v=>
    obtain⟨d,M',E',m,y,b,z⟩:=this;exact G _ _ _ _ _ _ m y b z (h.defers.from h.sim b) h.fix
   | _=>exact this.elim
 unfold wpOpIn;simp only[hi];unfold fE at B;unfold adw at V
 split at V
 ·rename_i A J
  simp only[J]at B;have Z:Region.wanted o (yielded ops a.tmps)=true:=by simp[Region.wanted,A]
  simp only[Z,if_true];exact D B.2
 ·rename_i j c t ai A J
  simp only[H,beq_iff_eq,decide_eq_true_eq]at V;obtain⟨rfl,hj⟩:=V;simp only[J]at B
  split at B
  ·rename_i x hx
   obtain⟨r1,r2⟩:=B;have Y:=h.env t;rw[hx]at Y;have k:=Y.toD.tX;have hy:yielded ops a.tmps j=some x:=by
    simp only[yielded,hj,cb];simp only[Act.eval,aE]at k;cases T:a.tmps[t]? with
    |none=>rw[T]at k;simp[undef]at k
    |some u=>rw[T]at k;simp at k;simp[k]
   have Z:Region.wanted o (yielded ops a.tmps)=(x==c):=by simp[Region.wanted,A,hy]
   rw[Z]
   by_cases ab:x=c
   ·subst ab
    simp only[beq_self_eq_true,if_true];exact D (r1 rfl).2
   ·have:(x==c)=false:=by simp[ab]
    simp only[this,S,if_false];rw[hd];refine⟨fun _ _=>trivial,?_⟩;exact O _ _ _ _ (r2 (by cases x<;>cases c<;>simp_all)) (h.put h.sim (.refl _ _ _) g R (fun _=> .d (.tup .nil))) (.refl _ _ _)
  ·rename_i hx
   have Y:=h.env t;rw[hx]at Y;have hy:yielded ops a.tmps j=none:=by
    simp only[yielded,hj,cb];have k:=Y.toD;simp only[Act.eval,aE]at k;cases T:a.tmps[t]? with
    |none=>rfl
    |some u=>
     rw[T]at k;simp only[am]at k;cases k
     rfl
   have Z:Region.wanted o (yielded ops a.tmps)=false:=by simp[Region.wanted,A,hy]
   simp only[Z,S,if_false];rw[hd];refine⟨fun _ _=>trivial,?_⟩;exact O _ _ _ _ B (h.put h.sim (.refl _ _ _) g R (fun _=> .d (.tup .nil))) (.refl _ _ _)
  ·exact B.elim
 ·cases V
def Zm {n:Nat}(j:∀q,lo.fx=some q->∀o∈ops,o.dst≠some q.1){i:Nat}{o:Oper}{p:PO}(hi:ops[i]?=some o)(b:ahV C.P n ops o p=true){s:St}{a:Act}(h:InS C X lo n s a w E){base:Nat}{K:St->Prop}{KP:DV->Mem->Prop}
  (m:fE C base p K KP s){next:Act->World->Prop}{Q:Exit->Act->World->Prop}
  (l:∀k e w' E',K k->InS C X lo n k e w' E'->From w s.mem E w' k.mem E'->next e w')
  (g:∀d M' e w' E' v,KP d M'->Sim C X w' M' E'->From w s.mem E w' M' E'->bU w' (away X M' E') v d->okD lo X e.defers w'->(∀q,lo.fx=some q->e.eval (.tmp q.1)=q.2)->Q (.panic [{v,recovered:=false}]) e w'):
  wpOpIn (RF ro) 0 C.P ops Q i next a w:=by
 simp only[ahV,H,Bool.or_eq_true,decide_eq_true_eq]at b;refine afn j hi b.1 h (afs m ?_) l g
 rcases b.2 with h2|h2
 ·exact .inr (by rw[h2];trivial)
 ·refine .inl ?_
  unfold PO.plain
  split
  ·rename_i agg n f c
   rw[c]at h2;cases h2
  ·rename_i f c
   rw[c]at h2;cases h2
  ·rfl
def Vu {n:Nat}{ops:Array Oper}(e:∀q,lo.fx=some q->∀o∈ops,o.dst≠some q.1){base:Nat}{K:St->Prop}{KP:DV->Mem->Prop}{Q:Exit->Act->World->Prop}{w₀:World}{M₀:Mem}{E₀:Emb}
  (u:∀g b w' E',K g->InS C X lo n g b w' E'->From w₀ M₀ E₀ w' g.mem E'->Q .normal b w')
  (c:∀d M' b w' E' v,KP d M'->Sim C X w' M' E'->From w₀ M₀ E₀ w' M' E'->bU w' (away X M' E') v d->okD lo X b.defers w'->(∀q,lo.fx=some q->b.eval (.tmp q.1)=q.2)->Q (.panic [{v,recovered:=false}]) b w'):
  ∀(ps:List PO) (k:Nat),(∀(j:Nat) (p:PO),ps[j]?=some p->∃o,ops[k+j]?=some o/\ahV C.P n ops o p=true)->∀(s:St) (a:Act) (w:World) (E:Emb),InS C X lo n s a w E->From w₀ M₀ E₀ w s.mem E->
   wO C base ps K KP s->wpOpsIn (RF ro) 0 C.P ops Q (List.range' k ps.length) a w
 | [],_,_,s,a,w,E,h,i,r=>by
  simp only[List.length_nil,List.range'_zero,wpOpsIn];exact u s a w E r h i
 |p::ps,k,f,s,a,w,E,h,i,r=>by
  simp only[List.length_cons,List.range'_succ];rw[wpOpsIn_cons];obtain⟨o,A,B⟩:=f 0 p rfl;refine Zm e A B h r (fun g b w' E' t m l=> ?_) (fun d M' b w' E' v h1 h2 x y z=>c d M' b w' E' v h1 h2 (i.trans x) y z);refine Vu e u c ps (k+1) (fun j q D=> ?_) g b w' E' m (i.trans l) t;obtain⟨F,h1,h2⟩:=f (j+1) q (by simpa using D);exact⟨F,by rw[show k+1+j=k+(j+1) by omega];exact h1,h2⟩
def J6 (P:Program)(n:Nat)(ops:Array Oper):List Oper->List PO->Bool
 | [],[]=>true
 |o::os,p::a=>ahV P n ops o p&&J6 P n ops os a
 | _,_=>false
def GV {P:Program}{n:Nat}{ops:Array Oper}:∀{os:List Oper} {ps:List PO},J6 P n ops os ps=true->os.length=ps.length/\∀(j:Nat) (p:PO),ps[j]?=some p->∃o,os[j]?=some o/\ahV P n ops o p=true
 | [],[],_=>⟨rfl,fun j p h=>by simp at h⟩
 |o::os,p::ps,h=>by
  simp only[J6,H]at h;obtain⟨h1,h2⟩:=GV h.2;refine⟨by simp[h1],fun j q a=> ?_⟩;cases j with
  |zero=>simp at a;subst a;exact⟨o,rfl,h.1⟩
  |succ j=>simpa using h2 j q (by simpa using a)
 | [],_::_,h=>by simp[J6]at h
 | _::_,[],h=>by simp[J6]at h
def XQ {n:Nat}(e:∀q,lo.fx=some q->∀o∈ops,o.dst≠some q.1){ps:List PO}(f:J6 C.P n ops ops.toList ps=true){base:Nat}{K:St->Prop}{KP:DV->Mem->Prop}{Q:Exit->Act->World->Prop}
  {s:St}{a:Act}{w₀:World}{M₀:Mem}{E₀:Emb}(h:InS C X lo n s a w E)(hf:From w₀ M₀ E₀ w s.mem E)(r:wO C base ps K KP s)
  (l:∀g b w' E',K g->InS C X lo n g b w' E'->From w₀ M₀ E₀ w' g.mem E'->Q .normal b w')
  (c:∀d M' b w' E' v,KP d M'->Sim C X w' M' E'->From w₀ M₀ E₀ w' M' E'->bU w' (away X M' E') v d->okD lo X b.defers w'->(∀q,lo.fx=some q->b.eval (.tmp q.1)=q.2)->Q (.panic [{v,recovered:=false}]) b w'):
  wpOpsIn (RF ro) 0 C.P ops Q (List.range ops.size) a w:=by
 obtain⟨h1,h2⟩:=GV f;have:=Vu (ro:=ro) (C:=C) (X:=X) e l c ps 0 (fun j p m=>by
  obtain⟨o,i,k⟩:=h2 j p m;exact⟨o,by simpa using i,k⟩) s a w E h hf r
 rw[List.range_eq_range',show ops.size=ps.length by simpa using h1];exact this
end
section
variable {C:Ctx}{X:Nat->Prop}{w:World}{M:Mem}{E:Emb}{lo:Lo}
def iV {α:Type}{l:List α}{n i:Nat}{x:α}(h:(l.take n)[i]?=some x):i<n/\l[i]?=some x:=by
 rw[bk]at h
 split at h
 ·rename_i a;exact⟨a,h⟩
 ·cases h
def iH {α:Type}{l:List α}{n i:Nat}(h:i<n):(l.take n)[i]?=l[i]?:=by
 rw[bk,if_pos h]
def RJ {n m:Nat}{b:Nat}(h:owned ⟨M.boxes.take n,M.fz.filter (fun b=>decide (b<n)),M.aF.take m⟩ ⟨E.bx.take n,E.ar.take m⟩ b):owned M E b:=by
 rcases h with⟨i,cs,h1,h2,a⟩|⟨k,A,o,e,h1,h2,a⟩
 ·exact .inl ⟨i,cs,(iV h1).2,fun c=>h2 (List.mem_filter.2 ⟨c,by simpa using(iV h1).1⟩),(iV a).2⟩
 ·exact .inr ⟨k,A,o,e,(iV h1).2,h2,(iV a).2⟩
def Gy {n m:Nat}:∀b,away X ⟨M.boxes.take n,M.fz.filter (fun b=>decide (b<n)),M.aF.take m⟩ ⟨E.bx.take n,E.ar.take m⟩ b->away X M E b:=fun _ h=>h.imp id RJ
mutual
def Rep.take {n m:Nat}{O O':Nat->Prop}(f:∀b,O' b->O b):∀{v:Value} {p:PV},p.upto n m=true->Rep w O M E v p->Rep w O' ⟨M.boxes.take n,M.fz.filter (fun b=>decide (b<n)),M.aF.take m⟩ ⟨E.bx.take n,E.ar.take m⟩ v p
 | _,_,_, .d h=> .d (h.weaken f)
 | _,_,a, .ptr j i k=>by
  simp only[PV.upto,decide_eq_true_eq]at a;exact .ptr (by simp only[iH a];exact j) (by simp only[iH a];exact i) k
 | _,_,a, .mref j i k=>by
  simp only[PV.upto,decide_eq_true_eq]at a;exact .mref (by simp only[iH a];exact j) (by simp only[iH a];exact i) k
 | _,_,a, .qg j i k=>by
  simp only[PV.upto,decide_eq_true_eq]at a;exact .qg (by simp only[iH a];exact j) (by simp only[iH a];exact i) k
 | _,_,a, .yX j i k=>by
  simp only[PV.upto,decide_eq_true_eq]at a;exact .yX (by simp only[iH a];exact j) (by simp only[iH a];exact i) k
 | _,_,a, .jU r h=>by
  simp only[PV.upto,decide_eq_true_eq]at a;refine .jU (by simp;omega) fun A e=> ?_
  simp only[iH a]at e⊢;obtain⟨l,o⟩:=h A e;refine⟨l,fun s=> ?_⟩;obtain⟨c,t,u,g⟩:=o s;refine⟨c,t,u,?_⟩;cases c with
  |none=>exact bU.weaken f g
  |some q=>exact g
 | _,_,a, .tsl r h=>by
  simp only[PV.upto,decide_eq_true_eq]at a;refine .tsl (by simp;omega) fun A e=> ?_
  simp only[iH a]at e⊢;obtain⟨l,o⟩:=h A e;refine⟨l,fun s=> ?_⟩;obtain⟨c,t,u,g⟩:=o s;refine⟨c,t,u,?_⟩;cases c with
  |none=>exact bU.weaken f g
  |some q=>exact g
 | _,_,a, .psl r h=>by
  simp only[PV.upto,decide_eq_true_eq]at a;refine .psl (by simp;omega) fun A e=> ?_
  simp only[iH a]at e⊢;obtain⟨l,o⟩:=h A e;refine⟨l,fun s=> ?_⟩;obtain⟨c,t,u,g⟩:=o s;refine⟨c,t,u,?_⟩;cases c with
  |none=>exact bU.weaken f g
  |some q=>exact g
 | _,_,_, .dead=> .dead
 | _,_,a, .func h1 h2=>by
  simp only[PV.upto,H]at a;exact .func (aT.V6 f a.1 h1) (aT.V6 f a.2 h2)
 | _,_,a, .agg h=>by
  simp only[PV.upto]at a;exact .agg (aT.V6 f a h)
 | _,_,a, .tup h=>by
  simp only[PV.upto]at a;exact .tup (aT.V6 f a h)
def aT.V6 {n m:Nat}{O O':Nat->Prop}(c:∀b,O' b->O b):∀{v:List Value} {p:List PV},MB n m p=true->aT w O M E v p->aT w O' ⟨M.boxes.take n,M.fz.filter (fun b=>decide (b<n)),M.aF.take m⟩ ⟨E.bx.take n,E.ar.take m⟩ v p
 | _,_,_, .nil=> .nil
 | _,_,a, .cons h t=>by
  simp only[MB,H]at a;exact .cons (Rep.take c a.1 h) (aT.V6 c a.2 t)
end
def aaw {n m:Nat}:∀{cs:List PV},(∀c∈cs,c.upto n m=true)->MB n m cs=true
 | [],_=>rfl
 |c::cs,h=>by
  simp only[MB,H];exact⟨h c (by simp),aaw fun d hd=>h d (by simp[hd])⟩
variable{s:St}{a:Act}
def acS {k nb na:Nat}{x:St}{w₀:World}{M₀:Mem}{E₀:Emb}(h:InS C X lo k s a w E)(hf:From w₀ M₀ E₀ w s.mem E)(hb:M₀.boxes.length<=nb)(Q:M₀.aF.length<=na)(hw:Weak nb na s x):
  ∃E',InS C X lo k x a w E'/\From w₀ M₀ E₀ w x.mem E':=by
 rcases hw with rfl|hw
 ·exact⟨E,h,hf⟩
 obtain⟨n,m,S,R,i,u,q⟩:=hw;obtain⟨H,I⟩:=x;simp only at i;subst i;refine⟨⟨E.bx.take n,E.ar.take m⟩,?_,?_⟩
 ·exact
   {size:=h.size,defers:=h.defers,fix:=h.fix
    env:=fun t=>by
     rcases u t with hd|⟨r,F⟩
     ·simp only at hd⊢;rw[hd];exact .dead
     ·simp only at r F⊢
      rw[r]at F⊢;exact(h.env t).take Gy F
    sim:=
     {glob:=h.sim.glob,iW:=h.sim.iW,xlt:=h.sim.xlt
      iP:=by simp[h.sim.iP]
      bP:=by simp[h.sim.bP]
      box:=fun b cs f=>by
       obtain⟨h1,h2⟩:=iV f;obtain⟨d,q1,q2,q3⟩:=h.sim.box b cs h2;refine⟨d,by rw[iH h1];exact q1,q2,q3.move (fun _ B=>B) (fun b o hb B=>⟨B,fun h=>hb (Gy b h)⟩) fun vs U D G=>G.V6 Gy (aaw fun c L=> ?_)⟩;exact q (some cs) (bz f) c (by simpa using D c L)
      arr:=fun j A v=>by
       obtain⟨h1,h2⟩:=iV v;obtain⟨q1,q2,q3,G⟩:=h.sim.arr j A h2;refine⟨q1,q2,fun N=>by rw[iH h1];exact q3 N,fun d o e r=> ?_⟩;rw[iH h1]at r;obtain⟨r1,vs,T,r2,r3,r4,r5⟩:=G d o e r;exact⟨r1,vs,T,r2,r3,r4,r5.weaken Gy⟩
      bb:=fun b J cs cs' d h1 h2 l p=>h.sim.bb b J cs cs' d (iV h1).2 (iV h2).2 (iV l).2 (iV p).2
      aa:=fun j O A y d o e P K h1 h2 l p=>h.sim.aa j O A y d o e P K (iV h1).2 (iV h2).2 (iV l).2 (iV p).2
      ba:=fun b j cs A d o e h1 h2 l p=>h.sim.ba b j cs A d o e (iV h1).2 (iV h2).2 (iV l).2 (iV p).2}}
 ·exact
   {os:=hf.os,tape:=hf.tape,output:=hf.output,size:=hf.size,keep:=hf.keep
    own:=fun b z=>hf.own b (RJ z)
    iP:=by have:=hf.iP;simp only[bd];omega
    bx:=fun b cs f=>by
     have g:b<n:=bN (Y.1 f).1 (by omega);obtain⟨h1,cs',h2,l⟩:=hf.bx b cs f;exact⟨by rw[iH g];exact h1,cs',by rw[iH g];exact h2,l⟩
    bP:=by have:=hf.bP;simp only[bd];omega
    ar:=fun j y M v=>by
     have g:j<m:=by omega
     rw[iH g]at v⊢;exact hf.ar j y M v}
def InS.frz {k:Nat}{s:St}{a:Act}{t:Nat}{d:DV}(h:InS C X lo k s a w E)(hd:datum s.mem (look s.env t)=some d):
  InS C X lo k ⟨(t, .d d)::s.env,s.mem.frz [look s.env t]⟩ a w E/\From w s.mem E w (s.mem.frz [look s.env t]) E:=by
 have b:=mW (M:=s.mem) (E:=E) [look s.env t] w;refine⟨{sim:=nT h.sim _,size:=h.size,defers:=h.defers,fix:=h.fix,env:=fun u=> ?_},b⟩;simp only[look]
 by_cases c:t=u
 ·subst c
  simp only[beq_self_eq_true,cond_true];exact .d (lJ h.sim (h.env t) hd (by simp))
 ·have:(t==u)=false:=by simp[c]
  simp only[this,cond_false];exact(h.env u).from b
def Ou {k:Nat}{K:St->Prop}:∀{ts:List Nat} {s:St} {a:Act},wX ts K s->InS C X lo k s a w E->∃b,K b/\InS C X lo k b a w E/\From w s.mem E w b.mem E
 | [],s,a,h,c=>⟨s,h,c, .refl _ _ _⟩
 |t::ts,s,a,h,c=>by
  simp only[wX]at h
  split at h
  ·rename_i d hd
   obtain⟨h1,h2⟩:=c.frz hd;obtain⟨b,e,f,g⟩:=Ou h h1;exact⟨b,e,f,h2.trans g⟩
  ·exact h.elim
def JX {l:List (Nat×PV)}:∀{ks:List Nat} (t:Nat),look (jf l ks) t=look l t\/look (jf l ks) t= .dead
 | [],t=> .inr rfl
 |k::ks,t=>by
  simp only[jf,J,look]
  by_cases h:k=t
  ·subst h;simp
  ·have:(k==t)=false:=by simp[h]
   simp only[this,cond_false];exact JX (ks:=ks) t
def InS.keep {k:Nat}{ks:List Nat}(h:InS C X lo k s a w E):InS C X lo k ⟨jf s.env ks,s.mem⟩ a w E:={
 sim:=h.sim
 size:=h.size
 defers:=h.defers
 fix:=h.fix
 env:=fun t=>by
  rcases JX (l:=s.env) (ks:=ks) t with b|b
  ·simp only[b];exact h.env t
  ·simp only[b];exact .dead}
def InS.reserve {k:Nat}(n:Nat)(h:InS C X lo k s a w E):
  InS C X lo k ⟨s.env,{s.mem with boxes:=s.mem.boxes++bl n none}⟩ a w {E with bx:=E.bx++bl n 0}/\
  From w s.mem E w {s.mem with boxes:=s.mem.boxes++bl n none} {E with bx:=E.bx++bl n 0}:=by
 obtain⟨h1,h2⟩:=PG h.sim n;exact⟨{sim:=h1,size:=h.size,defers:=h.defers,fix:=h.fix,env:=fun t=>(h.env t).from h2},h2⟩
end
inductive Kd where
 |p|rb|rr|rg|a (i:Nat)|wb (i:Nat)|wr|wo|w|x
 deriving DecidableEq
def kd (op:POp)(fl:Nat):Kd:=
 match op with
 | .mov| .pick| .build _ _| .bH| .bin _| .AL _ _| .un _| .conv _| .mkF _ _| .QY _ _ _| .PZ| .Ur _ _ _| .ext _| .xP| .shf _| .Dh _| .aj _| .tas _ _| .xO _| .Hy _ _| .Uy _ _ _| .EJ _ _=> .p
 | .load _ _=>if fl=1 then .p else if fl=2 then .rb else if fl=3 then .rr else .rg
 | .fld _=>if fl=1 then .p else if fl=2 then .p else if fl=3 then .rr else .rg
 | .aS _=>if fl=1 then .p else .rr
 | .len=>if fl=1 then .p else .rr
 | .dV _ _ _=>if fl=1 then .p else .x
 | .mkI _=>if fl=1 then .p else .x
 | .zV _ _ _ _=>if fl=1 then .p else .x
 | .alloc i _=> .a i
 | .box i=> .a i
 | .mkMap i=> .a i
 | .jE _=> .rg
 | .Hr _ _ _=> .rg
 | .store _=>match fl with|3=> .wr|2=> .wo|i+4=> .wb i| _=> .w
 | .app _ _=> .wr
 | .oK _ _ _=> .wr
 | .XV _=> .wr
 | .uO _=>if fl=1 then .wr else .x
 | .Jy _=> .w
 | _=> .x
def Kd.swap:Kd->Kd->Bool
 | .x,_=>false
 | _, .x=>false
 | .p,_=>true
 | _, .p=>true
 | .rb, .a _=>true
 | .rr, .a _=>true
 | .rg, .a _=>true
 | .a i, .a j=>decide (i≠j)
 | .a i, .wb j=>decide (i≠j)
 | .wb i, .a j=>decide (i≠j)
 | .wb i, .wb j=>decide (i≠j)
 | .a _, .wr=>true
 | .wr, .a _=>true
 | .wb _, .wr=>true
 | .wr, .wb _=>true
 | .rb, .wb _=>true
 | .wb _, .rb=>true
 | .rr, .wb _=>true
 | .wb _, .rr=>true
 | .rb, .wr=>true
 | .wr, .rb=>true
 | .rb, .rb=>true| .rb, .rr=>true| .rb, .rg=>true
 | .rr, .rb=>true| .rr, .rr=>true| .rr, .rg=>true
 | .rg, .rb=>true| .rg, .rr=>true| .rg, .rg=>true
 | .rr, .wo=>true
 | .wo, .rr=>true
 | _,_=>false
def Spec (base:Nat)(k:Kd)(R:Mem->PV->Mem->Prop):Prop:=
 match k with
 | .p=>∃V:PV->Prop,∀M v d,R M v d↔V v/\d=M
 | .rb=>∃V:Mem->PV->Prop,(∀M v d,R M v d↔V M v/\d=M)/\∀M d v,(∀b,b<base->M.boxes[b]?=d.boxes[b]?)->V M v->V d v
 | .rr=>∃V:Mem->PV->Prop,(∀M v d,R M v d↔V M v/\d=M)/\∀M d v,M.aF=d.aF->V M v->V d v
 | .rg=>∃V:Mem->PV->Prop,(∀M v d,R M v d↔V M v/\d=M)/\∀M d v,(∀(b:Nat) (cs:List PV),M.boxes[b]?=some (some cs)->d.boxes[b]?=some (some cs))->M.aF=d.aF->V M v->V d v
 | .a i=>∃(cs:List PV) (j:PV) (c:Prop),∀M v d,R M v d↔c/\v=j/\M.boxes[base+i]?=some none/\d={M with boxes:=M.boxes.set (base+i) (some cs)}
 | .wb i=>∃g:List PV->List PV->Prop,∀M v d,R M v d↔∃cs h,M.boxes[base+i]?=some (some cs)/\base+i∉M.fz/\g cs h/\v= .dead/\d={M with boxes:=M.boxes.set (base+i) (some h)}
 | .wr=>∃Q:List (Option Arr)->PV->List (Option Arr)->Prop,∀M v d,R M v d↔∃e,Q M.aF v e/\d={M with aF:=e}
 | .wo=>∃Q:List (Option (List PV))->List Nat->PV->List (Option (List PV))->Prop,∀M v d,R M v d↔∃f,Q M.boxes M.fz v f/\d={M with boxes:=f}
 | .w=>True
 | .x=>False
def Gv (R1 R2:Mem->PV->Mem->Prop):Prop:=∀M d b e c,R1 M d b->R2 b e c->∃a,R2 M e a/\R1 a d c
section
variable {base:Nat}{R1 R2:Mem->PV->Mem->Prop}
def ajN {k:Kd}(h1:Spec base .p R1)(_:Spec base k R2):Gv R1 R2:=by
 obtain⟨V,a⟩:=h1;intro M e d f b r1 r2;obtain⟨c,rfl⟩:=(a _ _ _).1 r1;exact⟨b,r2,(a _ _ _).2 ⟨c,rfl⟩⟩
def ajO (h2:Spec base .p R2):Gv R1 R2:=by
 obtain⟨V,a⟩:=h2;intro M e c f d r1 r2;obtain⟨b,rfl⟩:=(a _ _ _).1 r2;exact⟨M,(a _ _ _).2 ⟨b,rfl⟩,r1⟩
def II (R:Mem->PV->Mem->Prop)(Ag:Mem->Mem->Prop):Prop:=∃V:Mem->PV->Prop,(∀M v a,R M v a↔V M v/\a=M)/\∀M a v,Ag M a->V M v->V a v
variable{Ag:Mem->Mem->Prop}
def yC {a:Mem->Mem->Prop}(h1:II R1 Ag)(h2:II R2 a):Gv R1 R2:=by
 obtain⟨V,c,_⟩:=h1;obtain⟨f,b,_⟩:=h2;intro M i d j e r1 r2;obtain⟨g,rfl⟩:=(c _ _ _).1 r1;obtain⟨h,rfl⟩:=(b _ _ _).1 r2;exact⟨_,r2,r1⟩
def CO (h1:II R1 Ag)(h2:∀M v M',R2 M v M'->Ag M M'):Gv R1 R2:=by
 obtain⟨V,a,d⟩:=h1;intro M f e g b r1 r2;obtain⟨c,rfl⟩:=(a _ _ _).1 r1;exact⟨b,r2,(a _ _ _).2 ⟨d _ _ _ (h2 _ _ _ r2) c,rfl⟩⟩
def P9 (h2:II R2 Ag)(h1:∀M v M',R1 M v M'->Ag M' M):Gv R1 R2:=by
 obtain⟨V,a,c⟩:=h2;intro M f d g e r1 r2;obtain⟨b,rfl⟩:=(a _ _ _).1 r2;exact⟨M,(a _ _ _).2 ⟨c _ _ _ (h1 _ _ _ r1) b,rfl⟩,r1⟩
def vg (h:Spec base .rb R1):II R1 fun M M'=>∀b,b<base->M.boxes[b]?=M'.boxes[b]?:=h
def vk (h:Spec base .rr R1):II R1 fun M M'=>M.aF=M'.aF:=h
def DX (h:Spec base .rg R1):II R1 fun M M'=>(∀(b:Nat) (cs:List PV),M.boxes[b]?=some (some cs)->M'.boxes[b]?=some (some cs))/\M.aF=M'.aF:=by
 obtain⟨V,h1,h2⟩:=h;exact⟨V,h1,fun M M' v h=>h2 M M' v h.1 h.2⟩
variable{i:Nat}
def zI {l:List (Option (List PV))}{j:Nat}{x:Option (List PV)}(h:i≠j):(l.set i x)[j]?=l[j]?:=by rw[ap];simp[h]
def an1 (h:Spec base (.a i) R1):∀M v M',R1 M v M'->∀b,b<base->M.boxes[b]?=M'.boxes[b]?:=by
 obtain⟨cs,e,c,h⟩:=h;intro M v M' r b d;obtain⟨_,_,_,rfl⟩:=(h _ _ _).1 r;rw[zI (by omega)]
def agi (h:Spec base (.a i) R1):∀M v M',R1 M v M'->M.aF=M'.aF:=by
 obtain⟨cs,b,c,h⟩:=h;intro M v M' r;obtain⟨_,_,_,rfl⟩:=(h _ _ _).1 r
 rfl
def amc (h:Spec base (.a i) R1):∀M v M',R1 M v M'->∀(b:Nat) (cs:List PV),M.boxes[b]?=some (some cs)->M'.boxes[b]?=some (some cs):=by
 obtain⟨cs,j,c,h⟩:=h;intro M v M' r b f e;obtain⟨_,_,g,rfl⟩:=(h _ _ _).1 r
 by_cases d:base+i=b
 ·subst d;rw[g]at e;cases e
 ·rw[zI d];exact e
def ajn (h:Spec base (.wb i) R1):∀M v M',R1 M v M'->∀b,b<base->M.boxes[b]?=M'.boxes[b]?:=by
 obtain⟨g,h⟩:=h;intro M v M' r b c;obtain⟨cs,a,_,_,_,_,rfl⟩:=(h _ _ _).1 r;rw[zI (by omega)]
def adY (h:Spec base (.wb i) R1):∀M v M',R1 M v M'->M.aF=M'.aF:=by
 obtain⟨g,h⟩:=h;intro M v M' r;obtain⟨cs,a,_,_,_,_,rfl⟩:=(h _ _ _).1 r
 rfl
def aaB (h:Spec base .wr R1):∀M v M',R1 M v M'->∀b,b<base->M.boxes[b]?=M'.boxes[b]?:=by
 obtain⟨Q,h⟩:=h;intro M v M' r b _;obtain⟨a,_,rfl⟩:=(h _ _ _).1 r
 rfl
def adZ (h:Spec base .wo R1):∀M v M',R1 M v M'->M.aF=M'.aF:=by
 obtain⟨Q,h⟩:=h;intro M v M' r;obtain⟨a,_,rfl⟩:=(h _ _ _).1 r
 rfl
def set_comm {l:List (Option (List PV))}{i j:Nat}{x y:Option (List PV)}(h:i≠j):(l.set i x).set j y=(l.set j y).set i x:=List.set_comm _ _ h
def aeF {B C:Kd}(h:B.swap C=true)(h1:Spec base B R1)(h2:Spec base C R2):Gv R1 R2:=by
 unfold Kd.swap at h
 split at h
 ·cases h
 ·cases h
 ·exact ajN h1 h2
 ·exact ajO h2
 ·exact CO (vg h1) (an1 h2)
 ·exact CO (vk h1) (agi h2)
 ·exact CO (DX h1) fun M v m r=>⟨amc h2 M v m r,agi h2 M v m r⟩
 ·rename_i i j
  simp only[decide_eq_true_eq]at h;obtain⟨cs,y,c,h1⟩:=h1;obtain⟨ds,E,d,h2⟩:=h2;intro M t o u p r1 r2;obtain⟨a,f,e,rfl⟩:=(h1 _ _ _).1 r1;obtain⟨b1,q,n,rfl⟩:=(h2 _ _ _).1 r2;simp only[zI (show base+i≠base+j by omega)]at n;refine⟨_,(h2 _ _ _).2 ⟨b1,q,n,rfl⟩,(h1 _ _ _).2 ⟨a,f,?_,?_⟩⟩
  ·simp only[zI (show base+j≠base+i by omega)];exact e
  ·simp only[set_comm (show base+i≠base+j by omega)]
 ·rename_i i j
  simp only[decide_eq_true_eq]at h;obtain⟨cs,y,c,h1⟩:=h1;obtain⟨g,h2⟩:=h2;intro M t o u p r1 r2;obtain⟨a,f,e,rfl⟩:=(h1 _ _ _).1 r1;obtain⟨ds,l,b1,q,n,x,rfl⟩:=(h2 _ _ _).1 r2;simp only[zI (show base+i≠base+j by omega)]at b1;refine⟨_,(h2 _ _ _).2 ⟨ds,l,b1,q,n,x,rfl⟩,(h1 _ _ _).2 ⟨a,f,?_,?_⟩⟩
  ·simp only[zI (show base+j≠base+i by omega)];exact e
  ·simp only[set_comm (show base+i≠base+j by omega)]
 ·rename_i i j
  simp only[decide_eq_true_eq]at h;obtain⟨cs,y,c,h2⟩:=h2;obtain⟨g,h1⟩:=h1;intro M t o u p r1 r2;obtain⟨ds,l,b1,q,n,x,rfl⟩:=(h1 _ _ _).1 r1;obtain⟨a,f,e,rfl⟩:=(h2 _ _ _).1 r2;simp only[zI (show base+i≠base+j by omega)]at e;refine⟨_,(h2 _ _ _).2 ⟨a,f,e,rfl⟩,(h1 _ _ _).2 ⟨ds,l,?_,q,n,x,?_⟩⟩
  ·simp only[zI (show base+j≠base+i by omega)];exact b1
  ·simp only[set_comm (show base+i≠base+j by omega)]
 ·rename_i i j
  simp only[decide_eq_true_eq]at h;obtain⟨D,h2⟩:=h2;obtain⟨g,h1⟩:=h1;intro M t o u p r1 r2;obtain⟨ds,l,b1,q,n,x,rfl⟩:=(h1 _ _ _).1 r1;obtain⟨es,z,a,f,e,w,rfl⟩:=(h2 _ _ _).1 r2;simp only[zI (show base+i≠base+j by omega)]at a;refine⟨_,(h2 _ _ _).2 ⟨es,z,a,f,e,w,rfl⟩,(h1 _ _ _).2 ⟨ds,l,?_,q,n,x,?_⟩⟩
  ·simp only[zI (show base+j≠base+i by omega)];exact b1
  ·simp only[set_comm (show base+i≠base+j by omega)]
 ·obtain⟨cs,y,c,h1⟩:=h1
  obtain⟨Q,h2⟩:=h2;intro M t o u p r1 r2;obtain⟨a,f,e,rfl⟩:=(h1 _ _ _).1 r1;obtain⟨k,b1,rfl⟩:=(h2 _ _ _).1 r2;exact⟨_,(h2 _ _ _).2 ⟨k,b1,rfl⟩,(h1 _ _ _).2 ⟨a,f,e,rfl⟩⟩
 ·obtain⟨cs,y,c,h2⟩:=h2
  obtain⟨Q,h1⟩:=h1;intro M t o u p r1 r2;obtain⟨k,b1,rfl⟩:=(h1 _ _ _).1 r1;obtain⟨a,f,e,rfl⟩:=(h2 _ _ _).1 r2;exact⟨_,(h2 _ _ _).2 ⟨a,f,e,rfl⟩,(h1 _ _ _).2 ⟨k,b1,rfl⟩⟩
 ·obtain⟨g,h1⟩:=h1
  obtain⟨Q,h2⟩:=h2;intro M t o u p r1 r2;obtain⟨cs,s,a,f,e,w,rfl⟩:=(h1 _ _ _).1 r1;obtain⟨k,b1,rfl⟩:=(h2 _ _ _).1 r2;exact⟨_,(h2 _ _ _).2 ⟨k,b1,rfl⟩,(h1 _ _ _).2 ⟨cs,s,a,f,e,w,rfl⟩⟩
 ·obtain⟨g,h2⟩:=h2
  obtain⟨Q,h1⟩:=h1;intro M t o u p r1 r2;obtain⟨k,b1,rfl⟩:=(h1 _ _ _).1 r1;obtain⟨cs,s,a,f,e,w,rfl⟩:=(h2 _ _ _).1 r2;exact⟨_,(h2 _ _ _).2 ⟨cs,s,a,f,e,w,rfl⟩,(h1 _ _ _).2 ⟨k,b1,rfl⟩⟩
 ·exact CO (vg h1) (ajn h2)
 ·exact P9 (vg h2) fun M v m r b A=>(ajn h1 M v m r b A).symm
 ·exact CO (vk h1) (adY h2)
 ·exact P9 (vk h2) fun M v m r=>(adY h1 M v m r).symm
 ·exact CO (vg h1) (aaB h2)
 ·exact P9 (vg h2) fun M v m r b A=>(aaB h1 M v m r b A).symm
 ·exact yC (vg h1) (vg h2)
 ·exact yC (vg h1) (vk h2)
 ·exact yC (vg h1) (DX h2)
 ·exact yC (vk h1) (vg h2)
 ·exact yC (vk h1) (vk h2)
 ·exact yC (vk h1) (DX h2)
 ·exact yC (DX h1) (vg h2)
 ·exact yC (DX h1) (vk h2)
 ·exact yC (DX h1) (DX h2)
 ·exact CO (vk h1) (adZ h2)
 ·exact P9 (vk h2) fun M v m r=>(adZ h1 M v m r).symm
 ·cases h
end
end Go.Am
