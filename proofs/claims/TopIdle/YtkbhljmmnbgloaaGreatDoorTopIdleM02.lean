/-
  Part 2 of a law of desks.
  Conditions: none.
-/
import Derived.Test.YtkbhljmmnbgloaaGreatDoorTopIdleM01
import Derived.WideKeyRuns
import Derived.Laws.MakeOwn
import Derived.Laws.BytesString
import Derived.Laws.IdiomStrings
import Derived.Laws.CopyRow
set_option linter.all false
open Bool renaming and_eq_true->H,not_eq_true'->ab,false_eq_true->am,and_true->bw,false_or->cw
open List renaming map_cons->I,mem_of_mem_drop->S,getElem?_eq_some_iff->U,map_nil->V,getElem?_append_right->W,getElem?_append_left->Y,mem_of_mem_take->ae,take_of_length_le->an,replicate->ap,drop_eq_nil_of_le->aq,getElem?_set->ax,length_eq_zero_iff->az,append_nil->aE,drop_drop->aM,map_set->aR,ext_getElem?->bc,drop_zero->bh,mem_append->bi,mem_replicate->bj,size_toArray->bk,eraseIdx_eq_take_drop_succ->bl,all_cons->bp,length_map->br,drop_take->bt,zip_cons_cons->bu,mem_cons->bz,all_eq_true->bB,cons_append->bE,length_drop->bL,nil_append->bO,length_replicate->bS,take_take->bX,drop_succ_cons->b4,replicate_zero->b5,getElem?_drop->b6,getElem?_take->b7,length_append->b8,flatMap_cons->cf,getElem_mem->ck,length_take->cl,mem_flatMap->cm,headD_cons->cr,take_left'->ct,take_zero->cv,mem_map->cz,length->cC
open Option renaming map_eq_some_iff->J,getD_some->Z,getD_none->ao,map_none->a6,map_some->a7,isSome_none->bv,isNone_none->b9,isNone_some->ca,toList_none->cb
open Nat renaming le_refl->N,mul_le_mul_right->ai,add_mul->aw,add_sub_cancel_left->aD,zero_le->aL,zero_add->a1,add_assoc->bq,min_eq_left->bs,le_of_not_lt->bN,le_of_eq->cg,min_zero->ch,sub_self->cj,le_add_right->cn,mul_one->cq,add_zero->cA,succ_mul->cB,sub_mul->cD
open Array renaming getElem?_toList->a8,ext'->be,size_eq_one_iff->bo,toList_map->bA,getElem?_modify->bR,toList_append->b3,range->cp,map->cE
open Int renaming toNat->b0
open Function renaming comp_def->ce
namespace Go.Am
section
variable {C:Ctx}{X:Nat->Prop}{w:World}{M:Mem}{E:Emb}{K:PV->Mem->Prop}{KP:DV->Mem->Prop}{O:Nat->Prop}
variable{P:Program}
def DZ {t:TypeId}{k off:Nat}{cs:Array Value}{v:Value}(h:nC (P.underlying t) k=true)(hv:cs[off]?=some v):(part t cs off).run P w= .ok v w:=by
 have:(isAgg t).run P w= .ok false w:=by
  unfold nC at h
  split at h
  ·rename_i a;simp[isAgg,run_underlying a]
  ·rename_i a;simp[isAgg,run_underlying a]
  ·rename_i a;simp[isAgg,run_underlying a]
  ·cases h
 simp[part,this,hv]
def qU {P:Program}{xs ys:Array Value}(d:Nat):∀{fs:List Field} {ks:List Nat} {off:Nat} {l m:List DV} {t:Bool},dN P fs ks off=true->aU w O (xs.toList.drop off) l->aU w O (ys.toList.drop off) m->
  bG ks l m=some t->(Op.eqFields (d+1) xs ys fs).run P w= .ok t w
 | [],[],off,l,m,t,_,y,A,g=>by
  cases l<;>cases m<;>simp[bG]at g
  subst g;simp[Op.eqFields]
 |f::fs,k::ks,off,l,m,t,i,y,A,g=>by
  simp only[dN,H,decide_eq_true_eq]at i;obtain⟨⟨⟨r,c⟩,M⟩,i⟩:=i;have step:∀{a b:DV} {o p:List DV} {t1 t2:Bool},l=a::o->m=b::p->bG ks o p=some t2->t=(t1&&t2)->
    (∀u v,bF w O u a->bF w O v b->(Op.equalIn (d+1) f.type u v).run P w= .ok t1 w)->(Op.eqFields (d+1) xs ys (f::fs)).run P w= .ok t w:=by
   intro a b o p t1 t2 K L h2 N e;subst K;subst L;generalize G:xs.toList.drop off=xl at y;generalize I:ys.toList.drop off=yl at A;cases y with
   |cons j z=>cases A with
    |cons n B=>
     rename_i u S v vs
     have C:xs[off]?=some u:=by
      have:(xs.toList.drop off)[0]?=some u:=by rw[G];rfl
      simpa using this
     have E:ys[off]?=some v:=by
      have:(ys.toList.drop off)[0]?=some v:=by rw[I];rfl
      simpa using this
     have D:xs.toList.drop (off+1)=S:=by
      rw[<-aM,G];rfl
     have F:ys.toList.drop (off+1)=vs:=by
      rw[<-aM,I];rfl
     have Q:=qU (xs:=xs) (ys:=ys) d i (D▸z) (F▸B) h2;simp only[Op.eqFields,M,ne_eq,not_false_eq_true,if_true,Sem.run_bind,r,DZ c C,DZ c E,Result.andThen_ok,e u v j n,Sem.run_ite,Q,Sem.run_pure];cases t1<;>simp[N]
  unfold bG at g
  split at g
  ·contradiction
  ·rename_i s R a o T b p e
   cases e
   split at g
   ·rename_i x
    subst x;rw[J]at g;obtain⟨t2,h2,q⟩:=g;refine step rfl rfl h2 q.symm fun u v j n=> ?_
    have:=j.eX;subst this;have:=n.eX;subst this;unfold nC at c
    split at c
    ·cases c
    ·rename_i h;exact run_equalIn_int w d f.type R _ a b h
    ·cases c
    ·cases c
   ·cases g
  ·rename_i s a o b p e
   cases e;rw[J]at g;obtain⟨t2,h2,q⟩:=g;refine step rfl rfl h2 q.symm fun u v j n=> ?_
   have:=j.mg;subst this;have:=n.mg;subst this;unfold nC at c
   split at c
   ·rename_i h;exact Go.run_equalIn_bool w d f.type a b h
   ·cases c
   ·cases c
   ·cases c
  ·rename_i s a o b p e
   cases e;rw[J]at g;obtain⟨t2,h2,q⟩:=g;refine step rfl rfl h2 q.symm fun u v j n=> ?_
   have:=j.pK;subst this;have:=n.pK;subst this;unfold nC at c
   split at c
   ·cases c
   ·cases c
   ·rename_i h;exact run_equalIn_string w d f.type a b h
   ·cases c
  ·cases g
 | [],_::_,_,_,_,_,i,_,_,_=>by simp[dN]at i
 | _::_,[],_,_,_,_,i,_,_,_=>by simp[dN]at i
variable{ρ:Operand->Value}{o:Oper}{x:Operand}
def ZW {op:BinOp}{neq:Bool}{ks:List Nat}{t u:TypeId}{y:Operand}(ho:o.op= .binOp op t x y u){args:List PV}(F:Sim C X w M E)(z:aK w (away X M E) M E ((opsOf o.op).map ρ) args)
  (i:aJ C.P (.binOp op t x y u) (.A8 neq ks)=true){base:Nat}(h:ak C base (.A8 neq ks) args M K KP):eF C X w M E K KP ((execOp ρ o).run C.P w):=by
 simp only[aJ,H]at i;obtain⟨e,c⟩:=i
 split at c
 ·rename_i fs k
  simp only[H,ab]at c;obtain⟨⟨n,p⟩,l⟩:=c;have g:C.P.fieldsOf t=fs:=by simp[Program.fieldsOf,k]
  simp only[ho,opsOf,I,V]at z;simp only[ak]at h
  split at h
  ·rename_i a b
   obtain⟨v,N,A,G,m⟩:=dK z;simp only[List.cons.injEq,and_true]at A;obtain⟨rfl,rfl⟩:=A
   split at h
   ·rename_i D q
    obtain⟨xs,r,J⟩:=G.toD.uD;obtain⟨ys,s,L⟩:=m.toD.uD;have f:(Op.equalIn 10000 t (.agg xs) (.agg ys)).run C.P w= .ok D w:=by
     rw[run_equalIn_agg w 9999 t xs ys (by rw[g];exact k) p,g];exact qU 9998 n (by simpa using J) (by simpa using L) q
    have B:=run_eqGuard_agg (P:=C.P) w op t x y xs ys l;have j:(execOp ρ o).run C.P w= .ok (.value (.bool (D !=neq))) w:=by
     cases op<;>simp only[ab,am]at e
     ·subst e
      simp only[execOp,ho,Sem.run_bind,r,s,B,Result.andThen_ok,run_eql_struct,f,Sem.run_pure];simp
     ·subst e
      simp only[execOp,ho,Sem.run_bind,r,s,B,Result.andThen_ok,run_neq_struct,f,Sem.run_pure];simp
    rw[j];exact .same F h (.d (.bool _))
   ·exact h.elim
  ·exact h.elim
 ·cases c
def acy {i j:Nat}(ho:o.op= .extract x i){args:List PV}(l:Sim C X w M E)(g:aK w (away X M E) M E ((opsOf o.op).map ρ) args)
  (e:aJ C.P (.extract x i) (.ext j)=true){base:Nat}(h:ak C base (.ext j) args M K KP):eF C X w M E K KP ((execOp ρ o).run C.P w):=by
 simp only[aJ,beq_iff_eq]at e;subst e;simp only[ho,opsOf,I,V]at g;simp only[ak]at h
 split at h
 ·obtain⟨v,c,f⟩:=eP g
  simp only[List.cons.injEq,and_true]at c;subst c
  split at h
  ·rename_i d hd
   have b:=f.toD;generalize k:ρ x=v at b;cases b with
   |tup hh=>
    obtain⟨u,h1,h2⟩:=hh.get' i d hd;have a:(execOp ρ o).run C.P w= .ok (.value u) w:=by
     simp[execOp,ho,k,Instr.extract,a8▸h1]
    rw[a];exact .same l h (.d h2)
  ·exact h.elim
 ·obtain⟨v,c,f⟩:=eP g
  simp only[List.cons.injEq,and_true]at c;subst c
  split at h
  ·rename_i d hd
   generalize k:ρ x=v at f;cases f with
   |tup hh=>
    obtain⟨u,h1,h2⟩:=hh.get' i d hd;have a:(execOp ρ o).run C.P w= .ok (.value u) w:=by
     simp[execOp,ho,k,Instr.extract,a8▸h1]
    rw[a];exact .same l h h2
  ·exact h.elim
 ·exact h.elim
def Rep.jF {v:Value}{k ver skip:Nat}{A:Arr}(n:Rep w O M E v (.tsl k ver skip))(j:M.row k ver=some A):∃a cap,v= .slice a (A.elems.length - skip) cap:=by
 obtain⟨c,GN⟩:=rV j;cases n with
 |tsl l hh=>
  obtain⟨_,h2⟩:=hh A c;obtain⟨d,_,_,h⟩:=h2 GN;cases d with
  |some q=>
   obtain⟨blk,o,e⟩:=q
   rcases h with⟨g,b,_⟩|⟨m,f,b⟩
   ·cases b;exact⟨_,_,rfl⟩
   ·cases b;exact⟨_,_,by rw[m,cj]⟩
  |none=>
   obtain⟨f,i,b⟩:=bF.jF h;exact⟨f,i,by rw[b];simp⟩
def Vo {a:Array TypeId}{p:Option TypeDesc->Bool}(h:(a.size==1&&p (P.underlying (a.getD 0 0)))=true):∃t,a= #[t]/\p (P.underlying t)=true:=by
 simp only[H,beq_iff_eq]at h;obtain⟨h1,h2⟩:=h;obtain⟨t,rfl⟩:=bo.1 h1;exact⟨t,rfl,by simpa using h2⟩
variable{ass:Array Operand}
def acA {argTypes:Array TypeId}(ho:o.op= .call {callee:= .builtin .len,args:=ass,argTypes}){args:List PV}(l:Sim C X w M E)(k:aK w (away X M E) M E ((opsOf o.op).map ρ) args)
  (c:aJ C.P (.call {callee:= .builtin .len,args:=ass,argTypes}) .len=true){base:Nat}(h:ak C base .len args M K KP):eF C X w M E K KP ((execOp ρ o).run C.P w):=by
 simp only[aJ]at c;simp only[ho,opsOf]at k;simp only[ak]at h
 split at h
 ·rename_i p
  obtain⟨v,r,m⟩:=eP k;obtain⟨t,rfl,q⟩:=Vo (p:=fun d=>match d with|some (.slice _)=>true| _=>false) c
  split at q
  ·rename_i e j
   have i:ass.map ρ= #[v]:=by apply be;simpa using r
   have b:∀a n cap,v= .slice a n cap->(execOp ρ o).run C.P w= .ok (.value (.int .i64 n)) w:=by
    intro a n cap f;simp[execOp,ho,resolve,i,invoke,builtin,Builtin.len_,run_underlying j,f,goInt]
   unfold qg at h
   split at h
   ·obtain⟨a,cap,f⟩:=m.toD.jF
    rw[b _ _ _ f];exact .same l h (.d (.int _ _))
   ·split at h
    ·rename_i A g
     obtain⟨a,cap,f⟩:=m.jF g;rw[b _ _ _ f];exact .same l h (.d (.int _ _))
    ·exact h.elim
   ·exact h.elim
  ·cases q
 ·exact h.elim
def aad {argTypes:Array TypeId}(ho:o.op= .call {callee:= .builtin .len,args:=ass,argTypes}){args:List PV}(i:Sim C X w M E)(f:aK w (away X M E) M E ((opsOf o.op).map ρ) args)
  (a:aJ C.P (.call {callee:= .builtin .len,args:=ass,argTypes}) .Dj=true){base:Nat}(h:ak C base .Dj args M K KP):eF C X w M E K KP ((execOp ρ o).run C.P w):=by
 simp only[aJ]at a;simp only[ho,opsOf]at f;simp only[ak]at h
 split at h
 ·rename_i s
  obtain⟨v,j,k⟩:=eP f;obtain⟨t,rfl,g⟩:=Vo (p:=fun d=>match d with|some .string=>true| _=>false) a
  split at g
  ·rename_i e
   have c:ass.map ρ= #[v]:=by apply be;simpa using j
   have l:=k.toD.pK;have b:(execOp ρ o).run C.P w= .ok (.value (.int .i64 s.size)) w:=by
    simp[execOp,ho,resolve,c,invoke,builtin,Builtin.len_,run_underlying e,l,goInt]
   rw[b];exact .same i h (.d (.int _ _))
  ·cases g
 ·exact h.elim
def aac {n:Nat}{argTypes:Array TypeId}(ho:o.op= .call {callee:= .builtin .len,args:=ass,argTypes}){args:List PV}(i:Sim C X w M E)
  (a:aJ C.P (.call {callee:= .builtin .len,args:=ass,argTypes}) (.U5 n)=true){base:Nat}(h:ak C base (.U5 n) args M K KP):eF C X w M E K KP ((execOp ρ o).run C.P w):=by
 simp only[aJ,H,beq_iff_eq]at a;obtain⟨⟨h1,h2⟩,f⟩:=a;obtain⟨t,rfl⟩:=bo.1 h1;obtain⟨x,rfl⟩:=bo.1 h2;simp only[ak]at h
 split at f
 ·rename_i m e g
  simp only[beq_iff_eq]at f;subst f;have c:C.P.underlying t=some (.array m e):=by simpa using g
  have b:(execOp ρ o).run C.P w= .ok (.value (.int .i64 m)) w:=by
   simp only[execOp,ho,resolve,invoke,builtin,Builtin.len_];cases j:ρ x<;>simp[j,run_underlying c,goInt]
  rw[b];exact .same i h (.d (.int _ _))
 ·cases f
def Kq {mx:Bool}{b:Builtin}{argTypes:Array TypeId}(ho:o.op= .call {callee:= .builtin b,args:=ass,argTypes})(hb:(b= .max/\mx=true)\/(b= .min/\mx=false))
  {args:List PV}(j:Sim C X w M E)(i:aK w (away X M E) M E (ass.toList.map ρ) args)
  {base:Nat}(h:ak C base (.uh mx) args M K KP):eF C X w M E K KP ((execOp ρ o).run C.P w):=by
 simp only[ak]at h
 split at h
 ·rename_i k x n y
  obtain⟨v,u,l,m,e⟩:=dK i;have a:ass.map ρ= #[v,u]:=by apply be;simpa using l
  have f:=m.toD.eX;have g:=e.toD.eX;have c:(execOp ρ o).run C.P w= .ok (.value (.int k (bif mx then(if y>x then y else x)else(if y<x then y else x)))) w:=by
   rcases hb with⟨rfl,rfl⟩|⟨rfl,rfl⟩
   ·simp[execOp,ho,resolve,a,invoke,builtin,Builtin.max_,Builtin.max2,f,g]
   ·simp[execOp,ho,resolve,a,invoke,builtin,Builtin.min_,Builtin.min2,f,g]
  rw[c];exact .same j h (.d (.int _ _))
 ·exact h.elim
def WZ (ho:o.op= .panic x){args:List PV}(e:Sim C X w M E)(c:aK w (away X M E) M E ((opsOf o.op).map ρ) args)
  {base:Nat}(h:ak C base .panic args M K KP):eF C X w M E K KP ((execOp ρ o).run C.P w):=by
 simp only[ho,opsOf,I,V]at c;simp only[ak]at h
 split at h
 ·rename_i p
  obtain⟨v,f,g⟩:=eP c;simp only[List.cons.injEq,and_true]at f;subst f
  split at h
  ·rename_i t d hd
   have a:=je (ps:=[p]) e g hd (by simp);have b:(execOp ρ o).run C.P w= .halt (.panic (ρ x)) w:=by
    have:∃u,ρ x= .iface t u:=by
     generalize j:ρ x=v at a;cases a;exact⟨_,rfl⟩
    obtain⟨u,i⟩:=this;simp[execOp,ho,i,Instr.panic]
   rw[b];exact⟨_,_,_,h,lY e [p],lC [p] w,a⟩
  ·exact h.elim
 ·exact h.elim
variable{l:List PV}
def DY {f:Bool}{Q:Option Int->List PV->Prop}(h:dJ f l Q){vs:List Value}(hv:aK w O M E vs l):
  ∃a c b,Q a c/\aK w O M E b c/\((f=false/\a=none/\b=vs)\/∃k n,f=true/\a=some n/\vs= .int k n::b):=by
 unfold dJ at h
 split at h
 ·exact⟨none,_,vs,h,hv, .inl ⟨rfl,rfl,rfl⟩⟩
 ·cases hv with
  |cons h1 h2=>
   have:=h1.toD.eX;subst this;exact⟨some _,_,_,h,h2, .inr ⟨_,_,rfl,rfl,rfl⟩⟩
 ·exact h.elim
def zy (v:Option Value)(a:Option Int):Prop:=(v=none/\a=none)\/∃k n,v=some (.int k n)/\a=some n
def BO {isSlice:Bool}{len cap:Nat}{lo hi mx:Option Value}{a b m:Option Int}(o:zy lo a)(hb:zy hi b)(p:zy mx m)(d:∀l,m=some l->b=some l)
  (h:0<=a.getD 0)(h1:a.getD 0<=b.getD len)(h2:b.getD len<=len)(q:len<=cap)(w:World):
  (Instr.sliceBounds isSlice len cap lo hi mx).run P w= .ok ((a.getD 0).toNat,(b.getD len).toNat,(m.map b0).getD cap) w:=by
 rcases o with⟨rfl,rfl⟩|⟨j,e,rfl,rfl⟩<;>rcases hb with⟨rfl,rfl⟩|⟨i,nb,rfl,rfl⟩<;>rcases p with⟨rfl,rfl⟩|⟨k,nm,rfl,rfl⟩<;>
  simp only[Z,ao]at h h1 h2⊢
 ·simp[Instr.sliceBounds]
 ·have:=d _ rfl;cases this
 ·have c:nb<=(cap:Int):=by omega
  simp only[Instr.sliceBounds,Sem.run_bind,Sem.run_pure,Result.andThen_ok];rw[run_sliceBound w i nb cap _ h1 c];simp
 ·have:=d _ rfl;cases this
  have c:nb<=(cap:Int):=by omega
  have f:nb<=(nb.toNat:Int):=by omega
  simp only[Instr.sliceBounds,Sem.run_bind,Sem.run_pure,Result.andThen_ok];rw[run_sliceBound w k nb cap _ h1 c];simp only[Result.andThen_ok];rw[run_sliceBound w i nb nb.toNat _ h1 f];simp
 ·have c:e<=(len:Int):=h1
  simp only[Instr.sliceBounds,Sem.run_bind,Sem.run_pure,Result.andThen_ok];rw[run_sliceBound w j e len _ h c];simp
 ·have:=d _ rfl;cases this
 ·have c:nb<=(cap:Int):=by omega
  have g:0<=nb:=by omega
  have f:e<=(nb.toNat:Int):=by omega
  simp only[Instr.sliceBounds,Sem.run_bind,Sem.run_pure,Result.andThen_ok];rw[run_sliceBound w i nb cap _ g c];simp only[Result.andThen_ok];rw[run_sliceBound w j e nb.toNat _ h f];simp
 ·have:=d _ rfl;cases this
  have c:nb<=(cap:Int):=by omega
  have g:0<=nb:=by omega
  have f:nb<=(nb.toNat:Int):=by omega
  have n:e<=(nb.toNat:Int):=by omega
  simp only[Instr.sliceBounds,Sem.run_bind,Sem.run_pure,Result.andThen_ok];rw[run_sliceBound w k nb cap _ g c];simp only[Result.andThen_ok];rw[run_sliceBound w i nb nb.toNat _ g f];simp only[Result.andThen_ok];rw[run_sliceBound w j e nb.toNat _ h n];simp
def Jt {lo hi mx:Bool}{Q:Option Int->Option Int->Option Int->Prop}
  (h:dJ lo l fun a l=>dJ hi l fun b l=>dJ mx l fun m l=>l=[]/\Q a b m){ρ:Operand->Value}{olo ohi omx:Option Operand}(h1:olo.isSome=lo)(h2:ohi.isSome=hi)(j:omx.isSome=mx)
  (hv:aK w O M E ((olo.toList++ohi.toList++omx.toList).map ρ) l):∃a b m,Q a b m/\zy (olo.map ρ) a/\zy (ohi.map ρ) b/\zy (omx.map ρ) m:=by
 obtain⟨a,l1,o,f,r1,c⟩:=DY h hv;obtain⟨b,l2,p,g,r2,d⟩:=DY f r1;obtain⟨m,n,q,⟨k,i⟩,r3,e⟩:=DY g r2;refine⟨a,b,m,i,?_⟩;subst h1 h2 j;cases olo<;>cases ohi<;>cases omx<;>simp at c d e<;>simp[zy]<;>grind
end
section
variable {C:Ctx}{X:Nat->Prop}{w:World}{M:Mem}{E:Emb}{K:PV->Mem->Prop}{KP:DV->Mem->Prop}{O:Nat->Prop}
variable{ρ:Operand->Value}{o:Oper}{x:Operand}{olo ohi omx:Option Operand}
def aap {t:TypeId}{lo hi:Bool}(ho:o.op= .slice t x olo ohi omx){args:List PV}(q:Sim C X w M E)
  (j:aK w (away X M E) M E ((opsOf o.op).map ρ) args)(c:aJ C.P (.slice t x olo ohi omx) (.Ji lo hi)=true){base:Nat}(h:ak C base (.Ji lo hi) args M K KP):eF C X w M E K KP ((execOp ρ o).run C.P w):=by
 simp only[aJ,H,beq_iff_eq]at c;obtain⟨⟨⟨k,h1⟩,h2⟩,n⟩:=c
 split at k
 ·rename_i f
  have i:omx=none:=by simpa using n
  subst i;simp only[ho,opsOf,I,bE]at j;simp only[ak]at h;unfold xg at h
  split at h
  ·rename_i s l
   cases j with
   |cons v r=>
    obtain⟨a,b,m,⟨_,y,z,A,p⟩,ba,bb,bm⟩:=Jt h h1 h2 (omx:=none) rfl r;have u:=v.toD.pK;have g:=BO (P:=C.P) (isSlice:=false) ba bb (mx:=none) (m:=none) (.inl ⟨rfl,rfl⟩) (fun _ hh=>by cases hh) y z A (N _) w;have e:(execOp ρ o).run C.P w= .ok (.value (.string (s.extract (a.getD 0).toNat (b.getD s.size).toNat))) w:=by
     simp only[execOp,ho,Sem.run_bind,u,a6];rw[run_sliceAt_string w t _ _ _ _ f];simp only[Instr.slice,Sem.run_bind,run_underlying f,Result.andThen_ok,bv,am,if_false,g,Sem.run_pure,pure_bind]
    rw[e];exact .same q p (.d (.str _))
  ·exact h.elim
 ·cases k
variable{v:Value}{ex:Bool}
def bF.Hl {w:World}{O:Nat->Prop}{xs:List DV}(h:bF w O v (.slice ex xs)):∃a cap,v= .slice a xs.length cap/\xs.length<=cap/\(ex=true->cap=xs.length)/\
  (xs=[]\/∃blk off sz cs T fz,a=some ⟨blk,off,none⟩/\w.heap[blk]?=some (.cells cs T fz)/\¬O blk/\(∀x∈xs,x.cells.length=sz)/\aU w O ((cs.toList.drop off).take (xs.length*sz)) (flat xs)):=by
 cases h with
 |empty b=>exact⟨_,_,rfl,aL _,b, .inl rfl⟩
 |slice c f e g d b hh=>subst e;exact⟨_,_,rfl,d,b, .inr ⟨_,_,_,_,_,_,rfl,c,f,g,hh⟩⟩
def BQ {P:Program}{t e:TypeId}{c:TypeInfo}{xs:List DV}{lo hi mx:Option Value}{a b m:Option Int}(p:P.underlying t=some (.slice e))(jc:P.info? e=some c)
  (D:∀x∈xs,x.cells.length=c.size)(hv:bF w O v (.slice ex xs))
  (K:zy lo a)(hb:zy hi b)(I:zy mx m)(h:∀r,m=some r->b=some r)(J:0<=a.getD 0)(h1:a.getD 0<=b.getD xs.length)(h2:b.getD xs.length<=xs.length):
  ∃u,(Instr.sliceAt t v lo hi mx).run P w= .ok u w/\bF w O u (.slice (mx.isSome||(ex&& !hi.isSome)) ((xs.take (b.getD xs.length).toNat).drop (a.getD 0).toNat)):=by
 have n:P.elem t=e:=by simp[Program.elem,p]
 have f:P.underlying t=some (.slice (P.elem t)):=by rw[n];exact p
 obtain⟨G,cap,rfl,k,z,aiU⟩:=hv.Hl;have j:=BO (P:=P) (isSlice:=true) K hb I h J h1 h2 k w;have ala:(b.getD xs.length).toNat<=(m.map b0).getD cap/\(m.map b0).getD cap<=cap:=by
  cases m with
  |none=>simp only[a6,ao];omega
  |some r=>have:=h r rfl;subst this;simp only[Z]at h2;simp only[a7,Z];omega
 have g:(mx.isSome||(ex&& !hi.isSome))=true->(m.map b0).getD cap=(b.getD xs.length).toNat:=by
  intro d
  rcases I with⟨rfl,rfl⟩|⟨U,nm,rfl,rfl⟩
  ·simp only[bv,cw,H,ab]at d
   obtain⟨E,F⟩:=d
   rcases hb with⟨rfl,rfl⟩|⟨R,nb,rfl,rfl⟩
   ·simp only[ao,a6]
    rw[z E];simp
   ·cases F
  ·have:=h nm rfl;subst this
   simp
 generalize (m.map b0).getD cap=mv at j ala g;have L:(a.getD 0).toNat<=(b.getD xs.length).toNat:=by omega
 have A:(b.getD xs.length).toNat<=xs.length:=by omega
 generalize (a.getD 0).toNat=l at*;generalize (b.getD xs.length).toNat=hh at*;refine⟨sliced G l hh mv c.size,?_,?_⟩
 ·rw[run_sliceAt_slice w t _ _ _ _ f,run_slice_any w t G xs.length cap f,j,n]
  simp only[Result.andThen_ok,run_sizeOf jc]
 ·simp only[sliced]
  by_cases B:l=hh
  ·have:(xs.take hh).drop l=[]:=aq (by simp;omega)
   rw[this,B,cj];exact .empty (fun d=>by rw[g d];omega)
  ·have C:mv≠l:=by omega
   rw[if_neg C]
   rcases aiU with rfl|⟨blk,Q,sz,cs,T,fz,rfl,y,M,q,N⟩
   ·simp at A;omega
   ·have o:sz=c.size:=by
     have i:0<xs.length:=by omega
     rw[<-q _ (ck i),D _ (ck i)]
    subst o;simp only[a7,Addr.add_lit];refine .slice y M (by simp;omega) (fun x d=>q x (ae (S d))) (by omega) (fun d=>by have:=g d;omega) ?_;rw[bt,<-zS (fun x d=>q x (S d)),<-xq q];have s:=(N.drop (l*c.size)).take ((hh - l)*c.size);rw[bt,aM,bX]at s;have:(hh - l)*c.size<=xs.length*c.size - l*c.size:=by
     rw[<-cD];exact ai _ (by omega)
    rw[bs this]at s;exact s
def isSome_map {α β:Type}(f:α->β)(o:Option α):(o.map f).isSome=o.isSome:=by cases o<;>rfl
def Po {t:TypeId}{sz:Nat}{lo hi mx:Bool}(ho:o.op= .slice t x olo ohi omx){args:List PV}(z:Sim C X w M E)
  (hA:aK w (away X M E) M E ((opsOf o.op).map ρ) args)(V:aJ C.P (.slice t x olo ohi omx) (.EC sz lo hi mx)=true){base:Nat}(h:ak C base (.EC sz lo hi mx) args M K KP):eF C X w M E K KP ((execOp ρ o).run C.P w):=by
 simp only[aJ,H,beq_iff_eq]at V;obtain⟨⟨⟨j,h1⟩,h2⟩,h3⟩:=V
 split at j
 ·rename_i e g
  split at j
  ·rename_i ap jc
   simp only[H,beq_iff_eq,decide_eq_true_eq]at j;obtain⟨J,az⟩:=j;subst J;have W:C.P.elem t=e:=by simp[Program.elem,g]
   have s:C.P.underlying t=some (.slice (C.P.elem t)):=by rw[W];exact g
   simp only[ho,opsOf,I,bE]at hA;simp only[ak]at h;have c:∀{u:Value},(Instr.sliceAt t (ρ x) (olo.map ρ) (ohi.map ρ) (omx.map ρ)).run C.P w= .ok u w->(execOp ρ o).run C.P w= .ok (.value u) w:=by
    intro u j;simp only[execOp,ho,Sem.run_bind,j,Result.andThen_ok,Sem.run_pure]
   unfold wZ at h
   split at h
   ·rename_i ex xs l
    cases hA with
    |cons n hl=>
     obtain⟨a,b,m,⟨J,L,q2,q3,q4,y⟩,ba,bb,bm⟩:=Jt h h1 h2 h3 hl;obtain⟨u,Q,i⟩:=BQ (P:=C.P) g jc J n.toD ba bb bm q4 L q2 q3;rw[c Q];refine .same z y (.d ?_);simp only[isSome_map,h2,h3]at i;exact i
   ·rename_i k ver skip l
    cases hA with
    |cons n hl=>
     obtain⟨a,b,m,R,ba,bb,bm⟩:=Jt h h1 h2 h3 hl
     split at R
     ·rename_i A r
      obtain⟨f,GN⟩:=rV r;have Ro:=(z.arr k A f).2.1
      split at R
      ·obtain⟨Np,rfl,L,q2,y⟩:=R
       generalize hv:ρ x=v at n c;cases n with
       |tsl G hh=>
        rename_i len cap O
        obtain⟨F,ai⟩:=hh A f;obtain⟨aq,h4,h5,h6⟩:=ai GN;cases aq with
        |some q=>
         obtain⟨blk,o1,e1⟩:=q;simp only at h6;have Y:∀O len cap,len=A.elems.length - skip->len<=cap->(Instr.sliceAt t (.slice O len cap) (olo.map ρ) (ohi.map ρ) (omx.map ρ)).run C.P w= .ok (sliced O (a.getD 0).toNat len cap ap.size) w:=by
          intro O len cap e1 e2;have ac:=BO (P:=C.P) (isSlice:=true) ba bb bm (fun _ hh=>by cases hh) L (by simp only[ao];omega) (by simp only[ao];omega) e2 w;rw[run_sliceAt_slice w t _ _ _ _ s,run_slice_any w t O len cap s,ac,W];simp only[Result.andThen_ok,run_sizeOf jc,ao]
          congr 2
         rcases h6 with⟨ax,he,hc,T⟩|⟨hn,a',he⟩
         ·cases he
          rw[c (Y _ _ _ rfl hc)];simp only[sliced];have aE:(a.getD 0).toNat<=A.elems.length - skip:=by omega
          refine .same z y (.tsl G fun B p=> ?_);rw[f]at p;cases p;refine⟨F,fun _=>⟨_,h4,by omega,?_⟩⟩
          by_cases U:cap=(a.getD 0).toNat
          ·rw[if_pos U]
           refine .inr ⟨by omega,some ⟨blk,o1+skip*A.sz,none⟩,?_⟩;rw[show A.elems.length - skip - (a.getD 0).toNat=0 by omega,show cap - (a.getD 0).toNat=0 by omega]
          ·rw[if_neg U]
           refine .inl ⟨cap - (a.getD 0).toNat,?_,by omega,?_⟩
           ·simp only[a7,Addr.add_lit,Np,aw,bq,Nat.sub_sub]
           ·rw[<-T];congr 2;omega
         ·cases he
          have ab:(a.getD 0).toNat=0:=by omega
          rw[c (Y _ _ _ (by omega) (N _))];simp only[sliced,ab,if_true,cj];refine .same z y (.tsl G fun B p=> ?_);rw[f]at p;cases p;exact⟨F,fun _=>⟨_,h4,by omega, .inr ⟨by omega,_,rfl⟩⟩⟩
        |none=>
         simp only at h6;have D:(A.elems.drop skip).length=A.elems.length - skip:=by simp
         obtain⟨u,Q,i⟩:=BQ (P:=C.P) g jc (fun x n=>by rw[DV.dw (Ro x (S n)),Np]) h6 ba bb bm (fun _ hh=>by cases hh) L (by simp only[ao,D];omega) (by simp);rw[c Q];have am:ohi=none:=by
          rcases bb with⟨e,_⟩|⟨_,_,_,e⟩
          ·simpa using e
          ·cases e
         have alb:omx=none:=by
          rcases bm with⟨e,_⟩|⟨_,_,_,e⟩
          ·simpa using e
          ·cases e
         subst am alb;simp only[a6,bv,cw,Bool.not_false,bw,ao]at i;have ht:(((A.elems.drop skip).take ((A.elems.drop skip).length:Int).toNat).drop (a.getD 0).toNat)=A.elems.drop (skip+(a.getD 0).toNat):=by
          rw[Int.toNat_natCast,List.take_length,aM]
         rw[ht]at i;obtain⟨aD,c',j⟩:=i.jF;subst j;refine .same z y (.tsl G fun B p=> ?_);rw[f]at p;cases p;exact⟨F,fun _=>⟨none,h4,by omega,i⟩⟩
      ·rename_i b'
       obtain⟨Np,L,q2,q3,q4,y⟩:=R;have D:(A.elems.drop skip).length=A.elems.length - skip:=by simp
       have hd:datum M (.tsl k ver skip)=some (.slice false (A.elems.drop skip)):=by simp[datum,r]
       have ae:=je (ps:=[PV.tsl k ver skip]) z n hd (by simp);obtain⟨u,Q,i⟩:=BQ (P:=C.P) g jc (fun x n=>by rw[DV.dw (Ro x (S n)),Np]) ae ba bb bm (fun m' an=>by rw[q4 m' an]) L (by simpa using q2) (by simp only[Z,D];omega);rw[c Q];refine⟨_,_,_,y,lY z _,lC _ w, .d ?_⟩;simp only[isSome_map,h2,h3,Bool.false_and,Bool.or_false,Z]at i;exact i
     ·exact R.elim
   ·exact h.elim
  ·cases j
 ·cases j
end
def Reads (w:World)(O:Nat->Prop)(sz:Nat)(v:Value)(ys:List DV):Prop:=
 ∃a:List Value,(∀P,(Builtin.lenOf v).run P w= .ok ys.length w)/\(∀P w',Later w w'->(Builtin.firstCells sz ys.length v).run P w'= .ok a.toArray w')/\aU w O a (flat ys)
section
variable {C:Ctx}{X:Nat->Prop}{w:World}{M:Mem}{E:Emb}{K:PV->Mem->Prop}{KP:DV->Mem->Prop}{O:Nat->Prop}
def yI (P:Program)(w:World)(a:Addr):(loadCells a 0).run P w= .ok #[] w:=by
 have:=run_loadCells_list (P:=P) w a [] (fun j v b=>by simp at b)
 simpa using this
variable{sz cap:Nat}
def reads_nil {a:Option Addr}:Reads w O sz (.slice a 0 cap) []:=by
 refine⟨[],fun P=>by simp[Builtin.lenOf],fun P w' _=> ?_,by simpa[flat]using .nil⟩;cases a with
 |none=>simp[Builtin.firstCells]
 |some a=>simp[Builtin.firstCells,yI]
def Qr {blk off len:Nat}{ys:List DV}{cs:Array Value}{T:TypeId}{fz:Nat×Nat}(hb:w.heap[blk]?=some (.cells cs T fz))
  (c:aU w O ((cs.toList.drop off).take (len*sz)) (flat ys))(hl:ys.length=len)(hs:∀y∈ys,y.cells.length=sz):Reads w O sz (.slice (some ⟨blk,off,none⟩) len cap) ys:=by
 subst hl;have b:((cs.toList.drop off).take (ys.length*sz)).length=ys.length*sz:=by rw[c.length,flat_length hs]
 refine⟨_,fun P=>by simp[Builtin.lenOf],fun P w' d=> ?_,c⟩;have:=run_loadCells_list (P:=P) w' ⟨blk,off,none⟩ ((cs.toList.drop off).take (ys.length*sz)) (fun j v a=>by
  rw[Addr.add_lit,cell_of_row w' blk (off+j) cs T fz (d.iR hb)];rw[b7]at a
  split at a
  ·rw[b6]at a;simpa using a
  ·cases a)
 rw[b]at this
 simpa[Builtin.firstCells]using this
variable{v:Value}
def G8 {ex:Bool}{ys:List DV}(e:bF w O v (.slice ex ys))(hs:∀y∈ys,y.cells.length=sz):Reads w O sz v ys:=by
 cases e with
 |empty f=>exact reads_nil
 |slice d i c a h f hh=>
  rename_i blk g len cap b cs T fz
  cases ys with
  |nil=>
   subst c;exact reads_nil
  |cons y ys=>
   have:b=sz:=by rw[<-a y (by simp),hs y (by simp)]
   subst this;exact Qr d hh c hs
def abA {s:ByteArray}:Reads w O 1 (.string s) (s.data.toList.map fun b=> .int .u8 b.toNat):=by
 have c:∀l:List UInt8,flat (l.map fun b=>DV.int .u8 (b.toNat:Int))=l.map fun b=>DV.int .u8 (b.toNat:Int):=by
  intro l
  induction l with
  |nil=>rfl
  |cons b l d=>rw[I,jZ,d];rfl
 have a:(s.data.toList.map fun b=>DV.int .u8 (b.toNat:Int)).length=s.size:=by simp
 refine⟨s.data.toList.map fun b=> .int .u8 b.toNat,fun P=>by rw[a];simp[Builtin.lenOf],fun P w' _=> ?_,?_⟩
 ·rw[a]
  have:s.extract 0 s.size=s:=by simp
  simp only[Builtin.firstCells,this,Sem.run_pure]
  congr 1
  apply be;simp
 ·rw[c]
  generalize s.data.toList=l
  induction l with
  |nil=>exact .nil
  |cons b l d=>exact .cons (.int _ _) d
variable{k ver skip:Nat}{A:Arr}
def EG (s:Sim C X w M E)(u:Rep w (away X M E) M E v (.tsl k ver skip))(r:M.row k ver=some A):
  M.aB[k]?=some (some A)/\skip<=A.elems.length/\0<A.sz/\(∀x∈A.elems,x.fits A.sz=true)/\
  ((∃(blk o e:Nat) (vs:Array Value) (T:TM vs.size) (cap:Nat),E.ar[k]?=some (some (blk,o,e))/\w.heap[blk]?=some (.cells vs T.ty T.fr)/\o+A.elems.length*A.sz<=e/\e<=vs.size/\
    aU w (away X M E) ((vs.toList.drop o).take (A.elems.length*A.sz)) (flat A.elems)/\
    ((v= .slice (some ⟨blk,o+skip*A.sz,none⟩) (A.elems.length - skip) cap/\A.elems.length - skip<=cap/\o+(skip+cap)*A.sz=e)\/(A.elems.length=skip/\cap=0/\∃a,v= .slice a 0 0)))\/
  (E.ar[k]?=some none/\A.st≠1/\bF w (away X M E) v (.slice true (A.elems.drop skip)))):=by
 obtain⟨b,z⟩:=rV r;obtain⟨D,F,G,H⟩:=s.arr k A b;cases u with
 |tsl t hh=>
  obtain⟨_,h2⟩:=hh A b;obtain⟨f,c,p,d⟩:=h2 z;refine⟨b,p,D,F,?_⟩;cases f with
  |some q=>
   obtain⟨blk,o,e⟩:=q;obtain⟨_,vs,T,i,j,l,m⟩:=H blk o e c;simp only at d
   rcases d with⟨cap,g,h,B⟩|⟨g,a,h⟩
   ·exact .inl ⟨blk,o,e,vs,T,cap,c,i,j,l,m, .inl ⟨g,h,B⟩⟩
   ·exact .inl ⟨blk,o,e,vs,T,0,c,i,j,l,m, .inr ⟨g,rfl,a,h⟩⟩
  |none=>
   refine .inr ⟨c,fun y=> ?_,d⟩;obtain⟨q,n⟩:=G y;rw[c]at n;cases n
def row_drop {o:Nat}{vs:Array Value}(a:∀x∈A.elems,x.fits A.sz=true)(c:aU w O ((vs.toList.drop o).take (A.elems.length*A.sz)) (flat A.elems)):
  aU w O ((vs.toList.drop (o+skip*A.sz)).take ((A.elems.length - skip)*A.sz)) (flat (A.elems.drop skip)):=by
 have b:(vs.toList.drop (o+skip*A.sz)).take ((A.elems.length - skip)*A.sz)=(((vs.toList.drop o).take (A.elems.length*A.sz)).drop (skip*A.sz)):=by
  rw[bt,aM,cD]
 rw[b,<-xq (fun x d=>DV.dw (a x d)) skip];exact c.drop _
def Qs (g:Sim C X w M E)(h:Rep w (away X M E) M E v (.tsl k ver skip))(f:M.row k ver=some A):Reads w (away X M E) A.sz v (A.elems.drop skip):=by
 obtain⟨_,h1,h2,b,d⟩:=EG g h f;have c:∀y∈A.elems.drop skip,y.cells.length=A.sz:=fun y i=>DV.dw (b y (S i))
 rcases d with⟨blk,o,e,vs,T,cap,p,j,q,r,l,m⟩|⟨_,_,hd⟩
 ·rcases m with⟨rfl,n,s⟩|⟨n,_,a,rfl⟩
  ·exact Qr j (row_drop b l) (by simp) c
  ·rw[aq (by omega)]
   exact reads_nil
 ·exact G8 hd c
def Reads.size {b:Nat}{ys:List DV}(h:Reads w O sz v ys)(h1:∀y∈ys,y.cells.length=sz)(h2:∀y∈ys,y.cells.length=b)(P:Program)(d:∃a n cap,v= .slice a n cap):Reads w O b v ys:=by
 cases ys with
 |nil=>
  obtain⟨a,n,cap,rfl⟩:=d;obtain⟨c,e,_,_⟩:=h;have:n=0:=by simpa[Builtin.lenOf]using e P
  subst this;exact reads_nil
 |cons y ys=>
  have:sz=b:=by rw[<-h1 y (by simp),h2 y (by simp)]
  subst this;exact h
def N8 {x:PV}{ys:List DV}(h:Sim C X w M E)(d:Rep w (away X M E) M E v x)(b:yO sz x M=some ys)(c:∀y∈ys,y.fits sz=true):Reads w (away X M E) sz v ys:=by
 have i:∀y∈ys,y.cells.length=sz:=fun y g=>DV.dw (c y g)
 unfold yO at b
 split at b
 ·simp only[Option.some.injEq]at b;subst b
  exact G8 d.toD i
 ·split at b
  ·rename_i f
   simp only[Option.some.injEq]at b;subst b;subst f;have:=d.toD.pK;subst this;exact abA
  ·cases b
 ·rw[J]at b
  obtain⟨A,e,rfl⟩:=b;have j:=(EG h d e).2.2.2.1;obtain⟨a,cap,k⟩:=d.jF e;exact(Qs h d e).size (fun y g=>DV.dw (j y (S g))) i C.P ⟨_,_,_,k⟩
 ·cases b
def QJ {a:Array TypeId}{p:Option TypeDesc->Option TypeDesc->Bool}{P:Program}(h:(a.size==2&&p (P.underlying (a.getD 0 0)) (P.underlying (a.getD 1 0)))=true):
  ∃t u,a= #[t,u]/\p (P.underlying t) (P.underlying u)=true:=by
 simp only[H,beq_iff_eq]at h;obtain⟨h1,h2⟩:=h;obtain⟨l⟩:=a
 match l,h1 with
 | [t,u],_=>exact⟨t,u,rfl,by simpa using h2⟩
variable{ρ:Operand->Value}{o:Oper}{ass:Array Operand}
def TU {st1:Bool}{argTypes:Array TypeId}(ho:o.op= .call {callee:= .builtin .append,args:=ass,argTypes}){args:List PV}(R:Sim C X w M E)(hA:aK w (away X M E) M E ((opsOf o.op).map ρ) args)
  (a8:aJ C.P (.call {callee:= .builtin .append,args:=ass,argTypes}) (.app sz st1)=true){base:Nat}(h:ak C base (.app sz st1) args M K KP):eF C X w M E K KP ((execOp ρ o).run C.P w):=by
 simp only[aJ]at a8;simp only[ho,opsOf]at hA;simp only[ak]at h
 split at h
 ·rename_i s x
  obtain⟨v,u,he,hr,bu⟩:=dK hA;have bl:ass.map ρ= #[v,u]:=by apply be;simpa using he
  obtain⟨sT,xT,rfl,hu⟩:=QJ (p:=fun a b=>match a,b with
   |some (.slice e),some d=>(match d with| .int _=>false| _=>true)&&(match C.P.info? e with
    |some i=>match i.zero with|some z=>i.size==sz&&decide (0<sz)&&decide (i.bytes<=1024)&&z.cells.size==sz|none=>false
    |none=>false)
   | _,_=>false) a8
  split at hu
  ·rename_i e d bc aiX
   simp only[H]at hu;obtain⟨hd,hu⟩:=hu
   split at hu
   ·rename_i bE jc
    split at hu
    ·rename_i z hz
     simp only[H,beq_iff_eq,decide_eq_true_eq]at hu;obtain⟨⟨⟨a9,q⟩,G⟩,bj⟩:=hu;have a7:∀k,d≠ .int k:=by rintro k rfl;cases hd
     have t:∀{r:Value} {w':World},(Builtin.append_ #[sT,xT] o.type #[v,u]).run C.P w= .ok r w'->(execOp ρ o).run C.P w= .ok (.value r) w':=by
      intro r w' hh;simp[execOp,ho,resolve,bl,invoke,builtin,hh]
     unfold kH at h
     split at h
     ·exact h.elim
     ·rename_i ys bw
      obtain⟨_,an,bA,h⟩:=h;have bv:∀y∈ys,y.cells.length=sz:=fun y hy=>DV.dw (an y hy)
      obtain⟨j,n1,n2,n3⟩:=N8 R bu bw an;have F:j.length=ys.length*sz:=by rw[n3.length,flat_length bv]
      have ax:∀v∈j,v.oneCell'=true:=n3.oneCell (by
       intro c hc;simp only[flat,cm]at hc;obtain⟨y,hy,hc⟩:=hc;exact DV.Ig (an y hy) c hc)
      have av:∀{f L:List Value} {xs:List DV},aU w (away X M E) f (flat xs)->(∀x∈xs,x.cells.length=sz)->
        aU w (away X M E) ((((f++j++L).toArray).toList.drop 0).take ((xs++ys).length*sz)) (flat (xs++ys)):=by
       intro f L xs aR hx;have ab:f.length=xs.length*sz:=by rw[aR.length,flat_length hx]
       have bt:(f++j).length=(xs++ys).length*sz:=by simp[ab,F,aw]
       rw[bh,<-bt,List.take_left,uJ];exact aR.append n3
      split at h
      ·rename_i ex xs
       obtain⟨rfl,am,aq,hK⟩:=h;have O:∀y∈xs,y.cells.length=sz:=fun y hy=>DV.dw (am y hy)
       obtain⟨f,o1,o2,o3⟩:=G8 (sz:=sz) hr.toD O;have ab:f.length=xs.length*sz:=by rw[o3.length,flat_length O]
       have a6:∃a,v= .slice a xs.length xs.length:=by
        have hd:=hr.toD;cases hd with
        |empty hx=>rw[hx rfl];exact⟨_,rfl⟩
        |slice hb aR hl hs hc hx hh=>rw[hx rfl,hl];exact⟨_,rfl⟩
       obtain⟨a,rfl⟩:=a6;have m:∀x∈(xs++ys),x.fits sz=true:=by
        intro x hx
        rcases bi.1 hx with hx|hx
        ·exact am x hx
        ·exact an x hx
       rcases Oq (ty:=o.type) bc ⟨d,aiX,a7⟩ jc hz a9 G bj (n1 C.P) (n2 C.P) F (o2 C.P) ab aq ax (fun h1 h2=>by omega)with⟨_,q2,q3⟩|⟨q1,q2,_⟩|⟨_,w',cap,L,q3,q4,q5,q6,q7⟩
       ·have a3:ys=[]:=az.1 q2
        subst a3;have a2:st1=false:=by cases st1<;>simp_all
        subst a2;rw[t q3];obtain⟨t1,t2⟩:=uw (A:=⟨sz,xs++ [],0,0⟩) (loc:=none) R (Later.refl w) q m (fun hh=>by cases hh) (fun _ _ _ hh=>by cases hh);refine⟨_,_,_,hK,t1,t2, .tsl (by simp) fun B D=> ?_⟩;have l:B=⟨sz,xs++ [],0,0⟩:=by simp at D;simp[D]
        subst l;refine⟨N _,fun _=>⟨none,by simp[<-R.bn],aL _,?_⟩⟩;have:=hr.toD.from t2
        simpa using this
       ·omega
       ·rw[t q3]
        have Z:(xs++ys).length=xs.length+ys.length:=by simp
        obtain⟨t1,t2⟩:=uw (A:=⟨sz,xs++ys,0,bif st1 then 1 else 0⟩) (loc:=some (w.heap.size,0,cap*sz)) R q5 q m (fun _ hh=>by cases hh) (fun blk Q e' hh=>by
         cases hh;refine⟨N _,_, .zero _ _,q6,?_,?_,av o3 O⟩
         ·show 0+(xs++ys).length*sz<=cap*sz
          rw[a1,Z];exact ai _ q4
         ·rw[bk,q7];exact N _)
        refine⟨_,_,_,hK,t1,t2, .tsl (by simp) fun B D=> ?_⟩;have l:B=⟨sz,xs++ys,0,bif st1 then 1 else 0⟩:=by simp at D;simp[D]
        subst l;refine⟨N _,fun _=>⟨some (w.heap.size,0,cap*sz),by simp[<-R.bn],aL _, .inl ⟨cap,?_,?_,?_⟩⟩⟩
        ·simp
        ·simpa using q4
        ·simp
      ·rename_i k ver skip
       split at h
       ·rename_i A I
        obtain⟨rfl,ap,aq,hK⟩:=h;obtain⟨W,aln,_,aM,ajQ⟩:=EG R hr I;have a5:=fun _:Unit=>ajQ
        clear ajQ;have am:∀y∈A.elems.drop skip,y.fits A.sz=true:=fun y hy=>aM y (S hy)
        have O:∀y∈A.elems.drop skip,y.cells.length=A.sz:=fun y hy=>DV.dw (am y hy)
        obtain⟨f,o1,o2,o3⟩:=Qs R hr I;have Y:(A.elems.drop skip).length=A.elems.length - skip:=by simp
        have ab:f.length=(A.elems.length - skip)*A.sz:=by rw[o3.length,flat_length O,Y]
        have aiP:k<M.aB.length:=(U.1 W).1;have GN:=(rV I).2;have Y8:A.ver<ver+1:=by omega
        have m:∀x∈(A.elems.drop skip++ys),x.fits A.sz=true:=by
         intro x hx
         rcases bi.1 hx with hx|hx
         ·exact am x hx
         ·exact an x hx
        obtain⟨a,n,hv⟩:=hr.jF I;subst hv;rw[Y]at o2;have J:∀{B A':Arr},(M.aB.set k (some A'))[k]?=some (some B)->B=A':=by
         intro B A' D;simp[aiP]at D;exact D.symm
        have ao:k<(M.aB.set k (some (⟨A.sz,A.elems.drop skip++ys,ver+1,bif st1 then 1 else A.st⟩:Arr))).length:=by simpa using aiP
        have hE:∀a4,(E.ar.set k a4)[k]?=some a4:=fun a4=>by simp[R.bn,aiP]
        have ac:Unit->A.elems.length - skip+ys.length<=n->ys.length≠0->∃(blk o e:Nat) (vs:Array Value) (T:TM vs.size),E.ar[k]?=some (some (blk,o,e))/\w.heap[blk]?=some (.cells vs T.ty T.fr)/\o+A.elems.length*A.sz<=e/\e<=vs.size/\
          aU w (away X M E) ((vs.toList.drop o).take (A.elems.length*A.sz)) (flat A.elems)/\a=some ⟨blk,o+skip*A.sz,none⟩/\o+(skip+n)*A.sz=e:=by
         intro _ h1 h2
         rcases a5 ()with⟨blk,o,e,vs,T,cap,p1,p2,p3,p4,p5,p6⟩|⟨_,_,hd⟩
         ·rcases p6 with⟨hh,p7,p8⟩|⟨_,_,a',hh⟩
          ·cases hh;exact⟨blk,o,e,vs,T,p1,p2,p3,p4,p5,rfl,p8⟩
          ·simp only[Value.slice.injEq]at hh
           omega
         ·obtain⟨a',c',br,_,bp,_⟩:=hd.Hl
          simp only[Value.slice.injEq]at br;have:=bp rfl;omega
        rcases Oq (ty:=o.type) bc ⟨d,aiX,a7⟩ jc hz a9 G bj (n1 C.P) (n2 C.P) F (o2 C.P) ab (by omega) ax (fun h1 h2=>by
          obtain⟨blk,Q,e',vs,T,p1,p2,p3,p4,p5,p6,p7⟩:=ac () h1 h2;refine⟨blk,_,vs,T,p6,p2,?_⟩;rw[F,bq,<-aw,bq,<-aw];have:(skip+(A.elems.length - skip+ys.length))*A.sz<=(skip+n)*A.sz:=ai _ (by omega);omega)with⟨q1,q2,q3⟩|⟨q1,q2,w',g,og,bB,T,q3,q4,q5,q6⟩|⟨_,w',cap,L,q3,q4,q5,q6,q7⟩
        ·have a3:ys=[]:=az.1 q2
         subst a3;have a2:st1=false:=by cases st1<;>simp_all
         subst a2;rw[t q3]
         rcases a5 ()with⟨blk,o,e,vs,T,cap,p1,p2,p3,p4,p5,p6⟩|⟨p1,p2,hd⟩
         ·obtain⟨t1,t2⟩:=yK (A':=⟨A.sz,A.elems.drop skip++ [],ver+1,A.st⟩) (loc:=some (blk,o+skip*A.sz,e)) R W ap rfl rfl rfl (N _) (fun _ _ _ hh=>hh) Y8 q m (fun _ hh=>by cases hh) (fun V Q e' hh=>by
           cases hh;refine⟨.inr ⟨o,e,p1⟩,vs,T,p2,?_,p4,?_⟩
           ·simp only[aE,Y]
            have:skip*A.sz+(A.elems.length - skip)*A.sz=A.elems.length*A.sz:=by rw[<-aw];congr 1;omega
            omega
           ·simp only[aE,Y]
            exact row_drop aM p5)
          refine⟨_,_,_,hK,t1,t2, .tsl ao fun B D=> ?_⟩;have l:=J D;subst l;refine⟨N _,fun _=>⟨_,hE _,aL _,?_⟩⟩
          rcases p6 with⟨hh,p7,p8⟩|⟨p7,_,a',hh⟩
          ·simp only[Value.slice.injEq]at hh
           obtain⟨rfl,_,rfl⟩:=hh;refine .inl ⟨n,?_,?_,?_⟩
           ·simp
           ·simpa using p7
           ·simp only[a1];rw[bq,<-aw];exact p8
          ·simp only[Value.slice.injEq]at hh
           obtain⟨rfl,h2,rfl⟩:=hh;refine .inr ⟨by simp;omega,a,?_⟩;rw[h2];rfl
         ·obtain⟨t1,t2⟩:=yK (A':=⟨A.sz,A.elems.drop skip++ [],ver+1,A.st⟩) (loc:=none) R W ap rfl rfl rfl (N _) (fun _ _ _ hh=>hh) Y8 q m (fun hh=>absurd hh p2) (fun V Q e' hh=>by cases hh)
          refine⟨_,_,_,hK,t1,t2, .tsl ao fun B D=> ?_⟩;have l:=J D;subst l;refine⟨N _,fun _=>⟨_,hE _,aL _,?_⟩⟩;have:=hd.from t2
          simpa using this
        ·obtain⟨blk,Q,e',vs,T',p1,p2,p3,p4,p5,p6,p7⟩:=ac () q1 q2
         rw[p6]at q4;simp only[Option.some.injEq,Addr.mk.injEq]at q4;obtain⟨rfl,rfl,_⟩:=q4;rw[p2]at q5;simp only[Option.some.injEq,Obj.cells.injEq]at q5;obtain⟨rfl,_,_⟩:=q5;rw[t q3];have bz:skip*A.sz+(A.elems.length - skip)*A.sz=A.elems.length*A.sz:=by rw[<-aw];congr 1;omega
         have aj7:(A.elems.drop skip++ys).length*A.sz=(A.elems.length - skip)*A.sz+ys.length*A.sz:=by rw[b8,Y,aw]
         have bs:(skip+(A.elems.length - skip+ys.length))*A.sz<=(skip+n)*A.sz:=ai _ (by omega);rw[aw,aw (A.elems.length - skip)]at bs;have ae:vs.toList.length=vs.size:=by simp
         obtain⟨t1,t2⟩:=yK (A':=⟨A.sz,A.elems.drop skip++ys,ver+1,bif st1 then 1 else A.st⟩) (loc:=some (blk,Q+skip*A.sz,e')) R W ap q6.os q6.tape q6.output (cg q6.size.symm)
          (fun b ob hb a0=>q6.iR (fun bo=>hb Q e' (bo▸p1)) a0) Y8 q m (fun _ hh=>by cases hh) (fun V o2 e2 hh=>by
           cases hh;refine⟨.inr ⟨Q,e',p1⟩,_,T.cast (by have hz:=length_splice vs.toList (Q+skip*A.sz+(A.elems.length - skip)*A.sz) j (by rw[F,ae];omega);simpa using hz.symm),q6.at_,?_,?_,?_⟩
           ·show Q+skip*A.sz+(A.elems.drop skip++ys).length*A.sz<=e'
            omega
           ·rw[bk,length_splice _ _ _ (by rw[F,ae];omega),ae];exact p4
           ·show aU w _ ((((splice vs.toList (Q+skip*A.sz+(A.elems.length - skip)*A.sz) j).toArray).toList.drop (Q+skip*A.sz)).take ((A.elems.drop skip++ys).length*A.sz)) (flat (A.elems.drop skip++ys))
            rw[List.toList_toArray,qR _ _ _ _ (by omega) (by rw[ae];omega),aD,uJ];have e1:(splice (vs.toList.drop (Q+skip*A.sz)) ((A.elems.length - skip)*A.sz) j).take ((A.elems.drop skip++ys).length*A.sz)=(vs.toList.drop (Q+skip*A.sz)).take ((A.elems.length - skip)*A.sz)++j:=by
             unfold splice;refine ct ?_;rw[b8,cl,bL,aj7,F,ae];omega
            rw[e1];exact(row_drop aM p5).append n3)
         refine⟨_,_,_,hK,t1,t2, .tsl ao fun B D=> ?_⟩;have l:=J D;subst l;refine⟨N _,fun _=>⟨_,hE _,aL _, .inl ⟨n,?_,?_,?_⟩⟩⟩
         ·simp[p6]
         ·simpa using q1
         ·simp only[a1];rw[bq,<-aw];exact p7
        ·rw[t q3]
         have Z:(A.elems.drop skip++ys).length=A.elems.length - skip+ys.length:=by simp
         obtain⟨t1,t2⟩:=yK (A':=⟨A.sz,A.elems.drop skip++ys,ver+1,bif st1 then 1 else A.st⟩) (loc:=some (w.heap.size,0,cap*A.sz)) R W ap q5.os q5.tape q5.output q5.size
          (fun b ob _ a0=>q5.iR a0) Y8 q m (fun _ hh=>by cases hh) (fun V o2 e2 hh=>by
           cases hh;refine⟨.inl (N _),_, .zero _ _,q6,?_,?_,av o3 O⟩
           ·show 0+(A.elems.drop skip++ys).length*A.sz<=cap*A.sz
            rw[a1,Z];exact ai _ q4
           ·rw[bk,q7];exact N _)
         refine⟨_,_,_,hK,t1,t2, .tsl ao fun B D=> ?_⟩;have l:=J D;subst l;refine⟨N _,fun _=>⟨_,hE _,aL _, .inl ⟨cap,?_,?_,?_⟩⟩⟩
         ·simp
         ·simpa using q4
         ·simp
       ·exact h.elim
      ·exact h.elim
    ·cases hu
   ·cases hu
  ·cases hu
 ·exact h.elim
def eF.frz {r:Result Next}(h:eF C X w M E (fun v M'=>∃d,datum M' v=some d/\K (.d d) (M'.frz [v])) KP r):eF C X w M E K KP r:=by
 cases r with
 |ok n w'=>
  cases n with
  |value v=>
   obtain⟨pv,M',E',⟨d,hd,i⟩,h1,h2,j⟩:=h;exact⟨_,_,E',i,lY h1 [pv],h2.trans (lC [pv] w'), .d (je (ps:=[pv]) h1 j hd (by simp))⟩
  |skip=>
   obtain⟨M',E',⟨d,hd,i⟩,_⟩:=h;simp[datum]at hd
  |enter f a=>
   obtain⟨e,B,p,o⟩:=h;refine⟨e,B,fun y D s k A z=>(p y D s k A z).mono fun m q g=> ?_,o⟩;cases m with
   |returned v=>
    obtain⟨pv,M',E',⟨d,hd,i⟩,h1,h2,j⟩:=g;exact⟨_,_,E',i,lY h1 [pv],h2.trans (lC [pv] q), .d (je (ps:=[pv]) h1 j hd (by simp))⟩
   |panicked c=>exact g
   |outgrown=>exact g
  |round l f t a b=>
   obtain⟨e,o⟩:=h;refine⟨e,o.mono fun m q g=> ?_⟩;cases m with
   |returned v=>
    obtain⟨pv,M',E',⟨d,hd,i⟩,h1,h2,j⟩:=g;exact⟨_,_,E',i,lY h1 [pv],h2.trans (lC [pv] q), .d (je (ps:=[pv]) h1 j hd (by simp))⟩
   |panicked c=>exact g
   |outgrown=>exact g
  | _=>exact h.elim
 |halt x w'=>
  cases x with
  |panic u=>exact h
  | _=>exact h.elim
def ZV {argTypes:Array TypeId}(ho:o.op= .call {callee:= .builtin .append,args:=ass,argTypes}){args:List PV}(g:Sim C X w M E)(f:aK w (away X M E) M E ((opsOf o.op).map ρ) args)
  (b:aJ C.P (.call {callee:= .builtin .append,args:=ass,argTypes}) (.QN sz)=true){base:Nat}(h:ak C base (.QN sz) args M K KP):eF C X w M E K KP ((execOp ρ o).run C.P w):=by
 have a:aJ C.P (.call {callee:= .builtin .append,args:=ass,argTypes}) (.app sz false)=true:=b;have e:ak C base (.app sz false) args M (fun v c=>∃d,datum c v=some d/\K (.d d) (c.frz [v])) KP:=h;exact eF.frz (TU ho g f a e)
end
variable{w w':World}{O O':Nat->Prop}
def PS:∀{cs:List DV} {vs:List Value},(cs.all fun| .int _ _=>true| .bool _=>true| .str _=>true| _=>false)=true->aU w O vs cs->aU w' O' vs cs:=by
 intro cs
 induction cs with
 |nil=>intro vs _ h;cases h;exact .nil
 |cons c cs d=>
  intro vs h b;cases b with
  |cons h1 t=>
   simp only[bp,H]at h;refine .cons ?_ (d h.2 t);have a:=h.1;cases h1<;>first|exact .int _ _|exact .bool _|exact .str _|(simp at a)
def aaU:∀{cs:List DV} {vs:List Value},(cs.all fun| .int _ _=>true| .bool _=>true| .str _=>true| .agg cs=>(cs.all fun| .int _ _=>true| .bool _=>true| .str _=>true| _=>false)| _=>false)=true->
  aU w O vs cs->aU w' O' vs cs:=by
 intro cs
 induction cs with
 |nil=>intro vs _ h;cases h;exact .nil
 |cons c cs d=>
  intro vs h b;cases b with
  |cons h1 t=>
   simp only[bp,H]at h;refine .cons ?_ (d h.2 t);have a:=h.1;cases h1<;>first|exact .int _ _|exact .bool _|exact .str _|(rename_i hh;exact .agg (PS a hh))|(simp at a)
def Uy {v:Value}{x:DV}(h:Bo x=true)(a:bF w O v x):bF w' O' v x:=by
 cases a with
 |int k n=>exact .int _ _
 |bool b=>exact .bool _
 |str s=>exact .str _
 |nilPtr=>exact .nilPtr
 |nilIface=>exact .nilIface
 |nilFunc=>exact .nilFunc
 |agg hh=>exact .agg (PS h hh)
 |tup hh=>exact .tup (aaU h hh)
 | _=>simp[Bo]at h
section
variable {C:Ctx}{X:Nat->Prop}{w w':World}{M:Mem}{E E':Emb}{K:PV->Mem->Prop}{KP:DV->Mem->Prop}{O:Nat->Prop}
variable{P:Program}{f:FuncId}
def rX {args:Array Value}(h:callable P f=true)(w:World):(callFunc f args).run P w= .ok (.enter f args) w:=by
 unfold callable at h
 split at h
 ·rename_i fn a
  simp only[H,ab]at h;obtain⟨h1,h2⟩:=h;have b:fn.body.isNone=false:=by cases c:fn.body<;>simp_all
  simp only[callFunc,Sem.run_bind,run_program,Result.andThen_ok,a,h2,b,am,if_false,Sem.run_pure]
 ·cases h
variable{args:List PV}
def VP {base:Nat}(h:ak C base (.Hy f) args M K KP):SC C f args M K KP:=by
 obtain⟨p,m,h1,h2⟩:=h;intro X w E a l k;refine(h1 X w E a l k).mono fun e w' b=> ?_
 cases e with
 |returned v=>
  obtain⟨q,j,i,⟨rfl,rfl⟩,g⟩:=b;exact⟨_,_,i,h2,g⟩
 |panicked c=>
  obtain⟨v,d,j,i,_,hh,_⟩:=b;exact hh.elim
 |outgrown=>exact b.elim
variable{ρ:Operand->Value}{o:Oper}
def zK {argTypes:Array TypeId}{ass:Array Operand}(ho:o.op= .call {callee:= .value (.func f),args:=ass,argTypes})(d:ρ (.func f)= .func (.func f) #[] #[])
  {args:List PV}(c:aK w (away X M E) M E ((opsOf o.op).map ρ) args)(b:callable C.P f=true)(h:SC C f args M K KP):eF C X w M E K KP ((execOp ρ o).run C.P w):=by
 simp only[ho,opsOf]at c;have a:(execOp ρ o).run C.P w= .ok (.enter f (ass.map ρ)) w:=by
  simp[execOp,ho,resolve,d,Deferred.ofValue,invoke,rX b]
 rw[a];exact⟨rfl,args,h,by simpa using c⟩
def WQ {t:Tmp}{argTypes:Array TypeId}{ass:Array Operand}(ho:o.op= .call {callee:= .value (.tmp t),args:=ass,argTypes})(r:Sim C X w M E)
  {args:List PV}(k:aK w (away X M E) M E ((opsOf o.op).map ρ) args){base:Nat}(h:ak C base .gJ args M K KP):eF C X w M E K KP ((execOp ρ o).run C.P w):=by
 simp only[ho,opsOf,I]at k;simp only[ak]at h;have i:∀{f:FuncId} {F G:Array Value},ρ (.tmp t)= .func (.func f) F G->callable C.P f=true->(execOp ρ o).run C.P w= .ok (.enter f (F++ass.map ρ++G)) w:=by
  intro f F G u c;simp[execOp,ho,resolve,u,Deferred.ofValue,invoke,rX c]
 split at h
 ·rename_i f fs cs p
  obtain⟨c,h⟩:=h;cases k with
  |cons h1 h2=>
   have hd:=h1.toD;generalize g:ρ (.tmp t)=v at hd;cases hd with
   |func m l=>
    rw[i g c];refine⟨rfl,_,h,?_⟩;have:=((aK.ofD (M:=M) (E:=E) m).append h2).append (aK.ofD (M:=M) (E:=E) l)
    simpa using this
 ·rename_i f fs cs p
  obtain⟨c,h⟩:=h;cases k with
  |cons h1 h2=>
   generalize g:ρ (.tmp t)=v at h1;cases h1 with
   |func m l=>
    rw[i g c];refine⟨rfl,_,h,?_⟩;have:=(m.append h2).append l
    simpa using this
 ·rename_i b p
  cases k with
  |cons h1 h2=>
   generalize g:ρ (.tmp t)=v at h1;cases h1 with
   |nM y s x=>
    rename_i blk cs
    obtain⟨fn,j,a,d,n,q⟩:=h X w E _ blk r h2 s;have e:(execOp ρ o).run C.P w= .ok (.round blk fn j a d) w:=by
     rw[show(ass.toList.map ρ).toArray=ass.map ρ by rw[<-bA]]at n;simp[execOp,ho,resolve,g,Deferred.ofValue,invoke];exact n
    rw[e];exact⟨rfl,q⟩
 ·exact h.elim
variable{a:Option Addr}
def run_equalIn_slice_nil {t e:TypeId}{n cap:Nat}(b:P.underlying t=some (.slice e))(w:World)(d:Nat):(Op.equalIn (d+1) t (.slice a n cap) (.slice none 0 0)).run P w= .ok a.isNone w:=by
 cases a<;>simp only[Op.equalIn,Sem.run_bind,run_underlying b,Result.andThen_ok,Sem.run_pure,b9,ca]
def run_equal_slice_nil {t e:TypeId}{n cap:Nat}(b:P.underlying t=some (.slice e))(w:World):(Op.equal t (.slice a n cap) (.slice none 0 0)).run P w= .ok a.isNone w:=run_equalIn_slice_nil b w 9999
variable{op:BinOp}{x y:Operand}
def Jd {t:TypeId}{n cap:Nat}{v:Value}(w:World):(eqGuard op t x y (.slice a n cap) v).run P w= .ok () w:=by
 unfold eqGuard;simp<;>split<;>simp
def WS {neq:Bool}{t u:TypeId}(ho:o.op= .binOp op t x y u)(m:∀v,ρ (.const v)=v){args:List PV}(q:Sim C X w M E)(p:aK w (away X M E) M E ((opsOf o.op).map ρ) args)
  (f:aJ C.P (.binOp op t x y u) (.isNil neq)=true){base:Nat}(h:ak C base (.isNil neq) args M K KP):eF C X w M E K KP ((execOp ρ o).run C.P w):=by
 simp only[aJ,H]at f;obtain⟨⟨b,i⟩,A⟩:=f
 split at i
 ·rename_i e k
  split at A
  ·simp only[ho,opsOf,I,V,m]at p
   simp only[ak]at h
   split at h
   ·rename_i ex xs
    obtain⟨v,G,r,D,F⟩:=dK p;simp only[List.cons.injEq,and_true]at r;obtain⟨rfl,_⟩:=r;obtain⟨a,cap,z,_,_,j⟩:=D.toD.Hl;have c:=run_equal_slice_nil (P:=C.P) (a:=a) (n:=xs.length) (cap:=cap) k w;have s:=Jd (P:=C.P) (op:=op) (t:=t) (x:=x) (y:= .const (.slice none 0 0)) (a:=a) (n:=xs.length) (cap:=cap) (v:= .slice none 0 0) w;have g:(execOp ρ o).run C.P w= .ok (.value (.bool (a.isNone !=neq))) w:=by
     cases op<;>simp only[ab,am]at b
     ·subst b
      simp only[execOp,ho,Sem.run_bind,m,z,s,Result.andThen_ok,binOp,c,Sem.run_pure];simp
     ·subst b
      simp only[execOp,ho,Sem.run_bind,m,z,s,Result.andThen_ok,binOp,c,Sem.run_pure];simp
    rw[g]
    by_cases l:xs=[]
    ·exact .same q (h.2 l _) (.d (.bool _))
    ·have B:a.isNone=false:=by
      rcases j with hh|⟨_,_,_,_,_,_,rfl,_⟩
      ·exact absurd hh l
      ·rfl
     rw[B];exact .same q (by simpa using h.1 l) (.d (.bool _))
   ·exact h.elim
  ·cases A
 ·cases i
def From.ET {M':Mem}(h:From w bg ⟨[],[]⟩ w' M' E'):Later w w':=
 ⟨h.os,h.tape,h.output,h.size,fun b c=>by
  obtain⟨o,a⟩:∃o,w.heap[b]?=some o:=⟨_,Array.getElem?_eq_getElem c⟩
  rw[a,h.keep b o (by rintro(⟨i,cs,h1,_⟩|⟨k,A,o,e,h1,_⟩)<;>simp[bg]at h1) a]⟩
variable{ass:List Arr}
def NQ {b:Nat}(hl:E.ar.length=M.aB.length):
  owned {M with aB:=M.aB++ass.map some} {E with ar:=E.ar++E'.ar} b↔(owned M E b\/owned (rowsOf ass) E' b):=by
 constructor
 ·rintro(hh|⟨k,A,o,e,h1,h2,a⟩)
  ·exact .inl (.inl hh)
  ·by_cases c:k<M.aB.length
   ·simp only[Y c]at h1
    simp only[Y (hl▸c)]at a;exact .inl (.inr ⟨k,A,o,e,h1,h2,a⟩)
   ·simp only[W (bN c)]at h1
    simp only[W (hl▸bN c)]at a;exact .inr (.inr ⟨k - M.aB.length,A,o,e,h1,h2,hl▸a⟩)
 ·rintro((hh|⟨k,A,o,e,h1,h2,a⟩)|(⟨i,cs,h1,_⟩|⟨k,A,o,e,h1,h2,a⟩))
  ·exact .inl hh
  ·have c:k<M.aB.length:=(U.1 h1).1
   exact .inr ⟨k,A,o,e,by simp only[Y c];exact h1,h2,by simp only[Y (hl▸c)];exact a⟩
  ·simp[rowsOf]at h1
  ·refine .inr ⟨M.aB.length+k,A,o,e,?_,h2,?_⟩
   ·simp only[W (cn _ _),aD];exact h1
   ·have:E.ar.length<=M.aB.length+k:=by omega
    simp only[W this,hl,aD];exact a
def Ew (h:Sim C X w M E)(h':Sim C (away X M E) w' (rowsOf ass) E')(hf:From w bg ⟨[],[]⟩ w' (rowsOf ass) E')(x:∀A∈ass,A.st≠2):
  Sim C X w' {M with aB:=M.aB++ass.map some} {E with ar:=E.ar++E'.ar}/\From w M E w' {M with aB:=M.aB++ass.map some} {E with ar:=E.ar++E'.ar}/\
  (∀b,away X {M with aB:=M.aB++ass.map some} {E with ar:=E.ar++E'.ar} b↔away (away X M E) (rowsOf ass) E' b):=by
 have q:=h.bn;have D:=hf.ET;have n:∀b,away X {M with aB:=M.aB++ass.map some} {E with ar:=E.ar++E'.ar} b↔away (away X M E) (rowsOf ass) E' b:=by
  intro b;simp only[away,NQ q,or_assoc]
 have m:∀b,¬owned bg ⟨[],[]⟩ b:=by
  rintro b (⟨i,cs,h1,_⟩|⟨k,A,o,e,h1,_⟩)<;>simp[bg]at h1
 have p:∀b,owned (rowsOf ass) E' b->w.heap.size<=b:=fun b hb=>(hf.own b hb).resolve_left (m b)
 have t:From w M E w' {M with aB:=M.aB++ass.map some} {E with ar:=E.ar++E'.ar}:=
  {os:=hf.os,tape:=hf.tape,output:=hf.output,size:=hf.size
   keep:=fun b o _ u=>hf.keep b o (m b) u
   own:=fun b hb=>((NQ q).1 hb).imp id (p b)
   fU:=N _
   bx:=fun b cs hb=>⟨rfl,cs,hb,rfl⟩
   bn:=by simp
   ar:=fun k r f hA=>by
    simp only[Y f]at hA;exact⟨r,hA,N _,fun _=>⟨by simp only[Y (q▸f)],rfl,rfl,fun _=>rfl⟩⟩}
 have a:∀(k:Nat) (A:Arr),(M.aB++ass.map some)[k]?=some (some A)->(k<M.aB.length/\M.aB[k]?=some (some A)/\(E.ar++E'.ar)[k]?=E.ar[k]?)\/
   (M.aB.length<=k/\(rowsOf ass).aB[k - M.aB.length]?=some (some A)/\A∈ass/\(E.ar++E'.ar)[k]?=E'.ar[k - M.aB.length]?):=by
  intro k A hA
  by_cases f:k<M.aB.length
  ·rw[Y f]at hA
   exact .inl ⟨f,hA,Y (q▸f)⟩
  ·have l:=bN f
   rw[W l]at hA;refine .inr ⟨l,hA,?_,?_⟩
   ·have:=List.mem_of_getElem? hA
    simpa using this
   ·rw[W (q▸l),q]
 have ads:∀(k:Nat) (A:Arr) (blk o e:Nat),(rowsOf ass).aB[k]?=some (some A)->A∈ass->E'.ar[k]?=some (some (blk,o,e))->w.heap.size<=blk:=fun k A blk o e h1 h2 h3=>
  p blk (.inr ⟨k,A,o,e,h1,x A h2,h3⟩)
 refine⟨?_,t,n⟩;exact
  {glob:=h'.glob
   gG:=h.gG
   xlt:=fun b hb=>Nat.lt_of_lt_of_le (h.xlt b hb) hf.size
   fU:=h.fU
   bn:=by
    have:=h'.bn;simp[rowsOf]at this;simp[q,this]
   box:=fun b cs hb=>by
    obtain⟨blk,h1,h2,h3⟩:=h.box b cs hb;exact⟨blk,h1,h2,h3.from t fun _ u=>D.iR u⟩
   arr:=fun k A hA=>by
    rcases a k A hA with⟨f,hA',d⟩|⟨f,hA',hm,d⟩
    ·obtain⟨h1,h2,h3,c⟩:=h.arr k A hA'
     refine⟨h1,h2,fun v=>by rw[d];exact h3 v,fun blk o e j=> ?_⟩;simp only[d]at j;obtain⟨z,vs,T,q2,q3,q4,B⟩:=c blk o e j;exact⟨z,vs,T,D.iR q2,q3,q4,B.from t⟩
    ·obtain⟨h1,h2,h3,c⟩:=h'.arr _ A hA'
     refine⟨h1,h2,fun v=>by rw[d];exact h3 v,fun blk o e j=> ?_⟩;simp only[d]at j;obtain⟨z,vs,T,q2,q3,q4,B⟩:=c blk o e j;exact⟨fun G=>z (.inl G),vs,T,q2,q3,q4,B.weaken fun b hb=>(n b).1 hb⟩
   bb:=h.bb
   aa:=fun k F A r blk o e y s h1 h2 h3 c=>by
    rcases a k A h1 with⟨f,hA,d⟩|⟨f,hA,hm,d⟩<;>rcases a F r h2 with⟨l,hA',g⟩|⟨l,hA',hm',g⟩
    ·simp only[d]at h3;simp only[g]at c
     exact h.aa k F A r blk o e y s hA hA' h3 c
    ·simp only[d]at h3;simp only[g]at c
     exact absurd (h.AZ hA h3) (by have:=ads _ r blk y s hA' hm' c;omega)
    ·simp only[d]at h3;simp only[g]at c
     exact absurd (h.AZ hA' c) (by have:=ads _ A blk o e hA hm h3;omega)
    ·simp only[d]at h3;simp only[g]at c
     have:=h'.aa _ _ A r blk o e y s hA hA' h3 c;omega
   ba:=fun b k cs A blk o e h1 h2 h3 c=>by
    rcases a k A h2 with⟨f,hA,d⟩|⟨f,hA,hm,d⟩
    ·simp only[d]at c;exact h.ba b k cs A blk o e h1 hA h3 c
    ·simp only[d]at c
     exact absurd (h.Dq h1 h3) (by have:=ads _ A blk o e hA hm c;omega)}
def Hf {O O':Nat->Prop}(hl:E.ar.length=M.aB.length)(j:∀b,O' b->O b){v:Value}{p:PV}(h:Rep w O (rowsOf ass) E' v p):
  Rep w O' {M with aB:=M.aB++ass.map some} {E with ar:=E.ar++E'.ar} v (jE M.aB.length p):=by
 cases h with
 |d h=>exact .d (h.weaken j)
 |tsl f hh=>
  rename_i k ver skip len cap a
  refine .tsl (by simp[rowsOf]at f⊢;omega) fun A i=> ?_
  have e:(rowsOf ass).aB[k]?=some (some A):=by
   rw[W (cn _ _),aD]at i;exact i
  obtain⟨l,m⟩:=hh A e;refine⟨l,fun r=> ?_⟩;obtain⟨c,n,o,g⟩:=m r;refine⟨c,?_,o,?_⟩
  ·have:E.ar.length<=M.aB.length+k:=by omega
   simp only[W this,hl,aD];exact n
  ·cases c with
   |none=>exact bF.weaken j g
   |some q=>exact g
 | _=>exact .dead
def Et {O O':Nat->Prop}{ass:List Arr}(hl:E.ar.length=M.aB.length)(a:∀b,O' b->O b):∀{vs:List Value} {ps:List PV},aK w O (rowsOf ass) E' vs ps->
  aK w O' {M with aB:=M.aB++ass.map some} {E with ar:=E.ar++E'.ar} vs (ps.map (jE M.aB.length))
 | _,_, .nil=> .nil
 | _,_, .cons h t=> .cons (Hf hl a h) (Et hl a t)
def Yu {O O':Nat->Prop}(hl:E.ar.length=M.aB.length)(a:∀b,O' b->O b){v:Value}{p:PV}(h:Rep w O (rowsOf ass) E' v p):
  Rep w O' {M with aB:=M.aB++ass.map some} {E with ar:=E.ar++E'.ar} v (Ov M.aB.length p):=by
 cases p with
 |agg cs=>cases h with|agg hh=>exact .agg (Et hl a hh)
 | _=>exact Hf hl a h
def Le {O O':Nat->Prop}{ass:List Arr}(hl:E.ar.length=M.aB.length)(a:∀b,O' b->O b):∀{vs:List Value} {ps:List PV},aK w O (rowsOf ass) E' vs ps->
  aK w O' {M with aB:=M.aB++ass.map some} {E with ar:=E.ar++E'.ar} vs (ps.map (Ov M.aB.length))
 | _,_, .nil=> .nil
 | _,_, .cons h t=> .cons (Yu hl a h) (Le hl a t)
def JQ {O O':Nat->Prop}(hl:E.ar.length=M.aB.length)(a:∀b,O' b->O b){v:Value}{p:PV}(h:Rep w O (rowsOf ass) E' v p):
  Rep w O' {M with aB:=M.aB++ass.map some} {E with ar:=E.ar++E'.ar} v (p.shift M.aB.length):=by
 cases p with
 |agg cs=>cases h with|agg hh=>exact .agg (Et hl a hh)
 |tup cs=>cases h with|tup hh=>exact .tup (Le hl a hh)
 | _=>exact Hf hl a h
def afW (args:List PV):(M.frz args).aB.length=M.aB.length:=by simp[Mem.frz,DJ]
def uI (h:Ja C f args M K):SC C f args M K KP:=by
 obtain⟨ds,m,r,ass,t,c⟩:=h;intro X w E j g p;have a:=lY g args;have hd:=(tN g p m (fun q u=>u)).strip;refine(t (away X (M.frz args) E) w j g.glob (fun b i=> .inl (g.gG b i)) (fun b i=>a.wP i) hd).mono fun e w' s=> ?_
 obtain⟨v,E',rfl,l,k,o⟩:=s
 rcases c with⟨x,rfl,y,rfl,c⟩|⟨n,c⟩
 ·exact⟨_,M,E,c,g.later k.ET,k.ET.from M E, .d (Uy y o.toD)⟩
 ·obtain⟨z,A,B⟩:=Ew a l k n
  refine⟨_,_,_,c,z,(lC args w).trans A,?_⟩;have:=JQ (M:=M.frz args) (E:=E) a.bn (fun b i=>(B b).1 i) o;rw[afW]at this;exact this
def Jc (h:Oo C f args M K):Ja C f args M K:=by
 obtain⟨ds,h1,x,h2,e⟩:=h;have i:=EJ h1;subst i;have a:cZ M (ds.map .d)=some ds:=by
  clear h1 h2
  induction ds with
  |nil=>rfl
  |cons d ds b=>simp only[I,cZ,datum,b]
 have c:M.frz (ds.map .d)=M:=by
  have h1:(ds.map PV.d).flatMap (kG M)=[]:=by
   clear h1 h2 a;induction ds with
   |nil=>rfl
   |cons d ds b=>simp[kG]
  have h2:(ds.map PV.d).flatMap (kF M)=[]:=by
   clear h1 h2 a;induction ds with
   |nil=>rfl
   |cons d ds b=>simp[kF]
  simp only[Mem.frz,h1,h2,FB,List.foldl_nil,bO]
 refine⟨ds,a,_,_,h2, .inr ⟨(fun A g=>by cases g),?_⟩⟩;rw[c]
 simpa[PV.shift,jE]using e
def SK (h:Jb C f args M K):Ja C f args M K:=by
 obtain⟨ds,h1,x,h2,a,b⟩:=h;exact⟨ds,h1,_,_,h2, .inl ⟨x,rfl,a,rfl,b⟩⟩
end
section
variable {C:Ctx}{X:Nat->Prop}{w:World}{M:Mem}{E:Emb}{K:PV->Mem->Prop}{KP:DV->Mem->Prop}{O:Nat->Prop}
variable{P:Program}
def LD {t:TypeId}{k:Nat}(h:nC (P.underlying t) k=true)(v:Value)(em:Bool)(n:Nat):(Instr.checkKey em (n+1) t v).run P w= .ok () w:=by
 unfold nC at h
 split at h
 ·rename_i a;simp[Instr.checkKey,run_underlying a]
 ·rename_i a;simp[Instr.checkKey,run_underlying a]
 ·rename_i a;simp[Instr.checkKey,run_underlying a]
 ·cases h
def KA {P:Program}{cs:Array Value}{em:Bool}{n:Nat}:∀{fs:List Field} {ks:List Nat} {off:Nat} {l m:List DV} {t:Bool},dN P fs ks off=true->aU w O (cs.toList.drop off) l->bG ks l m=some t->
  ∀f∈fs,f.name≠ "_" /\∃a,(part f.type cs f.offset).run P w= .ok a w/\(Instr.checkKey em (n+1) f.type a).run P w= .ok () w
 | [],_,_,_,_,_,_,_,_,f,z=>by cases z
 |f::fs,k::ks,off,l,m,t,e,v,c,g,hg=>by
  simp only[dN,H,decide_eq_true_eq]at e;obtain⟨⟨⟨h,s⟩,A⟩,e⟩:=e;have q:∃a i r y,l=a::i/\bG ks i r=some y:=by
   unfold bG at c
   split at c
   ·contradiction
   ·rename_i B E a i F b r d
    cases d
    split at c
    ·rw[J]at c
     obtain⟨t2,h2,_⟩:=c;exact⟨_,_,_,_,rfl,h2⟩
    ·cases c
   ·rename_i d
    cases d;rw[J]at c;obtain⟨t2,h2,_⟩:=c;exact⟨_,_,_,_,rfl,h2⟩
   ·rename_i d
    cases d;rw[J]at c;obtain⟨t2,h2,_⟩:=c;exact⟨_,_,_,_,rfl,h2⟩
   ·cases c
  obtain⟨a,i,r,y,rfl,h2⟩:=q;generalize x:cs.toList.drop off=xl at v;cases v with
  |cons D j=>
   rename_i u C
   have o:cs[off]?=some u:=by
    have:(cs.toList.drop off)[0]?=some u:=by rw[x];rfl
    simpa using this
   have p:cs.toList.drop (off+1)=C:=by
    rw[<-aM,x];rfl
   rcases bz.1 hg with rfl|hg
   ·exact⟨A,u,by rw[h];exact DZ s o,LD s u em n⟩
   ·exact KA e (p▸j) h2 g hg
 | _::_,[],_,_,_,_,e,_,_,_,_=>by simp[dN]at e
variable{ks:List Nat}
def vI {key:TypeId}{fs:Array Field}(d:P.underlying key=some (.struct fs))(c:dN P fs.toList ks 0=true){xs:Array Value}{k m:List DV}{t:Bool}(hx:aU w O xs.toList k)(hc:bG ks k m=some t)(em:Bool):
  (Instr.checkKey em 10000 key (.agg xs)).run P w= .ok () w:=by
 have b:=KA (em:=em) (n:=9998) c (by simpa using hx) hc;rw[show(10000:Nat)=9999+1 from rfl,Instr.checkKey];simp only[Sem.run_bind,run_underlying d,Result.andThen_ok];rw[<-Array.forIn_toList];generalize fs.toList=L at b
 induction L with
 |nil=>simp
 |cons f L h=>
  obtain⟨e,a,i,j⟩:=b f (by simp);simp only[List.forIn_cons,Sem.run_bind,e,ne_eq,not_false_eq_true,if_true,Result.andThen_ok,i,j,Sem.run_pure];exact h (fun y g=>b y (by simp[g]))
def PK {P:Program}{key:TypeId}{fs:Array Field}{ks:List Nat}(a:P.underlying key=some (.struct fs))(g:dN P fs.toList ks 0=true)(m:P.stoodInHeld key=false){xs:Array Value}{k:List DV}(hx:aU w O xs.toList k):
  ∀(es:List MapEntry) (l:List (DV×DV)) (i:Nat) (r:Option DV),aU w O (es.map (·.key)) (l.map (·.1))->aU w O (es.map (·.val)) (l.map (·.2))->xU ks l k=some r->
  ∃x,(Instr.findAsking key (.agg xs) es i).run P w= .ok x w/\((r=none/\x=none)\/∃dv j v,r=some dv/\x=some (j,v)/\bF w O v dv)
 | [],[],i,r,_,_,h=>by
  simp only[xU,Option.some.injEq]at h;exact⟨none,by simp[Instr.findAsking], .inl ⟨h.symm,rfl⟩⟩
 |e::es,(s,dv)::l,i,r,h1,h2,h=>by
  simp only[I]at h1 h2;cases h1 with
  |cons A p=>cases h2 with
   |cons C q=>
    have o:∃n,s= .agg n:=by cases s<;>first|exact⟨_,rfl⟩|(simp[xU]at h)
    obtain⟨n,rfl⟩:=o;obtain⟨ys,u,D⟩:=A.uD;have d:∀t,bG ks k n=some t->(Op.equal key (.agg xs) e.key).run P w= .ok t w:=by
     intro t B
     show(Op.equalIn 10000 key (.agg xs) e.key).run P w= .ok t w
     have f:P.fieldsOf key=fs:=by simp[Program.fieldsOf,a]
     rw[u,run_equalIn_agg w 9999 key xs ys (by rw[f];exact a) m,f];exact qU 9998 g (by simpa using hx) (by simpa using D) B
    cases c:bG ks k n with
    |none=>simp[xU,c]at h
    |some b=>
     cases b with
     |true=>
      simp only[xU,c,Option.some.injEq]at h;exact⟨some (i,e.val),by simp[Instr.findAsking,d _ c], .inr ⟨_,_,_,h.symm,rfl,C⟩⟩
     |false=>
      simp only[xU,c]at h;obtain⟨x,y,z⟩:=PK a g m hx es l (i+1) r p q h;exact⟨x,by simp[Instr.findAsking,d _ c,y],z⟩
 | [],_::_,_,_,h1,_,_=>by simp at h1;cases h1
 | _::_,[],_,_,h1,_,_=>by simp at h1;cases h1
variable{ρ:Operand->Value}{o:Oper}{x i:Operand}{c:Bool}{z:DV}
def WX {t:TypeId}(ho:o.op= .lookup t x i c){args:List PV}(Q:Sim C X w M E)(O:aK w (away X M E) M E ((opsOf o.op).map ρ) args)
  (p:aJ C.P (.lookup t x i c) (.Iw ks z)=true){base:Nat}(h:ak C base (.Iw ks z) args M K KP):eF C X w M E K KP ((execOp ρ o).run C.P w):=by
 simp only[aJ,H,ab]at p;obtain⟨rfl,f⟩:=p
 split at f
 ·rename_i L e s
  simp only[H]at f;obtain⟨a,A⟩:=f
  split at a
  ·rename_i fs XJ
   simp only[H,ab]at a;obtain⟨q,D⟩:=a
   split at A
   ·rename_i ae jc
    split at A
    ·rename_i U G
     simp only[ho,opsOf,I,V]at O;simp only[ak]at h
     split at h
     ·rename_i l k
      obtain⟨v,u',R,hr,B⟩:=dK O;simp only[List.cons.injEq,and_true]at R;obtain⟨rfl,rfl⟩:=R
      split at h
      ·rename_i r hc hl
       obtain⟨xs,N,T⟩:=B.toD.uD;have S:=hr.toD;generalize u:ρ x=vv at S;cases S with
       |map Z ac hk hv=>
        rename_i blk es clock
        obtain⟨y,W,Y⟩:=PK (P:=C.P) XJ q D T es.toList l 0 r hk hv hl;have m:=vI (P:=C.P) XJ q T hc es.isEmpty;have n:(Instr.findKey L (.agg xs) es.toList).run C.P w= .ok y w:=by
         rw[run_findKey_eq (P:=C.P) w (by rw[XJ])];exact W
        have J:(zeroValue e).run C.P w= .ok U w:=by simp[zeroValue,typeInfo,jc,G]
        have g:(getObj blk).run C.P w= .ok (.map es clock) w:=by simp[getObj,Sem.run,Z]
        rcases Y with⟨rfl,rfl⟩|⟨dv,j,v,rfl,rfl,F⟩
        ·have b:(execOp ρ o).run C.P w= .ok (.value U) w:=by
          simp only[execOp,ho,Instr.lookup,Sem.run_bind,run_underlying s,Result.andThen_ok,u,N,g,Sem.run_pure,m,n,J];simp
         rw[b];exact .same Q h (.d (kR A))
        ·have b:(execOp ρ o).run C.P w= .ok (.value v) w:=by
          simp only[execOp,ho,Instr.lookup,Sem.run_bind,run_underlying s,Result.andThen_ok,u,N,g,Sem.run_pure,m,n];simp
         rw[b];exact .same Q h (.d F)
      ·exact h.elim
     ·exact h.elim
    ·cases A
   ·cases A
  ·cases a
 ·cases f
def acF {q t p:TypeId}(ho:o.op= .typeAssert x q t c){args:List PV}(l:Sim C X w M E)(k:aK w (away X M E) M E ((opsOf o.op).map ρ) args)
  (f:aJ C.P (.typeAssert x q t c) (.tas p z)=true){base:Nat}(h:ak C base (.tas p z) args M K KP):eF C X w M E K KP ((execOp ρ o).run C.P w):=by
 simp only[aJ,H,decide_eq_true_eq]at f;obtain⟨⟨⟨rfl,rfl⟩,n⟩,i⟩:=f
 split at i
 ·rename_i A jc
  split at i
  ·rename_i r j
   simp only[ho,opsOf,I,V]at k;simp only[ak]at h
   split at h
   ·rename_i t2 d
    obtain⟨v,m,s⟩:=eP k;simp only[List.cons.injEq,and_true]at m;subst m;have hd:=s.toD;generalize g:ρ x=vv at hd;cases hd with
    |iface u=>
     rename_i v
     have y:(zeroValue t).run C.P w= .ok r w:=by simp[zeroValue,typeInfo,jc,j]
     by_cases e:t2=t
     ·have a:(execOp ρ o).run C.P w= .ok (.value (.tuple #[v, .bool true])) w:=by
       simp only[execOp,ho,Instr.typeAssert,g];cases b:C.P.underlying t with
       |none=>simp[b]at n
       |some d=>cases d<;>simp_all[run_underlying b]
      rw[a];refine .same l h (.d (.tup (.cons ?_ (.cons ?_ .nil))))
      ·rw[if_pos e];exact u
      ·simp only[e,decide_true];exact .bool _
     ·have a:(execOp ρ o).run C.P w= .ok (.value (.tuple #[r, .bool false])) w:=by
       simp only[execOp,ho,Instr.typeAssert,g];cases b:C.P.underlying t with
       |none=>simp[b]at n
       |some d=>cases d<;>simp_all[run_underlying b]
      rw[a];refine .same l h (.d (.tup (.cons ?_ (.cons ?_ .nil))))
      ·rw[if_neg e];exact kR i
      ·simp only[e,decide_false];exact .bool _
   ·exact h.elim
  ·cases i
 ·cases i
structure Put (g:Nat) (w w':World) (o:Obj):Prop where
 os:w'.os=w.os
 tape:w'.tape=w.tape
 output:w'.output=w.output
 size:w'.heap.size=w.heap.size
 at_:w'.heap[g]?=some o
 keep:∀b,b≠g->w'.heap[b]?=w.heap[b]?
def I5 (w:World)(g:Nat)(o:Obj)(h:g<w.heap.size):Put g w {w with heap:=w.heap.setIfInBounds g o} o:={
 os:=rfl
 tape:=rfl
 output:=rfl
 size:=by simp
 at_:=by simp[h]
 keep:=fun b a=>by simp[Array.getElem?_setIfInBounds_ne (Ne.symm a)]}
def Put.iR {g:Nat}{o':Obj}{w w':World}(h:Put g w w' o'){b:Nat}{o:Obj}(hb:b≠g)(ho:w.heap[b]?=some o):w'.heap[b]?=some o:=(h.keep b hb).trans ho
def Jg {w':World}{b blk:Nat}{cs cs':List PV}{o:Obj}(h:Sim C X w M E)(hb:M.boxes[b]?=some (some cs))(z:b∉M.fz)(ho:isObj cs=true)(F:isObj cs'=true)
  (he:E.bx[b]?=some blk)(m:Put blk w w' o)
  (x:From w M E w' {M with boxes:=M.boxes.set b (some cs')} E->lZ w' (away X {M with boxes:=M.boxes.set b (some cs')} E) {M with boxes:=M.boxes.set b (some cs')} E blk cs'):
  Sim C X w' {M with boxes:=M.boxes.set b (some cs')} E/\From w M E w' {M with boxes:=M.boxes.set b (some cs')} E:=by
 have B:b<M.boxes.length:=(U.1 hb).1;have r:owned M E blk:= .inl ⟨b,cs,hb,z,he⟩;have hX:¬X blk:=by
  obtain⟨a,h1,h2,_⟩:=h.box b cs hb;rw[he]at h1;cases h1;exact h2
 have d:∀(i:Nat) (c:List PV),(M.boxes.set b (some cs'))[i]?=some (some c)->∃c':List PV,M.boxes[i]?=some (some c'):=by
  intro i c f
  rcases aI f with⟨rfl,_⟩|⟨_,l⟩
  ·exact⟨cs,hb⟩
  ·exact⟨c,l⟩
 have s:From w M E w' {M with boxes:=M.boxes.set b (some cs')} E:=
  {os:=m.os,tape:=m.tape,output:=m.output,size:=cg m.size.symm
   keep:=fun i o f ho=>m.iR (fun e=>f (e▸r)) ho
   own:=by
    rintro i (⟨j,c,h1,h2,h3⟩|⟨k,A,o,e,h1,h2,h3⟩)
    ·obtain⟨c',h1'⟩:=d j c h1
     exact .inl (.inl ⟨j,c',h1',h2,h3⟩)
    ·exact .inl (.inr ⟨k,A,o,e,h1,h2,h3⟩)
   fU:=by simp
   bx:=fun i c f=>by
    refine⟨rfl,?_⟩
    by_cases q:i=b
    ·subst q;rw[hb]at f;cases f;exact⟨cs',by simp[B],F.trans ho.symm⟩
    ·exact⟨c,by rw[ax];simp[Ne.symm q,f],rfl⟩
   bn:=N _
   ar:=fun _ I _ h=>⟨I,h,N _,fun _=>⟨rfl,rfl,rfl,fun _=>rfl⟩⟩}
 refine⟨?_,s⟩;exact
  {glob:=C.keeps w w' h.glob fun b hb=>m.keep b (fun e=>hX (e▸h.gG b hb)),gG:=h.gG
   xlt:=fun i f=>by rw[m.size];exact h.xlt i f
   fU:=by simp[h.fU]
   bn:=h.bn
   box:=fun i c f=>by
    rcases aI f with⟨rfl,y⟩|⟨D,l⟩
    ·cases y
     exact⟨blk,he,hX,x s⟩
    ·obtain⟨a,h1,h2,h3⟩:=h.box i c l
     have g:a≠blk:=fun e=>D (h.bb i b c cs blk l hb (e▸h1) he)
     exact⟨a,h1,h2,h3.from s fun _ ho=>m.iR g ho⟩
   arr:=fun k A G=>by
    obtain⟨h1,h2,h3,p⟩:=h.arr k A G;refine⟨h1,h2,h3,fun a o e H=> ?_⟩;obtain⟨L,vs',T',g2,g3,g4,O⟩:=p a o e H;have g:a≠blk:=fun K=>h.ba b k cs A blk o e hb G he (K▸H)
    exact⟨L,vs',T',m.iR g g2,g3,g4,O.from s⟩
   bb:=fun i j n t a h1 h2 h3 p=>by
    obtain⟨u,h1'⟩:=d i n h1;obtain⟨J,v⟩:=d j t h2;exact h.bb i j u J a h1' v h3 p
   aa:=h.aa
   ba:=fun i k n A a o e h1 h2 h3 p=>by
    obtain⟨u,h1'⟩:=d i n h1;exact h.ba i k u A a o e h1' h2 h3 p}
def SS {id:Nat}{o:Obj}{cs:List PV}(h:Sim C X w M E)(hid:M.boxes[id]?=some none)
  (q:From w M E (w.alloc o) {M with boxes:=M.boxes.set id (some cs)} {E with bx:=E.bx.set id w.heap.size}->
   lZ (w.alloc o) (away X {M with boxes:=M.boxes.set id (some cs)} {E with bx:=E.bx.set id w.heap.size}) {M with boxes:=M.boxes.set id (some cs)} {E with bx:=E.bx.set id w.heap.size} w.heap.size cs):
  Sim C X (w.alloc o) {M with boxes:=M.boxes.set id (some cs)} {E with bx:=E.bx.set id w.heap.size}/\
  From w M E (w.alloc o) {M with boxes:=M.boxes.set id (some cs)} {E with bx:=E.bx.set id w.heap.size}:=by
 have t:id<M.boxes.length:=(U.1 hid).1;have Rq:id<E.bx.length:=h.fU▸t;have c:∀b,b≠id->(E.bx.set id w.heap.size)[b]?=E.bx[b]?:=fun b f=>by rw[ax];simp[Ne.symm f]
 have hbi:(E.bx.set id w.heap.size)[id]?=some w.heap.size:=by simp[Rq]
 have m:From w M E (w.alloc o) {M with boxes:=M.boxes.set id (some cs)} {E with bx:=E.bx.set id w.heap.size}:=
  {os:=rfl,tape:=rfl,output:=rfl,size:=by simp
   keep:=fun b o _ u=>(Later.alloc w _).iR u
   own:=by
    rintro b (⟨i,cs',h1,h2,h3⟩|⟨k,A,o,e,h1,h2,h3⟩)
    ·rcases aI h1 with⟨rfl,_⟩|⟨a,h1'⟩
     ·rw[hbi]at h3;cases h3;exact .inr (N _)
     ·rw[c i a]at h3;exact .inl (.inl ⟨i,cs',h1',h2,h3⟩)
    ·exact .inl (.inr ⟨k,A,o,e,h1,h2,h3⟩)
   fU:=by simp
   bx:=fun b cs' f=>by
    have a:b≠id:=by rintro rfl;rw[hid]at f;cases f
    exact⟨c b a,cs',by rw[ax];simp[Ne.symm a,f],rfl⟩
   bn:=N _
   ar:=fun _ v _ h=>⟨v,h,N _,fun _=>⟨rfl,rfl,rfl,fun _=>rfl⟩⟩}
 refine⟨?_,m⟩;exact
  {glob:=C.keeps w _ h.glob fun b f=>(Later.alloc w _).keep b (h.xlt b (h.gG b f)),gG:=h.gG
   xlt:=fun b f=>by have:=h.xlt b f;simp;omega
   fU:=by simp[h.fU]
   bn:=h.bn
   box:=fun b cs' f=>by
    rcases aI f with⟨rfl,s⟩|⟨a,r⟩
    ·cases s
     exact⟨w.heap.size,hbi,fun D=>absurd (h.xlt _ D) (by omega),q m⟩
    ·obtain⟨blk,h1,h2,h3⟩:=h.box b cs' r
     exact⟨blk,(c b a).trans h1,h2,h3.from m fun _ u=>(Later.alloc w _).iR u⟩
   arr:=fun k A z=>by
    obtain⟨h1,h2,h3,d⟩:=h.arr k A z;refine⟨h1,h2,h3,fun blk o e B=> ?_⟩;obtain⟨x,vs,T,g2,g3,g4,y⟩:=d blk o e B;exact⟨x,vs,T,(Later.alloc w _).iR g2,g3,g4,y.from m⟩
   bb:=fun b n j p blk h1 h2 h3 d=>by
    rcases aI h1 with⟨rfl,_⟩|⟨a,h1'⟩<;>rcases aI h2 with⟨rfl,_⟩|⟨g,l⟩
    ·rfl
    ·rw[hbi]at h3;cases h3;rw[c n g]at d;exact absurd (h.Dq l d) (by omega)
    ·rw[hbi]at d;cases d;rw[c b a]at h3;exact absurd (h.Dq h1' h3) (by omega)
    ·rw[c b a]at h3;rw[c n g]at d;exact h.bb b n j p blk h1' l h3 d
   aa:=h.aa
   ba:=fun b k j A blk o e h1 h2 h3 d=>by
    rcases aI h1 with⟨rfl,_⟩|⟨a,h1'⟩
    ·rw[hbi]at h3;cases h3;exact absurd (h.AZ h2 d) (by omega)
    ·rw[c b a]at h3;exact h.ba b k j A blk o e h1' h2 h3 d}
def WU {t:TypeId}{i:Nat}(ho:o.op= .makeMap t none){args:List PV}(c:Sim C X w M E)
  {base:Nat}(h:ak C base (.mkMap i) args M K KP):eF C X w M E K KP ((execOp ρ o).run C.P w):=by
 simp only[ak]at h
 split at h
 ·obtain⟨h1,h2⟩:=h
  have a:base+i<M.boxes.length:=(U.1 h1).1;have Rq:base+i<E.bx.length:=c.fU▸a;have b:(execOp ρ o).run C.P w= .ok (.value (.map (some w.heap.size))) (w.alloc (.map #[] 0)):=by
   simp only[execOp,ho,a6];rfl
  rw[b];obtain⟨d,e⟩:=SS (o:= .map #[] 0) (cs:=[.gI []]) c h1 fun _=>⟨#[],0,heap_alloc_new w _, .nil, .nil⟩
  exact⟨_,_,_,h2,d,e, .mref (cs:=[.gI []]) (by simp[a]) (by simp[Rq]) rfl⟩
 ·exact h.elim
def Na {P:Program}{key:TypeId}{fs:Array Field}{ks:List Nat}(a:P.underlying key=some (.struct fs))(g:dN P fs.toList ks 0=true)(m:P.stoodInHeld key=false){xs:Array Value}{k:List DV}(hx:aU w O xs.toList k){v:DV}:
  ∀(es:List MapEntry) (l n:List (DV×DV)) (i:Nat),aU w O (es.map (·.key)) (l.map (·.1))->aU w O (es.map (·.val)) (l.map (·.2))->zX ks l k v=some n->
  ∃x,(Instr.findAsking key (.agg xs) es i).run P w= .ok x w/\((x=none/\n=l++ [(.agg k,v)])\/
   ∃j u k' e,x=some (i+j,u)/\es[j]?=some e/\j<l.length/\bF w O e.key (.agg k')/\bG ks k k'=some true/\n=l.set j (.agg k,v))
 | [],[],n,i,_,_,h=>by
  simp only[zX,Option.some.injEq]at h;subst h;exact⟨none,by simp[Instr.findAsking], .inl ⟨rfl,rfl⟩⟩
 |e::es,(r,dv)::l,n,i,h1,h2,h=>by
  simp only[I]at h1 h2;cases h1 with
  |cons s p=>cases h2 with
   |cons L q=>
    have o:∃k',r= .agg k':=by cases r<;>first|exact⟨_,rfl⟩|(simp[zX]at h)
    obtain⟨k',rfl⟩:=o;obtain⟨ys,z,E⟩:=s.uD;have d:∀t,bG ks k k'=some t->(Op.equal key (.agg xs) e.key).run P w= .ok t w:=by
     intro t D
     show(Op.equalIn 10000 key (.agg xs) e.key).run P w= .ok t w
     have f:P.fieldsOf key=fs:=by simp[Program.fieldsOf,a]
     rw[z,run_equalIn_agg w 9999 key xs ys (by rw[f];exact a) m,f];exact qU 9998 g (by simpa using hx) (by simpa using E) D
    cases c:bG ks k k' with
    |none=>simp[zX,c]at h
    |some b=>
     cases b with
     |true=>
      simp only[zX,c,Option.some.injEq]at h;exact⟨some (i,e.val),by simp[Instr.findAsking,d _ c], .inr ⟨0,e.val,k',e,rfl,rfl,by simp,s,c,h.symm⟩⟩
     |false=>
      simp only[zX,c,J]at h;obtain⟨l2,C,rfl⟩:=h;obtain⟨x,A,B⟩:=Na a g m hx es l l2 (i+1) p q C;refine⟨x,by simp[Instr.findAsking,d _ c,A],?_⟩
      rcases B with⟨rfl,rfl⟩|⟨j,u,F,y,rfl,G,M,H,K,rfl⟩
      ·exact .inl ⟨rfl,rfl⟩
      ·exact .inr ⟨j+1,u,F,y,by simp;omega,by simpa using G,by simp;omega,H,K,rfl⟩
 | [],_::_,_,_,h1,_,_=>by simp at h1;cases h1
 | _::_,[],_,_,h1,_,_=>by simp at h1;cases h1
def MF:∀{vs q:List Value} {k k':List DV},aU w O vs k->aU w O q k'->bG ks k k'=some true->vs.length=q.length/\((q.zip vs).all fun(x,y)=>Instr.sameBits 9999 x y)=true:=by
 induction ks with
 |nil=>
  intro vs q k k' h1 h2 h;cases h1 with
  |nil=>cases h2 with
   |nil=>exact⟨rfl,rfl⟩
   |cons _ _=>simp[bG]at h
  |cons _ _=>simp[bG]at h
 |cons a ks s=>
  intro vs q k k' h1 h2 h;unfold bG at h
  split at h
  ·contradiction
  ·rename_i j C n l D m v c
   cases c;cases h1 with
   |cons i h1=>cases h2 with
    |cons g h2=>
     split at h
     ·rename_i B
      subst B;rw[J]at h;obtain⟨t,f,e⟩:=h;simp only[H,beq_iff_eq]at e;obtain⟨rfl,rfl⟩:=e;obtain⟨o,p⟩:=s h1 h2 f;rw[i.eX,g.eX];exact⟨by simp[o],by simp only[bu,bp,p,bw];simp[Instr.sameBits]⟩
     ·cases h
  ·rename_i j b l r v c
   cases c;cases h1 with
   |cons i h1=>cases h2 with
    |cons g h2=>
     rw[J]at h;obtain⟨t,f,e⟩:=h;simp only[H,beq_iff_eq]at e;obtain⟨rfl,rfl⟩:=e;obtain⟨o,p⟩:=s h1 h2 f;rw[i.mg,g.mg];exact⟨by simp[o],by simp only[bu,bp,p,bw];simp[Instr.sameBits]⟩
  ·rename_i j b l r v c
   cases c;cases h1 with
   |cons i h1=>cases h2 with
    |cons g h2=>
     rw[J]at h;obtain⟨t,f,e⟩:=h;simp only[H,beq_iff_eq]at e;obtain⟨u,rfl⟩:=e;obtain⟨o,p⟩:=s h1 h2 f;rw[i.pK,g.pK];have z:b=r:=by
      cases b;cases r;simp only[ByteArray.toList_eq]at u
      simpa using u
     subst z;have A:(b==b)=true:=by cases b with|mk d=>show(d==d)=true;exact beq_self_eq_true d
     exact⟨by simp[o],by simp only[bu,bp,p,bw];simp only[Instr.sameBits,A]⟩
  ·cases h
def aai {t:TypeId}{y:Operand}(ho:o.op= .mapUpdate t x i y){args:List PV}(hS:Sim C X w M E)(hA:aK w (away X M E) M E ((opsOf o.op).map ρ) args)
  (c:aJ C.P (.mapUpdate t x i y) (.RY ks)=true){base:Nat}(h:ak C base (.RY ks) args M K KP):eF C X w M E K KP ((execOp ρ o).run C.P w):=by
 simp only[aJ]at c
 split at c
 ·rename_i ai e N
  split at c
  ·rename_i fs XJ
   simp only[H,ab]at c;obtain⟨L,ae⟩:=c;simp only[ho,opsOf,I,V]at hA;simp only[ak]at h
   split at h
   ·rename_i b k v
    obtain⟨v1,v2,v3,he,hr,ac,J⟩:=G9 hA;simp only[List.cons.injEq,and_true]at he;obtain⟨rfl,rfl,rfl⟩:=he
    split at h
    ·rename_i l d
     obtain⟨U,h⟩:=h
     split at h
     ·rename_i R hc hl
      have p:M.boxes[b]?=some (some [.gI l]):=by
       unfold Mem.box at d
       split at d
       ·rename_i cs T;cases d;exact T
       ·cases d
      obtain⟨xs,e1,Q⟩:=ac.toD.uD;generalize O:ρ x=vv at hr;cases hr with
      |mref F A an=>
       rename_i blk cs
       rw[p]at F;cases F;obtain⟨am,q1,q2,q3⟩:=hS.box b _ p;rw[A]at q1;cases q1;obtain⟨es,clock,S,Y,hv⟩:=q3;obtain⟨z,g1,g2⟩:=Na (P:=C.P) (v:=v) XJ L ae Q es.toList l R 0 Y hv hl;have B:=vI (P:=C.P) XJ L Q hc false;have r:(Instr.findKey ai (.agg xs) es.toList).run C.P w= .ok z w:=by
        rw[run_findKey_eq (P:=C.P) w (by rw[XJ])];exact g1
       have m:(getObj blk).run C.P w= .ok (.map es clock) w:=by simp[getObj,Sem.run,S]
       have G:=bZ S;have n:∀o':Obj,(setObj blk o').run C.P w= .ok () {w with heap:=w.heap.setIfInBounds blk o'}:=fun o'=>by simp[setObj,Sem.run,S]
       have s:∀(f:Array MapEntry) (a:Nat),aU w (away X M E) (f.toList.map (·.key)) (R.map (·.1))->aU w (away X M E) (f.toList.map (·.val)) (R.map (·.2))->
         eF C X w M E K KP (.ok .skip {w with heap:=w.heap.setIfInBounds blk (.map f a)}):=by
        intro f a p1 p2;obtain⟨s1,s2⟩:=Jg (cs':=[.gI R]) hS p U rfl rfl A (I5 w blk (.map f a) G) fun hf=>⟨f,a,by simp[G],p1.from hf,p2.from hf⟩
        exact⟨_,_,h,s1,s2⟩
       rcases g2 with⟨rfl,rfl⟩|⟨j,u,k',en,rfl,p1,p2,p3,p4,rfl⟩
       ·have g:(execOp ρ o).run C.P w= .ok .skip {w with heap:=w.heap.setIfInBounds blk (.map (es.push {key:= .agg xs,val:=ρ y,born:=clock}) (clock+1))}:=by
         simp only[execOp,ho,Instr.mapUpdate,Sem.run_bind,run_underlying N,Result.andThen_ok,O,e1,m,B,r,n];simp[Sem.run_pure]
        rw[g];refine s _ _ ?_ ?_
        ·simpa using Y.append (.cons (.agg Q) .nil)
        ·simpa using hv.append (.cons J.toD .nil)
       ·obtain⟨ys,e2,hy⟩:=p3.uD
        obtain⟨b1,b2⟩:=MF Q hy p4;have adl:Instr.sameBits 10000 (.agg ys) (.agg xs)=true:=by
         simp only[Instr.sameBits,H,beq_iff_eq];exact⟨by simpa using b1.symm,b2⟩
        have W:es[j]?=some en:=by simpa using p1
        have D:j<es.size:=bZ W;have adw:(Instr.keyThatStays (((es[j]?).map (·.key)).getD (.agg xs)) (.agg xs)).run C.P w= .ok (.agg xs) w:=by
         simp only[W,a7,Z,e2,Instr.keyThatStays,adl,if_true,Sem.run_pure]
        have g:(execOp ρ o).run C.P w= .ok .skip {w with heap:=w.heap.setIfInBounds blk (.map (es.modify j fun e=>{e with key:= .agg xs,val:=ρ y}) clock)}:=by
         simp only[a1]at r;simp only[execOp,ho,Instr.mapUpdate,Sem.run_bind,run_underlying N,Result.andThen_ok,O,e1,m,B,r,adw,n];simp[Sem.run_pure]
        rw[g];have hm:(es.modify j fun e=>{e with key:= .agg xs,val:=ρ y}).toList=es.toList.set j {en with key:= .agg xs,val:=ρ y}:=by
         apply bc;intro q;rw[ax];simp only[a8,bR]
         by_cases hq:j=q
         ·subst hq;rw[if_pos rfl,if_pos rfl,W,if_pos (by simpa using D)];rfl
         ·rw[if_neg hq,if_neg hq]
        refine s _ _ ?_ ?_
        ·rw[hm,aR,aR];exact Y.set j (.agg Q)
        ·rw[hm,aR,aR];exact hv.set j J.toD
     ·exact h.elim
    ·exact h.elim
   ·exact h.elim
  ·cases c
 ·cases c
end
section
variable {C:Ctx}{X:Nat->Prop}{w:World}{M:Mem}{E:Emb}{K:PV->Mem->Prop}{KP:DV->Mem->Prop}{O:Nat->Prop}
variable{ρ:Operand->Value}{o:Oper}{sz:Nat}
def WV {t:TypeId}{l c:Operand}{z:DV}(ho:o.op= .makeSlice t l c){args:List PV}(Y:Sim C X w M E)(U:aK w (away X M E) M E ((opsOf o.op).map ρ) args)
  (a:aJ C.P (.makeSlice t l c) (.mkRow sz z)=true){base:Nat}(h:ak C base (.mkRow sz z) args M K KP):eF C X w M E K KP ((execOp ρ o).run C.P w):=by
 simp only[aJ]at a
 split at a
 ·rename_i e L
  split at a
  ·rename_i b jc
   split at a
   ·rename_i i hz
    simp only[H,beq_iff_eq,decide_eq_true_eq]at a;obtain⟨⟨⟨⟨⟨g,f⟩,y⟩,alj⟩,s⟩,S⟩:=a;simp only[ho,opsOf,I,V]at U;simp only[ak]at h
    split at h
    ·rename_i k n k' m
     obtain⟨rfl,T,q,_,p,hK⟩:=h;obtain⟨v,u,Z,hr,J⟩:=dK U;simp only[List.cons.injEq,and_true]at Z;obtain⟨rfl,rfl⟩:=Z;have e1:=hr.toD.eX;have e2:=J.toD.eX;have hb:(b.bytes:Int)*n<=281474976710656:=by
      have h1:(b.bytes:Int)<=1024:=by omega
      have:=Int.mul_le_mul h1 q T (by omega);omega
     have hc:n.toNat*b.size<=16777216:=by
      rw[g];have:n.toNat<=1048576:=by omega
      have:=Nat.mul_le_mul this alj;omega
     have r:=run_makeSlice (P:=C.P) w t e b i L jc hz k k' n n T (Int.le_refl _) hc hb (by omega);have F:(execOp ρ o).run C.P w= .ok (.value (.slice (some ⟨w.heap.size,0,none⟩) n.toNat n.toNat)) (w.alloc (.cells (madeCells i.cells (n.toNat*b.size)) e)):=by
      simp[execOp,ho,e1,e2,r]
     rw[F];have R:∀x∈ap n.toNat z,x.fits sz=true:=fun x Q=>by rw[(bj.1 Q).2];exact p
     have j:((ap n.toNat z).all fun d=>iJ d.cells i.cells.toList)=true:=by
      rw[bB];intro x Q;rw[(bj.1 Q).2];exact S
     have akm:=AV (w:=w) (O:=away X M E) s f j;rw[bS]at akm;have G:(madeCells i.cells (n.toNat*b.size)).toList=((cp (n.toNat*sz)).map (i.cells[· % sz]!)).toList:=by
      rw[g];unfold madeCells;rw[s]
     obtain⟨t1,t2⟩:=uw (A:=⟨sz,ap n.toNat z,0,1⟩) (loc:=some (w.heap.size,0,n.toNat*sz)) Y (Later.alloc w (.cells (madeCells i.cells (n.toNat*b.size)) e)) f R (fun _ hh=>by cases hh) (fun blk o' e' hh=>by
      cases hh;refine⟨N _,_, .zero _ _,heap_alloc_new w _,?_,?_,?_⟩
      ·simp
      ·rw[size_madeCells,g];exact N _
      ·rw[G,bh,an]
       ·exact akm
       ·simp)
     refine⟨_,_,_,hK,t1,t2, .tsl (by simp) fun B W=> ?_⟩;have D:B=⟨sz,ap n.toNat z,0,1⟩:=by simp at W;simp[W]
     subst D;refine⟨N _,fun _=>⟨some (w.heap.size,0,n.toNat*sz),by simp[<-Y.bn],aL _, .inl ⟨n.toNat,?_,?_,?_⟩⟩⟩
     ·simp
     ·simp
     ·simp
    ·exact h.elim
   ·cases a
  ·cases a
 ·cases a
def WW {t:TypeId}{len:Nat}{parts:Array (Nat×Operand)}{zs:List DV}{V:List Nat}(ho:o.op= .buildSlice t len parts){args:List PV}(T:Sim C X w M E)
  (R:aK w (away X M E) M E ((opsOf o.op).map ρ) args)(a:aJ C.P (.buildSlice t len parts) (.lG sz zs V)=true){base:Nat}
  (h:ak C base (.lG sz zs V) args M K KP):eF C X w M E K KP ((execOp ρ o).run C.P w):=by
 simp only[ak]at h
 split at h
 ·rename_i ds u
  split at h
  ·rename_i xs G
   obtain⟨g,c,Y⟩:=h;simp only[aJ]at a
   split at a
   ·rename_i e Z
    split at a
    ·rename_i ab jc
     split at a
     ·rename_i z hz
      simp only[H,decide_eq_true_eq,beq_iff_eq]at a;obtain⟨⟨⟨⟨⟨⟨F,hs⟩,k⟩,U⟩,I⟩,Nq⟩,y⟩:=a;simp only[ho,opsOf]at R;have q:=(R.gU u).strip;have r:aU w (away X M E) ((parts.toList.map fun x=>(x.1,ρ x.2)).map (·.2)) (ds.map DV.strip):=by simpa[List.map_map,ce]using q
      have L:∀x∈zs,x.cells.length=sz:=by
       intro x hx;simp only[bB]at Nq;have:=(iy (w:=w) (O:=fun _=>False) (Nq x hx)).length;simp at this;omega
      obtain⟨l,m,Q,W,g4⟩:=JA (vs:=(cp (zs.length*sz)).map (z.cells[· % sz]!)) (by subst y;simp[ce]) r (AV k F Nq) L G;have D:¬(len*sz>2 ^ 24):=by omega
      have i:(execOp ρ o).run C.P w= .ok (.value (.slice (some ⟨w.heap.size,0,none⟩) len len)) (w.alloc (.cells l e)):=by
       simp only[execOp,ho,Instr.buildSlice,Sem.run_bind,run_underlying Z,Result.andThen_ok,run_sizeOf jc,hs,D,if_false,bind_pure_comp,Sem.run_map,Sem.run_ite,Sem.run_pure];have J:(zeroValue e).run C.P w= .ok z w:=by simp[zeroValue,typeInfo,jc,hz]
       have d:(cE (fun x=>(x.1,ρ x.2)) parts).toList=parts.toList.map (fun x=>(x.1,ρ x.2)):=by simp
       rw[I]at m
       by_cases n:len*sz=0
       ·have p:∀(f:Nat->Value),cE f (cp (len*sz))= #[]:=by intro f;rw[n];simp
        rw[p]at m;rw[n]at p;simp only[n,if_true,d,p,m];simp only[newRow,Sem.run_map,run_newObj_alloc,bind_pure_comp,Result.andThen_ok]
       ·simp only[n,if_false,J,Result.andThen_ok,k,d,m,newRow,Sem.run_map,run_newObj_alloc,bind_pure_comp]
      rw[i];have b:xs.length=len:=by omega
      have j:=Q.length;have v:(flat xs).length=len*sz:=by rw[flat_length W,b]
      obtain⟨t1,t2⟩:=uw (A:=⟨sz,xs,0,1⟩) (loc:=some (w.heap.size,0,len*sz)) T (Later.alloc w (.cells l e)) g c (fun _ hh=>by cases hh) (fun blk o' e' hh=>by
       cases hh;refine⟨N _,_, .zero _ _,heap_alloc_new w _,?_,?_,?_⟩
       ·simp[b]
       ·rw[Array.length_toList]at j;omega
       ·rw[bh,an (by rw[j,v,b];exact N _)]
        exact Q)
      refine⟨_,_,_,Y,t1,t2, .tsl (by simp) fun B S=> ?_⟩;have s:B=⟨sz,xs,0,1⟩:=by simp at S;simp[S]
      subst s;refine⟨N _,fun _=>⟨some (w.heap.size,0,len*sz),by simp[<-T.bn],aL _, .inl ⟨len,?_,?_,?_⟩⟩⟩
      ·simp[b]
      ·simp[b]
      ·simp
     ·cases a
    ·cases a
   ·cases a
  ·exact h.elim
 ·exact h.elim
def J9:∀{xs:List DV} {l:List UInt8},bytesOf xs=some l->∃ns:List Int,xs=ns.map (DV.int .u8)/\l=ns.map fun n=>UInt8.ofNat n.toNat
 | [],l,h=>by simp only[bytesOf,Option.some.injEq]at h;subst h;exact⟨[],rfl,rfl⟩
 |x::xs,l,h=>by
  unfold bytesOf at h
  split at h
  ·rename_i a;cases a
  ·rename_i n c a
   cases a;rw[J]at h;obtain⟨b,h1,rfl⟩:=h;obtain⟨ns,rfl,rfl⟩:=J9 h1;exact⟨n::ns,rfl,rfl⟩
  ·cases h
def VE:∀(ns:List Int) (s:ByteArray),ns.foldl (fun r n=>r.push (UInt8.ofNat n.toNat)) s=⟨s.data++(ns.map fun n=>UInt8.ofNat n.toNat).toArray⟩
 | [],s=>by simp
 |n::ns,s=>by
  rw[List.foldl_cons,VE ns];simp[ByteArray.push]
def PL:∀ns:List Int,flat (ns.map (DV.int .u8))=ns.map (DV.int .u8)
 | []=>rfl
 |n::ns=>by rw[I,jZ,PL ns];rfl
def Qv:∀{ns:List Int} {vs:List Value},aU w O vs (ns.map (DV.int .u8))->vs=ns.map (Value.int .u8)
 | [],_,h=>by cases h;rfl
 |n::ns,_,h=>by
  cases h with
  |cons h t=>rw[h.eX,Qv t];rfl
variable{x:Operand}
def acs {s d:TypeId}(ho:o.op= .convert s d x){args:List PV}(z:Sim C X w M E)(Q:aK w (away X M E) M E ((opsOf o.op).map ρ) args)
  (r:aJ C.P (.convert s d x) .b2s=true){base:Nat}(h:ak C base .b2s args M K KP):eF C X w M E K KP ((execOp ρ o).run C.P w):=by
 simp only[aJ,H]at r;obtain⟨j,hd⟩:=r
 split at j
 ·rename_i e N
  split at j
  ·rename_i k Z
   simp only[decide_eq_true_eq]at j;subst j
   split at hd
   ·rename_i F
    simp only[ho,opsOf,I,V]at Q;simp only[ak]at h
    split at h
    ·rename_i p
     obtain⟨v,R,L⟩:=eP Q;simp only[List.cons.injEq,and_true]at R;subst R;cases c:yO 0 p M with
     |none=>simp only[c]at h
     |some xs=>
      simp only[c]at h;cases B:bytesOf xs with
      |none=>simp only[B]at h
      |some l=>
       simp only[B]at h;obtain⟨ns,rfl,rfl⟩:=J9 B;have g:yO 1 p M=some (ns.map (DV.int .u8))/\∃a cap,ρ x= .slice a ns.length cap:=by
        unfold yO at c⊢
        split at c
        ·simp only[Option.some.injEq]at c
         subst c;obtain⟨a,cap,f⟩:=L.toD.jF;exact⟨rfl,a,cap,by simpa using f⟩
        ·cases c
        ·rename_i k ver skip
         refine⟨c,?_⟩;rw[J]at c;obtain⟨A,u,O⟩:=c;obtain⟨t1,t2,_,_,t5⟩:=EG z L u;have b:A.elems.length - skip=ns.length:=by have:=congrArg cC O;simpa using this
         rcases t5 with⟨blk,o,e,vs,T,cap,_,_,_,_,_,(⟨h1,_⟩|⟨h1,_,a,h2⟩)⟩|⟨_,_,h1⟩
         ·exact⟨_,_,by rw[h1,b]⟩
         ·exact⟨_,_,by rw[h2,<-b];congr 1;omega⟩
         ·obtain⟨a,cap,f⟩:=h1.jF
          exact⟨a,cap,by rw[f];congr 1;simpa using b⟩
        ·cases c
       obtain⟨g,a,cap,f⟩:=g;have q:∀y∈ns.map (DV.int .u8),y.fits 1=true:=by
        intro y hy;obtain⟨n,_,rfl⟩:=cz.1 hy;rfl
       obtain⟨Y,n1,U,W⟩:=N8 z L g q;rw[PL]at W;have i:=Qv W;subst i;have D:(Conv.bytesToString (ρ x)).run C.P w= .ok (.string ⟨(ns.map fun n=>UInt8.ofNat n.toNat).toArray⟩) w:=by
        cases a with
        |none=>
         have:ns.length=0:=by
          have:=U C.P w (.refl w);rw[f,br]at this
          by_cases S:ns.length=0
          ·exact S
          ·exfalso
           simp[Builtin.firstCells]at this;exact S (by simp[this])
         have hn:=az.1 this;subst hn;rw[f];simp[Conv.bytesToString]
         rfl
        |some a=>
         rw[f];have G:=U C.P w (.refl w);rw[f,br]at G;simp only[Builtin.firstCells,cq]at G;rw[run_bytesToString w a ns.length cap ns G,VE];simp
       have t:(execOp ρ o).run C.P w= .ok (.value (.string ⟨(ns.map fun n=>UInt8.ofNat n.toNat).toArray⟩)) w:=by
        have m:=run_convert_bytes_string (P:=C.P) w s d e a ns.length cap N Z F;rw[<-f,D]at m;simp[execOp,ho,m]
       rw[t];exact .same z h (.d (.str _))
    ·exact h.elim
   ·cases hd
  ·cases j
 ·cases j
def Oa:∀l:List UInt8,aU w O (l.map fun b=>Value.int .u8 b.toNat) (l.map fun b=>DV.int .u8 b.toNat)
 | []=> .nil
 |b::l=> .cons (.int _ _) (Oa l)
def Nc:∀l:List UInt8,flat (l.map fun b=>DV.int .u8 b.toNat)=l.map fun b=>DV.int .u8 b.toNat
 | []=>rfl
 |b::l=>by rw[I,jZ,Nc l];rfl
def acD {s d:TypeId}(ho:o.op= .convert s d x){args:List PV}(r:Sim C X w M E)(p:aK w (away X M E) M E ((opsOf o.op).map ρ) args)
  (c:aJ C.P (.convert s d x) .s2b=true){base:Nat}(h:ak C base .s2b args M K KP):eF C X w M E K KP ((execOp ρ o).run C.P w):=by
 simp only[aJ,H]at c;obtain⟨hd,y⟩:=c
 split at hd
 ·rename_i e l
  split at hd
  ·rename_i k z
   simp only[decide_eq_true_eq]at hd;subst hd
   split at y
   ·rename_i m
    simp only[ho,opsOf,I,V]at p;simp only[ak]at h
    split at h
    ·rename_i t
     obtain⟨v,u,D⟩:=eP p;simp only[List.cons.injEq,and_true]at u;subst u;have F:ρ x= .string t:=D.toD.pK;have a:=grownCap_ge w t.size 0 e;have g:(execOp ρ o).run C.P w= .ok (.value (.slice (some ⟨w.heap.size,0,none⟩) t.size (grownCap w t.size 0 e)))
       (w.drew.alloc (.cells (bytesRow t (grownCap w t.size 0 e)) e ((bytesRow t (grownCap w t.size 0 e)).size,(bytesRow t (grownCap w t.size 0 e)).size+1))):=by
      have:=run_bytes_of_string (P:=C.P) w s d e t m l z;simp[execOp,ho,F,this]
     rw[g];generalize grownCap w t.size 0 e=cap at a;have i:t.data.toList.length=t.size:=by simp
     have n:(bytesRow t cap).size=cap:=by simp[bytesRow];have:t.data.size=t.size:=rfl;omega
     have f:((bytesRow t cap).toList.drop 0).take t.size=t.data.toList.map fun b=>Value.int .u8 b.toNat:=by
      simp only[bytesRow,bh,b3,bA];rw[ct];simp
     obtain⟨t1,t2⟩:=uw (A:=⟨1,t.data.toList.map fun b=>DV.int .u8 b.toNat,0,1⟩) (loc:=some (w.heap.size,0,cap)) r ((Later.drew w).trans (Later.alloc _ _)) Nat.one_pos
      (fun x G=>by obtain⟨b,_,rfl⟩:=cz.1 G;rfl) (fun _ hh=>by cases hh) (fun blk L J hh=>by
       cases hh;refine⟨N _,bytesRow t cap,⟨e,((bytesRow t cap).size,(bytesRow t cap).size+1), .inr (N _)⟩,heap_alloc_new w.drew _,?_,?_,?_⟩
       ·simp only[br,cq,a1,i];exact a
       ·rw[n];exact N _
       ·simp only[br,cq,i]
        rw[f,Nc];exact Oa _)
     refine⟨_,_,_,h,t1,t2, .tsl (by simp) fun B q=> ?_⟩;have j:B=⟨1,t.data.toList.map fun b=>DV.int .u8 b.toNat,0,1⟩:=by simp at q;simp[q]
     subst j;refine⟨N _,fun _=>⟨some (w.heap.size,0,cap),by simp[<-r.bn],aL _, .inl ⟨cap,?_,?_,?_⟩⟩⟩
     ·simp
     ·simpa using a
     ·simp
    ·exact h.elim
   ·cases y
  ·cases hd
 ·cases hd
end
section
variable {C:Ctx}{X:Nat->Prop}{w w':World}{M:Mem}{E:Emb}{K:PV->Mem->Prop}{KP:DV->Mem->Prop}{O:Nat->Prop}
variable{blk:Nat}{A:Arr}{vs:Array Value}
def Hg {k o e:Nat}{el:List DV}{vs':List Value}{T:TM vs.size}(h:Sim C X w M E)(hk:M.aB[k]?=some (some A))(ab:A.st=1)
  (n:E.ar[k]?=some (some (blk,o,e)))(Y:w.heap[blk]?=some (.cells vs T.ty T.fr))(hl:el.length=A.elems.length)(hfit:∀x∈el,x.fits A.sz=true)(t:vs'.length=vs.size)
  (hr:aU w (away X M E) ((vs'.drop o).take (A.elems.length*A.sz)) (flat el))(l:Wrote blk w w' vs' T.ty T.fr):
  Sim C X w' {M with aB:=M.aB.set k (some {A with elems:=el})} E/\From w M E w' {M with aB:=M.aB.set k (some {A with elems:=el})} E:=by
 generalize d:({A with elems:=el}:Arr)=A';have Z:k<M.aB.length:=(U.1 hk).1;obtain⟨s1,s2,s3,s4⟩:=h.arr k A hk;obtain⟨O,ac,T',G,V,W,g5⟩:=s4 blk o e n;rw[Y]at G;simp only[Option.some.injEq,Obj.cells.injEq]at G;obtain⟨rfl,_,_⟩:=G;have s:owned M E blk:= .inr ⟨k,A,o,e,hk,by omega,n⟩;have c:∀(j:Nat) (B:Arr),(M.aB.set k (some A'))[j]?=some (some B)->∃B':Arr,M.aB[j]?=some (some B')/\B.st=B'.st:=by
  intro j B P
  rcases aI P with⟨rfl,r⟩|⟨_,H⟩
  ·cases r;exact⟨A,hk,by rw[<-d]⟩
  ·exact⟨B,H,rfl⟩
 have v:From w M E w' {M with aB:=M.aB.set k (some A')} E:=
  {os:=l.os,tape:=l.tape,output:=l.output,size:=cg l.size.symm
   keep:=fun i o hi J=>l.iR (fun e=>hi (e▸s)) J
   own:=by
    rintro i (⟨j,cs',h1,h2,h3⟩|⟨j,B,o,e,h1,h2,h3⟩)
    ·exact .inl (.inl ⟨j,cs',h1,h2,h3⟩)
    ·obtain⟨B',h1',hs⟩:=c j B h1
     exact .inl (.inr ⟨j,B',o,e,h1',hs▸h2,h3⟩)
   fU:=N _
   bx:=fun i cs' hi=>⟨rfl,cs',hi,rfl⟩
   bn:=by simp
   ar:=fun j B P r=>by
    rcases aI r with⟨rfl,m⟩|⟨_,hB'⟩
    ·cases m
     refine⟨A,hk,by rw[<-d];exact N _,fun _=>⟨rfl,by rw[<-d],by rw[<-d];simp[hl],fun Q=> ?_⟩⟩;rw[n]at Q;cases Q
    ·exact⟨B,hB',N _,fun _=>⟨rfl,rfl,rfl,fun _=>rfl⟩⟩}
 refine⟨?_,v⟩;exact
  {glob:=C.keeps w w' h.glob fun b u=>l.keep b (fun e=>O (e▸h.gG b u)),gG:=h.gG
   xlt:=fun i hi=>by rw[l.size];exact h.xlt i hi
   fU:=h.fU
   bn:=by simp[h.bn]
   box:=fun b cs' u=>by
    obtain⟨a,h1,h2,h3⟩:=h.box b cs' u;have g:a≠blk:=fun p=>h.ba b k cs' A blk o e u hk (p▸h1) n
    exact⟨a,h1,h2,h3.from v fun _ J=>l.iR g J⟩
   arr:=fun j B r=>by
    rcases aI r with⟨rfl,m⟩|⟨I,hB'⟩
    ·cases m
     subst d;refine⟨s1,hfit,s3,fun a K p f=> ?_⟩;rw[n]at f;cases f;refine⟨O,_,T.cast (by simpa using t.symm),l.at_,by simp only[hl];exact V,by simpa[t]using W,?_⟩;simp only[hl];exact hr.from v
    ·obtain⟨h1,h2,h3,q⟩:=h.arr j B hB'
     refine⟨h1,h2,h3,fun a K p f=> ?_⟩;obtain⟨q1,vs',T',q2,q3,q4,q5⟩:=q a K p f;have g:a≠blk:=fun F=>I (h.aa j k B A blk K p o e hB' hk (F▸f) n)
     exact⟨q1,vs',T',l.iR g q2,q3,q4,q5.from v⟩
   bb:=h.bb
   aa:=fun j R B B' a L D o2 F h1 h2 h3 q=>by
    obtain⟨S,h1',_⟩:=c j B h1;obtain⟨z,h2',_⟩:=c R B' h2;exact h.aa j R S z a L D o2 F h1' h2' h3 q
   ba:=fun b j y B a L D h1 h2 h3 q=>by
    obtain⟨z,h2',_⟩:=c j B h2;exact h.ba b j y z a L D h1 h2' h3 q}
def Jq (w:World)(O:Nat->Prop)(sz:Nat)(v:Value)(ys:List DV):Prop:=
 (∀P,(Builtin.lenOf v).run P w= .ok ys.length w)/\∀n,n<=ys.length->∃a:List Value,(∀P,(Builtin.firstCells sz n v).run P w= .ok a.toArray w)/\aU w O a (flat (ys.take n))
variable{sz cap:Nat}
def yH {a:Option Addr}:Jq w O sz (.slice a 0 cap) []:=by
 refine⟨fun P=>by simp[Builtin.lenOf],fun n b=> ?_⟩;have:n=0:=by simpa using b
 subst this;refine⟨[],fun P=> ?_,by simpa[flat]using .nil⟩;cases a with
 |none=>simp[Builtin.firstCells]
 |some a=>simp[Builtin.firstCells,yI]
variable{len:Nat}
def G7 {off:Nat}{ys:List DV}{cs:Array Value}{T:TypeId}{fz:Nat×Nat}(hb:w.heap[blk]?=some (.cells cs T fz))
  (e:aU w O ((cs.toList.drop off).take (len*sz)) (flat ys))(hl:ys.length=len)(hs:∀y∈ys,y.cells.length=sz):Jq w O sz (.slice (some ⟨blk,off,none⟩) len cap) ys:=by
 subst hl;refine⟨fun P=>by simp[Builtin.lenOf],fun n d=> ?_⟩;have c:aU w O ((cs.toList.drop off).take (n*sz)) (flat (ys.take n)):=by
  have:=e.take (n*sz);rw[bX,bs (ai _ d),zS hs]at this;exact this
 have b:((cs.toList.drop off).take (n*sz)).length=n*sz:=by rw[c.length,flat_length fun y f=>hs y (ae f)];simp[d]
 refine⟨_,fun P=> ?_,c⟩;have:=run_loadCells_list (P:=P) w ⟨blk,off,none⟩ ((cs.toList.drop off).take (n*sz)) (fun j v a=>by
  rw[Addr.add_lit,cell_of_row w blk (off+j) cs T fz hb];rw[b7]at a
  split at a
  ·rw[b6]at a;simpa using a
  ·cases a)
 rw[b]at this
 simpa[Builtin.firstCells]using this
variable{v:Value}
def Ep {ex:Bool}{ys:List DV}(e:bF w O v (.slice ex ys))(hs:∀y∈ys,y.cells.length=sz):Jq w O sz v ys:=by
 cases e with
 |empty f=>exact yH
 |slice d i c a h f hh=>
  rename_i blk g len cap b cs T fz
  cases ys with
  |nil=>
   subst c;exact yH
  |cons y ys=>
   have:b=sz:=by rw[<-a y (by simp),hs y (by simp)]
   subst this;exact G7 d hh c hs
variable{skip:Nat}
def ael {o:Nat}(a:∀x∈A.elems,x.fits A.sz=true)(b:aU w O ((vs.toList.drop o).take (A.elems.length*A.sz)) (flat A.elems))(hl:skip+len<=A.elems.length):
  aU w O ((vs.toList.drop (o+skip*A.sz)).take (len*A.sz)) (flat ((A.elems.drop skip).take len)):=by
 have h1:=(row_drop (skip:=skip) a b).take (len*A.sz);rw[bX,bs (ai _ (by omega)),zS (fun x c=>DV.dw (a x (S c)))]at h1;exact h1
def Yq {x:PV}{ys:List DV}(r:Sim C X w M E)(t:Rep w (away X M E) M E v x)(f:Oz x M=some ys)(n:∀y∈ys,y.fits sz=true):Jq w (away X M E) sz v ys:=by
 have u:∀y∈ys,y.cells.length=sz:=fun y c=>DV.dw (n y c)
 have j:∀{k ver:Nat} {A:Arr} {zs:List DV},M.row k ver=some A->(∀y∈zs,y∈A.elems)->(∀y∈zs,y.cells.length=sz)->∀{v:Value},(∀i,i=A.sz\/zs=[]->Jq w (away X M E) i v zs)->Jq w (away X M E) sz v zs:=by
  intro k ver A zs l B D v h;obtain⟨d,_⟩:=rV l;have O:=(r.arr k A d).2.1;cases zs with
  |nil=>exact h sz (.inr rfl)
  |cons z zs=>
   refine h sz (.inl ?_);rw[<-D z (by simp),DV.dw (O z (B z (by simp)))]
 unfold Oz at f
 split at f
 ·simp only[Option.some.injEq]at f;subst f
  exact Ep t.toD u
 ·rename_i k ver skip
  rw[J]at f;obtain⟨A,l,rfl⟩:=f;obtain⟨_,h1,h2,m,p⟩:=EG r t l;refine j l (fun y c=>S c) u fun i b=> ?_
  rcases p with⟨blk,o,e,vs,T,cap,q1,Q,q3,q4,R,U⟩|⟨_,_,hd⟩
  ·rcases U with⟨rfl,V,q8⟩|⟨V,_,a,rfl⟩
   ·by_cases hz:A.elems.drop skip=[]
    ·rw[hz]
     have:A.elems.length - skip=0:=by simpa using congrArg cC hz
     rw[this];exact yH
    ·obtain rfl:=b.resolve_right hz
     exact G7 Q (row_drop m R) (by simp) fun y c=>DV.dw (m y (S c))
   ·rw[aq (by omega)]
    exact yH
  ·refine Ep hd fun y c=> ?_
   rcases b with rfl|hz
   ·exact DV.dw (m y (S c))
   ·rw[hz]at c;simp at c
 ·rename_i k ver skip len
  rw[J]at f;obtain⟨A,l,rfl⟩:=f;obtain⟨d,GN⟩:=rV l;obtain⟨s1,G,s3,W⟩:=r.arr k A d;refine j l (fun y c=>S (ae c)) u fun i b=> ?_
  cases t with
  |psl P hh=>
   obtain⟨_,h2⟩:=hh A d;obtain⟨F,m,p,H⟩:=h2 GN;have g:((A.elems.drop skip).take len).length=len:=by simp;omega
   cases F with
   |some q=>
    obtain⟨blk,o,e⟩:=q;obtain⟨_,vs,T,L,Y,Z,N⟩:=W blk o e m;obtain⟨a,cap,I,K⟩:=H;cases I
    by_cases hz:len=0
    ·subst hz
     simp only[cv];exact yH
    ·rw[K hz]
     have s:(A.elems.drop skip).take len≠[]:=by intro hh;rw[hh]at g;simp at g;exact hz g.symm
     obtain rfl:=b.resolve_right s;exact G7 L (ael G N p) g fun y c=>DV.dw (G y (S (ae c)))
   |none=>
    refine Ep H fun y c=> ?_
    rcases b with rfl|hz
    ·exact DV.dw (G y (S (ae c)))
    ·rw[hz]at c;simp at c
 ·cases f
def Zl {vs:List Value}{ds:List DV}(h:aU w O vs ds)(h1:∀c∈ds,c.one=true):∀v∈vs,v.oneCell'=true:=by
 induction vs generalizing ds with
 |nil=>intro v a;simp at a
 |cons u g f=>
  cases h with
  |cons e d=>
   intro v a
   rcases bz.1 a with rfl|a
   ·have:=h1 _ List.mem_cons_self
    cases e<;>first|rfl|(simp[DV.one]at this)
   ·exact f d (fun c b=>h1 c (by simp[b])) v a
def PN {xs:List DV}(h:∀x∈xs,x.fits sz=true):∀c∈flat xs,c.one=true:=by
 intro c a;simp only[flat,cm]at a;obtain⟨x,b,a⟩:=a;exact DV.Ig (h x b) c a
variable{z:DV}
def YK {b:Array Value}{sz n:Nat}(c:b.size=sz)(d:iJ z.cells b.toList=true)(a:0<sz):aU w O (Builtin.zeroCells b n).toList (flat (ap n z)):=by
 have:=AV (w:=w) (O:=O) (z:=b) (zs:=ap n z) c a (by rw[bB];intro x e;rw[(bj.1 e).2];exact d);rw[bS]at this;subst c;exact this
def Lj {o:Nat}{zs:List DV}{b:List Value}(a:∀x∈A.elems,x.fits A.sz=true)(f:aU w O ((vs.toList.drop o).take (A.elems.length*A.sz)) (flat A.elems))
  (j:∀z∈zs,z.fits A.sz=true)(hl:skip+zs.length<=A.elems.length)(ho:o+A.elems.length*A.sz<=vs.size)(h:aU w O b (flat zs)):
  (splice vs.toList (o+skip*A.sz) b).length=vs.size/\aU w O (((splice vs.toList (o+skip*A.sz) b).drop o).take (A.elems.length*A.sz)) (flat (A.elems.take skip++(zs++A.elems.drop (skip+zs.length)))):=by
 have c:b.length=zs.length*A.sz:=by rw[h.length,flat_length fun z d=>DV.dw (j z d)]
 have e:skip*A.sz+zs.length*A.sz<=A.elems.length*A.sz:=by rw[<-aw];exact ai _ hl
 refine⟨by rw[length_splice _ _ _ (by simp;omega)];simp,?_⟩;rw[qR _ _ _ _ (by omega) (by simp;omega),show o+skip*A.sz - o=skip*A.sz by omega,zq _ _ _ _ (by omega) (by simp;omega)];have g:∀x∈A.elems,x.cells.length=A.sz:=fun x i=>DV.dw (a x i)
 rw[uJ,uJ,<-zS g skip,<-xq g (skip+zs.length),aw];unfold Am.splice;rw[c,List.append_assoc];exact(f.take _).append (h.append (f.drop _))
variable{ρ:Operand->Value}{o:Oper}{x:Operand}{olo ohi omx:Option Operand}
def aao {t:TypeId}(ho:o.op= .slice t x olo ohi omx){args:List PV}(O:Sim C X w M E)
  (hA:aK w (away X M E) M E ((opsOf o.op).map ρ) args)(D:aJ C.P (.slice t x olo ohi omx) (.VX sz)=true){base:Nat}(h:ak C base (.VX sz) args M K KP):eF C X w M E K KP ((execOp ρ o).run C.P w):=by
 simp only[aJ,H,beq_iff_eq]at D;obtain⟨⟨⟨g,h1⟩,h2⟩,h3⟩:=D;obtain rfl:olo=none:=by simpa using h1
 obtain rfl:omx=none:=by simpa using h3
 obtain⟨Q,rfl⟩:=Option.isSome_iff_exists.1 h2
 split at g
 ·rename_i e s
  split at g
  ·rename_i ai jc
   simp only[H,beq_iff_eq,decide_eq_true_eq]at g;obtain⟨ac,aq⟩:=g;subst ac;have F:C.P.elem t=e:=by simp[Program.elem,s]
   have j:C.P.underlying t=some (.slice (C.P.elem t)):=by rw[F];exact s
   simp only[ho,opsOf,I,bE,cb,Option.toList_some,aE,bO,V]at hA;simp only[ak]at h
   split at h
   ·rename_i k ver skip kk n
    cases f:M.row k ver with
    |none=>simp only[f]at h
    |some A=>
     simp only[f]at h;obtain⟨Np,q1,q2,T⟩:=h;obtain⟨d,GN⟩:=rV f;have Ro:=(O.arr k A d).2.1;obtain⟨v,u,y,hx,hn⟩:=dK hA;simp only[List.cons.injEq,and_true]at y;obtain⟨hv,g⟩:=y;have ab:=hn.toD.eX;have c:∀{u:Value},(Instr.sliceAt t (ρ x) none (some (ρ Q)) none).run C.P w= .ok u w->(execOp ρ o).run C.P w= .ok (.value u) w:=by
      intro u g;simp only[execOp,ho,a6,a7,Sem.run_bind,g,Result.andThen_ok,Sem.run_pure]
     rw[hv]at c;have bb:((some (ρ Q):Option Value)=none/\(some n:Option Int)=none)\/∃(k:IntKind) (a:Int),(some (ρ Q):Option Value)=some (.int k a)/\(some n:Option Int)=some a:= .inr ⟨kk,n,by rw[g,ab],rfl⟩
     cases hx with
     |tsl r hh=>
      rename_i len cap l
      obtain⟨p,Y⟩:=hh A d;obtain⟨am,R,h5,L⟩:=Y GN;cases am with
      |some q=>
       obtain⟨blk,o1,e1⟩:=q;simp only at L;have G:∀l len cap,len=A.elems.length - skip->len<=cap->∃u,(Instr.sliceAt t (.slice l len cap) none (some (ρ Q)) none).run C.P w= .ok u w/\∃J,u= .slice l n.toNat J:=by
        intro l len cap e1 e2;have U:=BO (P:=C.P) (isSlice:=true) (a:=none) (b:=some n) (m:=none) (.inl ⟨rfl,rfl⟩) bb (.inl ⟨rfl,rfl⟩) (fun _ hh=>by cases hh) (by simp) (by simp only[ao,Z];omega) (by simp only[ao,Z];omega) e2 w;refine⟨sliced l 0 n.toNat cap ai.size,?_,?_⟩
        ·rw[run_sliceAt_slice w t _ _ _ _ j,run_slice_any w t l len cap j,U,F]
         simp only[Result.andThen_ok,run_sizeOf jc,ao,Z]
         congr 2
        ·simp[sliced]
         cases l<;>simp[Addr.add]
       rcases L with⟨an,y,hc,ap⟩|⟨az,a',y⟩
       ·cases y
        obtain⟨u',k1,J,rfl⟩:=G _ _ _ rfl hc;rw[c k1];refine .same O T (.psl r fun B i=> ?_);rw[d]at i;cases i;exact⟨p,fun _=>⟨_,R,by omega,_,_,rfl,fun _=>rfl⟩⟩
       ·cases y
        obtain⟨u',k1,J,rfl⟩:=G _ 0 0 (by omega) (N _);rw[c k1];refine .same O T (.psl r fun B i=> ?_);rw[d]at i;cases i;exact⟨p,fun _=>⟨_,R,by omega,_,_,rfl,fun aD=>by omega⟩⟩
      |none=>
       simp only at L;have W:(A.elems.drop skip).length=A.elems.length - skip:=by simp
       obtain⟨u',g1,g2⟩:=BQ (P:=C.P) (a:=none) (b:=some n) (m:=none) s jc (fun x hx=>by rw[DV.dw (Ro x (S hx)),Np]) L (.inl ⟨rfl,rfl⟩) bb (.inl ⟨rfl,rfl⟩) (fun _ hh=>by cases hh) (by simp) (by simpa using q1) (by simp only[Z,W];omega);rw[c g1];have z:bF w (away X M E) u' (.slice false ((A.elems.drop skip).take n.toNat)):=by simpa using g2
       obtain⟨aw,J,ae⟩:=z.jF;have ax:((A.elems.drop skip).take n.toNat).length=n.toNat:=by simp;omega
       subst ae;refine .same O T (.psl r fun B i=> ?_);rw[d]at i;cases i;exact⟨p,fun _=>⟨none,R,by omega,z⟩⟩
   ·exact h.elim
  ·cases g
 ·cases g
def aan {t:TypeId}(ho:o.op= .slice t x olo ohi omx){args:List PV}(c:Sim C X w M E)
  (a:aK w (away X M E) M E ((opsOf o.op).map ρ) args)(b:aJ C.P (.slice t x olo ohi omx) (.VW sz)=true){base:Nat}(h:ak C base (.VW sz) args M K KP):eF C X w M E K KP ((execOp ρ o).run C.P w):=by
 refine Po (lo:=true) (hi:=false) (mx:=false) (sz:=sz) (base:=base) ho c a b ?_;simp only[ak]at h⊢
 split at h
 ·rename_i k ver skip d n
  simp only[wZ,dJ,Z];cases a:M.row k ver with
  |none=>simp only[a]at h
  |some A=>
   simp only[a]at h⊢;exact⟨trivial,h.1,trivial,h.2.1,h.2.2.1,h.2.2.2⟩
 ·exact h.elim
variable{ass:Array Operand}
def Z4 {argTypes:Array TypeId}(ho:o.op= .call {callee:= .builtin .copy,args:=ass,argTypes}){args:List PV}(Q:Sim C X w M E)(hA:aK w (away X M E) M E ((opsOf o.op).map ρ) args)
  (J:aJ C.P (.call {callee:= .builtin .copy,args:=ass,argTypes}) (.copy sz)=true){base:Nat}(h:ak C base (.copy sz) args M K KP):eF C X w M E K KP ((execOp ρ o).run C.P w):=by
 simp only[aJ]at J;simp only[ho,opsOf]at hA;simp only[ak]at h
 split at h
 ·rename_i k ver skip x
  obtain⟨v,u,he,hr,ac⟩:=dK hA;have Y:ass.map ρ= #[v,u]:=by apply be;simpa using he
  obtain⟨V,sT,rfl,F⟩:=QJ (p:=fun a b=>match a,b with
   |some (.slice e),some (.slice _)=>(match C.P.info? e with|some i=>i.size==sz&&decide (0<sz)|none=>false)
   | _,_=>false) J
  split at F
  ·rename_i e d m aiX
   split at F
   ·rename_i ao jc
    simp only[H,beq_iff_eq,decide_eq_true_eq]at F;obtain⟨O,am⟩:=F;cases f:M.row k ver with
    |none=>simp only[f]at h
    |some A=>
     cases D:Oz x M with
     |none=>simp only[f,D]at h
     |some ys=>
      simp only[f,D]at h;obtain⟨L,Np,t,G⟩:=h;obtain⟨q,h1,h2,W,h4⟩:=EG Q hr f;obtain⟨r1,r2⟩:=Yq Q ac D t;have n:∀{r:Value} {w':World},(Builtin.copy_ #[V,sT] o.type #[v,u]).run C.P w= .ok r w'->(execOp ρ o).run C.P w= .ok (.value r) w':=by
       intro r w' hh;simp[execOp,ho,Y,hh,go_sem]
      rcases h4 with⟨blk,o1,e1,vs,T,cap,q1,q2,q3,q4,q5,q6⟩|⟨_,ab,_⟩
      ·obtain⟨l,n1,n2⟩:=r2 (min ys.length (A.elems.length - skip)) (Nat.min_le_left _ _)
       have UH:∀y∈ys.take (min ys.length (A.elems.length - skip)),y.fits A.sz=true:=fun y hy=>Np▸t y (ae hy)
       have B:(ys.take (min ys.length (A.elems.length - skip))).length=min ys.length (A.elems.length - skip):=by simp
       have s:l.length=min ys.length (A.elems.length - skip)*A.sz:=by rw[n2.length,flat_length fun y hy=>DV.dw (UH y hy),B]
       obtain⟨w1,w2⟩:=Lj (skip:=skip) W q5 UH (by rw[B];omega) (by omega) n2;have Z:A.elems.take skip++(ys.take (min ys.length (A.elems.length - skip))++A.elems.drop (skip+(ys.take (min ys.length (A.elems.length - skip))).length))=A.elems.take skip++(ys.take (A.elems.length - skip)++A.elems.drop (skip+ys.length)):=by
        rw[B]
        rcases Nat.le_total ys.length (A.elems.length - skip)with hle|hle
        ·rw[bs hle,an (N _),an hle]
        ·rw[Nat.min_eq_right hle,aq (by omega),aq (by omega)]
       rw[Z]at w2;have I:(A.elems.take skip++(ys.take (A.elems.length - skip)++A.elems.drop (skip+ys.length))).length=A.elems.length:=by simp;omega
       have aiK:∀z∈A.elems.take skip++(ys.take (A.elems.length - skip)++A.elems.drop (skip+ys.length)),z.fits A.sz=true:=by
        intro z hz
        rcases bi.1 hz with hz|hz
        ·exact W z (ae hz)
        ·rcases bi.1 hz with hz|hz
         ·exact Np▸t z (ae hz)
         ·exact W z (S hz)
       rcases q6 with⟨rfl,q7,q8⟩|⟨q7,q9,R,rfl⟩
       ·have XL:=jv C.P blk (o1+skip*A.sz) T.ty T.fr l 0 vs w q2 T.ok (by
         have:min ys.length (A.elems.length - skip)*A.sz<=(A.elems.length - skip)*A.sz:=ai _ (Nat.min_le_right _ _);have h5:skip*A.sz+(A.elems.length - skip)*A.sz=A.elems.length*A.sz:=by rw[<-aw];congr 1;omega
         rw[s];omega) (Zl n2 (PN UH))
        simp only[cA]at XL;have j:(Builtin.copy_ #[V,sT] o.type #[.slice (some ⟨blk,o1+skip*A.sz,none⟩) (A.elems.length - skip) cap,u]).run C.P w= .ok (goInt (min ys.length (A.elems.length - skip):Nat)) (w.setRow blk (splice vs.toList (o1+skip*A.sz) l).toArray):=by
         have g:=r1 C.P;have c:=n1 C.P;rw[<-O]at c;simp only[Builtin.copy_,Sem.run_bind,run_underlying m,Result.andThen_ok,g,sizeOf,typeInfo,jc,Sem.run_pure];simp only[Nat.min_def]at c XL⊢;simp[run_underlying m,g,jc,c,XL,Am.splice]
        rw[n j];obtain⟨t1,t2⟩:=Hg Q q L q1 q2 I aiK w1 w2 (sG w blk vs T.ty _ q2);exact⟨_,_,_,G,t1,t2, .d (.int _ _)⟩
       ·have hz:A.elems.length - skip=0:=by omega
        simp only[hz,ch,Nat.zero_mul,az]at s;subst s;have j:(Builtin.copy_ #[V,sT] o.type #[.slice R 0 0,u]).run C.P w= .ok (goInt 0) w:=by
         have g:=r1 C.P;have c:=n1 C.P;rw[<-O]at c;simp only[hz,ch]at c;cases R with
         |none=>simp[Builtin.copy_,run_underlying m,g,sizeOf,typeInfo,jc,c]
         |some R=>simp[Builtin.copy_,run_underlying m,g,sizeOf,typeInfo,jc,c,storeCells]
        rw[n j];simp only[hz,ch]at G;have e3:({A with elems:=A.elems.take skip++(ys.take 0++A.elems.drop (skip+ys.length))}:Arr)=A:=by
         have:A.elems.take skip++(ys.take 0++A.elems.drop (skip+ys.length))=A.elems:=by
          rw[cv,bO,aq (by omega),aE,an (by omega)]
         rw[this]
        rw[e3]at G;have e4:M.aB.set k (some A)=M.aB:=by
         apply bc;intro i;rw[ax]
         by_cases hi:k=i
         ·subst hi;rw[if_pos rfl,if_pos (U.1 q).1,q]
         ·simp[hi]
        rw[e4]at G;exact .same Q G (.d (.int _ _))
      ·exact absurd L ab
   ·cases F
  ·cases F
 ·exact h.elim
def acw {argTypes:Array TypeId}(ho:o.op= .call {callee:= .builtin .clear,args:=ass,argTypes}){args:List PV}(D:Sim C X w M E)(hA:aK w (away X M E) M E ((opsOf o.op).map ρ) args)
  (a:aJ C.P (.call {callee:= .builtin .clear,args:=ass,argTypes}) (.clr sz z)=true){base:Nat}(h:ak C base (.clr sz z) args M K KP):eF C X w M E K KP ((execOp ρ o).run C.P w):=by
 simp only[aJ,H,beq_iff_eq]at a;obtain⟨h1,a⟩:=a;simp only[ho,opsOf]at hA;simp only[ak]at h
 split at a
 ·rename_i e j
  split at a
  ·rename_i ac jc
   split at a
   ·rename_i G hz
    simp only[H,beq_iff_eq,decide_eq_true_eq]at a;obtain⟨⟨⟨ab,x⟩,Y⟩,W⟩:=a
    split at h
    ·rename_i k ver skip
     cases g:M.row k ver with
     |none=>simp only[g]at h
     |some A=>
      simp only[g]at h;obtain⟨B,Np,V,q⟩:=h;obtain⟨v,he,hr⟩:=eP hA;have L:ass.map ρ= #[v]:=by apply be;simpa using he
      obtain⟨p,rfl⟩:∃p,argTypes= #[p]:=by
       obtain⟨l⟩:=argTypes
       match l,h1 with
       | [t],_=>exact⟨t,rfl⟩
      have j:C.P.underlying p=some (.slice e):=by simpa using j
      obtain⟨c,h1,h2,h3,h4⟩:=EG D hr g;have f:∀{r:Value} {w':World},(Builtin.clear_ #[p] o.type #[v]).run C.P w= .ok r w'->(execOp ρ o).run C.P w= .ok (.value r) w':=by
       intro r w' hh;simp[execOp,ho,L,hh,go_sem]
      have Z:(zeroValue e).run C.P w= .ok G w:=by simp[zeroValue,typeInfo,jc,hz]
      rcases h4 with⟨blk,F,e1,vs,T,cap,q1,q2,q3,q4,q5,q6⟩|⟨_,R,_⟩
      ·have n2:=YK (w:=w) (O:=away X M E) (n:=A.elems.length - skip) Y W x
       have UH:∀y∈ap (A.elems.length - skip) z,y.fits A.sz=true:=fun y hy=>by rw[(bj.1 hy).2,Np];exact V
       have S:(Builtin.zeroCells G.cells (A.elems.length - skip)).toList.length=(A.elems.length - skip)*A.sz:=by rw[n2.length,flat_length fun y hy=>DV.dw (UH y hy)];simp
       obtain⟨w1,w2⟩:=Lj (skip:=skip) h3 q5 UH (by simp;omega) (by omega) n2;have N:List.drop (skip+(ap (A.elems.length - skip) z).length) A.elems=[]:=aq (by simp;omega);rw[N,aE]at w2;have s:(A.elems.take skip++ap (A.elems.length - skip) z).length=A.elems.length:=by simp;omega
       have aiK:∀y∈A.elems.take skip++ap (A.elems.length - skip) z,y.fits A.sz=true:=by
        intro y hy
        rcases bi.1 hy with hy|hy
        ·exact h3 y (ae hy)
        ·exact UH y hy
       rcases q6 with⟨rfl,q7,q8⟩|⟨q7,q9,a',rfl⟩
       ·by_cases m:A.elems.length - skip=0
        ·have b:(Builtin.clear_ #[p] o.type #[.slice (some ⟨blk,F+skip*A.sz,none⟩) (A.elems.length - skip) cap]).run C.P w= .ok (.tuple #[]) w:=by
          rw[m];simp[Builtin.clear_,run_underlying j]
         rw[f b];have I:({A with elems:=A.elems.take skip++ap (A.elems.length - skip) z}:Arr)=A:=by
          rw[m,b5,aE,an (by omega)]
         rw[I]at q;have J:M.aB.set k (some A)=M.aB:=by
          apply bc;intro i;rw[ax]
          by_cases u:k=i
          ·subst u;rw[if_pos rfl,if_pos (U.1 c).1,c]
          ·simp[u]
         rw[J]at q;exact .same D q (.d (.tup .nil))
        ·have XL:=jv C.P blk (F+skip*A.sz) T.ty T.fr (Builtin.zeroCells G.cells (A.elems.length - skip)).toList 0 vs w q2 T.ok (by
          have h5:skip*A.sz+(A.elems.length - skip)*A.sz=A.elems.length*A.sz:=by rw[<-aw];congr 1;omega
          rw[S];omega) (Zl n2 (PN UH))
         simp only[cA]at XL;have b:(Builtin.clear_ #[p] o.type #[.slice (some ⟨blk,F+skip*A.sz,none⟩) (A.elems.length - skip) cap]).run C.P w= .ok (.tuple #[]) (w.setRow blk (splice vs.toList (F+skip*A.sz) (Builtin.zeroCells G.cells (A.elems.length - skip)).toList).toArray):=by
          obtain⟨n',Q⟩:∃n',A.elems.length - skip=n'+1:=⟨A.elems.length - skip - 1,by omega⟩
          rw[Q]at XL⊢;simp only[Builtin.clear_];simp[run_underlying j,Z,XL,Am.splice]
         rw[f b];obtain⟨t1,t2⟩:=Hg D c B q1 q2 s aiK w1 w2 (sG w blk vs T.ty _ q2);exact⟨_,_,_,q,t1,t2, .d (.tup .nil)⟩
       ·have m:A.elems.length - skip=0:=by omega
        have b:(Builtin.clear_ #[p] o.type #[.slice a' 0 0]).run C.P w= .ok (.tuple #[]) w:=by
         cases a'<;>simp[Builtin.clear_,run_underlying j]
        rw[f b];have I:({A with elems:=A.elems.take skip++ap (A.elems.length - skip) z}:Arr)=A:=by
         rw[m,b5,aE,an (by omega)]
        rw[I]at q;have J:M.aB.set k (some A)=M.aB:=by
         apply bc;intro i;rw[ax]
         by_cases u:k=i
         ·subst u;rw[if_pos rfl,if_pos (U.1 c).1,c]
         ·simp[u]
        rw[J]at q;exact .same D q (.d (.tup .nil))
      ·exact absurd B R
    ·exact h.elim
   ·cases a
  ·cases a
 ·cases a
def aal {t:TypeId}{i:Nat}(ho:o.op= .range t x){args:List PV}(f:Sim C X w M E)(e:aK w (away X M E) M E ((opsOf o.op).map ρ) args)
  (a:aJ C.P (.range t x) (.rngS i)=true){base:Nat}(h:ak C base (.rngS i) args M K KP):eF C X w M E K KP ((execOp ρ o).run C.P w):=by
 simp only[aJ]at a;simp only[ho,opsOf,I,V]at e
 split at a
 ·rename_i d
  simp only[ak]at h
  split at h
  ·rename_i s
   obtain⟨h1,h2⟩:=h;obtain⟨v,g,l⟩:=eP e;simp only[List.cons.injEq,and_true]at g;subst g;have m:=l.toD.pK;have b:base+i<M.boxes.length:=(U.1 h1).1;have Rq:base+i<E.bx.length:=f.fU▸b;have c:(execOp ρ o).run C.P w= .ok (.value (.pointer (some ⟨w.heap.size,0,none⟩))) (w.alloc (.stringIter s 0)):=by
    simp only[execOp,ho,Instr.range,Sem.run_bind,run_underlying d,Result.andThen_ok,m,Sem.run_pure,run_newObj_alloc]
   rw[c];obtain⟨j,k⟩:=SS (o:= .stringIter s 0) (cs:=[.Dl s 0]) f h1 fun _=>heap_alloc_new w _
   exact⟨_,_,_,h2,j,k, .xO (cs:=[.Dl s 0]) (by simp[b]) (by simp[Rq]) rfl⟩
  ·exact h.elim
 ·cases a
def aaj {c:Bool}(ho:o.op= .next x c){args:List PV}(r:Sim C X w M E)(A:aK w (away X M E) M E ((opsOf o.op).map ρ) args)
  (l:aJ C.P (.next x c) .Vh=true){base:Nat}(h:ak C base .Vh args M K KP):eF C X w M E K KP ((execOp ρ o).run C.P w):=by
 simp only[aJ]at l;subst l;simp only[ho,opsOf,I,V]at A;simp only[ak]at h
 split at h
 ·rename_i b
  obtain⟨v,B,D⟩:=eP A;simp only[List.cons.injEq,and_true]at B;subst B
  split at h
  ·rename_i s pos a
   obtain⟨u,h⟩:=h;have g:M.boxes[b]?=some (some [.Dl s pos]):=by
    unfold Mem.box at a
    split at a
    ·rename_i cs t;cases a;exact t
    ·cases a
   generalize n:ρ x=vv at D;cases D with
   |xO j i G=>
    rename_i blk cs
    rw[g]at j;cases j;obtain⟨z,F,N,p⟩:=r.box b _ g;rw[i]at F;cases F;have p:w.heap[blk]?=some (.stringIter s pos):=p;have f:(getObj blk).run C.P w= .ok (.stringIter s pos) w:=by simp[getObj,Sem.run,p]
    have m:∀y:Obj,(setObj blk y).run C.P w= .ok () {w with heap:=w.heap.setIfInBounds blk y}:=fun y=>by simp[setObj,Sem.run,p]
    by_cases q:pos<s.size
    ·rw[if_pos q]at h
     have e:(execOp ρ o).run C.P w= .ok (.value (.tuple #[.bool true, .int .i64 pos, .int .i32 (Utf8.decode s pos).1])) {w with heap:=w.heap.setIfInBounds blk (.stringIter s (pos+(Utf8.decode s pos).2))}:=by
      simp only[execOp,ho,Instr.next,n,Sem.run_bind,f,Result.andThen_ok,if_pos q,m,Sem.run_pure]
      rfl
     rw[e];have k:=bZ p;obtain⟨H,J⟩:=Jg (cs':=[.Dl s (pos+(Utf8.decode s pos).2)]) r g u rfl rfl i (I5 w blk (.stringIter s (pos+(Utf8.decode s pos).2)) k) fun L=>by
      show({w with heap:=w.heap.setIfInBounds blk (.stringIter s (pos+(Utf8.decode s pos).2))}:World).heap[blk]?=_
      simp[k]
     exact⟨_,_,_,h,H,J, .d (.tup (.cons (.bool _) (.cons (.int _ _) (.cons (.int _ _) .nil))))⟩
    ·rw[if_neg q]at h
     have e:(execOp ρ o).run C.P w= .ok (.value (.tuple #[.bool false])) w:=by
      simp only[execOp,ho,Instr.next,n,Sem.run_bind,f,Result.andThen_ok,if_neg q,Sem.run_pure]
     rw[e];exact .same r h (.d (.tup (.cons (.bool _) .nil)))
  ·exact h.elim
 ·exact h.elim
variable{P:Program}{name:String}
def Yw {t:TypeId}{f:FuncId}(h:EU P t name=some f)(v:Value)(n:Nat)(w:World):(Go.method (n+1) t v name).run P w= .ok (f,v) w:=by
 unfold EU at h
 split at h
 ·rename_i i g
  split at h
  ·rename_i m j
   split at h
   ·rename_i k
    split at h
    ·cases h
    ·rename_i d hd b
     split at h
     ·rename_i l e
      simp only[Option.some.injEq]at h;subst h;have c:m.path.toList=[]:=by simpa using k
      have a:(Go.receiverAt t (.val v) false (if m.path.isEmpty then some ((name.splitOn ".").getLastD name)else none)).run P w= .ok v w:=by
       unfold Go.receiverAt;simp only[Sem.run_bind,run_underlying b,Result.andThen_ok];cases d<;>first|rfl|exact absurd rfl (hd _)
      simp only[Go.method,Sem.run_bind,typeInfo,run_program,Result.andThen_ok,g,Sem.run_pure,j,c,Go.follow,e,a]
     ·cases h
    ·cases h
   ·cases h
  ·cases h
 ·cases h
def acz {r:Operand}{a:String}{argTypes:Array TypeId}(ho:o.op= .call {callee:= .invoke r name,args:=ass,argTypes})
  {args:List PV}(g:aK w (away X M E) M E ((opsOf o.op).map ρ) args)(b:aJ C.P (.call {callee:= .invoke r name,args:=ass,argTypes}) (.inv a)=true){base:Nat}(h:ak C base (.inv a) args M K KP):eF C X w M E K KP ((execOp ρ o).run C.P w):=by
 simp only[aJ,decide_eq_true_eq]at b;subst b;simp only[ho,opsOf,I]at g;simp only[ak]at h
 split at h
 ·rename_i t v i
  obtain⟨f,m,l,h⟩:=h;cases g with
  |cons h1 h2=>
   have hd:=h1.toD;generalize n:ρ r=vv at hd;cases hd with
   |iface p=>
    rename_i u
    have e:(execOp ρ o).run C.P w= .ok (.enter f (#[u]++ass.map ρ)) w:=by
     simp only[execOp,ho,resolve,n,Sem.run_bind,Sem.run_pure,Result.andThen_ok,invoke];have j:(#[Value.iface t u]++ass.map ρ)[0]?=some (.iface t u):=by rw[Array.getElem?_append_left (by simp)];rfl
     have k:(#[Value.iface t u]++ass.map ρ).extract 1 (#[Value.iface t u]++ass.map ρ).size=ass.map ρ:=by
      apply be;simp only[Array.toList_extract,b3,bA,List.extract_eq_take_drop,Array.size_append,Array.size_map,bk,List.length_singleton,List.singleton_append,b4,bh];rw[an (by simp)]
     simp only[j,k,callMethod,Sem.run_bind,run_program,Result.andThen_ok];have c:C.P.types.size+Made.depth=(C.P.types.size+Made.depth - 1)+1:=by
      have:0<Made.depth:=by decide
      omega
     rw[c,Yw m];simp only[Result.andThen_ok,rX l]
    rw[e];exact⟨rfl,_,h,by simpa using aK.cons (.d p) h2⟩
 ·exact h.elim
variable{op:BinOp}{y:Operand}
def acE {g:BinOp}{t u:TypeId}(ho:o.op= .binOp op t x y u){args:List PV}(s:Sim C X w M E)(m:aK w (away X M E) M E ((opsOf o.op).map ρ) args)
  (e:aJ C.P (.binOp op t x y u) (.shf g)=true){base:Nat}(h:ak C base (.shf g) args M K KP):eF C X w M E K KP ((execOp ρ o).run C.P w):=by
 simp only[aJ,H,decide_eq_true_eq]at e;obtain⟨⟨rfl,_⟩,_⟩:=e;simp only[ho,opsOf,I,V]at m;simp only[ak]at h
 split at h
 ·rename_i k a F b
  obtain⟨D,h⟩:=h;obtain⟨v,G,n,B,j⟩:=dK m;simp only[List.cons.injEq,and_true]at n;obtain⟨rfl,rfl⟩:=n;have i:=B.toD.eX;have l:=j.toD.eX;have A:(eqGuard op t x y (ρ x) (ρ y)).run C.P w= .ok () w:=qV (.inl ⟨_,_,i⟩) w;have p:¬b<0:=by omega
  have c:∀{v:Value} {d:DV},K (.d d) M->bF w (away X M E) v d->(binOp op t (ρ x) (ρ y)).run C.P w= .ok v w->eF C X w M E K KP ((execOp ρ o).run C.P w):=by
   intro v d q r z;have f:(execOp ρ o).run C.P w= .ok (.value v) w:=by simp[execOp,ho,A,z]
   rw[f];exact .same s q (.d r)
  split at h
  ·exact c h (.int _ _) (by rw[i,l];simp[binOp,Op.shift,p])
  ·exact c h (.int _ _) (by rw[i,l];simp[binOp,Op.shift,p])
  ·exact h.elim
 ·exact h.elim
def run_equalIn_iface_nil {t:TypeId}{ms:Array (String×TypeId)}(a:P.underlying t=some (.interface ms))(w:World)(d:Nat)(u:TypeId)(v:Value):(Op.equalIn (d+1) t (.iface u v) .nilIface).run P w= .ok false w:=by
 simp only[Op.equalIn,Sem.run_bind,run_underlying a,Result.andThen_ok,Sem.run_pure]
def run_equalIn_nil_nil {t:TypeId}{ms:Array (String×TypeId)}(a:P.underlying t=some (.interface ms))(w:World)(d:Nat):(Op.equalIn (d+1) t .nilIface .nilIface).run P w= .ok true w:=by
 simp only[Op.equalIn,Sem.run_bind,run_underlying a,Result.andThen_ok,Sem.run_pure]
def TV {neq:Bool}{t u:TypeId}(ho:o.op= .binOp op t x y u)(p:∀v,ρ (.const v)=v){args:List PV}(q:Sim C X w M E)(l:aK w (away X M E) M E ((opsOf o.op).map ρ) args)
  (i:aJ C.P (.binOp op t x y u) (.zG neq)=true){base:Nat}(h:ak C base (.zG neq) args M K KP):eF C X w M E K KP ((execOp ρ o).run C.P w):=by
 simp only[aJ,H]at i;obtain⟨⟨a,j⟩,s⟩:=i
 split at j
 ·rename_i ms k
  split at s
  ·simp only[ho,opsOf,I,V,p]at l
   obtain⟨v,n⟩:∃v,v=ρ x:=⟨_,rfl⟩
   rw[<-n]at l;have e:∀b:Bool,(Op.equal t v .nilIface).run C.P w= .ok b w->(eqGuard op t x (.const .nilIface) v .nilIface).run C.P w= .ok () w->(execOp ρ o).run C.P w= .ok (.value (.bool (b !=neq))) w:=by
    intro b g r;cases op<;>simp only[ab,am]at a
    ·subst a
     simp only[execOp,ho,Sem.run_bind,p,<-n,r,Result.andThen_ok,binOp,g,Sem.run_pure];simp
    ·subst a
     simp only[execOp,ho,Sem.run_bind,p,<-n,r,Result.andThen_ok,binOp,g,Sem.run_pure];simp
   simp only[ak]at h
   split at h
   ·rename_i D B
    obtain⟨A,z,f,m,_⟩:=dK l;simp only[List.cons.injEq,and_true]at f;obtain⟨rfl,_⟩:=f;have hd:=m.toD;generalize c:v=vv at hd;cases hd with
    |iface hh=>
     subst c;rw[e false (run_equalIn_iface_nil k w 9999 _ _) (by unfold eqGuard;simp<;>split<;>simp)];exact .same q (by simpa using h) (.d (.bool _))
   ·obtain⟨A,z,f,m,_⟩:=dK l
    simp only[List.cons.injEq,and_true]at f;obtain⟨rfl,_⟩:=f;have hd:=m.toD;generalize c:v=vv at hd;cases hd with
    |nilIface=>
     subst c;rw[e true (run_equalIn_nil_nil k w 9999) (by unfold eqGuard;simp<;>split<;>simp)];exact .same q (by simpa using h) (.d (.bool _))
   ·exact h.elim
  ·cases s
 ·cases j
end
section
variable {C:Ctx}{X:Nat->Prop}{w:World}{M:Mem}{E:Emb}{K:PV->Mem->Prop}{KP:DV->Mem->Prop}{O:Nat->Prop}
variable{P:Program}
def oz {t e:TypeId}{a:Option Addr}(b:P.underlying t=some (.pointer e))(w:World)(d:Nat):(Op.equalIn (d+1) t (.pointer a) (.pointer none)).run P w= .ok a.isNone w:=by
 cases a<;>simp only[Op.equalIn,Sem.run_bind,run_underlying b,Result.andThen_ok,Sem.run_pure,b9,ca]
variable{ρ:Operand->Value}{o:Oper}{x y:Operand}
def TW {op:BinOp}{neq:Bool}{t u:TypeId}(ho:o.op= .binOp op t x y u)(r:∀v,ρ (.const v)=v){args:List PV}(p:Sim C X w M E)(k:aK w (away X M E) M E ((opsOf o.op).map ρ) args)
  (m:aJ C.P (.binOp op t x y u) (.vM neq)=true){base:Nat}(h:ak C base (.vM neq) args M K KP):eF C X w M E K KP ((execOp ρ o).run C.P w):=by
 simp only[aJ,H]at m;obtain⟨⟨g,n⟩,z⟩:=m
 split at n
 ·rename_i e i
  split at z
  ·simp only[ho,opsOf,I,V,r]at k
   obtain⟨v,q⟩:∃v,v=ρ x:=⟨_,rfl⟩
   rw[<-q]at k;have f:∀b:Bool,(Op.equal t v (.pointer none)).run C.P w= .ok b w->(eqGuard op t x (.const (.pointer none)) v (.pointer none)).run C.P w= .ok () w->(execOp ρ o).run C.P w= .ok (.value (.bool (b !=neq))) w:=by
    intro b l s;cases op<;>simp only[ab,am]at g
    ·subst g
     simp only[execOp,ho,Sem.run_bind,r,<-q,s,Result.andThen_ok,binOp,l,Sem.run_pure];simp
    ·subst g
     simp only[execOp,ho,Sem.run_bind,r,<-q,s,Result.andThen_ok,binOp,l,Sem.run_pure];simp
   simp only[ak]at h
   split at h
   ·obtain⟨B,A,c,j,_⟩:=dK k
    simp only[List.cons.injEq,and_true]at c;obtain⟨rfl,_⟩:=c;generalize a:v=vv at j;cases j with
    |ptr _ _ _=>
     subst a;rw[f false (oz i w 9999) (by unfold eqGuard;simp<;>split<;>simp)];exact .same p (by simpa using h) (.d (.bool _))
   ·obtain⟨B,A,c,j,_⟩:=dK k
    simp only[List.cons.injEq,and_true]at c;obtain⟨rfl,_⟩:=c;have hd:=j.toD;generalize a:v=vv at hd;cases hd with
    |aV _ _ _=>
     subst a;rw[f false (oz i w 9999) (by unfold eqGuard;simp<;>split<;>simp)];exact .same p (by simpa using h) (.d (.bool _))
   ·obtain⟨B,A,c,j,_⟩:=dK k
    simp only[List.cons.injEq,and_true]at c;obtain⟨rfl,_⟩:=c;have hd:=j.toD;generalize a:v=vv at hd;cases hd with
    |nilPtr=>
     subst a;rw[f true (oz i w 9999) (by unfold eqGuard;simp<;>split<;>simp)];exact .same p (by simpa using h) (.d (.bool _))
   ·exact h.elim
  ·cases z
 ·cases n
variable{i:Operand}{sz len:Nat}
def WR {t:TypeId}(ho:o.op= .indexAddr t x i){args:List PV}(F:Sim C X w M E)(q:aK w (away X M E) M E ((opsOf o.op).map ρ) args)
  (a:aJ C.P (.indexAddr t x i) (.FP sz len)=true){base:Nat}(h:ak C base (.FP sz len) args M K KP):eF C X w M E K KP ((execOp ρ o).run C.P w):=by
 simp only[aJ]at a
 split at a
 ·rename_i n e A
  simp only[H,beq_iff_eq]at a;obtain⟨rfl,a⟩:=a
  split at a
  ·rename_i O jc
   simp only[H,beq_iff_eq,decide_eq_true_eq]at a;obtain⟨z,G⟩:=a;have c:∀blk p k m,ρ x= .pointer (some ⟨blk,p,none⟩)->ρ i= .int k m->0<=m->m<(n:Int)->(execOp ρ o).run C.P w= .ok (.value (.pointer (some ⟨blk,p+m.toNat*sz,none⟩))) w:=by
    intro blk p k m h1 h2 J L;simp[execOp,ho,h1,h2,Instr.indexAt,Instr.sureAddr,asIntOf,run_underlying A,J,L,run_sizeOf jc,z,Addr.add_lit]
   simp only[ho,opsOf,I,V]at q;simp only[ak]at h
   split at h
   ·rename_i b D k m
    obtain⟨v,u,g,j,f⟩:=dK q;simp only[List.cons.injEq,and_true]at g;obtain⟨rfl,rfl⟩:=g;have l:=f.toD.eX;generalize B:ρ x=vv at j;cases j with
    |ptr N r y=>
     rw[c _ _ _ _ B l h.1 h.2.1];exact .same F h.2.2 (.ptr N r y)
   ·rename_i cs k m
    obtain⟨v,u,g,j,f⟩:=dK q;simp only[List.cons.injEq,and_true]at g;obtain⟨rfl,rfl⟩:=g;have l:=f.toD.eX;have hd:=j.toD;generalize B:ρ x=vv at hd;cases hd with
    |aV r s hh=>
     rename_i blk D T
     rw[c _ _ _ _ B l h.1 h.2.1];refine .same F h.2.2.2 (.d (.aV r s ?_));have:=hh.drop (m.toNat*sz);rw[bt,aM]at this;rw[bL];exact this
   ·exact h.elim
  ·cases a
 ·cases a
def Kt {agg:Bool}{sz:Nat}:∀{n:Nat} {cs:List DV},cs.length=n*sz->(agg=false->sz=1/\∀c∈cs,c.one=true)->flat (tK agg sz n cs)=cs/\(∀x∈tK agg sz n cs,x.cells.length=sz)/\(tK agg sz n cs).length=n
 |0,cs,h,_=>by
  have:cs=[]:=az.1 (by omega);subst this;simp[tK,flat]
 |n+1,cs,h,i=>by
  have l:(cs.drop sz).length=n*sz:=by rw[bL,h,cB];omega
  have j:sz<=cs.length:=by rw[h,cB];omega
  obtain⟨h1,h2,g⟩:=Kt (agg:=agg) l fun e=>⟨(i e).1,fun c k=>(i e).2 c (S k)⟩
  cases agg with
  |true=>
   refine⟨?_,?_,by simp[tK,g]⟩
   ·simp only[tK,cond_true]
    rw[flat,cf]
    show(DV.agg (cs.take sz)).cells++flat _=cs
    rw[h1];simp[DV.cells]
   ·intro x b
    simp only[tK,cond_true,bz]at b
    rcases b with rfl|b
    ·simp only[DV.cells,cl];omega
    ·exact h2 x b
  |false=>
   obtain⟨rfl,f⟩:=i rfl;obtain⟨c,a,rfl⟩:∃c a,cs=c::a:=by
    cases cs with
    |nil=>simp at j
    |cons c a=>exact⟨c,a,rfl⟩
   have d:c.cells=[c]:=by
    have:=f c (by simp);cases c<;>first|rfl|simp[DV.one]at this
   refine⟨?_,?_,by simp only[b4,bh]at g;simp[tK,g]⟩
   ·simp only[tK,cond_false,cr]
    rw[flat,cf]
    show c.cells++flat _=_
    rw[h1,d];simp
   ·intro x b
    simp only[tK,cond_false,cr,bz]at b
    rcases b with rfl|b
    ·rw[d];rfl
    ·exact h2 x b
def aam {t:TypeId}{lo hi mx:Option Operand}{agg:Bool}(ho:o.op= .slice t x lo hi mx){args:List PV}(s:Sim C X w M E)(j:aK w (away X M E) M E ((opsOf o.op).map ρ) args)
  (a:aJ C.P (.slice t x lo hi mx) (.O7 agg sz len)=true){base:Nat}(h:ak C base (.O7 agg sz len) args M K KP):eF C X w M E K KP ((execOp ρ o).run C.P w):=by
 simp only[aJ,H,Option.isNone_iff_eq_none]at a;obtain⟨⟨⟨a,rfl⟩,rfl⟩,rfl⟩:=a
 split at a
 ·rename_i n e g
  simp only[H,beq_iff_eq]at a;obtain⟨rfl,a⟩:=a
  split at a
  ·rename_i D jc
   simp only[H,beq_iff_eq,decide_eq_true_eq]at a;obtain⟨A,m⟩:=a;simp only[ho,opsOf,I,V,cb,aE]at j;simp only[ak]at h
   split at h
   ·rename_i cs
    obtain⟨l,b,h⟩:=h;obtain⟨v,k,z⟩:=eP j;simp only[List.cons.injEq,and_true]at k;subst k;have hd:=z.toD;generalize B:ρ x=vv at hd;obtain⟨p,q,r⟩:=Kt (n:=n) l b;cases hd with
    |aV u f hh=>
     rename_i blk i T fz ws
     have c:(execOp ρ o).run C.P w= .ok (.value (.slice (some ⟨blk,i,none⟩) n n)) w:=by
      by_cases y:n=0<;>simp[execOp,ho,B,Instr.sliceAt,Instr.sureAddr,run_underlying g,Instr.sliceBounds,run_sizeOf jc,y,Addr.add_lit]
     rw[c];refine .same s h (.d (.slice u f r q (N _) (fun _=>rfl) ?_));rw[p,<-l];exact hh
   ·exact h.elim
  ·cases a
 ·cases a
structure KeyLaw (P:Program) (key:TypeId) (ks:List Nat) (O:Nat->Prop) (w:World) (v:Value) (k:DV)where
 fnd:List MapEntry->Nat->Sem (Option (Nat×Value))
 nil:∀i,(fnd [] i).run P w= .ok none w
 cons:∀{e:MapEntry} {es:List MapEntry} {i:Nat} {d:DV} {t:Bool},bF w O e.key d->gK ks k d=some t->(fnd (e::es) i).run P w=if t then .ok (some (i,e.val)) w else(fnd es (i+1)).run P w
 find:∀{es:List MapEntry} {x:Option (Nat×Value)},(fnd es 0).run P w= .ok x w->(Instr.findKey key v es).run P w= .ok x w
 check:∀em:Bool,(Instr.checkKey em 10000 key v).run P w= .ok () w
 stays:∀{u:Value} {d:DV},bF w O u d->gK ks k d=some true->(Instr.keyThatStays u v).run P w= .ok v w
variable{ks:List Nat}
theorem XY {key:TypeId}(hk:U2 P key ks=true){v:Value}{k:DV}(hv:bF w O v k)(hc:gK ks k k=some true):Nonempty (KeyLaw P key ks O w v k):=by
 unfold U2 at hk
 split at hk
 ·rename_i fs a
  simp only[H,ab]at hk;obtain⟨b,o,z⟩:=hk;obtain⟨xs,rfl⟩:∃xs,k= .agg xs:=by cases k<;>first|exact⟨_,rfl⟩|simp[gK]at hc<;>simp[hc]at b
  simp only[gK,b,am,if_false]at hc;obtain⟨vs,rfl,B⟩:=hv.uD;refine⟨⟨fun es i=>Instr.findAsking key (.agg vs) es i,fun i=>by simp[Instr.findAsking],?_,?_,fun D=>vI a o B hc D,?_⟩⟩
  ·intro e es i d t hd c
   obtain⟨j,rfl⟩:∃j,d= .agg j:=by cases d<;>first|exact⟨_,rfl⟩|simp[gK]at c
   simp only[gK,b,am,if_false]at c;obtain⟨ys,l,C⟩:=hd.uD;have y:(Op.equal key (.agg vs) e.key).run P w= .ok t w:=by
    show(Op.equalIn 10000 key (.agg vs) e.key).run P w= .ok t w
    have m:P.fieldsOf key=fs:=by simp[Program.fieldsOf,a]
    rw[l,run_equalIn_agg w 9999 key vs ys (by rw[m];exact a) z,m];exact qU 9998 o (by simpa using B) (by simpa using C) c
   cases t<;>simp[Instr.findAsking,y]
  ·intro es x h
   rw[run_findKey_eq (P:=P) w (by rw[a])];exact h
  ·intro u d A hd
   obtain⟨j,rfl⟩:∃j,d= .agg j:=by cases d<;>first|exact⟨_,rfl⟩|simp[gK]at hd
   simp only[gK,b,am,if_false]at hd;obtain⟨ys,rfl,C⟩:=A.uD;obtain⟨F,G⟩:=MF B C hd;have adl:Instr.sameBits 10000 (.agg ys) (.agg vs)=true:=by
    simp only[Instr.sameBits,H,beq_iff_eq];exact⟨by simpa using F.symm,G⟩
   simp only[Instr.keyThatStays,adl,if_true,Sem.run_pure]
 ·rename_i q a
  obtain⟨s,n,rfl⟩:∃s n,k= .int s n:=by cases k<;>first|exact⟨_,_,rfl⟩|simp[gK,hk]at hc
  have I:=hv.eX;subst I;refine⟨⟨fun es i=>match Instr.findNow (.int q) (.int s n) es i with|some r=>pure r|none=>stuck "",fun i=>by simp[Instr.findNow],?_,?_,?_,?_⟩⟩
  ·intro e es i d t hd c
   obtain⟨p,g,rfl⟩:∃p g,d= .int p g:=by cases d<;>first|exact⟨_,_,rfl⟩|simp[gK]at c
   have l:=hd.eX;simp only[gK,hk,true_and]at c
   split at c
   ·rename_i f
    cases c;subst f;simp only[Instr.findNow,l,Instr.sameNow,if_true];cases J:n==g<;>simp
   ·cases c
  ·intro es x h
   simp only[Instr.findKey,Sem.run_bind,run_underlying a,Result.andThen_ok];cases E:Instr.findNow (.int q) (.int s n) es 0 with
   |none=>rw[E]at h;simp[stuck]at h
   |some r=>rw[E]at h;exact h
  ·intro D
   rw[show(10000:Nat)=9999+1 from rfl,Instr.checkKey];simp only[Sem.run_bind,run_underlying a,Result.andThen_ok,Sem.run_pure]
  ·intro u d A hd
   obtain⟨p,g,rfl⟩:∃p g,d= .int p g:=by cases d<;>first|exact⟨_,_,rfl⟩|simp[gK]at hd
   have l:=A.eX;simp only[gK,hk,true_and]at hd
   split at hd
   ·rename_i f
    simp only[Option.some.injEq,beq_iff_eq]at hd;subst f hd l;simp[Instr.keyThatStays,Instr.sameBits]
   ·cases hd
 ·cases hk
def BP (ks:List Nat):List (DV×DV)->DV->Bool
 | [],_=>true
 |(a,_)::l,k=>match gK ks k a with|some true=>true|some false=>BP ks l k|none=>false
def QC {ks:List Nat}{k:DV}:∀{l:List (DV×DV)} {r:Option DV},oh ks l k=some r->BP ks l k=true
 | [],_,_=>rfl
 |(c,v)::l,r,h=>by
  simp only[oh]at h;simp only[BP];cases a:gK ks k c with
  |none=>simp[a]at h
  |some b=>cases b with
   |true=>rfl
   |false=>simp only[a]at h;exact QC h
def VR {ks:List Nat}{k v:DV}:∀{l d:List (DV×DV)},CO ks l k v=some d->BP ks l k=true
 | [],_,_=>rfl
 |(c,e)::l,r,h=>by
  simp only[CO]at h;simp only[BP];cases a:gK ks k c with
  |none=>simp[a]at h
  |some b=>cases b with
   |true=>rfl
   |false=>
    simp only[a,J]at h;obtain⟨l2,h,_⟩:=h;exact VR h
def VQ {ks:List Nat}{k:DV}:∀{l d:List (DV×DV)},CJ ks l k=some d->BP ks l k=true
 | [],_,_=>rfl
 |(c,e)::l,r,h=>by
  simp only[CJ]at h;simp only[BP];cases a:gK ks k c with
  |none=>simp[a]at h
  |some b=>cases b with
   |true=>rfl
   |false=>
    simp only[a,J]at h;obtain⟨l2,h,_⟩:=h;exact VQ h
def Ie {P:Program}{key:TypeId}{ks:List Nat}{v:Value}{k:DV}(L:KeyLaw P key ks O w v k):∀(es:List MapEntry) (l:List (DV×DV)) (i:Nat),aU w O (es.map (·.key)) (l.map (·.1))->aU w O (es.map (·.val)) (l.map (·.2))->BP ks l k=true->
  ∃x,(L.fnd es i).run P w= .ok x w/\
   ((x=none/\oh ks l k=some none/\(∀y,CO ks l k y=some (l++ [(k,y)]))/\CJ ks l k=some l)\/
   (∃j u e c dv,x=some (i+j,u)/\es[j]?=some e/\j<l.length/\bF w O e.key c/\bF w O u dv/\gK ks k c=some true/\oh ks l k=some (some dv)/\(∀y,CO ks l k y=some (l.set j (k,y)))/\CJ ks l k=some (l.eraseIdx j)))
 | [],[],i,_,_,_=>⟨none,L.nil i, .inl ⟨rfl,rfl,fun _=>rfl,rfl⟩⟩
 |e::es,(c,dv)::l,i,h1,h2,h=>by
  simp only[I]at h1 h2;cases h1 with
  |cons q m=>cases h2 with
   |cons A n=>
    simp only[BP]at h;cases a:gK ks k c with
    |none=>simp[a]at h
    |some b=>
     have d:=L.cons (es:=es) (i:=i) q a;cases b with
     |true=>
      simp only[if_true]at d;exact⟨_,d, .inr ⟨0,e.val,e,c,dv,rfl,rfl,by simp,q,A,a,by simp[oh,a],fun y=>by simp[CO,a],by simp[CJ,a]⟩⟩
     |false=>
      simp only[a]at h;simp only[am,if_false]at d;obtain⟨x,t,z⟩:=Ie L es l (i+1) m n h;refine⟨x,d.trans t,?_⟩
      rcases z with⟨rfl,o,r,p⟩|⟨j,u,s,f,g,rfl,o,r,p,B,C,D,E,F⟩
      ·exact .inl ⟨rfl,by simp[oh,a,o],fun y=>by simp[CO,a,r],by simp[CJ,a,p]⟩
      ·exact .inr ⟨j+1,u,s,f,g,by simp;omega,by simpa using o,by simp;omega,p,B,C,by simp[oh,a,D],fun y=>by simp[CO,a,E],by simp[CJ,a,F]⟩
 | [],_::_,_,h1,_,_=>by simp at h1;cases h1
 | _::_,[],_,h1,_,_=>by simp at h1;cases h1
def map_eraseIdx {α β:Type}(f:α->β):∀(l:List α) (j:Nat),(l.eraseIdx j).map f=(l.map f).eraseIdx j
 | [],_=>rfl
 | _::_,0=>rfl
 |a::l,j+1=>by simp[map_eraseIdx f l j]
def aU.eraseIdx {vs:List Value}{ds:List DV}(h:aU w O vs ds)(j:Nat):aU w O (vs.eraseIdx j) (ds.eraseIdx j):=by
 rw[bl,bl];exact(h.take j).append (h.drop (j+1))
def RX {b:Nat}{l:List (DV×DV)}(i:Sim C X w M E)(a:M.box b=some [.gI l]){v:Value}(n:Rep w (away X M E) M E v (.mref b)):
  ∃blk es clock,v= .map (some blk)/\E.bx[b]?=some blk/\M.boxes[b]?=some (some [.gI l])/\w.heap[blk]?=some (.map es clock)/\aU w (away X M E) (es.toList.map (·.key)) (l.map (·.1))/\aU w (away X M E) (es.toList.map (·.val)) (l.map (·.2)):=by
 have c:M.boxes[b]?=some (some [.gI l]):=by
  unfold Mem.box at a
  split at a
  ·rename_i cs f;cases a;exact f
  ·cases a
 cases n with
 |mref e d m=>
  rename_i blk cs
  rw[c]at e;cases e;obtain⟨g,h,q,p⟩:=i.box b _ c;rw[d]at h;cases h;obtain⟨es,clock,j,k,o⟩:=p;exact⟨blk,es,clock,rfl,d,c,j,k,o⟩
def aaf {t:TypeId}{c ok:Bool}{z:DV}(ho:o.op= .lookup t x i c){args:List PV}(U:Sim C X w M E)(T:aK w (away X M E) M E ((opsOf o.op).map ρ) args)
  (N:aJ C.P (.lookup t x i c) (.FD ok ks z)=true){base:Nat}(h:ak C base (.FD ok ks z) args M K KP):eF C X w M E K KP ((execOp ρ o).run C.P w):=by
 simp only[aJ,H,beq_iff_eq]at N;obtain⟨rfl,f⟩:=N
 split at f
 ·rename_i am e O
  simp only[H]at f;obtain⟨J,s⟩:=f
  split at s
  ·rename_i ai jc
   split at s
   ·rename_i z' ab
    simp only[ho,opsOf,I,V]at T;have ac:(zeroValue e).run C.P w= .ok z' w:=by simp[zeroValue,typeInfo,jc,ab]
    have n:∀(blk:Nat) (es:Array MapEntry) (clock:Nat) (l:List (DV×DV)) (k:DV) (r:Option DV),ρ x= .map (some blk)->w.heap[blk]?=some (.map es clock)->aU w (away X M E) (es.toList.map (·.key)) (l.map (·.1))->aU w (away X M E) (es.toList.map (·.val)) (l.map (·.2))->
      bF w (away X M E) (ρ i) k->gK ks k k=some true->oh ks l k=some r->K (.d (DK c z r)) M->eF C X w M E K KP ((execOp ρ o).run C.P w):=by
     intro blk es clock l k r g W Y hv Z B p hK;obtain⟨L⟩:=XY (P:=C.P) J Z B;obtain⟨y,g1,g2⟩:=Ie L es.toList l 0 Y hv (QC p);have D:=L.check es.isEmpty;have G:=L.find g1;have m:(getObj blk).run C.P w= .ok (.map es clock) w:=by simp[getObj,Sem.run,W]
     rcases g2 with⟨rfl,Q,_,_⟩|⟨j,u,e',dk,dv,rfl,_,_,_,R,_,S,_,_⟩
     ·rw[p]at Q;cases Q
      have a:(execOp ρ o).run C.P w= .ok (.value (if c then .tuple #[z', .bool false]else z')) w:=by
       simp only[execOp,ho,Instr.lookup,Sem.run_bind,run_underlying O,Result.andThen_ok,g,m,Sem.run_pure,D,G,ac]
      rw[a];refine .same U hK (.d ?_);cases c
      ·exact kR s
      ·exact .tup (.cons (kR s) (.cons (.bool _) .nil))
     ·rw[p]at S;cases S
      have a:(execOp ρ o).run C.P w= .ok (.value (if c then .tuple #[u, .bool true]else u)) w:=by
       simp only[execOp,ho,Instr.lookup,Sem.run_bind,run_underlying O,Result.andThen_ok,g,m,Sem.run_pure,D,G]
      rw[a];refine .same U hK (.d ?_);cases c
      ·exact R
      ·exact .tup (.cons R (.cons (.bool _) .nil))
    simp only[ak]at h
    split at h
    ·rename_i l k
     obtain⟨v,u',F,hr,q⟩:=dK T;simp only[List.cons.injEq,and_true]at F;obtain⟨rfl,rfl⟩:=F
     split at h
     ·rename_i r B p
      have hm:=hr.toD;generalize g:ρ x=vv at hm;cases hm with
      |map W ae Y hv=>exact n _ _ _ l k r g W Y hv q.toD B p h
     ·exact h.elim
    ·rename_i b k
     obtain⟨v,u',F,hr,q⟩:=dK T;simp only[List.cons.injEq,and_true]at F;obtain⟨rfl,rfl⟩:=F
     split at h
     ·rename_i l A
      split at h
      ·rename_i r B p
       obtain⟨blk,es,clock,Q,q2,q3,R,q5,S⟩:=RX U A hr;exact n _ _ _ l k r Q R q5 S q.toD B p h
      ·exact h.elim
     ·exact h.elim
    ·exact h.elim
   ·cases s
  ·cases s
 ·cases f
def aah {t:TypeId}(ho:o.op= .mapUpdate t x i y){args:List PV}(hS:Sim C X w M E)(hA:aK w (away X M E) M E ((opsOf o.op).map ρ) args)
  (f:aJ C.P (.mapUpdate t x i y) (.Yd ks)=true){base:Nat}(h:ak C base (.Yd ks) args M K KP):eF C X w M E K KP ((execOp ρ o).run C.P w):=by
 simp only[aJ]at f
 split at f
 ·rename_i ab e H
  simp only[ho,opsOf,I,V]at hA;simp only[ak]at h
  split at h
  ·rename_i b k v
   obtain⟨v1,v2,v3,he,hr,p,G⟩:=G9 hA;simp only[List.cons.injEq,and_true]at he;obtain⟨rfl,rfl,rfl⟩:=he
   split at h
   ·rename_i l s
    obtain⟨R,h⟩:=h
    split at h
    ·rename_i Y hc D
     obtain⟨blk,es,clock,J,O,Q,N,T,W⟩:=RX hS s hr;obtain⟨L⟩:=XY (P:=C.P) f p.toD hc;obtain⟨z,g1,g2⟩:=Ie L es.toList l 0 T W (VR D);have A:=L.check false;have n:=L.find g1;have g:(getObj blk).run C.P w= .ok (.map es clock) w:=by simp[getObj,Sem.run,N]
     have F:=bZ N;have m:∀o':Obj,(setObj blk o').run C.P w= .ok () {w with heap:=w.heap.setIfInBounds blk o'}:=fun o'=>by simp[setObj,Sem.run,N]
     have r:∀(c:Array MapEntry) (a:Nat),aU w (away X M E) (c.toList.map (·.key)) (Y.map (·.1))->aU w (away X M E) (c.toList.map (·.val)) (Y.map (·.2))->
       eF C X w M E K KP (.ok .skip {w with heap:=w.heap.setIfInBounds blk (.map c a)}):=by
      intro c a p1 p2;obtain⟨s1,s2⟩:=Jg (cs':=[.gI Y]) hS Q R rfl rfl O (I5 w blk (.map c a) F) fun hf=>⟨c,a,by simp[F],p1.from hf,p2.from hf⟩
      exact⟨_,_,h,s1,s2⟩
     rcases g2 with⟨rfl,_,q2,_⟩|⟨j,u,en,dk,dv,rfl,q1,q2,q3,q4,q5,_,q7,_⟩
     ·rw[q2]at D;cases D
      have d:(execOp ρ o).run C.P w= .ok .skip {w with heap:=w.heap.setIfInBounds blk (.map (es.push {key:=ρ i,val:=ρ y,born:=clock}) (clock+1))}:=by
       simp only[execOp,ho,Instr.mapUpdate,Sem.run_bind,run_underlying H,Result.andThen_ok,J,g,A,n,m];simp[Sem.run_pure]
      rw[d];refine r _ _ ?_ ?_
      ·simpa using T.append (.cons p.toD .nil)
      ·simpa using W.append (.cons G.toD .nil)
     ·rw[q7]at D;cases D
      have S:es[j]?=some en:=by simpa using q1
      have B:j<es.size:=bZ S;have adw:(Instr.keyThatStays (((es[j]?).map (·.key)).getD (ρ i)) (ρ i)).run C.P w= .ok (ρ i) w:=by
       simp only[S,a7,Z];exact L.stays q3 q5
      have d:(execOp ρ o).run C.P w= .ok .skip {w with heap:=w.heap.setIfInBounds blk (.map (es.modify j fun e=>{e with key:=ρ i,val:=ρ y}) clock)}:=by
       simp only[a1]at n;simp only[execOp,ho,Instr.mapUpdate,Sem.run_bind,run_underlying H,Result.andThen_ok,J,g,A,n,adw,m];simp[Sem.run_pure]
      rw[d];have hm:(es.modify j fun e=>{e with key:=ρ i,val:=ρ y}).toList=es.toList.set j {en with key:=ρ i,val:=ρ y}:=by
       apply bc;intro q;rw[ax];simp only[a8,bR]
       by_cases U:j=q
       ·subst U;rw[if_pos rfl,if_pos rfl,S,if_pos (by simpa using B)];rfl
       ·rw[if_neg U,if_neg U]
      refine r _ _ ?_ ?_
      ·rw[hm,aR,aR];exact T.set j p.toD
      ·rw[hm,aR,aR];exact W.set j G.toD
    ·exact h.elim
   ·exact h.elim
  ·exact h.elim
 ·cases f
def aae {argTypes:Array TypeId}{ass:Array Operand}(ho:o.op= .call {callee:= .builtin .delete,args:=ass,argTypes}){args:List PV}(W:Sim C X w M E)(V:aK w (away X M E) M E ((opsOf o.op).map ρ) args)
  (c:aJ C.P (.call {callee:= .builtin .delete,args:=ass,argTypes}) (.Yb ks)=true){base:Nat}(h:ak C base (.Yb ks) args M K KP):eF C X w M E K KP ((execOp ρ o).run C.P w):=by
 simp only[aJ,H,beq_iff_eq]at c;obtain⟨h1,c⟩:=c;simp only[ho,opsOf]at V;simp only[ak]at h
 split at c
 ·rename_i S e g
  split at h
  ·rename_i b k
   obtain⟨v1,D,he,hr,Q⟩:=dK V;have F:ass.map ρ= #[v1,D]:=by apply be;simpa using he
   split at h
   ·rename_i l v
    obtain⟨N,h⟩:=h
    split at h
    ·rename_i T hc y
     obtain⟨q,B,rfl⟩:∃q B,argTypes= #[q,B]:=by
      obtain⟨l⟩:=argTypes
      match l,h1 with
      | [t,u],_=>exact⟨t,u,rfl⟩
     have g:C.P.underlying q=some (.map S e):=by simpa using g
     obtain⟨blk,es,clock,rfl,I,J,G,O,R⟩:=RX W v hr;obtain⟨L⟩:=XY (P:=C.P) c Q.toD hc;obtain⟨z,g1,g2⟩:=Ie L es.toList l 0 O R (VQ y);have x:=L.check es.isEmpty;have p:=L.find g1;have m:(getObj blk).run C.P w= .ok (.map es clock) w:=by simp[getObj,Sem.run,G]
     have A:=bZ G;have n:∀U:Obj,(setObj blk U).run C.P w= .ok () {w with heap:=w.heap.setIfInBounds blk U}:=fun U=>by simp[setObj,Sem.run,G]
     have i:∀{r:Value} {w':World},(Builtin.delete_ #[q,B] o.type #[.map (some blk),D]).run C.P w= .ok r w'->(execOp ρ o).run C.P w= .ok (.value r) w':=by
      intro r w' hh;simp[execOp,ho,F,hh,go_sem]
     have s:∀(a:Array MapEntry),aU w (away X M E) (a.toList.map (·.key)) (T.map (·.1))->aU w (away X M E) (a.toList.map (·.val)) (T.map (·.2))->
       eF C X w M E K KP (.ok (.value (.tuple #[])) {w with heap:=w.heap.setIfInBounds blk (.map a clock)}):=by
      intro a p1 p2;obtain⟨s1,s2⟩:=Jg (cs':=[.gI T]) W J N rfl rfl I (I5 w blk (.map a clock) A) fun Y=>⟨a,clock,by simp[A],p1.from Y,p2.from Y⟩
      exact⟨_,_,_,h,s1,s2, .d (.tup .nil)⟩
     rcases g2 with⟨rfl,_,_,q3⟩|⟨j,u,en,dk,dv,rfl,q1,q2,_,_,_,_,_,q8⟩
     ·rw[q3]at y;cases y
      have f:(Builtin.delete_ #[q,B] o.type #[.map (some blk),D]).run C.P w= .ok (.tuple #[]) {w with heap:=w.heap.setIfInBounds blk (.map es clock)}:=by
       simp[Builtin.delete_,Sem.run_bind,run_underlying g,m,x,p,n]
      rw[i f];exact s _ O R
     ·rw[q8]at y;cases y
      have f:(Builtin.delete_ #[q,B] o.type #[.map (some blk),D]).run C.P w= .ok (.tuple #[]) {w with heap:=w.heap.setIfInBounds blk (.map (es.eraseIdxIfInBounds j) clock)}:=by
       simp only[a1]at p;simp[Builtin.delete_,Sem.run_bind,run_underlying g,m,x,p,n]
      rw[i f];have Z:(es.eraseIdxIfInBounds j).toList=es.toList.eraseIdx j:=by simp
      refine s _ ?_ ?_
      ·rw[Z,map_eraseIdx,map_eraseIdx];exact O.eraseIdx j
      ·rw[Z,map_eraseIdx,map_eraseIdx];exact R.eraseIdx j
    ·exact h.elim
   ·exact h.elim
  ·exact h.elim
 ·cases c
end
end Go.Am
