/-
  Part 2 of a law of desks.
  Conditions: none.
-/
import Derived.Test.YtkbhljmmnbgloaaGreatDoorTopBetterM01
import Derived.WideKeyRuns
import Derived.Laws.MakeOwn
import Derived.Laws.BytesString
import Derived.Laws.IdiomStrings
import Derived.Laws.CopyRow
set_option linter.all false
open Bool renaming and_eq_true->H,not_eq_true'->ae,false_eq_true->an,or_eq_true_iff->bw,and_true->bE,false_or->cG
open List renaming map_cons->I,mem_of_mem_drop->U,getElem?_eq_some_iff->V,map_nil->W,getElem?_append_right->Y,getElem?_append_left->Z,mem_of_mem_take->ai,take_of_length_le->ao,replicate->ap,drop_eq_nil_of_le->aq,getElem?_set->az,length_eq_zero_iff->aD,append_nil->aL,all_cons->aR,all_eq_true->a1,drop_drop->a6,map_set->a7,ext_getElem?->bi,drop_zero->bk,mem_append->bl,mem_replicate->bo,size_toArray->bp,eraseIdx_eq_take_drop_succ->bq,mem_of_getElem?->bt,length_map->bu,drop_take->bz,zip_cons_cons->bA,mem_cons->bL,cons_append->bO,length_drop->bR,nil_append->bX,length_replicate->b4,take_take->b5,drop_succ_cons->b8,replicate_zero->b9,getElem?_drop->ca,getElem?_take->cb,length_append->ce,flatMap_cons->cl,getElem?_map->cm,getElem_mem->cr,isEmpty_iff->ct,length_take->cv,mem_flatMap->cw,headD_cons->cC,length_nil->cD,take_left'->cE,take_zero->cF,mem_map->cH,length->cK
open Option renaming map_eq_some_iff->J,getD_some->ab,getD_none->aw,map_none->bc,map_some->be,isSome_none->bB,isNone_none->cg,isNone_some->ch,toList_none->cj
open Nat renaming le_refl->S,mul_le_mul_right->am,add_mul->ax,add_sub_cancel_left->aE,zero_le->aM,zero_add->a8,add_assoc->bs,min_eq_left->bv,le_of_not_lt->bS,lt_of_lt_of_le->cf,le_of_eq->cn,min_zero->cp,sub_self->cq,le_add_right->cz,mul_one->cB,add_zero->cI,succ_mul->cJ,sub_mul->cL
open Array renaming getElem?_toList->bh,ext'->bj,size_eq_one_iff->br,toList_map->bN,getElem?_modify->b0,toList_append->b7,range->cA,map->cM
open Int renaming toNat->b6
open Function renaming comp_def->ck
namespace Go.Am
section
variable {C:Ctx}{X:Nat->Prop}{w:World}{M:Mem}{E:Emb}{K:PV->Mem->Prop}{KP:DV->Mem->Prop}{O:Nat->Prop}
variable{P:Program}
def G6 {t:TypeId}{k off:Nat}{cs:Array Value}{v:Value}(h:oL (P.underlying t) k=true)(hv:cs[off]?=some v):(part t cs off).run P w= .ok v w:=by
 have:(isAgg t).run P w= .ok false w:=by
  unfold oL at h
  split at h
  ·rename_i a;simp[isAgg,run_underlying a]
  ·rename_i a;simp[isAgg,run_underlying a]
  ·rename_i a;simp[isAgg,run_underlying a]
  ·cases h
 simp[part,this,hv]
def uh {P:Program}{xs ys:Array Value}(d:Nat):∀{fs:List Field} {ks:List Nat} {off:Nat} {l m:List DV} {t:Bool},eG P fs ks off=true->aV w O (xs.toList.drop off) l->aV w O (ys.toList.drop off) m->
  bW ks l m=some t->(Op.eqFields (d+1) xs ys fs).run P w= .ok t w
 | [],[],off,l,m,t,_,y,A,g=>by
  cases l<;>cases m<;>simp[bW]at g
  subst g;simp[Op.eqFields]
 |f::fs,k::ks,off,l,m,t,i,y,A,g=>by
  simp only[eG,H,decide_eq_true_eq]at i;obtain⟨⟨⟨r,c⟩,M⟩,i⟩:=i;have step:∀{a b:DV} {o p:List DV} {t1 t2:Bool},l=a::o->m=b::p->bW ks o p=some t2->t=(t1&&t2)->
    (∀u v,bK w O u a->bK w O v b->(Op.equalIn (d+1) f.type u v).run P w= .ok t1 w)->(Op.eqFields (d+1) xs ys (f::fs)).run P w= .ok t w:=by
   intro a b o p t1 t2 K L h2 N e;subst K;subst L;generalize G:xs.toList.drop off=xl at y;generalize I:ys.toList.drop off=yl at A;cases y with
   |cons j z=>cases A with
    |cons n B=>
     rename_i u S v vs
     have C:xs[off]?=some u:=by
      have:(xs.toList.drop off)[0]?=some u:=by rw[G];rfl
      simpa using this
     have E:ys[off]?=some v:=by
      have:(ys.toList.drop off)[0]?=some v:=by rw[I];rfl
      simpa using this
     have D:xs.toList.drop (off+1)=S:=by
      rw[<-a6,G];rfl
     have F:ys.toList.drop (off+1)=vs:=by
      rw[<-a6,I];rfl
     have Q:=uh (xs:=xs) (ys:=ys) d i (D▸z) (F▸B) h2;simp only[Op.eqFields,M,ne_eq,not_false_eq_true,if_true,Sem.run_bind,r,G6 c C,G6 c E,Result.andThen_ok,e u v j n,Sem.run_ite,Q,Sem.run_pure];cases t1<;>simp[N]
  unfold bW at g
  split at g
  ·contradiction
  ·rename_i s R a o T b p e
   cases e
   split at g
   ·rename_i x
    subst x;rw[J]at g;obtain⟨t2,h2,q⟩:=g;refine step rfl rfl h2 q.symm fun u v j n=> ?_
    have:=j.fO;subst this;have:=n.fO;subst this;unfold oL at c
    split at c
    ·cases c
    ·rename_i h;exact run_equalIn_int w d f.type R _ a b h
    ·cases c
    ·cases c
   ·cases g
  ·rename_i s a o b p e
   cases e;rw[J]at g;obtain⟨t2,h2,q⟩:=g;refine step rfl rfl h2 q.symm fun u v j n=> ?_
   have:=j.nT;subst this;have:=n.nT;subst this;unfold oL at c
   split at c
   ·rename_i h;exact Go.run_equalIn_bool w d f.type a b h
   ·cases c
   ·cases c
   ·cases c
  ·rename_i s a o b p e
   cases e;rw[J]at g;obtain⟨t2,h2,q⟩:=g;refine step rfl rfl h2 q.symm fun u v j n=> ?_
   have:=j.rM;subst this;have:=n.rM;subst this;unfold oL at c
   split at c
   ·cases c
   ·cases c
   ·rename_i h;exact run_equalIn_string w d f.type a b h
   ·cases c
  ·cases g
 | [],_::_,_,_,_,_,i,_,_,_=>by simp[eG]at i
 | _::_,[],_,_,_,_,i,_,_,_=>by simp[eG]at i
variable{ρ:Operand->Value}{o:Oper}{x:Operand}
def aen {op:BinOp}{neq:Bool}{ks:List Nat}{t u:TypeId}{y:Operand}(ho:o.op= .binOp op t x y u){args:List PV}(D:Sim C X w M E)(z:aQ w (away X M E) M E ((opsOf o.op).map ρ) args)
  (i:aN C.P (.binOp op t x y u) (.CZ neq ks)=true){base:Nat}(h:au C base (.CZ neq ks) args M K KP):fB C X w M E K KP ((execOp ρ o).run C.P w):=by
 simp only[aN,H]at i;obtain⟨e,c⟩:=i
 split at c
 ·rename_i fs k
  simp only[H,ae]at c;obtain⟨⟨n,p⟩,l⟩:=c;have g:C.P.fieldsOf t=fs:=by simp[Program.fieldsOf,k]
  simp only[ho,opsOf,I,W]at z;simp only[au]at h
  split at h
  ·rename_i a b
   obtain⟨v,L,A,F,m⟩:=dZ z;simp only[List.cons.injEq,and_true]at A;obtain⟨rfl,rfl⟩:=A
   split at h
   ·rename_i tt q
    obtain⟨xs,r,G⟩:=F.toD.wP;obtain⟨ys,s,J⟩:=m.toD.wP;have f:(Op.equalIn 10000 t (.agg xs) (.agg ys)).run C.P w= .ok tt w:=by
     rw[run_equalIn_agg w 9999 t xs ys (by rw[g];exact k) p,g];exact uh 9998 n (by simpa using G) (by simpa using J) q
    have B:=run_eqGuard_agg (P:=C.P) w op t x y xs ys l;have j:(execOp ρ o).run C.P w= .ok (.value (.bool (tt !=neq))) w:=by
     cases op<;>simp only[ae,an]at e
     ·subst e
      simp only[execOp,ho,Sem.run_bind,r,s,B,Result.andThen_ok,run_eql_struct,f,Sem.run_pure];simp
     ·subst e
      simp only[execOp,ho,Sem.run_bind,r,s,B,Result.andThen_ok,run_neq_struct,f,Sem.run_pure];simp
    rw[j];exact .same D h (.d (.bool _))
   ·exact h.elim
  ·exact h.elim
 ·cases c
def ag1 {i j:Nat}(ho:o.op= .extract x i){args:List PV}(l:Sim C X w M E)(g:aQ w (away X M E) M E ((opsOf o.op).map ρ) args)
  (e:aN C.P (.extract x i) (.ext j)=true){base:Nat}(h:au C base (.ext j) args M K KP):fB C X w M E K KP ((execOp ρ o).run C.P w):=by
 simp only[aN,beq_iff_eq]at e;subst e;simp only[ho,opsOf,I,W]at g;simp only[au]at h
 split at h
 ·obtain⟨v,c,f⟩:=fJ g
  simp only[List.cons.injEq,and_true]at c;subst c
  split at h
  ·rename_i d hd
   have b:=f.toD;generalize k:ρ x=v at b;cases b with
   |tup hh=>
    obtain⟨u,h1,h2⟩:=hh.get' i d hd;have a:(execOp ρ o).run C.P w= .ok (.value u) w:=by
     simp[execOp,ho,k,Instr.extract,bh▸h1]
    rw[a];exact .same l h (.d h2)
  ·exact h.elim
 ·obtain⟨v,c,f⟩:=fJ g
  simp only[List.cons.injEq,and_true]at c;subst c
  split at h
  ·rename_i d hd
   generalize k:ρ x=v at f;cases f with
   |tup hh=>
    obtain⟨u,h1,h2⟩:=hh.get' i d hd;have a:(execOp ρ o).run C.P w= .ok (.value u) w:=by
     simp[execOp,ho,k,Instr.extract,bh▸h1]
    rw[a];exact .same l h h2
  ·exact h.elim
 ·exact h.elim
def Rep.kP {v:Value}{k ver skip:Nat}{A:Arr}(n:Rep w O M E v (.tsl k ver skip))(j:M.row k ver=some A):∃a cap,v= .slice a (A.elems.length - skip) cap:=by
 obtain⟨c,Kq⟩:=uS j;cases n with
 |tsl l hh=>
  obtain⟨_,h2⟩:=hh A c;obtain⟨d,_,_,h⟩:=h2 Kq;cases d with
  |some q=>
   obtain⟨blk,o,e⟩:=q
   rcases h with⟨g,b,_⟩|⟨m,f,b⟩
   ·cases b;exact⟨_,_,rfl⟩
   ·cases b;exact⟨_,_,by rw[m,cq]⟩
  |none=>
   obtain⟨f,i,b⟩:=bK.kP h;exact⟨f,i,by rw[b];simp⟩
def Zy {a:Array TypeId}{p:Option TypeDesc->Bool}(h:(a.size==1&&p (P.underlying (a.getD 0 0)))=true):∃t,a= #[t]/\p (P.underlying t)=true:=by
 simp only[H,beq_iff_eq]at h;obtain⟨h1,h2⟩:=h;obtain⟨t,rfl⟩:=br.1 h1;exact⟨t,rfl,by simpa using h2⟩
variable{ass:Array Operand}
def ag3 {argTypes:Array TypeId}(ho:o.op= .call {callee:= .builtin .len,args:=ass,argTypes}){args:List PV}(l:Sim C X w M E)(k:aQ w (away X M E) M E ((opsOf o.op).map ρ) args)
  (c:aN C.P (.call {callee:= .builtin .len,args:=ass,argTypes}) .len=true){base:Nat}(h:au C base .len args M K KP):fB C X w M E K KP ((execOp ρ o).run C.P w):=by
 simp only[aN]at c;simp only[ho,opsOf]at k;simp only[au]at h
 split at h
 ·rename_i p
  obtain⟨v,r,m⟩:=fJ k;obtain⟨t,rfl,q⟩:=Zy (p:=fun d=>match d with|some (.slice _)=>true| _=>false) c
  split at q
  ·rename_i e j
   have i:ass.map ρ= #[v]:=by apply bj;simpa using r
   have b:∀a n cap,v= .slice a n cap->(execOp ρ o).run C.P w= .ok (.value (.int .i64 n)) w:=by
    intro a n cap f;simp[execOp,ho,resolve,i,invoke,builtin,Builtin.len_,run_underlying j,f,goInt]
   unfold qx at h
   split at h
   ·obtain⟨a,cap,f⟩:=m.toD.kP
    rw[b _ _ _ f];exact .same l h (.d (.int _ _))
   ·split at h
    ·rename_i A g
     obtain⟨a,cap,f⟩:=m.kP g;rw[b _ _ _ f];exact .same l h (.d (.int _ _))
    ·exact h.elim
   ·exact h.elim
  ·cases q
 ·exact h.elim
def aey {argTypes:Array TypeId}(ho:o.op= .call {callee:= .builtin .len,args:=ass,argTypes}){args:List PV}(i:Sim C X w M E)(f:aQ w (away X M E) M E ((opsOf o.op).map ρ) args)
  (a:aN C.P (.call {callee:= .builtin .len,args:=ass,argTypes}) .Gi=true){base:Nat}(h:au C base .Gi args M K KP):fB C X w M E K KP ((execOp ρ o).run C.P w):=by
 simp only[aN]at a;simp only[ho,opsOf]at f;simp only[au]at h
 split at h
 ·rename_i s
  obtain⟨v,j,k⟩:=fJ f;obtain⟨t,rfl,g⟩:=Zy (p:=fun d=>match d with|some .string=>true| _=>false) a
  split at g
  ·rename_i e
   have c:ass.map ρ= #[v]:=by apply bj;simpa using j
   have l:=k.toD.rM;have b:(execOp ρ o).run C.P w= .ok (.value (.int .i64 s.size)) w:=by
    simp[execOp,ho,resolve,c,invoke,builtin,Builtin.len_,run_underlying e,l,goInt]
   rw[b];exact .same i h (.d (.int _ _))
  ·cases g
 ·exact h.elim
def aex {n:Nat}{argTypes:Array TypeId}(ho:o.op= .call {callee:= .builtin .len,args:=ass,argTypes}){args:List PV}(i:Sim C X w M E)
  (a:aN C.P (.call {callee:= .builtin .len,args:=ass,argTypes}) (.Zg n)=true){base:Nat}(h:au C base (.Zg n) args M K KP):fB C X w M E K KP ((execOp ρ o).run C.P w):=by
 simp only[aN,H,beq_iff_eq]at a;obtain⟨⟨h1,h2⟩,f⟩:=a;obtain⟨t,rfl⟩:=br.1 h1;obtain⟨x,rfl⟩:=br.1 h2;simp only[au]at h
 split at f
 ·rename_i m e g
  simp only[beq_iff_eq]at f;subst f;have c:C.P.underlying t=some (.array m e):=by simpa using g
  have b:(execOp ρ o).run C.P w= .ok (.value (.int .i64 m)) w:=by
   simp only[execOp,ho,resolve,invoke,builtin,Builtin.len_];cases j:ρ x<;>simp[j,run_underlying c,goInt]
  rw[b];exact .same i h (.d (.int _ _))
 ·cases f
def OU {mx:Bool}{b:Builtin}{argTypes:Array TypeId}(ho:o.op= .call {callee:= .builtin b,args:=ass,argTypes})(hb:(b= .max/\mx=true)\/(b= .min/\mx=false))
  {args:List PV}(j:Sim C X w M E)(i:aQ w (away X M E) M E (ass.toList.map ρ) args)
  {base:Nat}(h:au C base (.qo mx) args M K KP):fB C X w M E K KP ((execOp ρ o).run C.P w):=by
 simp only[au]at h
 split at h
 ·rename_i k x n y
  obtain⟨v,u,l,m,e⟩:=dZ i;have a:ass.map ρ= #[v,u]:=by apply bj;simpa using l
  have f:=m.toD.fO;have g:=e.toD.fO;have c:(execOp ρ o).run C.P w= .ok (.value (.int k (bif mx then(if y>x then y else x)else(if y<x then y else x)))) w:=by
   rcases hb with⟨rfl,rfl⟩|⟨rfl,rfl⟩
   ·simp[execOp,ho,resolve,a,invoke,builtin,Builtin.max_,Builtin.max2,f,g]
   ·simp[execOp,ho,resolve,a,invoke,builtin,Builtin.min_,Builtin.min2,f,g]
  rw[c];exact .same j h (.d (.int _ _))
 ·exact h.elim
def aa1 (ho:o.op= .panic x){args:List PV}(e:Sim C X w M E)(c:aQ w (away X M E) M E ((opsOf o.op).map ρ) args)
  {base:Nat}(h:au C base .panic args M K KP):fB C X w M E K KP ((execOp ρ o).run C.P w):=by
 simp only[ho,opsOf,I,W]at c;simp only[au]at h
 split at h
 ·rename_i p
  obtain⟨v,f,g⟩:=fJ c;simp only[List.cons.injEq,and_true]at f;subst f
  split at h
  ·rename_i t d hd
   have a:=jB (ps:=[p]) e g hd (by simp);have b:(execOp ρ o).run C.P w= .halt (.panic (ρ x)) w:=by
    have:∃u,ρ x= .iface t u:=by
     generalize j:ρ x=v at a;cases a;exact⟨_,rfl⟩
    obtain⟨u,i⟩:=this;simp[execOp,ho,i,Instr.panic]
   rw[b];exact⟨_,_,_,h,mP e [p],mX [p] w,a⟩
  ·exact h.elim
 ·exact h.elim
variable{l:List PV}
def G5 {f:Bool}{Q:Option Int->List PV->Prop}(h:dY f l Q){vs:List Value}(hv:aQ w O M E vs l):
  ∃a c b,Q a c/\aQ w O M E b c/\((f=false/\a=none/\b=vs)\/∃k n,f=true/\a=some n/\vs= .int k n::b):=by
 unfold dY at h
 split at h
 ·exact⟨none,_,vs,h,hv, .inl ⟨rfl,rfl,rfl⟩⟩
 ·cases hv with
  |cons h1 h2=>
   have:=h1.toD.fO;subst this;exact⟨some _,_,_,h,h2, .inr ⟨_,_,rfl,rfl,rfl⟩⟩
 ·exact h.elim
def CQ (v:Option Value)(a:Option Int):Prop:=(v=none/\a=none)\/∃k n,v=some (.int k n)/\a=some n
def EX {isSlice:Bool}{len cap:Nat}{lo hi mx:Option Value}{a b m:Option Int}(o:CQ lo a)(hb:CQ hi b)(p:CQ mx m)(d:∀l,m=some l->b=some l)
  (h:0<=a.getD 0)(h1:a.getD 0<=b.getD len)(h2:b.getD len<=len)(q:len<=cap)(w:World):
  (Instr.sliceBounds isSlice len cap lo hi mx).run P w= .ok ((a.getD 0).toNat,(b.getD len).toNat,(m.map b6).getD cap) w:=by
 rcases o with⟨rfl,rfl⟩|⟨j,e,rfl,rfl⟩<;>rcases hb with⟨rfl,rfl⟩|⟨i,nb,rfl,rfl⟩<;>rcases p with⟨rfl,rfl⟩|⟨k,nm,rfl,rfl⟩<;>
  simp only[ab,aw]at h h1 h2⊢
 ·simp[Instr.sliceBounds]
 ·have:=d _ rfl;cases this
 ·have c:nb<=(cap:Int):=by omega
  simp only[Instr.sliceBounds,Sem.run_bind,Sem.run_pure,Result.andThen_ok];rw[run_sliceBound w i nb cap _ h1 c];simp
 ·have:=d _ rfl;cases this
  have c:nb<=(cap:Int):=by omega
  have f:nb<=(nb.toNat:Int):=by omega
  simp only[Instr.sliceBounds,Sem.run_bind,Sem.run_pure,Result.andThen_ok];rw[run_sliceBound w k nb cap _ h1 c];simp only[Result.andThen_ok];rw[run_sliceBound w i nb nb.toNat _ h1 f];simp
 ·have c:e<=(len:Int):=h1
  simp only[Instr.sliceBounds,Sem.run_bind,Sem.run_pure,Result.andThen_ok];rw[run_sliceBound w j e len _ h c];simp
 ·have:=d _ rfl;cases this
 ·have c:nb<=(cap:Int):=by omega
  have g:0<=nb:=by omega
  have f:e<=(nb.toNat:Int):=by omega
  simp only[Instr.sliceBounds,Sem.run_bind,Sem.run_pure,Result.andThen_ok];rw[run_sliceBound w i nb cap _ g c];simp only[Result.andThen_ok];rw[run_sliceBound w j e nb.toNat _ h f];simp
 ·have:=d _ rfl;cases this
  have c:nb<=(cap:Int):=by omega
  have g:0<=nb:=by omega
  have f:nb<=(nb.toNat:Int):=by omega
  have n:e<=(nb.toNat:Int):=by omega
  simp only[Instr.sliceBounds,Sem.run_bind,Sem.run_pure];rw[run_sliceBound w k nb cap _ g c];simp only[Result.andThen_ok];rw[run_sliceBound w i nb nb.toNat _ g f];simp only[Result.andThen_ok];rw[run_sliceBound w j e nb.toNat _ h n];simp
def NM {lo hi mx:Bool}{Q:Option Int->Option Int->Option Int->Prop}
  (h:dY lo l fun a l=>dY hi l fun b l=>dY mx l fun m l=>l=[]/\Q a b m){ρ:Operand->Value}{olo ohi omx:Option Operand}(h1:olo.isSome=lo)(h2:ohi.isSome=hi)(j:omx.isSome=mx)
  (hv:aQ w O M E ((olo.toList++ohi.toList++omx.toList).map ρ) l):∃a b m,Q a b m/\CQ (olo.map ρ) a/\CQ (ohi.map ρ) b/\CQ (omx.map ρ) m:=by
 obtain⟨a,l1,o,f,r1,c⟩:=G5 h hv;obtain⟨b,l2,p,g,r2,d⟩:=G5 f r1;obtain⟨m,n,q,⟨k,i⟩,r3,e⟩:=G5 g r2;refine⟨a,b,m,i,?_⟩;subst h1 h2 j;cases olo<;>cases ohi<;>cases omx<;>simp at c d e<;>simp[CQ]<;>grind
end
section
variable {C:Ctx}{X:Nat->Prop}{w:World}{M:Mem}{E:Emb}{K:PV->Mem->Prop}{KP:DV->Mem->Prop}{O:Nat->Prop}
variable{ρ:Operand->Value}{o:Oper}{x:Operand}{olo ohi omx:Option Operand}
def aeK {t:TypeId}{lo hi:Bool}(ho:o.op= .slice t x olo ohi omx){args:List PV}(q:Sim C X w M E)
  (j:aQ w (away X M E) M E ((opsOf o.op).map ρ) args)(c:aN C.P (.slice t x olo ohi omx) (.Ns lo hi)=true){base:Nat}(h:au C base (.Ns lo hi) args M K KP):fB C X w M E K KP ((execOp ρ o).run C.P w):=by
 simp only[aN,H,beq_iff_eq]at c;obtain⟨⟨⟨k,h1⟩,h2⟩,n⟩:=c
 split at k
 ·rename_i f
  have i:omx=none:=by simpa using n
  subst i;simp only[ho,opsOf,I,bO]at j;simp only[au]at h;unfold zx at h
  split at h
  ·rename_i s l
   cases j with
   |cons v r=>
    obtain⟨a,b,m,⟨_,y,z,A,p⟩,ba,bb,bm⟩:=NM h h1 h2 (omx:=none) rfl r;have u:=v.toD.rM;have g:=EX (P:=C.P) (isSlice:=false) ba bb (mx:=none) (m:=none) (.inl ⟨rfl,rfl⟩) (fun _ hh=>by cases hh) y z A (S _) w;have e:(execOp ρ o).run C.P w= .ok (.value (.string (s.extract (a.getD 0).toNat (b.getD s.size).toNat))) w:=by
     simp only[execOp,ho,Sem.run_bind,u,bc];rw[run_sliceAt_string w t _ _ _ _ f];simp only[Instr.slice,Sem.run_bind,run_underlying f,Result.andThen_ok,bB,an,if_false,g,Sem.run_pure]
    rw[e];exact .same q p (.d (.str _))
  ·exact h.elim
 ·cases k
variable{v:Value}{ex:Bool}
def bK.KO {w:World}{O:Nat->Prop}{xs:List DV}(h:bK w O v (.slice ex xs)):∃a cap,v= .slice a xs.length cap/\xs.length<=cap/\(ex=true->cap=xs.length)/\
  (xs=[]\/∃blk off sz cs T fz,a=some ⟨blk,off,none⟩/\w.heap[blk]?=some (.cells cs T fz)/\¬O blk/\(∀x∈xs,x.cells.length=sz)/\aV w O ((cs.toList.drop off).take (xs.length*sz)) (flat xs)):=by
 cases h with
 |empty b=>exact⟨_,_,rfl,aM _,b, .inl rfl⟩
 |slice c f e g d b hh=>subst e;exact⟨_,_,rfl,d,b, .inr ⟨_,_,_,_,_,_,rfl,c,f,g,hh⟩⟩
def EZ {P:Program}{t e:TypeId}{c:TypeInfo}{xs:List DV}{lo hi mx:Option Value}{a b m:Option Int}(p:P.underlying t=some (.slice e))(jT:P.info? e=some c)
  (D:∀x∈xs,x.cells.length=c.size)(hv:bK w O v (.slice ex xs))
  (K:CQ lo a)(hb:CQ hi b)(I:CQ mx m)(h:∀r,m=some r->b=some r)(J:0<=a.getD 0)(h1:a.getD 0<=b.getD xs.length)(h2:b.getD xs.length<=xs.length):
  ∃u,(Instr.sliceAt t v lo hi mx).run P w= .ok u w/\bK w O u (.slice (mx.isSome||(ex&& !hi.isSome)) ((xs.take (b.getD xs.length).toNat).drop (a.getD 0).toNat)):=by
 have n:P.elem t=e:=by simp[Program.elem,p]
 have f:P.underlying t=some (.slice (P.elem t)):=by rw[n];exact p
 obtain⟨G,cap,rfl,k,z,aoa⟩:=hv.KO;have j:=EX (P:=P) (isSlice:=true) K hb I h J h1 h2 k w;have aqy:(b.getD xs.length).toNat<=(m.map b6).getD cap/\(m.map b6).getD cap<=cap:=by
  cases m with
  |none=>simp only[bc,aw];omega
  |some r=>have:=h r rfl;subst this;simp only[ab]at h2;simp only[be,ab];omega
 have g:(mx.isSome||(ex&& !hi.isSome))=true->(m.map b6).getD cap=(b.getD xs.length).toNat:=by
  intro d
  rcases I with⟨rfl,rfl⟩|⟨S,nm,rfl,rfl⟩
  ·simp only[bB,cG,H,ae]at d
   obtain⟨E,F⟩:=d
   rcases hb with⟨rfl,rfl⟩|⟨R,nb,rfl,rfl⟩
   ·simp only[aw,bc]
    rw[z E];simp
   ·cases F
  ·have:=h nm rfl;subst this
   simp
 generalize (m.map b6).getD cap=mv at j aqy g;have L:(a.getD 0).toNat<=(b.getD xs.length).toNat:=by omega
 have A:(b.getD xs.length).toNat<=xs.length:=by omega
 generalize (a.getD 0).toNat=l at*;generalize (b.getD xs.length).toNat=hh at*;refine⟨sliced G l hh mv c.size,?_,?_⟩
 ·rw[run_sliceAt_slice w t _ _ _ _ f,run_slice_any w t G xs.length cap f,j,n]
  simp only[Result.andThen_ok,run_sizeOf jT]
 ·simp only[sliced]
  by_cases B:l=hh
  ·have:(xs.take hh).drop l=[]:=aq (by simp;omega)
   rw[this,B,cq];exact .empty (fun d=>by rw[g d];omega)
  ·have C:mv≠l:=by omega
   rw[if_neg C]
   rcases aoa with rfl|⟨blk,Q,sz,cs,T,fz,rfl,y,M,q,N⟩
   ·simp at A;omega
   ·have o:sz=c.size:=by
     have i:0<xs.length:=by omega
     rw[<-q _ (cr i),D _ (cr i)]
    subst o;simp only[be,Addr.add_lit];refine .slice y M (by simp;omega) (fun x d=>q x (ai (U d))) (by omega) (fun d=>by have:=g d;omega) ?_;rw[bz,<-Dn (fun x d=>q x (U d)),<-zB q];have s:=(N.drop (l*c.size)).take ((hh - l)*c.size);rw[bz,a6,b5]at s;have:(hh - l)*c.size<=xs.length*c.size - l*c.size:=by
     rw[<-cL];exact am _ (by omega)
    rw[bv this]at s;exact s
def isSome_map {α β:Type}(f:α->β)(o:Option α):(o.map f).isSome=o.isSome:=by cases o<;>rfl
def UO {t:TypeId}{sz:Nat}{lo hi mx:Bool}(ho:o.op= .slice t x olo ohi omx){args:List PV}(z:Sim C X w M E)
  (hA:aQ w (away X M E) M E ((opsOf o.op).map ρ) args)(V:aN C.P (.slice t x olo ohi omx) (.Jh sz lo hi mx)=true){base:Nat}(h:au C base (.Jh sz lo hi mx) args M K KP):fB C X w M E K KP ((execOp ρ o).run C.P w):=by
 simp only[aN,H,beq_iff_eq]at V;obtain⟨⟨⟨j,h1⟩,h2⟩,Z⟩:=V
 split at j
 ·rename_i e g
  split at j
  ·rename_i ap jT
   simp only[H,beq_iff_eq,decide_eq_true_eq]at j;obtain⟨J,aD⟩:=j;subst J;have W:C.P.elem t=e:=by simp[Program.elem,g]
   have s:C.P.underlying t=some (.slice (C.P.elem t)):=by rw[W];exact g
   simp only[ho,opsOf,I,bO]at hA;simp only[au]at h;have c:∀{u:Value},(Instr.sliceAt t (ρ x) (olo.map ρ) (ohi.map ρ) (omx.map ρ)).run C.P w= .ok u w->(execOp ρ o).run C.P w= .ok (.value u) w:=by
    intro u j;simp only[execOp,ho,Sem.run_bind,j,Result.andThen_ok,Sem.run_pure]
   unfold zu at h
   split at h
   ·rename_i ex xs l
    cases hA with
    |cons n hl=>
     obtain⟨a,b,m,⟨J,L,q2,q3,q4,y⟩,ba,bb,bm⟩:=NM h h1 h2 Z hl;obtain⟨u,O,i⟩:=EZ (P:=C.P) g jT J n.toD ba bb bm q4 L q2 q3;rw[c O];refine .same z y (.d ?_);simp only[isSome_map,h2,Z]at i;exact i
   ·rename_i k ver skip l
    cases hA with
    |cons n hl=>
     obtain⟨a,b,m,Q,ba,bb,bm⟩:=NM h h1 h2 Z hl
     split at Q
     ·rename_i A r
      obtain⟨f,Kq⟩:=uS r;have WI:=(z.arr k A f).2.1
      split at Q
      ·obtain⟨RP,rfl,L,q2,y⟩:=Q
       generalize hv:ρ x=v at n c;cases n with
       |tsl G hh=>
        rename_i len cap N
        obtain⟨F,am⟩:=hh A f;obtain⟨aq,h4,h5,h6⟩:=am Kq;cases aq with
        |some q=>
         obtain⟨blk,o1,e1⟩:=q;simp only at h6;have Y:∀N len cap,len=A.elems.length - skip->len<=cap->(Instr.sliceAt t (.slice N len cap) (olo.map ρ) (ohi.map ρ) (omx.map ρ)).run C.P w= .ok (sliced N (a.getD 0).toNat len cap ap.size) w:=by
          intro N len cap e1 e2;have ae:=EX (P:=C.P) (isSlice:=true) ba bb bm (fun _ hh=>by cases hh) L (by simp only[aw];omega) (by simp only[aw];omega) e2 w;rw[run_sliceAt_slice w t _ _ _ _ s,run_slice_any w t N len cap s,ae,W];simp only[Result.andThen_ok,run_sizeOf jT,aw]
          congr 2
         rcases h6 with⟨az,he,hc,R⟩|⟨hn,a',he⟩
         ·cases he
          rw[c (Y _ _ _ rfl hc)];simp only[sliced];have aL:(a.getD 0).toNat<=A.elems.length - skip:=by omega
          refine .same z y (.tsl G fun B p=> ?_);rw[f]at p;cases p;refine⟨F,fun _=>⟨_,h4,by omega,?_⟩⟩
          by_cases T:cap=(a.getD 0).toNat
          ·rw[if_pos T]
           refine .inr ⟨by omega,some ⟨blk,o1+skip*A.sz,none⟩,?_⟩;rw[show A.elems.length - skip - (a.getD 0).toNat=0 by omega,show cap - (a.getD 0).toNat=0 by omega]
          ·rw[if_neg T]
           refine .inl ⟨cap - (a.getD 0).toNat,?_,by omega,?_⟩
           ·simp only[be,Addr.add_lit,RP,ax,bs,Nat.sub_sub]
           ·rw[<-R];congr 2;omega
         ·cases he
          have ac:(a.getD 0).toNat=0:=by omega
          rw[c (Y _ _ _ (by omega) (S _))];simp only[sliced,ac,if_true,cq];refine .same z y (.tsl G fun B p=> ?_);rw[f]at p;cases p;exact⟨F,fun _=>⟨_,h4,by omega, .inr ⟨by omega,_,rfl⟩⟩⟩
        |none=>
         simp only at h6;have D:(A.elems.drop skip).length=A.elems.length - skip:=by simp
         obtain⟨u,O,i⟩:=EZ (P:=C.P) g jT (fun x n=>by rw[DV.dK (WI x (U n)),RP]) h6 ba bb bm (fun _ hh=>by cases hh) L (by simp only[aw,D];omega) (by simp);rw[c O];have an:ohi=none:=by
          rcases bb with⟨e,_⟩|⟨_,_,_,e⟩
          ·simpa using e
          ·cases e
         have aqz:omx=none:=by
          rcases bm with⟨e,_⟩|⟨_,_,_,e⟩
          ·simpa using e
          ·cases e
         subst an aqz;simp only[bc,bB,cG,Bool.not_false,bE,aw]at i;have ht:(((A.elems.drop skip).take ((A.elems.drop skip).length:Int).toNat).drop (a.getD 0).toNat)=A.elems.drop (skip+(a.getD 0).toNat):=by
          rw[Int.toNat_natCast,List.take_length,a6]
         rw[ht]at i;obtain⟨aE,c',j⟩:=i.kP;subst j;refine .same z y (.tsl G fun B p=> ?_);rw[f]at p;cases p;exact⟨F,fun _=>⟨none,h4,by omega,i⟩⟩
      ·rename_i b'
       obtain⟨RP,L,q2,q3,q4,y⟩:=Q;have D:(A.elems.drop skip).length=A.elems.length - skip:=by simp
       have hd:datum M (.tsl k ver skip)=some (.slice false (A.elems.drop skip)):=by simp[datum,r]
       have ai:=jB (ps:=[PV.tsl k ver skip]) z n hd (by simp);obtain⟨u,O,i⟩:=EZ (P:=C.P) g jT (fun x n=>by rw[DV.dK (WI x (U n)),RP]) ai ba bb bm (fun m' ao=>by rw[q4 m' ao]) L (by simpa using q2) (by simp only[ab,D];omega);rw[c O];refine⟨_,_,_,y,mP z _,mX _ w, .d ?_⟩;simp only[isSome_map,h2,Z,Bool.false_and,Bool.or_false,ab]at i;exact i
     ·exact Q.elim
   ·exact h.elim
  ·cases j
 ·cases j
end
def Reads (w:World)(O:Nat->Prop)(sz:Nat)(v:Value)(ys:List DV):Prop:=
 ∃a:List Value,(∀P,(Builtin.lenOf v).run P w= .ok ys.length w)/\(∀P w',Later w w'->(Builtin.firstCells sz ys.length v).run P w'= .ok a.toArray w')/\aV w O a (flat ys)
section
variable {C:Ctx}{X:Nat->Prop}{w:World}{M:Mem}{E:Emb}{K:PV->Mem->Prop}{KP:DV->Mem->Prop}{O:Nat->Prop}
def AY (P:Program)(w:World)(a:Addr):(loadCells a 0).run P w= .ok #[] w:=by
 have:=run_loadCells_list (P:=P) w a [] (fun j v b=>by simp at b)
 simpa using this
variable{sz cap:Nat}
def reads_nil {a:Option Addr}:Reads w O sz (.slice a 0 cap) []:=by
 refine⟨[],fun P=>by simp[Builtin.lenOf],fun P w' _=> ?_,by simpa[flat]using .nil⟩;cases a with
 |none=>simp[Builtin.firstCells]
 |some a=>simp[Builtin.firstCells,AY]
def VA {blk off len:Nat}{ys:List DV}{cs:Array Value}{T:TypeId}{fz:Nat×Nat}(hb:w.heap[blk]?=some (.cells cs T fz))
  (c:aV w O ((cs.toList.drop off).take (len*sz)) (flat ys))(hl:ys.length=len)(hs:∀y∈ys,y.cells.length=sz):Reads w O sz (.slice (some ⟨blk,off,none⟩) len cap) ys:=by
 subst hl;have b:((cs.toList.drop off).take (ys.length*sz)).length=ys.length*sz:=by rw[c.length,flat_length hs]
 refine⟨_,fun P=>by simp[Builtin.lenOf],fun P w' d=> ?_,c⟩;have:=run_loadCells_list (P:=P) w' ⟨blk,off,none⟩ ((cs.toList.drop off).take (ys.length*sz)) (fun j v a=>by
  rw[Addr.add_lit,cell_of_row w' blk (off+j) cs T fz (d.jG hb)];rw[cb]at a
  split at a
  ·rw[ca]at a;simpa using a
  ·cases a)
 rw[b]at this
 simpa[Builtin.firstCells]using this
variable{v:Value}
def KG {ex:Bool}{ys:List DV}(e:bK w O v (.slice ex ys))(hs:∀y∈ys,y.cells.length=sz):Reads w O sz v ys:=by
 cases e with
 |empty f=>exact reads_nil
 |slice d i c a h f hh=>
  rename_i blk g len cap b cs T fz
  cases ys with
  |nil=>
   subst c;exact reads_nil
  |cons y ys=>
   have:b=sz:=by rw[<-a y (by simp),hs y (by simp)]
   subst this;exact VA d hh c hs
def af0 {s:ByteArray}:Reads w O 1 (.string s) (s.data.toList.map fun b=> .int .u8 b.toNat):=by
 have c:∀l:List UInt8,flat (l.map fun b=>DV.int .u8 (b.toNat:Int))=l.map fun b=>DV.int .u8 (b.toNat:Int):=by
  intro l
  induction l with
  |nil=>rfl
  |cons b l d=>rw[I,lV,d];rfl
 have a:(s.data.toList.map fun b=>DV.int .u8 (b.toNat:Int)).length=s.size:=by simp
 refine⟨s.data.toList.map fun b=> .int .u8 b.toNat,fun P=>by rw[a];simp[Builtin.lenOf],fun P w' _=> ?_,?_⟩
 ·rw[a]
  have:s.extract 0 s.size=s:=by simp
  simp only[Builtin.firstCells,this,Sem.run_pure]
  congr 1
  apply bj;simp
 ·rw[c]
  generalize s.data.toList=l
  induction l with
  |nil=>exact .nil
  |cons b l d=>exact .cons (.int _ _) d
variable{k ver skip:Nat}{A:Arr}
def Iu (s:Sim C X w M E)(u:Rep w (away X M E) M E v (.tsl k ver skip))(r:M.row k ver=some A):
  M.aC[k]?=some (some A)/\skip<=A.elems.length/\0<A.sz/\(∀x∈A.elems,x.fits A.sz=true)/\
  ((∃(blk o e:Nat) (vs:Array Value) (T:TM vs.size) (cap:Nat),E.ar[k]?=some (some (blk,o,e))/\w.heap[blk]?=some (.cells vs T.ty T.fr)/\o+A.elems.length*A.sz<=e/\e<=vs.size/\
    aV w (away X M E) ((vs.toList.drop o).take (A.elems.length*A.sz)) (flat A.elems)/\
    ((v= .slice (some ⟨blk,o+skip*A.sz,none⟩) (A.elems.length - skip) cap/\A.elems.length - skip<=cap/\o+(skip+cap)*A.sz=e)\/(A.elems.length=skip/\cap=0/\∃a,v= .slice a 0 0)))\/
  (E.ar[k]?=some none/\A.st≠1/\bK w (away X M E) v (.slice true (A.elems.drop skip)))):=by
 obtain⟨b,z⟩:=uS r;obtain⟨D,F,G,H⟩:=s.arr k A b;cases u with
 |tsl t hh=>
  obtain⟨_,h2⟩:=hh A b;obtain⟨f,c,p,d⟩:=h2 z;refine⟨b,p,D,F,?_⟩;cases f with
  |some q=>
   obtain⟨blk,o,e⟩:=q;obtain⟨_,vs,T,i,j,l,m⟩:=H blk o e c;simp only at d
   rcases d with⟨cap,g,h,B⟩|⟨g,a,h⟩
   ·exact .inl ⟨blk,o,e,vs,T,cap,c,i,j,l,m, .inl ⟨g,h,B⟩⟩
   ·exact .inl ⟨blk,o,e,vs,T,0,c,i,j,l,m, .inr ⟨g,rfl,a,h⟩⟩
  |none=>
   refine .inr ⟨c,fun y=> ?_,d⟩;obtain⟨q,n⟩:=G y;rw[c]at n;cases n
def row_drop {o:Nat}{vs:Array Value}(a:∀x∈A.elems,x.fits A.sz=true)(c:aV w O ((vs.toList.drop o).take (A.elems.length*A.sz)) (flat A.elems)):
  aV w O ((vs.toList.drop (o+skip*A.sz)).take ((A.elems.length - skip)*A.sz)) (flat (A.elems.drop skip)):=by
 have b:(vs.toList.drop (o+skip*A.sz)).take ((A.elems.length - skip)*A.sz)=(((vs.toList.drop o).take (A.elems.length*A.sz)).drop (skip*A.sz)):=by
  rw[bz,a6,cL]
 rw[b,<-zB (fun x d=>DV.dK (a x d)) skip];exact c.drop _
def VB (g:Sim C X w M E)(h:Rep w (away X M E) M E v (.tsl k ver skip))(f:M.row k ver=some A):Reads w (away X M E) A.sz v (A.elems.drop skip):=by
 obtain⟨_,h1,h2,b,d⟩:=Iu g h f;have c:∀y∈A.elems.drop skip,y.cells.length=A.sz:=fun y i=>DV.dK (b y (U i))
 rcases d with⟨blk,o,e,vs,T,cap,p,j,q,r,l,m⟩|⟨_,_,hd⟩
 ·rcases m with⟨rfl,n,s⟩|⟨n,_,a,rfl⟩
  ·exact VA j (row_drop b l) (by simp) c
  ·rw[aq (by omega)]
   exact reads_nil
 ·exact KG hd c
def Reads.size {b:Nat}{ys:List DV}(h:Reads w O sz v ys)(h1:∀y∈ys,y.cells.length=sz)(h2:∀y∈ys,y.cells.length=b)(P:Program)(d:∃a n cap,v= .slice a n cap):Reads w O b v ys:=by
 cases ys with
 |nil=>
  obtain⟨a,n,cap,rfl⟩:=d;obtain⟨c,e,_,_⟩:=h;have:n=0:=by simpa[Builtin.lenOf]using e P
  subst this;exact reads_nil
 |cons y ys=>
  have:sz=b:=by rw[<-h1 y (by simp),h2 y (by simp)]
  subst this;exact h
def Tf {x:PV}{ys:List DV}(h:Sim C X w M E)(d:Rep w (away X M E) M E v x)(b:yg sz x M=some ys)(c:∀y∈ys,y.fits sz=true):Reads w (away X M E) sz v ys:=by
 have i:∀y∈ys,y.cells.length=sz:=fun y g=>DV.dK (c y g)
 unfold yg at b
 split at b
 ·simp only[Option.some.injEq]at b;subst b
  exact KG d.toD i
 ·split at b
  ·rename_i f
   simp only[Option.some.injEq]at b;subst b;subst f;have:=d.toD.rM;subst this;exact af0
  ·cases b
 ·rw[J]at b
  obtain⟨A,e,rfl⟩:=b;have j:=(Iu h d e).2.2.2.1;obtain⟨a,cap,k⟩:=d.kP e;exact(VB h d e).size (fun y g=>DV.dK (j y (U g))) i C.P ⟨_,_,_,k⟩
 ·cases b
variable{P:Program}
def VQ {a:Array TypeId}{p:Option TypeDesc->Option TypeDesc->Bool}(h:(a.size==2&&p (P.underlying (a.getD 0 0)) (P.underlying (a.getD 1 0)))=true):
  ∃t u,a= #[t,u]/\p (P.underlying t) (P.underlying u)=true:=by
 simp only[H,beq_iff_eq]at h;obtain⟨h1,h2⟩:=h;obtain⟨l⟩:=a
 match l,h1 with
 | [t,u],_=>exact⟨t,u,rfl,by simpa using h2⟩
variable{ρ:Operand->Value}{o:Oper}{ass:Array Operand}
def Lc {st1:Bool}{argTypes:Array TypeId}(ho:o.op= .call {callee:= .builtin .append,args:=ass,argTypes}){args:List PV}(Q:Sim C X w M E)(hA:aQ w (away X M E) M E ((opsOf o.op).map ρ) args)
  (a7:aN C.P (.call {callee:= .builtin .append,args:=ass,argTypes}) (.app sz st1)=true){base:Nat}(h:au C base (.app sz st1) args M K KP):fB C X w M E K KP ((execOp ρ o).run C.P w):=by
 simp only[aN]at a7;simp only[ho,opsOf]at hA;simp only[au]at h
 split at h
 ·rename_i s x
  obtain⟨v,u,he,hr,bu⟩:=dZ hA;have bh:ass.map ρ= #[v,u]:=by apply bj;simpa using he
  obtain⟨sT,xT,rfl,hu⟩:=VQ (p:=fun a b=>match a,b with
   |some (.slice e),some d=>(match d with| .int _=>false| _=>true)&&(match C.P.info? e with
    |some i=>match i.zero with|some z=>i.size==sz&&decide (0<sz)&&decide (i.bytes<=1024)&&z.cells.size==sz|none=>false
    |none=>false)
   | _,_=>false) a7
  split at hu
  ·rename_i e d bc aod
   simp only[H]at hu;obtain⟨hd,hu⟩:=hu
   split at hu
   ·rename_i bE jT
    split at hu
    ·rename_i z hz
     simp only[H,beq_iff_eq,decide_eq_true_eq]at hu;obtain⟨⟨⟨a9,q⟩,G⟩,be⟩:=hu;have a6:∀k,d≠ .int k:=by rintro k rfl;cases hd
     have t:∀{r:Value} {w':World},(Builtin.append_ #[sT,xT] o.type #[v,u]).run C.P w= .ok r w'->(execOp ρ o).run C.P w= .ok (.value r) w':=by
      intro r w' hh;simp[execOp,ho,resolve,bh,invoke,builtin,hh]
     unfold kL at h
     split at h
     ·exact h.elim
     ·rename_i ys bw
      obtain⟨_,an,bA,h⟩:=h;have bv:∀y∈ys,y.cells.length=sz:=fun y hy=>DV.dK (an y hy)
      obtain⟨j,n1,n2,n3⟩:=Tf Q bu bw an;have F:j.length=ys.length*sz:=by rw[n3.length,flat_length bv]
      have aw:∀v∈j,v.oneCell'=true:=n3.oneCell (by
       intro c hc;simp only[flat,cw]at hc;obtain⟨y,hy,hc⟩:=hc;exact DV.LC (an y hy) c hc)
      have av:∀{f L:List Value} {xs:List DV},aV w (away X M E) f (flat xs)->(∀x∈xs,x.cells.length=sz)->
        aV w (away X M E) ((((f++j++L).toArray).toList.drop 0).take ((xs++ys).length*sz)) (flat (xs++ys)):=by
       intro f L xs aR hx;have ab:f.length=xs.length*sz:=by rw[aR.length,flat_length hx]
       have bt:(f++j).length=(xs++ys).length*sz:=by simp[ab,F,ax]
       rw[bk,<-bt,List.take_left,xg];exact aR.append n3
      split at h
      ·rename_i ex xs
       obtain⟨rfl,ai,aq,hK⟩:=h;have N:∀y∈xs,y.cells.length=sz:=fun y hy=>DV.dK (ai y hy)
       obtain⟨f,o1,o2,o3⟩:=KG (sz:=sz) hr.toD N;have ab:f.length=xs.length*sz:=by rw[o3.length,flat_length N]
       have a5:∃a,v= .slice a xs.length xs.length:=by
        have hd:=hr.toD;cases hd with
        |empty hx=>rw[hx rfl];exact⟨_,rfl⟩
        |slice hb aR hl hs hc hx hh=>rw[hx rfl,hl];exact⟨_,rfl⟩
       obtain⟨a,rfl⟩:=a5;have m:∀x∈(xs++ys),x.fits sz=true:=by
        intro x hx
        rcases bl.1 hx with hx|hx
        ·exact ai x hx
        ·exact an x hx
       rcases TK (ty:=o.type) bc ⟨d,aod,a6⟩ jT hz a9 G be (n1 C.P) (n2 C.P) F (o2 C.P) ab aq aw (fun h1 h2=>by omega)with⟨_,q2,q3⟩|⟨q1,q2,_⟩|⟨_,w',cap,L,q3,q4,q5,q6,q7⟩
       ·have a2:ys=[]:=aD.1 q2
        subst a2;have a1:st1=false:=by cases st1<;>simp_all
        subst a1;rw[t q3];obtain⟨t1,t2⟩:=wL (A:=⟨sz,xs++ [],0,0⟩) (loc:=none) Q (Later.refl w) q m (fun hh=>by cases hh) (fun _ _ _ hh=>by cases hh);refine⟨_,_,_,hK,t1,t2, .tsl (by simp) fun B D=> ?_⟩;have l:B=⟨sz,xs++ [],0,0⟩:=by simp at D;simp[D]
        subst l;refine⟨S _,fun _=>⟨none,by simp[<-Q.bC],aM _,?_⟩⟩;have:=hr.toD.from t2
        simpa using this
       ·omega
       ·rw[t q3]
        have Z:(xs++ys).length=xs.length+ys.length:=by simp
        obtain⟨t1,t2⟩:=wL (A:=⟨sz,xs++ys,0,bif st1 then 1 else 0⟩) (loc:=some (w.heap.size,0,cap*sz)) Q q5 q m (fun _ hh=>by cases hh) (fun blk O e' hh=>by
         cases hh;refine⟨S _,_, .zero _ _,q6,?_,?_,av o3 N⟩
         ·show 0+(xs++ys).length*sz<=cap*sz
          rw[a8,Z];exact am _ q4
         ·rw[bp,q7];exact S _)
        refine⟨_,_,_,hK,t1,t2, .tsl (by simp) fun B D=> ?_⟩;have l:B=⟨sz,xs++ys,0,bif st1 then 1 else 0⟩:=by simp at D;simp[D]
        subst l;refine⟨S _,fun _=>⟨some (w.heap.size,0,cap*sz),by simp[<-Q.bC],aM _, .inl ⟨cap,?_,?_,?_⟩⟩⟩
        ·simp
        ·simpa using q4
        ·simp
      ·rename_i k ver skip
       split at h
       ·rename_i A I
        obtain⟨rfl,ap,aq,hK⟩:=h;obtain⟨W,aqP,_,az,ao7⟩:=Iu Q hr I;have a4:=fun _:Unit=>ao7
        clear ao7;have ai:∀y∈A.elems.drop skip,y.fits A.sz=true:=fun y hy=>az y (U hy)
        have N:∀y∈A.elems.drop skip,y.cells.length=A.sz:=fun y hy=>DV.dK (ai y hy)
        obtain⟨f,o1,o2,o3⟩:=VB Q hr I;have Y:(A.elems.drop skip).length=A.elems.length - skip:=by simp
        have ab:f.length=(A.elems.length - skip)*A.sz:=by rw[o3.length,flat_length N,Y]
        have an3:k<M.aC.length:=(V.1 W).1;have Kq:=(uS I).2;have ado:A.ver<ver+1:=by omega
        have m:∀x∈(A.elems.drop skip++ys),x.fits A.sz=true:=by
         intro x hx
         rcases bl.1 hx with hx|hx
         ·exact ai x hx
         ·exact an x hx
        obtain⟨a,n,hv⟩:=hr.kP I;subst hv;rw[Y]at o2;have J:∀{B A':Arr},(M.aC.set k (some A'))[k]?=some (some B)->B=A':=by
         intro B A' D;simp[an3]at D;exact D.symm
        have ao:k<(M.aC.set k (some (⟨A.sz,A.elems.drop skip++ys,ver+1,bif st1 then 1 else A.st⟩:Arr))).length:=by simpa using an3
        have hE:∀a3,(E.ar.set k a3)[k]?=some a3:=fun a3=>by simp[Q.bC,an3]
        have ac:Unit->A.elems.length - skip+ys.length<=n->ys.length≠0->∃(blk o e:Nat) (vs:Array Value) (T:TM vs.size),E.ar[k]?=some (some (blk,o,e))/\w.heap[blk]?=some (.cells vs T.ty T.fr)/\o+A.elems.length*A.sz<=e/\e<=vs.size/\
          aV w (away X M E) ((vs.toList.drop o).take (A.elems.length*A.sz)) (flat A.elems)/\a=some ⟨blk,o+skip*A.sz,none⟩/\o+(skip+n)*A.sz=e:=by
         intro _ h1 h2
         rcases a4 ()with⟨blk,o,e,vs,T,cap,p1,p2,p3,p4,p5,p6⟩|⟨_,_,hd⟩
         ·rcases p6 with⟨hh,p7,p8⟩|⟨_,_,a',hh⟩
          ·cases hh;exact⟨blk,o,e,vs,T,p1,p2,p3,p4,p5,rfl,p8⟩
          ·simp only[Value.slice.injEq]at hh
           omega
         ·obtain⟨a',c',bq,_,bo,_⟩:=hd.KO
          simp only[Value.slice.injEq]at bq;have:=bo rfl;omega
        rcases TK (ty:=o.type) bc ⟨d,aod,a6⟩ jT hz a9 G be (n1 C.P) (n2 C.P) F (o2 C.P) ab (by omega) aw (fun h1 h2=>by
          obtain⟨blk,O,e',vs,T,p1,p2,p3,p4,p5,p6,p7⟩:=ac () h1 h2;refine⟨blk,_,vs,T,p6,p2,?_⟩;rw[F,bs,<-ax,bs,<-ax];have:(skip+(A.elems.length - skip+ys.length))*A.sz<=(skip+n)*A.sz:=am _ (by omega);omega)with⟨q1,q2,q3⟩|⟨q1,q2,w',g,og,bB,T,q3,q4,q5,q6⟩|⟨_,w',cap,L,q3,q4,q5,q6,q7⟩
        ·have a2:ys=[]:=aD.1 q2
         subst a2;have a1:st1=false:=by cases st1<;>simp_all
         subst a1;rw[t q3]
         rcases a4 ()with⟨blk,o,e,vs,T,cap,p1,p2,p3,p4,p5,p6⟩|⟨p1,p2,hd⟩
         ·obtain⟨t1,t2⟩:=A8 (A':=⟨A.sz,A.elems.drop skip++ [],ver+1,A.st⟩) (loc:=some (blk,o+skip*A.sz,e)) Q W ap rfl rfl rfl (S _) (fun _ _ _ hh=>hh) ado q m (fun _ hh=>by cases hh) (fun R O e' hh=>by
           cases hh;refine⟨.inr ⟨o,e,p1⟩,vs,T,p2,?_,p4,?_⟩
           ·simp only[aL,Y]
            have:skip*A.sz+(A.elems.length - skip)*A.sz=A.elems.length*A.sz:=by rw[<-ax];congr 1;omega
            omega
           ·simp only[aL,Y]
            exact row_drop az p5)
          refine⟨_,_,_,hK,t1,t2, .tsl ao fun B D=> ?_⟩;have l:=J D;subst l;refine⟨S _,fun _=>⟨_,hE _,aM _,?_⟩⟩
          rcases p6 with⟨hh,p7,p8⟩|⟨p7,_,a',hh⟩
          ·simp only[Value.slice.injEq]at hh
           obtain⟨rfl,_,rfl⟩:=hh;refine .inl ⟨n,?_,?_,?_⟩
           ·simp
           ·simpa using p7
           ·simp only[a8];rw[bs,<-ax];exact p8
          ·simp only[Value.slice.injEq]at hh
           obtain⟨rfl,h2,rfl⟩:=hh;refine .inr ⟨by simp;omega,a,?_⟩;rw[h2];rfl
         ·obtain⟨t1,t2⟩:=A8 (A':=⟨A.sz,A.elems.drop skip++ [],ver+1,A.st⟩) (loc:=none) Q W ap rfl rfl rfl (S _) (fun _ _ _ hh=>hh) ado q m (fun hh=>absurd hh p2) (fun R O e' hh=>by cases hh)
          refine⟨_,_,_,hK,t1,t2, .tsl ao fun B D=> ?_⟩;have l:=J D;subst l;refine⟨S _,fun _=>⟨_,hE _,aM _,?_⟩⟩;have:=hd.from t2
          simpa using this
        ·obtain⟨blk,O,e',vs,T',p1,p2,p3,p4,p5,p6,p7⟩:=ac () q1 q2
         rw[p6]at q4;simp only[Option.some.injEq,Addr.mk.injEq]at q4;obtain⟨rfl,rfl,_⟩:=q4;rw[p2]at q5;simp only[Option.some.injEq,Obj.cells.injEq]at q5;obtain⟨rfl,_,_⟩:=q5;rw[t q3];have bz:skip*A.sz+(A.elems.length - skip)*A.sz=A.elems.length*A.sz:=by rw[<-ax];congr 1;omega
         have apn:(A.elems.drop skip++ys).length*A.sz=(A.elems.length - skip)*A.sz+ys.length*A.sz:=by rw[ce,Y,ax]
         have br:(skip+(A.elems.length - skip+ys.length))*A.sz<=(skip+n)*A.sz:=am _ (by omega);rw[ax,ax (A.elems.length - skip)]at br;have ae:vs.toList.length=vs.size:=by simp
         obtain⟨t1,t2⟩:=A8 (A':=⟨A.sz,A.elems.drop skip++ys,ver+1,bif st1 then 1 else A.st⟩) (loc:=some (blk,O+skip*A.sz,e')) Q W ap q6.os q6.tape q6.output (cn q6.size.symm)
          (fun b ob hb a0=>q6.jG (fun bi=>hb O e' (bi▸p1)) a0) ado q m (fun _ hh=>by cases hh) (fun R o2 e2 hh=>by
           cases hh;refine⟨.inr ⟨O,e',p1⟩,_,T.cast (by have hz:=length_splice vs.toList (O+skip*A.sz+(A.elems.length - skip)*A.sz) j (by rw[F,ae];omega);simpa using hz.symm),q6.at_,?_,?_,?_⟩
           ·show O+skip*A.sz+(A.elems.drop skip++ys).length*A.sz<=e'
            omega
           ·rw[bp,length_splice _ _ _ (by rw[F,ae];omega),ae];exact p4
           ·show aV w _ ((((splice vs.toList (O+skip*A.sz+(A.elems.length - skip)*A.sz) j).toArray).toList.drop (O+skip*A.sz)).take ((A.elems.drop skip++ys).length*A.sz)) (flat (A.elems.drop skip++ys))
            rw[List.toList_toArray,tZ _ _ _ _ (by omega) (by rw[ae];omega),aE,xg];have e1:(splice (vs.toList.drop (O+skip*A.sz)) ((A.elems.length - skip)*A.sz) j).take ((A.elems.drop skip++ys).length*A.sz)=(vs.toList.drop (O+skip*A.sz)).take ((A.elems.length - skip)*A.sz)++j:=by
             unfold splice;refine cE ?_;rw[ce,cv,bR,apn,F,ae];omega
            rw[e1];exact(row_drop az p5).append n3)
         refine⟨_,_,_,hK,t1,t2, .tsl ao fun B D=> ?_⟩;have l:=J D;subst l;refine⟨S _,fun _=>⟨_,hE _,aM _, .inl ⟨n,?_,?_,?_⟩⟩⟩
         ·simp[p6]
         ·simpa using q1
         ·simp only[a8];rw[bs,<-ax];exact p7
        ·rw[t q3]
         have Z:(A.elems.drop skip++ys).length=A.elems.length - skip+ys.length:=by simp
         obtain⟨t1,t2⟩:=A8 (A':=⟨A.sz,A.elems.drop skip++ys,ver+1,bif st1 then 1 else A.st⟩) (loc:=some (w.heap.size,0,cap*A.sz)) Q W ap q5.os q5.tape q5.output q5.size
          (fun b ob _ a0=>q5.jG a0) ado q m (fun _ hh=>by cases hh) (fun R o2 e2 hh=>by
           cases hh;refine⟨.inl (S _),_, .zero _ _,q6,?_,?_,av o3 N⟩
           ·show 0+(A.elems.drop skip++ys).length*A.sz<=cap*A.sz
            rw[a8,Z];exact am _ q4
           ·rw[bp,q7];exact S _)
         refine⟨_,_,_,hK,t1,t2, .tsl ao fun B D=> ?_⟩;have l:=J D;subst l;refine⟨S _,fun _=>⟨_,hE _,aM _, .inl ⟨cap,?_,?_,?_⟩⟩⟩
         ·simp
         ·simpa using q4
         ·simp
       ·exact h.elim
      ·exact h.elim
    ·cases hu
   ·cases hu
  ·cases hu
 ·exact h.elim
def YP {argTypes:Array TypeId}(ho:o.op= .call {callee:= .builtin .append,args:=ass,argTypes}):
  (execOp ρ o).run P w=match(Builtin.append_ argTypes o.type (ass.map ρ)).run P w with| .ok r w'=> .ok (.value r) w'| .halt a b=> .halt a b:=by
 simp[execOp,ho,resolve,invoke,builtin];cases(Builtin.append_ argTypes o.type (ass.map ρ)).run P w<;>rfl
def aem {argTypes:Array TypeId}(ho:o.op= .call {callee:= .builtin .append,args:=ass,argTypes}){args:List PV}(y:Sim C X w M E)(u:aQ w (away X M E) M E ((opsOf o.op).map ρ) args)
  (f:aN C.P (.call {callee:= .builtin .append,args:=ass,argTypes}) (.Ya sz)=true){base:Nat}(h:au C base (.Ya sz) args M K KP):fB C X w M E K KP ((execOp ρ o).run C.P w):=by
 have f:∀b,aN C.P (.call {callee:= .builtin .append,args:=ass,argTypes}) (.app sz b)=true:=fun b=>by simp only[aN]at f⊢;exact f
 rcases args with _|⟨s,_|⟨x,_|⟨z,l⟩⟩⟩
 ·exact h.elim
 ·exact h.elim
 case cons.cons.cons=>exact h.elim
 change Qy sz s x M K at h
 unfold Qy at h
 split at h
 case h_2=>exact h.elim
 rename_i ys g
 cases c:ys.isEmpty
 ·rw[c]at h
  have j:ys≠[]:=fun e=>by rw[e]at c;cases c
  refine Lc (st1:=true) (base:=0) ho y u (f _) ?_;simp only[au,kL,g];exact⟨h.1,h.2.1,fun _=>j,trivial,fun _ h=>(by cases h),by simpa using h.2.2.1,h.2.2.2⟩
 ·rw[c]at h
  rw[ct]at c;subst c;have h2:au C 0 (.app sz false) [.d (.slice true []),x] M (fun v N=>(∃n,v= .tsl n 0 0/\N.aC[n]?=some (some ⟨sz,[],0,0⟩))/\K (.d (.slice false [])) N) KP:=by
   simp only[au,kL,g];exact⟨h.1,h.2.1,fun e=>(by cases e),trivial,fun _ h=>(by cases h),by simp,⟨_,rfl,by simp⟩,h.2.2.2⟩
  have i:=Lc (st1:=false) ho y u (f _) h2;rw[YP ho]at i⊢;cases B:(Builtin.append_ argTypes o.type (ass.map ρ)).run C.P w with
  |ok r w'=>
   rw[B]at i;obtain⟨p,D,E',⟨⟨n,rfl,H⟩,F⟩,J,L,O⟩:=i;refine⟨_,D,E',F,J,L, .d ?_⟩;cases O with
   |tsl G hh=>
    obtain⟨m,T,U,t⟩:=(hh _ H).2 rfl;cases m with
    |none=>
     simp only[List.drop_nil]at t;cases t with
     |empty I=>exact .empty (fun e=>by cases e)
     |slice Q ho A S R I hh=>
      simp only[cD]at A;subst A;exact .empty (fun e=>by cases e)
    |some q=>
     rcases t with⟨cap,k,_⟩|⟨_,a,k⟩
     ·cases k;exact .empty (fun e=>by cases e)
     ·cases k;exact .empty (fun e=>by cases e)
  |halt a b=>
   rw[B]at i;cases a<;>exact i
def fB.frz {r:Result Next}(h:fB C X w M E (fun v M'=>∃d,datum M' v=some d/\K (.d d) (M'.frz [v])) KP r):fB C X w M E K KP r:=by
 cases r with
 |ok n w'=>
  cases n with
  |value v=>
   obtain⟨pv,M',E',⟨d,hd,i⟩,h1,h2,j⟩:=h;exact⟨_,_,E',i,mP h1 [pv],h2.trans (mX [pv] w'), .d (jB (ps:=[pv]) h1 j hd (by simp))⟩
  |skip=>
   obtain⟨M',E',⟨d,hd,i⟩,_⟩:=h;simp[datum]at hd
  |enter f a=>
   obtain⟨e,B,p,o⟩:=h;refine⟨e,B,fun y D s k A z=>(p y D s k A z).mono fun m q g=> ?_,o⟩;cases m with
   |returned v=>
    obtain⟨pv,M',E',⟨d,hd,i⟩,h1,h2,j⟩:=g;exact⟨_,_,E',i,mP h1 [pv],h2.trans (mX [pv] q), .d (jB (ps:=[pv]) h1 j hd (by simp))⟩
   |panicked c=>exact g
   |outgrown=>exact g
  |round l f t a b=>
   obtain⟨e,o⟩:=h;refine⟨e,o.mono fun m q g=> ?_⟩;cases m with
   |returned v=>
    obtain⟨pv,M',E',⟨d,hd,i⟩,h1,h2,j⟩:=g;exact⟨_,_,E',i,mP h1 [pv],h2.trans (mX [pv] q), .d (jB (ps:=[pv]) h1 j hd (by simp))⟩
   |panicked c=>exact g
   |outgrown=>exact g
  | _=>exact h.elim
 |halt x w'=>
  cases x with
  |panic u=>exact h
  | _=>exact h.elim
def ael {argTypes:Array TypeId}(ho:o.op= .call {callee:= .builtin .append,args:=ass,argTypes}){args:List PV}(g:Sim C X w M E)(f:aQ w (away X M E) M E ((opsOf o.op).map ρ) args)
  (b:aN C.P (.call {callee:= .builtin .append,args:=ass,argTypes}) (.QM sz)=true){base:Nat}(h:au C base (.QM sz) args M K KP):fB C X w M E K KP ((execOp ρ o).run C.P w):=by
 have a:aN C.P (.call {callee:= .builtin .append,args:=ass,argTypes}) (.app sz false)=true:=b;have e:au C base (.app sz false) args M (fun v c=>∃d,datum c v=some d/\K (.d d) (c.frz [v])) KP:=h;exact fB.frz (Lc ho g f a e)
end
variable{w w':World}{O O':Nat->Prop}
def U6:∀{cs:List DV} {vs:List Value},(cs.all fun| .int _ _=>true| .bool _=>true| .str _=>true| _=>false)=true->aV w O vs cs->aV w' O' vs cs:=by
 intro cs
 induction cs with
 |nil=>intro vs _ h;cases h;exact .nil
 |cons c cs d=>
  intro vs h b;cases b with
  |cons h1 t=>
   simp only[aR,H]at h;refine .cons ?_ (d h.2 t);have a:=h.1;cases h1<;>first|exact .int _ _|exact .bool _|exact .str _|(simp at a)
def afe:∀{cs:List DV} {vs:List Value},(cs.all fun| .int _ _=>true| .bool _=>true| .str _=>true| .agg cs=>(cs.all fun| .int _ _=>true| .bool _=>true| .str _=>true| _=>false)| _=>false)=true->
  aV w O vs cs->aV w' O' vs cs:=by
 intro cs
 induction cs with
 |nil=>intro vs _ h;cases h;exact .nil
 |cons c cs d=>
  intro vs h b;cases b with
  |cons h1 t=>
   simp only[aR,H]at h;refine .cons ?_ (d h.2 t);have a:=h.1;cases h1<;>first|exact .int _ _|exact .bool _|exact .str _|(rename_i hh;exact .agg (U6 a hh))|(simp at a)
def Ry {v:Value}{x:DV}(h:yw x=true)(a:bK w O v x):bK w' O' v x:=by
 cases a with
 |int k n=>exact .int _ _
 |bool b=>exact .bool _
 |str s=>exact .str _
 |nilPtr=>exact .nilPtr
 |nilIface=>exact .nilIface
 |nilFunc=>exact .nilFunc
 |agg hh=>exact .agg (U6 h hh)
 |tup hh=>exact .tup (afe h hh)
 | _=>simp[yw]at h
section
variable {C:Ctx}{X:Nat->Prop}{w w':World}{M:Mem}{E E':Emb}{K:PV->Mem->Prop}{KP:DV->Mem->Prop}{O:Nat->Prop}
variable{P:Program}{f:FuncId}
def uU {args:Array Value}(h:callable P f=true)(w:World):(callFunc f args).run P w= .ok (.enter f args) w:=by
 unfold callable at h
 split at h
 ·rename_i fn a
  simp only[H,ae]at h;obtain⟨h1,h2⟩:=h;have b:fn.body.isNone=false:=by cases c:fn.body<;>simp_all
  simp only[callFunc,Sem.run_bind,run_program,Result.andThen_ok,a,h2,b,an,if_false,Sem.run_pure]
 ·cases h
variable{args:List PV}
def aac {base:Nat}(h:au C base (.KX f) args M K KP):SC C f args M K KP:=by
 obtain⟨p,m,h1,h2⟩:=h;intro X w E a l k;refine(h1 X w E a l k).mono fun e w' b=> ?_
 cases e with
 |returned v=>
  obtain⟨q,j,i,⟨rfl,rfl⟩,g⟩:=b;exact⟨_,_,i,h2,g⟩
 |panicked c=>
  obtain⟨v,d,j,i,_,hh,_⟩:=b;exact hh.elim
 |outgrown=>exact b.elim
variable{ρ:Operand->Value}{o:Oper}
def zy {argTypes:Array TypeId}{ass:Array Operand}(ho:o.op= .call {callee:= .value (.func f),args:=ass,argTypes})(d:ρ (.func f)= .func (.func f) #[] #[])
  {args:List PV}(c:aQ w (away X M E) M E ((opsOf o.op).map ρ) args)(b:callable C.P f=true)(h:SC C f args M K KP):fB C X w M E K KP ((execOp ρ o).run C.P w):=by
 simp only[ho,opsOf]at c;have a:(execOp ρ o).run C.P w= .ok (.enter f (ass.map ρ)) w:=by
  simp[execOp,ho,resolve,d,Deferred.ofValue,invoke,uU b]
 rw[a];exact⟨rfl,args,h,by simpa using c⟩
def aaS {t:Tmp}{argTypes:Array TypeId}{ass:Array Operand}(ho:o.op= .call {callee:= .value (.tmp t),args:=ass,argTypes})(r:Sim C X w M E)
  {args:List PV}(k:aQ w (away X M E) M E ((opsOf o.op).map ρ) args){base:Nat}(h:au C base .dQ args M K KP):fB C X w M E K KP ((execOp ρ o).run C.P w):=by
 simp only[ho,opsOf,I]at k;simp only[au]at h;have i:∀{f:FuncId} {F G:Array Value},ρ (.tmp t)= .func (.func f) F G->callable C.P f=true->(execOp ρ o).run C.P w= .ok (.enter f (F++ass.map ρ++G)) w:=by
  intro f F G u c;simp[execOp,ho,resolve,u,Deferred.ofValue,invoke,uU c]
 split at h
 ·rename_i f fs cs p
  obtain⟨c,h⟩:=h;cases k with
  |cons h1 h2=>
   have hd:=h1.toD;generalize g:ρ (.tmp t)=v at hd;cases hd with
   |func m l=>
    rw[i g c];refine⟨rfl,_,h,?_⟩;have:=((aQ.ofD (M:=M) (E:=E) m).append h2).append (aQ.ofD (M:=M) (E:=E) l)
    simpa using this
 ·rename_i f fs cs p
  obtain⟨c,h⟩:=h;cases k with
  |cons h1 h2=>
   generalize g:ρ (.tmp t)=v at h1;cases h1 with
   |func m l=>
    rw[i g c];refine⟨rfl,_,h,?_⟩;have:=(m.append h2).append l
    simpa using this
 ·rename_i b p
  cases k with
  |cons h1 h2=>
   generalize g:ρ (.tmp t)=v at h1;cases h1 with
   |mV y s x=>
    rename_i blk cs
    obtain⟨fn,j,a,d,n,q⟩:=h X w E _ blk r h2 s;have e:(execOp ρ o).run C.P w= .ok (.round blk fn j a d) w:=by
     rw[show(ass.toList.map ρ).toArray=ass.map ρ by rw[<-bN]]at n;simp[execOp,ho,resolve,g,Deferred.ofValue,invoke];exact n
    rw[e];exact⟨rfl,q⟩
 ·exact h.elim
variable{a:Option Addr}
def run_equalIn_slice_nil {t e:TypeId}{n cap:Nat}(b:P.underlying t=some (.slice e))(w:World)(d:Nat):(Op.equalIn (d+1) t (.slice a n cap) (.slice none 0 0)).run P w= .ok a.isNone w:=by
 cases a<;>simp only[Op.equalIn,Sem.run_bind,run_underlying b,Result.andThen_ok,Sem.run_pure,cg,ch]
def run_equal_slice_nil {t e:TypeId}{n cap:Nat}(b:P.underlying t=some (.slice e))(w:World):(Op.equal t (.slice a n cap) (.slice none 0 0)).run P w= .ok a.isNone w:=run_equalIn_slice_nil b w 9999
variable{op:BinOp}{x y:Operand}
def Nl {t:TypeId}{n cap:Nat}{v:Value}(w:World):(eqGuard op t x y (.slice a n cap) v).run P w= .ok () w:=by
 unfold eqGuard;simp<;>split<;>simp
def aaU {neq:Bool}{t u:TypeId}(ho:o.op= .binOp op t x y u)(m:∀v,ρ (.const v)=v){args:List PV}(q:Sim C X w M E)(p:aQ w (away X M E) M E ((opsOf o.op).map ρ) args)
  (f:aN C.P (.binOp op t x y u) (.isNil neq)=true){base:Nat}(h:au C base (.isNil neq) args M K KP):fB C X w M E K KP ((execOp ρ o).run C.P w):=by
 simp only[aN,H]at f;obtain⟨⟨b,i⟩,A⟩:=f
 split at i
 ·rename_i e k
  split at A
  ·simp only[ho,opsOf,I,W,m]at p
   simp only[au]at h
   split at h
   ·rename_i ex xs
    obtain⟨v,G,r,D,F⟩:=dZ p;simp only[List.cons.injEq,and_true]at r;obtain⟨rfl,_⟩:=r;obtain⟨a,cap,z,_,_,j⟩:=D.toD.KO;have c:=run_equal_slice_nil (P:=C.P) (a:=a) (n:=xs.length) (cap:=cap) k w;have s:=Nl (P:=C.P) (op:=op) (t:=t) (x:=x) (y:= .const (.slice none 0 0)) (a:=a) (n:=xs.length) (cap:=cap) (v:= .slice none 0 0) w;have g:(execOp ρ o).run C.P w= .ok (.value (.bool (a.isNone !=neq))) w:=by
     cases op<;>simp only[ae,an]at b
     ·subst b
      simp only[execOp,ho,Sem.run_bind,m,z,s,Result.andThen_ok,binOp,c,Sem.run_pure];simp
     ·subst b
      simp only[execOp,ho,Sem.run_bind,m,z,s,Result.andThen_ok,binOp,c,Sem.run_pure];simp
    rw[g]
    by_cases l:xs=[]
    ·exact .same q (h.2 l _) (.d (.bool _))
    ·have B:a.isNone=false:=by
      rcases j with hh|⟨_,_,_,_,_,_,rfl,_⟩
      ·exact absurd hh l
      ·rfl
     rw[B];exact .same q (by simpa using h.1 l) (.d (.bool _))
   ·exact h.elim
  ·cases A
 ·cases i
def From.BJ {M':Mem}(h:From w bG ⟨[],[]⟩ w' M' E'):Later w w':=
 ⟨h.os,h.tape,h.output,h.size,fun b c=>by
  obtain⟨o,a⟩:∃o,w.heap[b]?=some o:=⟨_,Array.getElem?_eq_getElem c⟩
  rw[a,h.keep b o (by rintro(⟨i,cs,h1,_⟩|⟨k,A,o,e,h1,_⟩)<;>simp[bG]at h1) a]⟩
variable{ass:List Arr}
def SL {b:Nat}(hl:E.ar.length=M.aC.length):
  owned {M with aC:=M.aC++ass.map some} {E with ar:=E.ar++E'.ar} b↔(owned M E b\/owned (rowsOf ass) E' b):=by
 constructor
 ·rintro(hh|⟨k,A,o,e,h1,h2,a⟩)
  ·exact .inl (.inl hh)
  ·by_cases c:k<M.aC.length
   ·simp only[Z c]at h1
    simp only[Z (hl▸c)]at a;exact .inl (.inr ⟨k,A,o,e,h1,h2,a⟩)
   ·simp only[Y (bS c)]at h1
    simp only[Y (hl▸bS c)]at a;exact .inr (.inr ⟨k - M.aC.length,A,o,e,h1,h2,hl▸a⟩)
 ·rintro((hh|⟨k,A,o,e,h1,h2,a⟩)|(⟨i,cs,h1,_⟩|⟨k,A,o,e,h1,h2,a⟩))
  ·exact .inl hh
  ·have c:k<M.aC.length:=(V.1 h1).1
   exact .inr ⟨k,A,o,e,by simp only[Z c];exact h1,h2,by simp only[Z (hl▸c)];exact a⟩
  ·simp[rowsOf]at h1
  ·refine .inr ⟨M.aC.length+k,A,o,e,?_,h2,?_⟩
   ·simp only[Y (cz _ _),aE];exact h1
   ·have:E.ar.length<=M.aC.length+k:=by omega
    simp only[Y this,hl,aE];exact a
def Io (h:Sim C X w M E)(h':Sim C (away X M E) w' (rowsOf ass) E')(hf:From w bG ⟨[],[]⟩ w' (rowsOf ass) E')(x:∀A∈ass,A.st≠2):
  Sim C X w' {M with aC:=M.aC++ass.map some} {E with ar:=E.ar++E'.ar}/\From w M E w' {M with aC:=M.aC++ass.map some} {E with ar:=E.ar++E'.ar}/\
  (∀b,away X {M with aC:=M.aC++ass.map some} {E with ar:=E.ar++E'.ar} b↔away (away X M E) (rowsOf ass) E' b):=by
 have q:=h.bC;have D:=hf.BJ;have n:∀b,away X {M with aC:=M.aC++ass.map some} {E with ar:=E.ar++E'.ar} b↔away (away X M E) (rowsOf ass) E' b:=by
  intro b;simp only[away,SL q,or_assoc]
 have m:∀b,¬owned bG ⟨[],[]⟩ b:=by
  rintro b (⟨i,cs,h1,_⟩|⟨k,A,o,e,h1,_⟩)<;>simp[bG]at h1
 have p:∀b,owned (rowsOf ass) E' b->w.heap.size<=b:=fun b hb=>(hf.own b hb).resolve_left (m b)
 have t:From w M E w' {M with aC:=M.aC++ass.map some} {E with ar:=E.ar++E'.ar}:=
  {os:=hf.os,tape:=hf.tape,output:=hf.output,size:=hf.size
   keep:=fun b o _ u=>hf.keep b o (m b) u
   own:=fun b hb=>((SL q).1 hb).imp id (p b)
   iE:=S _
   bx:=fun b cs hb=>⟨rfl,cs,hb,rfl⟩
   bC:=by simp
   ar:=fun k r f hA=>by
    simp only[Z f]at hA;exact⟨r,hA,S _,fun _=>⟨by simp only[Z (q▸f)],rfl,rfl,fun _=>rfl⟩⟩}
 have a:∀(k:Nat) (A:Arr),(M.aC++ass.map some)[k]?=some (some A)->(k<M.aC.length/\M.aC[k]?=some (some A)/\(E.ar++E'.ar)[k]?=E.ar[k]?)\/
   (M.aC.length<=k/\(rowsOf ass).aC[k - M.aC.length]?=some (some A)/\A∈ass/\(E.ar++E'.ar)[k]?=E'.ar[k - M.aC.length]?):=by
  intro k A hA
  by_cases f:k<M.aC.length
  ·rw[Z f]at hA
   exact .inl ⟨f,hA,Z (q▸f)⟩
  ·have l:=bS f
   rw[Y l]at hA;refine .inr ⟨l,hA,?_,?_⟩
   ·have:=bt hA
    simpa using this
   ·rw[Y (q▸l),q]
 have ah2:∀(k:Nat) (A:Arr) (blk o e:Nat),(rowsOf ass).aC[k]?=some (some A)->A∈ass->E'.ar[k]?=some (some (blk,o,e))->w.heap.size<=blk:=fun k A blk o e h1 h2 h3=>
  p blk (.inr ⟨k,A,o,e,h1,x A h2,h3⟩)
 refine⟨?_,t,n⟩;exact
  {glob:=h'.glob
   iF:=h.iF
   xlt:=fun b hb=>cf (h.xlt b hb) hf.size
   iE:=h.iE
   bC:=by
    have:=h'.bC;simp[rowsOf]at this;simp[q,this]
   box:=fun b cs hb=>by
    obtain⟨blk,h1,h2,h3⟩:=h.box b cs hb;exact⟨blk,h1,h2,h3.from t fun _ u=>D.jG u⟩
   arr:=fun k A hA=>by
    rcases a k A hA with⟨f,hA',d⟩|⟨f,hA',hm,d⟩
    ·obtain⟨h1,h2,h3,c⟩:=h.arr k A hA'
     refine⟨h1,h2,fun v=>by rw[d];exact h3 v,fun blk o e j=> ?_⟩;simp only[d]at j;obtain⟨z,vs,T,q2,q3,q4,B⟩:=c blk o e j;exact⟨z,vs,T,D.jG q2,q3,q4,B.from t⟩
    ·obtain⟨h1,h2,h3,c⟩:=h'.arr _ A hA'
     refine⟨h1,h2,fun v=>by rw[d];exact h3 v,fun blk o e j=> ?_⟩;simp only[d]at j;obtain⟨z,vs,T,q2,q3,q4,B⟩:=c blk o e j;exact⟨fun G=>z (.inl G),vs,T,q2,q3,q4,B.weaken fun b hb=>(n b).1 hb⟩
   bb:=h.bb
   aa:=fun k F A r blk o e y s h1 h2 h3 c=>by
    rcases a k A h1 with⟨f,hA,d⟩|⟨f,hA,hm,d⟩<;>rcases a F r h2 with⟨l,hA',g⟩|⟨l,hA',hm',g⟩
    ·simp only[d]at h3;simp only[g]at c
     exact h.aa k F A r blk o e y s hA hA' h3 c
    ·simp only[d]at h3;simp only[g]at c
     exact absurd (h.Ei hA h3) (by have:=ah2 _ r blk y s hA' hm' c;omega)
    ·simp only[d]at h3;simp only[g]at c
     exact absurd (h.Ei hA' c) (by have:=ah2 _ A blk o e hA hm h3;omega)
    ·simp only[d]at h3;simp only[g]at c
     have:=h'.aa _ _ A r blk o e y s hA hA' h3 c;omega
   ba:=fun b k cs A blk o e h1 h2 h3 c=>by
    rcases a k A h2 with⟨f,hA,d⟩|⟨f,hA,hm,d⟩
    ·simp only[d]at c;exact h.ba b k cs A blk o e h1 hA h3 c
    ·simp only[d]at c
     exact absurd (h.Gq h1 h3) (by have:=ah2 _ A blk o e hA hm c;omega)}
def KJ {O O':Nat->Prop}(hl:E.ar.length=M.aC.length)(j:∀b,O' b->O b){v:Value}{p:PV}(h:Rep w O (rowsOf ass) E' v p):
  Rep w O' {M with aC:=M.aC++ass.map some} {E with ar:=E.ar++E'.ar} v (jw M.aC.length p):=by
 cases h with
 |d h=>exact .d (h.weaken j)
 |tsl f hh=>
  rename_i k ver skip len cap a
  refine .tsl (by simp[rowsOf]at f⊢;omega) fun A i=> ?_
  have e:(rowsOf ass).aC[k]?=some (some A):=by
   rw[Y (cz _ _),aE]at i;exact i
  obtain⟨l,m⟩:=hh A e;refine⟨l,fun r=> ?_⟩;obtain⟨c,n,o,g⟩:=m r;refine⟨c,?_,o,?_⟩
  ·have:E.ar.length<=M.aC.length+k:=by omega
   simp only[Y this,hl,aE];exact n
  ·cases c with
   |none=>exact bK.weaken j g
   |some q=>exact g
 | _=>exact .dead
def Ii {O O':Nat->Prop}{ass:List Arr}(hl:E.ar.length=M.aC.length)(a:∀b,O' b->O b):∀{vs:List Value} {ps:List PV},aQ w O (rowsOf ass) E' vs ps->
  aQ w O' {M with aC:=M.aC++ass.map some} {E with ar:=E.ar++E'.ar} vs (ps.map (jw M.aC.length))
 | _,_, .nil=> .nil
 | _,_, .cons h t=> .cons (KJ hl a h) (Ii hl a t)
def acE {O O':Nat->Prop}(hl:E.ar.length=M.aC.length)(a:∀b,O' b->O b){v:Value}{p:PV}(h:Rep w O (rowsOf ass) E' v p):
  Rep w O' {M with aC:=M.aC++ass.map some} {E with ar:=E.ar++E'.ar} v (TR M.aC.length p):=by
 cases p with
 |agg cs=>cases h with|agg hh=>exact .agg (Ii hl a hh)
 | _=>exact KJ hl a h
def PZ {O O':Nat->Prop}{ass:List Arr}(hl:E.ar.length=M.aC.length)(a:∀b,O' b->O b):∀{vs:List Value} {ps:List PV},aQ w O (rowsOf ass) E' vs ps->
  aQ w O' {M with aC:=M.aC++ass.map some} {E with ar:=E.ar++E'.ar} vs (ps.map (TR M.aC.length))
 | _,_, .nil=> .nil
 | _,_, .cons h t=> .cons (acE hl a h) (PZ hl a t)
def Oz {O O':Nat->Prop}(hl:E.ar.length=M.aC.length)(a:∀b,O' b->O b){v:Value}{p:PV}(h:Rep w O (rowsOf ass) E' v p):
  Rep w O' {M with aC:=M.aC++ass.map some} {E with ar:=E.ar++E'.ar} v (p.shift M.aC.length):=by
 cases p with
 |agg cs=>cases h with|agg hh=>exact .agg (Ii hl a hh)
 |tup cs=>cases h with|tup hh=>exact .tup (PZ hl a hh)
 | _=>exact KJ hl a h
def akY (args:List PV):(M.frz args).aC.length=M.aC.length:=by simp[Mem.frz,Gz]
def wX (h:Nh C f args M K):SC C f args M K KP:=by
 obtain⟨ds,m,r,ass,t,c⟩:=h;intro X w E j g p;have a:=mP g args;have hd:=(rQ g p m (fun q u=>u)).strip;refine(t (away X (M.frz args) E) w j g.glob (fun b i=> .inl (g.iF b i)) (fun b i=>a.wQ i) hd).mono fun e w' s=> ?_
 obtain⟨v,E',rfl,l,k,o⟩:=s
 rcases c with⟨x,rfl,y,rfl,c⟩|⟨n,c⟩
 ·exact⟨_,M,E,c,g.later k.BJ,k.BJ.from M E, .d (Ry y o.toD)⟩
 ·obtain⟨z,A,B⟩:=Io a l k n
  refine⟨_,_,_,c,z,(mX args w).trans A,?_⟩;have:=Oz (M:=M.frz args) (E:=E) a.bC (fun b i=>(B b).1 i) o;rw[akY]at this;exact this
def Nk (h:TI C f args M K):Nh C f args M K:=by
 obtain⟨ds,h1,x,h2,e⟩:=h;have i:=IB h1;subst i;have a:bV M (ds.map .d)=some ds:=by
  clear h1 h2
  induction ds with
  |nil=>rfl
  |cons d ds b=>simp only[I,bV,datum,b]
 have c:M.frz (ds.map .d)=M:=by
  have h1:(ds.map PV.d).flatMap (kK M)=[]:=by
   clear h1 h2 a;induction ds with
   |nil=>rfl
   |cons d ds b=>simp[kK]
  have h2:(ds.map PV.d).flatMap (lg M)=[]:=by
   clear h1 h2 a;induction ds with
   |nil=>rfl
   |cons d ds b=>simp[lg]
  simp only[Mem.frz,h1,h2,Gh,List.foldl_nil,bX]
 refine⟨ds,a,_,_,h2, .inr ⟨(fun A g=>by cases g),?_⟩⟩;rw[c]
 simpa[PV.shift,jw]using e
def XD (h:Nj C f args M K):Nh C f args M K:=by
 obtain⟨ds,h1,x,h2,a,b⟩:=h;exact⟨ds,h1,_,_,h2, .inl ⟨x,rfl,a,rfl,b⟩⟩
end
section
variable {C:Ctx}{X:Nat->Prop}{w w':World}{M:Mem}{E E':Emb}
def abx {O O':Nat->Prop}:∀{cs:List DV} {vs:List Value},cs.all Rq=true->aV w O vs cs->aV w' O' vs cs
 | [],_,_, .nil=> .nil
 |c::cs,_,h, .cons a b=>by
  simp only[aR,H]at h;refine .cons ?_ (abx h.2 b);cases a<;>first|exact .int _ _|exact .bool _|exact .str _|(simp[Rq]at h)
variable{rs:List Arr}{X1:Nat->Prop}
def D7 (d:Sim C X w M E)(h:Sim C X1 w' (rowsOf rs) E')(hf:From w bG ⟨[],[]⟩ w' (rowsOf rs) E')(f:rs.all jP=true):Sim C (away X M E) w' (rowsOf rs) E':=
 {glob:=h.glob,iF:=fun b a=> .inl (d.iF b a),xlt:=fun b a=>cf (d.wQ a) hf.size,iE:=h.iE,bC:=h.bC
  box:=fun b cs a=>by simp[rowsOf]at a
  arr:=fun k A hA=>by
   obtain⟨h1,h2,h3,p⟩:=h.arr k A hA;have q:A∈rs:=by
    simp only[rowsOf,cm]at hA;cases g:rs[k]? with
    |none=>simp[g]at hA
    |some B=>rw[g]at hA;simp at hA;subst hA;exact bt g
   have c:=a1.1 f A q;simp only[jP,H]at c;have hst:A.st≠2:=by
    intro e
    rcases bw.1 c.1 with h|h
    ·rw[e]at h;simp at h
    ·rw[e]at h;simp at h
   refine⟨h1,h2,h3,fun blk o e j=> ?_⟩;obtain⟨s,vs,T,g2,g3,g4,n⟩:=p blk o e j;refine⟨fun a=> ?_,vs,T,g2,g3,g4,abx (by simpa using c.2) n⟩;have l:w.heap.size<=blk:=by
    refine(hf.own blk (.inr ⟨k,A,o,e,hA,hst,j⟩)).resolve_left ?_;rintro(⟨i,cs,h1,_⟩|⟨k,A,o,e,h1,_⟩)<;>simp[bG]at h1
   have:=d.wQ a;omega
  bb:=fun b r cs m blk h1=>by simp[rowsOf]at h1
  aa:=h.aa
  ba:=fun b k cs A blk o e h1=>by simp[rowsOf]at h1}
variable{X2:Nat->Prop}
def KI (h:Sim C X1 w' (rowsOf rs) E')(g:rs.all jP=true){v:Value}{p:PV}(n:Ro p=true)(r:Rep w' (away X1 (rowsOf rs) E') (rowsOf rs) E' v p):Rep w' (away X2 (rowsOf rs) E') (rowsOf rs) E' v p:=by
 cases p with
 |d x=>exact .d (Ry n r.toD)
 |tsl k ver skip=>
  cases r with|tsl j hh=>
  refine .tsl j fun A a=> ?_
  obtain⟨w,y⟩:=hh A a;refine⟨w,fun e=> ?_⟩;obtain⟨c,s,z,f⟩:=y e;refine⟨c,s,z,?_⟩;cases c with
  |some q=>exact f
  |none=>
   have u:A∈rs:=by
    simp only[rowsOf,cm]at a;cases i:rs[k]? with
    |none=>simp[i]at a
    |some B=>rw[i]at a;simp at a;subst a;exact bt i
   have b:=a1.1 g A u;simp only[jP,H]at b
   rcases bw.1 b.1 with h1|h1
   ·simp only[beq_iff_eq]at h1
    obtain⟨q,o⟩:=(h.arr k A a).2.2.1 h1;rw[s]at o;cases o
   ·simp only[H,ct]at h1
    have t:A.elems.drop skip=[]:=by rw[h1.1];simp
    simp only at f⊢;rw[t]at f⊢;cases f with
    |empty l=>exact .empty l
    |slice D F m G E l hh=>
     simp only[cD]at m;subst m;exact .empty l
 | _=>simp[Ro]at n
def Ih {rs:List Arr}{X1 X2:Nat->Prop}(h:Sim C X1 w' (rowsOf rs) E')(a:rs.all jP=true):∀{vs:List Value} {ps:List PV},ps.all Ro=true->aQ w' (away X1 (rowsOf rs) E') (rowsOf rs) E' vs ps->aQ w' (away X2 (rowsOf rs) E') (rowsOf rs) E' vs ps
 | _,_,_, .nil=> .nil
 | _,_,b, .cons c d=>by
  simp only[aR,H]at b;exact .cons (KI h a b.1 c) (Ih h a b.2 d)
def acD (h:Sim C X1 w' (rowsOf rs) E')(a:rs.all jP=true){v:Value}{p:PV}(b:abw p=true)(c:Rep w' (away X1 (rowsOf rs) E') (rowsOf rs) E' v p):Rep w' (away X2 (rowsOf rs) E') (rowsOf rs) E' v p:=by
 cases p with
 |agg cs=>cases c with|agg hh=>exact .agg (Ih h a b hh)
 | _=>exact KI h a b c
def PY {rs:List Arr}{X1 X2:Nat->Prop}(h:Sim C X1 w' (rowsOf rs) E')(a:rs.all jP=true):∀{vs:List Value} {ps:List PV},ps.all abw=true->aQ w' (away X1 (rowsOf rs) E') (rowsOf rs) E' vs ps->aQ w' (away X2 (rowsOf rs) E') (rowsOf rs) E' vs ps
 | _,_,_, .nil=> .nil
 | _,_,b, .cons c d=>by
  simp only[aR,H]at b;exact .cons (acD h a b.1 c) (PY h a b.2 d)
def Ox (h:Sim C X1 w' (rowsOf rs) E')(a:rs.all jP=true){v:Value}{p:PV}(b:Rw p=true)(c:Rep w' (away X1 (rowsOf rs) E') (rowsOf rs) E' v p):Rep w' (away X2 (rowsOf rs) E') (rowsOf rs) E' v p:=by
 cases p with
 |agg cs=>cases c with|agg hh=>exact .agg (Ih h a b hh)
 |tup cs=>cases c with|tup hh=>exact .tup (PY h a b hh)
 | _=>exact KI h a b c
variable{f:FuncId}{args:List PV}
def Z9 {ds ds':List DV}{r:PV}(h:Pure C f ds' r rs)(x:Rw r=true)(c:rs.all jP=true){K:PV->Mem->Prop}{KP:DV->Mem->Prop}
  (l:bV M args=some ds)(m:ds.map DV.strip=ds')(s:K (r.shift M.aC.length) {M with aC:=M.aC++rs.map some}):SC C f args M K KP:=by
 subst m;intro X w E j a p;have k:=mP a args;have hd:=(rQ a p l (fun q u=>u)).strip;refine(h (away X (M.frz args) E) w j a.glob (fun b g=> .inl (a.iF b g)) (fun b g=>k.wQ g) hd).mono fun e w' m=> ?_
 obtain⟨v,E',rfl,d,o,y⟩:=m;have n:∀A∈rs,A.st≠2:=fun A t e=>by
  have i:=a1.1 c A t;simp only[jP,H]at i
  rcases bw.1 i.1 with h|h
  ·rw[e]at h;simp at h
  ·rw[e]at h;simp at h
 obtain⟨z,B,D⟩:=Io a (D7 a d o c) o n;exact⟨_,_,_,s,z,B,Oz a.bC (fun b g=>(D b).1 g) (Ox d c x y)⟩
def aff {O O':Nat->Prop}{v:Value}{x:DV}(h:Rt x=true)(a:bK w O v x):bK w' O' v x:=by
 cases x with
 |iface t d=>
  cases a with
  |iface hh=>
   cases d with
   |agg cs=>cases hh with|agg hh=>exact .iface (.agg (abx h hh))
   | _=>simp[Rt,yw]at h
 | _=>exact Ry h a
def TP {K:PV->Mem->Prop}{KP:DV->Mem->Prop}(h:TJ C f args M K):SC C f args M K KP:=by
 obtain⟨ds,m,r,rs,x,z,D,t⟩:=h;intro X w E j a s;have l:=mP a args;have hd:=(rQ a s m (fun q A=>A)).strip;refine(z (away X (M.frz args) E) w j a.glob (fun b i=> .inl (a.iF b i)) (fun b i=>l.wQ i) hd).mono fun e w' u=> ?_
 obtain⟨v,E',rfl,c,k,p⟩:=u;refine⟨_,M,E,t,a.later k.BJ,k.BJ.from M E, .d ?_⟩
 rcases D with⟨rfl,rfl,y⟩|⟨B,g,n⟩
 ·exact aff y p.toD
 ·have o:=Ox (X2:=away X M E) c g B p
  exact(jB (ps:=[r]) (D7 a c k g) o n (by simp)).weaken fun b i=> .inl i
end
section
variable {C:Ctx}{X:Nat->Prop}{w:World}{M:Mem}{E:Emb}{K:PV->Mem->Prop}{KP:DV->Mem->Prop}{O:Nat->Prop}
variable{P:Program}
def Qe {t:TypeId}{k:Nat}(h:oL (P.underlying t) k=true)(v:Value)(em:Bool)(n:Nat):(Instr.checkKey em (n+1) t v).run P w= .ok () w:=by
 unfold oL at h
 split at h
 ·rename_i a;simp[Instr.checkKey,run_underlying a]
 ·rename_i a;simp[Instr.checkKey,run_underlying a]
 ·rename_i a;simp[Instr.checkKey,run_underlying a]
 ·cases h
def O6 {P:Program}{cs:Array Value}{em:Bool}{n:Nat}:∀{fs:List Field} {ks:List Nat} {off:Nat} {l m:List DV} {t:Bool},eG P fs ks off=true->aV w O (cs.toList.drop off) l->bW ks l m=some t->
  ∀f∈fs,f.name≠ "_" /\∃a,(part f.type cs f.offset).run P w= .ok a w/\(Instr.checkKey em (n+1) f.type a).run P w= .ok () w
 | [],_,_,_,_,_,_,_,_,f,z=>by cases z
 |f::fs,k::ks,off,l,m,t,e,v,c,g,hg=>by
  simp only[eG,H,decide_eq_true_eq]at e;obtain⟨⟨⟨h,s⟩,A⟩,e⟩:=e;have q:∃a i r y,l=a::i/\bW ks i r=some y:=by
   unfold bW at c
   split at c
   ·contradiction
   ·rename_i B E a i F b r d
    cases d
    split at c
    ·rw[J]at c
     obtain⟨t2,h2,_⟩:=c;exact⟨_,_,_,_,rfl,h2⟩
    ·cases c
   ·rename_i d
    cases d;rw[J]at c;obtain⟨t2,h2,_⟩:=c;exact⟨_,_,_,_,rfl,h2⟩
   ·rename_i d
    cases d;rw[J]at c;obtain⟨t2,h2,_⟩:=c;exact⟨_,_,_,_,rfl,h2⟩
   ·cases c
  obtain⟨a,i,r,y,rfl,h2⟩:=q;generalize x:cs.toList.drop off=xl at v;cases v with
  |cons D j=>
   rename_i u C
   have o:cs[off]?=some u:=by
    have:(cs.toList.drop off)[0]?=some u:=by rw[x];rfl
    simpa using this
   have p:cs.toList.drop (off+1)=C:=by
    rw[<-a6,x];rfl
   rcases bL.1 hg with rfl|hg
   ·exact⟨A,u,by rw[h];exact G6 s o,Qe s u em n⟩
   ·exact O6 e (p▸j) h2 g hg
 | _::_,[],_,_,_,_,e,_,_,_,_=>by simp[eG]at e
variable{ks:List Nat}
def yh {key:TypeId}{fs:Array Field}(d:P.underlying key=some (.struct fs))(c:eG P fs.toList ks 0=true){xs:Array Value}{k m:List DV}{t:Bool}(hx:aV w O xs.toList k)(hc:bW ks k m=some t)(em:Bool):
  (Instr.checkKey em 10000 key (.agg xs)).run P w= .ok () w:=by
 have b:=O6 (em:=em) (n:=9998) c (by simpa using hx) hc;rw[show(10000:Nat)=9999+1 from rfl,Instr.checkKey];simp only[Sem.run_bind,run_underlying d,Result.andThen_ok];rw[<-Array.forIn_toList];generalize fs.toList=L at b
 induction L with
 |nil=>simp
 |cons f L h=>
  obtain⟨e,a,i,j⟩:=b f (by simp);simp only[List.forIn_cons,Sem.run_bind,e,ne_eq,not_false_eq_true,if_true,Result.andThen_ok,i,j,Sem.run_pure];exact h (fun y g=>b y (by simp[g]))
def U3 {P:Program}{key:TypeId}{fs:Array Field}{ks:List Nat}(a:P.underlying key=some (.struct fs))(g:eG P fs.toList ks 0=true)(m:P.stoodInHeld key=false){xs:Array Value}{k:List DV}(hx:aV w O xs.toList k):
  ∀(es:List MapEntry) (l:List (DV×DV)) (i:Nat) (r:Option DV),aV w O (es.map (·.key)) (l.map (·.1))->aV w O (es.map (·.val)) (l.map (·.2))->zY ks l k=some r->
  ∃x,(Instr.findAsking key (.agg xs) es i).run P w= .ok x w/\((r=none/\x=none)\/∃dv j v,r=some dv/\x=some (j,v)/\bK w O v dv)
 | [],[],i,r,_,_,h=>by
  simp only[zY,Option.some.injEq]at h;exact⟨none,by simp[Instr.findAsking], .inl ⟨h.symm,rfl⟩⟩
 |e::es,(s,dv)::l,i,r,h1,h2,h=>by
  simp only[I]at h1 h2;cases h1 with
  |cons A p=>cases h2 with
   |cons C q=>
    have o:∃n,s= .agg n:=by cases s<;>first|exact⟨_,rfl⟩|(simp[zY]at h)
    obtain⟨n,rfl⟩:=o;obtain⟨ys,u,D⟩:=A.wP;have d:∀t,bW ks k n=some t->(Op.equal key (.agg xs) e.key).run P w= .ok t w:=by
     intro t B
     show(Op.equalIn 10000 key (.agg xs) e.key).run P w= .ok t w
     have f:P.fieldsOf key=fs:=by simp[Program.fieldsOf,a]
     rw[u,run_equalIn_agg w 9999 key xs ys (by rw[f];exact a) m,f];exact uh 9998 g (by simpa using hx) (by simpa using D) B
    cases c:bW ks k n with
    |none=>simp[zY,c]at h
    |some b=>
     cases b with
     |true=>
      simp only[zY,c,Option.some.injEq]at h;exact⟨some (i,e.val),by simp[Instr.findAsking,d _ c], .inr ⟨_,_,_,h.symm,rfl,C⟩⟩
     |false=>
      simp only[zY,c]at h;obtain⟨x,y,z⟩:=U3 a g m hx es l (i+1) r p q h;exact⟨x,by simp[Instr.findAsking,d _ c,y],z⟩
 | [],_::_,_,_,h1,_,_=>by simp at h1;cases h1
 | _::_,[],_,_,h1,_,_=>by simp at h1;cases h1
variable{ρ:Operand->Value}{o:Oper}{x i:Operand}{c:Bool}{z:DV}
def aaZ {t:TypeId}(ho:o.op= .lookup t x i c){args:List PV}(Q:Sim C X w M E)(O:aQ w (away X M E) M E ((opsOf o.op).map ρ) args)
  (p:aN C.P (.lookup t x i c) (.L6 ks z)=true){base:Nat}(h:au C base (.L6 ks z) args M K KP):fB C X w M E K KP ((execOp ρ o).run C.P w):=by
 simp only[aN,H,ae]at p;obtain⟨rfl,f⟩:=p
 split at f
 ·rename_i L e s
  simp only[H]at f;obtain⟨a,A⟩:=f
  split at a
  ·rename_i fs abJ
   simp only[H,ae]at a;obtain⟨q,D⟩:=a
   split at A
   ·rename_i ac jT
    split at A
    ·rename_i U G
     simp only[ho,opsOf,I,W]at O;simp only[au]at h
     split at h
     ·rename_i l k
      obtain⟨v,u',R,hr,B⟩:=dZ O;simp only[List.cons.injEq,and_true]at R;obtain⟨rfl,rfl⟩:=R
      split at h
      ·rename_i r hc hl
       obtain⟨xs,N,T⟩:=B.toD.wP;have S:=hr.toD;generalize u:ρ x=vv at S;cases S with
       |map Z ab hk hv=>
        rename_i blk es clock
        obtain⟨y,V,Y⟩:=U3 (P:=C.P) abJ q D T es.toList l 0 r hk hv hl;have m:=yh (P:=C.P) abJ q T hc es.isEmpty;have n:(Instr.findKey L (.agg xs) es.toList).run C.P w= .ok y w:=by
         rw[run_findKey_eq (P:=C.P) w (by rw[abJ])];exact V
        have J:(zeroValue e).run C.P w= .ok U w:=by simp[zeroValue,typeInfo,jT,G]
        have g:(getObj blk).run C.P w= .ok (.map es clock) w:=by simp[getObj,Sem.run,Z]
        rcases Y with⟨rfl,rfl⟩|⟨dv,j,v,rfl,rfl,F⟩
        ·have b:(execOp ρ o).run C.P w= .ok (.value U) w:=by
          simp only[execOp,ho,Instr.lookup,Sem.run_bind,run_underlying s,Result.andThen_ok,u,N,g,Sem.run_pure,m,n,J];simp
         rw[b];exact .same Q h (.d (mG A))
        ·have b:(execOp ρ o).run C.P w= .ok (.value v) w:=by
          simp only[execOp,ho,Instr.lookup,Sem.run_bind,run_underlying s,Result.andThen_ok,u,N,g,Sem.run_pure,m,n];simp
         rw[b];exact .same Q h (.d F)
      ·exact h.elim
     ·exact h.elim
    ·cases A
   ·cases A
  ·cases a
 ·cases f
def ag8 {q t p:TypeId}(ho:o.op= .typeAssert x q t c){args:List PV}(l:Sim C X w M E)(k:aQ w (away X M E) M E ((opsOf o.op).map ρ) args)
  (f:aN C.P (.typeAssert x q t c) (.tas p z)=true){base:Nat}(h:au C base (.tas p z) args M K KP):fB C X w M E K KP ((execOp ρ o).run C.P w):=by
 simp only[aN,H,decide_eq_true_eq]at f;obtain⟨⟨⟨rfl,rfl⟩,n⟩,i⟩:=f
 split at i
 ·rename_i A jT
  split at i
  ·rename_i r j
   simp only[ho,opsOf,I,W]at k;simp only[au]at h
   split at h
   ·rename_i t2 d
    obtain⟨v,m,s⟩:=fJ k;simp only[List.cons.injEq,and_true]at m;subst m;have hd:=s.toD;generalize g:ρ x=vv at hd;cases hd with
    |iface u=>
     rename_i v
     have y:(zeroValue t).run C.P w= .ok r w:=by simp[zeroValue,typeInfo,jT,j]
     by_cases e:t2=t
     ·have a:(execOp ρ o).run C.P w= .ok (.value (.tuple #[v, .bool true])) w:=by
       simp only[execOp,ho,Instr.typeAssert,g];cases b:C.P.underlying t with
       |none=>simp[b]at n
       |some d=>cases d<;>simp_all[run_underlying b]
      rw[a];refine .same l h (.d (.tup (.cons ?_ (.cons ?_ .nil))))
      ·rw[if_pos e];exact u
      ·simp only[e,decide_true];exact .bool _
     ·have a:(execOp ρ o).run C.P w= .ok (.value (.tuple #[r, .bool false])) w:=by
       simp only[execOp,ho,Instr.typeAssert,g];cases b:C.P.underlying t with
       |none=>simp[b]at n
       |some d=>cases d<;>simp_all[run_underlying b]
      rw[a];refine .same l h (.d (.tup (.cons ?_ (.cons ?_ .nil))))
      ·rw[if_neg e];exact mG i
      ·simp only[e,decide_false];exact .bool _
   ·exact h.elim
  ·cases i
 ·cases i
structure Put (g:Nat) (w w':World) (o:Obj):Prop where
 os:w'.os=w.os
 tape:w'.tape=w.tape
 output:w'.output=w.output
 size:w'.heap.size=w.heap.size
 at_:w'.heap[g]?=some o
 keep:∀b,b≠g->w'.heap[b]?=w.heap[b]?
def MZ (w:World)(g:Nat)(o:Obj)(h:g<w.heap.size):Put g w {w with heap:=w.heap.setIfInBounds g o} o:={
 os:=rfl
 tape:=rfl
 output:=rfl
 size:=by simp
 at_:=by simp[h]
 keep:=fun b a=>by simp[Array.getElem?_setIfInBounds_ne (Ne.symm a)]}
def Put.jG {g:Nat}{o':Obj}{w w':World}(h:Put g w w' o'){b:Nat}{o:Obj}(hb:b≠g)(ho:w.heap[b]?=some o):w'.heap[b]?=some o:=(h.keep b hb).trans ho
def Nq {w':World}{b blk:Nat}{cs cs':List PV}{o:Obj}(h:Sim C X w M E)(hb:M.boxes[b]?=some (some cs))(y:b∉M.fz)(ho:isObj cs=true)(D:isObj cs'=true)
  (he:E.bx[b]?=some blk)(l:Put blk w w' o)
  (v:From w M E w' {M with boxes:=M.boxes.set b (some cs')} E->nR w' (away X {M with boxes:=M.boxes.set b (some cs')} E) {M with boxes:=M.boxes.set b (some cs')} E blk cs'):
  Sim C X w' {M with boxes:=M.boxes.set b (some cs')} E/\From w M E w' {M with boxes:=M.boxes.set b (some cs')} E:=by
 have z:b<M.boxes.length:=(V.1 hb).1;have q:owned M E blk:= .inl ⟨b,cs,hb,y,he⟩;have hX:¬X blk:=by
  obtain⟨a,h1,h2,_⟩:=h.box b cs hb;rw[he]at h1;cases h1;exact h2
 have d:∀(i:Nat) (c:List PV),(M.boxes.set b (some cs'))[i]?=some (some c)->∃c':List PV,M.boxes[i]?=some (some c'):=by
  intro i c hi
  rcases aO hi with⟨rfl,_⟩|⟨_,g⟩
  ·exact⟨cs,hb⟩
  ·exact⟨c,g⟩
 have r:From w M E w' {M with boxes:=M.boxes.set b (some cs')} E:=
  {os:=l.os,tape:=l.tape,output:=l.output,size:=cn l.size.symm
   keep:=fun i o hi ho=>l.jG (fun e=>hi (e▸q)) ho
   own:=by
    rintro i (⟨j,c,h1,h2,h3⟩|⟨k,A,o,e,h1,h2,h3⟩)
    ·obtain⟨c',h1'⟩:=d j c h1
     exact .inl (.inl ⟨j,c',h1',h2,h3⟩)
    ·exact .inl (.inr ⟨k,A,o,e,h1,h2,h3⟩)
   iE:=by simp
   bx:=fun i c hi=>by
    refine⟨rfl,?_⟩
    by_cases p:i=b
    ·subst p;rw[hb]at hi;cases hi;exact⟨cs',by simp[z],D.trans ho.symm⟩
    ·exact⟨c,by rw[az];simp[Ne.symm p,hi],rfl⟩
   bC:=S _
   ar:=fun _ H _ h=>⟨H,h,S _,fun _=>⟨rfl,rfl,rfl,fun _=>rfl⟩⟩}
 refine⟨?_,r⟩;exact
  {glob:=C.keeps w w' h.glob fun b hb=>l.keep b (fun e=>hX (e▸h.iF b hb)),iF:=h.iF
   xlt:=fun i hi=>by rw[l.size];exact h.xlt i hi
   iE:=by simp[h.iE]
   bC:=h.bC
   box:=fun i c hi=>by
    rcases aO hi with⟨rfl,x⟩|⟨B,g⟩
    ·cases x
     exact⟨blk,he,hX,v r⟩
    ·obtain⟨a,h1,h2,h3⟩:=h.box i c g
     have f:a≠blk:=fun e=>B (h.bb i b c cs blk g hb (e▸h1) he)
     exact⟨a,h1,h2,h3.from r fun _ ho=>l.jG f ho⟩
   arr:=fun k A F=>by
    obtain⟨h1,h2,h3,n⟩:=h.arr k A F;refine⟨h1,h2,h3,fun a o e G=> ?_⟩;obtain⟨K,vs',T',g2,g3,g4,L⟩:=n a o e G;have f:a≠blk:=fun J=>h.ba b k cs A blk o e hb F he (J▸G)
    exact⟨K,vs',T',l.jG f g2,g3,g4,L.from r⟩
   bb:=fun i j m s a h1 h2 h3 n=>by
    obtain⟨t,h1'⟩:=d i m h1;obtain⟨I,u⟩:=d j s h2;exact h.bb i j t I a h1' u h3 n
   aa:=h.aa
   ba:=fun i k m A a o e h1 h2 h3 n=>by
    obtain⟨t,h1'⟩:=d i m h1;exact h.ba i k t A a o e h1' h2 h3 n}
def XH {id:Nat}{o:Obj}{cs:List PV}(h:Sim C X w M E)(hid:M.boxes[id]?=some none)
  (q:From w M E (w.alloc o) {M with boxes:=M.boxes.set id (some cs)} {E with bx:=E.bx.set id w.heap.size}->
   nR (w.alloc o) (away X {M with boxes:=M.boxes.set id (some cs)} {E with bx:=E.bx.set id w.heap.size}) {M with boxes:=M.boxes.set id (some cs)} {E with bx:=E.bx.set id w.heap.size} w.heap.size cs):
  Sim C X (w.alloc o) {M with boxes:=M.boxes.set id (some cs)} {E with bx:=E.bx.set id w.heap.size}/\
  From w M E (w.alloc o) {M with boxes:=M.boxes.set id (some cs)} {E with bx:=E.bx.set id w.heap.size}:=by
 have t:id<M.boxes.length:=(V.1 hid).1;have WL:id<E.bx.length:=h.iE▸t;have c:∀b,b≠id->(E.bx.set id w.heap.size)[b]?=E.bx[b]?:=fun b f=>by rw[az];simp[Ne.symm f]
 have hbi:(E.bx.set id w.heap.size)[id]?=some w.heap.size:=by simp[WL]
 have m:From w M E (w.alloc o) {M with boxes:=M.boxes.set id (some cs)} {E with bx:=E.bx.set id w.heap.size}:=
  {os:=rfl,tape:=rfl,output:=rfl,size:=by simp
   keep:=fun b o _ u=>(Later.alloc w _).jG u
   own:=by
    rintro b (⟨i,cs',h1,h2,h3⟩|⟨k,A,o,e,h1,h2,h3⟩)
    ·rcases aO h1 with⟨rfl,_⟩|⟨a,h1'⟩
     ·rw[hbi]at h3;cases h3;exact .inr (S _)
     ·rw[c i a]at h3;exact .inl (.inl ⟨i,cs',h1',h2,h3⟩)
    ·exact .inl (.inr ⟨k,A,o,e,h1,h2,h3⟩)
   iE:=by simp
   bx:=fun b cs' f=>by
    have a:b≠id:=by rintro rfl;rw[hid]at f;cases f
    exact⟨c b a,cs',by rw[az];simp[Ne.symm a,f],rfl⟩
   bC:=S _
   ar:=fun _ v _ h=>⟨v,h,S _,fun _=>⟨rfl,rfl,rfl,fun _=>rfl⟩⟩}
 refine⟨?_,m⟩;exact
  {glob:=C.keeps w _ h.glob fun b f=>(Later.alloc w _).keep b (h.xlt b (h.iF b f)),iF:=h.iF
   xlt:=fun b f=>by have:=h.xlt b f;simp;omega
   iE:=by simp[h.iE]
   bC:=h.bC
   box:=fun b cs' f=>by
    rcases aO f with⟨rfl,s⟩|⟨a,r⟩
    ·cases s
     exact⟨w.heap.size,hbi,fun D=>absurd (h.xlt _ D) (by omega),q m⟩
    ·obtain⟨blk,h1,h2,h3⟩:=h.box b cs' r
     exact⟨blk,(c b a).trans h1,h2,h3.from m fun _ u=>(Later.alloc w _).jG u⟩
   arr:=fun k A z=>by
    obtain⟨h1,h2,h3,d⟩:=h.arr k A z;refine⟨h1,h2,h3,fun blk o e B=> ?_⟩;obtain⟨x,vs,T,g2,g3,g4,y⟩:=d blk o e B;exact⟨x,vs,T,(Later.alloc w _).jG g2,g3,g4,y.from m⟩
   bb:=fun b n j p blk h1 h2 h3 d=>by
    rcases aO h1 with⟨rfl,_⟩|⟨a,h1'⟩<;>rcases aO h2 with⟨rfl,_⟩|⟨g,l⟩
    ·rfl
    ·rw[hbi]at h3;cases h3;rw[c n g]at d;exact absurd (h.Gq l d) (by omega)
    ·rw[hbi]at d;cases d;rw[c b a]at h3;exact absurd (h.Gq h1' h3) (by omega)
    ·rw[c b a]at h3;rw[c n g]at d;exact h.bb b n j p blk h1' l h3 d
   aa:=h.aa
   ba:=fun b k j A blk o e h1 h2 h3 d=>by
    rcases aO h1 with⟨rfl,_⟩|⟨a,h1'⟩
    ·rw[hbi]at h3;cases h3;exact absurd (h.Ei h2 d) (by omega)
    ·rw[c b a]at h3;exact h.ba b k j A blk o e h1' h2 h3 d}
def aaW {t:TypeId}{i:Nat}(ho:o.op= .makeMap t none){args:List PV}(c:Sim C X w M E)
  {base:Nat}(h:au C base (.mkMap i) args M K KP):fB C X w M E K KP ((execOp ρ o).run C.P w):=by
 simp only[au]at h
 split at h
 ·obtain⟨h1,h2⟩:=h
  have a:base+i<M.boxes.length:=(V.1 h1).1;have WL:base+i<E.bx.length:=c.iE▸a;have b:(execOp ρ o).run C.P w= .ok (.value (.map (some w.heap.size))) (w.alloc (.map #[] 0)):=by
   simp only[execOp,ho,bc];rfl
  rw[b];obtain⟨d,e⟩:=XH (o:= .map #[] 0) (cs:=[.iO []]) c h1 fun _=>⟨#[],0,heap_alloc_new w _, .nil, .nil⟩
  exact⟨_,_,_,h2,d,e, .mref (cs:=[.iO []]) (by simp[a]) (by simp[WL]) rfl⟩
 ·exact h.elim
def Rl {P:Program}{key:TypeId}{fs:Array Field}{ks:List Nat}(a:P.underlying key=some (.struct fs))(g:eG P fs.toList ks 0=true)(m:P.stoodInHeld key=false){xs:Array Value}{k:List DV}(hx:aV w O xs.toList k){v:DV}:
  ∀(es:List MapEntry) (l n:List (DV×DV)) (i:Nat),aV w O (es.map (·.key)) (l.map (·.1))->aV w O (es.map (·.val)) (l.map (·.2))->Dv ks l k v=some n->
  ∃x,(Instr.findAsking key (.agg xs) es i).run P w= .ok x w/\((x=none/\n=l++ [(.agg k,v)])\/
   ∃j u k' e,x=some (i+j,u)/\es[j]?=some e/\j<l.length/\bK w O e.key (.agg k')/\bW ks k k'=some true/\n=l.set j (.agg k,v))
 | [],[],n,i,_,_,h=>by
  simp only[Dv,Option.some.injEq]at h;subst h;exact⟨none,by simp[Instr.findAsking], .inl ⟨rfl,rfl⟩⟩
 |e::es,(r,dv)::l,n,i,h1,h2,h=>by
  simp only[I]at h1 h2;cases h1 with
  |cons s p=>cases h2 with
   |cons L q=>
    have o:∃k',r= .agg k':=by cases r<;>first|exact⟨_,rfl⟩|(simp[Dv]at h)
    obtain⟨k',rfl⟩:=o;obtain⟨ys,z,E⟩:=s.wP;have d:∀t,bW ks k k'=some t->(Op.equal key (.agg xs) e.key).run P w= .ok t w:=by
     intro t D
     show(Op.equalIn 10000 key (.agg xs) e.key).run P w= .ok t w
     have f:P.fieldsOf key=fs:=by simp[Program.fieldsOf,a]
     rw[z,run_equalIn_agg w 9999 key xs ys (by rw[f];exact a) m,f];exact uh 9998 g (by simpa using hx) (by simpa using E) D
    cases c:bW ks k k' with
    |none=>simp[Dv,c]at h
    |some b=>
     cases b with
     |true=>
      simp only[Dv,c,Option.some.injEq]at h;exact⟨some (i,e.val),by simp[Instr.findAsking,d _ c], .inr ⟨0,e.val,k',e,rfl,rfl,by simp,s,c,h.symm⟩⟩
     |false=>
      simp only[Dv,c,J]at h;obtain⟨l2,C,rfl⟩:=h;obtain⟨x,A,B⟩:=Rl a g m hx es l l2 (i+1) p q C;refine⟨x,by simp[Instr.findAsking,d _ c,A],?_⟩
      rcases B with⟨rfl,rfl⟩|⟨j,u,F,y,rfl,G,M,H,K,rfl⟩
      ·exact .inl ⟨rfl,rfl⟩
      ·exact .inr ⟨j+1,u,F,y,by simp;omega,by simpa using G,by simp;omega,H,K,rfl⟩
 | [],_::_,_,_,h1,_,_=>by simp at h1;cases h1
 | _::_,[],_,_,h1,_,_=>by simp at h1;cases h1
def QO:∀{vs q:List Value} {k k':List DV},aV w O vs k->aV w O q k'->bW ks k k'=some true->vs.length=q.length/\((q.zip vs).all fun(x,y)=>Instr.sameBits 9999 x y)=true:=by
 induction ks with
 |nil=>
  intro vs q k k' h1 h2 h;cases h1 with
  |nil=>cases h2 with
   |nil=>exact⟨rfl,rfl⟩
   |cons _ _=>simp[bW]at h
  |cons _ _=>simp[bW]at h
 |cons a ks s=>
  intro vs q k k' h1 h2 h;unfold bW at h
  split at h
  ·contradiction
  ·rename_i j C n l D m v c
   cases c;cases h1 with
   |cons i h1=>cases h2 with
    |cons g h2=>
     split at h
     ·rename_i B
      subst B;rw[J]at h;obtain⟨t,f,e⟩:=h;simp only[H,beq_iff_eq]at e;obtain⟨rfl,rfl⟩:=e;obtain⟨o,p⟩:=s h1 h2 f;rw[i.fO,g.fO];exact⟨by simp[o],by simp only[bA,aR,p,bE];simp[Instr.sameBits]⟩
     ·cases h
  ·rename_i j b l r v c
   cases c;cases h1 with
   |cons i h1=>cases h2 with
    |cons g h2=>
     rw[J]at h;obtain⟨t,f,e⟩:=h;simp only[H,beq_iff_eq]at e;obtain⟨rfl,rfl⟩:=e;obtain⟨o,p⟩:=s h1 h2 f;rw[i.nT,g.nT];exact⟨by simp[o],by simp only[bA,aR,p,bE];simp[Instr.sameBits]⟩
  ·rename_i j b l r v c
   cases c;cases h1 with
   |cons i h1=>cases h2 with
    |cons g h2=>
     rw[J]at h;obtain⟨t,f,e⟩:=h;simp only[H,beq_iff_eq]at e;obtain⟨u,rfl⟩:=e;obtain⟨o,p⟩:=s h1 h2 f;rw[i.rM,g.rM];have z:b=r:=by
      cases b;cases r;simp only[ByteArray.toList_eq]at u
      simpa using u
     subst z;have A:(b==b)=true:=by cases b with|mk d=>show(d==d)=true;exact beq_self_eq_true d
     exact⟨by simp[o],by simp only[bA,aR,p,bE];simp only[Instr.sameBits,A]⟩
  ·cases h
def aeD {t:TypeId}{y:Operand}(ho:o.op= .mapUpdate t x i y){args:List PV}(hS:Sim C X w M E)(hA:aQ w (away X M E) M E ((opsOf o.op).map ρ) args)
  (c:aN C.P (.mapUpdate t x i y) (.Qk ks)=true){base:Nat}(h:au C base (.Qk ks) args M K KP):fB C X w M E K KP ((execOp ρ o).run C.P w):=by
 simp only[aN]at c
 split at c
 ·rename_i am e N
  split at c
  ·rename_i fs abJ
   simp only[H,ae]at c;obtain⟨L,ai⟩:=c;simp only[ho,opsOf,I,W]at hA;simp only[au]at h
   split at h
   ·rename_i b k v
    obtain⟨v1,v2,v3,he,hr,ac,J⟩:=KH hA;simp only[List.cons.injEq,and_true]at he;obtain⟨rfl,rfl,rfl⟩:=he
    split at h
    ·rename_i l d
     obtain⟨U,h⟩:=h
     split at h
     ·rename_i R hc hl
      have p:M.boxes[b]?=some (some [.iO l]):=by
       unfold Mem.box at d
       split at d
       ·rename_i cs T;cases d;exact T
       ·cases d
      obtain⟨xs,e1,Q⟩:=ac.toD.wP;generalize O:ρ x=vv at hr;cases hr with
      |mref F A ao=>
       rename_i blk cs
       rw[p]at F;cases F;obtain⟨an,q1,q2,q3⟩:=hS.box b _ p;rw[A]at q1;cases q1;obtain⟨es,clock,S,Y,hv⟩:=q3;obtain⟨z,g1,g2⟩:=Rl (P:=C.P) (v:=v) abJ L ai Q es.toList l R 0 Y hv hl;have B:=yh (P:=C.P) abJ L Q hc false;have r:(Instr.findKey am (.agg xs) es.toList).run C.P w= .ok z w:=by
        rw[run_findKey_eq (P:=C.P) w (by rw[abJ])];exact g1
       have m:(getObj blk).run C.P w= .ok (.map es clock) w:=by simp[getObj,Sem.run,S]
       have G:=dw S;have n:∀o':Obj,(setObj blk o').run C.P w= .ok () {w with heap:=w.heap.setIfInBounds blk o'}:=fun o'=>by simp[setObj,Sem.run,S]
       have s:∀(f:Array MapEntry) (a:Nat),aV w (away X M E) (f.toList.map (·.key)) (R.map (·.1))->aV w (away X M E) (f.toList.map (·.val)) (R.map (·.2))->
         fB C X w M E K KP (.ok .skip {w with heap:=w.heap.setIfInBounds blk (.map f a)}):=by
        intro f a p1 p2;obtain⟨s1,s2⟩:=Nq (cs':=[.iO R]) hS p U rfl rfl A (MZ w blk (.map f a) G) fun hf=>⟨f,a,by simp[G],p1.from hf,p2.from hf⟩
        exact⟨_,_,h,s1,s2⟩
       rcases g2 with⟨rfl,rfl⟩|⟨j,u,k',en,rfl,p1,p2,p3,p4,rfl⟩
       ·have g:(execOp ρ o).run C.P w= .ok .skip {w with heap:=w.heap.setIfInBounds blk (.map (es.push {key:= .agg xs,val:=ρ y,born:=clock}) (clock+1))}:=by
         simp only[execOp,ho,Instr.mapUpdate,Sem.run_bind,run_underlying N,Result.andThen_ok,O,e1,m,B,r,n];simp[Sem.run_pure]
        rw[g];refine s _ _ ?_ ?_
        ·simpa using Y.append (.cons (.agg Q) .nil)
        ·simpa using hv.append (.cons J.toD .nil)
       ·obtain⟨ys,e2,hy⟩:=p3.wP
        obtain⟨b1,b2⟩:=QO Q hy p4;have ahX:Instr.sameBits 10000 (.agg ys) (.agg xs)=true:=by
         simp only[Instr.sameBits,H,beq_iff_eq];exact⟨by simpa using b1.symm,b2⟩
        have V:es[j]?=some en:=by simpa using p1
        have D:j<es.size:=dw V;have ah5:(Instr.keyThatStays (((es[j]?).map (·.key)).getD (.agg xs)) (.agg xs)).run C.P w= .ok (.agg xs) w:=by
         simp only[V,be,ab,e2,Instr.keyThatStays,ahX,if_true,Sem.run_pure]
        have g:(execOp ρ o).run C.P w= .ok .skip {w with heap:=w.heap.setIfInBounds blk (.map (es.modify j fun e=>{e with key:= .agg xs,val:=ρ y}) clock)}:=by
         simp only[a8]at r;simp only[execOp,ho,Instr.mapUpdate,Sem.run_bind,run_underlying N,Result.andThen_ok,O,e1,m,B,r,ah5,n];simp[Sem.run_pure]
        rw[g];have hm:(es.modify j fun e=>{e with key:= .agg xs,val:=ρ y}).toList=es.toList.set j {en with key:= .agg xs,val:=ρ y}:=by
         apply bi;intro q;rw[az];simp only[bh,b0]
         by_cases Z:j=q
         ·subst Z;rw[if_pos rfl,if_pos rfl,V,if_pos (by simpa using D)];rfl
         ·rw[if_neg Z,if_neg Z]
        refine s _ _ ?_ ?_
        ·rw[hm,a7,a7];exact Y.set j (.agg Q)
        ·rw[hm,a7,a7];exact hv.set j J.toD
     ·exact h.elim
    ·exact h.elim
   ·exact h.elim
  ·cases c
 ·cases c
end
section
variable {C:Ctx}{X:Nat->Prop}{w:World}{M:Mem}{E:Emb}{K:PV->Mem->Prop}{KP:DV->Mem->Prop}{O:Nat->Prop}
variable{ρ:Operand->Value}{o:Oper}{sz:Nat}
def aaX {t:TypeId}{l c:Operand}{z:DV}(ho:o.op= .makeSlice t l c){args:List PV}(Y:Sim C X w M E)(U:aQ w (away X M E) M E ((opsOf o.op).map ρ) args)
  (a:aN C.P (.makeSlice t l c) (.mkRow sz z)=true){base:Nat}(h:au C base (.mkRow sz z) args M K KP):fB C X w M E K KP ((execOp ρ o).run C.P w):=by
 simp only[aN]at a
 split at a
 ·rename_i e L
  split at a
  ·rename_i b jT
   split at a
   ·rename_i i hz
    simp only[H,beq_iff_eq,decide_eq_true_eq]at a;obtain⟨⟨⟨⟨⟨g,f⟩,y⟩,aqK⟩,s⟩,R⟩:=a;simp only[ho,opsOf,I,W]at U;simp only[au]at h
    split at h
    ·rename_i k n k' m
     obtain⟨rfl,T,q,_,p,hK⟩:=h;obtain⟨v,u,Z,hr,J⟩:=dZ U;simp only[List.cons.injEq,and_true]at Z;obtain⟨rfl,rfl⟩:=Z;have e1:=hr.toD.fO;have e2:=J.toD.fO;have hb:(b.bytes:Int)*n<=281474976710656:=by
      have h1:(b.bytes:Int)<=1024:=by omega
      have:=Int.mul_le_mul h1 q T (by omega);omega
     have hc:n.toNat*b.size<=16777216:=by
      rw[g];have:n.toNat<=1048576:=by omega
      have:=Nat.mul_le_mul this aqK;omega
     have r:=run_makeSlice (P:=C.P) w t e b i L jT hz k k' n n T (Int.le_refl _) hc hb (by omega);have F:(execOp ρ o).run C.P w= .ok (.value (.slice (some ⟨w.heap.size,0,none⟩) n.toNat n.toNat)) (w.alloc (.cells (madeCells i.cells (n.toNat*b.size)) e)):=by
      simp[execOp,ho,e1,e2,r]
     rw[F];have Q:∀x∈ap n.toNat z,x.fits sz=true:=fun x N=>by rw[(bo.1 N).2];exact p
     have j:((ap n.toNat z).all fun d=>jA d.cells i.cells.toList)=true:=by
      rw[a1];intro x N;rw[(bo.1 N).2];exact R
     have apD:=Ec (w:=w) (O:=away X M E) s f j;rw[b4]at apD;have G:(madeCells i.cells (n.toNat*b.size)).toList=((cA (n.toNat*sz)).map (i.cells[· % sz]!)).toList:=by
      rw[g];unfold madeCells;rw[s]
     obtain⟨t1,t2⟩:=wL (A:=⟨sz,ap n.toNat z,0,1⟩) (loc:=some (w.heap.size,0,n.toNat*sz)) Y (Later.alloc w (.cells (madeCells i.cells (n.toNat*b.size)) e)) f Q (fun _ hh=>by cases hh) (fun blk o' e' hh=>by
      cases hh;refine⟨S _,_, .zero _ _,heap_alloc_new w _,?_,?_,?_⟩
      ·simp
      ·rw[size_madeCells,g];exact S _
      ·rw[G,bk,ao]
       ·exact apD
       ·simp)
     refine⟨_,_,_,hK,t1,t2, .tsl (by simp) fun B V=> ?_⟩;have D:B=⟨sz,ap n.toNat z,0,1⟩:=by simp at V;simp[V]
     subst D;refine⟨S _,fun _=>⟨some (w.heap.size,0,n.toNat*sz),by simp[<-Y.bC],aM _, .inl ⟨n.toNat,?_,?_,?_⟩⟩⟩
     ·simp
     ·simp
     ·simp
    ·exact h.elim
   ·cases a
  ·cases a
 ·cases a
def aaY {t:TypeId}{len:Nat}{parts:Array (Nat×Operand)}{zs:List DV}{V:List Nat}(ho:o.op= .buildSlice t len parts){args:List PV}(T:Sim C X w M E)
  (Q:aQ w (away X M E) M E ((opsOf o.op).map ρ) args)(a:aN C.P (.buildSlice t len parts) (.ng sz zs V)=true){base:Nat}
  (h:au C base (.ng sz zs V) args M K KP):fB C X w M E K KP ((execOp ρ o).run C.P w):=by
 simp only[au]at h
 split at h
 ·rename_i ds u
  split at h
  ·rename_i xs G
   obtain⟨g,c,Y⟩:=h;simp only[aN]at a
   split at a
   ·rename_i e Z
    split at a
    ·rename_i ab jT
     split at a
     ·rename_i z hz
      simp only[H,decide_eq_true_eq,beq_iff_eq]at a;obtain⟨⟨⟨⟨⟨⟨F,hs⟩,k⟩,U⟩,I⟩,RQ⟩,y⟩:=a;simp only[ho,opsOf]at Q;have q:=(Q.gV u).strip;have r:aV w (away X M E) ((parts.toList.map fun x=>(x.1,ρ x.2)).map (·.2)) (ds.map DV.strip):=by simpa[List.map_map,ck]using q
      have L:∀x∈zs,x.cells.length=sz:=by
       intro x hx;simp only[a1]at RQ;have:=(je (w:=w) (O:=fun _=>False) (RQ x hx)).length;simp at this;omega
      obtain⟨l,m,N,W,g4⟩:=NV (vs:=(cA (zs.length*sz)).map (z.cells[· % sz]!)) (by subst y;simp[ck]) r (Ec k F RQ) L G;have D:¬(len*sz>2 ^ 24):=by omega
      have i:(execOp ρ o).run C.P w= .ok (.value (.slice (some ⟨w.heap.size,0,none⟩) len len)) (w.alloc (.cells l e)):=by
       simp only[execOp,ho,Instr.buildSlice,Sem.run_bind,run_underlying Z,Result.andThen_ok,run_sizeOf jT,hs,D,if_false,bind_pure_comp,Sem.run_map,Sem.run_ite,Sem.run_pure];have J:(zeroValue e).run C.P w= .ok z w:=by simp[zeroValue,typeInfo,jT,hz]
       have d:(cM (fun x=>(x.1,ρ x.2)) parts).toList=parts.toList.map (fun x=>(x.1,ρ x.2)):=by simp
       rw[I]at m
       by_cases n:len*sz=0
       ·have p:∀(f:Nat->Value),cM f (cA (len*sz))= #[]:=by intro f;rw[n];simp
        rw[p]at m;rw[n]at p;simp only[n,if_true,d,p,m];simp only[newRow,Sem.run_map,run_newObj_alloc,bind_pure_comp,Result.andThen_ok]
       ·simp only[n,if_false,J,Result.andThen_ok,k,d,m,newRow,Sem.run_map,run_newObj_alloc,bind_pure_comp]
      rw[i];have b:xs.length=len:=by omega
      have j:=N.length;have v:(flat xs).length=len*sz:=by rw[flat_length W,b]
      obtain⟨t1,t2⟩:=wL (A:=⟨sz,xs,0,1⟩) (loc:=some (w.heap.size,0,len*sz)) T (Later.alloc w (.cells l e)) g c (fun _ hh=>by cases hh) (fun blk o' e' hh=>by
       cases hh;refine⟨S _,_, .zero _ _,heap_alloc_new w _,?_,?_,?_⟩
       ·simp[b]
       ·rw[Array.length_toList]at j;omega
       ·rw[bk,ao (by rw[j,v,b];exact S _)]
        exact N)
      refine⟨_,_,_,Y,t1,t2, .tsl (by simp) fun B R=> ?_⟩;have s:B=⟨sz,xs,0,1⟩:=by simp at R;simp[R]
      subst s;refine⟨S _,fun _=>⟨some (w.heap.size,0,len*sz),by simp[<-T.bC],aM _, .inl ⟨len,?_,?_,?_⟩⟩⟩
      ·simp[b]
      ·simp[b]
      ·simp
     ·cases a
    ·cases a
   ·cases a
  ·exact h.elim
 ·exact h.elim
def OQ:∀{xs:List DV} {l:List UInt8},bytesOf xs=some l->∃ns:List Int,xs=ns.map (DV.int .u8)/\l=ns.map fun n=>UInt8.ofNat n.toNat
 | [],l,h=>by simp only[bytesOf,Option.some.injEq]at h;subst h;exact⟨[],rfl,rfl⟩
 |x::xs,l,h=>by
  unfold bytesOf at h
  split at h
  ·rename_i a;cases a
  ·rename_i n c a
   cases a;rw[J]at h;obtain⟨b,h1,rfl⟩:=h;obtain⟨ns,rfl,rfl⟩:=OQ h1;exact⟨n::ns,rfl,rfl⟩
  ·cases h
def ZQ:∀(ns:List Int) (s:ByteArray),ns.foldl (fun r n=>r.push (UInt8.ofNat n.toNat)) s=⟨s.data++(ns.map fun n=>UInt8.ofNat n.toNat).toArray⟩
 | [],s=>by simp
 |n::ns,s=>by
  rw[List.foldl_cons,ZQ ns];simp[ByteArray.push]
def IK:∀ns:List Int,flat (ns.map (DV.int .u8))=ns.map (DV.int .u8)
 | []=>rfl
 |n::ns=>by rw[I,lV,IK ns];rfl
def VE:∀{ns:List Int} {vs:List Value},aV w O vs (ns.map (DV.int .u8))->vs=ns.map (Value.int .u8)
 | [],_,h=>by cases h;rfl
 |n::ns,_,h=>by
  cases h with
  |cons h t=>rw[h.fO,VE t];rfl
variable{x:Operand}
def agX {s d:TypeId}(ho:o.op= .convert s d x){args:List PV}(z:Sim C X w M E)(Q:aQ w (away X M E) M E ((opsOf o.op).map ρ) args)
  (r:aN C.P (.convert s d x) .b2s=true){base:Nat}(h:au C base .b2s args M K KP):fB C X w M E K KP ((execOp ρ o).run C.P w):=by
 simp only[aN,H]at r;obtain⟨j,hd⟩:=r
 split at j
 ·rename_i e N
  split at j
  ·rename_i k V
   simp only[decide_eq_true_eq]at j;subst j
   split at hd
   ·rename_i F
    simp only[ho,opsOf,I,W]at Q;simp only[au]at h
    split at h
    ·rename_i p
     obtain⟨v,R,L⟩:=fJ Q;simp only[List.cons.injEq,and_true]at R;subst R;cases c:yg 0 p M with
     |none=>simp only[c]at h
     |some xs=>
      simp only[c]at h;cases B:bytesOf xs with
      |none=>simp only[B]at h
      |some l=>
       simp only[B]at h;obtain⟨ns,rfl,rfl⟩:=OQ B;have g:yg 1 p M=some (ns.map (DV.int .u8))/\∃a cap,ρ x= .slice a ns.length cap:=by
        unfold yg at c⊢
        split at c
        ·simp only[Option.some.injEq]at c
         subst c;obtain⟨a,cap,f⟩:=L.toD.kP;exact⟨rfl,a,cap,by simpa using f⟩
        ·cases c
        ·rename_i k ver skip
         refine⟨c,?_⟩;rw[J]at c;obtain⟨A,u,O⟩:=c;obtain⟨t1,t2,_,_,t5⟩:=Iu z L u;have b:A.elems.length - skip=ns.length:=by have:=congrArg cK O;simpa using this
         rcases t5 with⟨blk,o,e,vs,T,cap,_,_,_,_,_,(⟨h1,_⟩|⟨h1,_,a,h2⟩)⟩|⟨_,_,h1⟩
         ·exact⟨_,_,by rw[h1,b]⟩
         ·exact⟨_,_,by rw[h2,<-b];congr 1;omega⟩
         ·obtain⟨a,cap,f⟩:=h1.kP
          exact⟨a,cap,by rw[f];congr 1;simpa using b⟩
        ·cases c
       obtain⟨g,a,cap,f⟩:=g;have q:∀y∈ns.map (DV.int .u8),y.fits 1=true:=by
        intro y Z;obtain⟨n,_,rfl⟩:=cH.1 Z;rfl
       obtain⟨U,n1,n2,n3⟩:=Tf z L g q;rw[IK]at n3;have i:=VE n3;subst i;have D:(Conv.bytesToString (ρ x)).run C.P w= .ok (.string ⟨(ns.map fun n=>UInt8.ofNat n.toNat).toArray⟩) w:=by
        cases a with
        |none=>
         have:ns.length=0:=by
          have:=n2 C.P w (.refl w);rw[f,bu]at this
          by_cases S:ns.length=0
          ·exact S
          ·exfalso
           simp[Builtin.firstCells]at this;exact S (by simp[this])
         have Y:=aD.1 this;subst Y;rw[f];simp[Conv.bytesToString]
         rfl
        |some a=>
         rw[f];have G:=n2 C.P w (.refl w);rw[f,bu]at G;simp only[Builtin.firstCells,cB]at G;rw[run_bytesToString w a ns.length cap ns G,ZQ];simp
       have t:(execOp ρ o).run C.P w= .ok (.value (.string ⟨(ns.map fun n=>UInt8.ofNat n.toNat).toArray⟩)) w:=by
        have m:=run_convert_bytes_string (P:=C.P) w s d e a ns.length cap N V F;rw[<-f,D]at m;simp[execOp,ho,m]
       rw[t];exact .same z h (.d (.str _))
    ·exact h.elim
   ·cases hd
  ·cases j
 ·cases j
def Tj:∀l:List UInt8,aV w O (l.map fun b=>Value.int .u8 b.toNat) (l.map fun b=>DV.int .u8 b.toNat)
 | []=> .nil
 |b::l=> .cons (.int _ _) (Tj l)
def Rx:∀l:List UInt8,flat (l.map fun b=>DV.int .u8 b.toNat)=l.map fun b=>DV.int .u8 b.toNat
 | []=>rfl
 |b::l=>by rw[I,lV,Rx l];rfl
def ag6 {s d:TypeId}(ho:o.op= .convert s d x){args:List PV}(r:Sim C X w M E)(p:aQ w (away X M E) M E ((opsOf o.op).map ρ) args)
  (c:aN C.P (.convert s d x) .s2b=true){base:Nat}(h:au C base .s2b args M K KP):fB C X w M E K KP ((execOp ρ o).run C.P w):=by
 simp only[aN,H]at c;obtain⟨hd,y⟩:=c
 split at hd
 ·rename_i e l
  split at hd
  ·rename_i k z
   simp only[decide_eq_true_eq]at hd;subst hd
   split at y
   ·rename_i m
    simp only[ho,opsOf,I,W]at p;simp only[au]at h
    split at h
    ·rename_i t
     obtain⟨v,u,D⟩:=fJ p;simp only[List.cons.injEq,and_true]at u;subst u;have F:ρ x= .string t:=D.toD.rM;have a:=grownCap_ge w t.size 0 e;have g:(execOp ρ o).run C.P w= .ok (.value (.slice (some ⟨w.heap.size,0,none⟩) t.size (grownCap w t.size 0 e)))
       (w.drew.alloc (.cells (bytesRow t (grownCap w t.size 0 e)) e ((bytesRow t (grownCap w t.size 0 e)).size,(bytesRow t (grownCap w t.size 0 e)).size+1))):=by
      have:=run_bytes_of_string (P:=C.P) w s d e t m l z;simp[execOp,ho,F,this]
     rw[g];generalize grownCap w t.size 0 e=cap at a;have i:t.data.toList.length=t.size:=by simp
     have n:(bytesRow t cap).size=cap:=by simp[bytesRow];have:t.data.size=t.size:=rfl;omega
     have f:((bytesRow t cap).toList.drop 0).take t.size=t.data.toList.map fun b=>Value.int .u8 b.toNat:=by
      simp only[bytesRow,bk,b7,bN];rw[cE];simp
     obtain⟨t1,t2⟩:=wL (A:=⟨1,t.data.toList.map fun b=>DV.int .u8 b.toNat,0,1⟩) (loc:=some (w.heap.size,0,cap)) r ((Later.drew w).trans (Later.alloc _ _)) Nat.one_pos
      (fun x G=>by obtain⟨b,_,rfl⟩:=cH.1 G;rfl) (fun _ hh=>by cases hh) (fun blk L J hh=>by
       cases hh;refine⟨S _,bytesRow t cap,⟨e,((bytesRow t cap).size,(bytesRow t cap).size+1), .inr (S _)⟩,heap_alloc_new w.drew _,?_,?_,?_⟩
       ·simp only[bu,cB,a8,i];exact a
       ·rw[n];exact S _
       ·simp only[bu,cB,i]
        rw[f,Rx];exact Tj _)
     refine⟨_,_,_,h,t1,t2, .tsl (by simp) fun B q=> ?_⟩;have j:B=⟨1,t.data.toList.map fun b=>DV.int .u8 b.toNat,0,1⟩:=by simp at q;simp[q]
     subst j;refine⟨S _,fun _=>⟨some (w.heap.size,0,cap),by simp[<-r.bC],aM _, .inl ⟨cap,?_,?_,?_⟩⟩⟩
     ·simp
     ·simpa using a
     ·simp
    ·exact h.elim
   ·cases y
  ·cases hd
 ·cases hd
end
section
variable {C:Ctx}{X:Nat->Prop}{w w':World}{M:Mem}{E:Emb}{K:PV->Mem->Prop}{KP:DV->Mem->Prop}{O:Nat->Prop}
variable{blk:Nat}{A:Arr}{vs:Array Value}
def KN {k o e:Nat}{el:List DV}{vs':List Value}{T:TM vs.size}(h:Sim C X w M E)(hk:M.aC[k]?=some (some A))(ab:A.st=1)
  (n:E.ar[k]?=some (some (blk,o,e)))(Y:w.heap[blk]?=some (.cells vs T.ty T.fr))(hl:el.length=A.elems.length)(hfit:∀x∈el,x.fits A.sz=true)(t:vs'.length=vs.size)
  (hr:aV w (away X M E) ((vs'.drop o).take (A.elems.length*A.sz)) (flat el))(l:Wrote blk w w' vs' T.ty T.fr):
  Sim C X w' {M with aC:=M.aC.set k (some {A with elems:=el})} E/\From w M E w' {M with aC:=M.aC.set k (some {A with elems:=el})} E:=by
 generalize d:({A with elems:=el}:Arr)=A';have Z:k<M.aC.length:=(V.1 hk).1;obtain⟨s1,s2,s3,s4⟩:=h.arr k A hk;obtain⟨N,ac,T',G,U,W,g5⟩:=s4 blk o e n;rw[Y]at G;simp only[Option.some.injEq,Obj.cells.injEq]at G;obtain⟨rfl,_,_⟩:=G;have s:owned M E blk:= .inr ⟨k,A,o,e,hk,by omega,n⟩;have c:∀(j:Nat) (B:Arr),(M.aC.set k (some A'))[j]?=some (some B)->∃B':Arr,M.aC[j]?=some (some B')/\B.st=B'.st:=by
  intro j B O
  rcases aO O with⟨rfl,r⟩|⟨_,H⟩
  ·cases r;exact⟨A,hk,by rw[<-d]⟩
  ·exact⟨B,H,rfl⟩
 have v:From w M E w' {M with aC:=M.aC.set k (some A')} E:=
  {os:=l.os,tape:=l.tape,output:=l.output,size:=cn l.size.symm
   keep:=fun i o hi J=>l.jG (fun e=>hi (e▸s)) J
   own:=by
    rintro i (⟨j,cs',h1,h2,h3⟩|⟨j,B,o,e,h1,h2,h3⟩)
    ·exact .inl (.inl ⟨j,cs',h1,h2,h3⟩)
    ·obtain⟨B',h1',hs⟩:=c j B h1
     exact .inl (.inr ⟨j,B',o,e,h1',hs▸h2,h3⟩)
   iE:=S _
   bx:=fun i cs' hi=>⟨rfl,cs',hi,rfl⟩
   bC:=by simp
   ar:=fun j B O r=>by
    rcases aO r with⟨rfl,m⟩|⟨_,hB'⟩
    ·cases m
     refine⟨A,hk,by rw[<-d];exact S _,fun _=>⟨rfl,by rw[<-d],by rw[<-d];simp[hl],fun P=> ?_⟩⟩;rw[n]at P;cases P
    ·exact⟨B,hB',S _,fun _=>⟨rfl,rfl,rfl,fun _=>rfl⟩⟩}
 refine⟨?_,v⟩;exact
  {glob:=C.keeps w w' h.glob fun b u=>l.keep b (fun e=>N (e▸h.iF b u)),iF:=h.iF
   xlt:=fun i hi=>by rw[l.size];exact h.xlt i hi
   iE:=h.iE
   bC:=by simp[h.bC]
   box:=fun b cs' u=>by
    obtain⟨a,h1,h2,h3⟩:=h.box b cs' u;have g:a≠blk:=fun p=>h.ba b k cs' A blk o e u hk (p▸h1) n
    exact⟨a,h1,h2,h3.from v fun _ J=>l.jG g J⟩
   arr:=fun j B r=>by
    rcases aO r with⟨rfl,m⟩|⟨I,hB'⟩
    ·cases m
     subst d;refine⟨s1,hfit,s3,fun a K p f=> ?_⟩;rw[n]at f;cases f;refine⟨N,_,T.cast (by simpa using t.symm),l.at_,by simp only[hl];exact U,by simpa[t]using W,?_⟩;simp only[hl];exact hr.from v
    ·obtain⟨h1,h2,h3,q⟩:=h.arr j B hB'
     refine⟨h1,h2,h3,fun a K p f=> ?_⟩;obtain⟨q1,vs',T',q2,q3,q4,q5⟩:=q a K p f;have g:a≠blk:=fun F=>I (h.aa j k B A blk K p o e hB' hk (F▸f) n)
     exact⟨q1,vs',T',l.jG g q2,q3,q4,q5.from v⟩
   bb:=h.bb
   aa:=fun j Q B B' a L D o2 F h1 h2 h3 q=>by
    obtain⟨R,h1',_⟩:=c j B h1;obtain⟨z,h2',_⟩:=c Q B' h2;exact h.aa j Q R z a L D o2 F h1' h2' h3 q
   ba:=fun b j y B a L D h1 h2 h3 q=>by
    obtain⟨z,h2',_⟩:=c j B h2;exact h.ba b j y z a L D h1 h2' h3 q}
def NI (w:World)(O:Nat->Prop)(sz:Nat)(v:Value)(ys:List DV):Prop:=
 (∀P,(Builtin.lenOf v).run P w= .ok ys.length w)/\∀n,n<=ys.length->∃a:List Value,(∀P,(Builtin.firstCells sz n v).run P w= .ok a.toArray w)/\aV w O a (flat (ys.take n))
variable{sz cap:Nat}
def AX {a:Option Addr}:NI w O sz (.slice a 0 cap) []:=by
 refine⟨fun P=>by simp[Builtin.lenOf],fun n b=> ?_⟩;have:n=0:=by simpa using b
 subst this;refine⟨[],fun P=> ?_,by simpa[flat]using .nil⟩;cases a with
 |none=>simp[Builtin.firstCells]
 |some a=>simp[Builtin.firstCells,AY]
variable{len:Nat}
def KF {off:Nat}{ys:List DV}{cs:Array Value}{T:TypeId}{fz:Nat×Nat}(hb:w.heap[blk]?=some (.cells cs T fz))
  (e:aV w O ((cs.toList.drop off).take (len*sz)) (flat ys))(hl:ys.length=len)(hs:∀y∈ys,y.cells.length=sz):NI w O sz (.slice (some ⟨blk,off,none⟩) len cap) ys:=by
 subst hl;refine⟨fun P=>by simp[Builtin.lenOf],fun n d=> ?_⟩;have c:aV w O ((cs.toList.drop off).take (n*sz)) (flat (ys.take n)):=by
  have:=e.take (n*sz);rw[b5,bv (am _ d),Dn hs]at this;exact this
 have b:((cs.toList.drop off).take (n*sz)).length=n*sz:=by rw[c.length,flat_length fun y f=>hs y (ai f)];simp[d]
 refine⟨_,fun P=> ?_,c⟩;have:=run_loadCells_list (P:=P) w ⟨blk,off,none⟩ ((cs.toList.drop off).take (n*sz)) (fun j v a=>by
  rw[Addr.add_lit,cell_of_row w blk (off+j) cs T fz hb];rw[cb]at a
  split at a
  ·rw[ca]at a;simpa using a
  ·cases a)
 rw[b]at this
 simpa[Builtin.firstCells]using this
variable{v:Value}
def Ig {ex:Bool}{ys:List DV}(e:bK w O v (.slice ex ys))(hs:∀y∈ys,y.cells.length=sz):NI w O sz v ys:=by
 cases e with
 |empty f=>exact AX
 |slice d i c a h f hh=>
  rename_i blk g len cap b cs T fz
  cases ys with
  |nil=>
   subst c;exact AX
  |cons y ys=>
   have:b=sz:=by rw[<-a y (by simp),hs y (by simp)]
   subst this;exact KF d hh c hs
variable{skip:Nat}
def ai7 {o:Nat}(a:∀x∈A.elems,x.fits A.sz=true)(b:aV w O ((vs.toList.drop o).take (A.elems.length*A.sz)) (flat A.elems))(hl:skip+len<=A.elems.length):
  aV w O ((vs.toList.drop (o+skip*A.sz)).take (len*A.sz)) (flat ((A.elems.drop skip).take len)):=by
 have h1:=(row_drop (skip:=skip) a b).take (len*A.sz);rw[b5,bv (am _ (by omega)),Dn (fun x c=>DV.dK (a x (U c)))]at h1;exact h1
def acC {x:PV}{ys:List DV}(r:Sim C X w M E)(t:Rep w (away X M E) M E v x)(f:Nw x M=some ys)(n:∀y∈ys,y.fits sz=true):NI w (away X M E) sz v ys:=by
 have u:∀y∈ys,y.cells.length=sz:=fun y c=>DV.dK (n y c)
 have j:∀{k ver:Nat} {A:Arr} {zs:List DV},M.row k ver=some A->(∀y∈zs,y∈A.elems)->(∀y∈zs,y.cells.length=sz)->∀{v:Value},(∀i,i=A.sz\/zs=[]->NI w (away X M E) i v zs)->NI w (away X M E) sz v zs:=by
  intro k ver A zs l B D v h;obtain⟨d,_⟩:=uS l;have O:=(r.arr k A d).2.1;cases zs with
  |nil=>exact h sz (.inr rfl)
  |cons z zs=>
   refine h sz (.inl ?_);rw[<-D z (by simp),DV.dK (O z (B z (by simp)))]
 unfold Nw at f
 split at f
 ·simp only[Option.some.injEq]at f;subst f
  exact Ig t.toD u
 ·rename_i k ver skip
  rw[J]at f;obtain⟨A,l,rfl⟩:=f;obtain⟨_,h1,h2,m,p⟩:=Iu r t l;refine j l (fun y c=>U c) u fun i b=> ?_
  rcases p with⟨blk,o,e,vs,T,cap,q1,Q,q3,q4,R,S⟩|⟨_,_,hd⟩
  ·rcases S with⟨rfl,V,q8⟩|⟨V,_,a,rfl⟩
   ·by_cases hz:A.elems.drop skip=[]
    ·rw[hz]
     have:A.elems.length - skip=0:=by simpa using congrArg cK hz
     rw[this];exact AX
    ·obtain rfl:=b.resolve_right hz
     exact KF Q (row_drop m R) (by simp) fun y c=>DV.dK (m y (U c))
   ·rw[aq (by omega)]
    exact AX
  ·refine Ig hd fun y c=> ?_
   rcases b with rfl|hz
   ·exact DV.dK (m y (U c))
   ·rw[hz]at c;simp at c
 ·rename_i k ver skip len
  rw[J]at f;obtain⟨A,l,rfl⟩:=f;obtain⟨d,Kq⟩:=uS l;obtain⟨s1,G,s3,W⟩:=r.arr k A d;refine j l (fun y c=>U (ai c)) u fun i b=> ?_
  cases t with
  |psl P hh=>
   obtain⟨_,h2⟩:=hh A d;obtain⟨F,m,p,H⟩:=h2 Kq;have g:((A.elems.drop skip).take len).length=len:=by simp;omega
   cases F with
   |some q=>
    obtain⟨blk,o,e⟩:=q;obtain⟨_,vs,T,L,Y,Z,N⟩:=W blk o e m;obtain⟨a,cap,I,K⟩:=H;cases I
    by_cases hz:len=0
    ·subst hz
     simp only[cF];exact AX
    ·rw[K hz]
     have s:(A.elems.drop skip).take len≠[]:=by intro hh;rw[hh]at g;simp at g;exact hz g.symm
     obtain rfl:=b.resolve_right s;exact KF L (ai7 G N p) g fun y c=>DV.dK (G y (U (ai c)))
   |none=>
    refine Ig H fun y c=> ?_
    rcases b with rfl|hz
    ·exact DV.dK (G y (U (ai c)))
    ·rw[hz]at c;simp at c
 ·cases f
def adI {vs:List Value}{ds:List DV}(h:aV w O vs ds)(h1:∀c∈ds,c.one=true):∀v∈vs,v.oneCell'=true:=by
 induction vs generalizing ds with
 |nil=>intro v a;simp at a
 |cons u g f=>
  cases h with
  |cons e d=>
   intro v a
   rcases bL.1 a with rfl|a
   ·have:=h1 _ List.mem_cons_self
    cases e<;>first|rfl|(simp[DV.one]at this)
   ·exact f d (fun c b=>h1 c (by simp[b])) v a
def U5 {xs:List DV}(h:∀x∈xs,x.fits sz=true):∀c∈flat xs,c.one=true:=by
 intro c a;simp only[flat,cw]at a;obtain⟨x,b,a⟩:=a;exact DV.LC (h x b) c a
variable{z:DV}
def acX {b:Array Value}{sz n:Nat}(c:b.size=sz)(d:jA z.cells b.toList=true)(a:0<sz):aV w O (Builtin.zeroCells b n).toList (flat (ap n z)):=by
 have:=Ec (w:=w) (O:=O) (z:=b) (zs:=ap n z) c a (by rw[a1];intro x e;rw[(bo.1 e).2];exact d);rw[b4]at this;subst c;exact this
def P5 {o:Nat}{zs:List DV}{b:List Value}(a:∀x∈A.elems,x.fits A.sz=true)(f:aV w O ((vs.toList.drop o).take (A.elems.length*A.sz)) (flat A.elems))
  (j:∀z∈zs,z.fits A.sz=true)(hl:skip+zs.length<=A.elems.length)(ho:o+A.elems.length*A.sz<=vs.size)(h:aV w O b (flat zs)):
  (splice vs.toList (o+skip*A.sz) b).length=vs.size/\aV w O (((splice vs.toList (o+skip*A.sz) b).drop o).take (A.elems.length*A.sz)) (flat (A.elems.take skip++(zs++A.elems.drop (skip+zs.length)))):=by
 have c:b.length=zs.length*A.sz:=by rw[h.length,flat_length fun z d=>DV.dK (j z d)]
 have e:skip*A.sz+zs.length*A.sz<=A.elems.length*A.sz:=by rw[<-ax];exact am _ hl
 refine⟨by rw[length_splice _ _ _ (by simp;omega)];simp,?_⟩;rw[tZ _ _ _ _ (by omega) (by simp;omega),show o+skip*A.sz - o=skip*A.sz by omega,CJ _ _ _ _ (by omega) (by simp;omega)];have g:∀x∈A.elems,x.cells.length=A.sz:=fun x i=>DV.dK (a x i)
 rw[xg,xg,<-Dn g skip,<-zB g (skip+zs.length),ax];unfold Am.splice;rw[c,List.append_assoc];exact(f.take _).append (h.append (f.drop _))
variable{ρ:Operand->Value}{o:Oper}{x:Operand}{olo ohi omx:Option Operand}
def aeJ {t:TypeId}(ho:o.op= .slice t x olo ohi omx){args:List PV}(N:Sim C X w M E)
  (hA:aQ w (away X M E) M E ((opsOf o.op).map ρ) args)(D:aN C.P (.slice t x olo ohi omx) (.UD sz)=true){base:Nat}(h:au C base (.UD sz) args M K KP):fB C X w M E K KP ((execOp ρ o).run C.P w):=by
 simp only[aN,H,beq_iff_eq]at D;obtain⟨⟨⟨g,h1⟩,h2⟩,h3⟩:=D;obtain rfl:olo=none:=by simpa using h1
 obtain rfl:omx=none:=by simpa using h3
 obtain⟨hi,rfl⟩:=Option.isSome_iff_exists.1 h2
 split at g
 ·rename_i e s
  split at g
  ·rename_i ae jT
   simp only[H,beq_iff_eq,decide_eq_true_eq]at g;obtain⟨Z,ao⟩:=g;subst Z;have F:C.P.elem t=e:=by simp[Program.elem,s]
   have j:C.P.underlying t=some (.slice (C.P.elem t)):=by rw[F];exact s
   simp only[ho,opsOf,I,bO,cj,Option.toList_some,aL,bX,W]at hA;simp only[au]at h
   split at h
   ·rename_i k ver skip kk n
    cases f:M.row k ver with
    |none=>simp only[f]at h
    |some A=>
     simp only[f]at h;obtain⟨RP,q1,q2,Q⟩:=h;obtain⟨d,Kq⟩:=uS f;have WI:=(N.arr k A d).2.1;obtain⟨v,u,y,hx,hn⟩:=dZ hA;simp only[List.cons.injEq,and_true]at y;obtain⟨hv,g⟩:=y;have Y:=hn.toD.fO;have c:∀{u:Value},(Instr.sliceAt t (ρ x) none (some (ρ hi)) none).run C.P w= .ok u w->(execOp ρ o).run C.P w= .ok (.value u) w:=by
      intro u g;simp only[execOp,ho,bc,be,Sem.run_bind,g,Result.andThen_ok,Sem.run_pure]
     rw[hv]at c;have bb:((some (ρ hi):Option Value)=none/\(some n:Option Int)=none)\/∃(k:IntKind) (a:Int),(some (ρ hi):Option Value)=some (.int k a)/\(some n:Option Int)=some a:= .inr ⟨kk,n,by rw[g,Y],rfl⟩
     cases hx with
     |tsl r hh=>
      rename_i len cap l
      obtain⟨p,V⟩:=hh A d;obtain⟨ai,O,h5,L⟩:=V Kq;cases ai with
      |some q=>
       obtain⟨blk,o1,e1⟩:=q;simp only at L;have G:∀l len cap,len=A.elems.length - skip->len<=cap->∃u,(Instr.sliceAt t (.slice l len cap) none (some (ρ hi)) none).run C.P w= .ok u w/\∃J,u= .slice l n.toNat J:=by
        intro l len cap e1 e2;have R:=EX (P:=C.P) (isSlice:=true) (a:=none) (b:=some n) (m:=none) (.inl ⟨rfl,rfl⟩) bb (.inl ⟨rfl,rfl⟩) (fun _ hh=>by cases hh) (by simp) (by simp only[aw,ab];omega) (by simp only[ab];omega) e2 w;refine⟨sliced l 0 n.toNat cap ae.size,?_,?_⟩
        ·rw[run_sliceAt_slice w t _ _ _ _ j,run_slice_any w t l len cap j,R,F]
         simp only[Result.andThen_ok,run_sizeOf jT,aw,ab]
         congr 2
        ·simp[sliced]
         cases l<;>simp[Addr.add]
       rcases L with⟨am,y,hc,an⟩|⟨ax,a',y⟩
       ·cases y
        obtain⟨u',k1,J,rfl⟩:=G _ _ _ rfl hc;rw[c k1];refine .same N Q (.psl r fun B i=> ?_);rw[d]at i;cases i;exact⟨p,fun _=>⟨_,O,by omega,_,_,rfl,fun _=>rfl⟩⟩
       ·cases y
        obtain⟨u',k1,J,rfl⟩:=G _ 0 0 (by omega) (S _);rw[c k1];refine .same N Q (.psl r fun B i=> ?_);rw[d]at i;cases i;exact⟨p,fun _=>⟨_,O,by omega,_,_,rfl,fun az=>by omega⟩⟩
      |none=>
       simp only at L;have T:(A.elems.drop skip).length=A.elems.length - skip:=by simp
       obtain⟨u',g1,g2⟩:=EZ (P:=C.P) (a:=none) (b:=some n) (m:=none) s jT (fun x hx=>by rw[DV.dK (WI x (U hx)),RP]) L (.inl ⟨rfl,rfl⟩) bb (.inl ⟨rfl,rfl⟩) (fun _ hh=>by cases hh) (by simp) (by simpa using q1) (by simp only[ab,T];omega);rw[c g1];have z:bK w (away X M E) u' (.slice false ((A.elems.drop skip).take n.toNat)):=by simpa using g2
       obtain⟨ap,J,ac⟩:=z.kP;have aq:((A.elems.drop skip).take n.toNat).length=n.toNat:=by simp;omega
       subst ac;refine .same N Q (.psl r fun B i=> ?_);rw[d]at i;cases i;exact⟨p,fun _=>⟨none,O,by omega,z⟩⟩
   ·exact h.elim
  ·cases g
 ·cases g
def aeI {t:TypeId}(ho:o.op= .slice t x olo ohi omx){args:List PV}(c:Sim C X w M E)
  (a:aQ w (away X M E) M E ((opsOf o.op).map ρ) args)(b:aN C.P (.slice t x olo ohi omx) (.UC sz)=true){base:Nat}(h:au C base (.UC sz) args M K KP):fB C X w M E K KP ((execOp ρ o).run C.P w):=by
 refine UO (lo:=true) (hi:=false) (mx:=false) (sz:=sz) (base:=base) ho c a b ?_;simp only[au]at h⊢
 split at h
 ·rename_i k ver skip d n
  simp only[zu,dY,ab];cases a:M.row k ver with
  |none=>simp only[a]at h
  |some A=>
   simp only[a]at h⊢;exact⟨trivial,h.1,trivial,h.2.1,h.2.2.1,h.2.2.2⟩
 ·exact h.elim
variable{ass:Array Operand}
def aer {argTypes:Array TypeId}(ho:o.op= .call {callee:= .builtin .copy,args:=ass,argTypes}){args:List PV}(O:Sim C X w M E)(hA:aQ w (away X M E) M E ((opsOf o.op).map ρ) args)
  (J:aN C.P (.call {callee:= .builtin .copy,args:=ass,argTypes}) (.copy sz)=true){base:Nat}(h:au C base (.copy sz) args M K KP):fB C X w M E K KP ((execOp ρ o).run C.P w):=by
 simp only[aN]at J;simp only[ho,opsOf]at hA;simp only[au]at h
 split at h
 ·rename_i k ver skip x
  obtain⟨v,u,he,hr,ac⟩:=dZ hA;have Y:ass.map ρ= #[v,u]:=by apply bj;simpa using he
  obtain⟨R,sT,rfl,F⟩:=VQ (p:=fun a b=>match a,b with
   |some (.slice e),some (.slice _)=>(match C.P.info? e with|some i=>i.size==sz&&decide (0<sz)|none=>false)
   | _,_=>false) J
  split at F
  ·rename_i e d s aod
   split at F
   ·rename_i an jT
    simp only[H,beq_iff_eq,decide_eq_true_eq]at F;obtain⟨N,ae⟩:=F;cases f:M.row k ver with
    |none=>simp only[f]at h
    |some A=>
     cases D:Nw x M with
     |none=>simp only[f,D]at h
     |some ys=>
      simp only[f,D]at h;obtain⟨L,RP,t,G⟩:=h;obtain⟨n,h1,h2,W,h4⟩:=Iu O hr f;obtain⟨r1,r2⟩:=acC O ac D t;have m:∀{r:Value} {w':World},(Builtin.copy_ #[R,sT] o.type #[v,u]).run C.P w= .ok r w'->(execOp ρ o).run C.P w= .ok (.value r) w':=by
       intro r w' hh;simp[execOp,ho,Y,hh,go_sem]
      rcases h4 with⟨blk,o1,e1,vs,T,cap,q1,q2,q3,q4,q5,q6⟩|⟨_,ab,_⟩
      ·obtain⟨j,n1,n2⟩:=r2 (min ys.length (A.elems.length - skip)) (Nat.min_le_left _ _)
       have Y0:∀y∈ys.take (min ys.length (A.elems.length - skip)),y.fits A.sz=true:=fun y hy=>RP▸t y (ai hy)
       have B:(ys.take (min ys.length (A.elems.length - skip))).length=min ys.length (A.elems.length - skip):=by simp
       have q:j.length=min ys.length (A.elems.length - skip)*A.sz:=by rw[n2.length,flat_length fun y hy=>DV.dK (Y0 y hy),B]
       obtain⟨w1,w2⟩:=P5 (skip:=skip) W q5 Y0 (by rw[B];omega) (by omega) n2;have Z:A.elems.take skip++(ys.take (min ys.length (A.elems.length - skip))++A.elems.drop (skip+(ys.take (min ys.length (A.elems.length - skip))).length))=A.elems.take skip++(ys.take (A.elems.length - skip)++A.elems.drop (skip+ys.length)):=by
        rw[B]
        rcases Nat.le_total ys.length (A.elems.length - skip)with hle|hle
        ·rw[bv hle,ao (S _),ao hle]
        ·rw[Nat.min_eq_right hle,aq (by omega),aq (by omega)]
       rw[Z]at w2;have I:(A.elems.take skip++(ys.take (A.elems.length - skip)++A.elems.drop (skip+ys.length))).length=A.elems.length:=by simp;omega
       have anW:∀z∈A.elems.take skip++(ys.take (A.elems.length - skip)++A.elems.drop (skip+ys.length)),z.fits A.sz=true:=by
        intro z hz
        rcases bl.1 hz with hz|hz
        ·exact W z (ai hz)
        ·rcases bl.1 hz with hz|hz
         ·exact RP▸t z (ai hz)
         ·exact W z (U hz)
       rcases q6 with⟨rfl,q7,q8⟩|⟨q7,q9,Q,rfl⟩
       ·have abM:=kC C.P blk (o1+skip*A.sz) T.ty T.fr j 0 vs w q2 T.ok (by
         have:min ys.length (A.elems.length - skip)*A.sz<=(A.elems.length - skip)*A.sz:=am _ (Nat.min_le_right _ _);have h5:skip*A.sz+(A.elems.length - skip)*A.sz=A.elems.length*A.sz:=by rw[<-ax];congr 1;omega
         rw[q];omega) (adI n2 (U5 Y0))
        simp only[cI]at abM;have g:(Builtin.copy_ #[R,sT] o.type #[.slice (some ⟨blk,o1+skip*A.sz,none⟩) (A.elems.length - skip) cap,u]).run C.P w= .ok (goInt (min ys.length (A.elems.length - skip):Nat)) (w.setRow blk (splice vs.toList (o1+skip*A.sz) j).toArray):=by
         have l:=r1 C.P;have c:=n1 C.P;rw[<-N]at c;simp only[Builtin.copy_,sizeOf,typeInfo];simp only[Nat.min_def]at c abM⊢;simp[run_underlying s,l,jT,c,abM,Am.splice]
        rw[m g];obtain⟨t1,t2⟩:=KN O n L q1 q2 I anW w1 w2 (vk w blk vs T.ty _ q2);exact⟨_,_,_,G,t1,t2, .d (.int _ _)⟩
       ·have hz:A.elems.length - skip=0:=by omega
        simp only[hz,cp,Nat.zero_mul,aD]at q;subst q;have g:(Builtin.copy_ #[R,sT] o.type #[.slice Q 0 0,u]).run C.P w= .ok (goInt 0) w:=by
         have l:=r1 C.P;have c:=n1 C.P;rw[<-N]at c;simp only[hz,cp]at c;cases Q with
         |none=>simp[Builtin.copy_,run_underlying s,l,sizeOf,typeInfo,jT,c]
         |some Q=>simp[Builtin.copy_,run_underlying s,l,sizeOf,typeInfo,jT,c,storeCells]
        rw[m g];simp only[hz,cp]at G;have e3:({A with elems:=A.elems.take skip++(ys.take 0++A.elems.drop (skip+ys.length))}:Arr)=A:=by
         have:A.elems.take skip++(ys.take 0++A.elems.drop (skip+ys.length))=A.elems:=by
          rw[cF,bX,aq (by omega),aL,ao (by omega)]
         rw[this]
        rw[e3]at G;have e4:M.aC.set k (some A)=M.aC:=by
         apply bi;intro i;rw[az]
         by_cases hi:k=i
         ·subst hi;rw[if_pos rfl,if_pos (V.1 n).1,n]
         ·simp[hi]
        rw[e4]at G;exact .same O G (.d (.int _ _))
      ·exact absurd L ab
   ·cases F
  ·cases F
 ·exact h.elim
def ag0 {argTypes:Array TypeId}(ho:o.op= .call {callee:= .builtin .clear,args:=ass,argTypes}){args:List PV}(B:Sim C X w M E)(hA:aQ w (away X M E) M E ((opsOf o.op).map ρ) args)
  (a:aN C.P (.call {callee:= .builtin .clear,args:=ass,argTypes}) (.clr sz z)=true){base:Nat}(h:au C base (.clr sz z) args M K KP):fB C X w M E K KP ((execOp ρ o).run C.P w):=by
 simp only[aN,H,beq_iff_eq]at a;obtain⟨h1,a⟩:=a;simp only[ho,opsOf]at hA;simp only[au]at h
 split at a
 ·rename_i e j
  split at a
  ·rename_i ac jT
   split at a
   ·rename_i F hz
    simp only[H,beq_iff_eq,decide_eq_true_eq]at a;obtain⟨⟨⟨ab,u⟩,W⟩,U⟩:=a
    split at h
    ·rename_i k ver skip
     cases g:M.row k ver with
     |none=>simp only[g]at h
     |some A=>
      simp only[g]at h;obtain⟨x,RP,S,q⟩:=h;obtain⟨v,he,hr⟩:=fJ hA;have J:ass.map ρ= #[v]:=by apply bj;simpa using he
      obtain⟨p,rfl⟩:∃p,argTypes= #[p]:=by
       obtain⟨l⟩:=argTypes
       match l,h1 with
       | [t],_=>exact⟨t,rfl⟩
      have j:C.P.underlying p=some (.slice e):=by simpa using j
      obtain⟨c,h1,h2,h3,h4⟩:=Iu B hr g;have f:∀{r:Value} {w':World},(Builtin.clear_ #[p] o.type #[v]).run C.P w= .ok r w'->(execOp ρ o).run C.P w= .ok (.value r) w':=by
       intro r w' hh;simp[execOp,ho,J,hh,go_sem]
      have Y:(zeroValue e).run C.P w= .ok F w:=by simp[zeroValue,typeInfo,jT,hz]
      rcases h4 with⟨blk,D,e1,vs,T,cap,q1,Z,q3,q4,q5,q6⟩|⟨_,Q,_⟩
      ·have n2:=acX (w:=w) (O:=away X M E) (n:=A.elems.length - skip) W U u
       have Y0:∀y∈ap (A.elems.length - skip) z,y.fits A.sz=true:=fun y hy=>by rw[(bo.1 hy).2,RP];exact S
       have R:(Builtin.zeroCells F.cells (A.elems.length - skip)).toList.length=(A.elems.length - skip)*A.sz:=by rw[n2.length,flat_length fun y hy=>DV.dK (Y0 y hy)];simp
       obtain⟨w1,w2⟩:=P5 (skip:=skip) h3 q5 Y0 (by simp;omega) (by omega) n2;have L:List.drop (skip+(ap (A.elems.length - skip) z).length) A.elems=[]:=aq (by simp;omega);rw[L,aL]at w2;have s:(A.elems.take skip++ap (A.elems.length - skip) z).length=A.elems.length:=by simp;omega
       have anW:∀y∈A.elems.take skip++ap (A.elems.length - skip) z,y.fits A.sz=true:=by
        intro y hy
        rcases bl.1 hy with hy|hy
        ·exact h3 y (ai hy)
        ·exact Y0 y hy
       rcases q6 with⟨rfl,q7,q8⟩|⟨q7,q9,a',rfl⟩
       ·by_cases m:A.elems.length - skip=0
        ·have b:(Builtin.clear_ #[p] o.type #[.slice (some ⟨blk,D+skip*A.sz,none⟩) (A.elems.length - skip) cap]).run C.P w= .ok (.tuple #[]) w:=by
          rw[m];simp[Builtin.clear_,run_underlying j]
         rw[f b];have G:({A with elems:=A.elems.take skip++ap (A.elems.length - skip) z}:Arr)=A:=by
          rw[m,b9,aL,ao (by omega)]
         rw[G]at q;have I:M.aC.set k (some A)=M.aC:=by
          apply bi;intro i;rw[az]
          by_cases hi:k=i
          ·subst hi;rw[if_pos rfl,if_pos (V.1 c).1,c]
          ·simp[hi]
         rw[I]at q;exact .same B q (.d (.tup .nil))
        ·have abM:=kC C.P blk (D+skip*A.sz) T.ty T.fr (Builtin.zeroCells F.cells (A.elems.length - skip)).toList 0 vs w Z T.ok (by
          have h5:skip*A.sz+(A.elems.length - skip)*A.sz=A.elems.length*A.sz:=by rw[<-ax];congr 1;omega
          rw[R];omega) (adI n2 (U5 Y0))
         simp only[cI]at abM;have b:(Builtin.clear_ #[p] o.type #[.slice (some ⟨blk,D+skip*A.sz,none⟩) (A.elems.length - skip) cap]).run C.P w= .ok (.tuple #[]) (w.setRow blk (splice vs.toList (D+skip*A.sz) (Builtin.zeroCells F.cells (A.elems.length - skip)).toList).toArray):=by
          obtain⟨n',N⟩:∃n',A.elems.length - skip=n'+1:=⟨A.elems.length - skip - 1,by omega⟩
          rw[N]at abM⊢;simp only[Builtin.clear_];simp[run_underlying j,Y,abM,Am.splice]
         rw[f b];obtain⟨t1,t2⟩:=KN B c x q1 Z s anW w1 w2 (vk w blk vs T.ty _ Z);exact⟨_,_,_,q,t1,t2, .d (.tup .nil)⟩
       ·have m:A.elems.length - skip=0:=by omega
        have b:(Builtin.clear_ #[p] o.type #[.slice a' 0 0]).run C.P w= .ok (.tuple #[]) w:=by
         cases a'<;>simp[Builtin.clear_,run_underlying j]
        rw[f b];have G:({A with elems:=A.elems.take skip++ap (A.elems.length - skip) z}:Arr)=A:=by
         rw[m,b9,aL,ao (by omega)]
        rw[G]at q;have I:M.aC.set k (some A)=M.aC:=by
         apply bi;intro i;rw[az]
         by_cases hi:k=i
         ·subst hi;rw[if_pos rfl,if_pos (V.1 c).1,c]
         ·simp[hi]
        rw[I]at q;exact .same B q (.d (.tup .nil))
      ·exact absurd x Q
    ·exact h.elim
   ·cases a
  ·cases a
 ·cases a
def aeG {t:TypeId}{i:Nat}(ho:o.op= .range t x){args:List PV}(f:Sim C X w M E)(e:aQ w (away X M E) M E ((opsOf o.op).map ρ) args)
  (a:aN C.P (.range t x) (.rngS i)=true){base:Nat}(h:au C base (.rngS i) args M K KP):fB C X w M E K KP ((execOp ρ o).run C.P w):=by
 simp only[aN]at a;simp only[ho,opsOf,I,W]at e
 split at a
 ·rename_i d
  simp only[au]at h
  split at h
  ·rename_i s
   obtain⟨h1,h2⟩:=h;obtain⟨v,g,l⟩:=fJ e;simp only[List.cons.injEq,and_true]at g;subst g;have m:=l.toD.rM;have b:base+i<M.boxes.length:=(V.1 h1).1;have WL:base+i<E.bx.length:=f.iE▸b;have c:(execOp ρ o).run C.P w= .ok (.value (.pointer (some ⟨w.heap.size,0,none⟩))) (w.alloc (.stringIter s 0)):=by
    simp only[execOp,ho,Instr.range,Sem.run_bind,run_underlying d,Result.andThen_ok,m,Sem.run_pure,run_newObj_alloc]
   rw[c];obtain⟨j,k⟩:=XH (o:= .stringIter s 0) (cs:=[.Gj s 0]) f h1 fun _=>heap_alloc_new w _
   exact⟨_,_,_,h2,j,k, .zT (cs:=[.Gj s 0]) (by simp[b]) (by simp[WL]) rfl⟩
  ·exact h.elim
 ·cases a
def aeE {c:Bool}(ho:o.op= .next x c){args:List PV}(r:Sim C X w M E)(A:aQ w (away X M E) M E ((opsOf o.op).map ρ) args)
  (l:aN C.P (.next x c) .Zu=true){base:Nat}(h:au C base .Zu args M K KP):fB C X w M E K KP ((execOp ρ o).run C.P w):=by
 simp only[aN]at l;subst l;simp only[ho,opsOf,I,W]at A;simp only[au]at h
 split at h
 ·rename_i b
  obtain⟨v,B,D⟩:=fJ A;simp only[List.cons.injEq,and_true]at B;subst B
  split at h
  ·rename_i s pos a
   obtain⟨u,h⟩:=h;have g:M.boxes[b]?=some (some [.Gj s pos]):=by
    unfold Mem.box at a
    split at a
    ·rename_i cs t;cases a;exact t
    ·cases a
   generalize n:ρ x=vv at D;cases D with
   |zT j i G=>
    rename_i blk cs
    rw[g]at j;cases j;obtain⟨z,F,N,p⟩:=r.box b _ g;rw[i]at F;cases F;have p:w.heap[blk]?=some (.stringIter s pos):=p;have f:(getObj blk).run C.P w= .ok (.stringIter s pos) w:=by simp[getObj,Sem.run,p]
    have m:∀y:Obj,(setObj blk y).run C.P w= .ok () {w with heap:=w.heap.setIfInBounds blk y}:=fun y=>by simp[setObj,Sem.run,p]
    by_cases q:pos<s.size
    ·rw[if_pos q]at h
     have e:(execOp ρ o).run C.P w= .ok (.value (.tuple #[.bool true, .int .i64 pos, .int .i32 (Utf8.decode s pos).1])) {w with heap:=w.heap.setIfInBounds blk (.stringIter s (pos+(Utf8.decode s pos).2))}:=by
      simp only[execOp,ho,Instr.next,n,Sem.run_bind,f,Result.andThen_ok,if_pos q,m,Sem.run_pure]
      rfl
     rw[e];have k:=dw p;obtain⟨H,J⟩:=Nq (cs':=[.Gj s (pos+(Utf8.decode s pos).2)]) r g u rfl rfl i (MZ w blk (.stringIter s (pos+(Utf8.decode s pos).2)) k) fun L=>by
      show({w with heap:=w.heap.setIfInBounds blk (.stringIter s (pos+(Utf8.decode s pos).2))}:World).heap[blk]?=_
      simp[k]
     exact⟨_,_,_,h,H,J, .d (.tup (.cons (.bool _) (.cons (.int _ _) (.cons (.int _ _) .nil))))⟩
    ·rw[if_neg q]at h
     have e:(execOp ρ o).run C.P w= .ok (.value (.tuple #[.bool false])) w:=by
      simp only[execOp,ho,Instr.next,n,Sem.run_bind,f,Result.andThen_ok,if_neg q,Sem.run_pure]
     rw[e];exact .same r h (.d (.tup (.cons (.bool _) .nil)))
  ·exact h.elim
 ·exact h.elim
variable{P:Program}{name:String}
def acH {t:TypeId}{f:FuncId}(h:IQ P t name=some f)(v:Value)(n:Nat)(w:World):(Go.method (n+1) t v name).run P w= .ok (f,v) w:=by
 unfold IQ at h
 split at h
 ·rename_i i hi
  split at h
  ·rename_i m g
   split at h
   ·rename_i j
    split at h
    ·cases h
    ·rename_i d hd b
     split at h
     ·rename_i k e
      simp only[Option.some.injEq]at h;subst h;have c:m.path.toList=[]:=by simpa using j
      have a:(Go.receiverAt t (.val v) false (if m.path.isEmpty then some ((name.splitOn ".").getLastD name)else none)).run P w= .ok v w:=by
       unfold Go.receiverAt;simp only[Sem.run_bind,run_underlying b,Result.andThen_ok];cases d<;>first|rfl|exact absurd rfl (hd _)
      simp only[Go.method,Sem.run_bind,typeInfo,run_program,Result.andThen_ok,hi,Sem.run_pure,g,c,Go.follow,e,a]
     ·cases h
    ·cases h
   ·cases h
  ·cases h
 ·cases h
def ag2 {r:Operand}{a:String}{argTypes:Array TypeId}(ho:o.op= .call {callee:= .invoke r name,args:=ass,argTypes})
  {args:List PV}(g:aQ w (away X M E) M E ((opsOf o.op).map ρ) args)(b:aN C.P (.call {callee:= .invoke r name,args:=ass,argTypes}) (.inv a)=true){base:Nat}(h:au C base (.inv a) args M K KP):fB C X w M E K KP ((execOp ρ o).run C.P w):=by
 simp only[aN,decide_eq_true_eq]at b;subst b;simp only[ho,opsOf,I]at g;simp only[au]at h
 split at h
 ·rename_i t v i
  obtain⟨f,m,l,h⟩:=h;cases g with
  |cons h1 h2=>
   have hd:=h1.toD;generalize n:ρ r=vv at hd;cases hd with
   |iface p=>
    rename_i u
    have e:(execOp ρ o).run C.P w= .ok (.enter f (#[u]++ass.map ρ)) w:=by
     simp only[execOp,ho,resolve,n,Sem.run_bind,Sem.run_pure,Result.andThen_ok,invoke];have j:(#[Value.iface t u]++ass.map ρ)[0]?=some (.iface t u):=by rw[Array.getElem?_append_left (by simp)];rfl
     have k:(#[Value.iface t u]++ass.map ρ).extract 1 (#[Value.iface t u]++ass.map ρ).size=ass.map ρ:=by
      apply bj;simp only[Array.toList_extract,b7,bN,List.extract_eq_take_drop,Array.size_append,Array.size_map,bp,List.length_singleton,List.singleton_append,b8,bk];rw[ao (by simp)]
     simp only[j,k,callMethod,Sem.run_bind,run_program,Result.andThen_ok];have c:C.P.types.size+Made.depth=(C.P.types.size+Made.depth - 1)+1:=by
      have:0<Made.depth:=by decide
      omega
     rw[c,acH m];simp only[Result.andThen_ok,uU l]
    rw[e];exact⟨rfl,_,h,by simpa using aQ.cons (.d p) h2⟩
 ·exact h.elim
variable{op:BinOp}{y:Operand}
def ag7 {g:BinOp}{t u:TypeId}(ho:o.op= .binOp op t x y u){args:List PV}(s:Sim C X w M E)(m:aQ w (away X M E) M E ((opsOf o.op).map ρ) args)
  (e:aN C.P (.binOp op t x y u) (.shf g)=true){base:Nat}(h:au C base (.shf g) args M K KP):fB C X w M E K KP ((execOp ρ o).run C.P w):=by
 simp only[aN,H,decide_eq_true_eq]at e;obtain⟨⟨rfl,_⟩,_⟩:=e;simp only[ho,opsOf,I,W]at m;simp only[au]at h
 split at h
 ·rename_i k a F b
  obtain⟨D,h⟩:=h;obtain⟨v,G,n,B,j⟩:=dZ m;simp only[List.cons.injEq,and_true]at n;obtain⟨rfl,rfl⟩:=n;have i:=B.toD.fO;have l:=j.toD.fO;have A:(eqGuard op t x y (ρ x) (ρ y)).run C.P w= .ok () w:=uj (.inl ⟨_,_,i⟩) w;have p:¬b<0:=by omega
  have c:∀{v:Value} {d:DV},K (.d d) M->bK w (away X M E) v d->(binOp op t (ρ x) (ρ y)).run C.P w= .ok v w->fB C X w M E K KP ((execOp ρ o).run C.P w):=by
   intro v d q r z;have f:(execOp ρ o).run C.P w= .ok (.value v) w:=by simp[execOp,ho,A,z]
   rw[f];exact .same s q (.d r)
  split at h
  ·exact c h (.int _ _) (by rw[i,l];simp[binOp,Op.shift,p])
  ·exact c h (.int _ _) (by rw[i,l];simp[binOp,Op.shift,p])
  ·exact h.elim
 ·exact h.elim
def run_equalIn_iface_nil {t:TypeId}{ms:Array (String×TypeId)}(a:P.underlying t=some (.interface ms))(w:World)(d:Nat)(u:TypeId)(v:Value):(Op.equalIn (d+1) t (.iface u v) .nilIface).run P w= .ok false w:=by
 simp only[Op.equalIn,Sem.run_bind,run_underlying a,Result.andThen_ok,Sem.run_pure]
def run_equalIn_nil_nil {t:TypeId}{ms:Array (String×TypeId)}(a:P.underlying t=some (.interface ms))(w:World)(d:Nat):(Op.equalIn (d+1) t .nilIface .nilIface).run P w= .ok true w:=by
 simp only[Op.equalIn,Sem.run_bind,run_underlying a,Result.andThen_ok,Sem.run_pure]
def Yn {neq:Bool}{t u:TypeId}(ho:o.op= .binOp op t x y u)(p:∀v,ρ (.const v)=v){args:List PV}(q:Sim C X w M E)(l:aQ w (away X M E) M E ((opsOf o.op).map ρ) args)
  (i:aN C.P (.binOp op t x y u) (.ED neq)=true){base:Nat}(h:au C base (.ED neq) args M K KP):fB C X w M E K KP ((execOp ρ o).run C.P w):=by
 simp only[aN,H]at i;obtain⟨⟨a,j⟩,s⟩:=i
 split at j
 ·rename_i ms k
  split at s
  ·simp only[ho,opsOf,I,W,p]at l
   obtain⟨v,n⟩:∃v,v=ρ x:=⟨_,rfl⟩
   rw[<-n]at l;have e:∀b:Bool,(Op.equal t v .nilIface).run C.P w= .ok b w->(eqGuard op t x (.const .nilIface) v .nilIface).run C.P w= .ok () w->(execOp ρ o).run C.P w= .ok (.value (.bool (b !=neq))) w:=by
    intro b g r;cases op<;>simp only[ae,an]at a
    ·subst a
     simp only[execOp,ho,Sem.run_bind,p,<-n,r,Result.andThen_ok,binOp,g,Sem.run_pure];simp
    ·subst a
     simp only[execOp,ho,Sem.run_bind,p,<-n,r,Result.andThen_ok,binOp,g,Sem.run_pure];simp
   simp only[au]at h
   split at h
   ·rename_i D B
    obtain⟨A,z,f,m,_⟩:=dZ l;simp only[List.cons.injEq,and_true]at f;obtain⟨rfl,_⟩:=f;have hd:=m.toD;generalize c:v=vv at hd;cases hd with
    |iface hh=>
     subst c;rw[e false (run_equalIn_iface_nil k w 9999 _ _) (by unfold eqGuard;simp<;>split<;>simp)];exact .same q (by simpa using h) (.d (.bool _))
   ·obtain⟨A,z,f,m,_⟩:=dZ l
    simp only[List.cons.injEq,and_true]at f;obtain⟨rfl,_⟩:=f;have hd:=m.toD;generalize c:v=vv at hd;cases hd with
    |nilIface=>
     subst c;rw[e true (run_equalIn_nil_nil k w 9999) (by unfold eqGuard;simp<;>split<;>simp)];exact .same q (by simpa using h) (.d (.bool _))
   ·exact h.elim
  ·cases s
 ·cases j
end
section
variable {C:Ctx}{X:Nat->Prop}{w:World}{M:Mem}{E:Emb}{K:PV->Mem->Prop}{KP:DV->Mem->Prop}{O:Nat->Prop}
variable{P:Program}
def qy {t e:TypeId}{a:Option Addr}(b:P.underlying t=some (.pointer e))(w:World)(d:Nat):(Op.equalIn (d+1) t (.pointer a) (.pointer none)).run P w= .ok a.isNone w:=by
 cases a<;>simp only[Op.equalIn,Sem.run_bind,run_underlying b,Result.andThen_ok,Sem.run_pure,cg,ch]
variable{ρ:Operand->Value}{o:Oper}{x y:Operand}
def Yo {op:BinOp}{neq:Bool}{t u:TypeId}(ho:o.op= .binOp op t x y u)(r:∀v,ρ (.const v)=v){args:List PV}(p:Sim C X w M E)(k:aQ w (away X M E) M E ((opsOf o.op).map ρ) args)
  (m:aN C.P (.binOp op t x y u) (.yx neq)=true){base:Nat}(h:au C base (.yx neq) args M K KP):fB C X w M E K KP ((execOp ρ o).run C.P w):=by
 simp only[aN,H]at m;obtain⟨⟨g,n⟩,z⟩:=m
 split at n
 ·rename_i e i
  split at z
  ·simp only[ho,opsOf,I,W,r]at k
   obtain⟨v,q⟩:∃v,v=ρ x:=⟨_,rfl⟩
   rw[<-q]at k;have f:∀b:Bool,(Op.equal t v (.pointer none)).run C.P w= .ok b w->(eqGuard op t x (.const (.pointer none)) v (.pointer none)).run C.P w= .ok () w->(execOp ρ o).run C.P w= .ok (.value (.bool (b !=neq))) w:=by
    intro b l s;cases op<;>simp only[ae,an]at g
    ·subst g
     simp only[execOp,ho,Sem.run_bind,r,<-q,s,Result.andThen_ok,binOp,l,Sem.run_pure];simp
    ·subst g
     simp only[execOp,ho,Sem.run_bind,r,<-q,s,Result.andThen_ok,binOp,l,Sem.run_pure];simp
   simp only[au]at h
   split at h
   ·obtain⟨B,A,c,j,_⟩:=dZ k
    simp only[List.cons.injEq,and_true]at c;obtain⟨rfl,_⟩:=c;generalize a:v=vv at j;cases j with
    |ptr _ _ _=>
     subst a;rw[f false (qy i w 9999) (by unfold eqGuard;simp<;>split<;>simp)];exact .same p (by simpa using h) (.d (.bool _))
   ·obtain⟨B,A,c,j,_⟩:=dZ k
    simp only[List.cons.injEq,and_true]at c;obtain⟨rfl,_⟩:=c;have hd:=j.toD;generalize a:v=vv at hd;cases hd with
    |aP _ _ _=>
     subst a;rw[f false (qy i w 9999) (by unfold eqGuard;simp<;>split<;>simp)];exact .same p (by simpa using h) (.d (.bool _))
   ·obtain⟨B,A,c,j,_⟩:=dZ k
    simp only[List.cons.injEq,and_true]at c;obtain⟨rfl,_⟩:=c;have hd:=j.toD;generalize a:v=vv at hd;cases hd with
    |nilPtr=>
     subst a;rw[f true (qy i w 9999) (by unfold eqGuard;simp<;>split<;>simp)];exact .same p (by simpa using h) (.d (.bool _))
   ·exact h.elim
  ·cases z
 ·cases n
variable{i:Operand}{sz len:Nat}
def aaT {t:TypeId}(ho:o.op= .indexAddr t x i){args:List PV}(F:Sim C X w M E)(q:aQ w (away X M E) M E ((opsOf o.op).map ρ) args)
  (a:aN C.P (.indexAddr t x i) (.GL sz len)=true){base:Nat}(h:au C base (.GL sz len) args M K KP):fB C X w M E K KP ((execOp ρ o).run C.P w):=by
 simp only[aN]at a
 split at a
 ·rename_i n e A
  simp only[H,beq_iff_eq]at a;obtain⟨rfl,a⟩:=a
  split at a
  ·rename_i O jT
   simp only[H,beq_iff_eq,decide_eq_true_eq]at a;obtain⟨z,G⟩:=a;have c:∀blk p k m,ρ x= .pointer (some ⟨blk,p,none⟩)->ρ i= .int k m->0<=m->m<(n:Int)->(execOp ρ o).run C.P w= .ok (.value (.pointer (some ⟨blk,p+m.toNat*sz,none⟩))) w:=by
    intro blk p k m h1 h2 J L;simp[execOp,ho,h1,h2,Instr.indexAt,Instr.sureAddr,asIntOf,run_underlying A,J,L,run_sizeOf jT,z,Addr.add_lit]
   simp only[ho,opsOf,I,W]at q;simp only[au]at h
   split at h
   ·rename_i b D k m
    obtain⟨v,u,g,j,f⟩:=dZ q;simp only[List.cons.injEq,and_true]at g;obtain⟨rfl,rfl⟩:=g;have l:=f.toD.fO;generalize B:ρ x=vv at j;cases j with
    |ptr N r y=>
     rw[c _ _ _ _ B l h.1 h.2.1];exact .same F h.2.2 (.ptr N r y)
   ·rename_i cs k m
    obtain⟨v,u,g,j,f⟩:=dZ q;simp only[List.cons.injEq,and_true]at g;obtain⟨rfl,rfl⟩:=g;have l:=f.toD.fO;have hd:=j.toD;generalize B:ρ x=vv at hd;cases hd with
    |aP r s hh=>
     rename_i blk D T
     rw[c _ _ _ _ B l h.1 h.2.1];refine .same F h.2.2.2 (.d (.aP r s ?_));have:=hh.drop (m.toNat*sz);rw[bz,a6]at this;rw[bR];exact this
   ·exact h.elim
  ·cases a
 ·cases a
def OV {agg:Bool}{sz:Nat}:∀{n:Nat} {cs:List DV},cs.length=n*sz->(agg=false->sz=1/\∀c∈cs,c.one=true)->flat (vY agg sz n cs)=cs/\(∀x∈vY agg sz n cs,x.cells.length=sz)/\(vY agg sz n cs).length=n
 |0,cs,h,_=>by
  have:cs=[]:=aD.1 (by omega);subst this;simp[vY,flat]
 |n+1,cs,h,i=>by
  have l:(cs.drop sz).length=n*sz:=by rw[bR,h,cJ];omega
  have j:sz<=cs.length:=by rw[h,cJ];omega
  obtain⟨h1,h2,g⟩:=OV (agg:=agg) l fun e=>⟨(i e).1,fun c k=>(i e).2 c (U k)⟩
  cases agg with
  |true=>
   refine⟨?_,?_,by simp[vY,g]⟩
   ·simp only[vY,cond_true]
    rw[flat,cl]
    show(DV.agg (cs.take sz)).cells++flat _=cs
    rw[h1];simp[DV.cells]
   ·intro x b
    simp only[vY,cond_true,bL]at b
    rcases b with rfl|b
    ·simp only[DV.cells,cv];omega
    ·exact h2 x b
  |false=>
   obtain⟨rfl,f⟩:=i rfl;obtain⟨c,a,rfl⟩:∃c a,cs=c::a:=by
    cases cs with
    |nil=>simp at j
    |cons c a=>exact⟨c,a,rfl⟩
   have d:c.cells=[c]:=by
    have:=f c (by simp);cases c<;>first|rfl|simp[DV.one]at this
   refine⟨?_,?_,by simp only[b8,bk]at g;simp[vY,g]⟩
   ·simp only[vY,cond_false,cC]
    rw[flat,cl]
    show c.cells++flat _=_
    rw[h1,d];simp
   ·intro x b
    simp only[vY,cond_false,cC,bL]at b
    rcases b with rfl|b
    ·rw[d];rfl
    ·exact h2 x b
def aeH {t:TypeId}{lo hi mx:Option Operand}{agg:Bool}(ho:o.op= .slice t x lo hi mx){args:List PV}(s:Sim C X w M E)(j:aQ w (away X M E) M E ((opsOf o.op).map ρ) args)
  (a:aN C.P (.slice t x lo hi mx) (.UA agg sz len)=true){base:Nat}(h:au C base (.UA agg sz len) args M K KP):fB C X w M E K KP ((execOp ρ o).run C.P w):=by
 simp only[aN,H,Option.isNone_iff_eq_none]at a;obtain⟨⟨⟨a,rfl⟩,rfl⟩,rfl⟩:=a
 split at a
 ·rename_i n e g
  simp only[H,beq_iff_eq]at a;obtain⟨rfl,a⟩:=a
  split at a
  ·rename_i D jT
   simp only[H,beq_iff_eq,decide_eq_true_eq]at a;obtain⟨A,m⟩:=a;simp only[ho,opsOf,I,W,cj,aL]at j;simp only[au]at h
   split at h
   ·rename_i cs
    obtain⟨l,b,h⟩:=h;obtain⟨v,k,z⟩:=fJ j;simp only[List.cons.injEq,and_true]at k;subst k;have hd:=z.toD;generalize B:ρ x=vv at hd;obtain⟨p,q,r⟩:=OV (n:=n) l b;cases hd with
    |aP u f hh=>
     rename_i blk i T fz ws
     have c:(execOp ρ o).run C.P w= .ok (.value (.slice (some ⟨blk,i,none⟩) n n)) w:=by
      by_cases y:n=0<;>simp[execOp,ho,B,Instr.sliceAt,Instr.sureAddr,run_underlying g,Instr.sliceBounds,run_sizeOf jT,y,Addr.add_lit]
     rw[c];refine .same s h (.d (.slice u f r q (S _) (fun _=>rfl) ?_));rw[p,<-l];exact hh
   ·exact h.elim
  ·cases a
 ·cases a
structure KeyLaw (P:Program) (key:TypeId) (ks:List Nat) (O:Nat->Prop) (w:World) (v:Value) (k:DV)where
 fnd:List MapEntry->Nat->Sem (Option (Nat×Value))
 nil:∀i,(fnd [] i).run P w= .ok none w
 cons:∀{e:MapEntry} {es:List MapEntry} {i:Nat} {d:DV} {t:Bool},bK w O e.key d->iP ks k d=some t->(fnd (e::es) i).run P w=if t then .ok (some (i,e.val)) w else(fnd es (i+1)).run P w
 find:∀{es:List MapEntry} {x:Option (Nat×Value)},(fnd es 0).run P w= .ok x w->(Instr.findKey key v es).run P w= .ok x w
 check:∀em:Bool,(Instr.checkKey em 10000 key v).run P w= .ok () w
 stays:∀{u:Value} {d:DV},bK w O u d->iP ks k d=some true->(Instr.keyThatStays u v).run P w= .ok v w
variable{ks:List Nat}
theorem ab2 {key:TypeId}(hk:Zd P key ks=true){v:Value}{k:DV}(hv:bK w O v k)(hc:iP ks k k=some true):Nonempty (KeyLaw P key ks O w v k):=by
 unfold Zd at hk
 split at hk
 ·rename_i fs a
  simp only[H,ae]at hk;obtain⟨b,m,y⟩:=hk;obtain⟨xs,rfl⟩:∃xs,k= .agg xs:=by cases k<;>first|exact⟨_,rfl⟩|simp[iP]at hc<;>simp[hc]at b
  simp only[iP,b,an,if_false]at hc;obtain⟨vs,rfl,A⟩:=hv.wP;refine⟨⟨fun es i=>Instr.findAsking key (.agg vs) es i,fun i=>by simp[Instr.findAsking],?_,?_,fun C=>yh a m A hc C,?_⟩⟩
  ·intro e es i d t hd c
   obtain⟨g,rfl⟩:∃g,d= .agg g:=by cases d<;>first|exact⟨_,rfl⟩|simp[iP]at c
   simp only[iP,b,an,if_false]at c;obtain⟨ys,j,B⟩:=hd.wP;have s:(Op.equal key (.agg vs) e.key).run P w= .ok t w:=by
    show(Op.equalIn 10000 key (.agg vs) e.key).run P w= .ok t w
    have l:P.fieldsOf key=fs:=by simp[Program.fieldsOf,a]
    rw[j,run_equalIn_agg w 9999 key vs ys (by rw[l];exact a) y,l];exact uh 9998 m (by simpa using A) (by simpa using B) c
   cases t<;>simp[Instr.findAsking,s]
  ·intro es x h
   rw[run_findKey_eq (P:=P) w (by rw[a])];exact h
  ·intro u d z hd
   obtain⟨g,rfl⟩:∃g,d= .agg g:=by cases d<;>first|exact⟨_,rfl⟩|simp[iP]at hd
   simp only[iP,b,an,if_false]at hd;obtain⟨ys,rfl,B⟩:=z.wP;obtain⟨b1,b2⟩:=QO A B hd;have ahX:Instr.sameBits 10000 (.agg ys) (.agg vs)=true:=by
    simp only[Instr.sameBits,H,beq_iff_eq];exact⟨by simpa using b1.symm,b2⟩
   simp only[Instr.keyThatStays,ahX,if_true,Sem.run_pure]
 ·rename_i p a
  obtain⟨q,n,rfl⟩:∃q n,k= .int q n:=by cases k<;>first|exact⟨_,_,rfl⟩|simp[iP,hk]at hc
  have E:=hv.fO;subst E;refine⟨⟨fun es i=>match Instr.findNow (.int p) (.int q n) es i with|some r=>pure r|none=>stuck "",fun i=>by simp[Instr.findNow],?_,?_,?_,?_⟩⟩
  ·intro e es i d t hd c
   obtain⟨o,n2,rfl⟩:∃o n2,d= .int o n2:=by cases d<;>first|exact⟨_,_,rfl⟩|simp[iP]at c
   have j:=hd.fO;simp only[iP,hk,true_and]at c
   split at c
   ·rename_i f
    cases c;subst f;simp only[Instr.findNow,j,Instr.sameNow,if_true];cases F:n==n2<;>simp
   ·cases c
  ·intro es x h
   simp only[Instr.findKey,Sem.run_bind,run_underlying a,Result.andThen_ok];cases D:Instr.findNow (.int p) (.int q n) es 0 with
   |none=>rw[D]at h;simp[stuck]at h
   |some r=>rw[D]at h;exact h
  ·intro C
   rw[show(10000:Nat)=9999+1 from rfl,Instr.checkKey];simp only[Sem.run_bind,run_underlying a,Result.andThen_ok,Sem.run_pure]
  ·intro u d z hd
   obtain⟨o,n2,rfl⟩:∃o n2,d= .int o n2:=by cases d<;>first|exact⟨_,_,rfl⟩|simp[iP]at hd
   have j:=z.fO;simp only[iP,hk,true_and]at hd
   split at hd
   ·rename_i f
    simp only[Option.some.injEq,beq_iff_eq]at hd;subst f hd j;simp[Instr.keyThatStays,Instr.sameBits]
   ·cases hd
 ·cases hk
def EY (ks:List Nat):List (DV×DV)->DV->Bool
 | [],_=>true
 |(a,_)::l,k=>match iP ks k a with|some true=>true|some false=>EY ks l k|none=>false
def VJ {ks:List Nat}{k:DV}:∀{l:List (DV×DV)} {r:Option DV},qp ks l k=some r->EY ks l k=true
 | [],_,_=>rfl
 |(c,v)::l,r,h=>by
  simp only[qp]at h;simp only[EY];cases a:iP ks k c with
  |none=>simp[a]at h
  |some b=>cases b with
   |true=>rfl
   |false=>simp only[a]at h;exact VJ h
def aae {ks:List Nat}{k v:DV}:∀{l d:List (DV×DV)},FH ks l k v=some d->EY ks l k=true
 | [],_,_=>rfl
 |(c,e)::l,r,h=>by
  simp only[FH]at h;simp only[EY];cases a:iP ks k c with
  |none=>simp[a]at h
  |some b=>cases b with
   |true=>rfl
   |false=>
    simp only[a,J]at h;obtain⟨l2,h,_⟩:=h;exact aae h
def aad {ks:List Nat}{k:DV}:∀{l d:List (DV×DV)},FD ks l k=some d->EY ks l k=true
 | [],_,_=>rfl
 |(c,e)::l,r,h=>by
  simp only[FD]at h;simp only[EY];cases a:iP ks k c with
  |none=>simp[a]at h
  |some b=>cases b with
   |true=>rfl
   |false=>
    simp only[a,J]at h;obtain⟨l2,h,_⟩:=h;exact aad h
def Lu {P:Program}{key:TypeId}{ks:List Nat}{v:Value}{k:DV}(L:KeyLaw P key ks O w v k):∀(es:List MapEntry) (l:List (DV×DV)) (i:Nat),aV w O (es.map (·.key)) (l.map (·.1))->aV w O (es.map (·.val)) (l.map (·.2))->EY ks l k=true->
  ∃x,(L.fnd es i).run P w= .ok x w/\
   ((x=none/\qp ks l k=some none/\(∀y,FH ks l k y=some (l++ [(k,y)]))/\FD ks l k=some l)\/
   (∃j u e c dv,x=some (i+j,u)/\es[j]?=some e/\j<l.length/\bK w O e.key c/\bK w O u dv/\iP ks k c=some true/\qp ks l k=some (some dv)/\(∀y,FH ks l k y=some (l.set j (k,y)))/\FD ks l k=some (l.eraseIdx j)))
 | [],[],i,_,_,_=>⟨none,L.nil i, .inl ⟨rfl,rfl,fun _=>rfl,rfl⟩⟩
 |e::es,(c,dv)::l,i,h1,h2,h=>by
  simp only[I]at h1 h2;cases h1 with
  |cons q m=>cases h2 with
   |cons A n=>
    simp only[EY]at h;cases a:iP ks k c with
    |none=>simp[a]at h
    |some b=>
     have d:=L.cons (es:=es) (i:=i) q a;cases b with
     |true=>
      simp only[if_true]at d;exact⟨_,d, .inr ⟨0,e.val,e,c,dv,rfl,rfl,by simp,q,A,a,by simp[qp,a],fun y=>by simp[FH,a],by simp[FD,a]⟩⟩
     |false=>
      simp only[a]at h;simp only[an,if_false]at d;obtain⟨x,t,z⟩:=Lu L es l (i+1) m n h;refine⟨x,d.trans t,?_⟩
      rcases z with⟨rfl,o,r,p⟩|⟨j,u,s,f,g,rfl,o,r,p,B,C,D,E,F⟩
      ·exact .inl ⟨rfl,by simp[qp,a,o],fun y=>by simp[FH,a,r],by simp[FD,a,p]⟩
      ·exact .inr ⟨j+1,u,s,f,g,by simp;omega,by simpa using o,by simp;omega,p,B,C,by simp[qp,a,D],fun y=>by simp[FH,a,E],by simp[FD,a,F]⟩
 | [],_::_,_,h1,_,_=>by simp at h1;cases h1
 | _::_,[],_,h1,_,_=>by simp at h1;cases h1
def map_eraseIdx {α β:Type}(f:α->β):∀(l:List α) (j:Nat),(l.eraseIdx j).map f=(l.map f).eraseIdx j
 | [],_=>rfl
 | _::_,0=>rfl
 |a::l,j+1=>by simp[map_eraseIdx f l j]
def aV.eraseIdx {vs:List Value}{ds:List DV}(h:aV w O vs ds)(j:Nat):aV w O (vs.eraseIdx j) (ds.eraseIdx j):=by
 rw[bq,bq];exact(h.take j).append (h.drop (j+1))
def Xf {b:Nat}{l:List (DV×DV)}(i:Sim C X w M E)(a:M.box b=some [.iO l]){v:Value}(n:Rep w (away X M E) M E v (.mref b)):
  ∃blk es clock,v= .map (some blk)/\E.bx[b]?=some blk/\M.boxes[b]?=some (some [.iO l])/\w.heap[blk]?=some (.map es clock)/\aV w (away X M E) (es.toList.map (·.key)) (l.map (·.1))/\aV w (away X M E) (es.toList.map (·.val)) (l.map (·.2)):=by
 have c:M.boxes[b]?=some (some [.iO l]):=by
  unfold Mem.box at a
  split at a
  ·rename_i cs f;cases a;exact f
  ·cases a
 cases n with
 |mref e d m=>
  rename_i blk cs
  rw[c]at e;cases e;obtain⟨g,h,q,p⟩:=i.box b _ c;rw[d]at h;cases h;obtain⟨es,clock,j,k,o⟩:=p;exact⟨blk,es,clock,rfl,d,c,j,k,o⟩
def aeA {t:TypeId}{c ok:Bool}{z:DV}(ho:o.op= .lookup t x i c){args:List PV}(U:Sim C X w M E)(T:aQ w (away X M E) M E ((opsOf o.op).map ρ) args)
  (N:aN C.P (.lookup t x i c) (.Jg ok ks z)=true){base:Nat}(h:au C base (.Jg ok ks z) args M K KP):fB C X w M E K KP ((execOp ρ o).run C.P w):=by
 simp only[aN,H,beq_iff_eq]at N;obtain⟨rfl,f⟩:=N
 split at f
 ·rename_i am e O
  simp only[H]at f;obtain⟨J,s⟩:=f
  split at s
  ·rename_i ai jT
   split at s
   ·rename_i z' ab
    simp only[ho,opsOf,I,W]at T;have ac:(zeroValue e).run C.P w= .ok z' w:=by simp[zeroValue,typeInfo,jT,ab]
    have n:∀(blk:Nat) (es:Array MapEntry) (clock:Nat) (l:List (DV×DV)) (k:DV) (r:Option DV),ρ x= .map (some blk)->w.heap[blk]?=some (.map es clock)->aV w (away X M E) (es.toList.map (·.key)) (l.map (·.1))->aV w (away X M E) (es.toList.map (·.val)) (l.map (·.2))->
      bK w (away X M E) (ρ i) k->iP ks k k=some true->qp ks l k=some r->K (.d (GI c z r)) M->fB C X w M E K KP ((execOp ρ o).run C.P w):=by
     intro blk es clock l k r g V Y hv Z B p hK;obtain⟨L⟩:=ab2 (P:=C.P) J Z B;obtain⟨y,g1,g2⟩:=Lu L es.toList l 0 Y hv (VJ p);have D:=L.check es.isEmpty;have G:=L.find g1;have m:(getObj blk).run C.P w= .ok (.map es clock) w:=by simp[getObj,Sem.run,V]
     rcases g2 with⟨rfl,Q,_,_⟩|⟨j,u,e',dk,dv,rfl,_,_,_,R,_,S,_,_⟩
     ·rw[p]at Q;cases Q
      have a:(execOp ρ o).run C.P w= .ok (.value (if c then .tuple #[z', .bool false]else z')) w:=by
       simp only[execOp,ho,Instr.lookup,Sem.run_bind,run_underlying O,Result.andThen_ok,g,m,Sem.run_pure,D,G,ac]
      rw[a];refine .same U hK (.d ?_);cases c
      ·exact mG s
      ·exact .tup (.cons (mG s) (.cons (.bool _) .nil))
     ·rw[p]at S;cases S
      have a:(execOp ρ o).run C.P w= .ok (.value (if c then .tuple #[u, .bool true]else u)) w:=by
       simp only[execOp,ho,Instr.lookup,Sem.run_bind,run_underlying O,Result.andThen_ok,g,m,Sem.run_pure,D,G]
      rw[a];refine .same U hK (.d ?_);cases c
      ·exact R
      ·exact .tup (.cons R (.cons (.bool _) .nil))
    simp only[au]at h
    split at h
    ·rename_i l k
     obtain⟨v,u',F,hr,q⟩:=dZ T;simp only[List.cons.injEq,and_true]at F;obtain⟨rfl,rfl⟩:=F
     split at h
     ·rename_i r B p
      have hm:=hr.toD;generalize g:ρ x=vv at hm;cases hm with
      |map V ae Y hv=>exact n _ _ _ l k r g V Y hv q.toD B p h
     ·exact h.elim
    ·rename_i b k
     obtain⟨v,u',F,hr,q⟩:=dZ T;simp only[List.cons.injEq,and_true]at F;obtain⟨rfl,rfl⟩:=F
     split at h
     ·rename_i l A
      split at h
      ·rename_i r B p
       obtain⟨blk,es,clock,Q,q2,q3,R,q5,S⟩:=Xf U A hr;exact n _ _ _ l k r Q R q5 S q.toD B p h
      ·exact h.elim
     ·exact h.elim
    ·exact h.elim
   ·cases s
  ·cases s
 ·cases f
def aeC {t:TypeId}(ho:o.op= .mapUpdate t x i y){args:List PV}(hS:Sim C X w M E)(hA:aQ w (away X M E) M E ((opsOf o.op).map ρ) args)
  (f:aN C.P (.mapUpdate t x i y) (.acf ks)=true){base:Nat}(h:au C base (.acf ks) args M K KP):fB C X w M E K KP ((execOp ρ o).run C.P w):=by
 simp only[aN]at f
 split at f
 ·rename_i ac e H
  simp only[ho,opsOf,I,W]at hA;simp only[au]at h
  split at h
  ·rename_i b k v
   obtain⟨v1,v2,v3,he,hr,p,G⟩:=KH hA;simp only[List.cons.injEq,and_true]at he;obtain⟨rfl,rfl,rfl⟩:=he
   split at h
   ·rename_i l s
    obtain⟨R,h⟩:=h
    split at h
    ·rename_i Y hc D
     obtain⟨blk,es,clock,J,O,Q,N,T,V⟩:=Xf hS s hr;obtain⟨L⟩:=ab2 (P:=C.P) f p.toD hc;obtain⟨z,g1,g2⟩:=Lu L es.toList l 0 T V (aae D);have A:=L.check false;have n:=L.find g1;have g:(getObj blk).run C.P w= .ok (.map es clock) w:=by simp[getObj,Sem.run,N]
     have F:=dw N;have m:∀Z:Obj,(setObj blk Z).run C.P w= .ok () {w with heap:=w.heap.setIfInBounds blk Z}:=fun Z=>by simp[setObj,Sem.run,N]
     have r:∀(c:Array MapEntry) (a:Nat),aV w (away X M E) (c.toList.map (·.key)) (Y.map (·.1))->aV w (away X M E) (c.toList.map (·.val)) (Y.map (·.2))->
       fB C X w M E K KP (.ok .skip {w with heap:=w.heap.setIfInBounds blk (.map c a)}):=by
      intro c a p1 p2;obtain⟨s1,s2⟩:=Nq (cs':=[.iO Y]) hS Q R rfl rfl O (MZ w blk (.map c a) F) fun hf=>⟨c,a,by simp[F],p1.from hf,p2.from hf⟩
      exact⟨_,_,h,s1,s2⟩
     rcases g2 with⟨rfl,_,q2,_⟩|⟨j,u,en,dk,dv,rfl,q1,q2,q3,q4,q5,_,q7,_⟩
     ·rw[q2]at D;cases D
      have d:(execOp ρ o).run C.P w= .ok .skip {w with heap:=w.heap.setIfInBounds blk (.map (es.push {key:=ρ i,val:=ρ y,born:=clock}) (clock+1))}:=by
       simp only[execOp,ho,Instr.mapUpdate,Sem.run_bind,run_underlying H,Result.andThen_ok,J,g,A,n,m];simp[Sem.run_pure]
      rw[d];refine r _ _ ?_ ?_
      ·simpa using T.append (.cons p.toD .nil)
      ·simpa using V.append (.cons G.toD .nil)
     ·rw[q7]at D;cases D
      have S:es[j]?=some en:=by simpa using q1
      have B:j<es.size:=dw S;have ah5:(Instr.keyThatStays (((es[j]?).map (·.key)).getD (ρ i)) (ρ i)).run C.P w= .ok (ρ i) w:=by
       simp only[S,be,ab];exact L.stays q3 q5
      have d:(execOp ρ o).run C.P w= .ok .skip {w with heap:=w.heap.setIfInBounds blk (.map (es.modify j fun e=>{e with key:=ρ i,val:=ρ y}) clock)}:=by
       simp only[a8]at n;simp only[execOp,ho,Instr.mapUpdate,Sem.run_bind,run_underlying H,Result.andThen_ok,J,g,A,n,ah5,m];simp[Sem.run_pure]
      rw[d];have hm:(es.modify j fun e=>{e with key:=ρ i,val:=ρ y}).toList=es.toList.set j {en with key:=ρ i,val:=ρ y}:=by
       apply bi;intro q;rw[az];simp only[bh,b0]
       by_cases U:j=q
       ·subst U;rw[if_pos rfl,if_pos rfl,S,if_pos (by simpa using B)];rfl
       ·rw[if_neg U,if_neg U]
      refine r _ _ ?_ ?_
      ·rw[hm,a7,a7];exact T.set j p.toD
      ·rw[hm,a7,a7];exact V.set j G.toD
    ·exact h.elim
   ·exact h.elim
  ·exact h.elim
 ·cases f
def aez {argTypes:Array TypeId}{ass:Array Operand}(ho:o.op= .call {callee:= .builtin .delete,args:=ass,argTypes}){args:List PV}(W:Sim C X w M E)(V:aQ w (away X M E) M E ((opsOf o.op).map ρ) args)
  (c:aN C.P (.call {callee:= .builtin .delete,args:=ass,argTypes}) (.acd ks)=true){base:Nat}(h:au C base (.acd ks) args M K KP):fB C X w M E K KP ((execOp ρ o).run C.P w):=by
 simp only[aN,H,beq_iff_eq]at c;obtain⟨h1,c⟩:=c;simp only[ho,opsOf]at V;simp only[au]at h
 split at c
 ·rename_i S e g
  split at h
  ·rename_i b k
   obtain⟨v1,D,he,hr,Q⟩:=dZ V;have F:ass.map ρ= #[v1,D]:=by apply bj;simpa using he
   split at h
   ·rename_i l v
    obtain⟨N,h⟩:=h
    split at h
    ·rename_i T hc y
     obtain⟨q,B,rfl⟩:∃q B,argTypes= #[q,B]:=by
      obtain⟨l⟩:=argTypes
      match l,h1 with
      | [t,u],_=>exact⟨t,u,rfl⟩
     have g:C.P.underlying q=some (.map S e):=by simpa using g
     obtain⟨blk,es,clock,rfl,I,J,G,O,R⟩:=Xf W v hr;obtain⟨L⟩:=ab2 (P:=C.P) c Q.toD hc;obtain⟨z,g1,g2⟩:=Lu L es.toList l 0 O R (aad y);have x:=L.check es.isEmpty;have p:=L.find g1;have m:(getObj blk).run C.P w= .ok (.map es clock) w:=by simp[getObj,Sem.run,G]
     have A:=dw G;have n:∀U:Obj,(setObj blk U).run C.P w= .ok () {w with heap:=w.heap.setIfInBounds blk U}:=fun U=>by simp[setObj,Sem.run,G]
     have i:∀{r:Value} {w':World},(Builtin.delete_ #[q,B] o.type #[.map (some blk),D]).run C.P w= .ok r w'->(execOp ρ o).run C.P w= .ok (.value r) w':=by
      intro r w' hh;simp[execOp,ho,F,hh,go_sem]
     have s:∀(a:Array MapEntry),aV w (away X M E) (a.toList.map (·.key)) (T.map (·.1))->aV w (away X M E) (a.toList.map (·.val)) (T.map (·.2))->
       fB C X w M E K KP (.ok (.value (.tuple #[])) {w with heap:=w.heap.setIfInBounds blk (.map a clock)}):=by
      intro a p1 p2;obtain⟨s1,s2⟩:=Nq (cs':=[.iO T]) W J N rfl rfl I (MZ w blk (.map a clock) A) fun Y=>⟨a,clock,by simp[A],p1.from Y,p2.from Y⟩
      exact⟨_,_,_,h,s1,s2, .d (.tup .nil)⟩
     rcases g2 with⟨rfl,_,_,q3⟩|⟨j,u,en,dk,dv,rfl,q1,q2,_,_,_,_,_,q8⟩
     ·rw[q3]at y;cases y
      have f:(Builtin.delete_ #[q,B] o.type #[.map (some blk),D]).run C.P w= .ok (.tuple #[]) {w with heap:=w.heap.setIfInBounds blk (.map es clock)}:=by
       simp[Builtin.delete_,Sem.run_bind,run_underlying g,m,x,p,n]
      rw[i f];exact s _ O R
     ·rw[q8]at y;cases y
      have f:(Builtin.delete_ #[q,B] o.type #[.map (some blk),D]).run C.P w= .ok (.tuple #[]) {w with heap:=w.heap.setIfInBounds blk (.map (es.eraseIdxIfInBounds j) clock)}:=by
       simp only[a8]at p;simp[Builtin.delete_,Sem.run_bind,run_underlying g,m,x,p,n]
      rw[i f];have Z:(es.eraseIdxIfInBounds j).toList=es.toList.eraseIdx j:=by simp
      refine s _ ?_ ?_
      ·rw[Z,map_eraseIdx,map_eraseIdx];exact O.eraseIdx j
      ·rw[Z,map_eraseIdx,map_eraseIdx];exact R.eraseIdx j
    ·exact h.elim
   ·exact h.elim
  ·exact h.elim
 ·cases c
end
end Go.Am
